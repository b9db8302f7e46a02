/- Contract of scan.marks. -/
import Derived.Test.YtcjhkjplpbhjiaaSrt
namespace Go.Proofs.Ytcjhkjplpbhjiaa
open Go.RowKit Go.Proofs Go.Sort
set_option maxRecDepth 100000

theorem daysP_step {l : List Scn} {j : Nat} {x : Scn} (h : l[j]? = some x) : foldB (daysP (l.take (j + 1))) = bestL (foldB (daysP (l.take j))) (dayKey x) (markOf x) := by
  rw [List.take_add_one, h]
  unfold daysP
  rw [List.map_append]
  exact foldB_snoc _ _
theorem best_len (d : List (Key2 × Mrk)) (k : Key2) (m : Mrk) : (bestL d k m).length ≤ d.length + 1 := by
  have hput : ∀ (d : List (Key2 × Mrk)), (putL d k m).length ≤ d.length + 1 := by
    intro d
    induction d with
    | nil => simp [putL]
    | cons p r ih => unfold putL; split <;> simp <;> omega
  unfold bestL
  split
  · split
    · exact hput d
    · omega
  · exact hput d
theorem foldB_len (ps : List (Key2 × Mrk)) : (foldB ps).length ≤ ps.length := by
  have : ∀ (ps d : List (Key2 × Mrk)), (ps.foldl (fun d p => bestL d p.1 p.2) d).length ≤ d.length + ps.length := by
    intro ps
    induction ps with
    | nil => intro d; simp
    | cons p r ih => intro d; rw [List.foldl_cons]; have := ih (bestL d p.1 p.2); have := best_len d p.1 p.2; simp; omega
  have := this ps []
  simpa [foldB] using this

set_option maxHeartbeats 2000000 in
theorem marks_any (A : Option Addr) (c : Nat) (l : List Scn) (w : World) (hr : Rd encScn 6 w A l) (hok : okL l = true) :
    Calls Try.prog 40 #[.slice A l.length c] w fun e w' => ∃ A' c', e = .returned (.slice A' (marksF l).length c') ∧ Rd encMrk 3 w' A' (marksF l) ∧ Below w.heap.size w w' := by
  have hn : l.length ≤ 2000 ∧ ∀ x ∈ l, okS x = true := by
    unfold okL at hok; simp only [Bool.and_eq_true, decide_eq_true_eq, List.all_eq_true] at hok; exact ⟨by omega, hok.2⟩
  obtain ⟨hn, hall⟩ := hn
  have OK := Lib.hid hall
  have R := Lib.hid hr
  clear hok hall hr
  have hmm := @run_makeMap Try.prog
  go_enter Try.func40, Try.ntmps40
  go_wp2_with fail
  go_loopg [12] l.length (fun gg s12 wr => ∃ j : Nat, j ≤ l.length ∧ l.length - j ≤ gg ∧ s12 = .int .i64 j ∧ Aside (Below w.heap.size w wr) ∧ Aside (MapR ekey2 emrk wr w.heap.size (foldB (daysP (l.take j)))))
  case atStart => exact ⟨0, Nat.zero_le _, by omega, rfl, (Below.refl _ _).alloc (Nat.le_refl _) _, MapR.made _ _ rfl⟩
  case round =>
    obtain ⟨j, hj, hg, rfl, BW, MW⟩ := hrel
    by_cases hlt : j < l.length
    · have hx : l[j]? = some l[j] := List.getElem?_eq_getElem hlt
      obtain ⟨b, o, rfl, hb, hl⟩ := (R.out.below (Nat.le_refl _) BW.out).at hx
      have hokx := (okS_iff _).1 (OK.out l[j] (List.getElem_mem hlt))
      have HF := Lib.hid (daysP_step hx)
      generalize l[j] = x at hl hokx HF
      have hl0 := hl 0 _ rfl; have hl1 := hl 1 _ rfl; have hl2 := hl 2 _ rfl; have hl3 := hl 3 _ rfl; have hl4 := hl 4 _ rfl; have hl5 := hl 5 _ rfl; rw [Nat.add_zero] at hl0; clear hl
      obtain ⟨-, -, -, -, ⟨q1, q2⟩, ⟨q3, q4⟩⟩ := hokx
      clear hx
      have q5 : 0 ≤ x.seen / 1440 := by omega
      have hws := BW.out.size
      go_wp2_with fail
      refine (best_any w.heap.size _ (dayKey x) (markOf x) _ (MW.out.alloc _)).mono ?_
      rintro e w2 ⟨rfl, hm2, hg2⟩
      have B2 := Lib.hid ((BW.out.alloc hws (.cells #[.int .i64 x.item, .int .i64 x.place, .int .i64 x.scanner, .int .u8 x.kind, .int .i64 x.at_, .int .i64 x.seen] 24)).grown hg2 (by simp; omega) (fun k e => by cases e; exact Nat.le_refl _))
      have M2 := Lib.hid hm2
      clear hm2 hg2 hl0 hl1 hl2 hl3 hl4 hl5 q5
      go_wp2_with fail
      go_roundg (l.length - (j + 1))
      case measure => omega
      case rel => exact ⟨j + 1, by omega, by omega, by go_num, B2.out, by rw [Aside, HF.out]; exact M2.out⟩
    · have hjl : j = l.length := by omega
      subst hjl
      rw [List.take_length] at MW
      rename World => wA
      have hws := BW.out.size
      have D := Lib.hid MW.out
      have BD := Lib.hid BW.out
      have M1 := Lib.hid (MW.out.alloc (.map #[] 0))
      clear MW BW R OK
      go_wp2_with (refine wpList_rangeR _ rfl _ _ rfl Try.underlying100 rfl M1.out ?_; intro w0 hrg0 hg0 hs0)
      go_frame
      rw [World.size_alloc] at hrg0 ⊢
      have HS0 := Lib.hid hs0
      have B0 := Lib.hid ((BD.out.alloc hws (.map #[] 0)).grown hg0 (by simp; omega) (fun k e => by cases e))
      have MA := Lib.hid ((MapR.made ekey2 emrk (w := wA) (B := wA.heap.size) rfl).of_block (hg0.block wA.heap.size (by simp) (by simp)))
      clear hs0 hg0
      go_loopg [] (foldB (daysP l)).length (fun gg wq => ∃ (left : List (Key2 × Mrk)) (dn : List Mrk), left.length ≤ gg ∧ Aside (RangeR ekey2 emrk wq w.heap.size (wA.heap.size + 1) (foldB (daysP l)) left) ∧ Aside ((dn ++ left.map (·.2)).Perm ((foldB (daysP l)).map (·.2))) ∧ Aside (MapR ekey2 emrk wq wA.heap.size (foldB (atP dn))) ∧ Aside (Below w.heap.size w wq))
      case atStart => exact ⟨_, [], Nat.le_refl _, hrg0, by simp [Aside], MA.out, B0.out⟩
      case round =>
        obtain ⟨left, dn, hll, RG, PM, MR, BQ⟩ := hrel
        have hBs := BQ.out.size
        go_wp2_with (at_next; refine wpList_nextR _ rfl _ rfl rfl RG.out ?_ ?_)
        · intro hl0
          subst hl0
          go_wp2_with (go_at_call 57; refine (callsIn_wide.1 (values_in 9 wA.heap.size _)).mono ?_; rintro e w5 ⟨rfl, rfl⟩)
          have hdn : dn.Perm ((foldB (daysP l)).map (·.2)) := by simpa using PM.out
          have hdl : (foldB (atP dn)).length ≤ 2000 := by
            have h1 := foldB_len (atP dn)
            have h2 := foldB_len (daysP l)
            have h3 := hdn.length_eq
            rw [show (atP dn).length = dn.length by simp [atP]] at h1
            rw [show (daysP l).length = l.length by simp [daysP]] at h2
            rw [List.length_map] at h3; omega
          have B5 := Lib.hid (BQ.out.alloc hBs (.cells #[.map (some wA.heap.size)] 100))
          have DN := Lib.hid hdn
          have hsort := sorted_any 9 (by omega) 70 #[.pointer (some ⟨wr.heap.size, 0, none⟩)] (enters_of Try.func70 (by kernel_rfl) rfl)
            (fun xs => xs.Perm ((foldB (atP dn)).map (·.2))) (foldB (atP dn)).length (by omega) (fun xs hx => by have := hx.length_eq; simp at this; omega) (wr.alloc (.cells #[.map (some wA.heap.size)] 100))
            (values_stops (9 - 1 - 1 - 1) (by omega) wr.heap.size wA.heap.size (foldB (atP dn)) _ (by simp) (by simp) (MR.out.alloc _))
          clear hdn hdl RG PM MR BQ hmm
          refine hsort.mono ?_
          rintro e w6 ⟨ys, A', c', rfl, ⟨xs, hx, hp⟩, hs, hr6, hb6⟩
          have hy : ys = marksF l := marksF_eq (isMarks_of DN.out (hp.trans hx) hs)
          subst hy
          have R6 := Lib.hid hr6
          have B6 := Lib.hid (B5.out.trans (hb6.mono B5.out.size))
          clear hx hp hs hr6 hb6 hsort
          go_wp2_with fail
          go_ret
          exact ⟨A', c', rfl, R6.out, B6.out⟩
        · intro r1 k1 k2 m r2 w2 hl hrg2 hg2 hs2 hen
          have hlen : left.length = r1.length + r2.length + 1 := by rw [hl]; simp; omega
          have HL := Lib.hid hl
          have hDl := D.out.lt
          have hM2 : MapR ekey2 emrk w2 wA.heap.size (foldB (atP dn)) := MR.out.of_block (hg2.block wA.heap.size MR.out.lt (by simp))
          have B2 := Lib.hid (BQ.out.grown hg2 hBs (fun k e => by cases e; omega))
          have RG2 := Lib.hid hrg2
          have HS2 := Lib.hid hs2
          have M2 := Lib.hid hM2
          clear hl hrg2 hg2 hs2 hM2
          unfold ekey2 emrk at hen
          dsimp only [ekey2, emrk]
          go_wp2_with fail
          clear hen
          refine (best_any wA.heap.size _ (atKey m) m _ (M2.out.alloc _)).mono ?_
          rintro e w3 ⟨rfl, hm3, hg3⟩
          have RG3 := Lib.hid ((RG2.out.alloc (.cells #[.int .i64 m.sc, .int .i64 m.at_, .int .i64 m.off] 30)).grown hg3 (by simp; omega) (by simp))
          have B3 := Lib.hid ((B2.out.alloc B2.out.size (.cells #[.int .i64 m.sc, .int .i64 m.at_, .int .i64 m.off] 30)).grown hg3 (by have := B2.out.size; simp; omega) (fun k e => by cases e; omega))
          have M3 := Lib.hid hm3
          clear hm3 hg3
          go_wp2_with fail
          go_roundg (r1 ++ r2).length
          case measure => simp; omega
          case rel =>
            refine ⟨r1 ++ r2, dn ++ [m], Nat.le_refl _, RG3.out, ?_, ?_, B3.out⟩
            · have h1 := PM.out
              rw [HL.out] at h1
              refine List.Perm.trans ?_ h1
              simp only [List.map_append, List.map_cons, List.append_assoc, List.singleton_append]
              exact List.perm_middle.symm.append_left dn
            · have e1 : foldB (atP (dn ++ [m])) = bestL (foldB (atP dn)) (atKey m) m := by
                unfold atP; rw [List.map_append]; exact foldB_snoc _ _
              rw [Aside, e1]; exact M3.out
end Go.Proofs.Ytcjhkjplpbhjiaa
