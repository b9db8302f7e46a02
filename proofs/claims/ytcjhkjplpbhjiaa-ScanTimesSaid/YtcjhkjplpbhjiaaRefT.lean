/- Contract of the reference's Offset. -/
import Derived.Test.YtcjhkjplpbhjiaaRefG
namespace Go.Proofs.Ytcjhkjplpbhjiaa
open Go.RowKit Go.Proofs
set_option maxRecDepth 100000

def aheadL (ms : List Mrk) (sc at_ : Int) : List Mrk := ms.filter fun m => decide (m.sc = sc) && decide (m.at_ ≤ at_)
def behindL (ms : List Mrk) (sc at_ : Int) : List Mrk := ms.filter fun m => decide (m.sc = sc) && !decide (m.at_ ≤ at_)
def refPick (a b : Option Mrk) (at_ : Int) : Int := match a, b with
  | none, none => 0
  | none, some b => b.off
  | some a, none => a.off
  | some a, some b => a.off + (b.off - a.off) * (at_ - a.at_) / (b.at_ - a.at_)
def refOff (ms : List Mrk) (sc at_ : Int) : Int := refPick (aheadL ms sc at_).getLast? (behindL ms sc at_).head? at_

/-- What is interpolated lies between the two. -/
theorem offGo_bd2 (d e f : Int) (he : 0 ≤ e) (hf : 0 < f) (hef : e ≤ f) (h1 : -2200000000 ≤ d) (h2 : d ≤ 2200000000) : -2200000000 ≤ d * e / f ∧ d * e / f ≤ 2200000000 := by
  have a := Int.mul_le_mul_of_nonneg_right h1 he
  have b := Int.mul_le_mul_of_nonneg_right h2 he
  exact ⟨Int.le_ediv_of_mul_le hf (by omega), Int.ediv_le_of_le_mul hf (by omega)⟩

set_option maxHeartbeats 4000000 in
theorem offsetR_any (A : Option Addr) (c : Nat) (ms : List Mrk) (sc at_ : Int) (w : World) (hr : Rd encMrk 3 w A ms) (hlen : ms.length ≤ 1000000) (hok : ∀ m ∈ ms, okM m = true) (ha : 0 ≤ at_ ∧ at_ ≤ 1051898399) :
    Calls Try.prog 38 #[.slice A ms.length c, .int .i64 sc, .int .i64 at_] w fun e w' => e = .returned (.int .i64 (refOff ms sc at_)) ∧ Below w.heap.size w w' := by
  obtain ⟨i0, hi, hz0, hz1, hz2⟩ := info_parts2 infRef
  have HR := Lib.hid hr
  have OK := Lib.hid hok
  clear hr hok
  go_enter Try.func38, Try.ntmps38
  go_wp2_with fail
  go_loopg [7, 8, 9] ms.length (fun gg s7 s8 s9 wr => ∃ j : Nat, j ≤ ms.length ∧ ms.length - j ≤ gg ∧ s9 = .int .i64 j ∧ Aside (Below w.heap.size w wr) ∧ Aside (Own2 encMrk encMrk 3 3 w.heap.size 66 66 wr s7 s8 (aheadL (ms.take j) sc at_) (behindL (ms.take j) sc at_)))
  case atStart => exact ⟨0, Nat.zero_le _, by omega, rfl, Below.refl _ _, Own2.nil⟩
  case round =>
    obtain ⟨j, hj, hg, rfl, BW, OW⟩ := hrel
    by_cases hlt : j < ms.length
    · have hx : ms[j]? = some ms[j] := List.getElem?_eq_getElem hlt
      obtain ⟨b, o, rfl, hb, hl⟩ := (HR.out.below (Nat.le_refl _) BW.out).at hx
      have hA : Hid (aheadL (ms.take (j + 1)) sc at_ = aheadL (ms.take j) sc at_ ++ (if ms[j].sc = sc ∧ ms[j].at_ ≤ at_ then [ms[j]] else [])) := Lib.hid (by
        unfold aheadL; rw [List.take_add_one, hx, List.filter_append]; simp [List.filter_cons])
      have hB : Hid (behindL (ms.take (j + 1)) sc at_ = behindL (ms.take j) sc at_ ++ (if ms[j].sc = sc ∧ ¬ ms[j].at_ ≤ at_ then [ms[j]] else [])) := Lib.hid (by
        unfold behindL; rw [List.take_add_one, hx, List.filter_append]; simp [List.filter_cons])
      have hAl : (aheadL (ms.take j) sc at_).length ≤ j := Nat.le_trans (List.length_filter_le _ _) (by rw [List.length_take]; omega)
      have hBl : (behindL (ms.take j) sc at_).length ≤ j := Nat.le_trans (List.length_filter_le _ _) (by rw [List.length_take]; omega)
      generalize ms[j] = x at hl hA hB
      generalize aheadL (ms.take j) sc at_ = P at *
      generalize behindL (ms.take j) sc at_ = Q at *
      have hl0 := hl 0 _ rfl; have hl1 := hl 1 _ rfl; have hl2 := hl 2 _ rfl; rw [Nat.add_zero] at hl0; clear hl
      clear hx
      have hws := BW.out.size
      by_cases hsc : x.sc = sc
      · obtain ⟨x1, x2, x3⟩ := x
        dsimp only at hsc hl0 hl1 hl2
        subst hsc
        by_cases hat : x2 ≤ at_
        · have HA : Hid (aheadL (ms.take (j + 1)) x1 at_ = P ++ [(⟨x1, x2, x3⟩ : Mrk)]) := Lib.hid (by rw [hA.out, if_pos ⟨rfl, hat⟩])
          have HB : Hid (behindL (ms.take (j + 1)) x1 at_ = Q) := Lib.hid (by rw [hB.out, if_neg (fun h => h.2 hat)]; simp)
          go_wp2_with (at_builtin; refine wpList_append_own_at _ rfl _ _ 33 rfl w.heap.size 66 i0 _ 3 24 Try.underlying33 hi hz0 hz1 hz2 rfl (by decide) _ P.length (P.flatMap encMrk) rfl (own_below OW.out.oA ((Below.refl _ _).alloc (Nat.le_refl _) _)) ⟨wr.heap.size, 0, none⟩ 1 1 (encMrk ⟨x1, x2, x3⟩) rfl rfl (cells_new wr (encMrk ⟨x1, x2, x3⟩) 66) (mrk_one ⟨x1, x2, x3⟩) (by unfold maxLen; omega) (by omega) (by simp; omega) ?_; intro v' w4 hown' hgrow _ hblk)
          have O3a := OW.out.below ((Below.refl _ _).alloc (Nat.le_refl _) (.cells #[.int .i64 x1, .int .i64 x2, .int .i64 x3] 66))
          have O4 := Lib.hid (O3a.growA (A' := P ++ [(⟨x1, x2, x3⟩ : Mrk)]) (by rw [List.flatMap_append, List.length_append]; simpa using hown') hgrow hblk)
          have B4 := Lib.hid ((BW.out.alloc hws (.cells #[.int .i64 x1, .int .i64 x2, .int .i64 x3] 66)).grown hgrow (by simp; omega) (fun k e => own_ge OW.out.oA e))
          clear hown' hgrow hblk O3a
          go_wp2_with fail
          go_roundg (ms.length - (j + 1))
          case measure => omega
          case rel => exact ⟨j + 1, by omega, by omega, by go_num, B4.out, by rw [Aside, HA.out, HB.out]; exact O4.out⟩
        · have HA : Hid (aheadL (ms.take (j + 1)) x1 at_ = P) := Lib.hid (by rw [hA.out, if_neg (fun h => hat h.2)]; simp)
          have HB : Hid (behindL (ms.take (j + 1)) x1 at_ = Q ++ [(⟨x1, x2, x3⟩ : Mrk)]) := Lib.hid (by rw [hB.out, if_pos ⟨rfl, hat⟩])
          go_wp2_with (at_builtin; refine wpList_append_own_at _ rfl _ _ 33 rfl w.heap.size 66 i0 _ 3 24 Try.underlying33 hi hz0 hz1 hz2 rfl (by decide) _ Q.length (Q.flatMap encMrk) rfl (own_below OW.out.oB ((Below.refl _ _).alloc (Nat.le_refl _) _)) ⟨wr.heap.size, 0, none⟩ 1 1 (encMrk ⟨x1, x2, x3⟩) rfl rfl (cells_new wr (encMrk ⟨x1, x2, x3⟩) 66) (mrk_one ⟨x1, x2, x3⟩) (by unfold maxLen; omega) (by omega) (by simp; omega) ?_; intro v' w4 hown' hgrow _ hblk)
          have O3a := OW.out.below ((Below.refl _ _).alloc (Nat.le_refl _) (.cells #[.int .i64 x1, .int .i64 x2, .int .i64 x3] 66))
          have O4 := Lib.hid (O3a.growB (B' := Q ++ [(⟨x1, x2, x3⟩ : Mrk)]) (by rw [List.flatMap_append, List.length_append]; simpa using hown') hgrow hblk)
          have B4 := Lib.hid ((BW.out.alloc hws (.cells #[.int .i64 x1, .int .i64 x2, .int .i64 x3] 66)).grown hgrow (by simp; omega) (fun k e => own_ge OW.out.oB e))
          clear hown' hgrow hblk O3a
          go_wp2_with fail
          go_roundg (ms.length - (j + 1))
          case measure => omega
          case rel => exact ⟨j + 1, by omega, by omega, by go_num, B4.out, by rw [Aside, HA.out, HB.out]; exact O4.out⟩
      · have HA : Hid (aheadL (ms.take (j + 1)) sc at_ = P) := Lib.hid (by rw [hA.out, if_neg (fun h => hsc h.1)]; simp)
        have HB : Hid (behindL (ms.take (j + 1)) sc at_ = Q) := Lib.hid (by rw [hB.out, if_neg (fun h => hsc h.1)]; simp)
        have B4 := Lib.hid BW.out
        have O4 := Lib.hid OW.out
        clear BW OW
        go_wp2_with fail
        go_roundg (ms.length - (j + 1))
        case measure => omega
        case rel => exact ⟨j + 1, by omega, by omega, by go_num, B4.out, by rw [Aside, HA.out, HB.out]; exact O4.out⟩
    · have hjl : j = ms.length := by omega
      subst hjl
      rw [List.take_length] at OW
      have OA := Lib.hid (fun m (hm : m ∈ aheadL ms sc at_) => (okM_iff m).1 (OK.out m (List.mem_filter.1 hm).1))
      have OB := Lib.hid (fun m (hm : m ∈ behindL ms sc at_) => (okM_iff m).1 (OK.out m (List.mem_filter.1 hm).1))
      have TA := Lib.hid (fun m (hm : m ∈ aheadL ms sc at_) => (show m.at_ ≤ at_ by have := (List.mem_filter.1 hm).2; simp at this; exact this.2))
      have TB := Lib.hid (fun m (hm : m ∈ behindL ms sc at_) => (show at_ < m.at_ by have := (List.mem_filter.1 hm).2; simp at this; exact this.2))
      have HPL : Hid (aheadL ms sc at_ = ms.filter fun m => decide (m.sc = sc) && decide (m.at_ ≤ at_)) := Lib.hid rfl
      have RF : Hid (refOff ms sc at_ = refPick (aheadL ms sc at_).getLast? (behindL ms sc at_).head? at_) := Lib.hid rfl
      generalize aheadL ms sc at_ = P at *
      generalize behindL ms sc at_ = Q at *
      obtain ⟨A1, c1, e1, r1⟩ := own_rd (k := 3) (fun _ => rfl) OW.out.oA
      obtain ⟨A2, c2, e2, r2⟩ := own_rd (k := 3) (fun _ => rfl) OW.out.oB
      subst e1 e2
      have BQ := Lib.hid BW.out
      clear OW BW
      by_cases hP : P = []
      · by_cases hQ : Q = []
        · subst hP hQ
          go_wp2_with fail
          go_ret
          exact ⟨by rw [RF.out]; rfl, BQ.out⟩
        · have hQ1 : Q.length ≠ 0 := fun h => hQ (List.length_eq_zero_iff.1 h)
          have hQ2 : ¬ (Q.length : Int) = 0 := by omega
          subst hP
          have hq0 : Q[0]? = some Q[0] := List.getElem?_eq_getElem (by omega)
          obtain ⟨b2, o2, e2, hb2, hm⟩ := r2.at hq0
          subst e2
          have GQ : Hid (Q.head? = some Q[0]) := Lib.hid (by rw [List.head?_eq_getElem?]; exact hq0)
          have MQ := Lib.hid (List.mem_of_getElem? hq0)
          generalize Q[0] = q at hm GQ MQ hq0
          have hm0 := hm 0 _ rfl; have hm1 := hm 1 _ rfl; have hm2 := hm 2 _ rfl; rw [Nat.add_zero] at hm0; clear hm
          simp only [Nat.zero_mul, Nat.add_zero] at hm0 hm1 hm2
          clear hq0
          have E := Lib.hid (show refPick ([] : List Mrk).getLast? Q.head? at_ = q.off by rw [GQ.out]; rfl)
          clear r1 r2 hQ
          go_wp2_with fail
          go_ret
          exact ⟨by rw [RF.out, E.out]; rfl, BQ.out⟩
      · have hP1 : P.length ≠ 0 := fun h => hP (List.length_eq_zero_iff.1 h)
        have hP2 : ¬ (P.length : Int) = 0 := by omega
        have hPl : P.length ≤ ms.length := by rw [HPL.out]; exact List.length_filter_le _ _
        have hp0 : P[P.length - 1]? = some (P[P.length - 1]'(by omega)) := List.getElem?_eq_getElem (by omega)
        obtain ⟨b1, o1, e1, hb1, hl⟩ := r1.at hp0
        subst e1
        have GP : Hid (P.getLast? = some (P[P.length - 1]'(by omega))) := Lib.hid (by rw [List.getLast?_eq_getElem?]; exact hp0)
        have MP := Lib.hid (List.mem_of_getElem? hp0)
        generalize P[P.length - 1]'(by omega) = p at hl GP MP hp0
        have hl0 := hl 0 _ rfl; have hl1 := hl 1 _ rfl; have hl2 := hl 2 _ rfl; rw [Nat.add_zero] at hl0; clear hl
        clear hp0
        have s2 : ((P.length : Int) - 1).toNat = P.length - 1 := by omega
        have s3 : 0 ≤ (P.length : Int) - 1 := by omega
        have s4 : (P.length : Int) - 1 < P.length := by omega
        have s5 : IntKind.i64.wrap ((P.length : Int) - 1) = (P.length : Int) - 1 := IntWalk.i64_in _ (by omega)
        have BX := Lib.hid (BQ.out.alloc BQ.out.size (.cells #[.int .i64 p.sc, .int .i64 p.at_, .int .i64 p.off] 66))
        by_cases hQ : Q = []
        · subst hQ
          have E := Lib.hid (show refPick P.getLast? ([] : List Mrk).head? at_ = p.off by rw [GP.out]; rfl)
          clear r1 r2 hP
          go_wp2_with fail
          go_ret
          exact ⟨by rw [RF.out, E.out]; rfl, BX.out⟩
        · have hQ1 : Q.length ≠ 0 := fun h => hQ (List.length_eq_zero_iff.1 h)
          have hQ2 : ¬ (Q.length : Int) = 0 := by omega
          have hq0 : Q[0]? = some Q[0] := List.getElem?_eq_getElem (by omega)
          obtain ⟨b2, o2, e2, hb2, hm⟩ := r2.at hq0
          subst e2
          have GQ : Hid (Q.head? = some Q[0]) := Lib.hid (by rw [List.head?_eq_getElem?]; exact hq0)
          have MQ := Lib.hid (List.mem_of_getElem? hq0)
          generalize Q[0] = q at hm GQ MQ hq0
          have hm0 := hm 0 _ rfl; have hm1 := hm 1 _ rfl; have hm2 := hm 2 _ rfl; rw [Nat.add_zero] at hm0; clear hm
          simp only [Nat.zero_mul, Nat.add_zero] at hm0 hm1 hm2
          clear hq0
          have E := Lib.hid (show refPick P.getLast? Q.head? at_ = p.off + (q.off - p.off) * (at_ - p.at_) / (q.at_ - p.at_) by rw [GP.out, GQ.out]; rfl)
          obtain ⟨-, ⟨a1, a2⟩, a3, a4⟩ := OA.out p MP.out
          obtain ⟨-, ⟨d1, d2⟩, d3, d4⟩ := OB.out q MQ.out
          have g1 := TA.out p MP.out
          have g2 := TB.out q MQ.out
          obtain ⟨p1, p2⟩ := prod_bd (q.off - p.off) (at_ - p.at_) (by omega) (by omega) (by omega) (by omega)
          obtain ⟨k1, k2⟩ := offGo_bd2 (q.off - p.off) (at_ - p.at_) (q.at_ - p.at_) (by omega) (by omega) (by omega) (by omega) (by omega)
          have hfl := Lib.hid (fun W => floor_any ((q.off - p.off) * (at_ - p.at_)) (q.at_ - p.at_) W (by omega) (by omega) (by omega) (by omega))
          have w1 : IntKind.i64.wrap (q.off - p.off) = q.off - p.off := IntWalk.i64_in _ (by omega)
          have w2 : IntKind.i64.wrap (at_ - p.at_) = at_ - p.at_ := IntWalk.i64_in _ (by omega)
          have w3 : IntKind.i64.wrap ((q.off - p.off) * (at_ - p.at_)) = (q.off - p.off) * (at_ - p.at_) := IntWalk.i64_in _ (by omega)
          have w4 : IntKind.i64.wrap (q.at_ - p.at_) = q.at_ - p.at_ := IntWalk.i64_in _ (by omega)
          have w5 : IntKind.i64.wrap (p.off + (q.off - p.off) * (at_ - p.at_) / (q.at_ - p.at_)) = p.off + (q.off - p.off) * (at_ - p.at_) / (q.at_ - p.at_) := IntWalk.i64_in _ (by omega)
          clear r1 r2 hP hQ
          go_wp2_with fail
          obtain ⟨W, hW⟩ : ∃ W : World, W = (wr.alloc (.cells #[.int .i64 p.sc, .int .i64 p.at_, .int .i64 p.off] 66)).alloc (.cells #[.int .i64 q.sc, .int .i64 q.at_, .int .i64 q.off] 66) := ⟨_, rfl⟩
          have k1 : Blk W wr.heap.size #[.int .i64 p.sc, .int .i64 p.at_, .int .i64 p.off] 66 := by rw [hW]; exact (Blk.new rfl).alloc _
          have k2 : Blk W (wr.heap.size + 1) #[.int .i64 q.sc, .int .i64 q.at_, .int .i64 q.off] 66 := by rw [hW]; exact Blk.new (by simp)
          have BW := Lib.hid (show Below w.heap.size w W by rw [hW]; exact BX.out.alloc BX.out.size _)
          rw [← hW]
          clear hW hl0 hl1 hl2 hm0 hm1 hm2 BX
          have x1 := exblk k1
          have x2 := exblk k2
          (refine wp_region_quiet_ex (by kernel_rfl) (by kernel_rfl) ?_; (repeat (go_big_quiet_step ((go_at_call 52; refine Calls.ex_same (hfl.out _))))); refine wpQuiet_nil ?_; intro wq hw'; obtain ⟨⟨_, hq⟩, hw''⟩ := hw'; subst hw'')
          have B9 := Lib.hid (BW.out.trans (hq.mono BW.out.size))
          clear x1 x2 k1 k2
          go_wp2_with fail
          go_ret
          exact ⟨by rw [RF.out, E.out]; rfl, B9.out⟩
end Go.Proofs.Ytcjhkjplpbhjiaa
