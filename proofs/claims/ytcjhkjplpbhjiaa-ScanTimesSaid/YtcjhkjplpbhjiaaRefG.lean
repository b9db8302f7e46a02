/- Contract of the reference's Given. -/
import Derived.Test.YtcjhkjplpbhjiaaRefO
namespace Go.Proofs.Ytcjhkjplpbhjiaa
open Go.RowKit Go.Proofs
set_option maxRecDepth 100000

theorem okM_iff (m : Mrk) : okM m = true ↔ (1 ≤ m.sc ∧ m.sc ≤ 999999) ∧ (0 ≤ m.at_ ∧ m.at_ ≤ 1051898399) ∧ (-1051898399 ≤ m.off ∧ m.off ≤ 1051898399) := by
  simp [okM, inB, and_assoc]

set_option maxHeartbeats 2000000 in
theorem givenR_any (A : Option Addr) (c : Nat) (ms : List Mrk) (w : World) (hr : Rd encMrk 3 w A ms) (hlen : ms.length ≤ 1000000) :
    Calls Try.prog 14 #[.slice A ms.length c] w fun e w' => e = .returned (.bool (okMs ms)) ∧ Below w.heap.size w w' := by
  have HR := Lib.hid hr
  have HT0 : ∀ b, okMs ms = b → Hid (b = okMs ms) := fun b h => Lib.hid h.symm
  obtain ⟨R, hR⟩ : ∃ R, okMs ms = R := ⟨_, rfl⟩
  have HT := HT0 R hR
  rw [hR]
  clear hr hR HT0
  go_enter Try.func14, Try.ntmps14
  go_wp2_with fail
  go_loopg [3] ms.length (fun gg s3 wr => ∃ j : Nat, j ≤ ms.length ∧ ms.length - j ≤ gg ∧ s3 = .int .i64 j ∧ Aside (Below w.heap.size w wr) ∧ Aside (∀ (k : Nat) (m : Mrk), k < j → ms[k]? = some m → okM m = true) ∧ Aside (∀ (k : Nat) (a b : Mrk), k + 1 < j → ms[k]? = some a → ms[k + 1]? = some b → ltPl a b = true))
  case atStart => exact ⟨0, Nat.zero_le _, by omega, rfl, Below.refl _ _, fun k m h => by omega, fun k a b h => by omega⟩
  case round =>
    obtain ⟨j, hj, hg, rfl, BW, HO, HI⟩ := hrel
    by_cases hlt : j < ms.length
    · have hx : ms[j]? = some ms[j] := List.getElem?_eq_getElem hlt
      obtain ⟨b, o, rfl, hb, hl⟩ := (HR.out.below (Nat.le_refl _) BW.out).at hx
      have HX := Lib.hid hx
      generalize ms[j] = x at hl hx HX
      have hl0 := hl 0 _ rfl; have hl1 := hl 1 _ rfl; have hl2 := hl 2 _ rfl; rw [Nat.add_zero] at hl0; clear hl
      clear hx
      cases hB : okM x with
      | false =>
        have hN := mt (okM_iff x).2 (by rw [hB]; decide)
        have HN := Lib.hid hN
        have hR : R = false := by
          rw [HT.out]
          refine Bool.eq_false_iff.2 (fun hh => ?_)
          rw [((okMs_iff ms).1 hh).1 j x HX.out] at hB; cases hB
        have BQ := Lib.hid (BW.out.alloc BW.out.size (.cells #[.int .i64 x.sc, .int .i64 x.at_, .int .i64 x.off] 66))
        clear hN hB HT
        go_wp2_with fail
        all_goals
          first
            | (exfalso; have := HN.out; omega)
            | (go_ret; exact ⟨by first | rfl | (rw [hR]; rfl), BQ.out⟩)
      | true =>
        obtain ⟨⟨m1, m2⟩, ⟨m3, m4⟩, m5, m6⟩ := (okM_iff x).1 hB
        have HB := Lib.hid hB
        clear hB
        go_wp2_with fail
        obtain ⟨W, hW⟩ : ∃ W : World, W = wr.alloc (.cells #[.int .i64 x.sc, .int .i64 x.at_, .int .i64 x.off] 66) := ⟨_, rfl⟩
        have hbx : Below wr.heap.size wr W := by rw [hW]; exact (Below.refl _ _).alloc (Nat.le_refl _) _
        have exb := exblk (W := W) (n := wr.heap.size) (arr := #[.int .i64 x.sc, .int .i64 x.at_, .int .i64 x.off]) (T := 66) (fr := (0, 0)) (by rw [hW]; exact blk_new rfl)
        rw [← hW]
        have HW := Lib.hid hW
        clear hW hl0 hl1 hl2
        by_cases hj0 : 0 < j
        · have hp : ms[j - 1]? = some ms[j - 1] := List.getElem?_eq_getElem (by omega)
          obtain ⟨b', o', hA', hb', hk⟩ := (HR.out.below (Nat.le_refl _) BW.out).at hp
          simp at hA'
          obtain ⟨rfl, rfl⟩ := hA'
          have HP := Lib.hid hp
          generalize ms[j - 1] = y at hk hp HP
          have hk0 := hk 0 _ rfl; have hk1 := hk 1 _ rfl; have hk2 := hk 2 _ rfl; rw [Nat.add_zero] at hk0; clear hk
          clear hp
          replace hk0 := (hbx.cell (p := ⟨b, _, none⟩) hb).trans hk0
          replace hk1 := (hbx.cell (p := ⟨b, _, none⟩) hb).trans hk1
          replace hk2 := (hbx.cell (p := ⟨b, _, none⟩) hb).trans hk2
          have hbW : b < W.heap.size := Nat.lt_of_lt_of_le hb hbx.size
          replace hk0 := fun p : Ex W => p.cell hbW hk0; replace hk1 := fun p : Ex W => p.cell hbW hk1; replace hk2 := fun p : Ex W => p.cell hbW hk2
          have s1 : 0 < (j : Int) := by omega
          have s2 : ((j : Int) - 1).toNat = j - 1 := by omega
          have s3 : 0 ≤ (j : Int) - 1 := by omega
          have s4 : (j : Int) - 1 < ms.length := by omega
          have s5 : IntKind.i64.wrap ((j : Int) - 1) = (j : Int) - 1 := IntWalk.i64_in _ (by omega)
          rcases Int.lt_trichotomy y.sc x.sc with hc | hc | hc
          · have HC := Lib.hid hc
            have hc2 : ¬ y.sc = x.sc := by omega
            have hc4 : (y.sc == x.sc) = false := by simp; omega
            have hc5 : decide (y.sc = x.sc) = false := by simp; omega
            have hc3 : ¬ x.sc < y.sc := by omega
            (refine wp_region_quiet_ex (by kernel_rfl) (by kernel_rfl) ?_; (repeat (go_big_quiet_step ((fail)))); refine wpQuiet_nil ?_; intro wq hw'; obtain ⟨⟨_, hq⟩, hw''⟩ := hw'; subst hw'')
            have BQ := Lib.hid (BW.out.trans ((hbx.trans (hq.mono hbx.size)).mono BW.out.size))
            clear exb hk0 hk1 hk2 s2 s3 s4 s5
            go_wp2_with fail
            go_roundg (ms.length - (j + 1))
            case measure => omega
            case rel =>
              refine ⟨j + 1, by omega, by omega, by go_num, BQ.out, fun k m h1 h2 => ?_, fun k a b h1 h2 h3 => ?_⟩
              · by_cases e : k = j
                · subst e; rw [HX.out] at h2; cases h2; exact HB.out
                · exact HO.out k m (by omega) h2
              · by_cases e : k + 1 < j
                · exact HI.out k a b e h2 h3
                · have e2 : k + 1 = j := by omega
                  have e3 : k = j - 1 := by omega
                  subst e3
                  rw [e2, HX.out] at h3; rw [HP.out] at h2; cases h2; cases h3; exact (ltPl_iff _ _).2 (by have := HC.out; omega)
          · by_cases hd : y.at_ < x.at_
            · have HC := Lib.hid (And.intro hc hd)
              have hc2 : ¬ x.sc < y.sc := by omega
              have hc3 : ¬ x.at_ ≤ y.at_ := by omega
              (refine wp_region_quiet_ex (by kernel_rfl) (by kernel_rfl) ?_; (repeat (go_big_quiet_step ((fail)))); refine wpQuiet_nil ?_; intro wq hw'; obtain ⟨⟨_, hq⟩, hw''⟩ := hw'; subst hw'')
              have BQ := Lib.hid (BW.out.trans ((hbx.trans (hq.mono hbx.size)).mono BW.out.size))
              clear exb hk0 hk1 hk2 s2 s3 s4 s5
              go_wp2_with fail
              go_roundg (ms.length - (j + 1))
              case measure => omega
              case rel =>
                refine ⟨j + 1, by omega, by omega, by go_num, BQ.out, fun k m h1 h2 => ?_, fun k a b h1 h2 h3 => ?_⟩
                · by_cases e : k = j
                  · subst e; rw [HX.out] at h2; cases h2; exact HB.out
                  · exact HO.out k m (by omega) h2
                · by_cases e : k + 1 < j
                  · exact HI.out k a b e h2 h3
                  · have e2 : k + 1 = j := by omega
                    have e3 : k = j - 1 := by omega
                    subst e3
                    rw [e2, HX.out] at h3; rw [HP.out] at h2; cases h2; cases h3; exact (ltPl_iff _ _).2 (by have := HC.out; omega)
            · have HC := Lib.hid (And.intro hc hd)
              have hc2 : ¬ x.sc < y.sc := by omega
              have hc3 : x.at_ ≤ y.at_ := by omega
              (refine wp_region_quiet_ex (by kernel_rfl) (by kernel_rfl) ?_; (repeat (go_big_quiet_step ((fail)))); refine wpQuiet_nil ?_; intro wq hw'; obtain ⟨⟨_, hq⟩, hw''⟩ := hw'; subst hw'')
              have BQ := Lib.hid (BW.out.trans ((hbx.trans (hq.mono hbx.size)).mono BW.out.size))
              clear exb hk0 hk1 hk2 s2 s3 s4 s5
              go_wp2_with fail
              go_ret
              have hR : R = false := by
                rw [HT.out]
                refine Bool.eq_false_iff.2 (fun hh => ?_)
                have h9 := (ltPl_iff _ _).1 (((okMs_iff ms).1 hh).2 (j - 1) y x HP.out (by rw [show j - 1 + 1 = j by omega]; exact HX.out))
                have := HC.out
                omega
              exact ⟨by first | rfl | (rw [hR]; rfl), BQ.out⟩
          · have HC := Lib.hid hc
            (refine wp_region_quiet_ex (by kernel_rfl) (by kernel_rfl) ?_; (repeat (go_big_quiet_step ((fail)))); refine wpQuiet_nil ?_; intro wq hw'; obtain ⟨⟨_, hq⟩, hw''⟩ := hw'; subst hw'')
            have BQ := Lib.hid (BW.out.trans ((hbx.trans (hq.mono hbx.size)).mono BW.out.size))
            clear exb hk0 hk1 hk2 s2 s3 s4 s5
            go_wp2_with fail
            go_ret
            have hR : R = false := by
              rw [HT.out]
              refine Bool.eq_false_iff.2 (fun hh => ?_)
              have h9 := (ltPl_iff _ _).1 (((okMs_iff ms).1 hh).2 (j - 1) y x HP.out (by rw [show j - 1 + 1 = j by omega]; exact HX.out))
              have := HC.out
              omega
            exact ⟨by first | rfl | (rw [hR]; rfl), BQ.out⟩
        · have s1 : ¬ 0 < (j : Int) := by omega
          (refine wp_region_quiet_ex (by kernel_rfl) (by kernel_rfl) ?_; (repeat (go_big_quiet_step ((fail)))); refine wpQuiet_nil ?_; intro wq hw'; obtain ⟨⟨_, hq⟩, hw''⟩ := hw'; subst hw'')
          have BQ := Lib.hid (BW.out.trans ((hbx.trans (hq.mono hbx.size)).mono BW.out.size))
          clear exb
          go_wp2_with fail
          go_roundg (ms.length - (j + 1))
          case measure => omega
          case rel =>
            refine ⟨j + 1, by omega, by omega, by go_num, BQ.out, fun k m h1 h2 => ?_, fun k a b h1 h2 h3 => ?_⟩
            · by_cases e : k = j
              · subst e; rw [HX.out] at h2; cases h2; exact HB.out
              · exact HO.out k m (by omega) h2
            · by_cases e : k + 1 < j
              · exact HI.out k a b e h2 h3
              · omega
    · have hjl : j = ms.length := by omega
      subst hjl
      have hok : R = true := by rw [HT.out]; exact (okMs_iff ms).2 ⟨fun k m hk => HO.out k m (List.getElem?_eq_some_iff.1 hk).1 hk, fun k a b ha hb => HI.out k a b (List.getElem?_eq_some_iff.1 hb).1 ha hb⟩
      subst hok
      have BQ := Lib.hid BW.out
      clear HO HI BW
      go_wp2_with fail
      go_ret
      exact ⟨rfl, BQ.out⟩
end Go.Proofs.Ytcjhkjplpbhjiaa
