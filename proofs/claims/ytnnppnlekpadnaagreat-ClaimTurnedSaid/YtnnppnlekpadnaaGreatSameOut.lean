/- The contract of the statements' sameOut, of lists that are the same. -/
import Derived.Test.YtnnppnlekpadnaaGreatTurnP
namespace Go.Proofs.YtnnppnlekpadnaaGreat
open Go.RowKit Go.Proofs
set_option maxRecDepth 100000

theorem sameOut_true (A B : Option Addr) (ca cb : Nat) (xs : List Outc) (w : World) (ha : Rd encOutc 3 w A xs) (hb : Rd encOutc 3 w B xs) (hn : xs.length ≤ 1000000) :
    Calls Tryz.prog 30 #[.slice A xs.length ca, .slice B xs.length cb] w fun e w' => e = .returned (.bool true) ∧ Below w.heap.size w w' := by
  have HA := Lib.hid ha
  have HB := Lib.hid hb
  clear ha hb
  go_enter Tryz.func30, Tryz.ntmps30
  go_wp2_with fail
  go_loopg [5] xs.length (fun gg s3 wr => ∃ j : Nat, j ≤ xs.length ∧ xs.length - j ≤ gg ∧ s3 = .int .i64 j ∧ Aside (Below w.heap.size w wr))
  case atStart => exact ⟨0, Nat.zero_le _, by omega, rfl, Below.refl _ _⟩
  case round =>
    obtain ⟨j, hj, hg, rfl, hw⟩ := hrel
    by_cases hlt : j < xs.length
    · have hx : xs[j]? = some xs[j] := List.getElem?_eq_getElem hlt
      obtain ⟨b, o, rfl, hb, hl⟩ := (HA.out.below (Nat.le_refl _) hw.out).at hx
      obtain ⟨b2, o2, rfl, hb2, hm⟩ := (HB.out.below (Nat.le_refl _) hw.out).at hx
      generalize xs[j] = x at hx hl hm
      have hl0 := hl 0 _ rfl; have hl1 := hl 1 _ rfl; have hl2 := hl 2 _ rfl; rw [Nat.add_zero] at hl0; clear hl
      have hm0 := hm 0 _ rfl; have hm1 := hm 1 _ rfl; have hm2 := hm 2 _ rfl; rw [Nat.add_zero] at hm0; clear hm
      clear hx
      replace hl0 := fun p : Ex wr => p.cell hb hl0; replace hl1 := fun p : Ex wr => p.cell hb hl1; replace hl2 := fun p : Ex wr => p.cell hb hl2
      replace hm0 := fun p : Ex wr => p.cell hb2 hm0; replace hm1 := fun p : Ex wr => p.cell hb2 hm1; replace hm2 := fun p : Ex wr => p.cell hb2 hm2
      go_wp2_with fail
      (refine wp_region_quiet_ex (by kernel_rfl) (by kernel_rfl) ?_; (repeat (go_big_quiet_step ((fail)))); refine wpQuiet_nil ?_; intro wq hw'; obtain ⟨⟨_, hq⟩, hw''⟩ := hw'; subst hw'')
      clear hl0 hl1 hl2 hm0 hm1 hm2
      go_wp2_with fail
      go_roundg (xs.length - (j + 1))
      case measure => omega
      case rel => exact ⟨j + 1, by omega, by omega, by go_num, hw.out.trans (hq.mono hw.out.size)⟩
    · have hjc : j = xs.length := by omega
      subst hjc
      have hg' : ¬ (xs.length : Int) < (xs.length : Int) := by omega
      go_wp2_with fail
      go_ret
      exact ⟨rfl, hw.out⟩
end Go.Proofs.YtnnppnlekpadnaaGreat
