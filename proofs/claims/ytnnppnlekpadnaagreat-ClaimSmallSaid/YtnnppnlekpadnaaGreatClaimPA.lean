/- The statement ClaimPromise, of a slice that reads as a list. -/
import Derived.Test.YtnnppnlekpadnaaGreatAwake
namespace Go.Proofs.YtnnppnlekpadnaaGreat
open Go.RowKit Go.Proofs
set_option maxRecDepth 100000

set_option maxHeartbeats 2000000 in
theorem ClaimPromise_any (A : Option Addr) (c : Nat) (xs : List Std) (cl fr tw acc : Int) (w : World) (hr : Rd encStd 4 w A xs) (hu : ∀ x ∈ xs, 0 ≤ x.cl) :
    Calls Tryz.prog 3 #[.slice A xs.length c, .int .u8 cl, .int .i64 fr, .int .i64 tw, .int .i64 acc] w fun e w' => e = .returned (.bool true) ∧ Below w.heap.size w w' := by
  by_cases hn : xs.length ≤ 60
  · have hn1 : xs.length ≤ 1000000 := by omega
    have HR := Lib.hid hr
    have HU := Lib.hid hu
    have c1 := right_any A c xs w hr hn1
    have C2 := Lib.hid (fun W h => refRight A c xs W (Rd.below hr (Nat.le_refl _) h) hn1 hu)
    have C3 := Lib.hid (fun (kl f2 t2 : Int) W h => promises_any A c xs kl f2 t2 acc W (Rd.below hr (Nat.le_refl _) h) hn1 hu)
    have HA := Lib.hid awake_any
    change Calls Tryz.prog 11 _ _ (fun e w' => e = .returned (.bool (rightStd xs)) ∧ _) at c1
    clear hr hu
    generalize rightStd xs = r at c1 C2
    go_enter Tryz.func3, Tryz.ntmps3
    go_wp2_with fail
    refine c1.mono ?_
    rintro e w1 ⟨rfl, hb1⟩
    go_wp2_with fail
    refine (C2.out _ hb1).mono ?_
    rintro e w2 ⟨rfl, hb2⟩
    replace hb1 := hb1.trans (hb2.mono hb1.size)
    clear hb2
    have hne : (r != r) = false := by simp
    go_wp2_with fail
    refine (C3.out _ _ _ _ hb1).mono ?_
    rintro e w3 ⟨rfl, hb3⟩
    replace hb1 := hb1.trans (hb3.mono hb1.size)
    clear hb3
    go_wp2_with fail
    go_loopg [11] xs.length (fun gg s11 wr => ∃ j : Nat, j ≤ xs.length ∧ xs.length - j ≤ gg ∧ s11 = .int .i64 j ∧ Aside (Below w.heap.size w wr))
    case atStart => exact ⟨0, Nat.zero_le _, by omega, rfl, hb1⟩
    case round =>
      obtain ⟨j, hj, hg, rfl, hw⟩ := hrel
      by_cases hlt : j < xs.length
      · obtain ⟨b, o, rfl, hb, hl⟩ := (HR.out.below (Nat.le_refl _) hw.out).at (List.getElem?_eq_getElem hlt)
        generalize xs[j] = x at hl
        have hl0 := hl 0 _ rfl; have hl1 := hl 1 _ rfl; have hl2 := hl 2 _ rfl; have hl3 := hl 3 _ rfl; rw [Nat.add_zero] at hl0; clear hl
        clear hl3
        replace hl0 := fun p : Ex wr => p.cell hb hl0
        replace hl1 := fun p : Ex wr => p.cell hb hl1
        replace hl2 := fun p : Ex wr => p.cell hb hl2
        have BB := Lib.hid hw.out
        clear hw hb1
        go_wp2_with fail
        (refine wp_region_quiet_ex (by kernel_rfl) (by kernel_rfl) ?_; (repeat (go_big_quiet_step ((go_at_call 13; refine Calls.ex_of (C3.out _ _ _ _ (BB.out.trans (Below.mono (Ex.h _) BB.out.size))))))); refine wpQuiet_nil ?_; intro wq hw'; obtain ⟨⟨_, hq⟩, hw''⟩ := hw'; subst hw'')
        go_wp2_with fail
        go_roundg (xs.length - (j + 1))
        case measure => omega
        case rel => exact ⟨j + 1, by omega, by omega, by go_num, BB.out.trans (hq.mono BB.out.size)⟩
      · have hg' : ¬ (j : Int) < (xs.length : Int) := by omega
        go_wp2_with fail
        refine (HA.out _).mono ?_
        rintro e w4 ⟨rfl, hb4⟩
        go_wp2_with fail
        go_ret
        exact ⟨rfl, hw.out.trans (hb4.mono hw.out.size)⟩
  · have HA := Lib.hid awake_any
    go_enter Tryz.func3, Tryz.ntmps3
    go_wp2_with fail
    refine (HA.out _).mono ?_
    rintro e w1 ⟨rfl, hb⟩
    go_wp2_with fail
    go_ret
    exact ⟨rfl, hb⟩
end Go.Proofs.YtnnppnlekpadnaaGreat
