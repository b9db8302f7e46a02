/- The statement ClaimOnce, of slices that read as lists. -/
import Derived.Test.YtnnppnlekpadnaaGreatOnceP
namespace Go.Proofs.YtnnppnlekpadnaaGreat
open Go.RowKit Go.Proofs
set_option maxRecDepth 100000

section
variable (Al At As Ac : Option Addr) (ca cb cc cd : Nat) (l : List Std) (t : List Terms) (s : List Sent) (c : List Clm) (w : World)
variable (HA : ∀ w : World, Calls Tryz.prog 10 #[] w fun e w' => e = .returned (.bool true) ∧ Below w.heap.size w w')
variable (hl : Rd encStd 4 w Al l) (ht : Rd encTerms 7 w At t) (hs : Rd encSent 6 w As s) (hc : Rd encClm 6 w Ac c)
include HA in
theorem once_many (hn : ¬ (l.length ≤ 60 ∧ t.length ≤ 60 ∧ s.length ≤ 60 ∧ c.length ≤ 60)) : Calls Tryz.prog 8 #[.slice Al l.length ca, .slice At t.length cb, .slice As s.length cc, .slice Ac c.length cd] w fun e w' => e = .returned (.bool true) ∧ Below w.heap.size w w' := by
  have HA := Lib.hid HA
  have FW := fun W => few_any Al At As Ac l.length t.length s.length c.length ca cb cc cd W
  rw [decide_eq_false hn] at FW
  clear hn
  go_enter Tryz.func8, Tryz.ntmps8
  go_wp2_with fail
  refine (HA.out _).mono ?_
  rintro e w1 ⟨rfl, hb⟩
  go_wp2_with fail
  refine (FW _).mono ?_
  rintro e w2 ⟨rfl, rfl⟩
  go_wp2_with fail
  go_ret
  exact ⟨rfl, hb⟩

include HA hl ht hs hc in
set_option maxHeartbeats 2000000 in
theorem once_err (hn : l.length ≤ 60 ∧ t.length ≤ 60 ∧ s.length ≤ 60 ∧ c.length ≤ 60) (h : chkP l t s c ≠ 0) : Calls Tryz.prog 8 #[.slice Al l.length ca, .slice At t.length cb, .slice As s.length cc, .slice Ac c.length cd] w fun e w' => e = .returned (.bool true) ∧ Below w.heap.size w w' := by
  have HA := Lib.hid HA
  have FW := fun W => few_any Al At As Ac l.length t.length s.length c.length ca cb cc cd W
  rw [decide_eq_true hn] at FW
  have nl : l.length ≤ 1000000 := by omega
  have nt : t.length ≤ 1000000 := by omega
  have ns : s.length ≤ 1000000 := by omega
  have nc : c.length ≤ 1000000 := by omega
  have S1 := Lib.hid (fun (W : World) (b : Below w.heap.size w W) => settle_err Al At As Ac ca cb cc cd l t s c W (hl.below (Nat.le_refl _) b) (ht.below (Nat.le_refl _) b) (hs.below (Nat.le_refl _) b) (hc.below (Nat.le_refl _) b) nl nt ns nc h)
  have R1 := Lib.hid (fun (W : World) (b : Below w.heap.size w W) => right_any Al ca l W (hl.below (Nat.le_refl _) b) nl)
  change Hid (∀ W, Below w.heap.size w W → Calls Tryz.prog 11 _ _ (fun e w' => e = .returned (.bool (rightStd l)) ∧ _)) at R1
  have R2 := Lib.hid (fun (W : World) (b : Below w.heap.size w W) => rightTerms_any At cb t W (ht.below (Nat.le_refl _) b) nt)
  change Hid (∀ W, Below w.heap.size w W → Calls Tryz.prog 26 _ _ (fun e w' => e = .returned (.bool (rightTerms t)) ∧ _)) at R2
  have R3 := Lib.hid (fun (W : World) (b : Below w.heap.size w W) => rightSent_any As cc s W (hs.below (Nat.le_refl _) b) ns)
  have R4 := Lib.hid (fun (W : World) (b : Below w.heap.size w W) => rightClm_any Ac cd c W (hc.below (Nat.le_refl _) b) nc)
  have hcs : rightStd l = false ∨ (rightStd l = true ∧ rightTerms t = false) ∨ (rightStd l = true ∧ rightTerms t = true ∧ rightSent s = false) ∨ (rightStd l = true ∧ rightTerms t = true ∧ rightSent s = true ∧ rightClm c = false) := by
    unfold chkP at h
    cases r1 : rightStd l <;> cases r2 : rightTerms t <;> cases r3 : rightSent s <;> cases r4 : rightClm c <;> simp_all
  have e1 : (chkP l t s c != 0) = true := by simpa using h
  have e2 : (chkP l t s c == 0) = false := by simpa using h
  clear hl ht hs hc h hn nl nt ns nc
  generalize chkP l t s c = r at *
  generalize rightStd l = r1 at *
  generalize rightTerms t = r2 at *
  generalize rightSent s = r3 at *
  generalize rightClm c = r4 at *
  generalize l.length = n1 at *
  generalize t.length = n2 at *
  generalize s.length = n3 at *
  generalize c.length = n4 at *
  rcases hcs with rfl | ⟨rfl, rfl⟩ | ⟨rfl, rfl, rfl⟩ | ⟨rfl, rfl, rfl, rfl⟩
  all_goals
    go_enter Tryz.func8, Tryz.ntmps8
    go_wp2_with fail
    refine (HA.out _).mono ?_
    rintro e w1 ⟨rfl, hb⟩
    go_wp2_with fail
    refine (FW _).mono ?_
    rintro e w2 ⟨rfl, rfl⟩
    go_wp2_with fail
    refine (S1.out _ hb).mono ?_
    rintro e w3 ⟨rfl, hb3⟩
    replace hb := hb.trans (hb3.mono hb.size)
    clear hb3
    go_wp2_with fail
    refine (R1.out _ hb).mono ?_
    rintro e w4 ⟨rfl, hb4⟩
    replace hb := hb.trans (hb4.mono hb.size)
    clear hb4
    go_wp2_with fail
    first
    | (go_ret; exact ⟨rfl, hb⟩)
    | (refine (R2.out _ hb).mono ?_
       rintro e w4 ⟨rfl, hb4⟩
       replace hb := hb.trans (hb4.mono hb.size)
       clear hb4
       go_wp2_with fail
       first
       | (go_ret; exact ⟨rfl, hb⟩)
       | (refine (R3.out _ hb).mono ?_
          rintro e w4 ⟨rfl, hb4⟩
          replace hb := hb.trans (hb4.mono hb.size)
          clear hb4
          go_wp2_with fail
          first
          | (go_ret; exact ⟨rfl, hb⟩)
          | (refine (R4.out _ hb).mono ?_
             rintro e w4 ⟨rfl, hb4⟩
             replace hb := hb.trans (hb4.mono hb.size)
             clear hb4
             go_wp2_with fail
             go_ret
             exact ⟨rfl, hb⟩)))
end
end Go.Proofs.YtnnppnlekpadnaaGreat
