/- The statement ClaimTurned, of slices that read as lists: too many, or not right. -/
import Derived.Test.YtnnppnlekpadnaaGreatSameOut
import Derived.Test.YtnnppnlekpadnaaGreatSpread
namespace Go.Proofs.YtnnppnlekpadnaaGreat
open Go.RowKit Go.Proofs
set_option maxRecDepth 100000

section
variable (Al At As Ac : Option Addr) (ca cb cc cd : Nat) (l : List Std) (t : List Terms) (s : List Sent) (c : List Clm) (w : World)
variable (HA : ∀ w : World, Calls Tryz.prog 10 #[] w fun e w' => e = .returned (.bool true) ∧ Below w.heap.size w w')
variable (hl : Rd encStd 4 w Al l) (ht : Rd encTerms 7 w At t) (hs : Rd encSent 6 w As s) (hc : Rd encClm 6 w Ac c)
include HA in
theorem turned_many (hn : ¬ (l.length ≤ 60 ∧ t.length ≤ 60 ∧ s.length ≤ 60 ∧ c.length ≤ 60)) : Calls Tryz.prog 9 #[.slice Al l.length ca, .slice At t.length cb, .slice As s.length cc, .slice Ac c.length cd] w fun e w' => e = .returned (.bool true) ∧ Below w.heap.size w w' := by
  have HA := Lib.hid HA
  have FW := fun W => few_any Al At As Ac l.length t.length s.length c.length ca cb cc cd W
  rw [decide_eq_false hn] at FW
  clear hn
  go_enter Tryz.func9, Tryz.ntmps9
  go_wp2_with fail
  refine (HA.out _).mono ?_
  rintro e w1 ⟨rfl, hb⟩
  go_wp2_with fail
  refine (FW _).mono ?_
  rintro e w2 ⟨rfl, rfl⟩
  go_wp2_with fail
  go_ret
  exact ⟨rfl, hb⟩

include HA hl ht hs hc in
theorem turned_err (hn : l.length ≤ 60 ∧ t.length ≤ 60 ∧ s.length ≤ 60 ∧ c.length ≤ 60) (h : chkP l t s c ≠ 0) : Calls Tryz.prog 9 #[.slice Al l.length ca, .slice At t.length cb, .slice As s.length cc, .slice Ac c.length cd] w fun e w' => e = .returned (.bool true) ∧ Below w.heap.size w w' := by
  have HA := Lib.hid HA
  have FW := fun W => few_any Al At As Ac l.length t.length s.length c.length ca cb cc cd W
  rw [decide_eq_true hn] at FW
  have nl : l.length ≤ 1000000 := by omega
  have nt : t.length ≤ 1000000 := by omega
  have ns : s.length ≤ 1000000 := by omega
  have nc : c.length ≤ 1000000 := by omega
  have S1 := Lib.hid (fun (W : World) (b : Below w.heap.size w W) => settle_err Al At As Ac ca cb cc cd l t s c W (hl.below (Nat.le_refl _) b) (ht.below (Nat.le_refl _) b) (hs.below (Nat.le_refl _) b) (hc.below (Nat.le_refl _) b) nl nt ns nc h)
  have e1 : (chkP l t s c != 0) = true := by simpa using h
  clear hl ht hs hc h hn nl nt ns nc
  generalize chkP l t s c = r at *
  generalize l.length = n1 at *
  generalize t.length = n2 at *
  generalize s.length = n3 at *
  generalize c.length = n4 at *
  go_enter Tryz.func9, Tryz.ntmps9
  go_wp2_with fail
  refine (HA.out _).mono ?_
  rintro e w1 ⟨rfl, hb⟩
  go_wp2_with fail
  refine (FW _).mono ?_
  rintro e w2 ⟨rfl, rfl⟩
  go_wp2_with fail
  refine (S1.out _ hb).mono ?_
  rintro e w3 ⟨rfl, hb3⟩
  replace hb := hb.trans (hb3.mono hb.size)
  go_wp2_with fail
  go_ret
  exact ⟨rfl, hb⟩
end
end Go.Proofs.YtnnppnlekpadnaaGreat
