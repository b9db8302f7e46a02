/- The contract of Pick: a remainder that is not negative. -/
import Derived.Test.YtnnppnlekpadnaaGreatCmp
import Derived.Test.YtnnppnlekpadnaaGreatQuiet
namespace Go.Proofs.YtnnppnlekpadnaaGreat
open Go.RowKit Go.Proofs
set_option maxRecDepth 100000

def pickI (x n : Int) : Int := if n < 1 then 0 else x % n
theorem pickI_bd (x n : Int) (h : 0 < n) : 0 ≤ pickI x n ∧ pickI x n < n := by
  unfold pickI; rw [if_neg (by omega)]
  exact ⟨Int.emod_nonneg _ (by omega), Int.emod_lt_of_pos _ h⟩

theorem pick_any (x n : Int) (w : World) (hn : n ≤ 1000000) : Calls Tryz.prog 17 #[.int .i64 x, .int .i64 n] w fun e w' => e = .returned (.int .i64 (pickI x n)) ∧ Below w.heap.size w w' := by
  by_cases h : n < 1
  · have e : pickI x n = 0 := by unfold pickI; rw [if_pos h]
    rw [e]; clear e
    go_enter Tryz.func17, Tryz.ntmps17
    go_wp2
    go_ret
    exact ⟨rfl, by first | exact Below.refl _ _ | exact (Below.refl _ _).alloc (Nat.le_refl _) _⟩
  · have e : pickI x n = x % n := by unfold pickI; rw [if_neg h]
    rw [e]; clear e
    by_cases hx : 0 ≤ x
    · have t1 : x.tmod n = x % n := Int.tmod_eq_emod_of_nonneg hx
      have t2 : 0 ≤ x % n := Int.emod_nonneg _ (by omega)
      have t3 : x % n < n := Int.emod_lt_of_pos _ (by omega)
      have hne : (n == 0) = false := by simp; omega
      have hne' : n ≠ 0 := by omega
      generalize x % n = r at *
      go_enter Tryz.func17, Tryz.ntmps17
      go_wp2_with fail
      go_ret
      exact ⟨rfl, Below.refl _ _⟩
    · obtain ⟨y, rfl⟩ : ∃ y, x = -y := ⟨-x, by omega⟩
      have t1 : (-y).tmod n = -(y % n) := by rw [Int.neg_tmod, Int.tmod_eq_emod_of_nonneg (by omega)]
      have t2 : 0 ≤ y % n := Int.emod_nonneg _ (by omega)
      have t3 : y % n < n := Int.emod_lt_of_pos _ (by omega)
      have hne : (n == 0) = false := by simp; omega
      have hne' : n ≠ 0 := by omega
      have t4 : (-y) % n = if y % n = 0 then 0 else n - y % n := by
        have h1 := Int.emod_def y n
        split
        · rename_i h0
          rw [show -y = n * (-(y / n)) by rw [Int.mul_neg]; omega]
          exact Int.mul_emod_right _ _
        · rename_i h0
          rw [show -y = (n - y % n) + n * (-(y / n) - 1) by rw [Int.mul_sub, Int.mul_neg]; omega, Int.add_mul_emod_self_left]
          exact Int.emod_eq_of_lt (by omega) (by omega)
      rw [t4]; clear t4
      generalize y % n = r at *
      by_cases h0 : r = 0
      · subst h0
        rw [if_pos rfl]
        go_enter Tryz.func17, Tryz.ntmps17
        go_wp2_with fail
        go_ret
        exact ⟨rfl, Below.refl _ _⟩
      · rw [if_neg h0]
        have h1 : 0 < r := by omega
        go_enter Tryz.func17, Tryz.ntmps17
        go_wp2_with fail
        go_ret
        exact ⟨ret_int (by omega), Below.refl _ _⟩

end Go.Proofs.YtnnppnlekpadnaaGreat
