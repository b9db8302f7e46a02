/- The plain law of ScanDrift: two marks of one clock. -/
import Derived.Test.YtcjhkjplpbhjiaaAwake
namespace Go.Proofs.Ytcjhkjplpbhjiaa
open Go.RowKit Go.Proofs

/-- The corrected time between two marks. -/
def tv (mA mO d D z : Int) : Int := z + (mO + D * (z - mA) / d)

theorem tv_mono {mA mO d D x y : Int} (hd : 0 < d) (hD : 0 ≤ D + d) (h : x ≤ y) : tv mA mO d D x ≤ tv mA mO d D y := by
  have key : ∀ z, z + (mO + D * (z - mA) / d) = mA + mO + (D + d) * (z - mA) / d := by
    intro z
    have e : (D + d) * (z - mA) = D * (z - mA) + (z - mA) * d := by rw [Int.add_mul, Int.mul_comm d]
    rw [e, Int.add_mul_ediv_right _ _ (by omega)]
    omega
  unfold tv
  rw [key, key]
  have h1 : (D + d) * (x - mA) ≤ (D + d) * (y - mA) := Int.mul_le_mul_of_nonneg_left (by omega) hD
  have := Int.ediv_le_ediv hd h1
  omega
theorem tv_low {mA mO d D : Int} : tv mA mO d D mA = mA + mO := by
  unfold tv; rw [Int.sub_self, Int.mul_zero, Int.zero_ediv]; omega
theorem tv_high {mA mO d D : Int} (hd : 0 < d) : tv mA mO d D (mA + d) = mA + d + (mO + D) := by
  unfold tv
  rw [show mA + d - mA = d by omega, Int.mul_ediv_cancel _ (by omega)]
theorem tv_off {mA mO d D x : Int} (hd : 0 < d) (h0 : mA ≤ x) (h1 : x ≤ mA + d) : min mO (mO + D) ≤ tv mA mO d D x - x ∧ tv mA mO d D x - x ≤ max mO (mO + D) := by
  have e : tv mA mO d D x - x = mO + D * (x - mA) / d := by unfold tv; omega
  rw [e]
  rcases Int.le_total 0 D with hD | hD
  · have a : 0 ≤ D * (x - mA) := Int.mul_nonneg hD (by omega)
    have b : D * (x - mA) ≤ D * d := Int.mul_le_mul_of_nonneg_left (by omega) hD
    have a' := Int.ediv_le_ediv hd a
    have b' := Int.ediv_le_ediv hd b
    rw [Int.zero_ediv] at a'
    rw [Int.mul_ediv_cancel _ (by omega)] at b'
    omega
  · have a : D * (x - mA) ≤ 0 := Int.mul_nonpos_of_nonpos_of_nonneg hD (by omega)
    have b : D * d ≤ D * (x - mA) := Int.mul_le_mul_of_nonpos_left hD (by omega)
    have a' := Int.ediv_le_ediv hd a
    have b' := Int.ediv_le_ediv hd b
    rw [Int.zero_ediv] at a'
    rw [Int.mul_ediv_cancel _ (by omega)] at b'
    omega

theorem drift_time {mA mO d D z : Int} (h1 : 40000 ≤ mA) (h2 : mA ≤ 105535) (h3 : 1 ≤ d) (h4 : d ≤ 65536) (h5 : -32768 ≤ mO) (h6 : mO ≤ 32767) (h7 : -32768 ≤ mO + D) (h8 : mO + D ≤ 32767) (hz : mA ≤ z) (hz2 : z ≤ mA + d) :
    timeR [⟨1, mA, mO⟩, ⟨1, mA + d, mO + D⟩] ⟨7, 3, 1, 1, z, 1000000⟩ = .tuple #[.int .i64 (tv mA mO d D z), .int .i64 0] := by
  have o1 : okS ⟨7, 3, 1, 1, z, 1000000⟩ = true := by
    rw [okS_iff]; simp; omega
  have o2 : okMs [⟨1, mA, mO⟩, ⟨1, mA + d, mO + D⟩] = true := by
    simp only [okMs, risingL, List.all_cons, List.all_nil, okM, inB, Bool.and_eq_true, decide_eq_true_eq, Bool.and_true, ltPl_iff]
    simp; omega
  unfold timeR
  rw [o1, o2]
  simp only [Bool.and_self, if_true]
  have hoff : offF [⟨1, mA, mO⟩, ⟨1, mA + d, mO + D⟩] 1 z = mO + D * (z - mA) / d := by
    unfold offF
    have e : ([⟨1, mA, mO⟩, ⟨1, mA + d, mO + D⟩] : List Mrk).filter (fun m => decide (m.sc = 1)) = [⟨1, mA, mO⟩, ⟨1, mA + d, mO + D⟩] := by simp
    rw [e]
    unfold offGo
    by_cases c1 : z ≤ mA
    · have : z = mA := by omega
      subst this
      simp
    · rw [if_neg c1]
      unfold offGo
      rw [if_pos hz2]
      dsimp only
      by_cases c2 : mA + d = z
      · rw [if_pos (.inr c2), ← c2, show mA + d - mA = d by omega, Int.mul_ediv_cancel _ (by omega)]
      · rw [if_neg (by simp; exact c2), show mO + D - mO = D by omega, show mA + d - mA = d by omega]
  unfold corrF
  dsimp only
  rw [hoff]
  have hb := tv_off (mA := mA) (mO := mO) (D := D) (d := d) (x := z) (by omega) hz hz2
  have e : tv mA mO d D z = z + (mO + D * (z - mA) / d) := rfl
  rw [← e]
  have : min (max (tv mA mO d D z) 0) 1000000 = tv mA mO d D z := by omega
  rw [this]
end Go.Proofs.Ytcjhkjplpbhjiaa
