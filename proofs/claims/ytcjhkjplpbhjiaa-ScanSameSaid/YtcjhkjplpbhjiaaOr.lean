/- Contract of cmp.Or of numbers: the first that is not 0, or 0. -/
import Derived.Test.YtcjhkjplpbhjiaaCmp
import Derived.Test.YtcjhkjplpbhjiaaRd
namespace Go.Proofs.Ytcjhkjplpbhjiaa
open Go.RowKit

/-- 'cmp.Or'. -/
def orI : List Int → Int
  | [] => 0
  | x :: r => if x = 0 then orI r else x

theorem orI_zeros : ∀ (xs : List Int) (k : Nat), (∀ i, i < k → xs.getD i 0 = 0) → orI (xs.drop k) = orI xs
  | [], k, _ => by simp
  | x :: r, 0, _ => rfl
  | x :: r, k + 1, h => by
    have h0 := h 0 (by omega)
    simp at h0
    subst h0
    simp only [List.drop_succ_cons, orI, if_true]
    exact orI_zeros r k fun i hi => by simpa using h (i + 1) (by omega)

set_option maxHeartbeats 400000 in
theorem or_int (A : Option Addr) (c : Nat) (xs : List Int) (w : World) (hr : RdI w A xs) (hn : xs.length ≤ 1000000) :
    Calls Try.prog 49 #[.slice A xs.length c] w fun e w' => e = .returned (.int .i64 (orI xs)) ∧ w = w' := by
  go_enter Try.func49, Try.ntmps49
  go_wp2
  go_loopg [5, 8] xs.length (fun gg _ s8 wr => ∃ j : Nat, j ≤ xs.length ∧ xs.length - j ≤ gg ∧ s8 = .int .i64 j ∧ Aside (w = wr) ∧ Aside (∀ i, i < j → xs.getD i 0 = 0))
  case atStart => exact ⟨0, Nat.zero_le _, by omega, rfl, rfl, fun i hi => absurd hi (Nat.not_lt_zero _)⟩
  case round =>
    obtain ⟨j, hj, hg, rfl, hw, Z⟩ := hrel
    obtain rfl := hw.out
    by_cases hlt : j < xs.length
    · obtain ⟨b, o, rfl, hb, hc⟩ := hr.cell hlt
      have G : Aside (xs.getD j 0 = xs[j]) := by simp [Aside, hlt]
      generalize xs[j] = x at hc G
      by_cases h0 : x = 0
      · subst h0
        go_wp2
        go_roundg (xs.length - (j + 1))
        case measure => omega
        case rel =>
          refine ⟨j + 1, by omega, by omega, by go_num, rfl, (show Aside _ from fun i hi => ?_)⟩
          by_cases e : i = j
          · subst e; exact G.out
          · exact Z.out i (by omega)
      · have h0' : (x == 0) = false := by simpa using h0
        have h0'' : (x != 0) = true := by simpa using h0
        go_wp2
        go_ret
        refine ⟨?_, rfl⟩
        have hx : xs[j] = x := by rw [← G.out]; simp [hlt]
        rw [← orI_zeros xs j Z.out, List.drop_eq_getElem_cons hlt, orI, hx, if_neg h0]; rfl
    · have : j = xs.length := by omega
      subst this
      go_wp2
      go_ret
      refine ⟨?_, rfl⟩
      rw [← orI_zeros xs xs.length Z.out]
      simp [orI]
end Go.Proofs.Ytcjhkjplpbhjiaa
