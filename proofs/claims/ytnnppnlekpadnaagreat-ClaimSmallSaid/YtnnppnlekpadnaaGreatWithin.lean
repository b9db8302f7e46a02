/- Contracts of claim.within and what it calls: whether all numbers lie from one to another one. -/
import Derived.Test.YtnnppnlekpadnaaGreatProg
import Derived.Test.YtnnppnlekpadnaaGreatRd
import Derived.Test.YtnnppnlekpadnaaGreatQuiet
namespace Go.Proofs.YtnnppnlekpadnaaGreat
open Go.RowKit

/-- n lies outside. -/
def outB (lo hi n : Int) : Bool := decide (n < lo) || decide (hi < n)
/-- All numbers lie within. -/
def withinB (lo hi : Int) (l : List Int) : Bool := l.all fun n => !outB lo hi n
def idxOut (lo hi : Int) : List Int → Nat → Int
  | [], _ => -1
  | x :: r, j => if outB lo hi x then (j : Int) else idxOut lo hi r (j + 1)

theorem idxOut_ge (lo hi : Int) : ∀ (l : List Int) (j : Nat), decide (0 ≤ idxOut lo hi l j) = l.any (outB lo hi)
  | [], j => by simp [idxOut]
  | x :: r, j => by
    unfold idxOut
    by_cases h : outB lo hi x = true
    · simp [h]
    · simp only [h, List.any_cons]
      rw [if_neg (by simp), idxOut_ge lo hi r (j + 1)]; simp

theorem within1 (lo hi n : Int) (Bl Bh : Nat) (w : World) (hl : w.cell? ⟨Bl, 0, none⟩ = some (.int .i64 lo)) (hh : w.cell? ⟨Bh, 0, none⟩ = some (.int .i64 hi)) :
    Calls Tryz.prog 71 #[.int .i64 n, .pointer (some ⟨Bl, 0, none⟩), .pointer (some ⟨Bh, 0, none⟩)] w fun e w' => e = .returned (.bool (outB lo hi n)) ∧ w = w' := by
  by_cases h1 : n < lo
  · have e : outB lo hi n = true := by simp [outB, h1]
    rw [e]; clear e
    go_enter Tryz.func71, Tryz.ntmps71
    go_wp2
    go_ret
    exact ⟨rfl, rfl⟩
  · have e : outB lo hi n = decide (hi < n) := by simp [outB, h1]
    rw [e]; clear e
    go_enter Tryz.func71, Tryz.ntmps71
    go_wp2
    go_ret
    exact ⟨rfl, rfl⟩

set_option maxHeartbeats 400000 in
theorem idxw (lo hi : Int) (Bl Bh : Nat) (A : Option Addr) (c : Nat) (xs : List Int) (w : World) (hr : RdI w A xs) (hn : xs.length ≤ 1000000) (hl : w.cell? ⟨Bl, 0, none⟩ = some (.int .i64 lo)) (hh : w.cell? ⟨Bh, 0, none⟩ = some (.int .i64 hi)) :
    Calls Tryz.prog 99 #[.slice A xs.length c, .func (.func 71) #[] #[.pointer (some ⟨Bl, 0, none⟩), .pointer (some ⟨Bh, 0, none⟩)]] w fun e w' => e = .returned (.int .i64 (idxOut lo hi xs 0)) ∧ w = w' := by
  go_enter Tryz.func99, Tryz.ntmps99
  go_wp2
  go_loopg [5, 8] xs.length (fun gg _ s8 wr => ∃ j : Nat, j ≤ xs.length ∧ xs.length - j ≤ gg ∧ s8 = .int .i64 j ∧ Aside (w = wr) ∧ Aside (idxOut lo hi xs 0 = idxOut lo hi (xs.drop j) j))
  case atStart => exact ⟨0, Nat.zero_le _, by omega, rfl, rfl, by simp [Aside]⟩
  case round =>
    obtain ⟨j, hj, hg, rfl, hw, Z⟩ := hrel
    obtain rfl := hw.out
    by_cases hlt : j < xs.length
    · obtain ⟨b, o, rfl, hb, hc⟩ := hr.cell hlt
      have Z2 : Aside (idxOut lo hi xs 0 = if outB lo hi xs[j] then (j : Int) else idxOut lo hi (xs.drop (j + 1)) (j + 1)) := by
        have := Z.out; rw [List.drop_eq_getElem_cons hlt, idxOut] at this; exact this
      clear Z
      generalize xs[j] = x at hc Z2
      cases hq : outB lo hi x with
      | true =>
        rw [hq] at Z2
        have hcall := within1 lo hi x Bl Bh w hl hh
        rw [hq] at hcall
        go_wp2_with (go_at_call 71; refine hcall.mono ?_; rintro e w' ⟨rfl, rfl⟩)
        go_ret
        exact ⟨by rw [Z2.out]; rfl, rfl⟩
      | false =>
        rw [hq] at Z2
        have hcall := within1 lo hi x Bl Bh w hl hh
        rw [hq] at hcall
        go_wp2_with (go_at_call 71; refine hcall.mono ?_; rintro e w' ⟨rfl, rfl⟩)
        go_roundg (xs.length - (j + 1))
        case measure => omega
        case rel => exact ⟨j + 1, by omega, by omega, by go_num, rfl, by rw [Aside, Z2.out]; rfl⟩
    · have : j = xs.length := by omega
      subst this
      go_wp2
      go_ret
      refine ⟨?_, rfl⟩
      rw [Z.out]; simp [idxOut]

theorem containsw (lo hi : Int) (Bl Bh : Nat) (A : Option Addr) (c : Nat) (xs : List Int) (w : World) (hr : RdI w A xs) (hn : xs.length ≤ 1000000) (hl : w.cell? ⟨Bl, 0, none⟩ = some (.int .i64 lo)) (hh : w.cell? ⟨Bh, 0, none⟩ = some (.int .i64 hi)) :
    Calls Tryz.prog 70 #[.slice A xs.length c, .func (.func 71) #[] #[.pointer (some ⟨Bl, 0, none⟩), .pointer (some ⟨Bh, 0, none⟩)]] w fun e w' => e = .returned (.bool (xs.any (outB lo hi))) ∧ w = w' := by
  rw [← idxOut_ge lo hi xs 0]
  have hcall := idxw lo hi Bl Bh A c xs w hr hn hl hh
  clear hr hn
  generalize idxOut lo hi xs 0 = r at hcall ⊢
  go_enter Tryz.func70, Tryz.ntmps70
  go_wp2_with (go_at_call 99; refine hcall.mono ?_; rintro e w' ⟨rfl, rfl⟩)
  go_ret
  exact ⟨rfl, rfl⟩

theorem within_any (lo hi : Int) (A : Option Addr) (c : Nat) (xs : List Int) (w : World) (hr : RdI w A xs) (hn : xs.length ≤ 1000000) :
    Calls Tryz.prog 33 #[.int .i64 lo, .int .i64 hi, .slice A xs.length c] w fun e w' => e = .returned (.bool (withinB lo hi xs)) ∧ Below w.heap.size w w' := by
  have hw : withinB lo hi xs = !(xs.any (outB lo hi)) := by
    unfold withinB; rw [List.all_eq_not_any_not]; simp
  rw [hw]; clear hw
  have hcall := containsw lo hi w.heap.size (w.heap.size + 1) A c xs ((w.alloc (.cells #[.int .i64 lo] 3)).alloc (.cells #[.int .i64 hi] 3)) (hr.below (Nat.le_refl _) (((Below.refl _ _).alloc (Nat.le_refl _) _).alloc (by simp) _)) hn (by simp) (by simp)
  clear hr hn
  generalize xs.any (outB lo hi) = r at hcall ⊢
  generalize xs.length = n at hcall ⊢
  go_enter Tryz.func33, Tryz.ntmps33
  go_wp2_with (go_at_call 70; refine hcall.mono ?_; rintro e w' ⟨rfl, rfl⟩)
  go_ret
  exact ⟨rfl, ((Below.refl _ _).alloc (Nat.le_refl _) _).alloc (by simp) _⟩
end Go.Proofs.YtnnppnlekpadnaaGreat
