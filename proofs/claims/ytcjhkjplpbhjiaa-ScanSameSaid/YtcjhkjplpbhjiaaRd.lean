/- Words for slices: 'Rd enc k w A xs': the slice at A reads, in the world w, as the list xs, each element k cells. -/
import Derived.WalkKit
import Derived.WalkSpells
import Derived.Deep.LoopGhost
import Derived.Shelf.SlicesQ.Load
namespace Go.Proofs.Ytcjhkjplpbhjiaa
open Go.RowKit

def Rd {α : Type} (enc : α → List Value) (k : Nat) (w : World) (A : Option Addr) (xs : List α) : Prop :=
  xs ≠ [] → ∃ b o, A = some ⟨b, o, none⟩ ∧ b < w.heap.size ∧ ∀ j x, xs[j]? = some x → ∀ i v, (enc x)[i]? = some v → w.cell? ⟨b, o + j * k + i, none⟩ = some v

theorem Rd.nil {α : Type} (enc : α → List Value) (k : Nat) (w : World) (A : Option Addr) : Rd enc k w A [] := fun h => absurd rfl h

theorem Rd.below {α : Type} {enc : α → List Value} {k : Nat} {w w' : World} {A : Option Addr} {xs : List α} (h : Rd enc k w A xs) {n : Nat} (hn : w.heap.size ≤ n) (hb : Below n w w') : Rd enc k w' A xs := fun hx => by
  obtain ⟨b, o, hA, hlt, hc⟩ := h hx
  refine ⟨b, o, hA, Nat.lt_of_lt_of_le hlt hb.size, fun j x hj i v hi => ?_⟩
  rw [hb.cell (p := ⟨b, _, none⟩) (Nat.lt_of_lt_of_le hlt hn)]
  exact hc j x hj i v hi

/-- One element: its address, and its cells. -/
theorem Rd.at {α : Type} {enc : α → List Value} {k : Nat} {w : World} {A : Option Addr} {xs : List α} (h : Rd enc k w A xs) {j : Nat} {x : α} (hj : xs[j]? = some x) :
    ∃ b o, A = some ⟨b, o, none⟩ ∧ b < w.heap.size ∧ ∀ i v, (enc x)[i]? = some v → w.cell? ⟨b, o + j * k + i, none⟩ = some v := by
  have hx : xs ≠ [] := by rintro rfl; simp at hj
  obtain ⟨b, o, hA, hlt, hc⟩ := h hx
  exact ⟨b, o, hA, hlt, hc j x hj⟩

/-- What a not empty slice is. -/
theorem Rd.ne {α : Type} {enc : α → List Value} {k : Nat} {w : World} {A : Option Addr} {xs : List α} (h : Rd enc k w A xs) (hx : xs ≠ []) :
    ∃ b o, A = some ⟨b, o, none⟩ ∧ b < w.heap.size ∧ ∀ j x, xs[j]? = some x → ∀ i v, (enc x)[i]? = some v → w.cell? ⟨b, o + j * k + i, none⟩ = some v := h hx

/-- A part of the slice. -/
theorem Rd.drop {α : Type} {enc : α → List Value} {k : Nat} {w : World} {b o : Nat} {xs : List α} (h : Rd enc k w (some ⟨b, o, none⟩) xs) (m : Nat) : Rd enc k w (some ⟨b, o + m * k, none⟩) (xs.drop m) := fun hx => by
  have hne : xs ≠ [] := by rintro rfl; simp at hx
  obtain ⟨b', o', hA, hlt, hc⟩ := h hne
  simp at hA
  obtain ⟨rfl, rfl⟩ := hA
  refine ⟨b, o + m * k, rfl, hlt, fun j x hj i v hi => ?_⟩
  have := hc (m + j) x (by simpa [List.getElem?_drop] using hj) i v hi
  rwa [show o + m * k + j * k + i = o + (m + j) * k + i by rw [Nat.add_mul]; omega]

theorem Rd.take {α : Type} {enc : α → List Value} {k : Nat} {w : World} {A : Option Addr} {xs : List α} (h : Rd enc k w A xs) (m : Nat) : Rd enc k w A (xs.take m) := fun hx => by
  have hne : xs ≠ [] := by rintro rfl; simp at hx
  obtain ⟨b, o, hA, hlt, hc⟩ := h hne
  refine ⟨b, o, hA, hlt, fun j x hj i v hi => hc j x ?_ i v hi⟩
  rw [List.getElem?_take] at hj
  split at hj
  · exact hj
  · cases hj

/-- Numbers. -/
abbrev RdI (w : World) (A : Option Addr) (xs : List Int) : Prop := Rd (fun x : Int => [Value.int .i64 x]) 1 w A xs

theorem RdI.cell {w : World} {A : Option Addr} {xs : List Int} (h : RdI w A xs) {j : Nat} (hj : j < xs.length) :
    ∃ b o, A = some ⟨b, o, none⟩ ∧ b < w.heap.size ∧ w.cell? ⟨b, o + j, none⟩ = some (.int .i64 xs[j]) := by
  obtain ⟨b, o, hA, hlt, hc⟩ := h.at (List.getElem?_eq_getElem hj)
  refine ⟨b, o, hA, hlt, ?_⟩
  have := hc 0 _ rfl
  simpa using this

end Go.Proofs.Ytcjhkjplpbhjiaa
