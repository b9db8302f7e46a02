/- Rows of the call's own: how they read, how the sort takes them, and how they read behind it. -/
import Derived.Test.YtcjhkjplpbhjiaaRd
import Derived.Shelf.SlSortCmp.WholeK
namespace Go.Proofs.Ytcjhkjplpbhjiaa
open Go.RowKit Go.Proofs Go.Sort Go.Lib

theorem flat_get {α : Type} {enc : α → List Value} {k : Nat} (hk : ∀ x, (enc x).length = k) : ∀ (xs : List α) (j i : Nat) (x : α), xs[j]? = some x → i < k → (xs.flatMap enc)[j * k + i]? = (enc x)[i]?
  | [], j, i, x, h, _ => by simp at h
  | y :: r, 0, i, x, h, hi => by
    simp at h; subst h
    rw [List.flatMap_cons, Nat.zero_mul, Nat.zero_add, List.getElem?_append_left (by rw [hk]; exact hi)]
  | y :: r, j + 1, i, x, h, hi => by
    simp at h
    rw [List.flatMap_cons, List.getElem?_append_right (by rw [hk, Nat.add_mul]; omega), hk, show (j + 1) * k + i - k = j * k + i by rw [Nat.add_mul]; omega]
    exact flat_get hk r j i x h hi

theorem flat_length {α : Type} {enc : α → List Value} {k : Nat} (hk : ∀ x, (enc x).length = k) : ∀ (xs : List α), (xs.flatMap enc).length = xs.length * k
  | [] => by simp
  | y :: r => by rw [List.flatMap_cons, List.length_append, hk, flat_length hk r, List.length_cons, Nat.add_mul]; omega

/-- What a slice of the call's own is: its block, from base on, and its cells, not frozen. -/
theorem own_cells {α : Type} {enc : α → List Value} {k : Nat} (hk : ∀ x, (enc x).length = k) {w : World} {base : Nat} {e : TypeId} {v : Value} {xs : List α} (h : w.ownsRow base e k v xs.length (xs.flatMap enc)) (hne : xs ≠ []) :
    ∃ g cap, v = .slice (some ⟨g, 0, none⟩) xs.length cap ∧ base ≤ g ∧ g < w.heap.size ∧ ∀ t, t < xs.length * k → w.cell? ⟨g, 0 + t, none⟩ = (xs.flatMap enc)[t]? ∧ w.frozen? ⟨g, 0 + t, none⟩ = false := by
  obtain ⟨_, h2⟩ := h
  rcases h2 with ⟨_, h0⟩ | ⟨g, cap, cur, hv, hg, hh, hcap, _, hsz, hcur⟩
  · exact absurd (List.length_eq_zero_iff.1 h0) hne
  · refine ⟨g, cap, hv, hg, (Array.getElem?_eq_some_iff.1 hh).1, fun t ht => ⟨?_, ?_⟩⟩
    · rw [← hcur, List.getElem?_take, if_pos ht]
      simp [World.cell?, hh]
    · simp [World.frozen?, hh]

theorem own_rd {α : Type} {enc : α → List Value} {k : Nat} (hk : ∀ x, (enc x).length = k) {w : World} {base : Nat} {e : TypeId} {v : Value} {xs : List α} (h : w.ownsRow base e k v xs.length (xs.flatMap enc)) :
    ∃ A c, v = .slice A xs.length c ∧ Rd enc k w A xs := by
  by_cases hne : xs = []
  · subst hne
    rcases h.2 with ⟨hv, _⟩ | ⟨g, cap, cur, hv, _⟩
    · exact ⟨none, 0, hv, Rd.nil _ _ _ _⟩
    · exact ⟨_, _, hv, Rd.nil _ _ _ _⟩
  · obtain ⟨g, cap, hv, hg, hlt, hc⟩ := own_cells hk h hne
    refine ⟨_, _, hv, fun _ => ⟨g, 0, rfl, hlt, fun j x hj i u hi => ?_⟩⟩
    have hjl : j < xs.length := by
      rcases Nat.lt_or_ge j xs.length with h | h
      · exact h
      · rw [List.getElem?_eq_none h] at hj; cases hj
    have hik : i < k := by
      rcases Nat.lt_or_ge i k with h | h
      · exact h
      · rw [List.getElem?_eq_none (by rw [hk]; exact h)] at hi; cases hi
    have hb : j * k + i < xs.length * k := by
      have := Nat.mul_le_mul_right k (show j + 1 ≤ xs.length from hjl); rw [Nat.add_mul, Nat.one_mul] at this; omega
    have := (hc (j * k + i) hb).1
    rw [flat_get hk xs j i x hj hik, hi] at this
    rwa [← Nat.add_assoc] at this

theorem flatK_eq {α : Type} [Inhabited α] {enc : α → List Value} {k : Nat} (hk : ∀ x, (enc x).length = k) (xs : List α) (t : Nat) (ht : t < xs.length * k) : (flatK enc k xs.toArray)[t]! = ((xs.flatMap enc)[t]?).getD default := by
  have hk0 : 0 < k := by rcases Nat.eq_zero_or_pos k with h | h; · subst h; simp at ht
                         · exact h
  have hq : t / k < xs.length := Nat.div_lt_of_lt_mul (by rwa [Nat.mul_comm] at ht)
  have hr : t % k < k := Nat.mod_lt _ hk0
  have e : t = t / k * k + t % k := by rw [Nat.mul_comm]; exact (Nat.div_add_mod t k).symm
  rw [get_flatK _ _ _ _ (by simpa using ht)]
  have h1 : (xs.toArray)[t / k]! = xs[t / k] := by simp [hq]
  rw [h1]
  have h2 := flat_get hk xs (t / k) (t % k) xs[t / k] (List.getElem?_eq_getElem hq) hr
  rw [← e] at h2
  rw [h2]
  rw [getElem!_pos (enc xs[t / k]) (t % k) (by rw [hk]; exact hr), List.getElem?_eq_getElem (by rw [hk]; exact hr)]
  rfl

theorem own_holds {α : Type} [Inhabited α] {enc : α → List Value} {k : Nat} (hk : ∀ x, (enc x).length = k) {w : World} {base : Nat} {e : TypeId} {v : Value} {xs : List α} (h : w.ownsRow base e k v xs.length (xs.flatMap enc)) (hne : xs ≠ []) :
    ∃ g cap, v = .slice (some ⟨g, 0, none⟩) xs.length cap ∧ base ≤ g ∧ g < w.heap.size ∧ HoldsK enc k w g 0 xs.toArray := by
  obtain ⟨g, cap, hv, hg, hlt, hc⟩ := own_cells hk h hne
  refine ⟨g, cap, hv, hg, hlt, fun t ht => ?_⟩
  rw [size_flatK] at ht
  have ht' : t < xs.length * k := by simpa using ht
  refine ⟨?_, (hc t ht').2⟩
  rw [(hc t ht').1, id, flatK_eq hk xs t ht', List.getElem?_eq_getElem (by rw [flat_length hk]; exact ht')]
  rfl

/-- How a row reads that holds. -/
theorem HoldsK.rd {α : Type} [Inhabited α] {enc : α → List Value} {k : Nat} (hk : ∀ x, (enc x).length = k) {w : World} {g o : Nat} {d : Array α} (h : HoldsK enc k w g o d) (hlt : g < w.heap.size) : Rd enc k w (some ⟨g, o, none⟩) d.toList := fun _ => by
  refine ⟨g, o, rfl, hlt, fun j x hj i u hi => ?_⟩
  have hjl : j < d.toList.length := by
    rcases Nat.lt_or_ge j d.toList.length with h | h
    · exact h
    · rw [List.getElem?_eq_none h] at hj; cases hj
  have hik : i < k := by
    rcases Nat.lt_or_ge i k with h | h
    · exact h
    · rw [List.getElem?_eq_none (by rw [hk]; exact h)] at hi; cases hi
  have hb : j * k + i < d.toList.length * k := by
    have := Nat.mul_le_mul_right k (show j + 1 ≤ d.toList.length from hjl); rw [Nat.add_mul, Nat.one_mul] at this; omega
  have := (h (j * k + i) (by rw [size_flatK]; simpa using hb)).1
  rw [Nat.add_assoc, this, id]
  have e := flatK_eq (enc := enc) hk d.toList (j * k + i) hb
  rw [Array.toArray_toList] at e
  rw [e, flat_get hk d.toList j i x hj hik, hi]
  rfl

/-- Behind the sort, below the row all is as it was. -/
theorem sortWorldK_below {α : Type} [Inhabited α] (enc : α → List Value) (k : Nat) (w : World) (g o n : Nat) (d : Array α) (os : Array Obj) {B : Nat} (hB : B ≤ g) (hs : g < w.heap.size) : Below B w (sortWorldK enc k w g o n d os) := by
  refine ⟨rfl, rfl, rfl, ?_, fun j hj => ?_⟩
  · unfold sortWorldK; rw [size_grow, size_putRowK]; show w.heap.size ≤ w.heap.size + _; omega
  · unfold sortWorldK
    rw [heap_grow_old _ _ (by rw [size_putRowK]; show j < w.heap.size; omega)]
    show (mapBlock (Go.Sort.ahead w n) g _).heap[j]? = _
    simp only [mapBlock, Array.getElem?_modify]
    rw [if_neg (by omega)]
    rfl
end Go.Proofs.Ytcjhkjplpbhjiaa
