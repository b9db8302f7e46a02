/- Facts for the statements' lists: rows that are written, three slices of one's own. -/
import Derived.Test.YtnnppnlekpadnaaGreatTells
namespace Go.Proofs.YtnnppnlekpadnaaGreat
open Go.RowKit Go.Proofs
set_option maxRecDepth 100000

theorem infStd : (Tryz.prog.info? 27).map (fun i => (i.zero, i.size, i.bytes)) = some (some (.agg #[(.int .u8 0), (.int .i64 0), (.int .i64 0), (.int .i64 0)]), 4, 32) := by kernel_rfl
theorem infTerms : (Tryz.prog.info? 41).map (fun i => (i.zero, i.size, i.bytes)) = some (some (.agg #[(.int .u8 0), (.int .i64 0), (.int .i64 0), (.int .i64 0), (.int .i64 0), (.int .i64 0), (.int .i64 0)]), 7, 56) := by kernel_rfl
theorem std_one (x : Std) : ∀ u ∈ encStd x, u.oneCell' = true := by
  intro u hu
  simp [encStd] at hu
  rcases hu with rfl | rfl | rfl | rfl <;> rfl
theorem sent_one (x : Sent) : ∀ u ∈ encSent x, u.oneCell' = true := by
  intro u hu
  simp [encSent] at hu
  rcases hu with rfl | rfl | rfl | rfl | rfl | rfl <;> rfl

theorem rdI_blk {W : World} {n : Nat} {arr : Array Value} {T : TypeId} {xs : List Int} (h : Blk W n arr T) (e : arr = (xs.map (Value.int .i64)).toArray) : RdI W (some ⟨n, 0, none⟩) xs := fun _ => by
  refine ⟨n, 0, rfl, h.lt, fun j x hj i v hi => ?_⟩
  match i, hi with
  | 0, hi =>
    simp at hi; subst hi
    rw [h.cells, e]
    simp [hj]
  | i + 1, hi => simp at hi

/-- One cell of a row is written. -/
theorem Rd.setCell {α : Type} {enc : α → List Value} {k : Nat} (hk : ∀ x, (enc x).length = k) {w : World} {b o : Nat} {xs : List α} (h : Rd enc k w (some ⟨b, o, none⟩) xs) {j i : Nat} {x x' : α} {v : Value} (hj : xs[j]? = some x) (hi : i < k) (he : enc x' = (enc x).set i v) :
    Rd enc k (w.setCell ⟨b, o + j * k + i, none⟩ v) (some ⟨b, o, none⟩) (xs.set j x') := fun _ => by
  have hne : xs ≠ [] := by rintro rfl; simp at hj
  obtain ⟨b', o', hA, hlt, hc⟩ := h hne
  simp at hA
  obtain ⟨rfl, rfl⟩ := hA
  refine ⟨b, o, rfl, Nat.lt_of_lt_of_le hlt (((Below.refl 0 w).setCell (p := ⟨b, o + j * k + i, none⟩) (Nat.zero_le _) v).size), fun m y hm q u hq => ?_⟩
  have hql : q < k := by
    rcases Nat.lt_or_ge q k with h | h
    · exact h
    · rw [List.getElem?_eq_none (by rw [hk]; exact h)] at hq; cases hq
  by_cases e : m = j
  · subst e
    have hml := (List.getElem?_eq_some_iff.1 hj).1
    rw [List.getElem?_set_self hml] at hm
    cases hm
    by_cases e2 : q = i
    · subst e2
      rw [he, List.getElem?_set_self (by rw [hk]; exact hi)] at hq
      cases hq
      have h0 : (enc x)[q]? = some ((enc x)[q]'(by rw [hk]; exact hi)) := List.getElem?_eq_getElem _
      exact World.cell?_setCell_same _ _ _ (hc m x hj q _ h0)
    · rw [he, List.getElem?_set_ne (Ne.symm e2)] at hq
      rw [World.cell?_setCell_other _ _ _ _ (by intro h; injection h; omega)]
      exact hc m x hj q u hq
  · rw [List.getElem?_set_ne (Ne.symm e)] at hm
    rw [World.cell?_setCell_other _ _ _ _ ?_]
    · exact hc m y hm q u hq
    · intro h
      injection h with _ h _
      rcases Nat.lt_or_gt_of_ne e with h1 | h1
      · have := Nat.mul_le_mul_right k (show m + 1 ≤ j from h1); rw [Nat.add_mul, Nat.one_mul] at this; omega
      · have := Nat.mul_le_mul_right k (show j + 1 ≤ m from h1); rw [Nat.add_mul, Nat.one_mul] at this; omega
theorem Rd.setOther {α : Type} {enc : α → List Value} {k : Nat} {w : World} {b o : Nat} {xs : List α} (h : Rd enc k w (some ⟨b, o, none⟩) xs) {p : Addr} {v : Value} (hp : p.block ≠ b) : Rd enc k (w.setCell p v) (some ⟨b, o, none⟩) xs := fun hne => by
  obtain ⟨b', o', hA, hlt, hc⟩ := h hne
  simp at hA
  obtain ⟨rfl, rfl⟩ := hA
  refine ⟨b, o, rfl, Nat.lt_of_lt_of_le hlt (((Below.refl 0 w).setCell (p := p) (Nat.zero_le _) v).size), fun m y hm q u hq => ?_⟩
  rw [World.cell?_setCell_other _ _ _ _ (by rintro rfl; exact hp rfl)]
  exact hc m y hm q u hq

/-- Three slices of one's own, of whatever records, each in a block for itself. -/
structure Own3 {α β γ : Type} (f : α → List Value) (g : β → List Value) (h : γ → List Value) (kf kg kh base : Nat) (ef eg eh : TypeId) (w : World) (a b c : Value) (A : List α) (B : List β) (C : List γ) : Prop where
  oA : w.ownsRow base ef kf a A.length (A.flatMap f)
  oB : w.ownsRow base eg kg b B.length (B.flatMap g)
  oC : w.ownsRow base eh kh c C.length (C.flatMap h)
  ab : apartV a b
  ac : apartV a c
  bc : apartV b c
section
variable {α β γ : Type} {f : α → List Value} {g : β → List Value} {h : γ → List Value} {kf kg kh base : Nat} {ef eg eh : TypeId} {w w' : World} {a b c v' : Value} {A A' : List α} {B B' : List β} {C C' : List γ}
theorem Own3.below (s : Own3 f g h kf kg kh base ef eg eh w a b c A B C) (hb : Below w.heap.size w w') : Own3 f g h kf kg kh base ef eg eh w' a b c A B C :=
  ⟨own_below s.oA hb, own_below s.oB hb, own_below s.oC hb, s.ab, s.ac, s.bc⟩
theorem Own3.growA (s : Own3 f g h kf kg kh base ef eg eh w a b c A B C) (ho : w'.ownsRow base ef kf v' A'.length (A'.flatMap f)) (hg : w.grownBy w' a.ownBlock) (hb : v'.ownBlock = a.ownBlock ∨ v'.ownBlock = some w.heap.size) : Own3 f g h kf kg kh base ef eg eh w' v' b c A' B C :=
  ⟨ho, s.oB.kept hg s.ab.symm, s.oC.kept hg s.ac.symm, (s.ab.symm.grow s.oB hb).symm, (s.ac.symm.grow s.oC hb).symm, s.bc⟩
theorem Own3.growB (s : Own3 f g h kf kg kh base ef eg eh w a b c A B C) (ho : w'.ownsRow base eg kg v' B'.length (B'.flatMap g)) (hg : w.grownBy w' b.ownBlock) (hb : v'.ownBlock = b.ownBlock ∨ v'.ownBlock = some w.heap.size) : Own3 f g h kf kg kh base ef eg eh w' a v' c A B' C :=
  ⟨s.oA.kept hg s.ab, ho, s.oC.kept hg s.bc.symm, s.ab.grow s.oA hb, s.ac, (s.bc.symm.grow s.oC hb).symm⟩
theorem Own3.growC (s : Own3 f g h kf kg kh base ef eg eh w a b c A B C) (ho : w'.ownsRow base eh kh v' C'.length (C'.flatMap h)) (hg : w.grownBy w' c.ownBlock) (hb : v'.ownBlock = c.ownBlock ∨ v'.ownBlock = some w.heap.size) : Own3 f g h kf kg kh base ef eg eh w' a b v' A B C' :=
  ⟨s.oA.kept hg s.ac, s.oB.kept hg s.bc, ho, s.ab, s.ac.grow s.oA hb, s.bc.grow s.oB hb⟩
end

theorem badStd_twice {xs : List Std} {j : Nat} {x : Std} (h1 : xs[j]? = some x) (h2 : xs[j + 1]? = some x) : rightStd xs = false := by
  refine allB_false_ord h1 h2 ?_
  have := cmpStd_lt x x
  rw [this]; unfold ltStd; omega
end Go.Proofs.YtnnppnlekpadnaaGreat
