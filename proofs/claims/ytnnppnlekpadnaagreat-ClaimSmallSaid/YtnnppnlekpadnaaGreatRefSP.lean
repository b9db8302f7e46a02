/- Plain facts for the reference's Settle: the selection, and three slices of its own. -/
import Derived.Test.YtnnppnlekpadnaaGreatRefW
import Derived.Test.YtnnppnlekpadnaaGreatPool2
import Derived.Maps.AppendAt
namespace Go.Proofs.YtnnppnlekpadnaaGreat
open Go.RowKit Go.Proofs
set_option maxRecDepth 100000

/-- The claims d are chosen, in their order; L is left. -/
structure Sel (c d L : List Clm) : Prop where
  perm : (d ++ L).Perm c
  sorted : d.Pairwise (fun x y => ¬ ltSet y x)
  cross : ∀ x ∈ d, ∀ y ∈ L, ¬ ltSet y x
theorem Sel.start (c : List Clm) : Sel c [] c := ⟨List.Perm.refl _, List.Pairwise.nil, by simp⟩
theorem Sel.step {c d L : List Clm} {k : Nat} {x : Clm} (h : Sel c d L) (hx : L[k]? = some x) (hm : ∀ y ∈ L, ¬ ltSet y x) : Sel c (d ++ [x]) (L.eraseIdx k) := by
  have hk := (List.getElem?_eq_some_iff.1 hx).1
  have hp : (x :: L.eraseIdx k).Perm L := by
    have e : L = L.take k ++ x :: L.drop (k + 1) := by
      rw [← (List.getElem?_eq_some_iff.1 hx).2, ← List.drop_eq_getElem_cons hk, List.take_append_drop]
    rw [List.eraseIdx_eq_take_drop_succ]
    exact List.perm_middle.symm.trans (List.Perm.of_eq e.symm)
  have hsub : ∀ y ∈ L.eraseIdx k, y ∈ L := fun y hy => hp.mem_iff.1 (List.mem_cons_of_mem _ hy)
  refine ⟨?_, ?_, ?_⟩
  · rw [List.append_assoc]
    exact (List.Perm.append_left d hp).trans h.perm
  · rw [List.pairwise_append]
    exact ⟨h.sorted, List.pairwise_singleton _ _, fun a ha b hb => by simp at hb; subst hb; exact h.cross a ha b (List.mem_of_getElem? hx)⟩
  · intro a ha y hy
    rcases List.mem_append.1 ha with ha | ha
    · exact h.cross a ha y (hsub y hy)
    · simp at ha; subst ha; exact hm y (hsub y hy)

theorem setF_snoc (l : List Std) (t : List Terms) (s : List Sent) (d : List Clm) (x : Clm) : setF l t s (d ++ [x]) = stepS l t s (setF l t s d) x := by
  unfold setF; rw [List.foldl_append]; rfl

/-- The outcome, after some of the paid items have been looked at. -/
def stO (D : Outc) (x : Clm) (P : List Int) : Outc := if D.ver ≠ 1 ∧ x.item ∈ P then ⟨x.id, 0, 7⟩ else D
theorem stO_nil (D : Outc) (x : Clm) : stO D x [] = D := by simp [stO]
theorem stO_hit {D : Outc} {x : Clm} {P : List Int} {m : Nat} (hp : P[m]? = some x.item) (hv : (stO D x (P.take m)).ver ≠ 1) : stO D x (P.take (m + 1)) = ⟨x.id, 0, 7⟩ := by
  have hd : D.ver ≠ 1 := by
    unfold stO at hv
    split at hv
    · rename_i h; exact h.1
    · exact hv
  unfold stO
  rw [if_pos ⟨hd, by rw [List.take_add_one, hp]; simp⟩]
theorem stO_one {D : Outc} {x : Clm} {P : List Int} {m : Nat} (hv : (stO D x (P.take m)).ver = 1) : stO D x (P.take (m + 1)) = stO D x (P.take m) := by
  have hd : D.ver = 1 := by
    unfold stO at hv
    split at hv
    · simp at hv
    · exact hv
  unfold stO
  rw [if_neg (fun h => h.1 hd), if_neg (fun h => h.1 hd)]
theorem stO_miss {D : Outc} {x : Clm} {P : List Int} {m : Nat} {p : Int} (hp : P[m]? = some p) (h : p ≠ x.item) : stO D x (P.take (m + 1)) = stO D x (P.take m) := by
  unfold stO
  have e : x.item ∈ P.take (m + 1) ↔ x.item ∈ P.take m := by
    rw [List.take_add_one, hp]
    simp
    intro h'; exact absurd h'.symm h
  by_cases h2 : D.ver ≠ 1 ∧ x.item ∈ P.take m
  · rw [if_pos h2, if_pos ⟨h2.1, e.2 h2.2⟩]
  · rw [if_neg h2, if_neg (fun h3 => h2 ⟨h3.1, e.1 h3.2⟩)]
theorem stO_step {l : List Std} {t : List Terms} {s : List Sent} {x : Clm} {P Q : List Int} (h : ∀ i, i ∈ P ↔ i ∈ Q) : stO (decP l t s x) x P = stepO l t s Q x := by
  unfold stO stepO
  by_cases h1 : (decP l t s x).ver ≠ 1 ∧ x.item ∈ P
  · rw [if_pos h1, if_pos (by simp [h1.1, (h _).1 h1.2])]
  · rw [if_neg h1, if_neg (by simp; intro h2 h3; exact h1 ⟨h2, (h _).2 h3⟩)]

theorem flat_take {α : Type} {enc : α → List Value} {k : Nat} (hk : ∀ x, (enc x).length = k) : ∀ (xs : List α) (m : Nat), (xs.take m).flatMap enc = (xs.flatMap enc).take (m * k)
  | [], m => by simp
  | x :: r, 0 => by simp
  | x :: r, m + 1 => by
    rw [List.take_succ_cons, List.flatMap_cons, List.flatMap_cons, flat_take hk r m, Nat.add_mul, Nat.one_mul, Nat.add_comm, ← hk x, List.take_length_add_append]

theorem own_take {α : Type} {enc : α → List Value} {k : Nat} (hk : ∀ x, (enc x).length = k) {w : World} {base g cap : Nat} {e : TypeId} {xs : List α} (h : w.ownsRow base e k (.slice (some ⟨g, 0, none⟩) xs.length cap) xs.length (xs.flatMap enc)) (m : Nat) (hm : m ≤ xs.length) :
    w.ownsRow base e k (.slice (some ⟨g, 0, none⟩) m cap) m ((xs.take m).flatMap enc) := by
  obtain ⟨h1, h2⟩ := h
  rcases h2 with ⟨h, _⟩ | ⟨g', cap', cur, hv, hg, hh, hnc, hcm, hcs, htk⟩
  · cases h
  · simp at hv
    obtain ⟨rfl, rfl⟩ := hv
    refine ⟨by rw [flat_length hk, List.length_take, Nat.min_eq_left hm], .inr ⟨g, cap, cur, rfl, hg, hh, by omega, hcm, hcs, ?_⟩⟩
    rw [flat_take hk, ← htk, List.take_take, Nat.min_eq_left (Nat.mul_le_mul_right k hm)]

def apartV (a b : Value) : Prop := a.ownBlock = none ∨ a.ownBlock ≠ b.ownBlock
theorem apartV.symm {a b : Value} (h : apartV a b) : apartV b a := by
  unfold apartV at *
  cases ha : a.ownBlock with
  | none =>
    cases hb : b.ownBlock with
    | none => exact .inl rfl
    | some k => exact .inr (fun h => by cases h)
  | some k =>
    rw [ha] at h
    rcases h with h | h
    · cases h
    · exact .inr (fun e => h e.symm)
theorem apartV.grow {w : World} {base n k : Nat} {e : TypeId} {a b b' : Value} {xs : List Value} (h : apartV a b) (ho : w.ownsRow base e k a n xs) (hb : b'.ownBlock = b.ownBlock ∨ b'.ownBlock = some w.heap.size) : apartV a b' := by
  rcases hb with hb | hb
  · unfold apartV at *; rw [hb]; exact h
  · unfold apartV
    rw [hb]
    cases ha : a.ownBlock with
    | none => exact .inl rfl
    | some k =>
      refine .inr (fun e => ?_)
      have := (ho.lt k ha).2
      simp at e; omega

/-- Three slices of one's own, each in a block for itself. -/
structure St3 (base : Nat) (eL eO eP : TypeId) (w : World) (sL sO sP : Value) (L : List Clm) (O : List Outc) (P : List Int) : Prop where
  oL : w.ownsRow base eL 6 sL L.length (L.flatMap encClm)
  oO : w.ownsRow base eO 3 sO O.length (O.flatMap encOutc)
  oP : w.ownsRow base eP 1 sP P.length (P.flatMap fun x : Int => [Value.int .i64 x])
  aLO : apartV sL sO
  aLP : apartV sL sP
  aOP : apartV sO sP
section
variable {base : Nat} {eL eO eP : TypeId} {w w' : World} {sL sO sP v' : Value} {L L' : List Clm} {O O' : List Outc} {P P' : List Int}
theorem St3.below (h : St3 base eL eO eP w sL sO sP L O P) (hb : Below w.heap.size w w') : St3 base eL eO eP w' sL sO sP L O P :=
  ⟨own_below h.oL hb, own_below h.oO hb, own_below h.oP hb, h.aLO, h.aLP, h.aOP⟩
theorem St3.growP (h : St3 base eL eO eP w sL sO sP L O P) (ho : w'.ownsRow base eP 1 v' P'.length (P'.flatMap fun x : Int => [Value.int .i64 x])) (hg : w.grownBy w' sP.ownBlock) (hb : v'.ownBlock = sP.ownBlock ∨ v'.ownBlock = some w.heap.size) : St3 base eL eO eP w' sL sO v' L O P' :=
  ⟨h.oL.kept hg h.aLP, h.oO.kept hg h.aOP, ho, h.aLO, h.aLP.grow h.oL hb, h.aOP.grow h.oO hb⟩
theorem St3.growO (h : St3 base eL eO eP w sL sO sP L O P) (ho : w'.ownsRow base eO 3 v' O'.length (O'.flatMap encOutc)) (hg : w.grownBy w' sO.ownBlock) (hb : v'.ownBlock = sO.ownBlock ∨ v'.ownBlock = some w.heap.size) : St3 base eL eO eP w' sL v' sP L O' P :=
  ⟨h.oL.kept hg h.aLO, ho, h.oP.kept hg h.aOP.symm, h.aLO.grow h.oL hb, h.aLP, (h.aOP.symm.grow h.oP hb).symm⟩
theorem St3.growL (h : St3 base eL eO eP w sL sO sP L O P) (ho : w'.ownsRow base eL 6 v' L'.length (L'.flatMap encClm)) (hg : w.grownBy w' sL.ownBlock) (hb : v'.ownBlock = sL.ownBlock ∨ v'.ownBlock = some w.heap.size) : St3 base eL eO eP w' v' sO sP L' O P :=
  ⟨ho, h.oO.kept hg h.aLO.symm, h.oP.kept hg h.aLP.symm, (h.aLO.symm.grow h.oO hb).symm, (h.aLP.symm.grow h.oP hb).symm, h.aOP⟩
end
end Go.Proofs.YtnnppnlekpadnaaGreat
