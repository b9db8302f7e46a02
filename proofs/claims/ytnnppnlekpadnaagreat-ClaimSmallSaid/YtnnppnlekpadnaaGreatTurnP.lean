/- What a turned order, and a claim more, change of the outcomes: plain Lean. -/
import Derived.Test.YtnnppnlekpadnaaGreatOnceP
namespace Go.Proofs.YtnnppnlekpadnaaGreat
open Go.RowKit Go.Proofs

/-- Claims in their order: one list only. -/
theorem set_uniq {c d d' : List Clm} (hp : d.Perm c) (hs : d.Pairwise (fun x y => ¬ ltSet y x)) (hp' : d'.Perm c) (hs' : d'.Pairwise (fun x y => ¬ ltSet y x)) (hn : (c.map (·.id)).Nodup) : d = d' := by
  have key : ∀ {e : List Clm}, e.Perm c → e.Pairwise (fun x y => ¬ ltSet y x) → e.Pairwise ltSet := fun {e} h1 h2 => by
    rw [List.pairwise_iff_getElem]
    intro i j hi hj hij
    exact set_lt h1 h2 hn hij (List.getElem?_eq_getElem hi) (List.getElem?_eq_getElem hj)
  refine List.Perm.eq_of_pairwise (le := ltSet) (fun a b _ _ h1 h2 => ?_) (key hp hs) (key hp' hs') (hp.trans hp'.symm)
  unfold ltSet at h1 h2
  omega

/-- Of distinct items, the list's order does not matter. -/
theorem find_perm {s s' : List Sent} (hp : s'.Perm s) (hn : (s.map (·.item)).Nodup) (i : Int) : s'.find? (fun x => x.item == i) = s.find? (fun x => x.item == i) := by
  have key : ∀ {r : List Sent} {x : Sent}, (r.map (·.item)).Nodup → x ∈ r → x.item = i → r.find? (fun x => x.item == i) = some x := by
    intro r
    induction r with
    | nil => intro x _ h; simp at h
    | cons y r ih =>
      intro x hn hx hi
      rw [List.map_cons, List.nodup_cons] at hn
      rw [List.find?_cons]
      rcases List.mem_cons.1 hx with rfl | hx
      · simp [hi]
      · have : (y.item == i) = false := by
          simp only [beq_eq_false_iff_ne]
          intro e
          exact hn.1 (e.trans hi.symm ▸ List.mem_map_of_mem hx)
        rw [this]
        exact ih hn.2 hx hi
  cases e : s.find? (fun x => x.item == i) with
  | none =>
    rw [List.find?_eq_none] at e ⊢
    intro x hx
    exact e x (hp.mem_iff.1 hx)
  | some x =>
    have h1 := List.mem_of_find?_eq_some e
    have h2 := List.find?_some e
    exact key ((hp.map _).nodup_iff.2 hn) (hp.mem_iff.2 h1) (by simpa using h2)
theorem decP_perm {l : List Std} {t : List Terms} {s s' : List Sent} (hp : s'.Perm s) (hn : (s.map (·.item)).Nodup) (x : Clm) : decP l t s' x = decP l t s x := by
  unfold decP
  rw [find_perm hp hn]
theorem setF_perm {l : List Std} {t : List Terms} {s s' : List Sent} (hp : s'.Perm s) (hn : (s.map (·.item)).Nodup) (d : List Clm) : setF l t s' d = setF l t s d := by
  unfold setF
  have : stepS l t s' = stepS l t s := by
    funext p x
    unfold stepS stepO
    rw [decP_perm hp hn]
  rw [this]

theorem rightSent_perm {s s' : List Sent} (hp : s'.Perm s) : rightSent s' = rightSent s := by
  unfold rightSent
  rw [hp.length_eq]
  have e1 : s'.all okSent = s.all okSent := by
    rw [Bool.eq_iff_iff, List.all_eq_true, List.all_eq_true]
    exact ⟨fun h x hx => h x (hp.mem_iff.2 hx), fun h x hx => h x (hp.mem_iff.1 hx)⟩
  have e2 : decide ((s'.map (·.item)).Nodup) = decide ((s.map (·.item)).Nodup) := decide_eq_decide.2 (hp.map _).nodup_iff
  rw [e1, e2]
theorem rightClm_perm {s s' : List Clm} (hp : s'.Perm s) : rightClm s' = rightClm s := by
  unfold rightClm
  rw [hp.length_eq]
  have e1 : s'.all okClm = s.all okClm := by
    rw [Bool.eq_iff_iff, List.all_eq_true, List.all_eq_true]
    exact ⟨fun h x hx => h x (hp.mem_iff.2 hx), fun h x hx => h x (hp.mem_iff.1 hx)⟩
  have e2 : decide ((s'.map (·.id)).Nodup) = decide ((s.map (·.id)).Nodup) := decide_eq_decide.2 (hp.map _).nodup_iff
  rw [e1, e2]
theorem chkP_rev (l : List Std) (t : List Terms) (s : List Sent) (c : List Clm) : chkP l t s.reverse c.reverse = chkP l t s c := by
  unfold chkP
  rw [rightSent_perm (List.reverse_perm s), rightClm_perm (List.reverse_perm c)]

/-- In the opposite order: the same outcomes. -/
theorem turn_eq {l : List Std} {t : List Terms} {s : List Sent} {c d d' : List Clm} (h : chkP l t s c = 0) (hp : d.Perm c) (hs : d.Pairwise (fun x y => ¬ ltSet y x)) (hp' : d'.Perm c.reverse) (hs' : d'.Pairwise (fun x y => ¬ ltSet y x)) : setF l t s.reverse d' = setF l t s d := by
  have e := set_uniq hp hs (hp'.trans (List.reverse_perm c)) hs' (chk_nodup h)
  subst e
  refine setF_perm (List.reverse_perm s) ?_ d
  have := (chkP_zero h).2.2.1
  unfold rightSent at this; simp at this
  exact this.2.2

/-- The greatest time of claims. -/
def lastT (c : List Clm) : Int := c.foldr (fun x m => if x.at_ > m then x.at_ else m) 0
theorem lastT_ge {c : List Clm} {x : Clm} (hx : x ∈ c) : x.at_ ≤ lastT c := by
  induction c with
  | nil => simp at hx
  | cons y r ih =>
    simp only [lastT, List.foldr_cons]
    change _ ≤ if y.at_ > lastT r then y.at_ else lastT r
    rcases List.mem_cons.1 hx with rfl | hx
    · split <;> omega
    · have := ih hx
      split <;> omega
theorem lastT_bd {c : List Clm} (h : ∀ x ∈ c, 0 ≤ x.at_ ∧ x.at_ ≤ 1051898399) : 0 ≤ lastT c ∧ lastT c ≤ 1051898399 := by
  induction c with
  | nil => simp [lastT]
  | cons y r ih =>
    have h1 := ih fun x hx => h x (List.mem_cons_of_mem _ hx)
    have h2 := h y (by simp)
    simp only [lastT, List.foldr_cons]
    change 0 ≤ (if y.at_ > lastT r then y.at_ else lastT r) ∧ (if y.at_ > lastT r then y.at_ else lastT r) ≤ _
    split <;> omega

/-- One claim more, behind all others, with a number of its own. -/
def moreC (c : List Clm) (x : Clm) (k : Int) : Clm := ⟨k, x.item, lastT c + 1, x.kind, x.post, x.val⟩
theorem chkP_more {l : List Std} {t : List Terms} {s : List Sent} {c : List Clm} {x : Clm} {k : Int} (h : chkP l t s c = 0) (hn : c.length ≤ 60) (hx : x ∈ c) (hl : lastT c ≠ 1051898399) (hk : findC c k = none) (hk1 : 1 ≤ k) (hk2 : k ≤ 61) : chkP l t s (c ++ [moreC c x k]) = 0 := by
  obtain ⟨z1, z2, z3, z4⟩ := chkP_zero h
  have z5 : rightClm (c ++ [moreC c x k]) = true := by
    have hd := chk_nodup h
    unfold rightClm at z4 ⊢
    simp only [Bool.and_eq_true, decide_eq_true_eq, List.all_eq_true] at z4
    have hb := lastT_bd fun y hy => by have := z4.2.1 y hy; unfold okClm withinB outB at this; simp at this; omega
    have hox := z4.2.1 x hx
    simp only [Bool.and_eq_true, decide_eq_true_eq, List.all_eq_true, List.length_append, List.map_append, List.mem_append, List.mem_singleton, List.length_singleton]
    refine ⟨by omega, ?_, ?_⟩
    · rintro y (hy | rfl)
      · exact z4.2.1 y hy
      · unfold okClm withinB outB moreC at *
        simp at hox ⊢
        omega
    · rw [List.nodup_append]
      refine ⟨hd, by simp, ?_⟩
      intro a ha b hb e
      simp [moreC] at hb
      obtain ⟨y, hy, rfl⟩ := List.mem_map.1 ha
      unfold findC at hk
      rw [List.find?_eq_none] at hk
      have := hk y hy
      simp at this
      omega
  unfold chkP
  simp [z1, z2, z3, z5]

theorem more_eq {l : List Std} {t : List Terms} {s : List Sent} {c d d' : List Clm} {x : Clm} {k : Int} (h : chkP l t s c = 0) (h' : chkP l t s (c ++ [moreC c x k]) = 0) (hp : d.Perm c) (hs : d.Pairwise (fun x y => ¬ ltSet y x)) (hp' : d'.Perm (c ++ [moreC c x k])) (hs' : d'.Pairwise (fun x y => ¬ ltSet y x)) : ∃ o, (setF l t s d').2 = (setF l t s d).2 ++ [o] := by
  have e : d ++ [moreC c x k] = d' := by
    refine set_uniq (hp.append_right _) ?_ hp' hs' (chk_nodup h')
    rw [List.pairwise_append]
    refine ⟨hs, List.pairwise_singleton _ _, ?_⟩
    intro a ha b hb
    simp at hb; subst hb
    have := lastT_ge (hp.mem_iff.1 ha)
    unfold ltSet moreC
    simp
    omega
  subst e
  refine ⟨stepO l t s (setF l t s d).1 (moreC c x k), ?_⟩
  unfold setF
  rw [List.foldl_append]
  rfl

/-- Of n claims, not all of the numbers 1 to n + 1 are taken. -/
theorem taken_le {c : List Clm} {k : Nat} (h : ∀ j : Nat, 1 ≤ j → j ≤ k → findC c j ≠ none) : k ≤ c.length := by
  have key : ∀ (k : Nat) (xs : List Int), (∀ j : Nat, 1 ≤ j → j ≤ k → (j : Int) ∈ xs) → k ≤ xs.length := by
    intro k
    induction k with
    | zero => intro xs _; omega
    | succ k ih =>
      intro xs hx
      have hm := hx (k + 1) (by omega) (by omega)
      have := ih (xs.erase ((k + 1 : Nat) : Int)) (fun j h1 h2 => by
        rw [List.mem_erase_of_ne (by omega)]
        exact hx j h1 (by omega))
      rw [List.length_erase_of_mem hm] at this
      have := List.length_pos_of_mem hm
      omega
  have := key k (c.map (·.id)) (fun j h1 h2 => by
    have := h j h1 h2
    unfold findC at this
    cases e : c.find? (fun x => x.id == (j : Int)) with
    | none => exact absurd e this
    | some y =>
      have h3 := List.find?_some e
      have h4 := List.mem_of_find?_eq_some e
      simp at h3
      rw [← h3]
      exact List.mem_map_of_mem h4)
  simpa using this
end Go.Proofs.YtnnppnlekpadnaaGreat
