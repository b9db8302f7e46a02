/- What is known of the outcomes that Settle returns: plain Lean. -/
import Derived.Test.YtnnppnlekpadnaaGreatFind
import Derived.Test.YtnnppnlekpadnaaGreatLaterP
namespace Go.Proofs.YtnnppnlekpadnaaGreat
open Go.RowKit Go.Proofs

theorem setF_at (l : List Std) (t : List Terms) (s : List Sent) : ∀ (d : List Clm) (p : List Int × List Outc) (j : Nat) (x : Clm), d[j]? = some x → (d.foldl (stepS l t s) p).2[p.2.length + j]? = some (stepO l t s ((d.take j).foldl (stepS l t s) p).1 x)
  | [], _, _, _, h => by simp at h
  | y :: r, p, 0, x, h => by
    simp at h; subst h
    rw [List.foldl_cons]
    have key : ∀ (r : List Clm) (q : List Int × List Outc) (k : Nat), k < q.2.length → (r.foldl (stepS l t s) q).2[k]? = q.2[k]? := by
      intro r
      induction r with
      | nil => intro q k _; rfl
      | cons z r ih =>
        intro q k hk
        rw [List.foldl_cons, ih _ _ (by simp [stepS]; omega)]
        simp only [stepS]
        rw [List.getElem?_append_left hk]
    rw [key r _ _ (by simp [stepS])]
    simp [stepS]
  | y :: r, p, j + 1, x, h => by
    rw [List.foldl_cons, List.take_succ_cons, List.foldl_cons]
    have := setF_at l t s r (stepS l t s p y) j x (by simpa using h)
    rw [← this]
    congr 1
    simp [stepS]; omega

theorem decP_clm (l : List Std) (t : List Terms) (s : List Sent) (c : Clm) : (decP l t s c).clm = c.id := by
  unfold decP
  split
  · rfl
  · split
    · rfl
    · split
      · unfold tableP
        simp only
        repeat' split
        all_goals rfl
      · rfl
theorem stepO_clm (l : List Std) (t : List Terms) (s : List Sent) (p : List Int) (c : Clm) : (stepO l t s p c).clm = c.id := by
  unfold stepO
  split
  · rfl
  · exact decP_clm l t s c

theorem findC_mem {c : List Clm} (hn : (c.map (·.id)).Nodup) {x : Clm} (hx : x ∈ c) : findC c x.id = some x := by
  induction c with
  | nil => simp at hx
  | cons y r ih =>
    unfold findC
    rw [List.find?_cons]
    rw [List.map_cons, List.nodup_cons] at hn
    rcases List.mem_cons.1 hx with rfl | hx
    · simp
    · have : (y.id == x.id) = false := by
        simp only [beq_eq_false_iff_ne]
        intro e
        exact hn.1 (e ▸ List.mem_map_of_mem hx)
      rw [this]
      exact ih hn.2 hx

/-- The claims in their order: each behind the one before it. -/
theorem set_lt {c d : List Clm} (hp : d.Perm c) (hs : d.Pairwise (fun x y => ¬ ltSet y x)) (hn : (c.map (·.id)).Nodup) {i j : Nat} {x y : Clm} (hij : i < j) (hx : d[i]? = some x) (hy : d[j]? = some y) : ltSet x y := by
  have hnd : (d.map (·.id)).Nodup := (hp.map _).nodup_iff.2 hn
  have h1 : i < d.length := (List.getElem?_eq_some_iff.1 hx).1
  have h2 : j < d.length := (List.getElem?_eq_some_iff.1 hy).1
  have e1 := (List.getElem?_eq_some_iff.1 hx).2
  have e2 := (List.getElem?_eq_some_iff.1 hy).2
  have hne : x.id ≠ y.id := by
    have := List.pairwise_iff_getElem.1 hnd i j (by simpa using h1) (by simpa using h2) hij
    simpa [e1, e2] using this
  have := List.pairwise_iff_getElem.1 hs i j h1 h2 hij
  rw [e1, e2] at this
  unfold ltSet at *
  omega

theorem decP_pos {l : List Std} {t : List Terms} {s : List Sent} {c : Clm} (rt : rightTerms t = true) (rc : okClm c = true) : 0 ≤ (decP l t s c).cents ∧ ((decP l t s c).cents ≠ 0 → (decP l t s c).ver = 6) := by
  have oc := okC_of rc
  unfold decP
  split
  · simp
  · rename_i x hx
    split
    · simp
    · rename_i y hy
      have oy := okY_of ((allB_ok rt).2.1 y (List.mem_of_find?_eq_some hy))
      split
      · have := tableP_bd (x := x) (p := (promP l x.cl x.fr x.to x.acc).1) oc oy
        exact ⟨this.1, this.2.2.2.2.2⟩
      · simp
theorem stepO_pos {l : List Std} {t : List Terms} {s : List Sent} {p : List Int} {c : Clm} (rt : rightTerms t = true) (rc : okClm c = true) : 0 ≤ (stepO l t s p c).cents ∧ ((stepO l t s p c).cents ≠ 0 → (stepO l t s p c).ver = 6) := by
  unfold stepO
  split
  · simp
  · exact decP_pos rt rc

/-- Decide, of one of claims that are right. -/
theorem deciP_of {l : List Std} {t : List Terms} {s : List Sent} {c : List Clm} {x : Clm} (h : chkP l t s c = 0) (hx : x ∈ c) : deciP l t s x = (decP l t s x, 0) := by
  obtain ⟨z1, z2, z3, z4⟩ := chkP_zero h
  have hok : okClm x = true := by
    unfold rightClm at z4; simp at z4
    exact z4.2.1 x hx
  have h1 : rightClm [x] = true := by unfold rightClm; simp [hok]
  unfold deciP
  rw [if_pos]
  unfold chkP
  simp [z1, z2, z3, h1]
theorem chk_nodup {l : List Std} {t : List Terms} {s : List Sent} {c : List Clm} (h : chkP l t s c = 0) : (c.map (·.id)).Nodup := by
  obtain ⟨_, _, _, z4⟩ := chkP_zero h
  unfold rightClm at z4; simp at z4
  exact z4.2.2
end Go.Proofs.YtnnppnlekpadnaaGreat
