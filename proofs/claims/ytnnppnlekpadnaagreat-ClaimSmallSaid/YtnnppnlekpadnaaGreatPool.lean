/- A region that draws its order, whose first operations read or make memory of their own: each is met once, in whatever world it comes; what is known of its value holds on. -/
import Derived.Test.YtnnppnlekpadnaaGreatSpread
import Derived.Great.BuildSlice
namespace Go.Proofs.YtnnppnlekpadnaaGreat
open Go.RowKit Go.Proofs
set_option maxRecDepth 100000

section
variable {P : Program} {ops : Array Oper} {md : Region.Mode}

theorem wpAny_more {Q : Exit → Act → World → Prop} : ∀ (f : Nat) (listed : Array Bool) (a : Act) (w : World), wpAny P md ops Q f listed a w → wpAny P md ops Q (f + 1) listed a w
  | 0, listed, a, w, h => ⟨fun _ => h.2, by rw [h.1]; simp⟩
  | f + 1, listed, a, w, h => ⟨h.1, fun i hi => wpOp_mono (fun a' w' h' => wpAny_more f _ a' w' h') (h.2 i hi)⟩
theorem wpAny_le {Q : Exit → Act → World → Prop} {f f' : Nat} (hf : f ≤ f') {listed : Array Bool} {a : Act} {w : World} (h : wpAny P md ops Q f listed a w) : wpAny P md ops Q f' listed a w := by
  induction hf with
  | refl => exact h
  | step _ ih => exact wpAny_more _ _ _ _ ih

/-- All parts of a list, in its order. -/
def subs : List Nat → List (List Nat)
  | [] => [[]]
  | x :: r => subs r ++ (subs r).map (x :: ·)
theorem filter_subs (p : Nat → Bool) : ∀ H : List Nat, H.filter p ∈ subs H
  | [] => by simp [subs]
  | x :: r => by
    unfold subs
    rw [List.filter_cons, List.mem_append]
    split
    · exact .inr (List.mem_map_of_mem (filter_subs p r))
    · exact .inl (filter_subs p r)
def setAll (S : List Nat) (listed : Array Bool) : Array Bool := S.foldl (fun l i => l.setIfInBounds i true) listed
theorem setAll_size : ∀ (S : List Nat) (listed : Array Bool), (setAll S listed).size = listed.size
  | [], _ => rfl
  | i :: S, listed => by unfold setAll; rw [List.foldl_cons]; have := setAll_size S (listed.setIfInBounds i true); unfold setAll at this; rw [this]; simp
theorem setAll_get : ∀ (S : List Nat) (listed : Array Bool) (j : Nat), (setAll S listed)[j]? = if j ∈ S ∧ j < listed.size then some true else listed[j]?
  | [], listed, j => by simp [setAll]
  | i :: S, listed, j => by
    have := setAll_get S (listed.setIfInBounds i true) j
    unfold setAll at this ⊢
    rw [List.foldl_cons, this]
    simp only [Array.size_setIfInBounds, List.mem_cons]
    by_cases h1 : j ∈ S
    · by_cases h2 : j < listed.size
      · simp [h1, h2]
      · simp [h1, h2, Array.getElem?_eq_none (Nat.le_of_not_lt h2)]
    · by_cases h3 : j = i
      · subst h3
        by_cases h2 : j < listed.size
        · simp [h1, h2]
        · simp [h1, h2]
      · simp [h1, h3, Array.getElem?_setIfInBounds_ne (Ne.symm h3)]

/-- As long as one of H is to come, some of H may come up, and nothing else; none has a guard. -/
def closedB (md : Region.Mode) (ops : Array Oper) (listed : Array Bool) (S : List Nat) : Bool :=
  S.all fun i => match ops[i]? with | some o => o.after.all fun e => !Region.binds md e || listed.getD e.on false | none => true
def poolB (md : Region.Mode) (ops : Array Oper) (listed0 : Array Bool) (H : List Nat) : Bool :=
  ((subs H).all fun S => decide (S.length = H.length) || !closedB md ops (setAll S listed0) S || (let r := Region.ready md ops (setAll S listed0); !r.isEmpty && r.all fun i => H.contains i)) &&
  (H.all fun i => (match ops[i]? with | some o => o.guard.isNone | none => false) && !listed0.getD i true)

/-- The state: what is known of the values that are there. -/
structure Pool (md : Region.Mode) (ops : Array Oper) (listed0 : Array Bool) (H : List Nat) (D : List Tmp) (R : Nat → Value → World → Prop) (a0 : Act) (w0 : World) (listed : Array Bool) (a : Act) (w : World) : Prop where
  lsize : listed.size = listed0.size
  lother : ∀ j, j ∉ H → listed[j]? = listed0[j]?
  closed : ∀ i ∈ H, listed.getD i false = true → ∀ o, ops[i]? = some o → ∀ e ∈ o.after, Region.binds md e = true → listed.getD e.on false = true
  below : Below w0.heap.size w0 w
  defers : a.defers = a0.defers
  size : a.tmps.size = a0.tmps.size
  other : ∀ t, t ∉ D → a.tmps[t]? = a0.tmps[t]?
  got : ∀ (k i : Nat) (d : Tmp), H[k]? = some i → D[k]? = some d → listed.getD i false = true → ∃ v, a.tmps[d]? = some v ∧ R k v w

/-- One operation, in whatever world it comes. -/
def PoolOp (P : Program) (md : Region.Mode) (ops : Array Oper) (Q : Exit → Act → World → Prop) (H : List Nat) (D : List Tmp) (R : Nat → Value → World → Prop) (a0 : Act) (w0 : World) (k : Nat) : Prop :=
  ∀ i o d, H[k]? = some i → ops[i]? = some o → D[k]? = some d → ∀ (a : Act) (w : World), Below w0.heap.size w0 w → (∀ t, t ∉ D → a.tmps[t]? = a0.tmps[t]?) →
    (∀ (j ij : Nat) (dj : Tmp), H[j]? = some ij → D[j]? = some dj → (o.after.any fun e => Region.binds md e && e.on == ij) = true → ∃ v, a.tmps[dj]? = some v ∧ R j v w) →
    ∀ K : Act → World → Prop, (∀ v w', Below w.heap.size w w' → R k v w' → K (a.put (some d) v) w') → Oper.wp P o a w K Q

def PoolAll (P : Program) (md : Region.Mode) (ops : Array Oper) (Q : Exit → Act → World → Prop) (H : List Nat) (D : List Tmp) (R : Nat → Value → World → Prop) (a0 : Act) (w0 : World) : Nat → Prop
  | 0 => True
  | k + 1 => PoolAll P md ops Q H D R a0 w0 k ∧ PoolOp P md ops Q H D R a0 w0 k
theorem PoolAll.at {Q : Exit → Act → World → Prop} {H : List Nat} {D : List Tmp} {R : Nat → Value → World → Prop} {a0 : Act} {w0 : World} : ∀ {n : Nat}, PoolAll P md ops Q H D R a0 w0 n → ∀ k, k < n → PoolOp P md ops Q H D R a0 w0 k
  | 0, _, _, h => absurd h (Nat.not_lt_zero _)
  | n + 1, h, k, hk => by
    by_cases e : k = n
    · subst e; exact h.2
    · exact PoolAll.at h.1 k (by omega)

/-- All values are there: the frame, written out. -/
def PoolDone (R : Nat → Value → World → Prop) (w : World) (G : Act → Prop) : Nat → List Tmp → Act → Prop
  | _, [], a => G a
  | k, d :: D, a => ∀ v, R k v w → PoolDone R w G (k + 1) D (a.put (some d) v)

theorem PoolDone.out {R : Nat → Value → World → Prop} {w : World} {G : Act → Prop} : ∀ (D : List Tmp) (k0 : Nat) (a0 a : Act), a.defers = a0.defers → a.tmps.size = a0.tmps.size → (∀ t, t ∉ D → a.tmps[t]? = a0.tmps[t]?) →
    (∀ (k : Nat) (d : Tmp), D[k]? = some d → ∃ v, a.tmps[d]? = some v ∧ R (k0 + k) v w) → PoolDone R w G k0 D a0 → G a
  | [], k0, a0, a, h1, h2, h3, h4, h => by
    have : a = a0 := by
      cases a; cases a0
      simp only at h1 h2 h3
      subst h1
      congr 1
      exact Array.ext_getElem? fun i => h3 i (by simp)
    rw [this]; exact h
  | d :: D, k0, a0, a, h1, h2, h3, h4, h => by
    obtain ⟨v, hv, hr⟩ := h4 0 d rfl
    have hd : d < a0.tmps.size := by rw [← h2]; exact (Array.getElem?_eq_some_iff.1 hv).1
    refine PoolDone.out D (k0 + 1) (a0.put (some d) v) a h1 (by simp [Act.put, h2]) (fun t ht => ?_) (fun k d' hk => ?_) (h v hr)
    · by_cases e : t = d
      · subst e
        rw [hv]
        simp [Act.put, hd]
      · rw [h3 t (by simp [e, ht])]
        simp only [Act.put]
        rw [Array.getElem?_setIfInBounds_ne (Ne.symm e)]
    · have := h4 (k + 1) d' hk
      rw [show k0 + 1 + k = k0 + (k + 1) by omega]
      exact this

theorem nodup_at {α : Type} {H : List α} (hnd : H.Nodup) {i k : Nat} {x : α} (h1 : H[i]? = some x) (h2 : H[k]? = some x) : i = k := by
  have h3 := (List.getElem?_eq_some_iff.1 h1)
  have h4 := (List.getElem?_eq_some_iff.1 h2)
  rcases Nat.lt_trichotomy i k with h | h | h
  · exact absurd (h3.2.trans h4.2.symm) (List.pairwise_iff_getElem.1 hnd i k h3.1 h4.1 h)
  · exact h
  · exact absurd (h4.2.trans h3.2.symm) (List.pairwise_iff_getElem.1 hnd k i h4.1 h3.1 h)

theorem Pool.step {listed0 : Array Bool} {H : List Nat} {D : List Tmp} {R : Nat → Value → World → Prop} {a0 : Act} {w0 : World} {listed : Array Bool} {a : Act} {w w' : World} {k i : Nat} {d : Tmp} {v : Value} (hR : ∀ k v w w', R k v w → Below w.heap.size w w' → R k v w') (hnH : H.Nodup) (hnd : D.Nodup) (hlt : ∀ d ∈ D, d < a0.tmps.size)
    (p : Pool md ops listed0 H D R a0 w0 listed a w) (hi : H[k]? = some i) (hd : D[k]? = some d) (hb : Below w.heap.size w w') (hr : R k v w') (hrd : i ∈ Region.ready md ops listed) : Pool md ops listed0 H D R a0 w0 (listed.setIfInBounds i true) (a.put (some d) v) w' where
  lsize := by simp [p.lsize]
  lother j hj := by
    have e : i ≠ j := by rintro rfl; exact hj (List.mem_of_getElem? hi)
    rw [Array.getElem?_setIfInBounds_ne e]; exact p.lother j hj
  closed j hj hl o ho e he hbi := by
    by_cases hij : i = j
    · subst hij
      obtain ⟨_, oi, hoi, hall⟩ := mem_ready.1 hrd
      rw [ho] at hoi; cases hoi
      exact getD_set_true (hall e he hbi)
    · rw [getD_set_ne false hij] at hl
      exact getD_set_true (p.closed j hj hl o ho e he hbi)
  below := p.below.trans (hb.mono p.below.size)
  defers := p.defers
  size := by simp [Act.put, p.size]
  other t ht := by
    have e : d ≠ t := by rintro rfl; exact ht (List.mem_of_getElem? hd)
    simp only [Act.put]
    rw [Array.getElem?_setIfInBounds_ne e]
    exact p.other t ht
  got k' i' d' hi' hk hl := by
    by_cases e : k = k'
    · subst e
      rw [hd] at hk; cases hk
      have := hlt d (List.mem_of_getElem? hd)
      exact ⟨v, by simp [Act.put, p.size, this], hr⟩
    · have ei : i ≠ i' := by rintro rfl; exact e (nodup_at hnH hi hi')
      rw [getD_set_ne false ei] at hl
      obtain ⟨u, h1, h2⟩ := p.got k' i' d' hi' hk hl
      refine ⟨u, ?_, hR _ _ _ _ h2 hb⟩
      have hne : d ≠ d' := by rintro rfl; exact e (nodup_at hnd hd hk)
      simp only [Act.put]
      rw [Array.getElem?_setIfInBounds_ne hne]
      exact h1

theorem filter_len_set {H : List Nat} (hn : H.Nodup) {listed : Array Bool} {i : Nat} (hi : i ∈ H) (hl : listed.getD i false = false) (hs : i < listed.size) :
    (H.filter fun j => !(listed.setIfInBounds i true).getD j false).length + 1 = (H.filter fun j => !listed.getD j false).length := by
  induction H with
  | nil => simp at hi
  | cons x r ih =>
    rw [List.nodup_cons] at hn
    rw [List.filter_cons, List.filter_cons]
    by_cases e : i = x
    · subst e
      have h1 : (listed.setIfInBounds i true).getD i false = true := by simp [hs]
      have h2 : (r.filter fun j => !(listed.setIfInBounds i true).getD j false) = r.filter fun j => !listed.getD j false := by
        apply List.filter_congr
        intro j hj
        rw [getD_set_ne false (by rintro rfl; exact hn.1 hj)]
      rw [h1, hl, h2]; simp
    · have := ih hn.2 ((List.mem_cons.1 hi).resolve_left e)
      rw [getD_set_ne false e]
      cases listed.getD x false <;> simp at this ⊢ <;> omega

theorem wpAny_poolG {Q : Exit → Act → World → Prop} {listed0 : Array Bool} {H : List Nat} {D : List Tmp} {R : Nat → Value → World → Prop} {a0 : Act} {w0 : World} {g : Nat} (hR : ∀ k v w w', R k v w → Below w.heap.size w w' → R k v w') (hnH : H.Nodup) (hnd : D.Nodup) (hlen : D.length = H.length) (hlt : ∀ d ∈ D, d < a0.tmps.size)
    (hH : ∀ i ∈ H, i < listed0.size) (hB : poolB md ops listed0 H = true) (hops : PoolAll P md ops Q H D R a0 w0 H.length)
    (hdone : ∀ w, Below w0.heap.size w0 w → PoolDone R w (fun a' => wpAny P md ops Q g (setAll H listed0) a' w) 0 D a0) :
    ∀ (f : Nat) (listed : Array Bool) (a : Act) (w : World), Pool md ops listed0 H D R a0 w0 listed a w → (H.filter fun j => !listed.getD j false).length = f → wpAny P md ops Q (f + g) listed a w
  | 0, listed, a, w, p, h => by
    rw [Nat.zero_add]
    have hall : ∀ i ∈ H, listed.getD i false = true := fun i hi => by
      have h0 := List.eq_nil_of_length_eq_zero h
      rw [List.filter_eq_nil_iff] at h0
      simpa using h0 i hi
    have hlist : listed = setAll H listed0 := by
      apply Array.ext_getElem?
      intro j
      rw [setAll_get]
      by_cases hj : j ∈ H
      · have h1 := hH j hj
        have h2 := hall j hj
        have h3 : j < listed.size := by rw [p.lsize]; exact h1
        rw [if_pos ⟨hj, h1⟩]
        simp [h3] at h2 ⊢
        exact h2
      · rw [if_neg (fun h => hj h.1)]; exact p.lother j hj
    rw [hlist]
    exact PoolDone.out (R := R) (w := w) (G := fun a' => wpAny P md ops Q g (setAll H listed0) a' w) D 0 a0 a p.defers p.size p.other (fun k d hk => by
      rw [Nat.zero_add]
      have hk' : k < H.length := by rw [← hlen]; exact (List.getElem?_eq_some_iff.1 hk).1
      exact p.got k _ d (List.getElem?_eq_getElem hk') hk (hall _ (List.getElem_mem _))) (hdone w p.below)
  | f + 1, listed, a, w, p, h => by
    rw [show f + 1 + g = (f + g) + 1 by omega]
    simp only [poolB, Bool.and_eq_true] at hB
    obtain ⟨hB1, hB2⟩ := hB
    have hS := List.all_eq_true.1 hB1 _ (filter_subs (fun j => listed.getD j false) H)
    have hlist : setAll (H.filter fun j => listed.getD j false) listed0 = listed := by
      apply Array.ext_getElem?
      intro j
      rw [setAll_get]
      by_cases hj : j ∈ H
      · have h1 := hH j hj
        have h3 : j < listed.size := by rw [p.lsize]; exact h1
        cases e : listed.getD j false with
        | true =>
          rw [if_pos ⟨by rw [List.mem_filter]; exact ⟨hj, e⟩, h1⟩]
          simp [h3] at e ⊢; exact e
        | false =>
          rw [if_neg (fun h => by have := (List.mem_filter.1 h.1).2; rw [e] at this; cases this)]
          have := List.all_eq_true.1 hB2 j hj
          simp only [Bool.and_eq_true, Bool.not_eq_true'] at this
          have h4 := this.2
          simp [h1] at h4
          simp [h3] at e
          simp [h1, h3, h4, e]
      · rw [if_neg (fun h => hj (List.mem_filter.1 h.1).1)]; exact (p.lother j hj).symm
    have hne : (H.filter fun j => listed.getD j false).length ≠ H.length := by
      intro e
      have h1 : (H.filter fun j => listed.getD j false) = H := List.filter_eq_self.2 (by
        intro x hx
        exact (List.length_filter_eq_length_iff.1 e) x hx)
      have h0 : (H.filter fun j => !listed.getD j false) = [] := by
        rw [List.filter_eq_nil_iff]
        intro x hx
        have := List.filter_eq_self.1 h1 x hx
        simp [this]
      rw [h0] at h
      simp at h
    rw [hlist] at hS
    simp only [Bool.or_eq_true, decide_eq_true_eq, Bool.and_eq_true, Bool.not_eq_true', List.isEmpty_eq_false_iff] at hS
    have hcl : closedB md ops listed (H.filter fun j => listed.getD j false) = true := by
      unfold closedB
      rw [List.all_eq_true]
      intro i hi
      obtain ⟨h1, h2⟩ := List.mem_filter.1 hi
      cases ho : ops[i]? with
      | none => rfl
      | some o =>
        simp only [Array.all_eq_true_iff_forall_mem, Bool.or_eq_true, Bool.not_eq_true']
        intro e he
        cases hbi : Region.binds md e with
        | false => exact .inl rfl
        | true => exact .inr (p.closed i h1 h2 o ho e he hbi)
    rw [hcl] at hS
    replace hS := (hS.resolve_left (fun h => h.elim hne (fun h => by cases h)))
    refine ⟨fun h0 => absurd h0 hS.1, fun i hi => ?_⟩
    have hiH : i ∈ H := by have := List.all_eq_true.1 hS.2 i hi; simpa using this
    obtain ⟨hiun, o, ho, hall⟩ := mem_ready.1 hi
    have hg : o.guard = none := by
      have := List.all_eq_true.1 hB2 i hiH
      simp only [ho, Bool.and_eq_true, Option.isNone_iff_eq_none] at this
      exact this.1
    obtain ⟨k, hk⟩ := List.mem_iff_getElem?.1 hiH
    have hkl : k < H.length := (List.getElem?_eq_some_iff.1 hk).1
    obtain ⟨d, hd⟩ : ∃ d, D[k]? = some d := ⟨_, List.getElem?_eq_getElem (by rw [hlen]; exact hkl)⟩
    refine wpOp_step ho fun K hK => ?_
    rw [if_pos (by simp [Region.wanted, hg])]
    refine hops.at k hkl i o d hk ho hd a w p.below p.other (fun j ij dj hj hjD hjd => p.got j ij dj hj hjD ?_) K (fun v w' hbv hrv => hK _ _ ?_)
    · obtain ⟨e, he, he2⟩ := Array.any_eq_true'.1 hjd
      simp only [Bool.and_eq_true, beq_iff_eq] at he2
      have := hall e he he2.1
      rw [he2.2] at this
      exact this
    · exact wpAny_poolG hR hnH hnd hlen hlt hH (by simp only [poolB, Bool.and_eq_true]; exact ⟨hB1, hB2⟩) hops hdone f _ _ _ (p.step hR hnH hnd hlt hk hd hbv hrv hi) (by
        have := filter_len_set hnH hiH (getD_both hiun) (by rw [p.lsize]; exact hH i hiH)
        omega)
end

/-- The whole: at a state of the region, the operations H (their slots: D) come in whatever order. -/
theorem wpAny_pool {P : Program} {md : Region.Mode} {ops : Array Oper} {Q : Exit → Act → World → Prop} {a0 : Act} {w0 : World} {f : Nat} {listed0 : Array Bool} (H : List Nat) (D : List Tmp) (R : Nat → Value → World → Prop)
    (hnH : H.Nodup) (hnd : D.Nodup) (hlen : D.length = H.length) (hlt : ∀ d ∈ D, d < a0.tmps.size) (hH : ∀ i ∈ H, i < listed0.size) (hf : H.length ≤ f) (hB : poolB md ops listed0 H = true)
    (hR : ∀ k v w w', R k v w → Below w.heap.size w w' → R k v w') (hops : PoolAll P md ops Q H D R a0 w0 H.length)
    (hdone : ∀ w, Below w0.heap.size w0 w → PoolDone R w (fun a' => wpAny P md ops Q (f - H.length) (setAll H listed0) a' w) 0 D a0) : wpAny P md ops Q f listed0 a0 w0 := by
  have hun : ∀ i ∈ H, listed0.getD i false = false := fun i hi => by
    simp only [poolB, Bool.and_eq_true] at hB
    have := List.all_eq_true.1 hB.2 i hi
    simp only [Bool.and_eq_true, Bool.not_eq_true'] at this
    exact getD_both this.2
  have hfl : (H.filter fun j => !listed0.getD j false) = H := List.filter_eq_self.2 fun i hi => by rw [hun i hi]; rfl
  have := wpAny_poolG (g := f - H.length) hR hnH hnd hlen hlt hH hB hops hdone H.length listed0 a0 w0 ⟨rfl, fun _ _ => rfl, fun i hi hl => (by rw [hun i hi] at hl; cases hl), Below.refl _ _, rfl, rfl, fun _ _ => rfl, fun k i d hi _ hl => (by rw [hun i (List.mem_of_getElem? hi)] at hl; cases hl)⟩ (by rw [hfl])
  rwa [show H.length + (f - H.length) = f by omega] at this

/-- One operation that alone may come up. -/
theorem wpAny_one {P : Program} {md : Region.Mode} {ops : Array Oper} {Q : Exit → Act → World → Prop} {f : Nat} {listed : Array Bool} {a : Act} {w : World} (k : Nat) {o : Oper} (hr : Region.ready md ops listed = [k]) (ho : ops[k]? = some o) (hg : o.guard = none)
    (h : ∀ K : Act → World → Prop, (∀ a' w', wpAny P md ops Q f (listed.setIfInBounds k true) a' w' → K a' w') → Oper.wp P o a w K Q) : wpAny P md ops Q (f + 1) listed a w := by
  refine wpAny_all hr (by simp) fun i hi => ?_
  have : i = k := by simpa using hi
  subst this
  refine wpOp_step ho fun K hK => ?_
  rw [if_pos (by simp [Region.wanted, hg])]
  exact h K hK
end Go.Proofs.YtnnppnlekpadnaaGreat
