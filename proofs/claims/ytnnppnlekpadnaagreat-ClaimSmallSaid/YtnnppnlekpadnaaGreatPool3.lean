/- The same, where operations have guards. -/
import Derived.Test.YtnnppnlekpadnaaGreatSmall0
namespace Go.Proofs.YtnnppnlekpadnaaGreat
open Go.RowKit Go.Proofs
set_option maxRecDepth 100000

section
variable {P : Program} {ops : Array Oper} {md : Region.Mode}
def poolC (md : Region.Mode) (ops : Array Oper) (listed0 : Array Bool) (H : List Nat) : Bool :=
  ((subs H).all fun S => decide (S.length = H.length) || !closedB md ops (setAll S listed0) S || (let r := Region.ready md ops (setAll S listed0); !r.isEmpty && r.all fun i => H.contains i)) &&
  (H.all fun i => !listed0.getD i true)

theorem wpAny_poolH {Q : Exit → Act → World → Prop} {listed0 : Array Bool} {H : List Nat} {D : List Tmp} {R : Nat → Value → World → Prop} {a0 : Act} {w0 : World} {g : Nat} (hR : ∀ k v w w', R k v w → Below w.heap.size w w' → R k v w') (hnH : H.Nodup) (hnd : D.Nodup) (hlen : D.length = H.length) (hlt : ∀ d ∈ D, d < a0.tmps.size)
    (hH : ∀ i ∈ H, i < listed0.size) (hB : poolC md ops listed0 H = true) (hgd : ∀ i ∈ H, ∀ o, ops[i]? = some o → ∀ a : Act, (∀ t, t ∉ D → a.tmps[t]? = a0.tmps[t]?) → Region.wanted o (yielded ops a.tmps) = true) (hops : PoolAll P md ops Q H D R a0 w0 H.length)
    (hdone : ∀ w, Below w0.heap.size w0 w → PoolDone R w (fun a' => wpAny P md ops Q g (setAll H listed0) a' w) 0 D a0) :
    ∀ (f : Nat) (listed : Array Bool) (a : Act) (w : World), Pool md ops listed0 H D R a0 w0 listed a w → (H.filter fun j => !listed.getD j false).length = f → wpAny P md ops Q (f + g) listed a w
  | 0, listed, a, w, p, h => by
    rw [Nat.zero_add]
    have hall : ∀ i ∈ H, listed.getD i false = true := fun i hi => by
      have h0 := List.eq_nil_of_length_eq_zero h
      rw [List.filter_eq_nil_iff] at h0
      simpa using h0 i hi
    have hlist : listed = setAll H listed0 := by
      apply Array.ext_getElem?
      intro j
      rw [setAll_get]
      by_cases hj : j ∈ H
      · have h1 := hH j hj
        have h2 := hall j hj
        have h3 : j < listed.size := by rw [p.lsize]; exact h1
        rw [if_pos ⟨hj, h1⟩]
        simp [h3] at h2 ⊢
        exact h2
      · rw [if_neg (fun h => hj h.1)]; exact p.lother j hj
    rw [hlist]
    exact PoolDone.out (R := R) (w := w) (G := fun a' => wpAny P md ops Q g (setAll H listed0) a' w) D 0 a0 a p.defers p.size p.other (fun k d hk => by
      rw [Nat.zero_add]
      have hk' : k < H.length := by rw [← hlen]; exact (List.getElem?_eq_some_iff.1 hk).1
      exact p.got k _ d (List.getElem?_eq_getElem hk') hk (hall _ (List.getElem_mem _))) (hdone w p.below)
  | f + 1, listed, a, w, p, h => by
    rw [show f + 1 + g = (f + g) + 1 by omega]
    simp only [poolC, Bool.and_eq_true] at hB
    obtain ⟨hB1, hB2⟩ := hB
    have hS := List.all_eq_true.1 hB1 _ (filter_subs (fun j => listed.getD j false) H)
    have hlist : setAll (H.filter fun j => listed.getD j false) listed0 = listed := by
      apply Array.ext_getElem?
      intro j
      rw [setAll_get]
      by_cases hj : j ∈ H
      · have h1 := hH j hj
        have h3 : j < listed.size := by rw [p.lsize]; exact h1
        cases e : listed.getD j false with
        | true =>
          rw [if_pos ⟨by rw [List.mem_filter]; exact ⟨hj, e⟩, h1⟩]
          simp [h3] at e ⊢; exact e
        | false =>
          rw [if_neg (fun h => by have := (List.mem_filter.1 h.1).2; rw [e] at this; cases this)]
          have := List.all_eq_true.1 hB2 j hj
          simp only [Bool.not_eq_true'] at this
          have h4 := this
          simp [h1] at h4
          simp [h3] at e
          simp [h1, h3, h4, e]
      · rw [if_neg (fun h => hj (List.mem_filter.1 h.1).1)]; exact (p.lother j hj).symm
    have hne : (H.filter fun j => listed.getD j false).length ≠ H.length := by
      intro e
      have h1 : (H.filter fun j => listed.getD j false) = H := List.filter_eq_self.2 (by
        intro x hx
        exact (List.length_filter_eq_length_iff.1 e) x hx)
      have h0 : (H.filter fun j => !listed.getD j false) = [] := by
        rw [List.filter_eq_nil_iff]
        intro x hx
        have := List.filter_eq_self.1 h1 x hx
        simp [this]
      rw [h0] at h
      simp at h
    rw [hlist] at hS
    simp only [Bool.or_eq_true, decide_eq_true_eq, Bool.and_eq_true, Bool.not_eq_true', List.isEmpty_eq_false_iff] at hS
    have hcl : closedB md ops listed (H.filter fun j => listed.getD j false) = true := by
      unfold closedB
      rw [List.all_eq_true]
      intro i hi
      obtain ⟨h1, h2⟩ := List.mem_filter.1 hi
      cases ho : ops[i]? with
      | none => rfl
      | some o =>
        simp only [Array.all_eq_true_iff_forall_mem, Bool.or_eq_true, Bool.not_eq_true']
        intro e he
        cases hbi : Region.binds md e with
        | false => exact .inl rfl
        | true => exact .inr (p.closed i h1 h2 o ho e he hbi)
    rw [hcl] at hS
    replace hS := (hS.resolve_left (fun h => h.elim hne (fun h => by cases h)))
    refine ⟨fun h0 => absurd h0 hS.1, fun i hi => ?_⟩
    have hiH : i ∈ H := by have := List.all_eq_true.1 hS.2 i hi; simpa using this
    obtain ⟨hiun, o, ho, hall⟩ := mem_ready.1 hi
    obtain ⟨k, hk⟩ := List.mem_iff_getElem?.1 hiH
    have hkl : k < H.length := (List.getElem?_eq_some_iff.1 hk).1
    obtain ⟨d, hd⟩ : ∃ d, D[k]? = some d := ⟨_, List.getElem?_eq_getElem (by rw [hlen]; exact hkl)⟩
    refine wpOp_step ho fun K hK => ?_
    rw [if_pos (hgd i hiH o ho a p.other)]
    refine hops.at k hkl i o d hk ho hd a w p.below p.other (fun j ij dj hj hjD hjd => p.got j ij dj hj hjD ?_) K (fun v w' hbv hrv => hK _ _ ?_)
    · obtain ⟨e, he, he2⟩ := Array.any_eq_true'.1 hjd
      simp only [Bool.and_eq_true, beq_iff_eq] at he2
      have := hall e he he2.1
      rw [he2.2] at this
      exact this
    · exact wpAny_poolH hR hnH hnd hlen hlt hH (by simp only [poolC, Bool.and_eq_true]; exact ⟨hB1, hB2⟩) hgd hops hdone f _ _ _ (p.step hR hnH hnd hlt hk hd hbv hrv hi) (by
        have := filter_len_set hnH hiH (getD_both hiun) (by rw [p.lsize]; exact hH i hiH)
        omega)

end

/-- The whole: at a state of the region, the operations H (their slots: D) come in whatever order. -/
theorem wpAny_poolW {P : Program} {md : Region.Mode} {ops : Array Oper} {Q : Exit → Act → World → Prop} {a0 : Act} {w0 : World} {f : Nat} {listed0 : Array Bool} (H : List Nat) (D : List Tmp) (R : Nat → Value → World → Prop)
    (hnH : H.Nodup) (hnd : D.Nodup) (hlen : D.length = H.length) (hlt : ∀ d ∈ D, d < a0.tmps.size) (hH : ∀ i ∈ H, i < listed0.size) (hf : H.length ≤ f) (hB : poolC md ops listed0 H = true) (hgd : ∀ i ∈ H, ∀ o, ops[i]? = some o → ∀ a : Act, (∀ t, t ∉ D → a.tmps[t]? = a0.tmps[t]?) → Region.wanted o (yielded ops a.tmps) = true)
    (hR : ∀ k v w w', R k v w → Below w.heap.size w w' → R k v w') (hops : PoolAll P md ops Q H D R a0 w0 H.length)
    (hdone : ∀ w, Below w0.heap.size w0 w → PoolDone R w (fun a' => wpAny P md ops Q (f - H.length) (setAll H listed0) a' w) 0 D a0) : wpAny P md ops Q f listed0 a0 w0 := by
  have hun : ∀ i ∈ H, listed0.getD i false = false := fun i hi => by
    simp only [poolC, Bool.and_eq_true] at hB
    have := List.all_eq_true.1 hB.2 i hi
    simp only [Bool.not_eq_true'] at this
    exact getD_both this
  have hfl : (H.filter fun j => !listed0.getD j false) = H := List.filter_eq_self.2 fun i hi => by rw [hun i hi]; rfl
  have := wpAny_poolH (g := f - H.length) hR hnH hnd hlen hlt hH hB hgd hops hdone H.length listed0 a0 w0 ⟨rfl, fun _ _ => rfl, fun i hi hl => (by rw [hun i hi] at hl; cases hl), Below.refl _ _, rfl, rfl, fun _ _ => rfl, fun k i d hi _ hl => (by rw [hun i (List.mem_of_getElem? hi)] at hl; cases hl)⟩ (by rw [hfl])
  rwa [show H.length + (f - H.length) = f by omega] at this

/-- One operation that alone may come up. -/
theorem wpAny_oneW {P : Program} {md : Region.Mode} {ops : Array Oper} {Q : Exit → Act → World → Prop} {f : Nat} {listed : Array Bool} {a : Act} {w : World} (k : Nat) {o : Oper} (hr : Region.ready md ops listed = [k]) (ho : ops[k]? = some o) (hg : Region.wanted o (yielded ops a.tmps) = true)
    (h : ∀ K : Act → World → Prop, (∀ a' w', wpAny P md ops Q f (listed.setIfInBounds k true) a' w' → K a' w') → Oper.wp P o a w K Q) : wpAny P md ops Q (f + 1) listed a w := by
  refine wpAny_all hr (by simp) fun i hi => ?_
  have : i = k := by simpa using hi
  subst this
  refine wpOp_step ho fun K hK => ?_
  rw [if_pos hg]
  exact h K hK

theorem wanted_none {o : Oper} {y : Nat → Option Bool} (h : o.guard = none) : Region.wanted o y = true := by simp [Region.wanted, h]
theorem wanted_some {ops : Array Oper} {o oj : Oper} {a0 a : Act} {D : List Tmp} {j : Nat} {t : Tmp} (h : o.guard = some (j, true)) (hj : ops[j]? = some oj) (hd : oj.dst = some t) (ht : t ∉ D) (hv : a0.tmps[t]? = some (.bool true)) (ho : ∀ t, t ∉ D → a.tmps[t]? = a0.tmps[t]?) : Region.wanted o (yielded ops a.tmps) = true := by
  have : a.tmps[t]? = some (.bool true) := (ho t ht).trans hv
  simp [Region.wanted, h, yielded, hj, hd, this]

section
variable {P : Program} {ops : Array Oper} {md : Region.Mode} {Q : Exit → Act → World → Prop} {H : List Nat} {D : List Tmp} {R : Nat → Value → World → Prop} {a0 : Act} {w0 : World} {k : Nat}
theorem pool_assign (ds d : Tmp) (js ijs : Nat) {i : Nat} {o : Oper} (hi : H[k]? = some i) (ho : ops[i]? = some o) (hop : o.op = .assign (.tmp ds)) (hdst : o.dst = some d) (hd : D[k]? = some d) (his : H[js]? = some ijs) (hs : D[js]? = some ds) (hds : (o.after.any fun e => Region.binds md e && e.on == ijs) = true)
    (hR : ∀ v w, R js v w → R k v w) : PoolOp P md ops Q H D R a0 w0 k := by
  intro i' o' d' hi' ho' hd' a w hb hoth hgot K hK
  rw [hi] at hi'; cases hi'
  rw [ho] at ho'; cases ho'
  rw [hd] at hd'; cases hd'
  obtain ⟨v, hv, hvR⟩ := hgot js ijs ds his hs hds
  have e := eval_tmp hv
  unfold Oper.wp
  simp [execOp, hop, e, hdst, Oper.upon_value]
  exact hK _ _ (Below.refl _ _) (hR _ _ hvR)
theorem pool_oneOf {α : Type} (enc : α → List Value) (x : α) (t e : TypeId) (size : Nat) (dx d : Tmp) (jx ijx : Nat) (val : Value) {i : Nat} {o : Oper} (ie : TypeInfo) (z : Value) (hu : P.underlying t = some (.slice e)) (hie : P.info? e = some ie) (hz : ie.zero = some z) (hsize : ie.size = size) (hsmall : ¬ size > 2 ^ 24) (hpos : 0 < size)
    (hf : Instr.fill (fun i => some (i * size, size)) ((Array.range (1 * size)).map (z.cells[· % z.cells.size]!)) [(0, val)] = some (enc x).toArray)
    (hi : H[k]? = some i) (ho : ops[i]? = some o) (hop : o.op = .buildSlice t 1 #[(0, .tmp dx)]) (hdst : o.dst = some d) (hd : D[k]? = some d) (hix : H[jx]? = some ijx) (hx : D[jx]? = some dx) (hdx : (o.after.any fun e => Region.binds md e && e.on == ijx) = true)
    (hRx : ∀ v w, R jx v w → v = val) (hRk : ∀ v w, OneOf enc e w0.heap.size x v w → R k v w) : PoolOp P md ops Q H D R a0 w0 k := by
  intro i' o' d' hi' ho' hd' a w hb hoth hgot K hK
  rw [hi] at hi'; cases hi'
  rw [ho] at ho'; cases ho'
  rw [hd] at hd'; cases hd'
  obtain ⟨u, hu', huR⟩ := hgot jx ijx dx hix hx hdx
  have e2 := eval_tmp hu'
  obtain rfl := hRx _ _ huR
  subst hsize
  refine wp_buildSlice t e 1 _ hop _ ie z hu hie hz (by omega) (by omega) (by simpa [e2] using hf) ?_
  rw [hdst]
  exact hK _ _ ((Below.refl _ _).alloc (Nat.le_refl _) _) (hRk _ _ ⟨_, rfl, hb.size, Blk.new rfl⟩)
end
end Go.Proofs.YtnnppnlekpadnaaGreat
