/- The operations of such a region, one by one. -/
import Derived.Test.YtnnppnlekpadnaaGreatPool
import Derived.Test.YtnnppnlekpadnaaGreatSettle
namespace Go.Proofs.YtnnppnlekpadnaaGreat
open Go.RowKit Go.Proofs
set_option maxRecDepth 100000

theorem own_base {w : World} {base base' k n : Nat} {e : TypeId} {v : Value} {xs : List Value} (h : w.ownsRow base' e k v n xs) (hb : base ≤ base') : w.ownsRow base e k v n xs := by
  obtain ⟨h1, h2⟩ := h
  refine ⟨h1, h2.imp id ?_⟩
  rintro ⟨g, cap, cur, hv, hg, r⟩
  exact ⟨g, cap, cur, hv, Nat.le_trans hb hg, r⟩

/-- An empty slice in a block of its own. -/
def EmptyR (base : Nat) (e : TypeId) (k : Nat) (v : Value) (w : World) : Prop := ∃ g, v = .slice (some ⟨g, 0, none⟩) 0 0 ∧ base ≤ g ∧ w.ownsRow base e k v 0 []
theorem EmptyR.below {base : Nat} {e : TypeId} {k : Nat} {v : Value} {w w' : World} (h : EmptyR base e k v w) (hb : Below w.heap.size w w') : EmptyR base e k v w' := by
  obtain ⟨g, hv, hg, ho⟩ := h
  exact ⟨g, hv, hg, own_below ho hb⟩

section
variable {P : Program} {ops : Array Oper} {md : Region.Mode} {Q : Exit → Act → World → Prop} {H : List Nat} {D : List Tmp} {R : Nat → Value → World → Prop} {a0 : Act} {w0 : World} {k : Nat}

theorem eval_tmp {a : Act} {t : Tmp} {v : Value} (h : a.tmps[t]? = some v) : a.eval (.tmp t) = v := by
  show a.tmps.getD t undef = v
  have := (Array.getElem?_eq_some_iff.1 h).1
  simp [this] at h ⊢
  exact h

theorem pool_move (t : Tmp) (val : Value) (d : Tmp) {i : Nat} {o : Oper} (hi : H[k]? = some i) (ho : ops[i]? = some o) (hop : o.op = .move (.tmp t)) (hdst : o.dst = some d) (hd : D[k]? = some d) (ht : t ∉ D) (hv : a0.tmps[t]? = some val) (hRk : ∀ w, R k val w) : PoolOp P md ops Q H D R a0 w0 k := by
  intro i' o' d' hi' ho' hd' a w hb hoth hgot K hK
  rw [hi] at hi'; cases hi'
  rw [ho] at ho'; cases ho'
  rw [hd] at hd'; cases hd'
  have e : a.eval (.tmp t) = val := eval_tmp ((hoth t ht).trans hv)
  unfold Oper.wp
  simp [execOp, hop, e, hdst, Oper.upon_value]
  exact hK _ _ (Below.refl _ _) (hRk w)

theorem pool_empty (t e : TypeId) (size : Nat) (d : Tmp) {o : Oper} (ie : TypeInfo) (hu : P.underlying t = some (.slice e)) (hie : P.info? e = some ie) {i : Nat} (hi : H[k]? = some i) (ho : ops[i]? = some o) (hop : o.op = .buildSlice t 0 #[]) (hdst : o.dst = some d) (hd : D[k]? = some d)
    (hRk : ∀ v w, EmptyR w0.heap.size e size v w → R k v w) : PoolOp P md ops Q H D R a0 w0 k := by
  intro i' o' d' hi' ho' hd' a w hb hoth hgot K hK
  rw [hi] at hi'; cases hi'
  rw [ho] at ho'; cases ho'
  rw [hd] at hd'; cases hd'
  have hrun : (Instr.buildSlice t 0 #[]).run P w = .ok (.slice (some ⟨w.heap.size, 0, none⟩) 0 0) (w.alloc (.cells #[] e)) := by
    have e0 : Array.range 0 = #[] := rfl
    simp [Instr.buildSlice, run_underlying hu, sizeOf, typeInfo, hie, newRow, Instr.fill, e0]
  unfold Oper.wp
  simp [execOp, hop, hdst, hrun, Result.andThen, Oper.upon_value]
  refine hK _ _ ((Below.refl _ _).alloc (Nat.le_refl _) _) (hRk _ _ ⟨_, rfl, hb.size, ?_⟩)
  exact own_base (World.ownsRow_made w #[] 0 (Nat.le_refl _) (Nat.zero_le _) (by simp)) hb.size

theorem run_append_zero (w : World) (t ty e : TypeId) (i : TypeInfo) (ht : P.underlying t = some (.slice e)) (hi : P.info? e = some i) (b A : Option Addr) (n cap c : Nat) (hn : n ≤ cap) :
    (Builtin.append_ #[t, t] ty #[.slice b n cap, .slice A 0 c]).run P w = .ok (.slice b n cap) w := by
  cases A <;> cases b <;> simp [Builtin.append_, run_underlying ht, sizeOf, typeInfo, hi, Builtin.lenOf, Builtin.firstCells, loadCells, loadCellsFrom, hn, storeCells]

/-- Append of a whole slice to the empty one. -/
theorem pool_spread {α : Type} (enc : α → List Value) (size : Nat) (hk : ∀ x, (enc x).length = size) (h1 : ∀ x, ∀ u ∈ enc x, u.oneCell' = true) (t e : TypeId) (bytes : Nat) (z : Value) (ds dx d : Tmp) (js ijs : Nat) (A : Option Addr) (c : Nat) (xs : List α) {o : Oper}
    (ie : TypeInfo) (hu : P.underlying t = some (.slice e)) (hie : P.info? e = some ie) (hz : ie.zero = some z) (hsize : ie.size = size) (hby : ie.bytes = bytes) (hzs : z.cells.size = size) (hsz : 0 < size)
    {i : Nat} (hi : H[k]? = some i) (ho : ops[i]? = some o) (hop : o.op = .call { callee := .builtin .append, args := #[.tmp ds, .tmp dx], argTypes := #[t, t] }) (hdst : o.dst = some d) (hd : D[k]? = some d)
    (his : H[js]? = some ijs) (hs : D[js]? = some ds) (hds : (o.after.any fun e => Region.binds md e && e.on == ijs) = true) (hdx : dx ∉ D) (hvx : a0.tmps[dx]? = some (.slice A xs.length c))
    (hRs : ∀ v w, R js v w → EmptyR w0.heap.size e size v w) (hr : Rd enc size w0 A xs) (h63 : xs.length ≤ maxLen) (hbytes : xs.length * bytes ≤ 140737488355328)
    (hRk : ∀ v w, w.ownsRow w0.heap.size e size v xs.length (xs.flatMap enc) → R k v w) : PoolOp P md ops Q H D R a0 w0 k := by
  intro i' o' d' hi' ho' hd' a w hb hoth hgot K hK
  rw [hi] at hi'; cases hi'
  rw [ho] at ho'; cases ho'
  rw [hd] at hd'; cases hd'
  obtain ⟨v, hv, hvR⟩ := hgot js ijs ds his hs hds
  have e1 := eval_tmp hv
  have e2 : a.eval (.tmp dx) = .slice A xs.length c := eval_tmp ((hoth dx hdx).trans hvx)
  obtain ⟨g, rfl, hg, hown⟩ := hRs _ _ hvR
  have hrw := hr.below (Nat.le_refl _) hb
  by_cases hne : xs = []
  · subst hne
    have hrun := run_append_zero (P := P) w t o.type e ie hu hie (some ⟨g, 0, none⟩) A 0 0 c (Nat.le_refl _)
    unfold Oper.wp
    simp [execOp, hop, hdst, resolve, invoke, builtin, e1, e2, hrun, Result.andThen, Oper.upon_value]
    exact hK _ _ (Below.refl _ _) (hRk _ _ (by simpa using hown))
  · obtain ⟨b, off, hA, _⟩ := hrw hne
    subst hA
    have hnews := Rd.news hk hrw
    have hpos : 0 < xs.length := List.length_pos_iff.2 hne
    obtain ⟨v', w', hrun, r1, r2⟩ := run_append_arg_grows (P := P) w t o.type e ie z size bytes hu hie hz hsize hby hzs hsz ⟨g, 0, none⟩ 0 0 [] (by simp) (fun j u hj => by simp at hj) ⟨b, off, none⟩ xs.length c (xs.flatMap enc) (flat_length hk xs) hnews (by omega) (by omega) (by rw [Nat.zero_add]; exact hbytes)
    unfold Oper.wp
    simp [execOp, hop, hdst, resolve, invoke, builtin, e1, e2, hrun, Result.andThen, Oper.upon_value]
    refine hK _ _ ((Below.refl _ _).grown r2 (Nat.le_refl _) (fun k hk => by cases hk)) (hRk _ _ ?_)
    have := own_base r1 hb.size
    simpa using this

/-- A load of an aggregate whose cells are known in every world. -/
theorem pool_load (ty : TypeId) (t d : Tmp) (adr : Addr) (val : Value) {i : Nat} {o : Oper} (hi : H[k]? = some i) (ho : ops[i]? = some o) (hop : o.op = .load ty (.tmp t)) (hdst : o.dst = some d) (hd : D[k]? = some d) (ht : t ∉ D) (hv : a0.tmps[t]? = some (.pointer (some adr)))
    (hload : ∀ w, Below w0.heap.size w0 w → (Instr.loadAt ty (.pointer (some adr))).run P w = .ok val w) (hRk : ∀ w, R k val w) : PoolOp P md ops Q H D R a0 w0 k := by
  intro i' o' d' hi' ho' hd' a w hb hoth hgot K hK
  rw [hi] at hi'; cases hi'
  rw [ho] at ho'; cases ho'
  rw [hd] at hd'; cases hd'
  have e : a.eval (.tmp t) = .pointer (some adr) := eval_tmp ((hoth t ht).trans hv)
  unfold Oper.wp
  simp [execOp, hop, e, hdst, hload w hb, Oper.upon_value, Result.andThen]
  exact hK _ _ (Below.refl _ _) (hRk w)

/-- A slice of one element. -/
def OneR (size : Nat) (cells : List Value) (v : Value) (w : World) : Prop := ∃ g, v = .slice (some ⟨g, 0, none⟩) 1 1 ∧ g < w.heap.size ∧ ∀ j u, cells[j]? = some u → w.cell? ⟨g, j, none⟩ = some u
theorem OneR.below {size : Nat} {cells : List Value} {v : Value} {w w' : World} (h : OneR size cells v w) (hb : Below w.heap.size w w') : OneR size cells v w' := by
  obtain ⟨g, hv, hg, hc⟩ := h
  exact ⟨g, hv, Nat.lt_of_lt_of_le hg hb.size, fun j u hj => (hb.cell (p := ⟨g, j, none⟩) hg).trans (hc j u hj)⟩
theorem pool_one (t e : TypeId) (size : Nat) (dx d : Tmp) (jx ijx : Nat) (val : Value) (cells : Array Value) {o : Oper} (ie : TypeInfo) (z : Value) (hu : P.underlying t = some (.slice e)) (hie : P.info? e = some ie) (hz : ie.zero = some z) (hsize : ie.size = size) (hsmall : ¬ size > 2 ^ 24) (hpos : 0 < size)
    (hf : Instr.fill (fun i => some (i * size, size)) ((Array.range (1 * size)).map (z.cells[· % z.cells.size]!)) [(0, val)] = some cells)
    {i : Nat} (hi : H[k]? = some i) (ho : ops[i]? = some o) (hop : o.op = .buildSlice t 1 #[(0, .tmp dx)]) (hdst : o.dst = some d) (hd : D[k]? = some d) (hix : H[jx]? = some ijx) (hx : D[jx]? = some dx) (hdx : (o.after.any fun e => Region.binds md e && e.on == ijx) = true)
    (hRx : ∀ v w, R jx v w → v = val) (hRk : ∀ v w, OneR size cells.toList v w → R k v w) : PoolOp P md ops Q H D R a0 w0 k := by
  intro i' o' d' hi' ho' hd' a w hb hoth hgot K hK
  rw [hi] at hi'; cases hi'
  rw [ho] at ho'; cases ho'
  rw [hd] at hd'; cases hd'
  obtain ⟨u, hu', huR⟩ := hgot jx ijx dx hix hx hdx
  have e2 := eval_tmp hu'
  obtain rfl := hRx _ _ huR
  subst hsize
  refine wp_buildSlice t e 1 _ hop cells ie z hu hie hz (by omega) (by omega) (by simpa [e2] using hf) ?_
  rw [hdst]
  refine hK _ _ ((Below.refl _ _).alloc (Nat.le_refl _) _) (hRk _ _ ⟨_, rfl, by simp, fun j x hj => ?_⟩)
  simp at hj ⊢
  exact hj
end
end Go.Proofs.YtnnppnlekpadnaaGreat
