/- The statements' small makers, and calls among operations whose order is drawn. -/
import Derived.Test.YtnnppnlekpadnaaGreatPool2
import Derived.Test.YtnnppnlekpadnaaGreatAwake
import Derived.Test.YtnnppnlekpadnaaGreatTells
import Derived.Test.YtnnppnlekpadnaaGreatRefP
import Derived.Shelf.Abstract
namespace Go.Proofs.YtnnppnlekpadnaaGreat
open Go.RowKit Go.Proofs
set_option maxRecDepth 100000

section
variable {P : Program} {ops : Array Oper} {md : Region.Mode} {Q : Exit → Act → World → Prop} {H : List Nat} {D : List Tmp} {R : Nat → Value → World → Prop} {a0 : Act} {w0 : World} {k : Nat}
theorem pool_call (d : Tmp) (f : FuncId) (callee : Operand) (cargs : Array Operand) (at_ : Array TypeId) (vals : Array Value) {i : Nat} {o : Oper} (hi : H[k]? = some i) (ho : ops[i]? = some o) (hop : o.op = .call { callee := .value callee, args := cargs, argTypes := at_ }) (hdst : o.dst = some d) (hd : D[k]? = some d)
    (eg : ∀ (args : Array Value) (w : World), (callFunc f args).run P w = .ok (.enter f args) w)
    (hev : ∀ a : Act, (∀ t, t ∉ D → a.tmps[t]? = a0.tmps[t]?) → (∀ (j ij : Nat) (dj : Tmp), H[j]? = some ij → D[j]? = some dj → (o.after.any fun e => Region.binds md e && e.on == ij) = true → ∃ v w, a.tmps[dj]? = some v ∧ R j v w) → a.eval callee = .func (.func f) #[] #[] ∧ cargs.map a.eval = vals)
    (hcon : ∀ w, Below w0.heap.size w0 w → Calls P f vals w fun e w' => ∃ v, e = .returned v ∧ Below w.heap.size w w' ∧ R k v w') : PoolOp P md ops Q H D R a0 w0 k := by
  intro i' o' d' hi' ho' hd' a w hb hoth hgot K hK
  rw [hi] at hi'; cases hi'
  rw [ho] at ho'; cases ho'
  rw [hd] at hd'; cases hd'
  obtain ⟨h1, h2⟩ := hev a hoth (fun j ij dj h3 h4 h5 => by obtain ⟨v, h6, h7⟩ := hgot j ij dj h3 h4 h5; exact ⟨v, w, h6, h7⟩)
  unfold Oper.wp execOp
  simp only [hop, resolve, h1, h2, Deferred.ofValue, Sem.run_bind, Sem.run_pure, Result.andThen_ok, invoke, Array.append_empty, Array.empty_append, eg]
  rw [Oper.upon_enter]
  refine (hcon w hb).mono ?_
  rintro e w' ⟨v, rfl, hbw, hr⟩
  rw [hdst]
  exact hK v w' hbw hr
end

theorem standard_new (w : World) : Calls Tryz.prog 20 #[] w fun e w' => e = .returned (.slice (some ⟨w.heap.size, 0, none⟩) 1 1) ∧ w' = w.alloc (.cells #[.int .u8 1, .int .i64 2, .int .i64 3, .int .i64 1000] 27) := by
  go_enter Tryz.func20, Tryz.ntmps20
  go_wp2
  go_ret
  exact ⟨rfl, rfl⟩
theorem terms_new (w : World) : Calls Tryz.prog 21 #[] w fun e w' => e = .returned (.slice (some ⟨w.heap.size, 0, none⟩) 1 1) ∧ w' = w.alloc (.cells #[.int .u8 1, .int .i64 60, .int .i64 2500, .int .i64 10000, .int .i64 10000, .int .i64 5000, .int .i64 30] 41) := by
  go_enter Tryz.func21, Tryz.ntmps21
  go_wp2
  go_ret
  exact ⟨rfl, rfl⟩
theorem sent_new (n : Int) (w : World) : Calls Tryz.prog 22 #[.int .i64 n] w fun e w' => e = .returned (.slice (some ⟨w.heap.size, 0, none⟩) 1 1) ∧ w' = w.alloc (.cells #[.int .i64 9, .int .u8 1, .int .i64 2, .int .i64 3, .int .i64 500, .int .i64 n] 34) := by
  go_enter Tryz.func22, Tryz.ntmps22
  go_wp2
  go_ret
  exact ⟨rfl, rfl⟩
theorem one_new (c : Clm) (w : World) : Calls Tryz.prog 19 #[.agg #[.int .i64 c.id, .int .i64 c.item, .int .i64 c.at_, .int .u8 c.kind, .int .i64 c.post, .int .i64 c.val]] w fun e w' => e = .returned (.slice (some ⟨w.heap.size + 1, 0, none⟩) 1 1) ∧ w' = (w.alloc (.cells #[.int .i64 c.id, .int .i64 c.item, .int .i64 c.at_, .int .u8 c.kind, .int .i64 c.post, .int .i64 c.val] 31)).alloc (.cells #[.int .i64 c.id, .int .i64 c.item, .int .i64 c.at_, .int .u8 c.kind, .int .i64 c.post, .int .i64 c.val] 31) := by
  go_enter Tryz.func19, Tryz.ntmps19
  go_wp2
  go_ret
  exact ⟨by simp, rfl⟩

/-- A slice of one record, in a block of its own. -/
def OneOf {α : Type} (enc : α → List Value) (T : TypeId) (base : Nat) (x : α) (v : Value) (w : World) : Prop := ∃ g, v = .slice (some ⟨g, 0, none⟩) 1 1 ∧ base ≤ g ∧ Blk w g (enc x).toArray T
theorem OneOf.below {α : Type} {enc : α → List Value} {T : TypeId} {base : Nat} {x : α} {v : Value} {w w' : World} (h : OneOf enc T base x v w) (hb : Below w.heap.size w w') : OneOf enc T base x v w' := by
  obtain ⟨g, hv, hg, hk⟩ := h
  exact ⟨g, hv, hg, hk.below hb hk.lt⟩
end Go.Proofs.YtnnppnlekpadnaaGreat
