/- Append of a whole slice, which may be nil, to a slice of one's own. -/
import Derived.Test.YtnnppnlekpadnaaGreatRight
namespace Go.Proofs.YtnnppnlekpadnaaGreat
open Go.RowKit Go.Proofs
set_option maxRecDepth 100000

theorem run_append_nothing {P : Program} (w : World) (t ty e : TypeId) (i : TypeInfo) (ht : P.underlying t = some (.slice e)) (hi : P.info? e = some i) (b : Option Addr) (n cap c : Nat) (hn : n ≤ cap) :
    (Builtin.append_ #[t, t] ty #[.slice b n cap, .slice none 0 c]).run P w = .ok (.slice b n cap) w := by
  cases b <;> simp [Builtin.append_, run_underlying ht, sizeOf, typeInfo, hi, Builtin.lenOf, Builtin.firstCells, loadCells, loadCellsFrom, hn, storeCells]

theorem wpList_append_spread {P : Program} (w : World) {ops : Array Oper} {rest : List Oper} {o : Oper} {a : Act} {Q : Exit → Act → World → Prop} (hgd : o.guard = none) (s x : Operand) (t : TypeId)
    (ho : o.op = .call { callee := .builtin .append, args := #[s, x], argTypes := #[t, t] })
    (base : Nat) (e : TypeId) (i : TypeInfo) (z : Value) (size bytes : Nat) (ht : P.underlying t = some (.slice e)) (hi : P.info? e = some i) (hz : i.zero = some z)
    (hsize : i.size = size) (hby : i.bytes = bytes) (hzs : z.cells.size = size) (hsz : 0 < size)
    (v : Value) (n : Nat) (olds : List Value) (hs : a.eval s = v) (hown : w.ownsRow base e size v n olds)
    {α : Type} (enc : α → List Value) (hk : ∀ x, (enc x).length = size) (h1 : ∀ x, ∀ u ∈ enc x, u.oneCell' = true)
    (A : Option Addr) (c : Nat) (xs : List α) (hx : a.eval x = .slice A xs.length c) (hr : Rd enc size w A xs)
    (h63 : n + xs.length ≤ maxLen) (hbytes : (n + xs.length) * bytes ≤ 140737488355328) (hbase : base ≤ w.heap.size)
    (h : ∀ v' w', w'.ownsRow base e size v' (n + xs.length) (olds ++ xs.flatMap enc) → w.grownBy w' v.ownBlock → wpList P ops Q rest (a.put o.dst v') w') :
    wpList P ops Q (o :: rest) a w := by
  have hnews : ∀ a, A = some a → ∀ j u, (xs.flatMap enc)[j]? = some u → w.cell? (a.add j) = some u := by
    intro a ha
    subst ha
    by_cases hne : xs = []
    · subst hne; intro j u hj; simp at hj
    · obtain ⟨b, o, hA, _⟩ := hr hne
      simp at hA; subst hA
      exact Rd.news (enc := enc) hk hr
  cases A with
  | some ad =>
    refine wpList_append_own w hgd s x t ho base e i z size bytes ht hi hz hsize hby hzs hsz v n olds hs hown ad xs.length c (xs.flatMap enc) hx (flat_length hk xs) (hnews ad rfl) ?_ h63 hbytes hbase ?_
    · intro u hu
      obtain ⟨x, _, hx⟩ := List.mem_flatMap.1 hu
      exact h1 x u hx
    · intro v' w' h2 h3 _
      exact h v' w' h2 h3
  | none =>
    have : xs = [] := by
      by_cases hne : xs = []
      · exact hne
      · obtain ⟨b, o, hA, _⟩ := hr hne; cases hA
    subst this
    refine wpList_plain hgd fun K hK => ?_
    have hv : ∃ b cap, v = .slice b n cap ∧ n ≤ cap := by
      rcases hown.2 with ⟨hv, hn⟩ | ⟨g, cap, cur, hv, _, _, hn, _⟩
      · exact ⟨none, 0, by rw [hv, hn], by omega⟩
      · exact ⟨_, cap, hv, hn⟩
    obtain ⟨b, cap, hvv, hle⟩ := hv
    have hrun := run_append_nothing (P := P) w t o.type e i ht hi b n cap c hle
    unfold Oper.wp execOp
    simp only [ho, resolve, invoke, builtin, Sem.run_bind, Sem.run_pure, Result.andThen_ok, List.map_toArray, List.map_cons, List.map_nil, hs, hx, hvv, List.length_nil, hrun]
    rw [← hvv]
    exact hK _ _ (h v w (by simpa using hown) ⟨rfl, rfl, rfl, Nat.le_refl _, fun _ _ _ => rfl⟩)
end Go.Proofs.YtnnppnlekpadnaaGreat
