/- Append of a whole slice, which may be nil, to a slice of one's own. -/
import Derived.Test.YtcjhkjplpbhjiaaOwn2
namespace Go.Proofs.Ytcjhkjplpbhjiaa
open Go.RowKit Go.Proofs
set_option maxRecDepth 100000

theorem Rd.news {α : Type} {enc : α → List Value} {k : Nat} (hk : ∀ x, (enc x).length = k) {w : World} {b o : Nat} {xs : List α} (h : Rd enc k w (some ⟨b, o, none⟩) xs) (j : Nat) (u : Value) (hj : (xs.flatMap enc)[j]? = some u) : w.cell? ((⟨b, o, none⟩ : Addr).add j) = some u := by
  have hl : j < xs.length * k := by
    rw [← flat_length hk]
    rcases Nat.lt_or_ge j (xs.flatMap enc).length with h | h
    · exact h
    · rw [List.getElem?_eq_none h] at hj; cases hj
  have hk0 : 0 < k := by rcases Nat.eq_zero_or_pos k with h | h; · subst h; simp at hl
                         · exact h
  have hq : j / k < xs.length := Nat.div_lt_of_lt_mul (by rwa [Nat.mul_comm] at hl)
  have hr : j % k < k := Nat.mod_lt _ hk0
  have e : j = j / k * k + j % k := by rw [Nat.mul_comm]; exact (Nat.div_add_mod j k).symm
  rw [e, flat_get hk xs (j / k) (j % k) xs[j / k] (List.getElem?_eq_getElem hq) hr] at hj
  obtain ⟨b', o', hA, hlt, hc⟩ := h.at (List.getElem?_eq_getElem hq)
  simp at hA
  obtain ⟨rfl, rfl⟩ := hA
  rw [Addr.add_lit, e, ← Nat.add_assoc]
  exact hc _ _ hj


theorem run_append_nothing {P : Program} (w : World) (t ty e : TypeId) (i : TypeInfo) (ht : P.underlying t = some (.slice e)) (hi : P.info? e = some i) (b : Option Addr) (n cap c : Nat) (hn : n ≤ cap) :
    (Builtin.append_ #[t, t] ty #[.slice b n cap, .slice none 0 c]).run P w = .ok (.slice b n cap) w := by
  cases b <;> simp [Builtin.append_, run_underlying ht, sizeOf, typeInfo, hi, Builtin.lenOf, Builtin.firstCells, loadCells, loadCellsFrom, hn, storeCells]

theorem wpList_append_spread {P : Program} (w : World) {ops : Array Oper} {rest : List Oper} {o : Oper} {a : Act} {Q : Exit → Act → World → Prop} (hgd : o.guard = none) (s x : Operand) (t : TypeId)
    (ho : o.op = .call { callee := .builtin .append, args := #[s, x], argTypes := #[t, t] })
    (base : Nat) (e : TypeId) (i : TypeInfo) (z : Value) (size bytes : Nat) (ht : P.underlying t = some (.slice e)) (hi : P.info? e = some i) (hz : i.zero = some z)
    (hsize : i.size = size) (hby : i.bytes = bytes) (hzs : z.cells.size = size) (hsz : 0 < size)
    (v : Value) (n : Nat) (olds : List Value) (hs : a.eval s = v) (hown : w.ownsRow base e size v n olds)
    {α : Type} (enc : α → List Value) (hk : ∀ x, (enc x).length = size) (h1 : ∀ x, ∀ u ∈ enc x, u.oneCell' = true)
    (A : Option Addr) (c : Nat) (xs : List α) (hx : a.eval x = .slice A xs.length c) (hr : Rd enc size w A xs)
    (h63 : n + xs.length ≤ maxLen) (hbytes : (n + xs.length) * bytes ≤ 140737488355328) (hbase : base ≤ w.heap.size)
    (h : ∀ v' w', w'.ownsRow base e size v' (n + xs.length) (olds ++ xs.flatMap enc) → w.grownBy w' v.ownBlock → wpList P ops Q rest (a.put o.dst v') w') :
    wpList P ops Q (o :: rest) a w := by
  have hnews : ∀ a, A = some a → ∀ j u, (xs.flatMap enc)[j]? = some u → w.cell? (a.add j) = some u := by
    intro a ha
    subst ha
    by_cases hne : xs = []
    · subst hne; intro j u hj; simp at hj
    · obtain ⟨b, o, hA, _⟩ := hr hne
      simp at hA; subst hA
      exact Rd.news (enc := enc) hk hr
  cases A with
  | some ad =>
    refine wpList_append_own w hgd s x t ho base e i z size bytes ht hi hz hsize hby hzs hsz v n olds hs hown ad xs.length c (xs.flatMap enc) hx (flat_length hk xs) (hnews ad rfl) ?_ h63 hbytes hbase ?_
    · intro u hu
      obtain ⟨x, _, hx⟩ := List.mem_flatMap.1 hu
      exact h1 x u hx
    · intro v' w' h2 h3 _
      exact h v' w' h2 h3
  | none =>
    have : xs = [] := by
      by_cases hne : xs = []
      · exact hne
      · obtain ⟨b, o, hA, _⟩ := hr hne; cases hA
    subst this
    refine wpList_plain hgd fun K hK => ?_
    have hv : ∃ b cap, v = .slice b n cap ∧ n ≤ cap := by
      rcases hown.2 with ⟨hv, hn⟩ | ⟨g, cap, cur, hv, _, _, hn, _⟩
      · exact ⟨none, 0, by rw [hv, hn], by omega⟩
      · exact ⟨_, cap, hv, hn⟩
    obtain ⟨b, cap, hvv, hle⟩ := hv
    have hrun := run_append_nothing (P := P) w t o.type e i ht hi b n cap c hle
    unfold Oper.wp execOp
    simp only [ho, resolve, invoke, builtin, Sem.run_bind, Sem.run_pure, Result.andThen_ok, List.map_toArray, List.map_cons, List.map_nil, hs, hx, hvv, List.length_nil, hrun]
    rw [← hvv]
    exact hK _ _ (h v w (by simpa using hown) ⟨rfl, rfl, rfl, Nat.le_refl _, fun _ _ _ => rfl⟩)

section
variable {P : Program} {ops : Array Oper} {md : Region.Mode} {Q : Exit → Act → World → Prop} {C : World → Prop}
/-- One that alone may come up, behind a guard that lets it through. -/
theorem wpAnyC_want {fuel : Nat} {listed : Array Bool} {a : Act} {w : World} (k : Nat) {o : Oper} (hr : Region.ready md ops listed = [k]) (ho : ops[k]? = some o) (hw : Region.wanted o (yielded ops a.tmps) = true)
    (h : ∀ K : Act → World → Prop, (∀ a' w', C w' → wpAnyC P md ops Q C fuel (listed.setIfInBounds k true) a' w' → K a' w') → Oper.wp P o a w K Q) : wpAnyC P md ops Q C (fuel + 1) listed a w :=
  wpAnyC_all hr (by simp) fun i hi => by
    have : i = k := by simpa using hi
    subst this
    unfold wpOp
    simp only [ho]
    rw [if_pos hw]
    exact .inl (h _ fun a' w' h1 h2 => ⟨h1, h2⟩)
end
end Go.Proofs.Ytcjhkjplpbhjiaa
