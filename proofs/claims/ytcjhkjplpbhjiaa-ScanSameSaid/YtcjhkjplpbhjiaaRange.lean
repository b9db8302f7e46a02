/- A range over a map that the call has made: what has come, and what is to come, in whatever order. -/
import Derived.Test.YtcjhkjplpbhjiaaBest
import Derived.Sort.MapsRangeIn
namespace Go.Proofs.Ytcjhkjplpbhjiaa
open Go.RowKit Go.Proofs
open Go.ChangeMaps (setBlock)

section
variable {P : Program} {κ ν : Type} {ek : κ → Value} {ev : ν → Value}

/-- Block B reads as l; block r is an iterator over it; rest: what is to come. -/
def RangeR (ek : κ → Value) (ev : ν → Value) (w : World) (B r : Nat) (l rest : List (κ × ν)) : Prop :=
  ∃ es clock since seen c0, w.heap[B]? = some (.map es clock) ∧ es.toList.map (·.key) = l.map (fun p => ek p.1) ∧ es.toList.map (·.val) = l.map (fun p => ev p.2) ∧ (∀ e ∈ es.toList, e.born < clock) ∧ (es.toList.map (·.born)).Nodup ∧
    w.heap[r]? = some (.mapIter (some B) since seen c0) ∧ (∀ x ∈ es.toList, x.born < since) ∧ since ≤ c0 ∧ since ≤ clock ∧ (leftOf es seen).toList.map (fun e => (e.key, e.val)) = rest.map (fun p => (ek p.1, ev p.2))

theorem RangeR.map {w : World} {B r : Nat} {l rest : List (κ × ν)} (h : RangeR ek ev w B r l rest) : MapR ek ev w B l := by
  obtain ⟨es, clock, since, seen, c0, hb, hk, hv, hs, hn, _⟩ := h
  exact ⟨es, clock, hb, hk, hv, hs, hn⟩
theorem RangeR.lt {w : World} {B r : Nat} {l rest : List (κ × ν)} (h : RangeR ek ev w B r l rest) : r < w.heap.size := by
  obtain ⟨es, clock, since, seen, c0, _, _, _, _, _, hr, _⟩ := h
  exact (Array.getElem?_eq_some_iff.1 hr).1
theorem RangeR.of_blocks {w w' : World} {B r : Nat} {l rest : List (κ × ν)} (h : RangeR ek ev w B r l rest) (hB : w'.heap[B]? = w.heap[B]?) (hr : w'.heap[r]? = w.heap[r]?) : RangeR ek ev w' B r l rest := by
  obtain ⟨es, clock, since, seen, c0, hb, hk, hv, hs, hn, hri, h1⟩ := h
  exact ⟨es, clock, since, seen, c0, hB.trans hb, hk, hv, hs, hn, hr.trans hri, h1⟩
theorem RangeR.alloc {w : World} {B r : Nat} {l rest : List (κ × ν)} (h : RangeR ek ev w B r l rest) (o : Obj) : RangeR ek ev (w.alloc o) B r l rest := h.of_blocks (Below.heap_alloc _ _ _ h.map.lt) (Below.heap_alloc _ _ _ h.lt)
theorem RangeR.grown {w w' : World} {B r : Nat} {l rest : List (κ × ν)} {row : Option Nat} (h : RangeR ek ev w B r l rest) (hg : w.grownBy w' row) (hB : some B ≠ row) (hr : some r ≠ row) : RangeR ek ev w' B r l rest := h.of_blocks (hg.block B h.map.lt hB) (hg.block r h.lt hr)
theorem RangeR.walks {w w' : World} {B r : Nat} {l rest : List (κ × ν)} (h : RangeR ek ev w B r l rest) (hk : KeepsWalks w w') : RangeR ek ev w' B r l rest := by
  obtain ⟨es, clock, since, seen, c0, hb, hk1, hv, hs, hn, hri, h1⟩ := h
  exact ⟨es, clock, since, seen, c0, hk.same B _ hb rfl, hk1, hv, hs, hn, hk.same r _ hri rfl, h1⟩
theorem RangeR.iter_walk {w : World} {B r : Nat} {l rest : List (κ × ν)} (h : RangeR ek ev w B r l rest) : ∃ o : Obj, w.heap[r]? = some o ∧ o.isWalk = true := by
  obtain ⟨es, clock, since, seen, c0, _, _, _, _, _, hr, _⟩ := h
  exact ⟨_, hr, rfl⟩

/-- 'range m'. -/
theorem MapR.range {w : World} {B : Nat} {l : List (κ × ν)} (h : MapR ek ev w B l) {t K E : TypeId} (ht : P.underlying t = some (.map K E)) :
    ∃ w', (Instr.range t (.map (some B))).run P w = .ok (.pointer (some ⟨w.heap.size, 0, none⟩)) w' ∧ RangeR ek ev w' B w.heap.size l l ∧ w.grownBy w' none ∧ w'.heap.size = w.heap.size + 1 := by
  have hlt := h.lt
  obtain ⟨es, clock, hb, hk, hv, hs, hn⟩ := h
  refine ⟨_, run_range_map w t K E B es clock ht hb, ⟨es, clock, clock, #[], clock, ((MapKept.heap_alloc w _).2 B hlt).trans hb, hk, hv, hs, hn, (MapKept.heap_alloc w _).1, hs, Nat.le_refl _, Nat.le_refl _, ?_⟩, World.grownBy_alloc w _ none, by simp⟩
  have e : leftOf es #[] = es := by simp [leftOf]
  rw [e]
  apply List.ext_getElem?
  intro j
  have h1 := congrArg (fun q => q[j]?) hk
  have h2 := congrArg (fun q => q[j]?) hv
  simp only [List.getElem?_map] at h1 h2 ⊢
  cases hej : es.toList[j]? with
  | none => rw [hej] at h1; cases hl : l[j]? with
    | none => rfl
    | some q => rw [hl] at h1; cases h1
  | some e => rw [hej] at h1 h2; cases hl : l[j]? with
    | none => rw [hl] at h1; cases h1
    | some q => rw [hl] at h1 h2; simp at h1 h2; simp [h1, h2]

theorem filter_one {L1 L2 : List MapEntry} {e : MapEntry} (hn : ((L1 ++ e :: L2).map (·.born)).Nodup) : (L1 ++ e :: L2).filter (fun x => x.born != e.born) = L1 ++ L2 := by
  rw [List.map_append, List.map_cons, List.nodup_append] at hn
  obtain ⟨_, h2, h3⟩ := hn
  rw [List.nodup_cons] at h2
  rw [List.filter_append, List.filter_cons]
  have e1 : L1.filter (fun x => x.born != e.born) = L1 := List.filter_eq_self.2 fun x hx => by
    have := h3 x.born (List.mem_map_of_mem hx) e.born (by simp)
    simpa using this
  have e2 : L2.filter (fun x => x.born != e.born) = L2 := List.filter_eq_self.2 fun x hx => by
    have : x.born ≠ e.born := fun h => h2.1 (h ▸ List.mem_map_of_mem hx)
    simpa using this
  rw [e1, e2]; simp

/-- THE STEP. -/
theorem RangeR.next {w : World} {B r : Nat} {l rest : List (κ × ν)} (h : RangeR ek ev w B r l rest) (ty : TypeId) :
    (rest = [] ∧ (Instr.next (.pointer (some ⟨r, 0, none⟩)) false ty).run P w = .ok (.tuple #[.bool false]) w) ∨
    ∃ r1 p r2 w', rest = r1 ++ p :: r2 ∧ (Instr.next (.pointer (some ⟨r, 0, none⟩)) false ty).run P w = .ok (.tuple #[.bool true, ek p.1, ev p.2]) w' ∧ RangeR ek ev w' B r l (r1 ++ r2) ∧ w.grownBy w' (some r) ∧ w'.heap.size = w.heap.size ∧
      (Instr.entry (.pointer (some ⟨r, 0, none⟩))).run P w' = .ok (.tuple #[ek p.1, ev p.2]) w' := by
  obtain ⟨es, clock, since, seen, c0, hb, hk, hv, hs, hn, hr, hold, hsc, hsk, hl⟩ := h
  have hne : r ≠ B := by intro e; rw [e, hb] at hr; cases hr
  rcases run_next_at (P := P) w ty r B since c0 seen es clock hr hb hold hsc with ⟨h0, hrun⟩ | ⟨e, he, w1, hal, hrun⟩
  · left
    have : leftOf es seen = #[] := Array.eq_empty_of_size_eq_zero h0
    rw [this] at hl
    exact ⟨by simpa using hl.symm, hrun⟩
  · right
    obtain ⟨hem, hes⟩ := mem_left he
    obtain ⟨L1, L2, hL⟩ := List.append_of_mem he
    rw [hL, List.map_append, List.map_cons] at hl
    obtain ⟨r1, r', hrest, h1, h2⟩ := List.map_eq_append_iff.1 hl.symm
    obtain ⟨p, r2, hr', h3, h4⟩ := List.map_eq_cons_iff.1 h2
    subst hr'
    simp only [Prod.mk.injEq] at h3
    have hr1 : w1.heap[r]? = some (.mapIter (some B) since seen c0) := by rcases hal with rfl | rfl <;> exact hr
    have hb1 : w1.heap[B]? = some (.map es clock) := by rcases hal with rfl | rfl <;> exact hb
    have hset := MapKept.heap_set (o' := .mapIter (some B) since (seen.push e.born) clock) hr1
    have hb' : (setBlock w1 r (.mapIter (some B) since (seen.push e.born) clock)).heap[B]? = some (.map es clock) := (hset.2 B (fun e1 => hne e1.symm)).trans hb1
    have hnl : ((leftOf es seen).toList.map (·.born)).Nodup := by
      have : (leftOf es seen).toList = es.toList.filter (fun e => !seen.contains e.born) := by unfold leftOf; rw [Array.toList_filter]
      rw [this]
      exact List.Nodup.sublist (List.Sublist.map _ List.filter_sublist) hn
    have hleft : (leftOf es (seen.push e.born)).toList = L1 ++ L2 := by
      have e1 : (leftOf es (seen.push e.born)).toList = (leftOf es seen).toList.filter (fun x => x.born != e.born) := by
        unfold leftOf
        rw [Array.toList_filter, Array.toList_filter, List.filter_filter]
        apply List.filter_congr
        intro x _
        rw [contains_push]
        cases seen.contains x.born <;> cases hxb : (x.born == e.born) <;> simp [bne, hxb]
      rw [e1, hL]
      exact filter_one (by rw [← hL]; exact hnl)
    refine ⟨r1, p, r2, _, hrest, by rw [h3.1, h3.2]; exact hrun, ⟨es, clock, since, seen.push e.born, clock, hb', hk, hv, hs, hn, hset.1, hold, hsk, hsk, ?_⟩, ?_, ?_, ?_⟩
    · rw [hleft, List.map_append, List.map_append, h1, h4]
    · rcases hal with rfl | rfl <;> exact ⟨rfl, rfl, rfl, by simp [setBlock], fun i _ hi => hset.2 i (fun e1 => hi (by rw [e1]))⟩
    · rcases hal with rfl | rfl <;> simp [setBlock]
    · rw [h3.1, h3.2]
      exact run_entry_at _ r B since seen es clock e hset.1 hb' hem hn

section
variable (w : World) {ops : Array Oper} {rest : List Oper} {o : Oper} {a : Act} {Q : Exit → Act → World → Prop}
theorem wpList_rangeR (hg : o.guard = none) (m : Operand) (t : TypeId) (hop : o.op = Op.range t m) {K E : TypeId} (ht : P.underlying t = some (.map K E)) {B : Nat} {l : List (κ × ν)} (hm : a.eval m = .map (some B)) (h : MapR ek ev w B l)
    (hK : ∀ w', RangeR ek ev w' B w.heap.size l l → w.grownBy w' none → w'.heap.size = w.heap.size + 1 → wpList P ops Q rest (a.put o.dst (.pointer (some ⟨w.heap.size, 0, none⟩))) w') : wpList P ops Q (o :: rest) a w := by
  refine wpList_plain hg fun K' hK' => ?_
  obtain ⟨w', hrun, r1, r2, r3⟩ := h.range ht
  unfold Oper.wp
  simp [execOp, hop, hm, hrun, Result.andThen]
  exact hK' _ _ (hK w' r1 r2 r3)
theorem wpList_nextR (hg : o.guard = none) (it : Operand) (hop : o.op = Op.next it false) {B r : Nat} {l left : List (κ × ν)} (hit : a.eval it = .pointer (some ⟨r, 0, none⟩)) (h : RangeR ek ev w B r l left)
    (hDone : left = [] → wpList P ops Q rest (a.put o.dst (.tuple #[.bool false])) w)
    (hMore : ∀ (r1 : List (κ × ν)) (p : κ × ν) (r2 : List (κ × ν)) (w' : World), left = r1 ++ p :: r2 → RangeR ek ev w' B r l (r1 ++ r2) → w.grownBy w' (some r) → w'.heap.size = w.heap.size → (Instr.entry (.pointer (some ⟨r, 0, none⟩))).run P w' = .ok (.tuple #[ek p.1, ev p.2]) w' → wpList P ops Q rest (a.put o.dst (.tuple #[.bool true, ek p.1, ev p.2])) w') :
    wpList P ops Q (o :: rest) a w := by
  refine wpList_plain hg fun K' hK' => ?_
  unfold Oper.wp
  rcases h.next (P := P) o.type with ⟨h0, hrun⟩ | ⟨r1, p, r2, w', hl, hrun, hrg, hgr, hsz, hen⟩
  · simp only [execOp, hop, hit, Sem.run_bind, Sem.run_map, Sem.run_pure, hrun, Result.andThen_ok]
    exact hK' _ _ (hDone h0)
  · simp only [execOp, hop, hit, Sem.run_bind, Sem.run_map, Sem.run_pure, hrun, Result.andThen_ok]
    exact hK' _ _ (hMore r1 p r2 w' hl hrg hgr hsz hen)
variable {F : Fence} {n : Nat}
theorem wpListIn_rangeR (hg : o.guard = none) (m : Operand) (t : TypeId) (hop : o.op = Op.range t m) {K E : TypeId} (ht : P.underlying t = some (.map K E)) {B : Nat} {l : List (κ × ν)} (hm : a.eval m = .map (some B)) (h : MapR ek ev w B l)
    (hK : ∀ w', RangeR ek ev w' B w.heap.size l l → w.grownBy w' none → w'.heap.size = w.heap.size + 1 → wpListIn F n P ops Q rest (a.put o.dst (.pointer (some ⟨w.heap.size, 0, none⟩))) w') : wpListIn F n P ops Q (o :: rest) a w := by
  refine wpListIn_plain hg fun K' hK' => ?_
  obtain ⟨w', hrun, r1, r2, r3⟩ := h.range ht
  unfold Oper.wpIn
  refine ⟨by simp [Oper.about, hop], ?_⟩
  rw [Oper.semAt_plain F _ _ (by rw [hop]; intro c hc'; cases hc')]
  simp [execOp, hop, hm, hrun, Result.andThen]
  exact hK' _ _ (hK w' r1 r2 r3)
theorem wpListIn_nextR (hg : o.guard = none) (it : Operand) (hop : o.op = Op.next it false) {B r : Nat} {l left : List (κ × ν)} (hit : a.eval it = .pointer (some ⟨r, 0, none⟩)) (h : RangeR ek ev w B r l left)
    (hDone : left = [] → wpListIn F n P ops Q rest (a.put o.dst (.tuple #[.bool false])) w)
    (hMore : ∀ (r1 : List (κ × ν)) (p : κ × ν) (r2 : List (κ × ν)) (w' : World), left = r1 ++ p :: r2 → RangeR ek ev w' B r l (r1 ++ r2) → w.grownBy w' (some r) → w'.heap.size = w.heap.size → (Instr.entry (.pointer (some ⟨r, 0, none⟩))).run P w' = .ok (.tuple #[ek p.1, ev p.2]) w' → wpListIn F n P ops Q rest (a.put o.dst (.tuple #[.bool true, ek p.1, ev p.2])) w') :
    wpListIn F n P ops Q (o :: rest) a w := by
  refine wpListIn_plain hg fun K' hK' => ?_
  unfold Oper.wpIn
  refine ⟨by simp [Oper.about, hop], ?_⟩
  rw [Oper.semAt_plain F _ _ (by rw [hop]; intro c hc'; cases hc')]
  rcases h.next (P := P) o.type with ⟨h0, hrun⟩ | ⟨r1, p, r2, w', hl, hrun, hrg, hgr, hsz, hen⟩
  · simp only [execOp, hop, hit, Sem.run_bind, Sem.run_map, Sem.run_pure, hrun, Result.andThen_ok]
    exact hK' _ _ (hDone h0)
  · simp only [execOp, hop, hit, Sem.run_bind, Sem.run_map, Sem.run_pure, hrun, Result.andThen_ok]
    exact hK' _ _ (hMore r1 p r2 w' hl hrg hgr hsz hen)
end
end
end Go.Proofs.Ytcjhkjplpbhjiaa
