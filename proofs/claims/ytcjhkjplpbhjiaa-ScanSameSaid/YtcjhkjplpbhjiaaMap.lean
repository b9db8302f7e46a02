/- Maps that the call makes: 'MapR ek ev w B l': block B of w is a map whose entries, in the order in which they were laid, read as the list l of keys and values. -/
import Derived.Test.YtcjhkjplpbhjiaaSc
import Derived.WalkKit
import Derived.MapKept
import Derived.ChangeMaps4
import Derived.WideKeyRuns
import Derived.Below
import Derived.Maps.RangeRun
import Derived.Laws.StructEq
namespace Go.Proofs.Ytcjhkjplpbhjiaa
open Go.RowKit
open Go.ChangeMaps (setBlock)

section
variable {P : Program} {κ ν : Type} [DecidableEq κ]

/-- The place of a key among entries. -/
def findIn (k : κ) : List κ → List MapEntry → Nat → Option (Nat × Value)
  | k' :: ks, e :: es, i => if k = k' then some (i, e.val) else findIn k ks es (i + 1)
  | _, _, _ => none

/-- What is asked of a key's type. -/
structure KeyLaw (P : Program) (K : TypeId) (ek : κ → Value) : Prop where
  check : ∀ b k w, Sem.run P (Instr.checkKey b 10000 K (ek k)) w = .ok () w
  find : ∀ (k : κ) (es : List MapEntry) (ks : List κ) (w : World), es.map (·.key) = ks.map ek → Sem.run P (Instr.findKey K (ek k) es) w = .ok (findIn k ks es 0) w
  same : ∀ k, Instr.sameBits 10000 (ek k) (ek k) = true

def MapR (ek : κ → Value) (ev : ν → Value) (w : World) (B : Nat) (l : List (κ × ν)) : Prop :=
  ∃ es clock, w.heap[B]? = some (.map es clock) ∧ es.toList.map (·.key) = l.map (fun p => ek p.1) ∧ es.toList.map (·.val) = l.map (fun p => ev p.2) ∧ (∀ e ∈ es.toList, e.born < clock) ∧ (es.toList.map (·.born)).Nodup

omit [DecidableEq κ] in
theorem MapR.made (ek : κ → Value) (ev : ν → Value) {w : World} {B : Nat} (hB : B = w.heap.size) : MapR ek ev (w.alloc (.map #[] 0)) B [] := by
  subst hB
  exact ⟨#[], 0, by show (w.heap.push _)[w.heap.size]? = _; simp, rfl, rfl, by simp, by simp⟩

omit [DecidableEq κ] in
theorem MapR.lt {ek : κ → Value} {ev : ν → Value} {w : World} {B : Nat} {l : List (κ × ν)} (h : MapR ek ev w B l) : B < w.heap.size := by
  obtain ⟨es, clock, hb, _⟩ := h
  exact (Array.getElem?_eq_some_iff.1 hb).1

omit [DecidableEq κ] in
theorem MapR.of_block {ek : κ → Value} {ev : ν → Value} {w w' : World} {B : Nat} {l : List (κ × ν)} (h : MapR ek ev w B l) (hw : w'.heap[B]? = w.heap[B]?) : MapR ek ev w' B l := by
  obtain ⟨es, clock, hb, r⟩ := h
  exact ⟨es, clock, hw.trans hb, r⟩
omit [DecidableEq κ] in
theorem MapR.below {ek : κ → Value} {ev : ν → Value} {w w' : World} {B n : Nat} {l : List (κ × ν)} (h : MapR ek ev w B l) (hn : B < n) (hw : Below n w w') : MapR ek ev w' B l := h.of_block (hw.block B hn)
omit [DecidableEq κ] in
theorem MapR.alloc {ek : κ → Value} {ev : ν → Value} {w : World} {B : Nat} {l : List (κ × ν)} (h : MapR ek ev w B l) (o : Obj) : MapR ek ev (w.alloc o) B l := h.of_block (Below.heap_alloc _ _ _ h.lt)
omit [DecidableEq κ] in
theorem MapR.setCell {ek : κ → Value} {ev : ν → Value} {w : World} {B : Nat} {l : List (κ × ν)} (h : MapR ek ev w B l) {a : Addr} (ha : a.block ≠ B) (u : Value) : MapR ek ev (w.setCell a u) B l := h.of_block (Below.heap_setCell _ _ _ _ (fun e => ha e.symm))

theorem findIn_get {ek : κ → Value} {ev : ν → Value} (k : κ) : ∀ (l : List (κ × ν)) (es : List MapEntry) (i : Nat), es.map (·.val) = l.map (fun p => ev p.2) → es.length = l.length →
    (findIn k (l.map (·.1)) es i).map (·.2) = (getL l k).map ev
  | [], [], i, _, _ => rfl
  | p :: r, e :: es, i, hv, hl => by
    simp at hv hl
    simp only [List.map_cons, findIn, getL]
    by_cases h : k = p.1
    · rw [if_pos h, if_pos h]; simp [hv.1]
    · rw [if_neg h, if_neg h]; exact findIn_get (ek := ek) k r es (i + 1) hv.2 hl

/-- 'v, ok := m[k]'. -/
theorem MapR.look {ek : κ → Value} {ev : ν → Value} {w : World} {B : Nat} {l : List (κ × ν)} (h : MapR ek ev w B l) {t K E : TypeId} (L : KeyLaw P K ek) (ht : P.underlying t = some (.map K E)) {z : Value} (hz : ∀ w, Sem.run P (zeroValue E) w = .ok z w) (k : κ) (ok : Bool) :
    Sem.run P (Instr.lookup t (.map (some B)) (ek k) ok) w = .ok (if ok then .tuple #[((getL l k).map ev).getD z, .bool (getL l k).isSome] else ((getL l k).map ev).getD z) w := by
  obtain ⟨es, clock, hb, hk, hv, _, _⟩ := h
  have hlen : es.toList.length = l.length := by have := congrArg List.length hk; simpa using this
  have hf := L.find k es.toList (l.map (·.1)) w (by rw [hk, List.map_map]; rfl)
  have hg := findIn_get (ek := ek) (ev := ev) k l es.toList 0 hv hlen
  have hck := L.check es.isEmpty k w
  cases hgl : getL l k with
  | none =>
    rw [hgl] at hg
    have hn : findIn k (l.map (·.1)) es.toList 0 = none := by simpa using hg
    rw [hn] at hf
    simp [Instr.lookup, run_underlying ht, MapKept.run_getObj_map hb, hck, hf, Result.andThen, hz]
  | some v =>
    rw [hgl] at hg
    obtain ⟨q, hq, hq2⟩ := Option.map_eq_some_iff.1 hg
    rw [hq] at hf
    obtain ⟨i, u⟩ := q
    simp at hq2
    subst hq2
    simp [Instr.lookup, run_underlying ht, MapKept.run_getObj_map hb, hck, hf, Result.andThen]

theorem findIn_some {ek : κ → Value} (k : κ) : ∀ (ks : List κ) (es : List MapEntry) (i j : Nat) (u : Value), es.map (·.key) = ks.map ek → findIn k ks es i = some (j, u) → ∃ d e, j = i + d ∧ es[d]? = some e ∧ ks[d]? = some k ∧ (∀ d', d' < d → ks[d']? ≠ some k) ∧ e.key = ek k
  | [], _, i, j, u, _, h => by simp [findIn] at h
  | k' :: ks, [], i, j, u, hk, h => by simp at hk
  | k' :: ks, e :: es, i, j, u, hk, h => by
    simp at hk
    unfold findIn at h
    by_cases hkk : k = k'
    · rw [if_pos hkk] at h
      simp at h
      exact ⟨0, e, by omega, rfl, by simp [hkk], fun d' hd => absurd hd (Nat.not_lt_zero _), by rw [hkk]; exact hk.1⟩
    · rw [if_neg hkk] at h
      obtain ⟨d, e', h1, h2, h3, h4, h5⟩ := findIn_some k ks es (i + 1) j u hk.2 h
      refine ⟨d + 1, e', by omega, by simpa using h2, by simpa using h3, fun d' hd => ?_, h5⟩
      match d' with
      | 0 => simpa using fun e => hkk e.symm
      | d' + 1 => simpa using h4 d' (by omega)

theorem putL_at : ∀ (l : List (κ × ν)) (k : κ) (v : ν) (d : Nat), (l.map (·.1))[d]? = some k → (∀ d', d' < d → (l.map (·.1))[d']? ≠ some k) → putL l k v = l.set d (k, v)
  | [], k, v, d, h, _ => by simp at h
  | p :: r, k, v, 0, h, _ => by
    simp at h
    unfold putL
    rw [if_pos h.symm]; rfl
  | p :: r, k, v, d + 1, h, hn => by
    have h0 := hn 0 (by omega)
    simp at h0
    unfold putL
    rw [if_neg (fun e => h0 e.symm), putL_at r k v d (by simpa using h) (fun d' hd => by have := hn (d' + 1) (by omega); simpa using this)]
    rfl

theorem putL_new : ∀ (l : List (κ × ν)) (k : κ) (v : ν), getL l k = none → putL l k v = l ++ [(k, v)]
  | [], k, v, _ => rfl
  | p :: r, k, v, h => by
    unfold getL at h
    by_cases hk : k = p.1
    · rw [if_pos hk] at h; cases h
    · rw [if_neg hk] at h
      unfold putL
      rw [if_neg hk, putL_new r k v h]; rfl

theorem grownBy_setBlock {w : World} {B : Nat} {o o' : Obj} (hb : w.heap[B]? = some o') : w.grownBy (setBlock w B o) (some B) :=
  ⟨rfl, rfl, rfl, by simp [setBlock], fun i _ hi => by
    simp only [setBlock, Array.getElem?_setIfInBounds]
    rw [if_neg (fun e => hi (by rw [e]))]⟩
theorem heap_setBlock {w : World} {B : Nat} {o o' : Obj} (hb : w.heap[B]? = some o') : (setBlock w B o).heap[B]? = some o := by
  have hlt := (Array.getElem?_eq_some_iff.1 hb).1
  simp [setBlock, hlt]

/-- 'm[k] = v'. -/
theorem MapR.put {ek : κ → Value} {ev : ν → Value} {w : World} {B : Nat} {l : List (κ × ν)} (h : MapR ek ev w B l) {t K E : TypeId} (L : KeyLaw P K ek) (ht : P.underlying t = some (.map K E)) (k : κ) (v : ν) :
    ∃ w', Sem.run P (Instr.mapUpdate t (.map (some B)) (ek k) (ev v)) w = .ok () w' ∧ MapR ek ev w' B (putL l k v) ∧ w.grownBy w' (some B) := by
  obtain ⟨es, clock, hb, hk, hv, hs, hnd⟩ := h
  have hlen : es.toList.length = l.length := by have := congrArg List.length hk; simpa using this
  have hf := L.find k es.toList (l.map (·.1)) w (by rw [hk, List.map_map]; rfl)
  have hg := findIn_get (ek := ek) (ev := ev) k l es.toList 0 hv hlen
  have hck := L.check false k w
  cases hfi : findIn k (l.map (·.1)) es.toList 0 with
  | none =>
    rw [hfi] at hf hg
    have hgl : getL l k = none := by simpa using hg.symm
    refine ⟨setBlock w B (.map (es.push ⟨ek k, ev v, clock⟩) (clock + 1)), ?_, ⟨_, _, heap_setBlock hb, ?_, ?_, ?_, ?_⟩, grownBy_setBlock hb⟩
    · simp [Instr.mapUpdate, run_underlying ht, MapKept.run_getObj_map hb, hck, hf, MapKept.run_setObj_map _ hb, Result.andThen, setBlock]
    · rw [putL_new l k v hgl]; simp [hk]
    · rw [putL_new l k v hgl]; simp [hv]
    · intro e he
      simp at he
      rcases he with he | rfl
      · have := hs e (by simpa using he); omega
      · simp
    · rw [Array.toList_push, List.map_append, List.nodup_append]
      refine ⟨hnd, by simp, ?_⟩
      intro a ha b hb2
      obtain ⟨e, he, rfl⟩ := List.mem_map.1 ha
      simp at hb2
      have := hs e he; omega
  | some q =>
    obtain ⟨j, u⟩ := q
    rw [hfi] at hf hg
    obtain ⟨d, e, hj, he, hkd, hno, hek⟩ := findIn_some (ek := ek) k (l.map (·.1)) es.toList 0 j u (by rw [hk, List.map_map]; rfl) hfi
    have hjd : j = d := by omega
    subst hjd
    have he' : es[j]? = some e := by simpa using he
    refine ⟨setBlock w B (.map (es.modify j fun e => { e with key := ek k, val := ev v }) clock), ?_, ⟨_, _, heap_setBlock hb, ?_, ?_, ?_, ?_⟩, grownBy_setBlock hb⟩
    · simp [Instr.mapUpdate, run_underlying ht, MapKept.run_getObj_map hb, hck, hf, MapKept.run_setObj_map _ hb, Result.andThen, setBlock, Instr.keyThatStays, he', hek, L.same k]
    · rw [putL_at l k v j hkd hno]
      rw [Array.toList_modify, List.map_set, ← hk]
      apply List.ext_getElem?
      intro m
      rw [List.getElem?_map, List.getElem?_modify, List.getElem?_set]
      by_cases hm : j = m
      · subst hm
        rw [if_pos rfl, he]
        have hl : j < (es.toList.map (·.key)).length := by simp; have := (List.getElem?_eq_some_iff.1 he).1; simpa using this
        simp [hl]
        have := (Array.getElem?_eq_some_iff.1 he').1
        simpa using this
      · rw [if_neg hm, List.getElem?_map]
        cases es.toList[m]? <;> simp [hm]
    · rw [putL_at l k v j hkd hno]
      rw [Array.toList_modify, List.map_set, ← hv]
      apply List.ext_getElem?
      intro m
      rw [List.getElem?_map, List.getElem?_modify, List.getElem?_set]
      by_cases hm : j = m
      · subst hm
        rw [if_pos rfl, he]
        simp
        have := (Array.getElem?_eq_some_iff.1 he').1
        simpa using this
      · rw [if_neg hm, List.getElem?_map]
        cases es.toList[m]? <;> simp [hm]
    · intro e2 he2
      rw [Array.toList_modify] at he2
      obtain ⟨m, hm⟩ := List.mem_iff_getElem?.1 he2
      rw [List.getElem?_modify] at hm
      obtain ⟨e3, h3, h4⟩ := Option.map_eq_some_iff.1 hm
      have := hs e3 (List.mem_iff_getElem?.2 ⟨m, h3⟩)
      subst h4
      split <;> exact this
    · have e1 : (es.modify j fun e => { e with key := ek k, val := ev v }).toList.map (·.born) = es.toList.map (·.born) := by
        rw [Array.toList_modify]
        apply List.ext_getElem?
        intro m
        rw [List.getElem?_map, List.getElem?_modify, List.getElem?_map]
        cases es.toList[m]? with
        | none => rfl
        | some e => simp; split <;> rfl
      rw [e1]; exact hnd

/-! ### At the operation, for the walk -/
theorem wpList_insert {w : World} {ops : Array Oper} {rest : List Oper} {o : Oper} {a : Act} {Q : Exit → Act → World → Prop} (hg : o.guard = none) (t : TypeId) (m x v : Operand) (hop : o.op = Op.insert t m x v)
    {ek : κ → Value} {ev : ν → Value} {B : Nat} {l : List (κ × ν)} (h : MapR ek ev w B l) {K E : TypeId} (L : KeyLaw P K ek) (ht : P.underlying t = some (.map K E)) (k : κ) (u : ν)
    (hm : a.eval m = .map (some B)) (hx : a.eval x = ek k) (hv : a.eval v = ev u)
    (hK : ∀ w', MapR ek ev w' B (putL l k u) → w.grownBy w' (some B) → wpList P ops Q rest (a.put o.dst undef) w') : wpList P ops Q (o :: rest) a w := by
  refine wpList_plain hg fun K' hK' => ?_
  obtain ⟨w', hrun, r1, r2⟩ := h.put L ht k u
  unfold Oper.wp
  simp [execOp, hop, hm, hx, hv, hrun, Result.andThen]
  exact hK' _ _ (hK w' r1 r2)
theorem wpList_update {w : World} {ops : Array Oper} {rest : List Oper} {o : Oper} {a : Act} {Q : Exit → Act → World → Prop} (hg : o.guard = none) (t : TypeId) (m x v : Operand) (hop : o.op = Op.mapUpdate t m x v)
    {ek : κ → Value} {ev : ν → Value} {B : Nat} {l : List (κ × ν)} (h : MapR ek ev w B l) {K E : TypeId} (L : KeyLaw P K ek) (ht : P.underlying t = some (.map K E)) (k : κ) (u : ν)
    (hm : a.eval m = .map (some B)) (hx : a.eval x = ek k) (hv : a.eval v = ev u)
    (hK : ∀ w', MapR ek ev w' B (putL l k u) → w.grownBy w' (some B) → wpList P ops Q rest (a.put o.dst undef) w') : wpList P ops Q (o :: rest) a w := by
  refine wpList_plain hg fun K' hK' => ?_
  obtain ⟨w', hrun, r1, r2⟩ := h.put L ht k u
  unfold Oper.wp
  simp [execOp, hop, hm, hx, hv, hrun, Result.andThen]
  exact hK' _ _ (hK w' r1 r2)

theorem wpList_look {w : World} {ops : Array Oper} {rest : List Oper} {o : Oper} {a : Act} {Q : Exit → Act → World → Prop} (hg : o.guard = none) (t : TypeId) (m x : Operand) (ok : Bool) (hop : o.op = Op.lookup t m x ok)
    {ek : κ → Value} {ev : ν → Value} {B : Nat} {l : List (κ × ν)} (h : MapR ek ev w B l) {K E : TypeId} (L : KeyLaw P K ek) (ht : P.underlying t = some (.map K E)) {z : Value} (hz : ∀ w, Sem.run P (zeroValue E) w = .ok z w) (k : κ)
    (hm : a.eval m = .map (some B)) (hx : a.eval x = ek k) {r : Option ν} (hr : getL l k = r)
    (hK : wpList P ops Q rest (a.put o.dst (if ok then .tuple #[(r.map ev).getD z, .bool r.isSome] else (r.map ev).getD z)) w) : wpList P ops Q (o :: rest) a w := by
  refine wpList_plain hg fun K' hK' => ?_
  have hrun := h.look L ht hz k ok
  rw [hr] at hrun
  unfold Oper.wp
  simp [execOp, hop, hm, hx, hrun, Result.andThen]
  exact hK' _ _ hK

/-- Numbers of one kind as keys. -/
theorem findNow_int {kd kd' : IntKind} (k : Int) : ∀ (es : List MapEntry) (ks : List Int) (i : Nat), es.map (·.key) = ks.map (Value.int kd) → Instr.findNow (.int kd') (.int kd k) es i = some (findIn k ks es i)
  | [], ks, i, h => by cases ks with
    | nil => rfl
    | cons a b => simp at h
  | e :: es, [], i, h => by simp at h
  | e :: es, k' :: ks, i, h => by
    simp at h
    unfold Instr.findNow
    rw [h.1]
    simp only [Instr.sameNow, if_true, findIn]
    by_cases hk : k = k'
    · subst hk; simp
    · have : (k == k') = false := by simpa using hk
      rw [this, if_neg hk]
      exact findNow_int k es ks (i + 1) h.2
theorem keyLaw_int {K : TypeId} {kd : IntKind} (hk : P.underlying K = some (.int kd)) : KeyLaw P K (Value.int kd) where
  check b k w := MapKept.run_checkKey hk (show MapKept.IsKey (.int kd) (.int kd k) from rfl) b 9999
  find k es ks w h := MapKept.run_findKey hk (findNow_int k es ks 0 h)
  same k := by simp [Instr.sameBits]

/-- Keys that are aggregates: by '=='. -/
theorem findAsking_eq {K : TypeId} {ek : κ → Value} (heq : ∀ a b w, Sem.run P (Op.equal K (ek a) (ek b)) w = .ok (decide (a = b)) w) (k : κ) (w : World) : ∀ (es : List MapEntry) (ks : List κ) (i : Nat), es.map (·.key) = ks.map ek → Sem.run P (Instr.findAsking K (ek k) es i) w = .ok (findIn k ks es i) w
  | [], ks, i, h => by cases ks with
    | nil => rfl
    | cons a b => simp at h
  | e :: es, [], i, h => by simp at h
  | e :: es, k' :: ks, i, h => by
    simp at h
    unfold Instr.findAsking findIn
    rw [h.1]
    by_cases hk : k = k'
    · subst hk
      simp [heq, Result.andThen]
    · simp [heq, Result.andThen, hk, findAsking_eq heq k w es ks (i + 1) h.2]
theorem keyLaw_wide {K : TypeId} {ek : κ → Value} (hwide : (match P.underlying K with | some (.array _ _) | some (.struct _) => true | _ => false) = true) (hc : ∀ b k w, Sem.run P (Instr.checkKey b 10000 K (ek k)) w = .ok () w)
    (heq : ∀ a b w, Sem.run P (Op.equal K (ek a) (ek b)) w = .ok (decide (a = b)) w) (hs : ∀ k, Instr.sameBits 10000 (ek k) (ek k) = true) : KeyLaw P K ek where
  check := hc
  find k es ks w h := (run_findKey_eq w hwide _ _).trans (findAsking_eq heq k w es ks 0 h)
  same := hs
end
end Go.Proofs.Ytcjhkjplpbhjiaa
