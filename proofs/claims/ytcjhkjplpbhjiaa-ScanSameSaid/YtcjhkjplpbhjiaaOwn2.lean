/- Two rows of one's own; events' cells; what parted computes, step by step. -/
import Derived.Test.YtcjhkjplpbhjiaaMarks
import Derived.Test.YtcjhkjplpbhjiaaCorr
namespace Go.Proofs.Ytcjhkjplpbhjiaa
open Go.RowKit Go.Proofs
set_option maxRecDepth 100000

theorem own_below {w w' : World} {base : Nat} {e : TypeId} {k n : Nat} {v : Value} {xs : List Value} (h : w.ownsRow base e k v n xs) (hb : Below w.heap.size w w') : w'.ownsRow base e k v n xs := by
  obtain ⟨h1, h2⟩ := h
  refine ⟨h1, h2.imp id ?_⟩
  rintro ⟨g, cap, cur, hv, hg, hh, r⟩
  exact ⟨g, cap, cur, hv, hg, (hb.block g (Array.getElem?_eq_some_iff.1 hh).1).trans hh, r⟩
theorem own_ge {w : World} {base k n g : Nat} {e : TypeId} {v : Value} {xs : List Value} (h : w.ownsRow base e k v n xs) (hg : v.ownBlock = some g) : base ≤ g := by
  rcases h.2 with ⟨rfl, _⟩ | ⟨g', cap, cur, rfl, hb, _⟩
  · simp [Value.ownBlock] at hg
  · simp [Value.ownBlock] at hg; omega
theorem addp (b o n : Nat) : (⟨b, o, none⟩ : Addr).add n = ⟨b, o + n, none⟩ := by
  unfold Addr.add
  split
  · rename_i h; simp_all
  · rfl

def apartV (a b : Value) : Prop := a.ownBlock = none ∨ a.ownBlock ≠ b.ownBlock
theorem apartV.symm {a b : Value} (h : apartV a b) : apartV b a := by
  unfold apartV at *
  cases ha : a.ownBlock with
  | none =>
    cases hb : b.ownBlock with
    | none => exact .inl rfl
    | some k => exact .inr (fun h => by cases h)
  | some k =>
    rw [ha] at h
    rcases h with h | h
    · cases h
    · exact .inr (fun e => h e.symm)
theorem apartV.grow {w : World} {base n k : Nat} {e : TypeId} {a b b' : Value} {xs : List Value} (h : apartV a b) (ho : w.ownsRow base e k a n xs) (hb : b'.ownBlock = b.ownBlock ∨ b'.ownBlock = some w.heap.size) : apartV a b' := by
  rcases hb with hb | hb
  · unfold apartV at *; rw [hb]; exact h
  · unfold apartV
    rw [hb]
    cases ha : a.ownBlock with
    | none => exact .inl rfl
    | some k =>
      refine .inr (fun e => ?_)
      have := (ho.lt k ha).2
      simp at e; omega

/-- Two slices of one's own, each in a block for itself. -/
structure Own2 {α β : Type} (f : α → List Value) (g : β → List Value) (kf kg base : Nat) (ef eg : TypeId) (w : World) (a b : Value) (A : List α) (B : List β) : Prop where
  oA : w.ownsRow base ef kf a A.length (A.flatMap f)
  oB : w.ownsRow base eg kg b B.length (B.flatMap g)
  ab : apartV a b
section
variable {α β : Type} {f : α → List Value} {g : β → List Value} {kf kg base : Nat} {ef eg : TypeId} {w w' : World} {a b v' : Value} {A A' : List α} {B B' : List β}
theorem Own2.nil : Own2 f g kf kg base ef eg w (.slice none 0 0) (.slice none 0 0) [] [] := ⟨World.ownsRow_nil _ _ _ _, World.ownsRow_nil _ _ _ _, .inl rfl⟩
theorem Own2.below (s : Own2 f g kf kg base ef eg w a b A B) (hb : Below w.heap.size w w') : Own2 f g kf kg base ef eg w' a b A B :=
  ⟨own_below s.oA hb, own_below s.oB hb, s.ab⟩
theorem Own2.growA (s : Own2 f g kf kg base ef eg w a b A B) (ho : w'.ownsRow base ef kf v' A'.length (A'.flatMap f)) (hg : w.grownBy w' a.ownBlock) (hb : v'.ownBlock = a.ownBlock ∨ v'.ownBlock = some w.heap.size) : Own2 f g kf kg base ef eg w' v' b A' B :=
  ⟨ho, s.oB.kept hg s.ab.symm, (s.ab.symm.grow s.oB hb).symm⟩
theorem Own2.growB (s : Own2 f g kf kg base ef eg w a b A B) (ho : w'.ownsRow base eg kg v' B'.length (B'.flatMap g)) (hg : w.grownBy w' b.ownBlock) (hb : v'.ownBlock = b.ownBlock ∨ v'.ownBlock = some w.heap.size) : Own2 f g kf kg base ef eg w' a v' A B' :=
  ⟨s.oA.kept hg s.ab, ho, s.ab.grow s.oA hb⟩
/-- A step that changes only a block below the rows. -/
theorem Own2.other {k : Nat} (s : Own2 f g kf kg base ef eg w a b A B) (hk : k < base) (hg : w.grownBy w' (some k)) : Own2 f g kf kg base ef eg w' a b A B := by
  have h1 : a.ownBlock = none ∨ a.ownBlock ≠ some k := .inr (fun e => by have := own_ge s.oA e; omega)
  have h2 : b.ownBlock = none ∨ b.ownBlock ≠ some k := .inr (fun e => by have := own_ge s.oB e; omega)
  exact ⟨s.oA.kept hg h1, s.oB.kept hg h2, s.ab⟩
end

theorem infEvt : (Try.prog.info? 48).map (fun i => (i.zero, i.size, i.bytes)) = some (some (.agg #[.int .i64 0, .int .i64 0, .int .i64 0, .int .u8 0, .int .i64 0, .int .i64 0, .int .i64 0]), 7, 56) := by kernel_rfl
theorem evt_one (x : Evt) : ∀ u ∈ encEvt x, u.oneCell' = true := by
  intro u hu
  simp [encEvt] at hu
  rcases hu with rfl | rfl | rfl | rfl | rfl | rfl | rfl <;> rfl

theorem marks_ok {l : List Scn} (h : ∀ s ∈ l, okS s = true) : ∀ m ∈ marksF l, okM m = true := by
  intro m hm
  obtain ⟨⟨s, hs, rfl, -⟩, -⟩ := ((marksF_is l).mem m).1 hm
  obtain ⟨-, -, ⟨a1, a2⟩, -, ⟨b1, b2⟩, c1, c2⟩ := (okS_iff s).1 (h s hs)
  unfold okM inB markOf
  simp only [Bool.and_eq_true]
  exact ⟨⟨decide_eq_true a1, decide_eq_true a2⟩, ⟨decide_eq_true b1, decide_eq_true b2⟩, decide_eq_true (by omega), decide_eq_true (by omega)⟩
theorem marks_len (l : List Scn) : (marksF l).length ≤ l.length := by
  unfold marksF
  rw [(srt_perm _ _).length_eq, List.length_map]
  refine Nat.le_trans (foldB_len _) ?_
  unfold atP
  rw [List.length_map, List.length_map]
  refine Nat.le_trans (foldB_len _) ?_
  unfold daysP
  rw [List.length_map]
  exact Nat.le_refl _
theorem part_snoc {es : List Evt} {j : Nat} {x : Evt} (h : es[j]? = some x) : partF (es.take (j + 1)) = partStep (partF (es.take j)) x := by
  rw [List.take_add_one, h]
  unfold partF
  rw [List.foldl_append]
  rfl
theorem part_vals {lo hi : Int} (es : List Evt) (h : ∀ x ∈ es, lo ≤ x.time ∧ x.time ≤ hi) : ∀ k t, getL (partF es).1 k = some t → lo ≤ t ∧ t ≤ hi := by
  have : ∀ (es : List Evt) (st : List (Key3 × Int) × List Evt × List Evt), (∀ x ∈ es, lo ≤ x.time ∧ x.time ≤ hi) → (∀ k t, getL st.1 k = some t → lo ≤ t ∧ t ≤ hi) → ∀ k t, getL (es.foldl partStep st).1 k = some t → lo ≤ t ∧ t ≤ hi := by
    intro es
    induction es with
    | nil => intro st _ h; exact h
    | cons x r ih =>
      intro st hx h0
      rw [List.foldl_cons]
      have hput : ∀ k t, getL (putL st.1 (evKey x.s) x.time) k = some t → lo ≤ t ∧ t ≤ hi := by
        intro k t hk
        rw [getL_put] at hk
        split at hk
        · injection hk with hk; subst hk; exact hx x (by simp)
        · exact h0 k t hk
      refine ih _ (fun y hy => hx y (by simp [hy])) ?_
      unfold partStep
      split
      · split
        · exact h0
        · exact hput
      · exact hput
  exact this es ([], [], []) h (fun k t hk => by simp [getL] at hk)
theorem corrF_bd (ms : List Mrk) (s : Scn) (h : okS s = true) : 0 ≤ corrF ms s ∧ corrF ms s ≤ 1051898399 := by
  obtain ⟨-, -, -, -, -, c1, c2⟩ := (okS_iff s).1 h
  unfold corrF
  omega
theorem part_len (es : List Evt) : (partF es).2.1.length + (partF es).2.2.length = es.length := by
  have : ∀ (es : List Evt) (st : List (Key3 × Int) × List Evt × List Evt), (es.foldl partStep st).2.1.length + (es.foldl partStep st).2.2.length = st.2.1.length + st.2.2.length + es.length := by
    intro es
    induction es with
    | nil => intro st; simp
    | cons x r ih =>
      intro st
      rw [List.foldl_cons, ih]
      unfold partStep
      split
      · split <;> simp <;> omega
      · simp; omega
  have := this es ([], [], [])
  simpa [partF] using this
end Go.Proofs.Ytcjhkjplpbhjiaa
