/- The values of package scan as Lean structures, and what its functions compute, in plain words. -/
import Derived.WalkKit
namespace Go.Proofs.Ytcjhkjplpbhjiaa
open Go.RowKit

structure Scn where
  item : Int
  place : Int
  scanner : Int
  kind : Int
  at_ : Int
  seen : Int
  deriving Inhabited, DecidableEq
def encScn (x : Scn) : List Value := [.int .i64 x.item, .int .i64 x.place, .int .i64 x.scanner, .int .u8 x.kind, .int .i64 x.at_, .int .i64 x.seen]

structure Mrk where
  sc : Int
  at_ : Int
  off : Int
  deriving Inhabited, DecidableEq
def encMrk (x : Mrk) : List Value := [.int .i64 x.sc, .int .i64 x.at_, .int .i64 x.off]

structure Evt where
  s : Scn
  time : Int
  deriving Inhabited, DecidableEq
def encEvt (x : Evt) : List Value := [.int .i64 x.s.item, .int .i64 x.s.place, .int .i64 x.s.scanner, .int .u8 x.s.kind, .int .i64 x.s.at_, .int .i64 x.s.seen, .int .i64 x.time]

/-! ### Right -/
def inB (lo hi n : Int) : Bool := decide (lo ≤ n) && decide (n ≤ hi)
def okS (s : Scn) : Bool := inB 1 999999 s.item && (inB 1 999999 s.place && (inB 1 999999 s.scanner && (decide (1 ≤ s.kind) && (decide (s.kind ≤ 4) && (inB 0 1051898399 s.at_ && inB 0 1051898399 s.seen)))))
def okL (l : List Scn) : Bool := decide ((l.length : Int) ≤ 2000) && l.all okS

theorem okS_iff (s : Scn) : okS s = true ↔ (1 ≤ s.item ∧ s.item ≤ 999999) ∧ (1 ≤ s.place ∧ s.place ≤ 999999) ∧ (1 ≤ s.scanner ∧ s.scanner ≤ 999999) ∧ (1 ≤ s.kind ∧ s.kind ≤ 4) ∧ (0 ≤ s.at_ ∧ s.at_ ≤ 1051898399) ∧ (0 ≤ s.seen ∧ s.seen ≤ 1051898399) := by
  simp [okS, inB, and_assoc]

/-! ### Orders: number by number -/
def lexL : List Int → List Int → Bool
  | a :: r, b :: s => decide (a < b) || (decide (a = b) && lexL r s)
  | _, _ => false

theorem lexL_irrefl : ∀ a, lexL a a = false
  | [] => rfl
  | x :: r => by simp [lexL, lexL_irrefl r]
theorem lexL_trans : ∀ a b c, lexL a b = true → lexL b c = true → lexL a c = true
  | [], _, _, h, _ => by simp [lexL] at h
  | _ :: _, [], _, h, _ => by simp [lexL] at h
  | _ :: _, _ :: _, [], _, h => by simp [lexL] at h
  | x :: r, y :: s, z :: t, h1, h2 => by
    simp only [lexL, Bool.or_eq_true, decide_eq_true_eq, Bool.and_eq_true] at *
    rcases h1 with h1 | ⟨h1, k1⟩
    · rcases h2 with h2 | ⟨h2, k2⟩
      · exact .inl (by omega)
      · exact .inl (by omega)
    · rcases h2 with h2 | ⟨h2, k2⟩
      · exact .inl (by omega)
      · exact .inr ⟨by omega, lexL_trans r s t k1 k2⟩
theorem lexL_total : ∀ a b, a.length = b.length → lexL a b = false → lexL b a = false → a = b
  | [], [], _, _, _ => rfl
  | [], _ :: _, h, _, _ => by simp at h
  | _ :: _, [], h, _, _ => by simp at h
  | x :: r, y :: s, h, h1, h2 => by
    simp only [lexL, Bool.or_eq_false_iff, decide_eq_false_iff_not, Bool.and_eq_false_iff] at *
    have e : x = y := by omega
    subst e
    simp at h h1 h2
    rw [lexL_total r s h h1 h2]

section
variable {α : Type}
/-- What is asked of an order for a sorted list to be one alone. -/
structure Ord (lt : α → α → Bool) : Prop where
  irrefl : ∀ x, lt x x = false
  trans : ∀ x y z, lt x y = true → lt y z = true → lt x z = true
  total : ∀ x y, lt x y = false → lt y x = false → x = y

theorem Ord.asym {lt : α → α → Bool} (o : Ord lt) {x y : α} (h : lt x y = true) : lt y x = false := by
  cases h2 : lt y x
  · rfl
  · have := o.trans _ _ _ h h2; rw [o.irrefl] at this; cases this
theorem Ord.ntrans {lt : α → α → Bool} (o : Ord lt) {x y z : α} (h1 : lt x y = false) (h2 : lt y z = false) : lt x z = false := by
  cases h3 : lt x z
  · rfl
  · by_cases hxy : lt y x = true
    · have := o.trans _ _ _ hxy h3; rw [this] at h2; cases h2
    · have := o.total _ _ h1 (by simpa using hxy)
      subst this; rw [h2] at h3; cases h3

def insO (lt : α → α → Bool) (x : α) : List α → List α
  | [] => [x]
  | y :: r => if lt y x then y :: insO lt x r else x :: y :: r
def srt (lt : α → α → Bool) : List α → List α
  | [] => []
  | x :: r => insO lt x (srt lt r)

theorem insO_perm (lt : α → α → Bool) (x : α) : ∀ l, (insO lt x l).Perm (x :: l)
  | [] => List.Perm.refl _
  | y :: r => by
    unfold insO
    split
    · exact ((insO_perm lt x r).cons y).trans (List.Perm.swap _ _ _)
    · exact List.Perm.refl _
theorem srt_perm (lt : α → α → Bool) : ∀ l, (srt lt l).Perm l
  | [] => List.Perm.refl _
  | x :: r => (insO_perm lt x _).trans ((srt_perm lt r).cons x)
theorem insO_sorted {lt : α → α → Bool} (o : Ord lt) (x : α) : ∀ l, l.Pairwise (fun a b => lt b a = false) → (insO lt x l).Pairwise (fun a b => lt b a = false)
  | [], _ => by simp [insO]
  | y :: r, h => by
    obtain ⟨h1, h2⟩ := List.pairwise_cons.1 h
    unfold insO
    split
    · rename_i hy
      refine List.pairwise_cons.2 ⟨fun z hz => ?_, insO_sorted o x r h2⟩
      rcases List.mem_cons.1 ((insO_perm lt x r).mem_iff.1 hz) with rfl | hz
      · exact o.asym hy
      · exact h1 z hz
    · rename_i hy
      have hy : lt y x = false := by simpa using hy
      refine List.pairwise_cons.2 ⟨fun z hz => ?_, h⟩
      rcases List.mem_cons.1 hz with rfl | hz
      · exact hy
      · exact o.ntrans (h1 z hz) hy
theorem srt_sorted {lt : α → α → Bool} (o : Ord lt) : ∀ l, (srt lt l).Pairwise (fun a b => lt b a = false)
  | [] => List.Pairwise.nil
  | x :: r => insO_sorted o x _ (srt_sorted o r)
/-- Two sorted lists of the same elements are one. -/
theorem sorted_one {lt : α → α → Bool} (o : Ord lt) {a b : List α} (hp : a.Perm b) (ha : a.Pairwise (fun x y => lt y x = false)) (hb : b.Pairwise (fun x y => lt y x = false)) : a = b :=
  hp.eq_of_pairwise (fun x y _ _ h1 h2 => o.total x y h2 h1) ha hb
theorem srt_eq {lt : α → α → Bool} (o : Ord lt) {a l : List α} (hp : a.Perm l) (ha : a.Pairwise (fun x y => lt y x = false)) : a = srt lt l :=
  sorted_one o (hp.trans (srt_perm lt l).symm) ha (srt_sorted o l)
theorem srt_congr {lt : α → α → Bool} (o : Ord lt) {a b : List α} (hp : a.Perm b) : srt lt a = srt lt b :=
  sorted_one o ((srt_perm lt a).trans (hp.trans (srt_perm lt b).symm)) (srt_sorted o a) (srt_sorted o b)
end

def keyPl (x : Mrk) : List Int := [x.sc, x.at_]
def keyOff (x : Mrk) : List Int := [x.off, x.at_]
def keyEv (x : Evt) : List Int := [x.time, x.s.kind, x.s.place, x.s.scanner, x.s.item, x.s.at_, x.s.seen]
/-- The order of marks by their places; by what they tell; of events. -/
def ltPl (x y : Mrk) : Bool := lexL (keyPl x) (keyPl y)
def ltOff (x y : Mrk) : Bool := lexL (keyOff x) (keyOff y)
def ltEv (x y : Evt) : Bool := lexL (keyEv x) (keyEv y)

theorem ltPl_iff (x y : Mrk) : ltPl x y = true ↔ x.sc < y.sc ∨ (x.sc = y.sc ∧ x.at_ < y.at_) := by simp [ltPl, keyPl, lexL]
theorem ltOff_iff (x y : Mrk) : ltOff x y = true ↔ x.off < y.off ∨ (x.off = y.off ∧ x.at_ < y.at_) := by simp [ltOff, keyOff, lexL]
theorem ltPl_false (x y : Mrk) : ltPl x y = false ↔ y.sc < x.sc ∨ (x.sc = y.sc ∧ y.at_ ≤ x.at_) := by
  rw [← Bool.not_eq_true, ltPl_iff]; omega
theorem ltOff_false (x y : Mrk) : ltOff x y = false ↔ y.off < x.off ∨ (x.off = y.off ∧ y.at_ ≤ x.at_) := by
  rw [← Bool.not_eq_true, ltOff_iff]; omega

theorem ordEv : Ord ltEv where
  irrefl x := lexL_irrefl _
  trans x y z := lexL_trans _ _ _
  total x y h1 h2 := by
    have := lexL_total (keyEv x) (keyEv y) rfl h1 h2
    obtain ⟨⟨a, b, c, d, e, f⟩, t⟩ := x
    obtain ⟨⟨a', b', c', d', e', f'⟩, t'⟩ := y
    simp [keyEv] at this
    obtain ⟨rfl, rfl, rfl, rfl, rfl, rfl, rfl⟩ := this
    rfl

/-! ### Lists of keys and values, as maps -/
section
variable {κ ν : Type} [DecidableEq κ]
def putL (l : List (κ × ν)) (k : κ) (v : ν) : List (κ × ν) :=
  match l with
  | [] => [(k, v)]
  | p :: r => if k = p.1 then (k, v) :: r else p :: putL r k v
def getL (l : List (κ × ν)) (k : κ) : Option ν :=
  match l with
  | [] => none
  | p :: r => if k = p.1 then some p.2 else getL r k

theorem getL_put (l : List (κ × ν)) (k k' : κ) (v : ν) : getL (putL l k v) k' = if k' = k then some v else getL l k' := by
  induction l with
  | nil => simp [putL, getL]
  | cons p r ih =>
    unfold putL
    by_cases h : k = p.1
    · rw [if_pos h]
      simp only [getL]
      by_cases h2 : k' = k
      · rw [if_pos h2, if_pos h2]
      · rw [if_neg h2, if_neg h2, if_neg (by rw [← h]; exact h2)]
    · rw [if_neg h]
      simp only [getL]
      by_cases h2 : k' = p.1
      · rw [if_pos h2, if_pos h2, if_neg (by rw [h2]; exact fun e => h e.symm)]
      · rw [if_neg h2, if_neg h2, ih]

theorem putL_keys (l : List (κ × ν)) (k : κ) (v : ν) (x : κ) : x ∈ (putL l k v).map (·.1) ↔ x = k ∨ x ∈ l.map (·.1) := by
  induction l with
  | nil => simp [putL]
  | cons p r ih =>
    unfold putL
    by_cases h : k = p.1
    · rw [if_pos h]; simp [h]
    · rw [if_neg h, List.map_cons, List.mem_cons, ih, List.map_cons, List.mem_cons]
      constructor
      · rintro (h | h | h) <;> simp [h]
      · rintro (h | h | h) <;> simp [h]
theorem putL_nodup (l : List (κ × ν)) (k : κ) (v : ν) (h : (l.map (·.1)).Nodup) : ((putL l k v).map (·.1)).Nodup := by
  induction l with
  | nil => simp [putL]
  | cons p r ih =>
    rw [List.map_cons, List.nodup_cons] at h
    unfold putL
    by_cases hk : k = p.1
    · rw [if_pos hk, List.map_cons, List.nodup_cons]
      exact ⟨by rw [hk]; exact h.1, h.2⟩
    · rw [if_neg hk, List.map_cons, List.nodup_cons]
      refine ⟨fun hm => ?_, ih h.2⟩
      rcases (putL_keys r k v p.1).1 hm with h3 | h3
      · exact hk h3.symm
      · exact h.1 h3
theorem mem_getL {l : List (κ × ν)} (h : (l.map (·.1)).Nodup) (k : κ) (v : ν) : (k, v) ∈ l ↔ getL l k = some v := by
  induction l with
  | nil => simp [getL]
  | cons p r ih =>
    rw [List.map_cons, List.nodup_cons] at h
    unfold getL
    by_cases hk : k = p.1
    · subst hk
      rw [if_pos rfl, List.mem_cons]
      constructor
      · rintro (h3 | h3)
        · rw [← h3]
        · exact absurd (List.mem_map_of_mem (f := (·.1)) h3) h.1
      · intro h3; simp at h3; exact .inl (by rw [← h3])
    · rw [if_neg hk, List.mem_cons, ← ih h.2]
      constructor
      · rintro (h3 | h3)
        · exact absurd (congrArg (·.1) h3) hk
        · exact h3
      · exact .inr
end

/-! ### The marks -/
abbrev Key2 := Int × Int
def bestL (d : List (Key2 × Mrk)) (k : Key2) (m : Mrk) : List (Key2 × Mrk) :=
  match getL d k with
  | some old => if ltOff m old then putL d k m else d
  | none => putL d k m
def dayKey (s : Scn) : Key2 := (s.scanner, s.seen / 1440)
def markOf (s : Scn) : Mrk := ⟨s.scanner, s.at_, s.seen - s.at_⟩
def atKey (m : Mrk) : Key2 := (m.sc, m.at_)
def foldB (ps : List (Key2 × Mrk)) : List (Key2 × Mrk) := ps.foldl (fun d p => bestL d p.1 p.2) []
def daysP (l : List Scn) : List (Key2 × Mrk) := l.map fun s => (dayKey s, markOf s)
def atP (vs : List Mrk) : List (Key2 × Mrk) := vs.map fun m => (atKey m, m)
def marksF (l : List Scn) : List Mrk := srt ltPl ((foldB (atP ((foldB (daysP l)).map (·.2)))).map (·.2))

/-! ### Times -/
def offGo (at_ : Int) : Int → Mrk → List Mrk → Int
  | out, _, [] => out
  | _, last, m :: r => if at_ ≤ m.at_ then (if last.sc = 0 ∨ m.at_ = at_ then m.off else last.off + (m.off - last.off) * (at_ - last.at_) / (m.at_ - last.at_)) else offGo at_ m.off m r
def offF (ms : List Mrk) (scanner at_ : Int) : Int := offGo at_ 0 ⟨0, 0, 0⟩ (ms.filter fun m => decide (m.sc = scanner))
def corrF (ms : List Mrk) (s : Scn) : Int := min (max (s.at_ + offF ms s.scanner s.at_) 0) s.seen
def okM (m : Mrk) : Bool := inB 1 999999 m.sc && (inB 0 1051898399 m.at_ && inB (-1051898399) 1051898399 m.off)
def risingL : List Mrk → Bool
  | a :: b :: r => ltPl a b && risingL (b :: r)
  | _ => true
def okMs (ms : List Mrk) : Bool := ms.all okM && risingL ms

/-! ### Events -/
abbrev Key3 := Int × Int × Int
def evKey (s : Scn) : Key3 := (s.item, s.place, s.kind)
def evsF (l : List Scn) : List Evt := srt ltEv (l.map fun s => ⟨s, corrF (marksF l) s⟩)
def partStep (st : List (Key3 × Int) × List Evt × List Evt) (x : Evt) : List (Key3 × Int) × List Evt × List Evt :=
  match getL st.1 (evKey x.s) with
  | some t => if x.time - t ≤ 10 then (st.1, st.2.1, st.2.2 ++ [x]) else (putL st.1 (evKey x.s) x.time, st.2.1 ++ [x], st.2.2)
  | none => (putL st.1 (evKey x.s) x.time, st.2.1 ++ [x], st.2.2)
def partF (es : List Evt) : List (Key3 × Int) × List Evt × List Evt := es.foldl partStep ([], [], [])
def keptF (l : List Scn) : List Evt := (partF (evsF l)).2.1
def doubF (l : List Scn) : List Evt := (partF (evsF l)).2.2
end Go.Proofs.Ytcjhkjplpbhjiaa
