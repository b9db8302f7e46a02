/- What the marks of scans are, whatever the order in which they are gathered. -/
import Derived.Test.YtcjhkjplpbhjiaaSc
namespace Go.Proofs.Ytcjhkjplpbhjiaa

/-- What a map of the best marks holds of the pairs that were laid into it. -/
structure Best (qs : List (Key2 × Mrk)) (d : List (Key2 × Mrk)) : Prop where
  nodup : (d.map (·.1)).Nodup
  some : ∀ k m, getL d k = some m → (k, m) ∈ qs ∧ ∀ m', (k, m') ∈ qs → ltOff m' m = false
  none : ∀ k, getL d k = none → ∀ m, (k, m) ∉ qs

theorem Best.nil : Best [] [] := ⟨by simp, fun k m h => by simp [getL] at h, fun k _ m h => by simp at h⟩
theorem bestL_get (d : List (Key2 × Mrk)) (k k' : Key2) (m : Mrk) : getL (bestL d k m) k' = if k' = k then (match getL d k with | some old => if ltOff m old then some m else some old | none => some m) else getL d k' := by
  unfold bestL
  cases h : getL d k with
  | none => simp only [getL_put]
  | some old =>
    dsimp only
    by_cases hl : ltOff m old = true
    · rw [if_pos hl, if_pos hl, getL_put]
    · rw [if_neg hl, if_neg hl]
      by_cases e : k' = k
      · subst e; rw [if_pos rfl, h]
      · rw [if_neg e]
theorem ltOff_asym {x y : Mrk} (h : ltOff x y = true) : ltOff y x = false := by
  rw [ltOff_iff] at h; rw [ltOff_false]; omega
theorem ltOff_nt {x y z : Mrk} (h1 : ltOff x y = false) (h2 : ltOff y z = false) : ltOff x z = false := by
  rw [ltOff_false] at *; omega
theorem ltOff_irr (x : Mrk) : ltOff x x = false := by rw [ltOff_false]; omega

theorem Best.step {qs d : List (Key2 × Mrk)} (h : Best qs d) (k : Key2) (m : Mrk) : Best (qs ++ [(k, m)]) (bestL d k m) := by
  refine ⟨?_, fun k' m' hg => ?_, fun k' hg m' hm => ?_⟩
  · unfold bestL
    cases getL d k with
    | none => exact putL_nodup _ _ _ h.nodup
    | some old =>
      dsimp only
      split
      · exact putL_nodup _ _ _ h.nodup
      · exact h.nodup
  · rw [bestL_get] at hg
    by_cases e : k' = k
    · subst e
      rw [if_pos rfl] at hg
      cases ho : getL d k' with
      | none =>
        rw [ho] at hg; simp at hg; subst hg
        refine ⟨by simp, fun m2 h2 => ?_⟩
        rcases List.mem_append.1 h2 with h2 | h2
        · exact absurd h2 (h.none k' ho m2)
        · simp at h2; subst h2; exact ltOff_irr _
      | some old =>
        rw [ho] at hg
        dsimp only at hg
        obtain ⟨h3, h4⟩ := h.some k' old ho
        by_cases hl : ltOff m old = true
        · rw [if_pos hl] at hg; simp at hg; subst hg
          refine ⟨by simp, fun m2 h2 => ?_⟩
          rcases List.mem_append.1 h2 with h2 | h2
          · exact ltOff_nt (h4 m2 h2) (ltOff_asym hl)
          · simp at h2; subst h2; exact ltOff_irr _
        · rw [if_neg hl] at hg; simp at hg; subst hg
          refine ⟨by simp [h3], fun m2 h2 => ?_⟩
          rcases List.mem_append.1 h2 with h2 | h2
          · exact h4 m2 h2
          · simp at h2; subst h2; simpa using hl
    · rw [if_neg e] at hg
      obtain ⟨h3, h4⟩ := h.some k' m' hg
      refine ⟨by simp [h3], fun m2 h2 => ?_⟩
      rcases List.mem_append.1 h2 with h2 | h2
      · exact h4 m2 h2
      · simp at h2; exact absurd h2.1 e
  · rw [bestL_get] at hg
    by_cases e : k' = k
    · subst e
      rw [if_pos rfl] at hg
      cases ho : getL d k' with
      | none => rw [ho] at hg; cases hg
      | some old =>
        rw [ho] at hg; dsimp only at hg
        split at hg <;> cases hg
    · rw [if_neg e] at hg
      rcases List.mem_append.1 hm with h2 | h2
      · exact h.none k' hg m' h2
      · simp at h2; exact e h2.1
theorem best_fold : ∀ (ps qs d : List (Key2 × Mrk)), Best qs d → Best (qs ++ ps) (ps.foldl (fun d p => bestL d p.1 p.2) d)
  | [], qs, d, h => by simpa using h
  | p :: r, qs, d, h => by
    rw [List.foldl_cons]
    have := best_fold r (qs ++ [p]) _ (h.step p.1 p.2)
    simpa using this
theorem foldB_best (ps : List (Key2 × Mrk)) : Best ps (foldB ps) := by
  have := best_fold ps [] [] Best.nil
  rw [List.nil_append] at this
  exact this
theorem foldB_snoc (ps : List (Key2 × Mrk)) (p : Key2 × Mrk) : foldB (ps ++ [p]) = bestL (foldB ps) p.1 p.2 := by
  simp [foldB, List.foldl_append]

/-- The values of such a map, where a key tells all but Off. -/
theorem Best.values {qs d : List (Key2 × Mrk)} (h : Best qs d) (hu : ∀ k m m', (k, m) ∈ qs → (k, m') ∈ qs → ltOff m m' = false → ltOff m' m = false → m = m') (m : Mrk) :
    m ∈ d.map (·.2) ↔ ∃ k, (k, m) ∈ qs ∧ ∀ m', (k, m') ∈ qs → ltOff m' m = false := by
  constructor
  · intro hm
    obtain ⟨p, hp, rfl⟩ := List.mem_map.1 hm
    have := (mem_getL h.nodup p.1 p.2).1 hp
    exact ⟨p.1, h.some _ _ this⟩
  · rintro ⟨k, hk, hmin⟩
    cases ho : getL d k with
    | none => exact absurd hk (h.none k ho m)
    | some m' =>
      obtain ⟨h1, h2⟩ := h.some k m' ho
      have := hu k m m' hk h1 (h2 m hk) (hmin m' h1)
      subst this
      exact List.mem_map.2 ⟨(k, m), (mem_getL h.nodup k m).2 ho, rfl⟩

/-- A mark that the scans of a scanner and a day make. -/
def DayBest (l : List Scn) (m : Mrk) : Prop := ∃ s ∈ l, markOf s = m ∧ ∀ s' ∈ l, dayKey s' = dayKey s → ltOff (markOf s') m = false

theorem daysP_mem (l : List Scn) (k : Key2) (m : Mrk) : (k, m) ∈ daysP l ↔ ∃ s ∈ l, dayKey s = k ∧ markOf s = m := by
  unfold daysP; simp [List.mem_map, Prod.ext_iff]
theorem days_values (l : List Scn) (m : Mrk) : m ∈ (foldB (daysP l)).map (·.2) ↔ DayBest l m := by
  rw [(foldB_best (daysP l)).values]
  · constructor
    · rintro ⟨k, hk, hmin⟩
      obtain ⟨s, hs, rfl, rfl⟩ := (daysP_mem _ _ _).1 hk
      exact ⟨s, hs, rfl, fun s' hs' e => hmin _ ((daysP_mem _ _ _).2 ⟨s', hs', e, rfl⟩)⟩
    · rintro ⟨s, hs, rfl, hmin⟩
      refine ⟨dayKey s, (daysP_mem _ _ _).2 ⟨s, hs, rfl, rfl⟩, fun m' hm' => ?_⟩
      obtain ⟨s', hs', e, rfl⟩ := (daysP_mem _ _ _).1 hm'
      exact hmin s' hs' e
  · intro k m m' h1 h2 h3 h4
    obtain ⟨s, _, rfl, rfl⟩ := (daysP_mem _ _ _).1 h1
    obtain ⟨s', _, e, rfl⟩ := (daysP_mem _ _ _).1 h2
    simp only [dayKey, Prod.mk.injEq] at e
    rw [ltOff_false] at h3 h4
    have e1 : (markOf s).off = (markOf s').off := by omega
    have e2 : (markOf s).at_ = (markOf s').at_ := by omega
    unfold markOf at e1 e2 ⊢
    simp only [Mrk.mk.injEq] at *
    exact ⟨e.1.symm, e2, e1⟩

theorem at_values (vs : List Mrk) (m : Mrk) : m ∈ (foldB (atP vs)).map (·.2) ↔ m ∈ vs ∧ ∀ m' ∈ vs, m'.sc = m.sc → m'.at_ = m.at_ → m.off ≤ m'.off := by
  have hmem : ∀ k m, (k, m) ∈ atP vs ↔ m ∈ vs ∧ atKey m = k := fun k m => by
    unfold atP; simp only [List.mem_map, Prod.mk.injEq]
    constructor
    · rintro ⟨a, h1, h2, rfl⟩; exact ⟨h1, h2⟩
    · rintro ⟨h1, h2⟩; exact ⟨m, h1, h2, rfl⟩
  rw [(foldB_best (atP vs)).values]
  · constructor
    · rintro ⟨k, hk, hmin⟩
      obtain ⟨h1, rfl⟩ := (hmem _ _).1 hk
      refine ⟨h1, fun m' hm' e1 e2 => ?_⟩
      have := hmin m' ((hmem _ _).2 ⟨hm', by simp [atKey, e1, e2]⟩)
      rw [ltOff_false] at this; omega
    · rintro ⟨h1, hmin⟩
      refine ⟨atKey m, (hmem _ _).2 ⟨h1, rfl⟩, fun m' hm' => ?_⟩
      obtain ⟨h2, e⟩ := (hmem _ _).1 hm'
      simp only [atKey, Prod.mk.injEq] at e
      have := hmin m' h2 e.1 e.2
      rw [ltOff_false]; omega
  · intro k m m' h1 h2 h3 h4
    obtain ⟨_, rfl⟩ := (hmem _ _).1 h1
    obtain ⟨_, e⟩ := (hmem _ _).1 h2
    simp only [atKey, Prod.mk.injEq] at e
    rw [ltOff_false] at h3 h4
    cases m; cases m'
    simp only [Mrk.mk.injEq] at *
    omega

theorem ordPl_irr (x : Mrk) : ltPl x x = false := lexL_irrefl _
theorem ltPl_tr {x y z : Mrk} (h1 : ltPl x y = true) (h2 : ltPl y z = true) : ltPl x z = true := lexL_trans _ _ _ h1 h2

/-- What the marks of scans are. -/
structure IsMarks (l : List Scn) (ms : List Mrk) : Prop where
  sorted : ms.Pairwise (fun x y => ltPl x y = true)
  mem : ∀ m, m ∈ ms ↔ DayBest l m ∧ ∀ m', DayBest l m' → m'.sc = m.sc → m'.at_ = m.at_ → m.off ≤ m'.off

/-- Lists that are strictly sorted and have the same members are one. -/
theorem strict_one {a b : List Mrk} (ha : a.Pairwise (fun x y => ltPl x y = true)) (hb : b.Pairwise (fun x y => ltPl x y = true)) (h : ∀ m, m ∈ a ↔ m ∈ b) : a = b := by
  have nd : ∀ {l : List Mrk}, l.Pairwise (fun x y => ltPl x y = true) → l.Nodup := fun hl => hl.imp (fun {x y} hxy e => by subst e; rw [ordPl_irr] at hxy; cases hxy)
  have hp : a.Perm b := (List.perm_ext_iff_of_nodup (nd ha) (nd hb)).2 h
  refine hp.eq_of_pairwise (fun x y _ _ h1 h2 => ?_) ha hb
  have := ltPl_tr h1 h2
  rw [ordPl_irr] at this; cases this
theorem IsMarks.one {l : List Scn} {a b : List Mrk} (ha : IsMarks l a) (hb : IsMarks l b) : a = b :=
  strict_one ha.sorted hb.sorted fun m => (ha.mem m).trans (hb.mem m).symm

/-- The map's values, in whatever order, sorted by their places. -/
theorem isMarks_of {l : List Scn} {vs ms : List Mrk} (hv : vs.Perm ((foldB (daysP l)).map (·.2))) (hp : ms.Perm ((foldB (atP vs)).map (·.2))) (hs : ms.Pairwise (fun x y => ltPl y x = false)) : IsMarks l ms := by
  have hin : ∀ m, m ∈ vs ↔ DayBest l m := fun m => (hv.mem_iff).trans (days_values l m)
  refine ⟨?_, fun m => ?_⟩
  · have hne : ms.Pairwise (fun x y => atKey x ≠ atKey y) := by
      have hkeys : ((foldB (atP vs)).map (·.2)).Pairwise (fun x y => atKey x ≠ atKey y) := by
        have hb := foldB_best (atP vs)
        have hk : ∀ p ∈ foldB (atP vs), p.1 = atKey p.2 := fun p hp => by
          obtain ⟨h1, _⟩ := hb.some p.1 p.2 ((mem_getL hb.nodup p.1 p.2).1 hp)
          unfold atP at h1
          obtain ⟨a, _, h2⟩ := List.mem_map.1 h1
          rw [Prod.mk.injEq] at h2
          rw [← h2.1, h2.2]
        rw [List.pairwise_map]
        have := hb.nodup
        unfold List.Nodup at this
        rw [List.pairwise_map] at this
        refine this.imp_of_mem ?_
        intro x y hx hy hxy
        rw [← hk x hx, ← hk y hy]; exact hxy
      exact (hp.pairwise_iff (fun {_ _} h => Ne.symm h)).2 hkeys
    refine (hs.and hne).imp ?_
    rintro x y ⟨h1, h2⟩
    rw [ltPl_false] at h1
    rw [ltPl_iff]
    simp only [atKey, ne_eq, Prod.mk.injEq, not_and] at h2
    rcases h1 with h1 | ⟨h1, h3⟩
    · exact .inl h1
    · have := h2 h1.symm; exact .inr ⟨h1.symm, by omega⟩
  · rw [hp.mem_iff, at_values, hin]
    exact and_congr_right fun _ => ⟨fun h m' hm' => h m' ((hin m').2 hm'), fun h m' hm' => h m' ((hin m').1 hm')⟩

theorem lexL_nt2 {a b c : List Int} (h1 : lexL a b = false) (h2 : lexL b c = false) (l1 : a.length = b.length) (l2 : b.length = c.length) : lexL a c = false := by
  cases h3 : lexL a c
  · rfl
  · by_cases hxy : lexL b a = true
    · have := lexL_trans _ _ _ hxy h3; rw [this] at h2; cases h2
    · have := lexL_total _ _ l1 h1 (by simpa using hxy)
      subst this; rw [h2] at h3; cases h3
/-- The sort of marks, though two of one place may differ. -/
theorem srtPl_sorted : ∀ l : List Mrk, (srt ltPl l).Pairwise (fun x y => ltPl y x = false)
  | [] => List.Pairwise.nil
  | x :: r => by
    have ins : ∀ l : List Mrk, l.Pairwise (fun a b => ltPl b a = false) → (insO ltPl x l).Pairwise (fun a b => ltPl b a = false) := by
      intro l
      induction l with
      | nil => intro _; simp [insO]
      | cons y r ih =>
        intro h
        obtain ⟨h1, h2⟩ := List.pairwise_cons.1 h
        unfold insO
        split
        · rename_i hy
          refine List.pairwise_cons.2 ⟨fun z hz => ?_, ih h2⟩
          rcases List.mem_cons.1 ((insO_perm ltPl x r).mem_iff.1 hz) with rfl | hz
          · rw [ltPl_iff] at hy; rw [ltPl_false]; omega
          · exact h1 z hz
        · rename_i hy
          have hy : ltPl y x = false := by simpa using hy
          refine List.pairwise_cons.2 ⟨fun z hz => ?_, h⟩
          rcases List.mem_cons.1 hz with rfl | hz
          · exact hy
          · exact lexL_nt2 (h1 z hz) hy rfl rfl
    exact ins _ (srtPl_sorted r)
theorem marksF_is (l : List Scn) : IsMarks l (marksF l) := isMarks_of (List.Perm.refl _) (srt_perm _ _) (srtPl_sorted _)
theorem marksF_eq {l : List Scn} {ms : List Mrk} (h : IsMarks l ms) : ms = marksF l := h.one (marksF_is l)

/-- The marks hang on the set of scans alone. -/
theorem marksF_congr {l l' : List Scn} (h : ∀ s, s ∈ l ↔ s ∈ l') : marksF l = marksF l' := by
  refine (marksF_is l).one ⟨(marksF_is l').sorted, fun m => ?_⟩
  have e : ∀ m, DayBest l m ↔ DayBest l' m := fun m => by
    unfold DayBest
    constructor
    · rintro ⟨s, hs, h1, h2⟩; exact ⟨s, (h s).1 hs, h1, fun s' hs' => h2 s' ((h s').2 hs')⟩
    · rintro ⟨s, hs, h1, h2⟩; exact ⟨s, (h s).2 hs, h1, fun s' hs' => h2 s' ((h s').1 hs')⟩
  rw [(marksF_is l').mem m, e]
  exact and_congr_right fun _ => ⟨fun h m' hm' => h m' ((e m').1 hm'), fun h m' hm' => h m' ((e m').2 hm')⟩
end Go.Proofs.Ytcjhkjplpbhjiaa
