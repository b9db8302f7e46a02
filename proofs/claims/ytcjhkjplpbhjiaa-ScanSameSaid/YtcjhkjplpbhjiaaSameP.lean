/- The plain law of ScanSame: what is kept depends on which scans there are alone. -/
import Derived.Test.YtcjhkjplpbhjiaaScP
namespace Go.Proofs.Ytcjhkjplpbhjiaa

/-- One step of parting, without what came twice. -/
def stepK (st : List (Key3 × Int) × List Evt) (x : Evt) : List (Key3 × Int) × List Evt :=
  match getL st.1 (evKey x.s) with
  | some t => if x.time - t ≤ 10 then st else (putL st.1 (evKey x.s) x.time, st.2 ++ [x])
  | none => (putL st.1 (evKey x.s) x.time, st.2 ++ [x])
theorem stepK_part (st : List (Key3 × Int) × List Evt × List Evt) (x : Evt) : ((partStep st x).1, (partStep st x).2.1) = stepK (st.1, st.2.1) x := by
  unfold partStep stepK
  dsimp only
  cases getL st.1 (evKey x.s) with
  | none => rfl
  | some t =>
    dsimp only
    split <;> rfl
theorem foldK_part : ∀ (es : List Evt) (st : List (Key3 × Int) × List Evt × List Evt), ((es.foldl partStep st).1, (es.foldl partStep st).2.1) = es.foldl stepK (st.1, st.2.1)
  | [], _ => rfl
  | x :: r, st => by
    rw [List.foldl_cons, List.foldl_cons, foldK_part r, stepK_part]
theorem kept_K (es : List Evt) : (partF es).2.1 = (es.foldl stepK ([], [])).2 := by
  have := foldK_part es ([], [], [])
  exact congrArg Prod.snd this
theorem stepK_twice (st : List (Key3 × Int) × List Evt) (x : Evt) : stepK (stepK st x) x = stepK st x := by
  cases h : getL st.1 (evKey x.s) with
  | none =>
    have e : stepK st x = (putL st.1 (evKey x.s) x.time, st.2 ++ [x]) := by unfold stepK; rw [h]
    rw [e]
    unfold stepK
    simp [getL_put]
  | some t =>
    by_cases h2 : x.time - t ≤ 10
    · have e : stepK st x = st := by unfold stepK; rw [h]; exact if_pos h2
      rw [e, e]
    · have e : stepK st x = (putL st.1 (evKey x.s) x.time, st.2 ++ [x]) := by unfold stepK; rw [h]; exact if_neg h2
      rw [e]
      unfold stepK
      simp [getL_put]

/-- Neighbours that are equal, once. -/
def dd : List Evt → List Evt
  | x :: y :: r => if x = y then dd (y :: r) else x :: dd (y :: r)
  | l => l
theorem dd_fold : ∀ (es : List Evt) (st : List (Key3 × Int) × List Evt), (dd es).foldl stepK st = es.foldl stepK st
  | [], _ => rfl
  | [x], _ => rfl
  | x :: y :: r, st => by
    unfold dd
    by_cases h : x = y
    · subst h
      rw [if_pos rfl, dd_fold (x :: r) st]
      simp only [List.foldl_cons]
      rw [stepK_twice]
    · rw [if_neg h, List.foldl_cons, dd_fold (y :: r), List.foldl_cons (l := y :: r)]
theorem dd_mem : ∀ (es : List Evt) (z : Evt), z ∈ dd es ↔ z ∈ es
  | [], _ => Iff.rfl
  | [x], _ => Iff.rfl
  | x :: y :: r, z => by
    unfold dd
    by_cases h : x = y
    · subst h
      rw [if_pos rfl, dd_mem (x :: r) z]
      simp
    · rw [if_neg h, List.mem_cons, dd_mem (y :: r) z, List.mem_cons (l := y :: r)]
theorem dd_strict : ∀ (es : List Evt), es.Pairwise (fun a b => ltEv b a = false) → (dd es).Pairwise (fun a b => ltEv a b = true)
  | [], _ => List.Pairwise.nil
  | [x], _ => by simp [dd]
  | x :: y :: r, h => by
    obtain ⟨h1, h2⟩ := List.pairwise_cons.1 h
    unfold dd
    by_cases hxy : x = y
    · rw [if_pos hxy]; exact dd_strict (y :: r) h2
    · rw [if_neg hxy]
      refine List.pairwise_cons.2 ⟨fun z hz => ?_, dd_strict (y :: r) h2⟩
      have hz := (dd_mem _ _).1 hz
      cases hlt : ltEv x z with
      | true => rfl
      | false =>
        exfalso
        have e := ordEv.total x z hlt (h1 z hz)
        subst e
        rcases List.mem_cons.1 hz with hz | hz
        · exact hxy hz
        · exact hxy (ordEv.total x y ((List.pairwise_cons.1 h2).1 x hz) (h1 y (by simp)))
theorem strictEv_one {a b : List Evt} (ha : a.Pairwise (fun x y => ltEv x y = true)) (hb : b.Pairwise (fun x y => ltEv x y = true)) (h : ∀ m, m ∈ a ↔ m ∈ b) : a = b := by
  have nd : ∀ {l : List Evt}, l.Pairwise (fun x y => ltEv x y = true) → l.Nodup := fun hl => hl.imp (fun {x y} hxy e => by subst e; rw [ordEv.irrefl] at hxy; cases hxy)
  have hp : a.Perm b := (List.perm_ext_iff_of_nodup (nd ha) (nd hb)).2 h
  refine hp.eq_of_pairwise (fun x y _ _ h1 h2 => ?_) ha hb
  have := ordEv.asym h1
  rw [this] at h2; cases h2
theorem keptF_congr {l l' : List Scn} (h : ∀ s, s ∈ l ↔ s ∈ l') : keptF l = keptF l' := by
  unfold keptF
  rw [kept_K, kept_K, ← dd_fold (evsF l), ← dd_fold (evsF l')]
  have e : dd (evsF l) = dd (evsF l') := by
    refine strictEv_one (dd_strict _ (srt_sorted ordEv _)) (dd_strict _ (srt_sorted ordEv _)) (fun m => ?_)
    rw [dd_mem, dd_mem]
    unfold evsF
    rw [(srt_perm _ _).mem_iff, (srt_perm _ _).mem_iff, marksF_congr h, List.mem_map, List.mem_map]
    constructor
    · rintro ⟨s, hs, rfl⟩; exact ⟨s, (h s).1 hs, rfl⟩
    · rintro ⟨s, hs, rfl⟩; exact ⟨s, (h s).2 hs, rfl⟩
  rw [e]
end Go.Proofs.Ytcjhkjplpbhjiaa
