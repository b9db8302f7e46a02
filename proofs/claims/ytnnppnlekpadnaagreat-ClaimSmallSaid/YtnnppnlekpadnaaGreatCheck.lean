/- Contracts of claim.check and claim.Decide; the lists' own words for items and claims that are right. -/
import Derived.Test.YtnnppnlekpadnaaGreatDecide
namespace Go.Proofs.YtnnppnlekpadnaaGreat
open Go.RowKit Go.Proofs
set_option maxRecDepth 100000

def rightSent (l : List Sent) : Bool := decide (l.length ≤ 2000) && (l.all okSent && decide ((l.map (·.item)).Nodup))

theorem orderedSent_nodup : ∀ (ys : List Sent), ys.Pairwise (fun x y => x.item ≤ y.item) → (ordered cmpSent ys = true ↔ (ys.map (·.item)).Nodup)
  | [], _ => by simp [ordered]
  | [x], _ => by simp [ordered]
  | x :: y :: r, h => by
    have h2 := List.pairwise_cons.1 h
    have ih := orderedSent_nodup (y :: r) h2.2
    rw [List.map_cons, List.nodup_cons, ← ih]
    rw [show ordered cmpSent (x :: y :: r) = (decide (cmpSent x y < 0) && ordered cmpSent (y :: r)) from rfl]
    simp only [Bool.and_eq_true, decide_eq_true_eq]
    refine and_congr_left fun _ => ?_
    have hxy := h2.1 y (by simp)
    have hlt : cmpSent x y < 0 ↔ x.item < y.item := by
      have := lt_cmpI x.item y.item; unfold cmpSent; simpa using this
    rw [hlt]
    constructor
    · intro hlt hm
      obtain ⟨z, hz, hzx⟩ := List.mem_map.1 hm
      rcases List.mem_cons.1 hz with rfl | hz'
      · omega
      · have := (List.pairwise_cons.1 h2.2).1 z hz'; omega
    · intro hn
      have : x.item ≠ y.item := fun e => hn (by rw [e]; simp)
      omega

theorem allB_rightSent {ys xs : List Sent} (hp : ys.Perm xs) (hs : ys.Pairwise (fun x y => x.item ≤ y.item)) : allB ys 2000 okSent cmpSent = rightSent xs := by
  unfold allB rightSent
  have e1 : ys.all okSent = xs.all okSent := by
    rw [Bool.eq_iff_iff, List.all_eq_true, List.all_eq_true]
    exact ⟨fun h x hx => h x (hp.mem_iff.2 hx), fun h x hx => h x (hp.mem_iff.1 hx)⟩
  have e2 : ordered cmpSent ys = decide ((xs.map (·.item)).Nodup) := by
    rw [Bool.eq_iff_iff, orderedSent_nodup ys hs, decide_eq_true_eq]
    exact (hp.map _).nodup_iff
  have e3 : decide ((ys.length : Int) ≤ 2000) = decide (xs.length ≤ 2000) := by
    rw [hp.length_eq]; exact decide_eq_decide.2 (by omega)
  rw [e1, e2, e3]

theorem rightSent_any (A : Option Addr) (c : Nat) (xs : List Sent) (w : World) (hr : Rd encSent 6 w A xs) (hn : xs.length ≤ 1000000) :
    Calls Tryz.prog 27 #[.slice A xs.length c] w fun e w' => e = .returned (.bool (rightSent xs)) ∧ Below w.heap.size w w' :=
  (rightSent_raw A c xs w hr hn).mono fun _ _ ⟨_, hp, hs, he, hb⟩ => ⟨by rw [he, allB_rightSent hp hs], hb⟩
def rightClm (l : List Clm) : Bool := decide (l.length ≤ 500) && (l.all okClm && decide ((l.map (·.id)).Nodup))

theorem orderedClm_nodup : ∀ (ys : List Clm), ys.Pairwise (fun x y => x.id ≤ y.id) → (ordered cmpClm ys = true ↔ (ys.map (·.id)).Nodup)
  | [], _ => by simp [ordered]
  | [x], _ => by simp [ordered]
  | x :: y :: r, h => by
    have h2 := List.pairwise_cons.1 h
    have ih := orderedClm_nodup (y :: r) h2.2
    rw [List.map_cons, List.nodup_cons, ← ih]
    rw [show ordered cmpClm (x :: y :: r) = (decide (cmpClm x y < 0) && ordered cmpClm (y :: r)) from rfl]
    simp only [Bool.and_eq_true, decide_eq_true_eq]
    refine and_congr_left fun _ => ?_
    have hxy := h2.1 y (by simp)
    have hlt : cmpClm x y < 0 ↔ x.id < y.id := by
      have := lt_cmpI x.id y.id; unfold cmpClm; simpa using this
    rw [hlt]
    constructor
    · intro hlt hm
      obtain ⟨z, hz, hzx⟩ := List.mem_map.1 hm
      rcases List.mem_cons.1 hz with rfl | hz'
      · omega
      · have := (List.pairwise_cons.1 h2.2).1 z hz'; omega
    · intro hn
      have : x.id ≠ y.id := fun e => hn (by rw [e]; simp)
      omega

theorem allB_rightClm {ys xs : List Clm} (hp : ys.Perm xs) (hs : ys.Pairwise (fun x y => x.id ≤ y.id)) : allB ys 500 okClm cmpClm = rightClm xs := by
  unfold allB rightClm
  have e1 : ys.all okClm = xs.all okClm := by
    rw [Bool.eq_iff_iff, List.all_eq_true, List.all_eq_true]
    exact ⟨fun h x hx => h x (hp.mem_iff.2 hx), fun h x hx => h x (hp.mem_iff.1 hx)⟩
  have e2 : ordered cmpClm ys = decide ((xs.map (·.id)).Nodup) := by
    rw [Bool.eq_iff_iff, orderedClm_nodup ys hs, decide_eq_true_eq]
    exact (hp.map _).nodup_iff
  have e3 : decide ((ys.length : Int) ≤ 500) = decide (xs.length ≤ 500) := by
    rw [hp.length_eq]; exact decide_eq_decide.2 (by omega)
  rw [e1, e2, e3]

theorem rightClm_any (A : Option Addr) (c : Nat) (xs : List Clm) (w : World) (hr : Rd encClm 6 w A xs) (hn : xs.length ≤ 1000000) :
    Calls Tryz.prog 28 #[.slice A xs.length c] w fun e w' => e = .returned (.bool (rightClm xs)) ∧ Below w.heap.size w w' :=
  (rightClm_raw A c xs w hr hn).mono fun _ _ ⟨_, hp, hs, he, hb⟩ => ⟨by rw [he, allB_rightClm hp hs], hb⟩

def rightStd (l : List Std) : Bool := allB l 500 okStd cmpStd
def rightTerms (l : List Terms) : Bool := allB l 200 okTerms cmpTerms

/-- What claim.check returns. -/
def chkP (l : List Std) (t : List Terms) (s : List Sent) (c : List Clm) : Int :=
  if rightStd l = false then 400 else if rightTerms t = false then 401 else if rightSent s = false then 402 else if rightClm c = false then 403 else 0

section
variable (Al At As Ac : Option Addr) (ca cb cc cd : Nat) (l : List Std) (t : List Terms) (s : List Sent) (c : List Clm) (w : World)
variable (hl : Rd encStd 4 w Al l) (ht : Rd encTerms 7 w At t) (hs : Rd encSent 6 w As s) (hc : Rd encClm 6 w Ac c) (nl : l.length ≤ 1000000) (nt : t.length ≤ 1000000) (ns : s.length ≤ 1000000) (nc : c.length ≤ 1000000)
include hl ht hs hc nl nt ns nc in
set_option maxHeartbeats 1000000 in
theorem check_any {n : Nat} (hn : c.length = n) : Calls Tryz.prog 38 #[.slice Al l.length ca, .slice At t.length cb, .slice As s.length cc, .slice Ac n cd] w fun e w' => e = .returned (.int .i64 (chkP l t s c)) ∧ Below w.heap.size w w' := by
  subst hn
  have c1 := right_any Al ca l w hl nl
  have C2 := Lib.hid (fun W h => rightTerms_any At cb t W (Rd.below ht (Nat.le_refl _) h) nt)
  have C3 := Lib.hid (fun W h => rightSent_any As cc s W (Rd.below hs (Nat.le_refl _) h) ns)
  have C4 := Lib.hid (fun W h => rightClm_any Ac cd c W (Rd.below hc (Nat.le_refl _) h) nc)
  unfold chkP
  change Calls Tryz.prog 11 _ _ (fun e w' => e = .returned (.bool (rightStd l)) ∧ _) at c1
  change Hid (∀ W (_ : Below w.heap.size w W), Calls Tryz.prog 26 _ _ (fun e w' => e = .returned (.bool (rightTerms t)) ∧ _)) at C2
  clear hl ht hs hc
  generalize rightStd l = r1 at *
  generalize rightTerms t = r2 at *
  generalize rightSent s = r3 at *
  generalize rightClm c = r4 at *
  cases r1 with
  | false =>
    go_enter Tryz.func38, Tryz.ntmps38
    go_wp2_with fail
    refine c1.mono ?_
    rintro e w1 ⟨rfl, hb1⟩
    go_wp2_with fail
    go_ret
    exact ⟨rfl, hb1⟩
  | true =>
    cases r2 with
    | false =>
      go_enter Tryz.func38, Tryz.ntmps38
      go_wp2_with fail
      refine c1.mono ?_
      rintro e w1 ⟨rfl, hb1⟩
      go_wp2_with fail
      refine (C2.out _ hb1).mono ?_
      rintro e w2 ⟨rfl, hb2⟩
      replace hb2 := hb1.trans (hb2.mono hb1.size)
      go_wp2_with fail
      go_ret
      exact ⟨rfl, hb2⟩
    | true =>
      cases r3 with
      | false =>
        go_enter Tryz.func38, Tryz.ntmps38
        go_wp2_with fail
        refine c1.mono ?_
        rintro e w1 ⟨rfl, hb1⟩
        go_wp2_with fail
        refine (C2.out _ hb1).mono ?_
        rintro e w2 ⟨rfl, hb2⟩
        replace hb2 := hb1.trans (hb2.mono hb1.size)
        go_wp2_with fail
        refine (C3.out _ hb2).mono ?_
        rintro e w3 ⟨rfl, hb3⟩
        replace hb3 := hb2.trans (hb3.mono hb2.size)
        go_wp2_with fail
        go_ret
        exact ⟨rfl, hb3⟩
      | true =>
        cases r4 <;>
        · go_enter Tryz.func38, Tryz.ntmps38
          go_wp2_with fail
          refine c1.mono ?_
          rintro e w1 ⟨rfl, hb1⟩
          go_wp2_with fail
          refine (C2.out _ hb1).mono ?_
          rintro e w2 ⟨rfl, hb2⟩
          replace hb2 := hb1.trans (hb2.mono hb1.size)
          go_wp2_with fail
          refine (C3.out _ hb2).mono ?_
          rintro e w3 ⟨rfl, hb3⟩
          replace hb3 := hb2.trans (hb3.mono hb2.size)
          go_wp2_with fail
          refine (C4.out _ hb3).mono ?_
          rintro e w4 ⟨rfl, hb4⟩
          replace hb4 := hb3.trans (hb4.mono hb3.size)
          go_wp2_with fail
          go_ret
          exact ⟨rfl, hb4⟩
end

theorem chkP_zero {l : List Std} {t : List Terms} {s : List Sent} {c : List Clm} (h : chkP l t s c = 0) : rightStd l = true ∧ rightTerms t = true ∧ rightSent s = true ∧ rightClm c = true := by
  unfold chkP at h
  split at h
  · cases h
  · split at h
    · cases h
    · split at h
      · cases h
      · split at h
        · cases h
        · simp_all

theorem within_bd {lo hi : Int} {l : List Int} (h : withinB lo hi l = true) : ∀ n ∈ l, lo ≤ n ∧ n ≤ hi := by
  intro n hn
  have := List.all_eq_true.1 h n hn
  simp [outB] at this
  exact this

theorem okX_of {x : Sent} (h : okSent x = true) : okX x := by
  unfold okSent at h
  simp only [Bool.and_eq_true, Bool.or_eq_true, decide_eq_true_eq] at h
  obtain ⟨_, _, h2, h3⟩ := h
  have a := within_bd h2 x.acc (by simp)
  refine ⟨a.1, a.2, ?_⟩
  rcases h3 with h3 | h3
  · omega
  · have b := within_bd h3 x.del (by simp); omega
theorem okY_of {y : Terms} (h : okTerms y = true) : okY y := by
  unfold okTerms at h
  simp only [Bool.and_eq_true, decide_eq_true_eq] at h
  obtain ⟨_, h1, h2, h3, h4, h5⟩ := h
  have a := within_bd h1 y.free (by simp)
  have b := within_bd h2 y.share (by simp)
  have c := within_bd h2 y.most (by simp)
  have d := within_bd h3 y.after (by simp)
  have e := within_bd h4 y.limit (by simp)
  have f := within_bd h5 y.wi (by simp)
  exact ⟨a.1, a.2, b.1, b.2, c.1, c.2, d.1, d.2, e.1, e.2, f.1, f.2⟩
theorem okC_of {c : Clm} (h : okClm c = true) : okC c := by
  unfold okClm at h
  simp only [Bool.and_eq_true] at h
  obtain ⟨_, h1, _, h3⟩ := h
  have a := within_bd h1 c.at_ (by simp)
  have b := within_bd h3 c.post (by simp)
  have d := within_bd h3 c.val (by simp)
  exact ⟨a.1, a.2, b.1, b.2, d.1, d.2⟩

section
variable (Al At As : Option Addr) (ca cb cc : Nat) (l : List Std) (t : List Terms) (s : List Sent) (c : Clm) (w : World)
variable (hl : Rd encStd 4 w Al l) (ht : Rd encTerms 7 w At t) (hs : Rd encSent 6 w As s) (nl : l.length ≤ 1000000) (nt : t.length ≤ 1000000) (ns : s.length ≤ 1000000)
include hl ht hs nl nt ns in
theorem decide_any (rt : rightTerms t = true) (rs : rightSent s = true) (rc : okClm c = true) :
    Calls Tryz.prog 39 #[.slice Al l.length ca, .slice At t.length cb, .slice As s.length cc, .agg #[.int .i64 c.id, .int .i64 c.item, .int .i64 c.at_, .int .u8 c.kind, .int .i64 c.post, .int .i64 c.val]] w fun e w' => e = .returned (.agg #[.int .i64 (decP l t s c).clm, .int .i64 (decP l t s c).cents, .int .u8 (decP l t s c).ver]) ∧ Below w.heap.size w w' := by
  cases hx : s.find? (fun x => x.item == c.item) with
  | none =>
    have e : decP l t s c = ⟨c.id, 0, 1⟩ := by unfold decP; rw [hx]
    rw [e]
    exact decide_unknown Al At As ca cb cc l t s c w hs ns hx
  | some x =>
    by_cases hp : (promP l x.cl x.fr x.to x.acc).2 = 0
    · cases hy : t.find? (fun y => y.cl == x.cl) with
      | none =>
        have e : decP l t s c = ⟨c.id, 0, 2⟩ := by unfold decP; rw [hx]; simp only; rw [hy]
        rw [e]
        exact decide_terms Al At As ca cb cc l t s c w hl ht hs nl nt ns hx (Or.inr hy)
      | some y =>
        have e : decP l t s c = tableP x y c (promP l x.cl x.fr x.to x.acc).1 := by unfold decP; rw [hx]; simp only; rw [hy]; simp only; rw [if_pos hp]
        rw [e]
        have oy : okTerms y = true := (allB_ok rt).2.1 y (List.mem_of_find?_eq_some hy)
        have ox : okSent x = true := by
          unfold rightSent at rs
          simp only [Bool.and_eq_true] at rs
          exact List.all_eq_true.1 rs.2.1 x (List.mem_of_find?_eq_some hx)
        exact (decide_table Al At As ca cb cc l t s c w hl ht hs nl nt ns hx hy hp (okC_of rc) (okX_of ox) (okY_of oy)).mono fun e w' ⟨o, ho, he, hb⟩ => ⟨by rw [he, ho], hb⟩
    · have e : decP l t s c = ⟨c.id, 0, 2⟩ := by
        unfold decP; rw [hx]; simp only
        cases hy : t.find? (fun y => y.cl == x.cl) with
        | none => rfl
        | some y => simp only; rw [if_neg hp]
      rw [e]
      exact decide_terms Al At As ca cb cc l t s c w hl ht hs nl nt ns hx (Or.inl hp)
end
end Go.Proofs.YtnnppnlekpadnaaGreat
