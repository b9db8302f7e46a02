/- What a later delivery changes of an outcome: plain Lean. -/
import Derived.Test.YtnnppnlekpadnaaGreatDecB
import Derived.Test.YtnnppnlekpadnaaGreatPick
namespace Go.Proofs.YtnnppnlekpadnaaGreat
open Go.RowKit Go.Proofs

theorem share_mono {post k k' : Int} (hp : 0 ≤ post) (h0 : 0 ≤ k) (h : k ≤ k') : shareP post k ≤ shareP post k' := by
  unfold shareP
  have h1 : post / 10000 * k ≤ post / 10000 * k' := Int.mul_le_mul_of_nonneg_left h (by omega)
  have h2 : post % 10000 * k ≤ post % 10000 * k' := Int.mul_le_mul_of_nonneg_left h (by omega)
  omega
theorem share_le {post k : Int} (hp : 0 ≤ post) (h0 : 0 ≤ k) (h : k ≤ 10000) : 0 ≤ shareP post k ∧ shareP post k ≤ post := by
  unfold shareP
  have h1 : post / 10000 * k ≤ post / 10000 * 10000 := Int.mul_le_mul_of_nonneg_left h (by omega)
  have h2 : post % 10000 * k ≤ post % 10000 * 10000 := Int.mul_le_mul_of_nonneg_left h (by omega)
  have h3 : 0 ≤ post / 10000 * k := Int.mul_nonneg (by omega) h0
  have h4 : 0 ≤ post % 10000 * k := Int.mul_nonneg (by omega) h0
  omega
theorem late_le {share most post m : Int} (hp : 0 ≤ post) (h1 : 0 ≤ share) (h2 : 0 ≤ most) (h3 : most ≤ 10000) (hm : 0 ≤ m) : 0 ≤ lateP share most post m ∧ lateP share most post m ≤ post := by
  unfold lateP
  have : 0 ≤ (m + 1439) / 1440 * share := Int.mul_nonneg (by omega) h1
  exact share_le hp (by omega) (by omega)
theorem late_mono {share most post m m' : Int} (hp : 0 ≤ post) (h1 : 0 ≤ share) (h2 : 0 ≤ most) (hm : 0 ≤ m) (h : m ≤ m') : lateP share most post m ≤ lateP share most post m' := by
  unfold lateP
  have e1 : 0 ≤ (m + 1439) / 1440 * share := Int.mul_nonneg (by omega) h1
  have e2 : (m + 1439) / 1440 * share ≤ (m' + 1439) / 1440 * share := Int.mul_le_mul_of_nonneg_right (by omega) h1
  exact share_mono hp (by omega) (by omega)

theorem tableP_late {x : Sent} {y : Terms} {c : Clm} {p d : Int} (oc : okC c) (oy : okY y) (hk : c.kind = 1) (hx : 0 ≤ x.del) (hd : 0 ≤ d) (hat : x.del + d ≤ c.at_) :
    (tableP x y c p).cents ≤ (tableP { x with del := x.del + d } y c p).cents := by
  obtain ⟨c1, c2, c3, c4, c5, c6⟩ := oc
  obtain ⟨y1, y2, y3, y4, y5, y6, y7, y8, y9, y10, y11, y12⟩ := oy
  have t1 : decide (0 ≤ x.del) = true := by simpa using hx
  have t2 : decide (x.del ≤ c.at_) = true := by simp; omega
  have t3 : decide (0 ≤ x.del + d) = true := by simp; omega
  have t4 : decide (x.del + d ≤ c.at_) = true := by simp; omega
  have t5 : (c.kind == 1) = true := by simp [hk]
  unfold tableP
  simp only [t1, t2, t3, t4, t5, Bool.true_and, Bool.and_true, Bool.not_true, Bool.false_eq_true, if_false, if_true, decide_eq_true_eq, Bool.false_and]
  split
  · exact Int.le_refl _
  · split
    · split
      · exact Int.le_refl _
      · exact (late_le c3 y3 y5 y6 (by omega)).1
    · rw [if_neg (by omega)]
      exact late_mono c3 y3 y5 (by omega) (by omega)

theorem tableP_bd {x : Sent} {y : Terms} {c : Clm} {p : Int} (oc : okC c) (oy : okY y) :
    0 ≤ (tableP x y c p).cents ∧ (c.kind = 1 → (tableP x y c p).cents ≤ c.post) ∧ (c.kind ≠ 1 → (tableP x y c p).cents ≤ y.limit + c.post) ∧ (c.kind ≠ 1 → 0 ≤ x.del → x.del ≤ c.at_ → (tableP x y c p).cents = 0) ∧
      (c.kind = 1 → x.del ≤ p → (tableP x y c p).ver ≠ 6) ∧ ((tableP x y c p).cents ≠ 0 → (tableP x y c p).ver = 6) := by
  obtain ⟨c1, c2, c3, c4, c5, c6⟩ := oc
  obtain ⟨y1, y2, y3, y4, y5, y6, y7, y8, y9, y10, y11, y12⟩ := oy
  unfold tableP
  by_cases hk : c.kind = 1
  · have t5 : (c.kind == 1) = true := by simp [hk]
    simp only [t5, Bool.true_and, Bool.not_true, Bool.false_and, Bool.false_eq_true, if_false, if_true, decide_eq_true_eq]
    split
    · simp; omega
    · split
      · simp; omega
      · split
        · simp; omega
        · have := late_le (share := y.share) (most := y.most) (m := x.del - p - y.free) c3 y3 y5 y6 (by omega)
          simp only
          refine ⟨this.1, fun _ => this.2, fun h => absurd hk h, fun h => absurd hk h, fun _ h => ?_, fun _ => trivial⟩
          omega
  · have t5 : (c.kind == 1) = false := by simp [hk]
    simp only [t5, Bool.false_and, Bool.not_false, Bool.true_and, Bool.false_eq_true, if_false, decide_eq_true_eq, Bool.and_eq_true]
    split
    · simp; omega
    · split
      · simp; omega
      · split
        · simp; omega
        · simp only
          refine ⟨by omega, fun h => absurd h hk, fun _ => by omega, fun _ h1 h2 => ?_, fun h => absurd h hk, fun _ => trivial⟩
          rename_i hn _ _
          exact absurd ⟨h1, h2⟩ hn

/-- The limit that a loop over the terms finds. -/
def limP (t : List Terms) (cl : Int) : Int := match t.find? (fun y => y.cl == cl) with | some y => y.limit | none => 0

theorem decP_bd {l : List Std} {t : List Terms} {x : Sent} {s : List Sent} {c : Clm} (hc : c.item = x.item) (oc : okC c) (ot : ∀ y ∈ t, okY y) :
    0 ≤ (decP l t (x :: s) c).cents ∧ (c.kind = 1 → (decP l t (x :: s) c).cents ≤ c.post) ∧ (c.kind ≠ 1 → (decP l t (x :: s) c).cents ≤ limP t x.cl + c.post) ∧ (c.kind ≠ 1 → 0 ≤ x.del → x.del ≤ c.at_ → (decP l t (x :: s) c).cents = 0) ∧
      (c.kind = 1 → (promP l x.cl x.fr x.to x.acc).2 = 0 → x.del ≤ (promP l x.cl x.fr x.to x.acc).1 → (decP l t (x :: s) c).ver ≠ 6) := by
  have hf : (x :: s).find? (fun x => x.item == c.item) = some x := by simp [hc]
  have c3 := oc.2.2.1
  unfold decP limP
  rw [hf]
  simp only
  cases hy : t.find? (fun y => y.cl == x.cl) with
  | none => simp; omega
  | some y =>
    have oy := ot y (List.mem_of_find?_eq_some hy)
    simp only
    split
    · have := tableP_bd (x := x) (p := (promP l x.cl x.fr x.to x.acc).1) oc oy
      exact ⟨this.1, this.2.1, this.2.2.1, this.2.2.2.1, fun h _ => this.2.2.2.2.1 h⟩
    · have := oy.2.2.2.2.2.2.2.2.1
      simp; omega

theorem decP_later {l : List Std} {t : List Terms} {x : Sent} {s : List Sent} {c : Clm} {d : Int} (hc : c.item = x.item) (oc : okC c) (ot : ∀ y ∈ t, okY y) (hk : c.kind = 1) (hx : 0 ≤ x.del) (hd : 0 ≤ d) (hat : x.del + d ≤ c.at_) :
    (decP l t (x :: s) c).cents ≤ (decP l t ({ x with del := x.del + d } :: s) c).cents := by
  have hf : (x :: s).find? (fun x => x.item == c.item) = some x := by simp [hc]
  have hf' : ({ x with del := x.del + d } :: s : List Sent).find? (fun x => x.item == c.item) = some { x with del := x.del + d } := by simp [hc]
  unfold decP
  rw [hf, hf']
  simp only
  cases hy : t.find? (fun y => y.cl == x.cl) with
  | none => exact Int.le_refl _
  | some y =>
    simp only
    split
    · exact tableP_late oc (ot y (List.mem_of_find?_eq_some hy)) hk hx hd hat
    · exact Int.le_refl _

/-- The loop over the terms finds the last of the class. -/
def lastL (t : List Terms) (cl a : Int) : Int := t.foldl (fun a y => if y.cl = cl then y.limit else a) a
theorem lastL_none {cl : Int} : ∀ (t : List Terms) (a : Int), (∀ y ∈ t, y.cl ≠ cl) → lastL t cl a = a
  | [], _, _ => rfl
  | y :: r, a, h => by
    unfold lastL
    rw [List.foldl_cons, if_neg (h y (by simp))]
    exact lastL_none r a (fun z hz => h z (by simp [hz]))
theorem ordT_lt : ∀ (y : Terms) (r : List Terms), ordered cmpTerms (y :: r) = true → ∀ z ∈ r, y.cl < z.cl
  | _, [], _, z, hz => by simp at hz
  | y, u :: r, h, z, hz => by
    simp only [ordered, Bool.and_eq_true, decide_eq_true_eq] at h
    have h1 : y.cl < u.cl := by
      have := h.1; unfold cmpTerms at this
      rcases cmpI_cases y.cl u.cl with h | h | h <;> omega
    rcases List.mem_cons.1 hz with rfl | hz
    · exact h1
    · exact Int.lt_trans h1 (ordT_lt u r h.2 z hz)
theorem ordT_tail {y : Terms} {r : List Terms} (h : ordered cmpTerms (y :: r) = true) : ordered cmpTerms r = true := by
  cases r with
  | nil => rfl
  | cons u r => simp only [ordered, Bool.and_eq_true] at h; exact h.2
theorem lastL_eq {cl : Int} : ∀ (t : List Terms) (a : Int), ordered cmpTerms t = true → lastL t cl a = match t.find? (fun y => y.cl == cl) with | some y => y.limit | none => a
  | [], _, _ => rfl
  | y :: r, a, h => by
    unfold lastL
    rw [List.foldl_cons]
    by_cases e : y.cl = cl
    · rw [if_pos e]
      have : (y :: r).find? (fun y => y.cl == cl) = some y := by simp [e]
      rw [this]
      exact lastL_none r _ (fun z hz => by have := ordT_lt y r h z hz; omega)
    · rw [if_neg e]
      have : (y :: r).find? (fun y => y.cl == cl) = r.find? (fun y => y.cl == cl) := by simp [e]
      rw [this]
      exact lastL_eq r a (ordT_tail h)
theorem lastL_lim {t : List Terms} {cl : Int} (h : ordered cmpTerms t = true) : lastL t cl 0 = limP t cl := lastL_eq t 0 h
theorem lastL_step {t : List Terms} {cl : Int} {j : Nat} {y : Terms} (h : t[j]? = some y) : lastL (t.take (j + 1)) cl 0 = if y.cl = cl then y.limit else lastL (t.take j) cl 0 := by
  have hlt : j < t.length := (List.getElem?_eq_some_iff.1 h).1
  have e : t.take (j + 1) = t.take j ++ [y] := by rw [List.take_add_one, h]; rfl
  unfold lastL
  rw [e, List.foldl_append]
  rfl

/-- What all is known of Decide's answer for the first item, where it answers. -/
structure LaterF (l : List Std) (t : List Terms) (x : Sent) (c : Clm) (a : Outc) : Prop where
  pos : 0 ≤ a.cents
  late : c.kind = 1 → a.cents ≤ c.post
  lost : c.kind ≠ 1 → a.cents ≤ limP t x.cl + c.post
  none : c.kind ≠ 1 → 0 ≤ x.del → x.del ≤ c.at_ → a.cents = 0
  ver : c.kind = 1 → (promP l x.cl x.fr x.to x.acc).2 = 0 → x.del ≤ (promP l x.cl x.fr x.to x.acc).1 → a.ver ≠ 6
  ord : ordered cmpTerms t = true
  kind : c.kind = 1 ∨ c.kind = 2
  lim : 0 ≤ limP t x.cl ∧ limP t x.cl ≤ 250000000000000
  post : 0 ≤ c.post ∧ c.post ≤ 250000000000000
  del : x.del ≤ 1051898399
theorem okClm_kind {c : Clm} (h : okClm c = true) : c.kind = 1 ∨ c.kind = 2 := by
  unfold okClm at h; simp only [Bool.and_eq_true, Bool.or_eq_true, decide_eq_true_eq] at h; exact h.2.2.1
theorem deciP_later {l : List Std} {t : List Terms} {x : Sent} {s : List Sent} {c : Clm} (hc : c.item = x.item) (h : (deciP l t (x :: s) c).2 = 0) :
    LaterF l t x c (deciP l t (x :: s) c).1 ∧ (deciP l t (x :: s) c).1 = decP l t (x :: s) c ∧ chkP l t (x :: s) [c] = 0 := by
  have h0 : chkP l t (x :: s) [c] = 0 := by
    unfold deciP at h; split at h
    · assumption
    · exact h
  have e : (deciP l t (x :: s) c).1 = decP l t (x :: s) c := by unfold deciP; rw [if_pos h0]
  obtain ⟨z1, z2, z3, z4⟩ := chkP_zero h0
  have hrc : okClm c = true := by unfold rightClm at z4; simp at z4; exact z4
  have oc := okC_of hrc
  have ot : ∀ y ∈ t, okY y := fun y hy => okY_of ((allB_ok z2).2.1 y hy)
  have os : okSent x = true := by unfold rightSent at z3; simp at z3; exact z3.2.1.1
  have bd := decP_bd (l := l) (s := s) hc oc ot
  refine ⟨?_, e, h0⟩
  rw [e]
  refine ⟨bd.1, bd.2.1, bd.2.2.1, bd.2.2.2.1, bd.2.2.2.2, (allB_ok z2).2.2, okClm_kind hrc, ?_, ⟨oc.2.2.1, oc.2.2.2.1⟩, (okX_of os).2.2.2⟩
  unfold limP
  cases hy : t.find? (fun y => y.cl == x.cl) with
  | none => simp
  | some y => exact ⟨(ot y (List.mem_of_find?_eq_some hy)).2.2.2.2.2.2.2.2.1, (ot y (List.mem_of_find?_eq_some hy)).2.2.2.2.2.2.2.2.2.1⟩

/-- The same item, delivered later. -/
theorem deciP_more {l : List Std} {t : List Terms} {x : Sent} {s : List Sent} {c : Clm} {d : Int} (hc : c.item = x.item) (hx : 0 ≤ x.del) (hd : 0 ≤ d) (h : chkP l t (x :: s) [c] = 0) :
    ((deciP l t ({ x with del := x.del + d } :: s) c).2 = 0 → c.kind = 1 → x.del + d ≤ c.at_ → (decP l t (x :: s) c).cents ≤ (deciP l t ({ x with del := x.del + d } :: s) c).1.cents) ∧
      ((deciP l t ({ x with del := x.del + d } :: s) c).2 ≠ 0 → 1051898399 < x.del + d) := by
  obtain ⟨z1, z2, z3, z4⟩ := chkP_zero h
  have hrc : okClm c = true := by unfold rightClm at z4; simp at z4; exact z4
  have oc := okC_of hrc
  have ot : ∀ y ∈ t, okY y := fun y hy => okY_of ((allB_ok z2).2.1 y hy)
  refine ⟨fun h2 hk hat => ?_, fun h2 => ?_⟩
  · have h0 : chkP l t ({ x with del := x.del + d } :: s) [c] = 0 := by
      unfold deciP at h2; split at h2
      · assumption
      · exact h2
    have e : (deciP l t ({ x with del := x.del + d } :: s) c).1 = decP l t ({ x with del := x.del + d } :: s) c := by unfold deciP; rw [if_pos h0]
    rw [e]
    exact decP_later hc oc ot hk hx hd hat
  · rcases Int.lt_or_le 1051898399 (x.del + d) with h3 | h3
    · exact h3
    · exfalso
      apply h2
      have h0 : chkP l t ({ x with del := x.del + d } :: s) [c] = 0 := by
        have hs : rightSent ({ x with del := x.del + d } :: s) = true := by
          unfold rightSent at z3 ⊢
          simp only [Bool.and_eq_true, List.all_cons, List.map_cons, List.length_cons] at z3 ⊢
          refine ⟨z3.1, ⟨?_, z3.2.1.2⟩, z3.2.2⟩
          have := z3.2.1.1
          unfold okSent withinB outB at this ⊢
          simp at this ⊢
          omega
        unfold chkP
        simp [z1, z2, z4, hs]
      unfold deciP; rw [if_pos h0]
end Go.Proofs.YtnnppnlekpadnaaGreat
