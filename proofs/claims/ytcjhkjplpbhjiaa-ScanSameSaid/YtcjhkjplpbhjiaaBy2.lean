/- Contracts of package scan's orders, of down, and of Right. -/
import Derived.Test.YtcjhkjplpbhjiaaBy
namespace Go.Proofs.Ytcjhkjplpbhjiaa
open Go.RowKit Go.Proofs Go.Sort
set_option maxRecDepth 100000

theorem isNaN_u8 (a : Int) (w : World) : Calls Try.prog 83 #[.int .u8 a] w fun e w' => e = .returned (.bool false) ∧ w = w' := by
  go_enter Try.func83, Try.ntmps83
  go_wp2
  go_ret
  exact ⟨by simp, rfl⟩

theorem compare_u8 (a b : Int) (w : World) : Calls Try.prog 66 #[.int .u8 a, .int .u8 b] w fun e w' => e = .returned (.int .i64 (cmpI a b)) ∧ w = w' := by
  by_cases h1 : a < b
  · have e : cmpI a b = -1 := by simp [cmpI, h1]
    rw [e]; clear e
    go_enter Try.func66, Try.ntmps66
    go_wp2_with (go_at_call 83; refine (isNaN_u8 _ _).mono ?_; rintro e w' ⟨rfl, rfl⟩)
    go_ret
    exact ⟨rfl, rfl⟩
  · by_cases h2 : b < a
    · have e : cmpI a b = 1 := by simp [cmpI, h1, h2]
      rw [e]; clear e
      go_enter Try.func66, Try.ntmps66
      go_wp2_with (go_at_call 83; refine (isNaN_u8 _ _).mono ?_; rintro e w' ⟨rfl, rfl⟩)
      go_ret
      exact ⟨rfl, rfl⟩
    · have e : cmpI a b = 0 := by simp [cmpI, h1, h2]
      rw [e]; clear e
      go_enter Try.func66, Try.ntmps66
      go_wp2_with (go_at_call 83; refine (isNaN_u8 _ _).mono ?_; rintro e w' ⟨rfl, rfl⟩)
      go_ret
      exact ⟨rfl, rfl⟩

/-- The order number by number, and the first difference. -/
def cmpL (a b : List Int) : Int := orI (List.zipWith cmpI a b)
theorem cmpI_cases (a b : Int) : (a < b ∧ cmpI a b = -1) ∨ (a = b ∧ cmpI a b = 0) ∨ (b < a ∧ cmpI a b = 1) := by
  unfold cmpI
  by_cases h1 : a < b
  · exact .inl ⟨h1, if_pos h1⟩
  · by_cases h2 : b < a
    · exact .inr (.inr ⟨h2, by rw [if_neg h1, if_pos h2]⟩)
    · exact .inr (.inl ⟨by omega, by rw [if_neg h1, if_neg h2]⟩)
theorem cmpL_lt : ∀ a b : List Int, a.length = b.length → (cmpL a b < 0 ↔ lexL a b = true)
  | [], [], _ => by simp [cmpL, orI, lexL]
  | [], _ :: _, h => by simp at h
  | _ :: _, [], h => by simp at h
  | x :: r, y :: s, h => by
    have ih := cmpL_lt r s (by simpa using h)
    unfold cmpL at ih ⊢
    rw [List.zipWith_cons_cons]
    unfold orI lexL
    rcases cmpI_cases x y with ⟨h1, e⟩ | ⟨h1, e⟩ | ⟨h1, e⟩
    · simp [e, h1]
    · subst h1; simp [e, ih]
    · rw [e]; have h2 : ¬ x < y := by omega
      have h3 : x ≠ y := by omega
      simp [h2, h3]
theorem cmpL_zero : ∀ a b : List Int, a.length = b.length → (cmpL a b = 0 ↔ a = b)
  | [], [], _ => by simp [cmpL, orI]
  | [], _ :: _, h => by simp at h
  | _ :: _, [], h => by simp at h
  | x :: r, y :: s, h => by
    have ih := cmpL_zero r s (by simpa using h)
    unfold cmpL at ih ⊢
    rw [List.zipWith_cons_cons]
    unfold orI
    rcases cmpI_cases x y with ⟨h1, e⟩ | ⟨h1, e⟩ | ⟨h1, e⟩
    · rw [e]; have : x ≠ y := by omega
      simp [this]
    · subst h1; simp [e, ih]
    · rw [e]; have : x ≠ y := by omega
      simp [this]
theorem cmpL_flip (a b : List Int) (h : a.length = b.length) : 0 ≤ cmpL a b ↔ lexL a b = false := by
  have := cmpL_lt a b h
  rw [← Bool.not_eq_true, ← this]; omega

def cmpOff (x y : Mrk) : Int := cmpL (keyOff x) (keyOff y)
def cmpPl (x y : Mrk) : Int := cmpL (keyPl x) (keyPl y)
def cmpEv (x y : Evt) : Int := cmpL (keyEv x) (keyEv y)

theorem rdI_lit2 {w : World} {n : Nat} {a b : Int} {T : TypeId} (h : n = w.heap.size) : RdI (w.alloc (.cells #[.int .i64 a, .int .i64 b] T)) (some ⟨n, 0, none⟩) [a, b] := fun _ => by
  subst h
  refine ⟨_, _, rfl, by simp, fun j x hj i v hi => ?_⟩
  match j, hj with
  | 0, hj => simp at hj; subst hj; match i, hi with | 0, hi => simp at hi; subst hi; simp
  | 1, hj => simp at hj; subst hj; match i, hi with | 0, hi => simp at hi; subst hi; simp

set_option maxHeartbeats 1000000 in
theorem byOff_any (x y : Mrk) (w : World) : Calls Try.prog 67 #[.agg #[.int .i64 x.sc, .int .i64 x.at_, .int .i64 x.off], .agg #[.int .i64 y.sc, .int .i64 y.at_, .int .i64 y.off]] w fun e w' => e = .returned (.int .i64 (cmpOff x y)) ∧ ∃ q os', w' = grow (w.drewN q) os' := by
  have ed : cmpOff x y = orI [cmpI x.off y.off, cmpI x.at_ y.at_] := rfl
  rw [ed]; clear ed
  obtain ⟨W, hW⟩ : ∃ W : World, W = (w.alloc (.cells #[.int .i64 x.sc, .int .i64 x.at_, .int .i64 x.off] 30)).alloc (.cells #[.int .i64 y.sc, .int .i64 y.at_, .int .i64 y.off] 30) := ⟨_, rfl⟩
  have hg : ∃ q os', W = grow (w.drewN q) os' := by rw [hW]; exact grown_alloc (grown_alloc (grown_refl w) _) _
  have e0 := gxblk (W := W) (n := w.heap.size) (arr := #[.int .i64 x.sc, .int .i64 x.at_, .int .i64 x.off]) (T := 30) (fr := (0, 0)) (by rw [hW, blk_old _ (by simp)]; exact blk_new (by simp))
  have e1 := gxblk (W := W) (n := w.heap.size + 1) (arr := #[.int .i64 y.sc, .int .i64 y.at_, .int .i64 y.off]) (T := 30) (fr := (0, 0)) (by rw [hW]; exact blk_new (by simp))
  go_enter Try.func67, Try.ntmps67
  go_wp2_with fail
  rw [← hW]
  have HW := Lib.hid hW
  clear hW
  (refine wp_region_quiet_gtail 10 (by kernel_rfl) (by kernel_rfl) ?_; simp only [List.take_succ_cons, List.take_zero, List.drop_succ_cons, List.drop_zero]; (repeat (go_big_quiet_step ((go_at_call 50; refine Calls.gx_same (compare_int _ _ _))))); refine wpQuiet_nil ?_; intro wq hw'; obtain ⟨⟨_, hq⟩, hw''⟩ := hw'; subst hw'')
  clear e0 e1
  go_wp2_with (go_at_call 49; refine (or_int _ 2 [cmpI x.off y.off, cmpI x.at_ y.at_] _ (rdI_lit2 (by simp)) (by simp)).mono ?_; rintro e w' ⟨rfl, rfl⟩)
  go_ret
  exact ⟨rfl, grown_alloc (grown_step hg hq) _⟩
set_option maxHeartbeats 1000000 in
theorem byPlace_any (x y : Mrk) (w : World) : Calls Try.prog 36 #[.agg #[.int .i64 x.sc, .int .i64 x.at_, .int .i64 x.off], .agg #[.int .i64 y.sc, .int .i64 y.at_, .int .i64 y.off]] w fun e w' => e = .returned (.int .i64 (cmpPl x y)) ∧ ∃ q os', w' = grow (w.drewN q) os' := by
  have ed : cmpPl x y = orI [cmpI x.sc y.sc, cmpI x.at_ y.at_] := rfl
  rw [ed]; clear ed
  obtain ⟨W, hW⟩ : ∃ W : World, W = (w.alloc (.cells #[.int .i64 x.sc, .int .i64 x.at_, .int .i64 x.off] 30)).alloc (.cells #[.int .i64 y.sc, .int .i64 y.at_, .int .i64 y.off] 30) := ⟨_, rfl⟩
  have hg : ∃ q os', W = grow (w.drewN q) os' := by rw [hW]; exact grown_alloc (grown_alloc (grown_refl w) _) _
  have e0 := gxblk (W := W) (n := w.heap.size) (arr := #[.int .i64 x.sc, .int .i64 x.at_, .int .i64 x.off]) (T := 30) (fr := (0, 0)) (by rw [hW, blk_old _ (by simp)]; exact blk_new (by simp))
  have e1 := gxblk (W := W) (n := w.heap.size + 1) (arr := #[.int .i64 y.sc, .int .i64 y.at_, .int .i64 y.off]) (T := 30) (fr := (0, 0)) (by rw [hW]; exact blk_new (by simp))
  go_enter Try.func36, Try.ntmps36
  go_wp2_with fail
  rw [← hW]
  have HW := Lib.hid hW
  clear hW
  (refine wp_region_quiet_gtail 10 (by kernel_rfl) (by kernel_rfl) ?_; simp only [List.take_succ_cons, List.take_zero, List.drop_succ_cons, List.drop_zero]; (repeat (go_big_quiet_step ((go_at_call 50; refine Calls.gx_same (compare_int _ _ _))))); refine wpQuiet_nil ?_; intro wq hw'; obtain ⟨⟨_, hq⟩, hw''⟩ := hw'; subst hw'')
  clear e0 e1
  go_wp2_with (go_at_call 49; refine (or_int _ 2 [cmpI x.sc y.sc, cmpI x.at_ y.at_] _ (rdI_lit2 (by simp)) (by simp)).mono ?_; rintro e w' ⟨rfl, rfl⟩)
  go_ret
  exact ⟨rfl, grown_alloc (grown_step hg hq) _⟩

theorem down_eq (a b : Int) (h : 0 < b) : (if a.tmod b < 0 then a.tdiv b - 1 else a.tdiv b) = a / b := by
  rw [Int.tdiv_eq_ediv, Int.tmod_eq_emod]
  have h1 := Int.emod_nonneg a (by omega : b ≠ 0)
  have h2 := Int.emod_lt_of_pos a h
  have hs : b.sign = 1 := Int.sign_eq_one_of_pos h
  by_cases hc : 0 ≤ a ∨ b ∣ a
  · rw [if_pos hc, if_pos hc, if_neg (by omega)]; omega
  · rw [if_neg hc, if_neg hc, if_pos (by omega), hs]; omega

set_option maxHeartbeats 1000000 in
theorem down_any (a b : Int) (w : World) (h : 0 < b) (hb : b ≤ 9000000000000000000) (ha1 : -9000000000000000000 ≤ a) (ha2 : a ≤ 9000000000000000000) : Calls Try.prog 63 #[.int .i64 a, .int .i64 b] w fun e w' => e = .returned (.int .i64 (a / b)) ∧ w = w' := by
  rw [← down_eq a b h]
  have hb0 : b ≠ 0 := by omega
  have q1 : -9000000000000000000 ≤ a.tdiv b ∧ a.tdiv b ≤ 9000000000000000000 := by
    have := Int.natAbs_tdiv_le_natAbs a b; omega
  obtain ⟨q1, q2⟩ := q1
  have e1 : IntKind.i64.wrap (a.tdiv b) = a.tdiv b := IntWalk.i64_in _ (by omega)
  have e2 : IntKind.i64.wrap (a.tmod b) = a.tmod b := IntWalk.i64_in _ (by have := Int.tmod_lt_of_pos a h; have := Int.lt_tmod_of_pos a h; omega)
  by_cases hm : a.tmod b < 0
  · rw [if_pos hm]
    go_enter Try.func63, Try.ntmps63
    go_wp2
    go_ret
    exact ⟨ret_int (by omega), rfl⟩
  · rw [if_neg hm]
    go_enter Try.func63, Try.ntmps63
    go_wp2
    go_ret
    exact ⟨ret_int (by omega), rfl⟩
end Go.Proofs.Ytcjhkjplpbhjiaa
