/- Contract of claim.all at standards, and so of claim.Right. -/
import Derived.Test.YtnnppnlekpadnaaGreatWithin
import Derived.Test.YtnnppnlekpadnaaGreatOr
import Derived.Test.YtnnppnlekpadnaaGreatTypes
import Derived.Lib.Hide
namespace Go.Proofs.YtnnppnlekpadnaaGreat
open Go.RowKit Go.Proofs

theorem isNaN_u8 (a : Int) (w : World) : Calls Tryz.prog 92 #[.int .u8 a] w fun e w' => e = .returned (.bool false) ∧ w = w' := by
  go_enter Tryz.func92, Tryz.ntmps92
  go_wp2
  go_ret
  exact ⟨by simp, rfl⟩

theorem compare_u8 (a b : Int) (w : World) : Calls Tryz.prog 57 #[.int .u8 a, .int .u8 b] w fun e w' => e = .returned (.int .i64 (cmpI a b)) ∧ w = w' := by
  by_cases h1 : a < b
  · have e : cmpI a b = -1 := by simp [cmpI, h1]
    rw [e]; clear e
    go_enter Tryz.func57, Tryz.ntmps57
    go_wp2_with (go_at_call 92; refine (isNaN_u8 _ _).mono ?_; rintro e w' ⟨rfl, rfl⟩)
    go_ret
    exact ⟨rfl, rfl⟩
  · by_cases h2 : b < a
    · have e : cmpI a b = 1 := by simp [cmpI, h1, h2]
      rw [e]; clear e
      go_enter Tryz.func57, Tryz.ntmps57
      go_wp2_with (go_at_call 92; refine (isNaN_u8 _ _).mono ?_; rintro e w' ⟨rfl, rfl⟩)
      go_ret
      exact ⟨rfl, rfl⟩
    · have e : cmpI a b = 0 := by simp [cmpI, h1, h2]
      rw [e]; clear e
      go_enter Tryz.func57, Tryz.ntmps57
      go_wp2_with (go_at_call 92; refine (isNaN_u8 _ _).mono ?_; rintro e w' ⟨rfl, rfl⟩)
      go_ret
      exact ⟨rfl, rfl⟩

/-- The order of standards. -/
def cmpStd (x y : Std) : Int := orI [cmpI x.cl y.cl, cmpI x.fr y.fr, cmpI x.to y.to]

theorem rdI_lit3 (w : World) (a b c : Int) (T : TypeId) : RdI (w.alloc (.cells #[.int .i64 a, .int .i64 b, .int .i64 c] T)) (some ⟨w.heap.size, 0, none⟩) [a, b, c] := fun _ => by
  refine ⟨_, _, rfl, by simp, fun j x hj i v hi => ?_⟩
  match j, hj with
  | 0, hj => simp at hj; subst hj; match i, hi with | 0, hi => simp at hi; subst hi; simp
  | 1, hj => simp at hj; subst hj; match i, hi with | 0, hi => simp at hi; subst hi; simp
  | 2, hj => simp at hj; subst hj; match i, hi with | 0, hi => simp at hi; subst hi; simp

set_option maxHeartbeats 400000 in
set_option maxRecDepth 100000 in
theorem byStandard_any (x y : Std) (w : World) : Calls Tryz.prog 34 #[.agg #[.int .u8 x.cl, .int .i64 x.fr, .int .i64 x.to, .int .i64 x.mi], .agg #[.int .u8 y.cl, .int .i64 y.fr, .int .i64 y.to, .int .i64 y.mi]] w fun e w' => e = .returned (.int .i64 (cmpStd x y)) ∧ Below w.heap.size w w' := by
  unfold cmpStd
  obtain ⟨W, hW⟩ : ∃ W : World, W = (w.alloc (.cells #[.int .u8 x.cl, .int .i64 x.fr, .int .i64 x.to, .int .i64 x.mi] 27)).alloc (.cells #[.int .u8 y.cl, .int .i64 y.fr, .int .i64 y.to, .int .i64 y.mi] 27) := ⟨_, rfl⟩
  have hb : Below w.heap.size w W := by rw [hW]; exact ((Below.refl _ _).alloc (Nat.le_refl _) _).alloc (by simp) _
  have e0 := exblk (W := W) (n := w.heap.size) (arr := #[.int .u8 x.cl, .int .i64 x.fr, .int .i64 x.to, .int .i64 x.mi]) (T := 27) (fr := (0, 0)) (by rw [hW, blk_old _ (by simp)]; exact blk_new (by simp))
  have e1 := exblk (W := W) (n := w.heap.size + 1) (arr := #[.int .u8 y.cl, .int .i64 y.fr, .int .i64 y.to, .int .i64 y.mi]) (T := 27) (fr := (0, 0)) (by rw [hW]; exact blk_new (by simp))
  go_enter Tryz.func34, Tryz.ntmps34
  go_wp2_with fail
  rw [← hW]
  have HW := Lib.hid hW
  clear hW
  (refine wp_region_quiet_tail 15 (by kernel_rfl) (by kernel_rfl) ?_; simp only [List.take_succ_cons, List.take_zero, List.drop_succ_cons, List.drop_zero]; (repeat (go_big_quiet_step ((first | (go_at_call 53; refine Calls.ex_same (compare_int _ _ _)) | (go_at_call 57; refine Calls.ex_same (compare_u8 _ _ _)))))); refine wpQuiet_nil ?_; intro wq hw'; obtain ⟨⟨_, hq⟩, hw''⟩ := hw'; subst hw'')
  clear e0 e1
  go_wp2_with (go_at_call 52; refine (or_int _ 3 [cmpI x.cl y.cl, cmpI x.fr y.fr, cmpI x.to y.to] _ (rdI_lit3 wq _ _ _ _) (by simp)).mono ?_; rintro e w' ⟨rfl, rfl⟩)
  go_ret
  exact ⟨rfl, hb.trans ((hq.mono hb.size).alloc (by have := hb.size; have := hq.size; omega) _)⟩
end Go.Proofs.YtnnppnlekpadnaaGreat
