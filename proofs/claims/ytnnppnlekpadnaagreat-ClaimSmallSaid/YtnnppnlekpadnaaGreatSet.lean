/- The order of claims by their times, and the sort by it. -/
import Derived.Test.YtnnppnlekpadnaaGreatDecB
namespace Go.Proofs.YtnnppnlekpadnaaGreat
open Go.RowKit Go.Proofs Go.Sort
set_option maxRecDepth 100000

/-- The order of claims in which they are settled. -/
def cmpSet (x y : Clm) : Int := orI [cmpI x.at_ y.at_, cmpI x.id y.id]
def ltSet (x y : Clm) : Prop := x.at_ < y.at_ ∨ (x.at_ = y.at_ ∧ x.id < y.id)
theorem cmpSet_lt (x y : Clm) : cmpSet x y < 0 ↔ ltSet x y := by
  unfold cmpSet ltSet
  simp only [orI]
  rcases cmpI_cases x.at_ y.at_ with ⟨h1, e1⟩ | ⟨h1, e1⟩ | ⟨h1, e1⟩ <;> rcases cmpI_cases x.id y.id with ⟨h2, e2⟩ | ⟨h2, e2⟩ | ⟨h2, e2⟩ <;> simp [e1, e2] <;> omega

theorem rdI_two (w : World) (n : Nat) (a b : Int) (T : TypeId) (h : n = w.heap.size) : RdI (w.alloc (.cells #[.int .i64 a, .int .i64 b] T)) (some ⟨n, 0, none⟩) [a, b] := rdI_lit2 h

set_option maxHeartbeats 1000000 in
theorem srtSet (x y : Clm) (w : World) : Calls Tryz.prog 51 #[.agg #[.int .i64 x.id, .int .i64 x.item, .int .i64 x.at_, .int .u8 x.kind, .int .i64 x.post, .int .i64 x.val], .agg #[.int .i64 y.id, .int .i64 y.item, .int .i64 y.at_, .int .u8 y.kind, .int .i64 y.post, .int .i64 y.val]] w fun e w' => e = .returned (.int .i64 (cmpSet x y)) ∧ ∃ q os', w' = grow (w.drewN q) os' := by
  unfold cmpSet
  obtain ⟨W, hW⟩ : ∃ W : World, W = (w.alloc (.cells #[.int .i64 x.id, .int .i64 x.item, .int .i64 x.at_, .int .u8 x.kind, .int .i64 x.post, .int .i64 x.val] 31)).alloc (.cells #[.int .i64 y.id, .int .i64 y.item, .int .i64 y.at_, .int .u8 y.kind, .int .i64 y.post, .int .i64 y.val] 31) := ⟨_, rfl⟩
  have hg : ∃ q os', W = grow (w.drewN q) os' := by rw [hW]; exact grown_alloc (grown_alloc (grown_refl w) _) _
  have e0 := gxblk (W := W) (n := w.heap.size) (arr := #[.int .i64 x.id, .int .i64 x.item, .int .i64 x.at_, .int .u8 x.kind, .int .i64 x.post, .int .i64 x.val]) (T := 31) (fr := (0, 0)) (by rw [hW, blk_old _ (by simp)]; exact blk_new (by simp))
  have e1 := gxblk (W := W) (n := w.heap.size + 1) (arr := #[.int .i64 y.id, .int .i64 y.item, .int .i64 y.at_, .int .u8 y.kind, .int .i64 y.post, .int .i64 y.val]) (T := 31) (fr := (0, 0)) (by rw [hW]; exact blk_new (by simp))
  go_enter Tryz.func51, Tryz.ntmps51
  go_wp2_with fail
  rw [← hW]
  have HW := Lib.hid hW
  clear hW
  (refine wp_region_quiet_gtail 10 (by kernel_rfl) (by kernel_rfl) ?_; simp only [List.take_succ_cons, List.take_zero, List.drop_succ_cons, List.drop_zero]; (repeat (go_big_quiet_step ((go_at_call 53; refine Calls.gx_same (compare_int _ _ _))))); refine wpQuiet_nil ?_; intro wq hw'; obtain ⟨⟨_, hq⟩, hw''⟩ := hw'; subst hw'')
  clear e0 e1
  go_wp2_with (go_at_call 52; refine (or_int _ 2 [cmpI x.at_ y.at_, cmpI x.id y.id] _ (rdI_two _ _ _ _ _ (by simp)) (by simp)).mono ?_; rintro e w' ⟨rfl, rfl⟩)
  go_ret
  exact ⟨rfl, grown_alloc (grown_step hg hq) _⟩

theorem swoSet : SWO (ltOf cmpSet) where
  irrefl x := by unfold ltOf; simp only [decide_eq_false_iff_not, cmpSet_lt]; unfold ltSet; omega
  trans x y z h1 h2 := by unfold ltOf at *; simp only [decide_eq_true_eq, cmpSet_lt] at *; unfold ltSet at *; omega
  ntrans x y z h1 h2 := by unfold ltOf at *; simp only [decide_eq_false_iff_not, cmpSet_lt] at *; unfold ltSet at *; omega

theorem sortSet {base : Nat} {v : Value} (xs : List Clm) (w : World) (hown : w.ownsRow base 31 6 v xs.length (xs.flatMap encClm)) (hn : xs.length ≤ 1000000) :
    Calls Tryz.prog 50 #[v, .func (.func 51) #[] #[]] w fun e w' => e = .returned (.tuple #[]) ∧ ∃ ys A c, v = .slice A ys.length c ∧ ys.Perm xs ∧ ys.Pairwise (fun x y => ¬ ltSet y x) ∧ Rd encClm 6 w' A ys ∧ Below base w w' := by
  by_cases hne : xs = []
  · subst hne
    obtain ⟨A, c, hv, hr⟩ := own_rd (k := 6) (fun _ => rfl) hown
    subst hv
    exact (AnyF.slices_SortFunc_none { Tryz.sortClm with } A c _ w).mono fun e w' ⟨he, hw⟩ => ⟨he, [], A, c, rfl, List.Perm.refl _, List.Pairwise.nil, Rd.nil _ _ _ _, hw ▸ Below.refl _ _⟩
  · obtain ⟨g, cap, hv, hg, hlt, hH⟩ := own_holds (k := 6) (fun _ => rfl) hown hne
    subst hv
    have eg : ∀ args w, (callFunc 51 args).run Tryz.prog w = .ok (.enter 51 args) w := enters_of Tryz.func51 (by kernel_rfl) rfl
    have hcon := AnyQ.slices_SortFunc Tryz.sortClm 6 Tryz.isAgg31 Tryz.sizeOf31 encClm (fun _ => rfl) (fun x v hv => by simp [encClm] at hv; rcases hv with rfl | rfl | rfl | rfl | rfl | rfl <;> rfl) cmpSet swoSet 51 #[] g 0 cap xs.toArray w eg (fun _ _ _ _ x y => srtSet x y _) hH hlt (by simp; omega)
    change Calls Tryz.prog 50 _ _ _ at hcon
    refine hcon.mono fun e w' ⟨he, d', n, os, hp, hs, hw⟩ => ⟨he, d'.toList, some ⟨g, 0, none⟩, cap, ?_, permIn_list hp, ?_, ?_, hw ▸ sortWorldK_below _ _ _ _ _ _ _ _ hg hlt⟩
    · have := hp.1; simp at this; simp [this]
    · refine (sortedIn_list hp.1.symm hs).imp fun {x y} h => ?_
      unfold ltOf at h
      simpa [cmpSet_lt] using h
    · rw [hw]
      have hs' : d'.size = xs.toArray.size := hp.1
      exact HoldsK.rd (k := 6) (fun _ => rfl) (holdsK_sortWorldK encClm 6 w g 0 n xs.toArray d' os hlt hH hs') (by unfold sortWorldK; rw [size_grow, size_putRowK]; show g < w.heap.size + _; omega)

/-- One claim settled: the items that were paid, and the outcomes so far. -/
def stepO (l : List Std) (t : List Terms) (s : List Sent) (paid : List Int) (x : Clm) : Outc :=
  if ((decP l t s x).ver != 1 && decide (x.item ∈ paid)) = true then ⟨x.id, 0, 7⟩ else decP l t s x
def stepS (l : List Std) (t : List Terms) (s : List Sent) (p : List Int × List Outc) (x : Clm) : List Int × List Outc :=
  (if (stepO l t s p.1 x).ver = 6 then x.item :: p.1 else p.1, p.2 ++ [stepO l t s p.1 x])
/-- What Settle returns of claims in their order. -/
def setF (l : List Std) (t : List Terms) (s : List Sent) (d : List Clm) : List Int × List Outc := d.foldl (stepS l t s) ([], [])
theorem setF_step {l : List Std} {t : List Terms} {s : List Sent} {d : List Clm} {j : Nat} {x : Clm} (h : d[j]? = some x) : setF l t s (d.take (j + 1)) = stepS l t s (setF l t s (d.take j)) x := by
  have hlt : j < d.length := (List.getElem?_eq_some_iff.1 h).1
  have e : d.take (j + 1) = d.take j ++ [x] := by rw [List.take_add_one, h]; rfl
  unfold setF
  rw [e, List.foldl_append]
  rfl
theorem setF_len (l : List Std) (t : List Terms) (s : List Sent) : ∀ (d : List Clm) (p : List Int × List Outc), (d.foldl (stepS l t s) p).2.length = p.2.length + d.length
  | [], p => by simp
  | x :: r, p => by
    rw [List.foldl_cons, setF_len l t s r]
    simp [stepS]; omega
end Go.Proofs.YtnnppnlekpadnaaGreat
