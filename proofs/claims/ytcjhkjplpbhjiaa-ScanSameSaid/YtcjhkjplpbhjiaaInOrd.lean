/- Contract of scan.inOrder. -/
import Derived.Test.YtcjhkjplpbhjiaaBy2
namespace Go.Proofs.Ytcjhkjplpbhjiaa
open Go.RowKit Go.Proofs Go.Sort
set_option maxRecDepth 100000

theorem rdI_lit7 {w : World} {n : Nat} {a b c d e f g : Int} {T : TypeId} (h : n = w.heap.size) : RdI (w.alloc (.cells #[.int .i64 a, .int .i64 b, .int .i64 c, .int .i64 d, .int .i64 e, .int .i64 f, .int .i64 g] T)) (some ⟨n, 0, none⟩) [a, b, c, d, e, f, g] := fun _ => by
  subst h
  refine ⟨_, _, rfl, by simp, fun j x hj i v hi => ?_⟩
  match j, hj with
  | 0, hj | 1, hj | 2, hj | 3, hj | 4, hj | 5, hj | 6, hj => simp at hj; subst hj; match i, hi with | 0, hi => simp at hi; subst hi; simp

theorem grown_old {w w1 : World} (h1 : ∃ n os, w1 = grow (w.drewN n) os) {j : Nat} (hj : j < w.heap.size) : w1.heap[j]? = w.heap[j]? := by
  obtain ⟨n, os, rfl⟩ := h1
  exact heap_grow_old _ _ hj
/-- Two new blocks, in either order. -/
theorem two_new {G : World → Prop} {w : World} {X Y : Array Value} {T : TypeId} {n : Nat} (hn : w.heap.size = n) (h : ∀ W2 : World, W2.heap[n]? = some (.cells X T (0, 0)) → W2.heap[n + 1]? = some (.cells Y T (0, 0)) → (∃ q os', W2 = grow (w.drewN q) os') → G W2) : G ((w.alloc (.cells X T)).alloc (.cells Y T)).drew := by
  subst hn
  refine h _ ?_ ?_ ?_
  · show ((w.alloc _).alloc _).heap[_]? = _
    rw [blk_old _ (by simp)]; exact blk_new rfl
  · exact blk_new (by simp)
  · obtain ⟨n, os, h2⟩ := grown_alloc (grown_alloc (grown_refl w) (.cells X T)) (.cells Y T)
    exact ⟨n + 1, os, by rw [h2]; rfl⟩

set_option maxHeartbeats 1000000 in
theorem inOrder_any (x y : Evt) (w : World) : Calls Try.prog 54 #[.agg #[.int .i64 x.s.item, .int .i64 x.s.place, .int .i64 x.s.scanner, .int .u8 x.s.kind, .int .i64 x.s.at_, .int .i64 x.s.seen, .int .i64 x.time], .agg #[.int .i64 y.s.item, .int .i64 y.s.place, .int .i64 y.s.scanner, .int .u8 y.s.kind, .int .i64 y.s.at_, .int .i64 y.s.seen, .int .i64 y.time]] w fun e w' => e = .returned (.int .i64 (cmpEv x y)) ∧ ∃ q os', w' = grow (w.drewN q) os' := by
  have ed : cmpEv x y = orI [cmpI x.time y.time, cmpI x.s.kind y.s.kind, cmpI x.s.place y.s.place, cmpI x.s.scanner y.s.scanner, cmpI x.s.item y.s.item, cmpI x.s.at_ y.s.at_, cmpI x.s.seen y.s.seen] := rfl
  rw [ed]; clear ed
  obtain ⟨W, hW⟩ : ∃ W : World, W = (w.alloc (.cells #[.int .i64 x.s.item, .int .i64 x.s.place, .int .i64 x.s.scanner, .int .u8 x.s.kind, .int .i64 x.s.at_, .int .i64 x.s.seen, .int .i64 x.time] 48)).alloc (.cells #[.int .i64 y.s.item, .int .i64 y.s.place, .int .i64 y.s.scanner, .int .u8 y.s.kind, .int .i64 y.s.at_, .int .i64 y.s.seen, .int .i64 y.time] 48) := ⟨_, rfl⟩
  have hg : ∃ q os', W = grow (w.drewN q) os' := by rw [hW]; exact grown_alloc (grown_alloc (grown_refl w) _) _
  have e0 : W.heap[w.heap.size]? = some (.cells #[.int .i64 x.s.item, .int .i64 x.s.place, .int .i64 x.s.scanner, .int .u8 x.s.kind, .int .i64 x.s.at_, .int .i64 x.s.seen, .int .i64 x.time] 48 (0, 0)) := by rw [hW, blk_old _ (by simp)]; exact blk_new (by simp)
  have e1 : W.heap[w.heap.size + 1]? = some (.cells #[.int .i64 y.s.item, .int .i64 y.s.place, .int .i64 y.s.scanner, .int .u8 y.s.kind, .int .i64 y.s.at_, .int .i64 y.s.seen, .int .i64 y.time] 48 (0, 0)) := by rw [hW]; exact blk_new (by simp)
  have hs : W.heap.size = w.heap.size + 2 := by rw [hW]; simp
  go_enter Try.func54, Try.ntmps54
  go_wp2_with fail
  rw [← hW]
  have HW := Lib.hid hW
  clear hW
  refine wp_region_C (fun V => Below W.heap.size W V) (by kernel_rfl) ?_
  have hC : (fun V => Below W.heap.size W V) W.drew := (Below.refl _ _).drew
  have hl0 : w.heap.size < W.heap.size := by omega
  have hl1 : w.heap.size + 1 < W.heap.size := by omega
  (refine wpAnyC_take (i := 0) (v := (.pointer (some ⟨w.heap.size, 0, none⟩))) rfl (by kernel_rfl) (by kernel_rfl) (by kernel_rfl) (fun _ _ _ h => h) hC (Or.inl ⟨by rfl, fun V hV => ?_⟩) ?_; case _ => (skip; go_simp; try (with_reducible rfl)))
  (refine wpAnyC_take (i := 1) (v := (.agg #[.int .i64 x.s.item, .int .i64 x.s.place, .int .i64 x.s.scanner, .int .u8 x.s.kind, .int .i64 x.s.at_, .int .i64 x.s.seen])) rfl (by kernel_rfl) (by kernel_rfl) (by kernel_rfl) (fun _ _ _ h => h) hC (Or.inl ⟨by rfl, fun V hV => ?_⟩) ?_; case _ => (have hh := cells_below e0 hl0 hV; go_simp; try (with_reducible rfl)))
  (refine wpAnyC_take (i := 2) (v := (.pointer (some ⟨w.heap.size + 1, 0, none⟩))) rfl (by kernel_rfl) (by kernel_rfl) (by kernel_rfl) (fun _ _ _ h => h) hC (Or.inl ⟨by rfl, fun V hV => ?_⟩) ?_; case _ => (skip; go_simp; try (with_reducible rfl)))
  (refine wpAnyC_take (i := 3) (v := (.agg #[.int .i64 y.s.item, .int .i64 y.s.place, .int .i64 y.s.scanner, .int .u8 y.s.kind, .int .i64 y.s.at_, .int .i64 y.s.seen])) rfl (by kernel_rfl) (by kernel_rfl) (by kernel_rfl) (fun _ _ _ h => h) hC (Or.inl ⟨by rfl, fun V hV => ?_⟩) ?_; case _ => (have hh := cells_below e1 hl1 hV; go_simp; try (with_reducible rfl)))
  refine wpAnyC_all (rs := [4, 5]) (by kernel_rfl) (by simp) (fun i hi => ?_)
  obtain rfl | rfl : i = 4 ∨ i = 5 := by simpa using hi
  · refine wpOpC_at rfl rfl (fun K hK => ?_)
    go_simp
    refine hK _ _ (hC.alloc (Nat.le_refl _) _) ?_
    refine wpAnyC_one 5 (by kernel_rfl) rfl rfl (fun K' hK' => ?_)
    go_simp
    refine hK' _ _ (((Below.refl _ _).alloc (Nat.le_refl _) _).alloc (by simp) _).drew ?_
    refine wpAnyC_one 6 (by kernel_rfl) rfl rfl (fun K'' hK'' => ?_)
    go_simp
    refine hK'' _ _ (((Below.refl _ _).alloc (Nat.le_refl _) _).alloc (by simp) _).drew ?_
    refine wpAnyC_one 7 (by kernel_rfl) rfl rfl (fun K3 hK3 => ?_)
    go_simp
    refine hK3 _ _ (((Below.refl _ _).alloc (Nat.le_refl _) _).alloc (by simp) _).drew ?_
    refine wpAnyC_done (by kernel_rfl) ?_
    clear hK hK' hK'' hK3 K K' K'' K3 hC
    refine two_new hs fun W2 k5 k6 hg2 => ?_
    have n0 := gxblk (W := W2) ((grown_old hg2 hl0).trans e0)
    have n1 := gxblk (W := W2) ((grown_old hg2 hl1).trans e1)
    have n2 := gxblk (W := W2) k5
    have n3 := gxblk (W := W2) k6
    clear e0 e1 k5 k6 hl0 hl1
    have HG := Lib.hid hg
    have HG2 := Lib.hid hg2
    have HS := Lib.hid hs
    clear hg hg2 hs
    go_wp2_with fail
    (refine wp_region_quiet_gtail 35 (by kernel_rfl) (by kernel_rfl) ?_; simp only [List.take_succ_cons, List.take_zero, List.drop_succ_cons, List.drop_zero]; (repeat (go_big_quiet_step ((first | (go_at_call 50; refine Calls.gx_same (compare_int _ _ _)) | (go_at_call 66; refine Calls.gx_same (compare_u8 _ _ _)))))); refine wpQuiet_nil ?_; intro wq hw'; obtain ⟨⟨_, hq⟩, hw''⟩ := hw'; subst hw'')
    clear n0 n1 n2 n3
    go_wp2_with (go_at_call 49; refine (or_int _ 7 [cmpI x.time y.time, cmpI x.s.kind y.s.kind, cmpI x.s.place y.s.place, cmpI x.s.scanner y.s.scanner, cmpI x.s.item y.s.item, cmpI x.s.at_ y.s.at_, cmpI x.s.seen y.s.seen] _ (rdI_lit7 (by simp)) (by simp)).mono ?_; rintro e w' ⟨rfl, rfl⟩)
    go_ret
    exact ⟨rfl, grown_alloc (grown_step (grown_step HG.out HG2.out) hq) _⟩
  · refine wpOpC_at rfl rfl (fun K hK => ?_)
    go_simp
    refine hK _ _ (hC.alloc (Nat.le_refl _) _) ?_
    refine wpAnyC_one 4 (by kernel_rfl) rfl rfl (fun K' hK' => ?_)
    go_simp
    refine hK' _ _ (((Below.refl _ _).alloc (Nat.le_refl _) _).alloc (by simp) _).drew ?_
    refine wpAnyC_one 6 (by kernel_rfl) rfl rfl (fun K'' hK'' => ?_)
    go_simp
    refine hK'' _ _ (((Below.refl _ _).alloc (Nat.le_refl _) _).alloc (by simp) _).drew ?_
    refine wpAnyC_one 7 (by kernel_rfl) rfl rfl (fun K3 hK3 => ?_)
    go_simp
    refine hK3 _ _ (((Below.refl _ _).alloc (Nat.le_refl _) _).alloc (by simp) _).drew ?_
    refine wpAnyC_done (by kernel_rfl) ?_
    clear hK hK' hK'' hK3 K K' K'' K3 hC
    refine two_new hs fun W2 k5 k6 hg2 => ?_
    have n0 := gxblk (W := W2) ((grown_old hg2 hl0).trans e0)
    have n1 := gxblk (W := W2) ((grown_old hg2 hl1).trans e1)
    have n2 := gxblk (W := W2) k5
    have n3 := gxblk (W := W2) k6
    clear e0 e1 k5 k6 hl0 hl1
    have HG := Lib.hid hg
    have HG2 := Lib.hid hg2
    have HS := Lib.hid hs
    clear hg hg2 hs
    go_wp2_with fail
    (refine wp_region_quiet_gtail 35 (by kernel_rfl) (by kernel_rfl) ?_; simp only [List.take_succ_cons, List.take_zero, List.drop_succ_cons, List.drop_zero]; (repeat (go_big_quiet_step ((first | (go_at_call 50; refine Calls.gx_same (compare_int _ _ _)) | (go_at_call 66; refine Calls.gx_same (compare_u8 _ _ _)))))); refine wpQuiet_nil ?_; intro wq hw'; obtain ⟨⟨_, hq⟩, hw''⟩ := hw'; subst hw'')
    clear n0 n1 n2 n3
    go_wp2_with (go_at_call 49; refine (or_int _ 7 [cmpI x.time y.time, cmpI x.s.kind y.s.kind, cmpI x.s.place y.s.place, cmpI x.s.scanner y.s.scanner, cmpI x.s.item y.s.item, cmpI x.s.at_ y.s.at_, cmpI x.s.seen y.s.seen] _ (rdI_lit7 (by simp)) (by simp)).mono ?_; rintro e w' ⟨rfl, rfl⟩)
    go_ret
    exact ⟨rfl, grown_alloc (grown_step (grown_step HG.out HG2.out) hq) _⟩
end Go.Proofs.Ytcjhkjplpbhjiaa
