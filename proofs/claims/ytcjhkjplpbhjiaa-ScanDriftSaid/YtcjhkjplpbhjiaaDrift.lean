/- The walk of ScanDrift. -/
import Derived.Test.YtcjhkjplpbhjiaaDriftP
namespace Go.Proofs.Ytcjhkjplpbhjiaa
open Go.RowKit Go.Proofs
set_option maxRecDepth 100000

theorem time_drift (b c : Nat) (mA mO nA nO z : Int) (W : World) (h1 : 40000 ≤ mA) (h2 : mA ≤ 105535) (h3 : mA + 1 ≤ nA) (h4 : nA ≤ mA + 65536) (h5 : -32768 ≤ mO) (h6 : mO ≤ 32767) (h7 : -32768 ≤ nO) (h8 : nO ≤ 32767) (hz : mA ≤ z) (hz2 : z ≤ nA)
    (k : Blk W b #[.int .i64 1, .int .i64 mA, .int .i64 mO, .int .i64 1, .int .i64 nA, .int .i64 nO] 30) :
    Calls Try.prog 12 #[.slice (some ⟨b, 0, none⟩) 2 c, .agg #[.int .i64 7, .int .i64 3, .int .i64 1, .int .u8 1, .int .i64 z, .int .i64 1000000]] W fun e w' => e = .returned (.tuple #[.int .i64 (tv mA mO (nA - mA) (nO - mO) z), .int .i64 0]) ∧ Below W.heap.size W w' := by
  have := time_any (some ⟨b, 0, none⟩) c [⟨1, mA, mO⟩, ⟨1, nA, nO⟩] ⟨7, 3, 1, 1, z, 1000000⟩ W (rd_blk (enc := encMrk) (k := 3) (fun _ => rfl) k rfl) (by simp)
  have e := drift_time (mA := mA) (mO := mO) (d := nA - mA) (D := nO - mO) (z := z) h1 h2 (by omega) (by omega) h5 h6 (by omega) (by omega) hz (by omega)
  rw [show mA + (nA - mA) = nA by omega, show mO + (nO - mO) = nO by omega] at e
  rw [e] at this
  exact this

set_option maxHeartbeats 4000000 in
theorem drift_any (a p f s x y : Int) (w : World) (ha : 0 ≤ a ∧ a ≤ 65535) (hp : 0 ≤ p ∧ p ≤ 65535) (hf : -32768 ≤ f ∧ f ≤ 32767) (hs : -32768 ≤ s ∧ s ≤ 32767) (hx : 0 ≤ x ∧ x ≤ 65535) (hy : 0 ≤ y ∧ y ≤ 65535) :
    Calls Try.prog 7 #[.int .u16 a, .int .u16 p, .int .i16 f, .int .i16 s, .int .u16 x, .int .u16 y] w fun e w' => e = .returned (.bool true) ∧ Below w.heap.size w w' := by
  have wa : IntKind.i64.wrap a = a := IntWalk.i64_in _ (by omega)
  have wp : IntKind.i64.wrap p = p := IntWalk.i64_in _ (by omega)
  have wf : IntKind.i64.wrap f = f := IntWalk.i64_in _ (by omega)
  have ws : IntKind.i64.wrap s = s := IntWalk.i64_in _ (by omega)
  have wx : IntKind.i64.wrap x = x := IntWalk.i64_in _ (by omega)
  have wy : IntKind.i64.wrap y = y := IntWalk.i64_in _ (by omega)
  by_cases hA : s - f < 40000 + a - (40000 + a + 1 + p)
  · go_enter Try.func7, Try.ntmps7
    go_wp2_with fail
    have bm : 40000 ≤ 40000 + a ∧ 40000 + a ≤ 105535 := by omega
    have bn : 40000 + a + 1 ≤ 40000 + a + 1 + p ∧ 40000 + a + 1 + p ≤ 40000 + a + 65536 := by omega
    obtain ⟨W, hW⟩ : ∃ W : World, W = ((w.alloc (.cells #[.int .i64 1, .int .i64 (40000 + a), .int .i64 f] 30)).alloc (.cells #[.int .i64 1, .int .i64 (40000 + a + 1 + p), .int .i64 ((f + (40000 + a) - (40000 + a + 1 + p)))] 30)).alloc (.cells #[.int .i64 1, .int .i64 (40000 + a), .int .i64 f, .int .i64 1, .int .i64 (40000 + a + 1 + p), .int .i64 ((f + (40000 + a) - (40000 + a + 1 + p)))] 30) := ⟨_, rfl⟩
    have k1 : Blk W w.heap.size #[.int .i64 1, .int .i64 (40000 + a), .int .i64 f] 30 := by rw [hW]; exact ((Blk.new rfl).alloc _).alloc _
    have k2 : Blk W (w.heap.size + 1) #[.int .i64 1, .int .i64 (40000 + a + 1 + p), .int .i64 ((f + (40000 + a) - (40000 + a + 1 + p)))] 30 := by rw [hW]; exact (Blk.new (by simp)).alloc _
    have k3 : Blk W (w.heap.size + 1 + 1) #[.int .i64 1, .int .i64 (40000 + a), .int .i64 f, .int .i64 1, .int .i64 (40000 + a + 1 + p), .int .i64 ((f + (40000 + a) - (40000 + a + 1 + p)))] 30 := by rw [hW]; exact Blk.new (by simp)
    have BW : Below w.heap.size w W := by rw [hW]; exact (((Below.refl _ _).alloc (Nat.le_refl _) _).alloc (by simp) _).alloc (by simp; omega) _
    have bo : -32768 ≤ (f + (40000 + a) - (40000 + a + 1 + p)) ∧ (f + (40000 + a) - (40000 + a + 1 + p)) ≤ 32767 := by omega
    have bd : 0 ≤ (f + (40000 + a) - (40000 + a + 1 + p)) - f + (40000 + a + 1 + p - (40000 + a)) := by omega
    rw [← hW]
    clear hW
    generalize (f + (40000 + a) - (40000 + a + 1 + p)) = nO at *
    generalize 40000 + a = mA at *
    generalize mA + 1 + p = nA at *
    have e1 := exblk k1
    have e2 := exblk k2
    have hx1 := Int.emod_nonneg x (show nA - mA + 1 ≠ 0 by omega)
    have hx2 := Int.emod_lt_of_pos x (show 0 < nA - mA + 1 by omega)
    have hy1 := Int.emod_nonneg y (show nA - mA + 1 ≠ 0 by omega)
    have hy2 := Int.emod_lt_of_pos y (show 0 < nA - mA + 1 by omega)
    have wX : IntKind.i64.wrap (mA + x % (nA - mA + 1)) = mA + x % (nA - mA + 1) := IntWalk.i64_in _ (by omega)
    have wY : IntKind.i64.wrap (mA + y % (nA - mA + 1)) = mA + y % (nA - mA + 1) := IntWalk.i64_in _ (by omega)
    (refine wp_region_quiet_ex (by kernel_rfl) (by kernel_rfl) ?_; (repeat (go_big_quiet_step ((fail)))); refine wpQuiet_nil ?_; intro wq hw'; obtain ⟨⟨_, hq⟩, hw''⟩ := hw'; subst hw'')
    have bX : mA ≤ mA + x % (nA - mA + 1) ∧ mA + x % (nA - mA + 1) ≤ nA := by omega
    have bY : mA ≤ mA + y % (nA - mA + 1) ∧ mA + y % (nA - mA + 1) ≤ nA := by omega
    clear hx1 hx2 hy1 hy2 wX wY e1 e2
    generalize mA + x % (nA - mA + 1) = X at *
    generalize mA + y % (nA - mA + 1) = Y at *
    have BQ := Lib.hid (BW.trans (hq.mono BW.size))
    have q1 := k1.below hq k1.lt
    have q2 := k2.below hq k2.lt
    have q3 := k3.below hq k3.lt
    clear hq k1 k2 k3 BW
    go_wp2_with fail
    have bz : mA ≤ min X Y ∧ min X Y ≤ nA ∧ mA ≤ max X Y ∧ max X Y ≤ nA ∧ min X Y ≤ max X Y := by omega
    clear bX bY
    generalize min X Y = U at *
    generalize max X Y = V at *
    obtain ⟨z1, z2, z3, z4, z5⟩ := bz
    have HT := Lib.hid (fun (z : Int) (W : World) (hz : mA ≤ z) (hz2 : z ≤ nA) (k : Blk W (w.heap.size + 1 + 1) #[.int .i64 1, .int .i64 mA, .int .i64 f, .int .i64 1, .int .i64 nA, .int .i64 nO] 30) => time_drift (w.heap.size + 1 + 1) 2 mA f nA nO z W bm.1 bm.2 bn.1 bn.2 hf.1 hf.2 bo.1 bo.2 hz hz2 k)
    have L1 : tv mA f (nA - mA) (nO - f) mA ≤ tv mA f (nA - mA) (nO - f) U := tv_mono (by omega) bd z1
    have L2 : tv mA f (nA - mA) (nO - f) U ≤ tv mA f (nA - mA) (nO - f) V := tv_mono (by omega) bd z5
    have L3 : tv mA f (nA - mA) (nO - f) V ≤ tv mA f (nA - mA) (nO - f) nA := tv_mono (by omega) bd z4
    have L4 := tv_off (mA := mA) (mO := f) (D := nO - f) (d := nA - mA) (x := U) (by omega) z1 (by omega)
    have L5 : tv mA f (nA - mA) (nO - f) mA = mA + f := tv_low
    have L6 : tv mA f (nA - mA) (nO - f) nA = nA + nO := by
      have := tv_high (mA := mA) (mO := f) (D := nO - f) (d := nA - mA) (by omega)
      rw [show mA + (nA - mA) = nA by omega, show f + (nO - f) = nO by omega] at this
      exact this
    rw [show f + (nO - f) = nO by omega] at L4
    generalize tv mA f (nA - mA) (nO - f) = T at *
    have K0 := Lib.hid (show Blk wq w.heap.size _ _ ∧ Blk wq (w.heap.size + 1) _ _ ∧ Blk wq (w.heap.size + 1 + 1) _ _ ∧ Below w.heap.size w wq from ⟨q1, q2, q3, BQ.out⟩)
    clear q1 q2 q3 BQ
    refine (one_any _ _ _ _).mono ?_
    rintro e r0 ⟨rfl, h⟩
    have K0a := Lib.hid (show Blk r0 w.heap.size _ _ ∧ Blk r0 (w.heap.size + 1) _ _ ∧ Blk r0 (w.heap.size + 1 + 1) _ _ ∧ Below w.heap.size w r0 from ⟨K0.out.1.below h K0.out.1.lt, K0.out.2.1.below h K0.out.2.1.lt, K0.out.2.2.1.below h K0.out.2.2.1.lt, K0.out.2.2.2.trans (h.mono K0.out.2.2.2.size)⟩)
    clear h K0
    go_wp2_with fail
    refine (HT.out U _ z1 (by omega) K0a.out.2.2.1).mono ?_
    rintro e v0 ⟨rfl, h⟩
    have K1 := Lib.hid (show Blk v0 w.heap.size _ _ ∧ Blk v0 (w.heap.size + 1) _ _ ∧ Blk v0 (w.heap.size + 1 + 1) _ _ ∧ Below w.heap.size w v0 from ⟨K0a.out.1.below h K0a.out.1.lt, K0a.out.2.1.below h K0a.out.2.1.lt, K0a.out.2.2.1.below h K0a.out.2.2.1.lt, K0a.out.2.2.2.trans (h.mono K0a.out.2.2.2.size)⟩)
    have c1 := Blk.cells K1.out.1
    have c2 := Blk.cells K1.out.2.1
    clear h K0a
    go_wp2_with fail
    clear c1 c2
    refine (one_any _ _ _ _).mono ?_
    rintro e r1 ⟨rfl, h⟩
    have K1a := Lib.hid (show Blk r1 w.heap.size _ _ ∧ Blk r1 (w.heap.size + 1) _ _ ∧ Blk r1 (w.heap.size + 1 + 1) _ _ ∧ Below w.heap.size w r1 from ⟨K1.out.1.below h K1.out.1.lt, K1.out.2.1.below h K1.out.2.1.lt, K1.out.2.2.1.below h K1.out.2.2.1.lt, K1.out.2.2.2.trans (h.mono K1.out.2.2.2.size)⟩)
    clear h K1
    go_wp2_with fail
    refine (HT.out V _ (by omega) z4 K1a.out.2.2.1).mono ?_
    rintro e v1 ⟨rfl, h⟩
    have K2 := Lib.hid (show Blk v1 w.heap.size _ _ ∧ Blk v1 (w.heap.size + 1) _ _ ∧ Blk v1 (w.heap.size + 1 + 1) _ _ ∧ Below w.heap.size w v1 from ⟨K1a.out.1.below h K1a.out.1.lt, K1a.out.2.1.below h K1a.out.2.1.lt, K1a.out.2.2.1.below h K1a.out.2.2.1.lt, K1a.out.2.2.2.trans (h.mono K1a.out.2.2.2.size)⟩)
    have c1 := Blk.cells K2.out.1
    have c2 := Blk.cells K2.out.2.1
    clear h K1a
    go_wp2_with fail
    clear c1 c2
    refine (one_any _ _ _ _).mono ?_
    rintro e r2 ⟨rfl, h⟩
    have K2a := Lib.hid (show Blk r2 w.heap.size _ _ ∧ Blk r2 (w.heap.size + 1) _ _ ∧ Blk r2 (w.heap.size + 1 + 1) _ _ ∧ Below w.heap.size w r2 from ⟨K2.out.1.below h K2.out.1.lt, K2.out.2.1.below h K2.out.2.1.lt, K2.out.2.2.1.below h K2.out.2.2.1.lt, K2.out.2.2.2.trans (h.mono K2.out.2.2.2.size)⟩)
    clear h K2
    go_wp2_with fail
    refine (HT.out mA _ (Int.le_refl _) (by omega) K2a.out.2.2.1).mono ?_
    rintro e v2 ⟨rfl, h⟩
    have K3 := Lib.hid (show Blk v2 w.heap.size _ _ ∧ Blk v2 (w.heap.size + 1) _ _ ∧ Blk v2 (w.heap.size + 1 + 1) _ _ ∧ Below w.heap.size w v2 from ⟨K2a.out.1.below h K2a.out.1.lt, K2a.out.2.1.below h K2a.out.2.1.lt, K2a.out.2.2.1.below h K2a.out.2.2.1.lt, K2a.out.2.2.2.trans (h.mono K2a.out.2.2.2.size)⟩)
    have c1 := Blk.cells K3.out.1
    have c2 := Blk.cells K3.out.2.1
    clear h K2a
    go_wp2_with fail
    clear c1 c2
    refine (one_any _ _ _ _).mono ?_
    rintro e r3 ⟨rfl, h⟩
    have K3a := Lib.hid (show Blk r3 w.heap.size _ _ ∧ Blk r3 (w.heap.size + 1) _ _ ∧ Blk r3 (w.heap.size + 1 + 1) _ _ ∧ Below w.heap.size w r3 from ⟨K3.out.1.below h K3.out.1.lt, K3.out.2.1.below h K3.out.2.1.lt, K3.out.2.2.1.below h K3.out.2.2.1.lt, K3.out.2.2.2.trans (h.mono K3.out.2.2.2.size)⟩)
    clear h K3
    go_wp2_with fail
    refine (HT.out nA _ (by omega) (Int.le_refl _) K3a.out.2.2.1).mono ?_
    rintro e v3 ⟨rfl, h⟩
    have K4 := Lib.hid (show Blk v3 w.heap.size _ _ ∧ Blk v3 (w.heap.size + 1) _ _ ∧ Blk v3 (w.heap.size + 1 + 1) _ _ ∧ Below w.heap.size w v3 from ⟨K3a.out.1.below h K3a.out.1.lt, K3a.out.2.1.below h K3a.out.2.1.lt, K3a.out.2.2.1.below h K3a.out.2.2.1.lt, K3a.out.2.2.2.trans (h.mono K3a.out.2.2.2.size)⟩)
    have c1 := Blk.cells K4.out.1
    have c2 := Blk.cells K4.out.2.1
    clear h K3a
    go_wp2_with fail
    refine (awake_any _).mono ?_
    rintro e wz ⟨rfl, h⟩
    have BZ := Lib.hid (K4.out.2.2.2.trans (h.mono K4.out.2.2.2.size))
    clear h c1 c2
    go_wp2_with fail
    go_ret
    exact ⟨rfl, BZ.out⟩

  · go_enter Try.func7, Try.ntmps7
    go_wp2_with fail
    have bm : 40000 ≤ 40000 + a ∧ 40000 + a ≤ 105535 := by omega
    have bn : 40000 + a + 1 ≤ 40000 + a + 1 + p ∧ 40000 + a + 1 + p ≤ 40000 + a + 65536 := by omega
    obtain ⟨W, hW⟩ : ∃ W : World, W = ((w.alloc (.cells #[.int .i64 1, .int .i64 (40000 + a), .int .i64 f] 30)).alloc (.cells #[.int .i64 1, .int .i64 (40000 + a + 1 + p), .int .i64 (s)] 30)).alloc (.cells #[.int .i64 1, .int .i64 (40000 + a), .int .i64 f, .int .i64 1, .int .i64 (40000 + a + 1 + p), .int .i64 (s)] 30) := ⟨_, rfl⟩
    have k1 : Blk W w.heap.size #[.int .i64 1, .int .i64 (40000 + a), .int .i64 f] 30 := by rw [hW]; exact ((Blk.new rfl).alloc _).alloc _
    have k2 : Blk W (w.heap.size + 1) #[.int .i64 1, .int .i64 (40000 + a + 1 + p), .int .i64 (s)] 30 := by rw [hW]; exact (Blk.new (by simp)).alloc _
    have k3 : Blk W (w.heap.size + 1 + 1) #[.int .i64 1, .int .i64 (40000 + a), .int .i64 f, .int .i64 1, .int .i64 (40000 + a + 1 + p), .int .i64 (s)] 30 := by rw [hW]; exact Blk.new (by simp)
    have BW : Below w.heap.size w W := by rw [hW]; exact (((Below.refl _ _).alloc (Nat.le_refl _) _).alloc (by simp) _).alloc (by simp; omega) _
    have bo : -32768 ≤ s ∧ s ≤ 32767 := by omega
    have bd : 0 ≤ s - f + (40000 + a + 1 + p - (40000 + a)) := by omega
    rw [← hW]
    clear hW
    generalize s = nO at *
    generalize 40000 + a = mA at *
    generalize mA + 1 + p = nA at *
    have e1 := exblk k1
    have e2 := exblk k2
    have hx1 := Int.emod_nonneg x (show nA - mA + 1 ≠ 0 by omega)
    have hx2 := Int.emod_lt_of_pos x (show 0 < nA - mA + 1 by omega)
    have hy1 := Int.emod_nonneg y (show nA - mA + 1 ≠ 0 by omega)
    have hy2 := Int.emod_lt_of_pos y (show 0 < nA - mA + 1 by omega)
    have wX : IntKind.i64.wrap (mA + x % (nA - mA + 1)) = mA + x % (nA - mA + 1) := IntWalk.i64_in _ (by omega)
    have wY : IntKind.i64.wrap (mA + y % (nA - mA + 1)) = mA + y % (nA - mA + 1) := IntWalk.i64_in _ (by omega)
    (refine wp_region_quiet_ex (by kernel_rfl) (by kernel_rfl) ?_; (repeat (go_big_quiet_step ((fail)))); refine wpQuiet_nil ?_; intro wq hw'; obtain ⟨⟨_, hq⟩, hw''⟩ := hw'; subst hw'')
    have bX : mA ≤ mA + x % (nA - mA + 1) ∧ mA + x % (nA - mA + 1) ≤ nA := by omega
    have bY : mA ≤ mA + y % (nA - mA + 1) ∧ mA + y % (nA - mA + 1) ≤ nA := by omega
    clear hx1 hx2 hy1 hy2 wX wY e1 e2
    generalize mA + x % (nA - mA + 1) = X at *
    generalize mA + y % (nA - mA + 1) = Y at *
    have BQ := Lib.hid (BW.trans (hq.mono BW.size))
    have q1 := k1.below hq k1.lt
    have q2 := k2.below hq k2.lt
    have q3 := k3.below hq k3.lt
    clear hq k1 k2 k3 BW
    go_wp2_with fail
    have bz : mA ≤ min X Y ∧ min X Y ≤ nA ∧ mA ≤ max X Y ∧ max X Y ≤ nA ∧ min X Y ≤ max X Y := by omega
    clear bX bY
    generalize min X Y = U at *
    generalize max X Y = V at *
    obtain ⟨z1, z2, z3, z4, z5⟩ := bz
    have HT := Lib.hid (fun (z : Int) (W : World) (hz : mA ≤ z) (hz2 : z ≤ nA) (k : Blk W (w.heap.size + 1 + 1) #[.int .i64 1, .int .i64 mA, .int .i64 f, .int .i64 1, .int .i64 nA, .int .i64 nO] 30) => time_drift (w.heap.size + 1 + 1) 2 mA f nA nO z W bm.1 bm.2 bn.1 bn.2 hf.1 hf.2 bo.1 bo.2 hz hz2 k)
    have L1 : tv mA f (nA - mA) (nO - f) mA ≤ tv mA f (nA - mA) (nO - f) U := tv_mono (by omega) bd z1
    have L2 : tv mA f (nA - mA) (nO - f) U ≤ tv mA f (nA - mA) (nO - f) V := tv_mono (by omega) bd z5
    have L3 : tv mA f (nA - mA) (nO - f) V ≤ tv mA f (nA - mA) (nO - f) nA := tv_mono (by omega) bd z4
    have L4 := tv_off (mA := mA) (mO := f) (D := nO - f) (d := nA - mA) (x := U) (by omega) z1 (by omega)
    have L5 : tv mA f (nA - mA) (nO - f) mA = mA + f := tv_low
    have L6 : tv mA f (nA - mA) (nO - f) nA = nA + nO := by
      have := tv_high (mA := mA) (mO := f) (D := nO - f) (d := nA - mA) (by omega)
      rw [show mA + (nA - mA) = nA by omega, show f + (nO - f) = nO by omega] at this
      exact this
    rw [show f + (nO - f) = nO by omega] at L4
    generalize tv mA f (nA - mA) (nO - f) = T at *
    have K0 := Lib.hid (show Blk wq w.heap.size _ _ ∧ Blk wq (w.heap.size + 1) _ _ ∧ Blk wq (w.heap.size + 1 + 1) _ _ ∧ Below w.heap.size w wq from ⟨q1, q2, q3, BQ.out⟩)
    clear q1 q2 q3 BQ
    refine (one_any _ _ _ _).mono ?_
    rintro e r0 ⟨rfl, h⟩
    have K0a := Lib.hid (show Blk r0 w.heap.size _ _ ∧ Blk r0 (w.heap.size + 1) _ _ ∧ Blk r0 (w.heap.size + 1 + 1) _ _ ∧ Below w.heap.size w r0 from ⟨K0.out.1.below h K0.out.1.lt, K0.out.2.1.below h K0.out.2.1.lt, K0.out.2.2.1.below h K0.out.2.2.1.lt, K0.out.2.2.2.trans (h.mono K0.out.2.2.2.size)⟩)
    clear h K0
    go_wp2_with fail
    refine (HT.out U _ z1 (by omega) K0a.out.2.2.1).mono ?_
    rintro e v0 ⟨rfl, h⟩
    have K1 := Lib.hid (show Blk v0 w.heap.size _ _ ∧ Blk v0 (w.heap.size + 1) _ _ ∧ Blk v0 (w.heap.size + 1 + 1) _ _ ∧ Below w.heap.size w v0 from ⟨K0a.out.1.below h K0a.out.1.lt, K0a.out.2.1.below h K0a.out.2.1.lt, K0a.out.2.2.1.below h K0a.out.2.2.1.lt, K0a.out.2.2.2.trans (h.mono K0a.out.2.2.2.size)⟩)
    have c1 := Blk.cells K1.out.1
    have c2 := Blk.cells K1.out.2.1
    clear h K0a
    go_wp2_with fail
    clear c1 c2
    refine (one_any _ _ _ _).mono ?_
    rintro e r1 ⟨rfl, h⟩
    have K1a := Lib.hid (show Blk r1 w.heap.size _ _ ∧ Blk r1 (w.heap.size + 1) _ _ ∧ Blk r1 (w.heap.size + 1 + 1) _ _ ∧ Below w.heap.size w r1 from ⟨K1.out.1.below h K1.out.1.lt, K1.out.2.1.below h K1.out.2.1.lt, K1.out.2.2.1.below h K1.out.2.2.1.lt, K1.out.2.2.2.trans (h.mono K1.out.2.2.2.size)⟩)
    clear h K1
    go_wp2_with fail
    refine (HT.out V _ (by omega) z4 K1a.out.2.2.1).mono ?_
    rintro e v1 ⟨rfl, h⟩
    have K2 := Lib.hid (show Blk v1 w.heap.size _ _ ∧ Blk v1 (w.heap.size + 1) _ _ ∧ Blk v1 (w.heap.size + 1 + 1) _ _ ∧ Below w.heap.size w v1 from ⟨K1a.out.1.below h K1a.out.1.lt, K1a.out.2.1.below h K1a.out.2.1.lt, K1a.out.2.2.1.below h K1a.out.2.2.1.lt, K1a.out.2.2.2.trans (h.mono K1a.out.2.2.2.size)⟩)
    have c1 := Blk.cells K2.out.1
    have c2 := Blk.cells K2.out.2.1
    clear h K1a
    go_wp2_with fail
    clear c1 c2
    refine (one_any _ _ _ _).mono ?_
    rintro e r2 ⟨rfl, h⟩
    have K2a := Lib.hid (show Blk r2 w.heap.size _ _ ∧ Blk r2 (w.heap.size + 1) _ _ ∧ Blk r2 (w.heap.size + 1 + 1) _ _ ∧ Below w.heap.size w r2 from ⟨K2.out.1.below h K2.out.1.lt, K2.out.2.1.below h K2.out.2.1.lt, K2.out.2.2.1.below h K2.out.2.2.1.lt, K2.out.2.2.2.trans (h.mono K2.out.2.2.2.size)⟩)
    clear h K2
    go_wp2_with fail
    refine (HT.out mA _ (Int.le_refl _) (by omega) K2a.out.2.2.1).mono ?_
    rintro e v2 ⟨rfl, h⟩
    have K3 := Lib.hid (show Blk v2 w.heap.size _ _ ∧ Blk v2 (w.heap.size + 1) _ _ ∧ Blk v2 (w.heap.size + 1 + 1) _ _ ∧ Below w.heap.size w v2 from ⟨K2a.out.1.below h K2a.out.1.lt, K2a.out.2.1.below h K2a.out.2.1.lt, K2a.out.2.2.1.below h K2a.out.2.2.1.lt, K2a.out.2.2.2.trans (h.mono K2a.out.2.2.2.size)⟩)
    have c1 := Blk.cells K3.out.1
    have c2 := Blk.cells K3.out.2.1
    clear h K2a
    go_wp2_with fail
    clear c1 c2
    refine (one_any _ _ _ _).mono ?_
    rintro e r3 ⟨rfl, h⟩
    have K3a := Lib.hid (show Blk r3 w.heap.size _ _ ∧ Blk r3 (w.heap.size + 1) _ _ ∧ Blk r3 (w.heap.size + 1 + 1) _ _ ∧ Below w.heap.size w r3 from ⟨K3.out.1.below h K3.out.1.lt, K3.out.2.1.below h K3.out.2.1.lt, K3.out.2.2.1.below h K3.out.2.2.1.lt, K3.out.2.2.2.trans (h.mono K3.out.2.2.2.size)⟩)
    clear h K3
    go_wp2_with fail
    refine (HT.out nA _ (by omega) (Int.le_refl _) K3a.out.2.2.1).mono ?_
    rintro e v3 ⟨rfl, h⟩
    have K4 := Lib.hid (show Blk v3 w.heap.size _ _ ∧ Blk v3 (w.heap.size + 1) _ _ ∧ Blk v3 (w.heap.size + 1 + 1) _ _ ∧ Below w.heap.size w v3 from ⟨K3a.out.1.below h K3a.out.1.lt, K3a.out.2.1.below h K3a.out.2.1.lt, K3a.out.2.2.1.below h K3a.out.2.2.1.lt, K3a.out.2.2.2.trans (h.mono K3a.out.2.2.2.size)⟩)
    have c1 := Blk.cells K4.out.1
    have c2 := Blk.cells K4.out.2.1
    clear h K3a
    go_wp2_with fail
    refine (awake_any _).mono ?_
    rintro e wz ⟨rfl, h⟩
    have BZ := Lib.hid (K4.out.2.2.2.trans (h.mono K4.out.2.2.2.size))
    clear h c1 c2
    go_wp2_with fail
    go_ret
    exact ⟨rfl, BZ.out⟩

end Go.Proofs.Ytcjhkjplpbhjiaa
