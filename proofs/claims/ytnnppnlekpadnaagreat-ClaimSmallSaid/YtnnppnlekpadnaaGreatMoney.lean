/- Contracts of money.Right, floor, portion and Share, and of claim.late. -/
import Derived.Test.YtnnppnlekpadnaaGreatProg
import Derived.Test.YtnnppnlekpadnaaGreatRd
import Derived.Test.YtnnppnlekpadnaaGreatQuiet
import Derived.Test.YtnnppnlekpadnaaGreatMap
import Derived.Lib.Hide
import Derived.IntWalk
namespace Go.Proofs.YtnnppnlekpadnaaGreat
open Go.RowKit Go.Proofs
set_option maxRecDepth 100000

theorem mright (n : Int) (w : World) (h1 : 0 ≤ n) (h2 : n ≤ 1000000000000000) : Calls Tryz.prog 121 #[.int .i64 n] w fun e w' => e = .returned (.bool true) ∧ w = w' := by
  have h3 : -1000000000000000 ≤ n := by omega
  go_enter Tryz.func121, Tryz.ntmps121
  go_wp2
  go_ret
  exact ⟨rfl, rfl⟩

theorem mfloor (a b : Int) (w : World) (h1 : 0 ≤ a) (h2 : a ≤ 1000000000000000) (h3 : 1 ≤ b) (h4 : b ≤ 1000000) : Calls Tryz.prog 135 #[.int .i64 a, .int .i64 b] w fun e w' => e = .returned (.tuple #[.int .i64 (a / b), .int .i64 (a % b)]) ∧ Below w.heap.size w w' := by
  have h5 : 0 ≤ a % b := Int.emod_nonneg _ (by omega)
  have h6 : a % b < b := Int.emod_lt_of_pos _ (by omega)
  go_enter Tryz.func135, Tryz.ntmps135
  go_wp2_with fail
  have hb0 : (b == 0) = false := by simp; omega
  (refine wp_region_quiet_ex (by kernel_rfl) (by kernel_rfl) ?_; (repeat (go_big_quiet_step ((fail)))); refine wpQuiet_nil ?_; intro wq hw'; obtain ⟨⟨_, hq⟩, hw''⟩ := hw'; subst hw'')
  go_wp2
  go_ret2
  exact ⟨rfl, hq⟩

theorem mportion (a v : Int) (w : World) (h1 : 0 ≤ a) (h2 : a ≤ 1000000000000000) (h3 : 0 ≤ v) (h4 : v ≤ 10000) : Calls Tryz.prog 122 #[.int .i64 a, .int .i64 v, .int .i64 10000] w fun e w' => e = .returned (.tuple #[.int .i64 (a / 10000 * v + a % 10000 * v / 10000), .int .i64 (a % 10000 * v % 10000)]) ∧ Below w.heap.size w w' := by
  have h5 : 0 ≤ a % 10000 := by omega
  have h6 : a % 10000 < 10000 := by omega
  have h7 : 0 ≤ a % 10000 * v := Int.mul_nonneg h5 h3
  have h8 : a % 10000 * v ≤ 10000 * 10000 := Int.mul_le_mul (by omega) h4 h3 (by omega)
  have h9 : 0 ≤ a / 10000 * v := Int.mul_nonneg (by omega) h3
  have h10 : a / 10000 * v ≤ 100000000000 * 10000 := Int.mul_le_mul (by omega) h4 h3 (by omega)
  have c1 := mfloor a 10000 w h1 h2 (by omega) (by omega)
  generalize ha : a / 10000 = q at *
  generalize hr : a % 10000 = r at *
  have c2 := fun W => mfloor (r * v) 10000 W h7 (by omega) (by omega) (by omega)
  have HA := Lib.hid ha
  have HR := Lib.hid hr
  clear ha hr
  have HC := Lib.hid c2
  clear c2
  generalize hs : r * v = s at *
  generalize ht : q * v = t at *
  have HS := Lib.hid hs
  have HT := Lib.hid ht
  have e1 : IntKind.i64.wrap (r * v) = s := by rw [hs]; exact IntWalk.i64_in _ (by omega)
  have e2 : IntKind.i64.wrap (q * v) = t := by rw [ht]; exact IntWalk.i64_in _ (by omega)
  clear hs ht
  have f1 : 0 ≤ s / 10000 := by omega
  have f2 : s / 10000 ≤ 10000 := by omega
  go_enter Tryz.func122, Tryz.ntmps122
  go_wp2_with fail
  refine c1.mono ?_
  rintro e w1 ⟨rfl, hb1⟩
  go_wp2_with fail
  refine (HC.out _).mono ?_
  rintro e w2 ⟨rfl, hb2⟩
  go_wp2_with fail
  go_ret2
  exact ⟨rfl, hb1.trans (hb2.mono hb1.size)⟩

theorem share1 (w : World) : Calls Tryz.prog 123 #[] w fun e w' => e = .returned (.bool false) ∧ w = w' := by
  go_enter Tryz.func123, Tryz.ntmps123
  go_wp2
  go_ret
  exact ⟨rfl, rfl⟩

/-- A share, rounded down. -/
def shareP (cents parts : Int) : Int := cents / 10000 * parts + cents % 10000 * parts / 10000

set_option maxHeartbeats 1000000 in
theorem mshare (a v : Int) (w : World) (h1 : 0 ≤ a) (h2 : a ≤ 1000000000000000) (h3 : 0 ≤ v) (h4 : v ≤ 10000) : Calls Tryz.prog 100 #[.int .i64 a, .int .i64 v, .int .u8 1] w fun e w' => e = .returned (.tuple #[.int .i64 (shareP a v), .int .i64 0]) ∧ Below w.heap.size w w' := by
  have c1 := fun W => mright a W h1 h2
  have c2 := fun W => mportion a v W h1 h2 h3 h4
  unfold shareP
  generalize a / 10000 * v + a % 10000 * v / 10000 = q at *
  generalize a % 10000 * v % 10000 = r at *
  have C1 := Lib.hid c1
  have C2 := Lib.hid c2
  clear c1 c2
  have L := keyLaw_int (P := Tryz.prog) (K := 5) (kd := .u8) Tryz.underlying5
  have hmm := @run_makeMap Tryz.prog
  have hz : ∀ w, Sem.run Tryz.prog (zeroValue 23) w = .ok .nilFunc w := fun _ => by kernel_rfl
  go_enter Tryz.func100, Tryz.ntmps100
  go_wp2_with fail
  refine (C1.out _).mono ?_
  rintro e w0 ⟨rfl, rfl⟩
  go_wp2_with fail
  refine (C2.out _).mono ?_
  rintro e w1 ⟨rfl, hb1⟩
  replace hb1 : Below w.heap.size w w1 := ((Below.refl _ _).alloc (Nat.le_refl _) _).trans (hb1.mono (by first | (simp; done) | (simp; omega) | omega))
  go_wp2_with (first | (refine wpList_insert rfl 150 _ (.const (.int .u8 1)) _ rfl (MapR.made (Value.int .u8) id (B := w1.heap.size + 1 + 1) (by simp)) L Tryz.underlying150 (1 : Int) _ rfl rfl rfl ?_; intro w3 hm3 hg3) | (refine wpList_insert rfl 150 _ (.const (.int .u8 2)) _ rfl hm3 L Tryz.underlying150 (2 : Int) _ rfl rfl rfl ?_; intro w4 hm4 hg4) | (refine wpList_insert rfl 150 _ (.const (.int .u8 3)) _ rfl hm4 L Tryz.underlying150 (3 : Int) _ rfl rfl rfl ?_; intro w5 hm5 hg5) | (refine wpList_insert rfl 150 _ (.const (.int .u8 4)) _ rfl hm5 L Tryz.underlying150 (4 : Int) _ rfl rfl rfl ?_; intro w6 hm6 hg6) | (refine wpList_look rfl 150 _ _ true rfl hm6 L Tryz.underlying150 hz (1 : Int) rfl rfl (r := some (.func (.func 123) #[] #[])) rfl ?_))
  have W3 : Aside (w.heap.size ≤ w1.heap.size) := hb1.size
  have z3 := hg3.size
  have z4 := hg4.size
  have z5 := hg5.size
  have z6 := hg6.size
  simp only [World.size_alloc] at z3
  have hB : Below w.heap.size w w6 := (((((((hb1.alloc hb1.size _).alloc (by have := W3.out; simp; omega) _).alloc (by have := W3.out; simp; omega) _).grown hg3 (by have := W3.out; simp; omega) (fun k hk => by cases hk; have := W3.out; omega)).grown hg4 (by have := W3.out; omega) (fun k hk => by cases hk; have := W3.out; omega)).grown hg5 (by have := W3.out; omega) (fun k hk => by cases hk; have := W3.out; omega)).grown hg6 (by have := W3.out; omega) (fun k hk => by cases hk; have := W3.out; omega))
  have b6 : w6.heap[w1.heap.size]? = some (.cells #[.int .i64 q] 3 (0, 0)) := by
    rw [hg6.block _ (by omega) (by intro e; injection e with e; omega), hg5.block _ (by omega) (by intro e; injection e with e; omega), hg4.block _ (by omega) (by intro e; injection e with e; omega), hg3.block _ (by simp; omega) (by intro e; injection e with e; omega)]
    rw [blk_old _ (by first | (simp; done) | (simp; omega) | omega), blk_old _ (by first | (simp; done) | (simp; omega) | omega)]
    exact blk_new rfl
  have hc6 : w6.cell? ⟨w1.heap.size, 0, none⟩ = some (.int .i64 q) := by simp [World.cell?, b6]
  clear hm3 hm4 hm5 hm6 hg3 hg4 hg5 hg6 b6
  refine (share1 _).mono ?_
  rintro e w7 ⟨rfl, rfl⟩
  go_wp2_with fail
  go_ret2
  exact ⟨rfl, hB⟩

/-- What is paid for being late by so many minutes. -/
def lateP (share most post minutes : Int) : Int := shareP post (min ((minutes + 1439) / 1440 * share) most)

theorem late_any (cl free share most after limit wi id item att kind post val minutes : Int) (w : World) (h1 : 0 ≤ post) (h2 : post ≤ 1000000000000000) (h3 : 0 ≤ share) (h4 : share ≤ 10000) (h5 : 0 ≤ most) (h6 : most ≤ 10000) (h7 : 0 ≤ minutes) (h8 : minutes ≤ 10000000000) :
    Calls Tryz.prog 84 #[.agg #[.int .u8 cl, .int .i64 free, .int .i64 share, .int .i64 most, .int .i64 after, .int .i64 limit, .int .i64 wi], .agg #[.int .i64 id, .int .i64 item, .int .i64 att, .int .u8 kind, .int .i64 post, .int .i64 val], .int .i64 minutes] w fun e w' => e = .returned (.int .i64 (lateP share most post minutes)) ∧ Below w.heap.size w w' := by
  have g1 : 0 ≤ (minutes + 1439) / 1440 := by omega
  have g2 : (minutes + 1439) / 1440 ≤ 10000000 := by omega
  have g3 : 0 ≤ (minutes + 1439) / 1440 * share := Int.mul_nonneg g1 h3
  have g4 : (minutes + 1439) / 1440 * share ≤ 10000000 * 10000 := Int.mul_le_mul g2 h4 h3 (by omega)
  have c := fun W => mshare post (min ((minutes + 1439) / 1440 * share) most) W h1 h2 (by omega) (by omega)
  have q1 : minutes + 1440 - 1 = minutes + 1439 := by omega
  unfold lateP
  generalize shareP post (min ((minutes + 1439) / 1440 * share) most) = r at c ⊢
  go_enter Tryz.func84, Tryz.ntmps84
  go_wp2_with fail
  refine (c _).mono ?_
  rintro e w1 ⟨rfl, hb⟩
  go_wp2_with fail
  go_ret
  exact ⟨rfl, (((Below.refl _ _).alloc (Nat.le_refl _) _).alloc (by first | (simp; done) | (simp; omega) | omega) _).trans (hb.mono (by first | (simp; done) | (simp; omega) | omega))⟩
end Go.Proofs.YtnnppnlekpadnaaGreat
