/- Contracts of the closures in claim.decide's table. -/
import Derived.Test.YtnnppnlekpadnaaGreatIdx
import Derived.Test.YtnnppnlekpadnaaGreatMoney
namespace Go.Proofs.YtnnppnlekpadnaaGreat
open Go.RowKit Go.Proofs
set_option maxRecDepth 100000

/-- A block of cells. -/
def Blk (w : World) (n : Nat) (arr : Array Value) (T : TypeId) : Prop := w.heap[n]? = some (.cells arr T (0, 0))
theorem Blk.lt {w : World} {n : Nat} {arr : Array Value} {T : TypeId} (h : Blk w n arr T) : n < w.heap.size := (Array.getElem?_eq_some_iff.1 h).1
theorem Blk.below {w w' : World} {n B : Nat} {arr : Array Value} {T : TypeId} (h : Blk w n arr T) (hb : Below B w w') (hn : n < B) : Blk w' n arr T := (hb.block n hn).trans h
theorem Blk.alloc {w : World} {n : Nat} {arr : Array Value} {T : TypeId} (h : Blk w n arr T) (o : Obj) : Blk (w.alloc o) n arr T := (blk_old o h.lt).trans h
theorem Blk.new {w : World} {n : Nat} {arr : Array Value} {T : TypeId} (h : n = w.heap.size) : Blk (w.alloc (.cells arr T)) n arr T := blk_new h
theorem Blk.cells {w : World} {n : Nat} {arr : Array Value} {T : TypeId} (h : Blk w n arr T) (i : Nat) : w.cell? ⟨n, i, none⟩ = arr[i]? := by
  unfold Blk at h; simp [World.cell?, h]
theorem Blk.free {w : World} {n : Nat} {arr : Array Value} {T : TypeId} (h : Blk w n arr T) (i : Nat) : w.frozen? ⟨n, i, none⟩ = false := by
  unfold Blk at h; simp [World.frozen?, h]

theorem zero_any (w : World) : Calls Tryz.prog 72 #[] w fun e w' => e = .returned (.int .i64 0) ∧ w = w' := by
  go_enter Tryz.func72, Tryz.ntmps72
  go_wp2
  go_ret
  exact ⟨rfl, rfl⟩

section
variable {w : World} {B7 B11 B12 B15 B16 B17 : Nat} {x : Sent} {y : Terms} {c : Clm} {p : Int} {late there : Bool}
variable (h7 : ∀ i, w.cell? ⟨B7, i, none⟩ = #[Value.int .i64 c.id, .int .i64 c.item, .int .i64 c.at_, .int .u8 c.kind, .int .i64 c.post, .int .i64 c.val][i]?)
variable (h11 : ∀ i, w.cell? ⟨B11, i, none⟩ = #[Value.int .i64 x.item, .int .u8 x.cl, .int .i64 x.fr, .int .i64 x.to, .int .i64 x.acc, .int .i64 x.del][i]?)
variable (h12 : ∀ i, w.cell? ⟨B12, i, none⟩ = #[Value.int .i64 p][i]?)
variable (h15 : ∀ i, w.cell? ⟨B15, i, none⟩ = #[Value.int .u8 y.cl, .int .i64 y.free, .int .i64 y.share, .int .i64 y.most, .int .i64 y.after, .int .i64 y.limit, .int .i64 y.wi][i]?)
variable (h16 : ∀ i, w.cell? ⟨B16, i, none⟩ = #[Value.bool there][i]?)
variable (h17 : ∀ i, w.cell? ⟨B17, i, none⟩ = #[Value.bool late][i]?)
variable (bc : 0 ≤ c.at_ ∧ c.at_ ≤ 1051898399) (bp : 0 ≤ p ∧ p ≤ 1051900000) (bw : 0 ≤ y.wi ∧ y.wi ≤ 3650) (bd : -1 ≤ x.del ∧ x.del ≤ 1051898399)
include h7 h12 h15 bc bp bw in
theorem row0 : Calls Tryz.prog 77 #[.pointer (some ⟨B7, 0, none⟩), .pointer (some ⟨B12, 0, none⟩), .pointer (some ⟨B15, 0, none⟩)] w fun e w' => e = .returned (.bool (decide (y.wi * 1440 < c.at_ - p))) ∧ w = w' := by
  obtain ⟨bc1, bc2⟩ := bc
  obtain ⟨bp1, bp2⟩ := bp
  obtain ⟨bw1, bw2⟩ := bw
  go_enter Tryz.func77, Tryz.ntmps77
  go_wp2
  go_ret
  exact ⟨rfl, rfl⟩
include h16 h17 in
theorem row1 : Calls Tryz.prog 78 #[.pointer (some ⟨B17, 0, none⟩), .pointer (some ⟨B16, 0, none⟩)] w fun e w' => e = .returned (.bool (late && !there)) ∧ w = w' := by
  cases late <;>
  · go_enter Tryz.func78, Tryz.ntmps78
    go_wp2
    go_ret
    exact ⟨rfl, rfl⟩
include h11 h12 h15 h17 bp bd in
theorem row2 : Calls Tryz.prog 79 #[.pointer (some ⟨B17, 0, none⟩), .pointer (some ⟨B11, 0, none⟩), .pointer (some ⟨B12, 0, none⟩), .pointer (some ⟨B15, 0, none⟩)] w fun e w' => e = .returned (.bool (late && decide (x.del - p ≤ y.free))) ∧ w = w' := by
  obtain ⟨bp1, bp2⟩ := bp
  obtain ⟨bd1, bd2⟩ := bd
  cases late <;>
  · go_enter Tryz.func79, Tryz.ntmps79
    go_wp2
    go_ret
    exact ⟨rfl, rfl⟩
include h16 h17 in
theorem row3 : Calls Tryz.prog 80 #[.pointer (some ⟨B17, 0, none⟩), .pointer (some ⟨B16, 0, none⟩)] w fun e w' => e = .returned (.bool (!late && there)) ∧ w = w' := by
  cases late <;>
  · go_enter Tryz.func80, Tryz.ntmps80
    go_wp2
    go_ret
    exact ⟨rfl, rfl⟩
include h7 h12 h15 h17 bp bc in
theorem row4 : Calls Tryz.prog 81 #[.pointer (some ⟨B17, 0, none⟩), .pointer (some ⟨B7, 0, none⟩), .pointer (some ⟨B12, 0, none⟩), .pointer (some ⟨B15, 0, none⟩)] w fun e w' => e = .returned (.bool (!late && decide (c.at_ - p ≤ y.after))) ∧ w = w' := by
  obtain ⟨bp1, bp2⟩ := bp
  obtain ⟨bc1, bc2⟩ := bc
  cases late <;>
  · go_enter Tryz.func81, Tryz.ntmps81
    go_wp2
    go_ret
    exact ⟨rfl, rfl⟩
include h17 in
theorem row5 : Calls Tryz.prog 82 #[.pointer (some ⟨B17, 0, none⟩)] w fun e w' => e = .returned (.bool late) ∧ w = w' := by
  go_enter Tryz.func82, Tryz.ntmps82
  go_wp2
  go_ret
  exact ⟨rfl, rfl⟩
include h7 h11 h12 h15 bp bd in
theorem cents5 (q1 : 0 ≤ c.post) (q2 : c.post ≤ 1000000000000000) (q3 : 0 ≤ y.share) (q4 : y.share ≤ 10000) (q5 : 0 ≤ y.most) (q6 : y.most ≤ 10000) (q7 : 0 ≤ x.del - p - y.free) (q8 : 0 ≤ y.free ∧ y.free ≤ 100000) :
    Calls Tryz.prog 83 #[.pointer (some ⟨B15, 0, none⟩), .pointer (some ⟨B7, 0, none⟩), .pointer (some ⟨B11, 0, none⟩), .pointer (some ⟨B12, 0, none⟩)] w fun e w' => e = .returned (.int .i64 (lateP y.share y.most c.post (x.del - p - y.free))) ∧ Below w.heap.size w w' := by
  obtain ⟨bp1, bp2⟩ := bp
  obtain ⟨bd1, bd2⟩ := bd
  obtain ⟨q8, q9⟩ := q8
  have hl := late_any y.cl y.free y.share y.most y.after y.limit y.wi c.id c.item c.at_ c.kind c.post c.val (x.del - p - y.free) w q1 q2 q3 q4 q5 q6 q7 (by omega)
  generalize lateP y.share y.most c.post (x.del - p - y.free) = r at hl ⊢
  go_enter Tryz.func83, Tryz.ntmps83
  go_wp2_with fail
  refine hl.mono ?_
  rintro e w1 ⟨rfl, hb⟩
  go_wp2_with fail
  go_ret
  exact ⟨rfl, hb⟩
end
end Go.Proofs.YtnnppnlekpadnaaGreat
