/- Contracts of slices.AppendSeq and slices.Collect at marks. -/
import Derived.Test.YtcjhkjplpbhjiaaVals
import Derived.Test.YtcjhkjplpbhjiaaRow
import Derived.RangeFuncNested
import Derived.Maps.AppendAt
namespace Go.Proofs.Ytcjhkjplpbhjiaa
open Go.RowKit Go.Proofs
set_option maxRecDepth 100000
attribute [local go_sem] Oper.semAt_some

/-- A block of cells. -/
def Blk (w : World) (n : Nat) (arr : Array Value) (T : TypeId) : Prop := w.heap[n]? = some (.cells arr T (0, 0))
theorem Blk.lt {w : World} {n : Nat} {arr : Array Value} {T : TypeId} (h : Blk w n arr T) : n < w.heap.size := (Array.getElem?_eq_some_iff.1 h).1
theorem Blk.below {w w' : World} {n B : Nat} {arr : Array Value} {T : TypeId} (h : Blk w n arr T) (hb : Below B w w') (hn : n < B) : Blk w' n arr T := (hb.block n hn).trans h
theorem Blk.alloc {w : World} {n : Nat} {arr : Array Value} {T : TypeId} (h : Blk w n arr T) (o : Obj) : Blk (w.alloc o) n arr T := (blk_old o h.lt).trans h
theorem Blk.new {w : World} {n : Nat} {arr : Array Value} {T : TypeId} (h : n = w.heap.size) : Blk (w.alloc (.cells arr T)) n arr T := blk_new h
theorem Blk.cells {w : World} {n : Nat} {arr : Array Value} {T : TypeId} (h : Blk w n arr T) (i : Nat) : w.cell? ⟨n, i, none⟩ = arr[i]? := by
  unfold Blk at h; simp [World.cell?, h]
theorem Blk.free {w : World} {n : Nat} {arr : Array Value} {T : TypeId} (h : Blk w n arr T) (i : Nat) : w.frozen? ⟨n, i, none⟩ = false := by
  unfold Blk at h; simp [World.frozen?, h]
theorem Blk.kept {w w' : World} {n : Nat} {arr : Array Value} {T : TypeId} {row : Option Nat} (h : Blk w n arr T) (hg : w.grownBy w' row) (hne : some n ≠ row) : Blk w' n arr T := (hg.block n h.lt hne).trans h
theorem blk_own {β : Type} (n : Nat) (arr : Array Value) (T : TypeId) : Own (fun (_ : β) W => Blk W n arr T) := fun s X Y row hs hg hrow =>
  hs.kept hg (fun e' => by obtain ⟨o, ho, hc⟩ := hrow n e'.symm; rw [show X.heap[n]? = _ from hs] at ho; cases ho; cases hc)

theorem info_parts2 {P : Program} {t : TypeId} {z : Value} {n m : Nat} (h : (P.info? t).map (fun i => (i.zero, i.size, i.bytes)) = some (some z, n, m)) : ∃ i, P.info? t = some i ∧ i.zero = some z ∧ i.size = n ∧ i.bytes = m := by
  cases hi : P.info? t with
  | none => rw [hi] at h; cases h
  | some i => rw [hi] at h; simp at h; exact ⟨i, rfl, h.1, h.2.1, h.2.2⟩
theorem infoMrk : (Try.prog.info? 30).map (fun i => (i.zero, i.size, i.bytes)) = some (some (.agg #[.int .i64 0, .int .i64 0, .int .i64 0]), 3, 24) := by kernel_rfl

theorem cells_new (w : World) (cs : List Value) (t : TypeId) : ∀ j u, cs[j]? = some u → (w.alloc (.cells cs.toArray t)).cell? ((⟨w.heap.size, 0, none⟩ : Addr).add j) = some u := by
  intro j u hj
  rw [Addr.add_lit, Nat.zero_add]
  have h := blk_new (w := w) (o := .cells cs.toArray t) rfl
  unfold World.cell?
  rw [h]
  simpa using hj

set_option maxHeartbeats 2000000 in
theorem appendSeq_in (n : Nat) (hn : 2 ≤ n) (g : Nat) (lb : Array Value) (eg : ∀ args w, (callFunc g args).run Try.prog w = .ok (.enter g args) w)
    (S : List Mrk → Prop) (N : Nat) (hN : N ≤ 1000000) (w : World) (hseq : SeqStopsK Fence.wide (n - 1) Try.prog g lb (fun x : Mrk => #[.agg #[.int .i64 x.sc, .int .i64 x.at_, .int .i64 x.off]]) KeepsWalks S (fun _ => True) N w) :
    CallsIn Fence.wide n Try.prog 84 #[.slice none 0 0, .func (.func g) #[] lb] w fun e w' => ∃ (v : Value) (xs : List Mrk), e = .returned v ∧ S xs ∧ w'.ownsRow w.heap.size 30 3 v xs.length (xs.flatMap encMrk) ∧ Below w.heap.size w w' := by
  have h1 : 1 ≤ n := by omega
  obtain ⟨i0, hi, hz0, hz1, hz2⟩ := info_parts2 infoMrk
  refine callsIn_of_wp_marks Try.func84 rfl trivial ?_ rfl
  simp only [Try.ntmps84, List.size_toArray, List.length_cons, List.length_nil, Nat.reduceAdd, Nat.reduceSub, Array.replicate_succ, Array.replicate_zero, List.push_toArray, List.append_toArray, List.nil_append, List.cons_append]
  gi_wp2
  have bO := Boxed.new w 22 (.slice none 0 0)
  obtain ⟨W0, hW0⟩ : ∃ W0, w.alloc (.cells #[.slice none 0 0] 22) = W0 := ⟨_, rfl⟩
  have hB0 : Below w.heap.size w W0 := by rw [← hW0]; exact (Below.refl _ w).alloc (Nat.le_refl _) _
  have hs0 : W0.heap.size = w.heap.size + 1 := by rw [← hW0]; simp
  rw [hW0] at bO ⊢
  refine wpIn_rangeFunc_ownH rfl h1 (gf := g) (lb := lb) rfl trivial eg hseq walksK_t walksK_b hB0 (fun _ => rfl)
    (fun pre W => (∃ v, Boxed W w.heap.size 22 v ∧ W.ownsRow w.heap.size 30 3 v pre.length (pre.flatMap encMrk) ∧ True) ∧ Below w.heap.size w W)
    (fun _ _ _ => False)
    (OwnFrom.and (Own.from (holdsRow_own w.heap.size w.heap.size 22 30 3 (fun pre : List Mrk => pre.length) (fun pre => pre.flatMap encMrk) (fun _ _ => True)) _) (ownFrom_below (Nat.le_refl _) (by omega)))
    (fun _ _ _ _ _ hs _ _ => hs)
    ⟨⟨_, bO, World.ownsRow_nil _ _ _ _, trivial⟩, hB0⟩
    (fun x a' W => ∃ Bx, w.heap.size < Bx ∧ Blk W Bx #[.int .i64 x.sc, .int .i64 x.at_, .int .i64 x.off] 30 ∧
      a' = { tmps := #[.slice none 0 0, .func (.func g) #[] lb, .pointer (some ⟨w.heap.size, 0, none⟩), undef, .slice none 0 0, .pointer (some ⟨Bx, 0, none⟩), .func (.func g) #[] lb, .agg #[.int .i64 x.sc, .int .i64 x.at_, .int .i64 x.off], undef, undef, undef, undef, undef], defers := [] })
    (fun x a' s X Y row hs hg hr => by obtain ⟨Bx, h2, h3, h4⟩ := hs; exact ⟨Bx, h2, blk_own (β := Unit) Bx _ _ s X Y row h3 hg (fun r e => (hr r e).2), h4⟩) ?assign ?body ?done ?stop
  case assign =>
    rintro l pre x W K ⟨⟨v, hv, hrow, -⟩, hB⟩ hK
    gi_wp2
    exact hK _ _ ((KeepsOthers.alloc _ _).from _) (KeepsOthers.alloc _ _).walks ⟨⟨v, hv.alloc _, hrow.alloc _, trivial⟩, hB.alloc hB.size _⟩ ⟨W.heap.size, hv.lt, Blk.new rfl, rfl⟩
  case body =>
    rintro l pre x a' W hl ⟨r, hr⟩ ⟨⟨v, hv, hrow, -⟩, hB⟩ ⟨Bx, hBx, hbx, rfl⟩ hlt
    have hc := hv.cell
    have hx := hbx.cells
    have hws := hB.size
    gi_wp2_with (gi_at_builtin; refine wpListIn_append_own _ rfl _ _ 22 rfl w.heap.size 30 i0 _ 3 24 Try.underlying22 hi hz0 hz1 hz2 rfl (by decide) _ _ _ rfl (hrow.alloc _) ⟨W.heap.size, 0, none⟩ 1 1 (encMrk x) rfl rfl (cells_new _ _ _) (fun u hu => by simp [encMrk] at hu; rcases hu with rfl | rfl | rfl <;> rfl) (by unfold maxLen; omega) (by omega) (by simp; omega) ?_; intro v' w1 hown' hgrow _; obtain ⟨g', cap', rfl⟩ := ownsRow_succ hown'; obtain ⟨hv1, hv2, hr2, hk2, hb2⟩ := hv.appended (by decide) hrow hB.size (Nat.le_refl _) hown' hgrow; have hc1 := hv1.cell; have hf1 := hv1.frozen)
    exact ⟨hk2.from _, hk2.walks, ⟨⟨_, hv2, by simpa using hr2, trivial⟩, hB.trans hb2⟩⟩
  case done =>
    rintro D ys W hD hS ⟨⟨v, hv, hrow, -⟩, hB⟩ hK
    have hc := hv.cell
    gi_wp2
    refine ⟨by simp, .inl ⟨_, _, rfl, run_takeDeferred hK, ?_⟩⟩
    exact ⟨_, results_tmp rfl _ _ _, v, ys, rfl, hS, ownsRow_putObj hrow _ hK rfl, hB.trans (belowK_b (w := w) (Nat.le_refl _) W D _ _ (by omega) hK rfl rfl)⟩
  case stop =>
    rintro D c pre W _ _ h _
    exact h.elim

set_option maxHeartbeats 1000000 in
theorem collect_in (n : Nat) (hn : 3 ≤ n) (g : Nat) (lb : Array Value) (eg : ∀ args w, (callFunc g args).run Try.prog w = .ok (.enter g args) w)
    (S : List Mrk → Prop) (N : Nat) (hN : N ≤ 1000000) (w : World) (hseq : SeqStopsK Fence.wide (n - 1 - 1) Try.prog g lb (fun x : Mrk => #[.agg #[.int .i64 x.sc, .int .i64 x.at_, .int .i64 x.off]]) KeepsWalks S (fun _ => True) N w) :
    CallsIn Fence.wide n Try.prog 68 #[.func (.func g) #[] lb] w fun e w' => ∃ (v : Value) (xs : List Mrk), e = .returned v ∧ S xs ∧ w'.ownsRow w.heap.size 30 3 v xs.length (xs.flatMap encMrk) ∧ Below w.heap.size w w' := by
  have hcon := callsIn_wide.1 (appendSeq_in (n - 1) (by omega) g lb eg S N hN w hseq)
  refine callsIn_wide.2 ?_
  go_enter Try.func68, Try.ntmps68
  go_wp2_with (go_at_call 84; refine hcon.mono ?_; rintro e w' ⟨v, xs, rfl, hS, hrow, hb⟩)
  go_ret
  exact ⟨v, xs, rfl, hS, hrow, hb⟩
end Go.Proofs.Ytcjhkjplpbhjiaa
