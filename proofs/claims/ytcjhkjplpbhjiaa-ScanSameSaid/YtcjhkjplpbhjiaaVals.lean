/- Contracts of maps.Values at the map of marks, and of its iterator. -/
import Derived.Test.YtcjhkjplpbhjiaaRange
import Derived.RangeFuncFrom
import Derived.RangeFuncBox
import Derived.RangeFuncLeaves
import Derived.RangeFuncBound
import Derived.Shelf.Abstract
import Derived.OwnWalkIn
import Derived.TacticsInMore
import Derived.LoopNIn
import Derived.LoopIn
namespace Go.Proofs.Ytcjhkjplpbhjiaa
open Go.RowKit Go.Proofs
set_option maxRecDepth 100000
attribute [local go_sem] Oper.semAt_some

theorem RangeR.left_eq {κ ν : Type} {ek : κ → Value} {ev : ν → Value} {w : World} {B r : Nat} {l rest : List (κ × ν)} (h : RangeR ek ev w B r l rest) : w.rangeLeft B r = rest.length := by
  obtain ⟨es, clock, since, seen, c0, hb, _, _, _, _, hr, _, _, _, hl⟩ := h
  simp only [World.rangeLeft, hb, hr]
  have := congrArg List.length hl
  simpa using this

set_option maxHeartbeats 2000000 in
theorem values1_in (n : Nat) (hn : 1 ≤ n) (l Bm B : Nat) (d : List (Key2 × Mrk)) (J Jx : List Mrk → World → Prop)
    (hY : ∀ pre x W, J pre W → pre.length < d.length → YieldAt Fence.wide (n - 1) Try.prog l #[.agg #[.int .i64 x.sc, .int .i64 x.at_, .int .i64 x.off]] W fun e W' =>
      (e = .returned (.bool true) ∧ J (pre ++ [x]) W' ∧ KeepsWalks W W') ∨ (e = .returned (.bool false) ∧ Jx (pre ++ [x]) W'))
    (W : World) (hJ : AbidesFrom W.heap.size J) (hm : W.cell? ⟨Bm, 0, none⟩ = some (.map (some B))) (hown : MapR ekey2 emrk W B d) (h0 : J [] W) :
    CallsIn Fence.wide n Try.prog 70 #[.func (.yield l) #[] #[], .pointer (some ⟨Bm, 0, none⟩)] W fun e W' => (∃ v, e = .returned v) ∧
      ((∃ xs, xs.Perm (d.map (·.2)) ∧ J xs W') ∨ (∃ pre, Jx pre W')) := by
  refine callsIn_of_wp Try.func70 rfl trivial ?_ rfl
  simp only [Try.ntmps70, List.size_toArray, List.length_cons, List.length_nil, Nat.reduceAdd, Nat.reduceSub, Array.replicate_succ, Array.replicate_zero, List.push_toArray, List.append_toArray, List.nil_append, List.cons_append]
  have HO := Lib.hid hown
  clear hown
  gi_wp2_with (first | (gi_at_range; refine wpListIn_rangeR _ rfl _ _ rfl Try.underlying100 rfl HO.out ?_; intro w0 hrg0 hg0 hs0) | gi_in)
  go_frame
  have S0 := Lib.hid hs0
  clear hs0
  gi_loopw [4] (fun _ wr => ∃ (left : List (Key2 × Mrk)) (dn : List Mrk), RangeR ekey2 emrk wr B W.heap.size d left ∧ (dn ++ left.map (·.2)).Perm (d.map (·.2)) ∧ J dn wr ∧ W.heap.size ≤ wr.heap.size)
    (fun _ wr => wr.rangeLeft B W.heap.size)
  case atStart => exact ⟨d, [], hrg0, by simp, hJ [] W w0 none h0 hg0 (fun r e => by cases e), hg0.size⟩
  case round =>
    obtain ⟨left, dn, hrg, hp, hJs, hsz⟩ := hrel
    have HP := Lib.hid hp
    clear hp
    gi_wp2_with (first | (gi_at_next; refine wpListIn_nextR _ rfl _ rfl rfl hrg ?_ ?_) | gi_in)
    · intro hl0
      subst hl0
      gi_wp2
      go_end0
      exact ⟨⟨_, rfl⟩, .inl ⟨dn, by simpa using HP.out, hJs⟩⟩
    · intro r1 k1 k2 m r2 w2 hl hrg2 hg2 hs2 hen
      have hJ2 : J dn (w2.alloc (.cells #[.int .i64 m.sc, .int .i64 m.at_, .int .i64 m.off] 30)) :=
        hJ dn w2 _ none (hJ dn wr w2 (some W.heap.size) hJs hg2 (fun r e => by cases e; exact ⟨Nat.le_refl _, hrg.iter_walk⟩)) (World.grownBy_alloc _ _ none) (fun r e => by cases e)
      have hlen : dn.length < d.length := by
        have := HP.out.length_eq; rw [hl] at this; simp at this; omega
      obtain ⟨fn, tmps, assign, body, hy, hR⟩ := hY dn m _ hJ2 hlen
      have HRG2 := Lib.hid (hrg2.alloc (.cells #[.int .i64 m.sc, .int .i64 m.at_, .int .i64 m.off] 30))
      have ML := Lib.hid (show wr.rangeLeft B W.heap.size = (r1 ++ ((k1, k2), m) :: r2).length by rw [hrg.left_eq, hl])
      have hsz2 : W.heap.size ≤ w2.heap.size := by omega
      have HL := Lib.hid hl
      clear hl hs2 hrg2 hrg hlen hJ2 hJs hY
      unfold ekey2 emrk at hen
      dsimp only [ekey2, emrk]
      gi_wp2
      clear hen
      refine hR.mono ?_
      rintro e W3 (⟨rfl, hJ3, hk3⟩ | ⟨rfl, hJx3⟩)
      · gi_wp2
        go_roundw
        case rel =>
          refine ⟨_, dn ++ [m], HRG2.out.walks hk3, ?_, hJ3, Nat.le_trans hsz2 (Nat.le_trans (by simp) hk3.size)⟩
          have h1 := HP.out
          rw [HL.out] at h1
          refine List.Perm.trans ?_ h1
          simp only [List.map_append, List.map_cons, List.append_assoc, List.singleton_append]
          exact List.perm_middle.symm.append_left dn
        case measure => rw [(HRG2.out.walks hk3).left_eq, ML.out]; simp
      · gi_wp2
        refine bodyPost_ret (results_none rfl _ _ _) rfl ?_
        exact ⟨⟨_, rfl⟩, .inr ⟨dn ++ [m], hJx3⟩⟩

set_option maxHeartbeats 1000000 in
theorem values_in (n : Nat) (B : Nat) (w : World) : CallsIn Fence.wide n Try.prog 57 #[.map (some B)] w fun e w' => e = .returned (.func (.func 70) #[] #[.pointer (some ⟨w.heap.size, 0, none⟩)]) ∧ w' = w.alloc (.cells #[.map (some B)] 100) := by
  refine callsIn_of_wp Try.func57 rfl trivial ?_ rfl
  simp only [Try.ntmps57, List.size_toArray, List.length_cons, List.length_nil, Nat.reduceAdd, Nat.reduceSub, Array.replicate_succ, Array.replicate_zero, List.push_toArray, List.append_toArray, List.nil_append, List.cons_append]
  gi_wp2
  go_ret
  exact ⟨rfl, rfl⟩

/-- maps.Values(m) yields the values, in some order. -/
theorem values_stops (n : Nat) (hn : 1 ≤ n) (Bm B : Nat) (d : List (Key2 × Mrk)) (w : World) (hBm : Bm < w.heap.size) (hm : w.cell? ⟨Bm, 0, none⟩ = some (.map (some B))) (hown : MapR ekey2 emrk w B d) :
    SeqStopsK Fence.wide n Try.prog 70 #[.pointer (some ⟨Bm, 0, none⟩)] (fun x : Mrk => #[.agg #[.int .i64 x.sc, .int .i64 x.at_, .int .i64 x.off]]) KeepsWalks (fun xs => xs.Perm (d.map (·.2))) (fun _ => True) d.length w := fun l J Jx W hW hJ _ hY h0 =>
  (values1_in n hn l Bm B d J Jx hY W hJ ((hW.cell (p := ⟨Bm, 0, none⟩) hBm).trans hm) (hown.below hown.lt hW) h0).mono fun e W' ⟨he, h⟩ => ⟨he, h.imp id (fun ⟨p, hp⟩ => ⟨p, trivial, hp⟩)⟩
end Go.Proofs.Ytcjhkjplpbhjiaa
