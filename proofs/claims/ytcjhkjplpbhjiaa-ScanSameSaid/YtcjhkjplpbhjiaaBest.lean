/- Contract of scan.best. -/
import Derived.Test.YtcjhkjplpbhjiaaKeys
namespace Go.Proofs.Ytcjhkjplpbhjiaa
open Go.RowKit Go.Proofs Go.Sort
set_option maxRecDepth 100000

theorem ltOff_cmp (x y : Mrk) : (cmpOff x y < 0) ↔ ltOff x y = true := cmpL_lt _ _ rfl
theorem ltPl_cmp (x y : Mrk) : (cmpPl x y < 0) ↔ ltPl x y = true := cmpL_lt _ _ rfl
theorem ltEv_cmp (x y : Evt) : (cmpEv x y < 0) ↔ ltEv x y = true := cmpL_lt _ _ rfl

theorem grownBy_refl (w : World) (r : Option Nat) : w.grownBy w r := ⟨rfl, rfl, rfl, Nat.le_refl _, fun _ _ _ => rfl⟩
theorem grownBy_of_below {w w' : World} (h : Below w.heap.size w w') (r : Option Nat) : w.grownBy w' r := ⟨h.os, h.tape, h.output, h.size, fun i hi _ => h.block i hi⟩

theorem bcell {W w1 : World} (hb : Below W.heap.size W w1) : (∀ b o, b < W.heap.size → w1.cell? ⟨b, o, none⟩ = W.cell? ⟨b, o, none⟩) ∧ (∀ b o, b < W.heap.size → w1.frozen? ⟨b, o, none⟩ = W.frozen? ⟨b, o, none⟩) :=
  ⟨fun b o h => hb.cell (p := ⟨b, o, none⟩) h, fun b o h => hb.frozen (p := ⟨b, o, none⟩) h⟩

set_option maxHeartbeats 1000000 in
theorem best_any (B : Nat) (d : List (Key2 × Mrk)) (k : Key2) (m : Mrk) (w : World) (h : MapR ekey2 emrk w B d) : Calls Try.prog 55 #[.map (some B), .agg #[.int .i64 k.1, .int .i64 k.2], .agg #[.int .i64 m.sc, .int .i64 m.at_, .int .i64 m.off]] w fun e w' => e = .returned (.tuple #[]) ∧ MapR ekey2 emrk w' B (bestL d k m) ∧ w.grownBy w' (some B) := by
  have M := Lib.hid ((h.alloc (.cells #[.int .i64 k.1, .int .i64 k.2] 102)).alloc (.cells #[.int .i64 m.sc, .int .i64 m.at_, .int .i64 m.off] 30))
  have hlt := h.lt
  cases hg : getL d k with
  | none =>
    have e : bestL d k m = putL d k m := by unfold bestL; rw [hg]
    rw [e]; clear e h
    have HG := Lib.hid hg
    clear hg
    go_enter Try.func55, Try.ntmps55
    go_wp2_with (first | (at_lookup; refine wpList_look rfl _ _ _ true rfl M.out key2 Try.underlying100 Try.zeroValue30 k rfl rfl HG.out ?_) | (refine wpList_update rfl _ _ _ _ rfl (M.out.alloc _) key2 Try.underlying100 k m rfl rfl rfl ?_; intro w1 hm1 hg1))
    go_end0
    refine ⟨rfl, hm1, (grownBy_of_below ((((Below.refl _ w).alloc (Nat.le_refl _) _).alloc (by simp) _).alloc (by simp; omega) _) _).trans hg1⟩
  | some old =>
    have BO := Lib.hid (fun W => byOff_any m old W)
    have HG := Lib.hid hg
    clear hg h
    have LO := Lib.hid (ltOff_cmp m old)
    by_cases hl : cmpOff m old < 0
    · have e : bestL d k m = putL d k m := by unfold bestL; rw [HG.out]; exact if_pos (LO.out.1 hl)
      rw [e]; clear e
      go_enter Try.func55, Try.ntmps55
      go_wp2_with (at_lookup; refine wpList_look rfl _ _ _ true rfl M.out key2 Try.underlying100 Try.zeroValue30 k rfl rfl HG.out ?_; dsimp only [Option.map, Option.getD, Option.isSome, emrk, if_true])
      refine (BO.out _).mono ?_
      rintro e w1 ⟨rfl, hq⟩
      have hb1 := grown_below hq
      clear hq
      have B1 := Lib.hid (((((Below.refl _ w).alloc (Nat.le_refl _) _).alloc (by simp) _).alloc (by simp; omega) _).trans (hb1.mono (by simp; omega)))
      have M1 := Lib.hid ((M.out.alloc (.cells #[.int .i64 old.sc, .int .i64 old.at_, .int .i64 old.off] 30)).below (by simp; omega) hb1)
      obtain ⟨c0, c1⟩ := bcell hb1
      clear hb1
      go_wp2_with (refine wpList_update rfl _ _ _ _ rfl M1.out key2 Try.underlying100 k m rfl rfl rfl ?_; intro w2 hm2 hg2)
      go_end0
      exact ⟨rfl, hm2, (grownBy_of_below B1.out _).trans hg2⟩
    · have e : bestL d k m = d := by unfold bestL; rw [HG.out]; exact if_neg (fun h => hl (LO.out.2 h))
      rw [e]; clear e
      go_enter Try.func55, Try.ntmps55
      go_wp2_with (at_lookup; refine wpList_look rfl _ _ _ true rfl M.out key2 Try.underlying100 Try.zeroValue30 k rfl rfl HG.out ?_; dsimp only [Option.map, Option.getD, Option.isSome, emrk, if_true])
      refine (BO.out _).mono ?_
      rintro e w1 ⟨rfl, hq⟩
      have hb1 := grown_below hq
      clear hq
      have B1 := Lib.hid (((((Below.refl _ w).alloc (Nat.le_refl _) _).alloc (by simp) _).alloc (by simp; omega) _).trans (hb1.mono (by simp; omega)))
      have M1 := Lib.hid ((M.out.alloc (.cells #[.int .i64 old.sc, .int .i64 old.at_, .int .i64 old.off] 30)).below (by simp; omega) hb1)
      obtain ⟨c0, c1⟩ := bcell hb1
      clear hb1
      go_wp2_with fail
      go_end0
      exact ⟨rfl, M1.out, grownBy_of_below B1.out _⟩
end Go.Proofs.Ytcjhkjplpbhjiaa
