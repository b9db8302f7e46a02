/- The reference's Offset is the scan package's; contract of the reference's Time. -/
import Derived.Test.YtcjhkjplpbhjiaaRefT
namespace Go.Proofs.Ytcjhkjplpbhjiaa
open Go.RowKit Go.Proofs
set_option maxRecDepth 100000

theorem offGo_pick (at_ : Int) : ∀ (F : List Mrk) (out : Int) (last : Mrk) (la : Option Mrk), F.Pairwise (fun x y => x.at_ < y.at_) → (∀ m ∈ F, m.sc ≠ 0) →
    ((la = none ∧ last.sc = 0 ∧ out = 0) ∨ (la = some last ∧ last.sc ≠ 0 ∧ out = last.off)) →
    offGo at_ out last F = refPick ((F.filter fun m => decide (m.at_ ≤ at_)).getLast?.or la) (F.filter fun m => !decide (m.at_ ≤ at_)).head? at_
  | [], out, last, la, _, _, h => by
    rcases h with ⟨rfl, _, rfl⟩ | ⟨rfl, _, rfl⟩ <;> simp [offGo, refPick]
  | m :: r, out, last, la, hp, hs, h => by
    obtain ⟨hm, hr⟩ := List.pairwise_cons.1 hp
    unfold offGo
    by_cases c : at_ ≤ m.at_
    · rw [if_pos c]
      by_cases e : m.at_ = at_
      · have hA : (m :: r).filter (fun m => decide (m.at_ ≤ at_)) = [m] := by
          rw [List.filter_cons_of_pos (by simp; omega), List.filter_eq_nil_iff.2 (fun x hx => by have := hm x hx; simp; omega)]
        have hB : (m :: r).filter (fun m => !decide (m.at_ ≤ at_)) = r := by
          rw [List.filter_cons_of_neg (by simp; omega), List.filter_eq_self.2 (fun x hx => by have := hm x hx; simp; omega)]
        rw [hA, hB, if_pos (.inr e)]
        cases r with
        | nil => simp [refPick]
        | cons b r => simp [refPick, e]
      · have hA : (m :: r).filter (fun m => decide (m.at_ ≤ at_)) = [] :=
          List.filter_eq_nil_iff.2 (fun x hx => by
            rcases List.mem_cons.1 hx with rfl | hx
            · simp; omega
            · have := hm x hx; simp; omega)
        have hB : ((m :: r).filter (fun m => !decide (m.at_ ≤ at_))).head? = some m := by
          rw [List.filter_cons_of_pos (by simp; omega)]; rfl
        rw [hA, hB]
        rcases h with ⟨rfl, h0, rfl⟩ | ⟨rfl, h0, rfl⟩
        · rw [if_pos (.inl h0)]; rfl
        · rw [if_neg (by simp [h0, e])]; rfl
    · rw [if_neg c]
      rw [offGo_pick at_ r m.off m (some m) hr (fun x hx => hs x (by simp [hx])) (.inr ⟨rfl, hs m (by simp), rfl⟩)]
      rw [List.filter_cons_of_pos (p := fun m : Mrk => decide (m.at_ ≤ at_)) (by simp; omega), List.filter_cons_of_neg (p := fun m : Mrk => !decide (m.at_ ≤ at_)) (by simp; omega)]
      congr 1
      rw [List.getLast?_cons]
      cases (r.filter fun m => decide (m.at_ ≤ at_)).getLast? <;> simp

theorem refOff_eq {ms : List Mrk} (hok : okMs ms = true) (sc at_ : Int) : refOff ms sc at_ = offF ms sc at_ := by
  obtain ⟨hp, hm⟩ := okMs_pair hok
  unfold refOff offF aheadL behindL
  have hF : (ms.filter fun m => decide (m.sc = sc)).Pairwise (fun x y => x.at_ < y.at_) := by
    refine (hp.filter _).imp_of_mem ?_
    intro x y hx hy hxy
    have h1 := (List.mem_filter.1 hx).2
    have h2 := (List.mem_filter.1 hy).2
    simp at h1 h2
    have := (ltPl_iff x y).1 hxy
    omega
  have := offGo_pick at_ (ms.filter fun m => decide (m.sc = sc)) 0 ⟨0, 0, 0⟩ none hF (fun m h => by
    have := ((okM_iff m).1 (hm m (List.mem_filter.1 h).1)).1; omega) (.inl ⟨rfl, rfl, rfl⟩)
  rw [this, List.filter_filter, List.filter_filter, Option.or_none]
  congr 2 <;> (apply List.filter_congr; intro x _; rw [Bool.and_comm])

set_option maxHeartbeats 1000000 in
theorem timeRef_any (A : Option Addr) (c : Nat) (ms : List Mrk) (s : Scn) (w : World) (hr : Rd encMrk 3 w A ms) (hlen : ms.length ≤ 1000000) (hok : okMs ms = true) (hS : okS s = true) :
    Calls Try.prog 16 #[.slice A ms.length c, .agg #[.int .i64 s.item, .int .i64 s.place, .int .i64 s.scanner, .int .u8 s.kind, .int .i64 s.at_, .int .i64 s.seen]] w fun e w' => e = .returned (.int .i64 (corrF ms s)) ∧ Below w.heap.size w w' := by
  obtain ⟨-, -, -, -, ⟨q1, q2⟩, q3, q4⟩ := (okS_iff s).1 hS
  obtain ⟨hs, hall⟩ := okMs_pair hok
  have h0 : ∀ m ∈ ms, 0 ≤ m.at_ := fun m hm => by have := ((okM_iff m).1 (hall m hm)).2.1; omega
  obtain ⟨b1, b2⟩ := offGo_bd s.at_ q1 q2 (ms.filter fun m => decide (m.sc = s.scanner)) zeroM (fun m hm => hall m (List.mem_filter.1 hm).1) (.inl rfl) (by decide) (by decide)
  change -4000000000000000000 ≤ offF ms s.scanner s.at_ at b1
  change offF ms s.scanner s.at_ ≤ 4000000000000000000 at b2
  obtain ⟨W, hW⟩ : ∃ W : World, W = w.alloc (.cells #[.int .i64 s.item, .int .i64 s.place, .int .i64 s.scanner, .int .u8 s.kind, .int .i64 s.at_, .int .i64 s.seen] 24) := ⟨_, rfl⟩
  have hb : Below w.heap.size w W := by rw [hW]; exact (Below.refl _ _).alloc (Nat.le_refl _) _
  have hcon := Lib.hid (fun p : Ex W => offsetR_any A c ms s.scanner s.at_ p.W ((hr.below (Nat.le_refl _) hb).below (Nat.le_refl _) p.h) hlen hall ⟨q1, q2⟩)
  rw [refOff_eq hok] at hcon
  have k0 : Blk W w.heap.size #[.int .i64 s.item, .int .i64 s.place, .int .i64 s.scanner, .int .u8 s.kind, .int .i64 s.at_, .int .i64 s.seen] 24 := by rw [hW]; exact Blk.new rfl
  have e0 := exblk k0
  have eC : Hid (corrF ms s = min (max (s.at_ + offF ms s.scanner s.at_) 0) s.seen) := Lib.hid rfl
  generalize offF ms s.scanner s.at_ = f at *
  have w1 : IntKind.i64.wrap (s.at_ + f) = s.at_ + f := IntWalk.i64_in _ (by omega)
  have K0 := Lib.hid k0
  clear hr hok hS h0 hs hall
  go_enter Try.func16, Try.ntmps16
  go_wp2_with fail
  rw [← hW]
  clear hW k0
  (refine wp_region_quiet_ex (by kernel_rfl) (by kernel_rfl) ?_; (repeat (go_big_quiet_step ((go_at_call 38; refine Calls.ex_of (hcon.out _))))); refine wpQuiet_nil ?_; intro wq hw'; obtain ⟨⟨_, hq⟩, hw''⟩ := hw'; subst hw'')
  have kq := (K0.out.below hq K0.out.lt).cells
  have BQ := Lib.hid (hb.trans (hq.mono hb.size))
  clear e0 hcon
  by_cases c1 : s.at_ + f < 0
  · have eR := Lib.hid (show corrF ms s = 0 by rw [eC.out]; omega)
    have c2 : ¬ s.seen < 0 := by omega
    go_wp2_with fail
    go_ret
    exact ⟨by rw [eR.out]; rfl, BQ.out⟩
  · by_cases c2 : s.seen < s.at_ + f
    · have eR := Lib.hid (show corrF ms s = s.seen by rw [eC.out]; omega)
      go_wp2_with fail
      go_ret
      exact ⟨by rw [eR.out]; rfl, BQ.out⟩
    · have eR := Lib.hid (show corrF ms s = s.at_ + f by rw [eC.out]; omega)
      go_wp2_with fail
      go_ret
      exact ⟨by rw [eR.out]; rfl, BQ.out⟩
end Go.Proofs.Ytcjhkjplpbhjiaa
