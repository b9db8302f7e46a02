/- A scanner's marks in a sorted list, and the contract of scan.corrected. -/
import Derived.Test.YtcjhkjplpbhjiaaOffset
namespace Go.Proofs.Ytcjhkjplpbhjiaa
open Go.RowKit Go.Proofs
set_option maxRecDepth 100000

theorem mono_of {ms : List Mrk} (h : ms.Pairwise (fun x y => ltPl x y = true)) (t : Mrk) : Mono ms t := by
  intro a b x y hab hx hy hc
  rw [ltPl_cmp] at hc ⊢
  by_cases e : a = b
  · subst e; rw [hx] at hy; cases hy; exact hc
  · obtain ⟨ha, rfl⟩ := List.getElem?_eq_some_iff.1 hx
    obtain ⟨hb, rfl⟩ := List.getElem?_eq_some_iff.1 hy
    exact ltPl_tr (List.pairwise_iff_getElem.1 h a b ha hb (by omega)) hc

theorem cnt_cons (m : Mrk) (r : List Mrk) (t : Mrk) : cntMrk (m :: r) t = cntMrk r t + (if ltPl m t = true then 1 else 0) := by
  unfold cntMrk
  rw [List.countP_cons]
  have e : decide (cmpPl m t < 0) = ltPl m t := by rw [Bool.eq_iff_iff, decide_eq_true_eq]; exact ltPl_cmp m t
  rw [e]
theorem cnt_zero {ms : List Mrk} {t : Mrk} (h : ∀ m ∈ ms, ltPl m t = false) : cntMrk ms t = 0 := by
  unfold cntMrk
  rw [List.countP_eq_zero]
  intro m hm
  have := h m hm
  rw [decide_eq_true_eq, ltPl_cmp, this]; simp

theorem ofL_filter (sc : Int) : ∀ ms : List Mrk, ms.Pairwise (fun x y => ltPl x y = true) → (∀ m ∈ ms, 0 ≤ m.at_) → ofL ms sc = ms.filter (fun m => decide (m.sc = sc))
  | [], _, _ => rfl
  | m :: r, h, h0 => by
    obtain ⟨h1, h2⟩ := List.pairwise_cons.1 h
    have ih := ofL_filter sc r h2 (fun x hx => h0 x (by simp [hx]))
    have hm0 := h0 m (by simp)
    by_cases hlt : m.sc < sc
    · have e : ltPl m ⟨sc, 0, 0⟩ = true := by rw [ltPl_iff]; exact .inl hlt
      unfold ofL at ih ⊢
      rw [cnt_cons, if_pos e, List.drop_succ_cons, ih, List.filter_cons, if_neg (by simp; omega)]
    · have hz : ∀ x ∈ r, ltPl x ⟨sc, 0, 0⟩ = false := fun x hx => by
        have := h1 x hx
        rw [ltPl_iff] at this
        have := h0 x (by simp [hx])
        rw [ltPl_false]; dsimp only; omega
      have e : ltPl m ⟨sc, 0, 0⟩ = false := by rw [ltPl_false]; dsimp only; omega
      have c0 := cnt_zero hz
      unfold ofL at ih ⊢
      rw [cnt_cons, c0, e]
      rw [c0, List.drop_zero] at ih
      simp only [Bool.false_eq_true, if_false, List.drop_zero, Nat.add_zero]
      by_cases heq : m.sc = sc
      · rw [List.takeWhile_cons, List.filter_cons, if_pos (by simpa using heq), if_pos (by simpa using heq), ih]
      · rw [List.takeWhile_cons, List.filter_cons, if_neg (by simpa using heq), if_neg (by simpa using heq)]
        symm
        rw [List.filter_eq_nil_iff]
        intro x hx
        have := h1 x hx
        rw [ltPl_iff] at this
        simp; omega

theorem offGo_bd (at_ : Int) (ha : 0 ≤ at_) (hb : at_ ≤ 1051898399) : ∀ (zs : List Mrk) (l : Mrk), (∀ m ∈ zs, okM m = true) → (l.sc = 0 ∨ (0 ≤ l.at_ ∧ l.at_ < at_)) → -1051898399 ≤ l.off → l.off ≤ 1051898399 → -4000000000000000000 ≤ offGo at_ l.off l zs ∧ offGo at_ l.off l zs ≤ 4000000000000000000
  | [], l, _, _, h1, h2 => by show _ ≤ l.off ∧ l.off ≤ _; omega
  | m :: r, l, hok, hl, h1, h2 => by
    have hm := hok m (by simp)
    have hm2 : (1 ≤ m.sc ∧ m.sc ≤ 999999) ∧ (0 ≤ m.at_ ∧ m.at_ ≤ 1051898399) ∧ (-1051898399 ≤ m.off ∧ m.off ≤ 1051898399) := by simpa [okM, inB, and_assoc] using hm
    obtain ⟨-, ⟨q1, q2⟩, q3, q4⟩ := hm2
    show _ ≤ (if at_ ≤ m.at_ then _ else _) ∧ (if at_ ≤ m.at_ then _ else _) ≤ _
    by_cases h3 : at_ ≤ m.at_
    · rw [if_pos h3]
      by_cases h4 : l.sc = 0 ∨ m.at_ = at_
      · rw [if_pos h4]; omega
      · rw [if_neg h4]
        have h5 := hl.resolve_left (fun h => h4 (.inl h))
        have h6 : m.at_ ≠ at_ := fun h => h4 (.inr h)
        obtain ⟨p1, p2⟩ := prod_bd (m.off - l.off) (at_ - l.at_) (by omega) (by omega) (by omega) (by omega)
        obtain ⟨p3, p4⟩ := quo_bd _ (m.at_ - l.at_) (by omega) p1 p2
        omega
    · rw [if_neg h3]
      exact offGo_bd at_ ha hb r m (fun x hx => hok x (by simp [hx])) (.inr (by omega)) q3 q4

set_option maxHeartbeats 1000000 in
theorem corrected_any (A : Option Addr) (c : Nat) (ms : List Mrk) (s : Scn) (w : World) (hr : Rd encMrk 3 w A ms) (hlen : ms.length ≤ 1000000) (hs : ms.Pairwise (fun x y => ltPl x y = true)) (hok : ∀ m ∈ ms, okM m = true) (hS : okS s = true) :
    Calls Try.prog 37 #[.slice A ms.length c, .agg #[.int .i64 s.item, .int .i64 s.place, .int .i64 s.scanner, .int .u8 s.kind, .int .i64 s.at_, .int .i64 s.seen]] w fun e w' => e = .returned (.int .i64 (corrF ms s)) ∧ Below w.heap.size w w' := by
  obtain ⟨-, -, -, -, ⟨q1, q2⟩, q3, q4⟩ := (okS_iff s).1 hS
  have h0 : ∀ m ∈ ms, 0 ≤ m.at_ := fun m hm => by
    have := hok m hm
    simp only [okM, inB, Bool.and_eq_true, decide_eq_true_eq] at this; omega
  have hO : offGo s.at_ 0 zeroM (ofL ms s.scanner) = offF ms s.scanner s.at_ := by
    rw [ofL_filter s.scanner ms hs h0]; rfl
  obtain ⟨b1, b2⟩ := offGo_bd s.at_ q1 q2 (ofL ms s.scanner) zeroM (fun m hm => by
    rw [ofL_filter s.scanner ms hs h0] at hm
    exact hok m (List.mem_filter.1 hm).1) (.inl rfl) (by decide) (by decide)
  obtain ⟨W, hW⟩ : ∃ W : World, W = w.alloc (.cells #[.int .i64 s.item, .int .i64 s.place, .int .i64 s.scanner, .int .u8 s.kind, .int .i64 s.at_, .int .i64 s.seen] 24) := ⟨_, rfl⟩
  have hb : Below w.heap.size w W := by rw [hW]; exact (Below.refl _ _).alloc (Nat.le_refl _) _
  have hcon := Lib.hid (fun p : Ex W => offset_any A c ms s.scanner s.at_ p.W ((hr.below (Nat.le_refl _) hb).below (Nat.le_refl _) p.h) hlen (mono_of hs _) hok q1 q2)
  have e0 := exblk (W := W) (n := w.heap.size) (arr := #[.int .i64 s.item, .int .i64 s.place, .int .i64 s.scanner, .int .u8 s.kind, .int .i64 s.at_, .int .i64 s.seen]) (T := 24) (fr := (0, 0)) (by rw [hW]; exact blk_new rfl)
  have eC : Hid (corrF ms s = min (max (s.at_ + offGo s.at_ 0 zeroM (ofL ms s.scanner)) 0) s.seen) := Lib.hid (by rw [hO]; rfl)
  change -4000000000000000000 ≤ offGo s.at_ 0 zeroM (ofL ms s.scanner) at b1
  change offGo s.at_ 0 zeroM (ofL ms s.scanner) ≤ 4000000000000000000 at b2
  generalize offGo s.at_ 0 zeroM (ofL ms s.scanner) = f at *
  have w1 : IntKind.i64.wrap (s.at_ + f) = s.at_ + f := IntWalk.i64_in _ (by omega)
  clear hr hs hok hS h0 hO
  go_enter Try.func37, Try.ntmps37
  go_wp2_with fail
  rw [← hW]
  have HW := Lib.hid hW
  clear hW
  (refine wp_region_quiet_ex (by kernel_rfl) (by kernel_rfl) ?_; (repeat (go_big_quiet_step ((go_at_call 51; refine Calls.ex_of (hcon.out _))))); refine wpQuiet_nil ?_; intro wq hw'; obtain ⟨⟨_, hq⟩, hw''⟩ := hw'; subst hw'')
  go_wp2_with fail
  go_ret
  exact ⟨by rw [eC.out]; rfl, hb.trans (hq.mono hb.size)⟩
end Go.Proofs.Ytcjhkjplpbhjiaa
