/- The statement ClaimLater, of slices that read as lists. -/
import Derived.Test.YtnnppnlekpadnaaGreatLaterP
import Derived.Test.YtnnppnlekpadnaaGreatRight
namespace Go.Proofs.YtnnppnlekpadnaaGreat
open Go.RowKit Go.Proofs
set_option maxRecDepth 100000

theorem Blk.set {w : World} {n : Nat} {arr : Array Value} {T : TypeId} (h : Blk w n arr T) (i : Nat) (v : Value) : Blk (w.setCell ⟨n, i, none⟩ v) n (arr.setIfInBounds i v) T := by
  unfold Blk at *
  unfold World.setCell
  have hlt := (Array.getElem?_eq_some_iff.1 h).1
  simp [Array.getElem?_modify, h]

theorem rd_set5 {w : World} {g n : Nat} {x : Sent} {s : List Sent} {v : Int} (hn : (x :: s).length = n) (h : ∀ t, t < n * 6 → w.cell? ⟨g, 0 + t, none⟩ = ((x :: s).flatMap encSent)[t]?) (hlt : g < w.heap.size) :
    Rd encSent 6 (w.setCell ⟨g, 5, none⟩ (.int .i64 v)) (some ⟨g, 0, none⟩) ({ x with del := v } :: s) := fun _ => by
  refine ⟨g, 0, rfl, ?_, fun j y hj i u hi => ?_⟩
  · exact Nat.lt_of_lt_of_le hlt ((Below.refl 0 w).setCell (p := ⟨g, 5, none⟩) (Nat.zero_le _) (.int .i64 v)).size
  · have hik : i < 6 := by
      rcases Nat.lt_or_ge i 6 with h | h
      · exact h
      · rw [List.getElem?_eq_none (by simp [encSent]; omega)] at hi; cases hi
    have hjl : j < n := by
      rw [← hn]
      rcases Nat.lt_or_ge j (x :: s).length with h | h
      · exact h
      · rw [List.getElem?_eq_none (by simpa using h)] at hj; cases hj
    have hb : j * 6 + i < n * 6 := by omega
    have old := h (j * 6 + i) hb
    cases j with
    | zero =>
      simp at hj; subst hj
      rw [flat_get (enc := encSent) (k := 6) (fun _ => rfl) (x :: s) 0 i x rfl hik] at old
      by_cases e : i = 5
      · subst e
        simp [encSent] at hi old
        subst hi
        exact World.cell?_setCell_same _ _ _ (u := .int .i64 x.del) (by simpa using old)
      · rw [World.cell?_setCell_other _ _ _ _ (by simp only [ne_eq, Addr.mk.injEq, true_and, and_true]; omega)]
        rw [show (0 : Nat) + 0 * 6 + i = 0 + (0 * 6 + i) by omega, old, ← hi]
        have h5 : i < 5 := by omega
        clear hi old hb hik e
        match i, h5 with
        | 0, _ | 1, _ | 2, _ | 3, _ | 4, _ => rfl
    | succ j =>
      rw [flat_get (enc := encSent) (k := 6) (fun _ => rfl) (x :: s) (j + 1) i y (by simpa using hj) hik, hi] at old
      rw [World.cell?_setCell_other _ _ _ _ (by simp only [ne_eq, Addr.mk.injEq, true_and, and_true]; omega), Nat.add_assoc]
      exact old

theorem run_max4 {P : Program} {w : World} (ts : Array TypeId) (t : TypeId) (x y z u : Int) : ∃ m : Int, (Builtin.max_ ts t #[.int .i64 x, .int .i64 y, .int .i64 z, .int .i64 u]).run P w = .ok (.int .i64 m) w ∧ (m ≤ 60 ↔ x ≤ 60 ∧ y ≤ 60 ∧ z ≤ 60 ∧ u ≤ 60) := by
  refine ⟨if u > (if z > (if y > x then y else x) then z else (if y > x then y else x)) then u else (if z > (if y > x then y else x) then z else (if y > x then y else x)), rfl, ?_⟩
  repeat' split
  all_goals omega

theorem few_any (A B C D : Option Addr) (a b c d ca cb cc cd : Nat) (w : World) :
    Calls Tryz.prog 14 #[.slice A a ca, .slice B b cb, .slice C c cc, .slice D d cd] w fun e w' => e = .returned (.bool (decide (a ≤ 60 ∧ b ≤ 60 ∧ c ≤ 60 ∧ d ≤ 60))) ∧ w = w' := by
  obtain ⟨m, hm, hm2⟩ := run_max4 (P := Tryz.prog) (w := w) #[3, 3, 3, 3] 3 a b c d
  have e : decide (a ≤ 60 ∧ b ≤ 60 ∧ c ≤ 60 ∧ d ≤ 60) = decide (m ≤ 60) := decide_eq_decide.2 (by omega)
  rw [e]; clear e hm2
  go_enter Tryz.func14, Tryz.ntmps14
  go_wp2_with fail
  go_ret
  exact ⟨rfl, rfl⟩

set_option maxHeartbeats 40000000 in
theorem ClaimLater_any (HA : ∀ w : World, Calls Tryz.prog 10 #[] w fun e w' => e = .returned (.bool true) ∧ Below w.heap.size w w')
    (Al : Option Addr) (ca : Nat) (l : List Std) (At : Option Addr) (cb : Nat) (t : List Terms) (As : Option Addr) (cc : Nat) (s : List Sent) (c : Clm) (later : Int) (w : World)
    (hl : Rd encStd 4 w Al l) (ht : Rd encTerms 7 w At t) (hs : Rd encSent 6 w As s) :
    Calls Tryz.prog 4 #[.slice Al l.length ca, .slice At t.length cb, .slice As s.length cc, .agg #[.int .i64 c.id, .int .i64 c.item, .int .i64 c.at_, .int .u8 c.kind, .int .i64 c.post, .int .i64 c.val], .int .i64 later] w fun e w' => e = .returned (.bool true) ∧ Below w.heap.size w w' := by
  have HA := Lib.hid HA
  have FW := fun W => few_any Al At As none l.length t.length s.length 0 ca cb cc 0 W
  by_cases hn : l.length ≤ 60 ∧ t.length ≤ 60 ∧ s.length ≤ 60
  · have e : decide (l.length ≤ 60 ∧ t.length ≤ 60 ∧ s.length ≤ 60 ∧ 0 ≤ 60) = true := by simp; omega
    simp only [e] at FW
    have FW := Lib.hid FW
    clear e
    cases s with
    | nil =>
      clear hl ht hs hn
      generalize l.length = nl at *
      generalize t.length = nt at *
      simp only [List.length_nil] at FW ⊢
      go_enter Tryz.func4, Tryz.ntmps4
      go_wp2_with fail
      refine (HA.out _).mono ?_
      rintro e w1 ⟨rfl, hb⟩
      go_wp2_with fail
      refine (FW.out _).mono ?_
      rintro e w2 ⟨rfl, rfl⟩
      go_wp2_with fail
      go_ret
      exact ⟨rfl, ((Below.refl _ _).alloc (Nat.le_refl _) _).trans (hb.mono (by first | (simp; done) | (simp; omega) | omega))⟩
    | cons x s =>
      by_cases hx : 0 ≤ x.del
      · obtain ⟨C, hC⟩ : ∃ C : Clm, C = { c with item := x.item } := ⟨_, rfl⟩
        have nl : l.length ≤ 1000000 := by omega
        have nt : t.length ≤ 1000000 := by omega
        have ns : (x :: s).length ≤ 1000000 := by omega
        have HL := Lib.hid hl
        have HT := Lib.hid ht
        have HS := Lib.hid hs
        have D1 := Lib.hid (fun (W : World) (h : Below w.heap.size w W) => Decide_any Al At As ca cb cc l t (x :: s) C W (hl.below (Nat.le_refl _) h) (ht.below (Nat.le_refl _) h) (hs.below (Nat.le_refl _) h) nl nt ns)
        have nl1 := nl
        have q1 : (((x :: s).length : Int) == 0) = false := by simp; omega
        have q2 : decide (x.del < 0) = false := by simp; omega
        have nsb := ns
        clear hl ht hs hn nl ns
        generalize hns : (x :: s).length = ns at *
        have hns' : 0 < ns := by rw [← hns]; simp
        go_enter Tryz.func4, Tryz.ntmps4
        go_wp2_with fail
        obtain ⟨W0, hW0⟩ : ∃ W : World, W = w.alloc (.cells #[.int .i64 c.id, .int .i64 c.item, .int .i64 c.at_, .int .u8 c.kind, .int .i64 c.post, .int .i64 c.val] 31) := ⟨_, rfl⟩
        rw [← hW0]
        have b0 : Below w.heap.size w W0 := by rw [hW0]; exact (Below.refl _ _).alloc (Nat.le_refl _) _
        have k0 : Blk W0 w.heap.size #[.int .i64 c.id, .int .i64 c.item, .int .i64 c.at_, .int .u8 c.kind, .int .i64 c.post, .int .i64 c.val] 31 := by rw [hW0]; exact Blk.new rfl
        clear hW0
        refine (HA.out _).mono ?_
        rintro e w1 ⟨rfl, hb⟩
        replace k0 := k0.below hb k0.lt
        replace b0 := b0.trans (hb.mono b0.size)
        clear hb
        go_wp2_with fail
        refine (FW.out _).mono ?_
        rintro e w2 ⟨rfl, rfl⟩
        obtain ⟨b, o, rfl, hbl, hl⟩ := (HS.out.below (Nat.le_refl _) b0).at (show (x :: s)[0]? = some x from rfl)
        simp only [Nat.zero_mul, Nat.add_zero] at hl
        have hl0 := hl 0 _ rfl; have hl1 := hl 1 _ rfl; have hl2 := hl 2 _ rfl; have hl3 := hl 3 _ rfl; have hl4 := hl 4 _ rfl; have hl5 := hl 5 _ rfl; rw [Nat.add_zero] at hl0; clear hl
        have kc := k0.cells
        have kf := k0.free
        have k1 : Blk (w1.setCell ⟨w.heap.size, 1, none⟩ (.int .i64 x.item)) w.heap.size #[.int .i64 c.id, .int .i64 x.item, .int .i64 c.at_, .int .u8 c.kind, .int .i64 c.post, .int .i64 c.val] 31 := k0.set 1 _
        have b1 := b0.setCell (p := ⟨w.heap.size, 1, none⟩) (Nat.le_refl _) (.int .i64 x.item)
        have d1 := D1.out _ b1
        rw [hC] at d1
        go_wp2_with fail
        obtain ⟨A, hA⟩ : ∃ A, A = deciP l t (x :: s) { c with item := x.item } := ⟨_, rfl⟩
        rw [← hA] at d1
        have HA2 := Lib.hid hA
        clear hA k0 kc kf hl0 hl1 hl2 hl3 hl4 hl5
        obtain ⟨⟨ai, ac, av⟩, ae⟩ := A
        simp only at d1
        generalize w1.setCell ⟨w.heap.size, 1, none⟩ (.int .i64 x.item) = w3 at *
        refine d1.mono ?_
        rintro e w4 ⟨rfl, hb4⟩
        replace k1 := k1.below hb4 k1.lt
        replace b1 := b1.trans (hb4.mono b1.size)
        clear d1 hb4
        by_cases h0 : ae = 0
        · have F := deciP_later (c := { c with item := x.item }) rfl (by rw [← HA2.out]; exact h0)
          rw [← HA2.out] at F
          subst h0
          obtain ⟨F, F2, F3⟩ := F
          have F := Lib.hid F
          have F3 := Lib.hid F3
          go_wp2_with fail
          have k2 : Blk (w4.alloc (.cells #[.int .i64 ai, .int .i64 ac, .int .u8 av] 36)) w4.heap.size #[.int .i64 ai, .int .i64 ac, .int .u8 av] 36 := Blk.new rfl
          replace k1 := k1.alloc (.cells #[.int .i64 ai, .int .i64 ac, .int .u8 av] 36)
          replace b1 := b1.alloc b1.size (.cells #[.int .i64 ai, .int .i64 ac, .int .u8 av] 36)
          generalize w4.alloc (.cells #[.int .i64 ai, .int .i64 ac, .int .u8 av] 36) = w5 at *
          generalize w4.heap.size = BA at *
          have K1 := Lib.hid k1
          have K2 := Lib.hid k2
          have B1 := Lib.hid b1
          clear k1 k2 b1
          go_loopg [13, 14] t.length (fun gg s13 s14 wr => ∃ j : Nat, j ≤ t.length ∧ t.length - j ≤ gg ∧ s13 = .int .i64 (lastL (t.take j) x.cl 0) ∧ s14 = .int .i64 j ∧ Aside (Below w5.heap.size w5 wr))
          case atStart => exact ⟨0, Nat.zero_le _, by omega, rfl, rfl, Below.refl _ _⟩
          case round =>
            obtain ⟨j, hj, hg, rfl, rfl, hw⟩ := hrel
            by_cases hlt : j < t.length
            · have hy : t[j]? = some t[j] := List.getElem?_eq_getElem hlt
              have st := lastL_step (cl := x.cl) hy
              obtain ⟨b', o', rfl, hb', hm⟩ := (HT.out.below (Nat.le_refl _) (B1.out.trans (hw.out.mono B1.out.size))).at hy
              generalize t[j] = y at hm st hy
              obtain ⟨b, o, hbb, hbl, hl⟩ := (HS.out.below (Nat.le_refl _) (B1.out.trans (hw.out.mono B1.out.size))).at (show (x :: s)[0]? = some x from rfl)
              simp only [Nat.zero_mul, Nat.add_zero, Option.some.injEq, Addr.mk.injEq, and_true] at hl hbb
              obtain ⟨rfl, rfl⟩ := hbb
              have hm0 := hm 0 _ rfl; have hm1 := hm 1 _ rfl; have hm2 := hm 2 _ rfl; have hm3 := hm 3 _ rfl; have hm4 := hm 4 _ rfl; have hm5 := hm 5 _ rfl; have hm6 := hm 6 _ rfl; rw [Nat.add_zero] at hm0; clear hm
              clear hm1 hm2 hm3 hm4 hm6
              have hl1 := hl 1 _ rfl
              clear hl
              replace hm0 := fun p : Ex wr => p.cell hb' hm0
              replace hm5 := fun p : Ex wr => p.cell hb' hm5
              replace hl1 := fun p : Ex wr => p.cell hbl hl1
              have HW := Lib.hid hw.out
              clear hw hy
              by_cases e : y.cl = x.cl
              · have e1 : (y.cl == x.cl) = true := by simpa using e
                rw [if_pos e] at st
                have ST := Lib.hid st
                clear st e
                go_wp2_with fail
                (refine wp_region_quiet_ex (by kernel_rfl) (by kernel_rfl) ?_; (repeat (go_big_quiet_step ((fail)))); refine wpQuiet_nil ?_; intro wq hw'; obtain ⟨⟨_, hq⟩, hw''⟩ := hw'; subst hw'')
                have l5 := hm5 ⟨_, hq⟩
                simp only at l5
                go_wp2_with fail
                go_roundg (t.length - (j + 1))
                case measure => omega
                case rel => exact ⟨j + 1, by omega, by omega, by rw [ST.out], by go_num, HW.out.trans (hq.mono HW.out.size)⟩
              · have e1 : (y.cl == x.cl) = false := by simpa using e
                rw [if_neg e] at st
                have ST := Lib.hid st
                clear st e
                go_wp2_with fail
                (refine wp_region_quiet_ex (by kernel_rfl) (by kernel_rfl) ?_; (repeat (go_big_quiet_step ((fail)))); refine wpQuiet_nil ?_; intro wq hw'; obtain ⟨⟨_, hq⟩, hw''⟩ := hw'; subst hw'')
                go_wp2_with fail
                go_roundg (t.length - (j + 1))
                case measure => omega
                case rel => exact ⟨j + 1, by omega, by omega, by rw [ST.out], by go_num, HW.out.trans (hq.mono HW.out.size)⟩
            · have hjt : j = t.length := by omega
              subst hjt
              have hlim : lastL (t.take t.length) x.cl 0 = limP t x.cl := by rw [List.take_length]; exact lastL_lim F.out.ord
              rw [hlim]
              clear hlim hg hlt hj
              obtain ⟨lim, hlim⟩ : ∃ n, n = limP t x.cl := ⟨_, rfl⟩
              obtain ⟨pp, hpp⟩ : ∃ n, n = promP l x.cl x.fr x.to x.acc := ⟨_, rfl⟩
              have PP := Lib.hid (fun (W : World) (h : Below w.heap.size w W) => promise_any Al ca l x.cl x.fr x.to x.acc W (Rd.below HL.out (Nat.le_refl _) h) nl1)
              rw [← hpp] at PP
              have FF := F.out
              have f1 := FF.pos
              have f2 := FF.late
              have f3 := FF.lost
              have f4 := FF.none
              have f5 := FF.ver
              have f6 := FF.kind
              have f7 := FF.lim
              have f8 := FF.post
              have f9 := FF.del
              rw [← hpp] at f5
              rw [← hlim] at f3 f7 ⊢
              simp only at f1 f2 f3 f4 f5 f6 f7 f8 f9
              have HLIM := Lib.hid hlim
              have HPP := Lib.hid hpp
              clear FF hlim hpp
              obtain ⟨pv, pe⟩ := pp
              simp only at f5 PP
              obtain ⟨f7a, f7b⟩ := f7
              obtain ⟨f8a, f8b⟩ := f8
              have KC : Blk wr w.heap.size _ _ := K1.out.below hw.out K1.out.lt
              have KA : Blk wr BA _ _ := K2.out.below hw.out K2.out.lt
              have bw := Lib.hid (B1.out.trans (hw.out.mono B1.out.size))
              obtain ⟨b, o, hbb, hbl, hl⟩ := (HS.out.below (Nat.le_refl _) bw.out).at (show (x :: s)[0]? = some x from rfl)
              simp only [Nat.zero_mul, Nat.add_zero, Option.some.injEq, Addr.mk.injEq, and_true] at hl hbb
              obtain ⟨rfl, rfl⟩ := hbb
              have hl0 := hl 0 _ rfl; have hl1 := hl 1 _ rfl; have hl2 := hl 2 _ rfl; have hl3 := hl 3 _ rfl; have hl4 := hl 4 _ rfl; have hl5 := hl 5 _ rfl; rw [Nat.add_zero] at hl0; clear hl
              have hl6 : ∀ p : Ex wr, p.W.cell? ⟨b, o, none⟩ = _ := fun p => p.cell hbl hl0
              clear hl6
              replace hl0 := fun p : Ex wr => p.cell hbl hl0; replace hl1 := fun p : Ex wr => p.cell hbl hl1; replace hl2 := fun p : Ex wr => p.cell hbl hl2; replace hl3 := fun p : Ex wr => p.cell hbl hl3; replace hl4 := fun p : Ex wr => p.cell hbl hl4; replace hl5 := fun p : Ex wr => p.cell hbl hl5
              have KCx := exblk KC
              have KAx := exblk KA
              clear hw
              have hcs : ((c.kind == 1) = true ∧ (c.kind == 2) = false ∧ decide (c.post < ac) = false ∧ (((pe == 0) = false) ∨ ((pe == 0) = true ∧ decide (x.del ≤ pv) = false) ∨ ((pe == 0) = true ∧ decide (x.del ≤ pv) = true ∧ (av == 6) = false))) ∨
                  ((c.kind == 1) = false ∧ (c.kind == 2) = true ∧ decide (lim + c.post < ac) = false ∧ ((decide (x.del ≤ c.at_) = false) ∨ (decide (x.del ≤ c.at_) = true ∧ decide (0 < ac) = false)) ∧ (((pe == 0) = false) ∨ ((pe == 0) = true))) := by
                rcases f6 with hk | hk
                · refine .inl ⟨by simp [hk], by simp [hk], by have := f2 hk; simp; omega, ?_⟩
                  cases e1 : pe == 0 with
                  | false => exact .inl rfl
                  | true =>
                    cases e2 : decide (x.del ≤ pv) with
                    | false => exact .inr (.inl ⟨rfl, rfl⟩)
                    | true => exact .inr (.inr ⟨rfl, rfl, by have := f5 hk (by simpa using e1) (by simpa using e2); simpa using this⟩)
                · have hk1 : c.kind ≠ 1 := by omega
                  refine .inr ⟨by simp [hk], by simp [hk], by have := f3 hk1; simp; omega, ?_, by cases pe == 0 <;> simp⟩
                  cases e2 : decide (x.del ≤ c.at_) with
                  | false => exact .inl rfl
                  | true => exact .inr ⟨rfl, by have := f4 hk1 hx (by simpa using e2); simp; omega⟩
              have F6 := Lib.hid f6
              clear f1 f2 f3 f4 f5 f6
              obtain ⟨i0, hi, hz0, hz1, hz2⟩ := info_parts2 infSent
              have hle := flat_length (enc := encSent) (k := 6) (fun _ => rfl) (x :: s)
              have hone : Aside (∀ u ∈ (x :: s).flatMap encSent, u.oneCell' = true) := by
                intro u hu
                obtain ⟨z, _, hz⟩ := List.mem_flatMap.1 hu
                simp [encSent] at hz
                rcases hz with rfl | rfl | rfl | rfl | rfl | rfl <;> rfl
              have HNEWS : Aside (∃ news, news = (x :: s).flatMap encSent) := ⟨_, rfl⟩
              obtain ⟨news, hnews⟩ := HNEWS.out
              rw [← hnews] at hle hone
              rw [hns] at hle
              have HN := Lib.hid hnews
              clear hnews HNEWS
              have hwr2 : wrap64 (lim + c.post) = lim + c.post := IntWalk.wrap64_in _ (by omega)
              have hwr1 : IntKind.i64.wrap (lim + c.post) = lim + c.post := (IntWalk.i64_left _).trans hwr2
              rcases hcs with ⟨g1, g2, g3, e1 | ⟨e1, e2⟩ | ⟨e1, e2, e3⟩⟩ | ⟨g1, g2, g3, e4 | ⟨e4, e5⟩, e1 | e1⟩
              all_goals
                go_wp2_with fail
                (refine wp_region_quiet_ex (by kernel_rfl) (by kernel_rfl) ?_; (repeat (go_big_quiet_step ((fail)))); refine wpQuiet_nil ?_; intro wq hw'; obtain ⟨⟨_, hq⟩, hw''⟩ := hw'; subst hw'')
                replace hl0 := fun p : Ex _ => hl0 ⟨p.W, hq.trans (p.h.mono hq.size)⟩; dsimp only at hl0; replace hl1 := fun p : Ex _ => hl1 ⟨p.W, hq.trans (p.h.mono hq.size)⟩; dsimp only at hl1; replace hl2 := fun p : Ex _ => hl2 ⟨p.W, hq.trans (p.h.mono hq.size)⟩; dsimp only at hl2; replace hl3 := fun p : Ex _ => hl3 ⟨p.W, hq.trans (p.h.mono hq.size)⟩; dsimp only at hl3; replace hl4 := fun p : Ex _ => hl4 ⟨p.W, hq.trans (p.h.mono hq.size)⟩; dsimp only at hl4; replace hl5 := fun p : Ex _ => hl5 ⟨p.W, hq.trans (p.h.mono hq.size)⟩; dsimp only at hl5; replace KCx := fun p : Ex _ => KCx ⟨p.W, hq.trans (p.h.mono hq.size)⟩; dsimp only at KCx; replace KAx := fun p : Ex _ => KAx ⟨p.W, hq.trans (p.h.mono hq.size)⟩; dsimp only at KAx
                replace bw := Lib.hid (bw.out.trans (hq.mono bw.out.size))
                clear hq
                go_wp2_with fail
                (refine wp_region_quiet_ex (by kernel_rfl) (by kernel_rfl) ?_; (repeat (go_big_quiet_step ((go_at_call 16; refine Calls.ex_of (PP.out _ (bw.out.trans (Below.mono (Ex.h _) bw.out.size))))))); refine wpQuiet_nil ?_; intro wq hw'; obtain ⟨⟨_, hq⟩, hw''⟩ := hw'; subst hw'')
                replace hl0 := fun p : Ex _ => hl0 ⟨p.W, hq.trans (p.h.mono hq.size)⟩; dsimp only at hl0; replace hl1 := fun p : Ex _ => hl1 ⟨p.W, hq.trans (p.h.mono hq.size)⟩; dsimp only at hl1; replace hl2 := fun p : Ex _ => hl2 ⟨p.W, hq.trans (p.h.mono hq.size)⟩; dsimp only at hl2; replace hl3 := fun p : Ex _ => hl3 ⟨p.W, hq.trans (p.h.mono hq.size)⟩; dsimp only at hl3; replace hl4 := fun p : Ex _ => hl4 ⟨p.W, hq.trans (p.h.mono hq.size)⟩; dsimp only at hl4; replace hl5 := fun p : Ex _ => hl5 ⟨p.W, hq.trans (p.h.mono hq.size)⟩; dsimp only at hl5; replace KCx := fun p : Ex _ => KCx ⟨p.W, hq.trans (p.h.mono hq.size)⟩; dsimp only at KCx; replace KAx := fun p : Ex _ => KAx ⟨p.W, hq.trans (p.h.mono hq.size)⟩; dsimp only at KAx
                replace bw := Lib.hid (bw.out.trans (hq.mono bw.out.size))
                clear hq
                have z5 := hl5 default
                have zc := KCx default
                have za := KAx default
                simp only [show ∀ w : World, (default : Ex w).W = w from fun _ => rfl] at z5 zc za
                go_wp2_with (at_builtin; refine wpList_append_own _ rfl _ _ 29 rfl wq.heap.size 34 i0 (.agg #[(.int .i64 0), (.int .u8 0), (.int .i64 0), (.int .i64 0), (.int .i64 0), (.int .i64 0)]) 6 48 Tryz.underlying29 hi hz0 hz1 hz2 rfl (by decide) _ _ _ rfl (World.ownsRow_made wq #[] 0 (Nat.le_refl _) (Nat.zero_le _) (by simp)) ⟨b, o, none⟩ ns cc news rfl ?qc1 ?qc2 ?qc3 ?qc4 ?qc5 ?qc6 ?_)
                case qc1 => exact hle
                case qc2 =>
                  intro k u hu
                  have hsw : Rd encSent 6 wq (some ⟨b, o, none⟩) (x :: s) := HS.out.below (Nat.le_refl _) bw.out
                  rw [HN.out] at hu
                  exact Lib.cell?_alloc_some _ (Rd.news (enc := encSent) (k := 6) (fun _ => rfl) hsw k u hu)
                case qc3 => exact hone.out
                case qc4 => rw [Nat.zero_add]; unfold maxLen; omega
                case qc5 => rw [Nat.zero_add]; omega
                case qc6 => simp
                intro v' w6 hown hgrow hnil
                have hown2 : w6.ownsRow wq.heap.size 34 6 v' (x :: s).length ((x :: s).flatMap encSent) := by rw [hns, ← HN.out]; simpa using hown
                obtain ⟨gg, cap, rfl, hgb, hglt, hcells⟩ := own_cells (enc := encSent) (k := 6) (fun _ => rfl) hown2 (by simp)
                rw [hns] at hcells ⊢
                have HC := Lib.hid hcells
                have hc5 := hcells 5 (by omega)
                have hc5a : w6.cell? ⟨gg, 5, none⟩ = some (.int .i64 x.del) := hc5.1
                have hc5b : w6.frozen? ⟨gg, 5, none⟩ = false := hc5.2
                have b6 : Below wq.heap.size wq w6 := ((Below.refl _ wq).alloc (Nat.le_refl _) _).grown hgrow (by simp) (by intro k hk; simp [Value.ownBlock] at hk; omega)
                clear hc5 hcells hown hgrow hnil hown2
                have pk := fun W => pick_any later 20000 W (by omega)
                have pb := pickI_bd later 20000 (by omega)
                obtain ⟨d, hd⟩ : ∃ d, d = pickI later 20000 := ⟨_, rfl⟩
                rw [← hd] at pk pb
                have HD := Lib.hid hd
                clear hd
                go_wp2_with fail
                have hsum2 : wrap64 (x.del + d) = x.del + d := IntWalk.wrap64_in _ (by omega)
                have hsum1 : IntKind.i64.wrap (x.del + d) = x.del + d := (IntWalk.i64_left _).trans hsum2
                have hc5x := fun p : Ex w6 => p.cell (a := ⟨gg, 5, none⟩) hglt hc5a
                (refine wp_region_quiet_tail 7 (by kernel_rfl) (by kernel_rfl) ?_; simp only [List.take_succ_cons, List.take_zero, List.drop_succ_cons, List.drop_zero]; (repeat (go_big_quiet_step ((go_at_call 17; refine Calls.ex_of (pk _))))); refine wpQuiet_nil ?_; intro wq hw'; obtain ⟨⟨_, hq⟩, hw''⟩ := hw'; subst hw'')
                have h5a := hc5x ⟨_, hq⟩
                have h5b := (hq.frozen (p := ⟨gg, 5, none⟩) hglt).trans hc5b
                simp only at h5a
                have hu := rd_set5 (v := x.del + d) hns (fun t ht => (hq.cell (p := ⟨gg, 0 + t, none⟩) hglt).trans (HC.out t ht).1) (Nat.lt_of_lt_of_le hglt hq.size)
                have b7 := (b6.trans (hq.mono b6.size)).setCell (p := ⟨gg, 5, none⟩) hgb (.int .i64 (x.del + d))
                have kc7 := KCx ⟨_, b7⟩
                simp only at kc7
                have b8 := bw.out.trans (b7.mono bw.out.size)
                have hns2 : ({ x with del := x.del + d } :: s).length = ns := hns
                have d2 := Decide_any Al At (some ⟨gg, 0, none⟩) ca cb cap l t ({ x with del := x.del + d } :: s) { c with item := x.item } _ (HL.out.below (Nat.le_refl _) b8) (HT.out.below (Nat.le_refl _) b8) hu nl1 nt (by rw [hns2]; exact nsb)
                rw [hns2] at d2
                have M := deciP_more (d := d) (c := { c with item := x.item }) rfl hx pb.1 F3.out
                obtain ⟨Bq, hBq⟩ : ∃ Bq, Bq = deciP l t ({ x with del := x.del + d } :: s) { c with item := x.item } := ⟨_, rfl⟩
                rw [← hBq] at d2 M
                have hac : ac = (decP l t (x :: s) { c with item := x.item }).cents := by rw [← F2]
                rw [← hac] at M
                clear hBq hac
                obtain ⟨⟨bi, bc, bv⟩, be⟩ := Bq
                simp only at d2 M
                go_wp2_with fail
                refine d2.mono ?_
                rintro e w8 ⟨rfl, hb8⟩
                have hg7 : gg < (World.setCell _ ⟨gg, 5, none⟩ (.int .i64 (x.del + d))).heap.size := Nat.lt_of_lt_of_le (Nat.lt_of_lt_of_le hglt hq.size) ((Below.refl 0 _).setCell (p := ⟨gg, 5, none⟩) (Nat.zero_le _) (.int .i64 (x.del + d))).size
                have hu5 := World.cell?_setCell_same _ ⟨gg, 5, none⟩ (.int .i64 (x.del + d)) h5a
                have hu8 := (hb8.cell (p := ⟨gg, 5, none⟩) hg7).trans hu5
                have kc8 := KCx ⟨w8, b7.trans (hb8.mono b7.size)⟩
                have ka8 := KAx ⟨w8, b7.trans (hb8.mono b7.size)⟩
                simp only at kc8 ka8
                have bq := b7.trans (hb8.mono b7.size)
                have b9 : Below w.heap.size w w8 := b8.trans (hb8.mono b8.size)
                have hg8 : gg < w8.heap.size := Nat.lt_of_lt_of_le hg7 hb8.size
                have hcl : w.heap.size < w8.heap.size := World.block_lt_of_cell? _ _ (kc8 0)
                have hal : BA < w8.heap.size := World.block_lt_of_cell? _ _ (ka8 0)
                clear hu kc7 d2 hu5 h5a h5b hc5x hb8 b8 b7 hg7
                by_cases hbe : be = 0
                · have hge := M.1 hbe
                  subst hbe
                  have HGE := Lib.hid hge
                  have n1 : (c.kind != 1) = !(c.kind == 1) := rfl
                  rw [g1] at n1
                  simp only [Bool.not_true, Bool.not_false] at n1
                  clear M hge
                  go_wp2_with fail
                  have bq9 := bq.alloc bq.size (.cells #[.int .i64 bi, .int .i64 bc, .int .u8 bv] 36)
                  have hB : Blk (w8.alloc (.cells #[.int .i64 bi, .int .i64 bc, .int .u8 bv] 36)) w8.heap.size #[.int .i64 bi, .int .i64 bc, .int .u8 bv] 36 := Blk.new rfl
                  have hu9 := Lib.cell?_alloc_some (.cells #[.int .i64 bi, .int .i64 bc, .int .u8 bv] 36) hu8
                  replace b9 := b9.alloc b9.size (.cells #[.int .i64 bi, .int .i64 bc, .int .u8 bv] 36)
                  have hg9 : gg < (w8.alloc (.cells #[.int .i64 bi, .int .i64 bc, .int .u8 bv] 36)).heap.size := Nat.lt_of_lt_of_le hg8 ((Below.refl w8.heap.size w8).alloc (Nat.le_refl _) _).size
                  clear hu8 kc8 ka8
                  generalize w8.alloc (.cells #[.int .i64 bi, .int .i64 bc, .int .u8 bv] 36) = w9 at *
                  replace KCx := fun p : Ex w9 => KCx ⟨p.W, bq9.trans (p.h.mono bq9.size)⟩
                  replace KAx := fun p : Ex w9 => KAx ⟨p.W, bq9.trans (p.h.mono bq9.size)⟩
                  dsimp only at KCx KAx
                  have hBx := exblk hB
                  have hux := fun p : Ex w9 => p.cell (a := ⟨gg, 5, none⟩) hg9 hu9
                  clear hB hu9 bq9 bq
                  cases r7 : decide (c.at_ < x.del + d) with
                  | true =>
                    (refine wp_region_quiet_ex (by kernel_rfl) (by kernel_rfl) ?_; (repeat (go_big_quiet_step ((fail)))); refine wpQuiet_nil ?_; intro wq hw'; obtain ⟨⟨_, hq⟩, hw''⟩ := hw'; subst hw'')
                    go_wp2_with fail
                    go_ret
                    exact ⟨rfl, b9.trans (hq.mono b9.size)⟩
                  | false =>
                    cases r8 : decide (ac ≤ bc) with
                    | true =>
                      (refine wp_region_quiet_ex (by kernel_rfl) (by kernel_rfl) ?_; (repeat (go_big_quiet_step ((fail)))); refine wpQuiet_nil ?_; intro wq hw'; obtain ⟨⟨_, hq⟩, hw''⟩ := hw'; subst hw'')
                      go_wp2_with fail
                      go_ret
                      exact ⟨rfl, b9.trans (hq.mono b9.size)⟩
                    | false =>
                      first
                      | (exfalso
                         have h1 : c.kind = 1 := by simpa using g1
                         have h2 := HGE.out h1 (by simpa using r7)
                         simp at r8
                         omega)
                      | ((refine wp_region_quiet_ex (by kernel_rfl) (by kernel_rfl) ?_; (repeat (go_big_quiet_step ((fail)))); refine wpQuiet_nil ?_; intro wq hw'; obtain ⟨⟨_, hq⟩, hw''⟩ := hw'; subst hw'')
                         go_wp2_with fail
                         go_ret
                         exact ⟨rfl, b9.trans (hq.mono b9.size)⟩)
                · have hov := M.2 hbe
                  have m1 : (be == 0) = false := by simpa using hbe
                  have m2 : (be != 0) = true := by simpa using hbe
                  have m3 : decide (1051898399 < x.del + d) = true := by simpa using hov
                  clear M hbe hov
                  go_wp2_with fail
                  go_ret
                  exact ⟨rfl, b9.alloc b9.size _⟩
        · have e1 : (ae == 0) = false := by simpa using h0
          have e2 : (ae != 0) = true := by simpa using h0
          go_wp2_with fail
          go_ret
          exact ⟨rfl, by first | exact b1 | exact b1.alloc b1.size _⟩
      · have HS := Lib.hid hs
        clear hl ht hs
        generalize hms : (x :: s).length = ns at *
        have hms' : 0 < ns := by rw [← hms]; simp
        have q1 : ((ns : Int) == 0) = false := by simp; omega
        have q2 : decide (x.del < 0) = true := by simp; omega
        clear hms hn
        generalize l.length = nl at *
        generalize t.length = nt at *
        go_enter Tryz.func4, Tryz.ntmps4
        go_wp2_with fail
        refine (HA.out _).mono ?_
        rintro e w1 ⟨rfl, hb⟩
        replace hb := ((Below.refl w.heap.size _).alloc (Nat.le_refl _) _).trans (hb.mono (by first | (simp; done) | (simp; omega) | omega))
        go_wp2_with fail
        refine (FW.out _).mono ?_
        rintro e w2 ⟨rfl, rfl⟩
        obtain ⟨b, o, rfl, hbl, hl⟩ := (HS.out.below (Nat.le_refl _) hb).at (show (x :: s)[0]? = some x from rfl)
        simp only [Nat.zero_mul, Nat.add_zero] at hl
        have hl0 := hl 0 _ rfl; have hl1 := hl 1 _ rfl; have hl2 := hl 2 _ rfl; have hl3 := hl 3 _ rfl; have hl4 := hl 4 _ rfl; have hl5 := hl 5 _ rfl; rw [Nat.add_zero] at hl0; clear hl
        go_wp2_with fail
        go_ret
        exact ⟨rfl, hb⟩
  · have e : decide (l.length ≤ 60 ∧ t.length ≤ 60 ∧ s.length ≤ 60 ∧ 0 ≤ 60) = false := by simp; omega
    simp only [e] at FW
    have FW := Lib.hid FW
    clear e hl ht hs
    go_enter Tryz.func4, Tryz.ntmps4
    go_wp2_with fail
    refine (HA.out _).mono ?_
    rintro e w1 ⟨rfl, hb⟩
    go_wp2_with fail
    refine (FW.out _).mono ?_
    rintro e w2 ⟨rfl, rfl⟩
    go_wp2_with fail
    go_ret
    exact ⟨rfl, ((Below.refl _ _).alloc (Nat.le_refl _) _).trans (hb.mono (by first | (simp; done) | (simp; omega) | omega))⟩
end Go.Proofs.YtnnppnlekpadnaaGreat
