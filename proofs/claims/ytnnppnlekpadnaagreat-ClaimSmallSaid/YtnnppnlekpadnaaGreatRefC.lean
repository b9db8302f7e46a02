/- Contracts of the reference's RightSent and RightClaims. -/
import Derived.Test.YtnnppnlekpadnaaGreatRefA
namespace Go.Proofs.YtnnppnlekpadnaaGreat
open Go.RowKit Go.Proofs
set_option maxRecDepth 100000

theorem badSent_ok {xs : List Sent} {j : Nat} {x : Sent} (hj : xs[j]? = some x) (h : okSent x = false) : rightSent xs = false := by
  unfold rightSent
  have : xs.all okSent = false := by
    rw [List.all_eq_false]; exact ⟨x, List.mem_of_getElem? hj, by simp [h]⟩
  rw [this]; simp
theorem badSent_dup {xs : List Sent} {i j : Nat} {x y : Sent} (hi : xs[i]? = some y) (hj : xs[j]? = some x) (hij : i < j) (h : y.item = x.item) : rightSent xs = false := by
  unfold rightSent
  have : decide ((xs.map (·.item)).Nodup) = false := by
    rw [decide_eq_false_iff_not]
    intro hn
    have h1 := (List.getElem?_eq_some_iff.1 hi).1
    have h2 := (List.getElem?_eq_some_iff.1 hj).1
    have := List.pairwise_iff_getElem.1 hn i j (by simpa using h1) (by simpa using h2) hij
    have e1 := (List.getElem?_eq_some_iff.1 hi).2
    have e2 := (List.getElem?_eq_some_iff.1 hj).2
    simp [e1, e2] at this
    exact this h
  rw [this]; simp
theorem badSent_len {xs : List Sent} (h : ¬ xs.length ≤ 2000) : rightSent xs = false := by
  unfold rightSent; rw [decide_eq_false h]; rfl
theorem goodSent {xs : List Sent} (h : xs.length ≤ 2000) (h1 : ∀ (k : Nat) (x : Sent), xs[k]? = some x → okSent x = true) (h2 : ∀ (i j : Nat) (x y : Sent), i < j → xs[i]? = some x → xs[j]? = some y → x.item ≠ y.item) : rightSent xs = true := by
  unfold rightSent
  have e1 : xs.all okSent = true := by
    rw [List.all_eq_true]; intro x hx
    obtain ⟨j, hj⟩ := List.mem_iff_getElem?.1 hx
    exact h1 j x hj
  have e2 : (xs.map (·.item)).Nodup := by
    unfold List.Nodup
    rw [List.pairwise_iff_getElem]
    intro i j hi hj hij
    simp only [List.getElem_map]
    exact h2 i j _ _ hij (List.getElem?_eq_getElem _) (List.getElem?_eq_getElem _)
  rw [e1, decide_eq_true e2, decide_eq_true h]; rfl
theorem badClm_ok {xs : List Clm} {j : Nat} {x : Clm} (hj : xs[j]? = some x) (h : okClm x = false) : rightClm xs = false := by
  unfold rightClm
  have : xs.all okClm = false := by
    rw [List.all_eq_false]; exact ⟨x, List.mem_of_getElem? hj, by simp [h]⟩
  rw [this]; simp
theorem badClm_dup {xs : List Clm} {i j : Nat} {x y : Clm} (hi : xs[i]? = some y) (hj : xs[j]? = some x) (hij : i < j) (h : y.id = x.id) : rightClm xs = false := by
  unfold rightClm
  have : decide ((xs.map (·.id)).Nodup) = false := by
    rw [decide_eq_false_iff_not]
    intro hn
    have h1 := (List.getElem?_eq_some_iff.1 hi).1
    have h2 := (List.getElem?_eq_some_iff.1 hj).1
    have := List.pairwise_iff_getElem.1 hn i j (by simpa using h1) (by simpa using h2) hij
    have e1 := (List.getElem?_eq_some_iff.1 hi).2
    have e2 := (List.getElem?_eq_some_iff.1 hj).2
    simp [e1, e2] at this
    exact this h
  rw [this]; simp
theorem badClm_len {xs : List Clm} (h : ¬ xs.length ≤ 500) : rightClm xs = false := by
  unfold rightClm; rw [decide_eq_false h]; rfl
theorem goodClm {xs : List Clm} (h : xs.length ≤ 500) (h1 : ∀ (k : Nat) (x : Clm), xs[k]? = some x → okClm x = true) (h2 : ∀ (i j : Nat) (x y : Clm), i < j → xs[i]? = some x → xs[j]? = some y → x.id ≠ y.id) : rightClm xs = true := by
  unfold rightClm
  have e1 : xs.all okClm = true := by
    rw [List.all_eq_true]; intro x hx
    obtain ⟨j, hj⟩ := List.mem_iff_getElem?.1 hx
    exact h1 j x hj
  have e2 : (xs.map (·.id)).Nodup := by
    unfold List.Nodup
    rw [List.pairwise_iff_getElem]
    intro i j hi hj hij
    simp only [List.getElem_map]
    exact h2 i j _ _ hij (List.getElem?_eq_getElem _) (List.getElem?_eq_getElem _)
  rw [e1, decide_eq_true e2, decide_eq_true h]; rfl

theorem bor_of {a b : Bool} (h : ¬ (a = false ∧ b = false)) : (a || b) = true := by revert h; cases a <;> cases b <;> simp
theorem bor_cases {a b : Bool} (h : ¬ (a = false ∧ b = false)) : a = true ∨ (a = false ∧ b = true) := by revert h; cases a <;> cases b <;> simp

theorem okSent_eq {x : Sent} (hx : 0 ≤ x.cl) : okSent x = (!(x.cl == 0) && (!(outB 1 999999 x.item) && (!(outB 1 999999 x.fr) && (!(outB 1 999999 x.to) && (!(outB 0 1051898399 x.acc) && ((x.del == -1) || !(outB x.acc 1051898399 x.del))))))) := by
  unfold okSent withinB
  have : decide (0 < x.cl) = !(x.cl == 0) := by
    rw [Bool.eq_iff_iff]; simp; omega
  have h2 : decide (x.del = -1) = (x.del == -1) := by rw [Bool.eq_iff_iff]; simp
  rw [this, h2]
  simp [Bool.and_assoc]
theorem okClm_eq (x : Clm) : okClm x = (!(outB 1 999999 x.id) && (!(outB 1 999999 x.item) && (!(outB 0 1051898399 x.at_) && (!(outB 1 2 x.kind) && (!(outB 0 250000000000000 x.post) && !(outB 0 250000000000000 x.val)))))) := by
  unfold okClm withinB
  have : (decide (x.kind = 1) || decide (x.kind = 2)) = !(outB 1 2 x.kind) := by
    rw [Bool.eq_iff_iff]; unfold outB; simp; omega
  rw [this]
  simp [Bool.and_assoc]

set_option maxHeartbeats 8000000 in
theorem refSent (A : Option Addr) (c : Nat) (xs : List Sent) (w : World) (hr : Rd encSent 6 w A xs) (hn : xs.length ≤ 1000000) (hu : ∀ x ∈ xs, 0 ≤ x.cl) :
    Calls Tryz.prog 43 #[.slice A xs.length c] w fun e w' => e = .returned (.bool (rightSent xs)) ∧ Below w.heap.size w w' := by
  have HU := Lib.hid hu
  have HR := Lib.hid hr
  clear hu hr
  by_cases hlen : xs.length ≤ 2000
  · have hlen' : ¬ (2000 : Int) < (xs.length : Int) := by omega
    go_enter Tryz.func43, Tryz.ntmps43
    go_wp2_with fail
    go_loopg [3] xs.length (fun gg s3 wr => ∃ j : Nat, j ≤ xs.length ∧ xs.length - j ≤ gg ∧ s3 = .int .i64 j ∧ Aside (Below w.heap.size w wr) ∧ Aside ((∀ (k : Nat) (x : Sent), k < j → xs[k]? = some x → okSent x = true) ∧ (∀ (i k : Nat) (x y : Sent), i < k → k < j → xs[i]? = some x → xs[k]? = some y → x.item ≠ y.item)))
    case atStart => exact ⟨0, Nat.zero_le _, by omega, rfl, Below.refl _ _, fun k x h => absurd h (Nat.not_lt_zero _), fun i k x y _ h => absurd h (Nat.not_lt_zero _)⟩
    case round =>
      obtain ⟨j, hj, hg, rfl, BW, F⟩ := hrel
      by_cases hlt : j < xs.length
      · obtain ⟨b, o, rfl, hb, hl⟩ := (HR.out.below (Nat.le_refl _) BW.out).at (List.getElem?_eq_getElem hlt)
        have HX : Aside (xs[j]? = some xs[j]) := List.getElem?_eq_getElem hlt
        generalize xs[j] = x at hl HX
        have hok := okSent_eq (x := x) (HU.out x (List.mem_of_getElem? HX.out))
        generalize h1 : (x.cl == 0) = r1 at hok
        generalize h2 : (!(outB 1 999999 x.item)) = r2 at hok
        generalize h3 : (!(outB 1 999999 x.fr)) = r3 at hok
        generalize h4 : (!(outB 1 999999 x.to)) = r4 at hok
        generalize h5 : (!(outB 0 1051898399 x.acc)) = r5 at hok
        generalize h6 : (x.del == -1) = r6 at hok
        generalize h7 : (!(outB x.acc 1051898399 x.del)) = r7 at hok
        have h6' : (x.del != -1) = !r6 := by rw [← h6]; rfl
        have H2 := Lib.hid (fun W => in_r h2 W)
        have H3 := Lib.hid (fun W => in_r h3 W)
        have H4 := Lib.hid (fun W => in_r h4 W)
        have H5 := Lib.hid (fun W => in_r h5 W)
        have H7 := Lib.hid (fun W => in_r h7 W)
        have OK := Lib.hid hok
        clear h2 h3 h4 h5 h7 hok
        have hl0 := hl 0 _ rfl; have hl1 := hl 1 _ rfl; have hl2 := hl 2 _ rfl; have hl3 := hl 3 _ rfl; have hl4 := hl 4 _ rfl; have hl5 := hl 5 _ rfl; rw [Nat.add_zero] at hl0; clear hl
        have bw : Below wr.heap.size wr (wr.alloc (.cells #[.int .i64 x.item, .int .u8 x.cl, .int .i64 x.fr, .int .i64 x.to, .int .i64 x.acc, .int .i64 x.del] 34)) := (Below.refl _ _).alloc (Nat.le_refl _) _
        have BB := Lib.hid (BW.out.trans (bw.mono BW.out.size))
        clear bw
        cases r1 with
        | true =>
            have F0 : Aside (rightSent xs = false) := badSent_ok HX.out (by rw [OK.out]; rfl)
            go_wp2_with (go_at_call 35; first | (with_reducible refine (H2.out _).mono ?_; rintro e w' ⟨rfl, rfl⟩) | (with_reducible refine (H3.out _).mono ?_; rintro e w' ⟨rfl, rfl⟩) | (with_reducible refine (H4.out _).mono ?_; rintro e w' ⟨rfl, rfl⟩) | (with_reducible refine (H5.out _).mono ?_; rintro e w' ⟨rfl, rfl⟩))
            go_ret
            exact ⟨by rw [F0.out]; rfl, BB.out⟩
        | false =>
          cases r2 with
          | false =>
              have F0 : Aside (rightSent xs = false) := badSent_ok HX.out (by rw [OK.out]; rfl)
              go_wp2_with (go_at_call 35; first | (with_reducible refine (H2.out _).mono ?_; rintro e w' ⟨rfl, rfl⟩) | (with_reducible refine (H3.out _).mono ?_; rintro e w' ⟨rfl, rfl⟩) | (with_reducible refine (H4.out _).mono ?_; rintro e w' ⟨rfl, rfl⟩) | (with_reducible refine (H5.out _).mono ?_; rintro e w' ⟨rfl, rfl⟩))
              go_ret
              exact ⟨by rw [F0.out]; rfl, BB.out⟩
          | true =>
            cases r3 with
            | false =>
                have F0 : Aside (rightSent xs = false) := badSent_ok HX.out (by rw [OK.out]; rfl)
                go_wp2_with (go_at_call 35; first | (with_reducible refine (H2.out _).mono ?_; rintro e w' ⟨rfl, rfl⟩) | (with_reducible refine (H3.out _).mono ?_; rintro e w' ⟨rfl, rfl⟩) | (with_reducible refine (H4.out _).mono ?_; rintro e w' ⟨rfl, rfl⟩) | (with_reducible refine (H5.out _).mono ?_; rintro e w' ⟨rfl, rfl⟩))
                go_ret
                exact ⟨by rw [F0.out]; rfl, BB.out⟩
            | true =>
              cases r4 with
              | false =>
                  have F0 : Aside (rightSent xs = false) := badSent_ok HX.out (by rw [OK.out]; rfl)
                  go_wp2_with (go_at_call 35; first | (with_reducible refine (H2.out _).mono ?_; rintro e w' ⟨rfl, rfl⟩) | (with_reducible refine (H3.out _).mono ?_; rintro e w' ⟨rfl, rfl⟩) | (with_reducible refine (H4.out _).mono ?_; rintro e w' ⟨rfl, rfl⟩) | (with_reducible refine (H5.out _).mono ?_; rintro e w' ⟨rfl, rfl⟩))
                  go_ret
                  exact ⟨by rw [F0.out]; rfl, BB.out⟩
              | true =>
                cases r5 with
                | false =>
                    have F0 : Aside (rightSent xs = false) := badSent_ok HX.out (by rw [OK.out]; rfl)
                    go_wp2_with (go_at_call 35; first | (with_reducible refine (H2.out _).mono ?_; rintro e w' ⟨rfl, rfl⟩) | (with_reducible refine (H3.out _).mono ?_; rintro e w' ⟨rfl, rfl⟩) | (with_reducible refine (H4.out _).mono ?_; rintro e w' ⟨rfl, rfl⟩) | (with_reducible refine (H5.out _).mono ?_; rintro e w' ⟨rfl, rfl⟩))
                    go_ret
                    exact ⟨by rw [F0.out]; rfl, BB.out⟩
                | true =>
                    by_cases hbad : r6 = false ∧ r7 = false
                    · obtain ⟨rfl, rfl⟩ := hbad
                      have F0 : Aside (rightSent xs = false) := badSent_ok HX.out (by rw [OK.out]; rfl)
                      go_wp2_with (go_at_call 35; first | (with_reducible refine (H2.out _).mono ?_; rintro e w' ⟨rfl, rfl⟩) | (with_reducible refine (H3.out _).mono ?_; rintro e w' ⟨rfl, rfl⟩) | (with_reducible refine (H4.out _).mono ?_; rintro e w' ⟨rfl, rfl⟩) | (with_reducible refine (H5.out _).mono ?_; rintro e w' ⟨rfl, rfl⟩) | (with_reducible refine (H7.out _).mono ?_; rintro e w' ⟨rfl, rfl⟩))
                      go_ret
                      exact ⟨by rw [F0.out]; rfl, BB.out⟩
                    · have hok : Aside (okSent x = true) := by
                        show _ = _
                        rw [OK.out, bor_of hbad]; rfl
                      have hcs : (r6 = true) ∨ (r6 = false ∧ r7 = true) := by exact bor_cases hbad
                      clear hbad
                      rcases hcs with rfl | ⟨rfl, rfl⟩
                      all_goals
                        go_wp2_with (go_at_call 35; first | (with_reducible refine (H2.out _).mono ?_; rintro e w' ⟨rfl, rfl⟩) | (with_reducible refine (H3.out _).mono ?_; rintro e w' ⟨rfl, rfl⟩) | (with_reducible refine (H4.out _).mono ?_; rintro e w' ⟨rfl, rfl⟩) | (with_reducible refine (H5.out _).mono ?_; rintro e w' ⟨rfl, rfl⟩) | (with_reducible refine (H7.out _).mono ?_; rintro e w' ⟨rfl, rfl⟩))
                        have kx0 : Blk (wr.alloc (.cells #[.int .i64 x.item, .int .u8 x.cl, .int .i64 x.fr, .int .i64 x.to, .int .i64 x.acc, .int .i64 x.del] 34)) wr.heap.size #[.int .i64 x.item, .int .u8 x.cl, .int .i64 x.fr, .int .i64 x.to, .int .i64 x.acc, .int .i64 x.del] 34 := Blk.new rfl
                        generalize hWb : wr.alloc (.cells #[.int .i64 x.item, .int .u8 x.cl, .int .i64 x.fr, .int .i64 x.to, .int .i64 x.acc, .int .i64 x.del] 34) = Wb at kx0 BB
                        try rw [hWb]
                        have hbw : b < wr.heap.size := hb
                        clear hWb hl0 hl1 hl2 hl3 hl4 hl5 hb
                        have KX := Lib.hid kx0
                        clear kx0
                        go_loopg [5] j (fun gg s5 wr => ∃ k : Nat, k ≤ j ∧ j - k ≤ gg ∧ s5 = .int .i64 k ∧ Aside (Below Wb.heap.size Wb wr) ∧ Aside (∀ (i : Nat) (y : Sent), i < k → xs[i]? = some y → y.item ≠ x.item))
                        case atStart => exact ⟨0, Nat.zero_le _, by omega, rfl, Below.refl _ _, fun i y h => absurd h (Nat.not_lt_zero _)⟩
                        case round =>
                          obtain ⟨k, hk, hg2, rfl, BK, G⟩ := hrel
                          have bz := BB.out.trans (BK.out.mono BB.out.size)
                          by_cases hkj : k < j
                          · have hy : xs[k]? = some xs[k] := List.getElem?_eq_getElem (by omega)
                            obtain ⟨b', o', hbo, hb', hl⟩ := (HR.out.below (Nat.le_refl _) bz).at hy
                            simp only [Option.some.injEq, Addr.mk.injEq, and_true] at hbo
                            obtain ⟨rfl, rfl⟩ := hbo
                            generalize xs[k] = y at hy hl
                            have hl0 := hl 0 _ rfl
                            rw [Nat.add_zero] at hl0
                            have kx := (KX.out.below BK.out KX.out.lt)
                            have hx0 := (show _ = some (Value.int .i64 x.item) from kx.cells 0)
                            replace hl0 := fun p : Ex wr => p.cell hb' hl0
                            replace hx0 := fun p : Ex wr => p.cell kx.lt hx0
                            clear hl kx
                            have HY := Lib.hid hy
                            clear hy
                            cases h8 : y.item == x.item with
                            | true =>
                              have F0 : Aside (rightSent xs = false) := badSent_dup HY.out HX.out hkj (by simpa using h8)
                              go_wp2_with fail
                              (refine wp_region_quiet_ex (by kernel_rfl) (by kernel_rfl) ?_; (repeat (go_big_quiet_step ((fail)))); refine wpQuiet_nil ?_; intro wq hw'; obtain ⟨⟨_, hq⟩, hw''⟩ := hw'; subst hw'')
                              go_wp2_with fail
                              go_ret
                              exact ⟨by rw [F0.out]; rfl, bz.trans (hq.mono bz.size)⟩
                            | false =>
                              have hne : Aside (y.item ≠ x.item) := by show y.item ≠ x.item; simpa using h8
                              have HB := Lib.hid bz
                              go_wp2_with fail
                              (refine wp_region_quiet_ex (by kernel_rfl) (by kernel_rfl) ?_; (repeat (go_big_quiet_step ((fail)))); refine wpQuiet_nil ?_; intro wq hw'; obtain ⟨⟨_, hq⟩, hw''⟩ := hw'; subst hw'')
                              have HQ := Lib.hid (BK.out.trans (hq.mono BK.out.size))
                              clear bz hl0 hx0
                              go_wp2_with fail
                              go_roundg (j - (k + 1))
                              case measure => omega
                              case rel =>
                                refine ⟨k + 1, by omega, by omega, by go_num, HQ.out, (show Aside _ from fun i z hi hz => ?_)⟩
                                by_cases e : i = k
                                · subst e; rw [HY.out] at hz; cases hz; exact hne.out
                                · exact G.out i z (by omega) hz
                          · have hkj' : k = j := by omega
                            subst hkj'
                            have hg' : ¬ (k : Int) < (k : Int) := by omega
                            have HB := Lib.hid bz
                            clear bz
                            go_wp2_with fail
                            go_roundg (xs.length - (k + 1))
                            case measure => omega
                            case rel =>
                              refine ⟨k + 1, by omega, by omega, by go_num, HB.out, (show Aside _ from ⟨fun i z hi hz => ?_, fun i m u v him hm hu hv => ?_⟩)⟩
                              · by_cases e : i = k
                                · subst e; rw [HX.out] at hz; cases hz; exact hok.out
                                · exact F.out.1 i z (by omega) hz
                              · by_cases e : m = k
                                · subst e; rw [HX.out] at hv; cases hv; exact G.out i u him hu
                                · exact F.out.2 i m u v him (by omega) hu hv
      · have hjn : j = xs.length := by omega
        have F0 : Aside (rightSent xs = true) := goodSent hlen (fun k x hk => F.out.1 k x (by rw [hjn]; exact (List.getElem?_eq_some_iff.1 hk).1) hk) (fun i k x y hik hx hy => F.out.2 i k x y hik (by rw [hjn]; exact (List.getElem?_eq_some_iff.1 hy).1) hx hy)
        clear F
        have hg' : ¬ (j : Int) < (xs.length : Int) := by omega
        go_wp2_with fail
        go_ret
        exact ⟨by rw [F0.out]; rfl, BW.out⟩
  · have hlen' : (2000 : Int) < (xs.length : Int) := by omega
    rw [badSent_len hlen]
    go_enter Tryz.func43, Tryz.ntmps43
    go_wp2_with fail
    go_ret
    exact ⟨rfl, Below.refl _ _⟩
end Go.Proofs.YtnnppnlekpadnaaGreat
