/- The contract of the reference's RightClaims. -/
import Derived.Test.YtnnppnlekpadnaaGreatRefC
namespace Go.Proofs.YtnnppnlekpadnaaGreat
open Go.RowKit Go.Proofs
set_option maxRecDepth 100000

set_option maxHeartbeats 8000000 in
theorem refClm (A : Option Addr) (c : Nat) (xs : List Clm) (w : World) (hr : Rd encClm 6 w A xs) (hn : xs.length ≤ 1000000) (hu : ∀ x ∈ xs, 0 ≤ x.kind ∧ x.kind ≤ 255) :
    Calls Tryz.prog 44 #[.slice A xs.length c] w fun e w' => e = .returned (.bool (rightClm xs)) ∧ Below w.heap.size w w' := by
  have HU := Lib.hid hu
  have HR := Lib.hid hr
  clear hu hr
  by_cases hlen : xs.length ≤ 500
  · have hlen' : ¬ (500 : Int) < (xs.length : Int) := by omega
    go_enter Tryz.func44, Tryz.ntmps44
    go_wp2_with fail
    go_loopg [3] xs.length (fun gg s3 wr => ∃ j : Nat, j ≤ xs.length ∧ xs.length - j ≤ gg ∧ s3 = .int .i64 j ∧ Aside (Below w.heap.size w wr) ∧ Aside ((∀ (k : Nat) (x : Clm), k < j → xs[k]? = some x → okClm x = true) ∧ (∀ (i k : Nat) (x y : Clm), i < k → k < j → xs[i]? = some x → xs[k]? = some y → x.id ≠ y.id)))
    case atStart => exact ⟨0, Nat.zero_le _, by omega, rfl, Below.refl _ _, fun k x h => absurd h (Nat.not_lt_zero _), fun i k x y _ h => absurd h (Nat.not_lt_zero _)⟩
    case round =>
      obtain ⟨j, hj, hg, rfl, BW, F⟩ := hrel
      by_cases hlt : j < xs.length
      · obtain ⟨b, o, rfl, hb, hl⟩ := (HR.out.below (Nat.le_refl _) BW.out).at (List.getElem?_eq_getElem hlt)
        have HX : Aside (xs[j]? = some xs[j]) := List.getElem?_eq_getElem hlt
        generalize xs[j] = x at hl HX
        obtain ⟨hk0, hk1⟩ := HU.out x (List.mem_of_getElem? HX.out)
        have hok := okClm_eq x
        generalize h2 : (!(outB 1 999999 x.id)) = r2 at hok
        generalize h3 : (!(outB 1 999999 x.item)) = r3 at hok
        generalize h4 : (!(outB 0 1051898399 x.at_)) = r4 at hok
        generalize h5 : (!(outB 1 2 x.kind)) = r5 at hok
        generalize h6 : (!(outB 0 250000000000000 x.post)) = r6 at hok
        generalize h7 : (!(outB 0 250000000000000 x.val)) = r7 at hok
        have H2 := Lib.hid (fun W => in_r h2 W)
        have H3 := Lib.hid (fun W => in_r h3 W)
        have H4 := Lib.hid (fun W => in_r h4 W)
        have H5 := Lib.hid (fun W => in_r h5 W)
        have H6 := Lib.hid (fun W => in_r h6 W)
        have H7 := Lib.hid (fun W => in_r h7 W)
        have OK := Lib.hid hok
        clear h2 h3 h4 h5 h6 h7 hok
        have hl0 := hl 0 _ rfl; have hl1 := hl 1 _ rfl; have hl2 := hl 2 _ rfl; have hl3 := hl 3 _ rfl; have hl4 := hl 4 _ rfl; have hl5 := hl 5 _ rfl; rw [Nat.add_zero] at hl0; clear hl
        have bw : Below wr.heap.size wr (wr.alloc (.cells #[.int .i64 x.id, .int .i64 x.item, .int .i64 x.at_, .int .u8 x.kind, .int .i64 x.post, .int .i64 x.val] 90)) := (Below.refl _ _).alloc (Nat.le_refl _) _
        have BB := Lib.hid (BW.out.trans (bw.mono BW.out.size))
        clear bw
        cases r2 with
        | false =>
            have F0 : Aside (rightClm xs = false) := badClm_ok HX.out (by rw [OK.out]; rfl)
            go_wp2_with (go_at_call 35; first | (with_reducible refine (H2.out _).mono ?_; rintro e w' ⟨rfl, rfl⟩) | (with_reducible refine (H3.out _).mono ?_; rintro e w' ⟨rfl, rfl⟩) | (with_reducible refine (H4.out _).mono ?_; rintro e w' ⟨rfl, rfl⟩) | (with_reducible refine (H5.out _).mono ?_; rintro e w' ⟨rfl, rfl⟩) | (with_reducible refine (H6.out _).mono ?_; rintro e w' ⟨rfl, rfl⟩) | (with_reducible refine (H7.out _).mono ?_; rintro e w' ⟨rfl, rfl⟩))
            go_ret
            exact ⟨by rw [F0.out]; rfl, BB.out⟩
        | true =>
          cases r3 with
          | false =>
              have F0 : Aside (rightClm xs = false) := badClm_ok HX.out (by rw [OK.out]; rfl)
              go_wp2_with (go_at_call 35; first | (with_reducible refine (H2.out _).mono ?_; rintro e w' ⟨rfl, rfl⟩) | (with_reducible refine (H3.out _).mono ?_; rintro e w' ⟨rfl, rfl⟩) | (with_reducible refine (H4.out _).mono ?_; rintro e w' ⟨rfl, rfl⟩) | (with_reducible refine (H5.out _).mono ?_; rintro e w' ⟨rfl, rfl⟩) | (with_reducible refine (H6.out _).mono ?_; rintro e w' ⟨rfl, rfl⟩) | (with_reducible refine (H7.out _).mono ?_; rintro e w' ⟨rfl, rfl⟩))
              go_ret
              exact ⟨by rw [F0.out]; rfl, BB.out⟩
          | true =>
            cases r4 with
            | false =>
                have F0 : Aside (rightClm xs = false) := badClm_ok HX.out (by rw [OK.out]; rfl)
                go_wp2_with (go_at_call 35; first | (with_reducible refine (H2.out _).mono ?_; rintro e w' ⟨rfl, rfl⟩) | (with_reducible refine (H3.out _).mono ?_; rintro e w' ⟨rfl, rfl⟩) | (with_reducible refine (H4.out _).mono ?_; rintro e w' ⟨rfl, rfl⟩) | (with_reducible refine (H5.out _).mono ?_; rintro e w' ⟨rfl, rfl⟩) | (with_reducible refine (H6.out _).mono ?_; rintro e w' ⟨rfl, rfl⟩) | (with_reducible refine (H7.out _).mono ?_; rintro e w' ⟨rfl, rfl⟩))
                go_ret
                exact ⟨by rw [F0.out]; rfl, BB.out⟩
            | true =>
              cases r5 with
              | false =>
                  have F0 : Aside (rightClm xs = false) := badClm_ok HX.out (by rw [OK.out]; rfl)
                  go_wp2_with (go_at_call 35; first | (with_reducible refine (H2.out _).mono ?_; rintro e w' ⟨rfl, rfl⟩) | (with_reducible refine (H3.out _).mono ?_; rintro e w' ⟨rfl, rfl⟩) | (with_reducible refine (H4.out _).mono ?_; rintro e w' ⟨rfl, rfl⟩) | (with_reducible refine (H5.out _).mono ?_; rintro e w' ⟨rfl, rfl⟩) | (with_reducible refine (H6.out _).mono ?_; rintro e w' ⟨rfl, rfl⟩) | (with_reducible refine (H7.out _).mono ?_; rintro e w' ⟨rfl, rfl⟩))
                  go_ret
                  exact ⟨by rw [F0.out]; rfl, BB.out⟩
              | true =>
                cases r6 with
                | false =>
                    have F0 : Aside (rightClm xs = false) := badClm_ok HX.out (by rw [OK.out]; rfl)
                    go_wp2_with (go_at_call 35; first | (with_reducible refine (H2.out _).mono ?_; rintro e w' ⟨rfl, rfl⟩) | (with_reducible refine (H3.out _).mono ?_; rintro e w' ⟨rfl, rfl⟩) | (with_reducible refine (H4.out _).mono ?_; rintro e w' ⟨rfl, rfl⟩) | (with_reducible refine (H5.out _).mono ?_; rintro e w' ⟨rfl, rfl⟩) | (with_reducible refine (H6.out _).mono ?_; rintro e w' ⟨rfl, rfl⟩) | (with_reducible refine (H7.out _).mono ?_; rintro e w' ⟨rfl, rfl⟩))
                    go_ret
                    exact ⟨by rw [F0.out]; rfl, BB.out⟩
                | true =>
                  cases r7 with
                  | false =>
                      have F0 : Aside (rightClm xs = false) := badClm_ok HX.out (by rw [OK.out]; rfl)
                      go_wp2_with (go_at_call 35; first | (with_reducible refine (H2.out _).mono ?_; rintro e w' ⟨rfl, rfl⟩) | (with_reducible refine (H3.out _).mono ?_; rintro e w' ⟨rfl, rfl⟩) | (with_reducible refine (H4.out _).mono ?_; rintro e w' ⟨rfl, rfl⟩) | (with_reducible refine (H5.out _).mono ?_; rintro e w' ⟨rfl, rfl⟩) | (with_reducible refine (H6.out _).mono ?_; rintro e w' ⟨rfl, rfl⟩) | (with_reducible refine (H7.out _).mono ?_; rintro e w' ⟨rfl, rfl⟩))
                      go_ret
                      exact ⟨by rw [F0.out]; rfl, BB.out⟩
                  | true =>
                      have hok : Aside (okClm x = true) := by
                        show _ = _
                        rw [OK.out]; rfl
                      go_wp2_with (go_at_call 35; first | (with_reducible refine (H2.out _).mono ?_; rintro e w' ⟨rfl, rfl⟩) | (with_reducible refine (H3.out _).mono ?_; rintro e w' ⟨rfl, rfl⟩) | (with_reducible refine (H4.out _).mono ?_; rintro e w' ⟨rfl, rfl⟩) | (with_reducible refine (H5.out _).mono ?_; rintro e w' ⟨rfl, rfl⟩) | (with_reducible refine (H6.out _).mono ?_; rintro e w' ⟨rfl, rfl⟩) | (with_reducible refine (H7.out _).mono ?_; rintro e w' ⟨rfl, rfl⟩))
                      have kx0 : Blk (wr.alloc (.cells #[.int .i64 x.id, .int .i64 x.item, .int .i64 x.at_, .int .u8 x.kind, .int .i64 x.post, .int .i64 x.val] 90)) wr.heap.size #[.int .i64 x.id, .int .i64 x.item, .int .i64 x.at_, .int .u8 x.kind, .int .i64 x.post, .int .i64 x.val] 90 := Blk.new rfl
                      generalize hWb : wr.alloc (.cells #[.int .i64 x.id, .int .i64 x.item, .int .i64 x.at_, .int .u8 x.kind, .int .i64 x.post, .int .i64 x.val] 90) = Wb at kx0 BB
                      try rw [hWb]
                      have hbw : b < wr.heap.size := hb
                      clear hWb hl0 hl1 hl2 hl3 hl4 hl5 hb
                      have KX := Lib.hid kx0
                      clear kx0
                      go_loopg [5] j (fun gg s5 wr => ∃ k : Nat, k ≤ j ∧ j - k ≤ gg ∧ s5 = .int .i64 k ∧ Aside (Below Wb.heap.size Wb wr) ∧ Aside (∀ (i : Nat) (y : Clm), i < k → xs[i]? = some y → y.id ≠ x.id))
                      case atStart => exact ⟨0, Nat.zero_le _, by omega, rfl, Below.refl _ _, fun i y h => absurd h (Nat.not_lt_zero _)⟩
                      case round =>
                        obtain ⟨k, hk, hg2, rfl, BK, G⟩ := hrel
                        have bz := BB.out.trans (BK.out.mono BB.out.size)
                        by_cases hkj : k < j
                        · have hy : xs[k]? = some xs[k] := List.getElem?_eq_getElem (by omega)
                          obtain ⟨b', o', hbo, hb', hl⟩ := (HR.out.below (Nat.le_refl _) bz).at hy
                          simp only [Option.some.injEq, Addr.mk.injEq, and_true] at hbo
                          obtain ⟨rfl, rfl⟩ := hbo
                          generalize xs[k] = y at hy hl
                          have hl0 := hl 0 _ rfl
                          rw [Nat.add_zero] at hl0
                          have kx := (KX.out.below BK.out KX.out.lt)
                          have hx0 := (show _ = some (Value.int .i64 x.id) from kx.cells 0)
                          replace hl0 := fun p : Ex wr => p.cell hb' hl0
                          replace hx0 := fun p : Ex wr => p.cell kx.lt hx0
                          clear hl kx
                          have HY := Lib.hid hy
                          clear hy
                          cases h8 : y.id == x.id with
                          | true =>
                            have F0 : Aside (rightClm xs = false) := badClm_dup HY.out HX.out hkj (by simpa using h8)
                            go_wp2_with fail
                            (refine wp_region_quiet_ex (by kernel_rfl) (by kernel_rfl) ?_; (repeat (go_big_quiet_step ((fail)))); refine wpQuiet_nil ?_; intro wq hw'; obtain ⟨⟨_, hq⟩, hw''⟩ := hw'; subst hw'')
                            go_wp2_with fail
                            go_ret
                            exact ⟨by rw [F0.out]; rfl, bz.trans (hq.mono bz.size)⟩
                          | false =>
                            have hne : Aside (y.id ≠ x.id) := by show y.id ≠ x.id; simpa using h8
                            have HB := Lib.hid bz
                            go_wp2_with fail
                            (refine wp_region_quiet_ex (by kernel_rfl) (by kernel_rfl) ?_; (repeat (go_big_quiet_step ((fail)))); refine wpQuiet_nil ?_; intro wq hw'; obtain ⟨⟨_, hq⟩, hw''⟩ := hw'; subst hw'')
                            have HQ := Lib.hid (BK.out.trans (hq.mono BK.out.size))
                            clear bz hl0 hx0
                            go_wp2_with fail
                            go_roundg (j - (k + 1))
                            case measure => omega
                            case rel =>
                              refine ⟨k + 1, by omega, by omega, by go_num, HQ.out, (show Aside _ from fun i z hi hz => ?_)⟩
                              by_cases e : i = k
                              · subst e; rw [HY.out] at hz; cases hz; exact hne.out
                              · exact G.out i z (by omega) hz
                        · have hkj' : k = j := by omega
                          subst hkj'
                          have hg' : ¬ (k : Int) < (k : Int) := by omega
                          have HB := Lib.hid bz
                          clear bz
                          go_wp2_with fail
                          go_roundg (xs.length - (k + 1))
                          case measure => omega
                          case rel =>
                            refine ⟨k + 1, by omega, by omega, by go_num, HB.out, (show Aside _ from ⟨fun i z hi hz => ?_, fun i m u v him hm hu hv => ?_⟩)⟩
                            · by_cases e : i = k
                              · subst e; rw [HX.out] at hz; cases hz; exact hok.out
                              · exact F.out.1 i z (by omega) hz
                            · by_cases e : m = k
                              · subst e; rw [HX.out] at hv; cases hv; exact G.out i u him hu
                              · exact F.out.2 i m u v him (by omega) hu hv
      · have hjn : j = xs.length := by omega
        have F0 : Aside (rightClm xs = true) := goodClm hlen (fun k x hk => F.out.1 k x (by rw [hjn]; exact (List.getElem?_eq_some_iff.1 hk).1) hk) (fun i k x y hik hx hy => F.out.2 i k x y hik (by rw [hjn]; exact (List.getElem?_eq_some_iff.1 hy).1) hx hy)
        clear F
        have hg' : ¬ (j : Int) < (xs.length : Int) := by omega
        go_wp2_with fail
        go_ret
        exact ⟨by rw [F0.out]; rfl, BW.out⟩
  · have hlen' : (500 : Int) < (xs.length : Int) := by omega
    rw [badClm_len hlen]
    go_enter Tryz.func44, Tryz.ntmps44
    go_wp2_with fail
    go_ret
    exact ⟨rfl, Below.refl _ _⟩
end Go.Proofs.YtnnppnlekpadnaaGreat
