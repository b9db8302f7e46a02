/- The contract of the reference's RightTerms. -/
import Derived.Test.YtnnppnlekpadnaaGreatRefA
namespace Go.Proofs.YtnnppnlekpadnaaGreat
open Go.RowKit Go.Proofs
set_option maxRecDepth 100000

theorem okTerms_eq {x : Terms} (hx : 0 ≤ x.cl) : okTerms x = (!(x.cl == 0) && (!(outB 0 100000 x.free) && (!(outB 0 10000 x.share) && (!(outB 0 10000 x.most) && (!(outB 0 1000000 x.after) && (!(outB 0 250000000000000 x.limit) && !(outB 0 3650 x.wi))))))) := by
  unfold okTerms withinB
  have : decide (0 < x.cl) = !(x.cl == 0) := by
    rw [Bool.eq_iff_iff]; simp; omega
  rw [this]
  simp [Bool.and_assoc]

set_option maxHeartbeats 8000000 in
theorem refTerms (A : Option Addr) (c : Nat) (xs : List Terms) (w : World) (hr : Rd encTerms 7 w A xs) (hn : xs.length ≤ 1000000) (hu : ∀ x ∈ xs, 0 ≤ x.cl) :
    Calls Tryz.prog 41 #[.slice A xs.length c] w fun e w' => e = .returned (.bool (rightTerms xs)) ∧ Below w.heap.size w w' := by
  have HU := Lib.hid hu
  clear hu
  go_enter Tryz.func41, Tryz.ntmps41
  go_wp2_with fail
  go_loopg [3] xs.length (fun gg s3 wr => ∃ j : Nat, j ≤ xs.length ∧ xs.length - j ≤ gg ∧ s3 = .int .i64 j ∧ Aside (Below w.heap.size w wr) ∧ Aside ((∀ (k : Nat) (x : Terms), k < j → xs[k]? = some x → okTerms x = true) ∧ (∀ (k : Nat) (x y : Terms), k + 1 < j → xs[k]? = some x → xs[k + 1]? = some y → cmpTerms x y < 0)))
  case atStart => exact ⟨0, Nat.zero_le _, by omega, rfl, Below.refl _ _, fun k x h => absurd h (Nat.not_lt_zero _), fun k x y h => absurd h (Nat.not_lt_zero _)⟩
  case round =>
    obtain ⟨j, hj, hg, rfl, BW, F⟩ := hrel
    by_cases hlt : j < xs.length
    · obtain ⟨b, o, rfl, hb, hl⟩ := (hr.below (Nat.le_refl _) BW.out).at (List.getElem?_eq_getElem hlt)
      have HX : Aside (xs[j]? = some xs[j]) := List.getElem?_eq_getElem hlt
      generalize xs[j] = x at hl HX
      have hok := okTerms_eq (x := x) (HU.out x (List.mem_of_getElem? HX.out))
      generalize h1 : (x.cl == 0) = r1 at hok
      generalize h2 : (!(outB 0 100000 x.free)) = r2 at hok
      generalize h3 : (!(outB 0 10000 x.share)) = r3 at hok
      generalize h4 : (!(outB 0 10000 x.most)) = r4 at hok
      generalize h5 : (!(outB 0 1000000 x.after)) = r5 at hok
      generalize h6 : (!(outB 0 250000000000000 x.limit)) = r6 at hok
      generalize h7 : (!(outB 0 3650 x.wi)) = r7 at hok
      have H2 := Lib.hid (fun W => in_r h2 W)
      have H3 := Lib.hid (fun W => in_r h3 W)
      have H4 := Lib.hid (fun W => in_r h4 W)
      have H5 := Lib.hid (fun W => in_r h5 W)
      have H6 := Lib.hid (fun W => in_r h6 W)
      have H7 := Lib.hid (fun W => in_r h7 W)
      have OK := Lib.hid hok
      clear h2 h3 h4 h5 h6 h7 hok
      have hy : 0 < j → xs[j - 1]? = some xs[j - 1] := fun _ => List.getElem?_eq_getElem (show j - 1 < xs.length by omega)
      obtain ⟨b', o', hA', hb', hk⟩ := (hr.below (Nat.le_refl _) BW.out).at (List.getElem?_eq_getElem (show j - 1 < xs.length by omega))
      simp at hA'
      obtain ⟨rfl, rfl⟩ := hA'
      generalize xs[j - 1] = y at hk hy
      have HY := Lib.hid hy
      clear hy hr
      have hl0 := hl 0 _ rfl; have hl1 := hl 1 _ rfl; have hl2 := hl 2 _ rfl; have hl3 := hl 3 _ rfl; have hl4 := hl 4 _ rfl; have hl5 := hl 5 _ rfl; have hl6 := hl 6 _ rfl; rw [Nat.add_zero] at hl0; clear hl
      have hk0 := hk 0 _ rfl
      rw [Nat.add_zero] at hk0
      clear hk
      go_wp2_with fail
      obtain ⟨Wb, hWb⟩ : ∃ Wb : World, Wb = wr.alloc (.cells #[.int .u8 x.cl, .int .i64 x.free, .int .i64 x.share, .int .i64 x.most, .int .i64 x.after, .int .i64 x.limit, .int .i64 x.wi] 118) := ⟨_, rfl⟩
      rw [← hWb]
      have bw : Below wr.heap.size wr Wb := by rw [hWb]; exact (Below.refl _ _).alloc (Nat.le_refl _) _
      have kx := exblk (W := Wb) (n := wr.heap.size) (arr := #[.int .u8 x.cl, .int .i64 x.free, .int .i64 x.share, .int .i64 x.most, .int .i64 x.after, .int .i64 x.limit, .int .i64 x.wi]) (T := 118) (fr := (0, 0)) (by rw [hWb]; exact blk_new rfl)
      have HWb := Lib.hid hWb
      clear hWb
      replace hk0 := fun p : Ex Wb => p.cell (Nat.lt_of_lt_of_le hb bw.size) ((bw.cell (p := ⟨b, _, none⟩) hb).trans hk0)
      have BB := Lib.hid (BW.out.trans (bw.mono BW.out.size))
      clear hl0 hl1 hl2 hl3 hl4 hl5 hl6 hb hb' bw
      have s0 : 0 < j ∨ ¬ 0 < j := by omega
      have s2 : 0 < j → ((j : Int) - 1).toNat = j - 1 := by omega
      have s3 : 0 < j → 0 ≤ (j : Int) - 1 := by omega
      have s4 : (j : Int) - 1 < xs.length := by omega
      cases r1 with
      | true =>
        have F0 : Aside (rightTerms xs = false) := allB_false_ok HX.out (by rw [OK.out]; rfl)
        (refine wp_region_quiet_ex (by kernel_rfl) (by kernel_rfl) ?_; (repeat (go_big_quiet_step ((fail)))); refine wpQuiet_nil ?_; intro wq hw'; obtain ⟨⟨_, hq⟩, hw''⟩ := hw'; subst hw'')
        go_wp2_with fail
        go_ret
        exact ⟨by rw [F0.out]; rfl, BB.out.trans (hq.mono BB.out.size)⟩
      | false =>
        have hgen : (0 < j ∧ x.cl ≤ y.cl) ∨ (0 < j ∧ y.cl < x.cl) ∨ ¬ 0 < j := by omega
        rcases hgen with ⟨hj0, hyx⟩ | hgen
        · have F0 : Aside (rightTerms xs = false) := allB_false_ord (HY.out hj0) (by rw [Nat.sub_add_cancel hj0]; exact HX.out) (by have := lt_cmpI y.cl x.cl; unfold cmpTerms; simp at this ⊢; omega)
          replace s2 := s2 hj0
          replace s3 := s3 hj0
          have hj0' : (0 : Int) < (j : Int) := by omega
          (refine wp_region_quiet_ex (by kernel_rfl) (by kernel_rfl) ?_; (repeat (go_big_quiet_step ((fail)))); refine wpQuiet_nil ?_; intro wq hw'; obtain ⟨⟨_, hq⟩, hw''⟩ := hw'; subst hw'')
          go_wp2_with fail
          go_ret
          exact ⟨by rw [F0.out]; rfl, BB.out.trans (hq.mono BB.out.size)⟩
        · have ORD : Aside (0 < j → cmpTerms y x < 0) := fun h => by have := lt_cmpI y.cl x.cl; unfold cmpTerms; simp at this ⊢; omega
          rcases hgen with ⟨hj0, hyx⟩ | hj0
          all_goals
            first
            | (replace s2 := s2 hj0; replace s3 := s3 hj0)
            | clear s2 s3 s4
            first
            | (have hj0' : (0 : Int) < (j : Int) := by omega)
            | (have hj0' : ¬ (0 : Int) < (j : Int) := by omega)
            try (have hyx' : ¬ x.cl ≤ y.cl := by omega)
            cases r2 with
            | false =>
                have F0 : Aside (rightTerms xs = false) := allB_false_ok HX.out (by rw [OK.out]; rfl)
                (refine wp_region_quiet_ex (by kernel_rfl) (by kernel_rfl) ?_; (repeat (go_big_quiet_step ((go_at_call 35; first | (with_reducible refine Calls.ex_same (H2.out _)) | (with_reducible refine Calls.ex_same (H3.out _)) | (with_reducible refine Calls.ex_same (H4.out _)) | (with_reducible refine Calls.ex_same (H5.out _)) | (with_reducible refine Calls.ex_same (H6.out _)) | (with_reducible refine Calls.ex_same (H7.out _)))))); refine wpQuiet_nil ?_; intro wq hw'; obtain ⟨⟨_, hq⟩, hw''⟩ := hw'; subst hw'')
                go_wp2_with fail
                go_ret
                exact ⟨by rw [F0.out]; rfl, BB.out.trans (hq.mono BB.out.size)⟩
            | true =>
              cases r3 with
              | false =>
                  have F0 : Aside (rightTerms xs = false) := allB_false_ok HX.out (by rw [OK.out]; rfl)
                  (refine wp_region_quiet_ex (by kernel_rfl) (by kernel_rfl) ?_; (repeat (go_big_quiet_step ((go_at_call 35; first | (with_reducible refine Calls.ex_same (H2.out _)) | (with_reducible refine Calls.ex_same (H3.out _)) | (with_reducible refine Calls.ex_same (H4.out _)) | (with_reducible refine Calls.ex_same (H5.out _)) | (with_reducible refine Calls.ex_same (H6.out _)) | (with_reducible refine Calls.ex_same (H7.out _)))))); refine wpQuiet_nil ?_; intro wq hw'; obtain ⟨⟨_, hq⟩, hw''⟩ := hw'; subst hw'')
                  go_wp2_with fail
                  go_ret
                  exact ⟨by rw [F0.out]; rfl, BB.out.trans (hq.mono BB.out.size)⟩
              | true =>
                cases r4 with
                | false =>
                    have F0 : Aside (rightTerms xs = false) := allB_false_ok HX.out (by rw [OK.out]; rfl)
                    (refine wp_region_quiet_ex (by kernel_rfl) (by kernel_rfl) ?_; (repeat (go_big_quiet_step ((go_at_call 35; first | (with_reducible refine Calls.ex_same (H2.out _)) | (with_reducible refine Calls.ex_same (H3.out _)) | (with_reducible refine Calls.ex_same (H4.out _)) | (with_reducible refine Calls.ex_same (H5.out _)) | (with_reducible refine Calls.ex_same (H6.out _)) | (with_reducible refine Calls.ex_same (H7.out _)))))); refine wpQuiet_nil ?_; intro wq hw'; obtain ⟨⟨_, hq⟩, hw''⟩ := hw'; subst hw'')
                    go_wp2_with fail
                    go_ret
                    exact ⟨by rw [F0.out]; rfl, BB.out.trans (hq.mono BB.out.size)⟩
                | true =>
                  cases r5 with
                  | false =>
                      have F0 : Aside (rightTerms xs = false) := allB_false_ok HX.out (by rw [OK.out]; rfl)
                      (refine wp_region_quiet_ex (by kernel_rfl) (by kernel_rfl) ?_; (repeat (go_big_quiet_step ((go_at_call 35; first | (with_reducible refine Calls.ex_same (H2.out _)) | (with_reducible refine Calls.ex_same (H3.out _)) | (with_reducible refine Calls.ex_same (H4.out _)) | (with_reducible refine Calls.ex_same (H5.out _)) | (with_reducible refine Calls.ex_same (H6.out _)) | (with_reducible refine Calls.ex_same (H7.out _)))))); refine wpQuiet_nil ?_; intro wq hw'; obtain ⟨⟨_, hq⟩, hw''⟩ := hw'; subst hw'')
                      go_wp2_with fail
                      go_ret
                      exact ⟨by rw [F0.out]; rfl, BB.out.trans (hq.mono BB.out.size)⟩
                  | true =>
                    cases r6 with
                    | false =>
                        have F0 : Aside (rightTerms xs = false) := allB_false_ok HX.out (by rw [OK.out]; rfl)
                        (refine wp_region_quiet_ex (by kernel_rfl) (by kernel_rfl) ?_; (repeat (go_big_quiet_step ((go_at_call 35; first | (with_reducible refine Calls.ex_same (H2.out _)) | (with_reducible refine Calls.ex_same (H3.out _)) | (with_reducible refine Calls.ex_same (H4.out _)) | (with_reducible refine Calls.ex_same (H5.out _)) | (with_reducible refine Calls.ex_same (H6.out _)) | (with_reducible refine Calls.ex_same (H7.out _)))))); refine wpQuiet_nil ?_; intro wq hw'; obtain ⟨⟨_, hq⟩, hw''⟩ := hw'; subst hw'')
                        go_wp2_with fail
                        go_ret
                        exact ⟨by rw [F0.out]; rfl, BB.out.trans (hq.mono BB.out.size)⟩
                    | true =>
                      cases r7 with
                      | false =>
                          have F0 : Aside (rightTerms xs = false) := allB_false_ok HX.out (by rw [OK.out]; rfl)
                          (refine wp_region_quiet_ex (by kernel_rfl) (by kernel_rfl) ?_; (repeat (go_big_quiet_step ((go_at_call 35; first | (with_reducible refine Calls.ex_same (H2.out _)) | (with_reducible refine Calls.ex_same (H3.out _)) | (with_reducible refine Calls.ex_same (H4.out _)) | (with_reducible refine Calls.ex_same (H5.out _)) | (with_reducible refine Calls.ex_same (H6.out _)) | (with_reducible refine Calls.ex_same (H7.out _)))))); refine wpQuiet_nil ?_; intro wq hw'; obtain ⟨⟨_, hq⟩, hw''⟩ := hw'; subst hw'')
                          go_wp2_with fail
                          go_ret
                          exact ⟨by rw [F0.out]; rfl, BB.out.trans (hq.mono BB.out.size)⟩
                      | true =>
                          (refine wp_region_quiet_ex (by kernel_rfl) (by kernel_rfl) ?_; (repeat (go_big_quiet_step ((go_at_call 35; first | (with_reducible refine Calls.ex_same (H2.out _)) | (with_reducible refine Calls.ex_same (H3.out _)) | (with_reducible refine Calls.ex_same (H4.out _)) | (with_reducible refine Calls.ex_same (H5.out _)) | (with_reducible refine Calls.ex_same (H6.out _)) | (with_reducible refine Calls.ex_same (H7.out _)))))); refine wpQuiet_nil ?_; intro wq hw'; obtain ⟨⟨_, hq⟩, hw''⟩ := hw'; subst hw'')
                          go_wp2_with fail
                          go_roundg (xs.length - (j + 1))
                          case measure => omega
                          case rel =>
                            refine ⟨j + 1, by omega, by omega, by go_num, BB.out.trans (hq.mono BB.out.size), (show Aside _ from ⟨fun k z hk hz => ?_, fun k u v hk hu hv => ?_⟩)⟩
                            · by_cases e : k = j
                              · subst e; rw [HX.out] at hz; cases hz; rw [OK.out]; rfl
                              · exact F.out.1 k z (by omega) hz
                            · by_cases e : k + 1 = j
                              · have hp : 0 < j := by omega
                                have e' : k = j - 1 := by omega
                                rw [e', HY.out hp] at hu; cases hu
                                rw [e, HX.out] at hv; cases hv
                                exact ORD.out hp
                              · exact F.out.2 k u v (by omega) hu hv
    · have hjn : j = xs.length := by omega
      have F0 : Aside (rightTerms xs = decide ((xs.length : Int) ≤ 200)) := allB_true (fun k x hk => F.out.1 k x (by rw [hjn]; exact (List.getElem?_eq_some_iff.1 hk).1) hk) (fun k x y hx hy => F.out.2 k x y (by rw [hjn]; exact (List.getElem?_eq_some_iff.1 hy).1) hx hy)
      clear F
      have hg' : ¬ (j : Int) < (xs.length : Int) := by omega
      go_wp2_with fail
      go_ret
      exact ⟨by rw [F0.out]; rfl, BW.out⟩
end Go.Proofs.YtnnppnlekpadnaaGreat
