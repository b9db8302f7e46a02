/- Contract of claim.all at the four lists of package claim. -/
import Derived.Test.YtnnppnlekpadnaaGreatAll
import Derived.IntWalk
namespace Go.Proofs.YtnnppnlekpadnaaGreat
open Go.RowKit Go.Proofs
set_option maxRecDepth 100000

section
set_option maxHeartbeats 400000 in
theorem allStd {ok : Std → Bool} (hok : OkCStd ok) {cmp : Std → Std → Int} (hcmp : CmpCStd cmp) (A : Option Addr) (c : Nat) (xs : List Std) (most : Int) (w : World) (hr : Rd encStd 4 w A xs) (hn : xs.length ≤ 1000000) (hm : most ≤ 1000000) (hm0 : 0 ≤ most) :
    Calls Tryz.prog 31 #[.slice A xs.length c, .int .i64 most, .func (.func 32) #[] #[], .func (.func 34) #[] #[]] w fun e w' => e = .returned (.bool (allB xs most ok cmp)) ∧ Below w.heap.size w w' := by
  by_cases hlen : most < (xs.length : Int)
  · have e : allB xs most ok cmp = false := by unfold allB; rw [decide_eq_false (by omega)]; rfl
    rw [e]; clear e
    go_enter Tryz.func31, Tryz.ntmps31
    go_wp2_with fail
    go_ret
    exact ⟨rfl, (Below.refl _ _).alloc (Nat.le_refl _) _⟩
  · have hbox : Below w.heap.size w (w.alloc (.cells #[.func (.func 32) #[] #[]] 67)) := (Below.refl _ _).alloc (Nat.le_refl _) _
    cases hall : xs.all ok with
    | false =>
      have e : allB xs most ok cmp = false := by unfold allB; rw [hall]; simp
      rw [e]; clear e
      have hcall := containsStd hok A c xs w.heap.size _ (hr.below (Nat.le_refl _) hbox) hn (by simp) (by simp) (r := true) (by rw [hall]; rfl) rfl
      clear hr hall
      go_enter Tryz.func31, Tryz.ntmps31
      go_wp2_with fail
      refine hcall.mono ?_
      rintro e w1 ⟨rfl, hb1⟩
      go_wp2_with fail
      go_ret
      exact ⟨rfl, hbox.trans (hb1.mono (by first | (simp; done) | (simp; omega) | omega))⟩
    | true =>
      have e : allB xs most ok cmp = ordered cmp xs := by unfold allB; rw [hall, decide_eq_true (by omega)]; rfl
      rw [e]; clear e
      have hcall := containsStd hok A c xs w.heap.size _ (hr.below (Nat.le_refl _) hbox) hn (by simp) (by simp) (r := false) (by rw [hall]; rfl) rfl
      clear hall hok
      have C := Lib.hid hcmp
      clear hcmp
      go_enter Tryz.func31, Tryz.ntmps31
      go_wp2_with fail
      refine hcall.mono ?_
      rintro e w1 ⟨rfl, hb1⟩
      replace hb1 := hbox.trans (hb1.mono (by first | (simp; done) | (simp; omega) | omega))
      have hr1 := hr.below (Nat.le_refl _) hb1
      clear hr hcall hbox
      go_wp2_with fail
      go_loopg [9] xs.length (fun gg s9 wr => ∃ j : Nat, 1 ≤ j ∧ xs.length - j ≤ gg ∧ s9 = .int .i64 j ∧ Aside (Below w1.heap.size w1 wr) ∧ Aside (j ≤ xs.length → ordered cmp (xs.drop (j - 1)) = ordered cmp xs) ∧ Aside (j ≤ xs.length ∨ j = 1))
      case atStart => exact ⟨1, Nat.le_refl _, by omega, rfl, Below.refl _ _, by simp [Aside], Or.inr rfl⟩
      case round =>
        obtain ⟨j, hj1, hg, rfl, BW, Z, E⟩ := hrel
        by_cases hlt : j < xs.length
        · obtain ⟨b, o, rfl, hb, hl⟩ := (hr1.below (Nat.le_refl _) BW.out).at (List.getElem?_eq_getElem hlt)
          obtain ⟨b', o', hA', hb', hk⟩ := (hr1.below (Nat.le_refl _) BW.out).at (List.getElem?_eq_getElem (show j - 1 < xs.length by omega))
          simp at hA'
          obtain ⟨rfl, rfl⟩ := hA'
          have Z2 : Aside (ordered cmp xs = (decide (cmp xs[j - 1] xs[j] < 0) && ordered cmp (xs.drop j))) := ordered_drop cmp xs j hj1 hlt (Z.out (by omega))
          clear Z E hr1
          generalize xs[j] = y at hl Z2
          generalize xs[j - 1] = x at hk Z2
          have hl0 := hl 0 _ rfl; have hl1 := hl 1 _ rfl; have hl2 := hl 2 _ rfl; have hl3 := hl 3 _ rfl; rw [Nat.add_zero] at hl0; clear hl
          have hk0 := hk 0 _ rfl; have hk1 := hk 1 _ rfl; have hk2 := hk 2 _ rfl; have hk3 := hk 3 _ rfl; rw [Nat.add_zero] at hk0; clear hk
          go_wp2_with fail
          replace hl0 := fun p : Ex wr => p.cell hb hl0; replace hl1 := fun p : Ex wr => p.cell hb hl1; replace hl2 := fun p : Ex wr => p.cell hb hl2; replace hl3 := fun p : Ex wr => p.cell hb hl3
          replace hk0 := fun p : Ex wr => p.cell hb hk0; replace hk1 := fun p : Ex wr => p.cell hb hk1; replace hk2 := fun p : Ex wr => p.cell hb hk2; replace hk3 := fun p : Ex wr => p.cell hb hk3
          have s2 : ((j : Int) - 1).toNat = j - 1 := by omega
          have s3 : 0 ≤ (j : Int) - 1 := by omega
          have s4 : (j : Int) - 1 < xs.length := by omega
          (refine wp_region_quiet_ex (by kernel_rfl) (by kernel_rfl) ?_; (repeat (go_big_quiet_step ((go_at_call 34; refine Calls.ex_of (C.out x y _))))); refine wpQuiet_nil ?_; intro wq hw'; obtain ⟨⟨_, hq⟩, hw''⟩ := hw'; subst hw'')

          by_cases hc : cmp x y < 0
          · have hc' : ¬ (0 ≤ cmp x y) := by omega
            have Z3 : Aside (ordered cmp xs = ordered cmp (xs.drop j)) := by rw [Aside, Z2.out, decide_eq_true hc]; rfl
            clear s2 s3 s4
            go_wp2
            go_roundg (xs.length - (j + 1))
            case measure => omega
            case rel => exact ⟨j + 1, by omega, by omega, by go_num, BW.out.trans (hq.mono BW.out.size), by rw [Nat.add_sub_cancel]; exact fun _ => Z3.out.symm, Or.inl hlt⟩
          · have hc' : 0 ≤ cmp x y := by omega
            have Z3 : Aside (ordered cmp xs = false) := by rw [Aside, Z2.out, decide_eq_false hc]; rfl
            clear s2 s3 s4
            go_wp2
            go_ret
            exact ⟨by rw [Z3.out]; rfl, hb1.trans ((BW.out.trans (hq.mono BW.out.size)).mono hb1.size)⟩
        · go_wp2
          go_ret
          refine ⟨?_, hb1.trans (BW.out.mono hb1.size)⟩
          have hx : ordered cmp xs = true := by
            rcases E.out with h | h
            · have hj : j = xs.length := by omega
              rw [← Z.out h, hj]
              have hl : (xs.drop (xs.length - 1)).length ≤ 1 := by simp; omega
              match xs.drop (xs.length - 1), hl with
              | [], _ => rfl
              | [_], _ => rfl
            · have hl : xs.length ≤ 1 := by omega
              match xs, hl with
              | [], _ => rfl
              | [_], _ => rfl
          rw [hx]; rfl
end
section
set_option maxHeartbeats 400000 in
theorem allTerms {ok : Terms → Bool} (hok : OkCTerms ok) {cmp : Terms → Terms → Int} (hcmp : CmpCTerms cmp) (A : Option Addr) (c : Nat) (xs : List Terms) (most : Int) (w : World) (hr : Rd encTerms 7 w A xs) (hn : xs.length ≤ 1000000) (hm : most ≤ 1000000) (hm0 : 0 ≤ most) :
    Calls Tryz.prog 54 #[.slice A xs.length c, .int .i64 most, .func (.func 55) #[] #[], .func (.func 56) #[] #[]] w fun e w' => e = .returned (.bool (allB xs most ok cmp)) ∧ Below w.heap.size w w' := by
  by_cases hlen : most < (xs.length : Int)
  · have e : allB xs most ok cmp = false := by unfold allB; rw [decide_eq_false (by omega)]; rfl
    rw [e]; clear e
    go_enter Tryz.func54, Tryz.ntmps54
    go_wp2_with fail
    go_ret
    exact ⟨rfl, (Below.refl _ _).alloc (Nat.le_refl _) _⟩
  · have hbox : Below w.heap.size w (w.alloc (.cells #[.func (.func 55) #[] #[]] 98)) := (Below.refl _ _).alloc (Nat.le_refl _) _
    cases hall : xs.all ok with
    | false =>
      have e : allB xs most ok cmp = false := by unfold allB; rw [hall]; simp
      rw [e]; clear e
      have hcall := containsTerms hok A c xs w.heap.size _ (hr.below (Nat.le_refl _) hbox) hn (by simp) (by simp) (r := true) (by rw [hall]; rfl) rfl
      clear hr hall
      go_enter Tryz.func54, Tryz.ntmps54
      go_wp2_with fail
      refine hcall.mono ?_
      rintro e w1 ⟨rfl, hb1⟩
      go_wp2_with fail
      go_ret
      exact ⟨rfl, hbox.trans (hb1.mono (by first | (simp; done) | (simp; omega) | omega))⟩
    | true =>
      have e : allB xs most ok cmp = ordered cmp xs := by unfold allB; rw [hall, decide_eq_true (by omega)]; rfl
      rw [e]; clear e
      have hcall := containsTerms hok A c xs w.heap.size _ (hr.below (Nat.le_refl _) hbox) hn (by simp) (by simp) (r := false) (by rw [hall]; rfl) rfl
      clear hall hok
      have C := Lib.hid hcmp
      clear hcmp
      go_enter Tryz.func54, Tryz.ntmps54
      go_wp2_with fail
      refine hcall.mono ?_
      rintro e w1 ⟨rfl, hb1⟩
      replace hb1 := hbox.trans (hb1.mono (by first | (simp; done) | (simp; omega) | omega))
      have hr1 := hr.below (Nat.le_refl _) hb1
      clear hr hcall hbox
      go_wp2_with fail
      go_loopg [9] xs.length (fun gg s9 wr => ∃ j : Nat, 1 ≤ j ∧ xs.length - j ≤ gg ∧ s9 = .int .i64 j ∧ Aside (Below w1.heap.size w1 wr) ∧ Aside (j ≤ xs.length → ordered cmp (xs.drop (j - 1)) = ordered cmp xs) ∧ Aside (j ≤ xs.length ∨ j = 1))
      case atStart => exact ⟨1, Nat.le_refl _, by omega, rfl, Below.refl _ _, by simp [Aside], Or.inr rfl⟩
      case round =>
        obtain ⟨j, hj1, hg, rfl, BW, Z, E⟩ := hrel
        by_cases hlt : j < xs.length
        · obtain ⟨b, o, rfl, hb, hl⟩ := (hr1.below (Nat.le_refl _) BW.out).at (List.getElem?_eq_getElem hlt)
          obtain ⟨b', o', hA', hb', hk⟩ := (hr1.below (Nat.le_refl _) BW.out).at (List.getElem?_eq_getElem (show j - 1 < xs.length by omega))
          simp at hA'
          obtain ⟨rfl, rfl⟩ := hA'
          have Z2 : Aside (ordered cmp xs = (decide (cmp xs[j - 1] xs[j] < 0) && ordered cmp (xs.drop j))) := ordered_drop cmp xs j hj1 hlt (Z.out (by omega))
          clear Z E hr1
          generalize xs[j] = y at hl Z2
          generalize xs[j - 1] = x at hk Z2
          have hl0 := hl 0 _ rfl; have hl1 := hl 1 _ rfl; have hl2 := hl 2 _ rfl; have hl3 := hl 3 _ rfl; have hl4 := hl 4 _ rfl; have hl5 := hl 5 _ rfl; have hl6 := hl 6 _ rfl; rw [Nat.add_zero] at hl0; clear hl
          have hk0 := hk 0 _ rfl; have hk1 := hk 1 _ rfl; have hk2 := hk 2 _ rfl; have hk3 := hk 3 _ rfl; have hk4 := hk 4 _ rfl; have hk5 := hk 5 _ rfl; have hk6 := hk 6 _ rfl; rw [Nat.add_zero] at hk0; clear hk
          go_wp2_with fail
          replace hl0 := fun p : Ex wr => p.cell hb hl0; replace hl1 := fun p : Ex wr => p.cell hb hl1; replace hl2 := fun p : Ex wr => p.cell hb hl2; replace hl3 := fun p : Ex wr => p.cell hb hl3; replace hl4 := fun p : Ex wr => p.cell hb hl4; replace hl5 := fun p : Ex wr => p.cell hb hl5; replace hl6 := fun p : Ex wr => p.cell hb hl6
          replace hk0 := fun p : Ex wr => p.cell hb hk0; replace hk1 := fun p : Ex wr => p.cell hb hk1; replace hk2 := fun p : Ex wr => p.cell hb hk2; replace hk3 := fun p : Ex wr => p.cell hb hk3; replace hk4 := fun p : Ex wr => p.cell hb hk4; replace hk5 := fun p : Ex wr => p.cell hb hk5; replace hk6 := fun p : Ex wr => p.cell hb hk6
          have s2 : ((j : Int) - 1).toNat = j - 1 := by omega
          have s3 : 0 ≤ (j : Int) - 1 := by omega
          have s4 : (j : Int) - 1 < xs.length := by omega
          (refine wp_region_quiet_ex (by kernel_rfl) (by kernel_rfl) ?_; (repeat (go_big_quiet_step ((go_at_call 56; refine Calls.ex_of (C.out x y _))))); refine wpQuiet_nil ?_; intro wq hw'; obtain ⟨⟨_, hq⟩, hw''⟩ := hw'; subst hw'')

          by_cases hc : cmp x y < 0
          · have hc' : ¬ (0 ≤ cmp x y) := by omega
            have Z3 : Aside (ordered cmp xs = ordered cmp (xs.drop j)) := by rw [Aside, Z2.out, decide_eq_true hc]; rfl
            clear s2 s3 s4
            go_wp2
            go_roundg (xs.length - (j + 1))
            case measure => omega
            case rel => exact ⟨j + 1, by omega, by omega, by go_num, BW.out.trans (hq.mono BW.out.size), by rw [Nat.add_sub_cancel]; exact fun _ => Z3.out.symm, Or.inl hlt⟩
          · have hc' : 0 ≤ cmp x y := by omega
            have Z3 : Aside (ordered cmp xs = false) := by rw [Aside, Z2.out, decide_eq_false hc]; rfl
            clear s2 s3 s4
            go_wp2
            go_ret
            exact ⟨by rw [Z3.out]; rfl, hb1.trans ((BW.out.trans (hq.mono BW.out.size)).mono hb1.size)⟩
        · go_wp2
          go_ret
          refine ⟨?_, hb1.trans (BW.out.mono hb1.size)⟩
          have hx : ordered cmp xs = true := by
            rcases E.out with h | h
            · have hj : j = xs.length := by omega
              rw [← Z.out h, hj]
              have hl : (xs.drop (xs.length - 1)).length ≤ 1 := by simp; omega
              match xs.drop (xs.length - 1), hl with
              | [], _ => rfl
              | [_], _ => rfl
            · have hl : xs.length ≤ 1 := by omega
              match xs, hl with
              | [], _ => rfl
              | [_], _ => rfl
          rw [hx]; rfl
end
section
set_option maxHeartbeats 400000 in
theorem allSent {ok : Sent → Bool} (hok : OkCSent ok) {cmp : Sent → Sent → Int} (hcmp : CmpCSent cmp) (A : Option Addr) (c : Nat) (xs : List Sent) (most : Int) (w : World) (hr : Rd encSent 6 w A xs) (hn : xs.length ≤ 1000000) (hm : most ≤ 1000000) (hm0 : 0 ≤ most) :
    Calls Tryz.prog 61 #[.slice A xs.length c, .int .i64 most, .func (.func 62) #[] #[], .func (.func 63) #[] #[]] w fun e w' => e = .returned (.bool (allB xs most ok cmp)) ∧ Below w.heap.size w w' := by
  by_cases hlen : most < (xs.length : Int)
  · have e : allB xs most ok cmp = false := by unfold allB; rw [decide_eq_false (by omega)]; rfl
    rw [e]; clear e
    go_enter Tryz.func61, Tryz.ntmps61
    go_wp2_with fail
    go_ret
    exact ⟨rfl, (Below.refl _ _).alloc (Nat.le_refl _) _⟩
  · have hbox : Below w.heap.size w (w.alloc (.cells #[.func (.func 62) #[] #[]] 105)) := (Below.refl _ _).alloc (Nat.le_refl _) _
    cases hall : xs.all ok with
    | false =>
      have e : allB xs most ok cmp = false := by unfold allB; rw [hall]; simp
      rw [e]; clear e
      have hcall := containsSent hok A c xs w.heap.size _ (hr.below (Nat.le_refl _) hbox) hn (by simp) (by simp) (r := true) (by rw [hall]; rfl) rfl
      clear hr hall
      go_enter Tryz.func61, Tryz.ntmps61
      go_wp2_with fail
      refine hcall.mono ?_
      rintro e w1 ⟨rfl, hb1⟩
      go_wp2_with fail
      go_ret
      exact ⟨rfl, hbox.trans (hb1.mono (by first | (simp; done) | (simp; omega) | omega))⟩
    | true =>
      have e : allB xs most ok cmp = ordered cmp xs := by unfold allB; rw [hall, decide_eq_true (by omega)]; rfl
      rw [e]; clear e
      have hcall := containsSent hok A c xs w.heap.size _ (hr.below (Nat.le_refl _) hbox) hn (by simp) (by simp) (r := false) (by rw [hall]; rfl) rfl
      clear hall hok
      have C := Lib.hid hcmp
      clear hcmp
      go_enter Tryz.func61, Tryz.ntmps61
      go_wp2_with fail
      refine hcall.mono ?_
      rintro e w1 ⟨rfl, hb1⟩
      replace hb1 := hbox.trans (hb1.mono (by first | (simp; done) | (simp; omega) | omega))
      have hr1 := hr.below (Nat.le_refl _) hb1
      clear hr hcall hbox
      go_wp2_with fail
      go_loopg [9] xs.length (fun gg s9 wr => ∃ j : Nat, 1 ≤ j ∧ xs.length - j ≤ gg ∧ s9 = .int .i64 j ∧ Aside (Below w1.heap.size w1 wr) ∧ Aside (j ≤ xs.length → ordered cmp (xs.drop (j - 1)) = ordered cmp xs) ∧ Aside (j ≤ xs.length ∨ j = 1))
      case atStart => exact ⟨1, Nat.le_refl _, by omega, rfl, Below.refl _ _, by simp [Aside], Or.inr rfl⟩
      case round =>
        obtain ⟨j, hj1, hg, rfl, BW, Z, E⟩ := hrel
        by_cases hlt : j < xs.length
        · obtain ⟨b, o, rfl, hb, hl⟩ := (hr1.below (Nat.le_refl _) BW.out).at (List.getElem?_eq_getElem hlt)
          obtain ⟨b', o', hA', hb', hk⟩ := (hr1.below (Nat.le_refl _) BW.out).at (List.getElem?_eq_getElem (show j - 1 < xs.length by omega))
          simp at hA'
          obtain ⟨rfl, rfl⟩ := hA'
          have Z2 : Aside (ordered cmp xs = (decide (cmp xs[j - 1] xs[j] < 0) && ordered cmp (xs.drop j))) := ordered_drop cmp xs j hj1 hlt (Z.out (by omega))
          clear Z E hr1
          generalize xs[j] = y at hl Z2
          generalize xs[j - 1] = x at hk Z2
          have hl0 := hl 0 _ rfl; have hl1 := hl 1 _ rfl; have hl2 := hl 2 _ rfl; have hl3 := hl 3 _ rfl; have hl4 := hl 4 _ rfl; have hl5 := hl 5 _ rfl; rw [Nat.add_zero] at hl0; clear hl
          have hk0 := hk 0 _ rfl; have hk1 := hk 1 _ rfl; have hk2 := hk 2 _ rfl; have hk3 := hk 3 _ rfl; have hk4 := hk 4 _ rfl; have hk5 := hk 5 _ rfl; rw [Nat.add_zero] at hk0; clear hk
          go_wp2_with fail
          replace hl0 := fun p : Ex wr => p.cell hb hl0; replace hl1 := fun p : Ex wr => p.cell hb hl1; replace hl2 := fun p : Ex wr => p.cell hb hl2; replace hl3 := fun p : Ex wr => p.cell hb hl3; replace hl4 := fun p : Ex wr => p.cell hb hl4; replace hl5 := fun p : Ex wr => p.cell hb hl5
          replace hk0 := fun p : Ex wr => p.cell hb hk0; replace hk1 := fun p : Ex wr => p.cell hb hk1; replace hk2 := fun p : Ex wr => p.cell hb hk2; replace hk3 := fun p : Ex wr => p.cell hb hk3; replace hk4 := fun p : Ex wr => p.cell hb hk4; replace hk5 := fun p : Ex wr => p.cell hb hk5
          have s2 : ((j : Int) - 1).toNat = j - 1 := by omega
          have s3 : 0 ≤ (j : Int) - 1 := by omega
          have s4 : (j : Int) - 1 < xs.length := by omega
          (refine wp_region_quiet_ex (by kernel_rfl) (by kernel_rfl) ?_; (repeat (go_big_quiet_step ((go_at_call 63; refine Calls.ex_of (C.out x y _))))); refine wpQuiet_nil ?_; intro wq hw'; obtain ⟨⟨_, hq⟩, hw''⟩ := hw'; subst hw'')

          by_cases hc : cmp x y < 0
          · have hc' : ¬ (0 ≤ cmp x y) := by omega
            have Z3 : Aside (ordered cmp xs = ordered cmp (xs.drop j)) := by rw [Aside, Z2.out, decide_eq_true hc]; rfl
            clear s2 s3 s4
            go_wp2
            go_roundg (xs.length - (j + 1))
            case measure => omega
            case rel => exact ⟨j + 1, by omega, by omega, by go_num, BW.out.trans (hq.mono BW.out.size), by rw [Nat.add_sub_cancel]; exact fun _ => Z3.out.symm, Or.inl hlt⟩
          · have hc' : 0 ≤ cmp x y := by omega
            have Z3 : Aside (ordered cmp xs = false) := by rw [Aside, Z2.out, decide_eq_false hc]; rfl
            clear s2 s3 s4
            go_wp2
            go_ret
            exact ⟨by rw [Z3.out]; rfl, hb1.trans ((BW.out.trans (hq.mono BW.out.size)).mono hb1.size)⟩
        · go_wp2
          go_ret
          refine ⟨?_, hb1.trans (BW.out.mono hb1.size)⟩
          have hx : ordered cmp xs = true := by
            rcases E.out with h | h
            · have hj : j = xs.length := by omega
              rw [← Z.out h, hj]
              have hl : (xs.drop (xs.length - 1)).length ≤ 1 := by simp; omega
              match xs.drop (xs.length - 1), hl with
              | [], _ => rfl
              | [_], _ => rfl
            · have hl : xs.length ≤ 1 := by omega
              match xs, hl with
              | [], _ => rfl
              | [_], _ => rfl
          rw [hx]; rfl
end
section
set_option maxHeartbeats 400000 in
theorem allClm {ok : Clm → Bool} (hok : OkCClm ok) {cmp : Clm → Clm → Int} (hcmp : CmpCClm cmp) (A : Option Addr) (c : Nat) (xs : List Clm) (most : Int) (w : World) (hr : Rd encClm 6 w A xs) (hn : xs.length ≤ 1000000) (hm : most ≤ 1000000) (hm0 : 0 ≤ most) :
    Calls Tryz.prog 65 #[.slice A xs.length c, .int .i64 most, .func (.func 66) #[] #[], .func (.func 67) #[] #[]] w fun e w' => e = .returned (.bool (allB xs most ok cmp)) ∧ Below w.heap.size w w' := by
  by_cases hlen : most < (xs.length : Int)
  · have e : allB xs most ok cmp = false := by unfold allB; rw [decide_eq_false (by omega)]; rfl
    rw [e]; clear e
    go_enter Tryz.func65, Tryz.ntmps65
    go_wp2_with fail
    go_ret
    exact ⟨rfl, (Below.refl _ _).alloc (Nat.le_refl _) _⟩
  · have hbox : Below w.heap.size w (w.alloc (.cells #[.func (.func 66) #[] #[]] 107)) := (Below.refl _ _).alloc (Nat.le_refl _) _
    cases hall : xs.all ok with
    | false =>
      have e : allB xs most ok cmp = false := by unfold allB; rw [hall]; simp
      rw [e]; clear e
      have hcall := containsClm hok A c xs w.heap.size _ (hr.below (Nat.le_refl _) hbox) hn (by simp) (by simp) (r := true) (by rw [hall]; rfl) rfl
      clear hr hall
      go_enter Tryz.func65, Tryz.ntmps65
      go_wp2_with fail
      refine hcall.mono ?_
      rintro e w1 ⟨rfl, hb1⟩
      go_wp2_with fail
      go_ret
      exact ⟨rfl, hbox.trans (hb1.mono (by first | (simp; done) | (simp; omega) | omega))⟩
    | true =>
      have e : allB xs most ok cmp = ordered cmp xs := by unfold allB; rw [hall, decide_eq_true (by omega)]; rfl
      rw [e]; clear e
      have hcall := containsClm hok A c xs w.heap.size _ (hr.below (Nat.le_refl _) hbox) hn (by simp) (by simp) (r := false) (by rw [hall]; rfl) rfl
      clear hall hok
      have C := Lib.hid hcmp
      clear hcmp
      go_enter Tryz.func65, Tryz.ntmps65
      go_wp2_with fail
      refine hcall.mono ?_
      rintro e w1 ⟨rfl, hb1⟩
      replace hb1 := hbox.trans (hb1.mono (by first | (simp; done) | (simp; omega) | omega))
      have hr1 := hr.below (Nat.le_refl _) hb1
      clear hr hcall hbox
      go_wp2_with fail
      go_loopg [9] xs.length (fun gg s9 wr => ∃ j : Nat, 1 ≤ j ∧ xs.length - j ≤ gg ∧ s9 = .int .i64 j ∧ Aside (Below w1.heap.size w1 wr) ∧ Aside (j ≤ xs.length → ordered cmp (xs.drop (j - 1)) = ordered cmp xs) ∧ Aside (j ≤ xs.length ∨ j = 1))
      case atStart => exact ⟨1, Nat.le_refl _, by omega, rfl, Below.refl _ _, by simp [Aside], Or.inr rfl⟩
      case round =>
        obtain ⟨j, hj1, hg, rfl, BW, Z, E⟩ := hrel
        by_cases hlt : j < xs.length
        · obtain ⟨b, o, rfl, hb, hl⟩ := (hr1.below (Nat.le_refl _) BW.out).at (List.getElem?_eq_getElem hlt)
          obtain ⟨b', o', hA', hb', hk⟩ := (hr1.below (Nat.le_refl _) BW.out).at (List.getElem?_eq_getElem (show j - 1 < xs.length by omega))
          simp at hA'
          obtain ⟨rfl, rfl⟩ := hA'
          have Z2 : Aside (ordered cmp xs = (decide (cmp xs[j - 1] xs[j] < 0) && ordered cmp (xs.drop j))) := ordered_drop cmp xs j hj1 hlt (Z.out (by omega))
          clear Z E hr1
          generalize xs[j] = y at hl Z2
          generalize xs[j - 1] = x at hk Z2
          have hl0 := hl 0 _ rfl; have hl1 := hl 1 _ rfl; have hl2 := hl 2 _ rfl; have hl3 := hl 3 _ rfl; have hl4 := hl 4 _ rfl; have hl5 := hl 5 _ rfl; rw [Nat.add_zero] at hl0; clear hl
          have hk0 := hk 0 _ rfl; have hk1 := hk 1 _ rfl; have hk2 := hk 2 _ rfl; have hk3 := hk 3 _ rfl; have hk4 := hk 4 _ rfl; have hk5 := hk 5 _ rfl; rw [Nat.add_zero] at hk0; clear hk
          go_wp2_with fail
          replace hl0 := fun p : Ex wr => p.cell hb hl0; replace hl1 := fun p : Ex wr => p.cell hb hl1; replace hl2 := fun p : Ex wr => p.cell hb hl2; replace hl3 := fun p : Ex wr => p.cell hb hl3; replace hl4 := fun p : Ex wr => p.cell hb hl4; replace hl5 := fun p : Ex wr => p.cell hb hl5
          replace hk0 := fun p : Ex wr => p.cell hb hk0; replace hk1 := fun p : Ex wr => p.cell hb hk1; replace hk2 := fun p : Ex wr => p.cell hb hk2; replace hk3 := fun p : Ex wr => p.cell hb hk3; replace hk4 := fun p : Ex wr => p.cell hb hk4; replace hk5 := fun p : Ex wr => p.cell hb hk5
          have s2 : ((j : Int) - 1).toNat = j - 1 := by omega
          have s3 : 0 ≤ (j : Int) - 1 := by omega
          have s4 : (j : Int) - 1 < xs.length := by omega
          (refine wp_region_quiet_ex (by kernel_rfl) (by kernel_rfl) ?_; (repeat (go_big_quiet_step ((go_at_call 67; refine Calls.ex_of (C.out x y _))))); refine wpQuiet_nil ?_; intro wq hw'; obtain ⟨⟨_, hq⟩, hw''⟩ := hw'; subst hw'')

          by_cases hc : cmp x y < 0
          · have hc' : ¬ (0 ≤ cmp x y) := by omega
            have Z3 : Aside (ordered cmp xs = ordered cmp (xs.drop j)) := by rw [Aside, Z2.out, decide_eq_true hc]; rfl
            clear s2 s3 s4
            go_wp2
            go_roundg (xs.length - (j + 1))
            case measure => omega
            case rel => exact ⟨j + 1, by omega, by omega, by go_num, BW.out.trans (hq.mono BW.out.size), by rw [Nat.add_sub_cancel]; exact fun _ => Z3.out.symm, Or.inl hlt⟩
          · have hc' : 0 ≤ cmp x y := by omega
            have Z3 : Aside (ordered cmp xs = false) := by rw [Aside, Z2.out, decide_eq_false hc]; rfl
            clear s2 s3 s4
            go_wp2
            go_ret
            exact ⟨by rw [Z3.out]; rfl, hb1.trans ((BW.out.trans (hq.mono BW.out.size)).mono hb1.size)⟩
        · go_wp2
          go_ret
          refine ⟨?_, hb1.trans (BW.out.mono hb1.size)⟩
          have hx : ordered cmp xs = true := by
            rcases E.out with h | h
            · have hj : j = xs.length := by omega
              rw [← Z.out h, hj]
              have hl : (xs.drop (xs.length - 1)).length ≤ 1 := by simp; omega
              match xs.drop (xs.length - 1), hl with
              | [], _ => rfl
              | [_], _ => rfl
            · have hl : xs.length ≤ 1 := by omega
              match xs, hl with
              | [], _ => rfl
              | [_], _ => rfl
          rw [hx]; rfl
end
end Go.Proofs.YtnnppnlekpadnaaGreat
