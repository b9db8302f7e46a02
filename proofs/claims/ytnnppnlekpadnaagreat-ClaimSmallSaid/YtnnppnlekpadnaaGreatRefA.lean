/- Contracts of the reference's in, ahead, Right and Promise. -/
import Derived.Test.YtnnppnlekpadnaaGreatCheck
namespace Go.Proofs.YtnnppnlekpadnaaGreat
open Go.RowKit Go.Proofs
set_option maxRecDepth 100000

theorem allB_false_ok {α : Type} {l : List α} {most : Int} {ok : α → Bool} {cmp : α → α → Int} {j : Nat} {x : α} (hj : l[j]? = some x) (h : ok x = false) : allB l most ok cmp = false := by
  unfold allB
  have : l.all ok = false := by
    rw [List.all_eq_false]; exact ⟨x, List.mem_of_getElem? hj, by simp [h]⟩
  rw [this]; simp
theorem ordered_false {α : Type} {cmp : α → α → Int} : ∀ (l : List α) (j : Nat) (x y : α), l[j]? = some x → l[j + 1]? = some y → ¬ cmp x y < 0 → ordered cmp l = false
  | [], _, _, _, h, _, _ => by simp at h
  | [_], _, _, _, _, h, _ => by simp at h
  | a :: b :: r, 0, x, y, h1, h2, h => by
    simp at h1 h2; subst h1; subst h2
    simp only [ordered]; rw [decide_eq_false h]; rfl
  | a :: b :: r, j + 1, x, y, h1, h2, h => by
    have := ordered_false (b :: r) j x y (by simpa using h1) (by simpa using h2) h
    simp only [ordered]; rw [this]; simp
theorem allB_false_ord {α : Type} {l : List α} {most : Int} {ok : α → Bool} {cmp : α → α → Int} {j : Nat} {x y : α} (hx : l[j]? = some x) (hy : l[j + 1]? = some y) (h : ¬ cmp x y < 0) : allB l most ok cmp = false := by
  unfold allB
  rw [ordered_false l j x y hx hy h]; simp
theorem ordered_of {α : Type} {cmp : α → α → Int} : ∀ (l : List α), (∀ (j : Nat) (x y : α), l[j]? = some x → l[j + 1]? = some y → cmp x y < 0) → ordered cmp l = true
  | [], _ => rfl
  | [_], _ => rfl
  | a :: b :: r, h => by
    simp only [ordered]
    rw [decide_eq_true (h 0 a b rfl rfl), ordered_of (b :: r) (fun j x y h1 h2 => h (j + 1) x y (by simpa using h1) (by simpa using h2))]; rfl
theorem allB_true {α : Type} {l : List α} {most : Int} {ok : α → Bool} {cmp : α → α → Int} (h1 : ∀ (j : Nat) (x : α), l[j]? = some x → ok x = true) (h2 : ∀ (j : Nat) (x y : α), l[j]? = some x → l[j + 1]? = some y → cmp x y < 0) : allB l most ok cmp = decide ((l.length : Int) ≤ most) := by
  unfold allB
  have : l.all ok = true := by
    rw [List.all_eq_true]; intro x hx
    obtain ⟨j, hj⟩ := List.mem_iff_getElem?.1 hx
    exact h1 j x hj
  rw [this, ordered_of l h2]; simp

theorem in_any (n lo hi : Int) (w : World) : Calls Tryz.prog 35 #[.int .i64 n, .int .i64 lo, .int .i64 hi] w fun e w' => e = .returned (.bool (!(outB lo hi n))) ∧ w = w' := by
  by_cases h1 : lo ≤ n
  · have e : (!(outB lo hi n)) = decide (n ≤ hi) := by
      unfold outB; rw [decide_eq_false (show ¬ n < lo by omega), Bool.false_or, ← decide_not]; exact decide_eq_decide.2 (by omega)
    rw [e]; clear e
    go_enter Tryz.func35, Tryz.ntmps35
    go_wp2
    go_ret
    exact ⟨rfl, rfl⟩
  · have e : (!(outB lo hi n)) = false := by unfold outB; rw [decide_eq_true (show n < lo by omega)]; rfl
    rw [e]; clear e
    go_enter Tryz.func35, Tryz.ntmps35
    go_wp2
    go_ret
    exact ⟨rfl, rfl⟩

theorem ahead_any (x y : Std) (w : World) : Calls Tryz.prog 36 #[.agg #[.int .u8 x.cl, .int .i64 x.fr, .int .i64 x.to, .int .i64 x.mi], .agg #[.int .u8 y.cl, .int .i64 y.fr, .int .i64 y.to, .int .i64 y.mi]] w fun e w' => e = .returned (.bool (decide (cmpStd x y < 0))) ∧ Below w.heap.size w w' := by
  have e : decide (cmpStd x y < 0) = (if x.cl = y.cl then (if x.fr = y.fr then decide (x.to < y.to) else decide (x.fr < y.fr)) else decide (x.cl < y.cl)) := by
    have h := cmpStd_lt x y
    unfold ltStd at h
    split
    · split
      · exact decide_eq_decide.2 (by omega)
      · exact decide_eq_decide.2 (by omega)
    · exact decide_eq_decide.2 (by omega)
  rw [e]; clear e
  by_cases h1 : x.cl = y.cl
  · have h1' : (x.cl == y.cl) = true := by simpa using h1
    have h1'' : (x.cl != y.cl) = false := by simpa using h1
    rw [if_pos h1]; clear h1
    by_cases h2 : x.fr = y.fr
    · have h2' : (x.fr == y.fr) = true := by simpa using h2
      have h2'' : (x.fr != y.fr) = false := by simpa using h2
      rw [if_pos h2]; clear h2
      go_enter Tryz.func36, Tryz.ntmps36
      go_wp2
      go_ret
      exact ⟨rfl, ((Below.refl _ _).alloc (Nat.le_refl _) _).alloc (by first | (simp; done) | (simp; omega) | omega) _⟩
    · have h2' : (x.fr == y.fr) = false := by simpa using h2
      have h2'' : (x.fr != y.fr) = true := by simpa using h2
      rw [if_neg h2]; clear h2
      go_enter Tryz.func36, Tryz.ntmps36
      go_wp2
      go_ret
      exact ⟨rfl, ((Below.refl _ _).alloc (Nat.le_refl _) _).alloc (by first | (simp; done) | (simp; omega) | omega) _⟩
  · have h1' : (x.cl == y.cl) = false := by simpa using h1
    have h1'' : (x.cl != y.cl) = true := by simpa using h1
    rw [if_neg h1]; clear h1
    go_enter Tryz.func36, Tryz.ntmps36
    go_wp2
    go_ret
    exact ⟨rfl, ((Below.refl _ _).alloc (Nat.le_refl _) _).alloc (by first | (simp; done) | (simp; omega) | omega) _⟩

theorem in_r {n lo hi : Int} {r : Bool} (h : (!(outB lo hi n)) = r) (w : World) : Calls Tryz.prog 35 #[.int .i64 n, .int .i64 lo, .int .i64 hi] w fun e w' => e = .returned (.bool r) ∧ w = w' := h ▸ in_any n lo hi w

theorem okStd_eq {x : Std} (hx : 0 ≤ x.cl) : okStd x = (!(x.cl == 0) && (!(outB 1 999999 x.fr) && (!(outB 1 999999 x.to) && !(outB 0 100000 x.mi)))) := by
  unfold okStd withinB
  have : decide (0 < x.cl) = !(x.cl == 0) := by
    rw [Bool.eq_iff_iff]; simp; omega
  rw [this]
  simp [Bool.and_assoc]

theorem decide_le_sub {n m : Nat} : decide ((n : Int) ≤ m) = decide (n ≤ m) := decide_eq_decide.2 (by omega)

set_option maxHeartbeats 2000000 in
theorem refRight (A : Option Addr) (c : Nat) (xs : List Std) (w : World) (hr : Rd encStd 4 w A xs) (hn : xs.length ≤ 1000000) (hu : ∀ x ∈ xs, 0 ≤ x.cl) :
    Calls Tryz.prog 12 #[.slice A xs.length c] w fun e w' => e = .returned (.bool (rightStd xs)) ∧ Below w.heap.size w w' := by
  have HU := Lib.hid hu
  clear hu
  go_enter Tryz.func12, Tryz.ntmps12
  go_wp2_with fail
  go_loopg [3] xs.length (fun gg s3 wr => ∃ j : Nat, j ≤ xs.length ∧ xs.length - j ≤ gg ∧ s3 = .int .i64 j ∧ Aside (Below w.heap.size w wr) ∧ Aside ((∀ (k : Nat) (x : Std), k < j → xs[k]? = some x → okStd x = true) ∧ (∀ (k : Nat) (x y : Std), k + 1 < j → xs[k]? = some x → xs[k + 1]? = some y → cmpStd x y < 0)))
  case atStart => exact ⟨0, Nat.zero_le _, by omega, rfl, Below.refl _ _, fun k x h => absurd h (Nat.not_lt_zero _), fun k x y h => absurd h (Nat.not_lt_zero _)⟩
  case round =>
    obtain ⟨j, hj, hg, rfl, BW, F⟩ := hrel
    by_cases hlt : j < xs.length
    · obtain ⟨b, o, rfl, hb, hl⟩ := (hr.below (Nat.le_refl _) BW.out).at (List.getElem?_eq_getElem hlt)
      have HX : Aside (xs[j]? = some xs[j]) := List.getElem?_eq_getElem hlt
      generalize xs[j] = x at hl HX
      have hok := okStd_eq (x := x) (HU.out x (List.mem_of_getElem? HX.out))
      generalize h1 : (x.cl == 0) = r1 at hok
      generalize h2 : (!(outB 1 999999 x.fr)) = r2 at hok
      generalize h3 : (!(outB 1 999999 x.to)) = r3 at hok
      generalize h4 : (!(outB 0 100000 x.mi)) = r4 at hok
      have H2 := Lib.hid (fun W => in_r h2 W)
      have H3 := Lib.hid (fun W => in_r h3 W)
      have H4 := Lib.hid (fun W => in_r h4 W)
      have OK := Lib.hid hok
      clear h2 h3 h4 hok
      have hy : 0 < j → xs[j - 1]? = some xs[j - 1] := fun _ => List.getElem?_eq_getElem (show j - 1 < xs.length by omega)
      obtain ⟨b', o', hA', hb', hk⟩ := (hr.below (Nat.le_refl _) BW.out).at (List.getElem?_eq_getElem (show j - 1 < xs.length by omega))
      simp at hA'
      obtain ⟨rfl, rfl⟩ := hA'
      generalize xs[j - 1] = y at hk hy
      have HY := Lib.hid hy
      clear hy hr
      obtain ⟨r5, h5⟩ : ∃ r5, r5 = decide (cmpStd y x < 0) := ⟨_, rfl⟩
      have HC := Lib.hid (fun W => ahead_any y x W)
      rw [← h5] at HC
      have H5 := Lib.hid h5
      clear h5
      have hl0 := hl 0 _ rfl; have hl1 := hl 1 _ rfl; have hl2 := hl 2 _ rfl; have hl3 := hl 3 _ rfl; rw [Nat.add_zero] at hl0; clear hl
      have hk0 := hk 0 _ rfl; have hk1 := hk 1 _ rfl; have hk2 := hk 2 _ rfl; have hk3 := hk 3 _ rfl; rw [Nat.add_zero] at hk0; clear hk
      go_wp2_with fail
      obtain ⟨Wb, hWb⟩ : ∃ Wb : World, Wb = wr.alloc (.cells #[.int .u8 x.cl, .int .i64 x.fr, .int .i64 x.to, .int .i64 x.mi] 27) := ⟨_, rfl⟩
      rw [← hWb]
      have bw : Below wr.heap.size wr Wb := by rw [hWb]; exact (Below.refl _ _).alloc (Nat.le_refl _) _
      have kx := exblk (W := Wb) (n := wr.heap.size) (arr := #[.int .u8 x.cl, .int .i64 x.fr, .int .i64 x.to, .int .i64 x.mi]) (T := 27) (fr := (0, 0)) (by rw [hWb]; exact blk_new rfl)
      have HWb := Lib.hid hWb
      clear hWb
      replace hk0 := fun p : Ex Wb => p.cell (Nat.lt_of_lt_of_le hb bw.size) ((bw.cell (p := ⟨b, _, none⟩) hb).trans hk0)
      replace hk1 := fun p : Ex Wb => p.cell (Nat.lt_of_lt_of_le hb bw.size) ((bw.cell (p := ⟨b, _, none⟩) hb).trans hk1)
      replace hk2 := fun p : Ex Wb => p.cell (Nat.lt_of_lt_of_le hb bw.size) ((bw.cell (p := ⟨b, _, none⟩) hb).trans hk2)
      replace hk3 := fun p : Ex Wb => p.cell (Nat.lt_of_lt_of_le hb bw.size) ((bw.cell (p := ⟨b, _, none⟩) hb).trans hk3)
      have BB := Lib.hid (BW.out.trans (bw.mono BW.out.size))
      clear hl0 hl1 hl2 hl3 hb hb' bw
      cases r1 with
      | true =>
          have F0 : Aside (rightStd xs = false) := allB_false_ok HX.out (by rw [OK.out]; rfl)
          (refine wp_region_quiet_ex (by kernel_rfl) (by kernel_rfl) ?_; (repeat (go_big_quiet_step ((go_at_call 35; first | (with_reducible refine Calls.ex_same (H2.out _)) | (with_reducible refine Calls.ex_same (H3.out _)) | (with_reducible refine Calls.ex_same (H4.out _)))))); refine wpQuiet_nil ?_; intro wq hw'; obtain ⟨⟨_, hq⟩, hw''⟩ := hw'; subst hw'')
          go_wp2_with fail
          go_ret
          exact ⟨by rw [F0.out]; rfl, BB.out.trans (hq.mono BB.out.size)⟩
      | false =>
        cases r2 with
        | false =>
            have F0 : Aside (rightStd xs = false) := allB_false_ok HX.out (by rw [OK.out]; rfl)
            (refine wp_region_quiet_ex (by kernel_rfl) (by kernel_rfl) ?_; (repeat (go_big_quiet_step ((go_at_call 35; first | (with_reducible refine Calls.ex_same (H2.out _)) | (with_reducible refine Calls.ex_same (H3.out _)) | (with_reducible refine Calls.ex_same (H4.out _)))))); refine wpQuiet_nil ?_; intro wq hw'; obtain ⟨⟨_, hq⟩, hw''⟩ := hw'; subst hw'')
            go_wp2_with fail
            go_ret
            exact ⟨by rw [F0.out]; rfl, BB.out.trans (hq.mono BB.out.size)⟩
        | true =>
          cases r3 with
          | false =>
              have F0 : Aside (rightStd xs = false) := allB_false_ok HX.out (by rw [OK.out]; rfl)
              (refine wp_region_quiet_ex (by kernel_rfl) (by kernel_rfl) ?_; (repeat (go_big_quiet_step ((go_at_call 35; first | (with_reducible refine Calls.ex_same (H2.out _)) | (with_reducible refine Calls.ex_same (H3.out _)) | (with_reducible refine Calls.ex_same (H4.out _)))))); refine wpQuiet_nil ?_; intro wq hw'; obtain ⟨⟨_, hq⟩, hw''⟩ := hw'; subst hw'')
              go_wp2_with fail
              go_ret
              exact ⟨by rw [F0.out]; rfl, BB.out.trans (hq.mono BB.out.size)⟩
          | true =>
            cases r4 with
            | false =>
                have F0 : Aside (rightStd xs = false) := allB_false_ok HX.out (by rw [OK.out]; rfl)
                (refine wp_region_quiet_ex (by kernel_rfl) (by kernel_rfl) ?_; (repeat (go_big_quiet_step ((go_at_call 35; first | (with_reducible refine Calls.ex_same (H2.out _)) | (with_reducible refine Calls.ex_same (H3.out _)) | (with_reducible refine Calls.ex_same (H4.out _)))))); refine wpQuiet_nil ?_; intro wq hw'; obtain ⟨⟨_, hq⟩, hw''⟩ := hw'; subst hw'')
                go_wp2_with fail
                go_ret
                exact ⟨by rw [F0.out]; rfl, BB.out.trans (hq.mono BB.out.size)⟩
            | true =>
                by_cases hj0 : 0 < j
                · have hj0' : (0 : Int) < (j : Int) := by omega
                  have s2 : ((j : Int) - 1).toNat = j - 1 := by omega
                  have s3 : 0 ≤ (j : Int) - 1 := by omega
                  have s4 : (j : Int) - 1 < xs.length := by omega
                  cases r5 with
                  | false =>
                    have F0 : Aside (rightStd xs = false) := allB_false_ord (HY.out hj0) (by rw [Nat.sub_add_cancel hj0]; exact HX.out) (of_decide_eq_false H5.out.symm)
                    (refine wp_region_quiet_ex (by kernel_rfl) (by kernel_rfl) ?_; (repeat (go_big_quiet_step ((first | (go_at_call 35; first | (with_reducible refine Calls.ex_same (H2.out _)) | (with_reducible refine Calls.ex_same (H3.out _)) | (with_reducible refine Calls.ex_same (H4.out _))) | (go_at_call 36; refine Calls.ex_of (HC.out _)))))); refine wpQuiet_nil ?_; intro wq hw'; obtain ⟨⟨_, hq⟩, hw''⟩ := hw'; subst hw'')
                    go_wp2_with fail
                    go_ret
                    exact ⟨by rw [F0.out]; rfl, BB.out.trans (hq.mono BB.out.size)⟩
                  | true =>
                    (refine wp_region_quiet_ex (by kernel_rfl) (by kernel_rfl) ?_; (repeat (go_big_quiet_step ((first | (go_at_call 35; first | (with_reducible refine Calls.ex_same (H2.out _)) | (with_reducible refine Calls.ex_same (H3.out _)) | (with_reducible refine Calls.ex_same (H4.out _))) | (go_at_call 36; refine Calls.ex_of (HC.out _)))))); refine wpQuiet_nil ?_; intro wq hw'; obtain ⟨⟨_, hq⟩, hw''⟩ := hw'; subst hw'')
                    clear s2 s3 s4
                    go_wp2_with fail
                    go_roundg (xs.length - (j + 1))
                    case measure => omega
                    case rel =>
                      refine ⟨j + 1, by omega, by omega, by go_num, BB.out.trans (hq.mono BB.out.size), (show Aside _ from ⟨fun k z hk hz => ?_, fun k u v hk hu hv => ?_⟩)⟩
                      · by_cases e : k = j
                        · subst e; rw [HX.out] at hz; cases hz; rw [OK.out]; rfl
                        · exact F.out.1 k z (by omega) hz
                      · by_cases e : k + 1 = j
                        · have e' : k = j - 1 := by omega
                          rw [e', HY.out hj0] at hu; cases hu
                          rw [e, HX.out] at hv; cases hv
                          exact of_decide_eq_true H5.out.symm
                        · exact F.out.2 k u v (by omega) hu hv
                · have hj0' : ¬ (0 : Int) < (j : Int) := by omega
                  (refine wp_region_quiet_ex (by kernel_rfl) (by kernel_rfl) ?_; (repeat (go_big_quiet_step ((first | (go_at_call 35; first | (with_reducible refine Calls.ex_same (H2.out _)) | (with_reducible refine Calls.ex_same (H3.out _)) | (with_reducible refine Calls.ex_same (H4.out _))))))); refine wpQuiet_nil ?_; intro wq hw'; obtain ⟨⟨_, hq⟩, hw''⟩ := hw'; subst hw'')
                  go_wp2_with fail
                  go_roundg (xs.length - (j + 1))
                  case measure => omega
                  case rel =>
                    refine ⟨j + 1, by omega, by omega, by go_num, BB.out.trans (hq.mono BB.out.size), (show Aside _ from ⟨fun k z hk hz => ?_, fun k u v hk hu hv => absurd hk (by omega)⟩)⟩
                    have e : k = j := by omega
                    subst e; rw [HX.out] at hz; cases hz; rw [OK.out]; rfl
    · have hjn : j = xs.length := by omega
      have F0 : Aside (rightStd xs = decide ((xs.length : Int) ≤ 500)) := allB_true (fun k x hk => F.out.1 k x (by rw [hjn]; exact (List.getElem?_eq_some_iff.1 hk).1) hk) (fun k x y hx hy => F.out.2 k x y (by rw [hjn]; exact (List.getElem?_eq_some_iff.1 hy).1) hx hy)
      clear F
      have hg' : ¬ (j : Int) < (xs.length : Int) := by omega
      go_wp2_with fail
      go_ret
      exact ⟨by rw [F0.out]; rfl, BW.out⟩
end Go.Proofs.YtnnppnlekpadnaaGreat
