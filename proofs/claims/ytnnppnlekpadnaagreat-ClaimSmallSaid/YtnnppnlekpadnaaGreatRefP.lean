/- Contract of the reference's Promise: it returns what claim.Promise returns. -/
import Derived.Test.YtnnppnlekpadnaaGreatRefA
namespace Go.Proofs.YtnnppnlekpadnaaGreat
open Go.RowKit Go.Proofs
set_option maxRecDepth 100000

theorem prom_hit {xs : List Std} {t : Std} (ho : ordered cmpStd xs = true) {j : Nat} {x : Std} (hj : xs[j]? = some x) (h : cmpStd x t = 0) : cntStd xs t = j ∧ foundStd xs t = true := by
  have hlt : j < xs.length := (List.getElem?_eq_some_iff.1 hj).1
  have e := (cmpStd_eq x t).1 h
  have hc : cntStd xs t = j := by
    refine cnt_of (by omega) (fun k y hk hkj => ?_) (fun k y hk hkj => ?_)
    · have := ordered_lt ho (j - k - 1) k y x hk (by rw [show k + (j - k - 1) + 1 = j by omega]; exact hj)
      refine (cmpStd_lt y t).2 ?_
      unfold ltStd at *; omega
    · intro hl
      have hl' := (cmpStd_lt y t).1 hl
      by_cases ek : k = j
      · subst ek; rw [hj] at hk; cases hk; omega
      · have := ordered_lt ho (k - j - 1) j x y hj (by rw [show j + (k - j - 1) + 1 = k by omega]; exact hk)
        unfold ltStd at *; omega
  refine ⟨hc, ?_⟩
  unfold foundStd
  rw [hc, hj]
  simp [h]

theorem prom_miss {xs : List Std} {t : Std} (h : ∀ (k : Nat) (x : Std), xs[k]? = some x → cmpStd x t ≠ 0) : foundStd xs t = false := by
  unfold foundStd
  cases hx : xs[cntStd xs t]? with
  | none => rfl
  | some x => simpa using h _ x hx

set_option maxHeartbeats 2000000 in
theorem refPromise (A : Option Addr) (c : Nat) (xs : List Std) (cl fr tw acc : Int) (w : World) (hr : Rd encStd 4 w A xs) (hn : xs.length ≤ 1000000) (hu : ∀ x ∈ xs, 0 ≤ x.cl) :
    Calls Tryz.prog 37 #[.slice A xs.length c, .int .u8 cl, .int .i64 fr, .int .i64 tw, .int .i64 acc] w fun e w' => e = .returned (.tuple #[.int .i64 (promP xs cl fr tw acc).1, .int .i64 (promP xs cl fr tw acc).2]) ∧ Below w.heap.size w w' := by
  have hright := refRight A c xs w hr hn hu
  cases hall : rightStd xs with
  | false =>
    have e : promP xs cl fr tw acc = (0, 2) := by unfold promP; rw [if_neg (by intro h; have := h.1; change rightStd xs = true at this; rw [hall] at this; cases this)]
    rw [e]; clear e
    rw [hall] at hright
    clear hr hall hu
    generalize xs.length = n at hright ⊢
    go_enter Tryz.func37, Tryz.ntmps37
    go_wp2_with (go_at_call 12; refine hright.mono ?_; rintro e w' ⟨rfl, hb⟩)
    go_ret2
    exact ⟨rfl, hb⟩
  | true =>
    rw [hall] at hright
    by_cases hacc : 0 ≤ acc
    · obtain ⟨hlen, hok, hord⟩ := allB_ok hall
      obtain ⟨pr, hpr⟩ : ∃ pr, pr = promP xs cl fr tw acc := ⟨_, rfl⟩
      rw [← hpr]
      have HPR := Lib.hid hpr
      have HALL := Lib.hid hall
      have HOK := Lib.hid hok
      have HORD := Lib.hid hord
      clear hpr hall hok hord hu
      go_enter Tryz.func37, Tryz.ntmps37
      go_wp2_with fail
      refine hright.mono ?_
      rintro e w1 ⟨rfl, hb1⟩
      have hr1 := hr.below (Nat.le_refl _) hb1
      clear hright hr
      go_wp2_with fail
      go_loopg [12] xs.length (fun gg s12 wr => ∃ j : Nat, j ≤ xs.length ∧ xs.length - j ≤ gg ∧ s12 = .int .i64 j ∧ Aside (w1 = wr) ∧ Aside (∀ (k : Nat) (x : Std), k < j → xs[k]? = some x → cmpStd x ⟨cl, fr, tw, 0⟩ ≠ 0))
      case atStart => exact ⟨0, Nat.zero_le _, by omega, rfl, rfl, fun k x h => absurd h (Nat.not_lt_zero _)⟩
      case round =>
        obtain ⟨j, hj, hg, rfl, hw, F⟩ := hrel
        obtain rfl := hw.out
        by_cases hlt : j < xs.length
        · obtain ⟨b, o, rfl, hb, hl⟩ := hr1.at (List.getElem?_eq_getElem hlt)
          have HX : Aside (xs[j]? = some xs[j]) := List.getElem?_eq_getElem hlt
          generalize xs[j] = x at hl HX
          have hl0 := hl 0 _ rfl; have hl1 := hl 1 _ rfl; have hl2 := hl 2 _ rfl; have hl3 := hl 3 _ rfl; rw [Nat.add_zero] at hl0; clear hl
          have hEq := cmpStd_eq x ⟨cl, fr, tw, 0⟩
          simp only at hEq
          generalize g1 : (x.cl == cl) = r1
          generalize g2 : (x.fr == fr) = r2
          generalize g3 : (x.to == tw) = r3
          have HG := Lib.hid (And.intro hEq (And.intro g1 (And.intro g2 g3)))
          have n1 : (x.cl != cl) = !r1 := by rw [← g1]; rfl
          have n2 : (x.fr != fr) = !r2 := by rw [← g2]; rfl
          have n3 : (x.to != tw) = !r3 := by rw [← g3]; rfl
          clear hEq
          cases r1 with
          | false =>
              have F2 : Aside (∀ (k : Nat) (x : Std), k < j + 1 → xs[k]? = some x → cmpStd x ⟨cl, fr, tw, 0⟩ ≠ 0) := fun k y hk hy => by
                by_cases e : k = j
                · subst e; rw [HX.out] at hy; cases hy
                  intro h
                  have h2 := HG.out.1.1 h
                  have h3 := HG.out.2
                  simp only [beq_iff_eq, beq_eq_false_iff_ne] at h3
                  omega
                · exact F.out k y (by omega) hy
              go_wp2_with fail
              go_roundg (xs.length - (j + 1))
              case measure => omega
              case rel => exact ⟨j + 1, by omega, by omega, by go_num, rfl, F2⟩
          | true =>
            cases r2 with
            | false =>
                have F2 : Aside (∀ (k : Nat) (x : Std), k < j + 1 → xs[k]? = some x → cmpStd x ⟨cl, fr, tw, 0⟩ ≠ 0) := fun k y hk hy => by
                  by_cases e : k = j
                  · subst e; rw [HX.out] at hy; cases hy
                    intro h
                    have h2 := HG.out.1.1 h
                    have h3 := HG.out.2
                    simp only [beq_iff_eq, beq_eq_false_iff_ne] at h3
                    omega
                  · exact F.out k y (by omega) hy
                go_wp2_with fail
                go_roundg (xs.length - (j + 1))
                case measure => omega
                case rel => exact ⟨j + 1, by omega, by omega, by go_num, rfl, F2⟩
            | true =>
              cases r3 with
              | false =>
                  have F2 : Aside (∀ (k : Nat) (x : Std), k < j + 1 → xs[k]? = some x → cmpStd x ⟨cl, fr, tw, 0⟩ ≠ 0) := fun k y hk hy => by
                    by_cases e : k = j
                    · subst e; rw [HX.out] at hy; cases hy
                      intro h
                      have h2 := HG.out.1.1 h
                      have h3 := HG.out.2
                      simp only [beq_iff_eq, beq_eq_false_iff_ne] at h3
                      omega
                    · exact F.out k y (by omega) hy
                  go_wp2_with fail
                  go_roundg (xs.length - (j + 1))
                  case measure => omega
                  case rel => exact ⟨j + 1, by omega, by omega, by go_num, rfl, F2⟩
              | true =>
                  have hit := prom_hit HORD.out HX.out (HG.out.1.2 (by have h3 := HG.out.2; simp only [beq_iff_eq] at h3; exact h3))
                  have hmi := ok_mi (HOK.out x (List.mem_of_getElem? HX.out))
                  by_cases hlong : 1051898399 - x.mi < acc
                  · have P : Aside (pr = (0, 3)) := by
                      show _ = _
                      rw [HPR.out]; unfold promP; rw [if_pos ⟨HALL.out, hacc⟩, if_pos hit.2, hit.1, HX.out]; simp only; rw [if_pos hlong]
                    clear hit
                    by_cases hbig : 1051898399 < acc
                    · go_wp2_with fail
                      go_ret2
                      exact ⟨by rw [P.out]; rfl, hb1⟩
                    · have hs : 1051898399 < acc + x.mi := by omega
                      go_wp2_with fail
                      go_ret2
                      exact ⟨by rw [P.out]; rfl, hb1⟩
                  · have P : Aside (pr = (1440 * ((acc + x.mi) / 1440) + 1439, 0)) := by
                      show _ = _
                      rw [HPR.out]; unfold promP; rw [if_pos ⟨HALL.out, hacc⟩, if_pos hit.2, hit.1, HX.out]; simp only; rw [if_neg hlong]
                      congr 1
                      omega
                    clear hit
                    have hs : ¬ 1051898399 < acc + x.mi := by omega
                    have hbig : ¬ 1051898399 < acc := by omega
                    go_wp2_with fail
                    go_ret2
                    exact ⟨by rw [P.out]; rfl, hb1⟩
        · have P : Aside (pr = (0, 6)) := by
            show _ = _
            have hmiss := prom_miss (xs := xs) (t := ⟨cl, fr, tw, 0⟩) (fun k x hk => F.out k x (by have := (List.getElem?_eq_some_iff.1 hk).1; omega) hk)
            rw [HPR.out]; unfold promP; rw [if_pos ⟨HALL.out, hacc⟩, if_neg (by rw [hmiss]; simp)]
          have hg' : ¬ (j : Int) < (xs.length : Int) := by omega
          go_wp2_with fail
          go_ret2
          exact ⟨by rw [P.out]; rfl, hb1⟩
    · have e : promP xs cl fr tw acc = (0, 2) := by unfold promP; rw [if_neg (by omega)]
      rw [e]; clear e
      clear hr hall hu
      generalize xs.length = n at hright ⊢
      go_enter Tryz.func37, Tryz.ntmps37
      go_wp2_with (go_at_call 12; refine hright.mono ?_; rintro e w' ⟨rfl, hb⟩)
      go_ret2
      exact ⟨rfl, hb⟩

/-- The statement's 'promises': true. -/
theorem promises_any (A : Option Addr) (c : Nat) (xs : List Std) (cl fr tw acc : Int) (w : World) (hr : Rd encStd 4 w A xs) (hn : xs.length ≤ 1000000) (hu : ∀ x ∈ xs, 0 ≤ x.cl) :
    Calls Tryz.prog 13 #[.slice A xs.length c, .int .u8 cl, .int .i64 fr, .int .i64 tw, .int .i64 acc] w fun e w' => e = .returned (.bool true) ∧ Below w.heap.size w w' := by
  have c1 := promise_any A c xs cl fr tw acc w hr hn
  have C2 := Lib.hid (fun W h => refPromise A c xs cl fr tw acc W (Rd.below hr (Nat.le_refl _) h) hn hu)
  clear hr hu
  generalize (promP xs cl fr tw acc).1 = a at c1 C2
  generalize (promP xs cl fr tw acc).2 = b at c1 C2
  generalize xs.length = n at *
  go_enter Tryz.func13, Tryz.ntmps13
  go_wp2_with fail
  refine c1.mono ?_
  rintro e w1 ⟨rfl, hb1⟩
  go_wp2_with fail
  refine (C2.out _ hb1).mono ?_
  rintro e w2 ⟨rfl, hb2⟩
  go_wp2_with fail
  go_ret
  exact ⟨by simp, hb1.trans (hb2.mono hb1.size)⟩
end Go.Proofs.YtnnppnlekpadnaaGreat
