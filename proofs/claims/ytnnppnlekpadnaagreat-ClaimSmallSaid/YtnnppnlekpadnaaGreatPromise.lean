/- Contract of claim.Promise. -/
import Derived.Test.YtnnppnlekpadnaaGreatBin
namespace Go.Proofs.YtnnppnlekpadnaaGreat
open Go.RowKit Go.Proofs
set_option maxRecDepth 100000

def ltStd (x y : Std) : Prop := x.cl < y.cl ∨ (x.cl = y.cl ∧ (x.fr < y.fr ∨ (x.fr = y.fr ∧ x.to < y.to)))
theorem cmpI_cases (a b : Int) : (a < b ∧ cmpI a b = -1) ∨ (b < a ∧ cmpI a b = 1) ∨ (a = b ∧ cmpI a b = 0) := by
  unfold cmpI
  by_cases h1 : a < b
  · exact Or.inl ⟨h1, by simp [h1]⟩
  · by_cases h2 : b < a
    · exact Or.inr (Or.inl ⟨h2, by simp [h1, h2]⟩)
    · exact Or.inr (Or.inr ⟨by omega, by simp [h1, h2]⟩)
theorem cmpStd_lt (x y : Std) : cmpStd x y < 0 ↔ ltStd x y := by
  unfold cmpStd ltStd
  rcases cmpI_cases x.cl y.cl with ⟨h1, e1⟩ | ⟨h1, e1⟩ | ⟨h1, e1⟩ <;> rcases cmpI_cases x.fr y.fr with ⟨h2, e2⟩ | ⟨h2, e2⟩ | ⟨h2, e2⟩ <;> rcases cmpI_cases x.to y.to with ⟨h3, e3⟩ | ⟨h3, e3⟩ | ⟨h3, e3⟩ <;> rw [e1, e2, e3] <;> simp [orI] <;> omega
theorem cmpStd_eq (x y : Std) : cmpStd x y = 0 ↔ x.cl = y.cl ∧ x.fr = y.fr ∧ x.to = y.to := by
  unfold cmpStd
  rcases cmpI_cases x.cl y.cl with ⟨h1, e1⟩ | ⟨h1, e1⟩ | ⟨h1, e1⟩ <;> rcases cmpI_cases x.fr y.fr with ⟨h2, e2⟩ | ⟨h2, e2⟩ | ⟨h2, e2⟩ <;> rcases cmpI_cases x.to y.to with ⟨h3, e3⟩ | ⟨h3, e3⟩ | ⟨h3, e3⟩ <;> rw [e1, e2, e3] <;> simp [orI] <;> omega
theorem ltStd_trans {x y z : Std} (h1 : ltStd x y) (h2 : ltStd y z) : ltStd x z := by
  unfold ltStd at *; omega

theorem ordered_at {α : Type} {cmp : α → α → Int} : ∀ (xs : List α), ordered cmp xs = true → ∀ (j : Nat) (x y : α), xs[j]? = some x → xs[j + 1]? = some y → cmp x y < 0
  | [], _, j, x, y, h, _ => by simp at h
  | [_], _, j, x, y, _, h => by simp at h
  | a :: b :: r, ho, 0, x, y, h1, h2 => by
    simp at h1 h2; subst h1; subst h2
    simp [ordered] at ho; exact ho.1
  | a :: b :: r, ho, j + 1, x, y, h1, h2 => by
    simp [ordered] at ho
    exact ordered_at (b :: r) ho.2 j x y (by simpa using h1) (by simpa using h2)

theorem ordered_lt {xs : List Std} (ho : ordered cmpStd xs = true) : ∀ (d a : Nat) (x y : Std), xs[a]? = some x → xs[a + d + 1]? = some y → ltStd x y
  | 0, a, x, y, h1, h2 => (cmpStd_lt x y).1 (ordered_at xs ho a x y h1 h2)
  | d + 1, a, x, y, h1, h2 => by
    have hlt : a + d + 1 < xs.length := by
      rcases Nat.lt_or_ge (a + d + 1) xs.length with h | h
      · exact h
      · rw [List.getElem?_eq_none (by omega)] at h2; cases h2
    have hz := List.getElem?_eq_getElem hlt
    exact ltStd_trans (ordered_lt ho d a x _ h1 hz) ((cmpStd_lt _ y).1 (ordered_at xs ho (a + d + 1) _ y hz h2))

theorem ordered_mono {xs : List Std} (ho : ordered cmpStd xs = true) (t : Std) (a b : Nat) (x y : Std) (hab : a ≤ b) (h1 : xs[a]? = some x) (h2 : xs[b]? = some y) (h : cmpStd y t < 0) : cmpStd x t < 0 := by
  by_cases e : a = b
  · subst e; rw [h1] at h2; cases h2; exact h
  · have := ordered_lt ho (b - a - 1) a x y h1 (by rw [show a + (b - a - 1) + 1 = b by omega]; exact h2)
    exact (cmpStd_lt x t).2 (ltStd_trans this ((cmpStd_lt y t).1 h))

/-- What claim.Promise returns. -/
def promP (xs : List Std) (cl fr tw acc : Int) : Int × Int :=
  if allB xs 500 okStd cmpStd = true ∧ 0 ≤ acc then
    if foundStd xs ⟨cl, fr, tw, 0⟩ = true then
      match xs[cntStd xs ⟨cl, fr, tw, 0⟩]? with
      | some x => if 1051898399 - x.mi < acc then (0, 3) else (acc + x.mi - (acc + x.mi) % 1440 + 1440 - 1, 0)
      | none => (0, 6)
    else (0, 6)
  else (0, 2)

theorem ok_mi {x : Std} (h : okStd x = true) : 0 ≤ x.mi ∧ x.mi ≤ 100000 := by
  unfold okStd withinB at h
  simp [outB] at h
  omega

theorem allB_ok {α : Type} {l : List α} {most : Int} {ok : α → Bool} {cmp : α → α → Int} (h : allB l most ok cmp = true) : (l.length : Int) ≤ most ∧ (∀ x ∈ l, ok x = true) ∧ ordered cmp l = true := by
  unfold allB at h
  simp at h
  exact ⟨h.1, h.2.1, h.2.2⟩

set_option maxHeartbeats 1000000 in
theorem promise_any (A : Option Addr) (c : Nat) (xs : List Std) (cl fr tw acc : Int) (w : World) (hr : Rd encStd 4 w A xs) (hn : xs.length ≤ 1000000) :
    Calls Tryz.prog 16 #[.slice A xs.length c, .int .u8 cl, .int .i64 fr, .int .i64 tw, .int .i64 acc] w fun e w' => e = .returned (.tuple #[.int .i64 (promP xs cl fr tw acc).1, .int .i64 (promP xs cl fr tw acc).2]) ∧ Below w.heap.size w w' := by
  have hright := right_any A c xs w hr hn
  cases hall : allB xs 500 okStd cmpStd with
  | false =>
    have e : promP xs cl fr tw acc = (0, 2) := by unfold promP; rw [if_neg (by rw [hall]; simp)]
    rw [e]; clear e
    rw [hall] at hright
    clear hr hall
    generalize xs.length = n at hright ⊢
    go_enter Tryz.func16, Tryz.ntmps16
    go_wp2_with (go_at_call 11; refine hright.mono ?_; rintro e w' ⟨rfl, hb⟩)
    go_ret2
    exact ⟨rfl, hb⟩
  | true =>
    rw [hall] at hright
    by_cases hacc : 0 ≤ acc
    · obtain ⟨hlen, hok, hord⟩ := allB_ok hall
      have hmono := ordered_mono hord ⟨cl, fr, tw, 0⟩
      cases hf : foundStd xs ⟨cl, fr, tw, 0⟩ with
      | false =>
        have e : promP xs cl fr tw acc = (0, 6) := by unfold promP; rw [if_pos ⟨hall, hacc⟩, if_neg (by rw [hf]; simp)]
        rw [e]; clear e
        go_enter Tryz.func16, Tryz.ntmps16
        go_wp2_with fail
        refine hright.mono ?_
        rintro e w1 ⟨rfl, hb1⟩
        have hbin := bin_any A c xs ⟨cl, fr, tw, 0⟩ w1 (hr.below (Nat.le_refl _) hb1) hn hmono
        rw [hf] at hbin
        have HM := Lib.hid hmono
        have HO := Lib.hid hok
        have HF := Lib.hid hf
        clear hmono hok hf hord hall hlen hr hright
        generalize cntStd xs ⟨cl, fr, tw, 0⟩ = q at hbin
        go_wp2_with fail
        refine hbin.mono ?_
        rintro e w2 ⟨rfl, hb2⟩
        go_wp2_with fail
        go_ret2
        exact ⟨rfl, hb1.trans (hb2.mono hb1.size)⟩
      | true =>
        have hf' := hf
        unfold foundStd at hf'
        cases hx : xs[cntStd xs ⟨cl, fr, tw, 0⟩]? with
        | none => rw [hx] at hf'; cases hf'
        | some x =>
          have hlt : cntStd xs ⟨cl, fr, tw, 0⟩ < xs.length := by
            rcases Nat.lt_or_ge (cntStd xs ⟨cl, fr, tw, 0⟩) xs.length with h | h
            · exact h
            · rw [List.getElem?_eq_none h] at hx; cases hx
          have hmi := ok_mi (hok x (List.mem_of_getElem? hx))
          by_cases hlong : 1051898399 - x.mi < acc
          · have e : promP xs cl fr tw acc = (0, 3) := by unfold promP; rw [if_pos ⟨hall, hacc⟩, if_pos hf, hx]; simp only; rw [if_pos hlong]
            rw [e]; clear e
            go_enter Tryz.func16, Tryz.ntmps16
            go_wp2_with fail
            refine hright.mono ?_
            rintro e w1 ⟨rfl, hb1⟩
            have hbin := bin_any A c xs ⟨cl, fr, tw, 0⟩ w1 (hr.below (Nat.le_refl _) hb1) hn hmono
            rw [hf] at hbin
            have HM := Lib.hid hmono
            have HO := Lib.hid hok
            have HF := Lib.hid hf
            clear hmono hok hf hord hall hlen hright hf'
            generalize cntStd xs ⟨cl, fr, tw, 0⟩ = q at hbin hx hlt
            go_wp2_with fail
            refine hbin.mono ?_
            rintro e w2 ⟨rfl, hb2⟩
            replace hb2 := hb1.trans (hb2.mono hb1.size)
            obtain ⟨b, o, rfl, hb', hl⟩ := (hr.below (Nat.le_refl _) hb2).at hx
            have hl0 := hl 0 _ rfl; have hl1 := hl 1 _ rfl; have hl2 := hl 2 _ rfl; have hl3 := hl 3 _ rfl; rw [Nat.add_zero] at hl0; clear hl
            have s1 : ((q : Int)).toNat = q := by omega
            have hlt' : (q : Int) < xs.length := by omega
            clear hr hx
            go_wp2_with fail
            go_ret2
            exact ⟨rfl, hb2⟩
          · have e : promP xs cl fr tw acc = (acc + x.mi - (acc + x.mi) % 1440 + 1440 - 1, 0) := by unfold promP; rw [if_pos ⟨hall, hacc⟩, if_pos hf, hx]; simp only; rw [if_neg hlong]
            rw [e]; clear e
            go_enter Tryz.func16, Tryz.ntmps16
            go_wp2_with fail
            refine hright.mono ?_
            rintro e w1 ⟨rfl, hb1⟩
            have hbin := bin_any A c xs ⟨cl, fr, tw, 0⟩ w1 (hr.below (Nat.le_refl _) hb1) hn hmono
            rw [hf] at hbin
            have HM := Lib.hid hmono
            have HO := Lib.hid hok
            have HF := Lib.hid hf
            clear hmono hok hf hord hall hlen hright hf'
            generalize cntStd xs ⟨cl, fr, tw, 0⟩ = q at hbin hx hlt
            go_wp2_with fail
            refine hbin.mono ?_
            rintro e w2 ⟨rfl, hb2⟩
            replace hb2 := hb1.trans (hb2.mono hb1.size)
            obtain ⟨b, o, rfl, hb', hl⟩ := (hr.below (Nat.le_refl _) hb2).at hx
            have hl0 := hl 0 _ rfl; have hl1 := hl 1 _ rfl; have hl2 := hl 2 _ rfl; have hl3 := hl 3 _ rfl; rw [Nat.add_zero] at hl0; clear hl
            have s1 : ((q : Int)).toNat = q := by omega
            have hlt' : (q : Int) < xs.length := by omega
            clear hr hx
            go_wp2_with fail
            go_ret2
            exact ⟨rfl, hb2⟩
    · have e : promP xs cl fr tw acc = (0, 2) := by unfold promP; rw [if_neg (by omega)]
      rw [e]; clear e
      clear hr hall
      generalize xs.length = n at hright ⊢
      go_enter Tryz.func16, Tryz.ntmps16
      go_wp2_with (go_at_call 11; refine hright.mono ?_; rintro e w' ⟨rfl, hb⟩)
      go_ret2
      exact ⟨rfl, hb⟩
end Go.Proofs.YtnnppnlekpadnaaGreat
