/- Contract of scan.Right. -/
import Derived.Test.YtcjhkjplpbhjiaaBy2
namespace Go.Proofs.Ytcjhkjplpbhjiaa
open Go.RowKit Go.Proofs
set_option maxRecDepth 100000

/-- The place of the first that is not right, or -1. -/
def idxBad {α : Type} (ok : α → Bool) : List α → Nat → Int
  | [], _ => -1
  | x :: r, j => if ok x then idxBad ok r (j + 1) else (j : Int)
theorem idxBad_ge {α : Type} (ok : α → Bool) : ∀ (l : List α) (j : Nat), decide (0 ≤ idxBad ok l j) = !(l.all ok)
  | [], j => by simp [idxBad]
  | x :: r, j => by
    unfold idxBad
    by_cases h : ok x = true
    · simp only [h, if_true]
      rw [idxBad_ge ok r (j + 1)]; simp [h]
    · simp [h]

theorem notScn (s : Scn) (w : World) : Calls Try.prog 42 #[.agg #[.int .i64 s.item, .int .i64 s.place, .int .i64 s.scanner, .int .u8 s.kind, .int .i64 s.at_, .int .i64 s.seen]] w fun e w' => e = .returned (.bool (!(okS s))) ∧ Below w.heap.size w w' := by
  have H := Lib.hid (fun W => right_any s W)
  generalize okS s = r at *
  go_enter Try.func42, Try.ntmps42
  go_wp2_with fail
  refine (H.out _).mono ?_
  rintro e w1 ⟨rfl, hb1⟩
  go_wp2_with fail
  go_ret
  exact ⟨rfl, ((Below.refl _ _).alloc (Nat.le_refl _) _).trans (hb1.mono (by first | (simp; done) | (simp; omega) | omega))⟩

set_option maxHeartbeats 400000 in
theorem idxScn (A : Option Addr) (c : Nat) (xs : List Scn) (w : World) (hr : Rd encScn 6 w A xs) (hn : xs.length ≤ 1000000) :
    Calls Try.prog 58 #[.slice A xs.length c, .func (.func 42) #[] #[]] w fun e w' => e = .returned (.int .i64 (idxBad okS xs 0)) ∧ Below w.heap.size w w' := by
  have H := Lib.hid (fun (x : Scn) (W : World) => notScn x W)
  go_enter Try.func58, Try.ntmps58
  go_wp2
  go_loopg [5, 8] xs.length (fun gg _ s8 wr => ∃ j : Nat, j ≤ xs.length ∧ xs.length - j ≤ gg ∧ s8 = .int .i64 j ∧ Aside (Below w.heap.size w wr) ∧ Aside (idxBad okS xs 0 = idxBad okS (xs.drop j) j))
  case atStart => exact ⟨0, Nat.zero_le _, by omega, rfl, Below.refl _ _, by simp [Aside]⟩
  case round =>
    obtain ⟨j, hj, hg, rfl, BW, Z⟩ := hrel
    by_cases hlt : j < xs.length
    · obtain ⟨b, o, rfl, hb, hl⟩ := (hr.below (Nat.le_refl _) BW.out).at (List.getElem?_eq_getElem hlt)
      have Z2 : Aside (idxBad okS xs 0 = if okS xs[j] then idxBad okS (xs.drop (j + 1)) (j + 1) else (j : Int)) := by
        have := Z.out; rw [List.drop_eq_getElem_cons hlt, idxBad] at this; exact this
      clear Z
      generalize xs[j] = x at hl Z2
      have hl0 := hl 0 _ rfl; have hl1 := hl 1 _ rfl; have hl2 := hl 2 _ rfl; have hl3 := hl 3 _ rfl; have hl4 := hl 4 _ rfl; have hl5 := hl 5 _ rfl; rw [Nat.add_zero] at hl0; clear hl
      have hcall := H.out x wr
      clear hr
      cases hq : okS x with
      | true =>
        rw [hq] at Z2 hcall
        go_wp2_with (go_at_call 42; refine hcall.mono ?_; rintro e w' ⟨rfl, hb1⟩)
        go_roundg (xs.length - (j + 1))
        case measure => omega
        case rel => exact ⟨j + 1, by omega, by omega, by go_num, BW.out.trans (hb1.mono BW.out.size), by rw [Aside, Z2.out]; rfl⟩
      | false =>
        rw [hq] at Z2 hcall
        go_wp2_with (go_at_call 42; refine hcall.mono ?_; rintro e w' ⟨rfl, hb1⟩)
        go_ret
        exact ⟨by rw [Z2.out]; rfl, BW.out.trans (hb1.mono BW.out.size)⟩
    · have : j = xs.length := by omega
      subst this
      go_wp2
      go_ret
      refine ⟨?_, BW.out⟩
      rw [Z.out]; simp [idxBad]

theorem containsScn (A : Option Addr) (c : Nat) (xs : List Scn) (w : World) (hr : Rd encScn 6 w A xs) (hn : xs.length ≤ 1000000) {n : Nat} (hlen : xs.length = n) :
    Calls Try.prog 41 #[.slice A n c, .func (.func 42) #[] #[]] w fun e w' => e = .returned (.bool (!(xs.all okS))) ∧ Below w.heap.size w w' := by
  subst hlen
  rw [← idxBad_ge okS xs 0]
  have hcall := idxScn A c xs w hr hn
  clear hr hn
  generalize idxBad okS xs 0 = q at hcall ⊢
  generalize xs.length = n at hcall ⊢
  go_enter Try.func41, Try.ntmps41
  go_wp2_with (go_at_call 58; refine hcall.mono ?_; rintro e w' ⟨rfl, hb1⟩)
  go_ret
  exact ⟨rfl, hb1⟩

theorem Right_any (A : Option Addr) (c : Nat) (xs : List Scn) (w : World) (hr : Rd encScn 6 w A xs) (hn : xs.length ≤ 1000000) :
    Calls Try.prog 25 #[.slice A xs.length c] w fun e w' => e = .returned (.bool (okL xs)) ∧ Below w.heap.size w w' := by
  by_cases hlen : (xs.length : Int) ≤ 2000
  · have e : okL xs = xs.all okS := by unfold okL; rw [decide_eq_true hlen]; rfl
    rw [e]; clear e
    have hcall := containsScn A c xs w hr hn rfl
    clear hr
    generalize xs.all okS = r at *
    go_enter Try.func25, Try.ntmps25
    go_wp2_with (go_at_call 41; refine hcall.mono ?_; rintro e w' ⟨rfl, hb1⟩)
    go_ret
    exact ⟨by simp, hb1⟩
  · have e : okL xs = false := by unfold okL; rw [decide_eq_false hlen]; rfl
    rw [e]; clear e hr
    go_enter Try.func25, Try.ntmps25
    go_wp2_with fail
    go_ret
    exact ⟨rfl, Below.refl _ _⟩
end Go.Proofs.Ytcjhkjplpbhjiaa
