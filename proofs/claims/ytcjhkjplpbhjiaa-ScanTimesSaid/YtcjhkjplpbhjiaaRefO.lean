/- Contracts of the reference: One, floor; the laws' given. -/
import Derived.Test.YtcjhkjplpbhjiaaAwake
namespace Go.Proofs.Ytcjhkjplpbhjiaa
open Go.RowKit Go.Proofs
set_option maxRecDepth 100000

set_option maxHeartbeats 2000000 in
theorem oneR_any (s : Scn) (w : World) : Calls Try.prog 13 #[.agg #[.int .i64 s.item, .int .i64 s.place, .int .i64 s.scanner, .int .u8 s.kind, .int .i64 s.at_, .int .i64 s.seen]] w fun e w' => e = .returned (.bool (okS s)) ∧ Below w.heap.size w w' := by
  have HS : Hid (okS s = true ↔ (1 ≤ s.item ∧ s.item ≤ 999999) ∧ (1 ≤ s.place ∧ s.place ≤ 999999) ∧ (1 ≤ s.scanner ∧ s.scanner ≤ 999999) ∧ (1 ≤ s.kind ∧ s.kind ≤ 4) ∧ (0 ≤ s.at_ ∧ s.at_ ≤ 1051898399) ∧ (0 ≤ s.seen ∧ s.seen ≤ 1051898399)) := Lib.hid (okS_iff s)
  generalize okS s = R at *
  go_enter Try.func13, Try.ntmps13
  go_wp2_with fail
  all_goals
    go_ret
    refine ⟨?_, (Below.refl _ _).alloc (Nat.le_refl _) _⟩
    have h := HS.out
    cases R with
    | true =>
      have h2 := h.1 rfl
      clear h HS
      first
        | rfl
        | (simp; done)
        | (exfalso; omega)
        | (simp; omega)
    | false =>
      have h2 := mt h.2 (by decide)
      clear h HS
      first
        | rfl
        | (simp; done)
        | (exfalso; omega)
        | (simp; omega)

theorem tmod_low (a b : Int) (hb : 1 ≤ b) : -b < a.tmod b := by
  rcases Int.le_total 0 a with h | h
  · have := Int.tmod_nonneg b h; omega
  · have h1 := Int.tmod_lt_of_pos (-a) (show 0 < b by omega)
    rw [Int.neg_tmod] at h1; omega
theorem floor_q (a b : Int) (hb : 1 ≤ b) : a / b = if a < a.tdiv b * b then a.tdiv b - 1 else a.tdiv b := by
  have h1 := Int.mul_tdiv_add_tmod a b
  have h2 := Int.tmod_lt_of_pos a (show 0 < b by omega)
  have h3 := tmod_low a b hb
  rw [Int.mul_comm] at h1
  by_cases h : a < a.tdiv b * b
  · rw [if_pos h]
    refine ((Int.ediv_emod_unique (r := a.tmod b + b) (show 0 < b by omega)).2 ⟨?_, by omega, by omega⟩).1
    rw [Int.mul_sub, Int.mul_one, Int.mul_comm b]; omega
  · rw [if_neg h]
    refine ((Int.ediv_emod_unique (r := a.tmod b) (show 0 < b by omega)).2 ⟨?_, by omega, by omega⟩).1
    rw [Int.mul_comm b]; omega

set_option maxHeartbeats 1000000 in
theorem floor_any (a b : Int) (w : World) (hb : 1 ≤ b) (hb2 : b ≤ 1051898399) (ha : -3000000000000000000 ≤ a) (ha2 : a ≤ 3000000000000000000) : Calls Try.prog 52 #[.int .i64 a, .int .i64 b] w fun e w' => e = .returned (.int .i64 (a / b)) ∧ w = w' := by
  have hq := floor_q a b hb
  have h1 := Int.mul_tdiv_add_tmod a b
  have h2 := Int.tmod_lt_of_pos a (show 0 < b by omega)
  have h3 := tmod_low a b hb
  rw [Int.mul_comm] at h1
  have h4 := Int.emod_add_mul_ediv a b
  have h5 := Int.emod_nonneg a (show b ≠ 0 by omega)
  have h6 := Int.emod_lt_of_pos a (show 0 < b by omega)
  rw [Int.mul_comm] at h4
  have w1 : IntKind.i64.wrap (a.tdiv b * b) = a.tdiv b * b := IntWalk.i64_in _ (by omega)
  have w2 : IntKind.i64.wrap (a / b * b) = a / b * b := IntWalk.i64_in _ (by omega)
  have c2 : ¬ a < a / b * b := by omega
  have hd : a.tdiv b - 1 = a / b ∨ a.tdiv b = a / b := by
    rw [hq]; split
    · exact .inl rfl
    · exact .inr rfl
  have hab : a.tdiv b ≤ a.tdiv b := Int.le_refl _
  have g1 : a.tdiv b ≤ 3000000002000000000 ∧ -3000000002000000000 ≤ a.tdiv b := by
    clear hq hd w1 w2 c2 h4 h5 h6
    generalize a.tdiv b = q at *
    rcases Int.le_total 0 q with h | h
    · have := Int.mul_le_mul_of_nonneg_left hb h; omega
    · have := Int.mul_le_mul_of_nonpos_left h hb; omega
  have w3 : IntKind.i64.wrap (a.tdiv b - 1) = a.tdiv b - 1 := IntWalk.i64_in _ (by omega)
  go_enter Try.func52, Try.ntmps52
  go_wp2_with fail
  go_loopg [5] 1 (fun gg s5 wr => wr = w ∧ ((s5 = .int .i64 (a.tdiv b) ∧ 1 ≤ gg) ∨ s5 = .int .i64 (a / b)))
  case atStart => exact ⟨rfl, .inl ⟨rfl, Nat.le_refl _⟩⟩
  case round =>
    obtain ⟨rfl, (⟨rfl, hg⟩ | rfl)⟩ := hrel
    · by_cases hc : a < a.tdiv b * b
      · have e : a / b = a.tdiv b - 1 := by rw [hq, if_pos hc]
        go_wp2_with fail
        go_roundg 0
        case measure => omega
        case rel => exact ⟨rfl, .inr (by rw [e])⟩
      · have e : a / b = a.tdiv b := by rw [hq, if_neg hc]
        have E := Lib.hid e
        clear hq e hd w2 c2
        go_wp2_with fail
        go_ret
        exact ⟨by rw [E.out]; rfl, rfl⟩
    · clear hq hd w1
      go_wp2_with fail
      go_ret
      exact ⟨rfl, rfl⟩

theorem infRef : (Try.prog.info? 66).map (fun i => (i.zero, i.size, i.bytes)) = some (some (.agg #[.int .i64 0, .int .i64 0, .int .i64 0]), 3, 24) := by kernel_rfl
theorem mrk_one (x : Mrk) : ∀ u ∈ encMrk x, u.oneCell' = true := by
  intro u hu
  simp [encMrk] at hu
  rcases hu with rfl | rfl | rfl <;> rfl

set_option maxHeartbeats 1000000 in
theorem given_any (A : Option Addr) (c : Nat) (ms : List Mrk) (w : World) (hr : Rd encMrk 3 w A ms) (hlen : ms.length ≤ 1000000) :
    Calls Try.prog 15 #[.slice A ms.length c] w fun e w' => ∃ A' c', e = .returned (.slice A' ms.length c') ∧ Rd encMrk 3 w' A' ms ∧ Below w.heap.size w w' := by
  obtain ⟨i0, hi, hz0, hz1, hz2⟩ := info_parts2 infRef
  have R := Lib.hid hr
  clear hr
  go_enter Try.func15, Try.ntmps15
  go_wp2_with fail
  go_loopg [3, 8] ms.length (fun gg s3 s8 wr => ∃ j : Nat, j ≤ ms.length ∧ ms.length - j ≤ gg ∧ s8 = .int .i64 j ∧ Aside (Below w.heap.size w wr) ∧ Aside (wr.ownsRow w.heap.size 66 3 s3 j ((ms.take j).flatMap encMrk)))
  case atStart => exact ⟨0, Nat.zero_le _, by omega, rfl, Below.refl _ _, World.ownsRow_nil _ _ _ _⟩
  case round =>
    obtain ⟨j, hj, hg, rfl, BW, OW⟩ := hrel
    by_cases hlt : j < ms.length
    · have hx : ms[j]? = some ms[j] := List.getElem?_eq_getElem hlt
      obtain ⟨b, o, rfl, hb, hl⟩ := (R.out.below (Nat.le_refl _) BW.out).at hx
      have HT : Hid ((ms.take (j + 1)).flatMap encMrk = (ms.take j).flatMap encMrk ++ encMrk ms[j]) := Lib.hid (by rw [List.take_add_one, hx, List.flatMap_append]; simp)
      generalize ms[j] = x at hl HT
      have hl0 := hl 0 _ rfl; have hl1 := hl 1 _ rfl; have hl2 := hl 2 _ rfl; rw [Nat.add_zero] at hl0; clear hl
      clear hx
      have hws := BW.out.size
      go_wp2_with (at_builtin; refine wpList_append_own_at _ rfl _ _ 33 rfl w.heap.size 66 i0 _ 3 24 Try.underlying33 hi hz0 hz1 hz2 rfl (by decide) _ j _ rfl (own_below OW.out (((Below.refl _ _).alloc (Nat.le_refl _) _).alloc (by simp) _)) ⟨wr.heap.size + 1, 0, none⟩ 1 1 (encMrk x) rfl rfl (by have := cells_new (wr.alloc (.cells #[.int .i64 x.sc, .int .i64 x.at_, .int .i64 x.off] 30)) (encMrk x) 66; rw [World.size_alloc] at this; exact this) (mrk_one _) (by unfold maxLen; omega) (by omega) (by simp; omega) ?_; intro v' w10 hown' hgrow _ _)
      have HO := Lib.hid (show w10.ownsRow w.heap.size 66 3 v' (j + 1) ((ms.take (j + 1)).flatMap encMrk) by rw [HT.out]; exact hown')
      have hB := ((BW.out.alloc hws (.cells #[.int .i64 x.sc, .int .i64 x.at_, .int .i64 x.off] 30)).alloc (by simp; omega) (.cells #[.int .i64 x.sc, .int .i64 x.at_, .int .i64 x.off] 66))
      have B10 := Lib.hid (hB.grown hgrow hB.size (fun k e => own_ge OW.out e))
      clear hown' hgrow hB
      go_wp2_with fail
      go_roundg (ms.length - (j + 1))
      case measure => omega
      case rel => exact ⟨j + 1, by omega, by omega, by go_num, B10.out, HO.out⟩
    · have hjl : j = ms.length := by omega
      subst hjl
      rw [List.take_length] at OW
      obtain ⟨A1, c1, e1, r1⟩ := own_rd (k := 3) (fun _ => rfl) OW.out
      have R1 := Lib.hid r1
      have B1 := Lib.hid BW.out
      clear r1 OW BW
      subst e1
      go_wp2_with fail
      go_ret
      exact ⟨A1, c1, rfl, R1.out, B1.out⟩
end Go.Proofs.Ytcjhkjplpbhjiaa
