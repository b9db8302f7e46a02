/- Contracts of slices.IndexFunc with the closures of claim.decide. -/
import Derived.Test.YtnnppnlekpadnaaGreatPromise
namespace Go.Proofs.YtnnppnlekpadnaaGreat
open Go.RowKit Go.Proofs
set_option maxRecDepth 100000

/-- The place of the first with p, or -1. -/
def idxIf {α : Type} (p : α → Bool) : List α → Nat → Int
  | [], _ => -1
  | x :: r, j => if p x then (j : Int) else idxIf p r (j + 1)

theorem sameSent (x : Sent) (B : Nat) (it : Int) (w : World) (hB : B < w.heap.size) (hc : w.cell? ⟨B, 1, none⟩ = some (.int .i64 it)) : Calls Tryz.prog 74 #[.agg #[.int .i64 x.item, .int .u8 x.cl, .int .i64 x.fr, .int .i64 x.to, .int .i64 x.acc, .int .i64 x.del], .pointer (some ⟨B, 0, none⟩)] w fun e w' => e = .returned (.bool (x.item == it)) ∧ Below w.heap.size w w' := by
  have hne : B ≠ w.heap.size := by omega
  go_enter Tryz.func74, Tryz.ntmps74
  go_wp2
  go_ret
  exact ⟨rfl, (Below.refl _ _).alloc (Nat.le_refl _) _⟩

set_option maxHeartbeats 400000 in
theorem findSent (A : Option Addr) (c : Nat) (xs : List Sent) (B : Nat) (it : Int) (w : World) (hr : Rd encSent 6 w A xs) (hn : xs.length ≤ 1000000) (hB : B < w.heap.size) (hc : w.cell? ⟨B, 1, none⟩ = some (.int .i64 it)) :
    Calls Tryz.prog 73 #[.slice A xs.length c, .func (.func 74) #[] #[.pointer (some ⟨B, 0, none⟩)]] w fun e w' => e = .returned (.int .i64 (idxIf (fun x : Sent => x.item == it) xs 0)) ∧ Below w.heap.size w w' := by
  obtain ⟨p, hp⟩ : ∃ p : Sent → Bool, p = fun x => x.item == it := ⟨_, rfl⟩
  rw [← hp]
  have HP := Lib.hid hp
  clear hp
  go_enter Tryz.func73, Tryz.ntmps73
  go_wp2
  go_loopg [5, 8] xs.length (fun gg _ s8 wr => ∃ j : Nat, j ≤ xs.length ∧ xs.length - j ≤ gg ∧ s8 = .int .i64 j ∧ Aside (Below w.heap.size w wr) ∧ Aside (idxIf p xs 0 = idxIf p (xs.drop j) j))
  case atStart => exact ⟨0, Nat.zero_le _, by omega, rfl, Below.refl _ _, by simp [Aside]⟩
  case round =>
    obtain ⟨j, hj, hg, rfl, BW, Z⟩ := hrel
    by_cases hlt : j < xs.length
    · obtain ⟨b, o, rfl, hb, hl⟩ := (hr.below (Nat.le_refl _) BW.out).at (List.getElem?_eq_getElem hlt)
      have Z2 : Aside (idxIf p xs 0 = if p xs[j] then (j : Int) else idxIf p (xs.drop (j + 1)) (j + 1)) := by
        have := Z.out; rw [List.drop_eq_getElem_cons hlt, idxIf] at this; exact this
      clear Z
      generalize xs[j] = x at hl Z2
      have hl0 := hl 0 _ rfl; have hl1 := hl 1 _ rfl; have hl2 := hl 2 _ rfl; have hl3 := hl 3 _ rfl; have hl4 := hl 4 _ rfl; have hl5 := hl 5 _ rfl; rw [Nat.add_zero] at hl0; clear hl
      have hcall := sameSent x B it wr (Nat.lt_of_lt_of_le hB BW.out.size) ((BW.out.cell (p := ⟨B, 1, none⟩) hB).trans hc)
      clear hc hr
      have e : (x.item == it) = p x := by rw [HP.out]
      rw [e] at hcall
      clear e
      cases hq : p x with
      | true =>
        rw [hq] at Z2 hcall
        go_wp2_with (go_at_call 74; refine hcall.mono ?_; rintro e w' ⟨rfl, hb1⟩)
        go_ret
        exact ⟨by rw [Z2.out]; rfl, BW.out.trans (hb1.mono BW.out.size)⟩
      | false =>
        rw [hq] at Z2 hcall
        go_wp2_with (go_at_call 74; refine hcall.mono ?_; rintro e w' ⟨rfl, hb1⟩)
        go_roundg (xs.length - (j + 1))
        case measure => omega
        case rel => exact ⟨j + 1, by omega, by omega, by go_num, BW.out.trans (hb1.mono BW.out.size), by rw [Aside, Z2.out]; rfl⟩
    · have : j = xs.length := by omega
      subst this
      go_wp2
      go_ret
      refine ⟨?_, BW.out⟩
      rw [Z.out]; simp [idxIf]
theorem sameTerms (x : Terms) (B : Nat) (it : Int) (w : World) (hB : B < w.heap.size) (hc : w.cell? ⟨B, 1, none⟩ = some (.int .u8 it)) : Calls Tryz.prog 76 #[.agg #[.int .u8 x.cl, .int .i64 x.free, .int .i64 x.share, .int .i64 x.most, .int .i64 x.after, .int .i64 x.limit, .int .i64 x.wi], .pointer (some ⟨B, 0, none⟩)] w fun e w' => e = .returned (.bool (x.cl == it)) ∧ Below w.heap.size w w' := by
  have hne : B ≠ w.heap.size := by omega
  go_enter Tryz.func76, Tryz.ntmps76
  go_wp2
  go_ret
  exact ⟨rfl, (Below.refl _ _).alloc (Nat.le_refl _) _⟩

set_option maxHeartbeats 400000 in
theorem findTerms (A : Option Addr) (c : Nat) (xs : List Terms) (B : Nat) (it : Int) (w : World) (hr : Rd encTerms 7 w A xs) (hn : xs.length ≤ 1000000) (hB : B < w.heap.size) (hc : w.cell? ⟨B, 1, none⟩ = some (.int .u8 it)) :
    Calls Tryz.prog 75 #[.slice A xs.length c, .func (.func 76) #[] #[.pointer (some ⟨B, 0, none⟩)]] w fun e w' => e = .returned (.int .i64 (idxIf (fun x : Terms => x.cl == it) xs 0)) ∧ Below w.heap.size w w' := by
  obtain ⟨p, hp⟩ : ∃ p : Terms → Bool, p = fun x => x.cl == it := ⟨_, rfl⟩
  rw [← hp]
  have HP := Lib.hid hp
  clear hp
  go_enter Tryz.func75, Tryz.ntmps75
  go_wp2
  go_loopg [5, 8] xs.length (fun gg _ s8 wr => ∃ j : Nat, j ≤ xs.length ∧ xs.length - j ≤ gg ∧ s8 = .int .i64 j ∧ Aside (Below w.heap.size w wr) ∧ Aside (idxIf p xs 0 = idxIf p (xs.drop j) j))
  case atStart => exact ⟨0, Nat.zero_le _, by omega, rfl, Below.refl _ _, by simp [Aside]⟩
  case round =>
    obtain ⟨j, hj, hg, rfl, BW, Z⟩ := hrel
    by_cases hlt : j < xs.length
    · obtain ⟨b, o, rfl, hb, hl⟩ := (hr.below (Nat.le_refl _) BW.out).at (List.getElem?_eq_getElem hlt)
      have Z2 : Aside (idxIf p xs 0 = if p xs[j] then (j : Int) else idxIf p (xs.drop (j + 1)) (j + 1)) := by
        have := Z.out; rw [List.drop_eq_getElem_cons hlt, idxIf] at this; exact this
      clear Z
      generalize xs[j] = x at hl Z2
      have hl0 := hl 0 _ rfl; have hl1 := hl 1 _ rfl; have hl2 := hl 2 _ rfl; have hl3 := hl 3 _ rfl; have hl4 := hl 4 _ rfl; have hl5 := hl 5 _ rfl; have hl6 := hl 6 _ rfl; rw [Nat.add_zero] at hl0; clear hl
      have hcall := sameTerms x B it wr (Nat.lt_of_lt_of_le hB BW.out.size) ((BW.out.cell (p := ⟨B, 1, none⟩) hB).trans hc)
      clear hc hr
      have e : (x.cl == it) = p x := by rw [HP.out]
      rw [e] at hcall
      clear e
      cases hq : p x with
      | true =>
        rw [hq] at Z2 hcall
        go_wp2_with (go_at_call 76; refine hcall.mono ?_; rintro e w' ⟨rfl, hb1⟩)
        go_ret
        exact ⟨by rw [Z2.out]; rfl, BW.out.trans (hb1.mono BW.out.size)⟩
      | false =>
        rw [hq] at Z2 hcall
        go_wp2_with (go_at_call 76; refine hcall.mono ?_; rintro e w' ⟨rfl, hb1⟩)
        go_roundg (xs.length - (j + 1))
        case measure => omega
        case rel => exact ⟨j + 1, by omega, by omega, by go_num, BW.out.trans (hb1.mono BW.out.size), by rw [Aside, Z2.out]; rfl⟩
    · have : j = xs.length := by omega
      subst this
      go_wp2
      go_ret
      refine ⟨?_, BW.out⟩
      rw [Z.out]; simp [idxIf]
end Go.Proofs.YtnnppnlekpadnaaGreat
