/- Contracts of slices.ContainsFunc and claim.all at the four lists of package claim. -/
import Derived.Test.YtnnppnlekpadnaaGreatStd
namespace Go.Proofs.YtnnppnlekpadnaaGreat
open Go.RowKit Go.Proofs
set_option maxRecDepth 100000

/-- The place of the first that is not right, or -1. -/
def idxBad {α : Type} (ok : α → Bool) : List α → Nat → Int
  | [], _ => -1
  | x :: r, j => if ok x then idxBad ok r (j + 1) else (j : Int)
theorem idxBad_ge {α : Type} (ok : α → Bool) : ∀ (l : List α) (j : Nat), decide (0 ≤ idxBad ok l j) = !(l.all ok)
  | [], j => by simp [idxBad]
  | x :: r, j => by
    unfold idxBad
    by_cases h : ok x = true
    · simp only [h, if_true]
      rw [idxBad_ge ok r (j + 1)]; simp [h]
    · simp [h]

/-- Each two neighbours are in order. -/
def ordered {α : Type} (cmp : α → α → Int) : List α → Bool
  | [] => true
  | [_] => true
  | x :: y :: r => decide (cmp x y < 0) && ordered cmp (y :: r)

def allB {α : Type} (l : List α) (most : Int) (ok : α → Bool) (cmp : α → α → Int) : Bool := decide ((l.length : Int) ≤ most) && (l.all ok && ordered cmp l)

/-- From the place j on. -/
theorem ordered_drop {α : Type} (cmp : α → α → Int) (l : List α) (j : Nat) (h1 : 1 ≤ j) (h : j < l.length) (hc : ordered cmp (l.drop (j - 1)) = ordered cmp l) :
    ordered cmp l = (decide (cmp l[j - 1] l[j] < 0) && ordered cmp (l.drop j)) := by
  rw [← hc, List.drop_eq_getElem_cons (show j - 1 < l.length by omega)]
  have e : j - 1 + 1 = j := by omega
  rw [e, List.drop_eq_getElem_cons h, ordered]

section
/-- What is asked of the two functions that are handed in. -/
def OkCStd (ok : Std → Bool) : Prop := ∀ (x : Std) (w : World), Calls Tryz.prog 32 #[.agg #[.int .u8 x.cl, .int .i64 x.fr, .int .i64 x.to, .int .i64 x.mi]] w fun e w' => e = .returned (.bool (ok x)) ∧ Below w.heap.size w w'
def CmpCStd (cmp : Std → Std → Int) : Prop := ∀ (x y : Std) (w : World), Calls Tryz.prog 34 #[.agg #[.int .u8 x.cl, .int .i64 x.fr, .int .i64 x.to, .int .i64 x.mi], .agg #[.int .u8 y.cl, .int .i64 y.fr, .int .i64 y.to, .int .i64 y.mi]] w fun e w' => e = .returned (.int .i64 (cmp x y)) ∧ Below w.heap.size w w'

theorem notStd {ok : Std → Bool} (hok : OkCStd ok) (x : Std) (B : Nat) (w : World) (hB : B < w.heap.size) (hc : w.cell? ⟨B, 0, none⟩ = some (.func (.func 32) #[] #[])) : Calls Tryz.prog 69 #[.agg #[.int .u8 x.cl, .int .i64 x.fr, .int .i64 x.to, .int .i64 x.mi], .pointer (some ⟨B, 0, none⟩)] w fun e w' => e = .returned (.bool (!(ok x))) ∧ Below w.heap.size w w' := by
  have H := Lib.hid hok
  clear hok
  have hne : B ≠ w.heap.size := by omega
  go_enter Tryz.func69, Tryz.ntmps69
  go_wp2_with fail
  refine (H.out x _).mono ?_
  rintro e w1 ⟨rfl, hb1⟩
  go_wp2_with fail
  go_ret
  exact ⟨rfl, ((Below.refl _ _).alloc (Nat.le_refl _) _).trans (hb1.mono (by first | (simp; done) | (simp; omega) | omega))⟩

set_option maxHeartbeats 400000 in
theorem idxStd {ok : Std → Bool} (hok : OkCStd ok) (A : Option Addr) (c : Nat) (xs : List Std) (B : Nat) (w : World) (hr : Rd encStd 4 w A xs) (hn : xs.length ≤ 1000000) (hB : B < w.heap.size) (hc : w.cell? ⟨B, 0, none⟩ = some (.func (.func 32) #[] #[])) :
    Calls Tryz.prog 98 #[.slice A xs.length c, .func (.func 69) #[] #[.pointer (some ⟨B, 0, none⟩)]] w fun e w' => e = .returned (.int .i64 (idxBad ok xs 0)) ∧ Below w.heap.size w w' := by
  have H := Lib.hid hok
  clear hok
  go_enter Tryz.func98, Tryz.ntmps98
  go_wp2
  go_loopg [5, 8] xs.length (fun gg _ s8 wr => ∃ j : Nat, j ≤ xs.length ∧ xs.length - j ≤ gg ∧ s8 = .int .i64 j ∧ Aside (Below w.heap.size w wr) ∧ Aside (idxBad ok xs 0 = idxBad ok (xs.drop j) j))
  case atStart => exact ⟨0, Nat.zero_le _, by omega, rfl, Below.refl _ _, by simp [Aside]⟩
  case round =>
    obtain ⟨j, hj, hg, rfl, BW, Z⟩ := hrel
    by_cases hlt : j < xs.length
    · obtain ⟨b, o, rfl, hb, hl⟩ := (hr.below (Nat.le_refl _) BW.out).at (List.getElem?_eq_getElem hlt)
      have Z2 : Aside (idxBad ok xs 0 = if ok xs[j] then idxBad ok (xs.drop (j + 1)) (j + 1) else (j : Int)) := by
        have := Z.out; rw [List.drop_eq_getElem_cons hlt, idxBad] at this; exact this
      clear Z
      generalize xs[j] = x at hl Z2
      have hl0 := hl 0 _ rfl; have hl1 := hl 1 _ rfl; have hl2 := hl 2 _ rfl; have hl3 := hl 3 _ rfl; rw [Nat.add_zero] at hl0; clear hl
      have hB' : B < wr.heap.size := Nat.lt_of_lt_of_le hB BW.out.size
      have hc' : wr.cell? ⟨B, 0, none⟩ = some (.func (.func 32) #[] #[]) := (BW.out.cell (p := ⟨B, 0, none⟩) hB).trans hc
      have hcall := notStd H.out x B wr hB' hc'
      clear hc' hB' hc hr
      cases hq : ok x with
      | true =>
        rw [hq] at Z2 hcall
        go_wp2_with (go_at_call 69; refine hcall.mono ?_; rintro e w' ⟨rfl, hb1⟩)
        go_roundg (xs.length - (j + 1))
        case measure => omega
        case rel => exact ⟨j + 1, by omega, by omega, by go_num, BW.out.trans (hb1.mono BW.out.size), by rw [Aside, Z2.out]; rfl⟩
      | false =>
        rw [hq] at Z2 hcall
        go_wp2_with (go_at_call 69; refine hcall.mono ?_; rintro e w' ⟨rfl, hb1⟩)
        go_ret
        exact ⟨by rw [Z2.out]; rfl, BW.out.trans (hb1.mono BW.out.size)⟩
    · have : j = xs.length := by omega
      subst this
      go_wp2
      go_ret
      refine ⟨?_, BW.out⟩
      rw [Z.out]; simp [idxBad]

theorem containsStd {ok : Std → Bool} (hok : OkCStd ok) (A : Option Addr) (c : Nat) (xs : List Std) (B : Nat) (w : World) (hr : Rd encStd 4 w A xs) (hn : xs.length ≤ 1000000) (hB : B < w.heap.size) (hc : w.cell? ⟨B, 0, none⟩ = some (.func (.func 32) #[] #[])) {r : Bool} (hres : (!(xs.all ok)) = r) {n : Nat} (hlen : xs.length = n) :
    Calls Tryz.prog 68 #[.slice A n c, .func (.func 69) #[] #[.pointer (some ⟨B, 0, none⟩)]] w fun e w' => e = .returned (.bool r) ∧ Below w.heap.size w w' := by
  subst hlen
  rw [← hres, ← idxBad_ge ok xs 0]
  have hcall := idxStd hok A c xs B w hr hn hB hc
  clear hr hn hc hB hres hok
  generalize idxBad ok xs 0 = q at hcall ⊢
  generalize xs.length = n at hcall ⊢
  go_enter Tryz.func68, Tryz.ntmps68
  go_wp2_with (go_at_call 98; refine hcall.mono ?_; rintro e w' ⟨rfl, hb1⟩)
  go_ret
  exact ⟨rfl, hb1⟩
end
section
/-- What is asked of the two functions that are handed in. -/
def OkCTerms (ok : Terms → Bool) : Prop := ∀ (x : Terms) (w : World), Calls Tryz.prog 55 #[.agg #[.int .u8 x.cl, .int .i64 x.free, .int .i64 x.share, .int .i64 x.most, .int .i64 x.after, .int .i64 x.limit, .int .i64 x.wi]] w fun e w' => e = .returned (.bool (ok x)) ∧ Below w.heap.size w w'
def CmpCTerms (cmp : Terms → Terms → Int) : Prop := ∀ (x y : Terms) (w : World), Calls Tryz.prog 56 #[.agg #[.int .u8 x.cl, .int .i64 x.free, .int .i64 x.share, .int .i64 x.most, .int .i64 x.after, .int .i64 x.limit, .int .i64 x.wi], .agg #[.int .u8 y.cl, .int .i64 y.free, .int .i64 y.share, .int .i64 y.most, .int .i64 y.after, .int .i64 y.limit, .int .i64 y.wi]] w fun e w' => e = .returned (.int .i64 (cmp x y)) ∧ Below w.heap.size w w'

theorem notTerms {ok : Terms → Bool} (hok : OkCTerms ok) (x : Terms) (B : Nat) (w : World) (hB : B < w.heap.size) (hc : w.cell? ⟨B, 0, none⟩ = some (.func (.func 55) #[] #[])) : Calls Tryz.prog 91 #[.agg #[.int .u8 x.cl, .int .i64 x.free, .int .i64 x.share, .int .i64 x.most, .int .i64 x.after, .int .i64 x.limit, .int .i64 x.wi], .pointer (some ⟨B, 0, none⟩)] w fun e w' => e = .returned (.bool (!(ok x))) ∧ Below w.heap.size w w' := by
  have H := Lib.hid hok
  clear hok
  have hne : B ≠ w.heap.size := by omega
  go_enter Tryz.func91, Tryz.ntmps91
  go_wp2_with fail
  refine (H.out x _).mono ?_
  rintro e w1 ⟨rfl, hb1⟩
  go_wp2_with fail
  go_ret
  exact ⟨rfl, ((Below.refl _ _).alloc (Nat.le_refl _) _).trans (hb1.mono (by first | (simp; done) | (simp; omega) | omega))⟩

set_option maxHeartbeats 400000 in
theorem idxTerms {ok : Terms → Bool} (hok : OkCTerms ok) (A : Option Addr) (c : Nat) (xs : List Terms) (B : Nat) (w : World) (hr : Rd encTerms 7 w A xs) (hn : xs.length ≤ 1000000) (hB : B < w.heap.size) (hc : w.cell? ⟨B, 0, none⟩ = some (.func (.func 55) #[] #[])) :
    Calls Tryz.prog 75 #[.slice A xs.length c, .func (.func 91) #[] #[.pointer (some ⟨B, 0, none⟩)]] w fun e w' => e = .returned (.int .i64 (idxBad ok xs 0)) ∧ Below w.heap.size w w' := by
  have H := Lib.hid hok
  clear hok
  go_enter Tryz.func75, Tryz.ntmps75
  go_wp2
  go_loopg [5, 8] xs.length (fun gg _ s8 wr => ∃ j : Nat, j ≤ xs.length ∧ xs.length - j ≤ gg ∧ s8 = .int .i64 j ∧ Aside (Below w.heap.size w wr) ∧ Aside (idxBad ok xs 0 = idxBad ok (xs.drop j) j))
  case atStart => exact ⟨0, Nat.zero_le _, by omega, rfl, Below.refl _ _, by simp [Aside]⟩
  case round =>
    obtain ⟨j, hj, hg, rfl, BW, Z⟩ := hrel
    by_cases hlt : j < xs.length
    · obtain ⟨b, o, rfl, hb, hl⟩ := (hr.below (Nat.le_refl _) BW.out).at (List.getElem?_eq_getElem hlt)
      have Z2 : Aside (idxBad ok xs 0 = if ok xs[j] then idxBad ok (xs.drop (j + 1)) (j + 1) else (j : Int)) := by
        have := Z.out; rw [List.drop_eq_getElem_cons hlt, idxBad] at this; exact this
      clear Z
      generalize xs[j] = x at hl Z2
      have hl0 := hl 0 _ rfl; have hl1 := hl 1 _ rfl; have hl2 := hl 2 _ rfl; have hl3 := hl 3 _ rfl; have hl4 := hl 4 _ rfl; have hl5 := hl 5 _ rfl; have hl6 := hl 6 _ rfl; rw [Nat.add_zero] at hl0; clear hl
      have hB' : B < wr.heap.size := Nat.lt_of_lt_of_le hB BW.out.size
      have hc' : wr.cell? ⟨B, 0, none⟩ = some (.func (.func 55) #[] #[]) := (BW.out.cell (p := ⟨B, 0, none⟩) hB).trans hc
      have hcall := notTerms H.out x B wr hB' hc'
      clear hc' hB' hc hr
      cases hq : ok x with
      | true =>
        rw [hq] at Z2 hcall
        go_wp2_with (go_at_call 91; refine hcall.mono ?_; rintro e w' ⟨rfl, hb1⟩)
        go_roundg (xs.length - (j + 1))
        case measure => omega
        case rel => exact ⟨j + 1, by omega, by omega, by go_num, BW.out.trans (hb1.mono BW.out.size), by rw [Aside, Z2.out]; rfl⟩
      | false =>
        rw [hq] at Z2 hcall
        go_wp2_with (go_at_call 91; refine hcall.mono ?_; rintro e w' ⟨rfl, hb1⟩)
        go_ret
        exact ⟨by rw [Z2.out]; rfl, BW.out.trans (hb1.mono BW.out.size)⟩
    · have : j = xs.length := by omega
      subst this
      go_wp2
      go_ret
      refine ⟨?_, BW.out⟩
      rw [Z.out]; simp [idxBad]

theorem containsTerms {ok : Terms → Bool} (hok : OkCTerms ok) (A : Option Addr) (c : Nat) (xs : List Terms) (B : Nat) (w : World) (hr : Rd encTerms 7 w A xs) (hn : xs.length ≤ 1000000) (hB : B < w.heap.size) (hc : w.cell? ⟨B, 0, none⟩ = some (.func (.func 55) #[] #[])) {r : Bool} (hres : (!(xs.all ok)) = r) {n : Nat} (hlen : xs.length = n) :
    Calls Tryz.prog 90 #[.slice A n c, .func (.func 91) #[] #[.pointer (some ⟨B, 0, none⟩)]] w fun e w' => e = .returned (.bool r) ∧ Below w.heap.size w w' := by
  subst hlen
  rw [← hres, ← idxBad_ge ok xs 0]
  have hcall := idxTerms hok A c xs B w hr hn hB hc
  clear hr hn hc hB hres hok
  generalize idxBad ok xs 0 = q at hcall ⊢
  generalize xs.length = n at hcall ⊢
  go_enter Tryz.func90, Tryz.ntmps90
  go_wp2_with (go_at_call 75; refine hcall.mono ?_; rintro e w' ⟨rfl, hb1⟩)
  go_ret
  exact ⟨rfl, hb1⟩
end
section
/-- What is asked of the two functions that are handed in. -/
def OkCSent (ok : Sent → Bool) : Prop := ∀ (x : Sent) (w : World), Calls Tryz.prog 62 #[.agg #[.int .i64 x.item, .int .u8 x.cl, .int .i64 x.fr, .int .i64 x.to, .int .i64 x.acc, .int .i64 x.del]] w fun e w' => e = .returned (.bool (ok x)) ∧ Below w.heap.size w w'
def CmpCSent (cmp : Sent → Sent → Int) : Prop := ∀ (x y : Sent) (w : World), Calls Tryz.prog 63 #[.agg #[.int .i64 x.item, .int .u8 x.cl, .int .i64 x.fr, .int .i64 x.to, .int .i64 x.acc, .int .i64 x.del], .agg #[.int .i64 y.item, .int .u8 y.cl, .int .i64 y.fr, .int .i64 y.to, .int .i64 y.acc, .int .i64 y.del]] w fun e w' => e = .returned (.int .i64 (cmp x y)) ∧ Below w.heap.size w w'

theorem notSent {ok : Sent → Bool} (hok : OkCSent ok) (x : Sent) (B : Nat) (w : World) (hB : B < w.heap.size) (hc : w.cell? ⟨B, 0, none⟩ = some (.func (.func 62) #[] #[])) : Calls Tryz.prog 95 #[.agg #[.int .i64 x.item, .int .u8 x.cl, .int .i64 x.fr, .int .i64 x.to, .int .i64 x.acc, .int .i64 x.del], .pointer (some ⟨B, 0, none⟩)] w fun e w' => e = .returned (.bool (!(ok x))) ∧ Below w.heap.size w w' := by
  have H := Lib.hid hok
  clear hok
  have hne : B ≠ w.heap.size := by omega
  go_enter Tryz.func95, Tryz.ntmps95
  go_wp2_with fail
  refine (H.out x _).mono ?_
  rintro e w1 ⟨rfl, hb1⟩
  go_wp2_with fail
  go_ret
  exact ⟨rfl, ((Below.refl _ _).alloc (Nat.le_refl _) _).trans (hb1.mono (by first | (simp; done) | (simp; omega) | omega))⟩

set_option maxHeartbeats 400000 in
theorem idxSent {ok : Sent → Bool} (hok : OkCSent ok) (A : Option Addr) (c : Nat) (xs : List Sent) (B : Nat) (w : World) (hr : Rd encSent 6 w A xs) (hn : xs.length ≤ 1000000) (hB : B < w.heap.size) (hc : w.cell? ⟨B, 0, none⟩ = some (.func (.func 62) #[] #[])) :
    Calls Tryz.prog 73 #[.slice A xs.length c, .func (.func 95) #[] #[.pointer (some ⟨B, 0, none⟩)]] w fun e w' => e = .returned (.int .i64 (idxBad ok xs 0)) ∧ Below w.heap.size w w' := by
  have H := Lib.hid hok
  clear hok
  go_enter Tryz.func73, Tryz.ntmps73
  go_wp2
  go_loopg [5, 8] xs.length (fun gg _ s8 wr => ∃ j : Nat, j ≤ xs.length ∧ xs.length - j ≤ gg ∧ s8 = .int .i64 j ∧ Aside (Below w.heap.size w wr) ∧ Aside (idxBad ok xs 0 = idxBad ok (xs.drop j) j))
  case atStart => exact ⟨0, Nat.zero_le _, by omega, rfl, Below.refl _ _, by simp [Aside]⟩
  case round =>
    obtain ⟨j, hj, hg, rfl, BW, Z⟩ := hrel
    by_cases hlt : j < xs.length
    · obtain ⟨b, o, rfl, hb, hl⟩ := (hr.below (Nat.le_refl _) BW.out).at (List.getElem?_eq_getElem hlt)
      have Z2 : Aside (idxBad ok xs 0 = if ok xs[j] then idxBad ok (xs.drop (j + 1)) (j + 1) else (j : Int)) := by
        have := Z.out; rw [List.drop_eq_getElem_cons hlt, idxBad] at this; exact this
      clear Z
      generalize xs[j] = x at hl Z2
      have hl0 := hl 0 _ rfl; have hl1 := hl 1 _ rfl; have hl2 := hl 2 _ rfl; have hl3 := hl 3 _ rfl; have hl4 := hl 4 _ rfl; have hl5 := hl 5 _ rfl; rw [Nat.add_zero] at hl0; clear hl
      have hB' : B < wr.heap.size := Nat.lt_of_lt_of_le hB BW.out.size
      have hc' : wr.cell? ⟨B, 0, none⟩ = some (.func (.func 62) #[] #[]) := (BW.out.cell (p := ⟨B, 0, none⟩) hB).trans hc
      have hcall := notSent H.out x B wr hB' hc'
      clear hc' hB' hc hr
      cases hq : ok x with
      | true =>
        rw [hq] at Z2 hcall
        go_wp2_with (go_at_call 95; refine hcall.mono ?_; rintro e w' ⟨rfl, hb1⟩)
        go_roundg (xs.length - (j + 1))
        case measure => omega
        case rel => exact ⟨j + 1, by omega, by omega, by go_num, BW.out.trans (hb1.mono BW.out.size), by rw [Aside, Z2.out]; rfl⟩
      | false =>
        rw [hq] at Z2 hcall
        go_wp2_with (go_at_call 95; refine hcall.mono ?_; rintro e w' ⟨rfl, hb1⟩)
        go_ret
        exact ⟨by rw [Z2.out]; rfl, BW.out.trans (hb1.mono BW.out.size)⟩
    · have : j = xs.length := by omega
      subst this
      go_wp2
      go_ret
      refine ⟨?_, BW.out⟩
      rw [Z.out]; simp [idxBad]

theorem containsSent {ok : Sent → Bool} (hok : OkCSent ok) (A : Option Addr) (c : Nat) (xs : List Sent) (B : Nat) (w : World) (hr : Rd encSent 6 w A xs) (hn : xs.length ≤ 1000000) (hB : B < w.heap.size) (hc : w.cell? ⟨B, 0, none⟩ = some (.func (.func 62) #[] #[])) {r : Bool} (hres : (!(xs.all ok)) = r) {n : Nat} (hlen : xs.length = n) :
    Calls Tryz.prog 94 #[.slice A n c, .func (.func 95) #[] #[.pointer (some ⟨B, 0, none⟩)]] w fun e w' => e = .returned (.bool r) ∧ Below w.heap.size w w' := by
  subst hlen
  rw [← hres, ← idxBad_ge ok xs 0]
  have hcall := idxSent hok A c xs B w hr hn hB hc
  clear hr hn hc hB hres hok
  generalize idxBad ok xs 0 = q at hcall ⊢
  generalize xs.length = n at hcall ⊢
  go_enter Tryz.func94, Tryz.ntmps94
  go_wp2_with (go_at_call 73; refine hcall.mono ?_; rintro e w' ⟨rfl, hb1⟩)
  go_ret
  exact ⟨rfl, hb1⟩
end
section
/-- What is asked of the two functions that are handed in. -/
def OkCClm (ok : Clm → Bool) : Prop := ∀ (x : Clm) (w : World), Calls Tryz.prog 66 #[.agg #[.int .i64 x.id, .int .i64 x.item, .int .i64 x.at_, .int .u8 x.kind, .int .i64 x.post, .int .i64 x.val]] w fun e w' => e = .returned (.bool (ok x)) ∧ Below w.heap.size w w'
def CmpCClm (cmp : Clm → Clm → Int) : Prop := ∀ (x y : Clm) (w : World), Calls Tryz.prog 67 #[.agg #[.int .i64 x.id, .int .i64 x.item, .int .i64 x.at_, .int .u8 x.kind, .int .i64 x.post, .int .i64 x.val], .agg #[.int .i64 y.id, .int .i64 y.item, .int .i64 y.at_, .int .u8 y.kind, .int .i64 y.post, .int .i64 y.val]] w fun e w' => e = .returned (.int .i64 (cmp x y)) ∧ Below w.heap.size w w'

theorem notClm {ok : Clm → Bool} (hok : OkCClm ok) (x : Clm) (B : Nat) (w : World) (hB : B < w.heap.size) (hc : w.cell? ⟨B, 0, none⟩ = some (.func (.func 66) #[] #[])) : Calls Tryz.prog 97 #[.agg #[.int .i64 x.id, .int .i64 x.item, .int .i64 x.at_, .int .u8 x.kind, .int .i64 x.post, .int .i64 x.val], .pointer (some ⟨B, 0, none⟩)] w fun e w' => e = .returned (.bool (!(ok x))) ∧ Below w.heap.size w w' := by
  have H := Lib.hid hok
  clear hok
  have hne : B ≠ w.heap.size := by omega
  go_enter Tryz.func97, Tryz.ntmps97
  go_wp2_with fail
  refine (H.out x _).mono ?_
  rintro e w1 ⟨rfl, hb1⟩
  go_wp2_with fail
  go_ret
  exact ⟨rfl, ((Below.refl _ _).alloc (Nat.le_refl _) _).trans (hb1.mono (by first | (simp; done) | (simp; omega) | omega))⟩

set_option maxHeartbeats 400000 in
theorem idxClm {ok : Clm → Bool} (hok : OkCClm ok) (A : Option Addr) (c : Nat) (xs : List Clm) (B : Nat) (w : World) (hr : Rd encClm 6 w A xs) (hn : xs.length ≤ 1000000) (hB : B < w.heap.size) (hc : w.cell? ⟨B, 0, none⟩ = some (.func (.func 66) #[] #[])) :
    Calls Tryz.prog 120 #[.slice A xs.length c, .func (.func 97) #[] #[.pointer (some ⟨B, 0, none⟩)]] w fun e w' => e = .returned (.int .i64 (idxBad ok xs 0)) ∧ Below w.heap.size w w' := by
  have H := Lib.hid hok
  clear hok
  go_enter Tryz.func120, Tryz.ntmps120
  go_wp2
  go_loopg [5, 8] xs.length (fun gg _ s8 wr => ∃ j : Nat, j ≤ xs.length ∧ xs.length - j ≤ gg ∧ s8 = .int .i64 j ∧ Aside (Below w.heap.size w wr) ∧ Aside (idxBad ok xs 0 = idxBad ok (xs.drop j) j))
  case atStart => exact ⟨0, Nat.zero_le _, by omega, rfl, Below.refl _ _, by simp [Aside]⟩
  case round =>
    obtain ⟨j, hj, hg, rfl, BW, Z⟩ := hrel
    by_cases hlt : j < xs.length
    · obtain ⟨b, o, rfl, hb, hl⟩ := (hr.below (Nat.le_refl _) BW.out).at (List.getElem?_eq_getElem hlt)
      have Z2 : Aside (idxBad ok xs 0 = if ok xs[j] then idxBad ok (xs.drop (j + 1)) (j + 1) else (j : Int)) := by
        have := Z.out; rw [List.drop_eq_getElem_cons hlt, idxBad] at this; exact this
      clear Z
      generalize xs[j] = x at hl Z2
      have hl0 := hl 0 _ rfl; have hl1 := hl 1 _ rfl; have hl2 := hl 2 _ rfl; have hl3 := hl 3 _ rfl; have hl4 := hl 4 _ rfl; have hl5 := hl 5 _ rfl; rw [Nat.add_zero] at hl0; clear hl
      have hB' : B < wr.heap.size := Nat.lt_of_lt_of_le hB BW.out.size
      have hc' : wr.cell? ⟨B, 0, none⟩ = some (.func (.func 66) #[] #[]) := (BW.out.cell (p := ⟨B, 0, none⟩) hB).trans hc
      have hcall := notClm H.out x B wr hB' hc'
      clear hc' hB' hc hr
      cases hq : ok x with
      | true =>
        rw [hq] at Z2 hcall
        go_wp2_with (go_at_call 97; refine hcall.mono ?_; rintro e w' ⟨rfl, hb1⟩)
        go_roundg (xs.length - (j + 1))
        case measure => omega
        case rel => exact ⟨j + 1, by omega, by omega, by go_num, BW.out.trans (hb1.mono BW.out.size), by rw [Aside, Z2.out]; rfl⟩
      | false =>
        rw [hq] at Z2 hcall
        go_wp2_with (go_at_call 97; refine hcall.mono ?_; rintro e w' ⟨rfl, hb1⟩)
        go_ret
        exact ⟨by rw [Z2.out]; rfl, BW.out.trans (hb1.mono BW.out.size)⟩
    · have : j = xs.length := by omega
      subst this
      go_wp2
      go_ret
      refine ⟨?_, BW.out⟩
      rw [Z.out]; simp [idxBad]

theorem containsClm {ok : Clm → Bool} (hok : OkCClm ok) (A : Option Addr) (c : Nat) (xs : List Clm) (B : Nat) (w : World) (hr : Rd encClm 6 w A xs) (hn : xs.length ≤ 1000000) (hB : B < w.heap.size) (hc : w.cell? ⟨B, 0, none⟩ = some (.func (.func 66) #[] #[])) {r : Bool} (hres : (!(xs.all ok)) = r) {n : Nat} (hlen : xs.length = n) :
    Calls Tryz.prog 96 #[.slice A n c, .func (.func 97) #[] #[.pointer (some ⟨B, 0, none⟩)]] w fun e w' => e = .returned (.bool r) ∧ Below w.heap.size w w' := by
  subst hlen
  rw [← hres, ← idxBad_ge ok xs 0]
  have hcall := idxClm hok A c xs B w hr hn hB hc
  clear hr hn hc hB hres hok
  generalize idxBad ok xs 0 = q at hcall ⊢
  generalize xs.length = n at hcall ⊢
  go_enter Tryz.func96, Tryz.ntmps96
  go_wp2_with (go_at_call 120; refine hcall.mono ?_; rintro e w' ⟨rfl, hb1⟩)
  go_ret
  exact ⟨rfl, hb1⟩
end
end Go.Proofs.YtnnppnlekpadnaaGreat
