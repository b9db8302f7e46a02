/- Contracts of the predicates on terms, items and claims, and of the orders that claim.all is given; so of claim.Right and claim.RightTerms. -/
import Derived.Test.YtnnppnlekpadnaaGreatAll2
namespace Go.Proofs.YtnnppnlekpadnaaGreat
open Go.RowKit Go.Proofs
set_option maxRecDepth 100000

theorem rdI_one3 {w : World} {n : Nat} {a b c : Int} {T : TypeId} (h : n = w.heap.size) : RdI (w.alloc (.cells #[.int .i64 a, .int .i64 b, .int .i64 c] T)) (some ⟨n, 0, none⟩) [a, b, c] := by
  subst h
  exact rdI_lit3 _ _ _ _ _
theorem within_3 {lo hi a b d : Int} {r : Bool} (hr : withinB lo hi [a, b, d] = r) {A : Option Addr} {c : Nat} {w : World} (h : RdI w A [a, b, d]) : Calls Tryz.prog 33 #[.int .i64 lo, .int .i64 hi, .slice A 3 c] w fun e w' => e = .returned (.bool r) ∧ Below w.heap.size w w' := by
  have := within_any lo hi A c [a, b, d] w h (by simp)
  rw [hr] at this
  exact this

/-- Behind the first call of within: the box is there, and all that was there. -/
theorem okfirst {w w1 : World} {arr brr : Array Value} {T T2 : TypeId} (h : Below ((w.alloc (.cells arr T)).alloc (.cells brr T2)).heap.size ((w.alloc (.cells arr T)).alloc (.cells brr T2)) w1) :
    (∀ i, w1.cell? ⟨w.heap.size, i, none⟩ = arr[i]?) ∧ w.heap.size < w1.heap.size ∧ Below w.heap.size w w1 :=
  ⟨cells_below (T := T) (fr := (0, 0)) (by rw [blk_old _ (by first | (simp; done) | (simp; omega) | omega)]; exact blk_new rfl) (by first | (simp; done) | (simp; omega) | omega) h, by have := h.size; simp at this; omega, (((Below.refl _ _).alloc (Nat.le_refl _) _).alloc (by first | (simp; done) | (simp; omega) | omega) _).trans (h.mono (by first | (simp; done) | (simp; omega) | omega))⟩
/-- Behind a later one. -/
theorem okstep {w w1 w2 : World} {arr brr : Array Value} {T2 : TypeId} (hc : ∀ i, w1.cell? ⟨w.heap.size, i, none⟩ = arr[i]?) (hs : w.heap.size < w1.heap.size) (hb : Below w.heap.size w w1) (h : Below (w1.alloc (.cells brr T2)).heap.size (w1.alloc (.cells brr T2)) w2) :
    (∀ i, w2.cell? ⟨w.heap.size, i, none⟩ = arr[i]?) ∧ w.heap.size < w2.heap.size ∧ Below w.heap.size w w2 :=
  ⟨fun i => (((Below.refl _ w1).alloc (Nat.le_refl _) _).trans (h.mono (by first | (simp; done) | (simp; omega) | omega))).cell (p := ⟨w.heap.size, i, none⟩) hs ▸ hc i, by have := h.size; simp at this; omega, (hb.alloc hb.size _).trans (h.mono (by have := hb.size; simp; omega))⟩

/-- One is right. -/
def okTerms (x : Terms) : Bool := (decide (0 < x.cl) && (withinB 0 100000 [x.free] && (withinB 0 10000 [x.share, x.most] && (withinB 0 1000000 [x.after] && (withinB 0 250000000000000 [x.limit] && withinB 0 3650 [x.wi])))))

set_option maxHeartbeats 1000000 in
theorem okcTerms : OkCTerms okTerms := fun x w => by
  unfold okTerms
  generalize H1 : withinB 0 100000 [x.free] = r1
  replace H1 := Lib.hid H1
  generalize H2 : withinB 0 10000 [x.share, x.most] = r2
  replace H2 := Lib.hid H2
  generalize H3 : withinB 0 1000000 [x.after] = r3
  replace H3 := Lib.hid H3
  generalize H4 : withinB 0 250000000000000 [x.limit] = r4
  replace H4 := Lib.hid H4
  generalize H5 : withinB 0 3650 [x.wi] = r5
  replace H5 := Lib.hid H5
  by_cases h0 : 0 < x.cl
  · rw [decide_eq_true h0]
    go_enter Tryz.func55, Tryz.ntmps55
    go_wp2_with fail
    refine (within_1 H1.out (by exact rdI_lit1 (by first | (simp; done) | (simp; omega) | omega))).mono ?_
    rintro e w1 ⟨rfl, hb1⟩
    obtain ⟨hc1, hs1, hb1⟩ := okfirst hb1
    clear H1
    cases r1 with
    | true =>
      go_wp2_with fail
      refine (within_2 H2.out (by exact rdI_lit2 (by first | (simp; done) | (simp; omega) | omega))).mono ?_
      rintro e w2 ⟨rfl, hb2⟩
      obtain ⟨hc2, hs2, hb2⟩ := okstep hc1 hs1 hb1 hb2
      clear H2 hc1
      cases r2 with
      | true =>
        go_wp2_with fail
        refine (within_1 H3.out (by exact rdI_lit1 (by first | (simp; done) | (simp; omega) | omega))).mono ?_
        rintro e w3 ⟨rfl, hb3⟩
        obtain ⟨hc3, hs3, hb3⟩ := okstep hc2 hs2 hb2 hb3
        clear H3 hc2
        cases r3 with
        | true =>
          go_wp2_with fail
          refine (within_1 H4.out (by exact rdI_lit1 (by first | (simp; done) | (simp; omega) | omega))).mono ?_
          rintro e w4 ⟨rfl, hb4⟩
          obtain ⟨hc4, hs4, hb4⟩ := okstep hc3 hs3 hb3 hb4
          clear H4 hc3
          cases r4 with
          | true =>
            go_wp2_with fail
            refine (within_1 H5.out (by exact rdI_lit1 (by first | (simp; done) | (simp; omega) | omega))).mono ?_
            rintro e w5 ⟨rfl, hb5⟩
            obtain ⟨hc5, hs5, hb5⟩ := okstep hc4 hs4 hb4 hb5
            clear H5 hc4
            cases r5 with
            | true =>
              go_wp2_with fail
              go_ret
              exact ⟨rfl, hb5⟩
            | false =>
              go_wp2_with fail
              go_ret
              exact ⟨rfl, hb5⟩
          | false =>
            go_wp2_with fail
            go_ret
            exact ⟨rfl, hb4⟩
        | false =>
          go_wp2_with fail
          go_ret
          exact ⟨rfl, hb3⟩
      | false =>
        go_wp2_with fail
        go_ret
        exact ⟨rfl, hb2⟩
    | false =>
      go_wp2_with fail
      go_ret
      exact ⟨rfl, hb1⟩
  · rw [decide_eq_false h0]
    go_enter Tryz.func55, Tryz.ntmps55
    go_wp2_with fail
    go_ret
    exact ⟨rfl, (Below.refl _ _).alloc (Nat.le_refl _) _⟩

/-- One is right. -/
def okSent (x : Sent) : Bool := (decide (0 < x.cl) && (withinB 1 999999 [x.item, x.fr, x.to] && (withinB 0 1051898399 [x.acc] && (decide (x.del = -1) || withinB x.acc 1051898399 [x.del]))))

set_option maxHeartbeats 1000000 in
theorem okcSent : OkCSent okSent := fun x w => by
  unfold okSent
  generalize H1 : withinB 1 999999 [x.item, x.fr, x.to] = r1
  replace H1 := Lib.hid H1
  generalize H2 : withinB 0 1051898399 [x.acc] = r2
  replace H2 := Lib.hid H2
  generalize H3 : withinB x.acc 1051898399 [x.del] = r3
  replace H3 := Lib.hid H3
  by_cases h0 : 0 < x.cl
  · rw [decide_eq_true h0]
    by_cases h3 : x.del = -1
    · rw [decide_eq_true h3]
      replace h3 : (x.del == -1) = true := by simpa using h3
      go_enter Tryz.func62, Tryz.ntmps62
      go_wp2_with fail
      refine (within_3 H1.out (by exact rdI_one3 (by first | (simp; done) | (simp; omega) | omega))).mono ?_
      rintro e w1 ⟨rfl, hb1⟩
      obtain ⟨hc1, hs1, hb1⟩ := okfirst hb1
      clear H1
      cases r1 with
      | true =>
        go_wp2_with fail
        refine (within_1 H2.out (by exact rdI_lit1 (by first | (simp; done) | (simp; omega) | omega))).mono ?_
        rintro e w2 ⟨rfl, hb2⟩
        obtain ⟨hc2, hs2, hb2⟩ := okstep hc1 hs1 hb1 hb2
        clear H2 hc1
        cases r2 with
        | true =>
          go_wp2_with fail
          go_ret
          exact ⟨rfl, hb2⟩
        | false =>
          go_wp2_with fail
          go_ret
          exact ⟨rfl, hb2⟩
      | false =>
        go_wp2_with fail
        go_ret
        exact ⟨rfl, hb1⟩
    · rw [decide_eq_false h3]
      replace h3 : (x.del == -1) = false := by simpa using h3
      go_enter Tryz.func62, Tryz.ntmps62
      go_wp2_with fail
      refine (within_3 H1.out (by exact rdI_one3 (by first | (simp; done) | (simp; omega) | omega))).mono ?_
      rintro e w1 ⟨rfl, hb1⟩
      obtain ⟨hc1, hs1, hb1⟩ := okfirst hb1
      clear H1
      cases r1 with
      | true =>
        go_wp2_with fail
        refine (within_1 H2.out (by exact rdI_lit1 (by first | (simp; done) | (simp; omega) | omega))).mono ?_
        rintro e w2 ⟨rfl, hb2⟩
        obtain ⟨hc2, hs2, hb2⟩ := okstep hc1 hs1 hb1 hb2
        clear H2 hc1
        cases r2 with
        | true =>
          go_wp2_with fail
          refine (within_1 H3.out (by exact rdI_lit1 (by first | (simp; done) | (simp; omega) | omega))).mono ?_
          rintro e w3 ⟨rfl, hb3⟩
          obtain ⟨hc3, hs3, hb3⟩ := okstep hc2 hs2 hb2 hb3
          clear H3 hc2
          cases r3 with
          | true =>
            go_wp2_with fail
            go_ret
            exact ⟨rfl, hb3⟩
          | false =>
            go_wp2_with fail
            go_ret
            exact ⟨rfl, hb3⟩
        | false =>
          go_wp2_with fail
          go_ret
          exact ⟨rfl, hb2⟩
      | false =>
        go_wp2_with fail
        go_ret
        exact ⟨rfl, hb1⟩
  · rw [decide_eq_false h0]
    by_cases h3 : x.del = -1
    · rw [decide_eq_true h3]
      replace h3 : (x.del == -1) = true := by simpa using h3
      go_enter Tryz.func62, Tryz.ntmps62
      go_wp2_with fail
      go_ret
      exact ⟨rfl, (Below.refl _ _).alloc (Nat.le_refl _) _⟩
    · rw [decide_eq_false h3]
      replace h3 : (x.del == -1) = false := by simpa using h3
      go_enter Tryz.func62, Tryz.ntmps62
      go_wp2_with fail
      go_ret
      exact ⟨rfl, (Below.refl _ _).alloc (Nat.le_refl _) _⟩

/-- One is right. -/
def okClm (x : Clm) : Bool := (withinB 1 999999 [x.id, x.item] && (withinB 0 1051898399 [x.at_] && ((decide (x.kind = 1) || decide (x.kind = 2)) && withinB 0 250000000000000 [x.post, x.val])))

set_option maxHeartbeats 1000000 in
theorem okcClm : OkCClm okClm := fun x w => by
  unfold okClm
  generalize H1 : withinB 1 999999 [x.id, x.item] = r1
  replace H1 := Lib.hid H1
  generalize H2 : withinB 0 1051898399 [x.at_] = r2
  replace H2 := Lib.hid H2
  generalize H3 : withinB 0 250000000000000 [x.post, x.val] = r3
  replace H3 := Lib.hid H3
  by_cases h2 : x.kind = 1
  · rw [decide_eq_true h2]
    replace h2 : (x.kind == 1) = true := by simpa using h2
    go_enter Tryz.func66, Tryz.ntmps66
    go_wp2_with fail
    refine (within_2 H1.out (by exact rdI_lit2 (by first | (simp; done) | (simp; omega) | omega))).mono ?_
    rintro e w1 ⟨rfl, hb1⟩
    obtain ⟨hc1, hs1, hb1⟩ := okfirst hb1
    clear H1
    cases r1 with
    | true =>
      go_wp2_with fail
      refine (within_1 H2.out (by exact rdI_lit1 (by first | (simp; done) | (simp; omega) | omega))).mono ?_
      rintro e w2 ⟨rfl, hb2⟩
      obtain ⟨hc2, hs2, hb2⟩ := okstep hc1 hs1 hb1 hb2
      clear H2 hc1
      cases r2 with
      | true =>
        go_wp2_with fail
        refine (within_2 H3.out (by exact rdI_lit2 (by first | (simp; done) | (simp; omega) | omega))).mono ?_
        rintro e w3 ⟨rfl, hb3⟩
        obtain ⟨hc3, hs3, hb3⟩ := okstep hc2 hs2 hb2 hb3
        clear H3 hc2
        cases r3 with
        | true =>
          go_wp2_with fail
          go_ret
          exact ⟨rfl, hb3⟩
        | false =>
          go_wp2_with fail
          go_ret
          exact ⟨rfl, hb3⟩
      | false =>
        go_wp2_with fail
        go_ret
        exact ⟨rfl, hb2⟩
    | false =>
      go_wp2_with fail
      go_ret
      exact ⟨rfl, hb1⟩
  · rw [decide_eq_false h2]
    replace h2 : (x.kind == 1) = false := by simpa using h2
    by_cases k2 : x.kind = 2
    · rw [decide_eq_true k2]
      replace k2 : (x.kind == 2) = true := by simpa using k2
      go_enter Tryz.func66, Tryz.ntmps66
      go_wp2_with fail
      refine (within_2 H1.out (by exact rdI_lit2 (by first | (simp; done) | (simp; omega) | omega))).mono ?_
      rintro e w1 ⟨rfl, hb1⟩
      obtain ⟨hc1, hs1, hb1⟩ := okfirst hb1
      clear H1
      cases r1 with
      | true =>
        go_wp2_with fail
        refine (within_1 H2.out (by exact rdI_lit1 (by first | (simp; done) | (simp; omega) | omega))).mono ?_
        rintro e w2 ⟨rfl, hb2⟩
        obtain ⟨hc2, hs2, hb2⟩ := okstep hc1 hs1 hb1 hb2
        clear H2 hc1
        cases r2 with
        | true =>
          go_wp2_with fail
          refine (within_2 H3.out (by exact rdI_lit2 (by first | (simp; done) | (simp; omega) | omega))).mono ?_
          rintro e w3 ⟨rfl, hb3⟩
          obtain ⟨hc3, hs3, hb3⟩ := okstep hc2 hs2 hb2 hb3
          clear H3 hc2
          cases r3 with
          | true =>
            go_wp2_with fail
            go_ret
            exact ⟨rfl, hb3⟩
          | false =>
            go_wp2_with fail
            go_ret
            exact ⟨rfl, hb3⟩
        | false =>
          go_wp2_with fail
          go_ret
          exact ⟨rfl, hb2⟩
      | false =>
        go_wp2_with fail
        go_ret
        exact ⟨rfl, hb1⟩
    · rw [decide_eq_false k2]
      replace k2 : (x.kind == 2) = false := by simpa using k2
      go_enter Tryz.func66, Tryz.ntmps66
      go_wp2_with fail
      refine (within_2 H1.out (by exact rdI_lit2 (by first | (simp; done) | (simp; omega) | omega))).mono ?_
      rintro e w1 ⟨rfl, hb1⟩
      obtain ⟨hc1, hs1, hb1⟩ := okfirst hb1
      clear H1
      cases r1 with
      | true =>
        go_wp2_with fail
        refine (within_1 H2.out (by exact rdI_lit1 (by first | (simp; done) | (simp; omega) | omega))).mono ?_
        rintro e w2 ⟨rfl, hb2⟩
        obtain ⟨hc2, hs2, hb2⟩ := okstep hc1 hs1 hb1 hb2
        clear H2 hc1
        cases r2 with
        | true =>
          go_wp2_with fail
          go_ret
          exact ⟨rfl, hb2⟩
        | false =>
          go_wp2_with fail
          go_ret
          exact ⟨rfl, hb2⟩
      | false =>
        go_wp2_with fail
        go_ret
        exact ⟨rfl, hb1⟩

end Go.Proofs.YtnnppnlekpadnaaGreat
