/- Contracts of package scan's small functions: within, right, down, byOff, byPlace. -/
import Derived.Test.YtcjhkjplpbhjiaaOr
import Derived.Test.YtcjhkjplpbhjiaaTake
import Derived.Test.YtcjhkjplpbhjiaaSc
import Derived.Lib.Hide
import Derived.IntWalk
namespace Go.Proofs.Ytcjhkjplpbhjiaa
open Go.RowKit Go.Proofs Go.Sort
set_option maxRecDepth 100000

theorem within_any (n lo hi : Int) (w : World) : Calls Try.prog 35 #[.int .i64 n, .int .i64 lo, .int .i64 hi] w fun e w' => e = .returned (.bool (inB lo hi n)) ∧ w = w' := by
  by_cases h1 : lo ≤ n
  · have e : inB lo hi n = decide (n ≤ hi) := by simp [inB, h1]
    rw [e]; clear e
    go_enter Try.func35, Try.ntmps35
    go_wp2
    go_ret
    exact ⟨rfl, rfl⟩
  · have e : inB lo hi n = false := by simp [inB, h1]
    rw [e]; clear e
    go_enter Try.func35, Try.ntmps35
    go_wp2
    go_ret
    exact ⟨rfl, rfl⟩

set_option maxHeartbeats 1000000 in
theorem right_any (s : Scn) (w : World) : Calls Try.prog 34 #[.agg #[.int .i64 s.item, .int .i64 s.place, .int .i64 s.scanner, .int .u8 s.kind, .int .i64 s.at_, .int .i64 s.seen]] w fun e w' => e = .returned (.bool (okS s)) ∧ Below w.heap.size w w' := by
  unfold okS
  have H0 := Lib.hid (fun W => within_any s.item 1 999999 W)
  generalize inB 1 999999 s.item = r0 at *
  have H1 := Lib.hid (fun W => within_any s.place 1 999999 W)
  generalize inB 1 999999 s.place = r1 at *
  have H2 := Lib.hid (fun W => within_any s.scanner 1 999999 W)
  generalize inB 1 999999 s.scanner = r2 at *
  have H5 := Lib.hid (fun W => within_any s.at_ 0 1051898399 W)
  generalize inB 0 1051898399 s.at_ = r5 at *
  have H6 := Lib.hid (fun W => within_any s.seen 0 1051898399 W)
  generalize inB 0 1051898399 s.seen = r6 at *
  have box : Below w.heap.size w (w.alloc (.cells #[.int .i64 s.item, .int .i64 s.place, .int .i64 s.scanner, .int .u8 s.kind, .int .i64 s.at_, .int .i64 s.seen] 24)) := (Below.refl _ _).alloc (Nat.le_refl _) _
  by_cases k1 : 1 ≤ s.kind
  · rw [decide_eq_true k1]
    by_cases k2 : s.kind ≤ 4
    · rw [decide_eq_true k2]
      go_enter Try.func34, Try.ntmps34
      go_wp2_with fail
      refine (H0.out _).mono ?_
      rintro e w0 ⟨rfl, rfl⟩
      clear H0
      cases r0 with
      | true =>
        go_wp2_with fail
        refine (H1.out _).mono ?_
        rintro e w1 ⟨rfl, rfl⟩
        clear H1
        cases r1 with
        | true =>
          go_wp2_with fail
          refine (H2.out _).mono ?_
          rintro e w2 ⟨rfl, rfl⟩
          clear H2
          cases r2 with
          | true =>
            go_wp2_with fail
            refine (H5.out _).mono ?_
            rintro e w5 ⟨rfl, rfl⟩
            clear H5
            cases r5 with
            | true =>
              go_wp2_with fail
              refine (H6.out _).mono ?_
              rintro e w6 ⟨rfl, rfl⟩
              clear H6
              cases r6 with
              | true =>
                go_wp2_with fail
                go_ret
                exact ⟨rfl, box⟩
              | false =>
                go_wp2_with fail
                go_ret
                exact ⟨rfl, box⟩
            | false =>
              go_wp2_with fail
              go_ret
              exact ⟨rfl, box⟩
          | false =>
            go_wp2_with fail
            go_ret
            exact ⟨rfl, box⟩
        | false =>
          go_wp2_with fail
          go_ret
          exact ⟨rfl, box⟩
      | false =>
        go_wp2_with fail
        go_ret
        exact ⟨rfl, box⟩
    · rw [decide_eq_false k2]
      go_enter Try.func34, Try.ntmps34
      go_wp2_with fail
      refine (H0.out _).mono ?_
      rintro e w0 ⟨rfl, rfl⟩
      clear H0
      cases r0 with
      | true =>
        go_wp2_with fail
        refine (H1.out _).mono ?_
        rintro e w1 ⟨rfl, rfl⟩
        clear H1
        cases r1 with
        | true =>
          go_wp2_with fail
          refine (H2.out _).mono ?_
          rintro e w2 ⟨rfl, rfl⟩
          clear H2
          cases r2 with
          | true =>
            go_wp2_with fail
            go_ret
            exact ⟨rfl, box⟩
          | false =>
            go_wp2_with fail
            go_ret
            exact ⟨rfl, box⟩
        | false =>
          go_wp2_with fail
          go_ret
          exact ⟨rfl, box⟩
      | false =>
        go_wp2_with fail
        go_ret
        exact ⟨rfl, box⟩
  · rw [decide_eq_false k1]
    go_enter Try.func34, Try.ntmps34
    go_wp2_with fail
    refine (H0.out _).mono ?_
    rintro e w0 ⟨rfl, rfl⟩
    clear H0
    cases r0 with
    | true =>
      go_wp2_with fail
      refine (H1.out _).mono ?_
      rintro e w1 ⟨rfl, rfl⟩
      clear H1
      cases r1 with
      | true =>
        go_wp2_with fail
        refine (H2.out _).mono ?_
        rintro e w2 ⟨rfl, rfl⟩
        clear H2
        cases r2 with
        | true =>
          go_wp2_with fail
          go_ret
          exact ⟨rfl, box⟩
        | false =>
          go_wp2_with fail
          go_ret
          exact ⟨rfl, box⟩
      | false =>
        go_wp2_with fail
        go_ret
        exact ⟨rfl, box⟩
    | false =>
      go_wp2_with fail
      go_ret
      exact ⟨rfl, box⟩

end Go.Proofs.Ytcjhkjplpbhjiaa
