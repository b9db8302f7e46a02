/- Contract of claim.Right: standards. -/
import Derived.Test.YtnnppnlekpadnaaGreatAllS
namespace Go.Proofs.YtnnppnlekpadnaaGreat
open Go.RowKit Go.Proofs
set_option maxRecDepth 100000

theorem Rd.load {α : Type} {enc : α → List Value} {k : Nat} {w : World} {A : Option Addr} {xs : List α} (h : Rd enc k w A xs) (hk : ∀ x, (enc x).length = k) (P : Program) {j : Nat} (hj : j < xs.length) :
    ∃ b o, A = some ⟨b, o, none⟩ ∧ b < w.heap.size ∧ Sem.run P (loadCellsFrom ⟨b, o + j * k, none⟩ 0 k #[]) w = .ok (enc xs[j]).toArray w := by
  obtain ⟨b, o, hA, hlt, hc⟩ := h.at (List.getElem?_eq_getElem hj)
  refine ⟨b, o, hA, hlt, run_loadCellsFrom_list P _ _ (enc xs[j]) k (hk _) (fun i v hi => ?_)⟩
  rw [Addr.add_lit]
  exact hc i v hi

theorem rdI_lit2 {w : World} {n : Nat} {a b : Int} {T : TypeId} (h : n = w.heap.size) : RdI (w.alloc (.cells #[.int .i64 a, .int .i64 b] T)) (some ⟨n, 0, none⟩) [a, b] := fun _ => by
  subst h
  refine ⟨_, _, rfl, by simp, fun j x hj i v hi => ?_⟩
  match j, hj with
  | 0, hj => simp at hj; subst hj; match i, hi with | 0, hi => simp at hi; subst hi; simp
  | 1, hj => simp at hj; subst hj; match i, hi with | 0, hi => simp at hi; subst hi; simp
theorem rdI_lit1 {w : World} {n : Nat} {a : Int} {T : TypeId} (h : n = w.heap.size) : RdI (w.alloc (.cells #[.int .i64 a] T)) (some ⟨n, 0, none⟩) [a] := fun _ => by
  subst h
  refine ⟨_, _, rfl, by simp, fun j x hj i v hi => ?_⟩
  match j, hj with
  | 0, hj => simp at hj; subst hj; match i, hi with | 0, hi => simp at hi; subst hi; simp

/-- within of one and of two numbers. -/
theorem within_1 {lo hi a : Int} {r : Bool} (hr : withinB lo hi [a] = r) {A : Option Addr} {c : Nat} {w : World} (h : RdI w A [a]) : Calls Tryz.prog 33 #[.int .i64 lo, .int .i64 hi, .slice A 1 c] w fun e w' => e = .returned (.bool r) ∧ Below w.heap.size w w' := by
  have := within_any lo hi A c [a] w h (by simp)
  rw [hr] at this
  exact this
theorem within_2 {lo hi a b : Int} {r : Bool} (hr : withinB lo hi [a, b] = r) {A : Option Addr} {c : Nat} {w : World} (h : RdI w A [a, b]) : Calls Tryz.prog 33 #[.int .i64 lo, .int .i64 hi, .slice A 2 c] w fun e w' => e = .returned (.bool r) ∧ Below w.heap.size w w' := by
  have := within_any lo hi A c [a, b] w h (by simp)
  rw [hr] at this
  exact this

/-- One standard is right. -/
def okStd (x : Std) : Bool := decide (0 < x.cl) && (withinB 1 999999 [x.fr, x.to] && withinB 0 100000 [x.mi])

theorem right1 (x : Std) (w : World) : Calls Tryz.prog 32 #[.agg #[.int .u8 x.cl, .int .i64 x.fr, .int .i64 x.to, .int .i64 x.mi]] w fun e w' => e = .returned (.bool (okStd x)) ∧ Below w.heap.size w w' := by
  unfold okStd
  by_cases h1 : 0 < x.cl
  · have e1 : decide (0 < x.cl) = true := by simp [h1]
    rw [e1]; clear e1
    generalize H1 : withinB 1 999999 [x.fr, x.to] = r1
    generalize H2 : withinB 0 100000 [x.mi] = r2
    replace H1 := Lib.hid H1
    replace H2 := Lib.hid H2
    cases r1 with
    | true =>
      go_enter Tryz.func32, Tryz.ntmps32
      go_wp2_with fail
      refine (within_2 H1.out (by exact rdI_lit2 (by simp))).mono ?_
      rintro e w1 ⟨rfl, hb1⟩
      have hc := cells_below (n := w.heap.size) (arr := #[.int .u8 x.cl, .int .i64 x.fr, .int .i64 x.to, .int .i64 x.mi]) (T := 27) (fr := (0, 0)) (by rw [blk_old _ (by simp)]; exact blk_new rfl) (by first | (simp; done) | (simp; omega) | omega) hb1
      replace hb1 : Below w.heap.size w w1 := (((Below.refl _ _).alloc (Nat.le_refl _) _).alloc (by simp) _).trans (hb1.mono (by first | (simp; done) | (simp; omega) | omega))
      go_wp2_with fail
      refine (within_1 H2.out (by exact rdI_lit1 (by simp))).mono ?_
      rintro e w2 ⟨rfl, hb2⟩
      replace hb2 : Below w.heap.size w w2 := (hb1.alloc hb1.size _).trans (hb2.mono (by have := hb1.size; simp; omega))
      go_wp2_with fail
      go_ret
      exact ⟨rfl, hb2⟩
    | false =>
      go_enter Tryz.func32, Tryz.ntmps32
      go_wp2_with fail
      refine (within_2 H1.out (by exact rdI_lit2 (by simp))).mono ?_
      rintro e w1 ⟨rfl, hb1⟩
      replace hb1 : Below w.heap.size w w1 := (((Below.refl _ _).alloc (Nat.le_refl _) _).alloc (by simp) _).trans (hb1.mono (by first | (simp; done) | (simp; omega) | omega))
      go_wp2_with fail
      go_ret
      exact ⟨rfl, hb1⟩
  · have e1 : decide (0 < x.cl) = false := by simp [h1]
    rw [e1]; clear e1
    go_enter Tryz.func32, Tryz.ntmps32
    go_wp2_with fail
    go_ret
    exact ⟨rfl, (Below.refl _ _).alloc (Nat.le_refl _) _⟩
end Go.Proofs.YtnnppnlekpadnaaGreat
