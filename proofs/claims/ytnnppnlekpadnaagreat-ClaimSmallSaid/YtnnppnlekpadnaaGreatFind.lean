/- The contract of the statements' find. -/
import Derived.Test.YtnnppnlekpadnaaGreatSettle
namespace Go.Proofs.YtnnppnlekpadnaaGreat
open Go.RowKit Go.Proofs
set_option maxRecDepth 100000

theorem Blk.set {w : World} {n : Nat} {arr : Array Value} {T : TypeId} (h : Blk w n arr T) (i : Nat) (v : Value) : Blk (w.setCell ⟨n, i, none⟩ v) n (arr.setIfInBounds i v) T := by
  unfold Blk at *
  unfold World.setCell
  simp [Array.getElem?_modify, h]

def findC (c : List Clm) (i : Int) : Option Clm := c.find? (fun x => x.id == i)
theorem findC_take {c : List Clm} {i : Int} {j : Nat} {x : Clm} (hx : c[j]? = some x) (h : ∀ (k : Nat) (y : Clm), k < j → c[k]? = some y → y.id ≠ i) (hi : x.id = i) : findC c i = some x := by
  induction c generalizing j with
  | nil => simp at hx
  | cons y r ih =>
    cases j with
    | zero => simp at hx; subst hx; simp [findC, hi]
    | succ j =>
      have h0 := h 0 y (by omega) rfl
      have := ih (j := j) (by simpa using hx) (fun k z hk hz => h (k + 1) z (by omega) (by simpa using hz))
      unfold findC at *
      rw [List.find?_cons]
      have e : (y.id == i) = false := by simpa using h0
      rw [e]; exact this
theorem findC_none {c : List Clm} {i : Int} (h : ∀ (k : Nat) (y : Clm), c[k]? = some y → y.id ≠ i) : findC c i = none := by
  unfold findC
  rw [List.find?_eq_none]
  intro x hx
  obtain ⟨k, hk⟩ := List.mem_iff_getElem?.1 hx
  simpa using h k x hk

def findV : Option Clm → Value
  | some x => .tuple #[.agg #[.int .i64 x.id, .int .i64 x.item, .int .i64 x.at_, .int .u8 x.kind, .int .i64 x.post, .int .i64 x.val], .bool true]
  | none => .tuple #[.agg #[.int .i64 0, .int .i64 0, .int .i64 0, .int .u8 0, .int .i64 0, .int .i64 0], .bool false]

set_option maxHeartbeats 1000000 in
theorem find_any (A : Option Addr) (n : Nat) (c : List Clm) (i : Int) (w : World) (hr : Rd encClm 6 w A c) (hn : c.length ≤ 1000000) :
    Calls Tryz.prog 29 #[.slice A c.length n, .int .i64 i] w fun e w' => e = .returned (findV (findC c i)) ∧ Below w.heap.size w w' := by
  have HR := Lib.hid hr
  clear hr
  go_enter Tryz.func29, Tryz.ntmps29
  go_wp2_with fail
  obtain ⟨W0, hW0⟩ : ∃ W : World, W = w.alloc (.cells #[.int .i64 0, .int .i64 0, .int .i64 0, .int .u8 0, .int .i64 0, .int .i64 0] 31) := ⟨_, rfl⟩
  rw [← hW0]
  have k0 : Blk W0 w.heap.size #[.int .i64 0, .int .i64 0, .int .i64 0, .int .u8 0, .int .i64 0, .int .i64 0] 31 := by rw [hW0]; exact Blk.new rfl
  have b0 : Below w.heap.size w W0 := by rw [hW0]; exact (Below.refl _ _).alloc (Nat.le_refl _) _
  have kc := k0.cells
  have kf := k0.free
  have ex := k0.set 0 (.int .i64 0)
  have K0 := Lib.hid k0
  have B0 := Lib.hid b0
  have HW0 := Lib.hid hW0
  clear hW0 k0 b0 ex
  go_loopg [6] c.length (fun gg s6 wr => ∃ j : Nat, j ≤ c.length ∧ c.length - j ≤ gg ∧ s6 = .int .i64 j ∧ Aside (W0 = wr) ∧ Aside (∀ (k : Nat) (y : Clm), k < j → c[k]? = some y → y.id ≠ i))
  case atStart => exact ⟨0, Nat.zero_le _, by omega, rfl, rfl, fun k y h => absurd h (Nat.not_lt_zero _)⟩
  case round =>
    obtain ⟨j, hj, hg, rfl, hw, F⟩ := hrel
    obtain rfl := hw.out
    by_cases hlt : j < c.length
    · have hx : c[j]? = some c[j] := List.getElem?_eq_getElem hlt
      obtain ⟨b, o, rfl, hb, hl⟩ := (HR.out.below (Nat.le_refl _) B0.out).at hx
      generalize c[j] = x at hx hl
      have hl0 := hl 0 _ rfl; have hl1 := hl 1 _ rfl; have hl2 := hl 2 _ rfl; have hl3 := hl 3 _ rfl; have hl4 := hl 4 _ rfl; have hl5 := hl 5 _ rfl; rw [Nat.add_zero] at hl0; clear hl
      have HX := Lib.hid hx
      clear hx
      by_cases e : x.id = i
      · have e1 : (x.id == i) = true := by simpa using e
        have P : Aside (findC c i = some x) := findC_take HX.out F.out e
        clear e
        go_wp2_with fail
        have k1 := ((((((K0.out.set 0 (.int .i64 x.id)).set 1 (.int .i64 x.item)).set 2 (.int .i64 x.at_)).set 3 (.int .u8 x.kind)).set 4 (.int .i64 x.post)).set 5 (.int .i64 x.val)).cells
        have b1 := (((((B0.out.setCell (p := ⟨w.heap.size, 0, none⟩) (Nat.le_refl _) (.int .i64 x.id)).setCell (p := ⟨w.heap.size, 1, none⟩) (Nat.le_refl _) (.int .i64 x.item)).setCell (p := ⟨w.heap.size, 2, none⟩) (Nat.le_refl _) (.int .i64 x.at_)).setCell (p := ⟨w.heap.size, 3, none⟩) (Nat.le_refl _) (.int .u8 x.kind)).setCell (p := ⟨w.heap.size, 4, none⟩) (Nat.le_refl _) (.int .i64 x.post)).setCell (p := ⟨w.heap.size, 5, none⟩) (Nat.le_refl _) (.int .i64 x.val)
        refine bodyPost_ret (v := findV (some x)) (by simp [results, Tryz.results29, go_sem, findV, k1]) rfl ⟨by rw [P.out], b1⟩
      · have e1 : (x.id == i) = false := by simpa using e
        have F2 : Aside (∀ (k : Nat) (y : Clm), k < j + 1 → c[k]? = some y → y.id ≠ i) := fun k y hk hy => by
          by_cases ek : k = j
          · subst ek; rw [HX.out] at hy; cases hy; exact e
          · exact F.out k y (by omega) hy
        clear e
        go_wp2_with fail
        go_roundg (c.length - (j + 1))
        case measure => omega
        case rel => exact ⟨j + 1, by omega, by omega, by go_num, rfl, F2⟩
    · have P : Aside (findC c i = none) := findC_none (fun k y hk => F.out k y (by have := (List.getElem?_eq_some_iff.1 hk).1; omega) hk)
      have hg' : ¬ (j : Int) < (c.length : Int) := by omega
      go_wp2_with fail
      have k1 := ((((((K0.out.set 0 (.int .i64 0)).set 1 (.int .i64 0)).set 2 (.int .i64 0)).set 3 (.int .u8 0)).set 4 (.int .i64 0)).set 5 (.int .i64 0)).cells
      have b1 := (((((B0.out.setCell (p := ⟨w.heap.size, 0, none⟩) (Nat.le_refl _) (.int .i64 0)).setCell (p := ⟨w.heap.size, 1, none⟩) (Nat.le_refl _) (.int .i64 0)).setCell (p := ⟨w.heap.size, 2, none⟩) (Nat.le_refl _) (.int .i64 0)).setCell (p := ⟨w.heap.size, 3, none⟩) (Nat.le_refl _) (.int .u8 0)).setCell (p := ⟨w.heap.size, 4, none⟩) (Nat.le_refl _) (.int .i64 0)).setCell (p := ⟨w.heap.size, 5, none⟩) (Nat.le_refl _) (.int .i64 0)
      refine bodyPost_ret (v := findV none) (by simp [results, Tryz.results29, go_sem, findV, k1]) rfl ⟨by rw [P.out], b1⟩

theorem run_max4 {P : Program} {w : World} (ts : Array TypeId) (t : TypeId) (x y z u : Int) : ∃ m : Int, (Builtin.max_ ts t #[.int .i64 x, .int .i64 y, .int .i64 z, .int .i64 u]).run P w = .ok (.int .i64 m) w ∧ (m ≤ 60 ↔ x ≤ 60 ∧ y ≤ 60 ∧ z ≤ 60 ∧ u ≤ 60) := by
  refine ⟨if u > (if z > (if y > x then y else x) then z else (if y > x then y else x)) then u else (if z > (if y > x then y else x) then z else (if y > x then y else x)), rfl, ?_⟩
  repeat' split
  all_goals omega

theorem few_any (A B C D : Option Addr) (a b c d ca cb cc cd : Nat) (w : World) :
    Calls Tryz.prog 14 #[.slice A a ca, .slice B b cb, .slice C c cc, .slice D d cd] w fun e w' => e = .returned (.bool (decide (a ≤ 60 ∧ b ≤ 60 ∧ c ≤ 60 ∧ d ≤ 60))) ∧ w = w' := by
  obtain ⟨m, hm, hm2⟩ := run_max4 (P := Tryz.prog) (w := w) #[3, 3, 3, 3] 3 a b c d
  have e : decide (a ≤ 60 ∧ b ≤ 60 ∧ c ≤ 60 ∧ d ≤ 60) = decide (m ≤ 60) := decide_eq_decide.2 (by omega)
  rw [e]; clear e hm2
  go_enter Tryz.func14, Tryz.ntmps14
  go_wp2_with fail
  go_ret
  exact ⟨rfl, rfl⟩

end Go.Proofs.YtnnppnlekpadnaaGreat
