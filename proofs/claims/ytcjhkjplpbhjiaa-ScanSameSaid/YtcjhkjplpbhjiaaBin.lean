/- Contract of slices.BinarySearchFunc at marks. -/
import Derived.Test.YtcjhkjplpbhjiaaMarks
namespace Go.Proofs.Ytcjhkjplpbhjiaa
open Go.RowKit Go.Proofs
set_option maxRecDepth 100000

/-- How many are ahead of t: where they stand ahead of all others, the place of t. -/
def cntMrk (xs : List Mrk) (t : Mrk) : Nat := xs.countP (fun x => decide (cmpPl x t < 0))

theorem cnt_of {xs : List Mrk} {t : Mrk} {i : Nat} (hi : i ≤ xs.length) (h1 : ∀ k x, xs[k]? = some x → k < i → cmpPl x t < 0) (h2 : ∀ k x, xs[k]? = some x → i ≤ k → ¬ cmpPl x t < 0) : cntMrk xs t = i := by
  unfold cntMrk
  conv => lhs; rw [← List.take_append_drop i xs]
  rw [List.countP_append]
  have e1 : (xs.take i).countP (fun x => decide (cmpPl x t < 0)) = i := by
    rw [List.countP_eq_length.2]
    · simp; omega
    · intro x hx
      obtain ⟨k, hk, hkx⟩ := List.mem_iff_getElem.1 hx
      rw [List.length_take] at hk
      have := h1 k x (by rw [← hkx, List.getElem_take]; exact List.getElem?_eq_getElem (by omega)) (by omega)
      simp [this]
  have e2 : (xs.drop i).countP (fun x => decide (cmpPl x t < 0)) = 0 := by
    rw [List.countP_eq_zero]
    intro x hx
    obtain ⟨k, hk, hkx⟩ := List.mem_iff_getElem.1 hx
    simp at hk
    have := h2 (i + k) x (by rw [← hkx]; simp) (by omega)
    simp only [decide_eq_true_eq]
    exact this
  rw [e1, e2]; rfl

def foundMrk (xs : List Mrk) (t : Mrk) : Bool := match xs[cntMrk xs t]? with | some x => cmpPl x t == 0 | none => false

theorem byPlace_b (x y : Mrk) (w : World) : Calls Try.prog 36 #[.agg #[.int .i64 x.sc, .int .i64 x.at_, .int .i64 x.off], .agg #[.int .i64 y.sc, .int .i64 y.at_, .int .i64 y.off]] w fun e w' => e = .returned (.int .i64 (cmpPl x y)) ∧ Below w.heap.size w w' :=
  (byPlace_any x y w).mono fun _ _ ⟨he, hg⟩ => ⟨he, grown_below hg⟩

set_option maxHeartbeats 1000000 in
theorem bin_any (A : Option Addr) (c : Nat) (xs : List Mrk) (t : Mrk) (w : World) (hr : Rd encMrk 3 w A xs) (hn : xs.length ≤ 1000000)
    (hm : ∀ (a b : Nat) (x y : Mrk), a ≤ b → xs[a]? = some x → xs[b]? = some y → cmpPl y t < 0 → cmpPl x t < 0) :
    Calls Try.prog 72 #[.slice A xs.length c, .agg #[.int .i64 t.sc, .int .i64 t.at_, .int .i64 t.off], .func (.func 36) #[] #[]] w fun e w' => e = .returned (.tuple #[.int .i64 (cntMrk xs t), .bool (foundMrk xs t)]) ∧ Below w.heap.size w w' := by
  obtain ⟨W, hW⟩ : ∃ W : World, W = w.alloc (.cells #[.int .i64 t.sc, .int .i64 t.at_, .int .i64 t.off] 30) := ⟨_, rfl⟩
  have hb : Below w.heap.size w W := by rw [hW]; exact (Below.refl _ _).alloc (Nat.le_refl _) _
  have hr1 := hr.below (Nat.le_refl _) hb
  have hbx : W.heap[w.heap.size]? = some (.cells #[.int .i64 t.sc, .int .i64 t.at_, .int .i64 t.off] 30 (0, 0)) := by rw [hW]; exact blk_new rfl
  have HM := Lib.hid hm
  clear hm hr
  go_enter Try.func72, Try.ntmps72
  go_wp2_with fail
  rw [← hW]
  have HW := Lib.hid hW
  clear hW
  go_loopg [9, 10, 11] xs.length (fun gg s9 s10 _ wr => ∃ i j : Nat, i ≤ j ∧ j ≤ xs.length ∧ j - i ≤ gg ∧ s9 = .int .i64 i ∧ s10 = .int .i64 j ∧ Aside (Below W.heap.size W wr) ∧ Aside (∀ k x, xs[k]? = some x → k < i → cmpPl x t < 0) ∧ Aside (∀ k x, xs[k]? = some x → j ≤ k → ¬ cmpPl x t < 0))
  case atStart => exact ⟨0, xs.length, Nat.zero_le _, Nat.le_refl _, by omega, rfl, rfl, Below.refl _ _, fun k x _ h => absurd h (Nat.not_lt_zero _), fun k x h hk => by rw [List.getElem?_eq_none hk] at h; cases h⟩
  case round =>
    obtain ⟨i, j, hij, hj, hg, rfl, rfl, BW, L, R⟩ := hrel
    have hbr : wr.heap[w.heap.size]? = some (.cells #[.int .i64 t.sc, .int .i64 t.at_, .int .i64 t.off] 30 (0, 0)) := (BW.out.block _ (Array.getElem?_eq_some_iff.1 hbx).1).trans hbx
    have ebx := exblk hbr
    have HB := Lib.hid hbr
    clear hbr
    by_cases hlt : i < j
    · obtain ⟨b, o, rfl, hb', hl⟩ := (hr1.below (Nat.le_refl _) BW.out).at (List.getElem?_eq_getElem (show (i + j) / 2 < xs.length by omega))
      have HX : Aside (xs[(i + j) / 2]? = some xs[(i + j) / 2]) := List.getElem?_eq_getElem (show (i + j) / 2 < xs.length by omega)
      generalize xs[(i + j) / 2] = x at hl HX
      have hl0 := hl 0 _ rfl; have hl1 := hl 1 _ rfl; have hl2 := hl 2 _ rfl; rw [Nat.add_zero] at hl0; clear hl
      replace hl0 := fun p : Ex wr => p.cell hb' hl0; replace hl1 := fun p : Ex wr => p.cell hb' hl1; replace hl2 := fun p : Ex wr => p.cell hb' hl2
      have HBX := Lib.hid hbx
      clear hr1 hbx
      go_wp2_with fail
      have s2 : (((i : Int) + j) / 2).toNat = (i + j) / 2 := by omega
      have s3 : 0 ≤ ((i : Int) + j) / 2 := by omega
      have s4 : ((i : Int) + j) / 2 < xs.length := by omega
      (refine wp_region_quiet_ex (by kernel_rfl) (by kernel_rfl) ?_; (repeat (go_big_quiet_step ((go_at_call 36; refine Calls.ex_of (byPlace_b x t _))))); refine wpQuiet_nil ?_; intro wq hw'; obtain ⟨⟨_, hq⟩, hw''⟩ := hw'; subst hw'')
      replace hq := BW.out.trans (hq.mono BW.out.size)
      clear hl0 hl1 hl2 ebx
      by_cases hc : cmpPl x t < 0
      · have L2 : Aside (∀ k y, xs[k]? = some y → k < (i + j) / 2 + 1 → cmpPl y t < 0) := fun k y hk hlt => HM.out k ((i + j) / 2) y x (by omega) hk HX.out hc
        clear s2 s3 s4
        go_wp2
        go_roundg (j - ((i + j) / 2 + 1))
        case measure => omega
        case rel => exact ⟨(i + j) / 2 + 1, j, by omega, by omega, by omega, by go_num, rfl, hq, L2, R⟩
      · have R2 : Aside (∀ k y, xs[k]? = some y → (i + j) / 2 ≤ k → ¬ cmpPl y t < 0) := fun k y hk hlt h => hc (HM.out ((i + j) / 2) k x y hlt HX.out hk h)
        clear s2 s3 s4
        go_wp2
        go_roundg ((i + j) / 2 - i)
        case measure => omega
        case rel => exact ⟨i, (i + j) / 2, by omega, by omega, by omega, rfl, by go_num, hq, L, R2⟩
    · have : i = j := by omega
      subst this
      have HC : Aside (cntMrk xs t = i) := cnt_of hj L.out (fun k x h hk h2 => R.out k x h hk h2)
      clear L R
      by_cases hin : i < xs.length
      · obtain ⟨b, o, rfl, hb', hl⟩ := (hr1.below (Nat.le_refl _) BW.out).at (List.getElem?_eq_getElem hin)
        have HX : Aside (foundMrk xs t = (cmpPl xs[i] t == 0)) := by
          unfold foundMrk; rw [HC.out, List.getElem?_eq_getElem hin]; rfl
        generalize xs[i] = x at hl HX
        have hl0 := hl 0 _ rfl; have hl1 := hl 1 _ rfl; have hl2 := hl 2 _ rfl; rw [Nat.add_zero] at hl0; clear hl
        replace hl0 := fun p : Ex wr => p.cell hb' hl0; replace hl1 := fun p : Ex wr => p.cell hb' hl1; replace hl2 := fun p : Ex wr => p.cell hb' hl2
        have HBX := Lib.hid hbx
        clear hr1 hbx
        go_wp2_with fail
        have s1 : ((i : Int)).toNat = i := by omega
        have hin' : (i : Int) < xs.length := by omega
        (refine wp_region_quiet_ex (by kernel_rfl) (by kernel_rfl) ?_; (repeat (go_big_quiet_step ((go_at_call 36; refine Calls.ex_of (byPlace_b x t _))))); refine wpQuiet_nil ?_; intro wq hw'; obtain ⟨⟨_, hq⟩, hw''⟩ := hw'; subst hw'')
        go_wp2
        go_ret2
        exact ⟨by rw [HC.out, HX.out]; rfl, hb.trans ((BW.out.trans (hq.mono BW.out.size)).mono hb.size)⟩
      · have HX : Aside (foundMrk xs t = false) := by
          unfold foundMrk; rw [HC.out, List.getElem?_eq_none (by omega)]; rfl
        go_wp2_with fail
        have hin' : ¬ (i : Int) < xs.length := by omega
        (refine wp_region_quiet_ex (by kernel_rfl) (by kernel_rfl) ?_; (repeat (go_big_quiet_step ((fail)))); refine wpQuiet_nil ?_; intro wq hw'; obtain ⟨⟨_, hq⟩, hw''⟩ := hw'; subst hw'')
        go_wp2
        go_ret2
        exact ⟨by rw [HC.out, HX.out]; rfl, hb.trans ((BW.out.trans (hq.mono BW.out.size)).mono hb.size)⟩
end Go.Proofs.Ytcjhkjplpbhjiaa
