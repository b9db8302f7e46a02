/- The sorts of marks and of events. -/
import Derived.Test.YtcjhkjplpbhjiaaApp
import Derived.Test.YtcjhkjplpbhjiaaInOrd
import Derived.Test.YtcjhkjplpbhjiaaShelf
import Derived.Test.YtcjhkjplpbhjiaaScP
namespace Go.Proofs.Ytcjhkjplpbhjiaa
open Go.RowKit Go.Proofs Go.Sort
set_option maxRecDepth 100000

/-- What the sort's own words say of a list. -/
theorem permIn_list {α : Type} [Inhabited α] {xs : List α} {d' : Array α} (h : PermIn 0 xs.toArray.size xs.toArray d') : d'.toList.Perm xs := by
  obtain ⟨hs, _, hp⟩ := h
  have e1 : d'.extract 0 xs.toArray.size = d' := by rw [← hs]; simp
  have e2 : xs.toArray.extract 0 xs.toArray.size = xs.toArray := by simp
  rw [e1, e2] at hp
  simpa using hp
theorem sortedIn_list {α : Type} [Inhabited α] {lt : α → α → Bool} {n : Nat} {d' : Array α} (hn : n = d'.size) (h : SortedIn lt 0 n d') : d'.toList.Pairwise (fun x y => lt y x = false) := by
  subst hn
  rw [List.pairwise_iff_getElem]
  intro i j hi hj hij
  have := h i j (Nat.zero_le _) hij (by simpa using hj)
  rw [getElem!_pos d' i (by simpa using hi), getElem!_pos d' j (by simpa using hj)] at this
  simpa using this

theorem ltOf_pl : ltOf cmpPl = ltPl := by
  funext x y
  unfold ltOf
  rw [Bool.eq_iff_iff, decide_eq_true_eq]; exact ltPl_cmp x y
theorem ltOf_ev : ltOf cmpEv = ltEv := by
  funext x y
  unfold ltOf
  rw [Bool.eq_iff_iff, decide_eq_true_eq]; exact ltEv_cmp x y
theorem swoPl : SWO (ltOf cmpPl) := by
  rw [ltOf_pl]
  exact ⟨fun x => ordPl_irr x, fun x y z h1 h2 => ltPl_tr h1 h2, fun x y z h1 h2 => lexL_nt2 h1 h2 rfl rfl⟩
theorem swoEv : SWO (ltOf cmpEv) := by
  rw [ltOf_ev]
  exact ⟨fun x => ordEv.irrefl x, fun x y z h1 h2 => ordEv.trans _ _ _ h1 h2, fun x y z h1 h2 => ordEv.ntrans h1 h2⟩

theorem sortMrk_any {base : Nat} {v : Value} (xs : List Mrk) (w : World) (hown : w.ownsRow base 30 3 v xs.length (xs.flatMap encMrk)) (hn : xs.length ≤ 1000000) :
    Calls Try.prog 69 #[v, .func (.func 36) #[] #[]] w fun e w' => e = .returned (.tuple #[]) ∧ ∃ ys A c, v = .slice A ys.length c ∧ ys.Perm xs ∧ ys.Pairwise (fun x y => ltPl y x = false) ∧ Rd encMrk 3 w' A ys ∧ Below base w w' := by
  by_cases hne : xs = []
  · subst hne
    obtain ⟨A, c, hv, hr⟩ := own_rd (k := 3) (fun _ => rfl) hown
    subst hv
    exact (AnyF.slices_SortFunc_none { Try.sortMrk with } A c _ w).mono fun e w' ⟨he, hw⟩ => ⟨he, [], A, c, rfl, List.Perm.refl _, List.Pairwise.nil, Rd.nil _ _ _ _, hw ▸ Below.refl _ _⟩
  · obtain ⟨g, cap, hv, hg, hlt, hH⟩ := own_holds (k := 3) (fun _ => rfl) hown hne
    subst hv
    have eg : ∀ args w, (callFunc 36 args).run Try.prog w = .ok (.enter 36 args) w := enters_of Try.func36 (by kernel_rfl) rfl
    have hcon := AnyQ.slices_SortFunc Try.sortMrk 3 Try.isAgg30 Try.sizeOf30 encMrk (fun _ => rfl) (fun x v hv => by simp [encMrk] at hv; rcases hv with rfl | rfl | rfl <;> rfl) cmpPl swoPl 36 #[] g 0 cap xs.toArray w eg (fun _ _ _ _ x y => byPlace_any x y _) hH hlt (by simp; omega)
    change Calls Try.prog 69 _ _ _ at hcon
    refine hcon.mono fun e w' ⟨he, d', n, os, hp, hs, hw⟩ => ⟨he, d'.toList, some ⟨g, 0, none⟩, cap, ?_, permIn_list hp, ?_, ?_, hw ▸ sortWorldK_below _ _ _ _ _ _ _ _ hg hlt⟩
    · have := hp.1; simp at this; simp [this]
    · have := sortedIn_list hp.1.symm hs
      rw [ltOf_pl] at this; exact this
    · rw [hw]
      have hs' : d'.size = xs.toArray.size := hp.1
      exact HoldsK.rd (k := 3) (fun _ => rfl) (holdsK_sortWorldK encMrk 3 w g 0 n xs.toArray d' os hlt hH hs') (by unfold sortWorldK; rw [size_grow, size_putRowK]; show g < w.heap.size + _; omega)

theorem sortEvt_any {base : Nat} {v : Value} (xs : List Evt) (w : World) (hown : w.ownsRow base 48 7 v xs.length (xs.flatMap encEvt)) (hn : xs.length ≤ 1000000) :
    Calls Try.prog 53 #[v, .func (.func 54) #[] #[]] w fun e w' => e = .returned (.tuple #[]) ∧ ∃ A c, v = .slice A (srt ltEv xs).length c ∧ Rd encEvt 7 w' A (srt ltEv xs) ∧ Below base w w' := by
  by_cases hne : xs = []
  · subst hne
    obtain ⟨A, c, hv, hr⟩ := own_rd (k := 7) (fun _ => rfl) hown
    subst hv
    exact (AnyF.slices_SortFunc_none { Try.sortEvt with } A c _ w).mono fun e w' ⟨he, hw⟩ => ⟨he, A, c, rfl, Rd.nil _ _ _ _, hw ▸ Below.refl _ _⟩
  · obtain ⟨g, cap, hv, hg, hlt, hH⟩ := own_holds (k := 7) (fun _ => rfl) hown hne
    subst hv
    have eg : ∀ args w, (callFunc 54 args).run Try.prog w = .ok (.enter 54 args) w := enters_of Try.func54 (by kernel_rfl) rfl
    have hcon := AnyQ.slices_SortFunc Try.sortEvt 7 Try.isAgg48 Try.sizeOf48 encEvt (fun _ => rfl) (fun x v hv => by simp [encEvt] at hv; rcases hv with rfl | rfl | rfl | rfl | rfl | rfl | rfl <;> rfl) cmpEv swoEv 54 #[] g 0 cap xs.toArray w eg (fun _ _ _ _ x y => inOrder_any x y _) hH hlt (by simp; omega)
    change Calls Try.prog 53 _ _ _ at hcon
    refine hcon.mono fun e w' ⟨he, d', n, os, hp, hs, hw⟩ => ?_
    have e1 : d'.toList = srt ltEv xs := srt_eq ordEv (permIn_list hp) (by have := sortedIn_list hp.1.symm hs; rw [ltOf_ev] at this; exact this)
    refine ⟨he, some ⟨g, 0, none⟩, cap, ?_, ?_, hw ▸ sortWorldK_below _ _ _ _ _ _ _ _ hg hlt⟩
    · rw [← e1]; have := hp.1; simp at this; simp [this]
    · rw [hw, ← e1]
      have hs' : d'.size = xs.toArray.size := hp.1
      exact HoldsK.rd (k := 7) (fun _ => rfl) (holdsK_sortWorldK encEvt 7 w g 0 n xs.toArray d' os hlt hH hs') (by unfold sortWorldK; rw [size_grow, size_putRowK]; show g < w.heap.size + _; omega)

/-- slices.SortedFunc of a sequence of marks. -/
theorem sorted_any (n : Nat) (hn : 4 ≤ n) (g : Nat) (lb : Array Value) (eg : ∀ args w, (callFunc g args).run Try.prog w = .ok (.enter g args) w)
    (S : List Mrk → Prop) (N : Nat) (hN : N ≤ 1000000) (hS : ∀ xs, S xs → xs.length ≤ 1000000) (w : World) (hseq : SeqStopsK Fence.wide (n - 1 - 1 - 1) Try.prog g lb (fun x : Mrk => #[.agg #[.int .i64 x.sc, .int .i64 x.at_, .int .i64 x.off]]) KeepsWalks S (fun _ => True) N w) :
    Calls Try.prog 56 #[.func (.func g) #[] lb, .func (.func 36) #[] #[]] w fun e w' => ∃ ys A c, e = .returned (.slice A ys.length c) ∧ (∃ xs, S xs ∧ ys.Perm xs) ∧ ys.Pairwise (fun x y => ltPl y x = false) ∧ Rd encMrk 3 w' A ys ∧ Below w.heap.size w w' := by
  have hcon := callsIn_wide.1 (collect_in (n - 1) (by omega) g lb eg S N hN w hseq)
  go_enter Try.func56, Try.ntmps56
  go_wp2_with (go_at_call 68; refine hcon.mono ?_; rintro e w1 ⟨v, xs, rfl, hS1, hrow, hb⟩)
  refine (sortMrk_any xs _ hrow (hS xs hS1)).mono ?_
  rintro e w2 ⟨rfl, ys, A, c, rfl, hp, hs, hr, hb2⟩
  go_wp2_with fail
  go_ret
  exact ⟨ys, A, c, rfl, ⟨xs, hS1, hp⟩, hs, hr, hb.trans hb2⟩
end Go.Proofs.Ytcjhkjplpbhjiaa
