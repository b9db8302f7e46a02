/- Contracts of slices.Clone, claim.RightSent and claim.RightClaims. -/
import Derived.Test.YtnnppnlekpadnaaGreatSort
import Derived.Shelf.SlSortCmp.NoneTotal
namespace Go.Proofs.YtnnppnlekpadnaaGreat
open Go.RowKit Go.Proofs Go.Sort
set_option maxRecDepth 100000

theorem infSent : (Tryz.prog.info? 34).map (fun i => (i.zero, i.size, i.bytes)) = some (some (.agg #[(.int .i64 0), (.int .u8 0), (.int .i64 0), (.int .i64 0), (.int .i64 0), (.int .i64 0)]), 6, 48) := by kernel_rfl
theorem cloneSent_nil (c : Nat) (w : World) : Calls Tryz.prog 58 #[.slice none 0 c] w fun e w' => e = .returned (.slice none 0 0) ∧ w = w' := by
  have q : ∀ (w : World) (a : Option Addr) (n c n' c' : Nat), (binOp .eql 29 (.slice a n c) (.slice none n' c')).run Tryz.prog w = .ok (.bool a.isNone) w := fun w a n c n' c' => Lib.run_eql_slice_nil w _ _ a n c n' c' Tryz.underlying29
  go_enter Tryz.func58, Tryz.ntmps58
  go_wp2
  go_ret
  exact ⟨rfl, rfl⟩
set_option maxHeartbeats 1000000 in
theorem cloneSent_some (a : Addr) (c : Nat) (xs : List Sent) (w : World) (hr : Rd encSent 6 w (some a) xs) (hn : xs.length ≤ 1000000) :
    Calls Tryz.prog 58 #[.slice (some a) xs.length c] w fun e w' => ∃ v', e = .returned v' ∧ w'.ownsRow w.heap.size 34 6 v' xs.length (xs.flatMap encSent) ∧ Below w.heap.size w w' := by
  obtain ⟨i0, hi, hz0, hz1, hz2⟩ := info_parts2 infSent
  have q : ∀ (w : World) (a : Option Addr) (n c n' c' : Nat), (binOp .eql 29 (.slice a n c) (.slice none n' c')).run Tryz.prog w = .ok (.bool a.isNone) w := fun w a n c n' c' => Lib.run_eql_slice_nil w _ _ a n c n' c' Tryz.underlying29
  have hl := flat_length (enc := encSent) (k := 6) (fun _ => rfl) xs
  have A : Aside (∀ j u, (xs.flatMap encSent)[j]? = some u → w.cell? (a.add j) = some u) := by
    by_cases hne : xs = []
    · subst hne; intro j u hj; simp at hj
    · obtain ⟨b, o, hA, _⟩ := hr hne
      simp at hA; subst hA
      exact Rd.news (enc := encSent) (k := 6) (fun _ => rfl) hr
  have h1 : Aside (∀ u ∈ xs.flatMap encSent, u.oneCell' = true) := by
    intro u hu
    obtain ⟨x, _, hx⟩ := List.mem_flatMap.1 hu
    simp [encSent] at hx
    rcases hx with rfl | rfl | rfl | rfl | rfl | rfl <;> rfl
  clear hr
  generalize xs.flatMap encSent = news at hl A h1 ⊢
  generalize xs.length = n at hl hn ⊢
  go_enter Tryz.func58, Tryz.ntmps58
  go_wp2_with (at_builtin; refine wpList_append_own _ rfl _ _ 29 rfl w.heap.size 34 i0 (.agg #[(.int .i64 0), (.int .u8 0), (.int .i64 0), (.int .i64 0), (.int .i64 0), (.int .i64 0)]) 6 48 Tryz.underlying29 hi hz0 hz1 hz2 rfl (by decide) _ _ _ rfl (World.ownsRow_made w #[] 0 (Nat.le_refl _) (Nat.zero_le _) (by simp)) a n c news rfl ?qc1 ?qc2 ?qc3 ?qc4 ?qc5 ?qc6 ?_)
  case qc1 => exact hl
  case qc2 =>
    intro j u hj
    exact Lib.cell?_alloc_some _ (A.out j u hj)
  case qc3 => exact h1.out
  case qc4 => rw [Nat.zero_add]; unfold maxLen; omega
  case qc5 => rw [Nat.zero_add]; omega
  case qc6 => simp
  intro v' w1 hown hgrow hnil
  go_wp2
  go_ret
  refine ⟨v', rfl, by simpa using hown, ?_⟩
  exact ((Below.refl _ w).alloc (Nat.le_refl _) _).grown hgrow (by simp) (by intro k hk; simp [Value.ownBlock] at hk; omega)

theorem cloneSent (A : Option Addr) (c : Nat) (xs : List Sent) (w : World) (hr : Rd encSent 6 w A xs) (hn : xs.length ≤ 1000000) :
    Calls Tryz.prog 58 #[.slice A xs.length c] w fun e w' => ∃ v', e = .returned v' ∧ w'.ownsRow w.heap.size 34 6 v' xs.length (xs.flatMap encSent) ∧ Below w.heap.size w w' := by
  cases A with
  | some a => exact cloneSent_some a c xs w hr hn
  | none =>
    have : xs = [] := by
      by_cases hne : xs = []
      · exact hne
      · obtain ⟨b, o, hA, _⟩ := hr hne; cases hA
    subst this
    exact (cloneSent_nil c w).mono fun e w' ⟨he, hw⟩ => ⟨_, he, ⟨by simp, Or.inl ⟨rfl, rfl⟩⟩, Below.of_eq hw⟩
theorem infClm : (Tryz.prog.info? 31).map (fun i => (i.zero, i.size, i.bytes)) = some (some (.agg #[(.int .i64 0), (.int .i64 0), (.int .i64 0), (.int .u8 0), (.int .i64 0), (.int .i64 0)]), 6, 48) := by kernel_rfl
theorem cloneClm_nil (c : Nat) (w : World) : Calls Tryz.prog 49 #[.slice none 0 c] w fun e w' => e = .returned (.slice none 0 0) ∧ w = w' := by
  have q : ∀ (w : World) (a : Option Addr) (n c n' c' : Nat), (binOp .eql 48 (.slice a n c) (.slice none n' c')).run Tryz.prog w = .ok (.bool a.isNone) w := fun w a n c n' c' => Lib.run_eql_slice_nil w _ _ a n c n' c' Tryz.underlying48
  go_enter Tryz.func49, Tryz.ntmps49
  go_wp2
  go_ret
  exact ⟨rfl, rfl⟩
set_option maxHeartbeats 1000000 in
theorem cloneClm_some (a : Addr) (c : Nat) (xs : List Clm) (w : World) (hr : Rd encClm 6 w (some a) xs) (hn : xs.length ≤ 1000000) :
    Calls Tryz.prog 49 #[.slice (some a) xs.length c] w fun e w' => ∃ v', e = .returned v' ∧ w'.ownsRow w.heap.size 31 6 v' xs.length (xs.flatMap encClm) ∧ Below w.heap.size w w' := by
  obtain ⟨i0, hi, hz0, hz1, hz2⟩ := info_parts2 infClm
  have q : ∀ (w : World) (a : Option Addr) (n c n' c' : Nat), (binOp .eql 48 (.slice a n c) (.slice none n' c')).run Tryz.prog w = .ok (.bool a.isNone) w := fun w a n c n' c' => Lib.run_eql_slice_nil w _ _ a n c n' c' Tryz.underlying48
  have hl := flat_length (enc := encClm) (k := 6) (fun _ => rfl) xs
  have A : Aside (∀ j u, (xs.flatMap encClm)[j]? = some u → w.cell? (a.add j) = some u) := by
    by_cases hne : xs = []
    · subst hne; intro j u hj; simp at hj
    · obtain ⟨b, o, hA, _⟩ := hr hne
      simp at hA; subst hA
      exact Rd.news (enc := encClm) (k := 6) (fun _ => rfl) hr
  have h1 : Aside (∀ u ∈ xs.flatMap encClm, u.oneCell' = true) := by
    intro u hu
    obtain ⟨x, _, hx⟩ := List.mem_flatMap.1 hu
    simp [encClm] at hx
    rcases hx with rfl | rfl | rfl | rfl | rfl | rfl <;> rfl
  clear hr
  generalize xs.flatMap encClm = news at hl A h1 ⊢
  generalize xs.length = n at hl hn ⊢
  go_enter Tryz.func49, Tryz.ntmps49
  go_wp2_with (at_builtin; refine wpList_append_own _ rfl _ _ 48 rfl w.heap.size 31 i0 (.agg #[(.int .i64 0), (.int .i64 0), (.int .i64 0), (.int .u8 0), (.int .i64 0), (.int .i64 0)]) 6 48 Tryz.underlying48 hi hz0 hz1 hz2 rfl (by decide) _ _ _ rfl (World.ownsRow_made w #[] 0 (Nat.le_refl _) (Nat.zero_le _) (by simp)) a n c news rfl ?qc1 ?qc2 ?qc3 ?qc4 ?qc5 ?qc6 ?_)
  case qc1 => exact hl
  case qc2 =>
    intro j u hj
    exact Lib.cell?_alloc_some _ (A.out j u hj)
  case qc3 => exact h1.out
  case qc4 => rw [Nat.zero_add]; unfold maxLen; omega
  case qc5 => rw [Nat.zero_add]; omega
  case qc6 => simp
  intro v' w1 hown hgrow hnil
  go_wp2
  go_ret
  refine ⟨v', rfl, by simpa using hown, ?_⟩
  exact ((Below.refl _ w).alloc (Nat.le_refl _) _).grown hgrow (by simp) (by intro k hk; simp [Value.ownBlock] at hk; omega)

theorem cloneClm (A : Option Addr) (c : Nat) (xs : List Clm) (w : World) (hr : Rd encClm 6 w A xs) (hn : xs.length ≤ 1000000) :
    Calls Tryz.prog 49 #[.slice A xs.length c] w fun e w' => ∃ v', e = .returned v' ∧ w'.ownsRow w.heap.size 31 6 v' xs.length (xs.flatMap encClm) ∧ Below w.heap.size w w' := by
  cases A with
  | some a => exact cloneClm_some a c xs w hr hn
  | none =>
    have : xs = [] := by
      by_cases hne : xs = []
      · exact hne
      · obtain ⟨b, o, hA, _⟩ := hr hne; cases hA
    subst this
    exact (cloneClm_nil c w).mono fun e w' ⟨he, hw⟩ => ⟨_, he, ⟨by simp, Or.inl ⟨rfl, rfl⟩⟩, Below.of_eq hw⟩

/-- What the sort's own words say of a list. -/
theorem permIn_list {α : Type} [Inhabited α] {xs : List α} {d' : Array α} (h : PermIn 0 xs.toArray.size xs.toArray d') : d'.toList.Perm xs := by
  obtain ⟨hs, _, hp⟩ := h
  have e1 : d'.extract 0 xs.toArray.size = d' := by rw [← hs]; simp
  have e2 : xs.toArray.extract 0 xs.toArray.size = xs.toArray := by simp
  rw [e1, e2] at hp
  simpa using hp
theorem sortedIn_list {α : Type} [Inhabited α] {lt : α → α → Bool} {n : Nat} {d' : Array α} (hn : n = d'.size) (h : SortedIn lt 0 n d') : d'.toList.Pairwise (fun x y => lt y x = false) := by
  subst hn
  rw [List.pairwise_iff_getElem]
  intro i j hi hj hij
  have := h i j (Nat.zero_le _) hij (by simpa using hj)
  rw [getElem!_pos d' i (by simpa using hi), getElem!_pos d' j (by simpa using hj)] at this
  simpa using this

theorem lt_cmpI (a b : Int) : decide (cmpI a b < 0) = decide (a < b) := by
  unfold cmpI
  by_cases h1 : a < b
  · simp [h1]
  · by_cases h2 : b < a <;> simp [h1, h2]

theorem swoSent : SWO (ltOf cmpSent) where
  irrefl x := by unfold ltOf cmpSent; rw [lt_cmpI]; simp
  trans x y z h1 h2 := by unfold ltOf cmpSent at *; rw [lt_cmpI] at *; simp at *; omega
  ntrans x y z h1 h2 := by unfold ltOf cmpSent at *; rw [lt_cmpI] at *; simp at *; omega

theorem sortSent {base : Nat} {v : Value} (xs : List Sent) (w : World) (hown : w.ownsRow base 34 6 v xs.length (xs.flatMap encSent)) (hn : xs.length ≤ 1000000) :
    Calls Tryz.prog 59 #[v, .func (.func 60) #[] #[]] w fun e w' => e = .returned (.tuple #[]) ∧ ∃ ys A c, v = .slice A ys.length c ∧ ys.Perm xs ∧ ys.Pairwise (fun x y => x.item ≤ y.item) ∧ Rd encSent 6 w' A ys ∧ Below base w w' := by
  by_cases hne : xs = []
  · subst hne
    obtain ⟨A, c, hv, hr⟩ := own_rd (k := 6) (fun _ => rfl) hown
    subst hv
    exact (AnyF.slices_SortFunc_none { Tryz.sortSent with } A c _ w).mono fun e w' ⟨he, hw⟩ => ⟨he, [], A, c, rfl, List.Perm.refl _, List.Pairwise.nil, Rd.nil _ _ _ _, hw ▸ Below.refl _ _⟩
  · obtain ⟨g, cap, hv, hg, hlt, hH⟩ := own_holds (k := 6) (fun _ => rfl) hown hne
    subst hv
    have eg : ∀ args w, (callFunc 60 args).run Tryz.prog w = .ok (.enter 60 args) w := enters_of Tryz.func60 (by kernel_rfl) rfl
    have hcon := AnyQ.slices_SortFunc Tryz.sortSent 6 Tryz.isAgg34 Tryz.sizeOf34 encSent (fun _ => rfl) (fun x v hv => by simp [encSent] at hv; rcases hv with rfl | rfl | rfl | rfl | rfl | rfl <;> rfl) cmpSent swoSent 60 #[] g 0 cap xs.toArray w eg (fun _ _ _ _ x y => srtSent x y _) hH hlt (by simp; omega)
    change Calls Tryz.prog 59 _ _ _ at hcon
    refine hcon.mono fun e w' ⟨he, d', n, os, hp, hs, hw⟩ => ⟨he, d'.toList, some ⟨g, 0, none⟩, cap, ?_, permIn_list hp, ?_, ?_, hw ▸ sortWorldK_below _ _ _ _ _ _ _ _ hg hlt⟩
    · have := hp.1; simp at this; simp [this]
    · refine (sortedIn_list hp.1.symm hs).imp fun {x y} h => ?_
      unfold ltOf cmpSent at h
      rw [lt_cmpI] at h
      simpa using h
    · rw [hw]
      have hs' : d'.size = xs.toArray.size := hp.1
      exact HoldsK.rd (k := 6) (fun _ => rfl) (holdsK_sortWorldK encSent 6 w g 0 n xs.toArray d' os hlt hH hs') (by unfold sortWorldK; rw [size_grow, size_putRowK]; show g < w.heap.size + _; omega)

theorem rightSent_raw (A : Option Addr) (c : Nat) (xs : List Sent) (w : World) (hr : Rd encSent 6 w A xs) (hn : xs.length ≤ 1000000) :
    Calls Tryz.prog 27 #[.slice A xs.length c] w fun e w' => ∃ ys : List Sent, ys.Perm xs ∧ ys.Pairwise (fun x y => x.item ≤ y.item) ∧ e = .returned (.bool (allB ys 2000 okSent cmpSent)) ∧ Below w.heap.size w w' := by
  have hcon := cloneSent A c xs w hr hn
  clear hr
  go_enter Tryz.func27, Tryz.ntmps27
  go_wp2_with fail
  refine hcon.mono ?_
  rintro e w1 ⟨v', rfl, hown, hb1⟩
  have hcon2 := sortSent xs w1 hown hn
  have H := Lib.hid hown
  clear hown hcon
  go_wp2_with fail
  refine hcon2.mono ?_
  rintro e w2 ⟨rfl, ys, A2, c2, rfl, hp, hs, hr2, hb2⟩
  have hcon3 := allSent okcSent cmpcSent A2 c2 ys 2000 w2 hr2 (by rw [hp.length_eq]; exact hn) (by omega) (by omega)
  clear hr2 hcon2 H
  have HP := Lib.hid hp
  clear hp
  generalize ys.length = m at hcon3 ⊢
  go_wp2_with fail
  refine hcon3.mono ?_
  rintro e w3 ⟨rfl, hb3⟩
  go_wp2_with fail
  go_ret
  exact ⟨ys, HP.out, hs, rfl, hb1.trans (hb2.trans (hb3.mono (by have := hb1.size; have := hb2.size; omega)))⟩
theorem swoClm : SWO (ltOf cmpClm) where
  irrefl x := by unfold ltOf cmpClm; rw [lt_cmpI]; simp
  trans x y z h1 h2 := by unfold ltOf cmpClm at *; rw [lt_cmpI] at *; simp at *; omega
  ntrans x y z h1 h2 := by unfold ltOf cmpClm at *; rw [lt_cmpI] at *; simp at *; omega

theorem sortClm {base : Nat} {v : Value} (xs : List Clm) (w : World) (hown : w.ownsRow base 31 6 v xs.length (xs.flatMap encClm)) (hn : xs.length ≤ 1000000) :
    Calls Tryz.prog 50 #[v, .func (.func 64) #[] #[]] w fun e w' => e = .returned (.tuple #[]) ∧ ∃ ys A c, v = .slice A ys.length c ∧ ys.Perm xs ∧ ys.Pairwise (fun x y => x.id ≤ y.id) ∧ Rd encClm 6 w' A ys ∧ Below base w w' := by
  by_cases hne : xs = []
  · subst hne
    obtain ⟨A, c, hv, hr⟩ := own_rd (k := 6) (fun _ => rfl) hown
    subst hv
    exact (AnyF.slices_SortFunc_none { Tryz.sortClm with } A c _ w).mono fun e w' ⟨he, hw⟩ => ⟨he, [], A, c, rfl, List.Perm.refl _, List.Pairwise.nil, Rd.nil _ _ _ _, hw ▸ Below.refl _ _⟩
  · obtain ⟨g, cap, hv, hg, hlt, hH⟩ := own_holds (k := 6) (fun _ => rfl) hown hne
    subst hv
    have eg : ∀ args w, (callFunc 64 args).run Tryz.prog w = .ok (.enter 64 args) w := enters_of Tryz.func64 (by kernel_rfl) rfl
    have hcon := AnyQ.slices_SortFunc Tryz.sortClm 6 Tryz.isAgg31 Tryz.sizeOf31 encClm (fun _ => rfl) (fun x v hv => by simp [encClm] at hv; rcases hv with rfl | rfl | rfl | rfl | rfl | rfl <;> rfl) cmpClm swoClm 64 #[] g 0 cap xs.toArray w eg (fun _ _ _ _ x y => srtClm x y _) hH hlt (by simp; omega)
    change Calls Tryz.prog 50 _ _ _ at hcon
    refine hcon.mono fun e w' ⟨he, d', n, os, hp, hs, hw⟩ => ⟨he, d'.toList, some ⟨g, 0, none⟩, cap, ?_, permIn_list hp, ?_, ?_, hw ▸ sortWorldK_below _ _ _ _ _ _ _ _ hg hlt⟩
    · have := hp.1; simp at this; simp [this]
    · refine (sortedIn_list hp.1.symm hs).imp fun {x y} h => ?_
      unfold ltOf cmpClm at h
      rw [lt_cmpI] at h
      simpa using h
    · rw [hw]
      have hs' : d'.size = xs.toArray.size := hp.1
      exact HoldsK.rd (k := 6) (fun _ => rfl) (holdsK_sortWorldK encClm 6 w g 0 n xs.toArray d' os hlt hH hs') (by unfold sortWorldK; rw [size_grow, size_putRowK]; show g < w.heap.size + _; omega)

theorem rightClm_raw (A : Option Addr) (c : Nat) (xs : List Clm) (w : World) (hr : Rd encClm 6 w A xs) (hn : xs.length ≤ 1000000) :
    Calls Tryz.prog 28 #[.slice A xs.length c] w fun e w' => ∃ ys : List Clm, ys.Perm xs ∧ ys.Pairwise (fun x y => x.id ≤ y.id) ∧ e = .returned (.bool (allB ys 500 okClm cmpClm)) ∧ Below w.heap.size w w' := by
  have hcon := cloneClm A c xs w hr hn
  clear hr
  go_enter Tryz.func28, Tryz.ntmps28
  go_wp2_with fail
  refine hcon.mono ?_
  rintro e w1 ⟨v', rfl, hown, hb1⟩
  have hcon2 := sortClm xs w1 hown hn
  have H := Lib.hid hown
  clear hown hcon
  go_wp2_with fail
  refine hcon2.mono ?_
  rintro e w2 ⟨rfl, ys, A2, c2, rfl, hp, hs, hr2, hb2⟩
  have hcon3 := allClm okcClm cmpcClm A2 c2 ys 500 w2 hr2 (by rw [hp.length_eq]; exact hn) (by omega) (by omega)
  clear hr2 hcon2 H
  have HP := Lib.hid hp
  clear hp
  generalize ys.length = m at hcon3 ⊢
  go_wp2_with fail
  refine hcon3.mono ?_
  rintro e w3 ⟨rfl, hb3⟩
  go_wp2_with fail
  go_ret
  exact ⟨ys, HP.out, hs, rfl, hb1.trans (hb2.trans (hb3.mono (by have := hb1.size; have := hb2.size; omega)))⟩
end Go.Proofs.YtnnppnlekpadnaaGreat
