/- The contract of the statements' lists. -/
import Derived.Test.YtnnppnlekpadnaaGreatListsP
namespace Go.Proofs.YtnnppnlekpadnaaGreat
open Go.RowKit Go.Proofs
set_option maxRecDepth 100000

theorem own_blk {w : World} {base k n : Nat} {e : TypeId} {v : Value} {xs : List Value} (h : w.ownsRow base e k v n xs) (hn : n ≠ 0) : ∃ g cap cur, v = .slice (some ⟨g, 0, none⟩) n cap ∧ base ≤ g ∧ Blk w g cur e ∧ n ≤ cap := by
  rcases h.2 with ⟨_, h2⟩ | ⟨g, cap, cur, h1, h2, h3, h4, _⟩
  · exact absurd h2 hn
  · exact ⟨g, cap, cur, h1, h2, h3, h4⟩
theorem own_rd' {α : Type} {enc : α → List Value} {k : Nat} (hk : ∀ x, (enc x).length = k) {w : World} {base g cap n : Nat} {e : TypeId} {xs : List α} (h : w.ownsRow base e k (.slice (some ⟨g, 0, none⟩) n cap) xs.length (xs.flatMap enc)) : Rd enc k w (some ⟨g, 0, none⟩) xs := by
  obtain ⟨A, c, hv, hr⟩ := own_rd hk h
  simp at hv
  rw [← hv.1] at hr
  exact hr
theorem Rd.setStd {w : World} {b : Nat} {xs : List Std} (h : Rd encStd 4 w (some ⟨b, 0, none⟩) xs) {j : Nat} {x : Std} (hj : xs[j]? = some x) (y : Std) : Rd encStd 4 ((((w.setCell ⟨b, j * 4, none⟩ (.int .u8 y.cl)).setCell ⟨b, j * 4 + 1, none⟩ (.int .i64 y.fr)).setCell ⟨b, j * 4 + 2, none⟩ (.int .i64 y.to)).setCell ⟨b, j * 4 + 3, none⟩ (.int .i64 y.mi)) (some ⟨b, 0, none⟩) (xs.set j y) := by
  have hl := (List.getElem?_eq_some_iff.1 hj).1
  have h1 := h.setCell (enc := encStd) (k := 4) (fun _ => rfl) hj (i := 0) (x' := ⟨y.cl, x.fr, x.to, x.mi⟩) (v := .int .u8 y.cl) (by omega) rfl
  have h2 := h1.setCell (enc := encStd) (k := 4) (fun _ => rfl) (j := j) (x := ⟨y.cl, x.fr, x.to, x.mi⟩) (by rw [List.getElem?_set_self hl]) (i := 1) (x' := ⟨y.cl, y.fr, x.to, x.mi⟩) (v := .int .i64 y.fr) (by omega) rfl
  have h3 := h2.setCell (enc := encStd) (k := 4) (fun _ => rfl) (j := j) (x := ⟨y.cl, y.fr, x.to, x.mi⟩) (by rw [List.set_set, List.getElem?_set_self hl]) (i := 2) (x' := ⟨y.cl, y.fr, y.to, x.mi⟩) (v := .int .i64 y.to) (by omega) rfl
  have h4 := h3.setCell (enc := encStd) (k := 4) (fun _ => rfl) (j := j) (x := ⟨y.cl, y.fr, y.to, x.mi⟩) (by rw [List.set_set, List.set_set, List.getElem?_set_self hl]) (i := 3) (x' := y) (v := .int .i64 y.mi) (by omega) rfl
  simpa [List.set_set] using h4
theorem Rd.setSent {w : World} {b : Nat} {xs : List Sent} (h : Rd encSent 6 w (some ⟨b, 0, none⟩) xs) {j : Nat} {x : Sent} (hj : xs[j]? = some x) (n : Int) : Rd encSent 6 (w.setCell ⟨b, j * 6, none⟩ (.int .i64 n)) (some ⟨b, 0, none⟩) (xs.set j { x with item := n }) := by
  have h1 := h.setCell (enc := encSent) (k := 6) (fun _ => rfl) hj (i := 0) (x' := { x with item := n }) (v := .int .i64 n) (by omega) rfl
  simpa using h1
theorem Rd.setClm {w : World} {b : Nat} {xs : List Clm} (h : Rd encClm 6 w (some ⟨b, 0, none⟩) xs) {j : Nat} {x : Clm} (hj : xs[j]? = some x) (n : Int) : Rd encClm 6 (w.setCell ⟨b, j * 6, none⟩ (.int .i64 n)) (some ⟨b, 0, none⟩) (xs.set j { x with id := n }) := by
  have h1 := h.setCell (enc := encClm) (k := 6) (fun _ => rfl) hj (i := 0) (x' := { x with id := n }) (v := .int .i64 n) (by omega) rfl
  simpa using h1
theorem rd_blk {α : Type} {enc : α → List Value} {k : Nat} (hk : ∀ x, (enc x).length = k) {W : World} {n : Nat} {arr : Array Value} {T : TypeId} {xs : List α} (h : Blk W n arr T) (e : arr.toList = xs.flatMap enc) : Rd enc k W (some ⟨n, 0, none⟩) xs := fun _ => by
  refine ⟨n, 0, rfl, h.lt, fun j x hj i v hi => ?_⟩
  have hik : i < k := by
    rcases Nat.lt_or_ge i k with h | h
    · exact h
    · rw [List.getElem?_eq_none (by rw [hk]; exact h)] at hi; cases hi
  rw [h.cells, ← Array.getElem?_toList, e, Nat.zero_add, flat_get hk xs j i x hj hik]
  exact hi
theorem at_snoc {α : Type} {xs : List α} {y x : α} {i : Nat} (h : (xs ++ [y])[i]? = some x) : xs[i]? = some x ∨ (i = xs.length ∧ x = y) := by
  rcases Nat.lt_trichotomy i xs.length with h1 | h1 | h1
  · rw [List.getElem?_append_left h1] at h; exact .inl h
  · subst h1; simp at h; exact .inr ⟨rfl, h.symm⟩
  · rw [List.getElem?_append_right (by omega), List.getElem?_eq_none (by simp; omega)] at h; cases h

set_option maxHeartbeats 20000000 in
theorem lists_any (w : World) : Calls Tryz.prog 24 #[] w fun e w' => e = .returned (.bool true) ∧ Below w.heap.size w w' := by
  obtain ⟨i0, hi0, hz0, hs0, hb0⟩ := info_parts2 infStd
  obtain ⟨i1, hi1, hz1, hs1, hb1⟩ := info_parts2 infTerms
  obtain ⟨i2, hi2, hz2, hs2, hb2⟩ := info_parts2 infSent
  obtain ⟨i3, hi3, hz3, hs3, hb3⟩ := info_parts2 infClm
  obtain ⟨xs, hxs⟩ : ∃ xs : List Int, xs = [199, 200, 201, 254, 255] := ⟨_, rfl⟩
  have hxl : xs.length = 5 := by rw [hxs]; rfl
  have hxb : ∀ x ∈ xs, 0 ≤ x ∧ x ≤ 255 := by rw [hxs]; decide
  go_enter Tryz.func24, Tryz.ntmps24
  go_wp2_with fail
  obtain ⟨W1, hW1⟩ : ∃ W : World, W = w.alloc (.cells #[.int .i64 199, .int .i64 200, .int .i64 201, .int .i64 254, .int .i64 255] 3) := ⟨_, rfl⟩
  rw [← hW1]
  have rx : RdI W1 (some ⟨w.heap.size, 0, none⟩) xs := by rw [hW1]; exact rdI_blk (Blk.new rfl) (by rw [hxs]; rfl)
  have B1 : Below w.heap.size w W1 := by rw [hW1]; exact (Below.refl _ _).alloc (Nat.le_refl _) _
  have RX := Lib.hid rx
  have BW1 := Lib.hid B1
  have XB := Lib.hid hxb
  clear hW1 hxs rx B1 hxb
  go_loopg [17] 5 (fun gg s17 wr => ∃ j : Nat, j ≤ 5 ∧ 5 - j ≤ gg ∧ s17 = .int .i64 j ∧ Aside (Below W1.heap.size W1 wr))
  case atStart => exact ⟨0, by omega, by omega, rfl, Below.refl _ _⟩
  case round =>
    obtain ⟨j, hj, hg, rfl, hw⟩ := hrel
    by_cases hlt : j < 5
    · have hlt' : j < xs.length := by omega
      have hltI : (j : Int) < 5 := by omega
      obtain ⟨bb, oo, hbo, hbl, hcell⟩ := RdI.cell (RX.out.below (Nat.le_refl _) hw.out) hlt'
      simp at hbo
      obtain ⟨rfl, rfl⟩ := hbo
      obtain ⟨n0, n1⟩ := XB.out _ (List.getElem_mem hlt')
      generalize xs[j] = n at hcell n0 n1
      obtain ⟨m, rfl⟩ : ∃ m : Nat, n = (m : Int) := ⟨n.toNat, by omega⟩
      have HW := Lib.hid hw.out
      rw [Nat.zero_add] at hcell
      clear hw hbl
      go_wp2_with fail
      obtain ⟨w4, rfl⟩ : ∃ w4, w4 = wr := ⟨_, rfl⟩
      clear hcell
      go_loopg [3, 4] m (fun gg s3 s4 wr => ∃ (k : Nat) (ts : List Terms), k ≤ m ∧ m - k ≤ gg ∧ s4 = .int .i64 k ∧ ts.length = k ∧ Aside (∀ x ∈ ts, 0 ≤ x.cl) ∧ Aside (Below w4.heap.size w4 wr) ∧ Aside (wr.ownsRow w4.heap.size 41 7 s3 k (ts.flatMap encTerms)))
      case atStart => exact ⟨0, [], Nat.zero_le _, by omega, rfl, rfl, (show Aside _ from fun x h => by simp at h), Below.refl _ _, ⟨by simp, Or.inl ⟨rfl, rfl⟩⟩⟩
      case round =>
        obtain ⟨k, ts, hk, hg1, rfl, htl, hpos, hw2, ho⟩ := hrel
        by_cases hkm : k < m
        · have B2 := Lib.hid hw2.out
          have OW := Lib.hid ho.out
          have HP := Lib.hid hpos.out
          clear hw2 ho hpos
          go_wp2_with (at_builtin; refine wpList_append_own_at _ rfl _ _ 28 rfl w4.heap.size 41 i1 (.agg #[(.int .u8 0), (.int .i64 0), (.int .i64 0), (.int .i64 0), (.int .i64 0), (.int .i64 0), (.int .i64 0)]) 7 56 Tryz.underlying28 hi1 hz1 hs1 hb1 rfl (by decide) _ k (ts.flatMap encTerms) rfl ?tao ⟨_, 0, none⟩ 1 1 (encTerms (⟨(k : Int) + 1, 0, 0, 0, 0, 0, 0⟩ : Terms)) rfl ?ta1 ?ta2 (terms_one _) ?ta4 ?ta5 ?ta6 ?_)
          case tao => exact own_below OW.out ((Below.refl _ _).alloc (Nat.le_refl _) _)
          all_goals try (case ta1 => rfl)
          all_goals try (case ta2 => first | (intro k u hu; rw [addp]; refine Eq.trans (Blk.cells (Blk.new (by first | (simp; done) | (simp; omega) | omega)) _) ?_; simpa [encTerms] using hu) | (intro k u hu; simpa [encTerms] using hu))
          all_goals try (case ta4 => (unfold maxLen; omega))
          all_goals try (case ta5 => omega)
          all_goals try (case ta6 => (first | exact Nat.le_trans B2.out.size ((Below.refl 0 _).alloc (Nat.zero_le _) _).size | (have h6 := B2.out.size; simp at h6 ⊢; omega)))
          intro v' w9 hown hgrow _ _
          have bg := ((Below.refl w4.heap.size _).alloc B2.out.size _).grown hgrow (Nat.le_trans B2.out.size ((Below.refl 0 _).alloc (Nat.zero_le _) _).size) (fun k hk => own_ge OW.out hk)
          have BZ := Lib.hid (B2.out.trans bg)
          have own9 : w9.ownsRow w4.heap.size 41 7 v' (k + 1) ((ts ++ [(⟨(k : Int) + 1, 0, 0, 0, 0, 0, 0⟩ : Terms)]).flatMap encTerms) := by simpa using hown
          have OWN := Lib.hid own9
          have HP2 := Lib.hid (show ∀ x ∈ ts ++ [(⟨(k : Int) + 1, 0, 0, 0, 0, 0, 0⟩ : Terms)], 0 ≤ x.cl from fun x hx => by
            rcases List.mem_append.1 hx with h | h
            · exact HP.out x h
            · simp at h; subst h; show (0 : Int) ≤ (k : Int) + 1; omega)
          clear hown own9 hgrow bg
          go_wp2_with fail
          go_roundg (m - (k + 1))
          case measure => omega
          case rel => exact ⟨k + 1, _, by omega, by omega, by go_num, by simp [htl], HP2.out, BZ.out, OWN.out⟩
        · have hkm' : k = m := by omega
          subst hkm'
          subst htl
          obtain ⟨A, cap, rfl, hrd⟩ := own_rd (enc := encTerms) (k := 7) (fun _ => rfl) ho.out
          have nt : ts.length ≤ 1000000 := by omega
          have c1 := rightTerms_any A cap ts wr hrd nt
          change Calls Tryz.prog 26 _ _ (fun e w' => e = .returned (.bool (rightTerms ts)) ∧ _) at c1
          have C2 := Lib.hid (fun (W : World) (b : Below wr.heap.size wr W) => otherTerms_any A cap ts W (hrd.below (Nat.le_refl _) b) nt)
          have C3 := Lib.hid (fun (A : Option Addr) (cap : Nat) (W : World) (h : Rd encTerms 7 W A ts) => refTerms A cap ts W h nt hpos.out)
          have B2 := Lib.hid hw2.out
          have hg' : ¬ (ts.length : Int) < (ts.length : Int) := by omega
          clear hpos ho hrd hw2
          generalize rightTerms ts = r1 at *
          go_wp2_with fail
          refine c1.mono ?_
          rintro e w5 ⟨rfl, b5⟩
          clear c1
          go_wp2_with fail
          refine (C2.out _ b5).mono ?_
          rintro e w6 ⟨A', cap', rfl, hr6, b6⟩
          have b56 := b5.trans (b6.mono b5.size)
          have c3 := C3.out A' cap' w6 hr6
          go_wp2_with fail
          refine c3.mono ?_
          rintro e w7 ⟨rfl, b7⟩
          have BF := Lib.hid (HW.out.trans ((B2.out.trans ((b56.trans (b7.mono b56.size)).mono B2.out.size)).mono HW.out.size))
          clear c3 hr6 b5 b6 b56 b7
          go_wp2_with fail
          go_roundg (5 - (j + 1))
          case measure => omega
          case rel => exact ⟨j + 1, by omega, by omega, by go_num, BF.out⟩
    · have hj5 : j = 5 := by omega
      subst hj5
      have BA := Lib.hid (BW1.out.trans (hw.out.mono BW1.out.size))
      clear hw RX XB hxl xs
      obtain ⟨xs, hxs⟩ : ∃ xs : List Int, xs = [499, 500, 501, 1999, 2000, 2001] := ⟨_, rfl⟩
      have hxl : xs.length = 6 := by rw [hxs]; rfl
      have hxb : ∀ x ∈ xs, 2 ≤ x ∧ x ≤ 2001 := by rw [hxs]; decide
      go_wp2_with fail
      obtain ⟨W2, hW2⟩ : ∃ W : World, W = wr.alloc (.cells #[.int .i64 499, .int .i64 500, .int .i64 501, .int .i64 1999, .int .i64 2000, .int .i64 2001] 3) := ⟨_, rfl⟩
      rw [← hW2]
      have rx : RdI W2 (some ⟨wr.heap.size, 0, none⟩) xs := by rw [hW2]; exact rdI_blk (Blk.new rfl) (by rw [hxs]; rfl)
      have B2 : Below w.heap.size w W2 := by rw [hW2]; exact BA.out.alloc BA.out.size _
      have RX := Lib.hid rx
      have BW2 := Lib.hid B2
      have XB := Lib.hid hxb
      generalize wr.heap.size = NB at *
      clear hW2 hxs rx B2 hxb BA
      go_loopg [42] 6 (fun gg s42 wr => ∃ j : Nat, j ≤ 6 ∧ 6 - j ≤ gg ∧ s42 = .int .i64 j ∧ Aside (Below W2.heap.size W2 wr))
      case atStart => exact ⟨0, by omega, by omega, rfl, Below.refl _ _⟩
      case round =>
        obtain ⟨j, hj, hg, rfl, hw⟩ := hrel
        by_cases hlt : j < 6
        · have hlt' : j < xs.length := by omega
          have hltI : (j : Int) < 6 := by omega
          obtain ⟨bb, oo, hbo, hbl, hcell⟩ := RdI.cell (RX.out.below (Nat.le_refl _) hw.out) hlt'
          simp at hbo
          obtain ⟨rfl, rfl⟩ := hbo
          obtain ⟨n0, n1⟩ := XB.out _ (List.getElem_mem hlt')
          generalize xs[j] = n at hcell n0 n1
          obtain ⟨m, rfl⟩ : ∃ m : Nat, n = (m : Int) := ⟨n.toNat, by omega⟩
          have HW := Lib.hid hw.out
          rw [Nat.zero_add] at hcell
          clear hw hbl
          go_wp2_with fail
          obtain ⟨w4, rfl⟩ : ∃ w4, w4 = wr := ⟨_, rfl⟩
          clear hcell
          go_loopg [7, 8, 9, 10] m (fun gg s7 s8 s9 s10 wr => ∃ (k : Nat) (ls : List Std) (ss : List Sent) (cs : List Clm), k ≤ m ∧ m - k ≤ gg ∧ s10 = .int .i64 k ∧ ls.length = k ∧ ss.length = k ∧ cs.length = k ∧ Aside ((∀ x ∈ ls, 0 ≤ x.cl) ∧ (∀ x ∈ ss, 0 ≤ x.cl) ∧ (∀ x ∈ cs, 0 ≤ x.kind ∧ x.kind ≤ 255) ∧ (∀ (i : Nat) x, ss[i]? = some x → x.item = (m : Int) - i) ∧ (∀ (i : Nat) x, cs[i]? = some x → x.id = (m : Int) - i)) ∧ Aside (Below w4.heap.size w4 wr) ∧ Aside (Own3 encStd encSent encClm 4 6 6 w4.heap.size 27 34 31 wr s7 s8 s9 ls ss cs))
          case atStart => exact ⟨0, [], [], [], Nat.zero_le _, by omega, rfl, rfl, rfl, rfl, (show Aside _ from ⟨by simp, by simp, by simp, by simp, by simp⟩), Below.refl _ _, ⟨⟨by simp, Or.inl ⟨rfl, rfl⟩⟩, ⟨by simp, Or.inl ⟨rfl, rfl⟩⟩, ⟨by simp, Or.inl ⟨rfl, rfl⟩⟩, Or.inl rfl, Or.inl rfl, Or.inl rfl⟩⟩
          case round =>
            obtain ⟨k, ls, ss, cs, hk, hg1, rfl, hll, hsl, hcl, hpr, hw2, ho⟩ := hrel
            by_cases hkm : k < m
            · have B2 := Lib.hid hw2.out
              have OW := Lib.hid ho.out
              have HP := Lib.hid hpr.out
              clear hw2 ho hpr
              have OWa5 := Lib.hid (OW.out.below ((Below.refl _ _).alloc (Nat.le_refl _) (.cells #[.int .u8 (1 + (k : Int) / 1000), .int .i64 (1 + (k : Int) / 30), .int .i64 (1 + (k : Int) % 30), .int .i64 0] 27)))
              have Ba5 := Lib.hid (B2.out.alloc B2.out.size (.cells #[.int .u8 (1 + (k : Int) / 1000), .int .i64 (1 + (k : Int) / 30), .int .i64 (1 + (k : Int) % 30), .int .i64 0] 27))
              have hn5 : ls.length ≤ 1000000 := by omega
              go_wp2_with (at_builtin; refine wpList_append_own_at _ rfl _ _ 22 rfl w4.heap.size 27 i0 (.agg #[(.int .u8 0), (.int .i64 0), (.int .i64 0), (.int .i64 0)]) 4 32 Tryz.underlying22 hi0 hz0 hs0 hb0 rfl (by decide) _ ls.length (ls.flatMap encStd) rfl ?lao ⟨_, 0, none⟩ 1 1 (encStd (⟨1 + (k : Int) / 1000, 1 + (k : Int) / 30, 1 + (k : Int) % 30, 0⟩ : Std)) rfl ?la1 ?la2 ?la3 ?la4 ?la5 ?la6 ?_)
              case lao => exact OWa5.out.oA
              all_goals try (case la1 => rfl)
              all_goals try (case la2 => first | (intro k u hu; rw [addp]; refine Eq.trans (Blk.cells (Blk.new (by first | (simp; done) | (simp; omega) | omega)) _) ?_; simpa [encStd] using hu) | (intro k u hu; simpa [encStd] using hu))
              all_goals try (case la3 => exact std_one _)
              all_goals try (case la4 => (unfold maxLen; omega))
              all_goals try (case la5 => omega)
              all_goals try (case la6 => (first | exact Ba5.out.size | (have h6 := Ba5.out.size; simp at h6; exact h6)))
              intro v5 w5 hown hgrow _ hblk
              have own9 : w5.ownsRow w4.heap.size 27 4 v5 (ls ++ [(⟨1 + (k : Int) / 1000, 1 + (k : Int) / 30, 1 + (k : Int) % 30, 0⟩ : Std)]).length ((ls ++ [(⟨1 + (k : Int) / 1000, 1 + (k : Int) / 30, 1 + (k : Int) % 30, 0⟩ : Std)]).flatMap encStd) := by simpa [hll, hsl, hcl] using hown
              have OW2 := Lib.hid (OWa5.out.growA own9 hgrow (by simpa using hblk))
              have B3 := Lib.hid (Ba5.out.grown hgrow Ba5.out.size (fun q hq => own_ge OWa5.out.oA hq))
              clear hown hgrow hblk own9 OWa5 Ba5 hn5
              have OWa6 := Lib.hid (OW2.out.below ((Below.refl _ _).alloc (Nat.le_refl _) (.cells #[.int .i64 ((m : Int) - k), .int .u8 1, .int .i64 1, .int .i64 1, .int .i64 0, .int .i64 (-1)] 34)))
              have Ba6 := Lib.hid (B3.out.alloc B3.out.size (.cells #[.int .i64 ((m : Int) - k), .int .u8 1, .int .i64 1, .int .i64 1, .int .i64 0, .int .i64 (-1)] 34))
              have hn6 : ss.length ≤ 1000000 := by omega
              go_wp2_with (at_builtin; refine wpList_append_own_at _ rfl _ _ 29 rfl w4.heap.size 34 i2 (.agg #[(.int .i64 0), (.int .u8 0), (.int .i64 0), (.int .i64 0), (.int .i64 0), (.int .i64 0)]) 6 48 Tryz.underlying29 hi2 hz2 hs2 hb2 rfl (by decide) _ ss.length (ss.flatMap encSent) rfl ?lbo ⟨_, 0, none⟩ 1 1 (encSent (⟨(m : Int) - k, 1, 1, 1, 0, -1⟩ : Sent)) rfl ?lb1 ?lb2 ?lb3 ?lb4 ?lb5 ?lb6 ?_)
              case lbo => exact OWa6.out.oB
              all_goals try (case lb1 => rfl)
              all_goals try (case lb2 => first | (intro k u hu; rw [addp]; refine Eq.trans (Blk.cells (Blk.new (by first | (simp; done) | (simp; omega) | omega)) _) ?_; simpa [encSent] using hu) | (intro k u hu; simpa [encSent] using hu))
              all_goals try (case lb3 => exact sent_one _)
              all_goals try (case lb4 => (unfold maxLen; omega))
              all_goals try (case lb5 => omega)
              all_goals try (case lb6 => (first | exact Ba6.out.size | (have h6 := Ba6.out.size; simp at h6; exact h6)))
              intro v6 w6 hown hgrow _ hblk
              have own9 : w6.ownsRow w4.heap.size 34 6 v6 (ss ++ [(⟨(m : Int) - k, 1, 1, 1, 0, -1⟩ : Sent)]).length ((ss ++ [(⟨(m : Int) - k, 1, 1, 1, 0, -1⟩ : Sent)]).flatMap encSent) := by simpa [hll, hsl, hcl] using hown
              have OW3 := Lib.hid (OWa6.out.growB own9 hgrow (by simpa using hblk))
              have B4 := Lib.hid (Ba6.out.grown hgrow Ba6.out.size (fun q hq => own_ge OWa6.out.oB hq))
              clear hown hgrow hblk own9 OWa6 Ba6 hn6
              have OWa7 := Lib.hid (OW3.out.below ((Below.refl _ _).alloc (Nat.le_refl _) (.cells #[.int .i64 ((m : Int) - k), .int .i64 1, .int .i64 0, .int .u8 1, .int .i64 0, .int .i64 0] 31)))
              have Ba7 := Lib.hid (B4.out.alloc B4.out.size (.cells #[.int .i64 ((m : Int) - k), .int .i64 1, .int .i64 0, .int .u8 1, .int .i64 0, .int .i64 0] 31))
              have hn7 : cs.length ≤ 1000000 := by omega
              go_wp2_with (at_builtin; refine wpList_append_own_at _ rfl _ _ 48 rfl w4.heap.size 31 i3 (.agg #[(.int .i64 0), (.int .i64 0), (.int .i64 0), (.int .u8 0), (.int .i64 0), (.int .i64 0)]) 6 48 Tryz.underlying48 hi3 hz3 hs3 hb3 rfl (by decide) _ cs.length (cs.flatMap encClm) rfl ?lco ⟨_, 0, none⟩ 1 1 (encClm (⟨(m : Int) - k, 1, 0, 1, 0, 0⟩ : Clm)) rfl ?lc1 ?lc2 ?lc3 ?lc4 ?lc5 ?lc6 ?_)
              case lco => exact OWa7.out.oC
              all_goals try (case lc1 => rfl)
              all_goals try (case lc2 => first | (intro k u hu; rw [addp]; refine Eq.trans (Blk.cells (Blk.new (by first | (simp; done) | (simp; omega) | omega)) _) ?_; simpa [encClm] using hu) | (intro k u hu; simpa [encClm] using hu))
              all_goals try (case lc3 => exact clm_one _)
              all_goals try (case lc4 => (unfold maxLen; omega))
              all_goals try (case lc5 => omega)
              all_goals try (case lc6 => (first | exact Ba7.out.size | (have h6 := Ba7.out.size; simp at h6; exact h6)))
              intro v7 w7 hown hgrow _ hblk
              have own9 : w7.ownsRow w4.heap.size 31 6 v7 (cs ++ [(⟨(m : Int) - k, 1, 0, 1, 0, 0⟩ : Clm)]).length ((cs ++ [(⟨(m : Int) - k, 1, 0, 1, 0, 0⟩ : Clm)]).flatMap encClm) := by simpa [hll, hsl, hcl] using hown
              have OW4 := Lib.hid (OWa7.out.growC own9 hgrow (by simpa using hblk))
              have B5 := Lib.hid (Ba7.out.grown hgrow Ba7.out.size (fun q hq => own_ge OWa7.out.oC hq))
              clear hown hgrow hblk own9 OWa7 Ba7 hn7
              have HP2 := Lib.hid (show (∀ x ∈ ls ++ [(⟨1 + (k : Int) / 1000, 1 + (k : Int) / 30, 1 + (k : Int) % 30, 0⟩ : Std)], 0 ≤ x.cl) ∧ (∀ x ∈ ss ++ [(⟨(m : Int) - k, 1, 1, 1, 0, -1⟩ : Sent)], 0 ≤ x.cl) ∧ (∀ x ∈ cs ++ [(⟨(m : Int) - k, 1, 0, 1, 0, 0⟩ : Clm)], 0 ≤ x.kind ∧ x.kind ≤ 255) ∧ (∀ (i : Nat) x, (ss ++ [(⟨(m : Int) - k, 1, 1, 1, 0, -1⟩ : Sent)])[i]? = some x → x.item = (m : Int) - i) ∧ (∀ (i : Nat) x, (cs ++ [(⟨(m : Int) - k, 1, 0, 1, 0, 0⟩ : Clm)])[i]? = some x → x.id = (m : Int) - i) from by
                refine ⟨fun x hx => ?_, fun x hx => ?_, fun x hx => ?_, fun i x hx => ?_, fun i x hx => ?_⟩
                · rcases List.mem_append.1 hx with h | h
                  · exact HP.out.1 x h
                  · simp at h; subst h; show (0 : Int) ≤ 1 + (k : Int) / 1000; omega
                · rcases List.mem_append.1 hx with h | h
                  · exact HP.out.2.1 x h
                  · simp at h; subst h; show (0 : Int) ≤ 1; omega
                · rcases List.mem_append.1 hx with h | h
                  · exact HP.out.2.2.1 x h
                  · simp at h; subst h; show (0 : Int) ≤ 1 ∧ (1 : Int) ≤ 255; omega
                · rcases at_snoc hx with h | ⟨h1, h2⟩
                  · exact HP.out.2.2.2.1 i x h
                  · subst h2; rw [h1, hsl]
                · rcases at_snoc hx with h | ⟨h1, h2⟩
                  · exact HP.out.2.2.2.2 i x h
                  · subst h2; rw [h1, hcl])
              go_wp2_with fail
              go_roundg (m - (k + 1))
              case measure => omega
              case rel => exact ⟨k + 1, _, _, _, by omega, by omega, by go_num, by simp [hll], by simp [hsl], by simp [hcl], HP2.out, B5.out, OW4.out⟩
            · obtain rfl : m = k := by omega
              subst hll
              have hne1 : ls.length ≠ 0 := by omega
              obtain ⟨g1, p1, u1, rfl, hg1b, k1, hp1⟩ := own_blk ho.out.oA hne1
              obtain ⟨g2, p2, u2, rfl, hg2b, k2, hp2⟩ := own_blk ho.out.oB (by omega)
              obtain ⟨g3, p3, u3, rfl, hg3b, k3, hp3⟩ := own_blk ho.out.oC (by omega)
              have r1 := own_rd' (enc := encStd) (k := 4) (fun _ => rfl) ho.out.oA
              have r2 := own_rd' (enc := encSent) (k := 6) (fun _ => rfl) ho.out.oB
              have r3 := own_rd' (enc := encClm) (k := 6) (fun _ => rfl) ho.out.oC
              have a12 : g1 ≠ g2 := by have := ho.out.ab; simp [apartV, Value.ownBlock] at this; exact this
              have a13 : g1 ≠ g3 := by have := ho.out.ac; simp [apartV, Value.ownBlock] at this; exact this
              have a23 : g2 ≠ g3 := by have := ho.out.bc; simp [apartV, Value.ownBlock] at this; exact this
              have m1 : ls.length ≤ 1000000 := by omega
              have m2 : ss.length ≤ 1000000 := by omega
              have m3 : cs.length ≤ 1000000 := by omega
              have C1 := Lib.hid (fun (W : World) (b : Below wr.heap.size wr W) => right_any (some ⟨g1, 0, none⟩) p1 ls W (r1.below (Nat.le_refl _) b) m1)
              change Hid (∀ W, Below wr.heap.size wr W → Calls Tryz.prog 11 _ _ (fun e w' => e = .returned (.bool (rightStd ls)) ∧ _)) at C1
              have D1 := Lib.hid (fun (W : World) (b : Below wr.heap.size wr W) => refRight (some ⟨g1, 0, none⟩) p1 ls W (r1.below (Nat.le_refl _) b) m1 hpr.out.1)
              have C2 := Lib.hid (fun (W : World) (b : Below wr.heap.size wr W) => rightSent_any (some ⟨g2, 0, none⟩) p2 ss W (r2.below (Nat.le_refl _) b) m2)
              have D2 := Lib.hid (fun (W : World) (b : Below wr.heap.size wr W) => refSent (some ⟨g2, 0, none⟩) p2 ss W (r2.below (Nat.le_refl _) b) m2 hpr.out.2.1)
              have C3 := Lib.hid (fun (W : World) (b : Below wr.heap.size wr W) => rightClm_any (some ⟨g3, 0, none⟩) p3 cs W (r3.below (Nat.le_refl _) b) m3)
              have O3 := Lib.hid (fun (W : World) (b : Below wr.heap.size wr W) => otherClm_any (some ⟨g3, 0, none⟩) p3 cs W (r3.below (Nat.le_refl _) b) m3)
              have D3 := Lib.hid (fun (A : Option Addr) (cap : Nat) (W : World) (h : Rd encClm 6 W A cs) => refClm A cap cs W h m3 hpr.out.2.2.1)
              have e2 : ss.length = ls.length := hsl
              have e3 : cs.length = ls.length := hcl
              have LN := Lib.hid (And.intro e2 e3)
              have RR := Lib.hid (And.intro r1 (And.intro r2 r3))
              have KK := Lib.hid (And.intro k1 (And.intro k2 k3))
              have HPR := Lib.hid hpr.out
              have HB := Lib.hid hw2.out
              have KB := Lib.hid hw2.out.size
              have hg' : ¬ (ls.length : Int) < (ls.length : Int) := by omega
              clear e2 e3 hsl hcl r1 r2 r3 k1 k2 k3 hpr hw2 ho hkm
              generalize rightStd ls = q1 at *
              generalize rightSent ss = q2 at *
              generalize rightClm cs = q3 at *
              go_wp2_with fail
              refine (C1.out _ (Below.refl _ _)).mono ?_
              rintro e w5 ⟨rfl, b5⟩
              go_wp2_with fail
              refine (D1.out _ b5).mono ?_
              rintro e w6 ⟨rfl, hb⟩
              have b6 := b5.trans (hb.mono b5.size)
              clear hb b5
              go_wp2_with fail
              refine (C2.out _ b6).mono ?_
              rintro e w7 ⟨rfl, hb⟩
              have b7 := b6.trans (hb.mono b6.size)
              clear hb b6
              go_wp2_with fail
              refine (D2.out _ b7).mono ?_
              rintro e w8 ⟨rfl, hb⟩
              have b8 := b7.trans (hb.mono b7.size)
              clear hb b7
              go_wp2_with fail
              refine (C3.out _ b8).mono ?_
              rintro e w9 ⟨rfl, hb⟩
              have b9 := b8.trans (hb.mono b8.size)
              clear hb b8
              go_wp2_with fail
              refine (O3.out _ b9).mono ?_
              rintro e w10 ⟨A', cap', rfl, hr10, hb⟩
              have b10 := b9.trans (hb.mono b9.size)
              have d3 := D3.out A' cap' w10 hr10
              clear hb b9
              go_wp2_with fail
              refine d3.mono ?_
              rintro e w11 ⟨rfl, hb⟩
              have b11 := b10.trans (hb.mono b10.size)
              clear hb b10 d3 hr10 C1 D1 C2 D2 C3 D3 O3
              have r1 := RR.out.1.below (Nat.le_refl _) b11
              have r2 := RR.out.2.1.below (Nat.le_refl _) b11
              have r3 := RR.out.2.2.below (Nat.le_refl _) b11
              have k1 := KK.out.1.below b11 KK.out.1.lt
              have k2 := KK.out.2.1.below b11 KK.out.2.1.lt
              have k3 := KK.out.2.2.below b11 KK.out.2.2.lt
              have f1 := k1.free
              have f2 := k2.free
              have f3 := k3.free
              have i1 : ls.length - 1 < ls.length := by omega
              have i2 : ls.length - 1 < ss.length := by have := LN.out.1; omega
              have i3 : ls.length - 1 < cs.length := by have := LN.out.2; omega
              have i4 : ls.length - 2 < ls.length := by omega
              have hs1 : ss[ls.length - 1]? = some (ss[ls.length - 1]'i2) := List.getElem?_eq_getElem i2
              have hc1 : cs[ls.length - 1]? = some (cs[ls.length - 1]'i3) := List.getElem?_eq_getElem i3
              have hl1 : ls[ls.length - 1]? = some (ls[ls.length - 1]'i1) := List.getElem?_eq_getElem i1
              have hl2 : ls[ls.length - 2]? = some (ls[ls.length - 2]'i4) := List.getElem?_eq_getElem i4
              generalize ss[ls.length - 1]'i2 = xs1 at hs1
              generalize cs[ls.length - 1]'i3 = xc1 at hc1
              generalize ls[ls.length - 1]'i1 = xl1 at hl1
              generalize ls[ls.length - 2]'i4 = xl2 at hl2
              obtain ⟨_, _, hA, _, hcl2⟩ := r1.at hl2
              simp only [Option.some.injEq, Addr.mk.injEq, and_true] at hA
              obtain ⟨rfl, rfl⟩ := hA
              obtain ⟨_, _, hA, _, hcl1⟩ := r1.at hl1
              simp only [Option.some.injEq, Addr.mk.injEq, and_true] at hA
              obtain ⟨rfl, rfl⟩ := hA
              obtain ⟨_, _, hA, _, hcs1⟩ := r2.at hs1
              simp only [Option.some.injEq, Addr.mk.injEq, and_true] at hA
              obtain ⟨rfl, rfl⟩ := hA
              obtain ⟨_, _, hA, _, hcc1⟩ := r3.at hc1
              simp only [Option.some.injEq, Addr.mk.injEq, and_true] at hA
              obtain ⟨rfl, rfl⟩ := hA
              have RQ := Lib.hid (And.intro r1 (And.intro r2 r3))
              have HI := Lib.hid (And.intro hl2 (And.intro hl1 (And.intro hs1 hc1)))
              have hcl20 := hcl2 0 _ rfl; have hcl21 := hcl2 1 _ rfl; have hcl22 := hcl2 2 _ rfl; have hcl23 := hcl2 3 _ rfl; rw [Nat.add_zero] at hcl20; clear hcl2
              have hcl10 := hcl1 0 _ rfl; have hcl11 := hcl1 1 _ rfl; have hcl12 := hcl1 2 _ rfl; have hcl13 := hcl1 3 _ rfl; rw [Nat.add_zero] at hcl10; clear hcl1
              have hcs10 := hcs1 0 _ rfl
              have hcc10 := hcc1 0 _ rfl
              simp only [Nat.zero_add, Nat.add_zero] at hcl20 hcl21 hcl22 hcl23 hcl10 hcl11 hcl12 hcl13 hcs10 hcc10
              have s1 : ((ls.length : Int) - 1).toNat = ls.length - 1 := by omega
              have s2 : ((ls.length : Int) - 2).toNat = ls.length - 2 := by omega
              have s3 : 0 ≤ (ls.length : Int) - 1 := by omega
              have s4 : 0 ≤ (ls.length : Int) - 2 := by omega
              have s5 : (ls.length : Int) - 1 < ss.length := by omega
              have s6 : (ls.length : Int) - 1 < cs.length := by omega
              have s7 : (ls.length : Int) - 2 < ls.length := by omega
              have s8 : (ls.length : Int) - 1 < ls.length := by omega
              clear hcs1 hcc1 hl1 hl2 hs1 hc1 r1 r2 r3
              go_wp2_with fail
              have hl2 := HI.out.1
              have hl1 := HI.out.2.1
              have hs1 := HI.out.2.2.1
              have hc1 := HI.out.2.2.2
              have rS := ((((RQ.out.1.setOther (p := ⟨g2, (ls.length - 1) * 6, none⟩) (v := .int .i64 2) (Ne.symm a12)).setOther (p := ⟨g3, (ls.length - 1) * 6, none⟩) (v := .int .i64 2) (Ne.symm a13))).setStd hl1 xl2)
              have rN := ((((RQ.out.2.1.setSent hs1 2).setOther (p := ⟨g3, (ls.length - 1) * 6, none⟩) (v := .int .i64 2) (Ne.symm a23)).setOther (p := ⟨g1, (ls.length - 1) * 4, none⟩) (v := .int .u8 xl2.cl) a12).setOther (p := ⟨g1, (ls.length - 1) * 4 + 1, none⟩) (v := .int .i64 xl2.fr) a12).setOther (p := ⟨g1, (ls.length - 1) * 4 + 2, none⟩) (v := .int .i64 xl2.to) a12 |>.setOther (p := ⟨g1, (ls.length - 1) * 4 + 3, none⟩) (v := .int .i64 xl2.mi) a12
              have rC := ((((RQ.out.2.2.setOther (p := ⟨g2, (ls.length - 1) * 6, none⟩) (v := .int .i64 2) a23).setClm hc1 2).setOther (p := ⟨g1, (ls.length - 1) * 4, none⟩) (v := .int .u8 xl2.cl) a13).setOther (p := ⟨g1, (ls.length - 1) * 4 + 1, none⟩) (v := .int .i64 xl2.fr) a13).setOther (p := ⟨g1, (ls.length - 1) * 4 + 2, none⟩) (v := .int .i64 xl2.to) a13 |>.setOther (p := ⟨g1, (ls.length - 1) * 4 + 3, none⟩) (v := .int .i64 xl2.mi) a13
              have bF := (((((b11.mono KB.out).setCell (p := ⟨g2, (ls.length - 1) * 6, none⟩) hg2b (.int .i64 2)).setCell (p := ⟨g3, (ls.length - 1) * 6, none⟩) hg3b (.int .i64 2)).setCell (p := ⟨g1, (ls.length - 1) * 4, none⟩) hg1b (.int .u8 xl2.cl)).setCell (p := ⟨g1, (ls.length - 1) * 4 + 1, none⟩) hg1b (.int .i64 xl2.fr)).setCell (p := ⟨g1, (ls.length - 1) * 4 + 2, none⟩) hg1b (.int .i64 xl2.to) |>.setCell (p := ⟨g1, (ls.length - 1) * 4 + 3, none⟩) hg1b (.int .i64 xl2.mi)
              have e1 : rightStd (ls.set (ls.length - 1) xl2) = false := by
                refine badStd_twice (j := ls.length - 2) (x := xl2) ?_ ?_
                · rw [List.getElem?_set_ne (by omega)]; exact hl2
                · rw [show ls.length - 2 + 1 = ls.length - 1 by omega, List.getElem?_set_self i1]
              have e2 : rightSent (ss.set (ls.length - 1) { xs1 with item := 2 }) = false := by
                have h2 : ss[ls.length - 2]? = some (ss[ls.length - 2]'(by omega)) := List.getElem?_eq_getElem _
                have h3 := HPR.out.2.2.2.1 _ _ h2
                refine badSent_dup (i := ls.length - 2) (j := ls.length - 1) (y := ss[ls.length - 2]'(by omega)) (x := { xs1 with item := 2 }) ?_ ?_ (by omega) ?_
                · rw [List.getElem?_set_ne (by omega)]; exact h2
                · rw [List.getElem?_set_self i2]
                · rw [h3]; show _ = (2 : Int); omega
              have e3 : rightClm (cs.set (ls.length - 1) { xc1 with id := 2 }) = false := by
                have h2 : cs[ls.length - 2]? = some (cs[ls.length - 2]'(by omega)) := List.getElem?_eq_getElem _
                have h3 := HPR.out.2.2.2.2 _ _ h2
                refine badClm_dup (i := ls.length - 2) (j := ls.length - 1) (y := cs[ls.length - 2]'(by omega)) (x := { xc1 with id := 2 }) ?_ ?_ (by omega) ?_
                · rw [List.getElem?_set_ne (by omega)]; exact h2
                · rw [List.getElem?_set_self i3]
                · rw [h3]; show _ = (2 : Int); omega
              have BFH := Lib.hid bF
              have c1 := right_any (some ⟨g1, 0, none⟩) p1 _ _ rS (by rw [List.length_set]; exact m1)
              change Calls Tryz.prog 11 _ _ (fun e w' => e = .returned (.bool (rightStd _)) ∧ _) at c1
              rw [e1, List.length_set] at c1
              have C2 := fun (W : World) (b : Below _ _ W) => rightSent_any (some ⟨g2, 0, none⟩) p2 _ W (rN.below (Nat.le_refl _) b) (by rw [List.length_set]; exact m2)
              rw [e2] at C2
              simp only [List.length_set] at C2
              replace C2 := Lib.hid C2
              have C3 := fun (W : World) (b : Below _ _ W) => rightClm_any (some ⟨g3, 0, none⟩) p3 _ W (rC.below (Nat.le_refl _) b) (by rw [List.length_set]; exact m3)
              rw [e3] at C3
              simp only [List.length_set] at C3
              replace C3 := Lib.hid C3
              clear e1 e2 e3 rS rN rC hl1 hl2 hs1 hc1 bF hcl20 hcl21 hcl22 hcl23 hcl10 hcl11 hcl12 hcl13 hcs10 hcc10 s1 s2 s3 s4 s5 s6 s7 s8 f1 f2 f3 k1 k2 k3
              refine c1.mono ?_
              rintro e w12 ⟨rfl, b12⟩
              clear c1
              go_wp2_with fail
              refine (C2.out _ b12).mono ?_
              rintro e w13 ⟨rfl, hb⟩
              have b13 := b12.trans (hb.mono b12.size)
              clear hb
              go_wp2_with fail
              refine (C3.out _ b13).mono ?_
              rintro e w14 ⟨rfl, hb⟩
              have b14 := b13.trans (hb.mono b13.size)
              have BE := Lib.hid (HW.out.trans ((HB.out.trans (BFH.out.trans (b14.mono (Nat.le_trans HB.out.size BFH.out.size)))).mono HW.out.size))
              clear hb b13 b12 b14
              go_wp2_with fail
              go_roundg (6 - (j + 1))
              case measure => omega
              case rel => exact ⟨j + 1, by omega, by omega, by go_num, BE.out⟩
        · have hj6 : j = 6 := by omega
          subst hj6
          have BA := Lib.hid (BW2.out.trans (hw.out.mono BW2.out.size))
          clear hw RX XB hxl xs
          go_wp2_with fail
          obtain ⟨W3, hW3⟩ : ∃ W : World, W = (wr.alloc (.cells #[.int .u8 1, .int .i64 2, .int .i64 3, .int .i64 0] 27)).alloc (.cells #[.int .u8 1, .int .i64 2, .int .i64 3, .int .i64 0, .int .u8 1, .int .i64 2, .int .i64 4, .int .i64 0, .int .u8 1, .int .i64 2, .int .i64 2, .int .i64 0, .int .u8 1, .int .i64 3, .int .i64 1, .int .i64 0, .int .u8 1, .int .i64 1, .int .i64 9, .int .i64 0, .int .u8 2, .int .i64 1, .int .i64 1, .int .i64 0] 27) := ⟨_, rfl⟩
          rw [← hW3]
          obtain ⟨ys, hys⟩ : ∃ ys : List Std, ys = [⟨1, 2, 3, 0⟩, ⟨1, 2, 4, 0⟩, ⟨1, 2, 2, 0⟩, ⟨1, 3, 1, 0⟩, ⟨1, 1, 9, 0⟩, ⟨2, 1, 1, 0⟩] := ⟨_, rfl⟩
          have hyl : ys.length = 6 := by rw [hys]; rfl
          have hyb : ∀ y ∈ ys, 0 ≤ y.cl := by rw [hys]; decide
          have kx : Blk W3 wr.heap.size #[.int .u8 1, .int .i64 2, .int .i64 3, .int .i64 0] 27 := by rw [hW3]; exact (Blk.new rfl).alloc _
          have ry : Rd encStd 4 W3 (some ⟨wr.heap.size + 1, 0, none⟩) ys := by rw [hW3]; exact rd_blk (enc := encStd) (k := 4) (arr := #[.int .u8 1, .int .i64 2, .int .i64 3, .int .i64 0, .int .u8 1, .int .i64 2, .int .i64 4, .int .i64 0, .int .u8 1, .int .i64 2, .int .i64 2, .int .i64 0, .int .u8 1, .int .i64 3, .int .i64 1, .int .i64 0, .int .u8 1, .int .i64 1, .int .i64 9, .int .i64 0, .int .u8 2, .int .i64 1, .int .i64 1, .int .i64 0]) (T := 27) (fun _ => rfl) (Blk.new (by first | (simp; done) | (simp; omega) | omega)) (by rw [hys]; rfl)
          have B3 : Below w.heap.size w W3 := by rw [hW3]; exact (BA.out.alloc BA.out.size _).alloc (by have := BA.out.size; simp; omega) _
          have KX := Lib.hid kx
          have RY := Lib.hid ry
          have YB := Lib.hid hyb
          have BW3 := Lib.hid B3
          generalize wr.heap.size = NX at *
          clear hW3 hys kx ry B3 hyb BA
          go_loopg [138] 6 (fun gg s138 wr => ∃ j : Nat, j ≤ 6 ∧ 6 - j ≤ gg ∧ s138 = .int .i64 j ∧ Aside (Below W3.heap.size W3 wr))
          case atStart => exact ⟨0, by omega, by omega, rfl, Below.refl _ _⟩
          case round =>
            obtain ⟨j, hj, hg, rfl, hw⟩ := hrel
            by_cases hlt : j < 6
            · have hlt' : j < ys.length := by omega
              have hltI : (j : Int) < 6 := by omega
              have hy : ys[j]? = some ys[j] := List.getElem?_eq_getElem hlt'
              obtain ⟨_, _, hA, hbl, hc⟩ := (RY.out.below (Nat.le_refl _) hw.out).at hy
              simp only [Option.some.injEq, Addr.mk.injEq, and_true] at hA
              obtain ⟨rfl, rfl⟩ := hA
              have y0 := YB.out _ (List.getElem_mem hlt')
              generalize ys[j] = y at hy hc y0
              have hc0 := hc 0 _ rfl; have hc1 := hc 1 _ rfl; have hc2 := hc 2 _ rfl; have hc3 := hc 3 _ rfl; rw [Nat.add_zero] at hc0; clear hc
              simp only [Nat.zero_add, Nat.add_zero] at hc0 hc1 hc2 hc3
              have kx := KX.out.below hw.out KX.out.lt
              have kx2 := kx.alloc (.cells #[.int .u8 y.cl, .int .i64 y.fr, .int .i64 y.to, .int .i64 y.mi] 27)
              have ky2 : Blk (wr.alloc (.cells #[.int .u8 y.cl, .int .i64 y.fr, .int .i64 y.to, .int .i64 y.mi] 27)) wr.heap.size #[.int .u8 y.cl, .int .i64 y.fr, .int .i64 y.to, .int .i64 y.mi] 27 := Blk.new rfl
              have b2 := hw.out.alloc hw.out.size (.cells #[.int .u8 y.cl, .int .i64 y.fr, .int .i64 y.to, .int .i64 y.mi] 27)
              have kxc := kx2.cells
              have kyc := ky2.cells
              have B2 := Lib.hid b2
              have rl : Rd encStd 4 ((wr.alloc (.cells #[.int .u8 y.cl, .int .i64 y.fr, .int .i64 y.to, .int .i64 y.mi] 27)).alloc (.cells #[.int .u8 1, .int .i64 2, .int .i64 3, .int .i64 0, .int .u8 y.cl, .int .i64 y.fr, .int .i64 y.to, .int .i64 y.mi] 27)) (some ⟨wr.heap.size + 1, 0, none⟩) [(⟨1, 2, 3, 0⟩ : Std), y] := rd_blk (enc := encStd) (k := 4) (arr := #[.int .u8 1, .int .i64 2, .int .i64 3, .int .i64 0, .int .u8 y.cl, .int .i64 y.fr, .int .i64 y.to, .int .i64 y.mi]) (T := 27) (fun _ => rfl) (Blk.new (by first | (simp; done) | (simp; omega) | omega)) rfl
              have b3 := B2.out.alloc B2.out.size (.cells #[.int .u8 1, .int .i64 2, .int .i64 3, .int .i64 0, .int .u8 y.cl, .int .i64 y.fr, .int .i64 y.to, .int .i64 y.mi] 27)
              have c1 := right_any (some ⟨wr.heap.size + 1, 0, none⟩) 2 _ _ rl (by simp)
              change Calls Tryz.prog 11 _ _ (fun e w' => e = .returned (.bool (rightStd _)) ∧ _) at c1
              have C2 := Lib.hid (fun W b => refRight (some ⟨wr.heap.size + 1, 0, none⟩) 2 _ W (rl.below (Nat.le_refl _) b) (by simp) (by intro z hz; simp at hz; rcases hz with rfl | rfl; exact (by decide); exact y0))
              generalize rightStd [(⟨1, 2, 3, 0⟩ : Std), y] = q1 at *
              have B3 := Lib.hid b3
              clear rl b2 b3 kx kx2 ky2 hbl hw y0
              go_wp2_with fail
              refine c1.mono ?_
              rintro e w5 ⟨rfl, b5⟩
              clear c1
              go_wp2_with fail
              refine (C2.out _ b5).mono ?_
              rintro e w6 ⟨rfl, hb⟩
              have BE := Lib.hid (B3.out.trans ((b5.trans (hb.mono b5.size)).mono B3.out.size))
              clear hb b5 kxc kyc
              go_wp2_with fail
              go_roundg (6 - (j + 1))
              case measure => omega
              case rel => exact ⟨j + 1, by omega, by omega, by go_num, BE.out⟩
            · have hj6 : j = 6 := by omega
              subst hj6
              have BF := Lib.hid (BW3.out.trans (hw.out.mono BW3.out.size))
              clear hw
              go_wp2_with fail
              go_ret
              exact ⟨rfl, BF.out⟩
end Go.Proofs.YtnnppnlekpadnaaGreat
