/- Contract of scan.offset. -/
import Derived.Test.YtcjhkjplpbhjiaaOf
namespace Go.Proofs.Ytcjhkjplpbhjiaa
open Go.RowKit Go.Proofs
set_option maxRecDepth 100000
attribute [local go_sem] Oper.semAt_some

/-- The last mark so far. -/
def lastFrom (l : Mrk) : List Mrk → Mrk
  | [] => l
  | m :: r => lastFrom m r
theorem lastFrom_snoc (x : Mrk) : ∀ (pre : List Mrk) (l : Mrk), lastFrom l (pre ++ [x]) = x
  | [], l => rfl
  | m :: r, l => lastFrom_snoc x r m
theorem offGo_pre (at_ : Int) (r : List Mrk) : ∀ (pre : List Mrk) (l : Mrk), (∀ m ∈ pre, m.at_ < at_) → offGo at_ l.off l (pre ++ r) = offGo at_ (lastFrom l pre).off (lastFrom l pre) r
  | [], l, _ => rfl
  | m :: s, l, h => by
    have h1 := h m (by simp)
    show (if at_ ≤ m.at_ then _ else offGo at_ m.off m (s ++ r)) = offGo at_ (lastFrom m s).off (lastFrom m s) r
    rw [if_neg (by omega)]
    exact offGo_pre at_ r s m (fun x hx => h x (by simp [hx]))
def zeroM : Mrk := ⟨0, 0, 0⟩
theorem lastFrom_or : ∀ (pre : List Mrk) (l : Mrk), lastFrom l pre = l ∨ lastFrom l pre ∈ pre
  | [], l => .inl rfl
  | m :: r, l => by
    right
    show lastFrom m r ∈ m :: r
    rcases lastFrom_or r m with h | h
    · rw [h]; simp
    · exact List.mem_cons_of_mem _ h

/-- What a round that leaves has found. -/
def foundAt (at_ : Int) (last x : Mrk) : Int := if last.sc = 0 ∨ x.at_ = at_ then x.off else last.off + (x.off - last.off) * (at_ - last.at_) / (x.at_ - last.at_)

/-- The function's own variables. -/
structure OffVars (s : Nat) (at_ res : Int) (last : Mrk) (W : World) : Prop where
  a : Blk W s #[.int .i64 at_] 3
  r : Blk W (s + 1) #[.int .i64 res] 3
  o : Blk W (s + 2) #[.int .i64 last.off] 3
  l : Blk W (s + 3) #[.int .i64 last.sc, .int .i64 last.at_, .int .i64 last.off] 30
theorem OffVars.kept {s : Nat} {at_ res : Int} {last : Mrk} {W W' : World} {row : Option Nat} (h : OffVars s at_ res last W) (hg : W.grownBy W' row) (hr : ∀ r, row = some r → ∃ o : Obj, W.heap[r]? = some o ∧ o.isCells = false) : OffVars s at_ res last W' :=
  ⟨blk_own (β := Unit) _ _ _ () W W' row h.a hg hr, blk_own (β := Unit) _ _ _ () W W' row h.r hg hr, blk_own (β := Unit) _ _ _ () W W' row h.o hg hr, blk_own (β := Unit) _ _ _ () W W' row h.l hg hr⟩
theorem OffVars.alloc {s : Nat} {at_ res : Int} {last : Mrk} {W : World} (h : OffVars s at_ res last W) (o : Obj) : OffVars s at_ res last (W.alloc o) := ⟨h.a.alloc o, h.r.alloc o, h.o.alloc o, h.l.alloc o⟩

theorem Blk.set1 {W : World} {n : Nat} {a x : Value} {T : TypeId} (h : Blk W n #[a] T) : Blk (W.setCell ⟨n, 0, none⟩ x) n #[x] T := by
  obtain ⟨hlt, hk⟩ := Array.getElem?_eq_some_iff.1 h
  show (W.heap.modify n _)[n]? = _
  rw [Array.getElem?_eq_getElem (by rw [Array.size_modify]; exact hlt), Array.getElem_modify_self, hk]
  rfl
theorem Blk.set3 {W : World} {n : Nat} {a b c x y z : Value} {T : TypeId} (h : Blk W n #[a, b, c] T) : Blk (((W.setCell ⟨n, 0, none⟩ x).setCell ⟨n, 1, none⟩ y).setCell ⟨n, 2, none⟩ z) n #[x, y, z] T := by
  have s1 : ∀ {W : World} {arr : Array Value} (i : Nat) (v : Value), Blk W n arr T → Blk (W.setCell ⟨n, i, none⟩ v) n (arr.setIfInBounds i v) T := by
    intro W arr i v h
    obtain ⟨hlt, hk⟩ := Array.getElem?_eq_some_iff.1 h
    show (W.heap.modify n _)[n]? = _
    rw [Array.getElem?_eq_getElem (by rw [Array.size_modify]; exact hlt), Array.getElem_modify_self, hk]
    simp
  have := s1 2 z (s1 1 y (s1 0 x h))
  simpa using this
theorem Blk.other {W : World} {n : Nat} {arr : Array Value} {T : TypeId} (h : Blk W n arr T) {a : Addr} (ha : a.block ≠ n) (v : Value) : Blk (W.setCell a v) n arr T := (Below.heap_setCell _ _ _ _ (fun e => ha e.symm)).trans h
theorem Blk.drew {W : World} {n : Nat} {arr : Array Value} {T : TypeId} (h : Blk W n arr T) : Blk W.drew n arr T := h

theorem prod_bd (d e : Int) (h1 : -2200000000 ≤ d) (h2 : d ≤ 2200000000) (h3 : 0 ≤ e) (h4 : e ≤ 1100000000) : -3000000000000000000 ≤ d * e ∧ d * e ≤ 3000000000000000000 := by
  have a := Int.mul_le_mul_of_nonneg_right h1 h3
  have b := Int.mul_le_mul_of_nonneg_right h2 h3
  omega
theorem quo_bd (p d : Int) (hd : 0 < d) (h1 : -3000000000000000000 ≤ p) (h2 : p ≤ 3000000000000000000) : -3000000000000000000 ≤ p / d ∧ p / d ≤ 3000000000000000000 :=
  ⟨Int.le_ediv_of_mul_le hd (by omega), Int.ediv_le_of_le_mul hd (by omega)⟩

/-- Between two rounds; where a round has left. -/
def OffI (w : World) (at_ : Int) (pre : List OkM) (W : World) : Prop := ((∀ m ∈ pre, m.1.at_ < at_) ∧ OffVars w.heap.size at_ 0 (lastFrom zeroM (pre.map (·.1))) W) ∧ Below w.heap.size w W
def OffX (w : World) (at_ : Int) (cd : Code) (pre : List OkM) (W : World) : Prop := (cd = .ret ∧ ∃ (p : List OkM) (x : OkM), pre = p ++ [x] ∧ (∀ m ∈ p, m.1.at_ < at_) ∧ at_ ≤ x.1.at_ ∧ Blk W (w.heap.size + 1) #[.int .i64 (foundAt at_ (lastFrom zeroM (p.map (·.1))) x.1)] 3) ∧ Below w.heap.size w W
theorem offI_own (w : World) (at_ : Int) (B : Nat) (hB : w.heap.size ≤ B) : OwnFrom B (OffI w at_) :=
  OwnFrom.and (Own.from (fun s X Y row hs hg hr => ⟨hs.1, hs.2.kept hg hr⟩) _) (ownFrom_below (Nat.le_refl _) hB)
theorem offX_own (w : World) (at_ : Int) (B : Nat) (hB : w.heap.size ≤ B) (cd : Code) : OwnFrom B (OffX w at_ cd) :=
  OwnFrom.and (Own.from (fun s X Y row hs hg hr => by obtain ⟨h1, p, x, h2, h3, h4, h5⟩ := hs; exact ⟨h1, p, x, h2, h3, h4, blk_own (β := Unit) _ _ _ () X Y row h5 hg hr⟩) _) (ownFrom_below (Nat.le_refl _) hB)
theorem last_snoc (pre : List OkM) (x : OkM) : lastFrom zeroM ((pre ++ [x]).map (·.1)) = x.1 := by
  rw [List.map_append]; exact lastFrom_snoc x.1 _ _

set_option maxHeartbeats 2000000 in
theorem offset_any (A : Option Addr) (c : Nat) (ms : List Mrk) (scanner at_ : Int) (w : World) (hr : Rd encMrk 3 w A ms) (hlen : ms.length ≤ 1000000) (hmono : Mono ms ⟨scanner, 0, 0⟩) (hok : ∀ m ∈ ms, okM m = true) (ha : 0 ≤ at_) (hb : at_ ≤ 1051898399) :
    Calls Try.prog 51 #[.slice A ms.length c, .int .i64 scanner, .int .i64 at_] w fun e w' => e = .returned (.int .i64 (offGo at_ 0 zeroM (ofL ms scanner))) ∧ Below w.heap.size w w' := by
  refine (callsIn_wide (n := 9)).1 ?_
  refine callsIn_of_wp_marks Try.func51 rfl trivial ?_ rfl
  simp only [Try.ntmps51, List.size_toArray, List.length_cons, List.length_nil, Nat.reduceAdd, Nat.reduceSub, Array.replicate_succ, Array.replicate_zero, List.push_toArray, List.append_toArray, List.nil_append, List.cons_append]
  have HR := Lib.hid hr
  have HM := Lib.hid hmono
  have HK := Lib.hid hok
  clear hr hmono hok
  gi_wp2
  refine ⟨trivial, (callsIn_wide.2 (of_any A ms.length c scanner _)).mono ?_⟩
  rintro e w' ⟨rfl, rfl⟩
  gi_wp2
  obtain ⟨W0, hW0⟩ : ∃ W0, ((((((w.alloc (.cells #[.int .i64 at_] 3)).alloc (.cells #[.int .i64 0] 3)).alloc (.cells #[.int .i64 0] 3)).alloc (.cells #[.int .i64 0, .int .i64 0, .int .i64 0] 30)).alloc (.cells #[.slice A ms.length c] 22)).alloc (.cells #[.int .i64 scanner] 3)) = W0 := ⟨_, rfl⟩
  have hs0 : W0.heap.size = w.heap.size + 6 := by rw [← hW0]; simp
  have hV : OffVars w.heap.size at_ 0 zeroM W0 := by
    rw [← hW0]
    refine OffVars.alloc (OffVars.alloc ⟨?_, ?_, ?_, ?_⟩ _) _
    · exact (((Blk.new rfl).alloc _).alloc _).alloc _
    · exact ((Blk.new (by simp)).alloc _).alloc _
    · exact (Blk.new (by simp)).alloc _
    · exact Blk.new (by simp)
  have hkl : Blk W0 (w.heap.size + 4) #[.slice A ms.length c] 22 := by rw [← hW0]; exact (Blk.new (by simp)).alloc _
  have hks : Blk W0 (w.heap.size + 5) #[.int .i64 scanner] 3 := by rw [← hW0]; exact Blk.new (by simp)
  have hB0 : Below w.heap.size w W0 := by
    rw [← hW0]
    exact ((((((Below.refl _ w).alloc (Nat.le_refl _) _).alloc (by simp) _).alloc (by simp; omega) _).alloc (by simp; omega) _).alloc (by simp; omega) _).alloc (by simp; omega) _
  have hr0 := HR.out.below (Nat.le_refl _) hB0
  rw [hW0]
  have n2 : w.heap.size + 1 + 1 = w.heap.size + 2 := by omega
  have n3 : w.heap.size + 2 + 1 = w.heap.size + 3 := by omega
  have n4 : w.heap.size + 3 + 1 = w.heap.size + 4 := by omega
  have n5 : w.heap.size + 4 + 1 = w.heap.size + 5 := by omega
  rw [n2, n3, n4, n5]
  clear hW0 n2 n3 n4 n5
  have hPlt : ∀ b, (b < w.heap.size ∨ b = w.heap.size + 4 ∨ b = w.heap.size + 5) → b < W0.heap.size := fun b h => by omega
  have hseq := of_stops 8 (by omega) (w.heap.size + 4) (w.heap.size + 5) A c ms scanner hlen HM.out HK.out (fun b => b < w.heap.size ∨ b = w.heap.size + 4 ∨ b = w.heap.size + 5) (.inr (.inl rfl)) (.inr (.inr rfl))
    (fun hne b o hA => by obtain ⟨b', o', hA', hlt, _⟩ := HR.out hne; rw [hA] at hA'; cases hA'; exact .inl hlt) W0 (hkl.cells 0) (hks.cells 0) hr0
  refine wpIn_rangeFunc_ownH rfl (by omega) (gf := 71) (lb := #[.pointer (some ⟨w.heap.size + 4, 0, none⟩), .pointer (some ⟨w.heap.size + 5, 0, none⟩)]) rfl trivial (enters_of Try.func71 (by kernel_rfl) rfl) hseq (fun h k => h.trans k) (keepsOn_b hPlt) (Below.refl _ _) (fun _ => rfl)
    (OffI w at_) (OffX w at_) (offI_own w at_ _ (by omega)) (offX_own w at_ _ (by omega))
    ⟨⟨by simp, hV⟩, hB0⟩
    (fun x a' W => ∃ Bx, w.heap.size + 3 < Bx ∧ Blk W Bx #[.int .i64 x.1.sc, .int .i64 x.1.at_, .int .i64 x.1.off] 30 ∧
      a' = { tmps := #[.slice A ms.length c, .int .i64 scanner, .int .i64 at_, undef, undef, .pointer (some ⟨w.heap.size, 0, none⟩), .pointer (some ⟨w.heap.size + 1, 0, none⟩), .pointer (some ⟨w.heap.size + 2, 0, none⟩), .pointer (some ⟨w.heap.size + 3, 0, none⟩), .pointer (some ⟨Bx, 0, none⟩), .slice A ms.length c, .int .i64 scanner,
        .func (.func 71) #[] #[.pointer (some ⟨w.heap.size + 4, 0, none⟩), .pointer (some ⟨w.heap.size + 5, 0, none⟩)], .agg #[.int .i64 x.1.sc, .int .i64 x.1.at_, .int .i64 x.1.off], undef, undef, undef, undef, undef, undef, undef, undef, undef, undef, undef, undef, undef, undef, undef, undef, undef, undef, undef, undef, undef, undef, undef, undef, undef, undef, undef, undef, undef, undef, undef, undef, undef, undef, undef, undef, undef, undef], defers := [] })
    (fun x a' s X Y row hs hg hr => by obtain ⟨Bx, h2, h3, h4⟩ := hs; exact ⟨Bx, h2, blk_own (β := Unit) Bx _ _ s X Y row h3 hg (fun r e => (hr r e).2), h4⟩) ?assign ?body ?done ?stop
  case assign =>
    rintro l pre x W K ⟨⟨hp, hv⟩, hB⟩ hK
    gi_wp2
    exact hK _ _ ((KeepsOthers.alloc _ _).from _) (KeepsOn.of_below ((Below.refl _ _).alloc (Nat.le_refl _) _)) ⟨⟨hp, hv.alloc _⟩, hB.alloc hB.size _⟩ ⟨W.heap.size, hv.l.lt, Blk.new rfl, rfl⟩
  case body =>
    rintro l pre ⟨x, hx⟩ a' W hl ⟨r, hr⟩ ⟨⟨hp, hv⟩, hB⟩ ⟨Bx, hBx, hbx, rfl⟩ hlt
    have hx2 : (1 ≤ x.sc ∧ x.sc ≤ 999999) ∧ (0 ≤ x.at_ ∧ x.at_ ≤ 1051898399) ∧ (-1051898399 ≤ x.off ∧ x.off ≤ 1051898399) := by simpa [okM, inB, and_assoc] using hx
    obtain ⟨-, ⟨q1, q2⟩, q3, q4⟩ := hx2
    have HP := Lib.hid hp
    obtain ⟨lst, hlst⟩ : ∃ lst, lastFrom zeroM (pre.map (·.1)) = lst := ⟨_, rfl⟩
    have hlb : lst.sc = 0 ∨ (0 ≤ lst.at_ ∧ lst.at_ < at_ ∧ -1051898399 ≤ lst.off ∧ lst.off ≤ 1051898399) := by
      rcases lastFrom_or (pre.map (·.1)) zeroM with h | h
      · rw [hlst] at h; subst h; exact .inl rfl
      · rw [hlst] at h
        obtain ⟨m, hm, rfl⟩ := List.mem_map.1 h
        have h1 := hp m hm
        have h2 := m.2
        simp only [okM, inB, Bool.and_eq_true, decide_eq_true_eq] at h2
        exact .inr (by omega)
    have HLST := Lib.hid hlst
    rw [hlst] at hv
    clear hlst hp
    have va := hv.a.cells
    have vr := hv.r.cells
    have vo := hv.o.cells
    have vl := hv.l.cells
    have vx := hbx.cells
    by_cases h1 : at_ ≤ x.at_
    · by_cases h3 : lst.sc = 0
      · have e3 : (lst.sc == 0) = true := by simpa using h3
        have fr := hv.r.free
        have HV := Lib.hid hv
        have hp2 := HP.out
        have hx3 : foundAt at_ lst x = x.off := if_pos (.inl h3)
        have HX3 := Lib.hid hx3
        clear hlb h3 hx3 hp2
        dsimp only
        gi_wp2
        refine ⟨(KeepsOthers.setCell _ _ _).from _, ⟨rfl, pre, ⟨x, hx⟩, rfl, HP.out, h1, ?_⟩, hB.setCell (p := ⟨w.heap.size + 1, 0, none⟩) (by simp) _⟩
        rw [HLST.out]; dsimp only; rw [HX3.out]; exact HV.out.r.set1
      · by_cases h4 : x.at_ = at_
        · have e3 : (lst.sc == 0) = false := by simpa using h3
          have e4 : (x.at_ == at_) = true := by simpa using h4
          have fr := hv.r.free
          have HV := Lib.hid hv
          have HX3 : Hid (foundAt at_ lst x = x.off) := Lib.hid (if_pos (.inr h4))
          clear hlb h3 h4
          dsimp only
          gi_wp2
          refine ⟨(KeepsOthers.setCell _ _ _).from _, ⟨rfl, pre, ⟨x, hx⟩, rfl, HP.out, h1, ?_⟩, hB.setCell (p := ⟨w.heap.size + 1, 0, none⟩) (by simp) _⟩
          rw [HLST.out]; dsimp only; rw [HX3.out]; exact HV.out.r.set1
        · obtain ⟨b1, b2, b3, b4⟩ := hlb.resolve_left h3
          have e3 : (lst.sc == 0) = false := by simpa using h3
          have e4 : (x.at_ == at_) = false := by simpa using h4
          have HX3 : Hid (foundAt at_ lst x = lst.off + (x.off - lst.off) * (at_ - lst.at_) / (x.at_ - lst.at_)) := Lib.hid (if_neg (fun h => h.elim h3 h4))
          have fr := hv.r.free
          have h5 : at_ < x.at_ := by omega
          obtain ⟨p1, p2⟩ := prod_bd (x.off - lst.off) (at_ - lst.at_) (by omega) (by omega) (by omega) (by omega)
          obtain ⟨p3, p4⟩ := quo_bd _ (x.at_ - lst.at_) (by omega) p1 p2
          have hd := Lib.hid (fun W => down_any ((x.off - lst.off) * (at_ - lst.at_)) (x.at_ - lst.at_) W (by omega) (by omega) (by omega) (by omega))
          have w1 : IntKind.i64.wrap (x.off - lst.off) = x.off - lst.off := IntWalk.i64_in _ (by omega)
          have w2 : IntKind.i64.wrap (at_ - lst.at_) = at_ - lst.at_ := IntWalk.i64_in _ (by omega)
          have w3 : IntKind.i64.wrap ((x.off - lst.off) * (at_ - lst.at_)) = (x.off - lst.off) * (at_ - lst.at_) := IntWalk.i64_in _ (by omega)
          have w4 : IntKind.i64.wrap (x.at_ - lst.at_) = x.at_ - lst.at_ := IntWalk.i64_in _ (by omega)
          have w5 : IntKind.i64.wrap (lst.off + (x.off - lst.off) * (at_ - lst.at_) / (x.at_ - lst.at_)) = lst.off + (x.off - lst.off) * (at_ - lst.at_) / (x.at_ - lst.at_) := IntWalk.i64_in _ (by omega)
          have HV := Lib.hid hv
          have hC : (fun V => Blk V w.heap.size #[.int .i64 at_] 3 ∧ Blk V (w.heap.size + 3) #[.int .i64 lst.sc, .int .i64 lst.at_, .int .i64 lst.off] 30 ∧ Blk V Bx #[.int .i64 x.sc, .int .i64 x.at_, .int .i64 x.off] 30) W.drew := ⟨hv.a, hv.l, hbx⟩
          clear hlb h3 h4
          dsimp only
          gi_wp2
          have W1 := Lib.hid w1
          have W2 := Lib.hid w2
          have W3 := Lib.hid w3
          have W4 := Lib.hid w4
          have W5 := Lib.hid w5
          clear w1 w2 w3 w4 w5 p1 p2 p3 p4
          refine wpIn_region_C (fun V => Blk V w.heap.size #[.int .i64 at_] 3 ∧ Blk V (w.heap.size + 3) #[.int .i64 lst.sc, .int .i64 lst.at_, .int .i64 lst.off] 30 ∧ Blk V Bx #[.int .i64 x.sc, .int .i64 x.at_, .int .i64 x.off] 30) (by kernel_rfl) (by kernel_rfl) (fun ⟨_, _, h⟩ => h) ?_
          (refine wpAnyC_take (i := 0) (v := (.pointer (some ⟨w.heap.size + 3, 2, none⟩))) rfl (by kernel_rfl) (by kernel_rfl) (by kernel_rfl) (fun _ _ _ h => h) hC (Or.inl ⟨by rfl, fun V hV => ?_⟩) ?_; case _ => (skip; go_simp; try (with_reducible rfl)))
          (refine wpAnyC_take (i := 1) (v := (.int .i64 lst.off)) rfl (by kernel_rfl) (by kernel_rfl) (by kernel_rfl) (fun _ _ _ h => h) hC (Or.inl ⟨by rfl, fun V hV => ?_⟩) ?_; case _ => (have hh := Blk.cells hV.2.1; go_simp; try (with_reducible rfl)))
          (refine wpAnyC_take (i := 2) (v := (.pointer (some ⟨Bx, 2, none⟩))) rfl (by kernel_rfl) (by kernel_rfl) (by kernel_rfl) (fun _ _ _ h => h) hC (Or.inl ⟨by rfl, fun V hV => ?_⟩) ?_; case _ => (skip; go_simp; try (with_reducible rfl)))
          (refine wpAnyC_take (i := 3) (v := (.int .i64 x.off)) rfl (by kernel_rfl) (by kernel_rfl) (by kernel_rfl) (fun _ _ _ h => h) hC (Or.inl ⟨by rfl, fun V hV => ?_⟩) ?_; case _ => (have hh := Blk.cells hV.2.2; go_simp; try (with_reducible rfl)))
          (refine wpAnyC_take (i := 4) (v := (.pointer (some ⟨w.heap.size + 3, 2, none⟩))) rfl (by kernel_rfl) (by kernel_rfl) (by kernel_rfl) (fun _ _ _ h => h) hC (Or.inl ⟨by rfl, fun V hV => ?_⟩) ?_; case _ => (skip; go_simp; try (with_reducible rfl)))
          (refine wpAnyC_take (i := 5) (v := (.int .i64 lst.off)) rfl (by kernel_rfl) (by kernel_rfl) (by kernel_rfl) (fun _ _ _ h => h) hC (Or.inl ⟨by rfl, fun V hV => ?_⟩) ?_; case _ => (have hh := Blk.cells hV.2.1; go_simp; try (with_reducible rfl)))
          (refine wpAnyC_take (i := 6) (v := (.int .i64 (x.off - lst.off))) rfl (by kernel_rfl) (by kernel_rfl) (by kernel_rfl) (fun _ _ _ h => h) hC (Or.inl ⟨by rfl, fun V hV => ?_⟩) ?_; case _ => (have w1 := W1.out; go_simp; try (with_reducible rfl)))
          (refine wpAnyC_take (i := 7) (v := (.int .i64 at_)) rfl (by kernel_rfl) (by kernel_rfl) (by kernel_rfl) (fun _ _ _ h => h) hC (Or.inl ⟨by rfl, fun V hV => ?_⟩) ?_; case _ => (have hh := Blk.cells hV.1; go_simp; try (with_reducible rfl)))
          (refine wpAnyC_take (i := 8) (v := (.pointer (some ⟨w.heap.size + 3, 1, none⟩))) rfl (by kernel_rfl) (by kernel_rfl) (by kernel_rfl) (fun _ _ _ h => h) hC (Or.inl ⟨by rfl, fun V hV => ?_⟩) ?_; case _ => (skip; go_simp; try (with_reducible rfl)))
          (refine wpAnyC_take (i := 9) (v := (.int .i64 lst.at_)) rfl (by kernel_rfl) (by kernel_rfl) (by kernel_rfl) (fun _ _ _ h => h) hC (Or.inl ⟨by rfl, fun V hV => ?_⟩) ?_; case _ => (have hh := Blk.cells hV.2.1; go_simp; try (with_reducible rfl)))
          (refine wpAnyC_take (i := 10) (v := (.int .i64 (at_ - lst.at_))) rfl (by kernel_rfl) (by kernel_rfl) (by kernel_rfl) (fun _ _ _ h => h) hC (Or.inl ⟨by rfl, fun V hV => ?_⟩) ?_; case _ => (have w2 := W2.out; go_simp; try (with_reducible rfl)))
          (refine wpAnyC_take (i := 11) (v := (.int .i64 ((x.off - lst.off) * (at_ - lst.at_)))) rfl (by kernel_rfl) (by kernel_rfl) (by kernel_rfl) (fun _ _ _ h => h) hC (Or.inl ⟨by rfl, fun V hV => ?_⟩) ?_; case _ => (have w3 := W3.out; go_simp; try (with_reducible rfl)))
          (refine wpAnyC_take (i := 12) (v := (.pointer (some ⟨Bx, 1, none⟩))) rfl (by kernel_rfl) (by kernel_rfl) (by kernel_rfl) (fun _ _ _ h => h) hC (Or.inl ⟨by rfl, fun V hV => ?_⟩) ?_; case _ => (skip; go_simp; try (with_reducible rfl)))
          (refine wpAnyC_take (i := 13) (v := (.int .i64 x.at_)) rfl (by kernel_rfl) (by kernel_rfl) (by kernel_rfl) (fun _ _ _ h => h) hC (Or.inl ⟨by rfl, fun V hV => ?_⟩) ?_; case _ => (have hh := Blk.cells hV.2.2; go_simp; try (with_reducible rfl)))
          (refine wpAnyC_take (i := 14) (v := (.pointer (some ⟨w.heap.size + 3, 1, none⟩))) rfl (by kernel_rfl) (by kernel_rfl) (by kernel_rfl) (fun _ _ _ h => h) hC (Or.inl ⟨by rfl, fun V hV => ?_⟩) ?_; case _ => (skip; go_simp; try (with_reducible rfl)))
          (refine wpAnyC_take (i := 15) (v := (.int .i64 lst.at_)) rfl (by kernel_rfl) (by kernel_rfl) (by kernel_rfl) (fun _ _ _ h => h) hC (Or.inl ⟨by rfl, fun V hV => ?_⟩) ?_; case _ => (have hh := Blk.cells hV.2.1; go_simp; try (with_reducible rfl)))
          (refine wpAnyC_take (i := 16) (v := (.int .i64 (x.at_ - lst.at_))) rfl (by kernel_rfl) (by kernel_rfl) (by kernel_rfl) (fun _ _ _ h => h) hC (Or.inl ⟨by rfl, fun V hV => ?_⟩) ?_; case _ => (have w4 := W4.out; go_simp; try (with_reducible rfl)))
          refine wpAnyC_one 17 (by kernel_rfl) rfl rfl (fun K hK => ?_)
          go_simp
          refine (hd.out _).mono ?_
          rintro e w9 ⟨rfl, rfl⟩
          refine hK _ _ hC ?_
          clear hK K
          (refine wpAnyC_take (i := 18) (v := (.int .i64 (lst.off + (x.off - lst.off) * (at_ - lst.at_) / (x.at_ - lst.at_)))) rfl (by kernel_rfl) (by kernel_rfl) (by kernel_rfl) (fun _ _ _ h => h) hC (Or.inl ⟨by rfl, fun V hV => ?_⟩) ?_; case _ => (have w5 := W5.out; go_simp; try (with_reducible rfl)))
          refine wpAnyC_one 19 (by kernel_rfl) rfl rfl (fun K hK => ?_)
          go_simp
          have ne1 : (⟨w.heap.size + 1, 0, none⟩ : Addr).block ≠ w.heap.size := by show w.heap.size + 1 ≠ _; omega
          have ne2 : (⟨w.heap.size + 1, 0, none⟩ : Addr).block ≠ w.heap.size + 3 := by show w.heap.size + 1 ≠ _; omega
          have ne3 : (⟨w.heap.size + 1, 0, none⟩ : Addr).block ≠ Bx := by show w.heap.size + 1 ≠ _; omega
          refine hK _ _ ⟨Blk.other HV.out.a ne1 _, Blk.other HV.out.l ne2 _, Blk.other hbx ne3 _⟩ ?_
          clear hK K
          refine wpAnyC_done (by kernel_rfl) ?_
          gi_wp2
          refine ⟨((KeepsOthers.setCell _ _ _).trans (KeepsOthers.drew _)).from _, ⟨rfl, pre, ⟨x, hx⟩, rfl, HP.out, h1, ?_⟩, (hB.setCell (p := ⟨w.heap.size + 1, 0, none⟩) (by simp) _).drew⟩
          rw [HLST.out]; dsimp only; rw [HX3.out]; exact HV.out.r.set1
    · have h1' : ¬ at_ ≤ x.at_ := h1
      have hC : (fun V => Blk V Bx #[.int .i64 x.sc, .int .i64 x.at_, .int .i64 x.off] 30) W.drew := hbx
      have fo := hv.o.free
      have fl := hv.l.free
      have HV := Lib.hid hv
      have hB' : w.heap.size ≤ w.heap.size + 2 := by omega
      dsimp only
      gi_wp2
      refine wpIn_region_C (fun V => Blk V Bx #[.int .i64 x.sc, .int .i64 x.at_, .int .i64 x.off] 30) (by kernel_rfl) (by kernel_rfl) (fun ⟨_, _, h⟩ => h) ?_
      (refine wpAnyC_take (i := 0) (v := (.agg #[.int .i64 x.sc, .int .i64 x.at_, .int .i64 x.off])) rfl (by kernel_rfl) (by kernel_rfl) (by kernel_rfl) (fun _ _ _ h => h) hC (Or.inl ⟨by rfl, fun V hV => ?_⟩) ?_; case _ => (have hh := Blk.cells hV; go_simp; try (with_reducible rfl)))
      (refine wpAnyC_take (i := 1) (v := (.pointer (some ⟨Bx, 2, none⟩))) rfl (by kernel_rfl) (by kernel_rfl) (by kernel_rfl) (fun _ _ _ h => h) hC (Or.inl ⟨by rfl, fun V hV => ?_⟩) ?_; case _ => (skip; go_simp; try (with_reducible rfl)))
      (refine wpAnyC_take (i := 2) (v := (.int .i64 x.off)) rfl (by kernel_rfl) (by kernel_rfl) (by kernel_rfl) (fun _ _ _ h => h) hC (Or.inl ⟨by rfl, fun V hV => ?_⟩) ?_; case _ => (have hh := Blk.cells hV; go_simp; try (with_reducible rfl)))
      refine wpAnyC_one 3 (by kernel_rfl) rfl rfl (fun K hK => ?_)
      go_simp
      refine hK _ _ (Blk.drew (Blk.other (Blk.other (Blk.other hbx (by show _ ≠ Bx; dsimp only; omega) _) (by show _ ≠ Bx; dsimp only; omega) _) (by show _ ≠ Bx; dsimp only; omega) _)) ?_
      clear hK K
      refine wpAnyC_one 4 (by kernel_rfl) rfl rfl (fun K hK => ?_)
      go_simp
      refine hK _ _ (Blk.drew (Blk.other (Blk.other (Blk.other (Blk.other hbx (by show _ ≠ Bx; dsimp only; omega) _) (by show _ ≠ Bx; dsimp only; omega) _) (by show _ ≠ Bx; dsimp only; omega) _) (by show _ ≠ Bx; dsimp only; omega) _)) ?_
      clear hK K
      refine wpAnyC_done (by kernel_rfl) ?_
      gi_wp2
      refine ⟨(((((KeepsOthers.setCell _ _ _).trans (KeepsOthers.setCell _ _ _)).trans (KeepsOthers.setCell _ _ _)).trans (KeepsOthers.setCell _ _ _)).trans (KeepsOthers.drew _)).from _,
        ((((keepsOn_setCell _ _ _ (by dsimp only; omega)).trans (keepsOn_setCell _ _ _ (by dsimp only; omega))).trans (keepsOn_setCell _ _ _ (by dsimp only; omega))).trans (keepsOn_setCell _ _ _ (by dsimp only; omega))).trans ⟨Nat.le_refl _, fun _ _ _ => rfl⟩,
        ⟨⟨fun m hm => ?_, ?_⟩, ((((hB.setCell (p := ⟨w.heap.size + 3, 0, none⟩) (by simp) _).setCell (p := ⟨w.heap.size + 3, 1, none⟩) (by simp) _).setCell (p := ⟨w.heap.size + 3, 2, none⟩) (by simp) _).setCell (p := ⟨w.heap.size + 2, 0, none⟩) (by simp) _).drew⟩⟩
      · rcases List.mem_append.1 hm with hm | hm
        · exact HP.out m hm
        · simp at hm; subst hm; dsimp only; omega
      · rw [last_snoc]
        have hv := HV.out
        refine ⟨Blk.drew ?_, Blk.drew ?_, Blk.drew ?_, Blk.drew ?_⟩
        · exact (((hv.a.other (by simp) _).other (by simp) _).other (by simp) _).other (by simp) _
        · exact (((hv.r.other (by simp) _).other (by simp) _).other (by simp) _).other (by simp) _
        · exact (((hv.o.other (by simp) _).other (by simp) _).other (by simp) _).set1
        · exact (hv.l.set3).other (by simp) _
  case done =>
    rintro D ys W hD hS ⟨⟨hp, hv⟩, hB⟩ hK
    have vr := hv.r.cells
    have vo := hv.o.cells
    have fr := hv.r.free
    have hres : Hid ((lastFrom zeroM (ys.map (·.1))).off = offGo at_ 0 zeroM (ofL ms scanner)) := Lib.hid (by
      have h1 := offGo_pre at_ [] (ys.map (·.1)) zeroM (fun m hm => by obtain ⟨y, hy, rfl⟩ := List.mem_map.1 hm; exact hp y hy)
      rw [List.append_nil, hS] at h1
      rw [hS]; exact h1.symm)
    have HV := Lib.hid hv
    clear hv hS hp
    generalize lastFrom zeroM (ys.map (·.1)) = lst at *
    gi_wp2
    have hK' := (KeepsOthers.setCell W ⟨w.heap.size + 1, 0, none⟩ (.int .i64 lst.off)).same D _ hK rfl
    refine ⟨by simp, .inl ⟨_, _, rfl, run_takeDeferred hK', ?_⟩⟩
    have hc5 := cell_kept (show (W.setCell ⟨w.heap.size + 1, 0, none⟩ (.int .i64 lst.off)).cell? ⟨w.heap.size + 1, 0, none⟩ = some (.int .i64 lst.off) from HV.out.r.set1.cells 0) (grownBy_putObj' _ D (.deferred none)) (fun r e => by cases e; exact ⟨_, hK', rfl⟩)
    refine ⟨.int .i64 lst.off, ?_, by rw [hres.out], (hB.setCell (p := ⟨w.heap.size + 1, 0, none⟩) (by simp) _).trans (belowK_b (w := w) (Nat.le_refl _) _ D _ _ (by omega) hK' rfl rfl)⟩
    simp [results, Try.f51, go_sem, hc5]
  case stop =>
    rintro D cd pre W hD hS ⟨⟨rfl, p, x, rfl, hp, hx, hres⟩, hB⟩ hK
    have hval : Hid (foundAt at_ (lastFrom zeroM (p.map (·.1))) x.1 = offGo at_ 0 zeroM (ofL ms scanner)) := Lib.hid (by
      obtain ⟨rest, hrest⟩ := hS
      have h1 := offGo_pre at_ (x.1 :: rest) (p.map (·.1)) zeroM (fun m hm => by obtain ⟨y, hy, rfl⟩ := List.mem_map.1 hm; exact hp y hy)
      have h2 : p.map (·.1) ++ x.1 :: rest = ofL ms scanner := by rw [← hrest]; simp
      rw [h2] at h1
      refine Eq.trans ?_ h1.symm
      show _ = (if at_ ≤ x.1.at_ then foundAt at_ (lastFrom zeroM (p.map (·.1))) x.1 else _)
      rw [if_pos hx])
    generalize foundAt at_ (lastFrom zeroM (p.map (·.1))) x.1 = res at *
    have hc0 := hres.cells 0
    clear hS hp
    gi_wp2
    refine ⟨by simp, .inl ⟨_, _, rfl, run_takeDeferred hK, ?_⟩⟩
    have hc5 := cell_kept (show W.cell? ⟨w.heap.size + 1, 0, none⟩ = some (.int .i64 res) from hc0) (grownBy_putObj' _ D (.deferred none)) (fun r e => by cases e; exact ⟨_, hK, rfl⟩)
    refine ⟨.int .i64 res, ?_, by rw [hval.out], hB.trans (belowK_b (w := w) (Nat.le_refl _) _ D _ _ (by omega) hK rfl rfl)⟩
    simp [results, Try.f51, go_sem, hc5]
end Go.Proofs.Ytcjhkjplpbhjiaa
