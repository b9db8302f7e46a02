/- Contracts of scan.of and of its iterator. -/
import Derived.Test.YtcjhkjplpbhjiaaBin
namespace Go.Proofs.Ytcjhkjplpbhjiaa
open Go.RowKit Go.Proofs
set_option maxRecDepth 100000
attribute [local go_sem] Oper.semAt_some

/-- The blocks of P lie as they lay. -/
def KeepsOn (P : Nat → Prop) (W W' : World) : Prop := W.heap.size ≤ W'.heap.size ∧ ∀ b, P b → b < W.heap.size → W'.heap[b]? = W.heap[b]?
theorem KeepsOn.refl (P : Nat → Prop) (W : World) : KeepsOn P W W := ⟨Nat.le_refl _, fun _ _ _ => rfl⟩
theorem KeepsOn.trans {P : Nat → Prop} {A B C : World} (h : KeepsOn P A B) (k : KeepsOn P B C) : KeepsOn P A C := ⟨Nat.le_trans h.1 k.1, fun b hb hl => (k.2 b hb (Nat.lt_of_lt_of_le hl h.1)).trans (h.2 b hb hl)⟩
theorem KeepsOn.of_below {P : Nat → Prop} {W W' : World} (h : Below W.heap.size W W') : KeepsOn P W W' := ⟨h.size, fun b _ hl => h.block b hl⟩
theorem KeepsOn.cell {P : Nat → Prop} {W W' : World} (h : KeepsOn P W W') {b o : Nat} {v : Value} (hb : P b) (hc : W.cell? ⟨b, o, none⟩ = some v) : W'.cell? ⟨b, o, none⟩ = some v := by
  have hl := World.block_lt_of_cell? W _ hc
  unfold World.cell? at hc ⊢
  rw [h.2 b hb hl]; exact hc
theorem KeepsOn.rd {α : Type} {enc : α → List Value} {k : Nat} {P : Nat → Prop} {W W' : World} (h : KeepsOn P W W') {A : Option Addr} {xs : List α} (hP : xs ≠ [] → ∀ b o, A = some ⟨b, o, none⟩ → P b) (hr : Rd enc k W A xs) : Rd enc k W' A xs := fun hx => by
  obtain ⟨b, o, hA, hlt, hc⟩ := hr hx
  exact ⟨b, o, hA, Nat.lt_of_lt_of_le hlt h.1, fun j x hj i v hi => h.cell (hP hx b o hA) (hc j x hj i v hi)⟩
theorem keepsOn_setCell {P : Nat → Prop} (W : World) (a : Addr) (v : Value) (ha : ¬ P a.block) : KeepsOn P W (W.setCell a v) :=
  ⟨(KeepsWalks.setCell W a v).size, fun b hb _ => Below.heap_setCell _ _ _ _ (fun e => ha (e ▸ hb))⟩
theorem keepsOn_b {P : Nat → Prop} {w : World} (hP : ∀ b, P b → b < w.heap.size) (W : World) (l : Nat) (o o' : Obj) (hl : w.heap.size ≤ l) (_ : W.heap[l]? = some o) (_ : o.isCells = false) (_ : o.isWalk = false) : KeepsOn P W (W.putObj l o') :=
  ⟨by simp, fun b hb _ => World.putObj_heap_other (fun e => by have := hP b hb; omega)⟩

/-- What a scanner's marks are: from the first of it on, as long as they are its. -/
def ofL (ms : List Mrk) (scanner : Int) : List Mrk := (ms.drop (cntMrk ms ⟨scanner, 0, 0⟩)).takeWhile (fun m => decide (m.sc = scanner))

/-- Each mark comes no later than the next ones. -/
def Mono (ms : List Mrk) (t : Mrk) : Prop := ∀ (a b : Nat) (x y : Mrk), a ≤ b → ms[a]? = some x → ms[b]? = some y → cmpPl y t < 0 → cmpPl x t < 0

theorem takeWhile_at {α : Type} (p : α → Bool) : ∀ (l : List α) (k : Nat), (∀ j x, j < k → l[j]? = some x → p x = true) → (∀ x, l[k]? = some x → p x = false) → l.takeWhile p = l.take k
  | [], k, _, _ => by simp
  | x :: r, 0, _, h => by
    have := h x (by simp)
    simp [this]
  | x :: r, k + 1, h1, h2 => by
    have h0 := h1 0 x (by omega) (by simp)
    rw [List.takeWhile_cons, h0]
    simp only [if_true, List.take_succ_cons]
    rw [takeWhile_at p r k (fun j y hj hy => h1 (j + 1) y (by omega) (by simpa using hy)) (fun y hy => h2 y (by simpa using hy))]

theorem take_prefix {α : Type} (p : α → Bool) : ∀ (l : List α) (k : Nat), (∀ j x, j < k → l[j]? = some x → p x = true) → l.take k <+: l.takeWhile p
  | [], k, _ => by simp
  | x :: r, 0, _ => by simp
  | x :: r, k + 1, h1 => by
    have h0 := h1 0 x (by omega) (by simp)
    rw [List.takeWhile_cons, h0]
    simp only [if_true, List.take_succ_cons]
    exact (List.prefix_cons_inj x).2 (take_prefix p r k (fun j y hj hy => h1 (j + 1) y (by omega) (by simpa using hy)))

set_option maxHeartbeats 2000000 in
theorem of1_in (n : Nat) (hn : 1 ≤ n) (l Bl Bs : Nat) (A : Option Addr) (c : Nat) (ms : List Mrk) (scanner : Int) (hlen : ms.length ≤ 1000000) (hmono : Mono ms ⟨scanner, 0, 0⟩) (P : Nat → Prop) (hPl : P Bl) (hPs : P Bs) (hPA : ms ≠ [] → ∀ b o, A = some ⟨b, o, none⟩ → P b) (J Jx : List Mrk → World → Prop)
    (hY : ∀ pre x W, J pre W → pre.length < ms.length → x ∈ ms → YieldAt Fence.wide (n - 1) Try.prog l #[.agg #[.int .i64 x.sc, .int .i64 x.at_, .int .i64 x.off]] W fun e W' =>
      (e = .returned (.bool true) ∧ J (pre ++ [x]) W' ∧ KeepsOn P W W') ∨ (e = .returned (.bool false) ∧ Jx (pre ++ [x]) W'))
    (W : World) (hJ : AbidesFrom W.heap.size J) (hcl : W.cell? ⟨Bl, 0, none⟩ = some (.slice A ms.length c)) (hcs : W.cell? ⟨Bs, 0, none⟩ = some (.int .i64 scanner)) (hr : Rd encMrk 3 W A ms) (h0 : J [] W) :
    CallsIn Fence.wide n Try.prog 71 #[.func (.yield l) #[] #[], .pointer (some ⟨Bl, 0, none⟩), .pointer (some ⟨Bs, 0, none⟩)] W fun e W' => (∃ v, e = .returned v) ∧
      ((∃ ys, ys = ofL ms scanner ∧ J ys W') ∨ (∃ pre, pre <+: ofL ms scanner ∧ Jx pre W')) := by
  have hcon := bin_any A c ms ⟨scanner, 0, 0⟩ W hr hlen hmono
  have HR := Lib.hid hr
  have HM := Lib.hid hmono
  clear hr hmono
  refine callsIn_of_wp Try.func71 rfl trivial ?_ rfl
  simp only [Try.ntmps71, List.size_toArray, List.length_cons, List.length_nil, Nat.reduceAdd, Nat.reduceSub, Array.replicate_succ, Array.replicate_zero, List.push_toArray, List.append_toArray, List.nil_append, List.cons_append]
  gi_wp2
  refine ⟨trivial, (callsIn_wide.2 hcon).mono ?_⟩
  rintro e W1 ⟨rfl, hb1⟩
  gi_wp2
  have hi0 : cntMrk ms ⟨scanner, 0, 0⟩ ≤ ms.length := by unfold cntMrk; exact List.countP_le_length
  have HO : Hid (ofL ms scanner = (ms.drop (cntMrk ms ⟨scanner, 0, 0⟩)).takeWhile (fun m => decide (m.sc = scanner))) := Lib.hid rfl
  generalize cntMrk ms ⟨scanner, 0, 0⟩ = i0 at *
  generalize foundMrk ms ⟨scanner, 0, 0⟩ = fnd at *
  have hJ1 := hJ [] W W1 none h0 (grownBy_of_below hb1 none) (fun r e => by cases e)
  have HK1 : Hid (KeepsOn P W W1) := Lib.hid (KeepsOn.of_below hb1)
  have HJ := Lib.hid hJ
  have HY := Lib.hid hY
  clear hcon hb1 h0 hJ hY
  gi_loopw [4] (fun s4 wr => ∃ i : Nat, i0 ≤ i ∧ i ≤ ms.length ∧ s4 = .int .i64 i ∧ Aside (∀ k x, i0 ≤ k → k < i → ms[k]? = some x → x.sc = scanner) ∧ Aside (J ((ms.drop i0).take (i - i0)) wr) ∧ Aside (KeepsOn P W wr)) (fun s4 _ => ms.length - (intOf s4).toNat)
  case atStart => exact ⟨i0, Nat.le_refl _, hi0, rfl, fun k x h1 h2 => by omega, by rw [Nat.sub_self]; exact hJ1, HK1.out⟩
  case round =>
    obtain ⟨i, hi1, hi2, rfl, HS, JW, KW⟩ := hrel
    have gl := KW.out.cell hPl hcl
    have gs := KW.out.cell hPs hcs
    have el : ∀ p : Ex wr, p.W.cell? ⟨Bl, 0, none⟩ = some (.slice A ms.length c) := fun p => p.cell (World.block_lt_of_cell? wr _ gl) gl
    have es : ∀ p : Ex wr, p.W.cell? ⟨Bs, 0, none⟩ = some (.int .i64 scanner) := fun p => p.cell (World.block_lt_of_cell? wr _ gs) gs
    by_cases hlt : i < ms.length
    · obtain ⟨b, o, rfl, hb, hl⟩ := (KW.out.rd hPA HR.out).at (List.getElem?_eq_getElem hlt)
      have HX : Aside (ms[i]? = some ms[i]) := List.getElem?_eq_getElem hlt
      generalize ms[i] = x at hl HX
      have hl0 := hl 0 _ rfl; have hl1 := hl 1 _ rfl; have hl2 := hl 2 _ rfl; rw [Nat.add_zero] at hl0; clear hl
      replace hl0 := fun p : Ex wr => p.cell hb hl0; replace hl1 := fun p : Ex wr => p.cell hb hl1; replace hl2 := fun p : Ex wr => p.cell hb hl2
      have s1 : ((i : Int)).toNat = i := by omega
      have hin' : (i : Int) < ms.length := by omega
      gi_wp2
      refine wpIn_wide.2 ?_
      (refine wp_region_quiet_ex (by kernel_rfl) (by kernel_rfl) ?_; (repeat (go_big_quiet_step ((fail)))); refine wpQuiet_nil ?_; intro wq hw'; obtain ⟨⟨_, hq⟩, hw''⟩ := hw'; subst hw'')
      have JQ := HJ.out _ wr wq none JW.out (grownBy_of_below hq none) (fun r e => by cases e)
      have KQ := Lib.hid (KW.out.trans (KeepsOn.of_below hq))
      by_cases hsc : x.sc = scanner
      · have hb1 : (x.sc == scanner) = true := by simpa using hsc
        have hpre : Aside ((ms.drop i0).take (i - i0) ++ [x] = (ms.drop i0).take (i + 1 - i0)) := by
          rw [Aside, show i + 1 - i0 = (i - i0) + 1 by omega, List.take_add_one, List.getElem?_drop, show i0 + (i - i0) = i by omega, HX.out]; rfl
        have HS2 : Aside (∀ k y, i0 ≤ k → k < i + 1 → ms[k]? = some y → y.sc = scanner) := fun k y h1 h2 h3 => by
          by_cases e : k = i
          · subst e; rw [HX.out] at h3; cases h3; exact hsc
          · exact HS.out k y h1 (by omega) h3
        have gl' := el ⟨wq, hq⟩
        have gs' := es ⟨wq, hq⟩
        have m0 := hl0 ⟨wq, hq⟩
        have m1 := hl1 ⟨wq, hq⟩
        have m2 := hl2 ⟨wq, hq⟩
        dsimp only at gl' gs' m0 m1 m2
        obtain ⟨fn, tmps, assign, body, hy, hR⟩ := HY.out _ x wq JQ (by simp; omega) (List.mem_of_getElem? HX.out)
        have HPX : Aside ((ms.drop i0).take (i + 1 - i0) <+: ofL ms scanner) := by
          rw [Aside, HO.out]
          refine take_prefix _ _ _ (fun j y hj hy => ?_)
          rw [List.getElem?_drop] at hy
          simpa using HS2.out _ y (by omega) (by omega) hy
        clear el es hl0 hl1 hl2 gl gs hsc JQ HS JW KW HX
        gi_wp2
        clear gl' gs' m0 m1 m2 hb1 s1
        refine hR.mono ?_
        rintro e W3 (⟨rfl, hJ3, hk3⟩ | ⟨rfl, hJx3⟩)
        · gi_wp2
          go_roundw
          case rel => exact ⟨i + 1, by omega, by omega, by go_num, HS2, by rw [Aside, ← hpre.out]; exact hJ3, KQ.out.trans hk3⟩
          case measure => simp [intOf]; omega
        · gi_wp2
          refine bodyPost_ret (results_none rfl _ _ _) rfl ?_
          exact ⟨⟨_, rfl⟩, .inr ⟨_, by rw [hpre.out]; exact HPX.out, hJx3⟩⟩
      · have hb1 : (x.sc == scanner) = false := by simpa using hsc
        have hof : Aside (ofL ms scanner = (ms.drop i0).take (i - i0)) := by
          rw [Aside, HO.out]
          refine takeWhile_at _ _ _ (fun j y hj hy => ?_) (fun y hy => ?_)
          · rw [List.getElem?_drop] at hy
            simpa using HS.out _ y (by omega) (by omega) hy
          · rw [List.getElem?_drop, show i0 + (i - i0) = i by omega, HX.out] at hy
            cases hy; simpa using hsc
        have JQ2 := Lib.hid JQ
        clear el es hl0 hl1 hl2 gl gs hsc JQ HS JW KW HX
        gi_wp2
        go_end0
        exact ⟨⟨_, rfl⟩, .inl ⟨_, hof.out.symm, JQ2.out⟩⟩
    · have hil : i = ms.length := by omega
      have hof : Aside (ofL ms scanner = (ms.drop i0).take (i - i0)) := by
        rw [Aside, HO.out]
        refine takeWhile_at _ _ _ (fun j y hj hy => ?_) (fun y hy => ?_)
        · rw [List.getElem?_drop] at hy
          simpa using HS.out _ y (by omega) (by omega) hy
        · rw [List.getElem?_drop, List.getElem?_eq_none (by omega)] at hy; cases hy
      have hin' : ¬ (i : Int) < ms.length := by omega
      have JW2 := Lib.hid JW.out
      clear HS JW
      gi_wp2
      refine wpIn_wide.2 ?_
      (refine wp_region_quiet_ex (by kernel_rfl) (by kernel_rfl) ?_; (repeat (go_big_quiet_step ((fail)))); refine wpQuiet_nil ?_; intro wq hw'; obtain ⟨⟨_, hq⟩, hw''⟩ := hw'; subst hw'')
      have JQ := Lib.hid (HJ.out _ wr wq none JW2.out (grownBy_of_below hq none) (fun r e => by cases e))
      clear el es gl gs hil
      gi_wp2
      go_end0
      exact ⟨⟨_, rfl⟩, .inl ⟨_, hof.out.symm, JQ.out⟩⟩

/-- A mark within its bounds. -/
abbrev OkM := { m : Mrk // okM m = true }
theorem attach_list {zs : List Mrk} (h : ∀ m ∈ zs, okM m = true) : ∃ ys : List OkM, ys.map (·.1) = zs := by
  induction zs with
  | nil => exact ⟨[], rfl⟩
  | cons x r ih =>
    obtain ⟨ys, hy⟩ := ih (fun m hm => h m (by simp [hm]))
    exact ⟨⟨x, h x (by simp)⟩ :: ys, by simp [hy]⟩
theorem map_val_inj : ∀ {a b : List OkM}, a.map (·.1) = b.map (·.1) → a = b
  | [], [], _ => rfl
  | [], _ :: _, h => by simp at h
  | _ :: _, [], h => by simp at h
  | x :: r, y :: s, h => by
    simp only [List.map_cons, List.cons.injEq] at h
    rw [Subtype.ext h.1, map_val_inj h.2]

theorem of_stops (n : Nat) (hn : 1 ≤ n) (Bl Bs : Nat) (A : Option Addr) (c : Nat) (ms : List Mrk) (scanner : Int) (hlen : ms.length ≤ 1000000) (hmono : Mono ms ⟨scanner, 0, 0⟩) (hok : ∀ m ∈ ms, okM m = true) (P : Nat → Prop) (hPl : P Bl) (hPs : P Bs) (hPA : ms ≠ [] → ∀ b o, A = some ⟨b, o, none⟩ → P b)
    (w : World) (hcl : w.cell? ⟨Bl, 0, none⟩ = some (.slice A ms.length c)) (hcs : w.cell? ⟨Bs, 0, none⟩ = some (.int .i64 scanner)) (hr : Rd encMrk 3 w A ms) :
    SeqStopsK Fence.wide n Try.prog 71 #[.pointer (some ⟨Bl, 0, none⟩), .pointer (some ⟨Bs, 0, none⟩)] (fun x : OkM => #[.agg #[.int .i64 x.1.sc, .int .i64 x.1.at_, .int .i64 x.1.off]]) (KeepsOn P) (fun ys => ys.map (·.1) = ofL ms scanner) (fun pre => pre.map (·.1) <+: ofL ms scanner) ms.length w := fun l J Jx W hW hJ hJx hY h0 => by
  have hbl := World.block_lt_of_cell? w _ hcl
  have hbs := World.block_lt_of_cell? w _ hcs
  refine (of1_in n hn l Bl Bs A c ms scanner hlen hmono P hPl hPs hPA (fun pre W => ∃ p : List OkM, p.map (·.1) = pre ∧ J p W) (fun pre W => ∃ p : List OkM, p.map (·.1) = pre ∧ Jx p W) ?_ W ?_ ((hW.cell (p := ⟨Bl, 0, none⟩) hbl).trans hcl) ((hW.cell (p := ⟨Bs, 0, none⟩) hbs).trans hcs) (hr.below (Nat.le_refl _) hW) ⟨[], rfl, h0⟩).mono ?_
  · rintro pre x W1 ⟨p, rfl, hj⟩ hl hx
    obtain ⟨fn, tmps, assign, body, hy, hR⟩ := hY p ⟨x, hok x hx⟩ W1 hj (by simpa using hl)
    refine ⟨fn, tmps, assign, body, hy, hR.mono ?_⟩
    rintro e W' (⟨he, hj, hk⟩ | ⟨he, hj⟩)
    · exact .inl ⟨he, ⟨p ++ [⟨x, hok x hx⟩], by simp, hj⟩, hk⟩
    · exact .inr ⟨he, ⟨p ++ [⟨x, hok x hx⟩], by simp, hj⟩⟩
  · rintro s W1 W2 row ⟨p, hp, hj⟩ hg hrow
    exact ⟨p, hp, hJ p W1 W2 row hj hg hrow⟩
  · rintro e W' ⟨he, ⟨ys, hy, p, hp, hj⟩ | ⟨pre, hy, p, hp, hj⟩⟩
    · exact ⟨he, .inl ⟨p, hp.trans hy, hj⟩⟩
    · exact ⟨he, .inr ⟨p, by show p.map (·.1) <+: _; rw [hp]; exact hy, hj⟩⟩

set_option maxHeartbeats 1000000 in
theorem of_any (A : Option Addr) (len c : Nat) (scanner : Int) (w : World) : Calls Try.prog 62 #[.slice A len c, .int .i64 scanner] w fun e w' => e = .returned (.func (.func 71) #[] #[.pointer (some ⟨w.heap.size, 0, none⟩), .pointer (some ⟨w.heap.size + 1, 0, none⟩)]) ∧ w' = (w.alloc (.cells #[.slice A len c] 22)).alloc (.cells #[.int .i64 scanner] 3) := by
  go_enter Try.func62, Try.ntmps62
  go_wp2
  go_ret
  exact ⟨by simp, rfl⟩
end Go.Proofs.Ytcjhkjplpbhjiaa
