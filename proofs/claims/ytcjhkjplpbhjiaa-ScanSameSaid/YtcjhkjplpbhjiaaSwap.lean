/- A row of scans that is written to; sameEvents; append of a whole slice at one operation. -/
import Derived.Test.YtcjhkjplpbhjiaaFrm
import Derived.Test.YtcjhkjplpbhjiaaSpread
import Derived.RegionTactic
namespace Go.Proofs.Ytcjhkjplpbhjiaa
open Go.RowKit Go.Proofs
set_option maxRecDepth 100000

theorem Blk.setAt {W : World} {n : Nat} {arr : Array Value} {T : TypeId} (h : Blk W n arr T) (i : Nat) (v : Value) : Blk (W.setCell ⟨n, i, none⟩ v) n (arr.setIfInBounds i v) T := by
  obtain ⟨hlt, hk⟩ := Array.getElem?_eq_some_iff.1 h
  show (W.heap.modify n _)[n]? = _
  rw [Array.getElem?_eq_getElem (by rw [Array.size_modify]; exact hlt), Array.getElem_modify_self, hk]
  simp
/-- One cell of a row is written. -/
theorem Rd.setCell {α : Type} {enc : α → List Value} {k : Nat} (hk : ∀ x, (enc x).length = k) {w : World} {b o : Nat} {xs : List α} (h : Rd enc k w (some ⟨b, o, none⟩) xs) {j i : Nat} {x x' : α} {v : Value} (hj : xs[j]? = some x) (hi : i < k) (he : enc x' = (enc x).set i v) :
    Rd enc k (w.setCell ⟨b, o + j * k + i, none⟩ v) (some ⟨b, o, none⟩) (xs.set j x') := fun _ => by
  have hne : xs ≠ [] := by rintro rfl; simp at hj
  obtain ⟨b', o', hA, hlt, hc⟩ := h hne
  simp at hA
  obtain ⟨rfl, rfl⟩ := hA
  refine ⟨b, o, rfl, Nat.lt_of_lt_of_le hlt (((Below.refl 0 w).setCell (p := ⟨b, o + j * k + i, none⟩) (Nat.zero_le _) v).size), fun m y hm q u hq => ?_⟩
  have hql : q < k := by
    rcases Nat.lt_or_ge q k with h | h
    · exact h
    · rw [List.getElem?_eq_none (by rw [hk]; exact h)] at hq; cases hq
  by_cases e : m = j
  · subst e
    have hml := (List.getElem?_eq_some_iff.1 hj).1
    rw [List.getElem?_set_self hml] at hm
    cases hm
    by_cases e2 : q = i
    · subst e2
      rw [he, List.getElem?_set_self (by rw [hk]; exact hi)] at hq
      cases hq
      have h0 : (enc x)[q]? = some ((enc x)[q]'(by rw [hk]; exact hi)) := List.getElem?_eq_getElem _
      exact World.cell?_setCell_same _ _ _ (hc m x hj q _ h0)
    · rw [he, List.getElem?_set_ne (Ne.symm e2)] at hq
      rw [World.cell?_setCell_other _ _ _ _ (by intro h; injection h; omega)]
      exact hc m x hj q u hq
  · rw [List.getElem?_set_ne (Ne.symm e)] at hm
    rw [World.cell?_setCell_other _ _ _ _ ?_]
    · exact hc m y hm q u hq
    · intro h
      injection h with _ h _
      rcases Nat.lt_or_gt_of_ne e with h1 | h1
      · have := Nat.mul_le_mul_right k (show m + 1 ≤ j from h1); rw [Nat.add_mul, Nat.one_mul] at this; omega
      · have := Nat.mul_le_mul_right k (show j + 1 ≤ m from h1); rw [Nat.add_mul, Nat.one_mul] at this; omega

/-- A row of one's own, in its block. -/
def RowS (w : World) (g : Nat) (xs : List Scn) : Prop := (∃ cur, Blk w g cur 24) ∧ Rd encScn 6 w (some ⟨g, 0, none⟩) xs
/-- One scan of it is written. -/
theorem RowS.put {w : World} {g : Nat} {xs : List Scn} (h : RowS w g xs) {j : Nat} (hj : j < xs.length) (y : Scn) :
    RowS ((((((w.setCell ⟨g, j * 6, none⟩ (.int .i64 y.item)).setCell ⟨g, j * 6 + 1, none⟩ (.int .i64 y.place)).setCell ⟨g, j * 6 + 2, none⟩ (.int .i64 y.scanner)).setCell ⟨g, j * 6 + 3, none⟩ (.int .u8 y.kind)).setCell ⟨g, j * 6 + 4, none⟩ (.int .i64 y.at_)).setCell ⟨g, j * 6 + 5, none⟩ (.int .i64 y.seen)) g (xs.set j y) := by
  obtain ⟨⟨cur, hb⟩, hr⟩ := h
  refine ⟨⟨_, (((((hb.setAt _ _).setAt _ _).setAt _ _).setAt _ _).setAt _ _).setAt _ _⟩, ?_⟩
  have hx : xs[j]? = some xs[j] := List.getElem?_eq_getElem hj
  generalize xs[j] = x at hx
  have key : ∀ {W : World} {xs : List Scn} {x x' : Scn} (i : Nat) {v : Value} (_ : Rd encScn 6 W (some ⟨g, 0, none⟩) xs) (_ : xs[j]? = some x) (_ : i < 6) (_ : encScn x' = (encScn x).set i v), Rd encScn 6 (W.setCell ⟨g, j * 6 + i, none⟩ v) (some ⟨g, 0, none⟩) (xs.set j x') ∧ (xs.set j x')[j]? = some x' := by
    intro W xs x x' i v h1 h2 h3 h4
    have := Rd.setCell (enc := encScn) (k := 6) (fun _ => rfl) h1 h2 h3 h4
    rw [Nat.zero_add] at this
    exact ⟨this, List.getElem?_set_self (List.getElem?_eq_some_iff.1 h2).1⟩
  obtain ⟨r1, e1⟩ := key (x' := ⟨y.item, x.place, x.scanner, x.kind, x.at_, x.seen⟩) 0 (v := .int .i64 y.item) hr hx (by omega) rfl
  obtain ⟨r2, e2⟩ := key (x' := ⟨y.item, y.place, x.scanner, x.kind, x.at_, x.seen⟩) 1 (v := .int .i64 y.place) r1 e1 (by omega) rfl
  obtain ⟨r3, e3⟩ := key (x' := ⟨y.item, y.place, y.scanner, x.kind, x.at_, x.seen⟩) 2 (v := .int .i64 y.scanner) r2 e2 (by omega) rfl
  obtain ⟨r4, e4⟩ := key (x' := ⟨y.item, y.place, y.scanner, y.kind, x.at_, x.seen⟩) 3 (v := .int .u8 y.kind) r3 e3 (by omega) rfl
  obtain ⟨r5, e5⟩ := key (x' := ⟨y.item, y.place, y.scanner, y.kind, y.at_, x.seen⟩) 4 (v := .int .i64 y.at_) r4 e4 (by omega) rfl
  obtain ⟨r6, e6⟩ := key (x' := y) 5 (v := .int .i64 y.seen) r5 e5 (by omega) rfl
  simpa [List.set_set] using r6
def put6 (w : World) (g a : Nat) (y : Scn) : World := (((((w.setCell ⟨g, a, none⟩ (.int .i64 y.item)).setCell ⟨g, a + 1, none⟩ (.int .i64 y.place)).setCell ⟨g, a + 2, none⟩ (.int .i64 y.scanner)).setCell ⟨g, a + 3, none⟩ (.int .u8 y.kind)).setCell ⟨g, a + 4, none⟩ (.int .i64 y.at_)).setCell ⟨g, a + 5, none⟩ (.int .i64 y.seen)
theorem RowS.put6 {w : World} {g : Nat} {xs : List Scn} (h : RowS w g xs) {j : Nat} (hj : j < xs.length) (y : Scn) : RowS (put6 w g (j * 6) y) g (xs.set j y) := h.put hj y
theorem below_put6 {B : Nat} {a w : World} (h : Below B a w) {g : Nat} (hg : B ≤ g) (o : Nat) (y : Scn) : Below B a (put6 w g o y) :=
  (((((h.setCell (p := ⟨g, _, none⟩) hg _).setCell (p := ⟨g, _, none⟩) hg _).setCell (p := ⟨g, _, none⟩) hg _).setCell (p := ⟨g, _, none⟩) hg _).setCell (p := ⟨g, _, none⟩) hg _).setCell (p := ⟨g, _, none⟩) hg _
theorem RowS.below {w w' : World} {g B : Nat} {xs : List Scn} (h : RowS w g xs) (hb : Below B w w') (hB : w.heap.size ≤ B) : RowS w' g xs := by
  obtain ⟨⟨cur, h1⟩, h2⟩ := h
  exact ⟨⟨cur, h1.below hb (Nat.lt_of_lt_of_le h1.lt hB)⟩, h2.below hB hb⟩
theorem RowS.drew {w : World} {g : Nat} {xs : List Scn} (h : RowS w g xs) : RowS w.drew g xs := h.below (Below.refl _ _).drew (Nat.le_refl _)
theorem RowS.free {w : World} {g : Nat} {xs : List Scn} (h : RowS w g xs) (i : Nat) : w.frozen? ⟨g, i, none⟩ = false := by
  obtain ⟨⟨cur, h1⟩, _⟩ := h
  exact h1.free i
theorem RowS.cells {w : World} {g : Nat} {xs : List Scn} (h : RowS w g xs) {j : Nat} {x : Scn} (hj : xs[j]? = some x) : ∀ i v, (encScn x)[i]? = some v → w.cell? ⟨g, j * 6 + i, none⟩ = some v := by
  obtain ⟨b, o, e, _, hc⟩ := h.2.at hj
  simp at e; obtain ⟨rfl, rfl⟩ := e
  intro i v hv
  have := hc i v hv
  rwa [Nat.zero_add] at this

set_option maxHeartbeats 1000000 in
theorem sameEv_any (A B : Option Addr) (c d : Nat) (es : List Evt) (w : World) (ha : Rd encEvt 7 w A es) (hb : Rd encEvt 7 w B es) (hlen : es.length ≤ 1000000) :
    Calls Try.prog 21 #[.slice A es.length c, .slice B es.length d] w fun e w' => e = .returned (.bool true) ∧ Below w.heap.size w w' := by
  have HA := Lib.hid ha
  have HB := Lib.hid hb
  clear ha hb
  go_enter Try.func21, Try.ntmps21
  go_wp2_with fail
  go_loopg [13] es.length (fun gg s13 wr => ∃ j : Nat, j ≤ es.length ∧ es.length - j ≤ gg ∧ s13 = .int .i64 j ∧ Aside (Below w.heap.size w wr))
  case atStart => exact ⟨0, Nat.zero_le _, by omega, rfl, Below.refl _ _⟩
  case round =>
    obtain ⟨j, hj, hg, rfl, BW⟩ := hrel
    by_cases hlt : j < es.length
    · have hx : es[j]? = some es[j] := List.getElem?_eq_getElem hlt
      obtain ⟨b, o, rfl, hb, hl⟩ := (HA.out.below (Nat.le_refl _) BW.out).at hx
      obtain ⟨b', o', rfl, hb', hm⟩ := (HB.out.below (Nat.le_refl _) BW.out).at hx
      generalize es[j] = x at hl hm hx
      have hl0 := hl 0 _ rfl; have hl1 := hl 1 _ rfl; have hl2 := hl 2 _ rfl; have hl3 := hl 3 _ rfl; have hl4 := hl 4 _ rfl; have hl5 := hl 5 _ rfl; have hl6 := hl 6 _ rfl; rw [Nat.add_zero] at hl0; clear hl
      have hm0 := hm 0 _ rfl; have hm1 := hm 1 _ rfl; have hm2 := hm 2 _ rfl; have hm3 := hm 3 _ rfl; have hm4 := hm 4 _ rfl; have hm5 := hm 5 _ rfl; have hm6 := hm 6 _ rfl; rw [Nat.add_zero] at hm0; clear hm
      clear hx
      replace hl0 := fun p : Ex wr => p.cell hb hl0; replace hl1 := fun p : Ex wr => p.cell hb hl1; replace hl2 := fun p : Ex wr => p.cell hb hl2; replace hl3 := fun p : Ex wr => p.cell hb hl3; replace hl4 := fun p : Ex wr => p.cell hb hl4; replace hl5 := fun p : Ex wr => p.cell hb hl5; replace hl6 := fun p : Ex wr => p.cell hb hl6
      replace hm0 := fun p : Ex wr => p.cell hb' hm0; replace hm1 := fun p : Ex wr => p.cell hb' hm1; replace hm2 := fun p : Ex wr => p.cell hb' hm2; replace hm3 := fun p : Ex wr => p.cell hb' hm3; replace hm4 := fun p : Ex wr => p.cell hb' hm4; replace hm5 := fun p : Ex wr => p.cell hb' hm5; replace hm6 := fun p : Ex wr => p.cell hb' hm6
      go_wp2_with fail
      (refine wp_region_quiet_ex (by kernel_rfl) (by kernel_rfl) ?_; (repeat (go_big_quiet_step ((fail)))); refine wpQuiet_nil ?_; intro wq hw'; obtain ⟨⟨_, hq⟩, hw''⟩ := hw'; subst hw'')
      have BQ := Lib.hid (BW.out.trans (hq.mono BW.out.size))
      clear hl0 hl1 hl2 hl3 hl4 hl5 hl6 hm0 hm1 hm2 hm3 hm4 hm5 hm6
      go_wp2_with fail
      go_roundg (es.length - (j + 1))
      case measure => omega
      case rel => exact ⟨j + 1, by omega, by omega, by go_num, BQ.out⟩
    · have hjl : j = es.length := by omega
      subst hjl
      have BQ := Lib.hid BW.out
      clear BW
      go_wp2_with fail
      go_ret
      exact ⟨rfl, BQ.out⟩

theorem wp_append_spread {P : Program} (w : World) {o : Oper} {a : Act} {K : Act → World → Prop} {Q : Exit → Act → World → Prop} (s x : Operand) (t : TypeId)
    (ho : o.op = .call { callee := .builtin .append, args := #[s, x], argTypes := #[t, t] })
    (base : Nat) (e : TypeId) (i : TypeInfo) (z : Value) (size bytes : Nat) (ht : P.underlying t = some (.slice e)) (hi : P.info? e = some i) (hz : i.zero = some z)
    (hsize : i.size = size) (hby : i.bytes = bytes) (hzs : z.cells.size = size) (hsz : 0 < size)
    (v : Value) (n : Nat) (olds : List Value) (hs : a.eval s = v) (hown : w.ownsRow base e size v n olds)
    {α : Type} (enc : α → List Value) (hk : ∀ x, (enc x).length = size) (h1 : ∀ x, ∀ u ∈ enc x, u.oneCell' = true)
    (A : Option Addr) (c : Nat) (xs : List α) (hx : a.eval x = .slice A xs.length c) (hr : Rd enc size w A xs)
    (h63 : n + xs.length ≤ maxLen) (hbytes : (n + xs.length) * bytes ≤ 140737488355328) (hbase : base ≤ w.heap.size)
    (h : ∀ v' w', w'.ownsRow base e size v' (n + xs.length) (olds ++ xs.flatMap enc) → w.grownBy w' v.ownBlock → K (a.put o.dst v') w') : o.wp P a w K Q := by
  have hnews : ∀ a, A = some a → ∀ j u, (xs.flatMap enc)[j]? = some u → w.cell? (a.add j) = some u := by
    intro a ha
    subst ha
    by_cases hne : xs = []
    · subst hne; intro j u hj; simp at hj
    · obtain ⟨b, o, hA, _⟩ := hr hne
      simp at hA; subst hA
      exact Rd.news (enc := enc) hk hr
  cases A with
  | some ad =>
    refine wp_append_own w s x t ho base e i z size bytes ht hi hz hsize hby hzs hsz v n olds hs hown ad xs.length c (xs.flatMap enc) hx (flat_length hk xs) (hnews ad rfl) ?_ h63 hbytes hbase ?_
    · intro u hu
      obtain ⟨x, _, hx⟩ := List.mem_flatMap.1 hu
      exact h1 x u hx
    · intro v' w' h2 h3 _
      exact h v' w' h2 h3
  | none =>
    have : xs = [] := by
      by_cases hne : xs = []
      · exact hne
      · obtain ⟨b, o, hA, _⟩ := hr hne; cases hA
    subst this
    have hv : ∃ b cap, v = .slice b n cap ∧ n ≤ cap := by
      rcases hown.2 with ⟨hv, hn⟩ | ⟨g, cap, cur, hv, _, _, hn, _⟩
      · exact ⟨none, 0, by rw [hv, hn], by omega⟩
      · exact ⟨_, cap, hv, hn⟩
    obtain ⟨b, cap, hvv, hle⟩ := hv
    have hrun := run_append_nothing (P := P) w t o.type e i ht hi b n cap c hle
    unfold Oper.wp execOp
    simp only [ho, resolve, invoke, builtin, Sem.run_bind, Sem.run_pure, Result.andThen_ok, List.map_toArray, List.map_cons, List.map_nil, hs, hx, hvv, List.length_nil, hrun]
    rw [← hvv]
    exact h v w (by simpa using hown) ⟨rfl, rfl, rfl, Nat.le_refl _, fun _ _ _ => rfl⟩

section
variable {P : Program} {ops : Array Oper} {md : Region.Mode} {Q : Exit → Act → World → Prop}
theorem wpAny_one {f : Nat} {listed : Array Bool} {a : Act} {w : World} (k : Nat) {o : Oper} (hr : Region.ready md ops listed = [k]) (ho : ops[k]? = some o) (hg : o.guard = none)
    (h : ∀ K : Act → World → Prop, (∀ a' w', wpAny P md ops Q f (listed.setIfInBounds k true) a' w' → K a' w') → Oper.wp P o a w K Q) : wpAny P md ops Q (f + 1) listed a w := by
  refine wpAny_all hr (by simp) fun i hi => ?_
  have : i = k := by simpa using hi
  subst this
  refine wpOp_step ho fun K hK => ?_
  rw [if_pos (by simp [Region.wanted, hg])]
  exact h K hK
/-- Two that may come up, and read. -/
theorem wpAny_two {f : Nat} {listed : Array Bool} {a : Act} {w : World} (i j : Nat) {oi oj : Oper} (vi vj : Value) (hr : Region.ready md ops listed = [i, j]) (hi : ops[i]? = some oi) (hj : ops[j]? = some oj) (hgi : oi.guard = none) (hgj : oj.guard = none)
    (hri : Region.ready md ops (listed.setIfInBounds i true) = [j]) (hrj : Region.ready md ops (listed.setIfInBounds j true) = [i]) (hne : i ≠ j) (hd : ∀ d, oi.dst = some d → oj.dst ≠ some d)
    (h1 : ∀ a' : Act, a' = a ∨ a' = a.put oj.dst vj → (execOp a'.eval oi).run P w = .ok (.value vi) w) (h2 : ∀ a' : Act, a' = a ∨ a' = a.put oi.dst vi → (execOp a'.eval oj).run P w = .ok (.value vj) w)
    (h : wpAny P md ops Q f ((listed.setIfInBounds i true).setIfInBounds j true) ((a.put oi.dst vi).put oj.dst vj) w) : wpAny P md ops Q (f + 1 + 1) listed a w := by
  have wpv : ∀ (o : Oper) (v : Value) (a : Act) (K : Act → World → Prop), (execOp a.eval o).run P w = .ok (.value v) w → K (a.put o.dst v) w → Oper.wp P o a w K Q := by
    intro o v a K hv hk
    unfold Oper.wp
    rw [hv]
    exact hk
  refine wpAny_all hr (by simp) fun k hk => ?_
  rcases (by simpa using hk : k = i ∨ k = j) with rfl | rfl
  · refine wpOp_step hi fun K hK => ?_
    rw [if_pos (by simp [Region.wanted, hgi])]
    refine wpv _ vi _ _ (h1 _ (.inl rfl)) (hK _ _ ?_)
    refine wpAny_one j hri hj hgj fun K hK => ?_
    exact wpv _ vj _ _ (h2 _ (.inr rfl)) (hK _ _ h)
  · refine wpOp_step hj fun K hK => ?_
    rw [if_pos (by simp [Region.wanted, hgj])]
    refine wpv _ vj _ _ (h2 _ (.inl rfl)) (hK _ _ ?_)
    refine wpAny_one i hrj hi hgi fun K hK => ?_
    refine wpv _ vi _ _ (h1 _ (.inr rfl)) (hK _ _ ?_)
    rw [Act.put_comm a vj vi (fun d h1 h2 => hd d h2 h1), Array.setIfInBounds_comm _ _ hne.symm]
    exact h
end
end Go.Proofs.Ytcjhkjplpbhjiaa
