/- Contract of claim.decide. -/
import Derived.Test.YtnnppnlekpadnaaGreatRows6
import Derived.Laws.EntriesVeiled
namespace Go.Proofs.YtnnppnlekpadnaaGreat
open Go.RowKit Go.Proofs
set_option maxRecDepth 100000

theorem idxIf_spec {α : Type} (p : α → Bool) : ∀ (xs : List α) (j : Nat), (idxIf p xs j = -1 ∧ xs.find? p = none) ∨ ∃ i x, idxIf p xs j = ((j + i : Nat) : Int) ∧ xs[i]? = some x ∧ xs.find? p = some x
  | [], j => Or.inl ⟨rfl, rfl⟩
  | x :: r, j => by
    unfold idxIf
    by_cases h : p x = true
    · refine Or.inr ⟨0, x, ?_, rfl, ?_⟩
      · rw [if_pos h]; rfl
      · simp [h]
    · rw [if_neg h]
      rcases idxIf_spec p r (j + 1) with ⟨h1, h2⟩ | ⟨i, y, h1, h2, h3⟩
      · exact Or.inl ⟨h1, by simp [h, h2]⟩
      · exact Or.inr ⟨i + 1, y, by rw [h1]; congr 1; omega, by simpa using h2, by simp [h, h3]⟩

/-- The verdict by the table's rows. -/
def tableP (x : Sent) (y : Terms) (c : Clm) (p : Int) : Outc :=
  let there := decide (0 ≤ x.del) && decide (x.del ≤ c.at_)
  let late := c.kind == 1
  if y.wi * 1440 < c.at_ - p then ⟨c.id, 0, 3⟩
  else if (late && !there) = true then ⟨c.id, 0, 4⟩
  else if (late && decide (x.del - p ≤ y.free)) = true then ⟨c.id, 0, 5⟩
  else if (!late && there) = true then ⟨c.id, 0, 5⟩
  else if (!late && decide (c.at_ - p ≤ y.after)) = true then ⟨c.id, 0, 4⟩
  else if late = true then ⟨c.id, lateP y.share y.most c.post (x.del - p - y.free), 6⟩
  else ⟨c.id, min c.val y.limit + c.post, 6⟩

def tableQ (x : Sent) (y : Terms) (c : Clm) (p : Int) (there late : Bool) : Outc :=
  if y.wi * 1440 < c.at_ - p then ⟨c.id, 0, 3⟩
  else if (late && !there) = true then ⟨c.id, 0, 4⟩
  else if (late && decide (x.del - p ≤ y.free)) = true then ⟨c.id, 0, 5⟩
  else if (!late && there) = true then ⟨c.id, 0, 5⟩
  else if (!late && decide (c.at_ - p ≤ y.after)) = true then ⟨c.id, 0, 4⟩
  else if late = true then ⟨c.id, lateP y.share y.most c.post (x.del - p - y.free), 6⟩
  else ⟨c.id, min c.val y.limit + c.post, 6⟩
theorem tableP_eq (x : Sent) (y : Terms) (c : Clm) (p : Int) {th lt : Bool} (h1 : (decide (0 ≤ x.del) && decide (x.del ≤ c.at_)) = th) (h2 : (c.kind == 1) = lt) : tableP x y c p = tableQ x y c p th lt := by
  subst h1; subst h2; rfl

/-- What claim.decide returns. -/
def decP (l : List Std) (t : List Terms) (s : List Sent) (c : Clm) : Outc :=
  match s.find? (fun x => x.item == c.item) with
  | none => ⟨c.id, 0, 1⟩
  | some x =>
    match t.find? (fun y => y.cl == x.cl) with
    | none => ⟨c.id, 0, 2⟩
    | some y => if (promP l x.cl x.fr x.to x.acc).2 = 0 then tableP x y c (promP l x.cl x.fr x.to x.acc).1 else ⟨c.id, 0, 2⟩

def okC (c : Clm) : Prop := 0 ≤ c.at_ ∧ c.at_ ≤ 1051898399 ∧ 0 ≤ c.post ∧ c.post ≤ 250000000000000 ∧ 0 ≤ c.val ∧ c.val ≤ 250000000000000
def okX (x : Sent) : Prop := 0 ≤ x.acc ∧ x.acc ≤ 1051898399 ∧ -1 ≤ x.del ∧ x.del ≤ 1051898399
def okY (y : Terms) : Prop := 0 ≤ y.free ∧ y.free ≤ 100000 ∧ 0 ≤ y.share ∧ y.share ≤ 10000 ∧ 0 ≤ y.most ∧ y.most ≤ 10000 ∧ 0 ≤ y.after ∧ y.after ≤ 1000000 ∧ 0 ≤ y.limit ∧ y.limit ≤ 250000000000000 ∧ 0 ≤ y.wi ∧ y.wi ≤ 3650

theorem promP_bd (l : List Std) (cl fr tw acc : Int) (h : (promP l cl fr tw acc).2 = 0) : 0 ≤ (promP l cl fr tw acc).1 ∧ (promP l cl fr tw acc).1 ≤ 1051900000 := by
  unfold promP at *
  split at h
  · rename_i h1
    split at h
    · rename_i h2
      rw [if_pos h1, if_pos h2]
      split at h
      · rename_i x hx
        split at h
        · simp at h
        · rename_i h3
          have hm := ok_mi ((allB_ok h1.1).2.1 x (List.mem_of_getElem? hx))
          rw [if_neg h3]
          simp only
          omega
      · simp at h
    · simp at h
  · simp at h

theorem ix0 (v0 v1 v2 v3 v4 v5 v6 v7 v8 v9 v10 v11 v12 v13 v14 v15 v16 v17 : Value) (w : World) : Sem.run Tryz.prog (Instr.index 116 (.agg #[v0, v1, v2, v3, v4, v5, v6, v7, v8, v9, v10, v11, v12, v13, v14, v15, v16, v17]) (.int .i64 0)) w = .ok (.agg #[v0, v1, v2]) w := by kernel_rfl
theorem ix1 (v0 v1 v2 v3 v4 v5 v6 v7 v8 v9 v10 v11 v12 v13 v14 v15 v16 v17 : Value) (w : World) : Sem.run Tryz.prog (Instr.index 116 (.agg #[v0, v1, v2, v3, v4, v5, v6, v7, v8, v9, v10, v11, v12, v13, v14, v15, v16, v17]) (.int .i64 1)) w = .ok (.agg #[v3, v4, v5]) w := by kernel_rfl
theorem ix2 (v0 v1 v2 v3 v4 v5 v6 v7 v8 v9 v10 v11 v12 v13 v14 v15 v16 v17 : Value) (w : World) : Sem.run Tryz.prog (Instr.index 116 (.agg #[v0, v1, v2, v3, v4, v5, v6, v7, v8, v9, v10, v11, v12, v13, v14, v15, v16, v17]) (.int .i64 2)) w = .ok (.agg #[v6, v7, v8]) w := by kernel_rfl
theorem ix3 (v0 v1 v2 v3 v4 v5 v6 v7 v8 v9 v10 v11 v12 v13 v14 v15 v16 v17 : Value) (w : World) : Sem.run Tryz.prog (Instr.index 116 (.agg #[v0, v1, v2, v3, v4, v5, v6, v7, v8, v9, v10, v11, v12, v13, v14, v15, v16, v17]) (.int .i64 3)) w = .ok (.agg #[v9, v10, v11]) w := by kernel_rfl
theorem ix4 (v0 v1 v2 v3 v4 v5 v6 v7 v8 v9 v10 v11 v12 v13 v14 v15 v16 v17 : Value) (w : World) : Sem.run Tryz.prog (Instr.index 116 (.agg #[v0, v1, v2, v3, v4, v5, v6, v7, v8, v9, v10, v11, v12, v13, v14, v15, v16, v17]) (.int .i64 4)) w = .ok (.agg #[v12, v13, v14]) w := by kernel_rfl
theorem ix5 (v0 v1 v2 v3 v4 v5 v6 v7 v8 v9 v10 v11 v12 v13 v14 v15 v16 v17 : Value) (w : World) : Sem.run Tryz.prog (Instr.index 116 (.agg #[v0, v1, v2, v3, v4, v5, v6, v7, v8, v9, v10, v11, v12, v13, v14, v15, v16, v17]) (.int .i64 5)) w = .ok (.agg #[v15, v16, v17]) w := by kernel_rfl

section
variable (Al At As : Option Addr) (ca cb cc : Nat) (l : List Std) (t : List Terms) (s : List Sent) (c : Clm) (w : World)
variable (hl : Rd encStd 4 w Al l) (ht : Rd encTerms 7 w At t) (hs : Rd encSent 6 w As s) (nl : l.length ≤ 1000000) (nt : t.length ≤ 1000000) (ns : s.length ≤ 1000000)
include hs ns in
set_option maxHeartbeats 1000000 in
theorem decide_unknown (hx : s.find? (fun x => x.item == c.item) = none) :
    Calls Tryz.prog 39 #[.slice Al l.length ca, .slice At t.length cb, .slice As s.length cc, .agg #[.int .i64 c.id, .int .i64 c.item, .int .i64 c.at_, .int .u8 c.kind, .int .i64 c.post, .int .i64 c.val]] w fun e w' => e = .returned (.agg #[.int .i64 c.id, .int .i64 0, .int .u8 1]) ∧ Below w.heap.size w w' := by
  have hi : idxIf (fun x : Sent => x.item == c.item) s 0 = -1 := by
    rcases idxIf_spec (fun x : Sent => x.item == c.item) s 0 with ⟨h1, _⟩ | ⟨i, x, _, _, h3⟩
    · exact h1
    · rw [hx] at h3; cases h3
  obtain ⟨W, hW⟩ : ∃ W : World, W = (w.alloc (.cells #[.int .i64 c.id, .int .i64 c.item, .int .i64 c.at_, .int .u8 c.kind, .int .i64 c.post, .int .i64 c.val] 31)).alloc (.cells #[.int .i64 0, .int .i64 0, .int .u8 0] 36) := ⟨_, rfl⟩
  have hb : Below w.heap.size w W := by rw [hW]; exact ((Below.refl _ _).alloc (Nat.le_refl _) _).alloc (by first | (simp; done) | (simp; omega) | omega) _
  have k7 : Blk W w.heap.size #[.int .i64 c.id, .int .i64 c.item, .int .i64 c.at_, .int .u8 c.kind, .int .i64 c.post, .int .i64 c.val] 31 := by rw [hW]; exact (Blk.new rfl).alloc _
  have k8 : Blk W (w.heap.size + 1) #[.int .i64 0, .int .i64 0, .int .u8 0] 36 := by rw [hW]; exact Blk.new (by first | (simp; done) | (simp; omega) | omega)
  have hf := findSent As cc s w.heap.size c.item W (hs.below (Nat.le_refl _) hb) ns k7.lt ((k7.cells 1).trans rfl)
  rw [hi] at hf
  have K7 := Lib.hid k7
  have K8 := Lib.hid k8
  have HS := Lib.hid hs
  clear hi hx k7 k8 hs
  generalize s.length = n at hf ⊢
  go_enter Tryz.func39, Tryz.ntmps39
  go_wp2_with fail
  rw [← hW]
  have HW := Lib.hid hW
  clear hW
  refine hf.mono ?_
  rintro e w1 ⟨rfl, hb1⟩
  have e7 := (K7.out.below hb1 K7.out.lt).cells
  have e8 := (K8.out.below hb1 K8.out.lt).cells
  have f8 := (K8.out.below hb1 K8.out.lt).free
  clear hf
  go_wp2_with fail
  refine bodyPost_ret (v := .agg #[.int .i64 c.id, .int .i64 0, .int .u8 1]) (by simp [results, Tryz.results39, go_sem, e8]) rfl ⟨rfl, ?_⟩
  exact (((hb.trans (hb1.mono hb.size)).setCell (p := ⟨w.heap.size + 1, _, none⟩) (by first | (simp; done) | (simp; omega) | omega) _).setCell (p := ⟨w.heap.size + 1, _, none⟩) (by first | (simp; done) | (simp; omega) | omega) _).setCell (p := ⟨w.heap.size + 1, _, none⟩) (by first | (simp; done) | (simp; omega) | omega) _

include hl hs ht nl nt ns in
set_option maxHeartbeats 2000000 in
theorem decide_terms {x : Sent} (hx : s.find? (fun x => x.item == c.item) = some x) (hy : (promP l x.cl x.fr x.to x.acc).2 ≠ 0 ∨ t.find? (fun y => y.cl == x.cl) = none) :
    Calls Tryz.prog 39 #[.slice Al l.length ca, .slice At t.length cb, .slice As s.length cc, .agg #[.int .i64 c.id, .int .i64 c.item, .int .i64 c.at_, .int .u8 c.kind, .int .i64 c.post, .int .i64 c.val]] w fun e w' => e = .returned (.agg #[.int .i64 c.id, .int .i64 0, .int .u8 2]) ∧ Below w.heap.size w w' := by
  obtain ⟨i, hi, hsx⟩ : ∃ i : Nat, idxIf (fun x : Sent => x.item == c.item) s 0 = (i : Int) ∧ s[i]? = some x := by
    rcases idxIf_spec (fun x : Sent => x.item == c.item) s 0 with ⟨_, h2⟩ | ⟨i, y, h1, h2, h3⟩
    · rw [hx] at h2; cases h2
    · rw [hx] at h3; cases h3; exact ⟨i, by simpa using h1, h2⟩
  have hil : i < s.length := by
    rcases Nat.lt_or_ge i s.length with h | h
    · exact h
    · rw [List.getElem?_eq_none h] at hsx; cases hsx
  obtain ⟨W, hW⟩ : ∃ W : World, W = (w.alloc (.cells #[.int .i64 c.id, .int .i64 c.item, .int .i64 c.at_, .int .u8 c.kind, .int .i64 c.post, .int .i64 c.val] 31)).alloc (.cells #[.int .i64 0, .int .i64 0, .int .u8 0] 36) := ⟨_, rfl⟩
  have hb : Below w.heap.size w W := by rw [hW]; exact ((Below.refl _ _).alloc (Nat.le_refl _) _).alloc (by first | (simp; done) | (simp; omega) | omega) _
  have k7 : Blk W w.heap.size #[.int .i64 c.id, .int .i64 c.item, .int .i64 c.at_, .int .u8 c.kind, .int .i64 c.post, .int .i64 c.val] 31 := by rw [hW]; exact (Blk.new rfl).alloc _
  have k8 : Blk W (w.heap.size + 1) #[.int .i64 0, .int .i64 0, .int .u8 0] 36 := by rw [hW]; exact Blk.new (by first | (simp; done) | (simp; omega) | omega)
  have hf := findSent As cc s w.heap.size c.item W (hs.below (Nat.le_refl _) hb) ns k7.lt ((k7.cells 1).trans rfl)
  rw [hi] at hf
  have K7 := Lib.hid k7
  have K8 := Lib.hid k8
  have HS := Lib.hid hs
  have HL := Lib.hid hl
  have HT := Lib.hid ht
  have HX := Lib.hid hsx
  have HY := Lib.hid hy
  clear hi hx k7 k8 hs hl ht hsx hy
  go_enter Tryz.func39, Tryz.ntmps39
  go_wp2_with fail
  rw [← hW]
  have HW := Lib.hid hW
  clear hW
  refine hf.mono ?_
  rintro e w1 ⟨rfl, hb1⟩
  have k7 := K7.out.below hb1 K7.out.lt
  have k8 := K8.out.below hb1 K8.out.lt
  replace hb1 := hb.trans (hb1.mono hb.size)
  obtain ⟨b, o, hA, hb', hq⟩ := (HS.out.below (Nat.le_refl _) hb1).at HX.out
  subst hA
  have hbW : w.heap.size ≤ w1.heap.size := hb1.size
  have hq0 := hq 0 _ rfl; have hq1 := hq 1 _ rfl; have hq2 := hq 2 _ rfl; have hq3 := hq 3 _ rfl; have hq4 := hq 4 _ rfl; have hq5 := hq 5 _ rfl; rw [Nat.add_zero] at hq0; clear hq
  clear hf K7 K8 HW
  replace K7 := Lib.hid k7
  replace K8 := Lib.hid k8
  clear k7 k8 hb
  have hil' : (i : Int) < s.length := by omega
  have hit : ((i : Int)).toNat = i := by omega
  obtain ⟨W2, hW2⟩ : ∃ W2 : World, W2 = w1.alloc (.cells #[.int .i64 x.item, .int .u8 x.cl, .int .i64 x.fr, .int .i64 x.to, .int .i64 x.acc, .int .i64 x.del] 34) := ⟨_, rfl⟩
  have k11 : Blk W2 w1.heap.size #[.int .i64 x.item, .int .u8 x.cl, .int .i64 x.fr, .int .i64 x.to, .int .i64 x.acc, .int .i64 x.del] 34 := by rw [hW2]; exact Blk.new rfl
  go_wp2_with fail
  rw [← hW2]
  have HW2 := Lib.hid hW2
  have b2 : Below w.heap.size w W2 := by rw [hW2]; exact hb1.alloc hb1.size _
  have b12 : Below w1.heap.size w1 W2 := by rw [hW2]; exact (Below.refl _ _).alloc (Nat.le_refl _) _
  clear hW2
  have K11 := Lib.hid k11
  have hz2 : w1.heap.size < W2.heap.size := k11.lt
  clear k11 hq0 hq1 hq2 hq3 hq4 hq5 hb' hil' hit
  replace K7 := Lib.hid (K7.out.below b12 K7.out.lt)
  replace K8 := Lib.hid (K8.out.below b12 K8.out.lt)
  have hpr := promise_any Al ca l x.cl x.fr x.to x.acc W2 (HL.out.below (Nat.le_refl _) b2) nl
  generalize (promP l x.cl x.fr x.to x.acc).1 = p at hpr
  generalize (promP l x.cl x.fr x.to x.acc).2 = er at hpr HY
  refine hpr.mono ?_
  rintro e w3 ⟨rfl, hb3⟩
  clear hpr
  replace K7 := Lib.hid (K7.out.below hb3 K7.out.lt)
  replace K8 := Lib.hid (K8.out.below hb3 K8.out.lt)
  replace K11 := Lib.hid (K11.out.below hb3 K11.out.lt)
  replace b2 := b2.trans (hb3.mono b2.size)
  have hz3 : W2.heap.size ≤ w3.heap.size := hb3.size
  clear hb3
  go_wp2_with fail
  obtain ⟨W4, hW4⟩ : ∃ W4 : World, W4 = w3.alloc (.cells #[.int .i64 p] 3) := ⟨_, rfl⟩
  rw [← hW4]
  have b4 : Below w3.heap.size w3 W4 := by rw [hW4]; exact (Below.refl _ _).alloc (Nat.le_refl _) _
  have hz4 : w3.heap.size < W4.heap.size := by rw [hW4]; exact (by first | (simp; done) | (simp; omega) | omega)
  have HW4 := Lib.hid hW4
  clear hW4
  replace K7 := Lib.hid (K7.out.below b4 K7.out.lt)
  replace K8 := Lib.hid (K8.out.below b4 K8.out.lt)
  replace K11 := Lib.hid (K11.out.below b4 K11.out.lt)
  replace b2 := b2.trans (b4.mono b2.size)
  have hft := findTerms At cb t w1.heap.size x.cl W4 (HT.out.below (Nat.le_refl _) b2) nt K11.out.lt ((K11.out.cells 1).trans rfl)
  rcases HY.out with h | h
  · have he : (er == 0) = false := by simpa using h
    have he' : (er != 0) = true := by simpa using h
    clear h HY
    generalize idxIf (fun y : Terms => y.cl == x.cl) t 0 = q at hft
    refine hft.mono ?_
    rintro e w5 ⟨rfl, hb5⟩
    clear hft
    have e7 := (K7.out.below hb5 K7.out.lt).cells
    have e8 := (K8.out.below hb5 K8.out.lt).cells
    have f8 := (K8.out.below hb5 K8.out.lt).free
    replace b2 := b2.trans (hb5.mono b2.size)
    go_wp2_with fail
    refine bodyPost_ret (v := .agg #[.int .i64 c.id, .int .i64 0, .int .u8 2]) (by simp [results, Tryz.results39, go_sem, e8]) rfl ⟨rfl, ?_⟩
    exact (((b2).setCell (p := ⟨w.heap.size + 1, _, none⟩) (by first | (simp; done) | (simp; omega) | omega) _).setCell (p := ⟨w.heap.size + 1, _, none⟩) (by first | (simp; done) | (simp; omega) | omega) _).setCell (p := ⟨w.heap.size + 1, _, none⟩) (by first | (simp; done) | (simp; omega) | omega) _
  · have hi : idxIf (fun y : Terms => y.cl == x.cl) t 0 = -1 := by
      rcases idxIf_spec (fun y : Terms => y.cl == x.cl) t 0 with ⟨h1, _⟩ | ⟨i, x, _, _, h3⟩
      · exact h1
      · rw [h] at h3; cases h3
    rw [hi] at hft
    clear hi h HY
    refine hft.mono ?_
    rintro e w5 ⟨rfl, hb5⟩
    clear hft
    have e7 := (K7.out.below hb5 K7.out.lt).cells
    have e8 := (K8.out.below hb5 K8.out.lt).cells
    have f8 := (K8.out.below hb5 K8.out.lt).free
    replace b2 := b2.trans (hb5.mono b2.size)
    have hor : (er != 0 || true) = true := by simp
    by_cases he0 : er = 0
    all_goals
      (first | (have he : (er == 0) = true := by simpa using he0) | (have he : (er == 0) = false := by simpa using he0))
      have he' : (er != 0) = !(er == 0) := rfl
      rw [he] at he'
      clear he0
      go_wp2_with fail
      refine bodyPost_ret (v := .agg #[.int .i64 c.id, .int .i64 0, .int .u8 2]) (by simp [results, Tryz.results39, go_sem, e8]) rfl ⟨rfl, ?_⟩
      exact (((b2).setCell (p := ⟨w.heap.size + 1, _, none⟩) (by first | (simp; done) | (simp; omega) | omega) _).setCell (p := ⟨w.heap.size + 1, _, none⟩) (by first | (simp; done) | (simp; omega) | omega) _).setCell (p := ⟨w.heap.size + 1, _, none⟩) (by first | (simp; done) | (simp; omega) | omega) _

include hl hs ht nl nt ns in
set_option maxHeartbeats 4000000 in
theorem decide_table {x : Sent} {y : Terms} (hx : s.find? (fun x => x.item == c.item) = some x) (hy : t.find? (fun y => y.cl == x.cl) = some y) (hp : (promP l x.cl x.fr x.to x.acc).2 = 0) (oc : okC c) (ox : okX x) (oy : okY y) :
    Calls Tryz.prog 39 #[.slice Al l.length ca, .slice At t.length cb, .slice As s.length cc, .agg #[.int .i64 c.id, .int .i64 c.item, .int .i64 c.at_, .int .u8 c.kind, .int .i64 c.post, .int .i64 c.val]] w fun e w' => ∃ o : Outc, o = tableP x y c (promP l x.cl x.fr x.to x.acc).1 ∧ e = .returned (.agg #[.int .i64 o.clm, .int .i64 o.cents, .int .u8 o.ver]) ∧ Below w.heap.size w w' := by
  have hbd := promP_bd l x.cl x.fr x.to x.acc hp
  obtain ⟨p, hpd⟩ : ∃ p, p = (promP l x.cl x.fr x.to x.acc).1 := ⟨_, rfl⟩
  obtain ⟨er, hed⟩ : ∃ er, er = (promP l x.cl x.fr x.to x.acc).2 := ⟨_, rfl⟩
  rw [← hpd]
  rw [← hpd] at hbd
  rw [← hed] at hp
  have HPD := Lib.hid hpd
  have HED := Lib.hid hed
  have HP := Lib.hid (And.intro hp hbd)
  clear hbd hpd hed
  obtain ⟨i2, hi2, hty⟩ : ∃ i : Nat, idxIf (fun y : Terms => y.cl == x.cl) t 0 = (i : Int) ∧ t[i]? = some y := by
    rcases idxIf_spec (fun y : Terms => y.cl == x.cl) t 0 with ⟨_, h2⟩ | ⟨i, z, h1, h2, h3⟩
    · rw [hy] at h2; cases h2
    · rw [hy] at h3; cases h3; exact ⟨i, by simpa using h1, h2⟩
  have hil2 : i2 < t.length := by
    rcases Nat.lt_or_ge i2 t.length with h | h
    · exact h
    · rw [List.getElem?_eq_none h] at hty; cases hty
  have HTY := Lib.hid hty
  have HI2 := Lib.hid hi2
  have OC := Lib.hid oc
  have OX := Lib.hid ox
  have OY := Lib.hid oy
  clear hty hi2 hp hy oc ox oy
  obtain ⟨i, hi, hsx⟩ : ∃ i : Nat, idxIf (fun x : Sent => x.item == c.item) s 0 = (i : Int) ∧ s[i]? = some x := by
    rcases idxIf_spec (fun x : Sent => x.item == c.item) s 0 with ⟨_, h2⟩ | ⟨i, y, h1, h2, h3⟩
    · rw [hx] at h2; cases h2
    · rw [hx] at h3; cases h3; exact ⟨i, by simpa using h1, h2⟩
  have hil : i < s.length := by
    rcases Nat.lt_or_ge i s.length with h | h
    · exact h
    · rw [List.getElem?_eq_none h] at hsx; cases hsx
  obtain ⟨W, hW⟩ : ∃ W : World, W = (w.alloc (.cells #[.int .i64 c.id, .int .i64 c.item, .int .i64 c.at_, .int .u8 c.kind, .int .i64 c.post, .int .i64 c.val] 31)).alloc (.cells #[.int .i64 0, .int .i64 0, .int .u8 0] 36) := ⟨_, rfl⟩
  have hb : Below w.heap.size w W := by rw [hW]; exact ((Below.refl _ _).alloc (Nat.le_refl _) _).alloc (by first | (simp; done) | (simp; omega) | omega) _
  have k7 : Blk W w.heap.size #[.int .i64 c.id, .int .i64 c.item, .int .i64 c.at_, .int .u8 c.kind, .int .i64 c.post, .int .i64 c.val] 31 := by rw [hW]; exact (Blk.new rfl).alloc _
  have k8 : Blk W (w.heap.size + 1) #[.int .i64 0, .int .i64 0, .int .u8 0] 36 := by rw [hW]; exact Blk.new (by first | (simp; done) | (simp; omega) | omega)
  have hf := findSent As cc s w.heap.size c.item W (hs.below (Nat.le_refl _) hb) ns k7.lt ((k7.cells 1).trans rfl)
  rw [hi] at hf
  have K7 := Lib.hid k7
  have K8 := Lib.hid k8
  have HS := Lib.hid hs
  have HL := Lib.hid hl
  have HT := Lib.hid ht
  have HX := Lib.hid hsx
  clear hi hx k7 k8 hs hl ht hsx
  go_enter Tryz.func39, Tryz.ntmps39
  go_wp2_with fail
  rw [← hW]
  have HW := Lib.hid hW
  clear hW
  refine hf.mono ?_
  rintro e w1 ⟨rfl, hb1⟩
  have k7 := K7.out.below hb1 K7.out.lt
  have k8 := K8.out.below hb1 K8.out.lt
  replace hb1 := hb.trans (hb1.mono hb.size)
  obtain ⟨b, o, hA, hb', hq⟩ := (HS.out.below (Nat.le_refl _) hb1).at HX.out
  subst hA
  have hbW : w.heap.size ≤ w1.heap.size := hb1.size
  have hq0 := hq 0 _ rfl; have hq1 := hq 1 _ rfl; have hq2 := hq 2 _ rfl; have hq3 := hq 3 _ rfl; have hq4 := hq 4 _ rfl; have hq5 := hq 5 _ rfl; rw [Nat.add_zero] at hq0; clear hq
  clear hf K7 K8 HW
  replace K7 := Lib.hid k7
  replace K8 := Lib.hid k8
  clear k7 k8 hb
  have hil' : (i : Int) < s.length := by omega
  have hit : ((i : Int)).toNat = i := by omega
  obtain ⟨W2, hW2⟩ : ∃ W2 : World, W2 = w1.alloc (.cells #[.int .i64 x.item, .int .u8 x.cl, .int .i64 x.fr, .int .i64 x.to, .int .i64 x.acc, .int .i64 x.del] 34) := ⟨_, rfl⟩
  have k11 : Blk W2 w1.heap.size #[.int .i64 x.item, .int .u8 x.cl, .int .i64 x.fr, .int .i64 x.to, .int .i64 x.acc, .int .i64 x.del] 34 := by rw [hW2]; exact Blk.new rfl
  go_wp2_with fail
  rw [← hW2]
  have HW2 := Lib.hid hW2
  have b2 : Below w.heap.size w W2 := by rw [hW2]; exact hb1.alloc hb1.size _
  have b12 : Below w1.heap.size w1 W2 := by rw [hW2]; exact (Below.refl _ _).alloc (Nat.le_refl _) _
  clear hW2
  have K11 := Lib.hid k11
  have hz2 : w1.heap.size < W2.heap.size := k11.lt
  clear k11 hq0 hq1 hq2 hq3 hq4 hq5 hb' hil' hit
  replace K7 := Lib.hid (K7.out.below b12 K7.out.lt)
  replace K8 := Lib.hid (K8.out.below b12 K8.out.lt)
  have hpr := promise_any Al ca l x.cl x.fr x.to x.acc W2 (HL.out.below (Nat.le_refl _) b2) nl
  rw [← HPD.out, ← HED.out] at hpr
  refine hpr.mono ?_
  rintro e w3 ⟨rfl, hb3⟩
  clear hpr
  replace K7 := Lib.hid (K7.out.below hb3 K7.out.lt)
  replace K8 := Lib.hid (K8.out.below hb3 K8.out.lt)
  replace K11 := Lib.hid (K11.out.below hb3 K11.out.lt)
  replace b2 := b2.trans (hb3.mono b2.size)
  have hz3 : W2.heap.size ≤ w3.heap.size := hb3.size
  clear hb3
  go_wp2_with fail
  obtain ⟨W4, hW4⟩ : ∃ W4 : World, W4 = w3.alloc (.cells #[.int .i64 p] 3) := ⟨_, rfl⟩
  rw [← hW4]
  have b4 : Below w3.heap.size w3 W4 := by rw [hW4]; exact (Below.refl _ _).alloc (Nat.le_refl _) _
  have hz4 : w3.heap.size < W4.heap.size := by rw [hW4]; exact (by first | (simp; done) | (simp; omega) | omega)
  have K12 := Lib.hid (show Blk W4 w3.heap.size #[.int .i64 p] 3 by rw [hW4]; exact Blk.new rfl)
  have HW4 := Lib.hid hW4
  clear hW4
  replace K7 := Lib.hid (K7.out.below b4 K7.out.lt)
  replace K8 := Lib.hid (K8.out.below b4 K8.out.lt)
  replace K11 := Lib.hid (K11.out.below b4 K11.out.lt)
  replace b2 := b2.trans (b4.mono b2.size)
  have hft := findTerms At cb t w1.heap.size x.cl W4 (HT.out.below (Nat.le_refl _) b2) nt K11.out.lt ((K11.out.cells 1).trans rfl)
  rw [HI2.out] at hft
  obtain ⟨hp0, hp1, hp2⟩ := HP.out
  have he : (er == 0) = true := by simpa using hp0
  have he' : (er != 0) = false := by simpa using hp0
  clear hp0 HP
  refine hft.mono ?_
  rintro e w5 ⟨rfl, hb5⟩
  clear hft
  replace K7 := Lib.hid (K7.out.below hb5 K7.out.lt)
  replace K8 := Lib.hid (K8.out.below hb5 K8.out.lt)
  replace K11 := Lib.hid (K11.out.below hb5 K11.out.lt)
  replace K12 := Lib.hid (K12.out.below hb5 K12.out.lt)
  replace b2 := b2.trans (hb5.mono b2.size)
  have hz5 : W4.heap.size ≤ w5.heap.size := hb5.size
  clear hb5
  obtain ⟨bt, ot, hA, hbt, ht⟩ := (HT.out.below (Nat.le_refl _) b2).at HTY.out
  subst hA
  have ht0 := ht 0 _ rfl; have ht1 := ht 1 _ rfl; have ht2 := ht 2 _ rfl; have ht3 := ht 3 _ rfl; have ht4 := ht 4 _ rfl; have ht5 := ht 5 _ rfl; have ht6 := ht 6 _ rfl; rw [Nat.add_zero] at ht0; clear ht
  have hil2' : (i2 : Int) < t.length := by omega
  have hi20 : ¬ (i2 : Int) < 0 := by omega
  have e7 := K7.out.cells
  have e8 := K8.out.cells
  have e11 := K11.out.cells
  have e12 := K12.out.cells
  have l7 := K7.out.lt
  have l8 := K8.out.lt
  have l11 := K11.out.lt
  have l12 := K12.out.lt
  have S : Aside (tableP x y c p = tableP x y c p) := rfl
  by_cases d0 : 0 ≤ x.del
  · go_wp2_with fail
    obtain ⟨th, hth⟩ : ∃ th, th = decide (x.del ≤ c.at_) := ⟨_, rfl⟩
    obtain ⟨lt, hlt⟩ : ∃ lt, lt = (c.kind == 1) := ⟨_, rfl⟩
    rw [← hth, ← hlt]
    have HD : Aside ((decide (0 ≤ x.del) && decide (x.del ≤ c.at_)) = th ∧ (c.kind == 1) = lt) := ⟨by rw [decide_eq_true d0, hth]; rfl, hlt.symm⟩
    clear hth hlt d0
    obtain ⟨Wl, hWl⟩ : ∃ Wl : World, Wl = ((w5.alloc (.cells #[.int .u8 y.cl, .int .i64 y.free, .int .i64 y.share, .int .i64 y.most, .int .i64 y.after, .int .i64 y.limit, .int .i64 y.wi] 41)).alloc (.cells #[.bool th] 4)).alloc (.cells #[.bool lt] 4) := ⟨_, rfl⟩
    rw [← hWl]
    have bl : Below w5.heap.size w5 Wl := by rw [hWl]; exact (((Below.refl _ _).alloc (Nat.le_refl _) _).alloc (by first | (simp; done) | (simp; omega) | omega) _).alloc (by first | (simp; done) | (simp; omega) | omega) _
    have k15 : Blk Wl w5.heap.size #[.int .u8 y.cl, .int .i64 y.free, .int .i64 y.share, .int .i64 y.most, .int .i64 y.after, .int .i64 y.limit, .int .i64 y.wi] 41 := by rw [hWl]; exact ((Blk.new rfl).alloc _).alloc _
    have k16 : Blk Wl (w5.heap.size + 1) #[.bool th] 4 := by rw [hWl]; exact (Blk.new (by first | (simp; done) | (simp; omega) | omega)).alloc _
    have k17 : Blk Wl (w5.heap.size + 1 + 1) #[.bool lt] 4 := by rw [hWl]; exact Blk.new (by first | (simp; done) | (simp; omega) | omega)
    have HWL := Lib.hid hWl
    clear hWl
    have KB := Lib.hid (And.intro (K7.out.below bl l7) (And.intro (K8.out.below bl l8) (And.intro (K11.out.below bl l11) (And.intro (K12.out.below bl l12) (And.intro k15 (And.intro k16 k17))))))
    have hz6 := k17.lt
    replace b2 := b2.trans (bl.mono b2.size)
    clear e7 e8 e11 e12 ht0 ht1 ht2 ht3 ht4 ht5 ht6 hbt hil2' hi20 k15 k16 k17 bl K7 K8 K11 K12 b4 b12 hb1 S
    have BL := Lib.hid b2
    clear b2
    go_loopg [93] 6 (fun gg s93 wr => ∃ k : Nat, k ≤ 6 ∧ 6 - k ≤ gg ∧ s93 = .int .i64 k ∧ Aside (Below Wl.heap.size Wl wr) ∧ Aside ((0 < k → c.at_ - p ≤ y.wi * 1440) ∧ (1 < k → (lt && !th) = false) ∧ (2 < k → (lt && decide (x.del - p ≤ y.free)) = false) ∧ (3 < k → (!lt && th) = false) ∧ (4 < k → (!lt && decide (c.at_ - p ≤ y.after)) = false) ∧ (5 < k → lt = false)))
    case atStart => exact ⟨0, by omega, by omega, rfl, Below.refl _ _, by simp [Aside]⟩
    case round =>
      obtain ⟨k, hk, hg, rfl, BW, F⟩ := hrel
      have kz : Wl.heap.size ≤ wr.heap.size := BW.out.size
      have KR := Lib.hid (And.intro (KB.out.1.below BW.out KB.out.1.lt) (And.intro (KB.out.2.1.below BW.out KB.out.2.1.lt) (And.intro (KB.out.2.2.1.below BW.out KB.out.2.2.1.lt) (And.intro (KB.out.2.2.2.1.below BW.out KB.out.2.2.2.1.lt) (And.intro (KB.out.2.2.2.2.1.below BW.out KB.out.2.2.2.2.1.lt) (And.intro (KB.out.2.2.2.2.2.1.below BW.out KB.out.2.2.2.2.2.1.lt) (KB.out.2.2.2.2.2.2.below BW.out KB.out.2.2.2.2.2.2.lt)))))))
      rcases (show k = 0 ∨ k = 1 ∨ k = 2 ∨ k = 3 ∨ k = 4 ∨ k = 5 ∨ k = 6 by omega) with rfl | rfl | rfl | rfl | rfl | rfl | rfl
      · have hix := ix0
        obtain ⟨q, hq⟩ : ∃ q, q = (decide (y.wi * 1440 < c.at_ - p)) := ⟨_, rfl⟩
        have HQ := Lib.hid hq
        clear hq
        go_wp2_with fail
        refine (row0 (B7 := w.heap.size) (B12 := w3.heap.size) (B15 := w5.heap.size) (y := y) (c := c) (p := p) (KR.out.1.alloc _).cells (KR.out.2.2.2.1.alloc _).cells (KR.out.2.2.2.2.1.alloc _).cells ⟨OC.out.1, OC.out.2.1⟩ ⟨hp1, hp2⟩ ⟨OY.out.2.2.2.2.2.2.2.2.2.2.1, OY.out.2.2.2.2.2.2.2.2.2.2.2⟩).mono ?_
        rintro e w7 ⟨he7, rfl⟩
        rw [← HQ.out] at he7
        subst he7
        clear hix
        cases q with
        | true =>
          have T : Aside (tableP x y c p = ⟨c.id, 0, 3⟩) := by
            show _ = _
            rw [tableP_eq x y c p HD.out.1 HD.out.2]
            unfold tableQ
            rw [if_pos (of_decide_eq_true HQ.out.symm)]
          go_wp2_with fail
          obtain ⟨Wq, hWq⟩ : ∃ Wq : World, Wq = wr.alloc (.cells #[.func (.func 77) #[] #[.pointer (some ⟨w.heap.size, 0, none⟩), .pointer (some ⟨w3.heap.size, 0, none⟩), .pointer (some ⟨w5.heap.size, 0, none⟩)], .int .u8 3, .func (.func 72) #[] #[]] 114) := ⟨_, rfl⟩
          rw [← hWq]
          have kq7 : Blk Wq w.heap.size #[.int .i64 c.id, .int .i64 c.item, .int .i64 c.at_, .int .u8 c.kind, .int .i64 c.post, .int .i64 c.val] 31 := by rw [hWq]; exact KR.out.1.alloc _
          have kq8 : Blk Wq (w.heap.size + 1) #[.int .i64 0, .int .i64 0, .int .u8 0] 36 := by rw [hWq]; exact KR.out.2.1.alloc _
          have kqr : Blk Wq wr.heap.size #[.func (.func 77) #[] #[.pointer (some ⟨w.heap.size, 0, none⟩), .pointer (some ⟨w3.heap.size, 0, none⟩), .pointer (some ⟨w5.heap.size, 0, none⟩)], .int .u8 3, .func (.func 72) #[] #[]] 114 := by rw [hWq]; exact Blk.new rfl
          have bq : Below Wl.heap.size Wl Wq := by rw [hWq]; exact BW.out.alloc (by omega) _
          have HWq := Lib.hid hWq
          clear hWq
          have ex7 := exblk kq7
          have exr := exblk kqr
          (refine wp_region_quiet_tail 8 (by kernel_rfl) (by kernel_rfl) ?_; simp only [List.take_succ_cons, List.take_zero, List.drop_succ_cons, List.drop_zero]; (repeat (go_big_quiet_step ((go_at_call 72; refine Calls.ex_same (zero_any _))))); refine wpQuiet_nil ?_; intro wq hw'; obtain ⟨⟨_, hq⟩, hw''⟩ := hw'; subst hw'')
          clear ex7 exr
          have e8 := (Blk.below kq8 hq kq8.lt).cells
          have f8 := (Blk.below kq8 hq kq8.lt).free
          have bf : Below w.heap.size w wq := (BL.out.trans (bq.mono BL.out.size)).trans (hq.mono (by have := BL.out.size; have := bq.size; omega))
          go_wp2_with fail
          refine bodyPost_ret (v := .agg #[.int .i64 c.id, .int .i64 (0), .int .u8 3]) (by simp [results, Tryz.results39, go_sem, e8]) rfl ⟨_, T.out.symm, rfl, ?_⟩
          exact ((bf.setCell (p := ⟨w.heap.size + 1, _, none⟩) (by first | (simp; done) | (simp; omega) | omega) _).setCell (p := ⟨w.heap.size + 1, _, none⟩) (by first | (simp; done) | (simp; omega) | omega) _).setCell (p := ⟨w.heap.size + 1, _, none⟩) (by first | (simp; done) | (simp; omega) | omega) _
        | false =>
          go_wp2_with fail
          go_roundg (6 - 1)
          case measure => omega
          case rel => exact ⟨1, by omega, by omega, by go_num, BW.out.trans ((Below.refl _ _).alloc (by omega) _), ⟨fun _ => (by have := of_decide_eq_false HQ.out.symm; omega), fun h => absurd h (by omega), fun h => absurd h (by omega), fun h => absurd h (by omega), fun h => absurd h (by omega), fun h => absurd h (by omega)⟩⟩
      · have hix := ix1
        obtain ⟨q, hq⟩ : ∃ q, q = (lt && !th) := ⟨_, rfl⟩
        have HQ := Lib.hid hq
        clear hq
        go_wp2_with fail
        refine (row1 (B16 := w5.heap.size + 1) (B17 := w5.heap.size + 1 + 1) (late := lt) (there := th) (KR.out.2.2.2.2.2.1.alloc _).cells (KR.out.2.2.2.2.2.2.alloc _).cells).mono ?_
        rintro e w7 ⟨he7, rfl⟩
        rw [← HQ.out] at he7
        subst he7
        clear hix
        cases q with
        | true =>
          have T : Aside (tableP x y c p = ⟨c.id, 0, 4⟩) := by
            show _ = _
            rw [tableP_eq x y c p HD.out.1 HD.out.2]
            unfold tableQ
            rw [if_neg (by have := F.out.1 (by omega); omega), if_pos (HQ.out.symm)]
          go_wp2_with fail
          obtain ⟨Wq, hWq⟩ : ∃ Wq : World, Wq = wr.alloc (.cells #[.func (.func 78) #[] #[.pointer (some ⟨w5.heap.size + 1 + 1, 0, none⟩), .pointer (some ⟨w5.heap.size + 1, 0, none⟩)], .int .u8 4, .func (.func 72) #[] #[]] 114) := ⟨_, rfl⟩
          rw [← hWq]
          have kq7 : Blk Wq w.heap.size #[.int .i64 c.id, .int .i64 c.item, .int .i64 c.at_, .int .u8 c.kind, .int .i64 c.post, .int .i64 c.val] 31 := by rw [hWq]; exact KR.out.1.alloc _
          have kq8 : Blk Wq (w.heap.size + 1) #[.int .i64 0, .int .i64 0, .int .u8 0] 36 := by rw [hWq]; exact KR.out.2.1.alloc _
          have kqr : Blk Wq wr.heap.size #[.func (.func 78) #[] #[.pointer (some ⟨w5.heap.size + 1 + 1, 0, none⟩), .pointer (some ⟨w5.heap.size + 1, 0, none⟩)], .int .u8 4, .func (.func 72) #[] #[]] 114 := by rw [hWq]; exact Blk.new rfl
          have bq : Below Wl.heap.size Wl Wq := by rw [hWq]; exact BW.out.alloc (by omega) _
          have HWq := Lib.hid hWq
          clear hWq
          have ex7 := exblk kq7
          have exr := exblk kqr
          (refine wp_region_quiet_tail 8 (by kernel_rfl) (by kernel_rfl) ?_; simp only [List.take_succ_cons, List.take_zero, List.drop_succ_cons, List.drop_zero]; (repeat (go_big_quiet_step ((go_at_call 72; refine Calls.ex_same (zero_any _))))); refine wpQuiet_nil ?_; intro wq hw'; obtain ⟨⟨_, hq⟩, hw''⟩ := hw'; subst hw'')
          clear ex7 exr
          have e8 := (Blk.below kq8 hq kq8.lt).cells
          have f8 := (Blk.below kq8 hq kq8.lt).free
          have bf : Below w.heap.size w wq := (BL.out.trans (bq.mono BL.out.size)).trans (hq.mono (by have := BL.out.size; have := bq.size; omega))
          go_wp2_with fail
          refine bodyPost_ret (v := .agg #[.int .i64 c.id, .int .i64 (0), .int .u8 4]) (by simp [results, Tryz.results39, go_sem, e8]) rfl ⟨_, T.out.symm, rfl, ?_⟩
          exact ((bf.setCell (p := ⟨w.heap.size + 1, _, none⟩) (by first | (simp; done) | (simp; omega) | omega) _).setCell (p := ⟨w.heap.size + 1, _, none⟩) (by first | (simp; done) | (simp; omega) | omega) _).setCell (p := ⟨w.heap.size + 1, _, none⟩) (by first | (simp; done) | (simp; omega) | omega) _
        | false =>
          go_wp2_with fail
          go_roundg (6 - 2)
          case measure => omega
          case rel => exact ⟨2, by omega, by omega, by go_num, BW.out.trans ((Below.refl _ _).alloc (by omega) _), ⟨fun _ => F.out.1 (by omega), fun _ => HQ.out.symm, fun h => absurd h (by omega), fun h => absurd h (by omega), fun h => absurd h (by omega), fun h => absurd h (by omega)⟩⟩
      · have hix := ix2
        obtain ⟨q, hq⟩ : ∃ q, q = (lt && decide (x.del - p ≤ y.free)) := ⟨_, rfl⟩
        have HQ := Lib.hid hq
        clear hq
        go_wp2_with fail
        refine (row2 (B11 := w1.heap.size) (B12 := w3.heap.size) (B15 := w5.heap.size) (B17 := w5.heap.size + 1 + 1) (x := x) (y := y) (p := p) (late := lt) (KR.out.2.2.1.alloc _).cells (KR.out.2.2.2.1.alloc _).cells (KR.out.2.2.2.2.1.alloc _).cells (KR.out.2.2.2.2.2.2.alloc _).cells ⟨hp1, hp2⟩ ⟨OX.out.2.2.1, OX.out.2.2.2⟩).mono ?_
        rintro e w7 ⟨he7, rfl⟩
        rw [← HQ.out] at he7
        subst he7
        clear hix
        cases q with
        | true =>
          have T : Aside (tableP x y c p = ⟨c.id, 0, 5⟩) := by
            show _ = _
            rw [tableP_eq x y c p HD.out.1 HD.out.2]
            unfold tableQ
            rw [if_neg (by have := F.out.1 (by omega); omega), if_neg (by rw [F.out.2.1 (by omega)]; simp), if_pos (HQ.out.symm)]
          go_wp2_with fail
          obtain ⟨Wq, hWq⟩ : ∃ Wq : World, Wq = wr.alloc (.cells #[.func (.func 79) #[] #[.pointer (some ⟨w5.heap.size + 1 + 1, 0, none⟩), .pointer (some ⟨w1.heap.size, 0, none⟩), .pointer (some ⟨w3.heap.size, 0, none⟩), .pointer (some ⟨w5.heap.size, 0, none⟩)], .int .u8 5, .func (.func 72) #[] #[]] 114) := ⟨_, rfl⟩
          rw [← hWq]
          have kq7 : Blk Wq w.heap.size #[.int .i64 c.id, .int .i64 c.item, .int .i64 c.at_, .int .u8 c.kind, .int .i64 c.post, .int .i64 c.val] 31 := by rw [hWq]; exact KR.out.1.alloc _
          have kq8 : Blk Wq (w.heap.size + 1) #[.int .i64 0, .int .i64 0, .int .u8 0] 36 := by rw [hWq]; exact KR.out.2.1.alloc _
          have kqr : Blk Wq wr.heap.size #[.func (.func 79) #[] #[.pointer (some ⟨w5.heap.size + 1 + 1, 0, none⟩), .pointer (some ⟨w1.heap.size, 0, none⟩), .pointer (some ⟨w3.heap.size, 0, none⟩), .pointer (some ⟨w5.heap.size, 0, none⟩)], .int .u8 5, .func (.func 72) #[] #[]] 114 := by rw [hWq]; exact Blk.new rfl
          have bq : Below Wl.heap.size Wl Wq := by rw [hWq]; exact BW.out.alloc (by omega) _
          have HWq := Lib.hid hWq
          clear hWq
          have ex7 := exblk kq7
          have exr := exblk kqr
          (refine wp_region_quiet_tail 8 (by kernel_rfl) (by kernel_rfl) ?_; simp only [List.take_succ_cons, List.take_zero, List.drop_succ_cons, List.drop_zero]; (repeat (go_big_quiet_step ((go_at_call 72; refine Calls.ex_same (zero_any _))))); refine wpQuiet_nil ?_; intro wq hw'; obtain ⟨⟨_, hq⟩, hw''⟩ := hw'; subst hw'')
          clear ex7 exr
          have e8 := (Blk.below kq8 hq kq8.lt).cells
          have f8 := (Blk.below kq8 hq kq8.lt).free
          have bf : Below w.heap.size w wq := (BL.out.trans (bq.mono BL.out.size)).trans (hq.mono (by have := BL.out.size; have := bq.size; omega))
          go_wp2_with fail
          refine bodyPost_ret (v := .agg #[.int .i64 c.id, .int .i64 (0), .int .u8 5]) (by simp [results, Tryz.results39, go_sem, e8]) rfl ⟨_, T.out.symm, rfl, ?_⟩
          exact ((bf.setCell (p := ⟨w.heap.size + 1, _, none⟩) (by first | (simp; done) | (simp; omega) | omega) _).setCell (p := ⟨w.heap.size + 1, _, none⟩) (by first | (simp; done) | (simp; omega) | omega) _).setCell (p := ⟨w.heap.size + 1, _, none⟩) (by first | (simp; done) | (simp; omega) | omega) _
        | false =>
          go_wp2_with fail
          go_roundg (6 - 3)
          case measure => omega
          case rel => exact ⟨3, by omega, by omega, by go_num, BW.out.trans ((Below.refl _ _).alloc (by omega) _), ⟨fun _ => F.out.1 (by omega), fun _ => F.out.2.1 (by omega), fun _ => HQ.out.symm, fun h => absurd h (by omega), fun h => absurd h (by omega), fun h => absurd h (by omega)⟩⟩
      · have hix := ix3
        obtain ⟨q, hq⟩ : ∃ q, q = (!lt && th) := ⟨_, rfl⟩
        have HQ := Lib.hid hq
        clear hq
        go_wp2_with fail
        refine (row3 (B16 := w5.heap.size + 1) (B17 := w5.heap.size + 1 + 1) (late := lt) (there := th) (KR.out.2.2.2.2.2.1.alloc _).cells (KR.out.2.2.2.2.2.2.alloc _).cells).mono ?_
        rintro e w7 ⟨he7, rfl⟩
        rw [← HQ.out] at he7
        subst he7
        clear hix
        cases q with
        | true =>
          have T : Aside (tableP x y c p = ⟨c.id, 0, 5⟩) := by
            show _ = _
            rw [tableP_eq x y c p HD.out.1 HD.out.2]
            unfold tableQ
            rw [if_neg (by have := F.out.1 (by omega); omega), if_neg (by rw [F.out.2.1 (by omega)]; simp), if_neg (by rw [F.out.2.2.1 (by omega)]; simp), if_pos (HQ.out.symm)]
          go_wp2_with fail
          obtain ⟨Wq, hWq⟩ : ∃ Wq : World, Wq = wr.alloc (.cells #[.func (.func 80) #[] #[.pointer (some ⟨w5.heap.size + 1 + 1, 0, none⟩), .pointer (some ⟨w5.heap.size + 1, 0, none⟩)], .int .u8 5, .func (.func 72) #[] #[]] 114) := ⟨_, rfl⟩
          rw [← hWq]
          have kq7 : Blk Wq w.heap.size #[.int .i64 c.id, .int .i64 c.item, .int .i64 c.at_, .int .u8 c.kind, .int .i64 c.post, .int .i64 c.val] 31 := by rw [hWq]; exact KR.out.1.alloc _
          have kq8 : Blk Wq (w.heap.size + 1) #[.int .i64 0, .int .i64 0, .int .u8 0] 36 := by rw [hWq]; exact KR.out.2.1.alloc _
          have kqr : Blk Wq wr.heap.size #[.func (.func 80) #[] #[.pointer (some ⟨w5.heap.size + 1 + 1, 0, none⟩), .pointer (some ⟨w5.heap.size + 1, 0, none⟩)], .int .u8 5, .func (.func 72) #[] #[]] 114 := by rw [hWq]; exact Blk.new rfl
          have bq : Below Wl.heap.size Wl Wq := by rw [hWq]; exact BW.out.alloc (by omega) _
          have HWq := Lib.hid hWq
          clear hWq
          have ex7 := exblk kq7
          have exr := exblk kqr
          (refine wp_region_quiet_tail 8 (by kernel_rfl) (by kernel_rfl) ?_; simp only [List.take_succ_cons, List.take_zero, List.drop_succ_cons, List.drop_zero]; (repeat (go_big_quiet_step ((go_at_call 72; refine Calls.ex_same (zero_any _))))); refine wpQuiet_nil ?_; intro wq hw'; obtain ⟨⟨_, hq⟩, hw''⟩ := hw'; subst hw'')
          clear ex7 exr
          have e8 := (Blk.below kq8 hq kq8.lt).cells
          have f8 := (Blk.below kq8 hq kq8.lt).free
          have bf : Below w.heap.size w wq := (BL.out.trans (bq.mono BL.out.size)).trans (hq.mono (by have := BL.out.size; have := bq.size; omega))
          go_wp2_with fail
          refine bodyPost_ret (v := .agg #[.int .i64 c.id, .int .i64 (0), .int .u8 5]) (by simp [results, Tryz.results39, go_sem, e8]) rfl ⟨_, T.out.symm, rfl, ?_⟩
          exact ((bf.setCell (p := ⟨w.heap.size + 1, _, none⟩) (by first | (simp; done) | (simp; omega) | omega) _).setCell (p := ⟨w.heap.size + 1, _, none⟩) (by first | (simp; done) | (simp; omega) | omega) _).setCell (p := ⟨w.heap.size + 1, _, none⟩) (by first | (simp; done) | (simp; omega) | omega) _
        | false =>
          go_wp2_with fail
          go_roundg (6 - 4)
          case measure => omega
          case rel => exact ⟨4, by omega, by omega, by go_num, BW.out.trans ((Below.refl _ _).alloc (by omega) _), ⟨fun _ => F.out.1 (by omega), fun _ => F.out.2.1 (by omega), fun _ => F.out.2.2.1 (by omega), fun _ => HQ.out.symm, fun h => absurd h (by omega), fun h => absurd h (by omega)⟩⟩
      · have hix := ix4
        obtain ⟨q, hq⟩ : ∃ q, q = (!lt && decide (c.at_ - p ≤ y.after)) := ⟨_, rfl⟩
        have HQ := Lib.hid hq
        clear hq
        go_wp2_with fail
        refine (row4 (B7 := w.heap.size) (B12 := w3.heap.size) (B15 := w5.heap.size) (B17 := w5.heap.size + 1 + 1) (y := y) (c := c) (p := p) (late := lt) (KR.out.1.alloc _).cells (KR.out.2.2.2.1.alloc _).cells (KR.out.2.2.2.2.1.alloc _).cells (KR.out.2.2.2.2.2.2.alloc _).cells ⟨OC.out.1, OC.out.2.1⟩ ⟨hp1, hp2⟩).mono ?_
        rintro e w7 ⟨he7, rfl⟩
        rw [← HQ.out] at he7
        subst he7
        clear hix
        cases q with
        | true =>
          have T : Aside (tableP x y c p = ⟨c.id, 0, 4⟩) := by
            show _ = _
            rw [tableP_eq x y c p HD.out.1 HD.out.2]
            unfold tableQ
            rw [if_neg (by have := F.out.1 (by omega); omega), if_neg (by rw [F.out.2.1 (by omega)]; simp), if_neg (by rw [F.out.2.2.1 (by omega)]; simp), if_neg (by rw [F.out.2.2.2.1 (by omega)]; simp), if_pos (HQ.out.symm)]
          go_wp2_with fail
          obtain ⟨Wq, hWq⟩ : ∃ Wq : World, Wq = wr.alloc (.cells #[.func (.func 81) #[] #[.pointer (some ⟨w5.heap.size + 1 + 1, 0, none⟩), .pointer (some ⟨w.heap.size, 0, none⟩), .pointer (some ⟨w3.heap.size, 0, none⟩), .pointer (some ⟨w5.heap.size, 0, none⟩)], .int .u8 4, .func (.func 72) #[] #[]] 114) := ⟨_, rfl⟩
          rw [← hWq]
          have kq7 : Blk Wq w.heap.size #[.int .i64 c.id, .int .i64 c.item, .int .i64 c.at_, .int .u8 c.kind, .int .i64 c.post, .int .i64 c.val] 31 := by rw [hWq]; exact KR.out.1.alloc _
          have kq8 : Blk Wq (w.heap.size + 1) #[.int .i64 0, .int .i64 0, .int .u8 0] 36 := by rw [hWq]; exact KR.out.2.1.alloc _
          have kqr : Blk Wq wr.heap.size #[.func (.func 81) #[] #[.pointer (some ⟨w5.heap.size + 1 + 1, 0, none⟩), .pointer (some ⟨w.heap.size, 0, none⟩), .pointer (some ⟨w3.heap.size, 0, none⟩), .pointer (some ⟨w5.heap.size, 0, none⟩)], .int .u8 4, .func (.func 72) #[] #[]] 114 := by rw [hWq]; exact Blk.new rfl
          have bq : Below Wl.heap.size Wl Wq := by rw [hWq]; exact BW.out.alloc (by omega) _
          have HWq := Lib.hid hWq
          clear hWq
          have ex7 := exblk kq7
          have exr := exblk kqr
          (refine wp_region_quiet_tail 8 (by kernel_rfl) (by kernel_rfl) ?_; simp only [List.take_succ_cons, List.take_zero, List.drop_succ_cons, List.drop_zero]; (repeat (go_big_quiet_step ((go_at_call 72; refine Calls.ex_same (zero_any _))))); refine wpQuiet_nil ?_; intro wq hw'; obtain ⟨⟨_, hq⟩, hw''⟩ := hw'; subst hw'')
          clear ex7 exr
          have e8 := (Blk.below kq8 hq kq8.lt).cells
          have f8 := (Blk.below kq8 hq kq8.lt).free
          have bf : Below w.heap.size w wq := (BL.out.trans (bq.mono BL.out.size)).trans (hq.mono (by have := BL.out.size; have := bq.size; omega))
          go_wp2_with fail
          refine bodyPost_ret (v := .agg #[.int .i64 c.id, .int .i64 (0), .int .u8 4]) (by simp [results, Tryz.results39, go_sem, e8]) rfl ⟨_, T.out.symm, rfl, ?_⟩
          exact ((bf.setCell (p := ⟨w.heap.size + 1, _, none⟩) (by first | (simp; done) | (simp; omega) | omega) _).setCell (p := ⟨w.heap.size + 1, _, none⟩) (by first | (simp; done) | (simp; omega) | omega) _).setCell (p := ⟨w.heap.size + 1, _, none⟩) (by first | (simp; done) | (simp; omega) | omega) _
        | false =>
          go_wp2_with fail
          go_roundg (6 - 5)
          case measure => omega
          case rel => exact ⟨5, by omega, by omega, by go_num, BW.out.trans ((Below.refl _ _).alloc (by omega) _), ⟨fun _ => F.out.1 (by omega), fun _ => F.out.2.1 (by omega), fun _ => F.out.2.2.1 (by omega), fun _ => F.out.2.2.2.1 (by omega), fun _ => HQ.out.symm, fun h => absurd h (by omega)⟩⟩
      · have hix := ix5
        obtain ⟨q, hq⟩ : ∃ q, q = (lt) := ⟨_, rfl⟩
        have HQ := Lib.hid hq
        clear hq
        go_wp2_with fail
        refine (row5 (B17 := w5.heap.size + 1 + 1) (late := lt) (KR.out.2.2.2.2.2.2.alloc _).cells).mono ?_
        rintro e w7 ⟨he7, rfl⟩
        rw [← HQ.out] at he7
        subst he7
        clear hix
        cases q with
        | true =>
          have T : Aside (tableP x y c p = ⟨c.id, lateP y.share y.most c.post (x.del - p - y.free), 6⟩) := by
            show _ = _
            rw [tableP_eq x y c p HD.out.1 HD.out.2]
            unfold tableQ
            rw [if_neg (by have := F.out.1 (by omega); omega), if_neg (by rw [F.out.2.1 (by omega)]; simp), if_neg (by rw [F.out.2.2.1 (by omega)]; simp), if_neg (by rw [F.out.2.2.2.1 (by omega)]; simp), if_neg (by rw [F.out.2.2.2.2.1 (by omega)]; simp), if_pos (HQ.out.symm)]
          go_wp2_with fail
          obtain ⟨Wq, hWq⟩ : ∃ Wq : World, Wq = wr.alloc (.cells #[.func (.func 82) #[] #[.pointer (some ⟨w5.heap.size + 1 + 1, 0, none⟩)], .int .u8 6, .func (.func 83) #[] #[.pointer (some ⟨w5.heap.size, 0, none⟩), .pointer (some ⟨w.heap.size, 0, none⟩), .pointer (some ⟨w1.heap.size, 0, none⟩), .pointer (some ⟨w3.heap.size, 0, none⟩)]] 114) := ⟨_, rfl⟩
          rw [← hWq]
          have kq7 : Blk Wq w.heap.size #[.int .i64 c.id, .int .i64 c.item, .int .i64 c.at_, .int .u8 c.kind, .int .i64 c.post, .int .i64 c.val] 31 := by rw [hWq]; exact KR.out.1.alloc _
          have kq8 : Blk Wq (w.heap.size + 1) #[.int .i64 0, .int .i64 0, .int .u8 0] 36 := by rw [hWq]; exact KR.out.2.1.alloc _
          have kqr : Blk Wq wr.heap.size #[.func (.func 82) #[] #[.pointer (some ⟨w5.heap.size + 1 + 1, 0, none⟩)], .int .u8 6, .func (.func 83) #[] #[.pointer (some ⟨w5.heap.size, 0, none⟩), .pointer (some ⟨w.heap.size, 0, none⟩), .pointer (some ⟨w1.heap.size, 0, none⟩), .pointer (some ⟨w3.heap.size, 0, none⟩)]] 114 := by rw [hWq]; exact Blk.new rfl
          have kq11 : Blk Wq w1.heap.size #[.int .i64 x.item, .int .u8 x.cl, .int .i64 x.fr, .int .i64 x.to, .int .i64 x.acc, .int .i64 x.del] 34 := by rw [hWq]; exact KR.out.2.2.1.alloc _
          have kq12 : Blk Wq w3.heap.size #[.int .i64 p] 3 := by rw [hWq]; exact KR.out.2.2.2.1.alloc _
          have kq15 : Blk Wq w5.heap.size #[.int .u8 y.cl, .int .i64 y.free, .int .i64 y.share, .int .i64 y.most, .int .i64 y.after, .int .i64 y.limit, .int .i64 y.wi] 41 := by rw [hWq]; exact KR.out.2.2.2.2.1.alloc _
          have hmin : 0 ≤ x.del - p - y.free := by
            have h := F.out.2.2.1 (by omega)
            rw [← HQ.out] at h
            simp at h
            omega
          have bq : Below Wl.heap.size Wl Wq := by rw [hWq]; exact BW.out.alloc (by omega) _
          have HWq := Lib.hid hWq
          clear hWq
          have ex7 := exblk kq7
          have exr := exblk kqr
          (refine wp_region_quiet_tail 8 (by kernel_rfl) (by kernel_rfl) ?_; simp only [List.take_succ_cons, List.take_zero, List.drop_succ_cons, List.drop_zero]; (repeat (go_big_quiet_step ((go_at_call 83; refine Calls.ex_of (cents5 (x := x) (y := y) (c := c) (p := p) (exblk kq7 _) (exblk kq11 _) (exblk kq12 _) (exblk kq15 _) ⟨hp1, hp2⟩ ⟨OX.out.2.2.1, OX.out.2.2.2⟩ OC.out.2.2.1 (by have := OC.out.2.2.2.1; omega) OY.out.2.2.1 OY.out.2.2.2.1 OY.out.2.2.2.2.1 OY.out.2.2.2.2.2.1 hmin ⟨OY.out.1, OY.out.2.1⟩))))); refine wpQuiet_nil ?_; intro wq hw'; obtain ⟨⟨_, hq⟩, hw''⟩ := hw'; subst hw'')
          clear ex7 exr
          have e8 := (Blk.below kq8 hq kq8.lt).cells
          have f8 := (Blk.below kq8 hq kq8.lt).free
          have bf : Below w.heap.size w wq := (BL.out.trans (bq.mono BL.out.size)).trans (hq.mono (by have := BL.out.size; have := bq.size; omega))
          go_wp2_with fail
          refine bodyPost_ret (v := .agg #[.int .i64 c.id, .int .i64 (lateP y.share y.most c.post (x.del - p - y.free)), .int .u8 6]) (by simp [results, Tryz.results39, go_sem, e8]) rfl ⟨_, T.out.symm, rfl, ?_⟩
          exact ((bf.setCell (p := ⟨w.heap.size + 1, _, none⟩) (by first | (simp; done) | (simp; omega) | omega) _).setCell (p := ⟨w.heap.size + 1, _, none⟩) (by first | (simp; done) | (simp; omega) | omega) _).setCell (p := ⟨w.heap.size + 1, _, none⟩) (by first | (simp; done) | (simp; omega) | omega) _
        | false =>
          go_wp2_with fail
          go_roundg (6 - 6)
          case measure => omega
          case rel => exact ⟨6, by omega, by omega, by go_num, BW.out.trans ((Below.refl _ _).alloc (by omega) _), ⟨fun _ => F.out.1 (by omega), fun _ => F.out.2.1 (by omega), fun _ => F.out.2.2.1 (by omega), fun _ => F.out.2.2.2.1 (by omega), fun _ => F.out.2.2.2.2.1 (by omega), fun _ => HQ.out.symm⟩⟩
      · have T : Aside (tableP x y c p = ⟨c.id, min c.val y.limit + c.post, 6⟩) := by
          show _ = _
          rw [tableP_eq x y c p HD.out.1 HD.out.2]
          unfold tableQ
          rw [if_neg (by have := F.out.1 (by omega); omega), if_neg (by rw [F.out.2.1 (by omega)]; simp), if_neg (by rw [F.out.2.2.1 (by omega)]; simp), if_neg (by rw [F.out.2.2.2.1 (by omega)]; simp), if_neg (by rw [F.out.2.2.2.2.1 (by omega)]; simp), if_neg (by rw [F.out.2.2.2.2.2 (by omega)]; simp)]
        have e7 := KR.out.1.cells
        have e8 := KR.out.2.1.cells
        have f8 := KR.out.2.1.free
        have e15 := KR.out.2.2.2.2.1.cells
        have q1 := OC.out.2.2.1
        have q2 := OC.out.2.2.2.1
        have q3 := OC.out.2.2.2.2.1
        have q4 := OC.out.2.2.2.2.2
        have q5 := OY.out.2.2.2.2.2.2.2.2.1
        have q6 := OY.out.2.2.2.2.2.2.2.2.2.1
        have bf : Below w.heap.size w wr := BL.out.trans (BW.out.mono BL.out.size)
        have q7 : 0 ≤ min c.val y.limit := by omega
        have q8 : min c.val y.limit ≤ 250000000000000 := by omega
        go_wp2_with fail
        refine bodyPost_ret (v := .agg #[.int .i64 c.id, .int .i64 (min c.val y.limit + c.post), .int .u8 6]) (by simp [results, Tryz.results39, go_sem, e8]) rfl ⟨_, T.out.symm, rfl, ?_⟩
        exact ((bf.setCell (p := ⟨w.heap.size + 1, _, none⟩) (by first | (simp; done) | (simp; omega) | omega) _).setCell (p := ⟨w.heap.size + 1, _, none⟩) (by first | (simp; done) | (simp; omega) | omega) _).setCell (p := ⟨w.heap.size + 1, _, none⟩) (by first | (simp; done) | (simp; omega) | omega) _
  · go_wp2_with fail
    obtain ⟨lt, hlt⟩ : ∃ lt, lt = (c.kind == 1) := ⟨_, rfl⟩
    rw [← hlt]
    have HD : Aside ((decide (0 ≤ x.del) && decide (x.del ≤ c.at_)) = false ∧ (c.kind == 1) = lt) := ⟨by rw [decide_eq_false (show ¬ 0 ≤ x.del by omega)]; rfl, hlt.symm⟩
    clear hlt d0
    obtain ⟨Wl, hWl⟩ : ∃ Wl : World, Wl = ((w5.alloc (.cells #[.int .u8 y.cl, .int .i64 y.free, .int .i64 y.share, .int .i64 y.most, .int .i64 y.after, .int .i64 y.limit, .int .i64 y.wi] 41)).alloc (.cells #[.bool false] 4)).alloc (.cells #[.bool lt] 4) := ⟨_, rfl⟩
    rw [← hWl]
    have bl : Below w5.heap.size w5 Wl := by rw [hWl]; exact (((Below.refl _ _).alloc (Nat.le_refl _) _).alloc (by first | (simp; done) | (simp; omega) | omega) _).alloc (by first | (simp; done) | (simp; omega) | omega) _
    have k15 : Blk Wl w5.heap.size #[.int .u8 y.cl, .int .i64 y.free, .int .i64 y.share, .int .i64 y.most, .int .i64 y.after, .int .i64 y.limit, .int .i64 y.wi] 41 := by rw [hWl]; exact ((Blk.new rfl).alloc _).alloc _
    have k16 : Blk Wl (w5.heap.size + 1) #[.bool false] 4 := by rw [hWl]; exact (Blk.new (by first | (simp; done) | (simp; omega) | omega)).alloc _
    have k17 : Blk Wl (w5.heap.size + 1 + 1) #[.bool lt] 4 := by rw [hWl]; exact Blk.new (by first | (simp; done) | (simp; omega) | omega)
    have HWL := Lib.hid hWl
    clear hWl
    have KB := Lib.hid (And.intro (K7.out.below bl l7) (And.intro (K8.out.below bl l8) (And.intro (K11.out.below bl l11) (And.intro (K12.out.below bl l12) (And.intro k15 (And.intro k16 k17))))))
    have hz6 := k17.lt
    replace b2 := b2.trans (bl.mono b2.size)
    clear e7 e8 e11 e12 ht0 ht1 ht2 ht3 ht4 ht5 ht6 hbt hil2' hi20 k15 k16 k17 bl K7 K8 K11 K12 b4 b12 hb1 S
    have BL := Lib.hid b2
    clear b2
    go_loopg [93] 6 (fun gg s93 wr => ∃ k : Nat, k ≤ 6 ∧ 6 - k ≤ gg ∧ s93 = .int .i64 k ∧ Aside (Below Wl.heap.size Wl wr) ∧ Aside ((0 < k → c.at_ - p ≤ y.wi * 1440) ∧ (1 < k → (lt && !false) = false) ∧ (2 < k → (lt && decide (x.del - p ≤ y.free)) = false) ∧ (3 < k → (!lt && false) = false) ∧ (4 < k → (!lt && decide (c.at_ - p ≤ y.after)) = false) ∧ (5 < k → lt = false)))
    case atStart => exact ⟨0, by omega, by omega, rfl, Below.refl _ _, by simp [Aside]⟩
    case round =>
      obtain ⟨k, hk, hg, rfl, BW, F⟩ := hrel
      have kz : Wl.heap.size ≤ wr.heap.size := BW.out.size
      have KR := Lib.hid (And.intro (KB.out.1.below BW.out KB.out.1.lt) (And.intro (KB.out.2.1.below BW.out KB.out.2.1.lt) (And.intro (KB.out.2.2.1.below BW.out KB.out.2.2.1.lt) (And.intro (KB.out.2.2.2.1.below BW.out KB.out.2.2.2.1.lt) (And.intro (KB.out.2.2.2.2.1.below BW.out KB.out.2.2.2.2.1.lt) (And.intro (KB.out.2.2.2.2.2.1.below BW.out KB.out.2.2.2.2.2.1.lt) (KB.out.2.2.2.2.2.2.below BW.out KB.out.2.2.2.2.2.2.lt)))))))
      rcases (show k = 0 ∨ k = 1 ∨ k = 2 ∨ k = 3 ∨ k = 4 ∨ k = 5 ∨ k = 6 by omega) with rfl | rfl | rfl | rfl | rfl | rfl | rfl
      · have hix := ix0
        obtain ⟨q, hq⟩ : ∃ q, q = (decide (y.wi * 1440 < c.at_ - p)) := ⟨_, rfl⟩
        have HQ := Lib.hid hq
        clear hq
        go_wp2_with fail
        refine (row0 (B7 := w.heap.size) (B12 := w3.heap.size) (B15 := w5.heap.size) (y := y) (c := c) (p := p) (KR.out.1.alloc _).cells (KR.out.2.2.2.1.alloc _).cells (KR.out.2.2.2.2.1.alloc _).cells ⟨OC.out.1, OC.out.2.1⟩ ⟨hp1, hp2⟩ ⟨OY.out.2.2.2.2.2.2.2.2.2.2.1, OY.out.2.2.2.2.2.2.2.2.2.2.2⟩).mono ?_
        rintro e w7 ⟨he7, rfl⟩
        rw [← HQ.out] at he7
        subst he7
        clear hix
        cases q with
        | true =>
          have T : Aside (tableP x y c p = ⟨c.id, 0, 3⟩) := by
            show _ = _
            rw [tableP_eq x y c p HD.out.1 HD.out.2]
            unfold tableQ
            rw [if_pos (of_decide_eq_true HQ.out.symm)]
          go_wp2_with fail
          obtain ⟨Wq, hWq⟩ : ∃ Wq : World, Wq = wr.alloc (.cells #[.func (.func 77) #[] #[.pointer (some ⟨w.heap.size, 0, none⟩), .pointer (some ⟨w3.heap.size, 0, none⟩), .pointer (some ⟨w5.heap.size, 0, none⟩)], .int .u8 3, .func (.func 72) #[] #[]] 114) := ⟨_, rfl⟩
          rw [← hWq]
          have kq7 : Blk Wq w.heap.size #[.int .i64 c.id, .int .i64 c.item, .int .i64 c.at_, .int .u8 c.kind, .int .i64 c.post, .int .i64 c.val] 31 := by rw [hWq]; exact KR.out.1.alloc _
          have kq8 : Blk Wq (w.heap.size + 1) #[.int .i64 0, .int .i64 0, .int .u8 0] 36 := by rw [hWq]; exact KR.out.2.1.alloc _
          have kqr : Blk Wq wr.heap.size #[.func (.func 77) #[] #[.pointer (some ⟨w.heap.size, 0, none⟩), .pointer (some ⟨w3.heap.size, 0, none⟩), .pointer (some ⟨w5.heap.size, 0, none⟩)], .int .u8 3, .func (.func 72) #[] #[]] 114 := by rw [hWq]; exact Blk.new rfl
          have bq : Below Wl.heap.size Wl Wq := by rw [hWq]; exact BW.out.alloc (by omega) _
          have HWq := Lib.hid hWq
          clear hWq
          have ex7 := exblk kq7
          have exr := exblk kqr
          (refine wp_region_quiet_tail 8 (by kernel_rfl) (by kernel_rfl) ?_; simp only [List.take_succ_cons, List.take_zero, List.drop_succ_cons, List.drop_zero]; (repeat (go_big_quiet_step ((go_at_call 72; refine Calls.ex_same (zero_any _))))); refine wpQuiet_nil ?_; intro wq hw'; obtain ⟨⟨_, hq⟩, hw''⟩ := hw'; subst hw'')
          clear ex7 exr
          have e8 := (Blk.below kq8 hq kq8.lt).cells
          have f8 := (Blk.below kq8 hq kq8.lt).free
          have bf : Below w.heap.size w wq := (BL.out.trans (bq.mono BL.out.size)).trans (hq.mono (by have := BL.out.size; have := bq.size; omega))
          go_wp2_with fail
          refine bodyPost_ret (v := .agg #[.int .i64 c.id, .int .i64 (0), .int .u8 3]) (by simp [results, Tryz.results39, go_sem, e8]) rfl ⟨_, T.out.symm, rfl, ?_⟩
          exact ((bf.setCell (p := ⟨w.heap.size + 1, _, none⟩) (by first | (simp; done) | (simp; omega) | omega) _).setCell (p := ⟨w.heap.size + 1, _, none⟩) (by first | (simp; done) | (simp; omega) | omega) _).setCell (p := ⟨w.heap.size + 1, _, none⟩) (by first | (simp; done) | (simp; omega) | omega) _
        | false =>
          go_wp2_with fail
          go_roundg (6 - 1)
          case measure => omega
          case rel => exact ⟨1, by omega, by omega, by go_num, BW.out.trans ((Below.refl _ _).alloc (by omega) _), ⟨fun _ => (by have := of_decide_eq_false HQ.out.symm; omega), fun h => absurd h (by omega), fun h => absurd h (by omega), fun h => absurd h (by omega), fun h => absurd h (by omega), fun h => absurd h (by omega)⟩⟩
      · have hix := ix1
        obtain ⟨q, hq⟩ : ∃ q, q = (lt && !false) := ⟨_, rfl⟩
        have HQ := Lib.hid hq
        clear hq
        go_wp2_with fail
        refine (row1 (B16 := w5.heap.size + 1) (B17 := w5.heap.size + 1 + 1) (late := lt) (there := false) (KR.out.2.2.2.2.2.1.alloc _).cells (KR.out.2.2.2.2.2.2.alloc _).cells).mono ?_
        rintro e w7 ⟨he7, rfl⟩
        rw [← HQ.out] at he7
        subst he7
        clear hix
        cases q with
        | true =>
          have T : Aside (tableP x y c p = ⟨c.id, 0, 4⟩) := by
            show _ = _
            rw [tableP_eq x y c p HD.out.1 HD.out.2]
            unfold tableQ
            rw [if_neg (by have := F.out.1 (by omega); omega), if_pos (HQ.out.symm)]
          go_wp2_with fail
          obtain ⟨Wq, hWq⟩ : ∃ Wq : World, Wq = wr.alloc (.cells #[.func (.func 78) #[] #[.pointer (some ⟨w5.heap.size + 1 + 1, 0, none⟩), .pointer (some ⟨w5.heap.size + 1, 0, none⟩)], .int .u8 4, .func (.func 72) #[] #[]] 114) := ⟨_, rfl⟩
          rw [← hWq]
          have kq7 : Blk Wq w.heap.size #[.int .i64 c.id, .int .i64 c.item, .int .i64 c.at_, .int .u8 c.kind, .int .i64 c.post, .int .i64 c.val] 31 := by rw [hWq]; exact KR.out.1.alloc _
          have kq8 : Blk Wq (w.heap.size + 1) #[.int .i64 0, .int .i64 0, .int .u8 0] 36 := by rw [hWq]; exact KR.out.2.1.alloc _
          have kqr : Blk Wq wr.heap.size #[.func (.func 78) #[] #[.pointer (some ⟨w5.heap.size + 1 + 1, 0, none⟩), .pointer (some ⟨w5.heap.size + 1, 0, none⟩)], .int .u8 4, .func (.func 72) #[] #[]] 114 := by rw [hWq]; exact Blk.new rfl
          have bq : Below Wl.heap.size Wl Wq := by rw [hWq]; exact BW.out.alloc (by omega) _
          have HWq := Lib.hid hWq
          clear hWq
          have ex7 := exblk kq7
          have exr := exblk kqr
          (refine wp_region_quiet_tail 8 (by kernel_rfl) (by kernel_rfl) ?_; simp only [List.take_succ_cons, List.take_zero, List.drop_succ_cons, List.drop_zero]; (repeat (go_big_quiet_step ((go_at_call 72; refine Calls.ex_same (zero_any _))))); refine wpQuiet_nil ?_; intro wq hw'; obtain ⟨⟨_, hq⟩, hw''⟩ := hw'; subst hw'')
          clear ex7 exr
          have e8 := (Blk.below kq8 hq kq8.lt).cells
          have f8 := (Blk.below kq8 hq kq8.lt).free
          have bf : Below w.heap.size w wq := (BL.out.trans (bq.mono BL.out.size)).trans (hq.mono (by have := BL.out.size; have := bq.size; omega))
          go_wp2_with fail
          refine bodyPost_ret (v := .agg #[.int .i64 c.id, .int .i64 (0), .int .u8 4]) (by simp [results, Tryz.results39, go_sem, e8]) rfl ⟨_, T.out.symm, rfl, ?_⟩
          exact ((bf.setCell (p := ⟨w.heap.size + 1, _, none⟩) (by first | (simp; done) | (simp; omega) | omega) _).setCell (p := ⟨w.heap.size + 1, _, none⟩) (by first | (simp; done) | (simp; omega) | omega) _).setCell (p := ⟨w.heap.size + 1, _, none⟩) (by first | (simp; done) | (simp; omega) | omega) _
        | false =>
          go_wp2_with fail
          go_roundg (6 - 2)
          case measure => omega
          case rel => exact ⟨2, by omega, by omega, by go_num, BW.out.trans ((Below.refl _ _).alloc (by omega) _), ⟨fun _ => F.out.1 (by omega), fun _ => HQ.out.symm, fun h => absurd h (by omega), fun h => absurd h (by omega), fun h => absurd h (by omega), fun h => absurd h (by omega)⟩⟩
      · have hix := ix2
        obtain ⟨q, hq⟩ : ∃ q, q = (lt && decide (x.del - p ≤ y.free)) := ⟨_, rfl⟩
        have HQ := Lib.hid hq
        clear hq
        go_wp2_with fail
        refine (row2 (B11 := w1.heap.size) (B12 := w3.heap.size) (B15 := w5.heap.size) (B17 := w5.heap.size + 1 + 1) (x := x) (y := y) (p := p) (late := lt) (KR.out.2.2.1.alloc _).cells (KR.out.2.2.2.1.alloc _).cells (KR.out.2.2.2.2.1.alloc _).cells (KR.out.2.2.2.2.2.2.alloc _).cells ⟨hp1, hp2⟩ ⟨OX.out.2.2.1, OX.out.2.2.2⟩).mono ?_
        rintro e w7 ⟨he7, rfl⟩
        rw [← HQ.out] at he7
        subst he7
        clear hix
        cases q with
        | true =>
          have T : Aside (tableP x y c p = ⟨c.id, 0, 5⟩) := by
            show _ = _
            rw [tableP_eq x y c p HD.out.1 HD.out.2]
            unfold tableQ
            rw [if_neg (by have := F.out.1 (by omega); omega), if_neg (by rw [F.out.2.1 (by omega)]; simp), if_pos (HQ.out.symm)]
          go_wp2_with fail
          obtain ⟨Wq, hWq⟩ : ∃ Wq : World, Wq = wr.alloc (.cells #[.func (.func 79) #[] #[.pointer (some ⟨w5.heap.size + 1 + 1, 0, none⟩), .pointer (some ⟨w1.heap.size, 0, none⟩), .pointer (some ⟨w3.heap.size, 0, none⟩), .pointer (some ⟨w5.heap.size, 0, none⟩)], .int .u8 5, .func (.func 72) #[] #[]] 114) := ⟨_, rfl⟩
          rw [← hWq]
          have kq7 : Blk Wq w.heap.size #[.int .i64 c.id, .int .i64 c.item, .int .i64 c.at_, .int .u8 c.kind, .int .i64 c.post, .int .i64 c.val] 31 := by rw [hWq]; exact KR.out.1.alloc _
          have kq8 : Blk Wq (w.heap.size + 1) #[.int .i64 0, .int .i64 0, .int .u8 0] 36 := by rw [hWq]; exact KR.out.2.1.alloc _
          have kqr : Blk Wq wr.heap.size #[.func (.func 79) #[] #[.pointer (some ⟨w5.heap.size + 1 + 1, 0, none⟩), .pointer (some ⟨w1.heap.size, 0, none⟩), .pointer (some ⟨w3.heap.size, 0, none⟩), .pointer (some ⟨w5.heap.size, 0, none⟩)], .int .u8 5, .func (.func 72) #[] #[]] 114 := by rw [hWq]; exact Blk.new rfl
          have bq : Below Wl.heap.size Wl Wq := by rw [hWq]; exact BW.out.alloc (by omega) _
          have HWq := Lib.hid hWq
          clear hWq
          have ex7 := exblk kq7
          have exr := exblk kqr
          (refine wp_region_quiet_tail 8 (by kernel_rfl) (by kernel_rfl) ?_; simp only [List.take_succ_cons, List.take_zero, List.drop_succ_cons, List.drop_zero]; (repeat (go_big_quiet_step ((go_at_call 72; refine Calls.ex_same (zero_any _))))); refine wpQuiet_nil ?_; intro wq hw'; obtain ⟨⟨_, hq⟩, hw''⟩ := hw'; subst hw'')
          clear ex7 exr
          have e8 := (Blk.below kq8 hq kq8.lt).cells
          have f8 := (Blk.below kq8 hq kq8.lt).free
          have bf : Below w.heap.size w wq := (BL.out.trans (bq.mono BL.out.size)).trans (hq.mono (by have := BL.out.size; have := bq.size; omega))
          go_wp2_with fail
          refine bodyPost_ret (v := .agg #[.int .i64 c.id, .int .i64 (0), .int .u8 5]) (by simp [results, Tryz.results39, go_sem, e8]) rfl ⟨_, T.out.symm, rfl, ?_⟩
          exact ((bf.setCell (p := ⟨w.heap.size + 1, _, none⟩) (by first | (simp; done) | (simp; omega) | omega) _).setCell (p := ⟨w.heap.size + 1, _, none⟩) (by first | (simp; done) | (simp; omega) | omega) _).setCell (p := ⟨w.heap.size + 1, _, none⟩) (by first | (simp; done) | (simp; omega) | omega) _
        | false =>
          go_wp2_with fail
          go_roundg (6 - 3)
          case measure => omega
          case rel => exact ⟨3, by omega, by omega, by go_num, BW.out.trans ((Below.refl _ _).alloc (by omega) _), ⟨fun _ => F.out.1 (by omega), fun _ => F.out.2.1 (by omega), fun _ => HQ.out.symm, fun h => absurd h (by omega), fun h => absurd h (by omega), fun h => absurd h (by omega)⟩⟩
      · have hix := ix3
        obtain ⟨q, hq⟩ : ∃ q, q = (!lt && false) := ⟨_, rfl⟩
        have HQ := Lib.hid hq
        clear hq
        go_wp2_with fail
        refine (row3 (B16 := w5.heap.size + 1) (B17 := w5.heap.size + 1 + 1) (late := lt) (there := false) (KR.out.2.2.2.2.2.1.alloc _).cells (KR.out.2.2.2.2.2.2.alloc _).cells).mono ?_
        rintro e w7 ⟨he7, rfl⟩
        rw [← HQ.out] at he7
        subst he7
        clear hix
        cases q with
        | true =>
          have T : Aside (tableP x y c p = ⟨c.id, 0, 5⟩) := by
            show _ = _
            rw [tableP_eq x y c p HD.out.1 HD.out.2]
            unfold tableQ
            rw [if_neg (by have := F.out.1 (by omega); omega), if_neg (by rw [F.out.2.1 (by omega)]; simp), if_neg (by rw [F.out.2.2.1 (by omega)]; simp), if_pos (HQ.out.symm)]
          go_wp2_with fail
          obtain ⟨Wq, hWq⟩ : ∃ Wq : World, Wq = wr.alloc (.cells #[.func (.func 80) #[] #[.pointer (some ⟨w5.heap.size + 1 + 1, 0, none⟩), .pointer (some ⟨w5.heap.size + 1, 0, none⟩)], .int .u8 5, .func (.func 72) #[] #[]] 114) := ⟨_, rfl⟩
          rw [← hWq]
          have kq7 : Blk Wq w.heap.size #[.int .i64 c.id, .int .i64 c.item, .int .i64 c.at_, .int .u8 c.kind, .int .i64 c.post, .int .i64 c.val] 31 := by rw [hWq]; exact KR.out.1.alloc _
          have kq8 : Blk Wq (w.heap.size + 1) #[.int .i64 0, .int .i64 0, .int .u8 0] 36 := by rw [hWq]; exact KR.out.2.1.alloc _
          have kqr : Blk Wq wr.heap.size #[.func (.func 80) #[] #[.pointer (some ⟨w5.heap.size + 1 + 1, 0, none⟩), .pointer (some ⟨w5.heap.size + 1, 0, none⟩)], .int .u8 5, .func (.func 72) #[] #[]] 114 := by rw [hWq]; exact Blk.new rfl
          have bq : Below Wl.heap.size Wl Wq := by rw [hWq]; exact BW.out.alloc (by omega) _
          have HWq := Lib.hid hWq
          clear hWq
          have ex7 := exblk kq7
          have exr := exblk kqr
          (refine wp_region_quiet_tail 8 (by kernel_rfl) (by kernel_rfl) ?_; simp only [List.take_succ_cons, List.take_zero, List.drop_succ_cons, List.drop_zero]; (repeat (go_big_quiet_step ((go_at_call 72; refine Calls.ex_same (zero_any _))))); refine wpQuiet_nil ?_; intro wq hw'; obtain ⟨⟨_, hq⟩, hw''⟩ := hw'; subst hw'')
          clear ex7 exr
          have e8 := (Blk.below kq8 hq kq8.lt).cells
          have f8 := (Blk.below kq8 hq kq8.lt).free
          have bf : Below w.heap.size w wq := (BL.out.trans (bq.mono BL.out.size)).trans (hq.mono (by have := BL.out.size; have := bq.size; omega))
          go_wp2_with fail
          refine bodyPost_ret (v := .agg #[.int .i64 c.id, .int .i64 (0), .int .u8 5]) (by simp [results, Tryz.results39, go_sem, e8]) rfl ⟨_, T.out.symm, rfl, ?_⟩
          exact ((bf.setCell (p := ⟨w.heap.size + 1, _, none⟩) (by first | (simp; done) | (simp; omega) | omega) _).setCell (p := ⟨w.heap.size + 1, _, none⟩) (by first | (simp; done) | (simp; omega) | omega) _).setCell (p := ⟨w.heap.size + 1, _, none⟩) (by first | (simp; done) | (simp; omega) | omega) _
        | false =>
          go_wp2_with fail
          go_roundg (6 - 4)
          case measure => omega
          case rel => exact ⟨4, by omega, by omega, by go_num, BW.out.trans ((Below.refl _ _).alloc (by omega) _), ⟨fun _ => F.out.1 (by omega), fun _ => F.out.2.1 (by omega), fun _ => F.out.2.2.1 (by omega), fun _ => HQ.out.symm, fun h => absurd h (by omega), fun h => absurd h (by omega)⟩⟩
      · have hix := ix4
        obtain ⟨q, hq⟩ : ∃ q, q = (!lt && decide (c.at_ - p ≤ y.after)) := ⟨_, rfl⟩
        have HQ := Lib.hid hq
        clear hq
        go_wp2_with fail
        refine (row4 (B7 := w.heap.size) (B12 := w3.heap.size) (B15 := w5.heap.size) (B17 := w5.heap.size + 1 + 1) (y := y) (c := c) (p := p) (late := lt) (KR.out.1.alloc _).cells (KR.out.2.2.2.1.alloc _).cells (KR.out.2.2.2.2.1.alloc _).cells (KR.out.2.2.2.2.2.2.alloc _).cells ⟨OC.out.1, OC.out.2.1⟩ ⟨hp1, hp2⟩).mono ?_
        rintro e w7 ⟨he7, rfl⟩
        rw [← HQ.out] at he7
        subst he7
        clear hix
        cases q with
        | true =>
          have T : Aside (tableP x y c p = ⟨c.id, 0, 4⟩) := by
            show _ = _
            rw [tableP_eq x y c p HD.out.1 HD.out.2]
            unfold tableQ
            rw [if_neg (by have := F.out.1 (by omega); omega), if_neg (by rw [F.out.2.1 (by omega)]; simp), if_neg (by rw [F.out.2.2.1 (by omega)]; simp), if_neg (by rw [F.out.2.2.2.1 (by omega)]; simp), if_pos (HQ.out.symm)]
          go_wp2_with fail
          obtain ⟨Wq, hWq⟩ : ∃ Wq : World, Wq = wr.alloc (.cells #[.func (.func 81) #[] #[.pointer (some ⟨w5.heap.size + 1 + 1, 0, none⟩), .pointer (some ⟨w.heap.size, 0, none⟩), .pointer (some ⟨w3.heap.size, 0, none⟩), .pointer (some ⟨w5.heap.size, 0, none⟩)], .int .u8 4, .func (.func 72) #[] #[]] 114) := ⟨_, rfl⟩
          rw [← hWq]
          have kq7 : Blk Wq w.heap.size #[.int .i64 c.id, .int .i64 c.item, .int .i64 c.at_, .int .u8 c.kind, .int .i64 c.post, .int .i64 c.val] 31 := by rw [hWq]; exact KR.out.1.alloc _
          have kq8 : Blk Wq (w.heap.size + 1) #[.int .i64 0, .int .i64 0, .int .u8 0] 36 := by rw [hWq]; exact KR.out.2.1.alloc _
          have kqr : Blk Wq wr.heap.size #[.func (.func 81) #[] #[.pointer (some ⟨w5.heap.size + 1 + 1, 0, none⟩), .pointer (some ⟨w.heap.size, 0, none⟩), .pointer (some ⟨w3.heap.size, 0, none⟩), .pointer (some ⟨w5.heap.size, 0, none⟩)], .int .u8 4, .func (.func 72) #[] #[]] 114 := by rw [hWq]; exact Blk.new rfl
          have bq : Below Wl.heap.size Wl Wq := by rw [hWq]; exact BW.out.alloc (by omega) _
          have HWq := Lib.hid hWq
          clear hWq
          have ex7 := exblk kq7
          have exr := exblk kqr
          (refine wp_region_quiet_tail 8 (by kernel_rfl) (by kernel_rfl) ?_; simp only [List.take_succ_cons, List.take_zero, List.drop_succ_cons, List.drop_zero]; (repeat (go_big_quiet_step ((go_at_call 72; refine Calls.ex_same (zero_any _))))); refine wpQuiet_nil ?_; intro wq hw'; obtain ⟨⟨_, hq⟩, hw''⟩ := hw'; subst hw'')
          clear ex7 exr
          have e8 := (Blk.below kq8 hq kq8.lt).cells
          have f8 := (Blk.below kq8 hq kq8.lt).free
          have bf : Below w.heap.size w wq := (BL.out.trans (bq.mono BL.out.size)).trans (hq.mono (by have := BL.out.size; have := bq.size; omega))
          go_wp2_with fail
          refine bodyPost_ret (v := .agg #[.int .i64 c.id, .int .i64 (0), .int .u8 4]) (by simp [results, Tryz.results39, go_sem, e8]) rfl ⟨_, T.out.symm, rfl, ?_⟩
          exact ((bf.setCell (p := ⟨w.heap.size + 1, _, none⟩) (by first | (simp; done) | (simp; omega) | omega) _).setCell (p := ⟨w.heap.size + 1, _, none⟩) (by first | (simp; done) | (simp; omega) | omega) _).setCell (p := ⟨w.heap.size + 1, _, none⟩) (by first | (simp; done) | (simp; omega) | omega) _
        | false =>
          go_wp2_with fail
          go_roundg (6 - 5)
          case measure => omega
          case rel => exact ⟨5, by omega, by omega, by go_num, BW.out.trans ((Below.refl _ _).alloc (by omega) _), ⟨fun _ => F.out.1 (by omega), fun _ => F.out.2.1 (by omega), fun _ => F.out.2.2.1 (by omega), fun _ => F.out.2.2.2.1 (by omega), fun _ => HQ.out.symm, fun h => absurd h (by omega)⟩⟩
      · have hix := ix5
        obtain ⟨q, hq⟩ : ∃ q, q = (lt) := ⟨_, rfl⟩
        have HQ := Lib.hid hq
        clear hq
        go_wp2_with fail
        refine (row5 (B17 := w5.heap.size + 1 + 1) (late := lt) (KR.out.2.2.2.2.2.2.alloc _).cells).mono ?_
        rintro e w7 ⟨he7, rfl⟩
        rw [← HQ.out] at he7
        subst he7
        clear hix
        cases q with
        | true =>
          have T : Aside (tableP x y c p = ⟨c.id, lateP y.share y.most c.post (x.del - p - y.free), 6⟩) := by
            show _ = _
            rw [tableP_eq x y c p HD.out.1 HD.out.2]
            unfold tableQ
            rw [if_neg (by have := F.out.1 (by omega); omega), if_neg (by rw [F.out.2.1 (by omega)]; simp), if_neg (by rw [F.out.2.2.1 (by omega)]; simp), if_neg (by rw [F.out.2.2.2.1 (by omega)]; simp), if_neg (by rw [F.out.2.2.2.2.1 (by omega)]; simp), if_pos (HQ.out.symm)]
          go_wp2_with fail
          obtain ⟨Wq, hWq⟩ : ∃ Wq : World, Wq = wr.alloc (.cells #[.func (.func 82) #[] #[.pointer (some ⟨w5.heap.size + 1 + 1, 0, none⟩)], .int .u8 6, .func (.func 83) #[] #[.pointer (some ⟨w5.heap.size, 0, none⟩), .pointer (some ⟨w.heap.size, 0, none⟩), .pointer (some ⟨w1.heap.size, 0, none⟩), .pointer (some ⟨w3.heap.size, 0, none⟩)]] 114) := ⟨_, rfl⟩
          rw [← hWq]
          have kq7 : Blk Wq w.heap.size #[.int .i64 c.id, .int .i64 c.item, .int .i64 c.at_, .int .u8 c.kind, .int .i64 c.post, .int .i64 c.val] 31 := by rw [hWq]; exact KR.out.1.alloc _
          have kq8 : Blk Wq (w.heap.size + 1) #[.int .i64 0, .int .i64 0, .int .u8 0] 36 := by rw [hWq]; exact KR.out.2.1.alloc _
          have kqr : Blk Wq wr.heap.size #[.func (.func 82) #[] #[.pointer (some ⟨w5.heap.size + 1 + 1, 0, none⟩)], .int .u8 6, .func (.func 83) #[] #[.pointer (some ⟨w5.heap.size, 0, none⟩), .pointer (some ⟨w.heap.size, 0, none⟩), .pointer (some ⟨w1.heap.size, 0, none⟩), .pointer (some ⟨w3.heap.size, 0, none⟩)]] 114 := by rw [hWq]; exact Blk.new rfl
          have kq11 : Blk Wq w1.heap.size #[.int .i64 x.item, .int .u8 x.cl, .int .i64 x.fr, .int .i64 x.to, .int .i64 x.acc, .int .i64 x.del] 34 := by rw [hWq]; exact KR.out.2.2.1.alloc _
          have kq12 : Blk Wq w3.heap.size #[.int .i64 p] 3 := by rw [hWq]; exact KR.out.2.2.2.1.alloc _
          have kq15 : Blk Wq w5.heap.size #[.int .u8 y.cl, .int .i64 y.free, .int .i64 y.share, .int .i64 y.most, .int .i64 y.after, .int .i64 y.limit, .int .i64 y.wi] 41 := by rw [hWq]; exact KR.out.2.2.2.2.1.alloc _
          have hmin : 0 ≤ x.del - p - y.free := by
            have h := F.out.2.2.1 (by omega)
            rw [← HQ.out] at h
            simp at h
            omega
          have bq : Below Wl.heap.size Wl Wq := by rw [hWq]; exact BW.out.alloc (by omega) _
          have HWq := Lib.hid hWq
          clear hWq
          have ex7 := exblk kq7
          have exr := exblk kqr
          (refine wp_region_quiet_tail 8 (by kernel_rfl) (by kernel_rfl) ?_; simp only [List.take_succ_cons, List.take_zero, List.drop_succ_cons, List.drop_zero]; (repeat (go_big_quiet_step ((go_at_call 83; refine Calls.ex_of (cents5 (x := x) (y := y) (c := c) (p := p) (exblk kq7 _) (exblk kq11 _) (exblk kq12 _) (exblk kq15 _) ⟨hp1, hp2⟩ ⟨OX.out.2.2.1, OX.out.2.2.2⟩ OC.out.2.2.1 (by have := OC.out.2.2.2.1; omega) OY.out.2.2.1 OY.out.2.2.2.1 OY.out.2.2.2.2.1 OY.out.2.2.2.2.2.1 hmin ⟨OY.out.1, OY.out.2.1⟩))))); refine wpQuiet_nil ?_; intro wq hw'; obtain ⟨⟨_, hq⟩, hw''⟩ := hw'; subst hw'')
          clear ex7 exr
          have e8 := (Blk.below kq8 hq kq8.lt).cells
          have f8 := (Blk.below kq8 hq kq8.lt).free
          have bf : Below w.heap.size w wq := (BL.out.trans (bq.mono BL.out.size)).trans (hq.mono (by have := BL.out.size; have := bq.size; omega))
          go_wp2_with fail
          refine bodyPost_ret (v := .agg #[.int .i64 c.id, .int .i64 (lateP y.share y.most c.post (x.del - p - y.free)), .int .u8 6]) (by simp [results, Tryz.results39, go_sem, e8]) rfl ⟨_, T.out.symm, rfl, ?_⟩
          exact ((bf.setCell (p := ⟨w.heap.size + 1, _, none⟩) (by first | (simp; done) | (simp; omega) | omega) _).setCell (p := ⟨w.heap.size + 1, _, none⟩) (by first | (simp; done) | (simp; omega) | omega) _).setCell (p := ⟨w.heap.size + 1, _, none⟩) (by first | (simp; done) | (simp; omega) | omega) _
        | false =>
          go_wp2_with fail
          go_roundg (6 - 6)
          case measure => omega
          case rel => exact ⟨6, by omega, by omega, by go_num, BW.out.trans ((Below.refl _ _).alloc (by omega) _), ⟨fun _ => F.out.1 (by omega), fun _ => F.out.2.1 (by omega), fun _ => F.out.2.2.1 (by omega), fun _ => F.out.2.2.2.1 (by omega), fun _ => F.out.2.2.2.2.1 (by omega), fun _ => HQ.out.symm⟩⟩
      · have T : Aside (tableP x y c p = ⟨c.id, min c.val y.limit + c.post, 6⟩) := by
          show _ = _
          rw [tableP_eq x y c p HD.out.1 HD.out.2]
          unfold tableQ
          rw [if_neg (by have := F.out.1 (by omega); omega), if_neg (by rw [F.out.2.1 (by omega)]; simp), if_neg (by rw [F.out.2.2.1 (by omega)]; simp), if_neg (by rw [F.out.2.2.2.1 (by omega)]; simp), if_neg (by rw [F.out.2.2.2.2.1 (by omega)]; simp), if_neg (by rw [F.out.2.2.2.2.2 (by omega)]; simp)]
        have e7 := KR.out.1.cells
        have e8 := KR.out.2.1.cells
        have f8 := KR.out.2.1.free
        have e15 := KR.out.2.2.2.2.1.cells
        have q1 := OC.out.2.2.1
        have q2 := OC.out.2.2.2.1
        have q3 := OC.out.2.2.2.2.1
        have q4 := OC.out.2.2.2.2.2
        have q5 := OY.out.2.2.2.2.2.2.2.2.1
        have q6 := OY.out.2.2.2.2.2.2.2.2.2.1
        have bf : Below w.heap.size w wr := BL.out.trans (BW.out.mono BL.out.size)
        have q7 : 0 ≤ min c.val y.limit := by omega
        have q8 : min c.val y.limit ≤ 250000000000000 := by omega
        go_wp2_with fail
        refine bodyPost_ret (v := .agg #[.int .i64 c.id, .int .i64 (min c.val y.limit + c.post), .int .u8 6]) (by simp [results, Tryz.results39, go_sem, e8]) rfl ⟨_, T.out.symm, rfl, ?_⟩
        exact ((bf.setCell (p := ⟨w.heap.size + 1, _, none⟩) (by first | (simp; done) | (simp; omega) | omega) _).setCell (p := ⟨w.heap.size + 1, _, none⟩) (by first | (simp; done) | (simp; omega) | omega) _).setCell (p := ⟨w.heap.size + 1, _, none⟩) (by first | (simp; done) | (simp; omega) | omega) _
end
end Go.Proofs.YtnnppnlekpadnaaGreat
