/- The contract of the statements' fields. -/
import Derived.Test.YtnnppnlekpadnaaGreatPool3
import Derived.Test.YtnnppnlekpadnaaGreatSmallM
namespace Go.Proofs.YtnnppnlekpadnaaGreat
open Go.RowKit Go.Proofs
set_option maxRecDepth 100000

def ptrs (g1 g2 g3 g4 : Nat) : List (Nat × Nat) := [(g1, 1), (g1, 2), (g1, 3), (g2, 1), (g2, 2), (g2, 3), (g2, 4), (g2, 5), (g2, 6), (g3, 0), (g3, 2), (g3, 4), (g3, 5), (g4, 0), (g4, 2), (g4, 4)]
def ptrA (g1 g2 g3 g4 : Nat) : Array Value := ((ptrs g1 g2 g3 g4).map fun p => Value.pointer (some ⟨p.1, p.2, none⟩)).toArray
theorem ptr_at {g1 g2 g3 g4 f : Nat} (h : f < 16) : ∃ b o, (b, o) ∈ ptrs g1 g2 g3 g4 ∧ (ptrA g1 g2 g3 g4)[f]? = some (.pointer (some ⟨b, o, none⟩)) := by
  have hl : f < (ptrs g1 g2 g3 g4).length := h
  refine ⟨((ptrs g1 g2 g3 g4)[f]).1, ((ptrs g1 g2 g3 g4)[f]).2, List.getElem_mem _, ?_⟩
  unfold ptrA
  simp [hl]

/-- Four records, each in a block of its own. -/
structure Four (W : World) (T1 T2 T3 T4 : TypeId) (g1 g2 g3 g4 : Nat) (x : Std) (y : Terms) (z : Sent) (u : Clm) : Prop where
  k1 : Blk W g1 #[.int .u8 x.cl, .int .i64 x.fr, .int .i64 x.to, .int .i64 x.mi] T1
  k2 : Blk W g2 #[.int .u8 y.cl, .int .i64 y.free, .int .i64 y.share, .int .i64 y.most, .int .i64 y.after, .int .i64 y.limit, .int .i64 y.wi] T2
  k3 : Blk W g3 #[.int .i64 z.item, .int .u8 z.cl, .int .i64 z.fr, .int .i64 z.to, .int .i64 z.acc, .int .i64 z.del] T3
  k4 : Blk W g4 #[.int .i64 u.id, .int .i64 u.item, .int .i64 u.at_, .int .u8 u.kind, .int .i64 u.post, .int .i64 u.val] T4
  n12 : g1 ≠ g2
  n13 : g1 ≠ g3
  n14 : g1 ≠ g4
  n23 : g2 ≠ g3
  n24 : g2 ≠ g4
  n34 : g3 ≠ g4
section
variable {W W' : World} {T1 T2 T3 T4 : TypeId} {g1 g2 g3 g4 : Nat} {x : Std} {y : Terms} {z : Sent} {u : Clm}
theorem Four.below (h : Four W T1 T2 T3 T4 g1 g2 g3 g4 x y z u) (hb : Below W.heap.size W W') : Four W' T1 T2 T3 T4 g1 g2 g3 g4 x y z u :=
  ⟨h.k1.below hb h.k1.lt, h.k2.below hb h.k2.lt, h.k3.below hb h.k3.lt, h.k4.below hb h.k4.lt, h.n12, h.n13, h.n14, h.n23, h.n24, h.n34⟩
theorem Four.at1 (h : Four W T1 T2 T3 T4 g1 g2 g3 g4 x y z u) (i : Nat) (v : Value) (x' : Std) (e : (#[.int .u8 x.cl, .int .i64 x.fr, .int .i64 x.to, .int .i64 x.mi] : Array Value).setIfInBounds i v = #[.int .u8 x'.cl, .int .i64 x'.fr, .int .i64 x'.to, .int .i64 x'.mi]) : Four (W.setCell ⟨g1, i, none⟩ v) T1 T2 T3 T4 g1 g2 g3 g4 x' y z u :=
  ⟨e ▸ h.k1.set i v, h.k2.other' i v (Ne.symm h.n12), h.k3.other' i v (Ne.symm h.n13), h.k4.other' i v (Ne.symm h.n14), h.n12, h.n13, h.n14, h.n23, h.n24, h.n34⟩
theorem Four.at2 (h : Four W T1 T2 T3 T4 g1 g2 g3 g4 x y z u) (i : Nat) (v : Value) (y' : Terms) (e : (#[.int .u8 y.cl, .int .i64 y.free, .int .i64 y.share, .int .i64 y.most, .int .i64 y.after, .int .i64 y.limit, .int .i64 y.wi] : Array Value).setIfInBounds i v = #[.int .u8 y'.cl, .int .i64 y'.free, .int .i64 y'.share, .int .i64 y'.most, .int .i64 y'.after, .int .i64 y'.limit, .int .i64 y'.wi]) : Four (W.setCell ⟨g2, i, none⟩ v) T1 T2 T3 T4 g1 g2 g3 g4 x y' z u :=
  ⟨h.k1.other' i v h.n12, e ▸ h.k2.set i v, h.k3.other' i v (Ne.symm h.n23), h.k4.other' i v (Ne.symm h.n24), h.n12, h.n13, h.n14, h.n23, h.n24, h.n34⟩
theorem Four.at3 (h : Four W T1 T2 T3 T4 g1 g2 g3 g4 x y z u) (i : Nat) (v : Value) (z' : Sent) (e : (#[.int .i64 z.item, .int .u8 z.cl, .int .i64 z.fr, .int .i64 z.to, .int .i64 z.acc, .int .i64 z.del] : Array Value).setIfInBounds i v = #[.int .i64 z'.item, .int .u8 z'.cl, .int .i64 z'.fr, .int .i64 z'.to, .int .i64 z'.acc, .int .i64 z'.del]) : Four (W.setCell ⟨g3, i, none⟩ v) T1 T2 T3 T4 g1 g2 g3 g4 x y z' u :=
  ⟨h.k1.other' i v h.n13, h.k2.other' i v h.n23, e ▸ h.k3.set i v, h.k4.other' i v (Ne.symm h.n34), h.n12, h.n13, h.n14, h.n23, h.n24, h.n34⟩
theorem Four.at4 (h : Four W T1 T2 T3 T4 g1 g2 g3 g4 x y z u) (i : Nat) (v : Value) (u' : Clm) (e : (#[.int .i64 u.id, .int .i64 u.item, .int .i64 u.at_, .int .u8 u.kind, .int .i64 u.post, .int .i64 u.val] : Array Value).setIfInBounds i v = #[.int .i64 u'.id, .int .i64 u'.item, .int .i64 u'.at_, .int .u8 u'.kind, .int .i64 u'.post, .int .i64 u'.val]) : Four (W.setCell ⟨g4, i, none⟩ v) T1 T2 T3 T4 g1 g2 g3 g4 x y z u' :=
  ⟨h.k1.other' i v h.n14, h.k2.other' i v h.n24, h.k3.other' i v h.n34, e ▸ h.k4.set i v, h.n12, h.n13, h.n14, h.n23, h.n24, h.n34⟩
/-- One of the sixteen is written: the kinds and classes stay. -/
theorem Four.poke (h : Four W T1 T2 T3 T4 g1 g2 g3 g4 x y z u) (n : Int) {b o : Nat} (hp : (b, o) ∈ ptrs g1 g2 g3 g4) :
    (∃ m : Int, W.cell? ⟨b, o, none⟩ = some (.int .i64 m)) ∧ W.frozen? ⟨b, o, none⟩ = false ∧ (b = g1 ∨ b = g2 ∨ b = g3 ∨ b = g4) ∧ ∃ x' y' z' u', x'.cl = x.cl ∧ y'.cl = y.cl ∧ z'.cl = z.cl ∧ u'.kind = u.kind ∧ Four (W.setCell ⟨b, o, none⟩ (.int .i64 n)) T1 T2 T3 T4 g1 g2 g3 g4 x' y' z' u' := by
  simp [ptrs] at hp
  rcases hp with ⟨rfl, rfl⟩ | ⟨rfl, rfl⟩ | ⟨rfl, rfl⟩ | ⟨rfl, rfl⟩ | ⟨rfl, rfl⟩ | ⟨rfl, rfl⟩ | ⟨rfl, rfl⟩ | ⟨rfl, rfl⟩ | ⟨rfl, rfl⟩ | ⟨rfl, rfl⟩ | ⟨rfl, rfl⟩ | ⟨rfl, rfl⟩ | ⟨rfl, rfl⟩ | ⟨rfl, rfl⟩ | ⟨rfl, rfl⟩ | ⟨rfl, rfl⟩
  · exact ⟨⟨_, h.k1.cells 1⟩, h.k1.free 1, Or.inl rfl, { x with fr := n }, y, z, u, rfl, rfl, rfl, rfl, h.at1 1 (.int .i64 n) { x with fr := n } rfl⟩
  · exact ⟨⟨_, h.k1.cells 2⟩, h.k1.free 2, Or.inl rfl, { x with «to» := n }, y, z, u, rfl, rfl, rfl, rfl, h.at1 2 (.int .i64 n) { x with «to» := n } rfl⟩
  · exact ⟨⟨_, h.k1.cells 3⟩, h.k1.free 3, Or.inl rfl, { x with mi := n }, y, z, u, rfl, rfl, rfl, rfl, h.at1 3 (.int .i64 n) { x with mi := n } rfl⟩
  · exact ⟨⟨_, h.k2.cells 1⟩, h.k2.free 1, Or.inr (Or.inl rfl), x, { y with free := n }, z, u, rfl, rfl, rfl, rfl, h.at2 1 (.int .i64 n) { y with free := n } rfl⟩
  · exact ⟨⟨_, h.k2.cells 2⟩, h.k2.free 2, Or.inr (Or.inl rfl), x, { y with share := n }, z, u, rfl, rfl, rfl, rfl, h.at2 2 (.int .i64 n) { y with share := n } rfl⟩
  · exact ⟨⟨_, h.k2.cells 3⟩, h.k2.free 3, Or.inr (Or.inl rfl), x, { y with most := n }, z, u, rfl, rfl, rfl, rfl, h.at2 3 (.int .i64 n) { y with most := n } rfl⟩
  · exact ⟨⟨_, h.k2.cells 4⟩, h.k2.free 4, Or.inr (Or.inl rfl), x, { y with after := n }, z, u, rfl, rfl, rfl, rfl, h.at2 4 (.int .i64 n) { y with after := n } rfl⟩
  · exact ⟨⟨_, h.k2.cells 5⟩, h.k2.free 5, Or.inr (Or.inl rfl), x, { y with limit := n }, z, u, rfl, rfl, rfl, rfl, h.at2 5 (.int .i64 n) { y with limit := n } rfl⟩
  · exact ⟨⟨_, h.k2.cells 6⟩, h.k2.free 6, Or.inr (Or.inl rfl), x, { y with wi := n }, z, u, rfl, rfl, rfl, rfl, h.at2 6 (.int .i64 n) { y with wi := n } rfl⟩
  · exact ⟨⟨_, h.k3.cells 0⟩, h.k3.free 0, Or.inr (Or.inr (Or.inl rfl)), x, y, { z with item := n }, u, rfl, rfl, rfl, rfl, h.at3 0 (.int .i64 n) { z with item := n } rfl⟩
  · exact ⟨⟨_, h.k3.cells 2⟩, h.k3.free 2, Or.inr (Or.inr (Or.inl rfl)), x, y, { z with fr := n }, u, rfl, rfl, rfl, rfl, h.at3 2 (.int .i64 n) { z with fr := n } rfl⟩
  · exact ⟨⟨_, h.k3.cells 4⟩, h.k3.free 4, Or.inr (Or.inr (Or.inl rfl)), x, y, { z with acc := n }, u, rfl, rfl, rfl, rfl, h.at3 4 (.int .i64 n) { z with acc := n } rfl⟩
  · exact ⟨⟨_, h.k3.cells 5⟩, h.k3.free 5, Or.inr (Or.inr (Or.inl rfl)), x, y, { z with del := n }, u, rfl, rfl, rfl, rfl, h.at3 5 (.int .i64 n) { z with del := n } rfl⟩
  · exact ⟨⟨_, h.k4.cells 0⟩, h.k4.free 0, Or.inr (Or.inr (Or.inr rfl)), x, y, z, { u with id := n }, rfl, rfl, rfl, rfl, h.at4 0 (.int .i64 n) { u with id := n } rfl⟩
  · exact ⟨⟨_, h.k4.cells 2⟩, h.k4.free 2, Or.inr (Or.inr (Or.inr rfl)), x, y, z, { u with at_ := n }, rfl, rfl, rfl, rfl, h.at4 2 (.int .i64 n) { u with at_ := n } rfl⟩
  · exact ⟨⟨_, h.k4.cells 4⟩, h.k4.free 4, Or.inr (Or.inr (Or.inr rfl)), x, y, z, { u with post := n }, rfl, rfl, rfl, rfl, h.at4 4 (.int .i64 n) { u with post := n } rfl⟩
theorem Four.rds (h : Four W T1 T2 T3 T4 g1 g2 g3 g4 x y z u) : Rd encStd 4 W (some ⟨g1, 0, none⟩) [x] ∧ Rd encTerms 7 W (some ⟨g2, 0, none⟩) [y] ∧ Rd encSent 6 W (some ⟨g3, 0, none⟩) [z] ∧ Rd encClm 6 W (some ⟨g4, 0, none⟩) [u] :=
  ⟨rd_blk (enc := encStd) (k := 4) (fun _ => rfl) h.k1 rfl, rd_blk (enc := encTerms) (k := 7) (fun _ => rfl) h.k2 rfl, rd_blk (enc := encSent) (k := 6) (fun _ => rfl) h.k3 rfl, rd_blk (enc := encClm) (k := 6) (fun _ => rfl) h.k4 rfl⟩
end
theorem blk_ne {W : World} {g g' : Nat} {a a' : Array Value} {T T' : TypeId} (h : Blk W g a T) (h' : Blk W g' a' T') (hT : T ≠ T') : g ≠ g' := by
  rintro rfl
  unfold Blk at h h'
  rw [h] at h'
  simp at h'
  exact hT h'.2

def lateF : Clm := ⟨1, 9, 30000, 1, 100, 7⟩
set_option maxHeartbeats 40000000 in
theorem fields_any (n : Int) (w : World) : Calls Tryz.prog 23 #[.int .i64 n] w fun e w' => e = .returned (.bool true) ∧ Below w.heap.size w w' := by
  obtain ⟨i1, hi1, hy0, hy1, hy2⟩ := info_parts2 infClm
  have eg20 : ∀ (args : Array Value) (w : World), (callFunc 20 args).run Tryz.prog w = .ok (.enter 20 args) w := enters_of Tryz.func20 (by kernel_rfl) rfl
  have eg21 : ∀ (args : Array Value) (w : World), (callFunc 21 args).run Tryz.prog w = .ok (.enter 21 args) w := enters_of Tryz.func21 (by kernel_rfl) rfl
  have eg22 : ∀ (args : Array Value) (w : World), (callFunc 22 args).run Tryz.prog w = .ok (.enter 22 args) w := enters_of Tryz.func22 (by kernel_rfl) rfl
  have EG := Lib.hid (And.intro eg20 (And.intro eg21 eg22))
  clear eg20 eg21 eg22
  go_enter Tryz.func23, Tryz.ntmps23
  go_wp2_with fail
  refine wp_new fun W1 hk1 hb1 => ?_
  have KL := Lib.hid hk1
  have BL := Lib.hid hb1
  clear hk1 hb1
  go_loopg [4] 16 (fun gg s4 wr => ∃ f : Nat, f ≤ 16 ∧ 16 - f ≤ gg ∧ s4 = .int .i64 f ∧ Aside (Below W1.heap.size W1 wr))
  case atStart => exact ⟨0, by omega, by omega, rfl, Below.refl _ _⟩
  case round =>
    obtain ⟨f, hf, hg, rfl, hw⟩ := hrel
    by_cases hf16 : f < 16
    · have hfI : (f : Int) < 16 := by omega
      have BW := Lib.hid hw.out
      have KW := Lib.hid (KL.out.below hw.out KL.out.lt)
      clear hw
      go_wp2_with fail
      refine wp_region_any (by kernel_rfl) ?_
      change wpAny _ _ _ _ _ _ _ (World.drew _)
      refine wpAny_poolW [0, 1, 2, 3, 4, 5, 6, 7, 8] [19, 20, 21, 22, 23, 5, 6, 7, 8] (fun κ v w' => match κ with
        | 0 => OneOf encStd 27 wr.heap.size std1 v w'
        | 1 => OneOf encTerms 41 wr.heap.size terms1 v w'
        | 2 => OneOf encSent 34 wr.heap.size (sent1 6000) v w'
        | 3 => v = .agg #[.int .i64 1, .int .i64 9, .int .i64 30000, .int .u8 1, .int .i64 100, .int .i64 7]
        | 4 => OneOf encClm 31 wr.heap.size lateF v w'
        | 5 => OneOf encStd 27 wr.heap.size std1 v w'
        | 6 => OneOf encTerms 41 wr.heap.size terms1 v w'
        | 7 => OneOf encSent 34 wr.heap.size (sent1 6000) v w'
        | _ => OneOf encClm 31 wr.heap.size lateF v w') (by decide) (by decide) rfl ?lahlt (by decide) (by decide) (by kernel_rfl) ?lahgd ?lahR ⟨⟨⟨⟨⟨⟨⟨⟨⟨trivial, ?lao0⟩, ?lao1⟩, ?lao2⟩, ?lao3⟩, ?lao4⟩, ?lao5⟩, ?lao6⟩, ?lao7⟩, ?lao8⟩ ?ladone
      case lahlt =>
        intro d hd
        simp at hd
        rcases hd with rfl | rfl | rfl | rfl | rfl | rfl | rfl | rfl | rfl <;> simp
      case lahgd =>
        intro i hi o ho a _
        refine wanted_none ?_
        simp at hi
        rcases hi with rfl | rfl | rfl | rfl | rfl | rfl | rfl | rfl | rfl <;> (simp at ho; subst ho; rfl)
      case lahR =>
        intro k v w1 w2 h hb
        match k, h with
        | 0, h => exact OneOf.below h hb
        | 1, h => exact OneOf.below h hb
        | 2, h => exact OneOf.below h hb
        | 3, h => exact h
        | 4, h => exact OneOf.below h hb
        | 5, h => exact OneOf.below h hb
        | 6, h => exact OneOf.below h hb
        | 7, h => exact OneOf.below h hb
        | k + 8, h => exact OneOf.below h hb
      case lao0 => exact pool_call 19 20 (.func 20) #[] #[] #[] rfl rfl rfl rfl rfl EG.out.1 (fun a _ _ => ⟨rfl, by simp⟩) (fun w1 h1 => (standard_new w1).mono fun e w' ⟨he, hw⟩ => ⟨_, he, hw ▸ (Below.refl _ _).alloc (Nat.le_refl _) _, w1.heap.size, rfl, h1.size, hw ▸ Blk.new rfl⟩)
      case lao1 => exact pool_call 20 21 (.func 21) #[] #[] #[] rfl rfl rfl rfl rfl EG.out.2.1 (fun a _ _ => ⟨rfl, by simp⟩) (fun w1 h1 => (terms_new w1).mono fun e w' ⟨he, hw⟩ => ⟨_, he, hw ▸ (Below.refl _ _).alloc (Nat.le_refl _) _, w1.heap.size, rfl, h1.size, hw ▸ Blk.new rfl⟩)
      case lao2 => exact pool_call 21 22 (.func 22) #[.const (.int .i64 6000)] #[3] #[.int .i64 6000] rfl rfl rfl rfl rfl EG.out.2.2 (fun a ha _ => ⟨rfl, by simp [Act.eval]⟩) (fun w1 h1 => (sent_new 6000 w1).mono fun e w' ⟨he, hw⟩ => ⟨_, he, hw ▸ (Below.refl _ _).alloc (Nat.le_refl _) _, w1.heap.size, rfl, h1.size, hw ▸ Blk.new rfl⟩)
      case lao3 =>
        refine pool_load 31 3 22 ⟨w.heap.size, 0, none⟩ _ rfl rfl rfl rfl rfl (by decide) rfl ?_ (fun _ => rfl)
        intro wz hz
        have kz := (KW.out.below ((Below.refl wr.heap.size wr).drew.trans hz) KW.out.lt).cells
        go_simp
      case lao4 => exact pool_oneOf encClm lateF 48 31 6 22 23 3 3 (.agg #[.int .i64 1, .int .i64 9, .int .i64 30000, .int .u8 1, .int .i64 100, .int .i64 7]) i1 _ Tryz.underlying48 hi1 hy0 hy1 (by decide) (by decide) (by go_simp; rfl) rfl rfl rfl rfl rfl rfl rfl (by kernel_rfl) (fun _ _ h => h) (fun _ _ h => h)
      case lao5 => exact pool_assign 19 5 0 0 rfl rfl rfl rfl rfl rfl rfl (by kernel_rfl) (fun _ _ h => h)
      case lao6 => exact pool_assign 20 6 1 1 rfl rfl rfl rfl rfl rfl rfl (by kernel_rfl) (fun _ _ h => h)
      case lao7 => exact pool_assign 21 7 2 2 rfl rfl rfl rfl rfl rfl rfl (by kernel_rfl) (fun _ _ h => h)
      case lao8 => exact pool_assign 23 8 4 4 rfl rfl rfl rfl rfl rfl rfl (by kernel_rfl) (fun _ _ h => h)
      case ladone =>
        intro w9 hb9 v0 h0 v1 h1 v2 h2 v3 h3 v4 h4 v5 h5 v6 h6 v7 h7 v8 h8
        obtain ⟨g1, rfl, q1, k1⟩ : OneOf encStd 27 wr.heap.size std1 v5 w9 := h5
        obtain ⟨g2, rfl, q2, k2⟩ : OneOf encTerms 41 wr.heap.size terms1 v6 w9 := h6
        obtain ⟨g3, rfl, q3, k3⟩ : OneOf encSent 34 wr.heap.size (sent1 6000) v7 w9 := h7
        obtain ⟨g4, rfl, q4, k4⟩ : OneOf encClm 31 wr.heap.size lateF v8 w9 := h8
        have F4 : Four w9 27 41 34 31 g1 g2 g3 g4 std1 terms1 (sent1 6000) lateF := ⟨k1, k2, k3, k4, blk_ne k1 k2 (by decide), blk_ne k1 k3 (by decide), blk_ne k1 k4 (by decide), blk_ne k2 k3 (by decide), blk_ne k2 k4 (by decide), blk_ne k3 k4 (by decide)⟩
        have B9 := Lib.hid (BW.out.trans (((Below.refl wr.heap.size wr).drew.trans hb9).mono BW.out.size))
        have QQ := Lib.hid (And.intro q1 (And.intro q2 (And.intro q3 q4)))
        clear h0 h1 h2 h3 h4 k1 k2 k3 k4 q1 q2 q3 q4 
        refine wpAny_done (by kernel_rfl) ?_ _
        go_wp2_with fail
        have FF := Lib.hid F4
        clear F4
        simp only [Act.put, List.setIfInBounds_toArray, List.set_cons_succ, List.set_cons_zero]
        (refine wp_region_quiet_tail 48 (by kernel_rfl) (by kernel_rfl) ?_; simp only [List.take_succ_cons, List.take_zero, List.drop_succ_cons, List.drop_zero]; (repeat (go_big_quiet_step ((fail)))); refine wpQuiet_nil ?_; intro wq hw'; obtain ⟨⟨_, hq⟩, hw''⟩ := hw'; subst hw'')
        have F5 := FF.out.below hq
        have kP : Blk (wq.alloc (.cells (ptrA g1 g2 g3 g4) 91)) wq.heap.size (ptrA g1 g2 g3 g4) 91 := Blk.new rfl
        have F6 := F5.below ((Below.refl wq.heap.size wq).alloc (Nat.le_refl _) (.cells (ptrA g1 g2 g3 g4) 91))
        obtain ⟨b, o, hbo, hpt⟩ := ptr_at (g1 := g1) (g2 := g2) (g3 := g3) (g4 := g4) hf16
        have hpc := (kP.cells f).trans hpt
        obtain ⟨⟨m0, hm0⟩, hfr, hbg, x', y', z', u', e1, e2, e3, e4, F7⟩ := F6.poke n hbo
        have F7H := Lib.hid F7
        have E7 := Lib.hid (And.intro e1 (And.intro e2 (And.intro e3 e4)))
        have bgW : W1.heap.size ≤ b := by have := BW.out.size; have := QQ.out; omega
        have B6 := Lib.hid (((B9.out.trans (hq.mono B9.out.size)).alloc (Nat.le_trans B9.out.size hq.size) (.cells (ptrA g1 g2 g3 g4) 91)).setCell (p := ⟨b, o, none⟩) bgW (.int .i64 n))
        clear F5 kP F6 hpt F7 e1 e2 e3 e4 hq hbo hbg
        simp only [ptrA, ptrs, List.map_cons, List.map_nil] at hpc hm0 hfr F7H B6
        go_wp2_with fail
        have hu1 : ∀ q ∈ [x'], 0 ≤ q.cl := by intro q hq; simp at hq; subst hq; rw [E7.out.1]; decide
        have hu2 : ∀ q ∈ [y'], 0 ≤ q.cl := by intro q hq; simp at hq; subst hq; rw [E7.out.2.1]; decide
        have hu3 : ∀ q ∈ [z'], 0 ≤ q.cl := by intro q hq; simp at hq; subst hq; rw [E7.out.2.2.1]; decide
        have hu4 : ∀ q ∈ [u'], 0 ≤ q.kind ∧ q.kind ≤ 255 := by intro q hq; simp at hq; subst hq; rw [E7.out.2.2.2]; decide
        have UU := Lib.hid (And.intro hu1 (And.intro hu2 hu3))
        have hcon := tells_any (some ⟨g1, 0, none⟩) (some ⟨g2, 0, none⟩) (some ⟨g3, 0, none⟩) (some ⟨g4, 0, none⟩) 1 1 1 1 [x'] [y'] [z'] [u'] _ F7H.out.rds.1 F7H.out.rds.2.1 F7H.out.rds.2.2.1 F7H.out.rds.2.2.2 (by simp) (by simp) (by simp) (by simp) hu1 hu2 hu3 hu4
        clear hu1 hu2 hu3 hu4 hpc hm0 hfr
        refine hcon.mono ?_
        rintro e w10 ⟨rfl, hb⟩
        have F10 := Lib.hid (F7H.out.below hb)
        have B10 := Lib.hid (B6.out.trans (hb.mono B6.out.size))
        have p1 := promises_any (some ⟨g1, 0, none⟩) 1 [x'] 1 2 3 n w10 F10.out.rds.1 (by simp) UU.out.1
        clear hcon hb
        go_wp2_with fail
        refine p1.mono ?_
        rintro e w11 ⟨rfl, hb⟩
        have F11 := Lib.hid (F10.out.below hb)
        have B11 := Lib.hid (B10.out.trans (hb.mono B10.out.size))
        have p2 := promises_any (some ⟨g1, 0, none⟩) 1 [x'] 1 n 3 500 w11 F11.out.rds.1 (by simp) UU.out.1
        clear p1 hb
        go_wp2_with fail
        refine p2.mono ?_
        rintro e w12 ⟨rfl, hb⟩
        have F12 := Lib.hid (F11.out.below hb)
        have B12 := Lib.hid (B11.out.trans (hb.mono B11.out.size))
        have p3 := promises_any (some ⟨g1, 0, none⟩) 1 [x'] 1 2 n 500 w12 F12.out.rds.1 (by simp) UU.out.1
        clear p2 hb
        go_wp2_with fail
        refine p3.mono ?_
        rintro e w13 ⟨rfl, hb⟩
        have F13 := F12.out.below hb
        have b13 := B12.out.trans (hb.mono B12.out.size)
        have k4c := F13.k4.cells
        have k4f := F13.k4.free
        have k3c := F13.k3.cells
        have k3f := F13.k3.free
        have F14 := Lib.hid (((F13.at4 3 (.int .u8 2) { u' with kind := 2 } rfl).at4 5 (.int .i64 n) { u' with kind := 2, val := n } rfl).at3 5 (.int .i64 (-1)) { z' with del := -1 } rfl)
        have hw1 := (BW.out.size)
        have hq3 := QQ.out.2.2.1
        have hq4 := QQ.out.2.2.2
        have B14 := Lib.hid (((b13.setCell (p := ⟨g4, 3, none⟩) (Nat.le_trans hw1 hq4) (.int .u8 2)).setCell (p := ⟨g4, 5, none⟩) (Nat.le_trans hw1 hq4) (.int .i64 n)).setCell (p := ⟨g3, 5, none⟩) (Nat.le_trans hw1 hq3) (.int .i64 (-1)))
        have n34 := F13.n34
        clear p3 hb F13 b13 hw1 hq3 hq4
        go_wp2_with fail
        have hcon := tells_any (some ⟨g1, 0, none⟩) (some ⟨g2, 0, none⟩) (some ⟨g3, 0, none⟩) (some ⟨g4, 0, none⟩) 1 1 1 1 [x'] [y'] [{ z' with del := -1 }] [{ u' with kind := 2, val := n }] _ F14.out.rds.1 F14.out.rds.2.1 F14.out.rds.2.2.1 F14.out.rds.2.2.2 (by simp) (by simp) (by simp) (by simp) UU.out.1 UU.out.2.1 (by intro q hq; simp at hq; subst hq; exact UU.out.2.2 z' (by simp)) (by intro q hq; simp at hq; subst hq; exact ⟨by show (0 : Int) ≤ 2; decide, by show (2 : Int) ≤ 255; decide⟩)
        refine hcon.mono ?_
        rintro e w15 ⟨rfl, hb⟩
        have B15 := Lib.hid (B14.out.trans (hb.mono B14.out.size))
        clear hcon hb k4c k4f k3c k3f n34
        go_wp2_with fail
        go_roundg (16 - (f + 1))
        case measure => omega
        case rel => exact ⟨f + 1, by omega, by omega, by go_num, B15.out⟩
    · have hf' : ¬ (f : Int) < 16 := by omega
      have BW := Lib.hid hw.out
      have KW := Lib.hid (KL.out.below hw.out KL.out.lt)
      clear hw
      go_wp2_with fail
      refine wp_region_any (by kernel_rfl) ?_
      change wpAny _ _ _ _ _ _ _ (World.drew _)
      refine wpAny_poolW [0, 1, 2, 3, 4, 5, 6, 7, 8] [119, 120, 121, 122, 123, 10, 11, 12, 13] (fun κ v w' => match κ with
        | 0 => OneOf encStd 27 wr.heap.size std1 v w'
        | 1 => OneOf encTerms 41 wr.heap.size terms1 v w'
        | 2 => OneOf encSent 34 wr.heap.size (sent1 6000) v w'
        | 3 => v = .agg #[.int .i64 1, .int .i64 9, .int .i64 30000, .int .u8 1, .int .i64 100, .int .i64 7]
        | 4 => OneOf encClm 31 wr.heap.size lateF v w'
        | 5 => OneOf encStd 27 wr.heap.size std1 v w'
        | 6 => OneOf encTerms 41 wr.heap.size terms1 v w'
        | 7 => OneOf encSent 34 wr.heap.size (sent1 6000) v w'
        | _ => OneOf encClm 31 wr.heap.size lateF v w') (by decide) (by decide) rfl ?lbhlt (by decide) (by decide) (by kernel_rfl) ?lbhgd ?lbhR ⟨⟨⟨⟨⟨⟨⟨⟨⟨trivial, ?lbo0⟩, ?lbo1⟩, ?lbo2⟩, ?lbo3⟩, ?lbo4⟩, ?lbo5⟩, ?lbo6⟩, ?lbo7⟩, ?lbo8⟩ ?lbdone
      case lbhlt =>
        intro d hd
        simp at hd
        rcases hd with rfl | rfl | rfl | rfl | rfl | rfl | rfl | rfl | rfl <;> simp
      case lbhgd =>
        intro i hi o ho a _
        refine wanted_none ?_
        simp at hi
        rcases hi with rfl | rfl | rfl | rfl | rfl | rfl | rfl | rfl | rfl <;> (simp at ho; subst ho; rfl)
      case lbhR =>
        intro k v w1 w2 h hb
        match k, h with
        | 0, h => exact OneOf.below h hb
        | 1, h => exact OneOf.below h hb
        | 2, h => exact OneOf.below h hb
        | 3, h => exact h
        | 4, h => exact OneOf.below h hb
        | 5, h => exact OneOf.below h hb
        | 6, h => exact OneOf.below h hb
        | 7, h => exact OneOf.below h hb
        | k + 8, h => exact OneOf.below h hb
      case lbo0 => exact pool_call 119 20 (.func 20) #[] #[] #[] rfl rfl rfl rfl rfl EG.out.1 (fun a _ _ => ⟨rfl, by simp⟩) (fun w1 h1 => (standard_new w1).mono fun e w' ⟨he, hw⟩ => ⟨_, he, hw ▸ (Below.refl _ _).alloc (Nat.le_refl _) _, w1.heap.size, rfl, h1.size, hw ▸ Blk.new rfl⟩)
      case lbo1 => exact pool_call 120 21 (.func 21) #[] #[] #[] rfl rfl rfl rfl rfl EG.out.2.1 (fun a _ _ => ⟨rfl, by simp⟩) (fun w1 h1 => (terms_new w1).mono fun e w' ⟨he, hw⟩ => ⟨_, he, hw ▸ (Below.refl _ _).alloc (Nat.le_refl _) _, w1.heap.size, rfl, h1.size, hw ▸ Blk.new rfl⟩)
      case lbo2 => exact pool_call 121 22 (.func 22) #[.const (.int .i64 6000)] #[3] #[.int .i64 6000] rfl rfl rfl rfl rfl EG.out.2.2 (fun a ha _ => ⟨rfl, by simp [Act.eval]⟩) (fun w1 h1 => (sent_new 6000 w1).mono fun e w' ⟨he, hw⟩ => ⟨_, he, hw ▸ (Below.refl _ _).alloc (Nat.le_refl _) _, w1.heap.size, rfl, h1.size, hw ▸ Blk.new rfl⟩)
      case lbo3 =>
        refine pool_load 31 3 122 ⟨w.heap.size, 0, none⟩ _ rfl rfl rfl rfl rfl (by decide) rfl ?_ (fun _ => rfl)
        intro wz hz
        have kz := (KW.out.below ((Below.refl wr.heap.size wr).drew.trans hz) KW.out.lt).cells
        go_simp
      case lbo4 => exact pool_oneOf encClm lateF 48 31 6 122 123 3 3 (.agg #[.int .i64 1, .int .i64 9, .int .i64 30000, .int .u8 1, .int .i64 100, .int .i64 7]) i1 _ Tryz.underlying48 hi1 hy0 hy1 (by decide) (by decide) (by go_simp; rfl) rfl rfl rfl rfl rfl rfl rfl (by kernel_rfl) (fun _ _ h => h) (fun _ _ h => h)
      case lbo5 => exact pool_assign 119 10 0 0 rfl rfl rfl rfl rfl rfl rfl (by kernel_rfl) (fun _ _ h => h)
      case lbo6 => exact pool_assign 120 11 1 1 rfl rfl rfl rfl rfl rfl rfl (by kernel_rfl) (fun _ _ h => h)
      case lbo7 => exact pool_assign 121 12 2 2 rfl rfl rfl rfl rfl rfl rfl (by kernel_rfl) (fun _ _ h => h)
      case lbo8 => exact pool_assign 123 13 4 4 rfl rfl rfl rfl rfl rfl rfl (by kernel_rfl) (fun _ _ h => h)
      case lbdone =>
        intro w9 hb9 v0 h0 v1 h1 v2 h2 v3 h3 v4 h4 v5 h5 v6 h6 v7 h7 v8 h8
        obtain ⟨g1, rfl, q1, k1⟩ : OneOf encStd 27 wr.heap.size std1 v5 w9 := h5
        obtain ⟨g2, rfl, q2, k2⟩ : OneOf encTerms 41 wr.heap.size terms1 v6 w9 := h6
        obtain ⟨g3, rfl, q3, k3⟩ : OneOf encSent 34 wr.heap.size (sent1 6000) v7 w9 := h7
        obtain ⟨g4, rfl, q4, k4⟩ : OneOf encClm 31 wr.heap.size lateF v8 w9 := h8
        have F4 : Four w9 27 41 34 31 g1 g2 g3 g4 std1 terms1 (sent1 6000) lateF := ⟨k1, k2, k3, k4, blk_ne k1 k2 (by decide), blk_ne k1 k3 (by decide), blk_ne k1 k4 (by decide), blk_ne k2 k3 (by decide), blk_ne k2 k4 (by decide), blk_ne k3 k4 (by decide)⟩
        have B9 := Lib.hid (BW.out.trans (((Below.refl wr.heap.size wr).drew.trans hb9).mono BW.out.size))
        have QQ := Lib.hid (And.intro q1 (And.intro q2 (And.intro q3 q4)))
        clear h0 h1 h2 h3 h4 k1 k2 k3 k4 q1 q2 q3 q4 
        refine wpAny_done (by kernel_rfl) ?_ _
        simp only [Act.put, List.setIfInBounds_toArray, List.set_cons_succ, List.set_cons_zero]
        have k1c := F4.k1.cells
        have k1f := F4.k1.free
        have k2c := F4.k2.cells
        have k2f := F4.k2.free
        have k3c := F4.k3.cells
        have k3f := F4.k3.free
        have k4c := F4.k4.cells
        have k4f := F4.k4.free
        have n12 := F4.n12
        have n13 := F4.n13
        have n14 := F4.n14
        have n23 := F4.n23
        have n24 := F4.n24
        have n34 := F4.n34
        have FF := Lib.hid F4
        clear F4
        go_wp2_with fail
        have F18 := ((((FF.out.at1 0 (.int .u8 (n % 256)) ⟨n % 256, 2, 3, 1000⟩ rfl).at2 0 (.int .u8 (n % 256)) ⟨n % 256, 60, 2500, 10000, 10000, 5000, 30⟩ rfl).at3 1 (.int .u8 (n % 256)) ⟨9, n % 256, 2, 3, 500, 6000⟩ rfl).at4 3 (.int .u8 (n % 256)) ⟨1, 9, 30000, n % 256, 100, 7⟩ rfl).at4 1 (.int .i64 n) ⟨1, n, 30000, n % 256, 100, 7⟩ rfl
        have bwr : Below wr.heap.size wr w9 := (Below.refl wr.heap.size wr).drew.trans hb9
        have b18 := ((((bwr.setCell (p := ⟨g1, 0, none⟩) QQ.out.1 (.int .u8 (n % 256))).setCell (p := ⟨g2, 0, none⟩) QQ.out.2.1 (.int .u8 (n % 256))).setCell (p := ⟨g3, 1, none⟩) QQ.out.2.2.1 (.int .u8 (n % 256))).setCell (p := ⟨g4, 3, none⟩) QQ.out.2.2.2 (.int .u8 (n % 256))).setCell (p := ⟨g4, 1, none⟩) QQ.out.2.2.2 (.int .i64 n)
        generalize hW18 : ((((w9.setCell ⟨g1, 0, none⟩ (.int .u8 (n % 256))).setCell ⟨g2, 0, none⟩ (.int .u8 (n % 256))).setCell ⟨g3, 1, none⟩ (.int .u8 (n % 256))).setCell ⟨g4, 3, none⟩ (.int .u8 (n % 256))).setCell ⟨g4, 1, none⟩ (.int .i64 n) = W18 at F18 b18
        try rw [hW18]
        have F19 := Lib.hid F18
        have B18 := Lib.hid (BL.out.trans ((BW.out.trans (b18.mono BW.out.size)).mono BL.out.size))
        have K18 := Lib.hid (KW.out.below b18 KW.out.lt)
        have hnn : 0 ≤ n % 256 ∧ n % 256 ≤ 255 := by omega
        have HN := Lib.hid hnn
        clear hW18 F18 b18 bwr hb9 k1c k1f k2c k2f k3c k3f k4c k4f n12 n13 n14 n23 n24 n34 hnn BW KW BL KL FF B9 QQ
        refine wp_region_any (by kernel_rfl) ?_
        change wpAny _ _ _ _ _ _ _ (World.drew _)
        (refine wpAny_take (i := 0) (v := (.slice (some ⟨g1, 0, none⟩) 1 1)) rfl (by kernel_rfl) (by kernel_rfl) (by kernel_rfl) (fun _ _ _ h => h) (Or.inl ⟨by rfl, ?_⟩) ?_; case _ => (intro w; go_simp; try (with_reducible rfl)))
        (refine wpAny_take (i := 3) (v := (.slice (some ⟨g4, 0, none⟩) 1 1)) rfl (by kernel_rfl) (by kernel_rfl) (by kernel_rfl) (fun _ _ _ h => h) (Or.inl ⟨by rfl, ?_⟩) ?_; case _ => (intro w; go_simp; try (with_reducible rfl)))
        (refine wpAny_take (i := 4) (v := (.slice (some ⟨g4, 0, none⟩) 0 1)) rfl (by kernel_rfl) (by kernel_rfl) (by kernel_rfl) (fun _ _ _ h => h) (Or.inl ⟨by rfl, ?_⟩) ?_; case _ => (intro w; go_simp; try (with_reducible rfl)))
        refine wpAny_one 1 (by kernel_rfl) rfl rfl (fun K hK => ?_)
        go_simp
        refine (terms_new _).mono ?_
        rintro e w20 ⟨rfl, hw20⟩
        try refine hK _ _ ?_
        have b20 : Below W18.heap.size W18 w20 := by rw [hw20]; exact (Below.refl W18.heap.size W18).drew.alloc (Nat.le_refl _) _
        have k20 : Blk w20 W18.drew.heap.size #[.int .u8 1, .int .i64 60, .int .i64 2500, .int .i64 10000, .int .i64 10000, .int .i64 5000, .int .i64 30] 41 := by rw [hw20]; exact Blk.new rfl
        clear hw20
        refine wpAny_one 2 (by kernel_rfl) rfl rfl (fun K hK => ?_)
        go_simp
        refine (sent_new 1 _).mono ?_
        rintro e w21 ⟨rfl, hw21⟩
        try refine hK _ _ ?_
        have b21 : Below w20.heap.size w20 w21 := by rw [hw21]; exact (Below.refl w20.heap.size w20).alloc (Nat.le_refl _) _
        have k21 : Blk w21 w20.heap.size #[.int .i64 9, .int .u8 1, .int .i64 2, .int .i64 3, .int .i64 500, .int .i64 1] 34 := by rw [hw21]; exact Blk.new rfl
        clear hw21
        have F21 := Lib.hid ((F19.out.below b20).below b21)
        have B21 := Lib.hid (B18.out.trans ((b20.trans (b21.mono b20.size)).mono B18.out.size))
        have K21 := Lib.hid ((K18.out.below b20 K18.out.lt).below b21 (Nat.lt_of_lt_of_le K18.out.lt b20.size))
        have hc1 := tells_any (some ⟨g1, 0, none⟩) (some ⟨W18.drew.heap.size, 0, none⟩) (some ⟨w20.heap.size, 0, none⟩) (some ⟨g4, 0, none⟩) 1 1 1 1 [(⟨n % 256, 2, 3, 1000⟩ : Std)] [terms1] [sent1 1] [] w21 F21.out.rds.1 (rd_blk (enc := encTerms) (k := 7) (fun _ => rfl) (k20.below b21 k20.lt) rfl) (rd_blk (enc := encSent) (k := 6) (fun _ => rfl) k21 rfl) (Rd.nil _ _ _ _) (by simp) (by simp) (by simp) (by simp) (by intro q hq; simp at hq; subst hq; exact HN.out.1) (by simp [terms1]) (by simp [sent1]) (by simp)
        clear b20 b21 k20 k21
        refine wpAny_one 5 (by kernel_rfl) rfl rfl (fun K hK => ?_)
        go_simp
        refine hc1.mono ?_
        rintro e w22 ⟨rfl, hb⟩
        try refine hK _ _ ?_
        have F22 := Lib.hid (F21.out.below hb)
        have B22 := Lib.hid (B21.out.trans (hb.mono B21.out.size))
        have K22 := Lib.hid (K21.out.below hb K21.out.lt)
        clear hc1 hb
        refine wpAny_one 6 (by kernel_rfl) rfl rfl (fun K hK => ?_)
        go_simp
        refine hK _ _ ?_
        (refine wpAny_take (i := 8) (v := (.slice (some ⟨g2, 0, none⟩) 1 1)) rfl (by kernel_rfl) (by kernel_rfl) (by kernel_rfl) (fun _ _ _ h => h) (Or.inl ⟨by rfl, ?_⟩) ?_; case _ => (intro w; go_simp; try (with_reducible rfl)))
        (refine wpAny_take (i := 9) (v := (.slice (some ⟨g3, 0, none⟩) 1 1)) rfl (by kernel_rfl) (by kernel_rfl) (by kernel_rfl) (fun _ _ _ h => h) (Or.inl ⟨by rfl, ?_⟩) ?_; case _ => (intro w; go_simp; try (with_reducible rfl)))
        refine wpAny_poolW [7, 10, 11] [155, 158, 159] (fun κ v w' => match κ with
          | 0 => OneOf encStd 27 w22.heap.size std1 v w'
          | 1 => v = .agg #[.int .i64 1, .int .i64 9, .int .i64 30000, .int .u8 1, .int .i64 100, .int .i64 7]
          | _ => OneOf encClm 31 w22.heap.size lateF v w') (by decide) (by decide) rfl ?zhlt (by decide) (by decide) (by kernel_rfl) ?zhgd ?zhR ⟨⟨⟨trivial, ?zo0⟩, ?zo1⟩, ?zo2⟩ ?zdone
        case zhlt =>
          intro d hd
          simp at hd
          rcases hd with rfl | rfl | rfl <;> simp [Act.put]
        case zhgd =>
          intro i hi o ho a ha
          simp at hi
          rcases hi with rfl | rfl | rfl <;> (simp at ho; subst ho; exact wanted_some (t := 154) rfl rfl rfl (by decide) rfl ha)
        case zhR =>
          intro k v w1 w2 h hb
          match k, h with
          | 0, h => exact OneOf.below h hb
          | 1, h => exact h
          | k + 2, h => exact OneOf.below h hb
        case zo0 => exact pool_call 155 20 (.func 20) #[] #[] #[] rfl rfl rfl rfl rfl EG.out.1 (fun a _ _ => ⟨rfl, by simp⟩) (fun w1 h1 => (standard_new w1).mono fun e w' ⟨he, hw⟩ => ⟨_, he, hw ▸ (Below.refl _ _).alloc (Nat.le_refl _) _, w1.heap.size, rfl, h1.size, hw ▸ Blk.new rfl⟩)
        case zo1 =>
          refine pool_load 31 3 158 ⟨w.heap.size, 0, none⟩ _ rfl rfl rfl rfl rfl (by decide) rfl ?_ (fun _ => rfl)
          intro wz hz
          have kz := (K22.out.below hz K22.out.lt).cells
          go_simp
        case zo2 => exact pool_oneOf encClm lateF 48 31 6 158 159 1 10 (.agg #[.int .i64 1, .int .i64 9, .int .i64 30000, .int .u8 1, .int .i64 100, .int .i64 7]) i1 _ Tryz.underlying48 hi1 hy0 hy1 (by decide) (by decide) (by go_simp; rfl) rfl rfl rfl rfl rfl rfl rfl (by kernel_rfl) (fun _ _ h => h) (fun _ _ h => h)
        case zdone =>
          intro w23 hb23 v0 h0 v1 h1 v2 h2
          obtain ⟨a1, rfl, _, k1⟩ : OneOf encStd 27 w22.heap.size std1 v0 w23 := h0
          obtain ⟨a4, rfl, _, k4⟩ : OneOf encClm 31 w22.heap.size lateF v2 w23 := h2
          have F23 := Lib.hid (F22.out.below hb23)
          have B23 := Lib.hid (B22.out.trans (hb23.mono B22.out.size))
          have hc2 := tells_any (some ⟨a1, 0, none⟩) (some ⟨g2, 0, none⟩) (some ⟨g3, 0, none⟩) (some ⟨a4, 0, none⟩) 1 1 1 1 [std1] [(⟨n % 256, 60, 2500, 10000, 10000, 5000, 30⟩ : Terms)] [(⟨9, n % 256, 2, 3, 500, 6000⟩ : Sent)] [lateF] w23 (OneOf.rd (base := 0) (fun _ => rfl) k1) F23.out.rds.2.1 F23.out.rds.2.2.1 (OneOf.rd (base := 0) (fun _ => rfl) k4) (by simp) (by simp) (by simp) (by simp) (by simp [std1]) (by intro q hq; simp at hq; subst hq; exact HN.out.1) (by intro q hq; simp at hq; subst hq; exact HN.out.1) (by simp [lateF])
          clear h1 k1 k4 hb23
          refine wpAny_oneW 12 (by kernel_rfl) rfl (by rfl) (fun K hK => ?_)
          go_simp
          refine hc2.mono ?_
          rintro e w24 ⟨rfl, hb⟩
          try refine hK _ _ ?_
          have F24 := Lib.hid (F23.out.below hb)
          have B24 := Lib.hid (B23.out.trans (hb.mono B23.out.size))
          clear hc2 hb
          refine wpAny_one 13 (by kernel_rfl) rfl rfl (fun K hK => ?_)
          go_simp
          refine hK _ _ ?_
          refine wpAny_one 14 (by kernel_rfl) rfl rfl (fun K hK => ?_)
          go_simp
          refine hK _ _ ?_
          (refine wpAny_take (i := 18) (v := (.slice (some ⟨g4, 0, none⟩) 1 1)) rfl (by kernel_rfl) (by kernel_rfl) (by kernel_rfl) (fun _ _ _ h => h) (Or.inl ⟨by rfl, ?_⟩) ?_; case _ => (intro w; go_simp; try (with_reducible rfl)))
          refine wpAny_oneW 15 (by kernel_rfl) rfl (by rfl) (fun K hK => ?_)
          go_simp
          refine (standard_new _).mono ?_
          rintro e w25 ⟨rfl, hw25⟩
          try refine hK _ _ ?_
          have b25 : Below w24.heap.size w24 w25 := by rw [hw25]; exact (Below.refl w24.heap.size w24).alloc (Nat.le_refl _) _
          have k25 : Blk w25 w24.heap.size #[.int .u8 1, .int .i64 2, .int .i64 3, .int .i64 1000] 27 := by rw [hw25]; exact Blk.new rfl
          clear hw25
          refine wpAny_oneW 16 (by kernel_rfl) rfl (by rfl) (fun K hK => ?_)
          go_simp
          refine (terms_new _).mono ?_
          rintro e w26 ⟨rfl, hw26⟩
          try refine hK _ _ ?_
          have b26 : Below w25.heap.size w25 w26 := by rw [hw26]; exact (Below.refl w25.heap.size w25).alloc (Nat.le_refl _) _
          have k26 : Blk w26 w25.heap.size #[.int .u8 1, .int .i64 60, .int .i64 2500, .int .i64 10000, .int .i64 10000, .int .i64 5000, .int .i64 30] 41 := by rw [hw26]; exact Blk.new rfl
          clear hw26
          refine wpAny_oneW 17 (by kernel_rfl) rfl (by rfl) (fun K hK => ?_)
          go_simp
          refine (sent_new 1 _).mono ?_
          rintro e w27 ⟨rfl, hw27⟩
          try refine hK _ _ ?_
          have b27 : Below w26.heap.size w26 w27 := by rw [hw27]; exact (Below.refl w26.heap.size w26).alloc (Nat.le_refl _) _
          have k27 : Blk w27 w26.heap.size #[.int .i64 9, .int .u8 1, .int .i64 2, .int .i64 3, .int .i64 500, .int .i64 1] 34 := by rw [hw27]; exact Blk.new rfl
          clear hw27
          have F27 := ((F24.out.below b25).below b26).below b27
          have B27 := Lib.hid (B24.out.trans ((b25.trans ((b26.trans (b27.mono b26.size)).mono b25.size)).mono B24.out.size))
          have hc3 := tells_any (some ⟨w24.heap.size, 0, none⟩) (some ⟨w25.heap.size, 0, none⟩) (some ⟨w26.heap.size, 0, none⟩) (some ⟨g4, 0, none⟩) 1 1 1 1 [std1] [terms1] [sent1 1] [(⟨1, n, 30000, n % 256, 100, 7⟩ : Clm)] w27 (rd_blk (enc := encStd) (k := 4) (fun _ => rfl) ((k25.below b26 k25.lt).below b27 (Nat.lt_of_lt_of_le k25.lt b26.size)) rfl) (rd_blk (enc := encTerms) (k := 7) (fun _ => rfl) (k26.below b27 k26.lt) rfl) (rd_blk (enc := encSent) (k := 6) (fun _ => rfl) k27 rfl) F27.rds.2.2.2 (by simp) (by simp) (by simp) (by simp) (by simp [std1]) (by simp [terms1]) (by simp [sent1]) (by intro q hq; simp at hq; subst hq; exact HN.out)
          clear b25 b26 b27 k25 k26 k27 F27
          refine wpAny_oneW 19 (by kernel_rfl) rfl (by rfl) (fun K hK => ?_)
          go_simp
          refine hc3.mono ?_
          rintro e w28 ⟨rfl, hb⟩
          try refine hK _ _ ?_
          have B28 := Lib.hid (B27.out.trans (hb.mono B27.out.size))
          clear hc3 hb
          refine wpAny_one 20 (by kernel_rfl) rfl rfl (fun K hK => ?_)
          go_simp
          refine hK _ _ ?_
          refine wpAny_one 21 (by kernel_rfl) rfl rfl (fun K hK => ?_)
          go_simp
          refine hK _ _ ?_
          refine wpAny_done (by kernel_rfl) ?_ _
          go_wp2_with fail
          go_ret
          exact ⟨by simp [Act.put], B28.out⟩
end Go.Proofs.YtnnppnlekpadnaaGreat
