/- The statement ClaimSmall, from the contracts of awake and fields. -/
import Derived.Test.YtnnppnlekpadnaaGreatSmall0
import Derived.Test.YtnnppnlekpadnaaGreatLists
namespace Go.Proofs.YtnnppnlekpadnaaGreat
open Go.RowKit Go.Proofs
set_option maxRecDepth 100000

theorem wp_new {P : Program} {c : Code} {Q : Exit → Act → World → Prop} {a : Act} {w : World} {arr : Array Value} {T : TypeId} (h : ∀ W, Blk W w.heap.size arr T → Below w.heap.size w W → Code.wp P c Q a W) : Code.wp P c Q a (w.alloc (.cells arr T)) :=
  h _ (Blk.new rfl) ((Below.refl _ _).alloc (Nat.le_refl _) _)
theorem OneOf.rd {α : Type} {enc : α → List Value} {T : TypeId} {base k : Nat} {x : α} {g : Nat} {w : World} (hk : ∀ x, (enc x).length = k) (h : Blk w g (enc x).toArray T) : Rd enc k w (some ⟨g, 0, none⟩) [x] := rd_blk hk h (by simp)

set_option maxHeartbeats 20000000 in
theorem ClaimSmall_any (HA : ∀ w : World, Calls Tryz.prog 10 #[] w fun e w' => e = .returned (.bool true) ∧ Below w.heap.size w w')
    (FA : ∀ (n : Int) (w : World), Calls Tryz.prog 23 #[.int .i64 n] w fun e w' => e = .returned (.bool true) ∧ Below w.heap.size w w') (w : World) :
    Calls Tryz.prog 7 #[] w fun e w' => e = .returned (.bool true) ∧ Below w.heap.size w w' := by
  have HA := Lib.hid HA
  have FA := Lib.hid FA
  have eg20 : ∀ (args : Array Value) (w : World), (callFunc 20 args).run Tryz.prog w = .ok (.enter 20 args) w := enters_of Tryz.func20 (by kernel_rfl) rfl
  have eg21 : ∀ (args : Array Value) (w : World), (callFunc 21 args).run Tryz.prog w = .ok (.enter 21 args) w := enters_of Tryz.func21 (by kernel_rfl) rfl
  have eg22 : ∀ (args : Array Value) (w : World), (callFunc 22 args).run Tryz.prog w = .ok (.enter 22 args) w := enters_of Tryz.func22 (by kernel_rfl) rfl
  have eg19 : ∀ (args : Array Value) (w : World), (callFunc 19 args).run Tryz.prog w = .ok (.enter 19 args) w := enters_of Tryz.func19 (by kernel_rfl) rfl
  have EG := Lib.hid (And.intro eg20 (And.intro eg21 (And.intro eg22 eg19)))
  clear eg20 eg21 eg22 eg19
  go_enter Tryz.func7, Tryz.ntmps7
  go_wp2_with fail
  go_loopg [2] 7 (fun gg s2 wr => ∃ n : Nat, n ≤ 7 ∧ 7 - n ≤ gg ∧ s2 = .int .i64 ((n : Int) - 3) ∧ Aside (Below w.heap.size w wr))
  case atStart => exact ⟨0, by omega, by omega, rfl, Below.refl _ _⟩
  case round =>
    obtain ⟨n, hn, hg, rfl, hw⟩ := hrel
    by_cases hn7 : n < 7
    · have hnI : (n : Int) - 3 < 4 := by omega
      have E1 : Aside ((n : Int) - 3 + 1 = ((n + 1 : Nat) : Int) - 3) := by show _ = _; omega
      have BW := Lib.hid hw.out
      clear hw
      go_wp2_with fail
      refine wp_new fun W1 hk1 hb1 => ?_
      obtain ⟨xs, hxl, hrx⟩ : ∃ xs : List Int, xs.length = 8 ∧ RdI W1 (some ⟨wr.heap.size, 0, none⟩) xs := ⟨[_, _, _, _, _, _, _, _], rfl, rdI_blk hk1 rfl⟩
      have RX := Lib.hid hrx
      have B1 := Lib.hid (BW.out.trans (hb1.mono BW.out.size))
      clear hk1 hb1 hrx
      generalize wr.heap.size = N1 at *
      go_loopg [32] 8 (fun gg s32 wr => ∃ j : Nat, j ≤ 8 ∧ 8 - j ≤ gg ∧ s32 = .int .i64 j ∧ Aside (Below W1.heap.size W1 wr))
      case atStart => exact ⟨0, by omega, by omega, rfl, Below.refl _ _⟩
      case round =>
        obtain ⟨j, hj, hg2, rfl, hw⟩ := hrel
        by_cases hj8 : j < 8
        · have hjI : (j : Int) < 8 := by omega
          have hjl : j < xs.length := by omega
          obtain ⟨_, _, hA, hbl, hcell⟩ := RdI.cell (RX.out.below (Nat.le_refl _) hw.out) hjl
          simp at hA
          obtain ⟨rfl, rfl⟩ := hA
          generalize xs[j] = d at hcell
          rw [Nat.zero_add] at hcell
          have B2 := Lib.hid hw.out
          clear hw hbl
          go_wp2_with fail
          obtain ⟨w4, rfl⟩ : ∃ w4, w4 = wr := ⟨_, rfl⟩
          clear hcell
          go_loopg [5] 5 (fun gg s5 wr => ∃ m : Nat, m ≤ 5 ∧ 5 - m ≤ gg ∧ s5 = .int .i64 ((m : Int) - 2) ∧ Aside (Below w4.heap.size w4 wr))
          case atStart => exact ⟨0, by omega, by omega, rfl, Below.refl _ _⟩
          case round =>
            obtain ⟨m, hm, hg3, rfl, hw⟩ := hrel
            by_cases hm5 : m < 5
            · have hmI : (m : Int) - 2 < 3 := by omega
              have E3 : Aside ((m : Int) - 2 + 1 = ((m + 1 : Nat) : Int) - 2) := by show _ = _; omega
              have B3 := Lib.hid hw.out
              clear hw
              go_wp2_with fail
              refine wp_new fun W5 hk5 hb5 => ?_
              obtain ⟨ys, hyl, hry⟩ : ∃ ys : List Int, ys.length = 5 ∧ RdI W5 (some ⟨wr.heap.size, 0, none⟩) ys := ⟨[_, _, _, _, _], rfl, rdI_blk hk5 rfl⟩
              have RY := Lib.hid hry
              have B5 := Lib.hid (B3.out.trans (hb5.mono B3.out.size))
              clear hk5 hb5 hry
              generalize wr.heap.size = N5 at *
              go_loopg [53] 5 (fun gg s53 wr => ∃ p : Nat, p ≤ 5 ∧ 5 - p ≤ gg ∧ s53 = .int .i64 p ∧ Aside (Below W5.heap.size W5 wr))
              case atStart => exact ⟨0, by omega, by omega, rfl, Below.refl _ _⟩
              case round =>
                obtain ⟨p, hp, hg4, rfl, hw⟩ := hrel
                by_cases hp5 : p < 5
                · have hpI : (p : Int) < 5 := by omega
                  have hpl : p < ys.length := by omega
                  obtain ⟨_, _, hA, hbl, hcell⟩ := RdI.cell (RY.out.below (Nat.le_refl _) hw.out) hpl
                  simp at hA
                  obtain ⟨rfl, rfl⟩ := hA
                  generalize ys[p] = at_ at hcell
                  rw [Nat.zero_add] at hcell
                  have B6 := Lib.hid hw.out
                  clear hw hbl
                  go_wp2_with fail
                  obtain ⟨w6, rfl⟩ : ∃ w6, w6 = wr := ⟨_, rfl⟩
                  clear hcell
                  go_loopg [8] 2 (fun gg s8 wr => ∃ q : Nat, 1 ≤ q ∧ q ≤ 3 ∧ 3 - q ≤ gg ∧ s8 = .int .u8 q ∧ Aside (Below w6.heap.size w6 wr))
                  case atStart => exact ⟨1, by omega, by omega, by omega, rfl, Below.refl _ _⟩
                  case round =>
                    obtain ⟨q, hq1, hq3, hg5, rfl, hw⟩ := hrel
                    by_cases hq2 : q ≤ 2
                    · have hqI : (q : Int) ≤ 2 := by omega
                      have B7 := Lib.hid hw.out
                      clear hw
                      go_wp2_with fail
                      refine wp_new fun W7 hk7 hb7 => ?_
                      obtain ⟨x, hxk, hkx⟩ : ∃ x : Clm, x.kind = (q : Int) ∧ Blk W7 wr.heap.size #[.int .i64 x.id, .int .i64 x.item, .int .i64 x.at_, .int .u8 x.kind, .int .i64 x.post, .int .i64 x.val] 31 := ⟨⟨_, _, _, _, _, _⟩, rfl, hk7⟩
                      have B8 := Lib.hid (B7.out.trans (hb7.mono B7.out.size))
                      have K7 := Lib.hid hkx
                      clear hk7 hb7 hkx
                      refine wp_region_any (by kernel_rfl) ?_
                      change wpAny _ _ _ _ _ _ _ (World.drew _)
                      (refine wpAny_take (i := 2) (v := (.int .i64 d)) rfl (by kernel_rfl) (by kernel_rfl) (by kernel_rfl) (fun _ _ _ h => h) (Or.inl ⟨by rfl, ?_⟩) ?_; case _ => (intro w; go_simp; try (with_reducible rfl)))
                      (refine wpAny_take (i := 4) (v := (.func (.func 19) #[] #[])) rfl (by kernel_rfl) (by kernel_rfl) (by kernel_rfl) (fun _ _ _ h => h) (Or.inl ⟨by rfl, ?_⟩) ?_; case _ => (intro w; go_simp; try (with_reducible rfl)))
                      refine wpAny_pool [0, 1, 3, 5, 6] [68, 69, 71, 73, 74] (fun κ v w' => match κ with
                        | 0 => OneOf encStd 27 W7.heap.size std1 v w'
                        | 1 => OneOf encTerms 41 W7.heap.size terms1 v w'
                        | 2 => OneOf encSent 34 W7.heap.size (sent1 d) v w'
                        | 3 => v = .agg #[.int .i64 x.id, .int .i64 x.item, .int .i64 x.at_, .int .u8 x.kind, .int .i64 x.post, .int .i64 x.val]
                        | _ => OneOf encClm 31 W7.heap.size x v w') (by decide) (by decide) rfl ?hlt (by decide) (by decide) (by kernel_rfl) ?hR ⟨⟨⟨⟨⟨trivial, ?o0⟩, ?o1⟩, ?o2⟩, ?o3⟩, ?o4⟩ ?done
                      case hlt =>
                        intro d hd
                        simp at hd
                        rcases hd with rfl | rfl | rfl | rfl | rfl <;> simp [Act.put]
                      case hR =>
                        intro k v w1 w2 h hb
                        match k, h with
                        | 0, h => exact OneOf.below h hb
                        | 1, h => exact OneOf.below h hb
                        | 2, h => exact OneOf.below h hb
                        | 3, h => exact h
                        | k + 4, h => exact OneOf.below h hb
                      case o0 => exact pool_call 68 20 (.func 20) #[] #[] #[] rfl rfl rfl rfl rfl EG.out.1 (fun a _ _ => ⟨rfl, by simp⟩) (fun w1 h1 => (standard_new w1).mono fun e w' ⟨he, hw⟩ => ⟨_, he, hw ▸ (Below.refl _ _).alloc (Nat.le_refl _) _, w1.heap.size, rfl, h1.size, hw ▸ Blk.new rfl⟩)
                      case o1 => exact pool_call 69 21 (.func 21) #[] #[] #[] rfl rfl rfl rfl rfl EG.out.2.1 (fun a _ _ => ⟨rfl, by simp⟩) (fun w1 h1 => (terms_new w1).mono fun e w' ⟨he, hw⟩ => ⟨_, he, hw ▸ (Below.refl _ _).alloc (Nat.le_refl _) _, w1.heap.size, rfl, h1.size, hw ▸ Blk.new rfl⟩)
                      case o2 => exact pool_call 71 22 (.func 22) #[.tmp 70] #[3] #[.int .i64 d] rfl rfl rfl rfl rfl EG.out.2.2.1 (fun a ha _ => ⟨rfl, by simp only [List.map_toArray, List.map_cons, List.map_nil]; rw [eval_tmp ((ha 70 (by decide)).trans (by rfl : _ = some (Value.int .i64 d)))]⟩) (fun w1 h1 => (sent_new d w1).mono fun e w' ⟨he, hw⟩ => ⟨_, he, hw ▸ (Below.refl _ _).alloc (Nat.le_refl _) _, w1.heap.size, rfl, h1.size, hw ▸ Blk.new rfl⟩)
                      case o3 =>
                        refine pool_load 31 9 73 ⟨wr.heap.size, 0, none⟩ _ rfl rfl rfl rfl rfl (by decide) rfl ?_ (fun _ => rfl)
                        intro wz hz
                        have kz := (K7.out.below ((Below.refl W7.heap.size W7).drew.trans hz) K7.out.lt).cells
                        go_simp
                      case o4 => exact pool_call 74 19 (.tmp 72) #[.tmp 73] #[31] #[.agg #[.int .i64 x.id, .int .i64 x.item, .int .i64 x.at_, .int .u8 x.kind, .int .i64 x.post, .int .i64 x.val]] rfl rfl rfl rfl rfl EG.out.2.2.2 (fun a ha hp => ⟨eval_tmp ((ha 72 (by decide)).trans (by rfl)), by
                          obtain ⟨v, w1, hv, hr⟩ := hp 3 5 73 rfl rfl (by kernel_rfl)
                          have hr : v = _ := hr
                          subst hr
                          simp only [List.map_toArray, List.map_cons, List.map_nil]
                          rw [eval_tmp hv]⟩) (fun w1 h1 => (one_new x w1).mono fun e w' ⟨he, hw⟩ => ⟨_, he, hw ▸ ((Below.refl _ _).alloc (Nat.le_refl _) _).alloc (by first | (simp; done) | (simp; omega) | omega) _, w1.heap.size + 1, rfl, Nat.le_trans h1.size (Nat.le_succ _), hw ▸ Blk.new (by first | (simp; done) | (simp; omega) | omega)⟩)
                      case done =>
                        intro w9 hb9 v68 h68 v69 h69 v71 h71 v73 h73 v74 h74
                        obtain ⟨g1, rfl, _, k1⟩ : OneOf encStd 27 W7.heap.size std1 v68 w9 := h68
                        obtain ⟨g2, rfl, _, k2⟩ : OneOf encTerms 41 W7.heap.size terms1 v69 w9 := h69
                        obtain ⟨g3, rfl, _, k3⟩ : OneOf encSent 34 W7.heap.size (sent1 d) v71 w9 := h71
                        obtain ⟨g4, rfl, _, k4⟩ : OneOf encClm 31 W7.heap.size x v74 w9 := h74
                        replace h73 : v73 = .agg #[.int .i64 x.id, .int .i64 x.item, .int .i64 x.at_, .int .u8 x.kind, .int .i64 x.post, .int .i64 x.val] := h73
                        subst h73
                        have hcon := tells_any (some ⟨g1, 0, none⟩) (some ⟨g2, 0, none⟩) (some ⟨g3, 0, none⟩) (some ⟨g4, 0, none⟩) 1 1 1 1 [std1] [terms1] [sent1 d] [x] w9 (OneOf.rd (base := 0) (fun _ => rfl) k1) (OneOf.rd (base := 0) (fun _ => rfl) k2) (OneOf.rd (base := 0) (fun _ => rfl) k3) (OneOf.rd (base := 0) (fun _ => rfl) k4) (by simp) (by simp) (by simp) (by simp) (by simp [std1]) (by simp [terms1]) (by simp [sent1]) (by simp [hxk]; omega)
                        have B9 := Lib.hid (B8.out.trans (((Below.refl W7.heap.size W7).drew.trans hb9).mono B8.out.size))
                        clear k1 k2 k3 k4 hb9
                        refine wpAny_one 7 (by kernel_rfl) rfl rfl (fun K hK => ?_)
                        go_simp
                        refine hcon.mono ?_
                        rintro e w10 ⟨rfl, hb10⟩
                        have B10 := Lib.hid (B9.out.trans (hb10.mono B9.out.size))
                        clear hcon hb10
                        try refine hK _ _ ?_
                        refine wpAny_one 8 (by kernel_rfl) rfl rfl (fun K' hK' => ?_)
                        go_simp
                        refine hK' _ _ ?_
                        refine wpAny_done (by kernel_rfl) ?_ _
                        go_wp2_with fail
                        go_roundg (3 - (q + 1))
                        case measure => omega
                        case rel => exact ⟨q + 1, by omega, by omega, by omega, by go_num, B10.out⟩
                    · have hq2' : ¬ (q : Int) ≤ 2 := by omega
                      have BE := Lib.hid (B6.out.trans (hw.out.mono B6.out.size))
                      clear hw
                      go_wp2_with fail
                      go_roundg (5 - (p + 1))
                      case measure => omega
                      case rel => exact ⟨p + 1, by omega, by omega, by go_num, BE.out⟩
                · have hp5' : ¬ (p : Int) < 5 := by omega
                  have BE := Lib.hid (B5.out.trans (hw.out.mono B5.out.size))
                  clear hw
                  go_wp2_with fail
                  go_roundg (5 - (m + 1))
                  case measure => omega
                  case rel => exact ⟨m + 1, by omega, by omega, by rw [← E3.out], BE.out⟩
            · have hm5' : ¬ (m : Int) - 2 < 3 := by omega
              have BE := Lib.hid (B2.out.trans (hw.out.mono B2.out.size))
              clear hw
              go_wp2_with fail
              go_roundg (8 - (j + 1))
              case measure => omega
              case rel => exact ⟨j + 1, by omega, by omega, by go_num, BE.out⟩
        · have hj8' : ¬ (j : Int) < 8 := by omega
          have BE := Lib.hid (B1.out.trans (hw.out.mono B1.out.size))
          clear hw
          go_wp2_with fail
          go_roundg (7 - (n + 1))
          case measure => omega
          case rel => exact ⟨n + 1, by omega, by omega, by rw [← E1.out], BE.out⟩
    · have hn7' : ¬ (n : Int) - 3 < 4 := by omega
      have BW := Lib.hid hw.out
      clear hw
      go_wp2_with fail
      refine wp_new fun W1 hk1 hb1 => ?_
      obtain ⟨xs, hxl, hrx⟩ : ∃ xs : List Int, xs.length = 24 ∧ RdI W1 (some ⟨wr.heap.size, 0, none⟩) xs := ⟨[_, _, _, _, _, _, _, _, _, _, _, _, _, _, _, _, _, _, _, _, _, _, _, _], rfl, rdI_blk hk1 rfl⟩
      have RX := Lib.hid hrx
      have B1 := Lib.hid (BW.out.trans (hb1.mono BW.out.size))
      clear hk1 hb1 hrx
      generalize wr.heap.size = N1 at *
      go_loopg [81] 24 (fun gg s81 wr => ∃ j : Nat, j ≤ 24 ∧ 24 - j ≤ gg ∧ s81 = .int .i64 j ∧ Aside (Below W1.heap.size W1 wr))
      case atStart => exact ⟨0, by omega, by omega, rfl, Below.refl _ _⟩
      case round =>
        obtain ⟨j, hj, hg2, rfl, hw⟩ := hrel
        by_cases hj8 : j < 24
        · have hjI : (j : Int) < 24 := by omega
          have hjl : j < xs.length := by omega
          obtain ⟨_, _, hA, hbl, hcell⟩ := RdI.cell (RX.out.below (Nat.le_refl _) hw.out) hjl
          simp at hA
          obtain ⟨rfl, rfl⟩ := hA
          generalize xs[j] = d at hcell
          rw [Nat.zero_add] at hcell
          have B2 := Lib.hid hw.out
          clear hw hbl
          go_wp2_with fail
          refine (FA.out d _).mono ?_
          rintro e w5 ⟨rfl, hb⟩
          have BE := Lib.hid (B2.out.trans (hb.mono B2.out.size))
          clear hb hcell
          go_wp2_with fail
          go_roundg (24 - (j + 1))
          case measure => omega
          case rel => exact ⟨j + 1, by omega, by omega, by go_num, BE.out⟩
        · have hj8' : ¬ (j : Int) < 24 := by omega
          have BE := Lib.hid (B1.out.trans (hw.out.mono B1.out.size))
          clear hw
          go_wp2_with fail
          refine (lists_any _).mono ?_
          rintro e w5 ⟨rfl, hb⟩
          have BL := Lib.hid (BE.out.trans (hb.mono BE.out.size))
          clear hb
          go_wp2_with fail
          refine (HA.out _).mono ?_
          rintro e w6 ⟨rfl, hb⟩
          go_wp2_with fail
          go_ret
          exact ⟨rfl, BL.out.trans (hb.mono BL.out.size)⟩
end Go.Proofs.YtnnppnlekpadnaaGreat
