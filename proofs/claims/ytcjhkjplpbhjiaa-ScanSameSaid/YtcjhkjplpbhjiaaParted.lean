/- Contract of scan.parted. -/
import Derived.Test.YtcjhkjplpbhjiaaOwn2
namespace Go.Proofs.Ytcjhkjplpbhjiaa
open Go.RowKit Go.Proofs Go.Sort
set_option maxRecDepth 100000

theorem zero_int (w : World) : Sem.run Try.prog (zeroValue 3) w = .ok (.int .i64 0) w := by rfl
set_option maxHeartbeats 4000000 in
theorem parted_any (A : Option Addr) (c : Nat) (l : List Scn) (w : World) (hr : Rd encScn 6 w A l) (hok : okL l = true) :
    Calls Try.prog 39 #[.slice A l.length c] w fun e w' => ∃ A1 c1 A2 c2, e = .returned (.tuple #[.slice A1 (keptF l).length c1, .slice A2 (doubF l).length c2]) ∧ Rd encEvt 7 w' A1 (keptF l) ∧ Rd encEvt 7 w' A2 (doubF l) ∧ Below w.heap.size w w' := by
  have hn : l.length ≤ 2000 ∧ ∀ x ∈ l, okS x = true := by
    unfold okL at hok; simp only [Bool.and_eq_true, decide_eq_true_eq, List.all_eq_true] at hok; exact ⟨by omega, hok.2⟩
  obtain ⟨hn, hall⟩ := hn
  obtain ⟨i0, hi, hz0, hz1, hz2⟩ := info_parts2 infEvt
  have OK := Lib.hid hall
  have R := Lib.hid hr
  have HM := Lib.hid (marks_any A c l w hr hok)
  have hmm := @run_makeMap Try.prog
  have MP := Lib.hid (marksF_is l).sorted
  have MO := Lib.hid (marks_ok hall)
  have ML : (marksF l).length ≤ 1000000 := by have := marks_len l; omega
  have EV : Hid (∀ s, corrF (marksF l) s = corrF (marksF l) s) := Lib.hid (fun _ => rfl)
  have KF : Hid (keptF l = (partF (srt ltEv (l.map fun s => ⟨s, corrF (marksF l) s⟩))).2.1) := Lib.hid rfl
  have DF : Hid (doubF l = (partF (srt ltEv (l.map fun s => ⟨s, corrF (marksF l) s⟩))).2.2) := Lib.hid rfl
  generalize keptF l = kf at *
  generalize doubF l = df at *
  generalize marksF l = ms at *
  clear hok hall hr EV
  go_enter Try.func39, Try.ntmps39
  go_wp2_with fail
  refine HM.out.mono ?_
  rintro e w1 ⟨A', c', rfl, hrm, hb1⟩
  have RM := Lib.hid hrm
  have B1 := Lib.hid hb1
  clear hrm hb1 HM
  go_wp2_with fail
  go_loopg [5, 18] l.length (fun gg s5 s18 wr => ∃ j : Nat, j ≤ l.length ∧ l.length - j ≤ gg ∧ s18 = .int .i64 j ∧ Aside (Below w1.heap.size w1 wr) ∧ Aside (wr.ownsRow w1.heap.size 48 7 s5 j (((l.take j).map fun s => (⟨s, corrF ms s⟩ : Evt)).flatMap encEvt)))
  case atStart => exact ⟨0, Nat.zero_le _, by omega, rfl, Below.refl _ _, World.ownsRow_nil _ _ _ _⟩
  case round =>
    obtain ⟨j, hj, hg, rfl, BW, OW⟩ := hrel
    by_cases hlt : j < l.length
    · have hx : l[j]? = some l[j] := List.getElem?_eq_getElem hlt
      obtain ⟨b, o, rfl, hb, hl⟩ := ((R.out.below (Nat.le_refl _) B1.out).below (Nat.le_refl _) BW.out).at hx
      have hokx := Lib.hid (OK.out l[j] (List.getElem_mem hlt))
      have HT : Hid ((l.take (j + 1)).map (fun s => (⟨s, corrF ms s⟩ : Evt)) = (l.take j).map (fun s => (⟨s, corrF ms s⟩ : Evt)) ++ [⟨l[j], corrF ms l[j]⟩]) := Lib.hid (by rw [List.take_add_one, hx, List.map_append]; rfl)
      generalize l[j] = x at hl hokx HT
      have hl0 := hl 0 _ rfl; have hl1 := hl 1 _ rfl; have hl2 := hl 2 _ rfl; have hl3 := hl 3 _ rfl; have hl4 := hl 4 _ rfl; have hl5 := hl 5 _ rfl; rw [Nat.add_zero] at hl0; clear hl
      clear hx
      have CR := Lib.hid (fun (V : World) (hV : Below w1.heap.size w1 V) => corrected_any A' c' ms x V (RM.out.below (Nat.le_refl _) hV) ML MP.out MO.out hokx.out)
      have hlj : ((l.take j).map fun s => (⟨s, corrF ms s⟩ : Evt)).length = j := by rw [List.length_map, List.length_take]; omega
      generalize ((l.take j).map fun s => (⟨s, corrF ms s⟩ : Evt)) = pre at OW HT hlj
      generalize corrF ms x = t at *
      obtain ⟨W, hW⟩ : ∃ W : World, W = wr.alloc (.cells #[.int .i64 x.item, .int .i64 x.place, .int .i64 x.scanner, .int .u8 x.kind, .int .i64 x.at_, .int .i64 x.seen] 24) := ⟨_, rfl⟩
      have kb : Blk W wr.heap.size #[.int .i64 x.item, .int .i64 x.place, .int .i64 x.scanner, .int .u8 x.kind, .int .i64 x.at_, .int .i64 x.seen] 24 := by rw [hW]; exact Blk.new rfl
      have hbW : Below wr.heap.size wr W := by rw [hW]; exact (Below.refl _ _).alloc (Nat.le_refl _) _
      go_wp2_with fail
      rw [← hW]
      clear hW hl0 hl1 hl2 hl3 hl4 hl5
      have hC : (fun V => Blk V wr.heap.size #[.int .i64 x.item, .int .i64 x.place, .int .i64 x.scanner, .int .u8 x.kind, .int .i64 x.at_, .int .i64 x.seen] 24) W.drew := kb.drew
      have BD := Lib.hid hbW.drew
      clear kb
      refine wp_region_C (fun V => Blk V wr.heap.size #[.int .i64 x.item, .int .i64 x.place, .int .i64 x.scanner, .int .u8 x.kind, .int .i64 x.at_, .int .i64 x.seen] 24) (by kernel_rfl) ?_
      (refine wpAnyC_take (i := 0) (v := (u5)) rfl (by kernel_rfl) (by kernel_rfl) (by kernel_rfl) (fun _ _ _ h => h) hC (Or.inl ⟨by rfl, fun V hV => ?_⟩) ?_; case _ => (skip; go_simp; try (with_reducible rfl)))
      (refine wpAnyC_take (i := 1) (v := (.agg #[.int .i64 x.item, .int .i64 x.place, .int .i64 x.scanner, .int .u8 x.kind, .int .i64 x.at_, .int .i64 x.seen])) rfl (by kernel_rfl) (by kernel_rfl) (by kernel_rfl) (fun _ _ _ h => h) hC (Or.inl ⟨by rfl, fun V hV => ?_⟩) ?_; case _ => (have hh := Blk.cells hV; go_simp; try (with_reducible rfl)))
      (refine wpAnyC_take (i := 2) (v := (.slice A' ms.length c')) rfl (by kernel_rfl) (by kernel_rfl) (by kernel_rfl) (fun _ _ _ h => h) hC (Or.inl ⟨by rfl, fun V hV => ?_⟩) ?_; case _ => (skip; go_simp; try (with_reducible rfl)))
      (refine wpAnyC_take (i := 3) (v := (.agg #[.int .i64 x.item, .int .i64 x.place, .int .i64 x.scanner, .int .u8 x.kind, .int .i64 x.at_, .int .i64 x.seen])) rfl (by kernel_rfl) (by kernel_rfl) (by kernel_rfl) (fun _ _ _ h => h) hC (Or.inl ⟨by rfl, fun V hV => ?_⟩) ?_; case _ => (have hh := Blk.cells hV; go_simp; try (with_reducible rfl)))
      refine wpAnyC_one 4 (by kernel_rfl) rfl rfl (fun K hK => ?_)
      go_simp
      have B4 := Lib.hid (BW.out.trans (BD.out.mono BW.out.size))
      refine (CR.out _ B4.out).mono ?_
      rintro e w9 ⟨rfl, hb9⟩
      have B9 := Lib.hid (BD.out.trans (hb9.mono BD.out.size))
      have hC9 := Blk.below hC hb9 (Nat.lt_of_lt_of_le hC.lt (Nat.le_refl _))
      clear hb9 BD B4
      refine hK _ _ hC9 ?_
      clear hK K hC
      have hC := hC9
      clear hC9
      (refine wpAnyC_take (i := 5) (v := (.agg #[.int .i64 x.item, .int .i64 x.place, .int .i64 x.scanner, .int .u8 x.kind, .int .i64 x.at_, .int .i64 x.seen, .int .i64 t])) rfl (by kernel_rfl) (by kernel_rfl) (by kernel_rfl) (fun _ _ _ h => h) hC (Or.inl ⟨by rfl, fun V hV => ?_⟩) ?_; case _ => (skip; go_simp; try (with_reducible rfl)))
      refine wpAnyC_one 6 (by kernel_rfl) rfl rfl (fun K hK => ?_)
      go_simp
      have hbx : wr.heap.size < w9.heap.size := hC.lt
      have own9 := own_below OW.out (B9.out.alloc B9.out.size (.cells #[.int .i64 x.item, .int .i64 x.place, .int .i64 x.scanner, .int .u8 x.kind, .int .i64 x.at_, .int .i64 x.seen, .int .i64 t] 48))
      have hw19 := Nat.le_trans BW.out.size B9.out.size
      refine hK _ _ (hC.alloc _) ?_
      clear hK K
      refine wpAnyC_one 7 (by kernel_rfl) rfl rfl (fun K hK => ?_)
      refine wp_append_own _ _ _ 44 rfl w1.heap.size 48 i0 _ 7 56 Try.underlying44 hi hz0 hz1 hz2 rfl (by decide) _ j _ rfl own9 ⟨w9.heap.size, 0, none⟩ 1 1 (encEvt ⟨x, t⟩) rfl rfl (cells_new _ _ _) (evt_one _) (by unfold maxLen; omega) (by omega) (by simp; omega) ?_
      intro v' w10 hown' hgrow _
      have HO := Lib.hid (show w10.ownsRow w1.heap.size 48 7 v' (j + 1) ((pre ++ [(⟨x, t⟩ : Evt)]).flatMap encEvt) by rw [List.flatMap_append]; simpa using hown')
      have hne : some wr.heap.size ≠ u5.ownBlock := fun e => by have := (OW.out.lt _ e.symm).2; omega
      have hB10 := (BW.out.trans (B9.out.mono BW.out.size)).alloc hw19 (.cells #[.int .i64 x.item, .int .i64 x.place, .int .i64 x.scanner, .int .u8 x.kind, .int .i64 x.at_, .int .i64 x.seen, .int .i64 t] 48)
      have B10 := Lib.hid (hB10.grown hgrow hB10.size (fun k e => own_ge OW.out e))
      refine hK _ _ ((hC.alloc _).kept hgrow hne) ?_
      have hC10 := (hC.alloc (.cells #[.int .i64 x.item, .int .i64 x.place, .int .i64 x.scanner, .int .u8 x.kind, .int .i64 x.at_, .int .i64 x.seen, .int .i64 t] 48)).kept hgrow hne
      clear hK K hown' hgrow own9 hC hB10 B9
      refine wpAnyC_one 8 (by kernel_rfl) rfl rfl (fun K hK => ?_)
      go_simp
      refine hK _ _ hC10 ?_
      clear hK K hC10
      refine wpAnyC_done (by kernel_rfl) ?_
      go_wp2_with fail
      go_roundg (l.length - (j + 1))
      case measure => omega
      case rel => exact ⟨j + 1, by omega, by omega, by go_num, B10.out, by rw [Aside, HT.out]; exact HO.out⟩
    · have hjl : j = l.length := by omega
      subst hjl
      rw [List.take_length] at OW
      rename World => wA
      have hlm : (l.map fun s => (⟨s, corrF ms s⟩ : Evt)).length = l.length := by rw [List.length_map]
      have HE := Lib.hid (show ∀ x ∈ l.map (fun s => (⟨s, corrF ms s⟩ : Evt)), 0 ≤ x.time ∧ x.time ≤ 1051898399 from fun x hx => by
        obtain ⟨s, hs, rfl⟩ := List.mem_map.1 hx
        exact corrF_bd ms s (OK.out s hs))
      generalize (l.map fun s => (⟨s, corrF ms s⟩ : Evt)) = evs at OW hlm KF DF HE
      have hso := Lib.hid (sortEvt_any evs wA (by rw [hlm]; exact OW.out) (by omega))
      have BA := Lib.hid (B1.out.trans (BW.out.mono B1.out.size))
      have TB := Lib.hid (show ∀ x ∈ srt ltEv evs, 0 ≤ x.time ∧ x.time ≤ 1051898399 from fun x hx => HE.out x ((srt_perm _ _).mem_iff.1 hx))
      have hln : (srt ltEv evs).length = l.length := by rw [(srt_perm _ _).length_eq, hlm]
      clear OW OK R RM
      go_wp2_with fail
      refine hso.out.mono ?_
      rintro e w2 ⟨rfl, A5, c5, rfl, hr5, hb5⟩
      generalize srt ltEv evs = es at *
      have R5 := Lib.hid hr5
      have B2 := Lib.hid (BA.out.trans (hb5.mono B1.out.size))
      clear hr5 hb5 hso BA BW B1
      go_wp2_with fail
      go_loopg [2, 3, 36] es.length (fun gg s2 s3 s36 wr => ∃ j : Nat, j ≤ es.length ∧ es.length - j ≤ gg ∧ s36 = .int .i64 j ∧ Aside (Below w2.heap.size w2 wr) ∧ Aside (MapR ekey3 (Value.int .i64) wr w2.heap.size (partF (es.take j)).1) ∧ Aside (Own2 encEvt encEvt 7 7 (w2.heap.size + 1) 48 48 wr s2 s3 (partF (es.take j)).2.1 (partF (es.take j)).2.2))
      case atStart => exact ⟨0, Nat.zero_le _, by omega, rfl, (Below.refl _ _).alloc (Nat.le_refl _) _, MapR.made _ _ rfl, Own2.nil⟩
      case round =>
        obtain ⟨j, hj, hg, rfl, BW, MW, OW⟩ := hrel
        by_cases hlt : j < es.length
        · have hx : es[j]? = some es[j] := List.getElem?_eq_getElem hlt
          obtain ⟨b, o, rfl, hb, hl⟩ := (R5.out.below (Nat.le_refl _) BW.out).at hx
          have HP := Lib.hid (part_snoc hx)
          have hxt := TB.out es[j] (List.getElem_mem hlt)
          have hpv := part_vals (es.take j) (fun y hy => TB.out y (List.mem_of_mem_take hy))
          have hlen := part_len (es.take j)
          rw [List.length_take, Nat.min_eq_left hj] at hlen
          generalize es[j] = x at hl HP hxt
          generalize partF (es.take j) = st at *
          obtain ⟨d, ks, ds⟩ := st
          dsimp only at MW OW hpv hlen
          have hl0 := hl 0 _ rfl; have hl1 := hl 1 _ rfl; have hl2 := hl 2 _ rfl; have hl3 := hl 3 _ rfl; have hl4 := hl 4 _ rfl; have hl5 := hl 5 _ rfl; have hl6 := hl 6 _ rfl; rw [Nat.add_zero] at hl0; clear hl
          clear hx
          obtain ⟨t1, t2⟩ := hxt
          have hws := BW.out.size
          obtain ⟨W, hW⟩ : ∃ W : World, W = (wr.alloc (.cells #[.int .i64 x.s.item, .int .i64 x.s.place, .int .i64 x.s.scanner, .int .u8 x.s.kind, .int .i64 x.s.at_, .int .i64 x.s.seen, .int .i64 x.time] 48)).alloc (.cells #[.int .i64 x.s.item, .int .i64 x.s.place, .int .u8 x.s.kind] 98) := ⟨_, rfl⟩
          have BWW := Lib.hid (show Below wr.heap.size wr W by rw [hW]; exact ((Below.refl _ _).alloc (Nat.le_refl _) _).alloc (by simp) _)
          have kx : Blk W wr.heap.size #[.int .i64 x.s.item, .int .i64 x.s.place, .int .i64 x.s.scanner, .int .u8 x.s.kind, .int .i64 x.s.at_, .int .i64 x.s.seen, .int .i64 x.time] 48 := by rw [hW]; exact (Blk.new rfl).alloc _
          have kk : Blk W (wr.heap.size + 1) #[.int .i64 x.s.item, .int .i64 x.s.place, .int .u8 x.s.kind] 98 := by rw [hW]; exact Blk.new (by simp)
          have MX0 := Lib.hid ((MW.out.alloc (.cells #[.int .i64 x.s.item, .int .i64 x.s.place, .int .i64 x.s.scanner, .int .u8 x.s.kind, .int .i64 x.s.at_, .int .i64 x.s.seen, .int .i64 x.time] 48)).alloc (.cells #[.int .i64 x.s.item, .int .i64 x.s.place, .int .u8 x.s.kind] 98))
          have MX := Lib.hid (show MapR ekey3 (Value.int .i64) W w2.heap.size d by rw [hW]; exact MX0.out)
          have OX := Lib.hid (OW.out.below BWW.out)
          have hlt2 := MW.out.lt
          clear MW OW
          have hne : some wr.heap.size ≠ some w2.heap.size := fun e => by have := MX.out.lt; have h2 := MX0.out.lt; have h3 := hlt2; injection e with e; omega
          have cx := Blk.cells kx
          have ck := Blk.cells kk
          cases hgt : getL d (evKey x.s) with
          | none =>
            have HG := Lib.hid hgt
            have HS : Hid (partStep (d, ks, ds) x = (putL d (evKey x.s) x.time, ks ++ [x], ds)) := Lib.hid (by unfold partStep; dsimp only; rw [hgt])
            clear hgt
            go_wp2_with (first | (at_lookup; refine wpList_look rfl _ _ _ true rfl MX0.out key3 Try.underlying96 zero_int (evKey x.s) rfl rfl HG.out ?_; rw [← hW]; clear hW MX0; dsimp only [Option.map, Option.getD, Option.isSome, if_true]) | (refine wpList_update rfl _ _ _ _ rfl MX.out key3 Try.underlying96 (evKey x.s) x.time rfl rfl rfl ?_; intro w3 hm3 hg3; have k3 := Blk.kept kx hg3 hne; have c3 := k3.cells; have O3 := Lib.hid (OX.out.other (Nat.lt_succ_self _) hg3); have M3 := Lib.hid hm3; have B3 := Lib.hid ((BW.out.trans (BWW.out.mono hws)).grown hg3 (Nat.le_trans hws BWW.out.size) (fun k e => by cases e; exact Nat.le_refl _)); clear hm3 hg3 cx ck) | (at_builtin; refine wpList_append_own_at _ rfl _ _ 44 rfl (w2.heap.size + 1) 48 i0 _ 7 56 Try.underlying44 hi hz0 hz1 hz2 rfl (by decide) _ ks.length (ks.flatMap encEvt) rfl (own_below O3.out.oA ((Below.refl _ _).alloc (Nat.le_refl _) _)) ⟨w3.heap.size, 0, none⟩ 1 1 (encEvt x) rfl rfl (cells_new _ _ _) (evt_one _) (by unfold maxLen; omega) (by omega) (by have := M3.out.lt; simp; omega) ?_; intro v' w4 hown' hgrow _ hblk))
            have O3a := O3.out.below ((Below.refl _ _).alloc (Nat.le_refl _) (.cells #[.int .i64 x.s.item, .int .i64 x.s.place, .int .i64 x.s.scanner, .int .u8 x.s.kind, .int .i64 x.s.at_, .int .i64 x.s.seen, .int .i64 x.time] 48))
            have O4 := Lib.hid (O3a.growA (A' := ks ++ [x]) (by rw [List.flatMap_append, List.length_append]; simpa using hown') hgrow hblk)
            have M4 := Lib.hid ((M3.out.alloc (.cells #[.int .i64 x.s.item, .int .i64 x.s.place, .int .i64 x.s.scanner, .int .u8 x.s.kind, .int .i64 x.s.at_, .int .i64 x.s.seen, .int .i64 x.time] 48)).of_block (hgrow.block w2.heap.size (by have := M3.out.lt; simp; omega) (fun e => by have := own_ge O3.out.oA e.symm; omega)))
            have B4 := Lib.hid ((B3.out.alloc B3.out.size (.cells #[.int .i64 x.s.item, .int .i64 x.s.place, .int .i64 x.s.scanner, .int .u8 x.s.kind, .int .i64 x.s.at_, .int .i64 x.s.seen, .int .i64 x.time] 48)).grown hgrow (by have := B3.out.size; simp; omega) (fun k e => by have := own_ge O3.out.oA e; omega))
            clear hown' hgrow hblk O3a
            go_wp2_with fail
            go_roundg (es.length - (j + 1))
            case measure => omega
            case rel =>
              refine ⟨j + 1, by omega, by omega, by go_num, B4.out, ?_, ?_⟩
              · rw [Aside, HP.out, HS.out]; exact M4.out
              · rw [Aside, HP.out, HS.out]; exact O4.out
          | some t =>
            obtain ⟨t3, t4⟩ := hpv _ _ hgt
            have HG := Lib.hid hgt
            have wt : IntKind.i64.wrap (x.time - t) = x.time - t := IntWalk.i64_in _ (by omega)
            by_cases h10 : x.time - t ≤ 10
            · have HS : Hid (partStep (d, ks, ds) x = (d, ks, ds ++ [x])) := Lib.hid (by unfold partStep; dsimp only; rw [hgt]; exact if_pos h10)
              clear hgt
              go_wp2_with (first | (at_lookup; refine wpList_look rfl _ _ _ true rfl MX0.out key3 Try.underlying96 zero_int (evKey x.s) rfl rfl HG.out ?_; rw [← hW]; clear hW MX0; dsimp only [Option.map, Option.getD, Option.isSome, if_true]) | (at_builtin; refine wpList_append_own_at _ rfl _ _ 44 rfl (w2.heap.size + 1) 48 i0 _ 7 56 Try.underlying44 hi hz0 hz1 hz2 rfl (by decide) _ ds.length (ds.flatMap encEvt) rfl (own_below OX.out.oB ((Below.refl _ _).alloc (Nat.le_refl _) _)) ⟨W.heap.size, 0, none⟩ 1 1 (encEvt x) rfl rfl (cells_new _ _ _) (evt_one _) (by unfold maxLen; omega) (by omega) (by have := MX.out.lt; simp; omega) ?_; intro v' w4 hown' hgrow _ hblk))
              have O3a := OX.out.below ((Below.refl _ _).alloc (Nat.le_refl _) (.cells #[.int .i64 x.s.item, .int .i64 x.s.place, .int .i64 x.s.scanner, .int .u8 x.s.kind, .int .i64 x.s.at_, .int .i64 x.s.seen, .int .i64 x.time] 48))
              have O4 := Lib.hid (O3a.growB (B' := ds ++ [x]) (by rw [List.flatMap_append, List.length_append]; simpa using hown') hgrow hblk)
              have M4 := Lib.hid ((MX.out.alloc (.cells #[.int .i64 x.s.item, .int .i64 x.s.place, .int .i64 x.s.scanner, .int .u8 x.s.kind, .int .i64 x.s.at_, .int .i64 x.s.seen, .int .i64 x.time] 48)).of_block (hgrow.block w2.heap.size (by have := MX.out.lt; simp; omega) (fun e => by have := own_ge OX.out.oB e.symm; omega)))
              have B4 := Lib.hid (((BW.out.trans (BWW.out.mono hws)).alloc (Nat.le_trans hws BWW.out.size) (.cells #[.int .i64 x.s.item, .int .i64 x.s.place, .int .i64 x.s.scanner, .int .u8 x.s.kind, .int .i64 x.s.at_, .int .i64 x.s.seen, .int .i64 x.time] 48)).grown hgrow (by have := BWW.out.size; simp; omega) (fun k e => by have := own_ge OX.out.oB e; omega))
              clear hown' hgrow hblk O3a
              go_wp2_with fail
              go_roundg (es.length - (j + 1))
              case measure => omega
              case rel =>
                refine ⟨j + 1, by omega, by omega, by go_num, B4.out, ?_, ?_⟩
                · rw [Aside, HP.out, HS.out]; exact M4.out
                · rw [Aside, HP.out, HS.out]; exact O4.out
            · have HS : Hid (partStep (d, ks, ds) x = (putL d (evKey x.s) x.time, ks ++ [x], ds)) := Lib.hid (by unfold partStep; dsimp only; rw [hgt]; exact if_neg h10)
              clear hgt
              go_wp2_with (first | (at_lookup; refine wpList_look rfl _ _ _ true rfl MX0.out key3 Try.underlying96 zero_int (evKey x.s) rfl rfl HG.out ?_; rw [← hW]; clear hW MX0; dsimp only [Option.map, Option.getD, Option.isSome, if_true]) | (refine wpList_update rfl _ _ _ _ rfl MX.out key3 Try.underlying96 (evKey x.s) x.time rfl rfl rfl ?_; intro w3 hm3 hg3; have k3 := Blk.kept kx hg3 hne; have c3 := k3.cells; have O3 := Lib.hid (OX.out.other (Nat.lt_succ_self _) hg3); have M3 := Lib.hid hm3; have B3 := Lib.hid ((BW.out.trans (BWW.out.mono hws)).grown hg3 (Nat.le_trans hws BWW.out.size) (fun k e => by cases e; exact Nat.le_refl _)); clear hm3 hg3 cx ck) | (at_builtin; refine wpList_append_own_at _ rfl _ _ 44 rfl (w2.heap.size + 1) 48 i0 _ 7 56 Try.underlying44 hi hz0 hz1 hz2 rfl (by decide) _ ks.length (ks.flatMap encEvt) rfl (own_below O3.out.oA ((Below.refl _ _).alloc (Nat.le_refl _) _)) ⟨w3.heap.size, 0, none⟩ 1 1 (encEvt x) rfl rfl (cells_new _ _ _) (evt_one _) (by unfold maxLen; omega) (by omega) (by have := M3.out.lt; simp; omega) ?_; intro v' w4 hown' hgrow _ hblk))
              have O3a := O3.out.below ((Below.refl _ _).alloc (Nat.le_refl _) (.cells #[.int .i64 x.s.item, .int .i64 x.s.place, .int .i64 x.s.scanner, .int .u8 x.s.kind, .int .i64 x.s.at_, .int .i64 x.s.seen, .int .i64 x.time] 48))
              have O4 := Lib.hid (O3a.growA (A' := ks ++ [x]) (by rw [List.flatMap_append, List.length_append]; simpa using hown') hgrow hblk)
              have M4 := Lib.hid ((M3.out.alloc (.cells #[.int .i64 x.s.item, .int .i64 x.s.place, .int .i64 x.s.scanner, .int .u8 x.s.kind, .int .i64 x.s.at_, .int .i64 x.s.seen, .int .i64 x.time] 48)).of_block (hgrow.block w2.heap.size (by have := M3.out.lt; simp; omega) (fun e => by have := own_ge O3.out.oA e.symm; omega)))
              have B4 := Lib.hid ((B3.out.alloc B3.out.size (.cells #[.int .i64 x.s.item, .int .i64 x.s.place, .int .i64 x.s.scanner, .int .u8 x.s.kind, .int .i64 x.s.at_, .int .i64 x.s.seen, .int .i64 x.time] 48)).grown hgrow (by have := B3.out.size; simp; omega) (fun k e => by have := own_ge O3.out.oA e; omega))
              clear hown' hgrow hblk O3a
              go_wp2_with fail
              go_roundg (es.length - (j + 1))
              case measure => omega
              case rel =>
                refine ⟨j + 1, by omega, by omega, by go_num, B4.out, ?_, ?_⟩
                · rw [Aside, HP.out, HS.out]; exact M4.out
                · rw [Aside, HP.out, HS.out]; exact O4.out
        · have hjl : j = es.length := by omega
          subst hjl
          rw [List.take_length] at OW
          have KF2 := KF.out
          have DF2 := DF.out
          rw [← KF2, ← DF2] at OW
          obtain ⟨A1, c1, e1, r1⟩ := own_rd (k := 7) (fun _ => rfl) OW.out.oA
          obtain ⟨A2, c2, e2, r2⟩ := own_rd (k := 7) (fun _ => rfl) OW.out.oB
          have R1 := Lib.hid r1
          have R2 := Lib.hid r2
          have BF := Lib.hid (B2.out.trans (BW.out.mono B2.out.size))
          clear r1 r2 KF2 DF2 OW
          subst e1 e2
          go_wp2_with fail
          go_ret2
          exact ⟨A1, c1, A2, c2, rfl, R1.out, R2.out, BF.out⟩
end Go.Proofs.Ytcjhkjplpbhjiaa
