/- The walk of ScanTimes. -/
import Derived.Test.YtcjhkjplpbhjiaaRefU
import Derived.Test.YtcjhkjplpbhjiaaSpread
namespace Go.Proofs.Ytcjhkjplpbhjiaa
open Go.RowKit Go.Proofs
set_option maxRecDepth 100000

set_option maxHeartbeats 4000000 in
theorem times_any (A : Option Addr) (c : Nat) (ms : List Mrk) (s : Scn) (w : World) (hr : Rd encMrk 3 w A ms) :
    Calls Try.prog 3 #[.slice A ms.length c, .agg #[.int .i64 s.item, .int .i64 s.place, .int .i64 s.scanner, .int .u8 s.kind, .int .i64 s.at_, .int .i64 s.seen]] w fun e w' => e = .returned (.bool true) ∧ Below w.heap.size w w' := by
  by_cases hlen : ms.length ≤ 60
  · obtain ⟨i0, hi, hz0, hz1, hz2⟩ := info_parts2 infoMrk
    have HR := Lib.hid hr
    clear hr
    go_enter Try.func3, Try.ntmps3
    have HM0 := HR.out.below (Nat.le_refl _) (((Below.refl w.heap.size w).alloc (Nat.le_refl _) (.cells #[.int .i64 s.item, .int .i64 s.place, .int .i64 s.scanner, .int .u8 s.kind, .int .i64 s.at_, .int .i64 s.seen] 24)).alloc (by simp) (.cells #[] 30))
    obtain ⟨t, er, hte, hc1, hc2⟩ : ∃ t er : Int, timeR ms s = .tuple #[.int .i64 t, .int .i64 er] ∧ (okS s = true → okMs ms = true → t = corrF ms s ∧ er = 0) ∧ ((okS s = false ∨ okMs ms = false) → t = 0 ∧ er = 2) := by
      unfold timeR
      by_cases h : (okS s && okMs ms) = true
      · refine ⟨_, _, if_pos h, fun _ _ => ⟨rfl, rfl⟩, fun h2 => ?_⟩
        simp at h; rcases h2 with h2 | h2 <;> simp [h] at h2
      · exact ⟨_, _, if_neg h, fun h1 h2 => absurd (by rw [h1, h2]; rfl) h, fun _ => ⟨rfl, rfl⟩⟩
    have HC1 := Lib.hid hc1
    have HC2 := Lib.hid hc2
    have HTE := Lib.hid hte
    clear hc1 hc2 hte
    go_wp2_with (at_builtin; refine wpList_append_spread _ rfl _ _ 22 rfl (w.heap.size + 1) 30 i0 _ 3 24 Try.underlying22 hi hz0 hz1 hz2 rfl (by decide) (.slice (some ⟨w.heap.size + 1, 0, none⟩) 0 0) 0 [] rfl (by have := World.ownsRow_made (e := 30) (size := 3) (w.alloc (.cells #[.int .i64 s.item, .int .i64 s.place, .int .i64 s.scanner, .int .u8 s.kind, .int .i64 s.at_, .int .i64 s.seen] 24)) #[] 0 (Nat.le_refl _) (Nat.zero_le _) (by simp); rw [World.size_alloc] at this; exact this) encMrk (fun _ => rfl) mrk_one A c ms rfl HM0 (by unfold maxLen; omega) (by omega) (by simp) ?_; intro v0 w1 hown hgrow; have kb := ((Blk.new (w := w) (arr := #[.int .i64 s.item, .int .i64 s.place, .int .i64 s.scanner, .int .u8 s.kind, .int .i64 s.at_, .int .i64 s.seen]) (T := 24) rfl).alloc (.cells #[] 30)).kept hgrow (by simp [Value.ownBlock]); have B1 := Lib.hid ((((Below.refl w.heap.size w).alloc (Nat.le_refl _) (.cells #[.int .i64 s.item, .int .i64 s.place, .int .i64 s.scanner, .int .u8 s.kind, .int .i64 s.at_, .int .i64 s.seen] 24)).alloc (by simp) (.cells #[] 30)).grown hgrow (by simp; omega) (fun k e => by simp [Value.ownBlock] at e; omega)); obtain ⟨B0, c0, rfl, r0⟩ := own_rd (enc := encMrk) (k := 3) (xs := ms) (fun _ => rfl) (by simpa using hown); have RI := Lib.hid r0; have KB := Lib.hid kb; have ck := kb.cells; have ck0 : w1.cell? ⟨w.heap.size, 0, none⟩ = some (.int .i64 s.item) := ck 0; have ck1 : w1.cell? ⟨w.heap.size, 1, none⟩ = some (.int .i64 s.place) := ck 1; have ck2 : w1.cell? ⟨w.heap.size, 2, none⟩ = some (.int .i64 s.scanner) := ck 2; have ck3 : w1.cell? ⟨w.heap.size, 3, none⟩ = some (.int .u8 s.kind) := ck 3; have ck4 : w1.cell? ⟨w.heap.size, 4, none⟩ = some (.int .i64 s.at_) := ck 4; have ck5 : w1.cell? ⟨w.heap.size, 5, none⟩ = some (.int .i64 s.seen) := ck 5; clear hown hgrow r0 kb HM0)
    have ht := time_any B0 c0 ms s w1 RI.out (by omega)
    rw [HTE.out] at ht
    refine ht.mono ?_
    rintro e w2 ⟨rfl, hb2⟩
    have RI2 := Lib.hid (RI.out.below (Nat.le_refl _) hb2)
    have RM2 := Lib.hid ((HR.out.below (Nat.le_refl _) B1.out).below (Nat.le_refl _) hb2)
    have KB2 := Lib.hid (KB.out.below hb2 KB.out.lt)
    have B2 := Lib.hid (B1.out.trans (hb2.mono B1.out.size))
    clear ht hb2 RI KB B1 ck ck0 ck1 ck2 ck3 ck4 ck5 HTE
    go_wp2_with fail
    go_loopg [24] ms.length (fun gg s24 wr => ∃ j : Nat, j ≤ ms.length ∧ ms.length - j ≤ gg ∧ s24 = .int .i64 j ∧ Aside (Below w2.heap.size w2 wr))
    case atStart => exact ⟨0, Nat.zero_le _, by omega, rfl, Below.refl _ _⟩
    case round =>
      obtain ⟨j, hj, hg, rfl, BW⟩ := hrel
      by_cases hlt : j < ms.length
      · have hx : ms[j]? = some ms[j] := List.getElem?_eq_getElem hlt
        obtain ⟨b, o, rfl, hb, hl⟩ := (RI2.out.below (Nat.le_refl _) BW.out).at hx
        obtain ⟨b', o', rfl, hb', hm⟩ := (RM2.out.below (Nat.le_refl _) BW.out).at hx
        generalize ms[j] = x at hl hm hx
        have hl0 := hl 0 _ rfl; have hl1 := hl 1 _ rfl; have hl2 := hl 2 _ rfl; rw [Nat.add_zero] at hl0; clear hl
        have hm0 := hm 0 _ rfl; have hm1 := hm 1 _ rfl; have hm2 := hm 2 _ rfl; rw [Nat.add_zero] at hm0; clear hm
        clear hx
        replace hl0 := fun p : Ex wr => p.cell hb hl0; replace hl1 := fun p : Ex wr => p.cell hb hl1; replace hl2 := fun p : Ex wr => p.cell hb hl2
        replace hm0 := fun p : Ex wr => p.cell hb' hm0; replace hm1 := fun p : Ex wr => p.cell hb' hm1; replace hm2 := fun p : Ex wr => p.cell hb' hm2
        go_wp2_with fail
        (refine wp_region_quiet_ex (by kernel_rfl) (by kernel_rfl) ?_; (repeat (go_big_quiet_step ((fail)))); refine wpQuiet_nil ?_; intro wq hw'; obtain ⟨⟨_, hq⟩, hw''⟩ := hw'; subst hw'')
        have BQ := Lib.hid (BW.out.trans (hq.mono BW.out.size))
        clear hl0 hl1 hl2 hm0 hm1 hm2
        go_wp2_with fail
        go_roundg (ms.length - (j + 1))
        case measure => omega
        case rel => exact ⟨j + 1, by omega, by omega, by go_num, BQ.out⟩
      · have hjl : j = ms.length := by omega
        subst hjl
        have RM := Lib.hid (RM2.out.below (Nat.le_refl _) BW.out)
        have KB := Lib.hid (KB2.out.below BW.out KB2.out.lt)
        have ck := KB.out.cells
        have BA := Lib.hid (B2.out.trans (BW.out.mono B2.out.size))
        have O1 := oneR_any s wr
        clear RM2 KB2 B2 BW RI2
        cases hS : okS s with
        | false =>
          obtain ⟨rfl, rfl⟩ := HC2.out (.inl hS)
          rw [hS] at O1
          have O1 := Lib.hid O1
          clear hS
          go_wp2_with fail
          refine O1.out.mono ?_
          rintro e w3 ⟨rfl, h3⟩
          have B3 := Lib.hid (BA.out.trans (h3.mono BA.out.size))
          clear h3 ck
          go_wp2_with fail
          refine (awake_any _).mono ?_
          rintro e wz ⟨rfl, hz⟩
          have BZ := Lib.hid (B3.out.trans (hz.mono B3.out.size))
          clear hz
          go_wp2_with fail
          go_ret
          exact ⟨rfl, BZ.out⟩
        | true =>
          rw [hS] at O1
          have O1 := Lib.hid O1
          have HS := Lib.hid hS
          clear hS
          go_wp2_with fail
          refine O1.out.mono ?_
          rintro e w3 ⟨rfl, h3⟩
          have RMa := Lib.hid (RM.out.below (Nat.le_refl _) h3)
          have KBa := Lib.hid (KB.out.below h3 KB.out.lt)
          have BAa := Lib.hid (BA.out.trans (h3.mono BA.out.size))
          clear h3 ck RM KB BA
          go_wp2_with fail
          refine (given_any A c ms _ RMa.out (by omega)).mono ?_
          rintro e w4 ⟨G, cg, rfl, rg, h4⟩
          have RG := Lib.hid rg
          have RMb := Lib.hid (RMa.out.below (Nat.le_refl _) h4)
          have KBb := Lib.hid (KBa.out.below h4 KBa.out.lt)
          have BAb := Lib.hid (BAa.out.trans (h4.mono BAa.out.size))
          clear h4 rg RMa KBa BAa
          go_wp2_with fail
          have OG := givenR_any G cg ms _ RG.out (by omega)
          cases hM : okMs ms with
          | false =>
            obtain ⟨rfl, rfl⟩ := HC2.out (.inr hM)
            rw [hM] at OG
            refine OG.mono ?_
            rintro e w5 ⟨rfl, h5⟩
            have B3 := Lib.hid (BAb.out.trans (h5.mono BAb.out.size))
            clear h5 OG
            go_wp2_with fail
            refine (awake_any _).mono ?_
            rintro e wz ⟨rfl, hz⟩
            have BZ := Lib.hid (B3.out.trans (hz.mono B3.out.size))
            clear hz
            go_wp2_with fail
            go_ret
            exact ⟨rfl, BZ.out⟩
          | true =>
            obtain ⟨h9, rfl⟩ := HC1.out HS.out hM
            rw [hM] at OG
            have HM := Lib.hid hM
            clear hM
            refine OG.mono ?_
            rintro e w5 ⟨rfl, h5⟩
            have RM := Lib.hid (RMb.out.below (Nat.le_refl _) h5)
            have KB := Lib.hid (KBb.out.below h5 KBb.out.lt)
            have BA := Lib.hid (BAb.out.trans (h5.mono BAb.out.size))
            clear h5 OG RMb KBb BAb RG
            have TM := Lib.hid (fun (G : Option Addr) (cg : Nat) (V : World) (hr : Rd encMrk 3 V G ms) => timeRef_any G cg ms s V hr (by omega) HM.out HS.out)
            rw [← h9] at TM
            go_wp2_with fail
            have hC : (fun V => Blk V w.heap.size #[.int .i64 s.item, .int .i64 s.place, .int .i64 s.scanner, .int .u8 s.kind, .int .i64 s.at_, .int .i64 s.seen] 24 ∧ Rd encMrk 3 V A ms ∧ Below w.heap.size w V) w5.drew := ⟨KB.out.drew, RM.out.below (Nat.le_refl _) (Below.refl _ _).drew, BA.out.drew⟩
            refine wp_region_C (fun V => Blk V w.heap.size #[.int .i64 s.item, .int .i64 s.place, .int .i64 s.scanner, .int .u8 s.kind, .int .i64 s.at_, .int .i64 s.seen] 24 ∧ Rd encMrk 3 V A ms ∧ Below w.heap.size w V) (by kernel_rfl) ?_
            (refine wpAnyC_take (i := 0) (v := (.int .i64 0)) rfl (by kernel_rfl) (by kernel_rfl) (by kernel_rfl) (fun _ _ _ h => h) hC (Or.inl ⟨by rfl, fun V hV => ?_⟩) ?_; case _ => (skip; go_simp; try (with_reducible rfl)))
            (refine wpAnyC_take (i := 1) (v := (.bool true)) rfl (by kernel_rfl) (by kernel_rfl) (by kernel_rfl) (fun _ _ _ h => h) hC (Or.inl ⟨by rfl, fun V hV => ?_⟩) ?_; case _ => (skip; go_simp; try (with_reducible rfl)))
            (refine wpAnyC_take (i := 2) (v := (.bool true)) rfl (by kernel_rfl) (by kernel_rfl) (by kernel_rfl) (fun _ _ _ h => h) hC (Or.inl ⟨by rfl, fun V hV => ?_⟩) ?_; case _ => (skip; go_simp; try (with_reducible rfl)))
            (refine wpAnyC_take (i := 3) (v := (.int .i64 t)) rfl (by kernel_rfl) (by kernel_rfl) (by kernel_rfl) (fun _ _ _ h => h) hC (Or.inl ⟨by rfl, fun V hV => ?_⟩) ?_; case _ => (skip; go_simp; try (with_reducible rfl)))
            (refine wpAnyC_take (i := 4) (v := (.slice A ms.length c)) rfl (by kernel_rfl) (by kernel_rfl) (by kernel_rfl) (fun _ _ _ h => h) hC (Or.inl ⟨by rfl, fun V hV => ?_⟩) ?_; case _ => (skip; go_simp; try (with_reducible rfl)))
            (refine wpAnyC_take (i := 6) (v := (.agg #[.int .i64 s.item, .int .i64 s.place, .int .i64 s.scanner, .int .u8 s.kind, .int .i64 s.at_, .int .i64 s.seen])) rfl (by kernel_rfl) (by kernel_rfl) (by kernel_rfl) (fun _ _ _ h => h) hC (Or.inl ⟨by rfl, fun V hV => ?_⟩) ?_; case _ => (have hh := Blk.cells hV.1; go_simp; try (with_reducible rfl)))
            refine wpAnyC_want 5 (by kernel_rfl) rfl (by rfl) (fun K hK => ?_)
            go_simp
            refine (given_any A c ms _ hC.2.1 (by omega)).mono ?_
            rintro e w6 ⟨G2, cg2, rfl, rg, h6⟩
            have hC2 : (fun V => Blk V w.heap.size #[.int .i64 s.item, .int .i64 s.place, .int .i64 s.scanner, .int .u8 s.kind, .int .i64 s.at_, .int .i64 s.seen] 24 ∧ Rd encMrk 3 V A ms ∧ Below w.heap.size w V) w6 := ⟨hC.1.below h6 hC.1.lt, hC.2.1.below (Nat.le_refl _) h6, hC.2.2.trans (h6.mono hC.2.2.size)⟩
            refine hK _ _ hC2 ?_
            clear hK K h6 hC
            refine wpAnyC_want 7 (by kernel_rfl) rfl (by rfl) (fun K hK => ?_)
            go_simp
            refine (TM.out _ _ _ rg).mono ?_
            rintro e w7 ⟨rfl, h7⟩
            have hC : (fun V => Blk V w.heap.size #[.int .i64 s.item, .int .i64 s.place, .int .i64 s.scanner, .int .u8 s.kind, .int .i64 s.at_, .int .i64 s.seen] 24 ∧ Rd encMrk 3 V A ms ∧ Below w.heap.size w V) w7 := ⟨hC2.1.below h7 hC2.1.lt, hC2.2.1.below (Nat.le_refl _) h7, hC2.2.2.trans (h7.mono hC2.2.2.size)⟩
            refine hK _ _ hC ?_
            clear hK K h7 hC2 rg
            (refine wpAnyC_take (i := 8) (v := (.bool true)) rfl (by kernel_rfl) (by kernel_rfl) (by kernel_rfl) (fun _ _ _ h => h) hC (Or.inl ⟨by rfl, fun V hV => ?_⟩) ?_; case _ => (skip; go_simp; try (with_reducible rfl)))
            (refine wpAnyC_take (i := 9) (v := (.bool true)) rfl (by kernel_rfl) (by kernel_rfl) (by kernel_rfl) (fun _ _ _ h => h) hC (Or.inl ⟨by rfl, fun V hV => ?_⟩) ?_; case _ => (skip; go_simp; try (with_reducible rfl)))
            (refine wpAnyC_take (i := 10) (v := (.bool true)) rfl (by kernel_rfl) (by kernel_rfl) (by kernel_rfl) (fun _ _ _ h => h) hC (Or.inl ⟨by rfl, fun V hV => ?_⟩) ?_; case _ => (skip; go_simp; try (with_reducible rfl)))
            refine wpAnyC_want 11 (by kernel_rfl) rfl (by rfl) (fun K hK => ?_)
            go_simp
            refine (awake_any _).mono ?_
            rintro e w8 ⟨rfl, h8⟩
            have hC2 : (fun V => Blk V w.heap.size #[.int .i64 s.item, .int .i64 s.place, .int .i64 s.scanner, .int .u8 s.kind, .int .i64 s.at_, .int .i64 s.seen] 24 ∧ Rd encMrk 3 V A ms ∧ Below w.heap.size w V) w8 := ⟨hC.1.below h8 hC.1.lt, hC.2.1.below (Nat.le_refl _) h8, hC.2.2.trans (h8.mono hC.2.2.size)⟩
            refine hK _ _ hC2 ?_
            clear hK K h8 hC
            have BZ := Lib.hid hC2.2.2
            have hC := hC2
            (refine wpAnyC_take (i := 12) (v := (.bool true)) rfl (by kernel_rfl) (by kernel_rfl) (by kernel_rfl) (fun _ _ _ h => h) hC (Or.inl ⟨by rfl, fun V hV => ?_⟩) ?_; case _ => (skip; go_simp; try (with_reducible rfl)))
            refine wpAnyC_one 13 (by kernel_rfl) rfl rfl (fun K hK => ?_)
            go_simp
            refine hK _ _ hC2 ?_
            clear hK K hC hC2
            refine wpAnyC_done (by kernel_rfl) ?_
            go_wp2_with fail
            go_ret
            exact ⟨rfl, BZ.out⟩
  · have h1 : (60 : Int) < ms.length := by omega
    go_enter Try.func3, Try.ntmps3
    go_wp2_with fail
    refine (awake_any _).mono ?_
    rintro e w1 ⟨rfl, hb⟩
    have B1 := Lib.hid (((Below.refl _ _).alloc (Nat.le_refl _) _).trans (hb.mono (by simp)))
    go_wp2_with fail
    go_ret
    exact ⟨rfl, B1.out⟩
end Go.Proofs.Ytcjhkjplpbhjiaa
