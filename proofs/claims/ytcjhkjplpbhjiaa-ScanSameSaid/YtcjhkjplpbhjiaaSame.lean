/- The walk of ScanSame. -/
import Derived.Test.YtcjhkjplpbhjiaaSwap
import Derived.Test.YtcjhkjplpbhjiaaSameP
import Derived.Test.YtcjhkjplpbhjiaaMarksP
namespace Go.Proofs.Ytcjhkjplpbhjiaa
open Go.RowKit Go.Proofs
set_option maxRecDepth 100000

theorem own_rd2 {α : Type} {enc : α → List Value} {k : Nat} (hk : ∀ x, (enc x).length = k) {w : World} {base : Nat} {e : TypeId} {v : Value} {xs : List α} (h : w.ownsRow base e k v xs.length (xs.flatMap enc)) :
    ∃ A c, v = .slice A xs.length c ∧ Rd enc k w A xs ∧ xs.length ≤ c := by
  obtain ⟨A, c, hv, hr⟩ := own_rd hk h
  refine ⟨A, c, hv, hr, ?_⟩
  rcases h.2 with ⟨h1, h2⟩ | ⟨g, cap, cur, h1, _, _, h2, _⟩
  · rw [hv] at h1; simp at h1; omega
  · rw [hv] at h1; simp at h1; omega
theorem own_rowS {w : World} {base : Nat} {v : Value} {xs : List Scn} (h : w.ownsRow base 24 6 v xs.length (xs.flatMap encScn)) (hne : xs.length ≠ 0) :
    ∃ g cap, v = .slice (some ⟨g, 0, none⟩) xs.length cap ∧ base ≤ g ∧ RowS w g xs := by
  obtain ⟨A, c, hv, hr⟩ := own_rd (k := 6) (fun _ => rfl) h
  rcases h.2 with ⟨_, h2⟩ | ⟨g, cap, cur, h1, h2, h3, _⟩
  · exact absurd h2 hne
  · rw [hv] at h1; simp at h1
    obtain ⟨rfl, rfl⟩ := h1
    exact ⟨g, _, hv, h2, ⟨cur, h3⟩, hr⟩

theorem okR {l : List Scn} (h : ∀ s ∈ l, okS s = true) (hl : l.length ≤ 2000) : keptR l = keptF l ∧ marksR l = marksF l ∧ errR l = 0 :=
  ⟨if_pos (okL_of h hl), if_pos (okL_of h hl), if_pos (okL_of h hl)⟩

set_option maxHeartbeats 8000000 in
theorem scanSame_any (A B : Option Addr) (c d : Nat) (l : List Frm) (cl : List Int) (pa pb pm : Int) (w : World) (hr : Rd encFrm 6 w A l) (hrc : Rd encI8 1 w B cl) (hcap : l.length ≤ c) (hok : ∀ f ∈ l, FrmOk f) (h8 : ∀ x ∈ cl, -128 ≤ x ∧ x ≤ 127)
    (hpa : 0 ≤ pa ∧ pa ≤ 255) (hpb : 0 ≤ pb ∧ pb ≤ 255) (hpm : 0 ≤ pm ∧ pm ≤ 255) :
    Calls Try.prog 5 #[.slice A l.length c, .slice B cl.length d, .int .u8 pa, .int .u8 pb, .int .u8 pm] w fun e w' => e = .returned (.bool true) ∧ Below w.heap.size w w' := by
  obtain ⟨i0, hi, hz0, hz1, hz2⟩ := info_parts2 infScn
  have HB := Lib.hid (built_any A B c d l cl w hr hrc hcap hok h8)
  have OK := Lib.hid (built_oks cl l h8 hok)
  have hL := built_len cl l
  generalize builtS cl l = L at *
  generalize builtT l = T at *
  clear hr hrc hok h8 hcap
  by_cases hn0 : L.length = 0
  · go_enter Try.func5, Try.ntmps5
    go_wp2_with fail
    refine HB.out.mono ?_
    rintro e w1 ⟨v1, v2, rfl, hO, hb1⟩
    obtain ⟨S0, cs, rfl, r1⟩ := own_rd (k := 6) (fun _ => rfl) hO.oA
    have B1 := Lib.hid hb1
    clear hO hb1 r1 HB
    go_wp2_with fail
    refine (awake_any _).mono ?_
    rintro e wz ⟨rfl, hz⟩
    have BZ := Lib.hid (B1.out.trans (hz.mono B1.out.size))
    clear hz
    go_wp2_with fail
    go_ret
    exact ⟨rfl, BZ.out⟩
  · go_enter Try.func5, Try.ntmps5
    go_wp2_with fail
    refine HB.out.mono ?_
    rintro e w1 ⟨v1, v2, rfl, hO, hb1⟩
    obtain ⟨S0, cs, rfl, r1, hcs⟩ := own_rd2 (k := 6) (fun _ => rfl) hO.oA
    have RL1 := Lib.hid r1
    have B1 := Lib.hid hb1
    clear hO hb1 r1 HB
    go_wp2_with (at_builtin; refine wpList_append_spread _ rfl _ _ 39 rfl w1.heap.size 24 i0 _ 6 48 Try.underlying39 hi hz0 hz1 hz2 rfl (by decide) (.slice (some ⟨w1.heap.size, 0, none⟩) 0 0) 0 [] rfl (World.ownsRow_made (e := 24) (size := 6) w1 #[] 0 (Nat.le_refl _) (Nat.zero_le _) (by simp)) encScn (fun _ => rfl) scn_one S0 cs L rfl (RL1.out.below (Nat.le_refl _) ((Below.refl _ _).alloc (Nat.le_refl _) _)) (by unfold maxLen; omega) (by omega) (by simp) ?_; intro v0 w2 hown hgrow; obtain ⟨g, cap, rfl, hg, hrow⟩ := own_rowS (xs := L) (by simpa using hown) hn0; have R0 := Lib.hid hrow; have B2 := Lib.hid (((Below.refl w1.heap.size w1).alloc (Nat.le_refl _) (.cells #[] 24)).grown hgrow (by simp) (fun k e => by simp [Value.ownBlock] at e; omega)); clear hown hgrow hrow)
    go_loopg [14, 15] L.length (fun gg s14 s15 wr => ∃ (i : Nat) (ys : List Scn), i ≤ L.length ∧ L.length - i ≤ gg ∧ s14 = .int .i64 i ∧ s15 = .int .i64 ((L.length : Int) - 1 - i) ∧ ys.length = L.length ∧ Aside (ys.Perm L) ∧ Aside (RowS wr g ys) ∧ Aside (Below w1.heap.size w1 wr))
    case atStart => exact ⟨0, L, Nat.zero_le _, by omega, rfl, by simp, rfl, List.Perm.refl _, R0.out, B2.out⟩
    case round =>
      obtain ⟨i, ys, hi1, hgk, rfl, rfl, hyl, PM, RW, BW⟩ := hrel
      by_cases hlt : (i : Int) < (L.length : Int) - 1 - i
      · obtain ⟨k, hk⟩ : ∃ k : Nat, (L.length : Int) - 1 - i = k := ⟨L.length - 1 - i, by omega⟩
        rw [hk] at hlt ⊢
        have hki : i < k := by omega
        have hkl : k < L.length := by omega
        have hil : i < L.length := by omega
        go_wp2_with fail
        have hyi : ys[i]? = some ys[i] := List.getElem?_eq_getElem (by omega)
        have hyk : ys[k]? = some ys[k] := List.getElem?_eq_getElem (by omega)
        have ci := RW.out.cells hyi
        have ck := RW.out.cells hyk
        have ff := RW.out.free
        have PS := Lib.hid (List.set_set_perm (show i < ys.length by omega) (show k < ys.length by omega))
        have RA := Lib.hid ((RowS.put6 (RowS.put6 RW.out (j := i) (by omega) ys[k]) (j := k) (by rw [List.length_set]; omega) ys[i]).drew)
        generalize ys[i] = yi at *
        generalize ys[k] = yk at *
        have ci0 := ci 0 _ rfl
        have ci1 := ci 1 _ rfl
        have ci2 := ci 2 _ rfl
        have ci3 := ci 3 _ rfl
        have ci4 := ci 4 _ rfl
        have ci5 := ci 5 _ rfl
        have ck0 := ck 0 _ rfl
        have ck1 := ck 1 _ rfl
        have ck2 := ck 2 _ rfl
        have ck3 := ck 3 _ rfl
        have ck4 := ck 4 _ rfl
        have ck5 := ck 5 _ rfl
        rw [Nat.add_zero] at ci0 ck0
        clear ci ck hyi hyk
        refine wp_region_any (by kernel_rfl) ?_
        (refine wpAny_take (i := 0) (v := (.slice (some ⟨g, 0, none⟩) L.length cap)) rfl (by kernel_rfl) (by kernel_rfl) (by kernel_rfl) (fun _ _ _ h => h) (Or.inl ⟨by rfl, ?_⟩) ?_; case _ => (intro w; go_simp; try (with_reducible rfl)))
        (refine wpAny_take (i := 1) (v := (.int .i64 i)) rfl (by kernel_rfl) (by kernel_rfl) (by kernel_rfl) (fun _ _ _ h => h) (Or.inl ⟨by rfl, ?_⟩) ?_; case _ => (intro w; go_simp; try (with_reducible rfl)))
        (refine wpAny_take (i := 2) (v := (.slice (some ⟨g, 0, none⟩) L.length cap)) rfl (by kernel_rfl) (by kernel_rfl) (by kernel_rfl) (fun _ _ _ h => h) (Or.inl ⟨by rfl, ?_⟩) ?_; case _ => (intro w; go_simp; try (with_reducible rfl)))
        (refine wpAny_take (i := 3) (v := (.int .i64 k)) rfl (by kernel_rfl) (by kernel_rfl) (by kernel_rfl) (fun _ _ _ h => h) (Or.inl ⟨by rfl, ?_⟩) ?_; case _ => (intro w; go_simp; try (with_reducible rfl)))
        (refine wpAny_take (i := 4) (v := (.slice (some ⟨g, 0, none⟩) L.length cap)) rfl (by kernel_rfl) (by kernel_rfl) (by kernel_rfl) (fun _ _ _ h => h) (Or.inl ⟨by rfl, ?_⟩) ?_; case _ => (intro w; go_simp; try (with_reducible rfl)))
        (refine wpAny_take (i := 5) (v := (.int .i64 k)) rfl (by kernel_rfl) (by kernel_rfl) (by kernel_rfl) (fun _ _ _ h => h) (Or.inl ⟨by rfl, ?_⟩) ?_; case _ => (intro w; go_simp; try (with_reducible rfl)))
        (refine wpAny_take (i := 6) (v := (.pointer (some ⟨g, k * 6, none⟩))) rfl (by kernel_rfl) (by kernel_rfl) (by kernel_rfl) (fun _ _ _ h => h) (Or.inl ⟨by rfl, ?_⟩) ?_; case _ => (intro w; go_simp; try (with_reducible rfl)))
        (refine wpAny_take (i := 8) (v := (.slice (some ⟨g, 0, none⟩) L.length cap)) rfl (by kernel_rfl) (by kernel_rfl) (by kernel_rfl) (fun _ _ _ h => h) (Or.inl ⟨by rfl, ?_⟩) ?_; case _ => (intro w; go_simp; try (with_reducible rfl)))
        (refine wpAny_take (i := 9) (v := (.int .i64 i)) rfl (by kernel_rfl) (by kernel_rfl) (by kernel_rfl) (fun _ _ _ h => h) (Or.inl ⟨by rfl, ?_⟩) ?_; case _ => (intro w; go_simp; try (with_reducible rfl)))
        (refine wpAny_take (i := 10) (v := (.pointer (some ⟨g, i * 6, none⟩))) rfl (by kernel_rfl) (by kernel_rfl) (by kernel_rfl) (fun _ _ _ h => h) (Or.inl ⟨by rfl, ?_⟩) ?_; case _ => (intro w; go_simp; try (with_reducible rfl)))
        refine wpAny_two 7 11 (.agg #[.int .i64 yk.item, .int .i64 yk.place, .int .i64 yk.scanner, .int .u8 yk.kind, .int .i64 yk.at_, .int .i64 yk.seen]) (.agg #[.int .i64 yi.item, .int .i64 yi.place, .int .i64 yi.scanner, .int .u8 yi.kind, .int .i64 yi.at_, .int .i64 yi.seen]) (by kernel_rfl) rfl rfl rfl rfl (by kernel_rfl) (by kernel_rfl) (by decide) (fun d h => by cases h; decide) (fun a' h => by rcases h with rfl | rfl <;> (go_simp; try (with_reducible rfl))) (fun a' h => by rcases h with rfl | rfl <;> (go_simp; try (with_reducible rfl))) ?_
        (refine wpAny_take (i := 12) (v := (.pointer (some ⟨g, i * 6, none⟩))) rfl (by kernel_rfl) (by kernel_rfl) (by kernel_rfl) (fun _ _ _ h => h) (Or.inl ⟨by rfl, ?_⟩) ?_; case _ => (intro w; go_simp; try (with_reducible rfl)))
        refine wpAny_one 13 (by kernel_rfl) rfl rfl (fun K hK => ?_)
        go_simp
        refine hK _ _ ?_
        clear hK K
        have ff2 := (RowS.put RW.out (j := i) (by omega) yk).free
        refine wpAny_one 14 (by kernel_rfl) rfl rfl (fun K hK => ?_)
        go_simp
        refine hK _ _ ?_
        clear hK K
        refine wpAny_one 15 (by kernel_rfl) rfl rfl (fun K hK => ?_)
        go_simp
        change K _ (put6 (put6 wr g (i * 6) yk) g (k * 6) yi).drew
        have BX := Lib.hid ((below_put6 (below_put6 BW.out hg (i * 6) yk) hg (k * 6) yi).drew)
        generalize (put6 (put6 wr g (i * 6) yk) g (k * 6) yi).drew = W9 at *
        refine hK _ _ ?_
        clear hK K ff ff2 ci0 ci1 ci2 ci3 ci4 ci5 ck0 ck1 ck2 ck3 ck4 ck5
        refine wpAny_done (by kernel_rfl) ?_ _
        go_wp2_with fail
        go_roundg (L.length - (i + 1))
        case measure => omega
        case rel => exact ⟨i + 1, _, by omega, by omega, by go_num, by first | go_num | (congr 1; omega), by rw [List.length_set, List.length_set]; exact hyl, PS.out.trans PM.out, RA.out, BX.out⟩
      · have hn1 : 0 < L.length := by omega
        have ha1 := Int.emod_nonneg pa (show (L.length : Int) ≠ 0 by omega)
        have ha2 := Int.emod_lt_of_pos pa (show 0 < (L.length : Int) by omega)
        have hb1 := Int.emod_nonneg pb (show (L.length : Int) ≠ 0 by omega)
        have hb2 := Int.emod_lt_of_pos pb (show 0 < (L.length : Int) by omega)
        have wa : IntKind.i64.wrap pa = pa := IntWalk.i64_in _ (by omega)
        have wb : IntKind.i64.wrap pb = pb := IntWalk.i64_in _ (by omega)
        have wm : IntKind.i64.wrap pm = pm := IntWalk.i64_in _ (by omega)
        go_wp2_with fail
        (refine wp_region_quiet_ex (by kernel_rfl) (by kernel_rfl) ?_; (repeat (go_big_quiet_step ((fail)))); refine wpQuiet_nil ?_; intro wq hw'; obtain ⟨⟨_, hq⟩, hw''⟩ := hw'; subst hw'')
        have BQ := Lib.hid (BW.out.trans (hq.mono BW.out.size))
        have RQ := Lib.hid (RW.out.below hq (Nat.le_refl _))
        clear hq RW BW
        rename World => wr
        have BW := BQ
        have RW := RQ
        clear BQ RQ
        obtain ⟨i, hi9⟩ : ∃ i : Nat, pa % (L.length : Int) = i := ⟨(pa % (L.length : Int)).toNat, by omega⟩
        obtain ⟨k, hk9⟩ : ∃ k : Nat, pb % (L.length : Int) = k := ⟨(pb % (L.length : Int)).toNat, by omega⟩
        rw [hi9] at ha1 ha2 ⊢
        rw [hk9] at hb1 hb2 ⊢
        have hil : i < L.length := by omega
        have hkl : k < L.length := by omega
        clear hi9 hk9
        go_wp2_with fail
        have hyi : ys[i]? = some ys[i] := List.getElem?_eq_getElem (by omega)
        have hyk : ys[k]? = some ys[k] := List.getElem?_eq_getElem (by omega)
        have ci := RW.out.cells hyi
        have ck := RW.out.cells hyk
        have ff := RW.out.free
        have PS := Lib.hid (List.set_set_perm (show i < ys.length by omega) (show k < ys.length by omega))
        generalize ys[i] = yi at *
        generalize ys[k] = yk at *
        have ci0 := ci 0 _ rfl
        have ci1 := ci 1 _ rfl
        have ci2 := ci 2 _ rfl
        have ci3 := ci 3 _ rfl
        have ci4 := ci 4 _ rfl
        have ci5 := ci 5 _ rfl
        have ck0 := ck 0 _ rfl
        have ck1 := ck 1 _ rfl
        have ck2 := ck 2 _ rfl
        have ck3 := ck 3 _ rfl
        have ck4 := ck 4 _ rfl
        have ck5 := ck 5 _ rfl
        rw [Nat.add_zero] at ci0 ck0
        clear ci ck hyi hyk
        refine wp_region_any (by kernel_rfl) ?_
        (refine wpAny_take (i := 0) (v := (.slice (some ⟨g, 0, none⟩) L.length cap)) rfl (by kernel_rfl) (by kernel_rfl) (by kernel_rfl) (fun _ _ _ h => h) (Or.inl ⟨by rfl, ?_⟩) ?_; case _ => (intro w; go_simp; try (with_reducible rfl)))
        (refine wpAny_take (i := 1) (v := (.int .i64 i)) rfl (by kernel_rfl) (by kernel_rfl) (by kernel_rfl) (fun _ _ _ h => h) (Or.inl ⟨by rfl, ?_⟩) ?_; case _ => (intro w; go_simp; try (with_reducible rfl)))
        (refine wpAny_take (i := 2) (v := (.slice (some ⟨g, 0, none⟩) L.length cap)) rfl (by kernel_rfl) (by kernel_rfl) (by kernel_rfl) (fun _ _ _ h => h) (Or.inl ⟨by rfl, ?_⟩) ?_; case _ => (intro w; go_simp; try (with_reducible rfl)))
        (refine wpAny_take (i := 3) (v := (.int .i64 k)) rfl (by kernel_rfl) (by kernel_rfl) (by kernel_rfl) (fun _ _ _ h => h) (Or.inl ⟨by rfl, ?_⟩) ?_; case _ => (intro w; go_simp; try (with_reducible rfl)))
        (refine wpAny_take (i := 4) (v := (.slice (some ⟨g, 0, none⟩) L.length cap)) rfl (by kernel_rfl) (by kernel_rfl) (by kernel_rfl) (fun _ _ _ h => h) (Or.inl ⟨by rfl, ?_⟩) ?_; case _ => (intro w; go_simp; try (with_reducible rfl)))
        (refine wpAny_take (i := 5) (v := (.int .i64 k)) rfl (by kernel_rfl) (by kernel_rfl) (by kernel_rfl) (fun _ _ _ h => h) (Or.inl ⟨by rfl, ?_⟩) ?_; case _ => (intro w; go_simp; try (with_reducible rfl)))
        (refine wpAny_take (i := 6) (v := (.pointer (some ⟨g, k * 6, none⟩))) rfl (by kernel_rfl) (by kernel_rfl) (by kernel_rfl) (fun _ _ _ h => h) (Or.inl ⟨by rfl, ?_⟩) ?_; case _ => (intro w; go_simp; try (with_reducible rfl)))
        (refine wpAny_take (i := 8) (v := (.slice (some ⟨g, 0, none⟩) L.length cap)) rfl (by kernel_rfl) (by kernel_rfl) (by kernel_rfl) (fun _ _ _ h => h) (Or.inl ⟨by rfl, ?_⟩) ?_; case _ => (intro w; go_simp; try (with_reducible rfl)))
        (refine wpAny_take (i := 9) (v := (.int .i64 i)) rfl (by kernel_rfl) (by kernel_rfl) (by kernel_rfl) (fun _ _ _ h => h) (Or.inl ⟨by rfl, ?_⟩) ?_; case _ => (intro w; go_simp; try (with_reducible rfl)))
        (refine wpAny_take (i := 10) (v := (.pointer (some ⟨g, i * 6, none⟩))) rfl (by kernel_rfl) (by kernel_rfl) (by kernel_rfl) (fun _ _ _ h => h) (Or.inl ⟨by rfl, ?_⟩) ?_; case _ => (intro w; go_simp; try (with_reducible rfl)))
        refine wpAny_two 7 11 (.agg #[.int .i64 yk.item, .int .i64 yk.place, .int .i64 yk.scanner, .int .u8 yk.kind, .int .i64 yk.at_, .int .i64 yk.seen]) (.agg #[.int .i64 yi.item, .int .i64 yi.place, .int .i64 yi.scanner, .int .u8 yi.kind, .int .i64 yi.at_, .int .i64 yi.seen]) (by kernel_rfl) rfl rfl rfl rfl (by kernel_rfl) (by kernel_rfl) (by decide) (fun d h => by cases h; decide) (fun a' h => by rcases h with rfl | rfl <;> (go_simp; try (with_reducible rfl))) (fun a' h => by rcases h with rfl | rfl <;> (go_simp; try (with_reducible rfl))) ?_
        (refine wpAny_take (i := 12) (v := (.pointer (some ⟨g, i * 6, none⟩))) rfl (by kernel_rfl) (by kernel_rfl) (by kernel_rfl) (fun _ _ _ h => h) (Or.inl ⟨by rfl, ?_⟩) ?_; case _ => (intro w; go_simp; try (with_reducible rfl)))
        refine wpAny_one 13 (by kernel_rfl) rfl rfl (fun K hK => ?_)
        go_simp
        change K _ (put6 wr g (i * 6) yk).drew
        have R5 := Lib.hid ((RowS.put6 RW.out (j := i) (by omega) yk).drew)
        have B5 := Lib.hid ((below_put6 BW.out hg (i * 6) yk).drew)
        generalize (put6 wr g (i * 6) yk).drew = W5 at *
        refine hK _ _ ?_
        clear hK K ff ci0 ci1 ci2 ci3 ci4 ci5 ck0 ck1 ck2 ck3 ck4 ck5
        have hz : (ys.set i yk)[k]? = some ((ys.set i yk)[k]'(by rw [List.length_set]; omega)) := List.getElem?_eq_getElem _
        have cz := R5.out.cells hz
        generalize (ys.set i yk)[k]'(by rw [List.length_set]; omega) = z at cz
        have ff := R5.out.free
        have cz0 := cz 0 _ rfl
        have cz1 := cz 1 _ rfl
        have cz2 := cz 2 _ rfl
        have cz3 := cz 3 _ rfl
        have cz4 := cz 4 _ rfl
        have cz5 := cz 5 _ rfl
        rw [Nat.add_zero] at cz0
        clear cz hz
        refine wpAny_one 14 (by kernel_rfl) rfl rfl (fun K hK => ?_)
        go_simp
        refine hK _ _ ?_
        clear hK K
        refine wpAny_one 15 (by kernel_rfl) rfl rfl (fun K hK => ?_)
        go_simp
        change K _ (put6 W5 g (k * 6) yi)
        have RA := Lib.hid (RowS.put6 R5.out (j := k) (by rw [List.length_set]; omega) yi)
        have BX := Lib.hid (below_put6 B5.out hg (k * 6) yi)
        generalize put6 W5 g (k * 6) yi = W9 at *
        refine hK _ _ ?_
        clear hK K ff cz0 cz1 cz2 cz3 cz4 cz5 R5 B5
        refine wpAny_done (by kernel_rfl) ?_ _
        go_wp2_with fail
        rename World => wr
        have hyl2 : ((ys.set i yk).set k yi).length = L.length := by rw [List.length_set, List.length_set]; exact hyl
        have PM2 := Lib.hid (PS.out.trans PM.out)
        generalize (ys.set i yk).set k yi = zs at *
        obtain ⟨m, hm9⟩ : ∃ m : Nat, pm % ((L.length : Int) + 1) = m := ⟨(pm % ((L.length : Int) + 1)).toNat, by have := Int.emod_nonneg pm (show (L.length : Int) + 1 ≠ 0 by omega); omega⟩
        have hml : m ≤ L.length := by have := Int.emod_lt_of_pos pm (show 0 < (L.length : Int) + 1 by omega); omega
        have hmc : m ≤ cs := by omega
        have wl1 : IntKind.i64.wrap ((L.length : Int) + 1) = (L.length : Int) + 1 := IntWalk.i64_in _ (by omega)
        have wl2 : ¬ (L.length : Int) + 1 = 0 := by omega
        have wl3 : pm.tmod ((L.length : Int) + 1) = m := by rw [Int.tmod_eq_emod_of_nonneg hpm.1]; exact hm9
        have RZ := Lib.hid RA.out.2
        have BZ := Lib.hid BX.out.drew
        have hbz := BX.out.size
        have hmk : (L.take m).length = m := by rw [List.length_take]; omega
        refine wp_region_any (by kernel_rfl) ?_
        (refine wpAny_take (i := 1) (v := (.slice (some ⟨g, 0, none⟩) L.length cap)) rfl (by kernel_rfl) (by kernel_rfl) (by kernel_rfl) (fun _ _ _ h => h) (Or.inl ⟨by rfl, ?_⟩) ?_; case _ => (intro w; go_simp; try (with_reducible rfl)))
        (refine wpAny_take (i := 3) (v := (.slice S0 L.length cs)) rfl (by kernel_rfl) (by kernel_rfl) (by kernel_rfl) (fun _ _ _ h => h) (Or.inl ⟨by rfl, ?_⟩) ?_; case _ => (intro w; go_simp; try (with_reducible rfl)))
        (refine wpAny_take (i := 4) (v := (.int .u8 pm)) rfl (by kernel_rfl) (by kernel_rfl) (by kernel_rfl) (fun _ _ _ h => h) (Or.inl ⟨by rfl, ?_⟩) ?_; case _ => (intro w; go_simp; try (with_reducible rfl)))
        (refine wpAny_take (i := 5) (v := (.int .i64 pm)) rfl (by kernel_rfl) (by kernel_rfl) (by kernel_rfl) (fun _ _ _ h => h) (Or.inl ⟨by rfl, ?_⟩) ?_; case _ => (intro w; go_simp; try (with_reducible rfl)))
        (refine wpAny_take (i := 6) (v := (.slice S0 L.length cs)) rfl (by kernel_rfl) (by kernel_rfl) (by kernel_rfl) (fun _ _ _ h => h) (Or.inl ⟨by rfl, ?_⟩) ?_; case _ => (intro w; go_simp; try (with_reducible rfl)))
        (refine wpAny_take (i := 7) (v := (.int .i64 L.length)) rfl (by kernel_rfl) (by kernel_rfl) (by kernel_rfl) (fun _ _ _ h => h) (Or.inl ⟨by rfl, ?_⟩) ?_; case _ => (intro w; go_simp; try (with_reducible rfl)))
        (refine wpAny_take (i := 8) (v := (.int .i64 ((L.length : Int) + 1))) rfl (by kernel_rfl) (by kernel_rfl) (by kernel_rfl) (fun _ _ _ h => h) (Or.inl ⟨by rfl, ?_⟩) ?_; case _ => (intro w; go_simp; try (with_reducible rfl)))
        (refine wpAny_take (i := 9) (v := (.int .i64 m)) rfl (by kernel_rfl) (by kernel_rfl) (by kernel_rfl) (fun _ _ _ h => h) (Or.inl ⟨by rfl, ?_⟩) ?_; case _ => (intro w; go_simp; try (with_reducible rfl)))
        (refine wpAny_take (i := 10) (v := (.slice S0 m cs)) rfl (by kernel_rfl) (by kernel_rfl) (by kernel_rfl) (fun _ _ _ h => h) (Or.inl ⟨by rfl, ?_⟩) ?_; case _ => (intro w; go_simp; try (with_reducible rfl)))
        refine wpAny_one 0 (by kernel_rfl) rfl rfl (fun K hK => ?_)
        go_simp
        refine hK _ _ ?_
        clear hK K
        refine wpAny_one 2 (by kernel_rfl) rfl rfl (fun K hK => ?_)
        have RLr := Lib.hid (RL1.out.below (Nat.le_refl _) BX.out)
        have O0 := World.ownsRow_made (e := 24) (size := 6) (base := wr.heap.size) wr.drew #[] 0 (Nat.le_refl _) (Nat.zero_le _) (by simp)
        have RZ2 := RZ.out.below (Nat.le_refl _) ((Below.refl wr.heap.size wr).drew.alloc (Nat.le_refl _) (.cells #[] 24))
        refine wp_append_spread _ _ _ 39 rfl wr.heap.size 24 i0 _ 6 48 Try.underlying39 hi hz0 hz1 hz2 rfl (by decide) (.slice (some ⟨wr.heap.size, 0, none⟩) 0 0) 0 [] rfl O0 encScn (fun _ => rfl) scn_one (some ⟨g, 0, none⟩) cap zs (by rw [hyl2]; rfl) RZ2 (by unfold maxLen; omega) (by omega) (by simp) ?_
        intro v5 w5 hown hgrow
        have own5 := Lib.hid hown
        have B5 := Lib.hid (((Below.refl wr.heap.size wr).drew.alloc (Nat.le_refl _) (.cells #[] 24)).grown hgrow (by simp) (fun k e => by simp [Value.ownBlock] at e; omega))
        clear hown hgrow O0 RZ2
        refine hK _ _ ?_
        clear hK K
        refine wpAny_one 11 (by kernel_rfl) rfl rfl (fun K hK => ?_)
        refine wp_append_spread _ _ _ 39 rfl wr.heap.size 24 i0 _ 6 48 Try.underlying39 hi hz0 hz1 hz2 rfl (by decide) v5 (0 + zs.length) _ rfl own5.out encScn (fun _ => rfl) scn_one S0 cs (L.take m) (by rw [hmk]; rfl) ((RLr.out.below (Nat.le_refl _) B5.out).take m) (by unfold maxLen; omega) (by omega) B5.out.size ?_
        intro v6 w6 hown hgrow
        have B6 := B5.out.grown hgrow B5.out.size (fun k e => own_ge own5.out e)
        have hown' : w6.ownsRow wr.heap.size 24 6 v6 (zs ++ L.take m).length ((zs ++ L.take m).flatMap encScn) := by
          rw [List.flatMap_append, List.length_append]; simpa using hown
        obtain ⟨A6, c6, rfl, r6⟩ := own_rd (k := 6) (fun _ => rfl) hown'
        have R6 := Lib.hid r6
        have RG := Lib.hid (RZ.out.below (Nat.le_refl _) B6)
        have RS := Lib.hid (RLr.out.below (Nat.le_refl _) B6)
        have BB := Lib.hid (B1.out.trans ((BX.out.trans (B6.mono BX.out.size)).mono B1.out.size))
        clear hown hgrow hown' r6 B6
        refine hK _ _ ?_
        clear hK K
        refine wpAny_one 12 (by kernel_rfl) rfl rfl (fun K hK => ?_)
        go_simp
        refine hK _ _ ?_
        clear hK K
        refine wpAny_done (by kernel_rfl) ?_ _
        have hmem : ∀ s, s ∈ zs ↔ s ∈ L := fun s => PM2.out.mem_iff
        have hmem3 : ∀ s, s ∈ zs ++ L.take m ↔ s ∈ L := fun s => by
          rw [List.mem_append, hmem s]
          exact ⟨fun h => h.elim id List.mem_of_mem_take, .inl⟩
        have e1 := okR (l := L) OK.out (by omega)
        have e2 := okR (l := zs) (fun s hs => OK.out s ((hmem s).1 hs)) (by omega)
        have e3 := okR (l := zs ++ L.take m) (fun s hs => OK.out s ((hmem3 s).1 hs)) (by rw [List.length_append]; omega)
        have hq9 : (zs ++ L.take m).length = L.length + m := by rw [List.length_append, hmk, hyl2]
        have hl3 : (zs ++ L.take m).length ≤ 48 := by rw [List.length_append]; omega
        have k1 := fun V (hV : Rd encScn 6 V S0 L) => Order_any S0 cs L V hV (by omega)
        have k2 := fun V (hV : Rd encScn 6 V (some ⟨g, 0, none⟩) zs) => Order_any (some ⟨g, 0, none⟩) cap zs V hV (by omega)
        have k3 := fun V (hV : Rd encScn 6 V A6 (zs ++ L.take m)) => Order_any A6 c6 (zs ++ L.take m) V hV (by omega)
        have k4 := fun V (hV : Rd encScn 6 V S0 L) => Marks_any S0 cs L V hV (by omega)
        have k5 := fun V (hV : Rd encScn 6 V A6 (zs ++ L.take m)) => Marks_any A6 c6 (zs ++ L.take m) V hV (by omega)
        rw [e1.1, e1.2.2] at k1
        rw [e2.1, e2.2.2, keptF_congr hmem, hyl2] at k2
        rw [e3.1, e3.2.2, keptF_congr hmem3, hq9] at k3
        rw [e1.2.1, e1.2.2] at k4
        rw [e3.2.1, e3.2.2, marksF_congr hmem3, hq9] at k5
        have hkl9 : (keptF L).length ≤ 1000000 := by
          have h1 := part_len (evsF L)
          have h2 : (evsF L).length = L.length := by unfold evsF; rw [(srt_perm _ _).length_eq, List.length_map]
          unfold keptF; omega
        have hml9 := marks_len L
        have K1 := Lib.hid k1
        have K2 := Lib.hid k2
        have K3 := Lib.hid k3
        have K4 := Lib.hid k4
        have K5 := Lib.hid k5
        clear k1 k2 k3 k4 k5 e1 e2 e3 hmem hmem3
        generalize keptF L = es at *
        generalize marksF L = ms at *
        generalize zs ++ L.take m = qs at *
        go_wp2_with fail
        refine (K1.out _ RS.out).mono ?_
        rintro e x0 ⟨a0, d0, rfl, hr0, hb0⟩
        replace RS := Lib.hid (RS.out.below (Nat.le_refl _) hb0)
        replace RG := Lib.hid (RG.out.below (Nat.le_refl _) hb0)
        replace R6 := Lib.hid (R6.out.below (Nat.le_refl _) hb0)
        replace BB := Lib.hid (BB.out.trans (hb0.mono BB.out.size))
        have E1 := Lib.hid hr0
        clear hr0 hb0
        go_wp2_with fail
        refine (K2.out _ RG.out).mono ?_
        rintro e x1 ⟨a1, d1, rfl, hr1, hb1⟩
        replace RS := Lib.hid (RS.out.below (Nat.le_refl _) hb1)
        replace RG := Lib.hid (RG.out.below (Nat.le_refl _) hb1)
        replace R6 := Lib.hid (R6.out.below (Nat.le_refl _) hb1)
        replace E1 := Lib.hid (E1.out.below (Nat.le_refl _) hb1)
        replace BB := Lib.hid (BB.out.trans (hb1.mono BB.out.size))
        have E2 := Lib.hid hr1
        clear hr1 hb1
        go_wp2_with fail
        refine (K3.out _ R6.out).mono ?_
        rintro e x2 ⟨a2, d2, rfl, hr2, hb2⟩
        replace RS := Lib.hid (RS.out.below (Nat.le_refl _) hb2)
        replace RG := Lib.hid (RG.out.below (Nat.le_refl _) hb2)
        replace R6 := Lib.hid (R6.out.below (Nat.le_refl _) hb2)
        replace E1 := Lib.hid (E1.out.below (Nat.le_refl _) hb2)
        replace E2 := Lib.hid (E2.out.below (Nat.le_refl _) hb2)
        replace BB := Lib.hid (BB.out.trans (hb2.mono BB.out.size))
        have E3 := Lib.hid hr2
        clear hr2 hb2
        go_wp2_with fail
        refine (K4.out _ RS.out).mono ?_
        rintro e x3 ⟨a3, d3, rfl, hr3, hb3⟩
        replace RS := Lib.hid (RS.out.below (Nat.le_refl _) hb3)
        replace RG := Lib.hid (RG.out.below (Nat.le_refl _) hb3)
        replace R6 := Lib.hid (R6.out.below (Nat.le_refl _) hb3)
        replace E1 := Lib.hid (E1.out.below (Nat.le_refl _) hb3)
        replace E2 := Lib.hid (E2.out.below (Nat.le_refl _) hb3)
        replace E3 := Lib.hid (E3.out.below (Nat.le_refl _) hb3)
        replace BB := Lib.hid (BB.out.trans (hb3.mono BB.out.size))
        have M4 := Lib.hid hr3
        clear hr3 hb3
        go_wp2_with fail
        refine (K5.out _ R6.out).mono ?_
        rintro e x4 ⟨a4, d4, rfl, hr4, hb4⟩
        replace RS := Lib.hid (RS.out.below (Nat.le_refl _) hb4)
        replace RG := Lib.hid (RG.out.below (Nat.le_refl _) hb4)
        replace R6 := Lib.hid (R6.out.below (Nat.le_refl _) hb4)
        replace E1 := Lib.hid (E1.out.below (Nat.le_refl _) hb4)
        replace E2 := Lib.hid (E2.out.below (Nat.le_refl _) hb4)
        replace E3 := Lib.hid (E3.out.below (Nat.le_refl _) hb4)
        replace M4 := Lib.hid (M4.out.below (Nat.le_refl _) hb4)
        replace BB := Lib.hid (BB.out.trans (hb4.mono BB.out.size))
        have M5 := Lib.hid hr4
        clear hr4 hb4
        go_wp2_with fail
        clear RS RG R6 K1 K2 K3 K4 K5 RA BX RZ RLr
        obtain ⟨wb, hwb⟩ : ∃ wb, wb = x4 := ⟨_, rfl⟩
        rw [← hwb]
        rw [← hwb] at E1 E2 E3 M4 M5 BB
        clear hwb
        go_loopg [155] ms.length (fun gg s155 wr => ∃ j : Nat, j ≤ ms.length ∧ ms.length - j ≤ gg ∧ s155 = .int .i64 j ∧ Aside (Below wb.heap.size wb wr))
        case atStart => exact ⟨0, Nat.zero_le _, by omega, rfl, Below.refl _ _⟩
        case round =>
          obtain ⟨j, hj, hg9, rfl, BW⟩ := hrel
          by_cases hlt9 : j < ms.length
          · have hx : ms[j]? = some ms[j] := List.getElem?_eq_getElem hlt9
            obtain ⟨b, o, rfl, hb, hl⟩ := (M4.out.below (Nat.le_refl _) BW.out).at hx
            obtain ⟨b', o', rfl, hb', hm⟩ := (M5.out.below (Nat.le_refl _) BW.out).at hx
            generalize ms[j] = x at hl hm hx
            have hl0 := hl 0 _ rfl; have hl1 := hl 1 _ rfl; have hl2 := hl 2 _ rfl; rw [Nat.add_zero] at hl0; clear hl
            have hm0 := hm 0 _ rfl; have hm1 := hm 1 _ rfl; have hm2 := hm 2 _ rfl; rw [Nat.add_zero] at hm0; clear hm
            clear hx
            replace hl0 := fun p : Ex wr => p.cell hb hl0; replace hl1 := fun p : Ex wr => p.cell hb hl1; replace hl2 := fun p : Ex wr => p.cell hb hl2
            replace hm0 := fun p : Ex wr => p.cell hb' hm0; replace hm1 := fun p : Ex wr => p.cell hb' hm1; replace hm2 := fun p : Ex wr => p.cell hb' hm2
            go_wp2_with fail
            (refine wp_region_quiet_ex (by kernel_rfl) (by kernel_rfl) ?_; (repeat (go_big_quiet_step ((fail)))); refine wpQuiet_nil ?_; intro wq hw'; obtain ⟨⟨_, hq⟩, hw''⟩ := hw'; subst hw'')
            have BQ := Lib.hid (BW.out.trans (hq.mono BW.out.size))
            clear hl0 hl1 hl2 hm0 hm1 hm2
            go_wp2_with fail
            go_roundg (ms.length - (j + 1))
            case measure => omega
            case rel => exact ⟨j + 1, by omega, by omega, by go_num, BQ.out⟩
          · have hjl : j = ms.length := by omega
            subst hjl
            have q1 := Lib.hid (E1.out.below (Nat.le_refl _) BW.out)
            have q2 := Lib.hid (E2.out.below (Nat.le_refl _) BW.out)
            have q3 := Lib.hid (E3.out.below (Nat.le_refl _) BW.out)
            have B8 := Lib.hid (BB.out.trans (BW.out.mono BB.out.size))
            clear E1 E2 E3 M4 M5 BB BW
            go_wp2_with fail
            refine (sameEv_any _ _ _ _ es _ q1.out q2.out (by omega)).mono ?_
            rintro e y1 ⟨rfl, hb⟩
            replace q1 := Lib.hid (q1.out.below (Nat.le_refl _) hb)
            replace q3 := Lib.hid (q3.out.below (Nat.le_refl _) hb)
            replace B8 := Lib.hid (B8.out.trans (hb.mono B8.out.size))
            clear hb
            go_wp2_with fail
            refine (sameEv_any _ _ _ _ es _ q1.out q3.out (by omega)).mono ?_
            rintro e y2 ⟨rfl, hb⟩
            replace B8 := Lib.hid (B8.out.trans (hb.mono B8.out.size))
            clear hb
            go_wp2_with fail
            refine (awake_any _).mono ?_
            rintro e wz ⟨rfl, hz⟩
            have BZ := Lib.hid (B8.out.trans (hz.mono B8.out.size))
            clear hz
            go_wp2_with fail
            go_ret
            exact ⟨rfl, BZ.out⟩
end Go.Proofs.Ytcjhkjplpbhjiaa
