/- The statement ClaimTells, of slices that read as lists: true. -/
import Derived.Test.YtnnppnlekpadnaaGreatTells
namespace Go.Proofs.YtnnppnlekpadnaaGreat
open Go.RowKit Go.Proofs
set_option maxRecDepth 100000

theorem infStd : (Tryz.prog.info? 27).map (fun i => (i.zero, i.size, i.bytes)) = some (some (.agg #[(.int .u8 0), (.int .i64 0), (.int .i64 0), (.int .i64 0)]), 4, 32) := by kernel_rfl
theorem infTerms : (Tryz.prog.info? 41).map (fun i => (i.zero, i.size, i.bytes)) = some (some (.agg #[(.int .u8 0), (.int .i64 0), (.int .i64 0), (.int .i64 0), (.int .i64 0), (.int .i64 0), (.int .i64 0)]), 7, 56) := by kernel_rfl
theorem std_one (x : Std) : ∀ u ∈ encStd x, u.oneCell' = true := by
  intro u hu
  simp [encStd] at hu
  rcases hu with rfl | rfl | rfl | rfl <;> rfl
theorem sent_one (x : Sent) : ∀ u ∈ encSent x, u.oneCell' = true := by
  intro u hu
  simp [encSent] at hu
  rcases hu with rfl | rfl | rfl | rfl | rfl | rfl <;> rfl

set_option maxHeartbeats 20000000 in
theorem ClaimTells_any (HA : ∀ w : World, Calls Tryz.prog 10 #[] w fun e w' => e = .returned (.bool true) ∧ Below w.heap.size w w')
    (Al : Option Addr) (ca : Nat) (l : List Std) (At : Option Addr) (cb : Nat) (t : List Terms) (As : Option Addr) (cc : Nat) (s : List Sent) (Ac : Option Addr) (cd : Nat) (c : List Clm) (w : World)
    (hl : Rd encStd 4 w Al l) (ul : ∀ x ∈ l, 0 ≤ x.cl) (ht : Rd encTerms 7 w At t) (ut : ∀ x ∈ t, 0 ≤ x.cl) (hs : Rd encSent 6 w As s) (us : ∀ x ∈ s, 0 ≤ x.cl) (hc : Rd encClm 6 w Ac c) (uc : ∀ x ∈ c, 0 ≤ x.kind ∧ x.kind ≤ 255) :
    Calls Tryz.prog 6 #[.slice Al l.length ca, .slice At t.length cb, .slice As s.length cc, .slice Ac c.length cd] w fun e w' => e = .returned (.bool true) ∧ Below w.heap.size w w' := by
  have HA := Lib.hid HA
  have FW := fun W => few_any Al At As Ac l.length t.length s.length c.length ca cb cc cd W
  by_cases hn : l.length ≤ 60 ∧ t.length ≤ 60 ∧ s.length ≤ 60 ∧ c.length ≤ 60
  · rw [decide_eq_true hn] at FW
    obtain ⟨n1, n2, n3, n4⟩ := hn
    have HL := Lib.hid hl
    have HT := Lib.hid ht
    have HS := Lib.hid hs
    have HC := Lib.hid hc
    have UU := Lib.hid (And.intro ul (And.intro ut (And.intro us uc)))
    clear hl ht hs hc ul ut us uc
    obtain ⟨i0, hi0, hz0, hs0, hb0⟩ := info_parts2 infStd
    obtain ⟨i1, hi1, hz1, hs1, hb1⟩ := info_parts2 infTerms
    obtain ⟨i2, hi2, hz2, hs2, hb2⟩ := info_parts2 infSent
    obtain ⟨i3, hi3, hz3, hs3, hb3⟩ := info_parts2 infClm
    go_enter Tryz.func6, Tryz.ntmps6
    go_wp2_with fail
    refine (FW _).mono ?_
    rintro e w0 ⟨rfl, rfl⟩
    have b0 := Below.refl w.heap.size w
    have hcr0 := HL.out.below (Nat.le_refl _) (b0.alloc b0.size (.cells #[] 27))
    go_wp2_with (at_builtin; refine wpList_append_spread _ rfl _ _ 22 rfl w.heap.size 27 i0 (.agg #[(.int .u8 0), (.int .i64 0), (.int .i64 0), (.int .i64 0)]) 4 32 Tryz.underlying22 hi0 hz0 hs0 hb0 rfl (by decide) _ _ _ rfl (World.ownsRow_made w #[] 0 (Nat.le_refl _) (Nat.zero_le _) (by simp)) encStd (fun _ => rfl) std_one Al ca l rfl hcr0 ?a0 ?b0 (by first | (simp; done) | (simp; omega) | omega) ?_)
    case a0 => rw [Nat.zero_add]; unfold maxLen; omega
    case b0 => rw [Nat.zero_add]; omega
    intro v0 w1 hown hgrow
    have bs := ((Below.refl _ w).alloc (Nat.le_refl _) _).grown hgrow (by simp) (by intro k hk; simp [Value.ownBlock] at hk; omega)
    have own0 : w1.ownsRow w.heap.size 27 4 v0 l.length (l.flatMap encStd) := by simpa using hown
    obtain ⟨B0, d0, rfl, r0⟩ := own_rd (enc := encStd) (k := 4) (fun _ => rfl) own0
    have b1 := b0.trans (bs.mono b0.size)
    clear hown hgrow bs own0 hcr0
    have hcr1 := HT.out.below (Nat.le_refl _) (b1.alloc b1.size (.cells #[] 41))
    go_wp2_with (at_builtin; refine wpList_append_spread _ rfl _ _ 28 rfl w1.heap.size 41 i1 (.agg #[(.int .u8 0), (.int .i64 0), (.int .i64 0), (.int .i64 0), (.int .i64 0), (.int .i64 0), (.int .i64 0)]) 7 56 Tryz.underlying28 hi1 hz1 hs1 hb1 rfl (by decide) _ _ _ rfl (World.ownsRow_made w1 #[] 0 (Nat.le_refl _) (Nat.zero_le _) (by simp)) encTerms (fun _ => rfl) terms_one At cb t rfl hcr1 ?a1 ?b1 (by first | (simp; done) | (simp; omega) | omega) ?_)
    case a1 => rw [Nat.zero_add]; unfold maxLen; omega
    case b1 => rw [Nat.zero_add]; omega
    intro v1 w2 hown hgrow
    have bs := ((Below.refl _ w1).alloc (Nat.le_refl _) _).grown hgrow (by simp) (by intro k hk; simp [Value.ownBlock] at hk; omega)
    have own1 : w2.ownsRow w1.heap.size 41 7 v1 t.length (t.flatMap encTerms) := by simpa using hown
    obtain ⟨B1, d1, rfl, r1⟩ := own_rd (enc := encTerms) (k := 7) (fun _ => rfl) own1
    have b2 := b1.trans (bs.mono b1.size)
    replace r0 := r0.below (Nat.le_refl _) bs
    clear hown hgrow bs own1 hcr1
    have hcr2 := HS.out.below (Nat.le_refl _) (b2.alloc b2.size (.cells #[] 34))
    go_wp2_with (at_builtin; refine wpList_append_spread _ rfl _ _ 29 rfl w2.heap.size 34 i2 (.agg #[(.int .i64 0), (.int .u8 0), (.int .i64 0), (.int .i64 0), (.int .i64 0), (.int .i64 0)]) 6 48 Tryz.underlying29 hi2 hz2 hs2 hb2 rfl (by decide) _ _ _ rfl (World.ownsRow_made w2 #[] 0 (Nat.le_refl _) (Nat.zero_le _) (by simp)) encSent (fun _ => rfl) sent_one As cc s rfl hcr2 ?a2 ?b2 (by first | (simp; done) | (simp; omega) | omega) ?_)
    case a2 => rw [Nat.zero_add]; unfold maxLen; omega
    case b2 => rw [Nat.zero_add]; omega
    intro v2 w3 hown hgrow
    have bs := ((Below.refl _ w2).alloc (Nat.le_refl _) _).grown hgrow (by simp) (by intro k hk; simp [Value.ownBlock] at hk; omega)
    have own2 : w3.ownsRow w2.heap.size 34 6 v2 s.length (s.flatMap encSent) := by simpa using hown
    obtain ⟨B2, d2, rfl, r2⟩ := own_rd (enc := encSent) (k := 6) (fun _ => rfl) own2
    have b3 := b2.trans (bs.mono b2.size)
    replace r0 := r0.below (Nat.le_refl _) bs
    replace r1 := r1.below (Nat.le_refl _) bs
    clear hown hgrow bs own2 hcr2
    have hcr3 := HC.out.below (Nat.le_refl _) (b3.alloc b3.size (.cells #[] 31))
    go_wp2_with (at_builtin; refine wpList_append_spread _ rfl _ _ 48 rfl w3.heap.size 31 i3 (.agg #[(.int .i64 0), (.int .i64 0), (.int .i64 0), (.int .u8 0), (.int .i64 0), (.int .i64 0)]) 6 48 Tryz.underlying48 hi3 hz3 hs3 hb3 rfl (by decide) _ _ _ rfl (World.ownsRow_made w3 #[] 0 (Nat.le_refl _) (Nat.zero_le _) (by simp)) encClm (fun _ => rfl) clm_one Ac cd c rfl hcr3 ?a3 ?b3 (by first | (simp; done) | (simp; omega) | omega) ?_)
    case a3 => rw [Nat.zero_add]; unfold maxLen; omega
    case b3 => rw [Nat.zero_add]; omega
    intro v3 w4 hown hgrow
    have bs := ((Below.refl _ w3).alloc (Nat.le_refl _) _).grown hgrow (by simp) (by intro k hk; simp [Value.ownBlock] at hk; omega)
    have own3 : w4.ownsRow w3.heap.size 31 6 v3 c.length (c.flatMap encClm) := by simpa using hown
    obtain ⟨B3, d3, rfl, r3⟩ := own_rd (enc := encClm) (k := 6) (fun _ => rfl) own3
    have b4 := b3.trans (bs.mono b3.size)
    replace r0 := r0.below (Nat.le_refl _) bs
    replace r1 := r1.below (Nat.le_refl _) bs
    replace r2 := r2.below (Nat.le_refl _) bs
    clear hown hgrow bs own3 hcr3
    have hcon := tells_any B0 B1 B2 B3 d0 d1 d2 d3 l t s c w4 r0 r1 r2 r3 (by omega) (by omega) (by omega) (by omega) UU.out.1 UU.out.2.1 UU.out.2.2.1 UU.out.2.2.2
    go_wp2_with fail
    refine hcon.mono ?_
    rintro e w5 ⟨rfl, hb⟩
    have R := Lib.hid (And.intro (r0.below (Nat.le_refl _) hb) (And.intro (r1.below (Nat.le_refl _) hb) (And.intro (r2.below (Nat.le_refl _) hb) (r3.below (Nat.le_refl _) hb))))
    have b5 := b4.trans (hb.mono b4.size)
    have B5 := Lib.hid b5
    clear hb hcon r0 r1 r2 r3 b0 b1 b2 b3 b4 b5
    go_wp2_with fail
    go_loopg [13] l.length (fun gg s13 wr => ∃ j : Nat, j ≤ l.length ∧ l.length - j ≤ gg ∧ s13 = .int .i64 j ∧ Aside (Below w5.heap.size w5 wr))
    case atStart => exact ⟨0, Nat.zero_le _, by omega, rfl, Below.refl _ _⟩
    case round =>
      obtain ⟨j, hj, hg, rfl, hw⟩ := hrel
      by_cases hlt : j < l.length
      · have hx : l[j]? = some l[j] := List.getElem?_eq_getElem hlt
        obtain ⟨p1, p2, hpa, hbp, hp⟩ := (R.out.1.below (Nat.le_refl _) hw.out).at hx
        subst hpa
        obtain ⟨q1, q2, hqa, hbq, hq⟩ := (HL.out.below (Nat.le_refl _) (B5.out.trans (hw.out.mono B5.out.size))).at hx
        subst hqa
        generalize l[j] = x at hx hp hq
        have hp0 := hp 0 _ rfl; have hp1 := hp 1 _ rfl; have hp2 := hp 2 _ rfl; have hp3 := hp 3 _ rfl; rw [Nat.add_zero] at hp0; clear hp
        have hq0 := hq 0 _ rfl; have hq1 := hq 1 _ rfl; have hq2 := hq 2 _ rfl; have hq3 := hq 3 _ rfl; rw [Nat.add_zero] at hq0; clear hq
        replace hp0 := fun p : Ex wr => p.cell hbp hp0; replace hp1 := fun p : Ex wr => p.cell hbp hp1; replace hp2 := fun p : Ex wr => p.cell hbp hp2; replace hp3 := fun p : Ex wr => p.cell hbp hp3
        replace hq0 := fun p : Ex wr => p.cell hbq hq0; replace hq1 := fun p : Ex wr => p.cell hbq hq1; replace hq2 := fun p : Ex wr => p.cell hbq hq2; replace hq3 := fun p : Ex wr => p.cell hbq hq3
        clear hx
        go_wp2_with fail
        (refine wp_region_quiet_ex (by kernel_rfl) (by kernel_rfl) ?_; (repeat (go_big_quiet_step ((fail)))); refine wpQuiet_nil ?_; intro wq hw'; obtain ⟨⟨_, hq⟩, hw''⟩ := hw'; subst hw'')
        have BQ := Lib.hid (hw.out.trans (hq.mono hw.out.size))
        clear hp0 hq0 hp1 hq1 hp2 hq2 hp3 hq3 hw hq
        go_wp2_with fail
        go_roundg (l.length - (j + 1))
        case measure => omega
        case rel => exact ⟨j + 1, by omega, by omega, by go_num, BQ.out⟩
      · have hjn : j = l.length := by omega
        subst hjn
        have hg' : ¬ (l.length : Int) < (l.length : Int) := by omega
        have BL0 := Lib.hid hw.out
        clear hw
        go_wp2_with fail
        go_loopg [14] t.length (fun gg s14 wr => ∃ j : Nat, j ≤ t.length ∧ t.length - j ≤ gg ∧ s14 = .int .i64 j ∧ Aside (Below w5.heap.size w5 wr))
        case atStart => exact ⟨0, Nat.zero_le _, by omega, rfl, BL0.out⟩
        case round =>
          obtain ⟨j, hj, hg, rfl, hw⟩ := hrel
          by_cases hlt : j < t.length
          · have hx : t[j]? = some t[j] := List.getElem?_eq_getElem hlt
            obtain ⟨p1, p2, hpa, hbp, hp⟩ := (R.out.2.1.below (Nat.le_refl _) hw.out).at hx
            subst hpa
            obtain ⟨q1, q2, hqa, hbq, hq⟩ := (HT.out.below (Nat.le_refl _) (B5.out.trans (hw.out.mono B5.out.size))).at hx
            subst hqa
            generalize t[j] = x at hx hp hq
            have hp0 := hp 0 _ rfl; have hp1 := hp 1 _ rfl; have hp2 := hp 2 _ rfl; have hp3 := hp 3 _ rfl; have hp4 := hp 4 _ rfl; have hp5 := hp 5 _ rfl; have hp6 := hp 6 _ rfl; rw [Nat.add_zero] at hp0; clear hp
            have hq0 := hq 0 _ rfl; have hq1 := hq 1 _ rfl; have hq2 := hq 2 _ rfl; have hq3 := hq 3 _ rfl; have hq4 := hq 4 _ rfl; have hq5 := hq 5 _ rfl; have hq6 := hq 6 _ rfl; rw [Nat.add_zero] at hq0; clear hq
            replace hp0 := fun p : Ex wr => p.cell hbp hp0; replace hp1 := fun p : Ex wr => p.cell hbp hp1; replace hp2 := fun p : Ex wr => p.cell hbp hp2; replace hp3 := fun p : Ex wr => p.cell hbp hp3; replace hp4 := fun p : Ex wr => p.cell hbp hp4; replace hp5 := fun p : Ex wr => p.cell hbp hp5; replace hp6 := fun p : Ex wr => p.cell hbp hp6
            replace hq0 := fun p : Ex wr => p.cell hbq hq0; replace hq1 := fun p : Ex wr => p.cell hbq hq1; replace hq2 := fun p : Ex wr => p.cell hbq hq2; replace hq3 := fun p : Ex wr => p.cell hbq hq3; replace hq4 := fun p : Ex wr => p.cell hbq hq4; replace hq5 := fun p : Ex wr => p.cell hbq hq5; replace hq6 := fun p : Ex wr => p.cell hbq hq6
            clear hx
            go_wp2_with fail
            (refine wp_region_quiet_ex (by kernel_rfl) (by kernel_rfl) ?_; (repeat (go_big_quiet_step ((fail)))); refine wpQuiet_nil ?_; intro wq hw'; obtain ⟨⟨_, hq⟩, hw''⟩ := hw'; subst hw'')
            have BQ := Lib.hid (hw.out.trans (hq.mono hw.out.size))
            clear hp0 hq0 hp1 hq1 hp2 hq2 hp3 hq3 hp4 hq4 hp5 hq5 hp6 hq6 hw hq
            go_wp2_with fail
            go_roundg (t.length - (j + 1))
            case measure => omega
            case rel => exact ⟨j + 1, by omega, by omega, by go_num, BQ.out⟩
          · have hjn : j = t.length := by omega
            subst hjn
            have hg' : ¬ (t.length : Int) < (t.length : Int) := by omega
            have BL1 := Lib.hid hw.out
            clear hw
            go_wp2_with fail
            go_loopg [15] s.length (fun gg s15 wr => ∃ j : Nat, j ≤ s.length ∧ s.length - j ≤ gg ∧ s15 = .int .i64 j ∧ Aside (Below w5.heap.size w5 wr))
            case atStart => exact ⟨0, Nat.zero_le _, by omega, rfl, BL1.out⟩
            case round =>
              obtain ⟨j, hj, hg, rfl, hw⟩ := hrel
              by_cases hlt : j < s.length
              · have hx : s[j]? = some s[j] := List.getElem?_eq_getElem hlt
                obtain ⟨p1, p2, hpa, hbp, hp⟩ := (R.out.2.2.1.below (Nat.le_refl _) hw.out).at hx
                subst hpa
                obtain ⟨q1, q2, hqa, hbq, hq⟩ := (HS.out.below (Nat.le_refl _) (B5.out.trans (hw.out.mono B5.out.size))).at hx
                subst hqa
                generalize s[j] = x at hx hp hq
                have hp0 := hp 0 _ rfl; have hp1 := hp 1 _ rfl; have hp2 := hp 2 _ rfl; have hp3 := hp 3 _ rfl; have hp4 := hp 4 _ rfl; have hp5 := hp 5 _ rfl; rw [Nat.add_zero] at hp0; clear hp
                have hq0 := hq 0 _ rfl; have hq1 := hq 1 _ rfl; have hq2 := hq 2 _ rfl; have hq3 := hq 3 _ rfl; have hq4 := hq 4 _ rfl; have hq5 := hq 5 _ rfl; rw [Nat.add_zero] at hq0; clear hq
                replace hp0 := fun p : Ex wr => p.cell hbp hp0; replace hp1 := fun p : Ex wr => p.cell hbp hp1; replace hp2 := fun p : Ex wr => p.cell hbp hp2; replace hp3 := fun p : Ex wr => p.cell hbp hp3; replace hp4 := fun p : Ex wr => p.cell hbp hp4; replace hp5 := fun p : Ex wr => p.cell hbp hp5
                replace hq0 := fun p : Ex wr => p.cell hbq hq0; replace hq1 := fun p : Ex wr => p.cell hbq hq1; replace hq2 := fun p : Ex wr => p.cell hbq hq2; replace hq3 := fun p : Ex wr => p.cell hbq hq3; replace hq4 := fun p : Ex wr => p.cell hbq hq4; replace hq5 := fun p : Ex wr => p.cell hbq hq5
                clear hx
                go_wp2_with fail
                (refine wp_region_quiet_ex (by kernel_rfl) (by kernel_rfl) ?_; (repeat (go_big_quiet_step ((fail)))); refine wpQuiet_nil ?_; intro wq hw'; obtain ⟨⟨_, hq⟩, hw''⟩ := hw'; subst hw'')
                have BQ := Lib.hid (hw.out.trans (hq.mono hw.out.size))
                clear hp0 hq0 hp1 hq1 hp2 hq2 hp3 hq3 hp4 hq4 hp5 hq5 hw hq
                go_wp2_with fail
                go_roundg (s.length - (j + 1))
                case measure => omega
                case rel => exact ⟨j + 1, by omega, by omega, by go_num, BQ.out⟩
              · have hjn : j = s.length := by omega
                subst hjn
                have hg' : ¬ (s.length : Int) < (s.length : Int) := by omega
                have BL2 := Lib.hid hw.out
                clear hw
                go_wp2_with fail
                go_loopg [16] c.length (fun gg s16 wr => ∃ j : Nat, j ≤ c.length ∧ c.length - j ≤ gg ∧ s16 = .int .i64 j ∧ Aside (Below w5.heap.size w5 wr))
                case atStart => exact ⟨0, Nat.zero_le _, by omega, rfl, BL2.out⟩
                case round =>
                  obtain ⟨j, hj, hg, rfl, hw⟩ := hrel
                  by_cases hlt : j < c.length
                  · have hx : c[j]? = some c[j] := List.getElem?_eq_getElem hlt
                    obtain ⟨p1, p2, hpa, hbp, hp⟩ := (R.out.2.2.2.below (Nat.le_refl _) hw.out).at hx
                    subst hpa
                    obtain ⟨q1, q2, hqa, hbq, hq⟩ := (HC.out.below (Nat.le_refl _) (B5.out.trans (hw.out.mono B5.out.size))).at hx
                    subst hqa
                    generalize c[j] = x at hx hp hq
                    have hp0 := hp 0 _ rfl; have hp1 := hp 1 _ rfl; have hp2 := hp 2 _ rfl; have hp3 := hp 3 _ rfl; have hp4 := hp 4 _ rfl; have hp5 := hp 5 _ rfl; rw [Nat.add_zero] at hp0; clear hp
                    have hq0 := hq 0 _ rfl; have hq1 := hq 1 _ rfl; have hq2 := hq 2 _ rfl; have hq3 := hq 3 _ rfl; have hq4 := hq 4 _ rfl; have hq5 := hq 5 _ rfl; rw [Nat.add_zero] at hq0; clear hq
                    replace hp0 := fun p : Ex wr => p.cell hbp hp0; replace hp1 := fun p : Ex wr => p.cell hbp hp1; replace hp2 := fun p : Ex wr => p.cell hbp hp2; replace hp3 := fun p : Ex wr => p.cell hbp hp3; replace hp4 := fun p : Ex wr => p.cell hbp hp4; replace hp5 := fun p : Ex wr => p.cell hbp hp5
                    replace hq0 := fun p : Ex wr => p.cell hbq hq0; replace hq1 := fun p : Ex wr => p.cell hbq hq1; replace hq2 := fun p : Ex wr => p.cell hbq hq2; replace hq3 := fun p : Ex wr => p.cell hbq hq3; replace hq4 := fun p : Ex wr => p.cell hbq hq4; replace hq5 := fun p : Ex wr => p.cell hbq hq5
                    clear hx
                    go_wp2_with fail
                    (refine wp_region_quiet_ex (by kernel_rfl) (by kernel_rfl) ?_; (repeat (go_big_quiet_step ((fail)))); refine wpQuiet_nil ?_; intro wq hw'; obtain ⟨⟨_, hq⟩, hw''⟩ := hw'; subst hw'')
                    have BQ := Lib.hid (hw.out.trans (hq.mono hw.out.size))
                    clear hp0 hq0 hp1 hq1 hp2 hq2 hp3 hq3 hp4 hq4 hp5 hq5 hw hq
                    go_wp2_with fail
                    go_roundg (c.length - (j + 1))
                    case measure => omega
                    case rel => exact ⟨j + 1, by omega, by omega, by go_num, BQ.out⟩
                  · have hjn : j = c.length := by omega
                    subst hjn
                    have hg' : ¬ (c.length : Int) < (c.length : Int) := by omega
                    have BL3 := Lib.hid hw.out
                    clear hw
                    go_wp2_with fail
                    refine (HA.out _).mono ?_
                    rintro e w9 ⟨rfl, hb⟩
                    have b9 := B5.out.trans (BL3.out.mono B5.out.size)
                    go_wp2_with fail
                    go_ret
                    exact ⟨rfl, b9.trans (hb.mono b9.size)⟩
  · rw [decide_eq_false hn] at FW
    clear hn hl ht hs hc ul ut us uc
    generalize l.length = n1 at *
    generalize t.length = n2 at *
    generalize s.length = n3 at *
    generalize c.length = n4 at *
    go_enter Tryz.func6, Tryz.ntmps6
    go_wp2_with fail
    refine (FW _).mono ?_
    rintro e w1 ⟨rfl, rfl⟩
    go_wp2_with fail
    refine (HA.out _).mono ?_
    rintro e w2 ⟨rfl, hb⟩
    go_wp2_with fail
    go_ret
    exact ⟨rfl, hb⟩
end Go.Proofs.YtnnppnlekpadnaaGreat
