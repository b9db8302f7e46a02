/- The contract of the reference's Settle. -/
import Derived.Test.YtnnppnlekpadnaaGreatRefSP
namespace Go.Proofs.YtnnppnlekpadnaaGreat
open Go.RowKit Go.Proofs
set_option maxRecDepth 100000

theorem infRClm : (Tryz.prog.info? 90).map (fun i => (i.zero, i.size, i.bytes)) = some (some (.agg #[(.int .i64 0), (.int .i64 0), (.int .i64 0), (.int .u8 0), (.int .i64 0), (.int .i64 0)]), 6, 48) := by kernel_rfl
theorem infROut : (Tryz.prog.info? 87).map (fun i => (i.zero, i.size, i.bytes)) = some (some (.agg #[.int .i64 0, .int .i64 0, .int .u8 0]), 3, 24) := by kernel_rfl
theorem infInt : (Tryz.prog.info? 3).map (fun i => (i.zero, i.size, i.bytes)) = some (some (.int .i64 0), 1, 8) := by kernel_rfl
theorem clm_one (x : Clm) : ∀ u ∈ encClm x, u.oneCell' = true := by
  intro u hu
  simp [encClm] at hu
  rcases hu with rfl | rfl | rfl | rfl | rfl | rfl <;> rfl
theorem outc_one (x : Outc) : ∀ u ∈ encOutc x, u.oneCell' = true := by
  intro u hu
  simp [encOutc] at hu
  rcases hu with rfl | rfl | rfl <;> rfl
theorem bothcases (b : Bool) : b = true ∨ b = false := by cases b <;> simp

section
variable (Al At As Ac : Option Addr) (ca cb cc cd : Nat) (l : List Std) (t : List Terms) (s : List Sent) (c : List Clm) (w : World)
variable (hl : Rd encStd 4 w Al l) (ht : Rd encTerms 7 w At t) (hs : Rd encSent 6 w As s) (hc : Rd encClm 6 w Ac c) (nl : l.length ≤ 1000000) (nt : t.length ≤ 1000000) (ns : s.length ≤ 1000000) (nc : c.length ≤ 1000000)
variable (ul : ∀ x ∈ l, 0 ≤ x.cl) (ut : ∀ x ∈ t, 0 ≤ x.cl) (us : ∀ x ∈ s, 0 ≤ x.cl) (uc : ∀ x ∈ c, 0 ≤ x.kind ∧ x.kind ≤ 255)
include hl ht hs hc nl nt ns nc ul ut us uc in
theorem refSettle_err (h : chkP l t s c ≠ 0) : Calls Tryz.prog 46 #[.slice Al l.length ca, .slice At t.length cb, .slice As s.length cc, .slice Ac c.length cd] w fun e w' => e = .returned (.tuple #[.slice none 0 0, .int .i64 (chkP l t s c)]) ∧ Below w.heap.size w w' := by
  have h1 := refCheck Al At As Ac ca cb cc cd l t s c w hl ht hs hc nl nt ns nc ul ut us uc rfl
  have e1 : (chkP l t s c != 0) = true := by simpa using h
  have e2 : (chkP l t s c == 0) = false := by simpa using h
  clear hl ht hs hc h ul ut us uc
  generalize chkP l t s c = r at *
  generalize l.length = n1 at *
  generalize t.length = n2 at *
  generalize s.length = n3 at *
  generalize c.length = n4 at *
  go_enter Tryz.func46, Tryz.ntmps46
  go_wp2_with fail
  refine h1.mono ?_
  rintro e w1 ⟨rfl, hb⟩
  go_wp2_with fail
  go_ret2
  exact ⟨rfl, hb⟩

include hl ht hs hc nl nt ns nc ul ut us uc in
set_option maxHeartbeats 20000000 in
theorem refSettle_ok (h : chkP l t s c = 0) : Calls Tryz.prog 46 #[.slice Al l.length ca, .slice At t.length cb, .slice As s.length cc, .slice Ac c.length cd] w fun e w' => ∃ (d : List Clm) (A : Option Addr) (cap : Nat), d.Perm c ∧ d.Pairwise (fun x y => ¬ ltSet y x) ∧ e = .returned (.tuple #[.slice A c.length cap, .int .i64 0]) ∧ Rd encOutc 3 w' A (setF l t s d).2 ∧ Below w.heap.size w w' := by
  obtain ⟨z1, z2, z3, z4⟩ := chkP_zero h
  have okd : ∀ x ∈ c, okClm x = true := by
    unfold rightClm at z4; simp at z4
    intro x hx
    exact z4.2.1 x hx
  have h1 := refCheck Al At As Ac ca cb cc cd l t s c w hl ht hs hc nl nt ns nc ul ut us uc rfl
  rw [h] at h1
  have VD := Lib.hid (fun (x : Clm) (hx : okClm x = true) (W : World) (b : Below w.heap.size w W) => refVerdict Al At As ca cb cc l t s x W (hl.below (Nat.le_refl _) b) (ht.below (Nat.le_refl _) b) (hs.below (Nat.le_refl _) b) nl nt ns ul z2 z3 hx)
  have HC := Lib.hid hc
  have HZ := Lib.hid okd
  clear hl ht hs hc h z1 z2 z3 z4 okd ul ut us uc nl nt ns
  obtain ⟨iL, hiL, hL0, hL1, hL2⟩ := info_parts2 infRClm
  obtain ⟨iO, hiO, hO0, hO1, hO2⟩ := info_parts2 infROut
  obtain ⟨iP, hiP, hP0, hP1, hP2⟩ := info_parts2 infInt
  generalize l.length = n1 at *
  generalize t.length = n2 at *
  generalize s.length = n3 at *
  go_enter Tryz.func46, Tryz.ntmps46
  go_wp2_with fail
  refine h1.mono ?_
  rintro e w1 ⟨rfl, hb1⟩
  clear h1
  have hcr := HC.out.below (Nat.le_refl _) (hb1.alloc hb1.size (.cells #[] 90))
  go_wp2_with (at_builtin; refine wpList_append_spread _ rfl _ _ 81 rfl w1.heap.size 90 iL (.agg #[(.int .i64 0), (.int .i64 0), (.int .i64 0), (.int .u8 0), (.int .i64 0), (.int .i64 0)]) 6 48 Tryz.underlying81 hiL hL0 hL1 hL2 rfl (by decide) _ _ _ rfl (World.ownsRow_made w1 #[] 0 (Nat.le_refl _) (Nat.zero_le _) (by simp)) encClm (fun _ => rfl) clm_one Ac cd c rfl hcr ?q4 ?q5 (by first | (simp; done) | (simp; omega) | omega) ?_)
  case q4 => rw [Nat.zero_add]; unfold maxLen; omega
  case q5 => rw [Nat.zero_add]; omega
  intro vL W2 hownL hgrow
  have b2 : Below w1.heap.size w1 W2 := ((Below.refl _ w1).alloc (Nat.le_refl _) _).grown hgrow (by simp) (by intro k hk; simp [Value.ownBlock] at hk; omega)
  have st0 : St3 w1.heap.size 90 87 3 W2 vL (.slice none 0 0) (.slice none 0 0) c [] [] := ⟨by simpa using hownL, ⟨by simp, Or.inl ⟨rfl, rfl⟩⟩, ⟨by simp, Or.inl ⟨rfl, rfl⟩⟩, (show apartV (.slice none 0 0) vL from Or.inl rfl).symm, (show apartV (.slice none 0 0) vL from Or.inl rfl).symm, Or.inl rfl⟩
  have B1 := Lib.hid hb1
  clear hb1 hcr hownL hgrow
  go_wp2_with fail
  go_loopg [11, 12, 13] c.length (fun gg s11 s12 s13 wr => ∃ (d L : List Clm) (P : List Int), L.length ≤ gg ∧ P.length ≤ d.length ∧ Aside (Below w1.heap.size w1 wr) ∧ Aside (St3 w1.heap.size 90 87 3 wr s11 s12 s13 L (setF l t s d).2 P) ∧ Aside (Sel c d L) ∧ Aside (∀ i, i ∈ P ↔ i ∈ (setF l t s d).1))
  case atStart => exact ⟨[], c, [], Nat.le_refl _, Nat.le_refl _, b2, st0, Sel.start c, fun i => Iff.rfl⟩
  case round =>
    obtain ⟨d, L, P, hg, hPd, hw, hst, hsel, hmem⟩ := hrel
    obtain ⟨AL, capL, rfl, rdL, hcapL⟩ := own_rd2 (enc := encClm) (k := 6) (fun _ => rfl) hst.out.oL
    obtain ⟨AP, capP, rfl, rdP⟩ := own_rd (enc := fun x : Int => [Value.int .i64 x]) (k := 1) (fun _ => rfl) hst.out.oP
    by_cases hne : L = []
    · subst hne
      have hdl : d.length = c.length := by have := hsel.out.perm.length_eq; simpa using this
      have hol : (setF l t s d).2.length = c.length := by unfold setF; rw [setF_len]; simp [hdl]
      have hpd : d.Perm c := by simpa using hsel.out.perm
      have hsd := hsel.out.sorted
      obtain ⟨AO, capO, rfl, rdO⟩ := own_rd (enc := encOutc) (k := 3) (fun _ => rfl) hst.out.oO
      rw [hol]
      have F := Lib.hid (And.intro hpd (And.intro hsd (And.intro rdO (B1.out.trans (hw.out.mono B1.out.size)))))
      clear hpd hsd rdO hst hsel hmem rdL rdP hol
      go_wp2_with fail
      go_ret2
      first
      | exact ⟨d, F.out.1, F.out.2.1, AO, ⟨capO, rfl⟩, F.out.2.2.1, F.out.2.2.2⟩
      | exact ⟨d, F.out.1, F.out.2.1, AO, F.out.2.2.1, ⟨capO, rfl⟩, F.out.2.2.2⟩
      | exact ⟨d, AO, capO, F.out.1, F.out.2.1, rfl, F.out.2.2.1, F.out.2.2.2⟩
      | exact ⟨d, F.out.1, F.out.2.1, AO, capO, rfl, F.out.2.2.1, F.out.2.2.2⟩
    · have hpos : 0 < L.length := List.length_pos_iff.2 hne
      have hpos' : (0 : Int) < (L.length : Int) := by omega
      have hLc : d.length + L.length = c.length := by have := hsel.out.perm.length_eq; simpa using this
      have hLm : L.length ≤ 1000000 := by omega
      have hPm : P.length ≤ 1000000 := by omega
      obtain ⟨gL, oL, rfl, hgl, _⟩ := rdL.ne hne
      have RL := Lib.hid rdL
      have RP := Lib.hid rdP
      have HL := Lib.hid hLc
      have LT := Lib.hid (fun k hk => (hst.out.oP.lt k hk).2)
      clear rdL rdP hLc
      go_wp2_with fail
      obtain ⟨w4, rfl⟩ : ∃ w4, w4 = wr := ⟨_, rfl⟩
      go_loopg [14, 15] L.length (fun gg s14 s15 wr => ∃ k i : Nat, k < i ∧ i ≤ L.length ∧ L.length - i ≤ gg ∧ s14 = .int .i64 k ∧ s15 = .int .i64 i ∧ Aside (Below w4.heap.size w4 wr) ∧ Aside (∀ (m : Nat) (y z : Clm), m < i → L[m]? = some y → L[k]? = some z → ¬ ltSet y z))
      case atStart => exact ⟨0, 1, by omega, by omega, by omega, rfl, rfl, Below.refl _ _, fun m y z hm hy hz => by
        have : m = 0 := by omega
        subst this
        rw [hy] at hz; cases hz
        unfold ltSet; omega⟩
      case round =>
        obtain ⟨k, i, hki, hil, hg1, rfl, rfl, hw1, hmin⟩ := hrel
        by_cases hlt : i < L.length
        · have hy : L[i]? = some L[i] := List.getElem?_eq_getElem hlt
          have hz : L[k]? = some L[k] := List.getElem?_eq_getElem (by omega)
          have hkl : k < L.length := by omega
          have rd1 := RL.out.below (Nat.le_refl _) hw1.out
          obtain ⟨b1, o1, hbo, hb, hy2⟩ := rd1.at hy
          simp only [Option.some.injEq, Addr.mk.injEq, and_true] at hbo
          obtain ⟨rfl, rfl⟩ := hbo
          obtain ⟨b1, o1, hbo, hb', hz2⟩ := rd1.at hz
          simp only [Option.some.injEq, Addr.mk.injEq, and_true] at hbo
          obtain ⟨rfl, rfl⟩ := hbo
          generalize L[i] = y at hy hy2
          generalize L[k] = z at hz hz2
          have y0 := hy2 0 _ rfl
          have y2 := hy2 2 _ rfl
          have z0 := hz2 0 _ rfl
          have z2 := hz2 2 _ rfl
          rw [Nat.add_zero] at y0 z0
          replace y0 := fun p : Ex wr => p.cell hb y0
          replace y2 := fun p : Ex wr => p.cell hb y2
          replace z0 := fun p : Ex wr => p.cell hb z0
          replace z2 := fun p : Ex wr => p.cell hb z2
          have HY := Lib.hid (And.intro hy hz)
          clear hy hz hy2 hz2 rd1 hb'
          have hcs : (y.at_ < z.at_) ∨ (¬ y.at_ < z.at_ ∧ y.at_ = z.at_ ∧ y.id < z.id) ∨ (¬ y.at_ < z.at_ ∧ y.at_ = z.at_ ∧ ¬ y.id < z.id) ∨ (¬ y.at_ < z.at_ ∧ y.at_ ≠ z.at_) := by omega
          rcases hcs with h1 | ⟨h1, h2, h3⟩ | ⟨h1, h2, h3⟩ | ⟨h1, h2⟩
          · have LT : Aside (ltSet y z) := Or.inl h1
            replace h1 : decide (y.at_ < z.at_) = true := decide_eq_true h1
            go_wp2_with fail
            (refine wp_region_quiet_ex (by kernel_rfl) (by kernel_rfl) ?_; (repeat (go_big_quiet_step ((fail)))); refine wpQuiet_nil ?_; intro wq hw'; obtain ⟨⟨_, hq⟩, hw''⟩ := hw'; subst hw'')
            have HQ := Lib.hid (hw1.out.trans (hq.mono hw1.out.size))
            clear y0 y2 z0 z2 h1
            go_wp2_with fail
            go_roundg (L.length - (i + 1))
            case measure => omega
            case rel =>
              refine ⟨i, i + 1, by omega, by omega, by omega, rfl, by go_num, HQ.out, (show Aside _ from fun m u v hm hu hv => ?_)⟩
              rw [HY.out.1] at hv; cases hv
              by_cases e : m = i
              · subst e; rw [HY.out.1] at hu; cases hu; unfold ltSet; omega
              · have h5 := hmin.out m u z (by omega) hu HY.out.2
                have h6 := LT.out
                unfold ltSet at *
                omega
          · have LT : Aside (ltSet y z) := Or.inr ⟨h2, h3⟩
            have h2' : (y.at_ == z.at_) = true := by simpa using h2
            clear h2
            replace h1 : decide (y.at_ < z.at_) = false := decide_eq_false h1
            replace h3 : decide (y.id < z.id) = true := decide_eq_true h3
            go_wp2_with fail
            (refine wp_region_quiet_ex (by kernel_rfl) (by kernel_rfl) ?_; (repeat (go_big_quiet_step ((fail)))); refine wpQuiet_nil ?_; intro wq hw'; obtain ⟨⟨_, hq⟩, hw''⟩ := hw'; subst hw'')
            have HQ := Lib.hid (hw1.out.trans (hq.mono hw1.out.size))
            clear y0 y2 z0 z2 h1 h2' h3
            go_wp2_with fail
            go_roundg (L.length - (i + 1))
            case measure => omega
            case rel =>
              refine ⟨i, i + 1, by omega, by omega, by omega, rfl, by go_num, HQ.out, (show Aside _ from fun m u v hm hu hv => ?_)⟩
              rw [HY.out.1] at hv; cases hv
              by_cases e : m = i
              · subst e; rw [HY.out.1] at hu; cases hu; unfold ltSet; omega
              · have h5 := hmin.out m u z (by omega) hu HY.out.2
                have h6 := LT.out
                unfold ltSet at *
                omega
          · have LT : Aside (¬ ltSet y z) := by show ¬ _; unfold ltSet; omega
            have h2' : (y.at_ == z.at_) = true := by simpa using h2
            clear h2
            replace h1 : decide (y.at_ < z.at_) = false := decide_eq_false h1
            replace h3 : decide (y.id < z.id) = false := decide_eq_false h3
            go_wp2_with fail
            (refine wp_region_quiet_ex (by kernel_rfl) (by kernel_rfl) ?_; (repeat (go_big_quiet_step ((fail)))); refine wpQuiet_nil ?_; intro wq hw'; obtain ⟨⟨_, hq⟩, hw''⟩ := hw'; subst hw'')
            have HQ := Lib.hid (hw1.out.trans (hq.mono hw1.out.size))
            clear y0 y2 z0 z2 h1 h2' h3
            go_wp2_with fail
            go_roundg (L.length - (i + 1))
            case measure => omega
            case rel =>
              refine ⟨k, i + 1, by omega, by omega, by omega, rfl, by go_num, HQ.out, (show Aside _ from fun m u v hm hu hv => ?_)⟩
              rw [HY.out.2] at hv; cases hv
              by_cases e : m = i
              · subst e; rw [HY.out.1] at hu; cases hu; exact LT.out
              · exact hmin.out m u z (by omega) hu HY.out.2
          · have LT : Aside (¬ ltSet y z) := by show ¬ _; unfold ltSet; omega
            have h2' : (y.at_ == z.at_) = false := by simpa using h2
            clear h2
            replace h1 : decide (y.at_ < z.at_) = false := decide_eq_false h1
            go_wp2_with fail
            (refine wp_region_quiet_ex (by kernel_rfl) (by kernel_rfl) ?_; (repeat (go_big_quiet_step ((fail)))); refine wpQuiet_nil ?_; intro wq hw'; obtain ⟨⟨_, hq⟩, hw''⟩ := hw'; subst hw'')
            have HQ := Lib.hid (hw1.out.trans (hq.mono hw1.out.size))
            clear y0 y2 z0 z2 h1 h2'
            go_wp2_with fail
            go_roundg (L.length - (i + 1))
            case measure => omega
            case rel =>
              refine ⟨k, i + 1, by omega, by omega, by omega, rfl, by go_num, HQ.out, (show Aside _ from fun m u v hm hu hv => ?_)⟩
              rw [HY.out.2] at hv; cases hv
              by_cases e : m = i
              · subst e; rw [HY.out.1] at hu; cases hu; exact LT.out
              · exact hmin.out m u z (by omega) hu HY.out.2
        · have hie : i = L.length := by omega
          subst hie
          have hg' : ¬ (L.length : Int) < (L.length : Int) := by omega
          have hx : L[k]? = some L[k] := List.getElem?_eq_getElem hki
          have hmn : ∀ y ∈ L, ¬ ltSet y L[k] := fun y hy => by
            obtain ⟨m, hm⟩ := List.mem_iff_getElem?.1 hy
            exact hmin.out m y _ (List.getElem?_eq_some_iff.1 hm).1 hm hx
          have hsel2 := hsel.out.step hx hmn
          have hxc : L[k] ∈ c := hsel.out.perm.mem_iff.1 (List.mem_append_right _ (List.getElem_mem _))
          generalize L[k] = x at hx hmn hsel2 hxc
          have hokx := HZ.out x hxc
          have SEL := Lib.hid hsel2
          have HX := Lib.hid hx
          have st1 := hst.out.below hw1.out
          have rd1 := RL.out.below (Nat.le_refl _) hw1.out
          obtain ⟨b1, o1, hbo, hb, hx2⟩ := rd1.at hx
          simp only [Option.some.injEq, Addr.mk.injEq, and_true] at hbo
          obtain ⟨rfl, rfl⟩ := hbo
          have hx20 := hx2 0 _ rfl; have hx21 := hx2 1 _ rfl; have hx22 := hx2 2 _ rfl; have hx23 := hx2 3 _ rfl; have hx24 := hx2 4 _ rfl; have hx25 := hx2 5 _ rfl; rw [Nat.add_zero] at hx20; clear hx2
          have bw := B1.out.trans ((hw.out.trans (hw1.out.mono hw.out.size)).mono B1.out.size)
          have hv := VD.out x hokx wr bw
          have hDc := decP_clm l t s x
          generalize hD : decP l t s x = D at hv hDc
          have HD := Lib.hid (And.intro hD hDc)
          have BW := Lib.hid (hw.out.trans (hw1.out.mono hw.out.size))
          have B4 := Lib.hid hw1.out
          clear hx hmn hsel2 hxc hokx rd1 bw hD hDc hmin hw1
          go_wp2_with fail
          refine hv.mono ?_
          rintro e w5 ⟨rfl, hb5⟩
          have st5 := st1.below hb5
          have bw5 := Lib.hid (BW.out.trans (hb5.mono BW.out.size))
          have b45 := Lib.hid (B4.out.trans (hb5.mono B4.out.size))
          clear hv hb5 st1 hx20 hx21 hx22 hx23 hx24 hx25
          go_wp2_with fail
          obtain ⟨W6, hW6⟩ : ∃ W : World, W = w5.alloc (.cells #[.int .i64 D.clm, .int .i64 D.cents, .int .u8 D.ver] 87) := ⟨_, rfl⟩
          rw [← hW6]
          have kO : Blk W6 w5.heap.size #[.int .i64 (stO D x (P.take 0)).clm, .int .i64 (stO D x (P.take 0)).cents, .int .u8 (stO D x (P.take 0)).ver] 87 := by
            rw [List.take_zero, stO_nil, hW6]; exact Blk.new rfl
          have b6 : Below w5.heap.size w5 W6 := by rw [hW6]; exact (Below.refl _ _).alloc (Nat.le_refl _) _
          have ST5 := Lib.hid st5
          clear hW6 st5
          go_loopg [17] P.length (fun gg s17 wr => ∃ m : Nat, m ≤ P.length ∧ P.length - m ≤ gg ∧ s17 = .int .i64 m ∧ Aside (Below w5.heap.size w5 wr) ∧ Aside (Blk wr w5.heap.size #[.int .i64 (stO D x (P.take m)).clm, .int .i64 (stO D x (P.take m)).cents, .int .u8 (stO D x (P.take m)).ver] 87))
          case atStart => exact ⟨0, Nat.zero_le _, by omega, rfl, b6, kO⟩
          case round =>
            obtain ⟨m, hm, hg2, rfl, hw2, hk2⟩ := hrel
            have st2 := ST5.out.below hw2.out
            by_cases hmp : m < P.length
            · have hp : P[m]? = some P[m] := List.getElem?_eq_getElem hmp
              have bx := b45.out.trans (hw2.out.mono b45.out.size)
              obtain ⟨bP, oP, rfl, hbp, hp2⟩ := (RP.out.below (Nat.le_refl _) bx).at hp
              generalize P[m] = p at hp hp2
              have hpc := hp2 0 _ rfl
              rw [Nat.add_zero, Nat.mul_one] at hpc
              obtain ⟨b1, o1, hbo, hbx, hx2⟩ := (RL.out.below (Nat.le_refl _) bx).at HX.out
              simp only [Option.some.injEq, Addr.mk.injEq, and_true] at hbo
              obtain ⟨rfl, rfl⟩ := hbo
              have hx0 := hx2 0 _ rfl
              rw [Nat.add_zero] at hx0
              have hx1 := hx2 1 _ rfl
              obtain ⟨cu, hcu⟩ : ∃ cu, cu = stO D x (P.take m) := ⟨_, rfl⟩
              rw [← hcu] at hk2
              have hkv := (show _ = some (Value.int .u8 cu.ver) from hk2.out.cells 2)
              have fpc := fun p : Ex wr => p.cell hbp hpc
              have fx1 := fun p : Ex wr => p.cell hbx hx1
              have fkv := fun p : Ex wr => p.cell hk2.out.lt hkv
              have HP := Lib.hid (And.intro hp hcu)
              have HX0 := Lib.hid hx0
              clear hp hcu hp2 hx2 hx0 hpc hx1 hkv bx
              cases hq8 : p == x.item with
              | true =>
                cases hv8 : cu.ver != 1 with
                | true =>
                  have NX : Aside (stO D x (P.take (m + 1)) = ⟨x.id, 0, 7⟩) := stO_hit (by rw [HP.out.1]; congr 1; simpa using hq8) (by rw [← HP.out.2]; simpa using hv8)
                  go_wp2_with fail
                  (refine wp_region_quiet_ex (by kernel_rfl) (by kernel_rfl) ?_; (repeat (go_big_quiet_step ((fail)))); refine wpQuiet_nil ?_; intro wq hw'; obtain ⟨⟨_, hq⟩, hw''⟩ := hw'; subst hw'')
                  have KQ := Lib.hid (hk2.out.below hq hk2.out.lt)
                  have BQ := Lib.hid (hw2.out.trans (hq.mono hw2.out.size))
                  have hxq := (hq.cell (p := ⟨gL, _, none⟩) hbx).trans HX0.out
                  have hbq := Nat.lt_of_lt_of_le hbx hq.size
                  have kc := KQ.out.cells
                  have kf := KQ.out.free
                  clear fpc fx1 fkv hk2 hw2 hq st2 hq8 hv8
                  go_wp2_with fail
                  go_roundg (P.length - (m + 1))
                  case measure => omega
                  case rel => exact ⟨m + 1, by omega, by omega, by go_num, ((BQ.out.setCell (p := ⟨w5.heap.size, 0, none⟩) (Nat.le_refl _) (.int .i64 x.id)).setCell (p := ⟨w5.heap.size, 1, none⟩) (Nat.le_refl _) (.int .i64 0)).setCell (p := ⟨w5.heap.size, 2, none⟩) (Nat.le_refl _) (.int .u8 7), by rw [NX.out]; exact ((KQ.out.set 0 (.int .i64 x.id)).set 1 (.int .i64 0)).set 2 (.int .u8 7)⟩
                | false =>
                  have NX : Aside (stO D x (P.take (m + 1)) = cu) := by show _ = _; rw [HP.out.2]; exact stO_one (by rw [← HP.out.2]; simpa using hv8)
                  go_wp2_with fail
                  (refine wp_region_quiet_ex (by kernel_rfl) (by kernel_rfl) ?_; (repeat (go_big_quiet_step ((fail)))); refine wpQuiet_nil ?_; intro wq hw'; obtain ⟨⟨_, hq⟩, hw''⟩ := hw'; subst hw'')
                  have KQ := Lib.hid (hk2.out.below hq hk2.out.lt)
                  have BQ := Lib.hid (hw2.out.trans (hq.mono hw2.out.size))
                  clear fpc fx1 fkv hk2 hw2 hq st2 hq8 hv8
                  go_wp2_with fail
                  go_roundg (P.length - (m + 1))
                  case measure => omega
                  case rel => exact ⟨m + 1, by omega, by omega, by go_num, BQ.out, by rw [NX.out]; exact KQ.out⟩
              | false =>
                have NX : Aside (stO D x (P.take (m + 1)) = cu) := by show _ = _; rw [HP.out.2]; exact stO_miss HP.out.1 (by simpa using hq8)
                go_wp2_with fail
                (refine wp_region_quiet_ex (by kernel_rfl) (by kernel_rfl) ?_; (repeat (go_big_quiet_step ((fail)))); refine wpQuiet_nil ?_; intro wq hw'; obtain ⟨⟨_, hq⟩, hw''⟩ := hw'; subst hw'')
                have KQ := Lib.hid (hk2.out.below hq hk2.out.lt)
                have BQ := Lib.hid (hw2.out.trans (hq.mono hw2.out.size))
                clear fpc fx1 fkv hk2 hw2 hq st2 hq8
                go_wp2_with fail
                go_roundg (P.length - (m + 1))
                case measure => omega
                case rel => exact ⟨m + 1, by omega, by omega, by go_num, BQ.out, by rw [NX.out]; exact KQ.out⟩
            · have hme : m = P.length := by omega
              subst hme
              rw [List.take_length] at hk2
              have hg' : ¬ (P.length : Int) < (P.length : Int) := by omega
              obtain ⟨O, hO⟩ : ∃ O, O = stO D x P := ⟨_, rfl⟩
              rw [← hO] at hk2
              have hO2 : O = stepO l t s (setF l t s d).1 x := by rw [hO, ← HD.out.1]; exact stO_step hmem.out
              have HO := Lib.hid hO2
              have bx := b45.out.trans (hw2.out.mono b45.out.size)
              obtain ⟨b1, o1, hbo, hbx, hx2⟩ := (RL.out.below (Nat.le_refl _) bx).at HX.out
              simp only [Option.some.injEq, Addr.mk.injEq, and_true] at hbo
              obtain ⟨rfl, rfl⟩ := hbo
              have hx1 := hx2 1 _ rfl
              have hkv := (show _ = some (Value.int .u8 O.ver) from hk2.out.cells 2)
              have bm := bw5.out.trans (hw2.out.mono bw5.out.size)
              have hlt5 : ∀ q, Value.ownBlock (.slice AP P.length capP) = some q → q < w5.heap.size := fun q hq => Nat.lt_of_lt_of_le (LT.out q hq) b45.out.size
              have HLT := Lib.hid hlt5
              clear hO hO2 hx2 bx hlt5
              cases r6 : O.ver == 6 with
              | true =>
                have hv6 : O.ver = 6 := by simpa using r6
                have hst9 : setF l t s (d ++ [x]) = (x.item :: (setF l t s d).1, (setF l t s d).2 ++ [O]) := by rw [setF_snoc]; unfold stepS; rw [← HO.out, if_pos hv6]
                have H9 := Lib.hid hst9
                have sta := st2.below ((Below.refl wr.heap.size wr).alloc (Nat.le_refl _) (.cells #[.int .i64 x.item] 3))
                have KA := Lib.hid (hk2.out.alloc (.cells #[.int .i64 x.item] 3))
                have BA := Lib.hid (bm.alloc bm.size (.cells #[.int .i64 x.item] 3))
                have STA := Lib.hid sta
                clear hv6 hst9 sta hk2 bm
                go_wp2_with (at_builtin; refine wpList_append_own_at _ rfl _ _ 50 rfl w1.heap.size 3 iP (.int .i64 0) 1 8 Tryz.underlying50 hiP hP0 hP1 hP2 rfl (by decide) _ P.length (P.flatMap fun x : Int => [Value.int .i64 x]) rfl ?pao ⟨_, 0, none⟩ 1 1 [Value.int .i64 x.item] rfl ?pa1 ?pa2 ?pa3 ?pa4 ?pa5 ?pa6 ?_)
                case pao => exact STA.out.oP
                all_goals try (case pa1 => rfl)
                all_goals try (case pa2 => (intro k u hu; rw [addp]; refine Eq.trans (Blk.cells (Blk.new (by first | (simp; done) | (simp; omega) | omega)) _) ?_; simpa using hu))
                all_goals try (case pa3 => (first | rfl | (intro u hu; simp at hu; subst hu; rfl) | (simp; done)))
                case pa4 => unfold maxLen; omega
                case pa5 => omega
                case pa6 => first | exact BA.out.size | (have h6 := BA.out.size; simp at h6; exact h6)
                intro v7 w7 hown hgrow _ hblk
                have own7 : w7.ownsRow w1.heap.size 3 1 v7 (P ++ [x.item]).length ((P ++ [x.item]).flatMap fun x : Int => [Value.int .i64 x]) := by simpa using hown
                have st7 := STA.out.growP own7 hgrow (by simpa using hblk)
                have b7 := BA.out.grown hgrow BA.out.size (fun q hq => own_ge STA.out.oP hq)
                have k7 : Blk w7 w5.heap.size _ _ := (hgrow.block _ KA.out.lt (fun e => by have := HLT.out _ e.symm; omega)).trans KA.out
                have hmem7 : ∀ i, i ∈ P ++ [x.item] ↔ i ∈ (setF l t s (d ++ [x])).1 := by
                  intro i; rw [H9.out]; simp [hmem.out i]; exact Or.comm
                have hset7 : (setF l t s (d ++ [x])).2 = (setF l t s d).2 ++ [O] := by rw [H9.out]
                have hP7 : (P ++ [x.item]).length ≤ (d ++ [x]).length := by simp; omega
                have M7 := Lib.hid (And.intro hmem7 (And.intro hset7 hP7))
                clear hown hgrow hblk own7 hmem7 hset7 hP7 STA st2 hw2 hx1 hkv r6
                have kc := k7.cells
                have ST7 := Lib.hid (st7.below ((Below.refl w7.heap.size w7).alloc (Nat.le_refl _) (.cells #[.int .i64 O.clm, .int .i64 O.cents, .int .u8 O.ver] 87)))
                have B7 := Lib.hid (b7.alloc b7.size (.cells #[.int .i64 O.clm, .int .i64 O.cents, .int .u8 O.ver] 87))
                have hol : (setF l t s d).2.length ≤ 1000000 := by unfold setF; rw [setF_len]; simp; have := HL.out; omega
                clear st7 b7
                go_wp2_with (at_builtin; refine wpList_append_own_at _ rfl _ _ 83 rfl w1.heap.size 87 iO (.agg #[.int .i64 0, .int .i64 0, .int .u8 0]) 3 24 Tryz.underlying83 hiO hO0 hO1 hO2 rfl (by decide) _ (setF l t s d).2.length ((setF l t s d).2.flatMap encOutc) rfl ?pbo ⟨_, 0, none⟩ 1 1 (encOutc O) rfl ?pb1 ?pb2 ?pb3 ?pb4 ?pb5 ?pb6 ?_)
                case pbo => exact ST7.out.oO
                case pb1 => rfl
                case pb2 => first | (intro k u hu; rw [addp]; refine Eq.trans (Blk.cells (Blk.new (by first | (simp; done) | (simp; omega) | omega)) _) ?_; simpa [encOutc] using hu) | (intro k u hu; simpa [encOutc] using hu)
                case pb3 => exact outc_one O
                case pb4 => unfold maxLen; omega
                case pb5 => omega
                case pb6 => first | exact B7.out.size | (have h6 := B7.out.size; simp at h6; exact h6)
                intro v8 w8 hown hgrow _ hblk
                have own8 : w8.ownsRow w1.heap.size 87 3 v8 ((setF l t s d).2 ++ [O]).length (((setF l t s d).2 ++ [O]).flatMap encOutc) := by simpa using hown
                have st8 := ST7.out.growO own8 hgrow (by simpa using hblk)
                have b8 := B7.out.grown hgrow B7.out.size (fun q hq => own_ge ST7.out.oO hq)
                rw [← M7.out.2.1] at st8
                have ST8 := Lib.hid st8
                have B8 := Lib.hid b8
                clear hown hgrow hblk own8 st8 b8 kc k7 hol ST7 B7
                have hkc : (k : Int) ≤ (capL : Int) := by omega
                have hkl : k + 1 ≤ L.length := by omega
                have hk1 : (k : Int) + 1 ≤ (L.length : Int) := by omega
                have hlc : (L.length : Int) ≤ (capL : Int) := by omega
                go_wp2_with fail
                (refine wp_region_quiet_tail 7 (by kernel_rfl) (by kernel_rfl) ?_; simp only [List.take_succ_cons, List.take_zero, List.drop_succ_cons, List.drop_zero]; (repeat (go_big_quiet_step ((fail)))); refine wpQuiet_nil ?_; intro wq hw'; obtain ⟨⟨_, hq⟩, hw''⟩ := hw'; subst hw'')
                obtain rfl : oL = 0 := by
                  rcases ST8.out.oL.2 with ⟨h, _⟩ | ⟨g', cap', cur, h, _⟩
                  · cases h
                  · simp at h; omega
                have stq := ST8.out.below hq
                have bq := B8.out.trans (hq.mono B8.out.size)
                have rdq : Rd encClm 6 wq (some ⟨gL, 0, none⟩) L := by
                  obtain ⟨A, c', h, r⟩ := own_rd (enc := encClm) (k := 6) (fun _ => rfl) stq.oL
                  simp at h
                  rw [← h.1] at r
                  exact r
                obtain ⟨AD, hAD, hnews⟩ : ∃ AD, (if capL = k + 1 then some (⟨gL, 0, none⟩ : Addr) else some ⟨gL, 0 + (k + 1) * 6, none⟩) = some AD ∧ ∀ j u, ((L.drop (k + 1)).flatMap encClm)[j]? = some u → wq.cell? (AD.add j) = some u := by
                  by_cases hcp : capL = k + 1
                  · refine ⟨_, if_pos hcp, fun j u hj => ?_⟩
                    have : L.drop (k + 1) = [] := List.drop_eq_nil_of_le (by omega)
                    rw [this] at hj
                    simp at hj
                  · refine ⟨_, if_neg hcp, ?_⟩
                    exact Rd.news (enc := encClm) (k := 6) (fun _ => rfl) (rdq.drop (k + 1))
                have htk := own_take (enc := encClm) (fun _ => rfl) stq.oL k (by omega)
                have HTK := Lib.hid (And.intro htk hnews)
                have STQ := Lib.hid stq
                have BQ := Lib.hid bq
                clear htk hnews rdq stq bq hq
                rw [hAD]
                clear hAD
                go_wp2_with (at_builtin; refine wpList_append_own_at _ rfl _ _ 81 rfl w1.heap.size 90 iL (.agg #[(.int .i64 0), (.int .i64 0), (.int .i64 0), (.int .u8 0), (.int .i64 0), (.int .i64 0)]) 6 48 Tryz.underlying81 hiL hL0 hL1 hL2 rfl (by decide) _ k ((L.take k).flatMap encClm) rfl HTK.out.1 AD (L.length - (k + 1)) (capL - (k + 1)) ((L.drop (k + 1)).flatMap encClm) rfl ?ta1 HTK.out.2 ?ta3 ?ta4 ?ta5 BQ.out.size ?_)
                case ta1 => rw [flat_length (enc := encClm) (k := 6) (fun _ => rfl), List.length_drop]
                case ta3 =>
                  intro u hu
                  obtain ⟨y, _, hy⟩ := List.mem_flatMap.1 hu
                  exact clm_one y u hy
                case ta4 => unfold maxLen; omega
                case ta5 => omega
                intro v9 w9 hown hgrow _ hblk
                have hel : (L.eraseIdx k).length = k + (L.length - (k + 1)) := by rw [List.length_eraseIdx_of_lt (by omega)]; omega
                have own9 : w9.ownsRow w1.heap.size 90 6 v9 (L.eraseIdx k).length ((L.eraseIdx k).flatMap encClm) := by
                  rw [hel, List.eraseIdx_eq_take_drop_succ, List.flatMap_append]; exact hown
                have ST9 := Lib.hid (STQ.out.growL own9 hgrow hblk)
                have B9 := Lib.hid (BQ.out.grown hgrow BQ.out.size (fun q hq => own_ge HTK.out.1 hq))
                clear hown hgrow hblk own9 HTK STQ BQ
                go_wp2_with fail
                go_roundg (L.eraseIdx k).length
                case measure => omega
                case rel => exact ⟨d ++ [x], L.eraseIdx k, _, Nat.le_refl _, M7.out.2.2, B9.out, ST9.out, SEL.out, M7.out.1⟩
              | false =>
                have hv6 : ¬ O.ver = 6 := by simpa using r6
                have hst9 : setF l t s (d ++ [x]) = ((setF l t s d).1, (setF l t s d).2 ++ [O]) := by rw [setF_snoc]; unfold stepS; rw [← HO.out, if_neg hv6]
                have hmem7 : ∀ i, i ∈ P ↔ i ∈ (setF l t s (d ++ [x])).1 := by
                  intro i; rw [hst9]; exact hmem.out i
                have hset7 : (setF l t s (d ++ [x])).2 = (setF l t s d).2 ++ [O] := by rw [hst9]
                have hP7 : P.length ≤ (d ++ [x]).length := by simp; omega
                have M7 := Lib.hid (And.intro hmem7 (And.intro hset7 hP7))
                have k7 := hk2.out
                have st7 := st2
                have b7 := bm
                clear hv6 hst9 hmem7 hset7 hP7 hk2 st2 bm hw2 hx1
                obtain ⟨w7, rfl⟩ : ∃ w7, w7 = wr := ⟨_, rfl⟩
                have kc := k7.cells
                have ST7 := Lib.hid (st7.below ((Below.refl w7.heap.size w7).alloc (Nat.le_refl _) (.cells #[.int .i64 O.clm, .int .i64 O.cents, .int .u8 O.ver] 87)))
                have B7 := Lib.hid (b7.alloc b7.size (.cells #[.int .i64 O.clm, .int .i64 O.cents, .int .u8 O.ver] 87))
                have hol : (setF l t s d).2.length ≤ 1000000 := by unfold setF; rw [setF_len]; simp; have := HL.out; omega
                clear st7 b7
                go_wp2_with (at_builtin; refine wpList_append_own_at _ rfl _ _ 83 rfl w1.heap.size 87 iO (.agg #[.int .i64 0, .int .i64 0, .int .u8 0]) 3 24 Tryz.underlying83 hiO hO0 hO1 hO2 rfl (by decide) _ (setF l t s d).2.length ((setF l t s d).2.flatMap encOutc) rfl ?pco ⟨_, 0, none⟩ 1 1 (encOutc O) rfl ?pc1 ?pc2 ?pc3 ?pc4 ?pc5 ?pc6 ?_)
                case pco => exact ST7.out.oO
                case pc1 => rfl
                case pc2 => first | (intro k u hu; rw [addp]; refine Eq.trans (Blk.cells (Blk.new (by first | (simp; done) | (simp; omega) | omega)) _) ?_; simpa [encOutc] using hu) | (intro k u hu; simpa [encOutc] using hu)
                case pc3 => exact outc_one O
                case pc4 => unfold maxLen; omega
                case pc5 => omega
                case pc6 => first | exact B7.out.size | (have h6 := B7.out.size; simp at h6; exact h6)
                intro v8 w8 hown hgrow _ hblk
                have own8 : w8.ownsRow w1.heap.size 87 3 v8 ((setF l t s d).2 ++ [O]).length (((setF l t s d).2 ++ [O]).flatMap encOutc) := by simpa using hown
                have st8 := ST7.out.growO own8 hgrow (by simpa using hblk)
                have b8 := B7.out.grown hgrow B7.out.size (fun q hq => own_ge ST7.out.oO hq)
                rw [← M7.out.2.1] at st8
                have ST8 := Lib.hid st8
                have B8 := Lib.hid b8
                clear hown hgrow hblk own8 st8 b8 kc k7 hol ST7 B7
                have hkc : (k : Int) ≤ (capL : Int) := by omega
                have hkl : k + 1 ≤ L.length := by omega
                have hk1 : (k : Int) + 1 ≤ (L.length : Int) := by omega
                have hlc : (L.length : Int) ≤ (capL : Int) := by omega
                go_wp2_with fail
                (refine wp_region_quiet_tail 7 (by kernel_rfl) (by kernel_rfl) ?_; simp only [List.take_succ_cons, List.take_zero, List.drop_succ_cons, List.drop_zero]; (repeat (go_big_quiet_step ((fail)))); refine wpQuiet_nil ?_; intro wq hw'; obtain ⟨⟨_, hq⟩, hw''⟩ := hw'; subst hw'')
                obtain rfl : oL = 0 := by
                  rcases ST8.out.oL.2 with ⟨h, _⟩ | ⟨g', cap', cur, h, _⟩
                  · cases h
                  · simp at h; omega
                have stq := ST8.out.below hq
                have bq := B8.out.trans (hq.mono B8.out.size)
                have rdq : Rd encClm 6 wq (some ⟨gL, 0, none⟩) L := by
                  obtain ⟨A, c', h, r⟩ := own_rd (enc := encClm) (k := 6) (fun _ => rfl) stq.oL
                  simp at h
                  rw [← h.1] at r
                  exact r
                obtain ⟨AD, hAD, hnews⟩ : ∃ AD, (if capL = k + 1 then some (⟨gL, 0, none⟩ : Addr) else some ⟨gL, 0 + (k + 1) * 6, none⟩) = some AD ∧ ∀ j u, ((L.drop (k + 1)).flatMap encClm)[j]? = some u → wq.cell? (AD.add j) = some u := by
                  by_cases hcp : capL = k + 1
                  · refine ⟨_, if_pos hcp, fun j u hj => ?_⟩
                    have : L.drop (k + 1) = [] := List.drop_eq_nil_of_le (by omega)
                    rw [this] at hj
                    simp at hj
                  · refine ⟨_, if_neg hcp, ?_⟩
                    exact Rd.news (enc := encClm) (k := 6) (fun _ => rfl) (rdq.drop (k + 1))
                have htk := own_take (enc := encClm) (fun _ => rfl) stq.oL k (by omega)
                have HTK := Lib.hid (And.intro htk hnews)
                have STQ := Lib.hid stq
                have BQ := Lib.hid bq
                clear htk hnews rdq stq bq hq
                rw [hAD]
                clear hAD
                go_wp2_with (at_builtin; refine wpList_append_own_at _ rfl _ _ 81 rfl w1.heap.size 90 iL (.agg #[(.int .i64 0), (.int .i64 0), (.int .i64 0), (.int .u8 0), (.int .i64 0), (.int .i64 0)]) 6 48 Tryz.underlying81 hiL hL0 hL1 hL2 rfl (by decide) _ k ((L.take k).flatMap encClm) rfl HTK.out.1 AD (L.length - (k + 1)) (capL - (k + 1)) ((L.drop (k + 1)).flatMap encClm) rfl ?tb1 HTK.out.2 ?tb3 ?tb4 ?tb5 BQ.out.size ?_)
                case tb1 => rw [flat_length (enc := encClm) (k := 6) (fun _ => rfl), List.length_drop]
                case tb3 =>
                  intro u hu
                  obtain ⟨y, _, hy⟩ := List.mem_flatMap.1 hu
                  exact clm_one y u hy
                case tb4 => unfold maxLen; omega
                case tb5 => omega
                intro v9 w9 hown hgrow _ hblk
                have hel : (L.eraseIdx k).length = k + (L.length - (k + 1)) := by rw [List.length_eraseIdx_of_lt (by omega)]; omega
                have own9 : w9.ownsRow w1.heap.size 90 6 v9 (L.eraseIdx k).length ((L.eraseIdx k).flatMap encClm) := by
                  rw [hel, List.eraseIdx_eq_take_drop_succ, List.flatMap_append]; exact hown
                have ST9 := Lib.hid (STQ.out.growL own9 hgrow hblk)
                have B9 := Lib.hid (BQ.out.grown hgrow BQ.out.size (fun q hq => own_ge HTK.out.1 hq))
                clear hown hgrow hblk own9 HTK STQ BQ
                go_wp2_with fail
                go_roundg (L.eraseIdx k).length
                case measure => omega
                case rel => exact ⟨d ++ [x], L.eraseIdx k, _, Nat.le_refl _, M7.out.2.2, B9.out, ST9.out, SEL.out, M7.out.1⟩
end
end Go.Proofs.YtnnppnlekpadnaaGreat
