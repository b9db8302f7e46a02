/- The statement ClaimTurned where all lists are right. -/
import Derived.Test.YtnnppnlekpadnaaGreatTurn0
import Derived.Test.YtnnppnlekpadnaaGreatPool2
namespace Go.Proofs.YtnnppnlekpadnaaGreat
open Go.RowKit Go.Proofs
set_option maxRecDepth 100000

theorem rev_take {α : Type} {s : List α} {m j : Nat} (hm : m < s.length) (e : m = s.length - 1 - j) (hj : j < s.length := by omega) : s.reverse.take (j + 1) = s.reverse.take j ++ [s[m]] := by
  subst e
  rw [List.take_add_one, List.getElem?_reverse hj, List.getElem?_eq_getElem hm]
  rfl

theorem encClm_one (x : Clm) : ∀ u ∈ encClm x, u.oneCell' = true := by
  intro u hu
  simp [encClm] at hu
  rcases hu with rfl | rfl | rfl | rfl | rfl | rfl <;> rfl

section
variable (Al At As Ac : Option Addr) (ca cb cc cd : Nat) (l : List Std) (t : List Terms) (s : List Sent) (c : List Clm) (w : World)
variable (HA : ∀ w : World, Calls Tryz.prog 10 #[] w fun e w' => e = .returned (.bool true) ∧ Below w.heap.size w w')
variable (hl : Rd encStd 4 w Al l) (ht : Rd encTerms 7 w At t) (hs : Rd encSent 6 w As s) (hc : Rd encClm 6 w Ac c)
include HA hl ht hs hc in
set_option maxHeartbeats 20000000 in
theorem turned_ok (hn : l.length ≤ 60 ∧ t.length ≤ 60 ∧ s.length ≤ 60 ∧ c.length ≤ 60) (h : chkP l t s c = 0) : Calls Tryz.prog 9 #[.slice Al l.length ca, .slice At t.length cb, .slice As s.length cc, .slice Ac c.length cd] w fun e w' => e = .returned (.bool true) ∧ Below w.heap.size w w' := by
  have HA := Lib.hid HA
  have FW := fun W => few_any Al At As Ac l.length t.length s.length c.length ca cb cc cd W
  rw [decide_eq_true hn] at FW
  have nl : l.length ≤ 1000000 := by omega
  have nt : t.length ≤ 1000000 := by omega
  have ns : s.length ≤ 1000000 := by omega
  have nc : c.length ≤ 1000000 := by omega
  have S1 := Lib.hid (fun (W : World) (b : Below w.heap.size w W) => settle_ok Al At As Ac ca cb cc cd l t s c W (hl.below (Nat.le_refl _) b) (ht.below (Nat.le_refl _) b) (hs.below (Nat.le_refl _) b) (hc.below (Nat.le_refl _) b) nl nt ns nc h)
  have S2 := fun (Au Ad : Option Addr) (cu cw : Nat) (W : World) (b : Below w.heap.size w W) (hu : Rd encSent 6 W Au s.reverse) (hd : Rd encClm 6 W Ad c.reverse) => settle_ok Al At Au Ad ca cb cu cw l t s.reverse c.reverse W (hl.below (Nat.le_refl _) b) (ht.below (Nat.le_refl _) b) hu hd nl nt (by rw [List.length_reverse]; exact ns) (by rw [List.length_reverse]; exact nc) ((chkP_rev l t s c).trans h)
  simp only [List.length_reverse] at S2
  replace S2 := Lib.hid S2
  have S3 := fun (Am : Option Addr) (cm : Nat) (x : Clm) (k : Int) (hx : x ∈ c) (hl' : lastT c ≠ 1051898399) (hk : findC c k = none) (hk1 : 1 ≤ k) (hk2 : k ≤ 61) (W : World) (b : Below w.heap.size w W) (hm : Rd encClm 6 W Am (c ++ [moreC c x k])) => settle_cap Al At As Am ca cb cc cm l t s (c ++ [moreC c x k]) W (hl.below (Nat.le_refl _) b) (ht.below (Nat.le_refl _) b) (hs.below (Nat.le_refl _) b) hm nl nt ns (by rw [List.length_append, List.length_singleton]; omega) (chkP_more h hn.2.2.2 hx hl' hk hk1 hk2)
  simp only [List.length_append, List.length_singleton] at S3
  replace S3 := Lib.hid S3
  have F1 := Lib.hid (fun (i : Int) (W : World) (b : Below w.heap.size w W) => find_any Ac cd c i W (hc.below (Nat.le_refl _) b) nc)
  have HH := Lib.hid h
  have HN := Lib.hid hn
  have HS := Lib.hid hs
  have HC := Lib.hid hc
  clear hl ht hs hc h nl nt ns nc
  go_enter Tryz.func9, Tryz.ntmps9
  go_wp2_with fail
  refine (HA.out _).mono ?_
  rintro e w1 ⟨rfl, hb⟩
  go_wp2_with fail
  refine (FW _).mono ?_
  rintro e w2 ⟨rfl, rfl⟩
  go_wp2_with fail
  refine (S1.out _ hb).mono ?_
  rintro e w3 ⟨d, A, cap, hp, hsd, rfl, hr, hb3⟩
  replace hb := hb.trans (hb3.mono hb.size)
  have HP := Lib.hid (And.intro hp hsd)
  have HR := Lib.hid hr
  have BH := Lib.hid hb
  clear hb3 hp hsd hr FW S1 hb HA
  obtain ⟨i0, hi, hz0, hz1, hz2⟩ := info_parts2 infSent
  obtain ⟨i1, hi1, hy0, hy1, hy2⟩ := info_parts2 infClm
  go_wp2_with fail
  go_loopg [11, 13] s.length (fun gg s11 s13 wr => ∃ j : Nat, j ≤ s.length ∧ s.length - j ≤ gg ∧ s13 = .int .i64 ((s.length : Int) - 1 - j) ∧ Aside (Below w3.heap.size w3 wr) ∧ Aside (wr.ownsRow w3.heap.size 34 6 s11 j ((s.reverse.take j).flatMap encSent)))
  case atStart => exact ⟨0, Nat.zero_le _, by omega, by simp, Below.refl _ _, ⟨by simp, Or.inl ⟨rfl, rfl⟩⟩⟩
  case round =>
    obtain ⟨j, hj, hg, rfl, hw, ho⟩ := hrel
    by_cases hlt : j < s.length
    · obtain ⟨m, hm⟩ : ∃ m, m = s.length - 1 - j := ⟨_, rfl⟩
      have hml : m < s.length := by omega
      have e0 : (s.length : Int) - 1 - j = (m : Int) := by omega
      have E1 : Aside ((m : Int) - 1 = (s.length : Int) - 1 - ((j + 1 : Nat) : Int)) := by show _ = _; omega
      have hx : s[m]? = some s[m] := List.getElem?_eq_getElem hml
      have hst : s.reverse.take (j + 1) = s.reverse.take j ++ [s[m]] := rev_take hml hm
      obtain ⟨b, o, rfl, hb, hl⟩ := (HS.out.below (Nat.le_refl _) (BH.out.trans (hw.out.mono BH.out.size))).at hx
      generalize s[m] = x at hx hst hl
      rw [e0]
      have HST := Lib.hid hst
      have hm0 : (0 : Int) ≤ (m : Int) := by omega
      have hn1 := HN.out.2.2.1
      clear hx hst e0 hm
      have hl0 := hl 0 _ rfl; have hl1 := hl 1 _ rfl; have hl2 := hl 2 _ rfl; have hl3 := hl 3 _ rfl; have hl4 := hl 4 _ rfl; have hl5 := hl 5 _ rfl; rw [Nat.add_zero] at hl0; clear hl
      go_wp2_with (at_builtin; refine wpList_append_own _ rfl _ _ 29 rfl w3.heap.size 34 i0 (.agg #[(.int .i64 0), (.int .u8 0), (.int .i64 0), (.int .i64 0), (.int .i64 0), (.int .i64 0)]) 6 48 Tryz.underlying29 hi hz0 hz1 hz2 rfl (by decide) _ j ((s.reverse.take j).flatMap encSent) rfl ?qo ⟨_, 0, none⟩ 1 1 (encSent x) rfl ?q1 ?q2 ?q3 ?q4 ?q5 ?q6 ?_)
      case qo => exact own_below ho.out ((Below.refl _ _).alloc (Nat.le_refl _) _)
      case q1 => rfl
      case q2 =>
        intro k u hu
        rw [addp]
        refine Eq.trans (Blk.cells (Blk.new (by first | (simp; done) | (simp; omega) | omega)) _) ?_
        simpa [encSent] using hu
      case q3 =>
        intro u hu
        simp [encSent] at hu
        rcases hu with rfl | rfl | rfl | rfl | rfl | rfl <;> rfl
      case q4 => unfold maxLen; omega
      case q5 => omega
      case q6 => exact Nat.le_trans hw.out.size ((Below.refl 0 _).alloc (Nat.zero_le _) _).size
      intro v' w9 hown hgrow hnil
      have bg := ((Below.refl w3.heap.size _).alloc hw.out.size _).grown hgrow (Nat.le_trans hw.out.size ((Below.refl 0 _).alloc (Nat.zero_le _) _).size) (fun k hk => own_ge ho.out hk)
      have bz := Lib.hid (hw.out.trans bg)
      have own9 : w9.ownsRow w3.heap.size 34 6 v' (j + 1) ((s.reverse.take j ++ [x]).flatMap encSent) := by simpa using hown
      rw [← HST.out] at own9
      have OWN := Lib.hid own9
      clear hown own9 hgrow hnil bg ho hl0 hl1 hl2 hl3 hl4 hl5
      go_wp2_with fail
      go_roundg (s.length - (j + 1))
      case measure => omega
      case rel => exact ⟨j + 1, by omega, by omega, by rw [← E1.out], bz.out, OWN.out⟩
    · have hjc : j = s.length := by omega
      subst hjc
      have e1 : s.reverse.take s.length = s.reverse := List.take_of_length_le (by simp)
      rw [e1] at ho
      have ho2 := ho.out
      have hle : s.length = s.reverse.length := by simp
      rw [hle] at ho2
      obtain ⟨Au, cu, rfl, hru⟩ := own_rd (enc := encSent) (k := 6) (fun _ => rfl) ho2
      rw [← hle] at *
      have e2 : (s.length : Int) - 1 - s.length = -1 := by omega
      rw [e2]
      have HU := Lib.hid hru
      have B1 := Lib.hid hw.out
      clear ho2 hru ho hle e1 e2 hw
      go_wp2_with fail
      obtain ⟨w4, rfl⟩ : ∃ w4, w4 = wr := ⟨_, rfl⟩
      go_loopg [12, 14, 15] c.length (fun gg s12 s14 s15 wr => ∃ j : Nat, j ≤ c.length ∧ c.length - j ≤ gg ∧ s15 = .int .i64 ((c.length : Int) - 1 - j) ∧ s14 = .int .i64 (lastT (c.drop (c.length - j))) ∧ Aside (Below w4.heap.size w4 wr) ∧ Aside (wr.ownsRow w4.heap.size 31 6 s12 j ((c.reverse.take j).flatMap encClm)))
      case atStart => exact ⟨0, Nat.zero_le _, by omega, by simp, by simp [lastT], Below.refl _ _, ⟨by simp, Or.inl ⟨rfl, rfl⟩⟩⟩
      case round =>
        obtain ⟨j, hj, hg, rfl, rfl, hw, ho⟩ := hrel
        by_cases hlt : j < c.length
        · obtain ⟨m, hm⟩ : ∃ m, m = c.length - 1 - j := ⟨_, rfl⟩
          have hml : m < c.length := by omega
          have e0 : (c.length : Int) - 1 - j = (m : Int) := by omega
          have E1 : Aside ((m : Int) - 1 = (c.length : Int) - 1 - ((j + 1 : Nat) : Int)) := by show _ = _; omega
          have hx : c[m]? = some c[m] := List.getElem?_eq_getElem hml
          have hst : c.reverse.take (j + 1) = c.reverse.take j ++ [c[m]] := rev_take hml hm
          have hla : lastT (c.drop (c.length - (j + 1))) = max (lastT (c.drop (c.length - j))) c[m].at_ := by
            rw [show c.length - (j + 1) = m by omega, List.drop_eq_getElem_cons hml, show m + 1 = c.length - j by omega]
            show (if c[m].at_ > lastT (c.drop (c.length - j)) then c[m].at_ else lastT (c.drop (c.length - j))) = _
            split <;> omega
          obtain ⟨b, o, rfl, hb, hl⟩ := (HC.out.below (Nat.le_refl _) (BH.out.trans ((B1.out.trans (hw.out.mono B1.out.size)).mono BH.out.size))).at hx
          generalize c[m] = x at hx hst hl hla
          rw [e0]
          have HST := Lib.hid (And.intro hst hla)
          have HX := Lib.hid hx
          have hm0 : (0 : Int) ≤ (m : Int) := by omega
          have hn1 := HN.out.2.2.2
          generalize hLL : lastT (c.drop (c.length - j)) = L at *
          have HLL := Lib.hid hLL
          clear hx hst e0 hm hla hLL
          have hl0 := hl 0 _ rfl; have hl1 := hl 1 _ rfl; have hl2 := hl 2 _ rfl; have hl3 := hl 3 _ rfl; have hl4 := hl 4 _ rfl; have hl5 := hl 5 _ rfl; rw [Nat.add_zero] at hl0; clear hl
          go_wp2_with (at_builtin; refine wpList_append_own _ rfl _ _ 48 rfl w4.heap.size 31 i1 (.agg #[(.int .i64 0), (.int .i64 0), (.int .i64 0), (.int .u8 0), (.int .i64 0), (.int .i64 0)]) 6 48 Tryz.underlying48 hi1 hy0 hy1 hy2 rfl (by decide) _ j ((c.reverse.take j).flatMap encClm) rfl ?qo ⟨_, 0, none⟩ 1 1 (encClm x) rfl ?q1 ?q2 ?q3 ?q4 ?q5 ?q6 ?_)
          case qo => exact own_below ho.out ((Below.refl _ _).alloc (Nat.le_refl _) _)
          case q1 => rfl
          case q2 =>
            intro k u hu
            rw [addp]
            refine Eq.trans (Blk.cells (Blk.new (by first | (simp; done) | (simp; omega) | omega)) _) ?_
            simpa [encClm] using hu
          case q3 =>
            intro u hu
            simp [encClm] at hu
            rcases hu with rfl | rfl | rfl | rfl | rfl | rfl <;> rfl
          case q4 => unfold maxLen; omega
          case q5 => omega
          case q6 => exact Nat.le_trans hw.out.size ((Below.refl 0 _).alloc (Nat.zero_le _) _).size
          intro v' w9 hown hgrow hnil
          have bg := ((Below.refl w4.heap.size _).alloc hw.out.size _).grown hgrow (Nat.le_trans hw.out.size ((Below.refl 0 _).alloc (Nat.zero_le _) _).size) (fun k hk => own_ge ho.out hk)
          have bz := hw.out.trans bg
          have own9 : w9.ownsRow w4.heap.size 31 6 v' (j + 1) ((c.reverse.take j ++ [x]).flatMap encClm) := by simpa using hown
          rw [← HST.out.1] at own9
          have OWN := Lib.hid own9
          have h9 : Below w4.heap.size w4 w9 := bz
          have BZ := Lib.hid bz
          obtain ⟨b', o', hbo, hbb, hl⟩ := (HC.out.below (Nat.le_refl _) (BH.out.trans ((B1.out.trans (bz.mono B1.out.size)).mono BH.out.size))).at HX.out
          simp only [Option.some.injEq, Addr.mk.injEq, and_true] at hbo
          obtain ⟨rfl, rfl⟩ := hbo
          clear hl0 hl1 hl2 hl3 hl4 hl5
          have hl2 := hl 2 _ rfl
          clear hl hown own9 hgrow hnil bg ho bz h9
          go_wp2_with fail
          go_roundg (c.length - (j + 1))
          case measure => omega
          case rel => exact ⟨j + 1, by omega, by omega, by rw [← E1.out], by rw [HST.out.2], BZ.out, OWN.out⟩
        · have hjc : j = c.length := by omega
          subst hjc
          have e1 : c.reverse.take c.length = c.reverse := List.take_of_length_le (by simp)
          rw [e1] at ho
          have ho2 := ho.out
          have hle : c.length = c.reverse.length := by simp
          rw [hle] at ho2
          obtain ⟨Ad, cw, rfl, hrd⟩ := own_rd (enc := encClm) (k := 6) (fun _ => rfl) ho2
          rw [← hle] at *
          have e2 : (c.length : Int) - 1 - c.length = -1 := by omega
          rw [e2, Nat.sub_self, List.drop_zero]
          obtain ⟨L, hL⟩ : ∃ L, L = lastT c := ⟨_, rfl⟩
          rw [← hL]
          have HL := Lib.hid hL
          have HU2 := HU.out.below (Nat.le_refl _) hw.out
          have B2 := Lib.hid (BH.out.trans ((B1.out.trans (hw.out.mono B1.out.size)).mono BH.out.size))
          have B23 := Lib.hid (B1.out.trans (hw.out.mono B1.out.size))
          have hcon := S2.out Au Ad cu cw wr B2.out HU2 hrd
          clear ho2 hrd ho hle e1 e2 hw hL HU2 HU B1
          go_wp2_with fail
          refine hcon.mono ?_
          rintro e w5 ⟨d2, A2, cap2, hp2, hsd2, rfl, hr2, hb5⟩
          have hlen : (setF l t s d).2.length = c.length := by unfold setF; rw [setF_len]; simp [HP.out.1.length_eq]
          rw [turn_eq HH.out HP.out.1 HP.out.2 hp2 hsd2] at hr2
          have b5 := B23.out.trans (hb5.mono B23.out.size)
          have hso := sameOut_true A A2 cap cap2 _ w5 (HR.out.below (Nat.le_refl _) b5) hr2 (by rw [hlen]; have := HN.out.2.2.2; omega)
          rw [hlen] at hso
          have B5 := Lib.hid b5
          have HLEN := Lib.hid hlen
          clear hcon hp2 hsd2 hr2 hb5 b5 hlen B2 B23 S2
          go_wp2_with fail
          refine hso.mono ?_
          rintro e w6 ⟨rfl, hb6⟩
          have B6 := Lib.hid (B5.out.trans (hb6.mono B5.out.size))
          clear hso hb6 B5
          by_cases hc0 : c = []
          · have hz : ((c.length : Int) == 0) = true := by simp [hc0]
            go_wp2_with fail
            go_ret
            exact ⟨rfl, BH.out.trans (B6.out.mono BH.out.size)⟩
          · have hz : ((c.length : Int) == 0) = false := by have := List.length_pos_iff.2 hc0; simp; omega
            by_cases hlm : L = 1051898399
            · have hz2' : (L == 1051898399) = true := by simpa using hlm
              go_wp2_with fail
              go_ret
              exact ⟨rfl, BH.out.trans (B6.out.mono BH.out.size)⟩
            · have hz2' : (L == 1051898399) = false := by simpa using hlm
              have hcl : 0 < c.length := List.length_pos_iff.2 hc0
              have hx0 : c[0]? = some c[0] := List.getElem?_eq_getElem hcl
              obtain ⟨b, o, rfl, hb, hl⟩ := (HC.out.below (Nat.le_refl _) (BH.out.trans (B6.out.mono BH.out.size))).at hx0
              generalize c[0] = x0 at hx0 hl
              have hl0 := hl 0 _ rfl; have hl1 := hl 1 _ rfl; have hl2 := hl 2 _ rfl; have hl3 := hl 3 _ rfl; have hl4 := hl 4 _ rfl; have hl5 := hl 5 _ rfl; rw [Nat.add_zero] at hl0; clear hl
              have HX0 := Lib.hid hx0
              have HLM := Lib.hid hlm
              have hLb := lastT_bd (c := c) (fun x hx => by have z4 := (chkP_zero HH.out).2.2.2; unfold rightClm at z4; simp at z4; have := z4.2.1 x hx; unfold okClm withinB outB at this; simp at this; omega)
              rw [← HL.out] at hLb
              obtain ⟨hLb0, hLb1⟩ := hLb
              clear hx0 hc0 hlm
              go_wp2_with fail
              obtain ⟨W7, hW7⟩ : ∃ W : World, W = w6.alloc (.cells #[.int .i64 1, .int .i64 x0.item, .int .i64 (L + 1), .int .u8 x0.kind, .int .i64 x0.post, .int .i64 x0.val] 31) := ⟨_, rfl⟩
              rw [← hW7]
              have k7 : Blk W7 w6.heap.size #[.int .i64 1, .int .i64 x0.item, .int .i64 (L + 1), .int .u8 x0.kind, .int .i64 x0.post, .int .i64 x0.val] 31 := by rw [hW7]; exact Blk.new rfl
              have b7 : Below w6.heap.size w6 W7 := by rw [hW7]; exact (Below.refl _ _).alloc (Nat.le_refl _) _
              clear hW7 hl0 hl1 hl2 hl3 hl4 hl5
              go_loopg [] 61 (fun gg wr => ∃ k : Nat, 1 ≤ k ∧ k ≤ 61 ∧ 61 - k < gg ∧ Aside (Below w6.heap.size w6 wr) ∧ Aside (Blk wr w6.heap.size #[.int .i64 k, .int .i64 x0.item, .int .i64 (L + 1), .int .u8 x0.kind, .int .i64 x0.post, .int .i64 x0.val] 31) ∧ Aside (∀ j : Nat, 1 ≤ j → j < k → findC c j ≠ none))
              case atStart => exact ⟨1, Nat.le_refl _, by omega, by omega, b7, k7, fun j h1 h2 => absurd h1 (by omega)⟩
              case round =>
                obtain ⟨k, hk1, hk2, hg, hw, hk, hf⟩ := hrel
                have f1 := F1.out k wr (BH.out.trans ((B6.out.trans (hw.out.mono B6.out.size)).mono BH.out.size))
                have kc := hk.out.cells
                have kf := hk.out.free
                cases hfc : findC c k with
                | none =>
                  rw [hfc] at f1
                  simp only [findV] at f1
                  have HFC := Lib.hid hfc
                  clear hfc
                  go_wp2_with fail
                  refine f1.mono ?_
                  rintro e w8 ⟨rfl, hb8⟩
                  have k8 := (hk.out.below hb8 hk.out.lt).alloc (.cells #[.int .i64 0, .int .i64 0, .int .i64 0, .int .u8 0, .int .i64 0, .int .i64 0] 31)
                  have b8 := (hw.out.trans (hb8.mono hw.out.size)).alloc (Nat.le_trans hw.out.size hb8.size) (.cells #[.int .i64 0, .int .i64 0, .int .i64 0, .int .u8 0, .int .i64 0, .int .i64 0] 31)
                  have K8 := Lib.hid k8
                  have B8 := Lib.hid b8
                  clear k8 b8 kc kf hk hf f1 hw hb8
                  go_wp2_with fail
                  generalize hW9 : w8.alloc (.cells #[.int .i64 0, .int .i64 0, .int .i64 0, .int .u8 0, .int .i64 0, .int .i64 0] 31) = W9 at K8 B8
                  try rw [hW9]
                  clear hW9
                  have bW9 := BH.out.trans ((B6.out.trans (B8.out.mono B6.out.size)).mono BH.out.size)
                  have hn60 := HN.out.2.2.2
                  refine wp_region_any (by kernel_rfl) ?_
                  change wpAny _ _ _ _ _ _ _ (World.drew _)
                  (refine wpAny_take (i := 0) (v := (.slice Al l.length ca)) rfl (by kernel_rfl) (by kernel_rfl) (by kernel_rfl) (fun _ _ _ h => h) (Or.inl ⟨by rfl, ?_⟩) ?_; case _ => (intro w; go_simp; try (with_reducible rfl)))
                  (refine wpAny_take (i := 1) (v := (.slice At t.length cb)) rfl (by kernel_rfl) (by kernel_rfl) (by kernel_rfl) (fun _ _ _ h => h) (Or.inl ⟨by rfl, ?_⟩) ?_; case _ => (intro w; go_simp; try (with_reducible rfl)))
                  (refine wpAny_take (i := 2) (v := (.slice As s.length cc)) rfl (by kernel_rfl) (by kernel_rfl) (by kernel_rfl) (fun _ _ _ h => h) (Or.inl ⟨by rfl, ?_⟩) ?_; case _ => (intro w; go_simp; try (with_reducible rfl)))
                  (refine wpAny_take (i := 4) (v := (.slice (some ⟨b, o, none⟩) c.length cd)) rfl (by kernel_rfl) (by kernel_rfl) (by kernel_rfl) (fun _ _ _ h => h) (Or.inl ⟨by rfl, ?_⟩) ?_; case _ => (intro w; go_simp; try (with_reducible rfl)))
                  refine wpAny_pool [3, 5, 6, 7] [121, 123, 124, 125] (fun κ v w' => match κ with
                    | 0 => EmptyR W9.heap.size 31 6 v w'
                    | 1 => w'.ownsRow W9.heap.size 31 6 v c.length (c.flatMap encClm)
                    | 2 => v = .agg #[.int .i64 k, .int .i64 x0.item, .int .i64 (L + 1), .int .u8 x0.kind, .int .i64 x0.post, .int .i64 x0.val]
                    | _ => OneR 6 (encClm (moreC c x0 k)) v w') (by decide) (by decide) rfl ?hlt (by decide) (by decide) (by kernel_rfl) ?hR ⟨⟨⟨⟨trivial, ?o0⟩, ?o1⟩, ?o2⟩, ?o3⟩ ?done
                  case hlt =>
                    intro d hd
                    simp at hd
                    rcases hd with rfl | rfl | rfl | rfl <;> simp [Act.put]
                  case hR =>
                    intro k v w1 w2 h hb
                    match k, h with
                    | 0, h => exact EmptyR.below h hb
                    | 1, h => exact own_below h hb
                    | 2, h => exact h
                    | k + 3, h => exact OneR.below h hb
                  case o0 => exact pool_empty 48 31 6 121 i1 Tryz.underlying48 hi1 rfl rfl rfl rfl rfl (fun v w h => h)
                  case o1 => exact pool_spread encClm 6 (fun _ => rfl) encClm_one 48 31 48 (.agg #[(.int .i64 0), (.int .i64 0), (.int .i64 0), (.int .u8 0), (.int .i64 0), (.int .i64 0)]) 121 122 123 0 3 (some ⟨b, o, none⟩) cd c i1 Tryz.underlying48 hi1 hy0 hy1 hy2 rfl (by decide) rfl rfl rfl rfl rfl rfl rfl (by kernel_rfl) (by decide) rfl (fun _ _ h => h) (HC.out.below (Nat.le_refl _) bW9.drew) (by unfold maxLen; omega) (by omega) (fun _ _ h => h)
                  case o2 =>
                    refine pool_load 31 18 124 ⟨w6.heap.size, 0, none⟩ _ rfl rfl rfl rfl rfl (by decide) rfl ?_ (fun _ => rfl)
                    intro wz hz
                    have kz := (K8.out.below ((Below.refl W9.heap.size W9).drew.trans hz) K8.out.lt).cells
                    go_simp
                  case o3 => exact pool_one 48 31 6 124 125 2 6 (.agg #[.int .i64 k, .int .i64 x0.item, .int .i64 (L + 1), .int .u8 x0.kind, .int .i64 x0.post, .int .i64 x0.val]) #[.int .i64 k, .int .i64 x0.item, .int .i64 (L + 1), .int .u8 x0.kind, .int .i64 x0.post, .int .i64 x0.val] i1 _ Tryz.underlying48 hi1 hy0 hy1 (by decide) (by decide) (by go_simp) rfl rfl rfl rfl rfl rfl rfl (by kernel_rfl) (fun _ _ h => h) (fun _ _ h => by rw [HL.out] at h; exact h)
                  case done =>
                    intro w10 hb10 v121 h121 v123 h123 v124 h124 v125 h125
                    replace h121 : EmptyR W9.heap.size 31 6 v121 w10 := h121
                    replace h123 : w10.ownsRow W9.heap.size 31 6 v123 c.length (c.flatMap encClm) := h123
                    replace h124 : v124 = .agg #[.int .i64 k, .int .i64 x0.item, .int .i64 (L + 1), .int .u8 x0.kind, .int .i64 x0.post, .int .i64 x0.val] := h124
                    subst h124
                    obtain ⟨g, rfl, hg1, hcells⟩ : OneR 6 (encClm (moreC c x0 k)) v125 w10 := h125
                    have b10 : Below W9.heap.size W9 w10 := (Below.refl W9.heap.size W9).drew.trans hb10
                    clear hb10
                    refine wpAny_one 8 (by kernel_rfl) rfl rfl (fun K hK => ?_)
                    refine wp_append_own _ (.tmp 123) (.tmp 125) 48 rfl W9.heap.size 31 i1 (.agg #[(.int .i64 0), (.int .i64 0), (.int .i64 0), (.int .u8 0), (.int .i64 0), (.int .i64 0)]) 6 48 Tryz.underlying48 hi1 hy0 hy1 hy2 rfl (by decide) v123 c.length (c.flatMap encClm) (by simp [Act.eval, Act.put]) h123 ⟨g, 0, none⟩ 1 1 (encClm (moreC c x0 k)) (by simp [Act.eval, Act.put]) rfl ?q2 (encClm_one _) ?q4 ?q5 b10.size ?_
                    case q2 =>
                      intro j u hu
                      rw [addp, Nat.zero_add]
                      exact hcells j u hu
                    case q4 => unfold maxLen; omega
                    case q5 => omega
                    intro v' w11 hown hgrow _
                    refine hK _ _ ?_
                    clear hK K
                    have b11 := b10.grown hgrow b10.size (fun k hk => own_ge h123 hk)
                    have hlm : c.length + 1 = (c ++ [moreC c x0 k]).length := by simp
                    have own11 : w11.ownsRow W9.heap.size 31 6 v' (c ++ [moreC c x0 k]).length ((c ++ [moreC c x0 k]).flatMap encClm) := by rw [← hlm]; simpa using hown
                    obtain ⟨Am, cm, rfl, hrm⟩ := own_rd (enc := encClm) (k := 6) (fun _ => rfl) own11
                    rw [← hlm]
                    have bb := bW9.trans (b11.mono bW9.size)
                    have hcon := S3.out Am cm x0 k (List.mem_of_getElem? HX0.out) (by rw [← HL.out]; exact HLM.out) HFC.out (by omega) (by omega) w11 bb hrm
                    have BB := Lib.hid bb
                    have B89 := Lib.hid (B8.out.trans (b11.mono B8.out.size))
                    clear h121 h123 hcells hown hgrow own11 hrm bb b11 b10 hlm
                    refine wpAny_one 9 (by kernel_rfl) rfl rfl (fun K hK => ?_)
                    go_simp
                    refine hcon.mono ?_
                    rintro e w12 ⟨d3, A3, cap3, hp3, hsd3, rfl, hr3, hb12, hcap⟩
                    have h' : chkP l t s (c ++ [moreC c x0 k]) = 0 := chkP_more HH.out HN.out.2.2.2 (List.mem_of_getElem? HX0.out) (by rw [← HL.out]; exact HLM.out) HFC.out (by omega) (by omega)
                    obtain ⟨oo, hoo⟩ := more_eq HH.out h' HP.out.1 HP.out.2 hp3 hsd3
                    rw [hoo] at hr3
                    have htk := hr3.take c.length
                    rw [← HLEN.out, List.take_left] at htk
                    obtain ⟨b3, o3, rfl, _, _⟩ := hr3 (by simp)
                    have B12 := Lib.hid (B89.out.trans (hb12.mono B89.out.size))
                    have bo := B6.out.trans (B12.out.mono B6.out.size)
                    have hso := sameOut_true (some ⟨b3, o3, none⟩) A cap3 cap _ w12 htk (HR.out.below (Nat.le_refl _) bo) (by rw [HLEN.out]; omega)
                    rw [HLEN.out] at hso
                    have BO := Lib.hid (BH.out.trans (bo.mono BH.out.size))
                    clear hcon hp3 hsd3 hr3 hb12 hoo htk bo h'
                    try refine hK _ _ ?_
                    refine wpAny_one 10 (by kernel_rfl) rfl rfl (fun K' hK' => ?_)
                    go_simp
                    refine hK' _ _ ?_
                    (refine wpAny_take (i := 11) (v := (.slice (some ⟨b3, o3, none⟩) (c.length + 1) cap3)) rfl (by kernel_rfl) (by kernel_rfl) (by kernel_rfl) (fun _ _ _ h => h) (Or.inl ⟨by rfl, ?_⟩) ?_; case _ => (intro w; go_simp; try (with_reducible rfl)))
                    (refine wpAny_take (i := 12) (v := (.int .i64 0)) rfl (by kernel_rfl) (by kernel_rfl) (by kernel_rfl) (fun _ _ _ h => h) (Or.inl ⟨by rfl, ?_⟩) ?_; case _ => (intro w; go_simp; try (with_reducible rfl)))
                    refine wpAny_one 13 (by kernel_rfl) rfl rfl (fun K' hK' => ?_)
                    go_simp
                    refine hK' _ _ ?_
                    refine wpAny_one 14 (by kernel_rfl) rfl rfl (fun K' hK' => ?_)
                    go_simp
                    refine hK' _ _ ?_
                    refine wpAny_done (by kernel_rfl) ?_ _
                    have hle3 : (c.length : Int) ≤ cap3 := by omega
                    go_wp2_with fail
                    refine hso.mono ?_
                    rintro e w13 ⟨rfl, hb13⟩
                    go_wp2_with fail
                    go_ret
                    exact ⟨rfl, BO.out.trans (hb13.mono BO.out.size)⟩
                | some y =>
                  rw [hfc] at f1
                  simp only [findV] at f1
                  have HF := Lib.hid (show ∀ j : Nat, 1 ≤ j → j < k + 1 → findC c j ≠ none from fun j h1 h2 => by
                    by_cases e : j = k
                    · subst e; rw [hfc]; exact fun h => by cases h
                    · exact hf.out j h1 (by omega))
                  have hk60 : k ≤ 60 := by
                    have := taken_le (c := c) (k := k) (fun j h1 h2 => HF.out j h1 (by omega))
                    have := HN.out.2.2.2
                    omega
                  clear hfc hf
                  go_wp2_with fail
                  refine f1.mono ?_
                  rintro e w8 ⟨rfl, hb8⟩
                  have k8 := (hk.out.below hb8 hk.out.lt).alloc (.cells #[.int .i64 y.id, .int .i64 y.item, .int .i64 y.at_, .int .u8 y.kind, .int .i64 y.post, .int .i64 y.val] 31)
                  have b8 := (hw.out.trans (hb8.mono hw.out.size)).alloc (Nat.le_trans hw.out.size hb8.size) (.cells #[.int .i64 y.id, .int .i64 y.item, .int .i64 y.at_, .int .u8 y.kind, .int .i64 y.post, .int .i64 y.val] 31)
                  have kc8 := k8.cells
                  have kf8 := k8.free
                  have K8 := Lib.hid (k8.set 0 (.int .i64 ((k : Int) + 1)))
                  have B8 := Lib.hid (b8.setCell (p := ⟨w6.heap.size, 0, none⟩) (Nat.le_refl _) (.int .i64 ((k : Int) + 1)))
                  clear k8 b8 kc kf hk f1 hw hb8
                  go_wp2_with fail
                  go_roundg (gk - 1)
                  case measure => omega
                  case rel => exact ⟨k + 1, by omega, by omega, by omega, B8.out, K8.out, HF.out⟩
end
end Go.Proofs.YtnnppnlekpadnaaGreat
