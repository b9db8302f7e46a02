/- The walk of ScanMarks. -/
import Derived.Test.YtcjhkjplpbhjiaaMarksP
namespace Go.Proofs.Ytcjhkjplpbhjiaa
open Go.RowKit Go.Proofs
set_option maxRecDepth 100000

set_option maxHeartbeats 8000000 in
theorem scanMarks_any (A B : Option Addr) (c d : Nat) (l : List Frm) (cl : List Int) (w : World) (hr : Rd encFrm 6 w A l) (hrc : Rd encI8 1 w B cl) (hcap : l.length ≤ c) (hok : ∀ f ∈ l, FrmOk f) (h8 : ∀ x ∈ cl, -128 ≤ x ∧ x ≤ 127) :
    Calls Try.prog 6 #[.slice A l.length c, .slice B cl.length d] w fun e w' => e = .returned (.bool true) ∧ Below w.heap.size w w' := by
  have HB := Lib.hid (built_any A B c d l cl w hr hrc hcap hok h8)
  have OK := Lib.hid (built_oks cl l h8 hok)
  have hL := built_len cl l
  generalize builtS cl l = L at *
  generalize builtT l = T at *
  clear hr hrc hok h8 hcap
  go_enter Try.func6, Try.ntmps6
  go_wp2_with fail
  refine HB.out.mono ?_
  rintro e w1 ⟨v1, v2, rfl, hO, hb1⟩
  obtain ⟨S0, cs, rfl, r1⟩ := own_rd (k := 6) (fun _ => rfl) hO.oA
  have RL1 := Lib.hid r1
  have B1 := Lib.hid hb1
  clear hO hb1 r1 HB
  go_wp2_with fail
  have hm := Marks_any S0 cs L w1 RL1.out (by omega)
  have e1 : marksR L = marksF L := if_pos (okL_of OK.out (by omega))
  have e2 : errR L = 0 := if_pos (okL_of OK.out (by omega))
  rw [e1, e2] at hm
  refine hm.mono ?_
  rintro e w2 ⟨M0, cm, rfl, rm, hb2⟩
  have RM := Lib.hid rm
  have RL := Lib.hid (RL1.out.below (Nat.le_refl _) hb2)
  have B2 := Lib.hid (B1.out.trans (hb2.mono B1.out.size))
  have ISM := Lib.hid (fun x (hx : x ∈ marksF L) => isM_all hx)
  have SOM := Lib.hid (fun s (hs : s ∈ L) => someM_all hs)
  have SRT := Lib.hid ((okMs_iff _).1 (okMs_of (marksF_is L).sorted (marks_ok OK.out))).2
  have hML := marks_len L
  generalize marksF L = ms at *
  clear rm hb2 hm e1 e2 RL1 B1
  go_wp2_with fail
  go_loopg [34] ms.length (fun gg s34 wr => ∃ j : Nat, j ≤ ms.length ∧ ms.length - j ≤ gg ∧ s34 = .int .i64 j ∧ Aside (Below w2.heap.size w2 wr))
  case atStart => exact ⟨0, Nat.zero_le _, by omega, rfl, Below.refl _ _⟩
  case round =>
    obtain ⟨j, hj, hg, rfl, BW⟩ := hrel
    by_cases hlt : j < ms.length
    · have hx : ms[j]? = some ms[j] := List.getElem?_eq_getElem hlt
      obtain ⟨b, o, rfl, hb, hl⟩ := (RM.out.below (Nat.le_refl _) BW.out).at hx
      have HIS := Lib.hid (ISM.out ms[j] (List.getElem_mem hlt))
      have HX := Lib.hid hx
      generalize ms[j] = x at *
      have hl0 := hl 0 _ rfl; have hl1 := hl 1 _ rfl; have hl2 := hl 2 _ rfl; rw [Nat.add_zero] at hl0; clear hl
      clear hx
      go_wp2_with fail
      obtain ⟨W, hW⟩ : ∃ W : World, W = wr.alloc (.cells #[.int .i64 x.sc, .int .i64 x.at_, .int .i64 x.off] 30) := ⟨_, rfl⟩
      have hbx : Below wr.heap.size wr W := by rw [hW]; exact (Below.refl _ _).alloc (Nat.le_refl _) _
      have kbx : Blk W wr.heap.size #[.int .i64 x.sc, .int .i64 x.at_, .int .i64 x.off] 30 := by rw [hW]; exact Blk.new rfl
      have exb := exblk kbx
      rw [← hW]
      clear hW hl0 hl1 hl2
      by_cases hj0 : 0 < j
      · have hp : ms[j - 1]? = some ms[j - 1] := List.getElem?_eq_getElem (by omega)
        obtain ⟨b', o', hA', hb', hk⟩ := (RM.out.below (Nat.le_refl _) BW.out).at hp
        simp at hA'
        obtain ⟨rfl, rfl⟩ := hA'
        have hc := (ltPl_iff _ _).1 (SRT.out (j - 1) _ _ hp (by rw [show j - 1 + 1 = j by omega]; exact HX.out))
        generalize ms[j - 1] = y at hk hp hc
        have hk0 := hk 0 _ rfl; have hk1 := hk 1 _ rfl; have hk2 := hk 2 _ rfl; rw [Nat.add_zero] at hk0; clear hk
        clear hp
        replace hk0 := (hbx.cell (p := ⟨b, _, none⟩) hb).trans hk0
        replace hk1 := (hbx.cell (p := ⟨b, _, none⟩) hb).trans hk1
        replace hk2 := (hbx.cell (p := ⟨b, _, none⟩) hb).trans hk2
        have hbW : b < W.heap.size := Nat.lt_of_lt_of_le hb hbx.size
        replace hk0 := fun p : Ex W => p.cell hbW hk0; replace hk1 := fun p : Ex W => p.cell hbW hk1; replace hk2 := fun p : Ex W => p.cell hbW hk2
        have s1 : 0 < (j : Int) := by omega
        have s2 : ((j : Int) - 1).toNat = j - 1 := by omega
        have s3 : 0 ≤ (j : Int) - 1 := by omega
        have s4 : (j : Int) - 1 < ms.length := by omega
        have s5 : IntKind.i64.wrap ((j : Int) - 1) = (j : Int) - 1 := IntWalk.i64_in _ (by omega)
        rcases hc with hc | ⟨hc, hd⟩
        · have hc2 : ¬ y.sc = x.sc := by omega
          have hc3 : ¬ x.sc < y.sc := by omega
          have hc4 : (y.sc == x.sc) = false := beq_false_of_ne hc2
          have hc5 : decide (y.sc = x.sc) = false := decide_eq_false hc2
          (refine wp_region_quiet_ex (by kernel_rfl) (by kernel_rfl) ?_; (repeat (go_big_quiet_step ((fail)))); refine wpQuiet_nil ?_; intro wq hw'; obtain ⟨⟨_, hq⟩, hw''⟩ := hw'; subst hw'')
          have BQ := Lib.hid (BW.out.trans ((hbx.trans (hq.mono hbx.size)).mono BW.out.size))
          have KX := Lib.hid (kbx.below hq kbx.lt)
          clear exb hk0 hk1 hk2 s2 s3 s4 s5 hc2 hc3 hc4 hc5 hq hbx kbx
          go_wp2_with fail
          obtain ⟨w3, hw3⟩ : ∃ w3, w3 = wq := ⟨_, rfl⟩
          rw [← hw3]
          rw [← hw3] at BQ KX
          clear hw3
          go_loopg [11, 76] L.length (fun gg s11 s76 wr => ∃ k : Nat, k ≤ L.length ∧ L.length - k ≤ gg ∧ s76 = .int .i64 k ∧ s11 = .bool (isM (L.take k) x) ∧ Aside (Below w3.heap.size w3 wr))
          case atStart => exact ⟨0, Nat.zero_le _, by omega, rfl, rfl, Below.refl _ _⟩
          case round =>
            obtain ⟨k, hk, hgk, rfl, rfl, BI⟩ := hrel
            by_cases hlk : k < L.length
            · have hs : L[k]? = some L[k] := List.getElem?_eq_getElem hlk
              obtain ⟨b2, o2, rfl, hb2, hm⟩ := ((RL.out.below (Nat.le_refl _) BQ.out).below (Nat.le_refl _) BI.out).at hs
              have HI := Lib.hid (isM_snoc hs x)
              obtain ⟨-, -, -, -, ⟨t1, t2⟩, t3, t4⟩ := (okS_iff _).1 (OK.out L[k] (List.getElem_mem hlk))
              generalize L[k] = s at *
              have hm0 := hm 0 _ rfl; have hm1 := hm 1 _ rfl; have hm2 := hm 2 _ rfl; have hm3 := hm 3 _ rfl; have hm4 := hm 4 _ rfl; have hm5 := hm 5 _ rfl; rw [Nat.add_zero] at hm0; clear hm
              clear hs
              have BI2 := Lib.hid (BI.out.alloc BI.out.size (.cells #[.int .i64 s.item, .int .i64 s.place, .int .i64 s.scanner, .int .u8 s.kind, .int .i64 s.at_, .int .i64 s.seen] 24))
              have cx := Blk.cells ((KX.out.below BI.out KX.out.lt).alloc (.cells #[.int .i64 s.item, .int .i64 s.place, .int .i64 s.scanner, .int .u8 s.kind, .int .i64 s.at_, .int .i64 s.seen] 24))
              have wd : IntKind.i64.wrap (s.seen - s.at_) = s.seen - s.at_ := IntWalk.i64_in _ (by omega)
              cases hany : isM (L.take k) x with
              | true =>
                have HJ := Lib.hid (show isM (L.take (k + 1)) x = true by rw [HI.out, hany]; rfl)
                clear hany
                go_wp2_with fail
                go_roundg (L.length - (k + 1))
                case measure => omega
                case rel => exact ⟨k + 1, by omega, by omega, by go_num, by rw [HJ.out], BI2.out⟩
              | false =>
                have HJ : Hid (isM (L.take (k + 1)) x = (decide (s.scanner = x.sc) && (decide (s.at_ = x.at_) && decide (s.seen - s.at_ = x.off)))) := Lib.hid (by rw [HI.out, hany]; rfl)
                clear hany
                by_cases h1 : s.scanner = x.sc
                · by_cases h2 : s.at_ = x.at_
                  · by_cases h3 : s.seen - s.at_ = x.off
                    · have HV := Lib.hid (show isM (L.take (k + 1)) x = true by rw [HJ.out, decide_eq_true h1, decide_eq_true h2, decide_eq_true h3]; rfl)
                      have g1 : (s.scanner == x.sc) = true := by simp [h1]
                      have g2 : (s.at_ == x.at_) = true := by simp [h2]
                      have g3 : (s.seen - s.at_ == x.off) = true := by rw [h3]; simp
                      have H1 := Lib.hid h1
                      have H2 := Lib.hid h2
                      have H3 := Lib.hid h3
                      clear h1 h2 h3
                      go_wp2_with fail
                      go_roundg (L.length - (k + 1))
                      case measure => omega
                      case rel => exact ⟨k + 1, by omega, by omega, by go_num, by rw [HV.out], BI2.out⟩
                    · have HV := Lib.hid (show isM (L.take (k + 1)) x = false by rw [HJ.out, decide_eq_false h3]; simp)
                      have g1 : (s.scanner == x.sc) = true := by simp [h1]
                      have g2 : (s.at_ == x.at_) = true := by simp [h2]
                      have g3 : (s.seen - s.at_ == x.off) = false := beq_false_of_ne h3
                      have H1 := Lib.hid h1
                      have H2 := Lib.hid h2
                      have H3 := Lib.hid h3
                      clear h1 h2 h3
                      go_wp2_with fail
                      go_roundg (L.length - (k + 1))
                      case measure => omega
                      case rel => exact ⟨k + 1, by omega, by omega, by go_num, by rw [HV.out], BI2.out⟩
                  · have HV := Lib.hid (show isM (L.take (k + 1)) x = false by rw [HJ.out, decide_eq_false h2]; simp)
                    have g1 : (s.scanner == x.sc) = true := by simp [h1]
                    have g2 : (s.at_ == x.at_) = false := beq_false_of_ne h2
                    have H1 := Lib.hid h1
                    have H2 := Lib.hid h2
                    clear h1 h2
                    go_wp2_with fail
                    go_roundg (L.length - (k + 1))
                    case measure => omega
                    case rel => exact ⟨k + 1, by omega, by omega, by go_num, by rw [HV.out], BI2.out⟩
                · have HV := Lib.hid (show isM (L.take (k + 1)) x = false by rw [HJ.out, decide_eq_false h1]; simp)
                  have g1 : (s.scanner == x.sc) = false := beq_false_of_ne h1
                  have H1 := Lib.hid h1
                  clear h1
                  go_wp2_with fail
                  go_roundg (L.length - (k + 1))
                  case measure => omega
                  case rel => exact ⟨k + 1, by omega, by omega, by go_num, by rw [HV.out], BI2.out⟩
            · have hkl : k = L.length := by omega
              subst hkl
              rw [List.take_length, HIS.out]
              have BJ := Lib.hid (BQ.out.trans (BI.out.mono BQ.out.size))
              go_wp2_with fail
              go_roundg (ms.length - (j + 1))
              case measure => omega
              case rel => exact ⟨j + 1, by omega, by omega, by go_num, BJ.out⟩
        · have hc2 : ¬ x.sc < y.sc := by omega
          have hc3 : ¬ x.at_ ≤ y.at_ := by omega
          (refine wp_region_quiet_ex (by kernel_rfl) (by kernel_rfl) ?_; (repeat (go_big_quiet_step ((fail)))); refine wpQuiet_nil ?_; intro wq hw'; obtain ⟨⟨_, hq⟩, hw''⟩ := hw'; subst hw'')
          have BQ := Lib.hid (BW.out.trans ((hbx.trans (hq.mono hbx.size)).mono BW.out.size))
          have KX := Lib.hid (kbx.below hq kbx.lt)
          clear exb hk0 hk1 hk2 s2 s3 s4 s5 hc2 hc3 hq hbx kbx
          go_wp2_with fail
          obtain ⟨w3, hw3⟩ : ∃ w3, w3 = wq := ⟨_, rfl⟩
          rw [← hw3]
          rw [← hw3] at BQ KX
          clear hw3
          go_loopg [11, 76] L.length (fun gg s11 s76 wr => ∃ k : Nat, k ≤ L.length ∧ L.length - k ≤ gg ∧ s76 = .int .i64 k ∧ s11 = .bool (isM (L.take k) x) ∧ Aside (Below w3.heap.size w3 wr))
          case atStart => exact ⟨0, Nat.zero_le _, by omega, rfl, rfl, Below.refl _ _⟩
          case round =>
            obtain ⟨k, hk, hgk, rfl, rfl, BI⟩ := hrel
            by_cases hlk : k < L.length
            · have hs : L[k]? = some L[k] := List.getElem?_eq_getElem hlk
              obtain ⟨b2, o2, rfl, hb2, hm⟩ := ((RL.out.below (Nat.le_refl _) BQ.out).below (Nat.le_refl _) BI.out).at hs
              have HI := Lib.hid (isM_snoc hs x)
              obtain ⟨-, -, -, -, ⟨t1, t2⟩, t3, t4⟩ := (okS_iff _).1 (OK.out L[k] (List.getElem_mem hlk))
              generalize L[k] = s at *
              have hm0 := hm 0 _ rfl; have hm1 := hm 1 _ rfl; have hm2 := hm 2 _ rfl; have hm3 := hm 3 _ rfl; have hm4 := hm 4 _ rfl; have hm5 := hm 5 _ rfl; rw [Nat.add_zero] at hm0; clear hm
              clear hs
              have BI2 := Lib.hid (BI.out.alloc BI.out.size (.cells #[.int .i64 s.item, .int .i64 s.place, .int .i64 s.scanner, .int .u8 s.kind, .int .i64 s.at_, .int .i64 s.seen] 24))
              have cx := Blk.cells ((KX.out.below BI.out KX.out.lt).alloc (.cells #[.int .i64 s.item, .int .i64 s.place, .int .i64 s.scanner, .int .u8 s.kind, .int .i64 s.at_, .int .i64 s.seen] 24))
              have wd : IntKind.i64.wrap (s.seen - s.at_) = s.seen - s.at_ := IntWalk.i64_in _ (by omega)
              cases hany : isM (L.take k) x with
              | true =>
                have HJ := Lib.hid (show isM (L.take (k + 1)) x = true by rw [HI.out, hany]; rfl)
                clear hany
                go_wp2_with fail
                go_roundg (L.length - (k + 1))
                case measure => omega
                case rel => exact ⟨k + 1, by omega, by omega, by go_num, by rw [HJ.out], BI2.out⟩
              | false =>
                have HJ : Hid (isM (L.take (k + 1)) x = (decide (s.scanner = x.sc) && (decide (s.at_ = x.at_) && decide (s.seen - s.at_ = x.off)))) := Lib.hid (by rw [HI.out, hany]; rfl)
                clear hany
                by_cases h1 : s.scanner = x.sc
                · by_cases h2 : s.at_ = x.at_
                  · by_cases h3 : s.seen - s.at_ = x.off
                    · have HV := Lib.hid (show isM (L.take (k + 1)) x = true by rw [HJ.out, decide_eq_true h1, decide_eq_true h2, decide_eq_true h3]; rfl)
                      have g1 : (s.scanner == x.sc) = true := by simp [h1]
                      have g2 : (s.at_ == x.at_) = true := by simp [h2]
                      have g3 : (s.seen - s.at_ == x.off) = true := by rw [h3]; simp
                      have H1 := Lib.hid h1
                      have H2 := Lib.hid h2
                      have H3 := Lib.hid h3
                      clear h1 h2 h3
                      go_wp2_with fail
                      go_roundg (L.length - (k + 1))
                      case measure => omega
                      case rel => exact ⟨k + 1, by omega, by omega, by go_num, by rw [HV.out], BI2.out⟩
                    · have HV := Lib.hid (show isM (L.take (k + 1)) x = false by rw [HJ.out, decide_eq_false h3]; simp)
                      have g1 : (s.scanner == x.sc) = true := by simp [h1]
                      have g2 : (s.at_ == x.at_) = true := by simp [h2]
                      have g3 : (s.seen - s.at_ == x.off) = false := beq_false_of_ne h3
                      have H1 := Lib.hid h1
                      have H2 := Lib.hid h2
                      have H3 := Lib.hid h3
                      clear h1 h2 h3
                      go_wp2_with fail
                      go_roundg (L.length - (k + 1))
                      case measure => omega
                      case rel => exact ⟨k + 1, by omega, by omega, by go_num, by rw [HV.out], BI2.out⟩
                  · have HV := Lib.hid (show isM (L.take (k + 1)) x = false by rw [HJ.out, decide_eq_false h2]; simp)
                    have g1 : (s.scanner == x.sc) = true := by simp [h1]
                    have g2 : (s.at_ == x.at_) = false := beq_false_of_ne h2
                    have H1 := Lib.hid h1
                    have H2 := Lib.hid h2
                    clear h1 h2
                    go_wp2_with fail
                    go_roundg (L.length - (k + 1))
                    case measure => omega
                    case rel => exact ⟨k + 1, by omega, by omega, by go_num, by rw [HV.out], BI2.out⟩
                · have HV := Lib.hid (show isM (L.take (k + 1)) x = false by rw [HJ.out, decide_eq_false h1]; simp)
                  have g1 : (s.scanner == x.sc) = false := beq_false_of_ne h1
                  have H1 := Lib.hid h1
                  clear h1
                  go_wp2_with fail
                  go_roundg (L.length - (k + 1))
                  case measure => omega
                  case rel => exact ⟨k + 1, by omega, by omega, by go_num, by rw [HV.out], BI2.out⟩
            · have hkl : k = L.length := by omega
              subst hkl
              rw [List.take_length, HIS.out]
              have BJ := Lib.hid (BQ.out.trans (BI.out.mono BQ.out.size))
              go_wp2_with fail
              go_roundg (ms.length - (j + 1))
              case measure => omega
              case rel => exact ⟨j + 1, by omega, by omega, by go_num, BJ.out⟩
      · have s1 : ¬ 0 < (j : Int) := by omega
        (refine wp_region_quiet_ex (by kernel_rfl) (by kernel_rfl) ?_; (repeat (go_big_quiet_step ((fail)))); refine wpQuiet_nil ?_; intro wq hw'; obtain ⟨⟨_, hq⟩, hw''⟩ := hw'; subst hw'')
        have BQ := Lib.hid (BW.out.trans ((hbx.trans (hq.mono hbx.size)).mono BW.out.size))
        have KX := Lib.hid (kbx.below hq kbx.lt)
        clear exb hq hbx kbx
        go_wp2_with fail
        obtain ⟨w3, hw3⟩ : ∃ w3, w3 = wq := ⟨_, rfl⟩
        rw [← hw3]
        rw [← hw3] at BQ KX
        clear hw3
        go_loopg [11, 76] L.length (fun gg s11 s76 wr => ∃ k : Nat, k ≤ L.length ∧ L.length - k ≤ gg ∧ s76 = .int .i64 k ∧ s11 = .bool (isM (L.take k) x) ∧ Aside (Below w3.heap.size w3 wr))
        case atStart => exact ⟨0, Nat.zero_le _, by omega, rfl, rfl, Below.refl _ _⟩
        case round =>
          obtain ⟨k, hk, hgk, rfl, rfl, BI⟩ := hrel
          by_cases hlk : k < L.length
          · have hs : L[k]? = some L[k] := List.getElem?_eq_getElem hlk
            obtain ⟨b2, o2, rfl, hb2, hm⟩ := ((RL.out.below (Nat.le_refl _) BQ.out).below (Nat.le_refl _) BI.out).at hs
            have HI := Lib.hid (isM_snoc hs x)
            obtain ⟨-, -, -, -, ⟨t1, t2⟩, t3, t4⟩ := (okS_iff _).1 (OK.out L[k] (List.getElem_mem hlk))
            generalize L[k] = s at *
            have hm0 := hm 0 _ rfl; have hm1 := hm 1 _ rfl; have hm2 := hm 2 _ rfl; have hm3 := hm 3 _ rfl; have hm4 := hm 4 _ rfl; have hm5 := hm 5 _ rfl; rw [Nat.add_zero] at hm0; clear hm
            clear hs
            have BI2 := Lib.hid (BI.out.alloc BI.out.size (.cells #[.int .i64 s.item, .int .i64 s.place, .int .i64 s.scanner, .int .u8 s.kind, .int .i64 s.at_, .int .i64 s.seen] 24))
            have cx := Blk.cells ((KX.out.below BI.out KX.out.lt).alloc (.cells #[.int .i64 s.item, .int .i64 s.place, .int .i64 s.scanner, .int .u8 s.kind, .int .i64 s.at_, .int .i64 s.seen] 24))
            have wd : IntKind.i64.wrap (s.seen - s.at_) = s.seen - s.at_ := IntWalk.i64_in _ (by omega)
            cases hany : isM (L.take k) x with
            | true =>
              have HJ := Lib.hid (show isM (L.take (k + 1)) x = true by rw [HI.out, hany]; rfl)
              clear hany
              go_wp2_with fail
              go_roundg (L.length - (k + 1))
              case measure => omega
              case rel => exact ⟨k + 1, by omega, by omega, by go_num, by rw [HJ.out], BI2.out⟩
            | false =>
              have HJ : Hid (isM (L.take (k + 1)) x = (decide (s.scanner = x.sc) && (decide (s.at_ = x.at_) && decide (s.seen - s.at_ = x.off)))) := Lib.hid (by rw [HI.out, hany]; rfl)
              clear hany
              by_cases h1 : s.scanner = x.sc
              · by_cases h2 : s.at_ = x.at_
                · by_cases h3 : s.seen - s.at_ = x.off
                  · have HV := Lib.hid (show isM (L.take (k + 1)) x = true by rw [HJ.out, decide_eq_true h1, decide_eq_true h2, decide_eq_true h3]; rfl)
                    have g1 : (s.scanner == x.sc) = true := by simp [h1]
                    have g2 : (s.at_ == x.at_) = true := by simp [h2]
                    have g3 : (s.seen - s.at_ == x.off) = true := by rw [h3]; simp
                    have H1 := Lib.hid h1
                    have H2 := Lib.hid h2
                    have H3 := Lib.hid h3
                    clear h1 h2 h3
                    go_wp2_with fail
                    go_roundg (L.length - (k + 1))
                    case measure => omega
                    case rel => exact ⟨k + 1, by omega, by omega, by go_num, by rw [HV.out], BI2.out⟩
                  · have HV := Lib.hid (show isM (L.take (k + 1)) x = false by rw [HJ.out, decide_eq_false h3]; simp)
                    have g1 : (s.scanner == x.sc) = true := by simp [h1]
                    have g2 : (s.at_ == x.at_) = true := by simp [h2]
                    have g3 : (s.seen - s.at_ == x.off) = false := beq_false_of_ne h3
                    have H1 := Lib.hid h1
                    have H2 := Lib.hid h2
                    have H3 := Lib.hid h3
                    clear h1 h2 h3
                    go_wp2_with fail
                    go_roundg (L.length - (k + 1))
                    case measure => omega
                    case rel => exact ⟨k + 1, by omega, by omega, by go_num, by rw [HV.out], BI2.out⟩
                · have HV := Lib.hid (show isM (L.take (k + 1)) x = false by rw [HJ.out, decide_eq_false h2]; simp)
                  have g1 : (s.scanner == x.sc) = true := by simp [h1]
                  have g2 : (s.at_ == x.at_) = false := beq_false_of_ne h2
                  have H1 := Lib.hid h1
                  have H2 := Lib.hid h2
                  clear h1 h2
                  go_wp2_with fail
                  go_roundg (L.length - (k + 1))
                  case measure => omega
                  case rel => exact ⟨k + 1, by omega, by omega, by go_num, by rw [HV.out], BI2.out⟩
              · have HV := Lib.hid (show isM (L.take (k + 1)) x = false by rw [HJ.out, decide_eq_false h1]; simp)
                have g1 : (s.scanner == x.sc) = false := beq_false_of_ne h1
                have H1 := Lib.hid h1
                clear h1
                go_wp2_with fail
                go_roundg (L.length - (k + 1))
                case measure => omega
                case rel => exact ⟨k + 1, by omega, by omega, by go_num, by rw [HV.out], BI2.out⟩
          · have hkl : k = L.length := by omega
            subst hkl
            rw [List.take_length, HIS.out]
            have BJ := Lib.hid (BQ.out.trans (BI.out.mono BQ.out.size))
            go_wp2_with fail
            go_roundg (ms.length - (j + 1))
            case measure => omega
            case rel => exact ⟨j + 1, by omega, by omega, by go_num, BJ.out⟩
    · have hjl : j = ms.length := by omega
      subst hjl
      have hsl : True := trivial
      rename World => wA
      have BA := Lib.hid BW.out
      clear BW
      go_wp2_with fail
      go_loopg [111] L.length (fun gg s111 wr => ∃ j : Nat, j ≤ L.length ∧ L.length - j ≤ gg ∧ s111 = .int .i64 j ∧ Aside (Below w2.heap.size w2 wr))
      case atStart => exact ⟨0, Nat.zero_le _, by omega, rfl, BA.out⟩
      case round =>
        obtain ⟨j, hj, hg, rfl, BW⟩ := hrel
        by_cases hlt : j < L.length
        · have hx : L[j]? = some L[j] := List.getElem?_eq_getElem hlt
          obtain ⟨b, o, rfl, hb, hl⟩ := (RL.out.below (Nat.le_refl _) BW.out).at hx
          have HIS := Lib.hid (SOM.out L[j] (List.getElem_mem hlt))
          obtain ⟨-, -, -, -, ⟨t1, t2⟩, t3, t4⟩ := (okS_iff _).1 (OK.out L[j] (List.getElem_mem hlt))
          generalize L[j] = s at *
          have hl0 := hl 0 _ rfl; have hl1 := hl 1 _ rfl; have hl2 := hl 2 _ rfl; have hl3 := hl 3 _ rfl; have hl4 := hl 4 _ rfl; have hl5 := hl 5 _ rfl; rw [Nat.add_zero] at hl0; clear hl
          clear hx
          have BQ := Lib.hid (BW.out.alloc BW.out.size (.cells #[.int .i64 s.item, .int .i64 s.place, .int .i64 s.scanner, .int .u8 s.kind, .int .i64 s.at_, .int .i64 s.seen] 24))
          have KX := Lib.hid (Blk.new (w := wr) (n := wr.heap.size) (arr := #[.int .i64 s.item, .int .i64 s.place, .int .i64 s.scanner, .int .u8 s.kind, .int .i64 s.at_, .int .i64 s.seen]) (T := 24) rfl)
          have wd : IntKind.i64.wrap (s.seen - s.at_) = s.seen - s.at_ := IntWalk.i64_in _ (by omega)
          go_wp2_with fail
          obtain ⟨w3, hw3⟩ : ∃ w3, w3 = wr.alloc (.cells #[.int .i64 s.item, .int .i64 s.place, .int .i64 s.scanner, .int .u8 s.kind, .int .i64 s.at_, .int .i64 s.seen] 24) := ⟨_, rfl⟩
          rw [← hw3]
          rw [← hw3] at BQ KX
          clear hw3
          go_loopg [16, 117] ms.length (fun gg s16 s117 wr => ∃ k : Nat, k ≤ ms.length ∧ ms.length - k ≤ gg ∧ s117 = .int .i64 k ∧ s16 = .bool (someM (ms.take k) s) ∧ Aside (Below w3.heap.size w3 wr))
          case atStart => exact ⟨0, Nat.zero_le _, by omega, rfl, rfl, Below.refl _ _⟩
          case round =>
            obtain ⟨k, hk, hgk, rfl, rfl, BI⟩ := hrel
            by_cases hlk : k < ms.length
            · have hs : ms[k]? = some ms[k] := List.getElem?_eq_getElem hlk
              obtain ⟨b2, o2, rfl, hb2, hm⟩ := ((RM.out.below (Nat.le_refl _) BQ.out).below (Nat.le_refl _) BI.out).at hs
              have HI := Lib.hid (someM_snoc hs s)
              generalize ms[k] = x at *
              have hm0 := hm 0 _ rfl; have hm1 := hm 1 _ rfl; have hm2 := hm 2 _ rfl; rw [Nat.add_zero] at hm0; clear hm
              clear hs
              have BI2 := Lib.hid (BI.out.alloc BI.out.size (.cells #[.int .i64 x.sc, .int .i64 x.at_, .int .i64 x.off] 30))
              have cx := Blk.cells ((KX.out.below BI.out KX.out.lt).alloc (.cells #[.int .i64 x.sc, .int .i64 x.at_, .int .i64 x.off] 30))
              cases hany : someM (ms.take k) s with
              | true =>
                have HJ := Lib.hid (show someM (ms.take (k + 1)) s = true by rw [HI.out, hany]; rfl)
                clear hany
                go_wp2_with fail
                go_roundg (ms.length - (k + 1))
                case measure => omega
                case rel => exact ⟨k + 1, by omega, by omega, by go_num, by rw [HJ.out], BI2.out⟩
              | false =>
                have HJ : Hid (someM (ms.take (k + 1)) s = (decide (x.sc = s.scanner) && decide (x.off ≤ s.seen - s.at_))) := Lib.hid (by rw [HI.out, hany]; rfl)
                clear hany
                by_cases h1 : x.sc = s.scanner
                · by_cases h2 : x.off ≤ s.seen - s.at_
                  · have HV := Lib.hid (show someM (ms.take (k + 1)) s = true by rw [HJ.out, decide_eq_true h1, decide_eq_true h2]; rfl)
                    have g1 : (x.sc == s.scanner) = true := by simp [h1]
                    have H1 := Lib.hid h1
                    clear h1
                    go_wp2_with fail
                    go_roundg (ms.length - (k + 1))
                    case measure => omega
                    case rel => exact ⟨k + 1, by omega, by omega, by go_num, by rw [HV.out], BI2.out⟩
                  · have HV := Lib.hid (show someM (ms.take (k + 1)) s = false by rw [HJ.out, decide_eq_false h2]; simp)
                    have g1 : (x.sc == s.scanner) = true := by simp [h1]
                    have H1 := Lib.hid h1
                    clear h1
                    go_wp2_with fail
                    go_roundg (ms.length - (k + 1))
                    case measure => omega
                    case rel => exact ⟨k + 1, by omega, by omega, by go_num, by rw [HV.out], BI2.out⟩
                · have HV := Lib.hid (show someM (ms.take (k + 1)) s = false by rw [HJ.out, decide_eq_false h1]; simp)
                  have g1 : (x.sc == s.scanner) = false := beq_false_of_ne h1
                  have H1 := Lib.hid h1
                  clear h1
                  go_wp2_with fail
                  go_roundg (ms.length - (k + 1))
                  case measure => omega
                  case rel => exact ⟨k + 1, by omega, by omega, by go_num, by rw [HV.out], BI2.out⟩
            · have hkl : k = ms.length := by omega
              subst hkl
              rw [List.take_length, HIS.out]
              have BJ := Lib.hid (BQ.out.trans (BI.out.mono BQ.out.size))
              go_wp2_with fail
              go_roundg (L.length - (j + 1))
              case measure => omega
              case rel => exact ⟨j + 1, by omega, by omega, by go_num, BJ.out⟩
        · have hjl : j = L.length := by omega
          subst hjl
          go_wp2_with fail
          refine (awake_any _).mono ?_
          rintro e wz ⟨rfl, hz⟩
          have BZ := Lib.hid (B2.out.trans ((BW.out.trans (hz.mono BW.out.size)).mono B2.out.size))
          clear hz
          go_wp2_with fail
          go_ret
          exact ⟨rfl, BZ.out⟩

end Go.Proofs.Ytcjhkjplpbhjiaa
