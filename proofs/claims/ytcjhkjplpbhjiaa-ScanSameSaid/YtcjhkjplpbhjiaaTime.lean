/- Contract of scan.Time. -/
import Derived.Test.YtcjhkjplpbhjiaaCorr
namespace Go.Proofs.Ytcjhkjplpbhjiaa
open Go.RowKit Go.Proofs
set_option maxRecDepth 100000

theorem risingL_iff : ∀ ms : List Mrk, risingL ms = true ↔ ∀ (k : Nat) (a b : Mrk), ms[k]? = some a → ms[k + 1]? = some b → ltPl a b = true
  | [] => by simp [risingL]
  | [x] => by simp [risingL]
  | x :: y :: r => by
    unfold risingL
    rw [Bool.and_eq_true, risingL_iff (y :: r)]
    constructor
    · rintro ⟨h1, h2⟩ k a b ha hb
      match k with
      | 0 => simp at ha hb; subst ha hb; exact h1
      | k + 1 => exact h2 k a b (by simpa using ha) (by simpa using hb)
    · intro h
      exact ⟨h 0 x y rfl rfl, fun k a b ha hb => h (k + 1) a b (by simpa using ha) (by simpa using hb)⟩
theorem okMs_iff (ms : List Mrk) : okMs ms = true ↔ (∀ (k : Nat) (m : Mrk), ms[k]? = some m → okM m = true) ∧ ∀ (k : Nat) (a b : Mrk), ms[k]? = some a → ms[k + 1]? = some b → ltPl a b = true := by
  unfold okMs
  rw [Bool.and_eq_true, risingL_iff, List.all_eq_true]
  refine and_congr_left fun _ => ⟨fun h k m hk => h m (List.mem_of_getElem? hk), fun h m hm => ?_⟩
  obtain ⟨k, hk⟩ := List.mem_iff_getElem?.1 hm
  exact h k m hk
theorem okMs_pair {ms : List Mrk} (h : okMs ms = true) : ms.Pairwise (fun x y => ltPl x y = true) ∧ ∀ m ∈ ms, okM m = true := by
  refine ⟨?_, fun m hm => by unfold okMs at h; rw [Bool.and_eq_true, List.all_eq_true] at h; exact h.1 m hm⟩
  have h2 := ((okMs_iff ms).1 h).2
  rw [List.pairwise_iff_getElem]
  intro i j hi hj hij
  have : ∀ (d i : Nat) (hi : i < ms.length) (hj : i + d + 1 < ms.length), ltPl ms[i] ms[i + d + 1] = true := by
    intro d
    induction d with
    | zero => intro i hi hj; exact h2 i _ _ (List.getElem?_eq_getElem hi) (List.getElem?_eq_getElem hj)
    | succ d ih =>
      intro i hi hj
      exact ltPl_tr (ih i hi (by omega)) (h2 (i + d + 1) _ _ (List.getElem?_eq_getElem (by omega)) (List.getElem?_eq_getElem hj))
  have := this (j - i - 1) i hi (by omega)
  have e : i + (j - i - 1) + 1 = j := by omega
  simpa only [e] using this
theorem okMs_of {ms : List Mrk} (h1 : ms.Pairwise (fun x y => ltPl x y = true)) (h2 : ∀ m ∈ ms, okM m = true) : okMs ms = true := by
  rw [okMs_iff]
  refine ⟨fun k m hk => h2 m (List.mem_of_getElem? hk), fun k a b ha hb => ?_⟩
  obtain ⟨hk, rfl⟩ := List.getElem?_eq_some_iff.1 ha
  obtain ⟨hk2, rfl⟩ := List.getElem?_eq_some_iff.1 hb
  exact List.pairwise_iff_getElem.1 h1 k (k + 1) hk hk2 (by omega)

/-- What Time returns. -/
def timeR (ms : List Mrk) (s : Scn) : Value := if okS s && okMs ms then .tuple #[.int .i64 (corrF ms s), .int .i64 0] else .tuple #[.int .i64 0, .int .i64 2]

set_option maxHeartbeats 2000000 in
theorem time_any (A : Option Addr) (c : Nat) (ms : List Mrk) (s : Scn) (w : World) (hr : Rd encMrk 3 w A ms) (hlen : ms.length ≤ 1000000) :
    Calls Try.prog 12 #[.slice A ms.length c, .agg #[.int .i64 s.item, .int .i64 s.place, .int .i64 s.scanner, .int .u8 s.kind, .int .i64 s.at_, .int .i64 s.seen]] w fun e w' => e = .returned (timeR ms s) ∧ Below w.heap.size w w' := by
  have HR := Lib.hid hr
  have hRight := Lib.hid (fun W => right_any s W)
  cases hS : okS s with
  | false =>
    have e : timeR ms s = .tuple #[.int .i64 0, .int .i64 2] := by unfold timeR; rw [hS]; rfl
    rw [e]; clear e hr
    rw [hS] at hRight
    go_enter Try.func12, Try.ntmps12
    go_wp2_with fail
    refine (hRight.out _).mono ?_
    rintro e w1 ⟨rfl, hb⟩
    go_wp2_with fail
    go_ret2
    exact ⟨rfl, ((Below.refl _ _).alloc (Nat.le_refl _) _).trans (hb.mono (by simp))⟩
  | true =>
    have HT : Hid (timeR ms s = if okMs ms = true then .tuple #[.int .i64 (corrF ms s), .int .i64 0] else .tuple #[.int .i64 0, .int .i64 2]) := Lib.hid (by unfold timeR; rw [hS]; rfl)
    rw [hS] at hRight
    have HS := Lib.hid hS
    clear hS hr
    generalize timeR ms s = R at *
    have hbox : Below w.heap.size w (w.alloc (.cells #[.int .i64 s.item, .int .i64 s.place, .int .i64 s.scanner, .int .u8 s.kind, .int .i64 s.at_, .int .i64 s.seen] 24)) := (Below.refl _ _).alloc (Nat.le_refl _) _
    have kbox : Blk (w.alloc (.cells #[.int .i64 s.item, .int .i64 s.place, .int .i64 s.scanner, .int .u8 s.kind, .int .i64 s.at_, .int .i64 s.seen] 24)) w.heap.size #[.int .i64 s.item, .int .i64 s.place, .int .i64 s.scanner, .int .u8 s.kind, .int .i64 s.at_, .int .i64 s.seen] 24 := Blk.new rfl
    go_enter Try.func12, Try.ntmps12
    go_wp2_with fail
    refine (hRight.out _).mono ?_
    rintro e w1 ⟨rfl, hb⟩
    have B1 := Lib.hid (hbox.trans (hb.mono hbox.size))
    have K1 := Lib.hid (kbox.below hb kbox.lt)
    clear hbox kbox hb
    go_wp2_with fail
    go_loopg [13] ms.length (fun gg s13 wr => ∃ j : Nat, j ≤ ms.length ∧ ms.length - j ≤ gg ∧ s13 = .int .i64 j ∧ Aside (Below w1.heap.size w1 wr) ∧ Aside (∀ (k : Nat) (m : Mrk), k < j → ms[k]? = some m → okM m = true) ∧ Aside (∀ (k : Nat) (a b : Mrk), k + 1 < j → ms[k]? = some a → ms[k + 1]? = some b → ltPl a b = true))
    case atStart => exact ⟨0, Nat.zero_le _, by omega, rfl, Below.refl _ _, fun k m h => by omega, fun k a b h => by omega⟩
    case round =>
      obtain ⟨j, hj, hg, rfl, BW, HO, HI⟩ := hrel
      by_cases hlt : j < ms.length
      · have hx : ms[j]? = some ms[j] := List.getElem?_eq_getElem hlt
        obtain ⟨b, o, rfl, hb, hl⟩ := ((HR.out.below (Nat.le_refl _) B1.out).below (Nat.le_refl _) BW.out).at hx
        have HX := Lib.hid hx
        generalize ms[j] = x at hl hx HX
        have hl0 := hl 0 _ rfl; have hl1 := hl 1 _ rfl; have hl2 := hl 2 _ rfl; rw [Nat.add_zero] at hl0; clear hl
        clear hx
        go_wp2_with fail
        obtain ⟨W, hW⟩ : ∃ W : World, W = wr.alloc (.cells #[.int .i64 x.sc, .int .i64 x.at_, .int .i64 x.off] 30) := ⟨_, rfl⟩
        have hbx : Below wr.heap.size wr W := by rw [hW]; exact (Below.refl _ _).alloc (Nat.le_refl _) _
        have exb := exblk (W := W) (n := wr.heap.size) (arr := #[.int .i64 x.sc, .int .i64 x.at_, .int .i64 x.off]) (T := 30) (fr := (0, 0)) (by rw [hW]; exact blk_new rfl)
        rw [← hW]
        have HW := Lib.hid hW
        clear hW
        replace hl0 := (hbx.cell (p := ⟨b, _, none⟩) hb).trans hl0
        replace hl1 := (hbx.cell (p := ⟨b, _, none⟩) hb).trans hl1
        replace hl2 := (hbx.cell (p := ⟨b, _, none⟩) hb).trans hl2
        have hbW : b < W.heap.size := Nat.lt_of_lt_of_le hb hbx.size
        replace hl0 := fun p : Ex W => p.cell hbW hl0; replace hl1 := fun p : Ex W => p.cell hbW hl1; replace hl2 := fun p : Ex W => p.cell hbW hl2
        have H1 := Lib.hid (fun W => within_any x.sc 1 999999 W)
        have H2 := Lib.hid (fun W => within_any x.at_ 0 1051898399 W)
        have H3 := Lib.hid (fun W => within_any x.off (-1051898399) 1051898399 W)
        have HB : Hid (okM x = (inB 1 999999 x.sc && (inB 0 1051898399 x.at_ && inB (-1051898399) 1051898399 x.off))) := Lib.hid rfl
        generalize inB 1 999999 x.sc = r1 at *
        generalize inB 0 1051898399 x.at_ = r2 at *
        generalize inB (-1051898399) 1051898399 x.off = r3 at *
        cases r1 with
        | false =>
          (refine wp_region_quiet_ex (by kernel_rfl) (by kernel_rfl) ?_; (repeat (go_big_quiet_step ((first | (go_at_call 35; first | (with_reducible refine Calls.ex_same (H1.out _)) | (with_reducible refine Calls.ex_same (H2.out _)) | (with_reducible refine Calls.ex_same (H3.out _))))))); refine wpQuiet_nil ?_; intro wq hw'; obtain ⟨⟨_, hq⟩, hw''⟩ := hw'; subst hw'')
          have BQ := Lib.hid (B1.out.trans ((BW.out.trans ((hbx.trans (hq.mono hbx.size)).mono BW.out.size)).mono B1.out.size))
          clear exb hl0 hl1 hl2
          go_wp2_with fail
          go_ret2
          have hR : R = .tuple #[.int .i64 0, .int .i64 2] := by
            rw [HT.out]
            refine if_neg (fun hh => ?_)
            have h9 := ((okMs_iff ms).1 hh).1 j x HX.out
            rw [HB.out] at h9
            simp at h9
          exact ⟨by rw [hR]; rfl, BQ.out⟩
        | true =>
          cases r2 with
          | false =>
            (refine wp_region_quiet_ex (by kernel_rfl) (by kernel_rfl) ?_; (repeat (go_big_quiet_step ((first | (go_at_call 35; first | (with_reducible refine Calls.ex_same (H1.out _)) | (with_reducible refine Calls.ex_same (H2.out _)) | (with_reducible refine Calls.ex_same (H3.out _))))))); refine wpQuiet_nil ?_; intro wq hw'; obtain ⟨⟨_, hq⟩, hw''⟩ := hw'; subst hw'')
            have BQ := Lib.hid (B1.out.trans ((BW.out.trans ((hbx.trans (hq.mono hbx.size)).mono BW.out.size)).mono B1.out.size))
            clear exb hl0 hl1 hl2
            go_wp2_with fail
            go_ret2
            have hR : R = .tuple #[.int .i64 0, .int .i64 2] := by
              rw [HT.out]
              refine if_neg (fun hh => ?_)
              have h9 := ((okMs_iff ms).1 hh).1 j x HX.out
              rw [HB.out] at h9
              simp at h9
            exact ⟨by rw [hR]; rfl, BQ.out⟩
          | true =>
            cases r3 with
            | false =>
              (refine wp_region_quiet_ex (by kernel_rfl) (by kernel_rfl) ?_; (repeat (go_big_quiet_step ((first | (go_at_call 35; first | (with_reducible refine Calls.ex_same (H1.out _)) | (with_reducible refine Calls.ex_same (H2.out _)) | (with_reducible refine Calls.ex_same (H3.out _))))))); refine wpQuiet_nil ?_; intro wq hw'; obtain ⟨⟨_, hq⟩, hw''⟩ := hw'; subst hw'')
              have BQ := Lib.hid (B1.out.trans ((BW.out.trans ((hbx.trans (hq.mono hbx.size)).mono BW.out.size)).mono B1.out.size))
              clear exb hl0 hl1 hl2
              go_wp2_with fail
              go_ret2
              have hR : R = .tuple #[.int .i64 0, .int .i64 2] := by
                rw [HT.out]
                refine if_neg (fun hh => ?_)
                have h9 := ((okMs_iff ms).1 hh).1 j x HX.out
                rw [HB.out] at h9
                simp at h9
              exact ⟨by rw [hR]; rfl, BQ.out⟩
            | true =>
              by_cases hj0 : 0 < j
              · have hp : ms[j - 1]? = some ms[j - 1] := List.getElem?_eq_getElem (by omega)
                obtain ⟨b', o', hA', hb', hk⟩ := ((HR.out.below (Nat.le_refl _) B1.out).below (Nat.le_refl _) BW.out).at hp
                simp at hA'
                obtain ⟨rfl, rfl⟩ := hA'
                have HP := Lib.hid hp
                generalize ms[j - 1] = y at hk hp HP
                have hk0 := hk 0 _ rfl; have hk1 := hk 1 _ rfl; have hk2 := hk 2 _ rfl; rw [Nat.add_zero] at hk0; clear hk
                clear hp
                replace hk0 := (hbx.cell (p := ⟨b, _, none⟩) hb).trans hk0
                replace hk1 := (hbx.cell (p := ⟨b, _, none⟩) hb).trans hk1
                replace hk2 := (hbx.cell (p := ⟨b, _, none⟩) hb).trans hk2
                replace hk0 := fun p : Ex W => p.cell hbW hk0; replace hk1 := fun p : Ex W => p.cell hbW hk1; replace hk2 := fun p : Ex W => p.cell hbW hk2
                have s1 : 0 < (j : Int) := by omega
                have s2 : ((j : Int) - 1).toNat = j - 1 := by omega
                have s3 : 0 ≤ (j : Int) - 1 := by omega
                have s4 : (j : Int) - 1 < ms.length := by omega
                have s5 : IntKind.i64.wrap ((j : Int) - 1) = (j : Int) - 1 := IntWalk.i64_in _ (by omega)
                have HC := Lib.hid (cmpL_flip (keyPl y) (keyPl x) rfl)
                by_cases hc : cmpPl y x < 0
                · have hc' : ¬ 0 ≤ cmpPl y x := by omega
                  have HLT : Hid (ltPl y x = true) := Lib.hid ((ltPl_cmp y x).1 hc)
                  (refine wp_region_quiet_ex (by kernel_rfl) (by kernel_rfl) ?_; (repeat (go_big_quiet_step ((first | (go_at_call 35; first | (with_reducible refine Calls.ex_same (H1.out _)) | (with_reducible refine Calls.ex_same (H2.out _)) | (with_reducible refine Calls.ex_same (H3.out _))) | (go_at_call 36; refine Calls.ex_of (byPlace_b y x _)))))); refine wpQuiet_nil ?_; intro wq hw'; obtain ⟨⟨_, hq⟩, hw''⟩ := hw'; subst hw'')
                  have BQ := Lib.hid (BW.out.trans ((hbx.trans (hq.mono hbx.size)).mono BW.out.size))
                  clear exb hl0 hl1 hl2 hk0 hk1 hk2 s2 s3 s4 s5
                  go_wp2_with fail
                  go_roundg (ms.length - (j + 1))
                  case measure => omega
                  case rel =>
                    refine ⟨j + 1, by omega, by omega, by go_num, BQ.out, fun k m h1 h2 => ?_, fun k a b h1 h2 h3 => ?_⟩
                    · by_cases e : k = j
                      · subst e; rw [HX.out] at h2; cases h2; rw [HB.out]; rfl
                      · exact HO.out k m (by omega) h2
                    · by_cases e : k + 1 < j
                      · exact HI.out k a b e h2 h3
                      · have e2 : k + 1 = j := by omega
                        have e3 : k = j - 1 := by omega
                        subst e3
                        rw [e2, HX.out] at h3; rw [HP.out] at h2; cases h2; cases h3; exact HLT.out
                · have hc' : 0 ≤ cmpPl y x := by omega
                  have HLT : Hid (ltPl y x = false) := Lib.hid (HC.out.1 hc')
                  (refine wp_region_quiet_ex (by kernel_rfl) (by kernel_rfl) ?_; (repeat (go_big_quiet_step ((first | (go_at_call 35; first | (with_reducible refine Calls.ex_same (H1.out _)) | (with_reducible refine Calls.ex_same (H2.out _)) | (with_reducible refine Calls.ex_same (H3.out _))) | (go_at_call 36; refine Calls.ex_of (byPlace_b y x _)))))); refine wpQuiet_nil ?_; intro wq hw'; obtain ⟨⟨_, hq⟩, hw''⟩ := hw'; subst hw'')
                  have BQ := Lib.hid (B1.out.trans ((BW.out.trans ((hbx.trans (hq.mono hbx.size)).mono BW.out.size)).mono B1.out.size))
                  clear exb hl0 hl1 hl2 hk0 hk1 hk2 s2 s3 s4 s5
                  go_wp2_with fail
                  go_ret2
                  have hR : R = .tuple #[.int .i64 0, .int .i64 2] := by
                    rw [HT.out]
                    refine if_neg (fun hh => ?_)
                    have h9 := ((okMs_iff ms).1 hh).2 (j - 1) y x HP.out (by rw [show j - 1 + 1 = j by omega]; exact HX.out)
                    rw [HLT.out] at h9; cases h9
                  exact ⟨by rw [hR]; rfl, BQ.out⟩
              · have s1 : ¬ 0 < (j : Int) := by omega
                (refine wp_region_quiet_ex (by kernel_rfl) (by kernel_rfl) ?_; (repeat (go_big_quiet_step ((first | (go_at_call 35; first | (with_reducible refine Calls.ex_same (H1.out _)) | (with_reducible refine Calls.ex_same (H2.out _)) | (with_reducible refine Calls.ex_same (H3.out _))))))); refine wpQuiet_nil ?_; intro wq hw'; obtain ⟨⟨_, hq⟩, hw''⟩ := hw'; subst hw'')
                have BQ := Lib.hid (BW.out.trans ((hbx.trans (hq.mono hbx.size)).mono BW.out.size))
                clear exb hl0 hl1 hl2
                go_wp2_with fail
                go_roundg (ms.length - (j + 1))
                case measure => omega
                case rel =>
                  refine ⟨j + 1, by omega, by omega, by go_num, BQ.out, fun k m h1 h2 => ?_, fun k a b h1 h2 h3 => ?_⟩
                  · by_cases e : k = j
                    · subst e; rw [HX.out] at h2; cases h2; rw [HB.out]; rfl
                    · exact HO.out k m (by omega) h2
                  · by_cases e : k + 1 < j
                    · exact HI.out k a b e h2 h3
                    · omega
      · have hjl : j = ms.length := by omega
        subst hjl
        have hok : okMs ms = true := (okMs_iff ms).2 ⟨fun k m hk => HO.out k m (List.getElem?_eq_some_iff.1 hk).1 hk, fun k a b ha hb => HI.out k a b (List.getElem?_eq_some_iff.1 hb).1 ha hb⟩
        obtain ⟨hs, hall⟩ := okMs_pair hok
        have hcorr := Lib.hid (corrected_any A c ms s wr ((HR.out.below (Nat.le_refl _) B1.out).below (Nat.le_refl _) BW.out) hlen hs hall HS.out)
        have HOK := Lib.hid hok
        have kb := (K1.out.below BW.out K1.out.lt).cells
        clear hok hs hall HO HI
        go_wp2_with fail
        refine hcorr.out.mono ?_
        rintro e w5 ⟨rfl, hb5⟩
        have B5 := Lib.hid (B1.out.trans ((BW.out.trans (hb5.mono BW.out.size)).mono B1.out.size))
        clear hb5
        go_wp2_with fail
        go_ret2
        exact ⟨by rw [HT.out, if_pos HOK.out]; rfl, B5.out⟩
end Go.Proofs.Ytcjhkjplpbhjiaa
