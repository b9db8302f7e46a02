/- The statement ClaimOnce where all lists are right. -/
import Derived.Test.YtnnppnlekpadnaaGreatOnce
namespace Go.Proofs.YtnnppnlekpadnaaGreat
open Go.RowKit Go.Proofs
set_option maxRecDepth 100000

theorem bcases (b : Bool) : b = true ∨ b = false := by cases b <;> simp
def clm0 : Clm := ⟨0, 0, -1, 0, 0, 0⟩
/-- The claim ahead of number j. -/
def lastC (d : List Clm) (j : Nat) : Clm := if j = 0 then clm0 else d[j - 1]!

theorem Blk.other {w : World} {n m : Nat} {arr : Array Value} {T : TypeId} (h : Blk w n arr T) (i : Nat) (v : Value) (hm : n ≠ m) : Blk (w.setCell ⟨m, i, none⟩ v) n arr T := (Below.heap_setCell w ⟨m, i, none⟩ v n hm).trans h
/-- A claim stored into a block of its own. -/
def setCl (w : World) (n : Nat) (x : Clm) : World := (((((w.setCell ⟨n, 0, none⟩ (.int .i64 x.id)).setCell ⟨n, 1, none⟩ (.int .i64 x.item)).setCell ⟨n, 2, none⟩ (.int .i64 x.at_)).setCell ⟨n, 3, none⟩ (.int .u8 x.kind)).setCell ⟨n, 4, none⟩ (.int .i64 x.post)).setCell ⟨n, 5, none⟩ (.int .i64 x.val)
theorem setCl_blk {w : World} {n : Nat} {x : Clm} {T : TypeId} {a b c d e f : Value} (h : Blk w n #[a, b, c, d, e, f] T) : Blk (setCl w n x) n #[.int .i64 x.id, .int .i64 x.item, .int .i64 x.at_, .int .u8 x.kind, .int .i64 x.post, .int .i64 x.val] T :=
  ((((((h.set 0 (.int .i64 x.id)).set 1 (.int .i64 x.item)).set 2 (.int .i64 x.at_)).set 3 (.int .u8 x.kind)).set 4 (.int .i64 x.post)).set 5 (.int .i64 x.val))
theorem setCl_other {w : World} {n m : Nat} {x : Clm} {T : TypeId} {arr : Array Value} (h : Blk w m arr T) (hm : m ≠ n) : Blk (setCl w n x) m arr T :=
  ((((((h.other 0 _ hm).other 1 _ hm).other 2 _ hm).other 3 _ hm).other 4 _ hm).other 5 _ hm)
theorem setCl_below {w0 w : World} {B n : Nat} (x : Clm) (h : Below B w0 w) (hn : B ≤ n) : Below B w0 (setCl w n x) :=
  (((((h.setCell (p := ⟨n, 0, none⟩) hn _).setCell (p := ⟨n, 1, none⟩) hn _).setCell (p := ⟨n, 2, none⟩) hn _).setCell (p := ⟨n, 3, none⟩) hn _).setCell (p := ⟨n, 4, none⟩) hn _).setCell (p := ⟨n, 5, none⟩) hn _

section
variable (Al At As Ac : Option Addr) (ca cb cc cd : Nat) (l : List Std) (t : List Terms) (s : List Sent) (c : List Clm) (w : World)
variable (HA : ∀ w : World, Calls Tryz.prog 10 #[] w fun e w' => e = .returned (.bool true) ∧ Below w.heap.size w w')
variable (hl : Rd encStd 4 w Al l) (ht : Rd encTerms 7 w At t) (hs : Rd encSent 6 w As s) (hc : Rd encClm 6 w Ac c)
include HA hl ht hs hc in
set_option maxHeartbeats 100000000 in
theorem once_ok (hn : l.length ≤ 60 ∧ t.length ≤ 60 ∧ s.length ≤ 60 ∧ c.length ≤ 60) (h : chkP l t s c = 0) : Calls Tryz.prog 8 #[.slice Al l.length ca, .slice At t.length cb, .slice As s.length cc, .slice Ac c.length cd] w fun e w' => e = .returned (.bool true) ∧ Below w.heap.size w w' := by
  have HA := Lib.hid HA
  have FW := fun W => few_any Al At As Ac l.length t.length s.length c.length ca cb cc cd W
  rw [decide_eq_true hn] at FW
  have nl : l.length ≤ 1000000 := by omega
  have nt : t.length ≤ 1000000 := by omega
  have ns : s.length ≤ 1000000 := by omega
  have nc : c.length ≤ 1000000 := by omega
  have S1 := Lib.hid (fun (W : World) (b : Below w.heap.size w W) => settle_ok Al At As Ac ca cb cc cd l t s c W (hl.below (Nat.le_refl _) b) (ht.below (Nat.le_refl _) b) (hs.below (Nat.le_refl _) b) (hc.below (Nat.le_refl _) b) nl nt ns nc h)
  have D1 := Lib.hid (fun (x : Clm) (hx : x ∈ c) (W : World) (b : Below w.heap.size w W) => (deciP_of h hx) ▸ Decide_any Al At As ca cb cc l t s x W (hl.below (Nat.le_refl _) b) (ht.below (Nat.le_refl _) b) (hs.below (Nat.le_refl _) b) nl nt ns)
  have F1 := Lib.hid (fun (i : Int) (W : World) (b : Below w.heap.size w W) => find_any Ac cd c i W (hc.below (Nat.le_refl _) b) nc)
  have Z := chkP_zero h
  have hokc : ∀ x ∈ c, okClm x = true := by
    have z4 := Z.2.2.2
    unfold rightClm at z4; simp at z4
    intro x hx
    exact z4.2.1 x hx
  have HN := Lib.hid (And.intro (chk_nodup h) (And.intro Z.2.1 hokc))
  clear hl ht hs hc h hn nl nt ns Z hokc
  generalize l.length = n1 at *
  generalize t.length = n2 at *
  generalize s.length = n3 at *
  go_enter Tryz.func8, Tryz.ntmps8
  go_wp2_with fail
  refine (HA.out _).mono ?_
  rintro e w1 ⟨rfl, hb⟩
  go_wp2_with fail
  refine (FW _).mono ?_
  rintro e w2 ⟨rfl, rfl⟩
  go_wp2_with fail
  refine (S1.out _ hb).mono ?_
  rintro e w3 ⟨d, A, cap, hp, hsd, rfl, hr, hb3⟩
  replace hb := hb.trans (hb3.mono hb.size)
  have hdl : d.length = c.length := hp.length_eq
  have HP := Lib.hid (And.intro hp hsd)
  have HR := Lib.hid hr
  clear hb3 hp hsd hr FW S1
  have mk : ∀ W : World, Sem.run Tryz.prog (Instr.makeMap 61 none) W = .ok (.map (some W.heap.size)) (W.alloc (.map #[] 0)) := fun W => run_makeMap _ W
  go_wp2_with fail
  obtain ⟨W4, hW4⟩ : ∃ W : World, W = (w3.alloc (.map #[] 0)).alloc (.cells #[.int .i64 0, .int .i64 0, .int .i64 (-1), .int .u8 0, .int .i64 0, .int .i64 0] 31) := ⟨_, rfl⟩
  rw [← hW4]
  have m4 : PaidR W4 w3.heap.size [] := by
    rw [hW4]
    refine PaidR.below (n := w3.heap.size + 1) ⟨[], MapR.made _ _ rfl, fun k => by simp [getL]⟩ (Nat.lt_succ_self _) ((Below.refl _ _).alloc (by simp) _)
  have k4 : Blk W4 (w3.heap.size + 1) #[.int .i64 clm0.id, .int .i64 clm0.item, .int .i64 clm0.at_, .int .u8 clm0.kind, .int .i64 clm0.post, .int .i64 clm0.val] 31 := by rw [hW4]; exact Blk.new (by first | (simp; done) | (simp; omega) | omega)
  have b4 : Below w3.heap.size w3 W4 := by rw [hW4]; exact ((Below.refl _ _).alloc (Nat.le_refl _) _).alloc (by first | (simp; done) | (simp; omega) | omega) _
  have BH := Lib.hid hb
  clear hW4 hb mk
  go_loopg [13] c.length (fun gg s13 wr => ∃ j : Nat, j ≤ c.length ∧ c.length - j ≤ gg ∧ s13 = .int .i64 j ∧ Aside (Below w3.heap.size w3 wr) ∧ Aside (PaidR wr w3.heap.size (setF l t s (d.take j)).1) ∧ Aside (Blk wr (w3.heap.size + 1) #[.int .i64 (lastC d j).id, .int .i64 (lastC d j).item, .int .i64 (lastC d j).at_, .int .u8 (lastC d j).kind, .int .i64 (lastC d j).post, .int .i64 (lastC d j).val] 31))
  case atStart => exact ⟨0, Nat.zero_le _, by omega, rfl, b4, m4, k4⟩
  case round =>
    obtain ⟨j, hj, hg, rfl, hw, hp, hk⟩ := hrel
    by_cases hlt : j < c.length
    · have hx : d[j]? = some d[j] := List.getElem?_eq_getElem (by omega)
      have hxm : d[j]'(by omega) ∈ c := HP.out.1.mem_iff.1 (List.getElem_mem _)
      have hst := setF_step (l := l) (t := t) (s := s) hx
      have hat := setF_at l t s d ([], []) j _ hx
      have hnx : lastC d (j + 1) = d[j]'(by omega) := by unfold lastC; rw [if_neg (by omega), Nat.add_sub_cancel]; exact getElem!_pos d j (by omega)
      have hlast : (lastC d j).at_ < (d[j]'(by omega)).at_ ∨ ((lastC d j).at_ = (d[j]'(by omega)).at_ ∧ (lastC d j).id < (d[j]'(by omega)).id) := by
        by_cases h0 : j = 0
        · left
          have : lastC d j = clm0 := by unfold lastC; rw [if_pos h0]
          rw [this]
          have := (okC_of (HN.out.2.2 _ hxm)).1
          show (-1 : Int) < _
          omega
        · have e : lastC d j = d[j - 1]'(by omega) := by unfold lastC; rw [if_neg h0]; exact getElem!_pos d (j - 1) (by omega)
          rw [e]
          exact set_lt HP.out.1 HP.out.2 HN.out.1 (show j - 1 < j by omega) (List.getElem?_eq_getElem (by omega)) hx
      generalize d[j]'(by omega) = x at hx hxm hst hat hnx hlast
      generalize lastC d j = y at hk hlast
      obtain ⟨P, hP⟩ : ∃ P, P = setF l t s (d.take j) := ⟨_, rfl⟩
      rw [← hP] at hst hp
      change (setF l t s d).2[0 + j]? = some (stepO l t s (setF l t s (d.take j)).1 x) at hat
      rw [← hP, Nat.zero_add] at hat
      have hclm := stepO_clm l t s P.1 x
      have hpos := stepO_pos (l := l) (s := s) (p := P.1) HN.out.2.1 (HN.out.2.2 x hxm)
      have hfind := findC_mem HN.out.1 hxm
      obtain ⟨b, o, rfl, hbb, hlo⟩ := (HR.out.below (Nat.le_refl _) hw.out).at hat
      obtain ⟨D, hD⟩ : ∃ D, D = decP l t s x := ⟨_, rfl⟩
      obtain ⟨O, hO⟩ : ∃ O, O = stepO l t s P.1 x := ⟨_, rfl⟩
      rw [← hO] at hat hclm hpos hlo
      have HH := Lib.hid (And.intro hst (And.intro hnx (And.intro hD hO)))
      have HM := Lib.hid hxm
      have HAT := Lib.hid hat
      have hDc : D.clm = x.id := by rw [hD]; exact decP_clm l t s x
      clear hst hnx hD hO hat hx hP hxm
      have bx := BH.out.trans (hw.out.mono BH.out.size)
      have f1 := F1.out x.id wr bx
      rw [hfind] at f1
      simp only [findV] at f1
      clear hfind
      have hlo0 := hlo 0 _ rfl; have hlo1 := hlo 1 _ rfl; have hlo2 := hlo 2 _ rfl; rw [Nat.add_zero] at hlo0; clear hlo
      rw [hclm] at hlo0
      have q1 : decide (x.at_ < y.at_) = false := by simp; omega
      have q2 : ((x.at_ == y.at_) && decide (x.id ≤ y.id)) = false := by
        rcases hlast with h | ⟨h1, h2⟩
        · have : (x.at_ == y.at_) = false := by simp; omega
          rw [this]; rfl
        · have : decide (x.id ≤ y.id) = false := by simp; omega
          rw [this]; simp
      have q3 : (x.at_ == y.at_) = false ∨ ((x.at_ == y.at_) = true ∧ decide (x.id ≤ y.id) = false) := by
        cases e : x.at_ == y.at_ with
        | false => exact .inl rfl
        | true => rw [e] at q2; exact .inr ⟨rfl, by simpa using q2⟩
      clear hlast q2
      go_wp2_with fail
      refine f1.mono ?_
      rintro e w5 ⟨rfl, hb5⟩
      clear f1
      have XC : ∀ W : World, Blk (W.alloc (.cells #[.int .i64 x.id, .int .i64 x.item, .int .i64 x.at_, .int .u8 x.kind, .int .i64 x.post, .int .i64 x.val] 31)) W.heap.size #[.int .i64 x.id, .int .i64 x.item, .int .i64 x.at_, .int .u8 x.kind, .int .i64 x.post, .int .i64 x.val] 31 := fun W => Blk.new rfl
      have kx6 := (XC w5)
      have hk6 := (hk.out.below hb5 hk.out.lt).alloc (.cells #[.int .i64 x.id, .int .i64 x.item, .int .i64 x.at_, .int .u8 x.kind, .int .i64 x.post, .int .i64 x.val] 31)
      have b6 := (hw.out.trans (hb5.mono hw.out.size)).alloc (by have := hw.out.size; have := hb5.size; omega) (.cells #[.int .i64 x.id, .int .i64 x.item, .int .i64 x.at_, .int .u8 x.kind, .int .i64 x.post, .int .i64 x.val] 31)
      have hp6 := hp.out.below hp.out.lt (hb5.trans ((Below.refl w5.heap.size w5).alloc (Nat.le_refl _) (.cells #[.int .i64 x.id, .int .i64 x.item, .int .i64 x.at_, .int .u8 x.kind, .int .i64 x.post, .int .i64 x.val] 31) |>.mono hb5.size))
      have hne : w3.heap.size + 1 ≠ w5.heap.size := by have := hk.out.lt; have := hb5.size; omega
      have kcl := hk6.cells
      have kfl := hk6.free
      have kcx := kx6.cells
      have hk7 := setCl_blk (x := x) hk6
      have kx7 := setCl_other (x := x) (n := w3.heap.size + 1) kx6 (Ne.symm hne)
      have b7 := setCl_below (n := w3.heap.size + 1) x b6 (Nat.le_succ _)
      have hp7 := hp6.below (Nat.lt_succ_self _) (setCl_below (n := w3.heap.size + 1) x (Below.refl (w3.heap.size + 1) _) (Nat.le_refl _))
      have kcx7 := kx7.cells
      have hd := D1.out x HM.out _ (BH.out.trans (b7.mono BH.out.size))
      have HK7 := Lib.hid hk7
      have KX7 := Lib.hid kx7
      have B7 := Lib.hid b7
      have HP7 := Lib.hid hp7
      clear hk7 kx7 b7 hp7 hk6 kx6 b6 hp6
      rw [← HH.out.2.2.1] at hd
      try simp only at hd
      rw [hDc] at hd
      have hun : ∀ w n x, setCl w n x = _ := fun w n x => by unfold setCl; rfl
      rw [hun] at kcx7
      rcases q3 with q3 | ⟨q3, q4⟩
      all_goals
        go_wp2_with fail
        refine hd.mono ?_
        rintro e w8 ⟨rfl, hb8⟩
        have hk8 := HK7.out.below hb8 HK7.out.lt
        have kx8 := KX7.out.below hb8 KX7.out.lt
        have b8 := B7.out.trans (hb8.mono B7.out.size)
        have hp8 := HP7.out.below HP7.out.lt hb8
        have kxE := (kx8.alloc (.cells #[.int .i64 x.id, .int .i64 D.cents, .int .u8 D.ver] 36)).cells
        have pE0 := hp8.below hp8.lt ((Below.refl w8.heap.size w8).alloc (Nat.le_refl _) (.cells #[.int .i64 x.id, .int .i64 D.cents, .int .u8 D.ver] 36))
        have hlk := pE0.look x.item
        obtain ⟨b', o', hbo, hbb8, hlo⟩ := (HR.out.below (Nat.le_refl _) b8).at HAT.out
        simp only [Option.some.injEq, Addr.mk.injEq, and_true] at hbo
        obtain ⟨rfl, rfl⟩ := hbo
        have hlo0 := hlo 0 _ rfl; have hlo1 := hlo 1 _ rfl; have hlo2 := hlo 2 _ rfl; rw [Nat.add_zero] at hlo0; clear hlo
        rw [hclm] at hlo0
        clear hd
        by_cases hin : x.item ∈ P.1
        · rw [if_pos hin] at hlk
          cases r1 : D.ver != 1 with
          | true =>
            as_aux_lemma =>
              have hO : O = ⟨x.id, 0, 7⟩ := by rw [HH.out.2.2.2]; unfold stepO; rw [← HH.out.2.2.1, r1]; simp [hin]
              subst hO
              obtain ⟨WE, hWE⟩ : ∃ W : World, W = w8.alloc (.cells #[.int .i64 x.id, .int .i64 0, .int .u8 7] 36) := ⟨_, rfl⟩
              have bE : Below w3.heap.size w3 WE := by rw [hWE]; exact b8.alloc (by have := hk8.lt; omega) _
              have pE : PaidR WE w3.heap.size P.1 := by rw [hWE]; exact hp8.below hp8.lt ((Below.refl w8.heap.size w8).alloc (Nat.le_refl _) _)
              have kE := hk8.alloc (.cells #[.int .i64 x.id, .int .i64 0, .int .u8 7] 36)
              have kxs := kx8.alloc (.cells #[.int .i64 x.id, .int .i64 0, .int .u8 7] 36)
              have aE := (Blk.new rfl : Blk (w8.alloc (.cells #[.int .i64 x.id, .int .i64 0, .int .u8 7] 36)) w8.heap.size _ _)
              have lo0 := Lib.cell?_alloc_some (.cells #[.int .i64 x.id, .int .i64 0, .int .u8 7] 36) hlo0
              have lo1 := Lib.cell?_alloc_some (.cells #[.int .i64 x.id, .int .i64 0, .int .u8 7] 36) hlo1
              have lo2 := Lib.cell?_alloc_some (.cells #[.int .i64 x.id, .int .i64 0, .int .u8 7] 36) hlo2
              rw [← hWE] at kE kxs aE lo0 lo1 lo2
              have lb : b < WE.heap.size := World.block_lt_of_cell? WE _ lo1
              replace lo0 := fun p : Ex WE => p.cell lb lo0
              replace lo1 := fun p : Ex WE => p.cell lb lo1
              replace lo2 := fun p : Ex WE => p.cell lb lo2
              have AE := exblk aE
              have KXE := exblk kxs
              simp only at lo0 lo1 lo2
              clear hpos hclm
              go_wp2_with fail
              rw [← hWE]
              have HWE := Lib.hid hWE
              clear hWE
              (refine wp_region_quiet_ex (by kernel_rfl) (by kernel_rfl) ?_; (repeat (go_big_quiet_step ((fail)))); refine wpQuiet_nil ?_; intro wq hw'; obtain ⟨⟨_, hq⟩, hw''⟩ := hw'; subst hw'')
              have kxq := KXE ⟨_, hq⟩
              have aq := AE ⟨_, hq⟩
              simp only at kxq aq
              have pq := pE.below pE.lt hq
              have hlq := pq.look x.item
              have pz : PaidR _ w3.heap.size (if (⟨x.id, 0, 7⟩ : Outc).ver = 6 then x.item :: P.1 else P.1) := pq
              have PZ := Lib.hid pz
              have BE := Lib.hid (bE.trans (hq.mono (by have := pE.lt; omega)))
              have KE := Lib.hid (kE.below hq kE.lt)
              clear pE bE kE pz aE kxs lo0 lo1 lo2 AE KXE pq hq
              go_wp2_with fail
              go_roundg (c.length - (j + 1))
              case measure => omega
              case rel =>
                refine ⟨j + 1, by omega, by omega, by go_num, BE.out, ?_, ?_⟩
                · show PaidR _ _ _
                  rw [HH.out.1]; unfold stepS; rw [← HH.out.2.2.2]; exact PZ.out
                · show Blk _ _ _ _
                  rw [HH.out.2.1]; exact KE.out
          | false =>
            as_aux_lemma =>
              have hO : O = D := by rw [HH.out.2.2.2]; unfold stepO; rw [← HH.out.2.2.1, r1]; simp
              subst hO
              have hv1 : O.ver = 1 := by simpa using r1
              have r6 : (O.ver == 6) = false := by simp; omega
              have HV1 := Lib.hid hv1
              have c0 : decide (0 < O.cents) = false := by
                cases e : decide (0 < O.cents) with
                | false => rfl
                | true => have := hpos.2 (by have := of_decide_eq_true e; omega); omega
              have cN : decide (O.cents < 0) = false := by have := hpos.1; simp; omega
              obtain ⟨WE, hWE⟩ : ∃ W : World, W = w8.alloc (.cells #[.int .i64 x.id, .int .i64 O.cents, .int .u8 O.ver] 36) := ⟨_, rfl⟩
              have bE : Below w3.heap.size w3 WE := by rw [hWE]; exact b8.alloc (by have := hk8.lt; omega) _
              have pE : PaidR WE w3.heap.size P.1 := by rw [hWE]; exact hp8.below hp8.lt ((Below.refl w8.heap.size w8).alloc (Nat.le_refl _) _)
              have kE := hk8.alloc (.cells #[.int .i64 x.id, .int .i64 O.cents, .int .u8 O.ver] 36)
              have kxs := kx8.alloc (.cells #[.int .i64 x.id, .int .i64 O.cents, .int .u8 O.ver] 36)
              have aE := (Blk.new rfl : Blk (w8.alloc (.cells #[.int .i64 x.id, .int .i64 O.cents, .int .u8 O.ver] 36)) w8.heap.size _ _)
              have lo0 := Lib.cell?_alloc_some (.cells #[.int .i64 x.id, .int .i64 O.cents, .int .u8 O.ver] 36) hlo0
              have lo1 := Lib.cell?_alloc_some (.cells #[.int .i64 x.id, .int .i64 O.cents, .int .u8 O.ver] 36) hlo1
              have lo2 := Lib.cell?_alloc_some (.cells #[.int .i64 x.id, .int .i64 O.cents, .int .u8 O.ver] 36) hlo2
              rw [← hWE] at kE kxs aE lo0 lo1 lo2
              have lb : b < WE.heap.size := World.block_lt_of_cell? WE _ lo1
              replace lo0 := fun p : Ex WE => p.cell lb lo0
              replace lo1 := fun p : Ex WE => p.cell lb lo1
              replace lo2 := fun p : Ex WE => p.cell lb lo2
              have AE := exblk aE
              have KXE := exblk kxs
              clear hpos hclm hDc hv1
              go_wp2_with fail
              rw [← hWE]
              have HWE := Lib.hid hWE
              clear hWE
              (refine wp_region_quiet_ex (by kernel_rfl) (by kernel_rfl) ?_; (repeat (go_big_quiet_step ((fail)))); refine wpQuiet_nil ?_; intro wq hw'; obtain ⟨⟨_, hq⟩, hw''⟩ := hw'; subst hw'')
              have kxq := KXE ⟨_, hq⟩
              have aq := AE ⟨_, hq⟩
              simp only at kxq aq
              have pq := pE.below pE.lt hq
              have hlq := pq.look x.item
              have eP : (if O.ver = 6 then x.item :: P.1 else P.1) = P.1 := if_neg (by have := HV1.out; omega)
              have pz := pq
              rw [← eP] at pz
              clear eP
              have PZ := Lib.hid pz
              have BE := Lib.hid (bE.trans (hq.mono (by have := pE.lt; omega)))
              have KE := Lib.hid (kE.below hq kE.lt)
              clear pE bE kE pz aE kxs lo0 lo1 lo2 AE KXE pq hq
              go_wp2_with fail
              go_roundg (c.length - (j + 1))
              case measure => omega
              case rel =>
                refine ⟨j + 1, by omega, by omega, by go_num, BE.out, ?_, ?_⟩
                · show PaidR _ _ _
                  rw [HH.out.1]; unfold stepS; rw [← HH.out.2.2.2]; exact PZ.out
                · show Blk _ _ _ _
                  rw [HH.out.2.1]; exact KE.out
        · rw [if_neg hin] at hlk
          cases r6 : D.ver == 6 with
          | true =>
            have r1 : (D.ver != 1) = true := by simp at r6 ⊢; omega
            as_aux_lemma =>
              have hO : O = D := by rw [HH.out.2.2.2]; unfold stepO; rw [← HH.out.2.2.1]; simp [hin]
              subst hO
              have hv6 : O.ver = 6 := by simpa using r6
              have r6' : (O.ver != 6) = false := by simp [hv6]
              have HV6 := Lib.hid hv6
              have cN : decide (O.cents < 0) = false := by have := hpos.1; simp; omega
              rcases bcases (decide (0 < O.cents)) with c0 | c0
              all_goals
                obtain ⟨WE, hWE⟩ : ∃ W : World, W = w8.alloc (.cells #[.int .i64 x.id, .int .i64 O.cents, .int .u8 O.ver] 36) := ⟨_, rfl⟩
                have bE : Below w3.heap.size w3 WE := by rw [hWE]; exact b8.alloc (by have := hk8.lt; omega) _
                have pE : PaidR WE w3.heap.size P.1 := by rw [hWE]; exact hp8.below hp8.lt ((Below.refl w8.heap.size w8).alloc (Nat.le_refl _) _)
                have kE := hk8.alloc (.cells #[.int .i64 x.id, .int .i64 O.cents, .int .u8 O.ver] 36)
                have kxs := kx8.alloc (.cells #[.int .i64 x.id, .int .i64 O.cents, .int .u8 O.ver] 36)
                have aE := (Blk.new rfl : Blk (w8.alloc (.cells #[.int .i64 x.id, .int .i64 O.cents, .int .u8 O.ver] 36)) w8.heap.size _ _)
                have lo0 := Lib.cell?_alloc_some (.cells #[.int .i64 x.id, .int .i64 O.cents, .int .u8 O.ver] 36) hlo0
                have lo1 := Lib.cell?_alloc_some (.cells #[.int .i64 x.id, .int .i64 O.cents, .int .u8 O.ver] 36) hlo1
                have lo2 := Lib.cell?_alloc_some (.cells #[.int .i64 x.id, .int .i64 O.cents, .int .u8 O.ver] 36) hlo2
                rw [← hWE] at kE kxs aE lo0 lo1 lo2
                have lb : b < WE.heap.size := World.block_lt_of_cell? WE _ lo1
                replace lo0 := fun p : Ex WE => p.cell lb lo0
                replace lo1 := fun p : Ex WE => p.cell lb lo1
                replace lo2 := fun p : Ex WE => p.cell lb lo2
                have AE := exblk aE
                have KXE := exblk kxs
                clear hpos hclm hDc hv6
                go_wp2_with fail
                rw [← hWE]
                have HWE := Lib.hid hWE
                clear hWE
                (refine wp_region_quiet_ex (by kernel_rfl) (by kernel_rfl) ?_; (repeat (go_big_quiet_step ((fail)))); refine wpQuiet_nil ?_; intro wq hw'; obtain ⟨⟨_, hq⟩, hw''⟩ := hw'; subst hw'')
                have kxq := KXE ⟨_, hq⟩
                have aq := AE ⟨_, hq⟩
                simp only at kxq aq
                have pq := pE.below pE.lt hq
                have hlq := pq.look x.item
                obtain ⟨w9, hrun, hp9, hg9⟩ := pq.put x.item
                have eP : (if O.ver = 6 then x.item :: P.1 else P.1) = x.item :: P.1 := if_pos HV6.out
                have pz := hp9
                rw [← eP] at pz
                clear eP
                have PZ := Lib.hid pz
                have kq := kE.below hq kE.lt
                have BE := Lib.hid ((bE.trans (hq.mono (by have := pE.lt; omega))).grown hg9 (by have := pq.lt; omega) (fun k hk => by simp at hk; omega))
                have KE := Lib.hid ((hg9.block _ kq.lt (by simp)).trans kq)
                rw [if_neg hin] at hlq
                clear pE bE kE pz aE kxs lo0 lo1 lo2 AE KXE pq hq hp9 hg9 kq
                go_wp2_with fail
                go_roundg (c.length - (j + 1))
                case measure => omega
                case rel =>
                  refine ⟨j + 1, by omega, by omega, by go_num, BE.out, ?_, ?_⟩
                  · show PaidR _ _ _
                    rw [HH.out.1]; unfold stepS; rw [← HH.out.2.2.2]; exact PZ.out
                  · show Blk _ _ _ _
                    rw [HH.out.2.1]; exact KE.out
          | false =>
            cases r1 : D.ver != 1 with
            | true =>
              as_aux_lemma =>
                have hO : O = D := by rw [HH.out.2.2.2]; unfold stepO; rw [← HH.out.2.2.1]; simp [hin]
                subst hO
                have c0 : decide (0 < O.cents) = false := by
                  cases e : decide (0 < O.cents) with
                  | false => rfl
                  | true => have := hpos.2 (by have := of_decide_eq_true e; omega); simp at r6; omega
                have cN : decide (O.cents < 0) = false := by have := hpos.1; simp; omega
                obtain ⟨WE, hWE⟩ : ∃ W : World, W = w8.alloc (.cells #[.int .i64 x.id, .int .i64 O.cents, .int .u8 O.ver] 36) := ⟨_, rfl⟩
                have bE : Below w3.heap.size w3 WE := by rw [hWE]; exact b8.alloc (by have := hk8.lt; omega) _
                have pE : PaidR WE w3.heap.size P.1 := by rw [hWE]; exact hp8.below hp8.lt ((Below.refl w8.heap.size w8).alloc (Nat.le_refl _) _)
                have kE := hk8.alloc (.cells #[.int .i64 x.id, .int .i64 O.cents, .int .u8 O.ver] 36)
                have kxs := kx8.alloc (.cells #[.int .i64 x.id, .int .i64 O.cents, .int .u8 O.ver] 36)
                have aE := (Blk.new rfl : Blk (w8.alloc (.cells #[.int .i64 x.id, .int .i64 O.cents, .int .u8 O.ver] 36)) w8.heap.size _ _)
                have lo0 := Lib.cell?_alloc_some (.cells #[.int .i64 x.id, .int .i64 O.cents, .int .u8 O.ver] 36) hlo0
                have lo1 := Lib.cell?_alloc_some (.cells #[.int .i64 x.id, .int .i64 O.cents, .int .u8 O.ver] 36) hlo1
                have lo2 := Lib.cell?_alloc_some (.cells #[.int .i64 x.id, .int .i64 O.cents, .int .u8 O.ver] 36) hlo2
                rw [← hWE] at kE kxs aE lo0 lo1 lo2
                have lb : b < WE.heap.size := World.block_lt_of_cell? WE _ lo1
                replace lo0 := fun p : Ex WE => p.cell lb lo0
                replace lo1 := fun p : Ex WE => p.cell lb lo1
                replace lo2 := fun p : Ex WE => p.cell lb lo2
                have AE := exblk aE
                have KXE := exblk kxs
                clear hpos hclm hDc
                go_wp2_with fail
                rw [← hWE]
                have HWE := Lib.hid hWE
                clear hWE
                (refine wp_region_quiet_ex (by kernel_rfl) (by kernel_rfl) ?_; (repeat (go_big_quiet_step ((fail)))); refine wpQuiet_nil ?_; intro wq hw'; obtain ⟨⟨_, hq⟩, hw''⟩ := hw'; subst hw'')
                have kxq := KXE ⟨_, hq⟩
                have aq := AE ⟨_, hq⟩
                simp only at kxq aq
                have pq := pE.below pE.lt hq
                have hlq := pq.look x.item
                have eP : (if O.ver = 6 then x.item :: P.1 else P.1) = P.1 := if_neg (by simpa using r6)
                have pz := pq
                rw [← eP] at pz
                clear eP
                have PZ := Lib.hid pz
                have BE := Lib.hid (bE.trans (hq.mono (by have := pE.lt; omega)))
                have KE := Lib.hid (kE.below hq kE.lt)
                clear pE bE kE pz aE kxs lo0 lo1 lo2 AE KXE pq hq
                go_wp2_with fail
                go_roundg (c.length - (j + 1))
                case measure => omega
                case rel =>
                  refine ⟨j + 1, by omega, by omega, by go_num, BE.out, ?_, ?_⟩
                  · show PaidR _ _ _
                    rw [HH.out.1]; unfold stepS; rw [← HH.out.2.2.2]; exact PZ.out
                  · show Blk _ _ _ _
                    rw [HH.out.2.1]; exact KE.out
            | false =>
              as_aux_lemma =>
                have hO : O = D := by rw [HH.out.2.2.2]; unfold stepO; rw [← HH.out.2.2.1]; simp [hin]
                subst hO
                have c0 : decide (0 < O.cents) = false := by
                  cases e : decide (0 < O.cents) with
                  | false => rfl
                  | true => have := hpos.2 (by have := of_decide_eq_true e; omega); simp at r6; omega
                have cN : decide (O.cents < 0) = false := by have := hpos.1; simp; omega
                obtain ⟨WE, hWE⟩ : ∃ W : World, W = w8.alloc (.cells #[.int .i64 x.id, .int .i64 O.cents, .int .u8 O.ver] 36) := ⟨_, rfl⟩
                have bE : Below w3.heap.size w3 WE := by rw [hWE]; exact b8.alloc (by have := hk8.lt; omega) _
                have pE : PaidR WE w3.heap.size P.1 := by rw [hWE]; exact hp8.below hp8.lt ((Below.refl w8.heap.size w8).alloc (Nat.le_refl _) _)
                have kE := hk8.alloc (.cells #[.int .i64 x.id, .int .i64 O.cents, .int .u8 O.ver] 36)
                have kxs := kx8.alloc (.cells #[.int .i64 x.id, .int .i64 O.cents, .int .u8 O.ver] 36)
                have aE := (Blk.new rfl : Blk (w8.alloc (.cells #[.int .i64 x.id, .int .i64 O.cents, .int .u8 O.ver] 36)) w8.heap.size _ _)
                have lo0 := Lib.cell?_alloc_some (.cells #[.int .i64 x.id, .int .i64 O.cents, .int .u8 O.ver] 36) hlo0
                have lo1 := Lib.cell?_alloc_some (.cells #[.int .i64 x.id, .int .i64 O.cents, .int .u8 O.ver] 36) hlo1
                have lo2 := Lib.cell?_alloc_some (.cells #[.int .i64 x.id, .int .i64 O.cents, .int .u8 O.ver] 36) hlo2
                rw [← hWE] at kE kxs aE lo0 lo1 lo2
                have lb : b < WE.heap.size := World.block_lt_of_cell? WE _ lo1
                replace lo0 := fun p : Ex WE => p.cell lb lo0
                replace lo1 := fun p : Ex WE => p.cell lb lo1
                replace lo2 := fun p : Ex WE => p.cell lb lo2
                have AE := exblk aE
                have KXE := exblk kxs
                clear hpos hclm hDc
                go_wp2_with fail
                rw [← hWE]
                have HWE := Lib.hid hWE
                clear hWE
                (refine wp_region_quiet_ex (by kernel_rfl) (by kernel_rfl) ?_; (repeat (go_big_quiet_step ((fail)))); refine wpQuiet_nil ?_; intro wq hw'; obtain ⟨⟨_, hq⟩, hw''⟩ := hw'; subst hw'')
                have kxq := KXE ⟨_, hq⟩
                have aq := AE ⟨_, hq⟩
                simp only at kxq aq
                have pq := pE.below pE.lt hq
                have hlq := pq.look x.item
                have eP : (if O.ver = 6 then x.item :: P.1 else P.1) = P.1 := if_neg (by simpa using r6)
                have pz := pq
                rw [← eP] at pz
                clear eP
                have PZ := Lib.hid pz
                have BE := Lib.hid (bE.trans (hq.mono (by have := pE.lt; omega)))
                have KE := Lib.hid (kE.below hq kE.lt)
                clear pE bE kE pz aE kxs lo0 lo1 lo2 AE KXE pq hq
                go_wp2_with fail
                go_roundg (c.length - (j + 1))
                case measure => omega
                case rel =>
                  refine ⟨j + 1, by omega, by omega, by go_num, BE.out, ?_, ?_⟩
                  · show PaidR _ _ _
                    rw [HH.out.1]; unfold stepS; rw [← HH.out.2.2.2]; exact PZ.out
                  · show Blk _ _ _ _
                    rw [HH.out.2.1]; exact KE.out
    · have hjc : j = c.length := by omega
      subst hjc
      have hgf : ¬ (c.length : Int) < (c.length : Int) := by omega
      have bfin := BH.out.trans (hw.out.mono BH.out.size)
      go_wp2_with fail
      go_ret
      exact ⟨rfl, bfin⟩
end
end Go.Proofs.YtnnppnlekpadnaaGreat
