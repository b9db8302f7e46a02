/- The contract of claim.Settle. -/
import Derived.Test.YtnnppnlekpadnaaGreatSet
namespace Go.Proofs.YtnnppnlekpadnaaGreat
open Go.RowKit Go.Proofs
set_option maxRecDepth 100000

theorem own_below {w w' : World} {base : Nat} {e : TypeId} {k n : Nat} {v : Value} {xs : List Value} (h : w.ownsRow base e k v n xs) (hb : Below w.heap.size w w') : w'.ownsRow base e k v n xs := by
  obtain ⟨h1, h2⟩ := h
  refine ⟨h1, h2.imp id ?_⟩
  rintro ⟨g, cap, cur, hv, hg, hh, r⟩
  exact ⟨g, cap, cur, hv, hg, (hb.block g (Array.getElem?_eq_some_iff.1 hh).1).trans hh, r⟩

theorem own_rd2 {α : Type} {enc : α → List Value} {k : Nat} (hk : ∀ x, (enc x).length = k) {w : World} {base : Nat} {e : TypeId} {v : Value} {xs : List α} (h : w.ownsRow base e k v xs.length (xs.flatMap enc)) :
    ∃ A c, v = .slice A xs.length c ∧ Rd enc k w A xs ∧ xs.length ≤ c := by
  obtain ⟨A, c, hv, hr⟩ := own_rd hk h
  refine ⟨A, c, hv, hr, ?_⟩
  rcases h.2 with ⟨h1, h2⟩ | ⟨g, cap, cur, h1, _, _, h2, _⟩
  · rw [hv] at h1; simp at h1; omega
  · rw [hv] at h1; simp at h1; omega

theorem own_ge {w : World} {base k n g : Nat} {e : TypeId} {v : Value} {xs : List Value} (h : w.ownsRow base e k v n xs) (hg : v.ownBlock = some g) : base ≤ g := by
  rcases h.2 with ⟨rfl, _⟩ | ⟨g', cap, cur, rfl, hb, _⟩
  · simp [Value.ownBlock] at hg
  · simp [Value.ownBlock] at hg; omega
theorem own_ne {w : World} {M k n : Nat} {e : TypeId} {v : Value} {xs : List Value} (h : w.ownsRow (M + 1) e k v n xs) : v.ownBlock = none ∨ v.ownBlock ≠ some M := by
  rcases h.2 with ⟨rfl, _⟩ | ⟨g', cap, cur, rfl, hb, _⟩
  · exact .inl rfl
  · exact .inr (by simp [Value.ownBlock]; omega)
theorem addp (b o n : Nat) : (⟨b, o, none⟩ : Addr).add n = ⟨b, o + n, none⟩ := by
  unfold Addr.add
  split
  · rename_i h; simp_all
  · rfl

theorem zero_int (w : World) : Sem.run Tryz.prog (zeroValue 3) w = .ok (.int .i64 0) w := by rfl
theorem infOut : (Tryz.prog.info? 36).map (fun i => (i.zero, i.size, i.bytes)) = some (some (.agg #[.int .i64 0, .int .i64 0, .int .u8 0]), 3, 24) := by kernel_rfl

/-- What the map of the paid items holds. -/
def PaidR (w : World) (M : Nat) (paid : List Int) : Prop := ∃ lm : List (Int × Int), MapR (Value.int .i64) (Value.int .i64) w M lm ∧ ∀ k, getL lm k = if k ∈ paid then some 1 else none
theorem PaidR.look {w : World} {M : Nat} {paid : List Int} (h : PaidR w M paid) (k : Int) : Sem.run Tryz.prog (Instr.lookup 61 (.map (some M)) (.int .i64 k) false) w = .ok (.int .i64 (if k ∈ paid then 1 else 0)) w := by
  obtain ⟨lm, hm, hg⟩ := h
  have := hm.look (P := Tryz.prog) (keyLaw_int Tryz.underlying3) Tryz.underlying61 (z := .int .i64 0) zero_int k false
  rw [this, hg]
  by_cases h : k ∈ paid <;> simp [h]
theorem PaidR.put {w : World} {M : Nat} {paid : List Int} (h : PaidR w M paid) (k : Int) : ∃ w', Sem.run Tryz.prog (Instr.mapUpdate 61 (.map (some M)) (.int .i64 k) (.int .i64 1)) w = .ok () w' ∧ PaidR w' M (k :: paid) ∧ w.grownBy w' (some M) := by
  obtain ⟨lm, hm, hg⟩ := h
  obtain ⟨w', h1, h2, h3⟩ := hm.put (P := Tryz.prog) (keyLaw_int Tryz.underlying3) Tryz.underlying61 k 1
  refine ⟨w', h1, ⟨_, h2, fun k' => ?_⟩, h3⟩
  rw [getL_put, hg]
  by_cases e : k' = k
  · subst e; simp
  · simp [e]
theorem PaidR.below {w w' : World} {M n : Nat} {paid : List Int} (h : PaidR w M paid) (hn : M < n) (hb : Below n w w') : PaidR w' M paid := by
  obtain ⟨lm, hm, hg⟩ := h
  exact ⟨lm, hm.below hn hb, hg⟩
theorem PaidR.lt {w : World} {M : Nat} {paid : List Int} (h : PaidR w M paid) : M < w.heap.size := by
  obtain ⟨lm, hm, hg⟩ := h
  exact hm.lt

section
variable (Al At As Ac : Option Addr) (ca cb cc cd : Nat) (l : List Std) (t : List Terms) (s : List Sent) (c : List Clm) (w : World)
variable (hl : Rd encStd 4 w Al l) (ht : Rd encTerms 7 w At t) (hs : Rd encSent 6 w As s) (hc : Rd encClm 6 w Ac c) (nl : l.length ≤ 1000000) (nt : t.length ≤ 1000000) (ns : s.length ≤ 1000000) (nc : c.length ≤ 1000000)
include hl ht hs hc nl nt ns nc in
theorem settle_err (h : chkP l t s c ≠ 0) : Calls Tryz.prog 25 #[.slice Al l.length ca, .slice At t.length cb, .slice As s.length cc, .slice Ac c.length cd] w fun e w' => e = .returned (.tuple #[.slice none 0 0, .int .i64 (chkP l t s c)]) ∧ Below w.heap.size w w' := by
  have h1 := check_any Al At As Ac ca cb cc cd l t s c w hl ht hs hc nl nt ns nc rfl
  have e1 : (chkP l t s c != 0) = true := by simpa using h
  have e2 : (chkP l t s c == 0) = false := by simpa using h
  clear hl ht hs hc h
  generalize chkP l t s c = r at *
  generalize l.length = n1 at *
  generalize t.length = n2 at *
  generalize s.length = n3 at *
  generalize c.length = n4 at *
  go_enter Tryz.func25, Tryz.ntmps25
  go_wp2_with fail
  refine h1.mono ?_
  rintro e w1 ⟨rfl, hb⟩
  go_wp2_with fail
  go_ret2
  exact ⟨rfl, hb⟩

include hl ht hs hc nl nt ns nc in
set_option maxHeartbeats 4000000 in
theorem settle_cap (h : chkP l t s c = 0) : Calls Tryz.prog 25 #[.slice Al l.length ca, .slice At t.length cb, .slice As s.length cc, .slice Ac c.length cd] w fun e w' => ∃ (d : List Clm) (A : Option Addr) (cap : Nat), d.Perm c ∧ d.Pairwise (fun x y => ¬ ltSet y x) ∧ e = .returned (.tuple #[.slice A c.length cap, .int .i64 0]) ∧ Rd encOutc 3 w' A (setF l t s d).2 ∧ Below w.heap.size w w' ∧ c.length ≤ cap := by
  obtain ⟨z1, z2, z3, z4⟩ := chkP_zero h
  have okd : ∀ x ∈ c, okClm x = true := by
    unfold rightClm at z4; simp at z4
    intro x hx
    exact z4.2.1 x hx
  have h1 := check_any Al At As Ac ca cb cc cd l t s c w hl ht hs hc nl nt ns nc rfl
  rw [h] at h1
  have HL := Lib.hid hl
  have HT := Lib.hid ht
  have HS := Lib.hid hs
  have HC := Lib.hid hc
  have HZ := Lib.hid (And.intro z2 (And.intro z3 okd))
  clear hl ht hs hc h z1 z2 z3 z4 okd
  go_enter Tryz.func25, Tryz.ntmps25
  go_wp2_with fail
  refine h1.mono ?_
  rintro e w1 ⟨rfl, hb1⟩
  clear h1
  have hcon := cloneClm Ac cd c w1 (HC.out.below (Nat.le_refl _) hb1) nc
  go_wp2_with fail
  refine hcon.mono ?_
  rintro e w2 ⟨v', rfl, hown, hb2⟩
  have hcon2 := sortSet c w2 hown nc
  have HO := Lib.hid hown
  clear hown hcon
  have b2 := hb1.trans (hb2.mono hb1.size)
  go_wp2_with fail
  refine hcon2.mono ?_
  rintro e w3 ⟨rfl, d, A2, c2, rfl, hp, hsd, hr2, hb3⟩
  have b3 := b2.trans (hb3.mono hb1.size)
  clear hcon2 HO hb1 hb2 hb3 b2
  have HP := Lib.hid (And.intro hp hsd)
  have hdl : d.length = c.length := hp.length_eq
  rw [← hdl]
  clear hp hsd
  have mk : ∀ W : World, Sem.run Tryz.prog (Instr.makeMap 61 none) W = .ok (.map (some W.heap.size)) (W.alloc (.map #[] 0)) := fun W => run_makeMap _ W
  go_wp2_with fail
  obtain ⟨W4, hW4⟩ : ∃ W : World, W = w3.alloc (.map #[] 0) := ⟨_, rfl⟩
  rw [← hW4]
  have m4 : PaidR W4 w3.heap.size [] := by rw [hW4]; exact ⟨[], MapR.made _ _ rfl, fun k => by simp [getL]⟩
  have hb4 : Below w3.heap.size w3 W4 := by rw [hW4]; exact (Below.refl _ _).alloc (Nat.le_refl _) _
  have hM := m4.lt
  have HW4 := Lib.hid hW4
  obtain ⟨i0, hi, hz0, hz1, hz2⟩ := info_parts2 infOut
  generalize hMd : w3.heap.size = M at *
  clear hW4 mk
  have B3 := Lib.hid b3
  have R2 := Lib.hid hr2
  clear b3 hr2
  go_loopg [13, 32] c.length (fun gg s13 s32 wr => ∃ j : Nat, j ≤ c.length ∧ c.length - j ≤ gg ∧ s32 = .int .i64 j ∧ Aside (Below M w3 wr) ∧ Aside (PaidR wr M (setF l t s (d.take j)).1) ∧ Aside (wr.ownsRow (M + 1) 36 3 s13 j ((setF l t s (d.take j)).2.flatMap encOutc)))
  case atStart => exact ⟨0, Nat.zero_le _, by omega, rfl, hb4, m4, ⟨by simp [setF], Or.inl ⟨rfl, rfl⟩⟩⟩
  case round =>
    obtain ⟨j, hj, hg, rfl, hw, hp, ho⟩ := hrel
    by_cases hlt : j < c.length
    · have hx : d[j]? = some d[j] := List.getElem?_eq_getElem (by omega)
      have hxm : d[j]'(by omega) ∈ c := HP.out.1.mem_iff.1 (List.getElem_mem _)
      have hst := setF_step (l := l) (t := t) (s := s) hx
      obtain ⟨b, o, rfl, hb, hl⟩ := (R2.out.below (by omega) hw.out).at hx
      generalize d[j]'(by omega) = x at hx hxm hst hl
      obtain ⟨P, hP⟩ : ∃ P, P = setF l t s (d.take j) := ⟨_, rfl⟩
      rw [← hP] at hst hp ho
      have hokx := HZ.out.2.2 x hxm
      have hl0 := hl 0 _ rfl; have hl1 := hl 1 _ rfl; have hl2 := hl 2 _ rfl; have hl3 := hl 3 _ rfl; have hl4 := hl 4 _ rfl; have hl5 := hl 5 _ rfl; rw [Nat.add_zero] at hl0; clear hl
      have HH := Lib.hid (And.intro hP (And.intro hst (And.intro hx hxm)))
      clear hP hst hx hxm
      obtain ⟨W5, hW5⟩ : ∃ W : World, W = wr.alloc (.cells #[.int .i64 x.id, .int .i64 x.item, .int .i64 x.at_, .int .u8 x.kind, .int .i64 x.post, .int .i64 x.val] 31) := ⟨_, rfl⟩
      have k5 : Blk W5 wr.heap.size #[.int .i64 x.id, .int .i64 x.item, .int .i64 x.at_, .int .u8 x.kind, .int .i64 x.post, .int .i64 x.val] 31 := by rw [hW5]; exact Blk.new rfl
      have b5 : Below wr.heap.size wr W5 := by rw [hW5]; exact (Below.refl _ _).alloc (Nat.le_refl _) _
      have bw5 := B3.out.trans ((hw.out.trans (b5.mono (by have := hw.out.size; omega))).mono (by have := B3.out.size; omega))
      have hd := decide_any Al At As ca cb cc l t s x W5 (HL.out.below (Nat.le_refl _) bw5) (HT.out.below (Nat.le_refl _) bw5) (HS.out.below (Nat.le_refl _) bw5) nl nt ns HZ.out.1 HZ.out.2.1 hokx
      obtain ⟨D, hD⟩ : ∃ D, D = decP l t s x := ⟨_, rfl⟩
      rw [← hD] at hd
      have HD := Lib.hid hD
      clear hD bw5 hokx
      go_wp2_with fail
      rw [← hW5]
      clear hW5 hl0 hl1 hl2 hl3 hl4 hl5
      refine hd.mono ?_
      rintro e w6 ⟨rfl, hb6⟩
      have hq := b5.trans (hb6.mono b5.size)
      have ho6 := own_below ho.out hq
      have hp6 := hp.out.below hp.out.lt hq
      have bw6 := hw.out.trans (hq.mono (by have := hw.out.size; omega))
      replace k5 := k5.below hb6 k5.lt
      clear ho hp hd b5 hb6
      -- the outcome's own block
      have k5a := k5.alloc (.cells #[.int .i64 D.clm, .int .i64 D.cents, .int .u8 D.ver] 36)
      have hp7 := hp6.below hp6.lt ((Below.refl w6.heap.size w6).alloc (Nat.le_refl _) (.cells #[.int .i64 D.clm, .int .i64 D.cents, .int .u8 D.ver] 36))
      have hlk := hp7.look x.item
      have kc := k5a.cells
      have hbd : 0 ≤ (if x.item ∈ P.1 then (1 : Int) else 0) := by split <;> omega
      by_cases hin : x.item ∈ P.1
      · rw [if_pos hin] at hlk
        cases r1 : D.ver != 1 with
        | true =>
          have own7 := own_below ho6 ((Below.refl w6.heap.size w6).alloc (Nat.le_refl _) (.cells #[.int .i64 x.id, .int .i64 0, .int .u8 7] 36))
          have p7 := hp6.below hp6.lt ((Below.refl w6.heap.size w6).alloc (Nat.le_refl _) (.cells #[.int .i64 x.id, .int .i64 0, .int .u8 7] 36))
          have b7 := bw6.alloc (by have := hp6.lt; omega) (.cells #[.int .i64 x.id, .int .i64 0, .int .u8 7] 36)
          have hso : stepO l t s P.1 x = ⟨x.id, 0, 7⟩ := by unfold stepO; rw [← HD.out, r1]; simp [hin]
          have hpd : (if (stepO l t s P.1 x).ver = 6 then x.item :: P.1 else P.1) = P.1 := by rw [hso]; rfl
          go_wp2_with (at_builtin; refine wpList_append_own _ rfl _ _ 55 rfl (M + 1) 36 i0 (.agg #[.int .i64 0, .int .i64 0, .int .u8 0]) 3 24 Tryz.underlying55 hi hz0 hz1 hz2 rfl (by decide) _ j (P.2.flatMap encOutc) rfl ?qo ⟨_, 0, none⟩ 1 1 (encOutc (⟨x.id, 0, 7⟩ : Outc)) rfl ?q1 ?q2 ?q3 ?q4 ?q5 ?q6 ?_)
          case qo => exact own_below own7 ((Below.refl _ _).alloc (Nat.le_refl _) _)
          case q1 => rfl
          case q2 =>
            intro k u hu
            rw [addp]
            refine Eq.trans (Blk.cells (Blk.new (by first | (simp; done) | (simp; omega) | omega)) _) ?_
            simpa [encOutc] using hu
          case q3 =>
            intro u hu
            simp [encOutc] at hu
            rcases hu with rfl | rfl | rfl <;> rfl
          case q4 => unfold maxLen; omega
          case q5 => omega
          case q6 => exact Nat.le_trans (Nat.succ_le_of_lt p7.lt) ((Below.refl 0 _).alloc (Nat.zero_le _) _).size
          intro v' w9 hown hgrow hnil
          have bg := ((Below.refl (M + 1) _).alloc (Nat.succ_le_of_lt p7.lt) _).grown hgrow (Nat.le_trans (Nat.succ_le_of_lt p7.lt) ((Below.refl 0 _).alloc (Nat.zero_le _) _).size) (fun k hk => own_ge own7 hk)
          have pz := p7.below (Nat.lt_succ_self M) bg
          have bz := b7.trans (bg.mono (Nat.le_succ M))
          have own9 : w9.ownsRow (M + 1) 36 3 v' (j + 1) ((P.2 ++ [(⟨x.id, 0, 7⟩ : Outc)]).flatMap encOutc) := by simpa using hown
          rw [← hpd] at pz
          rw [← hso] at own9
          have OWN := Lib.hid own9
          have PZ := Lib.hid pz
          have BZ := Lib.hid bz
          clear hown own9 hgrow hnil pz bz bg own7 p7 b7 hpd hso
          go_wp2_with fail
          go_roundg (c.length - (j + 1))
          case measure => omega
          case rel =>
            refine ⟨j + 1, by omega, by omega, by go_num, BZ.out, ?_, ?_⟩
            · show PaidR _ _ _
              rw [HH.out.2.1]; unfold stepS; exact PZ.out
            · show World.ownsRow _ _ _ _ _ _ _
              rw [HH.out.2.1]; unfold stepS; exact OWN.out
        | false =>
          have own7 := own_below ho6 ((Below.refl w6.heap.size w6).alloc (Nat.le_refl _) (.cells #[.int .i64 D.clm, .int .i64 D.cents, .int .u8 D.ver] 36))
          have p7 := hp6.below hp6.lt ((Below.refl w6.heap.size w6).alloc (Nat.le_refl _) (.cells #[.int .i64 D.clm, .int .i64 D.cents, .int .u8 D.ver] 36))
          have b7 := bw6.alloc (by have := hp6.lt; omega) (.cells #[.int .i64 D.clm, .int .i64 D.cents, .int .u8 D.ver] 36)
          have hv1 : D.ver = 1 := by simpa using r1
          have hso : stepO l t s P.1 x = D := by unfold stepO; rw [← HD.out, r1]; simp
          have hpd : (if (stepO l t s P.1 x).ver = 6 then x.item :: P.1 else P.1) = P.1 := by rw [hso, if_neg (by omega)]
          have r6 : (D.ver == 6) = false := by simp; omega
          clear hv1
          go_wp2_with (at_builtin; refine wpList_append_own _ rfl _ _ 55 rfl (M + 1) 36 i0 (.agg #[.int .i64 0, .int .i64 0, .int .u8 0]) 3 24 Tryz.underlying55 hi hz0 hz1 hz2 rfl (by decide) _ j (P.2.flatMap encOutc) rfl ?qo ⟨_, 0, none⟩ 1 1 (encOutc D) rfl ?q1 ?q2 ?q3 ?q4 ?q5 ?q6 ?_)
          case qo => exact own_below own7 ((Below.refl _ _).alloc (Nat.le_refl _) _)
          case q1 => rfl
          case q2 =>
            intro k u hu
            rw [addp]
            refine Eq.trans (Blk.cells (Blk.new (by first | (simp; done) | (simp; omega) | omega)) _) ?_
            simpa [encOutc] using hu
          case q3 =>
            intro u hu
            simp [encOutc] at hu
            rcases hu with rfl | rfl | rfl <;> rfl
          case q4 => unfold maxLen; omega
          case q5 => omega
          case q6 => exact Nat.le_trans (Nat.succ_le_of_lt p7.lt) ((Below.refl 0 _).alloc (Nat.zero_le _) _).size
          intro v' w9 hown hgrow hnil
          have bg := ((Below.refl (M + 1) _).alloc (Nat.succ_le_of_lt p7.lt) _).grown hgrow (Nat.le_trans (Nat.succ_le_of_lt p7.lt) ((Below.refl 0 _).alloc (Nat.zero_le _) _).size) (fun k hk => own_ge own7 hk)
          have pz := p7.below (Nat.lt_succ_self M) bg
          have bz := b7.trans (bg.mono (Nat.le_succ M))
          have own9 : w9.ownsRow (M + 1) 36 3 v' (j + 1) ((P.2 ++ [D]).flatMap encOutc) := by simpa using hown
          rw [← hpd] at pz
          rw [← hso] at own9
          have OWN := Lib.hid own9
          have PZ := Lib.hid pz
          have BZ := Lib.hid bz
          clear hown own9 hgrow hnil pz bz bg own7 p7 b7 hpd hso
          go_wp2_with fail
          go_roundg (c.length - (j + 1))
          case measure => omega
          case rel =>
            refine ⟨j + 1, by omega, by omega, by go_num, BZ.out, ?_, ?_⟩
            · show PaidR _ _ _
              rw [HH.out.2.1]; unfold stepS; exact PZ.out
            · show World.ownsRow _ _ _ _ _ _ _
              rw [HH.out.2.1]; unfold stepS; exact OWN.out
      · rw [if_neg hin] at hlk
        cases r6 : D.ver == 6 with
        | true =>
          have r1 : (D.ver != 1) = true := by simp at r6 ⊢; omega
          have own7 := own_below ho6 ((Below.refl w6.heap.size w6).alloc (Nat.le_refl _) (.cells #[.int .i64 D.clm, .int .i64 D.cents, .int .u8 D.ver] 36))
          have p7 := hp6.below hp6.lt ((Below.refl w6.heap.size w6).alloc (Nat.le_refl _) (.cells #[.int .i64 D.clm, .int .i64 D.cents, .int .u8 D.ver] 36))
          have b7 := bw6.alloc (by have := hp6.lt; omega) (.cells #[.int .i64 D.clm, .int .i64 D.cents, .int .u8 D.ver] 36)
          have hv6 : D.ver = 6 := by simpa using r6
          have hso : stepO l t s P.1 x = D := by unfold stepO; rw [← HD.out]; simp [hin]
          have hpd : (if (stepO l t s P.1 x).ver = 6 then x.item :: P.1 else P.1) = x.item :: P.1 := by rw [hso, if_pos hv6]
          clear hv6
          obtain ⟨w8, hrun, hp8, hg8⟩ := p7.put x.item
          have kO : Blk w8 w6.heap.size #[.int .i64 D.clm, .int .i64 D.cents, .int .u8 D.ver] 36 := (hg8.block _ (by simp) (by have := hp6.lt; simp; omega)).trans (Blk.new rfl)
          replace own7 := own7.kept hg8 (own_ne own7)
          replace b7 := b7.grown hg8 (by have := p7.lt; omega) (fun k hk => by simp at hk; omega)
          replace p7 := hp8
          have kOc := kO.cells
          clear hp8 hg8 kO
          go_wp2_with (at_builtin; refine wpList_append_own _ rfl _ _ 55 rfl (M + 1) 36 i0 (.agg #[.int .i64 0, .int .i64 0, .int .u8 0]) 3 24 Tryz.underlying55 hi hz0 hz1 hz2 rfl (by decide) _ j (P.2.flatMap encOutc) rfl ?qo ⟨_, 0, none⟩ 1 1 (encOutc D) rfl ?q1 ?q2 ?q3 ?q4 ?q5 ?q6 ?_)
          case qo => exact own_below own7 ((Below.refl _ _).alloc (Nat.le_refl _) _)
          case q1 => rfl
          case q2 =>
            intro k u hu
            rw [addp]
            refine Eq.trans (Blk.cells (Blk.new (by first | (simp; done) | (simp; omega) | omega)) _) ?_
            simpa [encOutc] using hu
          case q3 =>
            intro u hu
            simp [encOutc] at hu
            rcases hu with rfl | rfl | rfl <;> rfl
          case q4 => unfold maxLen; omega
          case q5 => omega
          case q6 => exact Nat.le_trans (Nat.succ_le_of_lt p7.lt) ((Below.refl 0 _).alloc (Nat.zero_le _) _).size
          intro v' w9 hown hgrow hnil
          have bg := ((Below.refl (M + 1) _).alloc (Nat.succ_le_of_lt p7.lt) _).grown hgrow (Nat.le_trans (Nat.succ_le_of_lt p7.lt) ((Below.refl 0 _).alloc (Nat.zero_le _) _).size) (fun k hk => own_ge own7 hk)
          have pz := p7.below (Nat.lt_succ_self M) bg
          have bz := b7.trans (bg.mono (Nat.le_succ M))
          have own9 : w9.ownsRow (M + 1) 36 3 v' (j + 1) ((P.2 ++ [D]).flatMap encOutc) := by simpa using hown
          rw [← hpd] at pz
          rw [← hso] at own9
          have OWN := Lib.hid own9
          have PZ := Lib.hid pz
          have BZ := Lib.hid bz
          clear hown own9 hgrow hnil pz bz bg own7 p7 b7 hpd hso
          go_wp2_with fail
          go_roundg (c.length - (j + 1))
          case measure => omega
          case rel =>
            refine ⟨j + 1, by omega, by omega, by go_num, BZ.out, ?_, ?_⟩
            · show PaidR _ _ _
              rw [HH.out.2.1]; unfold stepS; exact PZ.out
            · show World.ownsRow _ _ _ _ _ _ _
              rw [HH.out.2.1]; unfold stepS; exact OWN.out
        | false =>
          cases r1 : D.ver != 1 with
          | true =>
            have own7 := own_below ho6 ((Below.refl w6.heap.size w6).alloc (Nat.le_refl _) (.cells #[.int .i64 D.clm, .int .i64 D.cents, .int .u8 D.ver] 36))
            have p7 := hp6.below hp6.lt ((Below.refl w6.heap.size w6).alloc (Nat.le_refl _) (.cells #[.int .i64 D.clm, .int .i64 D.cents, .int .u8 D.ver] 36))
            have b7 := bw6.alloc (by have := hp6.lt; omega) (.cells #[.int .i64 D.clm, .int .i64 D.cents, .int .u8 D.ver] 36)
            have hso : stepO l t s P.1 x = D := by unfold stepO; rw [← HD.out]; simp [hin]
            have hpd : (if (stepO l t s P.1 x).ver = 6 then x.item :: P.1 else P.1) = P.1 := by rw [hso, if_neg (by simpa using r6)]
            go_wp2_with (at_builtin; refine wpList_append_own _ rfl _ _ 55 rfl (M + 1) 36 i0 (.agg #[.int .i64 0, .int .i64 0, .int .u8 0]) 3 24 Tryz.underlying55 hi hz0 hz1 hz2 rfl (by decide) _ j (P.2.flatMap encOutc) rfl ?qo ⟨_, 0, none⟩ 1 1 (encOutc D) rfl ?q1 ?q2 ?q3 ?q4 ?q5 ?q6 ?_)
            case qo => exact own_below own7 ((Below.refl _ _).alloc (Nat.le_refl _) _)
            case q1 => rfl
            case q2 =>
              intro k u hu
              rw [addp]
              refine Eq.trans (Blk.cells (Blk.new (by first | (simp; done) | (simp; omega) | omega)) _) ?_
              simpa [encOutc] using hu
            case q3 =>
              intro u hu
              simp [encOutc] at hu
              rcases hu with rfl | rfl | rfl <;> rfl
            case q4 => unfold maxLen; omega
            case q5 => omega
            case q6 => exact Nat.le_trans (Nat.succ_le_of_lt p7.lt) ((Below.refl 0 _).alloc (Nat.zero_le _) _).size
            intro v' w9 hown hgrow hnil
            have bg := ((Below.refl (M + 1) _).alloc (Nat.succ_le_of_lt p7.lt) _).grown hgrow (Nat.le_trans (Nat.succ_le_of_lt p7.lt) ((Below.refl 0 _).alloc (Nat.zero_le _) _).size) (fun k hk => own_ge own7 hk)
            have pz := p7.below (Nat.lt_succ_self M) bg
            have bz := b7.trans (bg.mono (Nat.le_succ M))
            have own9 : w9.ownsRow (M + 1) 36 3 v' (j + 1) ((P.2 ++ [D]).flatMap encOutc) := by simpa using hown
            rw [← hpd] at pz
            rw [← hso] at own9
            have OWN := Lib.hid own9
            have PZ := Lib.hid pz
            have BZ := Lib.hid bz
            clear hown own9 hgrow hnil pz bz bg own7 p7 b7 hpd hso
            go_wp2_with fail
            go_roundg (c.length - (j + 1))
            case measure => omega
            case rel =>
              refine ⟨j + 1, by omega, by omega, by go_num, BZ.out, ?_, ?_⟩
              · show PaidR _ _ _
                rw [HH.out.2.1]; unfold stepS; exact PZ.out
              · show World.ownsRow _ _ _ _ _ _ _
                rw [HH.out.2.1]; unfold stepS; exact OWN.out
          | false =>
            have own7 := own_below ho6 ((Below.refl w6.heap.size w6).alloc (Nat.le_refl _) (.cells #[.int .i64 D.clm, .int .i64 D.cents, .int .u8 D.ver] 36))
            have p7 := hp6.below hp6.lt ((Below.refl w6.heap.size w6).alloc (Nat.le_refl _) (.cells #[.int .i64 D.clm, .int .i64 D.cents, .int .u8 D.ver] 36))
            have b7 := bw6.alloc (by have := hp6.lt; omega) (.cells #[.int .i64 D.clm, .int .i64 D.cents, .int .u8 D.ver] 36)
            have hso : stepO l t s P.1 x = D := by unfold stepO; rw [← HD.out]; simp [hin]
            have hpd : (if (stepO l t s P.1 x).ver = 6 then x.item :: P.1 else P.1) = P.1 := by rw [hso, if_neg (by simpa using r6)]
            go_wp2_with (at_builtin; refine wpList_append_own _ rfl _ _ 55 rfl (M + 1) 36 i0 (.agg #[.int .i64 0, .int .i64 0, .int .u8 0]) 3 24 Tryz.underlying55 hi hz0 hz1 hz2 rfl (by decide) _ j (P.2.flatMap encOutc) rfl ?qo ⟨_, 0, none⟩ 1 1 (encOutc D) rfl ?q1 ?q2 ?q3 ?q4 ?q5 ?q6 ?_)
            case qo => exact own_below own7 ((Below.refl _ _).alloc (Nat.le_refl _) _)
            case q1 => rfl
            case q2 =>
              intro k u hu
              rw [addp]
              refine Eq.trans (Blk.cells (Blk.new (by first | (simp; done) | (simp; omega) | omega)) _) ?_
              simpa [encOutc] using hu
            case q3 =>
              intro u hu
              simp [encOutc] at hu
              rcases hu with rfl | rfl | rfl <;> rfl
            case q4 => unfold maxLen; omega
            case q5 => omega
            case q6 => exact Nat.le_trans (Nat.succ_le_of_lt p7.lt) ((Below.refl 0 _).alloc (Nat.zero_le _) _).size
            intro v' w9 hown hgrow hnil
            have bg := ((Below.refl (M + 1) _).alloc (Nat.succ_le_of_lt p7.lt) _).grown hgrow (Nat.le_trans (Nat.succ_le_of_lt p7.lt) ((Below.refl 0 _).alloc (Nat.zero_le _) _).size) (fun k hk => own_ge own7 hk)
            have pz := p7.below (Nat.lt_succ_self M) bg
            have bz := b7.trans (bg.mono (Nat.le_succ M))
            have own9 : w9.ownsRow (M + 1) 36 3 v' (j + 1) ((P.2 ++ [D]).flatMap encOutc) := by simpa using hown
            rw [← hpd] at pz
            rw [← hso] at own9
            have OWN := Lib.hid own9
            have PZ := Lib.hid pz
            have BZ := Lib.hid bz
            clear hown own9 hgrow hnil pz bz bg own7 p7 b7 hpd hso
            go_wp2_with fail
            go_roundg (c.length - (j + 1))
            case measure => omega
            case rel =>
              refine ⟨j + 1, by omega, by omega, by go_num, BZ.out, ?_, ?_⟩
              · show PaidR _ _ _
                rw [HH.out.2.1]; unfold stepS; exact PZ.out
              · show World.ownsRow _ _ _ _ _ _ _
                rw [HH.out.2.1]; unfold stepS; exact OWN.out
    · have hjc : j = c.length := by omega
      subst hjc
      have e1 : d.take c.length = d := List.take_of_length_le (by omega)
      rw [e1] at hp ho
      have hlen : (setF l t s d).2.length = c.length := by unfold setF; rw [setF_len]; simp [hdl]
      have ho2 := ho.out
      rw [← hlen] at ho2
      obtain ⟨A, cap, rfl, hrd, hcap⟩ := own_rd2 (enc := encOutc) (k := 3) (fun _ => rfl) ho2
      rw [hlen] at *
      have hgf : ¬ (c.length : Int) < (c.length : Int) := by omega
      have HF := Lib.hid hrd
      clear ho2 hrd ho hp hlen e1
      go_wp2_with fail
      go_ret2
      have bfin := B3.out.trans (hw.out.mono (by have := B3.out.size; omega))
      first
      | exact ⟨d, HP.out.1, HP.out.2, A, ⟨cap, rfl, hcap⟩, HF.out, bfin⟩
      | exact ⟨d, HP.out.1, HP.out.2, A, HF.out, bfin, ⟨cap, rfl, hcap⟩⟩
      | exact ⟨d, A, cap, HP.out.1, HP.out.2, rfl, HF.out, bfin, hcap⟩
      | exact ⟨d, HP.out.1, HP.out.2, A, cap, rfl, HF.out, bfin, hcap⟩
      | exact ⟨d, HP.out.1, HP.out.2, A, HF.out, bfin, hcap⟩

include hl ht hs hc nl nt ns nc in
theorem settle_ok (h : chkP l t s c = 0) : Calls Tryz.prog 25 #[.slice Al l.length ca, .slice At t.length cb, .slice As s.length cc, .slice Ac c.length cd] w fun e w' => ∃ (d : List Clm) (A : Option Addr) (cap : Nat), d.Perm c ∧ d.Pairwise (fun x y => ¬ ltSet y x) ∧ e = .returned (.tuple #[.slice A c.length cap, .int .i64 0]) ∧ Rd encOutc 3 w' A (setF l t s d).2 ∧ Below w.heap.size w w' :=
  (settle_cap Al At As Ac ca cb cc cd l t s c w hl ht hs hc nl nt ns nc h).mono fun _ _ ⟨d, A, cap, h1, h2, h3, h4, h5, _⟩ => ⟨d, A, cap, h1, h2, h3, h4, h5⟩
end
end Go.Proofs.YtnnppnlekpadnaaGreat
