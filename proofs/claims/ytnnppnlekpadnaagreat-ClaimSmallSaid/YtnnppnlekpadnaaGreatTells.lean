/- The contract of the statements' tells. -/
import Derived.Test.YtnnppnlekpadnaaGreatRefT
namespace Go.Proofs.YtnnppnlekpadnaaGreat
open Go.RowKit Go.Proofs
set_option maxRecDepth 100000

section
variable (Al At As Ac : Option Addr) (ca cb cc cd : Nat) (l : List Std) (t : List Terms) (s : List Sent) (c : List Clm) (w : World)
variable (hl : Rd encStd 4 w Al l) (ht : Rd encTerms 7 w At t) (hs : Rd encSent 6 w As s) (hc : Rd encClm 6 w Ac c) (nl : l.length ≤ 1000000) (nt : t.length ≤ 1000000) (ns : s.length ≤ 1000000) (nc : c.length ≤ 1000000)
variable (ul : ∀ x ∈ l, 0 ≤ x.cl) (ut : ∀ x ∈ t, 0 ≤ x.cl) (us : ∀ x ∈ s, 0 ≤ x.cl) (uc : ∀ x ∈ c, 0 ≤ x.kind ∧ x.kind ≤ 255)
include hl ht hs hc nl nt ns nc ul ut us uc in
set_option maxHeartbeats 20000000 in
theorem tells_any : Calls Tryz.prog 18 #[.slice Al l.length ca, .slice At t.length cb, .slice As s.length cc, .slice Ac c.length cd] w fun e w' => e = .returned (.bool true) ∧ Below w.heap.size w w' := by
  have C1 := Lib.hid (fun (W : World) (b : Below w.heap.size w W) => right_any Al ca l W (hl.below (Nat.le_refl _) b) nl)
  change Hid (∀ W, Below w.heap.size w W → Calls Tryz.prog 11 _ _ (fun e w' => e = .returned (.bool (rightStd l)) ∧ _)) at C1
  have D1 := Lib.hid (fun (W : World) (b : Below w.heap.size w W) => refRight Al ca l W (hl.below (Nat.le_refl _) b) nl ul)
  have C2 := Lib.hid (fun (W : World) (b : Below w.heap.size w W) => rightTerms_any At cb t W (ht.below (Nat.le_refl _) b) nt)
  change Hid (∀ W, Below w.heap.size w W → Calls Tryz.prog 26 _ _ (fun e w' => e = .returned (.bool (rightTerms t)) ∧ _)) at C2
  have O2 := Lib.hid (fun (W : World) (b : Below w.heap.size w W) => otherTerms_any At cb t W (ht.below (Nat.le_refl _) b) nt)
  have D2 := Lib.hid (fun (A : Option Addr) (cap : Nat) (W : World) (h : Rd encTerms 7 W A t) => refTerms A cap t W h nt ut)
  have C3 := Lib.hid (fun (W : World) (b : Below w.heap.size w W) => rightSent_any As cc s W (hs.below (Nat.le_refl _) b) ns)
  have D3 := Lib.hid (fun (W : World) (b : Below w.heap.size w W) => refSent As cc s W (hs.below (Nat.le_refl _) b) ns us)
  have C4 := Lib.hid (fun (W : World) (b : Below w.heap.size w W) => rightClm_any Ac cd c W (hc.below (Nat.le_refl _) b) nc)
  have O4 := Lib.hid (fun (W : World) (b : Below w.heap.size w W) => otherClm_any Ac cd c W (hc.below (Nat.le_refl _) b) nc)
  have D4 := Lib.hid (fun (A : Option Addr) (cap : Nat) (W : World) (h : Rd encClm 6 W A c) => refClm A cap c W h nc uc)
  have S1 := Lib.hid (fun (W : World) (b : Below w.heap.size w W) => settle_u Al At As Ac ca cb cc cd l t s c W (hl.below (Nat.le_refl _) b) (ht.below (Nat.le_refl _) b) (hs.below (Nat.le_refl _) b) (hc.below (Nat.le_refl _) b) nl nt ns nc)
  have S2 := Lib.hid (fun (A2 A4 : Option Addr) (c2 c4 : Nat) (W : World) (b : Below w.heap.size w W) (h2 : Rd encTerms 7 W A2 t) (h4 : Rd encClm 6 W A4 c) => refSettle_u Al A2 As A4 ca c2 cc c4 l t s c W (hl.below (Nat.le_refl _) b) h2 (hs.below (Nat.le_refl _) b) h4 nl nt ns nc ul ut us uc)
  have P1 := Lib.hid (fun (x : Clm) (W : World) (b : Below w.heap.size w W) => Decide_any Al At As ca cb cc l t s x W (hl.below (Nat.le_refl _) b) (ht.below (Nat.le_refl _) b) (hs.below (Nat.le_refl _) b) nl nt ns)
  have P2 := Lib.hid (fun (x : Clm) (hx : x ∈ c) (A2 : Option Addr) (c2 : Nat) (W : World) (b : Below w.heap.size w W) (h2 : Rd encTerms 7 W A2 t) => refDecide Al A2 As ca c2 cc l t s x W (hl.below (Nat.le_refl _) b) h2 (hs.below (Nat.le_refl _) b) nl nt ns ul ut us (uc x hx))
  have HC := Lib.hid hc
  have LE := Lib.hid (fun o (h : IsOut l t s c o) => Nat.le_trans h.le nc)
  clear hl ht hs hc nl nt ns ul ut us uc
  generalize rightStd l = r1 at *
  generalize rightTerms t = r2 at *
  generalize rightSent s = r3 at *
  generalize rightClm c = r4 at *
  generalize chkP l t s c = er at *
  generalize l.length = n1 at *
  generalize t.length = n2 at *
  generalize s.length = n3 at *
  go_enter Tryz.func18, Tryz.ntmps18
  go_wp2_with fail
  refine (C1.out _ (Below.refl _ _)).mono ?_
  rintro e w1 ⟨rfl, b1⟩
  go_wp2_with fail
  refine (D1.out _ b1).mono ?_
  rintro e w2 ⟨rfl, hb⟩
  have b2 := b1.trans (hb.mono b1.size)
  clear hb b1
  go_wp2_with fail
  refine (C2.out _ b2).mono ?_
  rintro e w3 ⟨rfl, hb⟩
  have b3 := b2.trans (hb.mono b2.size)
  clear hb b2
  go_wp2_with fail
  refine (O2.out _ b3).mono ?_
  rintro e w4 ⟨A2, cap2, rfl, hr2, hb⟩
  have b4 := b3.trans (hb.mono b3.size)
  clear hb b3
  have hcon := D2.out A2 cap2 w4 hr2
  go_wp2_with fail
  refine hcon.mono ?_
  rintro e w5 ⟨rfl, hb⟩
  have b5 := b4.trans (hb.mono b4.size)
  clear hb b4 hcon hr2
  go_wp2_with fail
  refine (C3.out _ b5).mono ?_
  rintro e w6 ⟨rfl, hb⟩
  have b6 := b5.trans (hb.mono b5.size)
  clear hb b5
  go_wp2_with fail
  refine (D3.out _ b6).mono ?_
  rintro e w7 ⟨rfl, hb⟩
  have b7 := b6.trans (hb.mono b6.size)
  clear hb b6
  go_wp2_with fail
  refine (C4.out _ b7).mono ?_
  rintro e w8 ⟨rfl, hb⟩
  have b8 := b7.trans (hb.mono b7.size)
  clear hb b7
  go_wp2_with fail
  refine (O4.out _ b8).mono ?_
  rintro e w9 ⟨A4, cap4, rfl, hr4, hb⟩
  have b9 := b8.trans (hb.mono b8.size)
  clear hb b8
  have hcon := D4.out A4 cap4 w9 hr4
  go_wp2_with fail
  refine hcon.mono ?_
  rintro e w10 ⟨rfl, hb⟩
  have b10 := b9.trans (hb.mono b9.size)
  clear hb b9 hcon hr4 C1 D1 C2 D2 C3 D3 C4 D4
  go_wp2_with fail
  refine (S1.out _ b10).mono ?_
  rintro e w11 ⟨o, A, cap, rfl, hio, hro, hb⟩
  have b11 := b10.trans (hb.mono b10.size)
  clear hb b10
  go_wp2_with fail
  refine (O2.out _ b11).mono ?_
  rintro e w12 ⟨A2, cap2, rfl, hr2, hb⟩
  have hro2 := hro.below (Nat.le_refl _) hb
  have b12 := b11.trans (hb.mono b11.size)
  clear hb b11 hro
  go_wp2_with fail
  refine (O4.out _ b12).mono ?_
  rintro e w13 ⟨A4, cap4, rfl, hr4, hb⟩
  have hro3 := hro2.below (Nat.le_refl _) hb
  have hr23 := hr2.below (Nat.le_refl _) hb
  have b13 := b12.trans (hb.mono b12.size)
  clear hb b12 hr2 hro2
  have hcon := S2.out A2 A4 cap2 cap4 w13 b13 hr23 hr4
  go_wp2_with fail
  refine hcon.mono ?_
  rintro e w14 ⟨o', B, capB, rfl, hio', hrb, hb⟩
  obtain rfl := hio.uniq hio'
  have hro4 := hro3.below (Nat.le_refl _) hb
  have b14 := b13.trans (hb.mono b13.size)
  have hol := LE.out o hio
  have RO := Lib.hid (And.intro hro4 hrb)
  have B14 := Lib.hid b14
  clear hb b13 hcon hr23 hr4 hio hio' hro3 hro4 hrb b14 S1 S2 LE
  go_wp2_with fail
  go_loopg [13] o.length (fun gg s13 wr => ∃ j : Nat, j ≤ o.length ∧ o.length - j ≤ gg ∧ s13 = .int .i64 j ∧ Aside (Below w14.heap.size w14 wr))
  case atStart => exact ⟨0, Nat.zero_le _, by omega, rfl, Below.refl _ _⟩
  case round =>
    obtain ⟨j, hj, hg, rfl, hw⟩ := hrel
    by_cases hlt : j < o.length
    · have hx : o[j]? = some o[j] := List.getElem?_eq_getElem hlt
      obtain ⟨p1, p2, rfl, hb1, hl⟩ := (RO.out.1.below (Nat.le_refl _) hw.out).at hx
      obtain ⟨q1, q2, rfl, hb2, hm⟩ := (RO.out.2.below (Nat.le_refl _) hw.out).at hx
      generalize o[j] = x at hx hl hm
      have hl0 := hl 0 _ rfl; have hl1 := hl 1 _ rfl; have hl2 := hl 2 _ rfl; rw [Nat.add_zero] at hl0; clear hl
      have hm0 := hm 0 _ rfl; have hm1 := hm 1 _ rfl; have hm2 := hm 2 _ rfl; rw [Nat.add_zero] at hm0; clear hm
      replace hl0 := fun p : Ex wr => p.cell hb1 hl0; replace hl1 := fun p : Ex wr => p.cell hb1 hl1; replace hl2 := fun p : Ex wr => p.cell hb1 hl2
      replace hm0 := fun p : Ex wr => p.cell hb2 hm0; replace hm1 := fun p : Ex wr => p.cell hb2 hm1; replace hm2 := fun p : Ex wr => p.cell hb2 hm2
      have SM := Lib.hid (fun W => same_any x W)
      clear hx
      go_wp2_with fail
      (refine wp_region_quiet_ex (by kernel_rfl) (by kernel_rfl) ?_; (repeat (go_big_quiet_step ((go_at_call 47; refine Calls.ex_of (SM.out _))))); refine wpQuiet_nil ?_; intro wq hw'; obtain ⟨⟨_, hq⟩, hw''⟩ := hw'; subst hw'')
      have BQ := Lib.hid (hw.out.trans (hq.mono hw.out.size))
      clear hl0 hl1 hl2 hm0 hm1 hm2 hw hq
      go_wp2_with fail
      go_roundg (o.length - (j + 1))
      case measure => omega
      case rel => exact ⟨j + 1, by omega, by omega, by go_num, BQ.out⟩
    · have hjn : j = o.length := by omega
      subst hjn
      have hg' : ¬ (o.length : Int) < (o.length : Int) := by omega
      have B15 := Lib.hid (B14.out.trans (hw.out.mono B14.out.size))
      clear hw
      go_wp2_with fail
      obtain ⟨w15, rfl⟩ : ∃ w15, w15 = wr := ⟨_, rfl⟩
      go_loopg [14] 4 (fun gg s14 wr => ∃ j : Nat, j ≤ 4 ∧ j ≤ c.length ∧ 4 - j ≤ gg ∧ s14 = .int .i64 j ∧ Aside (Below w.heap.size w wr))
      case atStart => exact ⟨0, by omega, Nat.zero_le _, by omega, rfl, B15.out⟩
      case round =>
        obtain ⟨j, hj4, hjc, hg2, rfl, hw⟩ := hrel
        by_cases hlt : j < c.length
        · by_cases h4 : j < 4
          · have e1 : decide ((j : Int) < (c.length : Int)) = true := by simp; omega
            have e2 : decide ((j : Int) < 4) = true := by simp; omega
            have hx : c[j]? = some c[j] := List.getElem?_eq_getElem hlt
            obtain ⟨p1, p2, rfl, hb1, hl⟩ := (HC.out.below (Nat.le_refl _) hw.out).at hx
            have hxc : c[j] ∈ c := List.getElem_mem _
            generalize c[j] = x at hx hl hxc
            have hl0 := hl 0 _ rfl; have hl1 := hl 1 _ rfl; have hl2 := hl 2 _ rfl; have hl3 := hl 3 _ rfl; have hl4 := hl 4 _ rfl; have hl5 := hl 5 _ rfl; rw [Nat.add_zero] at hl0; clear hl
            have hd := P1.out x wr hw.out
            have PX := Lib.hid (P2.out x hxc)
            have HX := Lib.hid hx
            generalize deciP l t s x = dp at hd PX
            have SM := Lib.hid (fun W => same_any dp.1 W)
            have BW := Lib.hid hw.out
            clear hx hxc hw
            go_wp2_with fail
            refine hd.mono ?_
            rintro e w16 ⟨rfl, hb⟩
            have b16 := BW.out.trans (hb.mono BW.out.size)
            have k15 : Blk (w16.alloc (.cells #[.int .i64 dp.1.clm, .int .i64 dp.1.cents, .int .u8 dp.1.ver] 36)) w16.heap.size #[.int .i64 dp.1.clm, .int .i64 dp.1.cents, .int .u8 dp.1.ver] 36 := Blk.new rfl
            have b17 := b16.alloc b16.size (.cells #[.int .i64 dp.1.clm, .int .i64 dp.1.cents, .int .u8 dp.1.ver] 36)
            have K15 := Lib.hid k15
            have B17 := Lib.hid b17
            clear hd hb b16 k15 b17 hl0 hl1 hl2 hl3 hl4 hl5
            go_wp2_with fail
            refine (O2.out _ B17.out).mono ?_
            rintro e w18 ⟨A2, cap2, rfl, hr2, hb⟩
            have B18 := Lib.hid (B17.out.trans (hb.mono B17.out.size))
            have K18 := Lib.hid (K15.out.below hb K15.out.lt)
            clear hb
            go_wp2_with fail
            refine (O4.out _ B18.out).mono ?_
            rintro e w19 ⟨A4, cap4, rfl, hr4, hb⟩
            have B19 := Lib.hid (B18.out.trans (hb.mono B18.out.size))
            have K19 := Lib.hid (K18.out.below hb K18.out.lt)
            have R2 := Lib.hid (hr2.below (Nat.le_refl _) hb)
            obtain ⟨g1, g2, rfl, hb4, hl4⟩ := hr4.at HX.out
            have hl40 := hl4 0 _ rfl; have hl41 := hl4 1 _ rfl; have hl42 := hl4 2 _ rfl; have hl43 := hl4 3 _ rfl; have hl44 := hl4 4 _ rfl; have hl45 := hl4 5 _ rfl; rw [Nat.add_zero] at hl40; clear hl4
            clear hb hr2 hr4
            go_wp2_with fail
            refine (PX.out A2 cap2 _ B19.out R2.out).mono ?_
            rintro e w20 ⟨rfl, hb⟩
            have b20 := B19.out.trans (hb.mono B19.out.size)
            have k20 := (K19.out.below hb K19.out.lt).alloc (.cells #[.int .i64 dp.1.clm, .int .i64 dp.1.cents, .int .u8 dp.1.ver] 87)
            have k21 : Blk (w20.alloc (.cells #[.int .i64 dp.1.clm, .int .i64 dp.1.cents, .int .u8 dp.1.ver] 87)) w20.heap.size #[.int .i64 dp.1.clm, .int .i64 dp.1.cents, .int .u8 dp.1.ver] 87 := Blk.new rfl
            have B21 := Lib.hid (b20.alloc b20.size (.cells #[.int .i64 dp.1.clm, .int .i64 dp.1.cents, .int .u8 dp.1.ver] 87))
            have kc20 := k20.cells
            have kc21 := k21.cells
            clear hb b20 k20 k21 hl40 hl41 hl42 hl43 hl44 hl45
            go_wp2_with fail
            refine (SM.out _).mono ?_
            rintro e w22 ⟨rfl, hb⟩
            have B22 := Lib.hid (B21.out.trans (hb.mono B21.out.size))
            clear hb kc20 kc21
            go_wp2_with fail
            go_roundg (4 - (j + 1))
            case measure => omega
            case rel => exact ⟨j + 1, by omega, by omega, by omega, by go_num, B22.out⟩
          · have e1 : decide ((j : Int) < (c.length : Int)) = true := by simp; omega
            have e2 : decide ((j : Int) < 4) = false := by simp; omega
            have BW := Lib.hid hw.out
            clear hw
            go_wp2_with fail
            go_ret
            exact ⟨rfl, BW.out⟩
        · have e1 : decide ((j : Int) < (c.length : Int)) = false := by simp; omega
          have BW := Lib.hid hw.out
          clear hw
          go_wp2_with fail
          go_ret
          exact ⟨rfl, BW.out⟩
end
end Go.Proofs.YtnnppnlekpadnaaGreat
