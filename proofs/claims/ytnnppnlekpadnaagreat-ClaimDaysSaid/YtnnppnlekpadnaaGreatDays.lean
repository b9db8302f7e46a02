/- The statement ClaimDays, of a slice that reads as a list. -/
import Derived.Test.YtnnppnlekpadnaaGreatRefP
import Derived.Test.YtnnppnlekpadnaaGreatPick
namespace Go.Proofs.YtnnppnlekpadnaaGreat
open Go.RowKit Go.Proofs
set_option maxRecDepth 100000

/-- The promise of a standard. -/
def longP (x : Std) (acc : Int) : Int × Int := if 1051898399 - x.mi < acc then (0, 3) else (acc + x.mi - (acc + x.mi) % 1440 + 1440 - 1, 0)

theorem promP_at {l : List Std} {i : Nat} {x : Std} {acc : Int} (hr : rightStd l = true) (hi : l[i]? = some x) (ha : 0 ≤ acc) : promP l x.cl x.fr x.to acc = longP x acc := by
  have ho := (allB_ok hr).2.2
  have hit := prom_hit (t := ⟨x.cl, x.fr, x.to, 0⟩) ho hi ((cmpStd_eq _ _).2 ⟨rfl, rfl, rfl⟩)
  unfold promP longP
  rw [if_pos ⟨hr, ha⟩, if_pos hit.2, hit.1, hi]

theorem right_one {l : List Std} {x : Std} (hr : rightStd l = true) (hx : x ∈ l) : rightStd [x] = true := by
  have := (allB_ok hr).2.1 x hx
  unfold rightStd allB
  simp [this, ordered]

theorem longP_cases {x : Std} (hx : okStd x = true) {acc : Int} (ha : 0 ≤ acc) :
    (1051898399 < acc + x.mi ∧ longP x acc = (0, 3)) ∨ (acc + x.mi ≤ 1051898399 ∧ (longP x acc).2 = 0 ∧ (longP x acc).1 % 1440 = 1439 ∧ acc + x.mi ≤ (longP x acc).1 ∧ (longP x acc).1 - acc - x.mi < 1440 ∧ (longP x acc).1 ≤ 1051898399 + 1440) := by
  have hm := ok_mi hx
  by_cases h : 1051898399 - x.mi < acc
  · exact .inl ⟨by omega, by unfold longP; rw [if_pos h]⟩
  · refine .inr ⟨by omega, ?_⟩
    have e : longP x acc = (acc + x.mi - (acc + x.mi) % 1440 + 1440 - 1, 0) := by unfold longP; rw [if_neg h]
    refine ⟨by rw [e], by rw [e]; simp only; omega, by rw [e]; simp only; omega, by rw [e]; simp only; omega, by rw [e]; simp only; omega⟩

theorem longP_mono {x : Std} {acc d : Int} (hd : 0 ≤ d) (h2 : (longP x (acc + d)).2 = 0) : (longP x acc).1 ≤ (longP x (acc + d)).1 := by
  by_cases h' : 1051898399 - x.mi < acc + d
  · unfold longP at h2; rw [if_pos h'] at h2; cases h2
  · unfold longP
    rw [if_neg h', if_neg (by omega)]
    simp only; omega

theorem rd_one {x : Std} {n : Nat} {w : World} {T : TypeId} (h : n = w.heap.size) : Rd encStd 4 (w.alloc (.cells #[.int .u8 x.cl, .int .i64 x.fr, .int .i64 x.to, .int .i64 x.mi] T)) (some ⟨n, 0, none⟩) [x] := fun _ => by
  subst h
  refine ⟨_, _, rfl, (by first | (simp; done) | (simp; omega) | omega), fun j y hj i v hi => ?_⟩
  match j, hj with
  | 0, hj =>
    simp at hj; subst hj
    rw [Blk.cells (arr := #[.int .u8 x.cl, .int .i64 x.fr, .int .i64 x.to, .int .i64 x.mi]) (T := T) (Blk.new rfl), ← hi]
    simp [encStd]

set_option maxHeartbeats 4000000 in
theorem ClaimDays_any (HA : ∀ w : World, Calls Tryz.prog 10 #[] w fun e w' => e = .returned (.bool true) ∧ Below w.heap.size w w') (A : Option Addr) (c : Nat) (xs : List Std) (at_ acc later : Int) (w : World) (hr : Rd encStd 4 w A xs) (hlat : 0 ≤ later ∧ later ≤ 65535) :
    Calls Tryz.prog 5 #[.slice A xs.length c, .int .i64 at_, .int .i64 acc, .int .u16 later] w fun e w' => e = .returned (.bool true) ∧ Below w.heap.size w w' := by
  have HA := Lib.hid HA
  by_cases hn : xs.length ≤ 60
  · have hn1 : xs.length ≤ 1000000 := by omega
    have HR := Lib.hid hr
    have C1 := Lib.hid (fun W h => right_any A c xs W (Rd.below hr (Nat.le_refl _) h) hn1)
    change Hid (∀ W, Below w.heap.size w W → Calls Tryz.prog 11 _ _ (fun e w' => e = .returned (.bool (rightStd xs)) ∧ _)) at C1
    clear hr
    obtain ⟨r, hrr⟩ : ∃ r, r = rightStd xs := ⟨_, rfl⟩
    rw [← hrr] at C1
    cases r with
    | false =>
      clear hrr
      go_enter Tryz.func5, Tryz.ntmps5
      go_wp2_with fail
      refine (HA.out _).mono ?_
      rintro e w1 ⟨rfl, hb1⟩
      go_wp2_with fail
      refine (C1.out _ hb1).mono ?_
      rintro e w2 ⟨rfl, hb2⟩
      replace hb1 := hb1.trans (hb2.mono hb1.size)
      go_wp2_with fail
      go_ret
      exact ⟨rfl, hb1⟩
    | true =>
      by_cases h0 : 0 < xs.length ∧ 0 ≤ acc ∧ acc ≤ 1051898399
      · obtain ⟨h0, ha0, ha1⟩ := h0
        have hpk := pickI_bd at_ xs.length (by omega)
        have hpa := fun W => pick_any at_ xs.length W (by omega)
        obtain ⟨j, hj⟩ : ∃ j : Nat, pickI at_ xs.length = (j : Int) := ⟨(pickI at_ xs.length).toNat, by omega⟩
        rw [hj] at hpk hpa
        have hjl : j < xs.length := by omega
        clear hj
        have hx : xs[j]? = some xs[j] := List.getElem?_eq_getElem hjl
        have hmem := List.getElem_mem hjl
        generalize xs[j] = x at hx hmem
        have hok := (allB_ok hrr.symm).2.1 x hmem
        have hm := ok_mi hok
        have r1 := right_one hrr.symm hmem
        have P1 := Lib.hid (fun (W : World) (h : Below w.heap.size w W) => (promP_at (acc := acc) hrr.symm hx ha0) ▸ promise_any A c xs x.cl x.fr x.to acc W (Rd.below HR.out (Nat.le_refl _) h) hn1)
        have P2 := (fun (W : World) (B : Nat) (h : Rd encStd 4 W (some ⟨B, 0, none⟩) [x]) => (promP_at (acc := acc) (l := [x]) (i := 0) r1 rfl ha0) ▸ promise_any (some ⟨B, 0, none⟩) 1 [x] x.cl x.fr x.to acc W h (by simp))
        simp only [List.length_singleton] at P2
        replace P2 := Lib.hid P2
        have e3 : promP xs x.cl x.fr x.to (acc + later) = longP x (acc + later) := promP_at hrr.symm hx (by omega)
        have P3 := Lib.hid (fun (W : World) (h : Below w.heap.size w W) => e3 ▸ promise_any A c xs x.cl x.fr x.to (acc + later) W (Rd.below HR.out (Nat.le_refl _) h) hn1)
        clear e3
        have HX := Lib.hid hx
        have HLP := Lib.hid (And.intro (longP_cases hok ha0) (longP_cases hok (acc := acc + later) (by omega)))
        clear hrr hx hmem hok r1
        have HL3 := Lib.hid (fun h2 => (longP_mono (x := x) (acc := acc) (d := later) hlat.1 h2))
        generalize longP x acc = lp at P1 P2 HLP HL3
        generalize longP x (acc + later) = lq at P3 HLP HL3
        have c1 : decide ((60 : Int) < (xs.length : Int)) = false := by simp; omega
        have c2 : ((xs.length : Int) == 0) = false := beq_eq_false_iff_ne.2 (by omega)
        have c3 : decide (acc < 0) = false := by simp; omega
        have c4 : decide ((1051898399 : Int) < acc) = false := by simp; omega
        clear hn hn1
        generalize xs.length = n at *
        obtain ⟨hlat0, hlat1⟩ := hlat
        obtain ⟨hm0, hm1⟩ := hm
        obtain ⟨p, pe⟩ := lp
        obtain ⟨q, qe⟩ := lq
        obtain ⟨hA, hB⟩ := HLP.out
        have n1 : (p != p) = false := by simp
        have n2 : (pe != pe) = false := by simp
        clear HLP
        simp only [Prod.mk.injEq] at hA hB P1 P2 P3 HL3
        rcases hA with ⟨hA1, rfl, rfl⟩ | ⟨hA1, rfl, hA2, hA3, hA4, hA5⟩
        · clear hB HL3 P3
          go_enter Tryz.func5, Tryz.ntmps5
          go_wp2_with fail
          refine (HA.out _).mono ?_
          rintro e w1 ⟨rfl, hb1⟩
          go_wp2_with fail
          refine (C1.out _ hb1).mono ?_
          rintro e w2 ⟨rfl, hb2⟩
          replace hb1 := hb1.trans (hb2.mono hb1.size)
          clear hb2
          go_wp2_with fail
          refine (hpa _).mono ?_
          rintro e w3 ⟨rfl, hb3⟩
          replace hb1 := hb1.trans (hb3.mono hb1.size)
          obtain ⟨b, o, rfl, hb, hl⟩ := (HR.out.below (Nat.le_refl _) hb1).at HX.out
          have hl0 := hl 0 _ rfl; have hl1 := hl 1 _ rfl; have hl2 := hl 2 _ rfl; have hl3 := hl 3 _ rfl; rw [Nat.add_zero] at hl0; clear hl
          clear hb3 hpa
          go_wp2_with fail
          obtain ⟨W4, hW4⟩ : ∃ W : World, W = w3.alloc (.cells #[.int .u8 x.cl, .int .i64 x.fr, .int .i64 x.to, .int .i64 x.mi] 27) := ⟨_, rfl⟩
          rw [← hW4]
          have k4 : Blk W4 w3.heap.size #[.int .u8 x.cl, .int .i64 x.fr, .int .i64 x.to, .int .i64 x.mi] 27 := by rw [hW4]; exact Blk.new rfl
          have b4 : Below w.heap.size w W4 := by rw [hW4]; exact hb1.alloc hb1.size _
          have HW4 := Lib.hid hW4
          clear hW4 hl0 hl1 hl2 hl3 hb1
          refine (P1.out _ b4).mono ?_
          rintro e w5 ⟨rfl, hb5⟩
          replace k4 := k4.below hb5 k4.lt
          replace b4 := b4.trans (hb5.mono b4.size)
          have k5 := k4.cells
          have k5a := (k4.alloc (.cells #[.int .u8 x.cl, .int .i64 x.fr, .int .i64 x.to, .int .i64 x.mi] 27)).cells
          clear hb5
          go_wp2_with fail
          have b6 := b4.alloc b4.size (.cells #[.int .u8 x.cl, .int .i64 x.fr, .int .i64 x.to, .int .i64 x.mi] 27)
          refine (P2.out _ _ (rd_one rfl)).mono ?_
          rintro e w6 ⟨rfl, hb6⟩
          replace k4 := (k4.alloc _).below hb6 (k4.alloc _).lt
          have k6 := k4.cells
          replace b6 := b6.trans (hb6.mono b6.size)
          clear hb6 k5 k5a
          go_wp2_with fail
          go_ret
          exact ⟨by first | rfl | exact ret_bool (by simp; omega), b6⟩
        · have l1 : acc + later ≤ 1051898399 + 65535 := by omega
          have hpm : p % 1440 = 1439 := hA2
          have hpt : p.tmod 1440 = 1439 := by rw [Int.tmod_eq_emod_of_nonneg (by omega)]; exact hA2
          rcases hB with ⟨hB1, rfl, rfl⟩ | ⟨hB1, rfl, hB2, hB3, hB4, hB5⟩
          · clear HL3
            go_enter Tryz.func5, Tryz.ntmps5
            go_wp2_with fail
            refine (HA.out _).mono ?_
            rintro e w1 ⟨rfl, hb1⟩
            go_wp2_with fail
            refine (C1.out _ hb1).mono ?_
            rintro e w2 ⟨rfl, hb2⟩
            replace hb1 := hb1.trans (hb2.mono hb1.size)
            clear hb2
            go_wp2_with fail
            refine (hpa _).mono ?_
            rintro e w3 ⟨rfl, hb3⟩
            replace hb1 := hb1.trans (hb3.mono hb1.size)
            obtain ⟨b, o, rfl, hb, hl⟩ := (HR.out.below (Nat.le_refl _) hb1).at HX.out
            have hl0 := hl 0 _ rfl; have hl1 := hl 1 _ rfl; have hl2 := hl 2 _ rfl; have hl3 := hl 3 _ rfl; rw [Nat.add_zero] at hl0; clear hl
            clear hb3 hpa
            go_wp2_with fail
            obtain ⟨W4, hW4⟩ : ∃ W : World, W = w3.alloc (.cells #[.int .u8 x.cl, .int .i64 x.fr, .int .i64 x.to, .int .i64 x.mi] 27) := ⟨_, rfl⟩
            rw [← hW4]
            have k4 : Blk W4 w3.heap.size #[.int .u8 x.cl, .int .i64 x.fr, .int .i64 x.to, .int .i64 x.mi] 27 := by rw [hW4]; exact Blk.new rfl
            have b4 : Below w.heap.size w W4 := by rw [hW4]; exact hb1.alloc hb1.size _
            have HW4 := Lib.hid hW4
            clear hW4 hl0 hl1 hl2 hl3 hb1
            refine (P1.out _ b4).mono ?_
            rintro e w5 ⟨rfl, hb5⟩
            replace k4 := k4.below hb5 k4.lt
            replace b4 := b4.trans (hb5.mono b4.size)
            have k5 := k4.cells
            have k5a := (k4.alloc (.cells #[.int .u8 x.cl, .int .i64 x.fr, .int .i64 x.to, .int .i64 x.mi] 27)).cells
            clear hb5
            go_wp2_with fail
            have b6 := b4.alloc b4.size (.cells #[.int .u8 x.cl, .int .i64 x.fr, .int .i64 x.to, .int .i64 x.mi] 27)
            refine (P2.out _ _ (rd_one rfl)).mono ?_
            rintro e w6 ⟨rfl, hb6⟩
            replace k4 := (k4.alloc _).below hb6 (k4.alloc _).lt
            have k6 := k4.cells
            replace b6 := b6.trans (hb6.mono b6.size)
            clear hb6 k5 k5a
            go_wp2_with fail
            refine (P3.out _ b6).mono ?_
            rintro e w7 ⟨rfl, hb7⟩
            replace k4 := k4.below hb7 k4.lt
            have k7 := k4.cells
            replace b6 := b6.trans (hb7.mono b6.size)
            clear hb7 k6
            go_wp2_with fail
            go_ret
            exact ⟨by first | rfl | exact ret_bool (by simp; omega), b6⟩
          · have hqp := HL3.out rfl
            clear HL3
            go_enter Tryz.func5, Tryz.ntmps5
            go_wp2_with fail
            refine (HA.out _).mono ?_
            rintro e w1 ⟨rfl, hb1⟩
            go_wp2_with fail
            refine (C1.out _ hb1).mono ?_
            rintro e w2 ⟨rfl, hb2⟩
            replace hb1 := hb1.trans (hb2.mono hb1.size)
            clear hb2
            go_wp2_with fail
            refine (hpa _).mono ?_
            rintro e w3 ⟨rfl, hb3⟩
            replace hb1 := hb1.trans (hb3.mono hb1.size)
            obtain ⟨b, o, rfl, hb, hl⟩ := (HR.out.below (Nat.le_refl _) hb1).at HX.out
            have hl0 := hl 0 _ rfl; have hl1 := hl 1 _ rfl; have hl2 := hl 2 _ rfl; have hl3 := hl 3 _ rfl; rw [Nat.add_zero] at hl0; clear hl
            clear hb3 hpa
            go_wp2_with fail
            obtain ⟨W4, hW4⟩ : ∃ W : World, W = w3.alloc (.cells #[.int .u8 x.cl, .int .i64 x.fr, .int .i64 x.to, .int .i64 x.mi] 27) := ⟨_, rfl⟩
            rw [← hW4]
            have k4 : Blk W4 w3.heap.size #[.int .u8 x.cl, .int .i64 x.fr, .int .i64 x.to, .int .i64 x.mi] 27 := by rw [hW4]; exact Blk.new rfl
            have b4 : Below w.heap.size w W4 := by rw [hW4]; exact hb1.alloc hb1.size _
            have HW4 := Lib.hid hW4
            clear hW4 hl0 hl1 hl2 hl3 hb1
            refine (P1.out _ b4).mono ?_
            rintro e w5 ⟨rfl, hb5⟩
            replace k4 := k4.below hb5 k4.lt
            replace b4 := b4.trans (hb5.mono b4.size)
            have k5 := k4.cells
            have k5a := (k4.alloc (.cells #[.int .u8 x.cl, .int .i64 x.fr, .int .i64 x.to, .int .i64 x.mi] 27)).cells
            clear hb5
            go_wp2_with fail
            have b6 := b4.alloc b4.size (.cells #[.int .u8 x.cl, .int .i64 x.fr, .int .i64 x.to, .int .i64 x.mi] 27)
            refine (P2.out _ _ (rd_one rfl)).mono ?_
            rintro e w6 ⟨rfl, hb6⟩
            replace k4 := (k4.alloc _).below hb6 (k4.alloc _).lt
            have k6 := k4.cells
            replace b6 := b6.trans (hb6.mono b6.size)
            clear hb6 k5 k5a
            go_wp2_with fail
            refine (P3.out _ b6).mono ?_
            rintro e w7 ⟨rfl, hb7⟩
            replace k4 := k4.below hb7 k4.lt
            have k7 := k4.cells
            replace b6 := b6.trans (hb7.mono b6.size)
            clear hb7 k6
            go_wp2_with fail
            go_ret
            exact ⟨by first | rfl | exact ret_bool (by simp; omega), b6⟩
      · have hsp : xs.length = 0 ∨ (0 < xs.length ∧ acc < 0) ∨ (0 < xs.length ∧ 0 ≤ acc ∧ 1051898399 < acc) := by omega
        clear h0 hrr
        rcases hsp with h | h | h
        all_goals
          generalize xs.length = n at *
          try subst h
          go_enter Tryz.func5, Tryz.ntmps5
          go_wp2_with fail
          refine (HA.out _).mono ?_
          rintro e w1 ⟨rfl, hb1⟩
          go_wp2_with fail
          refine (C1.out _ hb1).mono ?_
          rintro e w2 ⟨rfl, hb2⟩
          replace hb1 := hb1.trans (hb2.mono hb1.size)
          go_wp2_with fail
          go_ret
          exact ⟨rfl, hb1⟩
  · clear hr
    go_enter Tryz.func5, Tryz.ntmps5
    go_wp2_with fail
    refine (HA.out _).mono ?_
    rintro e w1 ⟨rfl, hb⟩
    go_wp2_with fail
    go_ret
    exact ⟨rfl, hb⟩
end Go.Proofs.YtnnppnlekpadnaaGreat
