/- Contracts of the statements' awake, and of the examples it takes. -/
import Derived.Test.YtnnppnlekpadnaaGreatDecB
import Derived.Deep.RegionHeld
import Derived.Deep.RegionWith
namespace Go.Proofs.YtnnppnlekpadnaaGreat
open Go.RowKit Go.Proofs
set_option maxRecDepth 100000

def std1 : Std := ⟨1, 2, 3, 1000⟩
def terms1 : Terms := ⟨1, 60, 2500, 10000, 10000, 5000, 30⟩
def sent1 (d : Int) : Sent := ⟨9, 1, 2, 3, 500, d⟩

theorem rd_new {α : Type} {enc : α → List Value} {k n : Nat} {w : World} {T : TypeId} {arr : Array Value} {x : α} (h : n = w.heap.size) (he : arr.toList = enc x) (_hk : (enc x).length = k) : Rd enc k (w.alloc (.cells arr T)) (some ⟨n, 0, none⟩) [x] := fun _ => by
  subst h
  refine ⟨_, _, rfl, (by first | (simp; done) | (simp; omega) | omega), fun j y hj i v hi => ?_⟩
  match j, hj with
  | 0, hj =>
    simp at hj; subst hj
    rw [Blk.cells (arr := arr) (T := T) (Blk.new rfl), ← hi, ← he]
    simp

theorem standard_any (w : World) : Calls Tryz.prog 20 #[] w fun e w' => (e = .returned (.slice (some ⟨w.heap.size, 0, none⟩) 1 1) ∧ Rd encStd 4 w' (some ⟨w.heap.size, 0, none⟩) [std1]) ∧ Below w.heap.size w w' := by
  go_enter Tryz.func20, Tryz.ntmps20
  go_wp2
  go_ret
  exact ⟨⟨rfl, rd_new rfl rfl rfl⟩, (Below.refl _ _).alloc (Nat.le_refl _) _⟩
theorem terms_any (w : World) : Calls Tryz.prog 21 #[] w fun e w' => (e = .returned (.slice (some ⟨w.heap.size, 0, none⟩) 1 1) ∧ Rd encTerms 7 w' (some ⟨w.heap.size, 0, none⟩) [terms1]) ∧ Below w.heap.size w w' := by
  go_enter Tryz.func21, Tryz.ntmps21
  go_wp2
  go_ret
  exact ⟨⟨rfl, rd_new rfl rfl rfl⟩, (Below.refl _ _).alloc (Nat.le_refl _) _⟩
theorem sent_any (d : Int) (w : World) : Calls Tryz.prog 22 #[.int .i64 d] w fun e w' => (e = .returned (.slice (some ⟨w.heap.size, 0, none⟩) 1 1) ∧ Rd encSent 6 w' (some ⟨w.heap.size, 0, none⟩) [sent1 d]) ∧ Below w.heap.size w w' := by
  go_enter Tryz.func22, Tryz.ntmps22
  go_wp2
  go_ret
  exact ⟨⟨rfl, rd_new rfl rfl rfl⟩, (Below.refl _ _).alloc (Nat.le_refl _) _⟩

theorem prom1 : promP [std1] 1 2 3 500 = (2879, 0) := by decide
def lateC : Clm := ⟨4, 9, 20000, 1, 100, 0⟩
def lostC (d : Int) : Clm := ⟨4, 9, d, 2, 100, 9000⟩
def atL (j : Nat) : Int := match j with | 0 => 2939 | 1 => 2940 | 2 => 4380 | _ => 10000
def atR (j : Nat) : Outc := match j with | 0 => ⟨4, 0, 5⟩ | 1 => ⟨4, 25, 6⟩ | 2 => ⟨4, 50, 6⟩ | _ => ⟨4, 100, 6⟩
def loL (j : Nat) : Int := match j with | 0 => 12879 | 1 => 12880 | _ => 46080
def loR (j : Nat) : Outc := match j with | 0 => ⟨4, 0, 4⟩ | 1 => ⟨4, 5100, 6⟩ | _ => ⟨4, 0, 3⟩
deriving instance DecidableEq for Outc
theorem dec1 (j : Nat) (h : j < 4) : deciP [std1] [terms1] [sent1 (atL j)] lateC = (atR j, 0) := by
  match j, h with
  | 0, _ => decide
  | 1, _ => decide
  | 2, _ => decide
  | 3, _ => decide
theorem dec2 (j : Nat) (h : j < 3) : deciP [std1] [terms1] [sent1 (-1)] (lostC (loL j)) = (loR j, 0) := by
  match j, h with
  | 0, _ => decide
  | 1, _ => decide
  | 2, _ => decide

/-- Decide at the examples, behind the three lists. -/
theorem dec1_any (j : Nat) (h : j < 4) (A B C : Nat) (W : World) (h1 : Rd encStd 4 W (some ⟨A, 0, none⟩) [std1]) (h2 : Rd encTerms 7 W (some ⟨B, 0, none⟩) [terms1]) (h3 : Rd encSent 6 W (some ⟨C, 0, none⟩) [sent1 (atL j)]) :
    Calls Tryz.prog 15 #[.slice (some ⟨A, 0, none⟩) 1 1, .slice (some ⟨B, 0, none⟩) 1 1, .slice (some ⟨C, 0, none⟩) 1 1, .agg #[.int .i64 4, .int .i64 9, .int .i64 20000, .int .u8 1, .int .i64 100, .int .i64 0]] W fun e w' => e = .returned (.tuple #[.agg #[.int .i64 (atR j).clm, .int .i64 (atR j).cents, .int .u8 (atR j).ver], .int .i64 0]) ∧ Below W.heap.size W w' := by
  have := Decide_any _ _ _ 1 1 1 _ _ _ lateC W h1 h2 h3 (by simp) (by simp) (by simp)
  rw [dec1 j h] at this
  exact this
theorem dec2_any (j : Nat) (h : j < 3) (A B C : Nat) (W : World) (h1 : Rd encStd 4 W (some ⟨A, 0, none⟩) [std1]) (h2 : Rd encTerms 7 W (some ⟨B, 0, none⟩) [terms1]) (h3 : Rd encSent 6 W (some ⟨C, 0, none⟩) [sent1 (-1)]) :
    Calls Tryz.prog 15 #[.slice (some ⟨A, 0, none⟩) 1 1, .slice (some ⟨B, 0, none⟩) 1 1, .slice (some ⟨C, 0, none⟩) 1 1, .agg #[.int .i64 4, .int .i64 9, .int .i64 (loL j), .int .u8 2, .int .i64 100, .int .i64 9000]] W fun e w' => e = .returned (.tuple #[.agg #[.int .i64 (loR j).clm, .int .i64 (loR j).cents, .int .u8 (loR j).ver], .int .i64 0]) ∧ Below W.heap.size W w' := by
  have := Decide_any _ _ _ 1 1 1 _ _ _ (lostC (loL j)) W h1 h2 h3 (by simp) (by simp) (by simp)
  rw [dec2 j h] at this
  exact this
theorem prom1_any (A : Nat) (W : World) (h1 : Rd encStd 4 W (some ⟨A, 0, none⟩) [std1]) :
    Calls Tryz.prog 16 #[.slice (some ⟨A, 0, none⟩) 1 1, .int .u8 1, .int .i64 2, .int .i64 3, .int .i64 500] W fun e w' => e = .returned (.tuple #[.int .i64 2879, .int .i64 0]) ∧ Below W.heap.size W w' := by
  have := promise_any _ 1 _ 1 2 3 500 W h1 (by simp)
  rw [prom1] at this
  exact this

set_option maxHeartbeats 8000000 in
theorem awake_any (w : World) : Calls Tryz.prog 10 #[] w fun e w' => e = .returned (.bool true) ∧ Below w.heap.size w w' := by
  go_enter Tryz.func10, Tryz.ntmps10
  go_wp2_with fail
  refine (standard_any _).mono ?_
  rintro e w1 ⟨⟨rfl, r1⟩, hb1⟩
  go_wp2_with fail
  refine (prom1_any _ _ r1).mono ?_
  rintro e w2 ⟨rfl, hb2⟩
  replace hb1 := hb1.trans (hb2.mono hb1.size)
  clear r1 hb2
  go_wp2_with fail
  have hB : Aside (w.heap.size ≤ w2.heap.size) := hb1.size
  have k1 : Blk (w2.alloc (.cells #[.int .i64 2939, .int .i64 2940, .int .i64 4380, .int .i64 10000] 3)) w2.heap.size #[.int .i64 2939, .int .i64 2940, .int .i64 4380, .int .i64 10000] 3 := Blk.new rfl
  replace hb1 := hb1.alloc hb1.size (.cells #[.int .i64 2939, .int .i64 2940, .int .i64 4380, .int .i64 10000] 3)
  generalize w2.alloc (.cells #[.int .i64 2939, .int .i64 2940, .int .i64 4380, .int .i64 10000] 3) = w3 at *
  generalize w2.heap.size = B at *
  go_loopg [25] 4 (fun gg s25 wr => ∃ j : Nat, j ≤ 4 ∧ 4 - j ≤ gg ∧ s25 = .int .i64 j ∧ Aside (Below w.heap.size w wr) ∧ Aside (Blk wr B #[.int .i64 2939, .int .i64 2940, .int .i64 4380, .int .i64 10000] 3))
  case atStart => exact ⟨0, by omega, by omega, rfl, hb1, k1⟩
  case round =>
    obtain ⟨j, hj, hg, rfl, hw, hk⟩ := hrel
    by_cases hlt : j < 4
    · have hc := hk.out.cells
      have hl := hk.out.lt
      match j, hlt with
      | 0, _ =>
        go_wp2_with fail
        refine (standard_any _).mono ?_
        rintro e w4 ⟨⟨rfl, r1⟩, hb4⟩
        go_wp2_with fail
        refine (terms_any _).mono ?_
        rintro e w5 ⟨⟨rfl, r2⟩, hb5⟩
        replace r1 := r1.below (Nat.le_refl _) hb5
        go_wp2_with fail
        refine (sent_any _ _).mono ?_
        rintro e w6 ⟨⟨rfl, r3⟩, hb6⟩
        replace r1 := r1.below (Nat.le_refl _) hb6
        replace r2 := r2.below (Nat.le_refl _) hb6
        have hb7 := (hb4.trans (hb5.mono hb4.size)).trans (hb6.mono (hb4.trans (hb5.mono hb4.size)).size)
        clear hb4 hb5 hb6 hc
        go_wp2_with fail
        refine (dec1_any 0 (by omega) _ _ _ _ r1 r2 r3).mono ?_
        rintro e w8 ⟨rfl, hb8⟩
        replace hb7 := hb7.trans (hb8.mono hb7.size)
        clear r1 r2 r3 hb8
        have hk8 := Lib.hid (hk.out.below hb7 hl)
        have hl8 := hk8.out.lt
        have hw8 := Lib.hid (hw.out.trans (hb7.mono hw.out.size))
        have hs8 := Lib.hid hw.out.size
        clear hb7 hk hw
        simp only [atR]
        go_wp2_with fail
        have hz := hw8.out.size
        go_roundg (4 - (0 + 1))
        case measure => omega
        case rel => exact ⟨0 + 1, by omega, by omega, rfl, ((hw8.out.alloc (by first | (simp; done) | (simp; omega) | omega) _).alloc (by first | (simp; done) | (simp; omega) | omega) _).alloc (by first | (simp; done) | (simp; omega) | omega) _, ((hk8.out.alloc _).alloc _).alloc _⟩
      | 1, _ =>
        go_wp2_with fail
        refine (standard_any _).mono ?_
        rintro e w4 ⟨⟨rfl, r1⟩, hb4⟩
        go_wp2_with fail
        refine (terms_any _).mono ?_
        rintro e w5 ⟨⟨rfl, r2⟩, hb5⟩
        replace r1 := r1.below (Nat.le_refl _) hb5
        go_wp2_with fail
        refine (sent_any _ _).mono ?_
        rintro e w6 ⟨⟨rfl, r3⟩, hb6⟩
        replace r1 := r1.below (Nat.le_refl _) hb6
        replace r2 := r2.below (Nat.le_refl _) hb6
        have hb7 := (hb4.trans (hb5.mono hb4.size)).trans (hb6.mono (hb4.trans (hb5.mono hb4.size)).size)
        clear hb4 hb5 hb6 hc
        go_wp2_with fail
        refine (dec1_any 1 (by omega) _ _ _ _ r1 r2 r3).mono ?_
        rintro e w8 ⟨rfl, hb8⟩
        replace hb7 := hb7.trans (hb8.mono hb7.size)
        clear r1 r2 r3 hb8
        have hk8 := Lib.hid (hk.out.below hb7 hl)
        have hl8 := hk8.out.lt
        have hw8 := Lib.hid (hw.out.trans (hb7.mono hw.out.size))
        have hs8 := Lib.hid hw.out.size
        clear hb7 hk hw
        simp only [atR]
        go_wp2_with fail
        have hz := hw8.out.size
        go_roundg (4 - (1 + 1))
        case measure => omega
        case rel => exact ⟨1 + 1, by omega, by omega, rfl, ((hw8.out.alloc (by first | (simp; done) | (simp; omega) | omega) _).alloc (by first | (simp; done) | (simp; omega) | omega) _).alloc (by first | (simp; done) | (simp; omega) | omega) _, ((hk8.out.alloc _).alloc _).alloc _⟩
      | 2, _ =>
        go_wp2_with fail
        refine (standard_any _).mono ?_
        rintro e w4 ⟨⟨rfl, r1⟩, hb4⟩
        go_wp2_with fail
        refine (terms_any _).mono ?_
        rintro e w5 ⟨⟨rfl, r2⟩, hb5⟩
        replace r1 := r1.below (Nat.le_refl _) hb5
        go_wp2_with fail
        refine (sent_any _ _).mono ?_
        rintro e w6 ⟨⟨rfl, r3⟩, hb6⟩
        replace r1 := r1.below (Nat.le_refl _) hb6
        replace r2 := r2.below (Nat.le_refl _) hb6
        have hb7 := (hb4.trans (hb5.mono hb4.size)).trans (hb6.mono (hb4.trans (hb5.mono hb4.size)).size)
        clear hb4 hb5 hb6 hc
        go_wp2_with fail
        refine (dec1_any 2 (by omega) _ _ _ _ r1 r2 r3).mono ?_
        rintro e w8 ⟨rfl, hb8⟩
        replace hb7 := hb7.trans (hb8.mono hb7.size)
        clear r1 r2 r3 hb8
        have hk8 := Lib.hid (hk.out.below hb7 hl)
        have hl8 := hk8.out.lt
        have hw8 := Lib.hid (hw.out.trans (hb7.mono hw.out.size))
        have hs8 := Lib.hid hw.out.size
        clear hb7 hk hw
        simp only [atR]
        go_wp2_with fail
        have hz := hw8.out.size
        go_roundg (4 - (2 + 1))
        case measure => omega
        case rel => exact ⟨2 + 1, by omega, by omega, rfl, ((hw8.out.alloc (by first | (simp; done) | (simp; omega) | omega) _).alloc (by first | (simp; done) | (simp; omega) | omega) _).alloc (by first | (simp; done) | (simp; omega) | omega) _, ((hk8.out.alloc _).alloc _).alloc _⟩
      | 3, _ =>
        go_wp2_with fail
        refine (standard_any _).mono ?_
        rintro e w4 ⟨⟨rfl, r1⟩, hb4⟩
        go_wp2_with fail
        refine (terms_any _).mono ?_
        rintro e w5 ⟨⟨rfl, r2⟩, hb5⟩
        replace r1 := r1.below (Nat.le_refl _) hb5
        go_wp2_with fail
        refine (sent_any _ _).mono ?_
        rintro e w6 ⟨⟨rfl, r3⟩, hb6⟩
        replace r1 := r1.below (Nat.le_refl _) hb6
        replace r2 := r2.below (Nat.le_refl _) hb6
        have hb7 := (hb4.trans (hb5.mono hb4.size)).trans (hb6.mono (hb4.trans (hb5.mono hb4.size)).size)
        clear hb4 hb5 hb6 hc
        go_wp2_with fail
        refine (dec1_any 3 (by omega) _ _ _ _ r1 r2 r3).mono ?_
        rintro e w8 ⟨rfl, hb8⟩
        replace hb7 := hb7.trans (hb8.mono hb7.size)
        clear r1 r2 r3 hb8
        have hk8 := Lib.hid (hk.out.below hb7 hl)
        have hl8 := hk8.out.lt
        have hw8 := Lib.hid (hw.out.trans (hb7.mono hw.out.size))
        have hs8 := Lib.hid hw.out.size
        clear hb7 hk hw
        simp only [atR]
        go_wp2_with fail
        have hz := hw8.out.size
        go_roundg (4 - (3 + 1))
        case measure => omega
        case rel => exact ⟨3 + 1, by omega, by omega, rfl, ((hw8.out.alloc (by first | (simp; done) | (simp; omega) | omega) _).alloc (by first | (simp; done) | (simp; omega) | omega) _).alloc (by first | (simp; done) | (simp; omega) | omega) _, ((hk8.out.alloc _).alloc _).alloc _⟩
    · have hj4 : j = 4 := by omega
      subst hj4
      clear hlt hg hj k1 hb1 hk hB
      go_wp2_with fail
      have k1 : Blk (wr.alloc (.cells #[.int .i64 12879, .int .i64 12880, .int .i64 46080] 3)) wr.heap.size #[.int .i64 12879, .int .i64 12880, .int .i64 46080] 3 := Blk.new rfl
      have hb1 := hw.out.alloc hw.out.size (.cells #[.int .i64 12879, .int .i64 12880, .int .i64 46080] 3)
      clear hw
      generalize wr.alloc (.cells #[.int .i64 12879, .int .i64 12880, .int .i64 46080] 3) = w4 at *
      generalize wr.heap.size = D at *
      go_loopg [57] 3 (fun gg s57 wr => ∃ j : Nat, j ≤ 3 ∧ 3 - j ≤ gg ∧ s57 = .int .i64 j ∧ Aside (Below w.heap.size w wr) ∧ Aside (Blk wr D #[.int .i64 12879, .int .i64 12880, .int .i64 46080] 3))
      case atStart => exact ⟨0, by omega, by omega, rfl, hb1, k1⟩
      case round =>
        obtain ⟨j, hj, hg, rfl, hw, hk⟩ := hrel
        by_cases hlt : j < 3
        · have hc := hk.out.cells
          have hl := hk.out.lt
          match j, hlt with
          | 0, _ =>
            go_wp2_with fail
            refine (standard_any _).mono ?_
            rintro e w4 ⟨⟨rfl, r1⟩, hb4⟩
            go_wp2_with fail
            refine (terms_any _).mono ?_
            rintro e w5 ⟨⟨rfl, r2⟩, hb5⟩
            replace r1 := r1.below (Nat.le_refl _) hb5
            go_wp2_with fail
            refine (sent_any _ _).mono ?_
            rintro e w6 ⟨⟨rfl, r3⟩, hb6⟩
            replace r1 := r1.below (Nat.le_refl _) hb6
            replace r2 := r2.below (Nat.le_refl _) hb6
            have hb7 := (hb4.trans (hb5.mono hb4.size)).trans (hb6.mono (hb4.trans (hb5.mono hb4.size)).size)
            clear hb4 hb5 hb6 hc
            go_wp2_with fail
            refine (dec2_any 0 (by omega) _ _ _ _ r1 r2 r3).mono ?_
            rintro e w8 ⟨rfl, hb8⟩
            replace hb7 := hb7.trans (hb8.mono hb7.size)
            clear r1 r2 r3 hb8
            have hk8 := Lib.hid (hk.out.below hb7 hl)
            have hl8 := hk8.out.lt
            have hw8 := Lib.hid (hw.out.trans (hb7.mono hw.out.size))
            have hs8 := Lib.hid hw.out.size
            clear hb7 hk hw
            simp only [loR]
            go_wp2_with fail
            have k9 : ∀ i, (w8.alloc (.cells #[.int .i64 4, .int .i64 (loR 0).cents, .int .u8 (loR 0).ver] 36)).cell? ⟨w8.heap.size, i, none⟩ = #[Value.int .i64 4, .int .i64 (loR 0).cents, .int .u8 (loR 0).ver][i]? := Blk.cells (Blk.new rfl)
            have b9 := Lib.hid (hw8.out.alloc hw8.out.size (.cells #[.int .i64 4, .int .i64 (loR 0).cents, .int .u8 (loR 0).ver] 36))
            have b10 := Lib.hid (hk8.out.alloc (.cells #[.int .i64 4, .int .i64 (loR 0).cents, .int .u8 (loR 0).ver] 36))
            simp only [loR] at k9 b9 b10
            generalize w8.alloc (.cells #[.int .i64 4, .int .i64 _, .int .u8 _] 36) = w9 at *
            generalize w8.heap.size = n8 at *
            clear hk8 hw8 hl8 w8
            have k90 := k9 0
            have k91 := k9 1
            have k92 := k9 2
            simp at k90 k91 k92
            clear k9
            have n90 := World.new_ne _ _ k90
            obtain ⟨o9, ho9⟩ : ∃ o : Obj, o = .cells #[.int .i64 4, .int .i64 0, .int .u8 4, .int .i64 4, .int .i64 5100, .int .u8 6, .int .i64 4, .int .i64 0, .int .u8 3] 36 := ⟨_, rfl⟩
            have d0 : w9.drew.cell? ⟨n8, 0, none⟩ = _ := k90
            have d1 : w9.drew.cell? ⟨n8, 1, none⟩ = _ := k91
            have d2 : w9.drew.cell? ⟨n8, 2, none⟩ = _ := k92
            have f0 : (w9.drew.alloc o9).cell? ⟨n8, 0, none⟩ = some (.int .i64 4) := (World.cell?_alloc_some w9.drew ⟨n8, 0, none⟩ o9 (by rw [d0]; rfl)).trans d0
            have f1 : (w9.drew.alloc o9).cell? ⟨n8, 1, none⟩ = some (.int .i64 0) := (World.cell?_alloc_some w9.drew ⟨n8, 1, none⟩ o9 (by rw [d1]; rfl)).trans d1
            have f2 : (w9.drew.alloc o9).cell? ⟨n8, 2, none⟩ = some (.int .u8 4) := (World.cell?_alloc_some w9.drew ⟨n8, 2, none⟩ o9 (by rw [d2]; rfl)).trans d2
            have g0 : (w9.alloc o9).cell? ⟨n8, 0, none⟩ = some (.int .i64 4) := f0
            have g1 : (w9.alloc o9).cell? ⟨n8, 1, none⟩ = some (.int .i64 0) := f1
            have g2 : (w9.alloc o9).cell? ⟨n8, 2, none⟩ = some (.int .u8 4) := f2
            have f0' : (w9.alloc o9).drew.cell? ⟨n8, 0, none⟩ = some (.int .i64 4) := f0
            have f1' : (w9.alloc o9).drew.cell? ⟨n8, 1, none⟩ = some (.int .i64 0) := f1
            have f2' : (w9.alloc o9).drew.cell? ⟨n8, 2, none⟩ = some (.int .u8 4) := f2
            rw [ho9] at f0 f1 f2 f0' f1' f2' g0 g1 g2
            go_region_with (fail)
            all_goals (have hz := b9.out.size)
            all_goals (go_wp2_with fail)
            all_goals
              go_roundg (3 - (0 + 1))
              case measure => omega
              case rel => exact ⟨0 + 1, by omega, by omega, rfl, by first | exact (b9.out.alloc (by first | (simp; done) | (simp; omega) | omega) _).drew | exact b9.out.drew.alloc (by first | (simp; done) | (simp; omega) | omega) _, b10.out.alloc _⟩
          | 1, _ =>
            go_wp2_with fail
            refine (standard_any _).mono ?_
            rintro e w4 ⟨⟨rfl, r1⟩, hb4⟩
            go_wp2_with fail
            refine (terms_any _).mono ?_
            rintro e w5 ⟨⟨rfl, r2⟩, hb5⟩
            replace r1 := r1.below (Nat.le_refl _) hb5
            go_wp2_with fail
            refine (sent_any _ _).mono ?_
            rintro e w6 ⟨⟨rfl, r3⟩, hb6⟩
            replace r1 := r1.below (Nat.le_refl _) hb6
            replace r2 := r2.below (Nat.le_refl _) hb6
            have hb7 := (hb4.trans (hb5.mono hb4.size)).trans (hb6.mono (hb4.trans (hb5.mono hb4.size)).size)
            clear hb4 hb5 hb6 hc
            go_wp2_with fail
            refine (dec2_any 1 (by omega) _ _ _ _ r1 r2 r3).mono ?_
            rintro e w8 ⟨rfl, hb8⟩
            replace hb7 := hb7.trans (hb8.mono hb7.size)
            clear r1 r2 r3 hb8
            have hk8 := Lib.hid (hk.out.below hb7 hl)
            have hl8 := hk8.out.lt
            have hw8 := Lib.hid (hw.out.trans (hb7.mono hw.out.size))
            have hs8 := Lib.hid hw.out.size
            clear hb7 hk hw
            simp only [loR]
            go_wp2_with fail
            have k9 : ∀ i, (w8.alloc (.cells #[.int .i64 4, .int .i64 (loR 1).cents, .int .u8 (loR 1).ver] 36)).cell? ⟨w8.heap.size, i, none⟩ = #[Value.int .i64 4, .int .i64 (loR 1).cents, .int .u8 (loR 1).ver][i]? := Blk.cells (Blk.new rfl)
            have b9 := Lib.hid (hw8.out.alloc hw8.out.size (.cells #[.int .i64 4, .int .i64 (loR 1).cents, .int .u8 (loR 1).ver] 36))
            have b10 := Lib.hid (hk8.out.alloc (.cells #[.int .i64 4, .int .i64 (loR 1).cents, .int .u8 (loR 1).ver] 36))
            simp only [loR] at k9 b9 b10
            generalize w8.alloc (.cells #[.int .i64 4, .int .i64 _, .int .u8 _] 36) = w9 at *
            generalize w8.heap.size = n8 at *
            clear hk8 hw8 hl8 w8
            have k90 := k9 0
            have k91 := k9 1
            have k92 := k9 2
            simp at k90 k91 k92
            clear k9
            have n90 := World.new_ne _ _ k90
            obtain ⟨o9, ho9⟩ : ∃ o : Obj, o = .cells #[.int .i64 4, .int .i64 0, .int .u8 4, .int .i64 4, .int .i64 5100, .int .u8 6, .int .i64 4, .int .i64 0, .int .u8 3] 36 := ⟨_, rfl⟩
            have d0 : w9.drew.cell? ⟨n8, 0, none⟩ = _ := k90
            have d1 : w9.drew.cell? ⟨n8, 1, none⟩ = _ := k91
            have d2 : w9.drew.cell? ⟨n8, 2, none⟩ = _ := k92
            have f0 : (w9.drew.alloc o9).cell? ⟨n8, 0, none⟩ = some (.int .i64 4) := (World.cell?_alloc_some w9.drew ⟨n8, 0, none⟩ o9 (by rw [d0]; rfl)).trans d0
            have f1 : (w9.drew.alloc o9).cell? ⟨n8, 1, none⟩ = some (.int .i64 5100) := (World.cell?_alloc_some w9.drew ⟨n8, 1, none⟩ o9 (by rw [d1]; rfl)).trans d1
            have f2 : (w9.drew.alloc o9).cell? ⟨n8, 2, none⟩ = some (.int .u8 6) := (World.cell?_alloc_some w9.drew ⟨n8, 2, none⟩ o9 (by rw [d2]; rfl)).trans d2
            have g0 : (w9.alloc o9).cell? ⟨n8, 0, none⟩ = some (.int .i64 4) := f0
            have g1 : (w9.alloc o9).cell? ⟨n8, 1, none⟩ = some (.int .i64 5100) := f1
            have g2 : (w9.alloc o9).cell? ⟨n8, 2, none⟩ = some (.int .u8 6) := f2
            have f0' : (w9.alloc o9).drew.cell? ⟨n8, 0, none⟩ = some (.int .i64 4) := f0
            have f1' : (w9.alloc o9).drew.cell? ⟨n8, 1, none⟩ = some (.int .i64 5100) := f1
            have f2' : (w9.alloc o9).drew.cell? ⟨n8, 2, none⟩ = some (.int .u8 6) := f2
            rw [ho9] at f0 f1 f2 f0' f1' f2' g0 g1 g2
            go_region_with (fail)
            all_goals (have hz := b9.out.size)
            all_goals (go_wp2_with fail)
            all_goals
              go_roundg (3 - (1 + 1))
              case measure => omega
              case rel => exact ⟨1 + 1, by omega, by omega, rfl, by first | exact (b9.out.alloc (by first | (simp; done) | (simp; omega) | omega) _).drew | exact b9.out.drew.alloc (by first | (simp; done) | (simp; omega) | omega) _, b10.out.alloc _⟩
          | 2, _ =>
            go_wp2_with fail
            refine (standard_any _).mono ?_
            rintro e w4 ⟨⟨rfl, r1⟩, hb4⟩
            go_wp2_with fail
            refine (terms_any _).mono ?_
            rintro e w5 ⟨⟨rfl, r2⟩, hb5⟩
            replace r1 := r1.below (Nat.le_refl _) hb5
            go_wp2_with fail
            refine (sent_any _ _).mono ?_
            rintro e w6 ⟨⟨rfl, r3⟩, hb6⟩
            replace r1 := r1.below (Nat.le_refl _) hb6
            replace r2 := r2.below (Nat.le_refl _) hb6
            have hb7 := (hb4.trans (hb5.mono hb4.size)).trans (hb6.mono (hb4.trans (hb5.mono hb4.size)).size)
            clear hb4 hb5 hb6 hc
            go_wp2_with fail
            refine (dec2_any 2 (by omega) _ _ _ _ r1 r2 r3).mono ?_
            rintro e w8 ⟨rfl, hb8⟩
            replace hb7 := hb7.trans (hb8.mono hb7.size)
            clear r1 r2 r3 hb8
            have hk8 := Lib.hid (hk.out.below hb7 hl)
            have hl8 := hk8.out.lt
            have hw8 := Lib.hid (hw.out.trans (hb7.mono hw.out.size))
            have hs8 := Lib.hid hw.out.size
            clear hb7 hk hw
            simp only [loR]
            go_wp2_with fail
            have k9 : ∀ i, (w8.alloc (.cells #[.int .i64 4, .int .i64 (loR 2).cents, .int .u8 (loR 2).ver] 36)).cell? ⟨w8.heap.size, i, none⟩ = #[Value.int .i64 4, .int .i64 (loR 2).cents, .int .u8 (loR 2).ver][i]? := Blk.cells (Blk.new rfl)
            have b9 := Lib.hid (hw8.out.alloc hw8.out.size (.cells #[.int .i64 4, .int .i64 (loR 2).cents, .int .u8 (loR 2).ver] 36))
            have b10 := Lib.hid (hk8.out.alloc (.cells #[.int .i64 4, .int .i64 (loR 2).cents, .int .u8 (loR 2).ver] 36))
            simp only [loR] at k9 b9 b10
            generalize w8.alloc (.cells #[.int .i64 4, .int .i64 _, .int .u8 _] 36) = w9 at *
            generalize w8.heap.size = n8 at *
            clear hk8 hw8 hl8 w8
            have k90 := k9 0
            have k91 := k9 1
            have k92 := k9 2
            simp at k90 k91 k92
            clear k9
            have n90 := World.new_ne _ _ k90
            obtain ⟨o9, ho9⟩ : ∃ o : Obj, o = .cells #[.int .i64 4, .int .i64 0, .int .u8 4, .int .i64 4, .int .i64 5100, .int .u8 6, .int .i64 4, .int .i64 0, .int .u8 3] 36 := ⟨_, rfl⟩
            have d0 : w9.drew.cell? ⟨n8, 0, none⟩ = _ := k90
            have d1 : w9.drew.cell? ⟨n8, 1, none⟩ = _ := k91
            have d2 : w9.drew.cell? ⟨n8, 2, none⟩ = _ := k92
            have f0 : (w9.drew.alloc o9).cell? ⟨n8, 0, none⟩ = some (.int .i64 4) := (World.cell?_alloc_some w9.drew ⟨n8, 0, none⟩ o9 (by rw [d0]; rfl)).trans d0
            have f1 : (w9.drew.alloc o9).cell? ⟨n8, 1, none⟩ = some (.int .i64 0) := (World.cell?_alloc_some w9.drew ⟨n8, 1, none⟩ o9 (by rw [d1]; rfl)).trans d1
            have f2 : (w9.drew.alloc o9).cell? ⟨n8, 2, none⟩ = some (.int .u8 3) := (World.cell?_alloc_some w9.drew ⟨n8, 2, none⟩ o9 (by rw [d2]; rfl)).trans d2
            have g0 : (w9.alloc o9).cell? ⟨n8, 0, none⟩ = some (.int .i64 4) := f0
            have g1 : (w9.alloc o9).cell? ⟨n8, 1, none⟩ = some (.int .i64 0) := f1
            have g2 : (w9.alloc o9).cell? ⟨n8, 2, none⟩ = some (.int .u8 3) := f2
            have f0' : (w9.alloc o9).drew.cell? ⟨n8, 0, none⟩ = some (.int .i64 4) := f0
            have f1' : (w9.alloc o9).drew.cell? ⟨n8, 1, none⟩ = some (.int .i64 0) := f1
            have f2' : (w9.alloc o9).drew.cell? ⟨n8, 2, none⟩ = some (.int .u8 3) := f2
            rw [ho9] at f0 f1 f2 f0' f1' f2' g0 g1 g2
            go_region_with (fail)
            all_goals (have hz := b9.out.size)
            all_goals (go_wp2_with fail)
            all_goals
              go_roundg (3 - (2 + 1))
              case measure => omega
              case rel => exact ⟨2 + 1, by omega, by omega, rfl, by first | exact (b9.out.alloc (by first | (simp; done) | (simp; omega) | omega) _).drew | exact b9.out.drew.alloc (by first | (simp; done) | (simp; omega) | omega) _, b10.out.alloc _⟩
        · have hj4 : j = 3 := by omega
          subst hj4
          go_wp2_with fail
          go_ret
          exact ⟨rfl, hw.out⟩
end Go.Proofs.YtnnppnlekpadnaaGreat
