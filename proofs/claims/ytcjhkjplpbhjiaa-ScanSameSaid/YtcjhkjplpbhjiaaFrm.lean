/- Forms: what Built makes of them. Contracts of behind and Built. -/
import Derived.Test.YtcjhkjplpbhjiaaAwake
namespace Go.Proofs.Ytcjhkjplpbhjiaa
open Go.RowKit Go.Proofs
set_option maxRecDepth 100000

structure Frm where
  item : Int
  place : Int
  scanner : Int
  kind : Int
  at_ : Int
  late : Int
  deriving Inhabited, DecidableEq
def encFrm (x : Frm) : List Value := [.int .u8 x.item, .int .u8 x.place, .int .u8 x.scanner, .int .u8 x.kind, .int .u16 x.at_, .int .u8 x.late]
def encI8 (x : Int) : List Value := [.int .i8 x]
def encI (x : Int) : List Value := [.int .i64 x]
def FrmOk (x : Frm) : Prop := (0 ≤ x.item ∧ x.item ≤ 255) ∧ (0 ≤ x.place ∧ x.place ≤ 255) ∧ (0 ≤ x.scanner ∧ x.scanner ≤ 255) ∧ (0 ≤ x.kind ∧ x.kind ≤ 255) ∧ (0 ≤ x.at_ ∧ x.at_ ≤ 65535) ∧ (0 ≤ x.late ∧ x.late ≤ 255)

def clk (cl : List Int) (scanner : Int) : Int := cl.getD (scanner - 1).toNat 0
def timeOf (f : Frm) : Int := 14400 + f.at_ % 5760
def scnOf (cl : List Int) (f : Frm) : Scn := ⟨1 + f.item % 4, 1 + f.place % 4, 1 + f.scanner % 4, 1 + f.kind % 4, timeOf f - clk cl (1 + f.scanner % 4), timeOf f + f.late⟩
def builtS (cl : List Int) (l : List Frm) : List Scn := (l.take 24).map (scnOf cl)
def builtT (l : List Frm) : List Int := (l.take 24).map timeOf
theorem clk_bd (cl : List Int) (h : ∀ x ∈ cl, -128 ≤ x ∧ x ≤ 127) (k : Int) : -128 ≤ clk cl k ∧ clk cl k ≤ 127 := by
  unfold clk
  rw [List.getD_eq_getElem?_getD]
  cases e : cl[(k - 1).toNat]? with
  | none => simp
  | some x => simp; exact h x (List.mem_of_getElem? e)

set_option maxHeartbeats 1000000 in
theorem behind_any (A : Option Addr) (c : Nat) (cl : List Int) (k : Int) (w : World) (hr : Rd encI8 1 w A cl) (h8 : ∀ x ∈ cl, -128 ≤ x ∧ x ≤ 127) (hk : 1 ≤ k) (hk2 : k ≤ 1000000) :
    Calls Try.prog 18 #[.slice A cl.length c, .int .i64 k] w fun e w' => e = .returned (.int .i64 (clk cl k)) ∧ w = w' := by
  obtain ⟨n, rfl⟩ : ∃ n : Nat, k = (n : Int) + 1 := ⟨(k - 1).toNat, by omega⟩
  have e : clk cl ((n : Int) + 1) = cl.getD n 0 := by unfold clk; congr 1; omega
  by_cases h : n < cl.length
  · have hx : cl[n]? = some cl[n] := List.getElem?_eq_getElem h
    have e2 : clk cl ((n : Int) + 1) = cl[n] := by rw [e, List.getD_eq_getElem?_getD, hx]; rfl
    have h9 := h8 cl[n] (List.getElem_mem h)
    rw [e2]
    obtain ⟨b, o, rfl, hb, hl⟩ := hr.at hx
    generalize cl[n] = x at *
    have hl0 := hl 0 _ rfl
    rw [Nat.mul_one, Nat.add_zero] at hl0
    have wx : IntKind.i64.wrap x = x := IntWalk.i64_in _ (by omega)
    have s1 : IntKind.i64.wrap ((n : Int) + 1 - 1) = (n : Int) := by rw [IntWalk.i64_in _ (by omega)]; omega
    have s2 : (n : Int) < cl.length := by omega
    clear hl hx e e2 hr h8
    go_enter Try.func18, Try.ntmps18
    go_wp2_with fail
    go_ret
    exact ⟨rfl, rfl⟩
  · have e2 : clk cl ((n : Int) + 1) = 0 := by rw [e, List.getD_eq_getElem?_getD, List.getElem?_eq_none (by omega)]; rfl
    have s1 : IntKind.i64.wrap ((n : Int) + 1 - 1) = (n : Int) := by rw [IntWalk.i64_in _ (by omega)]; omega
    have s2 : ¬ (n : Int) < cl.length := by omega
    rw [e2]
    clear e e2 hr h8
    go_enter Try.func18, Try.ntmps18
    go_wp2_with fail
    go_ret
    exact ⟨rfl, rfl⟩

theorem infScn : (Try.prog.info? 24).map (fun i => (i.zero, i.size, i.bytes)) = some (some (.agg #[.int .i64 0, .int .i64 0, .int .i64 0, .int .u8 0, .int .i64 0, .int .i64 0]), 6, 48) := by kernel_rfl
theorem infInt : (Try.prog.info? 3).map (fun i => (i.zero, i.size, i.bytes)) = some (some (.int .i64 0), 1, 8) := by kernel_rfl
theorem scn_one (x : Scn) : ∀ u ∈ encScn x, u.oneCell' = true := by
  intro u hu
  simp [encScn] at hu
  rcases hu with rfl | rfl | rfl | rfl | rfl | rfl <;> rfl
theorem int_one (x : Int) : ∀ u ∈ encI x, u.oneCell' = true := by
  intro u hu
  simp [encI] at hu
  subst hu; rfl

set_option maxHeartbeats 4000000 in
theorem built_any (A B : Option Addr) (c d : Nat) (l : List Frm) (cl : List Int) (w : World) (hr : Rd encFrm 6 w A l) (hrc : Rd encI8 1 w B cl) (hcap : l.length ≤ c) (hok : ∀ f ∈ l, FrmOk f) (h8 : ∀ x ∈ cl, -128 ≤ x ∧ x ≤ 127) :
    Calls Try.prog 17 #[.slice A l.length c, .slice B cl.length d] w fun e w' => ∃ v1 v2, e = .returned (.tuple #[v1, v2]) ∧ Own2 encScn encI 6 1 w.heap.size 24 3 w' v1 v2 (builtS cl l) (builtT l) ∧ Below w.heap.size w w' := by
  obtain ⟨i0, hi, hz0, hz1, hz2⟩ := info_parts2 infScn
  obtain ⟨i1, hi', hz0', hz1', hz2'⟩ := info_parts2 infInt
  have HR := Lib.hid hr
  have HRC := Lib.hid hrc
  have OK := Lib.hid hok
  have H8 := Lib.hid h8
  clear hr hrc hok h8
  have hm1 : min (l.length : Int) 24 = ((min l.length 24 : Nat) : Int) := by omega
  have hm2 : min l.length 24 ≤ c := by omega
  go_enter Try.func17, Try.ntmps17
  go_wp2_with fail
  obtain ⟨N, hN⟩ : ∃ N, N = min l.length 24 := ⟨_, rfl⟩
  have hN1 : N ≤ l.length := by omega
  have hN2 : N ≤ 24 := by omega
  have HN := Lib.hid hN
  rw [← hN]
  clear hm1 hN
  go_loopg [6, 7, 18] N (fun gg s6 s7 s18 wr => ∃ j : Nat, j ≤ N ∧ N - j ≤ gg ∧ s18 = .int .i64 j ∧ Aside (Below w.heap.size w wr) ∧ Aside (Own2 encScn encI 6 1 w.heap.size 24 3 wr s6 s7 ((l.take j).map (scnOf cl)) ((l.take j).map timeOf)))
  case atStart => exact ⟨0, Nat.zero_le _, by omega, rfl, Below.refl _ _, Own2.nil⟩
  case round =>
    obtain ⟨j, hj, hg, rfl, BW, OW⟩ := hrel
    by_cases hlt : j < N
    · have hx : l[j]? = some l[j] := List.getElem?_eq_getElem (by omega)
      obtain ⟨b, o, rfl, hb, hl⟩ := (HR.out.below (Nat.le_refl _) BW.out).at hx
      have HA : Hid ((l.take (j + 1)).map (scnOf cl) = (l.take j).map (scnOf cl) ++ [scnOf cl l[j]]) := Lib.hid (by rw [List.take_add_one, hx, List.map_append]; rfl)
      have HB : Hid ((l.take (j + 1)).map timeOf = (l.take j).map timeOf ++ [timeOf l[j]]) := Lib.hid (by rw [List.take_add_one, hx, List.map_append]; rfl)
      have hAl : ((l.take j).map (scnOf cl)).length ≤ 24 := by rw [List.length_map, List.length_take]; omega
      have hBl : ((l.take j).map timeOf).length ≤ 24 := by rw [List.length_map, List.length_take]; omega
      obtain ⟨⟨f1, f2⟩, ⟨f3, f4⟩, ⟨f5, f6⟩, ⟨f7, f8⟩, ⟨f9, f10⟩, f11, f12⟩ := OK.out l[j] (List.getElem_mem (by omega))
      generalize l[j] = x at *
      generalize (l.take j).map (scnOf cl) = P at *
      generalize (l.take j).map timeOf = T at *
      have hl0 := hl 0 _ rfl; have hl1 := hl 1 _ rfl; have hl2 := hl 2 _ rfl; have hl3 := hl 3 _ rfl; have hl4 := hl 4 _ rfl; have hl5 := hl 5 _ rfl; rw [Nat.add_zero] at hl0; clear hl
      clear hx
      have hws := BW.out.size
      have hd := Lib.hid (clk_bd cl H8.out (1 + x.scanner % 4))
      have kc := Lib.hid (fun (V : World) (hV : Below w.heap.size w V) => behind_any B d cl (1 + x.scanner % 4) V (HRC.out.below (Nat.le_refl _) hV) H8.out (by omega) (by omega))
      have ey : Hid (scnOf cl x = ⟨1 + x.item % 4, 1 + x.place % 4, 1 + x.scanner % 4, 1 + x.kind % 4, 14400 + x.at_ % 5760 - clk cl (1 + x.scanner % 4), 14400 + x.at_ % 5760 + x.late⟩) := Lib.hid rfl
      have et : Hid (timeOf x = 14400 + x.at_ % 5760) := Lib.hid rfl
      generalize clk cl (1 + x.scanner % 4) = k at *
      obtain ⟨k1, k2⟩ := hd.out
      generalize scnOf cl x = y at *
      generalize timeOf x = tm at *
      go_wp2_with fail
      refine (kc.out _ ((BW.out.alloc hws _).alloc (by simp; omega) _)).mono ?_
      rintro e w3 ⟨rfl, rfl⟩
      have BX := Lib.hid ((BW.out.alloc hws (.cells #[.int .u8 x.item, .int .u8 x.place, .int .u8 x.scanner, .int .u8 x.kind, .int .u16 x.at_, .int .u8 x.late] 79)).alloc (by simp; omega) (.cells #[.int .i64 (1 + x.item % 4), .int .i64 (1 + x.place % 4), .int .i64 (1 + x.scanner % 4), .int .u8 (1 + x.kind % 4), .int .i64 (14400 + x.at_ % 5760 - k), .int .i64 (14400 + x.at_ % 5760 + x.late)] 24))
      have O1 := OW.out.below (((Below.refl _ _).alloc (Nat.le_refl _) (.cells #[.int .u8 x.item, .int .u8 x.place, .int .u8 x.scanner, .int .u8 x.kind, .int .u16 x.at_, .int .u8 x.late] 79)).alloc (by simp) (.cells #[.int .i64 (1 + x.item % 4), .int .i64 (1 + x.place % 4), .int .i64 (1 + x.scanner % 4), .int .u8 (1 + x.kind % 4), .int .i64 (14400 + x.at_ % 5760 - k), .int .i64 (14400 + x.at_ % 5760 + x.late)] 24))
      have O2 := Lib.hid (O1.below ((Below.refl _ _).alloc (Nat.le_refl _) (.cells #[.int .i64 (1 + x.item % 4), .int .i64 (1 + x.place % 4), .int .i64 (1 + x.scanner % 4), .int .u8 (1 + x.kind % 4), .int .i64 (14400 + x.at_ % 5760 - k), .int .i64 (14400 + x.at_ % 5760 + x.late)] 24)))
      have B2 := Lib.hid (BX.out.alloc BX.out.size (.cells #[.int .i64 (1 + x.item % 4), .int .i64 (1 + x.place % 4), .int .i64 (1 + x.scanner % 4), .int .u8 (1 + x.kind % 4), .int .i64 (14400 + x.at_ % 5760 - k), .int .i64 (14400 + x.at_ % 5760 + x.late)] 24))
      have cn := cells_new ((wr.alloc (.cells #[.int .u8 x.item, .int .u8 x.place, .int .u8 x.scanner, .int .u8 x.kind, .int .u16 x.at_, .int .u8 x.late] 79)).alloc (.cells #[.int .i64 (1 + x.item % 4), .int .i64 (1 + x.place % 4), .int .i64 (1 + x.scanner % 4), .int .u8 (1 + x.kind % 4), .int .i64 (14400 + x.at_ % 5760 - k), .int .i64 (14400 + x.at_ % 5760 + x.late)] 24)) (encScn ⟨1 + x.item % 4, 1 + x.place % 4, 1 + x.scanner % 4, 1 + x.kind % 4, 14400 + x.at_ % 5760 - k, 14400 + x.at_ % 5760 + x.late⟩) 24
      rw [World.size_alloc, World.size_alloc] at cn
      have CN := Lib.hid cn
      clear O1 BX cn
      go_wp2_with (first | (at_builtin; refine wpList_append_own_at _ rfl _ _ 39 rfl w.heap.size 24 i0 _ 6 48 Try.underlying39 hi hz0 hz1 hz2 rfl (by decide) _ P.length (P.flatMap encScn) rfl O2.out.oA ⟨wr.heap.size + 1 + 1, 0, none⟩ 1 1 (encScn ⟨1 + x.item % 4, 1 + x.place % 4, 1 + x.scanner % 4, 1 + x.kind % 4, 14400 + x.at_ % 5760 - k, 14400 + x.at_ % 5760 + x.late⟩) rfl rfl CN.out (scn_one _) (by unfold maxLen; omega) (by omega) B2.out.size ?_; intro v1 w4 hown' hgrow _ hblk; have O3 := Lib.hid (O2.out.growA (A' := P ++ [⟨1 + x.item % 4, 1 + x.place % 4, 1 + x.scanner % 4, 1 + x.kind % 4, 14400 + x.at_ % 5760 - k, 14400 + x.at_ % 5760 + x.late⟩]) (by rw [List.flatMap_append, List.length_append]; simpa using hown') hgrow hblk); have B3 := Lib.hid (B2.out.grown hgrow B2.out.size (fun k e => own_ge O2.out.oA e)); clear hown' hgrow hblk O2 B2 CN) | (at_builtin; refine wpList_append_own_at _ rfl _ _ 40 rfl w.heap.size 3 i1 _ 1 8 Try.underlying40 hi' hz0' hz1' hz2' rfl (by decide) _ T.length (T.flatMap encI) rfl (own_below O3.out.oB ((Below.refl _ _).alloc (Nat.le_refl _) _)) ⟨w4.heap.size, 0, none⟩ 1 1 (encI (14400 + x.at_ % 5760)) rfl rfl (cells_new w4 (encI (14400 + x.at_ % 5760)) 3) (int_one _) (by unfold maxLen; omega) (by omega) (by have := B3.out.size; simp; omega) ?_; intro v2 w5 hown' hgrow _ hblk))
      have O4a := O3.out.below ((Below.refl _ _).alloc (Nat.le_refl _) (.cells #[.int .i64 (14400 + x.at_ % 5760)] 3))
      have O4 := Lib.hid (O4a.growB (B' := T ++ [14400 + x.at_ % 5760]) (by rw [List.flatMap_append, List.length_append]; simpa using hown') hgrow hblk)
      have B4 := Lib.hid ((B3.out.alloc B3.out.size (.cells #[.int .i64 (14400 + x.at_ % 5760)] 3)).grown hgrow (by have := B3.out.size; simp; omega) (fun k e => own_ge O3.out.oB e))
      clear hown' hgrow hblk O4a
      go_wp2_with fail
      go_roundg (N - (j + 1))
      case measure => omega
      case rel => exact ⟨j + 1, by omega, by omega, by go_num, B4.out, by rw [Aside, HA.out, HB.out, ey.out, et.out]; exact O4.out⟩
    · have hjl : j = N := by omega
      subst hjl
      have e1 : l.take j = l.take 24 := by
        rw [HN.out]
        rcases Nat.le_total l.length 24 with h | h
        · rw [Nat.min_eq_left h, List.take_length, List.take_of_length_le h]
        · rw [Nat.min_eq_right h]
      have O9 := OW.out
      rw [e1] at O9
      have O9 := Lib.hid (show Own2 encScn encI 6 1 w.heap.size 24 3 wr u6 u7 (builtS cl l) (builtT l) from O9)
      have B9 := Lib.hid BW.out
      clear e1 OW BW
      go_wp2_with fail
      go_ret2
      exact ⟨_, _, rfl, O9.out, B9.out⟩
end Go.Proofs.Ytcjhkjplpbhjiaa
