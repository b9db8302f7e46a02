/- Contract of the laws' awake. -/
import Derived.Test.YtcjhkjplpbhjiaaTop
namespace Go.Proofs.Ytcjhkjplpbhjiaa
open Go.RowKit Go.Proofs Go.Sort
set_option maxRecDepth 100000

theorem rd_blk {α : Type} {enc : α → List Value} {k : Nat} (hk : ∀ x, (enc x).length = k) {W : World} {n : Nat} {arr : Array Value} {T : TypeId} {xs : List α} (h : Blk W n arr T) (e : arr.toList = xs.flatMap enc) : Rd enc k W (some ⟨n, 0, none⟩) xs := fun _ => by
  refine ⟨n, 0, rfl, h.lt, fun j x hj i v hi => ?_⟩
  have hik : i < k := by
    rcases Nat.lt_or_ge i k with h | h
    · exact h
    · rw [List.getElem?_eq_none (by rw [hk]; exact h)] at hi; cases hi
  rw [h.cells, ← Array.getElem?_toList, e, Nat.zero_add, flat_get hk xs j i x hj hik]
  exact hi

def aL : List Scn := [⟨7, 3, 1, 1, 60, 400⟩, ⟨7, 3, 1, 1, 50, 150⟩, ⟨7, 3, 1, 1, 2000, 2140⟩]
def bL : List Scn := [⟨7, 3, 1, 1, 160, 160⟩, ⟨7, 3, 2, 1, 150, 150⟩]
def cL : List Scn := [⟨7, 3, 1, 1, 161, 161⟩, ⟨7, 3, 2, 1, 150, 150⟩]
def aM : List Mrk := [⟨1, 50, 100⟩, ⟨1, 2000, 140⟩]
def aK : List Evt := [⟨⟨7, 3, 1, 1, 50, 150⟩, 150⟩, ⟨⟨7, 3, 1, 1, 2000, 2140⟩, 2140⟩]
def bK : List Evt := [⟨⟨7, 3, 2, 1, 150, 150⟩, 150⟩]
def cK : List Evt := [⟨⟨7, 3, 2, 1, 150, 150⟩, 150⟩, ⟨⟨7, 3, 1, 1, 161, 161⟩, 161⟩]
theorem aM_eq : marksR aL = aM := by decide
theorem aE_eq : errR aL = 0 := by decide
theorem bE_eq : errR bL = 0 := by decide
theorem cE_eq : errR cL = 0 := by decide
theorem aK_eq : keptR aL = aK := by decide
theorem bK_eq : keptR bL = bK := by decide
theorem cK_eq : keptR cL = cK := by decide
theorem t1_eq : timeR aM ⟨7, 3, 1, 1, 60, 400⟩ = .tuple #[.int .i64 160, .int .i64 0] := by kernel_rfl
theorem t2_eq : timeR aM ⟨7, 3, 1, 1, 1025, 5000⟩ = .tuple #[.int .i64 1145, .int .i64 0] := by kernel_rfl
theorem t3_eq : timeR aM ⟨7, 3, 2, 1, 60, 400⟩ = .tuple #[.int .i64 60, .int .i64 0] := by kernel_rfl

theorem marksA_any (B : Nat) (W : World) (h : Rd encScn 6 W (some ⟨B, 0, none⟩) aL) :
    Calls Try.prog 20 #[.slice (some ⟨B, 0, none⟩) 3 3] W fun e w' => ∃ b o c', e = .returned (.tuple #[.slice (some ⟨b, o, none⟩) 2 c', .int .i64 0]) ∧ Rd encMrk 3 w' (some ⟨b, o, none⟩) aM ∧ Below W.heap.size W w' := by
  have := Marks_any (some ⟨B, 0, none⟩) 3 aL W h (by decide)
  rw [aM_eq, aE_eq] at this
  refine this.mono ?_
  rintro e w' ⟨A', c', rfl, hr, hb⟩
  obtain ⟨b, o, rfl, -, -⟩ := hr.ne (by simp [aM])
  exact ⟨b, o, c', rfl, hr, hb⟩
theorem ordera_any (B : Nat) (W : World) (h : Rd encScn 6 W (some ⟨B, 0, none⟩) aL) :
    Calls Try.prog 19 #[.slice (some ⟨B, 0, none⟩) 3 3] W fun e w' => ∃ b o c', e = .returned (.tuple #[.slice (some ⟨b, o, none⟩) 2 c', .int .i64 0]) ∧ Rd encEvt 7 w' (some ⟨b, o, none⟩) aK ∧ Below W.heap.size W w' := by
  have := Order_any (some ⟨B, 0, none⟩) 3 aL W h (by decide)
  rw [aK_eq, aE_eq] at this
  refine this.mono ?_
  rintro e w' ⟨A', c', rfl, hr, hb⟩
  obtain ⟨b, o, rfl, -, -⟩ := hr.ne (by simp [aK])
  exact ⟨b, o, c', rfl, hr, hb⟩
theorem orderb_any (B : Nat) (W : World) (h : Rd encScn 6 W (some ⟨B, 0, none⟩) bL) :
    Calls Try.prog 19 #[.slice (some ⟨B, 0, none⟩) 2 2] W fun e w' => ∃ b o c', e = .returned (.tuple #[.slice (some ⟨b, o, none⟩) 1 c', .int .i64 0]) ∧ Rd encEvt 7 w' (some ⟨b, o, none⟩) bK ∧ Below W.heap.size W w' := by
  have := Order_any (some ⟨B, 0, none⟩) 2 bL W h (by decide)
  rw [bK_eq, bE_eq] at this
  refine this.mono ?_
  rintro e w' ⟨A', c', rfl, hr, hb⟩
  obtain ⟨b, o, rfl, -, -⟩ := hr.ne (by simp [bK])
  exact ⟨b, o, c', rfl, hr, hb⟩
theorem orderc_any (B : Nat) (W : World) (h : Rd encScn 6 W (some ⟨B, 0, none⟩) cL) :
    Calls Try.prog 19 #[.slice (some ⟨B, 0, none⟩) 2 2] W fun e w' => ∃ b o c', e = .returned (.tuple #[.slice (some ⟨b, o, none⟩) 2 c', .int .i64 0]) ∧ Rd encEvt 7 w' (some ⟨b, o, none⟩) cK ∧ Below W.heap.size W w' := by
  have := Order_any (some ⟨B, 0, none⟩) 2 cL W h (by decide)
  rw [cK_eq, cE_eq] at this
  refine this.mono ?_
  rintro e w' ⟨A', c', rfl, hr, hb⟩
  obtain ⟨b, o, rfl, -, -⟩ := hr.ne (by simp [cK])
  exact ⟨b, o, c', rfl, hr, hb⟩
theorem time1_any (b o c : Nat) (W : World) (h : Rd encMrk 3 W (some ⟨b, o, none⟩) aM) :
    Calls Try.prog 12 #[.slice (some ⟨b, o, none⟩) 2 c, .agg #[.int .i64 7, .int .i64 3, .int .i64 1, .int .u8 1, .int .i64 60, .int .i64 400]] W fun e w' => e = .returned (.tuple #[.int .i64 160, .int .i64 0]) ∧ Below W.heap.size W w' := by
  have := time_any (some ⟨b, o, none⟩) c aM ⟨7, 3, 1, 1, 60, 400⟩ W h (by decide)
  rw [t1_eq] at this
  exact this
theorem time2_any (b o c : Nat) (W : World) (h : Rd encMrk 3 W (some ⟨b, o, none⟩) aM) :
    Calls Try.prog 12 #[.slice (some ⟨b, o, none⟩) 2 c, .agg #[.int .i64 7, .int .i64 3, .int .i64 1, .int .u8 1, .int .i64 1025, .int .i64 5000]] W fun e w' => e = .returned (.tuple #[.int .i64 1145, .int .i64 0]) ∧ Below W.heap.size W w' := by
  have := time_any (some ⟨b, o, none⟩) c aM ⟨7, 3, 1, 1, 1025, 5000⟩ W h (by decide)
  rw [t2_eq] at this
  exact this
theorem time3_any (b o c : Nat) (W : World) (h : Rd encMrk 3 W (some ⟨b, o, none⟩) aM) :
    Calls Try.prog 12 #[.slice (some ⟨b, o, none⟩) 2 c, .agg #[.int .i64 7, .int .i64 3, .int .i64 2, .int .u8 1, .int .i64 60, .int .i64 400]] W fun e w' => e = .returned (.tuple #[.int .i64 60, .int .i64 0]) ∧ Below W.heap.size W w' := by
  have := time_any (some ⟨b, o, none⟩) c aM ⟨7, 3, 2, 1, 60, 400⟩ W h (by decide)
  rw [t3_eq] at this
  exact this

set_option maxHeartbeats 4000000 in
theorem awake_any (w : World) : Calls Try.prog 11 #[] w fun e w' => e = .returned (.bool true) ∧ Below w.heap.size w w' := by
  go_enter Try.func11, Try.ntmps11
  go_wp2_with fail
  refine (one_any _ _ _ _).mono ?_
  rintro e w1 ⟨rfl, b1⟩
  go_wp2_with fail
  refine (one_any _ _ _ _).mono ?_
  rintro e w2 ⟨rfl, b2⟩
  go_wp2_with fail
  refine (one_any _ _ _ _).mono ?_
  rintro e w3 ⟨rfl, b3⟩
  have B3 := Lib.hid (b1.trans ((b2.trans (b3.mono b2.size)).mono b1.size))
  clear b1 b2 b3
  go_wp2_with fail
  have RA0 := Lib.hid (rd_blk (enc := encScn) (k := 6) (xs := aL) (fun _ => rfl) (Blk.new (w := w3) (n := w3.heap.size) (arr := #[.int .i64 7, .int .i64 3, .int .i64 1, .int .u8 1, .int .i64 60, .int .i64 400, .int .i64 7, .int .i64 3, .int .i64 1, .int .u8 1, .int .i64 50, .int .i64 150, .int .i64 7, .int .i64 3, .int .i64 1, .int .u8 1, .int .i64 2000, .int .i64 2140]) (T := 24) rfl) rfl)
  refine (marksA_any w3.heap.size _ RA0.out).mono ?_
  rintro e w4 ⟨b, o, c', rfl, hrm, hb4⟩
  have RA := Lib.hid (RA0.out.below (Nat.le_refl _) hb4)
  have RM := Lib.hid hrm
  have B4 := hb4
  rw [World.size_alloc] at B4
  have BB := Lib.hid (((Below.refl _ _).alloc (Nat.le_refl _) _).trans (hb4.mono (by simp)) |> fun (h : Below w3.heap.size w3 w4) => B3.out.trans (h.mono B3.out.size))
  clear hrm hb4 B4 RA0 B3
  go_wp2_with fail
  refine (one_any _ _ _ _).mono ?_
  rintro e u1 ⟨rfl, h1⟩
  have RMa := Lib.hid (RM.out.below (Nat.le_refl _) h1)
  have RAa := Lib.hid (RA.out.below (Nat.le_refl _) h1)
  have Ba := Lib.hid (BB.out.trans (h1.mono BB.out.size))
  clear h1 RM RA BB
  go_wp2_with fail
  refine (time1_any _ _ _ _ RMa.out).mono ?_
  rintro e v1 ⟨rfl, h1⟩
  have RM := Lib.hid (RMa.out.below (Nat.le_refl _) h1)
  have RA := Lib.hid (RAa.out.below (Nat.le_refl _) h1)
  have BB := Lib.hid (Ba.out.trans (h1.mono Ba.out.size))
  clear h1 RMa RAa Ba
  go_wp2_with fail
  refine (one_any _ _ _ _).mono ?_
  rintro e u2 ⟨rfl, h1⟩
  have RMa := Lib.hid (RM.out.below (Nat.le_refl _) h1)
  have RAa := Lib.hid (RA.out.below (Nat.le_refl _) h1)
  have Ba := Lib.hid (BB.out.trans (h1.mono BB.out.size))
  clear h1 RM RA BB
  go_wp2_with fail
  refine (time2_any _ _ _ _ RMa.out).mono ?_
  rintro e v2 ⟨rfl, h1⟩
  have RM := Lib.hid (RMa.out.below (Nat.le_refl _) h1)
  have RA := Lib.hid (RAa.out.below (Nat.le_refl _) h1)
  have BB := Lib.hid (Ba.out.trans (h1.mono Ba.out.size))
  clear h1 RMa RAa Ba
  go_wp2_with fail
  refine (one_any _ _ _ _).mono ?_
  rintro e u3 ⟨rfl, h1⟩
  have RMa := Lib.hid (RM.out.below (Nat.le_refl _) h1)
  have RAa := Lib.hid (RA.out.below (Nat.le_refl _) h1)
  have Ba := Lib.hid (BB.out.trans (h1.mono BB.out.size))
  clear h1 RM RA BB
  go_wp2_with fail
  refine (time3_any _ _ _ _ RMa.out).mono ?_
  rintro e v3 ⟨rfl, h1⟩
  have RM := Lib.hid (RMa.out.below (Nat.le_refl _) h1)
  have RA := Lib.hid (RAa.out.below (Nat.le_refl _) h1)
  have BB := Lib.hid (Ba.out.trans (h1.mono Ba.out.size))
  clear h1 RMa RAa Ba
  go_wp2_with fail
  refine (ordera_any _ _ RA.out).mono ?_
  rintro e w5 ⟨b5, o5, c5, rfl, hrk, hb5⟩
  have RMa := Lib.hid (RM.out.below (Nat.le_refl _) hb5)
  have Ba := Lib.hid (BB.out.trans (hb5.mono BB.out.size))
  have RK := Lib.hid hrk
  clear hrk hb5 RA RM BB
  obtain ⟨b', o', e1, -, hl⟩ := RMa.out.at (j := 0) (x := ⟨1, 50, 100⟩) rfl
  simp at e1; obtain ⟨rfl, rfl⟩ := e1
  have hl0 := hl 0 _ rfl; have hl1 := hl 1 _ rfl; have hl2 := hl 2 _ rfl; rw [Nat.add_zero] at hl0; clear hl
  obtain ⟨b', o', e1, -, hm⟩ := RMa.out.at (j := 1) (x := ⟨1, 2000, 140⟩) rfl
  simp at e1; obtain ⟨rfl, rfl⟩ := e1
  have hm0 := hm 0 _ rfl; have hm1 := hm 1 _ rfl; have hm2 := hm 2 _ rfl; rw [Nat.add_zero] at hm0; clear hm
  obtain ⟨b', o', e1, -, hx⟩ := RK.out.at (j := 0) (x := ⟨⟨7, 3, 1, 1, 50, 150⟩, 150⟩) rfl
  simp at e1; obtain ⟨rfl, rfl⟩ := e1
  have hx0 := hx 0 _ rfl; have hx1 := hx 1 _ rfl; have hx2 := hx 2 _ rfl; have hx3 := hx 3 _ rfl; have hx4 := hx 4 _ rfl; have hx5 := hx 5 _ rfl; have hx6 := hx 6 _ rfl; rw [Nat.add_zero] at hx0; clear hx
  obtain ⟨b', o', e1, -, hy⟩ := RK.out.at (j := 1) (x := ⟨⟨7, 3, 1, 1, 2000, 2140⟩, 2140⟩) rfl
  simp at e1; obtain ⟨rfl, rfl⟩ := e1
  have hy0 := hy 0 _ rfl; have hy1 := hy 1 _ rfl; have hy2 := hy 2 _ rfl; have hy3 := hy 3 _ rfl; have hy4 := hy 4 _ rfl; have hy5 := hy 5 _ rfl; have hy6 := hy 6 _ rfl; rw [Nat.add_zero] at hy0; clear hy
  simp only [Nat.zero_mul, Nat.one_mul, Nat.add_zero, Nat.add_assoc, Nat.reduceAdd] at hl0 hl1 hl2 hm0 hm1 hm2 hx6 hy6
  clear RMa RK
  go_wp2_with fail
  clear hl0 hl1 hl2 hm0 hm1 hm2 hx0 hx1 hx2 hx3 hx4 hx5 hx6 hy0 hy1 hy2 hy3 hy4 hy5 hy6
  refine (one_any _ _ _ _).mono ?_
  rintro e w6 ⟨rfl, h1⟩
  go_wp2_with fail
  refine (one_any _ _ _ _).mono ?_
  rintro e w7 ⟨rfl, h2⟩
  have Bb := Lib.hid (Ba.out.trans ((h1.trans (h2.mono h1.size)).mono Ba.out.size))
  skip
  clear h1 h2 Ba
  go_wp2_with fail
  have RA0 := Lib.hid (rd_blk (enc := encScn) (k := 6) (xs := bL) (fun _ => rfl) (Blk.new (w := w7) (n := w7.heap.size) (arr := #[.int .i64 7, .int .i64 3, .int .i64 1, .int .u8 1, .int .i64 160, .int .i64 160, .int .i64 7, .int .i64 3, .int .i64 2, .int .u8 1, .int .i64 150, .int .i64 150]) (T := 24) rfl) rfl)
  refine (orderb_any w7.heap.size _ RA0.out).mono ?_
  rintro e w8 ⟨g, og, cg, rfl, hrk, hb8⟩
  have B8 := hb8
  rw [World.size_alloc] at B8
  have Ba2 := Lib.hid (((Below.refl _ _).alloc (Nat.le_refl _) _).trans (hb8.mono (by simp)) |> fun (h : Below w7.heap.size w7 w8) => Bb.out.trans (h.mono Bb.out.size))
  have RG := Lib.hid hrk
  clear hrk hb8 B8 RA0 Bb
  rename World => x8
  go_wp2_with fail
  refine (one_any _ _ _ _).mono ?_
  rintro e w6 ⟨rfl, h1⟩
  go_wp2_with fail
  refine (one_any _ _ _ _).mono ?_
  rintro e w7 ⟨rfl, h2⟩
  have Bb := Lib.hid (Ba2.out.trans ((h1.trans (h2.mono h1.size)).mono Ba2.out.size))
  have RGa := Lib.hid (RG.out.below (Nat.le_refl _) (h1.trans (h2.mono h1.size)))
  clear h1 h2 Ba2
  go_wp2_with fail
  have RA0 := Lib.hid (rd_blk (enc := encScn) (k := 6) (xs := cL) (fun _ => rfl) (Blk.new (w := w7) (n := w7.heap.size) (arr := #[.int .i64 7, .int .i64 3, .int .i64 1, .int .u8 1, .int .i64 161, .int .i64 161, .int .i64 7, .int .i64 3, .int .i64 2, .int .u8 1, .int .i64 150, .int .i64 150]) (T := 24) rfl) rfl)
  refine (orderc_any w7.heap.size _ RA0.out).mono ?_
  rintro e w8 ⟨k, ok, ck, rfl, hrk, hb8⟩
  have B8 := hb8
  rw [World.size_alloc] at B8
  have Ba22 := Lib.hid (((Below.refl _ _).alloc (Nat.le_refl _) _).trans (hb8.mono (by simp)) |> fun (h : Below w7.heap.size w7 w8) => Bb.out.trans (h.mono Bb.out.size))
  have RGb := Lib.hid ((RGa.out.below (Nat.le_refl _) ((Below.refl _ _).alloc (Nat.le_refl _) _)).below (Nat.le_refl _) hb8)
  clear hrk hb8 B8 RA0 Bb
  obtain ⟨b', o', e1, -, hx⟩ := RGb.out.at (j := 0) (x := ⟨⟨7, 3, 2, 1, 150, 150⟩, 150⟩) rfl
  simp at e1; obtain ⟨rfl, rfl⟩ := e1
  have hx0 := hx 0 _ rfl; have hx1 := hx 1 _ rfl; have hx2 := hx 2 _ rfl; have hx3 := hx 3 _ rfl; have hx4 := hx 4 _ rfl; have hx5 := hx 5 _ rfl; have hx6 := hx 6 _ rfl; rw [Nat.add_zero] at hx0; clear hx
  simp only [Nat.zero_mul, Nat.one_mul, Nat.add_zero, Nat.add_assoc, Nat.reduceAdd] at hx6
  clear RGb RG RGa
  go_wp2_with fail
  go_ret
  exact ⟨rfl, Ba22.out⟩
end Go.Proofs.Ytcjhkjplpbhjiaa
