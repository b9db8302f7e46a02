/- Contract of claim.Decide. -/
import Derived.Test.YtnnppnlekpadnaaGreatRefP
namespace Go.Proofs.YtnnppnlekpadnaaGreat
open Go.RowKit Go.Proofs
set_option maxRecDepth 100000

/-- What claim.Decide returns. -/
def deciP (l : List Std) (t : List Terms) (s : List Sent) (c : Clm) : Outc × Int :=
  if chkP l t s [c] = 0 then (decP l t s c, 0) else (⟨0, 0, 0⟩, chkP l t s [c])

theorem rdClm1 {w : World} {n : Nat} {c : Clm} {T : TypeId} (h : n = w.heap.size) : Rd encClm 6 (w.alloc (.cells #[.int .i64 c.id, .int .i64 c.item, .int .i64 c.at_, .int .u8 c.kind, .int .i64 c.post, .int .i64 c.val] T)) (some ⟨n, 0, none⟩) [c] := fun _ => by
  subst h
  refine ⟨_, _, rfl, (by first | (simp; done) | (simp; omega) | omega), fun j x hj i v hi => ?_⟩
  match j, hj with
  | 0, hj =>
    simp at hj; subst hj
    rw [Blk.cells (arr := #[.int .i64 c.id, .int .i64 c.item, .int .i64 c.at_, .int .u8 c.kind, .int .i64 c.post, .int .i64 c.val]) (T := T) (Blk.new rfl)]
    rw [← hi]
    simp [encClm]

section
variable (Al At As : Option Addr) (ca cb cc : Nat) (l : List Std) (t : List Terms) (s : List Sent) (c : Clm) (w : World)
variable (hl : Rd encStd 4 w Al l) (ht : Rd encTerms 7 w At t) (hs : Rd encSent 6 w As s) (nl : l.length ≤ 1000000) (nt : t.length ≤ 1000000) (ns : s.length ≤ 1000000)
include hl ht hs nl nt ns in
set_option maxHeartbeats 1000000 in
theorem Decide_any : Calls Tryz.prog 15 #[.slice Al l.length ca, .slice At t.length cb, .slice As s.length cc, .agg #[.int .i64 c.id, .int .i64 c.item, .int .i64 c.at_, .int .u8 c.kind, .int .i64 c.post, .int .i64 c.val]] w fun e w' => e = .returned (.tuple #[.agg #[.int .i64 (deciP l t s c).1.clm, .int .i64 (deciP l t s c).1.cents, .int .u8 (deciP l t s c).1.ver], .int .i64 (deciP l t s c).2]) ∧ Below w.heap.size w w' := by
  obtain ⟨W, hW⟩ : ∃ W : World, W = ((w.alloc (.cells #[.int .i64 c.id, .int .i64 c.item, .int .i64 c.at_, .int .u8 c.kind, .int .i64 c.post, .int .i64 c.val] 31)).alloc (.cells #[.int .i64 0, .int .i64 0, .int .u8 0] 36)).alloc (.cells #[.int .i64 c.id, .int .i64 c.item, .int .i64 c.at_, .int .u8 c.kind, .int .i64 c.post, .int .i64 c.val] 31) := ⟨_, rfl⟩
  have hb : Below w.heap.size w W := by rw [hW]; exact (((Below.refl _ _).alloc (Nat.le_refl _) _).alloc (by first | (simp; done) | (simp; omega) | omega) _).alloc (by first | (simp; done) | (simp; omega) | omega) _
  have k7 : Blk W w.heap.size #[.int .i64 c.id, .int .i64 c.item, .int .i64 c.at_, .int .u8 c.kind, .int .i64 c.post, .int .i64 c.val] 31 := by rw [hW]; exact ((Blk.new rfl).alloc _).alloc _
  have k8 : Blk W (w.heap.size + 1) #[.int .i64 0, .int .i64 0, .int .u8 0] 36 := by rw [hW]; exact (Blk.new (by first | (simp; done) | (simp; omega) | omega)).alloc _
  have rc : Rd encClm 6 W (some ⟨w.heap.size + 1 + 1, 0, none⟩) [c] := by rw [hW]; exact rdClm1 (by first | (simp; done) | (simp; omega) | omega)
  have hck := check_any Al At As (some ⟨w.heap.size + 1 + 1, 0, none⟩) ca cb cc 1 l t s [c] W (hl.below (Nat.le_refl _) hb) (ht.below (Nat.le_refl _) hb) (hs.below (Nat.le_refl _) hb) rc nl nt ns (by simp) (n := 1) rfl
  have K7 := Lib.hid k7
  have K8 := Lib.hid k8
  have HL := Lib.hid hl
  have HT := Lib.hid ht
  have HS := Lib.hid hs
  obtain ⟨pr, hpr⟩ : ∃ pr, pr = deciP l t s c := ⟨_, rfl⟩
  rw [← hpr]
  have HPR := Lib.hid hpr
  obtain ⟨er, her⟩ : ∃ er, er = chkP l t s [c] := ⟨_, rfl⟩
  rw [← her] at hck
  have HER := Lib.hid her
  clear k7 k8 hl ht hs hpr her rc
  by_cases h0 : er = 0
  · have P : Aside (pr = (decP l t s c, 0)) := by
      show _ = _
      rw [HPR.out]; unfold deciP; rw [if_pos (by rw [← HER.out]; exact h0)]
    have hz := chkP_zero (HER.out.symm.trans h0)
    have he : (er == 0) = true := by simpa using h0
    have he' : (er != 0) = false := by simpa using h0
    have hrc : okClm c = true := by
      have := hz.2.2.2; unfold rightClm at this; simp at this; exact this
    have HZ := Lib.hid (And.intro hz.2.1 (And.intro hz.2.2.1 hrc))
    clear h0 hz hrc
    go_enter Tryz.func15, Tryz.ntmps15
    go_wp2_with fail
    rw [← hW]
    have HW := Lib.hid hW
    clear hW
    refine hck.mono ?_
    rintro e w1 ⟨rfl, hb1⟩
    have e7 := (K7.out.below hb1 K7.out.lt).cells
    have bW : Below w.heap.size w w1 := hb.trans (hb1.mono hb.size)
    replace K8 := Lib.hid (K8.out.below hb1 K8.out.lt)
    have hd := decide_any Al At As ca cb cc l t s c w1 (HL.out.below (Nat.le_refl _) bW) (HT.out.below (Nat.le_refl _) bW) (HS.out.below (Nat.le_refl _) bW) nl nt ns HZ.out.1 HZ.out.2.1 HZ.out.2.2
    have e1 : pr.1 = decP l t s c := by rw [P.out]
    rw [← e1] at hd
    clear e1 hck
    have l8 := K8.out.lt
    go_wp2_with fail
    refine hd.mono ?_
    rintro e w2 ⟨rfl, hb2⟩
    have e8 := (K8.out.below hb2 l8).cells
    have f8 := (K8.out.below hb2 l8).free
    replace bW := bW.trans (hb2.mono bW.size)
    clear hd e7
    go_wp2_with fail
    refine bodyPost_ret (v := .tuple #[.agg #[.int .i64 pr.1.clm, .int .i64 pr.1.cents, .int .u8 pr.1.ver], .int .i64 0]) (by simp [results, Tryz.results15, go_sem, e8]) rfl ⟨by rw [P.out], ?_⟩
    exact ((bW.setCell (p := ⟨w.heap.size + 1, _, none⟩) (by first | (simp; done) | (simp; omega) | omega) _).setCell (p := ⟨w.heap.size + 1, _, none⟩) (by first | (simp; done) | (simp; omega) | omega) _).setCell (p := ⟨w.heap.size + 1, _, none⟩) (by first | (simp; done) | (simp; omega) | omega) _
  · have P : Aside (pr = (⟨0, 0, 0⟩, er)) := by
      show _ = _
      rw [HPR.out]; unfold deciP; rw [if_neg (by rw [← HER.out]; exact h0), ← HER.out]
    have he : (er == 0) = false := by simpa using h0
    have he' : (er != 0) = true := by simpa using h0
    clear h0
    go_enter Tryz.func15, Tryz.ntmps15
    go_wp2_with fail
    rw [← hW]
    have HW := Lib.hid hW
    clear hW
    refine hck.mono ?_
    rintro e w1 ⟨rfl, hb1⟩
    have e8 := (K8.out.below hb1 K8.out.lt).cells
    have f8 := (K8.out.below hb1 K8.out.lt).free
    have bW : Below w.heap.size w w1 := hb.trans (hb1.mono hb.size)
    clear hck
    go_wp2_with fail
    refine bodyPost_ret (v := .tuple #[.agg #[.int .i64 0, .int .i64 0, .int .u8 0], .int .i64 er]) (by simp [results, Tryz.results15, go_sem, e8]) rfl ⟨by rw [P.out], ?_⟩
    first | exact bW | exact ((bW.setCell (p := ⟨w.heap.size + 1, _, none⟩) (by first | (simp; done) | (simp; omega) | omega) _).setCell (p := ⟨w.heap.size + 1, _, none⟩) (by first | (simp; done) | (simp; omega) | omega) _).setCell (p := ⟨w.heap.size + 1, _, none⟩) (by first | (simp; done) | (simp; omega) | omega) _
end
end Go.Proofs.YtnnppnlekpadnaaGreat
