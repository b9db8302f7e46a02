/- Contracts of the reference's check, share and verdict. -/
import Derived.Test.YtnnppnlekpadnaaGreatRefB
import Derived.Test.YtnnppnlekpadnaaGreatRefD
import Derived.Test.YtnnppnlekpadnaaGreatRefP
import Derived.Test.YtnnppnlekpadnaaGreatTurnP
namespace Go.Proofs.YtnnppnlekpadnaaGreat
open Go.RowKit Go.Proofs
set_option maxRecDepth 100000

theorem Blk.other' {w : World} {n m : Nat} {arr : Array Value} {T : TypeId} (h : Blk w n arr T) (i : Nat) (v : Value) (hm : n ≠ m) : Blk (w.setCell ⟨m, i, none⟩ v) n arr T := (Below.heap_setCell w ⟨m, i, none⟩ v n hm).trans h
/-- A record stored into a block of its own. -/
def setSn (w : World) (n : Nat) (x : Sent) : World := (((((w.setCell ⟨n, 0, none⟩ (.int .i64 x.item)).setCell ⟨n, 1, none⟩ (.int .u8 x.cl)).setCell ⟨n, 2, none⟩ (.int .i64 x.fr)).setCell ⟨n, 3, none⟩ (.int .i64 x.to)).setCell ⟨n, 4, none⟩ (.int .i64 x.acc)).setCell ⟨n, 5, none⟩ (.int .i64 x.del)
theorem setSn_blk {w : World} {n : Nat} {x : Sent} {T : TypeId} {a b c d e f : Value} (h : Blk w n #[a, b, c, d, e, f] T) : Blk (setSn w n x) n #[.int .i64 x.item, .int .u8 x.cl, .int .i64 x.fr, .int .i64 x.to, .int .i64 x.acc, .int .i64 x.del] T :=
  ((((((h.set 0 (.int .i64 x.item)).set 1 (.int .u8 x.cl)).set 2 (.int .i64 x.fr)).set 3 (.int .i64 x.to)).set 4 (.int .i64 x.acc)).set 5 (.int .i64 x.del))
theorem setSn_other {w : World} {n m : Nat} {x : Sent} {T : TypeId} {arr : Array Value} (h : Blk w m arr T) (hm : m ≠ n) : Blk (setSn w n x) m arr T :=
  ((((((h.other' 0 _ hm).other' 1 _ hm).other' 2 _ hm).other' 3 _ hm).other' 4 _ hm).other' 5 _ hm)
theorem setSn_below {w0 w : World} {B n : Nat} (x : Sent) (h : Below B w0 w) (hn : B ≤ n) : Below B w0 (setSn w n x) :=
  (((((h.setCell (p := ⟨n, 0, none⟩) hn _).setCell (p := ⟨n, 1, none⟩) hn _).setCell (p := ⟨n, 2, none⟩) hn _).setCell (p := ⟨n, 3, none⟩) hn _).setCell (p := ⟨n, 4, none⟩) hn _).setCell (p := ⟨n, 5, none⟩) hn _
def setTm (w : World) (n : Nat) (x : Terms) : World := ((((((w.setCell ⟨n, 0, none⟩ (.int .u8 x.cl)).setCell ⟨n, 1, none⟩ (.int .i64 x.free)).setCell ⟨n, 2, none⟩ (.int .i64 x.share)).setCell ⟨n, 3, none⟩ (.int .i64 x.most)).setCell ⟨n, 4, none⟩ (.int .i64 x.after)).setCell ⟨n, 5, none⟩ (.int .i64 x.limit)).setCell ⟨n, 6, none⟩ (.int .i64 x.wi)
set_option maxHeartbeats 2000000 in
theorem setTm_blk {w : World} {n : Nat} {x : Terms} {T : TypeId} {a b c d e f g : Value} (h : Blk w n #[a, b, c, d, e, f, g] T) : Blk (setTm w n x) n #[.int .u8 x.cl, .int .i64 x.free, .int .i64 x.share, .int .i64 x.most, .int .i64 x.after, .int .i64 x.limit, .int .i64 x.wi] T :=
  (((((((h.set 0 (.int .u8 x.cl)).set 1 (.int .i64 x.free)).set 2 (.int .i64 x.share)).set 3 (.int .i64 x.most)).set 4 (.int .i64 x.after)).set 5 (.int .i64 x.limit)).set 6 (.int .i64 x.wi))
theorem setTm_other {w : World} {n m : Nat} {x : Terms} {T : TypeId} {arr : Array Value} (h : Blk w m arr T) (hm : m ≠ n) : Blk (setTm w n x) m arr T :=
  (((((((h.other' 0 _ hm).other' 1 _ hm).other' 2 _ hm).other' 3 _ hm).other' 4 _ hm).other' 5 _ hm).other' 6 _ hm)
theorem setTm_below {w0 w : World} {B n : Nat} (x : Terms) (h : Below B w0 w) (hn : B ≤ n) : Below B w0 (setTm w n x) :=
  ((((((h.setCell (p := ⟨n, 0, none⟩) hn _).setCell (p := ⟨n, 1, none⟩) hn _).setCell (p := ⟨n, 2, none⟩) hn _).setCell (p := ⟨n, 3, none⟩) hn _).setCell (p := ⟨n, 4, none⟩) hn _).setCell (p := ⟨n, 5, none⟩) hn _).setCell (p := ⟨n, 6, none⟩) hn _

theorem bcases (b : Bool) : b = true ∨ b = false := by cases b <;> simp
def sn0 : Sent := ⟨0, 0, 0, 0, 0, 0⟩
def tm0 : Terms := ⟨0, 0, 0, 0, 0, 0, 0⟩
/-- The last of the first j that fits; of distinct ones, the one. -/
def fitS (s : List Sent) (i : Int) (j : Nat) : Sent := ((s.take j).find? (fun x => x.item == i)).getD sn0
def fitT (t : List Terms) (k : Int) (j : Nat) : Terms := ((t.take j).find? (fun y => y.cl == k)).getD tm0
theorem fitS_hit {s : List Sent} {i : Int} {j : Nat} {x : Sent} (hn : (s.map (·.item)).Nodup) (hx : s[j]? = some x) (h : x.item = i) : fitS s i (j + 1) = x := by
  unfold fitS
  rw [List.take_add_one, hx, List.find?_append]
  have : (s.take j).find? (fun x => x.item == i) = none := by
    rw [List.find?_eq_none]
    intro y hy
    obtain ⟨k, hk⟩ := List.mem_iff_getElem?.1 hy
    rw [List.getElem?_take] at hk
    split at hk
    · rename_i hkj
      have h1 := (List.getElem?_eq_some_iff.1 hk)
      have h2 := (List.getElem?_eq_some_iff.1 hx)
      have := List.pairwise_iff_getElem.1 hn k j (by simpa using h1.1) (by simpa using h2.1) hkj
      simp [h1.2, h2.2] at this
      simp; omega
    · cases hk
  rw [this]
  simp [h]
theorem fitS_miss {s : List Sent} {i : Int} {j : Nat} {x : Sent} (hx : s[j]? = some x) (h : x.item ≠ i) : fitS s i (j + 1) = fitS s i j := by
  unfold fitS
  rw [List.take_add_one, hx, List.find?_append]
  simp [h]
theorem fitT_hit {t : List Terms} {i : Int} {j : Nat} {x : Terms} (hn : (t.map (·.cl)).Nodup) (hx : t[j]? = some x) (h : x.cl = i) : fitT t i (j + 1) = x := by
  unfold fitT
  rw [List.take_add_one, hx, List.find?_append]
  have : (t.take j).find? (fun x => x.cl == i) = none := by
    rw [List.find?_eq_none]
    intro y hy
    obtain ⟨k, hk⟩ := List.mem_iff_getElem?.1 hy
    rw [List.getElem?_take] at hk
    split at hk
    · rename_i hkj
      have h1 := (List.getElem?_eq_some_iff.1 hk)
      have h2 := (List.getElem?_eq_some_iff.1 hx)
      have := List.pairwise_iff_getElem.1 hn k j (by simpa using h1.1) (by simpa using h2.1) hkj
      simp [h1.2, h2.2] at this
      simp; omega
    · cases hk
  rw [this]
  simp [h]
theorem fitT_miss {t : List Terms} {i : Int} {j : Nat} {x : Terms} (hx : t[j]? = some x) (h : x.cl ≠ i) : fitT t i (j + 1) = fitT t i j := by
  unfold fitT
  rw [List.take_add_one, hx, List.find?_append]
  simp [h]
theorem terms_nodup {t : List Terms} (h : ordered cmpTerms t = true) : (t.map (·.cl)).Nodup := by
  induction t with
  | nil => simp
  | cons y r ih =>
    rw [List.map_cons, List.nodup_cons]
    refine ⟨fun hm => ?_, ih (ordT_tail h)⟩
    obtain ⟨z, hz, hzy⟩ := List.mem_map.1 hm
    have := ordT_lt y r h z hz
    omega

theorem refShare (a v : Int) (w : World) (h1 : 0 ≤ a) (h2 : a ≤ 1000000000000000) (h3 : 0 ≤ v) (h4 : v ≤ 10000) : Calls Tryz.prog 101 #[.int .i64 a, .int .i64 v] w fun e w' => e = .returned (.int .i64 (shareP a v)) ∧ w = w' := by
  unfold shareP
  have m1 : a / 10000 * v ≤ 100000000000 * 10000 := Int.mul_le_mul (by omega) h4 h3 (by omega)
  have m0 : 0 ≤ a / 10000 * v := Int.mul_nonneg (by omega) h3
  have m3 : a % 10000 * v ≤ 10000 * 10000 := Int.mul_le_mul (by omega) h4 h3 (by omega)
  have m2 : 0 ≤ a % 10000 * v := Int.mul_nonneg (by omega) h3
  have t1 : a.tdiv 10000 = a / 10000 := Int.tdiv_eq_ediv_of_nonneg h1
  have t2 : a.tmod 10000 = a % 10000 := Int.tmod_eq_emod_of_nonneg h1
  have t3 : (a % 10000 * v).tdiv 10000 = a % 10000 * v / 10000 := Int.tdiv_eq_ediv_of_nonneg m2
  have wa : wrap64 (a / 10000) = a / 10000 := IntWalk.wrap64_in _ ⟨by omega, by omega⟩
  have wb : wrap64 (a / 10000 * v) = a / 10000 * v := IntWalk.wrap64_in _ ⟨by omega, by omega⟩
  have wc : wrap64 (a % 10000 * v) = a % 10000 * v := IntWalk.wrap64_in _ ⟨by omega, by omega⟩
  have wd : wrap64 (a % 10000 * v / 10000) = a % 10000 * v / 10000 := IntWalk.wrap64_in _ ⟨by omega, by omega⟩
  have we : wrap64 (a / 10000 * v + a % 10000 * v / 10000) = a / 10000 * v + a % 10000 * v / 10000 := IntWalk.wrap64_in _ ⟨by omega, by omega⟩
  go_enter Tryz.func101, Tryz.ntmps101
  go_wp2_with fail
  go_ret
  exact ⟨rfl, rfl⟩

section
variable (Al At As : Option Addr) (ca cb cc : Nat) (l : List Std) (t : List Terms) (s : List Sent) (c : Clm) (w : World)
variable (hl : Rd encStd 4 w Al l) (ht : Rd encTerms 7 w At t) (hs : Rd encSent 6 w As s) (nl : l.length ≤ 1000000) (nt : t.length ≤ 1000000) (ns : s.length ≤ 1000000)
variable (ul : ∀ x ∈ l, 0 ≤ x.cl)
include hl ht hs nl nt ns ul in
set_option maxHeartbeats 20000000 in
theorem refVerdict (rt : rightTerms t = true) (rs : rightSent s = true) (rc : okClm c = true) :
    Calls Tryz.prog 86 #[.slice Al l.length ca, .slice At t.length cb, .slice As s.length cc, .agg #[.int .i64 c.id, .int .i64 c.item, .int .i64 c.at_, .int .u8 c.kind, .int .i64 c.post, .int .i64 c.val]] w fun e w' => e = .returned (.agg #[.int .i64 (decP l t s c).clm, .int .i64 (decP l t s c).cents, .int .u8 (decP l t s c).ver]) ∧ Below w.heap.size w w' := by
  have oc := okC_of rc
  have okx : ∀ x ∈ s, 1 ≤ x.item ∧ 0 ≤ x.cl ∧ -1 ≤ x.del ∧ x.del ≤ 1051898399 := by
    intro x hx
    unfold rightSent at rs; simp at rs
    have := rs.2.1 x hx
    unfold okSent withinB outB at this
    simp at this
    omega
  have sn : (s.map (·.item)).Nodup := by unfold rightSent at rs; simp at rs; exact rs.2.2
  have tn := terms_nodup (allB_ok rt).2.2
  have okt : ∀ y ∈ t, okY y ∧ 1 ≤ y.cl := by
    intro y hy
    have := (allB_ok rt).2.1 y hy
    refine ⟨okY_of this, ?_⟩
    unfold okTerms at this
    simp at this
    omega
  have HT := Lib.hid ht
  have HS := Lib.hid hs
  have PR := Lib.hid (fun (cl fr tw acc : Int) (W : World) (b : Below w.heap.size w W) => refPromise Al ca l cl fr tw acc W (hl.below (Nat.le_refl _) b) nl ul)
  have OC := Lib.hid oc
  have OX := Lib.hid okx
  have OT := Lib.hid okt
  have SN := Lib.hid sn
  have TN := Lib.hid tn
  have okind : c.kind = 1 ∨ c.kind = 2 := okClm_kind rc
  have OK := Lib.hid okind
  clear hl ht hs rt rs rc oc okx okt sn tn okind
  generalize l.length = n1 at *
  go_enter Tryz.func86, Tryz.ntmps86
  go_wp2_with fail
  obtain ⟨W0, hW0⟩ : ∃ W : World, W = ((w.alloc (.cells #[.int .i64 c.id, .int .i64 c.item, .int .i64 c.at_, .int .u8 c.kind, .int .i64 c.post, .int .i64 c.val] 90)).alloc (.cells #[.int .i64 0, .int .i64 0, .int .u8 0] 87)).alloc (.cells #[.int .i64 0, .int .u8 0, .int .i64 0, .int .i64 0, .int .i64 0, .int .i64 0] 34) := ⟨_, rfl⟩
  rw [← hW0]
  have kC : Blk W0 w.heap.size #[.int .i64 c.id, .int .i64 c.item, .int .i64 c.at_, .int .u8 c.kind, .int .i64 c.post, .int .i64 c.val] 90 := by rw [hW0]; exact ((Blk.new rfl).alloc _).alloc _
  have kR : Blk W0 (w.heap.size + 1) #[.int .i64 0, .int .i64 0, .int .u8 0] 87 := by rw [hW0]; exact (Blk.new (by first | (simp; done) | (simp; omega) | omega)).alloc _
  have kX : Blk W0 (w.heap.size + 2) #[.int .i64 (fitS s c.item 0).item, .int .u8 (fitS s c.item 0).cl, .int .i64 (fitS s c.item 0).fr, .int .i64 (fitS s c.item 0).to, .int .i64 (fitS s c.item 0).acc, .int .i64 (fitS s c.item 0).del] 34 := by rw [hW0]; exact Blk.new (by first | (simp; done) | (simp; omega) | omega)
  have b0 : Below w.heap.size w W0 := by rw [hW0]; exact (((Below.refl _ _).alloc (Nat.le_refl _) _).alloc (by first | (simp; done) | (simp; omega) | omega) _).alloc (by first | (simp; done) | (simp; omega) | omega) _
  clear hW0
  go_loopg [10] s.length (fun gg s10 wr => ∃ j : Nat, j ≤ s.length ∧ s.length - j ≤ gg ∧ s10 = .int .i64 j ∧ Aside (Below w.heap.size w wr) ∧ Aside (Blk wr w.heap.size #[.int .i64 c.id, .int .i64 c.item, .int .i64 c.at_, .int .u8 c.kind, .int .i64 c.post, .int .i64 c.val] 90) ∧ Aside (Blk wr (w.heap.size + 1) #[.int .i64 0, .int .i64 0, .int .u8 0] 87) ∧ Aside (Blk wr (w.heap.size + 2) #[.int .i64 (fitS s c.item j).item, .int .u8 (fitS s c.item j).cl, .int .i64 (fitS s c.item j).fr, .int .i64 (fitS s c.item j).to, .int .i64 (fitS s c.item j).acc, .int .i64 (fitS s c.item j).del] 34))
  case atStart => exact ⟨0, Nat.zero_le _, by omega, rfl, b0, kC, kR, kX⟩
  case round =>
    obtain ⟨j, hj, hg, rfl, hw, kC, kR, kX⟩ := hrel
    by_cases hlt : j < s.length
    · have hx : s[j]? = some s[j] := List.getElem?_eq_getElem hlt
      obtain ⟨b, o, rfl, hb, hl⟩ := (HS.out.below (Nat.le_refl _) hw.out).at hx
      generalize s[j] = x at hx hl
      have HX := Lib.hid hx
      clear hx
      have hl0 := hl 0 _ rfl; have hl1 := hl 1 _ rfl; have hl2 := hl 2 _ rfl; have hl3 := hl 3 _ rfl; have hl4 := hl 4 _ rfl; have hl5 := hl 5 _ rfl; rw [Nat.add_zero] at hl0; clear hl
      have hc1 := (show _ = some (Value.int .i64 c.item) from kC.out.cells 1)
      have e0 : Ex wr → True := fun _ => trivial
      have fl0 := fun p : Ex wr => p.cell hb hl0
      have fc1 := fun p : Ex wr => p.cell kC.out.lt hc1
      cases hq8 : x.item == c.item with
      | true =>
        have hf := fitS_hit SN.out HX.out (show x.item = c.item by simpa using hq8)
        have HF := Lib.hid hf
        clear hf e0
        go_wp2_with fail
        (refine wp_region_quiet_ex (by kernel_rfl) (by kernel_rfl) ?_; (repeat (go_big_quiet_step ((fail)))); refine wpQuiet_nil ?_; intro wq hw'; obtain ⟨⟨_, hq⟩, hw''⟩ := hw'; subst hw'')
        have KC := Lib.hid (kC.out.below hq kC.out.lt)
        have KR := Lib.hid (kR.out.below hq kR.out.lt)
        have KX := Lib.hid (kX.out.below hq kX.out.lt)
        have BW := Lib.hid (hw.out.trans (hq.mono hw.out.size))
        have hbq := Nat.lt_of_lt_of_le hb hq.size
        have g0 := (hq.cell (p := ⟨b, _, none⟩) hb).trans hl0
        have g1 := (hq.cell (p := ⟨b, _, none⟩) hb).trans hl1
        have g2 := (hq.cell (p := ⟨b, _, none⟩) hb).trans hl2
        have g3 := (hq.cell (p := ⟨b, _, none⟩) hb).trans hl3
        have g4 := (hq.cell (p := ⟨b, _, none⟩) hb).trans hl4
        have g5 := (hq.cell (p := ⟨b, _, none⟩) hb).trans hl5
        have kc := KX.out.cells
        have kf := KX.out.free
        clear hl0 hl1 hl2 hl3 hl4 hl5 fl0 fc1 hc1 kC kR kX hw hq
        go_wp2_with fail
        go_roundg (s.length - (j + 1))
        case measure => omega
        case rel => exact ⟨j + 1, by omega, by omega, by go_num, setSn_below x BW.out (by omega), setSn_other KC.out (by omega), setSn_other KR.out (by omega), by rw [HF.out]; exact setSn_blk KX.out⟩
      | false =>
        have hf := fitS_miss HX.out (show x.item ≠ c.item by simpa using hq8)
        have HF := Lib.hid hf
        clear hf e0
        go_wp2_with fail
        (refine wp_region_quiet_ex (by kernel_rfl) (by kernel_rfl) ?_; (repeat (go_big_quiet_step ((fail)))); refine wpQuiet_nil ?_; intro wq hw'; obtain ⟨⟨_, hq⟩, hw''⟩ := hw'; subst hw'')
        have KC := Lib.hid (kC.out.below hq kC.out.lt)
        have KR := Lib.hid (kR.out.below hq kR.out.lt)
        have KX := Lib.hid (kX.out.below hq kX.out.lt)
        have BW := Lib.hid (hw.out.trans (hq.mono hw.out.size))
        clear hl0 hl1 hl2 hl3 hl4 hl5 fl0 fc1 hc1 kC kR kX hw hq
        go_wp2_with fail
        go_roundg (s.length - (j + 1))
        case measure => omega
        case rel => exact ⟨j + 1, by omega, by omega, by go_num, BW.out, KC.out, KR.out, by rw [HF.out]; exact KX.out⟩
    · have hjn : j = s.length := by omega
      subst hjn
      have hg' : ¬ (s.length : Int) < (s.length : Int) := by omega
      have hfe : fitS s c.item s.length = (s.find? (fun x => x.item == c.item)).getD sn0 := by unfold fitS; rw [List.take_length]
      rw [hfe] at kX
      clear hfe
      have KC := Lib.hid kC.out
      have KR := Lib.hid kR.out
      have BB := Lib.hid hw.out
      cases hfx : s.find? (fun x => x.item == c.item) with
      | none =>
        rw [hfx] at kX
        simp only [Option.getD_none, sn0] at kX
        have HFX := Lib.hid hfx
        have kc := KC.out.cells
        have kx := kX.out.cells
        have kr := KR.out.cells
        have kf := KR.out.free
        clear hfx hw kC kR
        go_wp2_with fail
        have k1 := (((KR.out.set 0 (.int .i64 c.id)).set 1 (.int .i64 (0))).set 2 (.int .u8 1)).cells
        have b1 := ((BB.out.setCell (p := ⟨w.heap.size + 1, 0, none⟩) (Nat.le_succ _) (.int .i64 c.id)).setCell (p := ⟨w.heap.size + 1, 1, none⟩) (Nat.le_succ _) (.int .i64 (0))).setCell (p := ⟨w.heap.size + 1, 2, none⟩) (Nat.le_succ _) (.int .u8 1)
        have P : Aside (decP l t s c = ⟨c.id, 0, 1⟩) := by show decP l t s c = _; unfold decP; rw [HFX.out]
        refine bodyPost_ret (v := .agg #[.int .i64 c.id, .int .i64 (0), .int .u8 1]) (by simp [results, Tryz.results86, go_sem, k1]) rfl ⟨by rw [P.out], b1⟩
      | some X =>
        rw [hfx] at kX
        simp only [Option.getD_some] at kX
        have hXm := List.mem_of_find?_eq_some hfx
        obtain ⟨x1, x2, x3, x4⟩ := OX.out X hXm
        have HFX := Lib.hid hfx
        have hx0 : (X.item == 0) = false := by simp; omega
        have kc := KC.out.cells
        have kx := kX.out.cells
        have KX := Lib.hid kX.out
        have hpr := PR.out X.cl X.fr X.to X.acc wr BB.out
        have hpb := promP_bd l X.cl X.fr X.to X.acc
        generalize hp : (promP l X.cl X.fr X.to X.acc).1 = p at hpr hpb
        generalize hpe : (promP l X.cl X.fr X.to X.acc).2 = pe at hpr hpb
        have HPB := Lib.hid (And.intro hpb (And.intro hp hpe))
        clear hfx hw kC kR kX hXm hpb hp hpe
        go_wp2_with fail
        refine hpr.mono ?_
        rintro e w1 ⟨rfl, hb1⟩
        have k1C := KC.out.below hb1 KC.out.lt
        have k1R := KR.out.below hb1 KR.out.lt
        have k1X := KX.out.below hb1 KX.out.lt
        have b1 := BB.out.trans (hb1.mono BB.out.size)
        have hsz := k1X.lt
        clear hpr kc kx hb1
        go_wp2_with fail
        obtain ⟨W2, hW2⟩ : ∃ W : World, W = w1.alloc (.cells #[.int .u8 tm0.cl, .int .i64 tm0.free, .int .i64 tm0.share, .int .i64 tm0.most, .int .i64 tm0.after, .int .i64 tm0.limit, .int .i64 tm0.wi] 118) := ⟨_, rfl⟩
        simp only [tm0] at hW2
        rw [← hW2]
        have k2C : Blk W2 w.heap.size #[.int .i64 c.id, .int .i64 c.item, .int .i64 c.at_, .int .u8 c.kind, .int .i64 c.post, .int .i64 c.val] 90 := by rw [hW2]; exact k1C.alloc _
        have k2R : Blk W2 (w.heap.size + 1) #[.int .i64 0, .int .i64 0, .int .u8 0] 87 := by rw [hW2]; exact k1R.alloc _
        have k2X : Blk W2 (w.heap.size + 2) #[.int .i64 X.item, .int .u8 X.cl, .int .i64 X.fr, .int .i64 X.to, .int .i64 X.acc, .int .i64 X.del] 34 := by rw [hW2]; exact k1X.alloc _
        have k2Y : Blk W2 w1.heap.size #[.int .u8 (fitT t X.cl 0).cl, .int .i64 (fitT t X.cl 0).free, .int .i64 (fitT t X.cl 0).share, .int .i64 (fitT t X.cl 0).most, .int .i64 (fitT t X.cl 0).after, .int .i64 (fitT t X.cl 0).limit, .int .i64 (fitT t X.cl 0).wi] 118 := by rw [hW2]; exact Blk.new rfl
        have b2 : Below w.heap.size w W2 := by rw [hW2]; exact b1.alloc b1.size _
        generalize hN : w1.heap.size = N at *
        clear hW2 k1C k1R k1X b1
        go_loopg [14] t.length (fun gg s14 wr => ∃ j : Nat, j ≤ t.length ∧ t.length - j ≤ gg ∧ s14 = .int .i64 j ∧ Aside (Below w.heap.size w wr) ∧ Aside (Blk wr w.heap.size #[.int .i64 c.id, .int .i64 c.item, .int .i64 c.at_, .int .u8 c.kind, .int .i64 c.post, .int .i64 c.val] 90) ∧ Aside (Blk wr (w.heap.size + 1) #[.int .i64 0, .int .i64 0, .int .u8 0] 87) ∧ Aside (Blk wr (w.heap.size + 2) #[.int .i64 X.item, .int .u8 X.cl, .int .i64 X.fr, .int .i64 X.to, .int .i64 X.acc, .int .i64 X.del] 34) ∧ Aside (Blk wr N #[.int .u8 (fitT t X.cl j).cl, .int .i64 (fitT t X.cl j).free, .int .i64 (fitT t X.cl j).share, .int .i64 (fitT t X.cl j).most, .int .i64 (fitT t X.cl j).after, .int .i64 (fitT t X.cl j).limit, .int .i64 (fitT t X.cl j).wi] 118))
        case atStart => exact ⟨0, Nat.zero_le _, by omega, rfl, b2, k2C, k2R, k2X, k2Y⟩
        case round =>
          obtain ⟨j, hj, hg, rfl, hw, kC, kR, kX, kY⟩ := hrel
          by_cases hlt : j < t.length
          · have hx : t[j]? = some t[j] := List.getElem?_eq_getElem hlt
            obtain ⟨b', o', rfl, hb, hl⟩ := (HT.out.below (Nat.le_refl _) hw.out).at hx
            generalize t[j] = y at hx hl
            have HX := Lib.hid hx
            clear hx
            have hl0 := hl 0 _ rfl; have hl1 := hl 1 _ rfl; have hl2 := hl 2 _ rfl; have hl3 := hl 3 _ rfl; have hl4 := hl 4 _ rfl; have hl5 := hl 5 _ rfl; have hl6 := hl 6 _ rfl; rw [Nat.add_zero] at hl0; clear hl
            have hc1 := (show _ = some (Value.int .u8 X.cl) from kX.out.cells 1)
            have fl0 := fun p : Ex wr => p.cell hb hl0
            have fc1 := fun p : Ex wr => p.cell kX.out.lt hc1
            cases hq8 : y.cl == X.cl with
            | true =>
              have hf := fitT_hit TN.out HX.out (show y.cl = X.cl by simpa using hq8)
              have HF := Lib.hid hf
              clear hf
              go_wp2_with fail
              (refine wp_region_quiet_ex (by kernel_rfl) (by kernel_rfl) ?_; (repeat (go_big_quiet_step ((fail)))); refine wpQuiet_nil ?_; intro wq hw'; obtain ⟨⟨_, hq⟩, hw''⟩ := hw'; subst hw'')
              have KC := Lib.hid (kC.out.below hq kC.out.lt)
              have KR := Lib.hid (kR.out.below hq kR.out.lt)
              have KX := Lib.hid (kX.out.below hq kX.out.lt)
              have KY := Lib.hid (kY.out.below hq kY.out.lt)
              have BW := Lib.hid (hw.out.trans (hq.mono hw.out.size))
              have g0 := (hq.cell (p := ⟨b', _, none⟩) hb).trans hl0
              have g1 := (hq.cell (p := ⟨b', _, none⟩) hb).trans hl1
              have g2 := (hq.cell (p := ⟨b', _, none⟩) hb).trans hl2
              have g3 := (hq.cell (p := ⟨b', _, none⟩) hb).trans hl3
              have g4 := (hq.cell (p := ⟨b', _, none⟩) hb).trans hl4
              have g5 := (hq.cell (p := ⟨b', _, none⟩) hb).trans hl5
              have g6 := (hq.cell (p := ⟨b', _, none⟩) hb).trans hl6
              have kc := KY.out.cells
              have kf := KY.out.free
              clear hl0 hl1 hl2 hl3 hl4 hl5 hl6 fl0 fc1 hc1 kC kR kX kY hw hq
              go_wp2_with fail
              go_roundg (t.length - (j + 1))
              case measure => omega
              case rel => exact ⟨j + 1, by omega, by omega, by go_num, setTm_below y BW.out (by omega), setTm_other KC.out (by omega), setTm_other KR.out (by omega), setTm_other KX.out (by omega), by rw [HF.out]; exact setTm_blk KY.out⟩
            | false =>
              have hf := fitT_miss HX.out (show y.cl ≠ X.cl by simpa using hq8)
              have HF := Lib.hid hf
              clear hf
              go_wp2_with fail
              (refine wp_region_quiet_ex (by kernel_rfl) (by kernel_rfl) ?_; (repeat (go_big_quiet_step ((fail)))); refine wpQuiet_nil ?_; intro wq hw'; obtain ⟨⟨_, hq⟩, hw''⟩ := hw'; subst hw'')
              have KC := Lib.hid (kC.out.below hq kC.out.lt)
              have KR := Lib.hid (kR.out.below hq kR.out.lt)
              have KX := Lib.hid (kX.out.below hq kX.out.lt)
              have KY := Lib.hid (kY.out.below hq kY.out.lt)
              have BW := Lib.hid (hw.out.trans (hq.mono hw.out.size))
              clear hl0 hl1 hl2 hl3 hl4 hl5 hl6 fl0 fc1 hc1 kC kR kX kY hw hq
              go_wp2_with fail
              go_roundg (t.length - (j + 1))
              case measure => omega
              case rel => exact ⟨j + 1, by omega, by omega, by go_num, BW.out, KC.out, KR.out, KX.out, by rw [HF.out]; exact KY.out⟩
          · have hjn : j = t.length := by omega
            subst hjn
            have hg' : ¬ (t.length : Int) < (t.length : Int) := by omega
            have hfe : fitT t X.cl t.length = (t.find? (fun y => y.cl == X.cl)).getD tm0 := by unfold fitT; rw [List.take_length]
            rw [hfe] at kY
            clear hfe
            have KC := Lib.hid kC.out
            have KR := Lib.hid kR.out
            have KX := Lib.hid kX.out
            have BB := Lib.hid hw.out
            have kc := kC.out.cells
            have kx := kX.out.cells
            have kr := kR.out.cells
            have kf := kR.out.free
            clear hw kC kR kX
            cases hfy : t.find? (fun y => y.cl == X.cl) with
            | none =>
              rw [hfy] at kY
              simp only [Option.getD_none, tm0] at kY
              have ky := kY.out.cells
              have HFY := Lib.hid hfy
              clear hfy kY
              rcases bcases (pe != 0) with hpe | hpe
              all_goals
                go_wp2_with fail
                have k1 := (((KR.out.set 0 (.int .i64 c.id)).set 1 (.int .i64 (0))).set 2 (.int .u8 2)).cells
                have b1 := ((BB.out.setCell (p := ⟨w.heap.size + 1, 0, none⟩) (Nat.le_succ _) (.int .i64 c.id)).setCell (p := ⟨w.heap.size + 1, 1, none⟩) (Nat.le_succ _) (.int .i64 (0))).setCell (p := ⟨w.heap.size + 1, 2, none⟩) (Nat.le_succ _) (.int .u8 2)
                have P : Aside (decP l t s c = ⟨c.id, 0, 2⟩) := by show decP l t s c = _; unfold decP; rw [HFX.out]; simp only; rw [HFY.out]
                refine bodyPost_ret (v := .agg #[.int .i64 c.id, .int .i64 (0), .int .u8 2]) (by simp [results, Tryz.results86, go_sem, k1]) rfl ⟨by rw [P.out], b1⟩
            | some Y =>
              rw [hfy] at kY
              simp only [Option.getD_some] at kY
              obtain ⟨oy, y1⟩ := OT.out Y (List.mem_of_find?_eq_some hfy)
              have HFY := Lib.hid hfy
              have hy0 : (Y.cl == 0) = false := by simp; omega
              have ky := kY.out.cells
              have KY := Lib.hid kY.out
              clear hfy kY
              rcases bcases (pe != 0) with hpe | hpe
              · have HPE := Lib.hid hpe
                go_wp2_with fail
                have k1 := (((KR.out.set 0 (.int .i64 c.id)).set 1 (.int .i64 (0))).set 2 (.int .u8 2)).cells
                have b1 := ((BB.out.setCell (p := ⟨w.heap.size + 1, 0, none⟩) (Nat.le_succ _) (.int .i64 c.id)).setCell (p := ⟨w.heap.size + 1, 1, none⟩) (Nat.le_succ _) (.int .i64 (0))).setCell (p := ⟨w.heap.size + 1, 2, none⟩) (Nat.le_succ _) (.int .u8 2)
                have P : Aside (decP l t s c = ⟨c.id, 0, 2⟩) := by show decP l t s c = _; unfold decP; rw [HFX.out]; simp only; rw [HFY.out]; simp only; rw [HPB.out.2.2, if_neg (by have := HPE.out; simpa using this)]
                refine bodyPost_ret (v := .agg #[.int .i64 c.id, .int .i64 (0), .int .u8 2]) (by simp [results, Tryz.results86, go_sem, k1]) rfl ⟨by rw [P.out], b1⟩
              · have hpe0 : pe = 0 := by simpa using hpe
                obtain ⟨p0, p1⟩ := HPB.out.1 hpe0
                have DP : Aside (decP l t s c = tableP X Y c p) := by
                  show decP l t s c = _; unfold decP; rw [HFX.out]; simp only; rw [HFY.out]; simp only; rw [HPB.out.2.2, if_pos hpe0, HPB.out.2.1]
                have OY := Lib.hid oy
                clear hpe0 HPB HFX HFY PR oy
                obtain ⟨a0, a1, q0, q1, v0, v1⟩ := OC.out
                obtain ⟨f0, f1, s0, s1, m0, m1, af0, af1, l0, l1, w0, w1⟩ := OY.out
                by_cases hA : p + 1440 * Y.wi < c.at_
                · skip
                  go_wp2_with fail
                  have k1 := (((KR.out.set 0 (.int .i64 c.id)).set 1 (.int .i64 (0))).set 2 (.int .u8 3)).cells
                  have b1 := ((BB.out.setCell (p := ⟨w.heap.size + 1, 0, none⟩) (Nat.le_succ _) (.int .i64 c.id)).setCell (p := ⟨w.heap.size + 1, 1, none⟩) (Nat.le_succ _) (.int .i64 (0))).setCell (p := ⟨w.heap.size + 1, 2, none⟩) (Nat.le_succ _) (.int .u8 3)
                  have P : Aside (decP l t s c = ⟨c.id, 0, 3⟩) := by show decP l t s c = _; rw [DP.out, tableP_eq X Y c p rfl rfl]; unfold tableQ; rw [if_pos (by omega)]
                  refine bodyPost_ret (v := .agg #[.int .i64 c.id, .int .i64 (0), .int .u8 3]) (by simp [results, Tryz.results86, go_sem, k1]) rfl ⟨by rw [P.out], b1⟩
                · have hA' : ¬ p + 1440 * Y.wi < c.at_ := hA
                  rcases OK.out with hk | hk
                  · have hkb : (c.kind == 1) = true := by simp [hk]
                    have HK := Lib.hid hkb
                    clear hk
                    rcases (show X.del < 0 ∨ (0 ≤ X.del ∧ c.at_ < X.del) ∨ (0 ≤ X.del ∧ X.del ≤ c.at_) from by omega) with hd | ⟨hd, hd'⟩ | ⟨hd, hd'⟩
                    · have hd1 : ¬ 0 ≤ X.del := by omega
                      go_wp2_with fail
                      have k1 := (((KR.out.set 0 (.int .i64 c.id)).set 1 (.int .i64 (0))).set 2 (.int .u8 4)).cells
                      have b1 := ((BB.out.setCell (p := ⟨w.heap.size + 1, 0, none⟩) (Nat.le_succ _) (.int .i64 c.id)).setCell (p := ⟨w.heap.size + 1, 1, none⟩) (Nat.le_succ _) (.int .i64 (0))).setCell (p := ⟨w.heap.size + 1, 2, none⟩) (Nat.le_succ _) (.int .u8 4)
                      have P : Aside (decP l t s c = ⟨c.id, 0, 4⟩) := by show decP l t s c = _; rw [DP.out, tableP_eq X Y c p (th := false) (by simp; omega) HK.out]; unfold tableQ; rw [if_neg (by omega)]; rfl
                      refine bodyPost_ret (v := .agg #[.int .i64 c.id, .int .i64 (0), .int .u8 4]) (by simp [results, Tryz.results86, go_sem, k1]) rfl ⟨by rw [P.out], b1⟩
                    · have hd1 : ¬ X.del ≤ c.at_ := by omega
                      go_wp2_with fail
                      have k1 := (((KR.out.set 0 (.int .i64 c.id)).set 1 (.int .i64 (0))).set 2 (.int .u8 4)).cells
                      have b1 := ((BB.out.setCell (p := ⟨w.heap.size + 1, 0, none⟩) (Nat.le_succ _) (.int .i64 c.id)).setCell (p := ⟨w.heap.size + 1, 1, none⟩) (Nat.le_succ _) (.int .i64 (0))).setCell (p := ⟨w.heap.size + 1, 2, none⟩) (Nat.le_succ _) (.int .u8 4)
                      have P : Aside (decP l t s c = ⟨c.id, 0, 4⟩) := by show decP l t s c = _; rw [DP.out, tableP_eq X Y c p (th := false) (by simp; omega) HK.out]; unfold tableQ; rw [if_neg (by omega)]; rfl
                      refine bodyPost_ret (v := .agg #[.int .i64 c.id, .int .i64 (0), .int .u8 4]) (by simp [results, Tryz.results86, go_sem, k1]) rfl ⟨by rw [P.out], b1⟩
                    · by_cases hE : X.del ≤ p + Y.free
                      · skip
                        go_wp2_with fail
                        have k1 := (((KR.out.set 0 (.int .i64 c.id)).set 1 (.int .i64 (0))).set 2 (.int .u8 5)).cells
                        have b1 := ((BB.out.setCell (p := ⟨w.heap.size + 1, 0, none⟩) (Nat.le_succ _) (.int .i64 c.id)).setCell (p := ⟨w.heap.size + 1, 1, none⟩) (Nat.le_succ _) (.int .i64 (0))).setCell (p := ⟨w.heap.size + 1, 2, none⟩) (Nat.le_succ _) (.int .u8 5)
                        have P : Aside (decP l t s c = ⟨c.id, 0, 5⟩) := by show decP l t s c = _; rw [DP.out, tableP_eq X Y c p (th := true) (by simp; omega) HK.out]; unfold tableQ; rw [if_neg (by omega), if_neg (by simp), if_pos (by simp; omega)]
                        refine bodyPost_ret (v := .agg #[.int .i64 c.id, .int .i64 (0), .int .u8 5]) (by simp [results, Tryz.results86, go_sem, k1]) rfl ⟨by rw [P.out], b1⟩
                      · have DP2 : Aside (decP l t s c = ⟨c.id, lateP Y.share Y.most c.post (X.del - p - Y.free), 6⟩) := by
                          show decP l t s c = _; rw [DP.out, tableP_eq X Y c p (th := true) (by simp; omega) HK.out]; unfold tableQ; rw [if_neg (by omega), if_neg (by simp), if_neg (by simp; omega), if_neg (by simp), if_neg (by simp), if_pos rfl]
                        have hE' : ¬ X.del ≤ p + Y.free := hE
                        go_wp2_with fail
                        obtain ⟨w4, rfl⟩ : ∃ w4, w4 = wr := ⟨_, rfl⟩
                        go_loopg [16] 730600 (fun gg s16 wr => ∃ d : Nat, 730600 - d ≤ gg ∧ d ≤ 730500 ∧ s16 = .int .i64 d ∧ Aside (w4 = wr) ∧ Aside (d = 0 ∨ p + Y.free + 1440 * ((d : Int) - 1) < X.del))
                        case atStart => exact ⟨0, by omega, by omega, rfl, rfl, Or.inl rfl⟩
                        case round =>
                          obtain ⟨d, hgg, hdl, rfl, hw4, hda⟩ := hrel
                          obtain rfl := hw4.out
                          by_cases hst : p + Y.free + 1440 * (d : Int) < X.del
                          · have hd5 : d ≤ 730490 := by omega
                            have HDA : Aside (d + 1 = 0 ∨ p + Y.free + 1440 * (((d + 1 : Nat) : Int) - 1) < X.del) := Or.inr (by show p + Y.free + 1440 * (((d + 1 : Nat) : Int) - 1) < X.del; omega)
                            go_wp2_with fail
                            go_roundg (730600 - (d + 1))
                            case measure => omega
                            case rel => exact ⟨d + 1, by omega, by omega, by go_num, rfl, HDA.out⟩
                          · have hst' : ¬ p + Y.free + 1440 * (d : Int) < X.del := hst
                            have hdd : (d : Int) = (X.del - p - Y.free + 1439) / 1440 := by have := hda.out; omega
                            have hm0 : 0 ≤ (d : Int) * Y.share := Int.mul_nonneg (by omega) s0
                            have hm1 : (d : Int) * Y.share ≤ 730600 * 10000 := Int.mul_le_mul (by omega) s1 s0 (by omega)
                            have hwm : wrap64 ((d : Int) * Y.share) = (d : Int) * Y.share := IntWalk.wrap64_in _ ⟨by omega, by omega⟩
                            obtain ⟨q, hq⟩ : ∃ q, q = (d : Int) * Y.share := ⟨_, rfl⟩
                            rw [← hq] at hm0 hm1 hwm
                            have HQ := Lib.hid (And.intro hq hdd)
                            have hLP : Aside (∀ r, r = min q Y.most → lateP Y.share Y.most c.post (X.del - p - Y.free) = shareP c.post r) := by
                              intro r hr
                              unfold lateP
                              rw [← HQ.out.2, ← HQ.out.1, hr]
                            have hq2 : (d : Int) * Y.share = q := hq.symm
                            clear hq hdd hda
                            have hci := (show _ = some (Value.int .i64 c.id) from KC.out.cells 0)
                            have hcp := (show _ = some (Value.int .i64 c.post) from KC.out.cells 4)
                            have fci := fun p : Ex w4 => p.cell KC.out.lt hci
                            have fcp := fun p : Ex w4 => p.cell KC.out.lt hcp
                            by_cases hqm : Y.most < q
                            · have hr := hLP.out Y.most (by omega)
                              have HR := Lib.hid hr
                              have SH := Lib.hid (fun W => refShare c.post Y.most W q0 (by omega) m0 m1)
                              clear hr
                              go_wp2_with fail
                              (refine wp_region_quiet_tail 7 (by kernel_rfl) (by kernel_rfl) ?_; simp only [List.take_succ_cons, List.take_zero, List.drop_succ_cons, List.drop_zero]; (repeat (go_big_quiet_step ((go_at_call 101; refine Calls.ex_same (SH.out _))))); refine wpQuiet_nil ?_; intro wq hw'; obtain ⟨⟨_, hq⟩, hw''⟩ := hw'; subst hw'')
                              have KR2 := Lib.hid (KR.out.below hq KR.out.lt)
                              have BB2 := Lib.hid (BB.out.trans (hq.mono BB.out.size))
                              have kr2 := KR2.out.cells
                              have kf2 := KR2.out.free
                              clear fci fcp hq
                              go_wp2_with fail
                              have k1 := (((KR2.out.set 0 (.int .i64 c.id)).set 1 (.int .i64 (shareP c.post Y.most))).set 2 (.int .u8 6)).cells
                              have b1 := ((BB2.out.setCell (p := ⟨w.heap.size + 1, 0, none⟩) (Nat.le_succ _) (.int .i64 c.id)).setCell (p := ⟨w.heap.size + 1, 1, none⟩) (Nat.le_succ _) (.int .i64 (shareP c.post Y.most))).setCell (p := ⟨w.heap.size + 1, 2, none⟩) (Nat.le_succ _) (.int .u8 6)
                              have P : Aside (decP l t s c = ⟨c.id, shareP c.post Y.most, 6⟩) := by show decP l t s c = _; rw [DP2.out, HR.out]
                              refine bodyPost_ret (v := .agg #[.int .i64 c.id, .int .i64 (shareP c.post Y.most), .int .u8 6]) (by simp [results, Tryz.results86, go_sem, k1]) rfl ⟨by rw [P.out], b1⟩
                            · have hqm' : ¬ Y.most < q := hqm
                              have hr := hLP.out q (by omega)
                              have HR := Lib.hid hr
                              have SH := Lib.hid (fun W => refShare c.post q W q0 (by omega) hm0 (by omega))
                              clear hr
                              go_wp2_with fail
                              (refine wp_region_quiet_tail 7 (by kernel_rfl) (by kernel_rfl) ?_; simp only [List.take_succ_cons, List.take_zero, List.drop_succ_cons, List.drop_zero]; (repeat (go_big_quiet_step ((go_at_call 101; refine Calls.ex_same (SH.out _))))); refine wpQuiet_nil ?_; intro wq hw'; obtain ⟨⟨_, hq⟩, hw''⟩ := hw'; subst hw'')
                              have KR2 := Lib.hid (KR.out.below hq KR.out.lt)
                              have BB2 := Lib.hid (BB.out.trans (hq.mono BB.out.size))
                              have kr2 := KR2.out.cells
                              have kf2 := KR2.out.free
                              clear fci fcp hq
                              go_wp2_with fail
                              have k1 := (((KR2.out.set 0 (.int .i64 c.id)).set 1 (.int .i64 (shareP c.post q))).set 2 (.int .u8 6)).cells
                              have b1 := ((BB2.out.setCell (p := ⟨w.heap.size + 1, 0, none⟩) (Nat.le_succ _) (.int .i64 c.id)).setCell (p := ⟨w.heap.size + 1, 1, none⟩) (Nat.le_succ _) (.int .i64 (shareP c.post q))).setCell (p := ⟨w.heap.size + 1, 2, none⟩) (Nat.le_succ _) (.int .u8 6)
                              have P : Aside (decP l t s c = ⟨c.id, shareP c.post q, 6⟩) := by show decP l t s c = _; rw [DP2.out, HR.out]
                              refine bodyPost_ret (v := .agg #[.int .i64 c.id, .int .i64 (shareP c.post q), .int .u8 6]) (by simp [results, Tryz.results86, go_sem, k1]) rfl ⟨by rw [P.out], b1⟩
                  · have hkb : (c.kind == 1) = false := by simp [hk]
                    have HK := Lib.hid hkb
                    clear hk
                    rcases (show X.del < 0 ∨ (0 ≤ X.del ∧ c.at_ < X.del) ∨ (0 ≤ X.del ∧ X.del ≤ c.at_) from by omega) with hd | ⟨hd, hd'⟩ | ⟨hd, hd'⟩
                    rotate_right
                    · skip
                      go_wp2_with fail
                      have k1 := (((KR.out.set 0 (.int .i64 c.id)).set 1 (.int .i64 (0))).set 2 (.int .u8 5)).cells
                      have b1 := ((BB.out.setCell (p := ⟨w.heap.size + 1, 0, none⟩) (Nat.le_succ _) (.int .i64 c.id)).setCell (p := ⟨w.heap.size + 1, 1, none⟩) (Nat.le_succ _) (.int .i64 (0))).setCell (p := ⟨w.heap.size + 1, 2, none⟩) (Nat.le_succ _) (.int .u8 5)
                      have P : Aside (decP l t s c = ⟨c.id, 0, 5⟩) := by show decP l t s c = _; rw [DP.out, tableP_eq X Y c p (th := true) (by simp; omega) HK.out]; unfold tableQ; rw [if_neg (by omega)]; rfl
                      refine bodyPost_ret (v := .agg #[.int .i64 c.id, .int .i64 (0), .int .u8 5]) (by simp [results, Tryz.results86, go_sem, k1]) rfl ⟨by rw [P.out], b1⟩
                    · have hd1 : ¬ 0 ≤ X.del := by omega
                      have HD : Aside ((decide (0 ≤ X.del) && decide (X.del ≤ c.at_)) = false) := by show _ = _; simp; omega
                      by_cases hE : c.at_ ≤ p + Y.after
                      · skip
                        go_wp2_with fail
                        have k1 := (((KR.out.set 0 (.int .i64 c.id)).set 1 (.int .i64 (0))).set 2 (.int .u8 4)).cells
                        have b1 := ((BB.out.setCell (p := ⟨w.heap.size + 1, 0, none⟩) (Nat.le_succ _) (.int .i64 c.id)).setCell (p := ⟨w.heap.size + 1, 1, none⟩) (Nat.le_succ _) (.int .i64 (0))).setCell (p := ⟨w.heap.size + 1, 2, none⟩) (Nat.le_succ _) (.int .u8 4)
                        have P : Aside (decP l t s c = ⟨c.id, 0, 4⟩) := by show decP l t s c = _; rw [DP.out, tableP_eq X Y c p HD.out HK.out]; unfold tableQ; rw [if_neg (by omega), if_neg (by simp), if_neg (by simp), if_neg (by simp), if_pos (by simp; omega)]
                        refine bodyPost_ret (v := .agg #[.int .i64 c.id, .int .i64 (0), .int .u8 4]) (by simp [results, Tryz.results86, go_sem, k1]) rfl ⟨by rw [P.out], b1⟩
                      · have hE' : ¬ c.at_ ≤ p + Y.after := hE
                        have DP2 : Aside (decP l t s c = ⟨c.id, min c.val Y.limit + c.post, 6⟩) := by
                          show decP l t s c = _; rw [DP.out, tableP_eq X Y c p HD.out HK.out]; unfold tableQ; rw [if_neg (by omega), if_neg (by simp), if_neg (by simp), if_neg (by simp), if_neg (by simp; omega), if_neg (by simp)]
                        by_cases hV : c.val < Y.limit
                        · skip
                          go_wp2_with fail
                          have k1 := (((KR.out.set 0 (.int .i64 c.id)).set 1 (.int .i64 (c.val + c.post))).set 2 (.int .u8 6)).cells
                          have b1 := ((BB.out.setCell (p := ⟨w.heap.size + 1, 0, none⟩) (Nat.le_succ _) (.int .i64 c.id)).setCell (p := ⟨w.heap.size + 1, 1, none⟩) (Nat.le_succ _) (.int .i64 (c.val + c.post))).setCell (p := ⟨w.heap.size + 1, 2, none⟩) (Nat.le_succ _) (.int .u8 6)
                          have P : Aside (decP l t s c = ⟨c.id, c.val + c.post, 6⟩) := by show decP l t s c = _; rw [DP2.out, Int.min_eq_left (by omega)]
                          refine bodyPost_ret (v := .agg #[.int .i64 c.id, .int .i64 (c.val + c.post), .int .u8 6]) (by simp [results, Tryz.results86, go_sem, k1]) rfl ⟨by rw [P.out], b1⟩
                        · have hV' : ¬ c.val < Y.limit := hV
                          go_wp2_with fail
                          have k1 := (((KR.out.set 0 (.int .i64 c.id)).set 1 (.int .i64 (Y.limit + c.post))).set 2 (.int .u8 6)).cells
                          have b1 := ((BB.out.setCell (p := ⟨w.heap.size + 1, 0, none⟩) (Nat.le_succ _) (.int .i64 c.id)).setCell (p := ⟨w.heap.size + 1, 1, none⟩) (Nat.le_succ _) (.int .i64 (Y.limit + c.post))).setCell (p := ⟨w.heap.size + 1, 2, none⟩) (Nat.le_succ _) (.int .u8 6)
                          have P : Aside (decP l t s c = ⟨c.id, Y.limit + c.post, 6⟩) := by show decP l t s c = _; rw [DP2.out, Int.min_eq_right (by omega)]
                          refine bodyPost_ret (v := .agg #[.int .i64 c.id, .int .i64 (Y.limit + c.post), .int .u8 6]) (by simp [results, Tryz.results86, go_sem, k1]) rfl ⟨by rw [P.out], b1⟩
                    · have hd1 : ¬ X.del ≤ c.at_ := by omega
                      have HD : Aside ((decide (0 ≤ X.del) && decide (X.del ≤ c.at_)) = false) := by show _ = _; simp; omega
                      by_cases hE : c.at_ ≤ p + Y.after
                      · skip
                        go_wp2_with fail
                        have k1 := (((KR.out.set 0 (.int .i64 c.id)).set 1 (.int .i64 (0))).set 2 (.int .u8 4)).cells
                        have b1 := ((BB.out.setCell (p := ⟨w.heap.size + 1, 0, none⟩) (Nat.le_succ _) (.int .i64 c.id)).setCell (p := ⟨w.heap.size + 1, 1, none⟩) (Nat.le_succ _) (.int .i64 (0))).setCell (p := ⟨w.heap.size + 1, 2, none⟩) (Nat.le_succ _) (.int .u8 4)
                        have P : Aside (decP l t s c = ⟨c.id, 0, 4⟩) := by show decP l t s c = _; rw [DP.out, tableP_eq X Y c p HD.out HK.out]; unfold tableQ; rw [if_neg (by omega), if_neg (by simp), if_neg (by simp), if_neg (by simp), if_pos (by simp; omega)]
                        refine bodyPost_ret (v := .agg #[.int .i64 c.id, .int .i64 (0), .int .u8 4]) (by simp [results, Tryz.results86, go_sem, k1]) rfl ⟨by rw [P.out], b1⟩
                      · have hE' : ¬ c.at_ ≤ p + Y.after := hE
                        have DP2 : Aside (decP l t s c = ⟨c.id, min c.val Y.limit + c.post, 6⟩) := by
                          show decP l t s c = _; rw [DP.out, tableP_eq X Y c p HD.out HK.out]; unfold tableQ; rw [if_neg (by omega), if_neg (by simp), if_neg (by simp), if_neg (by simp), if_neg (by simp; omega), if_neg (by simp)]
                        by_cases hV : c.val < Y.limit
                        · skip
                          go_wp2_with fail
                          have k1 := (((KR.out.set 0 (.int .i64 c.id)).set 1 (.int .i64 (c.val + c.post))).set 2 (.int .u8 6)).cells
                          have b1 := ((BB.out.setCell (p := ⟨w.heap.size + 1, 0, none⟩) (Nat.le_succ _) (.int .i64 c.id)).setCell (p := ⟨w.heap.size + 1, 1, none⟩) (Nat.le_succ _) (.int .i64 (c.val + c.post))).setCell (p := ⟨w.heap.size + 1, 2, none⟩) (Nat.le_succ _) (.int .u8 6)
                          have P : Aside (decP l t s c = ⟨c.id, c.val + c.post, 6⟩) := by show decP l t s c = _; rw [DP2.out, Int.min_eq_left (by omega)]
                          refine bodyPost_ret (v := .agg #[.int .i64 c.id, .int .i64 (c.val + c.post), .int .u8 6]) (by simp [results, Tryz.results86, go_sem, k1]) rfl ⟨by rw [P.out], b1⟩
                        · have hV' : ¬ c.val < Y.limit := hV
                          go_wp2_with fail
                          have k1 := (((KR.out.set 0 (.int .i64 c.id)).set 1 (.int .i64 (Y.limit + c.post))).set 2 (.int .u8 6)).cells
                          have b1 := ((BB.out.setCell (p := ⟨w.heap.size + 1, 0, none⟩) (Nat.le_succ _) (.int .i64 c.id)).setCell (p := ⟨w.heap.size + 1, 1, none⟩) (Nat.le_succ _) (.int .i64 (Y.limit + c.post))).setCell (p := ⟨w.heap.size + 1, 2, none⟩) (Nat.le_succ _) (.int .u8 6)
                          have P : Aside (decP l t s c = ⟨c.id, Y.limit + c.post, 6⟩) := by show decP l t s c = _; rw [DP2.out, Int.min_eq_right (by omega)]
                          refine bodyPost_ret (v := .agg #[.int .i64 c.id, .int .i64 (Y.limit + c.post), .int .u8 6]) (by simp [results, Tryz.results86, go_sem, k1]) rfl ⟨by rw [P.out], b1⟩
end
end Go.Proofs.YtnnppnlekpadnaaGreat
