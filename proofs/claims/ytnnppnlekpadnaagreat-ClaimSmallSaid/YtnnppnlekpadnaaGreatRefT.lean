/- Contracts of the statements' otherTerms, others, same and tells. -/
import Derived.Test.YtnnppnlekpadnaaGreatRefS
namespace Go.Proofs.YtnnppnlekpadnaaGreat
open Go.RowKit Go.Proofs
set_option maxRecDepth 100000

theorem infRTerms : (Tryz.prog.info? 118).map (fun i => (i.zero, i.size, i.bytes)) = some (some (.agg #[(.int .u8 0), (.int .i64 0), (.int .i64 0), (.int .i64 0), (.int .i64 0), (.int .i64 0), (.int .i64 0)]), 7, 56) := by kernel_rfl
theorem terms_one (x : Terms) : ∀ u ∈ encTerms x, u.oneCell' = true := by
  intro u hu
  simp [encTerms] at hu
  rcases hu with rfl | rfl | rfl | rfl | rfl | rfl | rfl <;> rfl

set_option maxHeartbeats 2000000 in
theorem otherTerms_any (A : Option Addr) (cap : Nat) (xs : List Terms) (w : World) (hr : Rd encTerms 7 w A xs) (hn : xs.length ≤ 1000000) :
    Calls Tryz.prog 42 #[.slice A xs.length cap] w fun e w' => ∃ (A' : Option Addr) (cap' : Nat), e = .returned (.slice A' xs.length cap') ∧ Rd encTerms 7 w' A' xs ∧ Below w.heap.size w w' := by
  have HR := Lib.hid hr
  clear hr
  obtain ⟨i0, hi, hz0, hz1, hz2⟩ := info_parts2 infRTerms
  go_enter Tryz.func42, Tryz.ntmps42
  go_wp2_with fail
  go_loopg [3, 4] xs.length (fun gg s3 s4 wr => ∃ j : Nat, j ≤ xs.length ∧ xs.length - j ≤ gg ∧ s4 = .int .i64 j ∧ Aside (Below w.heap.size w wr) ∧ Aside (wr.ownsRow w.heap.size 118 7 s3 j ((xs.take j).flatMap encTerms)))
  case atStart => exact ⟨0, Nat.zero_le _, by omega, rfl, Below.refl _ _, ⟨by simp, Or.inl ⟨rfl, rfl⟩⟩⟩
  case round =>
    obtain ⟨j, hj, hg, rfl, hw, ho⟩ := hrel
    by_cases hlt : j < xs.length
    · have hx : xs[j]? = some xs[j] := List.getElem?_eq_getElem hlt
      have hst : xs.take (j + 1) = xs.take j ++ [xs[j]] := by rw [List.take_add_one, hx]; rfl
      obtain ⟨b, o, rfl, hb, hl⟩ := (HR.out.below (Nat.le_refl _) hw.out).at hx
      generalize xs[j] = x at hx hst hl
      have HST := Lib.hid hst
      clear hx hst
      have hl0 := hl 0 _ rfl; have hl1 := hl 1 _ rfl; have hl2 := hl 2 _ rfl; have hl3 := hl 3 _ rfl; have hl4 := hl 4 _ rfl; have hl5 := hl 5 _ rfl; have hl6 := hl 6 _ rfl; rw [Nat.add_zero] at hl0; clear hl
      have own0 := own_below ho.out ((Below.refl wr.heap.size wr).alloc (Nat.le_refl _) (.cells #[.int .u8 x.cl, .int .i64 x.free, .int .i64 x.share, .int .i64 x.most, .int .i64 x.after, .int .i64 x.limit, .int .i64 x.wi] 41))
      have kx : Blk (wr.alloc (.cells #[.int .u8 x.cl, .int .i64 x.free, .int .i64 x.share, .int .i64 x.most, .int .i64 x.after, .int .i64 x.limit, .int .i64 x.wi] 41)) wr.heap.size #[.int .u8 x.cl, .int .i64 x.free, .int .i64 x.share, .int .i64 x.most, .int .i64 x.after, .int .i64 x.limit, .int .i64 x.wi] 41 := Blk.new rfl
      have b0 := hw.out.alloc hw.out.size (.cells #[.int .u8 x.cl, .int .i64 x.free, .int .i64 x.share, .int .i64 x.most, .int .i64 x.after, .int .i64 x.limit, .int .i64 x.wi] 41)
      have kc := kx.cells
      have B0 := Lib.hid b0
      have OWN0 := Lib.hid own0
      clear own0 b0 kx
      go_wp2_with (at_builtin; refine wpList_append_own _ rfl _ _ 78 rfl w.heap.size 118 i0 (.agg #[(.int .u8 0), (.int .i64 0), (.int .i64 0), (.int .i64 0), (.int .i64 0), (.int .i64 0), (.int .i64 0)]) 7 56 Tryz.underlying78 hi hz0 hz1 hz2 rfl (by decide) _ j ((xs.take j).flatMap encTerms) rfl ?qo ⟨_, 0, none⟩ 1 1 (encTerms x) rfl ?q1 ?q2 (terms_one x) ?q4 ?q5 ?q6 ?_)
      case qo => exact own_below OWN0.out ((Below.refl _ _).alloc (Nat.le_refl _) _)
      case q1 => rfl
      case q2 => first | (intro k u hu; rw [addp]; refine Eq.trans (Blk.cells (Blk.new (by first | (simp; done) | (simp; omega) | omega)) _) ?_; simpa [encTerms] using hu) | (intro k u hu; simpa [encTerms] using hu)
      case q4 => unfold maxLen; omega
      case q5 => omega
      case q6 => exact Nat.le_trans B0.out.size ((Below.refl 0 _).alloc (Nat.zero_le _) _).size
      intro v' w9 hown hgrow hnil
      have bg := ((Below.refl w.heap.size _).alloc B0.out.size _).grown hgrow (Nat.le_trans B0.out.size ((Below.refl 0 _).alloc (Nat.zero_le _) _).size) (fun k hk => own_ge OWN0.out hk)
      have bz := Lib.hid (B0.out.trans bg)
      have own9 : w9.ownsRow w.heap.size 118 7 v' (j + 1) ((xs.take j ++ [x]).flatMap encTerms) := by simpa using hown
      rw [← HST.out] at own9
      have OWN := Lib.hid own9
      clear hown own9 hgrow hnil bg ho kc
      go_wp2_with fail
      go_roundg (xs.length - (j + 1))
      case measure => omega
      case rel => exact ⟨j + 1, by omega, by omega, by go_num, bz.out, OWN.out⟩
    · have hjn : j = xs.length := by omega
      subst hjn
      rw [List.take_length] at ho
      obtain ⟨A', cap', rfl, hrd⟩ := own_rd (enc := encTerms) (k := 7) (fun _ => rfl) ho.out
      have hg' : ¬ (xs.length : Int) < (xs.length : Int) := by omega
      have F := Lib.hid (And.intro hrd hw.out)
      clear hrd ho hw
      go_wp2_with fail
      go_ret
      first | exact ⟨A', ⟨cap', rfl⟩, F.out.1, F.out.2⟩ | exact ⟨A', cap', rfl, F.out.1, F.out.2⟩
set_option maxHeartbeats 2000000 in
theorem otherClm_any (A : Option Addr) (cap : Nat) (xs : List Clm) (w : World) (hr : Rd encClm 6 w A xs) (hn : xs.length ≤ 1000000) :
    Calls Tryz.prog 45 #[.slice A xs.length cap] w fun e w' => ∃ (A' : Option Addr) (cap' : Nat), e = .returned (.slice A' xs.length cap') ∧ Rd encClm 6 w' A' xs ∧ Below w.heap.size w w' := by
  have HR := Lib.hid hr
  clear hr
  obtain ⟨i0, hi, hz0, hz1, hz2⟩ := info_parts2 infRClm
  go_enter Tryz.func45, Tryz.ntmps45
  go_wp2_with fail
  go_loopg [3, 4] xs.length (fun gg s3 s4 wr => ∃ j : Nat, j ≤ xs.length ∧ xs.length - j ≤ gg ∧ s4 = .int .i64 j ∧ Aside (Below w.heap.size w wr) ∧ Aside (wr.ownsRow w.heap.size 90 6 s3 j ((xs.take j).flatMap encClm)))
  case atStart => exact ⟨0, Nat.zero_le _, by omega, rfl, Below.refl _ _, ⟨by simp, Or.inl ⟨rfl, rfl⟩⟩⟩
  case round =>
    obtain ⟨j, hj, hg, rfl, hw, ho⟩ := hrel
    by_cases hlt : j < xs.length
    · have hx : xs[j]? = some xs[j] := List.getElem?_eq_getElem hlt
      have hst : xs.take (j + 1) = xs.take j ++ [xs[j]] := by rw [List.take_add_one, hx]; rfl
      obtain ⟨b, o, rfl, hb, hl⟩ := (HR.out.below (Nat.le_refl _) hw.out).at hx
      generalize xs[j] = x at hx hst hl
      have HST := Lib.hid hst
      clear hx hst
      have hl0 := hl 0 _ rfl; have hl1 := hl 1 _ rfl; have hl2 := hl 2 _ rfl; have hl3 := hl 3 _ rfl; have hl4 := hl 4 _ rfl; have hl5 := hl 5 _ rfl; rw [Nat.add_zero] at hl0; clear hl
      have own0 := own_below ho.out ((Below.refl wr.heap.size wr).alloc (Nat.le_refl _) (.cells #[.int .i64 x.id, .int .i64 x.item, .int .i64 x.at_, .int .u8 x.kind, .int .i64 x.post, .int .i64 x.val] 31))
      have kx : Blk (wr.alloc (.cells #[.int .i64 x.id, .int .i64 x.item, .int .i64 x.at_, .int .u8 x.kind, .int .i64 x.post, .int .i64 x.val] 31)) wr.heap.size #[.int .i64 x.id, .int .i64 x.item, .int .i64 x.at_, .int .u8 x.kind, .int .i64 x.post, .int .i64 x.val] 31 := Blk.new rfl
      have b0 := hw.out.alloc hw.out.size (.cells #[.int .i64 x.id, .int .i64 x.item, .int .i64 x.at_, .int .u8 x.kind, .int .i64 x.post, .int .i64 x.val] 31)
      have kc := kx.cells
      have B0 := Lib.hid b0
      have OWN0 := Lib.hid own0
      clear own0 b0 kx
      go_wp2_with (at_builtin; refine wpList_append_own _ rfl _ _ 81 rfl w.heap.size 90 i0 (.agg #[(.int .i64 0), (.int .i64 0), (.int .i64 0), (.int .u8 0), (.int .i64 0), (.int .i64 0)]) 6 48 Tryz.underlying81 hi hz0 hz1 hz2 rfl (by decide) _ j ((xs.take j).flatMap encClm) rfl ?qo ⟨_, 0, none⟩ 1 1 (encClm x) rfl ?q1 ?q2 (clm_one x) ?q4 ?q5 ?q6 ?_)
      case qo => exact own_below OWN0.out ((Below.refl _ _).alloc (Nat.le_refl _) _)
      case q1 => rfl
      case q2 => first | (intro k u hu; rw [addp]; refine Eq.trans (Blk.cells (Blk.new (by first | (simp; done) | (simp; omega) | omega)) _) ?_; simpa [encClm] using hu) | (intro k u hu; simpa [encClm] using hu)
      case q4 => unfold maxLen; omega
      case q5 => omega
      case q6 => exact Nat.le_trans B0.out.size ((Below.refl 0 _).alloc (Nat.zero_le _) _).size
      intro v' w9 hown hgrow hnil
      have bg := ((Below.refl w.heap.size _).alloc B0.out.size _).grown hgrow (Nat.le_trans B0.out.size ((Below.refl 0 _).alloc (Nat.zero_le _) _).size) (fun k hk => own_ge OWN0.out hk)
      have bz := Lib.hid (B0.out.trans bg)
      have own9 : w9.ownsRow w.heap.size 90 6 v' (j + 1) ((xs.take j ++ [x]).flatMap encClm) := by simpa using hown
      rw [← HST.out] at own9
      have OWN := Lib.hid own9
      clear hown own9 hgrow hnil bg ho kc
      go_wp2_with fail
      go_roundg (xs.length - (j + 1))
      case measure => omega
      case rel => exact ⟨j + 1, by omega, by omega, by go_num, bz.out, OWN.out⟩
    · have hjn : j = xs.length := by omega
      subst hjn
      rw [List.take_length] at ho
      obtain ⟨A', cap', rfl, hrd⟩ := own_rd (enc := encClm) (k := 6) (fun _ => rfl) ho.out
      have hg' : ¬ (xs.length : Int) < (xs.length : Int) := by omega
      have F := Lib.hid (And.intro hrd hw.out)
      clear hrd ho hw
      go_wp2_with fail
      go_ret
      first | exact ⟨A', ⟨cap', rfl⟩, F.out.1, F.out.2⟩ | exact ⟨A', cap', rfl, F.out.1, F.out.2⟩

/-- What Settle returns. -/
def IsOut (l : List Std) (t : List Terms) (s : List Sent) (c : List Clm) (o : List Outc) : Prop :=
  (chkP l t s c ≠ 0 ∧ o = []) ∨ (chkP l t s c = 0 ∧ ∃ d : List Clm, d.Perm c ∧ d.Pairwise (fun x y => ¬ ltSet y x) ∧ o = (setF l t s d).2)
theorem IsOut.uniq {l : List Std} {t : List Terms} {s : List Sent} {c : List Clm} {o o' : List Outc} (h : IsOut l t s c o) (h' : IsOut l t s c o') : o = o' := by
  rcases h with ⟨h1, rfl⟩ | ⟨h1, d, h2, h3, rfl⟩ <;> rcases h' with ⟨h4, rfl⟩ | ⟨h4, d', h5, h6, rfl⟩
  · rfl
  · exact absurd h4 h1
  · exact absurd h1 h4
  · rw [set_uniq h2 h3 h5 h6 (chk_nodup h1)]
theorem setF_length {l : List Std} {t : List Terms} {s : List Sent} {c d : List Clm} (h : d.Perm c) : (setF l t s d).2.length = c.length := by
  unfold setF; rw [setF_len]; simp [h.length_eq]
theorem IsOut.le {l : List Std} {t : List Terms} {s : List Sent} {c : List Clm} {o : List Outc} (h : IsOut l t s c o) : o.length ≤ c.length := by
  rcases h with ⟨_, rfl⟩ | ⟨_, d, h2, _, rfl⟩
  · simp
  · rw [setF_length h2]; omega

theorem same_any (x : Outc) (w : World) : Calls Tryz.prog 47 #[.agg #[.int .i64 x.clm, .int .i64 x.cents, .int .u8 x.ver], .agg #[.int .i64 x.clm, .int .i64 x.cents, .int .u8 x.ver]] w fun e w' => e = .returned (.bool true) ∧ Below w.heap.size w w' := by
  go_enter Tryz.func47, Tryz.ntmps47
  go_wp2_with fail
  go_ret
  exact ⟨rfl, ((Below.refl _ _).alloc (Nat.le_refl _) _).alloc (by first | (simp; done) | (simp; omega) | omega) _⟩

section
variable (Al At As Ac : Option Addr) (ca cb cc cd : Nat) (l : List Std) (t : List Terms) (s : List Sent) (c : List Clm) (w : World)
variable (hl : Rd encStd 4 w Al l) (ht : Rd encTerms 7 w At t) (hs : Rd encSent 6 w As s) (hc : Rd encClm 6 w Ac c) (nl : l.length ≤ 1000000) (nt : t.length ≤ 1000000) (ns : s.length ≤ 1000000) (nc : c.length ≤ 1000000)
include hl ht hs hc nl nt ns nc in
theorem settle_u : Calls Tryz.prog 25 #[.slice Al l.length ca, .slice At t.length cb, .slice As s.length cc, .slice Ac c.length cd] w fun e w' => ∃ (o : List Outc) (A : Option Addr) (cap : Nat), e = .returned (.tuple #[.slice A o.length cap, .int .i64 (chkP l t s c)]) ∧ IsOut l t s c o ∧ Rd encOutc 3 w' A o ∧ Below w.heap.size w w' := by
  by_cases h : chkP l t s c = 0
  · refine (settle_ok Al At As Ac ca cb cc cd l t s c w hl ht hs hc nl nt ns nc h).mono fun e w' ⟨d, A, cap, h1, h2, h3, h4, h5⟩ => ⟨_, A, cap, ?_, Or.inr ⟨h, d, h1, h2, rfl⟩, h4, h5⟩
    rw [h3, h, setF_length h1]
  · exact (settle_err Al At As Ac ca cb cc cd l t s c w hl ht hs hc nl nt ns nc h).mono fun e w' ⟨h1, h2⟩ => ⟨[], none, 0, h1, Or.inl ⟨h, rfl⟩, Rd.nil _ _ _ _, h2⟩
variable (ul : ∀ x ∈ l, 0 ≤ x.cl) (ut : ∀ x ∈ t, 0 ≤ x.cl) (us : ∀ x ∈ s, 0 ≤ x.cl) (uc : ∀ x ∈ c, 0 ≤ x.kind ∧ x.kind ≤ 255)
include hl ht hs hc nl nt ns nc ul ut us uc in
theorem refSettle_u : Calls Tryz.prog 46 #[.slice Al l.length ca, .slice At t.length cb, .slice As s.length cc, .slice Ac c.length cd] w fun e w' => ∃ (o : List Outc) (A : Option Addr) (cap : Nat), e = .returned (.tuple #[.slice A o.length cap, .int .i64 (chkP l t s c)]) ∧ IsOut l t s c o ∧ Rd encOutc 3 w' A o ∧ Below w.heap.size w w' := by
  by_cases h : chkP l t s c = 0
  · refine (refSettle_ok Al At As Ac ca cb cc cd l t s c w hl ht hs hc nl nt ns nc ul ut us uc h).mono fun e w' ⟨d, A, cap, h1, h2, h3, h4, h5⟩ => ⟨_, A, cap, ?_, Or.inr ⟨h, d, h1, h2, rfl⟩, h4, h5⟩
    rw [h3, h, setF_length h1]
  · exact (refSettle_err Al At As Ac ca cb cc cd l t s c w hl ht hs hc nl nt ns nc ul ut us uc h).mono fun e w' ⟨h1, h2⟩ => ⟨[], none, 0, h1, Or.inl ⟨h, rfl⟩, Rd.nil _ _ _ _, h2⟩
end
end Go.Proofs.YtnnppnlekpadnaaGreat
