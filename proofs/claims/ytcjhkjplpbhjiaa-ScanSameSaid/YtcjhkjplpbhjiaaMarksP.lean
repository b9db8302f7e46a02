/- The plain law of ScanMarks; what Built makes is right. -/
import Derived.Test.YtcjhkjplpbhjiaaFrm
namespace Go.Proofs.Ytcjhkjplpbhjiaa

theorem mem_marks (l : List Scn) (m : Mrk) : m ∈ marksF l ↔ m ∈ (foldB (atP ((foldB (daysP l)).map (·.2)))).map (·.2) := by
  unfold marksF
  exact (srt_perm _ _).mem_iff
/-- Each scan has a mark of its scanner that tells no more than it. -/
theorem marks_some (l : List Scn) {s : Scn} (hs : s ∈ l) : ∃ m ∈ marksF l, m.sc = s.scanner ∧ m.off ≤ s.seen - s.at_ := by
  have hb := foldB_best (daysP l)
  have hin : (dayKey s, markOf s) ∈ daysP l := (daysP_mem _ _ _).2 ⟨s, hs, rfl, rfl⟩
  cases h1 : getL (foldB (daysP l)) (dayKey s) with
  | none => exact absurd hin (hb.none _ h1 _)
  | some m1 =>
    obtain ⟨q1, q2⟩ := hb.some _ _ h1
    obtain ⟨s1, hs1, e1, rfl⟩ := (daysP_mem _ _ _).1 q1
    have l1 := q2 _ hin
    rw [ltOff_false] at l1
    have hv : markOf s1 ∈ (foldB (daysP l)).map (·.2) := List.mem_map.2 ⟨(dayKey s, markOf s1), (mem_getL hb.nodup _ _).2 h1, rfl⟩
    have hc := foldB_best (atP ((foldB (daysP l)).map (·.2)))
    have hin2 : (atKey (markOf s1), markOf s1) ∈ atP ((foldB (daysP l)).map (·.2)) := by
      unfold atP; exact List.mem_map.2 ⟨_, hv, rfl⟩
    cases h2 : getL (foldB (atP ((foldB (daysP l)).map (·.2)))) (atKey (markOf s1)) with
    | none => exact absurd hin2 (hc.none _ h2 _)
    | some m2 =>
      obtain ⟨q3, q4⟩ := hc.some _ _ h2
      have l2 := q4 _ hin2
      rw [ltOff_false] at l2
      refine ⟨m2, (mem_marks l m2).2 (List.mem_map.2 ⟨_, (mem_getL hc.nodup _ _).2 h2, rfl⟩), ?_, ?_⟩
      · unfold atP at q3
        obtain ⟨x, _, hx⟩ := List.mem_map.1 q3
        simp only [Prod.mk.injEq, atKey] at hx
        obtain ⟨⟨a, _⟩, rfl⟩ := hx
        rw [a]
        simp only [dayKey, Prod.mk.injEq] at e1
        exact e1.1
      · have e5 : (markOf s).off = s.seen - s.at_ := rfl
        omega
/-- Each mark is that of a scan. -/
theorem marks_of (l : List Scn) {m : Mrk} (hm : m ∈ marksF l) : ∃ s ∈ l, s.scanner = m.sc ∧ s.at_ = m.at_ ∧ s.seen - s.at_ = m.off := by
  obtain ⟨⟨s, hs, rfl, -⟩, -⟩ := ((marksF_is l).mem m).1 hm
  exact ⟨s, hs, rfl, rfl, rfl⟩

theorem scnOf_ok (cl : List Int) (h8 : ∀ x ∈ cl, -128 ≤ x ∧ x ≤ 127) (f : Frm) (hf : FrmOk f) : okS (scnOf cl f) = true := by
  obtain ⟨⟨f1, f2⟩, ⟨f3, f4⟩, ⟨f5, f6⟩, ⟨f7, f8⟩, ⟨f9, f10⟩, f11, f12⟩ := hf
  have := clk_bd cl h8 (1 + f.scanner % 4)
  rw [okS_iff]
  unfold scnOf timeOf
  dsimp only
  omega
theorem built_len (cl : List Int) (l : List Frm) : (builtS cl l).length ≤ 24 := by unfold builtS; rw [List.length_map, List.length_take]; omega
theorem built_oks (cl : List Int) (l : List Frm) (h8 : ∀ x ∈ cl, -128 ≤ x ∧ x ≤ 127) (hok : ∀ f ∈ l, FrmOk f) : ∀ s ∈ builtS cl l, okS s = true := by
  intro s hs
  unfold builtS at hs
  obtain ⟨f, hf, rfl⟩ := List.mem_map.1 hs
  exact scnOf_ok cl h8 f (hok f (List.mem_of_mem_take hf))
theorem okL_of {l : List Scn} (h : ∀ s ∈ l, okS s = true) (hl : l.length ≤ 2000) : okL l = true := by
  unfold okL
  rw [Bool.and_eq_true, List.all_eq_true]
  exact ⟨decide_eq_true (by omega), h⟩

/-- What the law's loops gather. -/
def isM (l : List Scn) (x : Mrk) : Bool := l.any fun s => decide (s.scanner = x.sc) && (decide (s.at_ = x.at_) && decide (s.seen - s.at_ = x.off))
def someM (ms : List Mrk) (s : Scn) : Bool := ms.any fun m => decide (m.sc = s.scanner) && decide (m.off ≤ s.seen - s.at_)
theorem isM_snoc {l : List Scn} {k : Nat} {s : Scn} (h : l[k]? = some s) (x : Mrk) : isM (l.take (k + 1)) x = (isM (l.take k) x || (decide (s.scanner = x.sc) && (decide (s.at_ = x.at_) && decide (s.seen - s.at_ = x.off)))) := by
  unfold isM; rw [List.take_add_one, h, List.any_append]; simp
theorem someM_snoc {ms : List Mrk} {k : Nat} {m : Mrk} (h : ms[k]? = some m) (s : Scn) : someM (ms.take (k + 1)) s = (someM (ms.take k) s || (decide (m.sc = s.scanner) && decide (m.off ≤ s.seen - s.at_))) := by
  unfold someM; rw [List.take_add_one, h, List.any_append]; simp
theorem isM_all {l : List Scn} {x : Mrk} (hx : x ∈ marksF l) : isM l x = true := by
  obtain ⟨s, hs, a, b, c⟩ := marks_of l hx
  unfold isM
  rw [List.any_eq_true]
  exact ⟨s, hs, by rw [decide_eq_true a, decide_eq_true b, decide_eq_true c]; rfl⟩
theorem someM_all {l : List Scn} {s : Scn} (hs : s ∈ l) : someM (marksF l) s = true := by
  obtain ⟨m, hm, a, b⟩ := marks_some l hs
  unfold someM
  rw [List.any_eq_true]
  exact ⟨m, hm, by simp [a, b]⟩
end Go.Proofs.Ytcjhkjplpbhjiaa
