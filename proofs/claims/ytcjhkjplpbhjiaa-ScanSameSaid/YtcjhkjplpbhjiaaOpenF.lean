/- Forms and small numbers as arguments: opened to lists. -/
import Derived.Test.YtcjhkjplpbhjiaaOpen
import Derived.Test.YtcjhkjplpbhjiaaWf
import Derived.Test.YtcjhkjplpbhjiaaFrm
namespace Go.Proofs.Ytcjhkjplpbhjiaa
open Go.RowKit Go.Proofs Go.ChangeShapes Go.WideShapes Go.Deep

section
variable {H : Type} {enc : TypeId × Value → H} {P : Program} {w : World} {base : Nat} {spare : Nat → Bool} {held : Bool}
theorem open_slice_le {r : Reach} {b0 : Nat} {t e : TypeId} {A : Option Addr} {len cap : Nat} {d : DataW H} {p : List MemPlace} (ht : P.underlying t = some (.slice e))
    (h : DataW.Trod enc P w base spare held t (.slice A len cap) d p) : len ≤ cap := by
  obtain ⟨fuel, h⟩ := h
  simp only [Value.cells] at h
  rcases open_slice ht h with ⟨hcs, _⟩ | ⟨a, len', cap', m, n, D, Pl, hcs, hb, hl, _⟩
  · simp at hcs
    obtain ⟨rfl, rfl, rfl⟩ := hcs
    exact Nat.le_refl _
  · simp at hcs
    obtain ⟨rfl, rfl, rfl⟩ := hcs
    exact hl

theorem open_slice_int {r : Reach} {b0 : Nat} {t e : TypeId} {k : IntKind} {v : Value} {d : DataW H} {p : List MemPlace} (ht : P.underlying t = some (.slice e)) (he : P.underlying e = some (.int k))
    (hC : P.cellsOf e = 1) (hval : Value.okWide P w r b0 t v) (h : DataW.Trod enc P w base spare held t v d p) :
    ∃ (A : Option Addr) (len cap : Nat) (F : Nat → Int), v = .slice A len cap ∧ (len ≠ 0 → ∃ b o, A = some ⟨b, o, none⟩ ∧ b < w.heap.size ∧
      ∀ i, i < len → w.cell? ⟨b, o + i, none⟩ = some (.int k (F i)) ∧ (Lit.int k (F i)).wf = true) := by
  obtain ⟨fuel, h⟩ := h
  obtain ⟨A0, l0, c0, rfl⟩ := okWide_slice ht hval
  simp only [Value.cells] at h
  rcases open_slice1 ht hC h with ⟨hcs, _⟩ | ⟨a, len, cap, m, n, V, D, Pl, hcs, hb, hl, hm, hmm, hx, hi⟩
  · simp at hcs
    obtain ⟨rfl, rfl, rfl⟩ := hcs
    exact ⟨none, 0, 0, fun _ => 0, rfl, fun h => absurd rfl h⟩
  · simp at hcs
    obtain ⟨rfl, rfl, rfl⟩ := hcs
    have hlm : l0 ≤ m := by rw [hmm]; split <;> omega
    have key : ∀ i, i < l0 → ∃ x : Int, w.cell? (a.add i) = some (.int k x) ∧ (Lit.int k x).wf = true := fun i hil => by
      obtain ⟨h1, h2⟩ := hi i (by omega)
      obtain ⟨x, hx1, _, hwf⟩ := DataW.trod_int he h2
      simp at hx1
      exact ⟨x, by rw [h1, hx1], hwf⟩
    refine ⟨some a, l0, c0, fun i => match w.cell? (a.add i) with | some (.int _ x) => x | _ => 0, rfl, fun hne => ?_⟩
    obtain ⟨b, o, sp⟩ := a
    obtain ⟨x0, hx0, _⟩ := key 0 (by omega)
    have hsp : sp = none := by have := spot_none hx0; simpa [Addr.add] using this
    subst hsp
    rw [add_plain] at hx0
    refine ⟨b, o, rfl, World.block_lt_of_cell? w _ hx0, fun i hil => ?_⟩
    obtain ⟨x, hx1, hx2⟩ := key i hil
    simp only [hx1]
    refine ⟨?_, hx2⟩
    rw [← hx1, add_plain]
end

section
variable {H : Type} {enc : TypeId × Value → H} {w : World} {base : Nat} {spare : Nat → Bool} {held : Bool} {r : Reach} {b0 : Nat} {v : Value} {d : DataW H} {p : List MemPlace}
set_option maxRecDepth 100000 in
theorem openI8 (hval : Value.okWide Try.prog w r b0 38 v) (h : DataW.Trod enc Try.prog w base spare held 38 v d p) :
    ∃ (A : Option Addr) (c : Nat) (xs : List Int), v = .slice A xs.length c ∧ Rd encI8 1 w A xs ∧ ∀ x ∈ xs, -128 ≤ x ∧ x ≤ 127 := by
  obtain ⟨A, len, cap, F, rfl, hc⟩ := open_slice_int Try.underlying38 Try.underlying80 (by kernel_rfl) hval h
  refine ⟨A, cap, (List.range len).map F, by simp, rd_range (fun hn => ?_), fun x hx => ?_⟩
  · obtain ⟨b, o, hA, hb, hcc⟩ := hc hn
    refine ⟨b, o, hA, hb, fun i hi j v hv => ?_⟩
    match j, hv with
    | 0, hv => simp [encI8] at hv; subst hv; rw [Nat.mul_one, Nat.add_zero]; exact (hcc i hi).1
    | j + 1, hv => simp [encI8] at hv
  · simp at hx
    obtain ⟨i, hi, rfl⟩ := hx
    obtain ⟨b, o, hA, hb, hcc⟩ := hc (by omega)
    exact wf_int8 (hcc i hi).2

set_option maxRecDepth 100000 in
theorem openFrm (hval : Value.okWide Try.prog w r b0 37 v) (h : DataW.Trod enc Try.prog w base spare held 37 v d p) :
    ∃ (A : Option Addr) (c : Nat) (xs : List Frm), v = .slice A xs.length c ∧ Rd encFrm 6 w A xs ∧ xs.length ≤ c ∧ ∀ x ∈ xs, FrmOk x := by
  obtain ⟨fs, he, hone, hC, hsz, hk⟩ : ∃ fs : Array Field, Try.prog.underlying 79 = some (.struct fs) ∧ oneCellFields Try.prog fs = true ∧ Try.prog.cellsOf 79 = fs.size ∧ fs.size = 6 ∧
      ∀ (j : Nat) (k : IntKind), ([.u8, .u8, .u8, .u8, .u16, .u8] : List IntKind)[j]? = some k → ∃ f : Field, fs[j]? = some f ∧ Try.prog.underlying f.type = some (.int k) := by
    refine ⟨_, Try.underlying79, by kernel_rfl, by kernel_rfl, rfl, fun j k hj => ?_⟩
    match j, hj with
    | 0, hj | 1, hj | 2, hj | 3, hj | 4, hj | 5, hj | 6, hj =>
      first
        | (simp at hj; done)
        | (simp at hj; subst hj; exact ⟨_, rfl, by first | exact Try.underlying5 | exact Try.underlying54⟩)
  have hle : ∀ A len cap, v = .slice A len cap → len ≤ cap := fun A len cap e => by
    subst e
    exact open_slice_le (r := r) (b0 := b0) Try.underlying37 h
  obtain ⟨A, len, cap, F, rfl, hc⟩ := open_slice_nums Try.underlying37 he hone hC (by decide) hk hval h
  refine ⟨A, cap, (List.range len).map (fun i => ⟨F i 0, F i 1, F i 2, F i 3, F i 4, F i 5⟩), by simp, rd_range (fun hn => ?_), by simp; exact hle _ _ _ rfl, fun x hx => ?_⟩
  · obtain ⟨b, o, hA, hb, hcc⟩ := hc hn
    refine ⟨b, o, hA, hb, fun i hi j v hv => ?_⟩
    rw [hsz] at hcc
    match j, hv with
    | 0, hv | 1, hv | 2, hv | 3, hv | 4, hv | 5, hv | 6, hv =>
      first
        | (simp [encFrm] at hv; done)
        | (simp [encFrm] at hv; subst hv; exact (hcc i hi _ _ rfl).1)
  · simp at hx
    obtain ⟨i, hi, rfl⟩ := hx
    obtain ⟨b, o, hA, hb, hcc⟩ := hc (by omega)
    exact ⟨wf_uint8 (hcc i hi 0 _ rfl).2, wf_uint8 (hcc i hi 1 _ rfl).2, wf_uint8 (hcc i hi 2 _ rfl).2, wf_uint8 (hcc i hi 3 _ rfl).2, wf_uint16 (hcc i hi 4 _ rfl).2, wf_uint8 (hcc i hi 5 _ rfl).2⟩
end
end Go.Proofs.Ytcjhkjplpbhjiaa
