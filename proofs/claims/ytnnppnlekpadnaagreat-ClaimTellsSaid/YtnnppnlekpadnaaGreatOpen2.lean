/- A slice of claims as an argument, opened to a list; the kinds lie within their type. -/
import Derived.Test.YtnnppnlekpadnaaGreatOpen
namespace Go.Proofs.YtnnppnlekpadnaaGreat
open Go.RowKit Go.Proofs Go.ChangeShapes Go.WideShapes Go.Deep

section
variable {H : Type} {enc : TypeId × Value → H} {w : World} {base : Nat} {spare : Nat → Bool} {held : Bool} {r : Reach} {b0 : Nat} {v : Value} {d : DataW H} {p : List MemPlace}
set_option maxRecDepth 100000 in
theorem openClm2 (hval : Value.okWide Tryz.prog w r b0 48 v) (h : DataW.Trod enc Tryz.prog w base spare held 48 v d p) :
    ∃ (A : Option Addr) (c : Nat) (xs : List Clm), v = .slice A xs.length c ∧ Rd encClm 6 w A xs ∧ ∀ x ∈ xs, 0 ≤ x.kind ∧ x.kind ≤ 255 := by
  obtain ⟨fs, he, hone, hC, hsz, hk⟩ : ∃ fs : Array Field, Tryz.prog.underlying 31 = some (.struct fs) ∧ oneCellFields Tryz.prog fs = true ∧ Tryz.prog.cellsOf 31 = fs.size ∧ fs.size = 6 ∧
      ∀ (j : Nat) (k : IntKind), ([.i64, .i64, .i64, .u8, .i64, .i64] : List IntKind)[j]? = some k → ∃ f : Field, fs[j]? = some f ∧ Tryz.prog.underlying f.type = some (.int k) := by
    refine ⟨_, Tryz.underlying31, by kernel_rfl, by kernel_rfl, rfl, fun j k hj => ?_⟩
    match j, hj with
    | 0, hj | 1, hj | 2, hj | 3, hj | 4, hj | 5, hj | 6, hj =>
      first
        | (simp at hj; done)
        | (simp at hj; subst hj; exact ⟨_, rfl, by first | exact Tryz.underlying3 | exact Tryz.underlying5⟩)
  obtain ⟨A, len, cap, F, rfl, hc⟩ := open_slice_nums Tryz.underlying48 he hone hC (by decide) hk hval h
  refine ⟨A, cap, (List.range len).map (fun i => ⟨F i 0, F i 1, F i 2, F i 3, F i 4, F i 5⟩), by simp, rd_range (fun hn => ?_), fun x hx => ?_⟩
  · obtain ⟨b, o, hA, hb, hcc⟩ := hc hn
    refine ⟨b, o, hA, hb, fun i hi j v hv => ?_⟩
    rw [hsz] at hcc
    match j, hv with
    | 0, hv | 1, hv | 2, hv | 3, hv | 4, hv | 5, hv | 6, hv =>
      first
        | (simp [encClm] at hv; done)
        | (simp [encClm] at hv; subst hv; exact (hcc i hi _ _ rfl).1)
  · simp at hx
    obtain ⟨i, hi, rfl⟩ := hx
    obtain ⟨b, o, hA, hb, hcc⟩ := hc (by omega)
    have := (hcc i hi 3 _ rfl).2
    simp [Lit.wf] at this
    exact this
end
end Go.Proofs.YtnnppnlekpadnaaGreat
