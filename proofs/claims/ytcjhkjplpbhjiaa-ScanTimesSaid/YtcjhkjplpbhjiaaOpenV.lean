/- A claim that came in by value: opened to its numbers. -/
import Derived.Test.YtcjhkjplpbhjiaaWf
namespace Go.Proofs.Ytcjhkjplpbhjiaa
open Go.RowKit Go.Proofs Go.ChangeShapes Go.WideShapes Go.Deep

section
variable {H : Type} {enc : TypeId × Value → H} {P : Program} {w : World} {base : Nat} {spare : Nat → Bool} {held : Bool}
theorem open_struct_nums {r : Reach} {b0 : Nat} {t : TypeId} {fs : Array Field} {ks : List IntKind} {v : Value} {d : DataW H} {p : List MemPlace} (he : P.underlying t = some (.struct fs))
    (hone : oneCellFields P fs = true) (hC : P.cellsOf t = fs.size) (hks : ks.length = fs.size) (hk : ∀ (j : Nat) (k : IntKind), ks[j]? = some k → ∃ f : Field, fs[j]? = some f ∧ P.underlying f.type = some (.int k))
    (hval : Value.okWide P w r b0 t v) (h : DataW.Trod enc P w base spare held t v d p) :
    ∃ cs : List Value, v = .agg cs.toArray ∧ cs.length = ks.length ∧ ∀ (j : Nat) (k : IntKind), ks[j]? = some k → ∃ x : Int, cs[j]? = some (.int k x) ∧ (Lit.int k x).wf = true := by
  obtain ⟨fuel, h⟩ := h
  obtain ⟨⟨cs⟩, rfl, hsz⟩ := okWide_struct he hval
  have hl : cs.length = ks.length := by rw [hks, ← hC, ← hsz]; simp
  refine ⟨cs, rfl, hl, fun j k hj => ?_⟩
  obtain ⟨ys, n', hn', hy, hlen, hyl, hf⟩ := DataW.trod_struct he h
  obtain ⟨f, hfj, hfk⟩ := hk j k hj
  obtain ⟨ho, hk1⟩ := hone_of hone j f hfj
  have hjl : j < fs.size := (Array.getElem?_eq_some_iff.1 hfj).1
  have h1 := hf j f hfj
  rw [ho, hk1] at h1
  have hone' : (cs.drop j).take 1 = [cs[j]'(by omega)] := by
    rw [List.drop_eq_getElem_cons (by omega)]; rfl
  have hcc : (Value.agg cs.toArray).cells.toList = cs := by simp [Value.cells]
  rw [hcc, hone'] at h1
  have hys : ys[j]? = some (ys[j]'(by omega)) := List.getElem?_eq_getElem (by omega)
  obtain ⟨x, hx1, _, hwf⟩ := DataW.trod_int hfk (h1.trans hys)
  simp at hx1
  exact ⟨x, by rw [List.getElem?_eq_getElem (by omega), hx1], hwf⟩
end

section
variable {H : Type} {enc : TypeId × Value → H} {w : World} {base : Nat} {spare : Nat → Bool} {held : Bool} {r : Reach} {b0 : Nat} {v : Value} {d : DataW H} {p : List MemPlace}
set_option maxRecDepth 100000 in
theorem openScnV (hval : Value.okWide Try.prog w r b0 24 v) (h : DataW.Trod enc Try.prog w base spare held 24 v d p) :
    ∃ c : Scn, v = .agg #[.int .i64 c.item, .int .i64 c.place, .int .i64 c.scanner, .int .u8 c.kind, .int .i64 c.at_, .int .i64 c.seen] ∧ 0 ≤ c.kind ∧ c.kind ≤ 255 := by
  obtain ⟨cs, rfl, hl, hf⟩ := open_struct_nums (ks := [.i64, .i64, .i64, .u8, .i64, .i64]) Try.underlying24 (by kernel_rfl) (by kernel_rfl) rfl (fun j k hj => by
    match j, hj with
    | 0, hj | 1, hj | 2, hj | 3, hj | 4, hj | 5, hj =>
      simp at hj; subst hj; exact ⟨_, rfl, by first | exact Try.underlying3 | exact Try.underlying5⟩) hval h
  match cs, hl with
  | [a, b, c, e, f, g], _ =>
    obtain ⟨x0, h0, -⟩ := hf 0 _ rfl
    obtain ⟨x1, h1, -⟩ := hf 1 _ rfl
    obtain ⟨x2, h2, -⟩ := hf 2 _ rfl
    obtain ⟨x3, h3, h3'⟩ := hf 3 _ rfl
    obtain ⟨x4, h4, -⟩ := hf 4 _ rfl
    obtain ⟨x5, h5, -⟩ := hf 5 _ rfl
    simp at h0 h1 h2 h3 h4 h5
    subst h0 h1 h2 h3 h4 h5
    exact ⟨⟨x0, x1, x2, x3, x4, x5⟩, rfl, wf_uint8 h3'⟩
end
end Go.Proofs.Ytcjhkjplpbhjiaa
