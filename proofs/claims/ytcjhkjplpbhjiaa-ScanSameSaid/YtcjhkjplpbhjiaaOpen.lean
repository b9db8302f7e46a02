/- Arguments that are slices of structs of whole numbers: opened to lists. -/
import Derived.Test.YtcjhkjplpbhjiaaRows
import Derived.Test.YtcjhkjplpbhjiaaSc
import Derived.Test.YtcjhkjplpbhjiaaRd
import Derived.Deep.Slices
import Derived.Deep.Fields
import Derived.ProofKit
namespace Go.Proofs.Ytcjhkjplpbhjiaa
open Go.RowKit Go.Proofs Go.ChangeShapes Go.WideShapes Go.Deep

theorem spot_none {w : World} {a : Addr} {v : Value} (h : w.cell? a = some v) : a.spot = none := by
  unfold World.cell? at h
  split at h
  · split at h
    · cases h
    · rename_i hn; simpa using hn
  · cases h

theorem add_plain (b o n : Nat) : (⟨b, o, none⟩ : Addr).add n = ⟨b, o + n, none⟩ := by
  unfold Addr.add
  split
  · rename_i h; simp_all
  · rfl

section
variable {H : Type} {enc : TypeId × Value → H} {P : Program} {w : World} {base : Nat} {spare : Nat → Bool} {held : Bool}
theorem open_slice_nums {r : Reach} {b0 : Nat} {t e : TypeId} {fs : Array Field} {ks : List IntKind} {v : Value} {d : DataW H} {p : List MemPlace} (ht : P.underlying t = some (.slice e)) (he : P.underlying e = some (.struct fs))
    (hone : oneCellFields P fs = true) (hC : P.cellsOf e = fs.size) (h0 : 0 < ks.length) (hk : ∀ (j : Nat) (k : IntKind), ks[j]? = some k → ∃ f : Field, fs[j]? = some f ∧ P.underlying f.type = some (.int k))
    (hval : Value.okWide P w r b0 t v) (h : DataW.Trod enc P w base spare held t v d p) :
    ∃ (A : Option Addr) (len cap : Nat) (F : Nat → Nat → Int), v = .slice A len cap ∧ (len ≠ 0 → ∃ b o, A = some ⟨b, o, none⟩ ∧ b < w.heap.size ∧
      ∀ i, i < len → ∀ (j : Nat) (k : IntKind), ks[j]? = some k → w.cell? ⟨b, o + i * fs.size + j, none⟩ = some (.int k (F i j)) ∧ (Lit.int k (F i j)).wf = true) := by
  obtain ⟨fuel, h⟩ := h
  obtain ⟨A0, l0, c0, rfl⟩ := okWide_slice ht hval
  simp only [Value.cells] at h
  rcases open_slice ht h with ⟨hcs, _⟩ | ⟨a, len, cap, m, n, D, Pl, hcs, hb, hl, hm, hmm, hx, hi⟩
  · simp at hcs
    obtain ⟨rfl, rfl, rfl⟩ := hcs
    exact ⟨none, 0, 0, fun _ _ => 0, rfl, fun h => absurd rfl h⟩
  · simp at hcs
    obtain ⟨rfl, rfl, rfl⟩ := hcs
    have hlm : l0 ≤ m := by rw [hmm]; split <;> omega
    have key : ∀ i, i < l0 → ∀ (j : Nat) (k : IntKind), ks[j]? = some k → ∃ x : Int, w.cell? (a.add (i * fs.size + j)) = some (.int k x) ∧ (Lit.int k x).wf = true := fun i hil j k hj => by
      obtain ⟨cs', hc, ht'⟩ := hi i (by omega)
      rw [hC] at hc
      obtain ⟨ys, n', hn', hy, hlen, hyl, hf⟩ := DataW.trod_struct he ht'
      obtain ⟨_, hcl, hat⟩ := World.cells?_some hc
      obtain ⟨f, hfj, hfk⟩ := hk j k hj
      obtain ⟨ho, hk1⟩ := hone_of hone j f hfj
      have hjl : j < fs.size := (Array.getElem?_eq_some_iff.1 hfj).1
      have hcell := hat j hjl
      have hv : cs'[j]? = some (cs'[j]'(by omega)) := List.getElem?_eq_getElem (by omega)
      have h1 := hf j f hfj
      rw [ho, hk1] at h1
      have hone' : (cs'.drop j).take 1 = [cs'[j]'(by omega)] := by
        rw [List.drop_eq_getElem_cons (by omega)]; rfl
      rw [hone'] at h1
      have hys : ys[j]? = some (ys[j]'(by omega)) := List.getElem?_eq_getElem (by omega)
      obtain ⟨x, hx1, _, hwf⟩ := DataW.trod_int hfk (h1.trans hys)
      simp at hx1
      refine ⟨x, ?_, hwf⟩
      rw [← Go.Deep.add_add, hcell, hv, hx1]
    refine ⟨some a, l0, c0, fun i j => match w.cell? (a.add (i * fs.size + j)) with | some (.int _ x) => x | _ => 0, rfl, fun hne => ?_⟩
    obtain ⟨b, o, sp⟩ := a
    obtain ⟨k0, hk0⟩ : ∃ k, ks[0]? = some k := ⟨_, List.getElem?_eq_getElem h0⟩
    obtain ⟨x0, hx0, _⟩ := key 0 (by omega) 0 k0 hk0
    have hsp : sp = none := by have := spot_none hx0; simpa [Addr.add] using this
    subst hsp
    rw [add_plain] at hx0
    refine ⟨b, o, rfl, World.block_lt_of_cell? w _ hx0, fun i hil j k hj => ?_⟩
    obtain ⟨x, hx1, hx2⟩ := key i hil j k hj
    simp only [hx1]
    refine ⟨?_, hx2⟩
    rw [← hx1, add_plain, Nat.add_assoc]
end

theorem rd_range {α : Type} {enc : α → List Value} {k : Nat} {w : World} {A : Option Addr} {n : Nat} {f : Nat → α}
    (h : n ≠ 0 → ∃ b o, A = some ⟨b, o, none⟩ ∧ b < w.heap.size ∧ ∀ j, j < n → ∀ i v, (enc (f j))[i]? = some v → w.cell? ⟨b, o + j * k + i, none⟩ = some v) : Rd enc k w A ((List.range n).map f) := fun hne => by
  have hn : n ≠ 0 := by rintro rfl; simp at hne
  obtain ⟨b, o, hA, hb, hc⟩ := h hn
  refine ⟨b, o, hA, hb, fun j x hj i v hi => ?_⟩
  have hjn : j < n := by
    rcases Nat.lt_or_ge j n with h | h
    · exact h
    · rw [List.getElem?_eq_none (by simpa using h)] at hj; cases hj
  rw [List.getElem?_map, List.getElem?_range hjn] at hj
  simp at hj; subst hj
  exact hc j hjn i v hi

section
variable {H : Type} {enc : TypeId × Value → H} {w : World} {base : Nat} {spare : Nat → Bool} {held : Bool} {r : Reach} {b0 : Nat} {v : Value} {d : DataW H} {p : List MemPlace}
set_option maxRecDepth 100000 in
theorem openScn (hval : Value.okWide Try.prog w r b0 39 v) (h : DataW.Trod enc Try.prog w base spare held 39 v d p) :
    ∃ (A : Option Addr) (c : Nat) (xs : List Scn), v = .slice A xs.length c ∧ Rd encScn 6 w A xs ∧ ∀ x ∈ xs, 0 ≤ x.kind ∧ x.kind ≤ 255 := by
  obtain ⟨fs, he, hone, hC, hsz, hk⟩ : ∃ fs : Array Field, Try.prog.underlying 24 = some (.struct fs) ∧ oneCellFields Try.prog fs = true ∧ Try.prog.cellsOf 24 = fs.size ∧ fs.size = 6 ∧
      ∀ (j : Nat) (k : IntKind), ([.i64, .i64, .i64, .u8, .i64, .i64] : List IntKind)[j]? = some k → ∃ f : Field, fs[j]? = some f ∧ Try.prog.underlying f.type = some (.int k) := by
    refine ⟨_, Try.underlying24, by kernel_rfl, by kernel_rfl, rfl, fun j k hj => ?_⟩
    match j, hj with
    | 0, hj | 1, hj | 2, hj | 3, hj | 4, hj | 5, hj | 6, hj =>
      first
        | (simp at hj; done)
        | (simp at hj; subst hj; exact ⟨_, rfl, by first | exact Try.underlying3 | exact Try.underlying5⟩)
  obtain ⟨A, len, cap, F, rfl, hc⟩ := open_slice_nums Try.underlying39 he hone hC (by decide) hk hval h
  refine ⟨A, cap, (List.range len).map (fun i => ⟨F i 0, F i 1, F i 2, F i 3, F i 4, F i 5⟩), by simp, rd_range (fun hn => ?_), fun x hx => ?_⟩
  · obtain ⟨b, o, hA, hb, hcc⟩ := hc hn
    refine ⟨b, o, hA, hb, fun i hi j v hv => ?_⟩
    rw [hsz] at hcc
    match j, hv with
    | 0, hv | 1, hv | 2, hv | 3, hv | 4, hv | 5, hv | 6, hv =>
      first
        | (simp [encScn] at hv; done)
        | (simp [encScn] at hv; subst hv; exact (hcc i hi _ _ rfl).1)
  · first
      | exact trivial
      | (simp at hx
         obtain ⟨i, hi, rfl⟩ := hx
         obtain ⟨b, o, hA, hb, hcc⟩ := hc (by omega)
         have := (hcc i hi 3 _ rfl).2
         simp [Lit.wf] at this
         exact this)
set_option maxRecDepth 100000 in
theorem openMrk (hval : Value.okWide Try.prog w r b0 22 v) (h : DataW.Trod enc Try.prog w base spare held 22 v d p) :
    ∃ (A : Option Addr) (c : Nat) (xs : List Mrk), v = .slice A xs.length c ∧ Rd encMrk 3 w A xs ∧ ∀ x ∈ xs, True := by
  obtain ⟨fs, he, hone, hC, hsz, hk⟩ : ∃ fs : Array Field, Try.prog.underlying 30 = some (.struct fs) ∧ oneCellFields Try.prog fs = true ∧ Try.prog.cellsOf 30 = fs.size ∧ fs.size = 3 ∧
      ∀ (j : Nat) (k : IntKind), ([.i64, .i64, .i64] : List IntKind)[j]? = some k → ∃ f : Field, fs[j]? = some f ∧ Try.prog.underlying f.type = some (.int k) := by
    refine ⟨_, Try.underlying30, by kernel_rfl, by kernel_rfl, rfl, fun j k hj => ?_⟩
    match j, hj with
    | 0, hj | 1, hj | 2, hj | 3, hj | 4, hj | 5, hj | 6, hj =>
      first
        | (simp at hj; done)
        | (simp at hj; subst hj; exact ⟨_, rfl, by first | exact Try.underlying3 | exact Try.underlying5⟩)
  obtain ⟨A, len, cap, F, rfl, hc⟩ := open_slice_nums Try.underlying22 he hone hC (by decide) hk hval h
  refine ⟨A, cap, (List.range len).map (fun i => ⟨F i 0, F i 1, F i 2⟩), by simp, rd_range (fun hn => ?_), fun x hx => ?_⟩
  · obtain ⟨b, o, hA, hb, hcc⟩ := hc hn
    refine ⟨b, o, hA, hb, fun i hi j v hv => ?_⟩
    rw [hsz] at hcc
    match j, hv with
    | 0, hv | 1, hv | 2, hv | 3, hv | 4, hv | 5, hv | 6, hv =>
      first
        | (simp [encMrk] at hv; done)
        | (simp [encMrk] at hv; subst hv; exact (hcc i hi _ _ rfl).1)
  · first
      | exact trivial
      | (simp at hx
         obtain ⟨i, hi, rfl⟩ := hx
         obtain ⟨b, o, hA, hb, hcc⟩ := hc (by omega)
         have := (hcc i hi 3 _ rfl).2
         simp [Lit.wf] at this
         exact this)
end
end Go.Proofs.Ytcjhkjplpbhjiaa
