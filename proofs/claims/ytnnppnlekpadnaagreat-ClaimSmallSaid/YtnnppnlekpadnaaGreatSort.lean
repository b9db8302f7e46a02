/- Contracts of claim.Right, RightTerms, RightSent and RightClaims. -/
import Derived.Test.YtnnppnlekpadnaaGreatOk
import Derived.Test.YtnnppnlekpadnaaGreatRow
import Derived.Test.YtnnppnlekpadnaaGreatShelf
namespace Go.Proofs.YtnnppnlekpadnaaGreat
open Go.RowKit Go.Proofs Go.Sort
set_option maxRecDepth 100000

theorem okcStd : OkCStd okStd := fun x w => right1 x w
theorem cmpcStd : CmpCStd cmpStd := fun x y w => byStandard_any x y w

def cmpTerms (x y : Terms) : Int := cmpI x.cl y.cl
def cmpSent (x y : Sent) : Int := cmpI x.item y.item
def cmpClm (x y : Clm) : Int := cmpI x.id y.id

theorem cmpcTerms : CmpCTerms cmpTerms := fun x y w => by
  have hcon := fun W => compare_u8 x.cl y.cl W
  unfold cmpTerms
  generalize cmpI x.cl y.cl = r at hcon ⊢
  go_enter Tryz.func56, Tryz.ntmps56
  go_wp2_with (go_at_call 57; refine (hcon _).mono ?_; rintro e w' ⟨rfl, rfl⟩)
  go_ret
  exact ⟨rfl, ((Below.refl _ _).alloc (Nat.le_refl _) _).alloc (by first | (simp; done) | (simp; omega) | omega) _⟩
theorem cmpcSent : CmpCSent cmpSent := fun x y w => by
  have hcon := fun W => compare_int x.item y.item W
  unfold cmpSent
  generalize cmpI x.item y.item = r at hcon ⊢
  go_enter Tryz.func63, Tryz.ntmps63
  go_wp2_with (go_at_call 53; refine (hcon _).mono ?_; rintro e w' ⟨rfl, rfl⟩)
  go_ret
  exact ⟨rfl, ((Below.refl _ _).alloc (Nat.le_refl _) _).alloc (by first | (simp; done) | (simp; omega) | omega) _⟩
theorem cmpcClm : CmpCClm cmpClm := fun x y w => by
  have hcon := fun W => compare_int x.id y.id W
  unfold cmpClm
  generalize cmpI x.id y.id = r at hcon ⊢
  go_enter Tryz.func67, Tryz.ntmps67
  go_wp2_with (go_at_call 53; refine (hcon _).mono ?_; rintro e w' ⟨rfl, rfl⟩)
  go_ret
  exact ⟨rfl, ((Below.refl _ _).alloc (Nat.le_refl _) _).alloc (by first | (simp; done) | (simp; omega) | omega) _⟩

theorem srtSent (x y : Sent) (w : World) : Calls Tryz.prog 60 #[.agg #[.int .i64 x.item, .int .u8 x.cl, .int .i64 x.fr, .int .i64 x.to, .int .i64 x.acc, .int .i64 x.del], .agg #[.int .i64 y.item, .int .u8 y.cl, .int .i64 y.fr, .int .i64 y.to, .int .i64 y.acc, .int .i64 y.del]] w fun e w' => e = .returned (.int .i64 (cmpSent x y)) ∧ ∃ q os', w' = grow (w.drewN q) os' := by
  have hcon := fun W => compare_int x.item y.item W
  unfold cmpSent
  generalize cmpI x.item y.item = r at hcon ⊢
  go_enter Tryz.func60, Tryz.ntmps60
  go_wp2_with (go_at_call 53; refine (hcon _).mono ?_; rintro e w' ⟨rfl, rfl⟩)
  go_ret
  exact ⟨rfl, 0, _, by rw [alloc_eq_grow, alloc_eq_grow, grow_grow]; rfl⟩
theorem srtClm (x y : Clm) (w : World) : Calls Tryz.prog 64 #[.agg #[.int .i64 x.id, .int .i64 x.item, .int .i64 x.at_, .int .u8 x.kind, .int .i64 x.post, .int .i64 x.val], .agg #[.int .i64 y.id, .int .i64 y.item, .int .i64 y.at_, .int .u8 y.kind, .int .i64 y.post, .int .i64 y.val]] w fun e w' => e = .returned (.int .i64 (cmpClm x y)) ∧ ∃ q os', w' = grow (w.drewN q) os' := by
  have hcon := fun W => compare_int x.id y.id W
  unfold cmpClm
  generalize cmpI x.id y.id = r at hcon ⊢
  go_enter Tryz.func64, Tryz.ntmps64
  go_wp2_with (go_at_call 53; refine (hcon _).mono ?_; rintro e w' ⟨rfl, rfl⟩)
  go_ret
  exact ⟨rfl, 0, _, by rw [alloc_eq_grow, alloc_eq_grow, grow_grow]; rfl⟩

theorem right_any (A : Option Addr) (c : Nat) (xs : List Std) (w : World) (hr : Rd encStd 4 w A xs) (hn : xs.length ≤ 1000000) :
    Calls Tryz.prog 11 #[.slice A xs.length c] w fun e w' => e = .returned (.bool (allB xs 500 okStd cmpStd)) ∧ Below w.heap.size w w' := by
  have hcon := allStd okcStd cmpcStd A c xs 500 w hr hn (by omega) (by omega)
  clear hr hn
  generalize allB xs 500 okStd cmpStd = r at hcon ⊢
  go_enter Tryz.func11, Tryz.ntmps11
  go_wp2_with (go_at_call 31; refine hcon.mono ?_; rintro e w' ⟨rfl, hb⟩)
  go_ret
  exact ⟨rfl, hb⟩

theorem rightTerms_any (A : Option Addr) (c : Nat) (xs : List Terms) (w : World) (hr : Rd encTerms 7 w A xs) (hn : xs.length ≤ 1000000) :
    Calls Tryz.prog 26 #[.slice A xs.length c] w fun e w' => e = .returned (.bool (allB xs 200 okTerms cmpTerms)) ∧ Below w.heap.size w w' := by
  have hcon := allTerms okcTerms cmpcTerms A c xs 200 w hr hn (by omega) (by omega)
  clear hr hn
  generalize allB xs 200 okTerms cmpTerms = r at hcon ⊢
  go_enter Tryz.func26, Tryz.ntmps26
  go_wp2_with (go_at_call 54; refine hcon.mono ?_; rintro e w' ⟨rfl, hb⟩)
  go_ret
  exact ⟨rfl, hb⟩

theorem info_parts2 {P : Program} {t : TypeId} {z : Value} {n m : Nat} (h : (P.info? t).map (fun i => (i.zero, i.size, i.bytes)) = some (some z, n, m)) : ∃ i, P.info? t = some i ∧ i.zero = some z ∧ i.size = n ∧ i.bytes = m := by
  cases hi : P.info? t with
  | none => rw [hi] at h; cases h
  | some i => rw [hi] at h; simp at h; exact ⟨i, rfl, h.1, h.2.1, h.2.2⟩

/-- The cells of a slice that reads as a list. -/
theorem Rd.news {α : Type} {enc : α → List Value} {k : Nat} (hk : ∀ x, (enc x).length = k) {w : World} {b o : Nat} {xs : List α} (h : Rd enc k w (some ⟨b, o, none⟩) xs) (j : Nat) (u : Value) (hj : (xs.flatMap enc)[j]? = some u) : w.cell? ((⟨b, o, none⟩ : Addr).add j) = some u := by
  have hl : j < xs.length * k := by
    rw [← flat_length hk]
    rcases Nat.lt_or_ge j (xs.flatMap enc).length with h | h
    · exact h
    · rw [List.getElem?_eq_none h] at hj; cases hj
  have hk0 : 0 < k := by rcases Nat.eq_zero_or_pos k with h | h; · subst h; simp at hl
                         · exact h
  have hq : j / k < xs.length := Nat.div_lt_of_lt_mul (by rwa [Nat.mul_comm] at hl)
  have hr : j % k < k := Nat.mod_lt _ hk0
  have e : j = j / k * k + j % k := by rw [Nat.mul_comm]; exact (Nat.div_add_mod j k).symm
  rw [e, flat_get hk xs (j / k) (j % k) xs[j / k] (List.getElem?_eq_getElem hq) hr] at hj
  obtain ⟨b', o', hA, hlt, hc⟩ := h.at (List.getElem?_eq_getElem hq)
  simp at hA
  obtain ⟨rfl, rfl⟩ := hA
  rw [Addr.add_lit, e, ← Nat.add_assoc]
  exact hc _ _ hj
end Go.Proofs.YtnnppnlekpadnaaGreat
