/- The law ClaimTells returns true, whatever the input, and the input reads as it did. -/
import Derived.Test.YtnnppnlekpadnaaGreatPost
import Derived.Test.YtnnppnlekpadnaaGreatWf
import Derived.Test.YtnnppnlekpadnaaGreatOpen2
import Derived.Test.YtnnppnlekpadnaaGreatTellsM
import Derived.Test.YtnnppnlekpadnaaGreatAwake
namespace Go.Proofs.YtnnppnlekpadnaaGreat
open Go.RowKit Go.Proofs Go.ChangeShapes Go.WideShapes Go.ChangeAt Go.Deep

set_option maxRecDepth 100000 in
theorem claimTells_lifted (os : Os) (started : os.Started) (H : Type) (enc : TypeId × Value → H) :
    ReturnsInHanded {} Tryz.checked os 6 .any (Rows.claimTellsSpec.pre6 enc Tryz.prog Tryz.f6 Rows.claimTellsRow.domain false) (Rows.claimTellsSpec.post enc Tryz.prog Tryz.f6 false true false false) := by
  refine returnsInHanded_of_change (C := Tryz.checked) Tryz.own started (by kernel_rfl) Tryz.func6
    (ChangeSpec.witness6 (enc := enc) (C := Tryz.checked) false ⟨#[], #[.slice none 0 0, .slice none 0 0, .slice none 0 0, .slice none 0 0], []⟩ 8 (by kernel_rfl) (by kernel_rfl) (by kernel_rfl) (by kernel_rfl)) ?_
  intro W base args ds gs before hval0 hW hcnd _
  have hval : ∀ (j : Nat) t v, Tryz.f6.params[j]? = some t → args[j]? = some v → Value.okWide Tryz.prog W .any base t v := hval0
  have hW' := hW
  obtain ⟨p, q, hA0, hV, rfl, hfz, hnd⟩ := hW
  have hA : DataW.TrodAll enc Tryz.prog W 0 (fun _ => true) true Tryz.f6.params.toList args.toList ds p := hA0
  rw [Tryz.params6] at hA hval
  clear hA0 hval0 hcnd hfz hnd
  obtain ⟨args⟩ := args
  obtain ⟨v0, vs0, d0, ds0, p0, q0, e0, rfl, rfl, h0, hr0⟩ := trodAll_cons hA
  obtain ⟨v1, vs1, d1, ds1, p1, q1, rfl, rfl, rfl, h1, hr1⟩ := trodAll_cons hr0
  obtain ⟨v2, vs2, d2, ds2, p2, q2, rfl, rfl, rfl, h2, hr2⟩ := trodAll_cons hr1
  obtain ⟨v3, vs3, d3, ds3, p3, q3, rfl, rfl, rfl, h3, hr3⟩ := trodAll_cons hr2
  obtain ⟨rfl, rfl, rfl⟩ := trodAll_nil hr3
  have e : args = [v0, v1, v2, v3] := e0
  subst e
  obtain ⟨A0, c0, x0, rfl, r0, u0⟩ := openStd (hval 0 _ v0 rfl rfl) h0
  obtain ⟨A1, c1, x1, rfl, r1, u1⟩ := openTerms (hval 1 _ v1 rfl rfl) h1
  obtain ⟨A2, c2, x2, rfl, r2, u2⟩ := openSent (hval 2 _ v2 rfl rfl) h2
  obtain ⟨A3, c3, x3, rfl, r3, u3⟩ := openClm2 (hval 3 _ v3 rfl rfl) h3
  refine (ClaimTells_any awake_any A0 c0 x0 A1 c1 x1 A2 c2 x2 A3 c3 x3 W r0 u0 r1 u1 r2 u2 r3 u3).mono fun e W' ⟨he, hb⟩ => ?_
  exact ⟨_, he, law_post (tb := 4) Tryz.laidOut rfl (of_decide_eq_true (by kernel_rfl)) hW' rfl Tryz.underlying4 rfl hb⟩

theorem claimTells_holds : Rows.ClaimTellsSaid :=
  OpenClaim.holds_of_wide 6 Tryz.f6 rfl rfl rfl rfl rfl rfl rfl ⟨rfl, rfl, rfl, rfl, rfl⟩ rfl rfl rfl rfl rfl (by kernel_rfl) Tryz.func6 (by kernel_rfl)
    (of_decide_eq_true (by kernel_rfl)) (by unfold Func.isWrapper; first | (rw [if_pos (by decide +kernel)]; kernel_rfl) | (rw [if_neg (by decide +kernel)]; exact ⟨rfl, rfl⟩))
    (fun os started H enc _ => claimTells_lifted os started H enc)
end Go.Proofs.YtnnppnlekpadnaaGreat
