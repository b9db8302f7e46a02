/- The law ClaimSmall returns true, whatever the input, and the input reads as it did. -/
import Derived.Test.YtnnppnlekpadnaaGreatPost
import Derived.Test.YtnnppnlekpadnaaGreatSmallM
import Derived.Test.YtnnppnlekpadnaaGreatFields
import Derived.Test.YtnnppnlekpadnaaGreatAwake
namespace Go.Proofs.YtnnppnlekpadnaaGreat
open Go.RowKit Go.Proofs Go.ChangeShapes Go.WideShapes Go.ChangeAt Go.Deep

set_option maxRecDepth 100000 in
theorem claimSmall_lifted (os : Os) (started : os.Started) (H : Type) (enc : TypeId × Value → H) :
    ReturnsInHanded {} Tryz.checked os 7 .any (Rows.claimSmallSpec.pre6 enc Tryz.prog Tryz.f7 Rows.claimSmallRow.domain false) (Rows.claimSmallSpec.post enc Tryz.prog Tryz.f7 false true false false) := by
  refine returnsInHanded_of_change (C := Tryz.checked) Tryz.own started (by kernel_rfl) Tryz.func7
    (ChangeSpec.witness6 (enc := enc) (C := Tryz.checked) false ⟨#[], #[], []⟩ 8 (by kernel_rfl) (by kernel_rfl) (by kernel_rfl) (by kernel_rfl)) ?_
  intro W base args ds gs before hval0 hW hcnd _
  have hval : ∀ (j : Nat) t v, Tryz.f7.params[j]? = some t → args[j]? = some v → Value.okWide Tryz.prog W .any base t v := hval0
  have hW' := hW
  obtain ⟨p, q, hA0, hV, rfl, hfz, hnd⟩ := hW
  have hA : DataW.TrodAll enc Tryz.prog W 0 (fun _ => true) true Tryz.f7.params.toList args.toList ds p := hA0
  rw [Tryz.params7] at hA hval
  clear hA0 hval0 hcnd hfz hnd
  obtain ⟨args⟩ := args
  obtain ⟨e0, rfl, rfl⟩ := trodAll_nil hA
  have e : args = [] := e0
  subst e
  refine (ClaimSmall_any awake_any fields_any  W ).mono fun e W' ⟨he, hb⟩ => ?_
  exact ⟨_, he, law_post (tb := 4) Tryz.laidOut rfl (of_decide_eq_true (by kernel_rfl)) hW' rfl Tryz.underlying4 rfl hb⟩

theorem claimSmall_holds : Rows.ClaimSmallSaid :=
  OpenClaim.holds_of_wide 7 Tryz.f7 rfl rfl rfl rfl rfl rfl rfl ⟨rfl, rfl, rfl, rfl, rfl⟩ rfl rfl rfl rfl rfl (by kernel_rfl) Tryz.func7 (by kernel_rfl)
    (of_decide_eq_true (by kernel_rfl)) (by unfold Func.isWrapper; first | (rw [if_pos (by decide +kernel)]; kernel_rfl) | (rw [if_neg (by decide +kernel)]; exact ⟨rfl, rfl⟩))
    (fun os started H enc _ => claimSmall_lifted os started H enc)
end Go.Proofs.YtnnppnlekpadnaaGreat
