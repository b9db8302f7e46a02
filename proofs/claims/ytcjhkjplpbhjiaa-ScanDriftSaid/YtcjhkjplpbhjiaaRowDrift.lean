/- The law ScanDrift returns true, whatever the input, and the input reads as it did. -/
import Derived.Test.YtcjhkjplpbhjiaaPost
import Derived.Test.YtcjhkjplpbhjiaaWf
import Derived.Test.YtcjhkjplpbhjiaaDrift
namespace Go.Proofs.Ytcjhkjplpbhjiaa
open Go.RowKit Go.Proofs Go.ChangeShapes Go.WideShapes Go.ChangeAt Go.Deep

set_option maxRecDepth 100000 in
theorem scanDrift_lifted (os : Os) (started : os.Started) (H : Type) (enc : TypeId × Value → H) :
    ReturnsInHanded {} Try.checked os 7 .any (Rows.scanDriftSpec.pre6 enc Try.prog Try.f7 Rows.scanDriftRow.domain false) (Rows.scanDriftSpec.post enc Try.prog Try.f7 false true false false) := by
  refine returnsInHanded_of_change (C := Try.checked) Try.own started (by kernel_rfl) Try.func7
    (ChangeSpec.witness6 (enc := enc) (C := Try.checked) false ⟨#[], #[.int .u16 0, .int .u16 0, .int .i16 0, .int .i16 0, .int .u16 0, .int .u16 0], []⟩ 8 (by kernel_rfl) (by kernel_rfl) (by kernel_rfl) (by kernel_rfl)) ?_
  intro W base args ds gs before hval0 hW hcnd _
  have hval : ∀ (j : Nat) t v, Try.f7.params[j]? = some t → args[j]? = some v → Value.okWide Try.prog W .any base t v := hval0
  have hW' := hW
  obtain ⟨p, q, hA0, hV, rfl, hfz, hnd⟩ := hW
  have hA : DataW.TrodAll enc Try.prog W 0 (fun _ => true) true Try.f7.params.toList args.toList ds p := hA0
  rw [Try.params7] at hA hval
  clear hA0 hval0 hcnd hfz hnd
  obtain ⟨args⟩ := args
  obtain ⟨v0, vs0, d0, ds0, p0, q0, e0, rfl, rfl, h0, hr0⟩ := trodAll_cons hA
  obtain ⟨v1, vs1, d1, ds1, p1, q1, rfl, rfl, rfl, h1, hr1⟩ := trodAll_cons hr0
  obtain ⟨v2, vs2, d2, ds2, p2, q2, rfl, rfl, rfl, h2, hr2⟩ := trodAll_cons hr1
  obtain ⟨v3, vs3, d3, ds3, p3, q3, rfl, rfl, rfl, h3, hr3⟩ := trodAll_cons hr2
  obtain ⟨v4, vs4, d4, ds4, p4, q4, rfl, rfl, rfl, h4, hr4⟩ := trodAll_cons hr3
  obtain ⟨v5, vs5, d5, ds5, p5, q5, rfl, rfl, rfl, h5, hr5⟩ := trodAll_cons hr4
  obtain ⟨rfl, rfl, rfl⟩ := trodAll_nil hr5
  have e : args = [v0, v1, v2, v3, v4, v5] := e0
  subst e
  obtain ⟨a0, rfl, -, -, k0⟩ := open_int Try.underlying54 (hval 0 _ v0 rfl rfl) h0
  obtain ⟨a1, rfl, -, -, k1⟩ := open_int Try.underlying54 (hval 1 _ v1 rfl rfl) h1
  obtain ⟨a2, rfl, -, -, k2⟩ := open_int Try.underlying55 (hval 2 _ v2 rfl rfl) h2
  obtain ⟨a3, rfl, -, -, k3⟩ := open_int Try.underlying55 (hval 3 _ v3 rfl rfl) h3
  obtain ⟨a4, rfl, -, -, k4⟩ := open_int Try.underlying54 (hval 4 _ v4 rfl rfl) h4
  obtain ⟨a5, rfl, -, -, k5⟩ := open_int Try.underlying54 (hval 5 _ v5 rfl rfl) h5
  refine (drift_any a0 a1 a2 a3 a4 a5 W (wf_uint16 k0) (wf_uint16 k1) (wf_int16 k2) (wf_int16 k3) (wf_uint16 k4) (wf_uint16 k5)).mono fun e W' ⟨he, hb⟩ => ?_
  exact ⟨_, he, law_post (tb := 4) Try.laidOut rfl (of_decide_eq_true (by kernel_rfl)) hW' rfl Try.underlying4 rfl hb⟩

theorem scanDrift_holds : Rows.ScanDriftSaid :=
  OpenClaim.holds_of_wide 7 Try.f7 rfl rfl rfl rfl rfl rfl rfl ⟨rfl, rfl, rfl, rfl, rfl⟩ rfl rfl rfl rfl rfl (by kernel_rfl) Try.func7 (by kernel_rfl)
    (of_decide_eq_true (by kernel_rfl)) (by unfold Func.isWrapper; first | (rw [if_pos (by decide +kernel)]; kernel_rfl) | (rw [if_neg (by decide +kernel)]; exact ⟨rfl, rfl⟩))
    (fun os started H enc _ => scanDrift_lifted os started H enc)
end Go.Proofs.Ytcjhkjplpbhjiaa
