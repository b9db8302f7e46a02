/- The law ScanSame returns true, whatever the input, and the input reads as it did. -/
import Derived.Test.YtcjhkjplpbhjiaaPost
import Derived.Test.YtcjhkjplpbhjiaaOpenF
import Derived.Test.YtcjhkjplpbhjiaaSame
namespace Go.Proofs.Ytcjhkjplpbhjiaa
open Go.RowKit Go.Proofs Go.ChangeShapes Go.WideShapes Go.ChangeAt Go.Deep

set_option maxRecDepth 100000 in
theorem scanSame_lifted (os : Os) (started : os.Started) (H : Type) (enc : TypeId × Value → H) :
    ReturnsInHanded {} Try.checked os 5 .any (Rows.scanSameSpec.pre6 enc Try.prog Try.f5 Rows.scanSameRow.domain false) (Rows.scanSameSpec.post enc Try.prog Try.f5 false true false false) := by
  refine returnsInHanded_of_change (C := Try.checked) Try.own started (by kernel_rfl) Try.func5
    (ChangeSpec.witness6 (enc := enc) (C := Try.checked) false ⟨#[], #[.slice none 0 0, .slice none 0 0, .int .u8 0, .int .u8 0, .int .u8 0], []⟩ 8 (by kernel_rfl) (by kernel_rfl) (by kernel_rfl) (by kernel_rfl)) ?_
  intro W base args ds gs before hval0 hW hcnd _
  have hval : ∀ (j : Nat) t v, Try.f5.params[j]? = some t → args[j]? = some v → Value.okWide Try.prog W .any base t v := hval0
  have hW' := hW
  obtain ⟨p, q, hA0, hV, rfl, hfz, hnd⟩ := hW
  have hA : DataW.TrodAll enc Try.prog W 0 (fun _ => true) true Try.f5.params.toList args.toList ds p := hA0
  rw [Try.params5] at hA hval
  clear hA0 hval0 hcnd hfz hnd
  obtain ⟨args⟩ := args
  obtain ⟨v0, vs0, d0, ds0, p0, q0, e0, rfl, rfl, h0, hr0⟩ := trodAll_cons hA
  obtain ⟨v1, vs1, d1, ds1, p1, q1, rfl, rfl, rfl, h1, hr1⟩ := trodAll_cons hr0
  obtain ⟨v2, vs2, d2, ds2, p2, q2, rfl, rfl, rfl, h2, hr2⟩ := trodAll_cons hr1
  obtain ⟨v3, vs3, d3, ds3, p3, q3, rfl, rfl, rfl, h3, hr3⟩ := trodAll_cons hr2
  obtain ⟨v4, vs4, d4, ds4, p4, q4, rfl, rfl, rfl, h4, hr4⟩ := trodAll_cons hr3
  obtain ⟨rfl, rfl, rfl⟩ := trodAll_nil hr4
  have e : args = [v0, v1, v2, v3, v4] := e0
  subst e
  obtain ⟨A0, c0, x0, rfl, r0, u0⟩ := openFrm (hval 0 _ v0 rfl rfl) h0
  obtain ⟨A1, c1, x1, rfl, r1, u1⟩ := openI8 (hval 1 _ v1 rfl rfl) h1
  obtain ⟨a2, rfl, -, -, k2⟩ := open_int Try.underlying5 (hval 2 _ v2 rfl rfl) h2
  obtain ⟨a3, rfl, -, -, k3⟩ := open_int Try.underlying5 (hval 3 _ v3 rfl rfl) h3
  obtain ⟨a4, rfl, -, -, k4⟩ := open_int Try.underlying5 (hval 4 _ v4 rfl rfl) h4
  refine (scanSame_any A0 A1 c0 c1 x0 x1 a2 a3 a4 W r0 r1 u0.1 u0.2 u1 (wf_uint8 k2) (wf_uint8 k3) (wf_uint8 k4)).mono fun e W' ⟨he, hb⟩ => ?_
  exact ⟨_, he, law_post (tb := 4) Try.laidOut rfl (of_decide_eq_true (by kernel_rfl)) hW' rfl Try.underlying4 rfl hb⟩

theorem scanSame_holds : Rows.ScanSameSaid :=
  OpenClaim.holds_of_wide 5 Try.f5 rfl rfl rfl rfl rfl rfl rfl ⟨rfl, rfl, rfl, rfl, rfl⟩ rfl rfl rfl rfl rfl (by kernel_rfl) Try.func5 (by kernel_rfl)
    (of_decide_eq_true (by kernel_rfl)) (by unfold Func.isWrapper; first | (rw [if_pos (by decide +kernel)]; kernel_rfl) | (rw [if_neg (by decide +kernel)]; exact ⟨rfl, rfl⟩))
    (fun os started H enc _ => scanSame_lifted os started H enc)
end Go.Proofs.Ytcjhkjplpbhjiaa
