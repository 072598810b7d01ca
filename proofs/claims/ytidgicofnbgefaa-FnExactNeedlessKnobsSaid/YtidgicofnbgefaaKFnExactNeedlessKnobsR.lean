/- The row of the law FnExactNeedlessKnobs: proved of every input, with no condition, out of its pure statement and the walk of its contract. -/
import Derived.Test.YtidgicofnbgefaaRows
import Derived.Test.YtidgicofnbgefaaKFnExactNeedlessKnobsA3
import Derived.WalkKit
import Derived.ProofKit
import Derived.OpenShut
import Derived.ShutString
import Derived.ChangeOld
import Derived.Below
import Derived.SizedLaws
namespace Go.Proofs.Ytidgicofnbgefaa.fnExactNeedlessKnobs
open Go.ChangeShapes Go.WideShapes Go.ChangeAt Go.RowKit Go.Proofs.Ytidgicofnbgefaa.P
open Go.Proofs.YtidgicofnbgefaaW.PrintWords
set_option linter.unusedVariables false
theorem own : ownKnob Try.prog.godebug = none := by kernel_rfl
theorem laidOut : laidOutB Try.prog = true := by kernel_rfl
set_option maxRecDepth 100000 in
theorem lifted (os : Os) (started : os.Started) (H : Type) (enc : TypeId × Value → H) :
    ReturnsInHanded {} Try.checked os 3 .any (Rows.fnExactNeedlessKnobsSpec.pre6 enc Try.prog Try.f3 Rows.fnExactNeedlessKnobsRow.domain false) (Rows.fnExactNeedlessKnobsSpec.post enc Try.prog Try.f3 false true false false) := by
  refine returnsInHanded_of_change_sized (C := Try.checked) own started (by kernel_rfl) Try.func3
    (ChangeSpec.witness6 (enc := enc) (C := Try.checked) false ⟨#[], #[.agg #[.int .i64 0, .int .i64 0, .slice none 0 0]], []⟩ 8 (by kernel_rfl) (by kernel_rfl) (by kernel_rfl) (by kernel_rfl)) ?_
  intro W base args ds gs before hval0 hW hcnd hsz0 _
  have hval : ∀ (j : Nat) t v, Try.f3.params[j]? = some t → args[j]? = some v → Value.okWide Try.prog W .any base t v := hval0
  have hW' := hW
  obtain ⟨p, q, hA0, hV, rfl, hfz, hnd⟩ := hW
  have hA : DataW.TrodAll enc Try.prog W 0 (fun _ => true) true Try.f3.params.toList args.toList ds p := hA0
  rw [Try.params3] at hA hval
  obtain ⟨v0, vs0, d0, ds0, p0, q0, hargs, rfl, rfl, h0, r0⟩ := trodAll_cons hA
  obtain ⟨rfl, rfl, rfl⟩ := trodAll_nil r0
  obtain rfl : args = #[v0] := by cases args; simp_all
  obtain ⟨rfl, rfl⟩ := trodVars_none hV
  have lt0 := arg_lt h0
  have k0_ := h0
  obtain ⟨a0, cs0, rfl, g0, y0⟩ := arg_struct opens_t26 Try.underlying26 (hval 0 26 v0 rfl rfl) h0
  obtain ⟨A0_2, c0_2, rfl, l0_2, g0_2⟩ := k26_open g0
  clear hA0 hval0 hsz0
  have hk := pure_FnExactNeedlessKnobs a0 y0
  refine (laws_FnExactNeedlessKnobs.calls a0.f0.f0 a0.f0.f1 _ _ a0.f1 true W g0_2 l0_2 hk).mono fun e W' ⟨he, hbel⟩ => ?_
  have bel : Below W.heap.size W W' := hbel
  subst he
  exact ⟨_, rfl, _, _, _, [], _, [], hW', trodAll_mk1 (shut_bool Try.underlying4 _), (trodAll_cons_mk (Below.trod laidOut (by kernel_rfl) (of_decide_eq_true (by kernel_rfl)) k0_ bel lt0) trodAll_mk0), rfl, bel.frame _, fun h => by cases h⟩
theorem over : Rows.fnExactNeedlessKnobsRow.holds Try.pinned (OpenSpec.ofChange Rows.fnExactNeedlessKnobsSpec) :=
  OpenClaim.holds_of_wide 3 Try.f3 rfl rfl rfl rfl rfl rfl rfl ⟨rfl, rfl, rfl, rfl, rfl⟩ rfl rfl rfl rfl rfl (by kernel_rfl) Try.func3 (by kernel_rfl)
    (of_decide_eq_true (by kernel_rfl)) (by unfold Func.isWrapper; first | (rw [if_pos (by decide +kernel)]; kernel_rfl) | (rw [if_neg (by decide +kernel)]; exact ⟨rfl, rfl⟩))
    (fun os started H enc _ => lifted os started H enc)
end Go.Proofs.Ytidgicofnbgefaa.fnExactNeedlessKnobs
namespace Go.Proofs.Ytidgicofnbgefaa
/-- The statement, proved. -/
theorem fnExactNeedlessKnobs_holds : Rows.FnExactNeedlessKnobsSaid := fnExactNeedlessKnobs.over
#print axioms fnExactNeedlessKnobs_holds
end Go.Proofs.Ytidgicofnbgefaa
