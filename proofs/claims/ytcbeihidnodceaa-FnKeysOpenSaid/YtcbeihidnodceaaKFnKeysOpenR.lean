/- The row of the law FnKeysOpen: proved of every input, with no condition, out of its pure statement and the walk of its contract. -/
import Derived.Test.YtcbeihidnodceaaRows
import Derived.Test.YtcbeihidnodceaaKFnKeysOpenA3
import Derived.WalkKit
import Derived.ProofKit
import Derived.OpenShut
import Derived.ShutString
import Derived.ChangeOld
import Derived.Below
import Derived.SizedLaws
namespace Go.Proofs.Ytcbeihidnodceaa.fnKeysOpen
open Go.ChangeShapes Go.WideShapes Go.ChangeAt Go.RowKit Go.Proofs.Ytcbeihidnodceaa.P
open Go.Proofs.YtcbeihidnodceaaW.PrintWords
set_option linter.unusedVariables false
theorem own : ownKnob Try.prog.godebug = none := by kernel_rfl
theorem laidOut : laidOutB Try.prog = true := by kernel_rfl
set_option maxRecDepth 100000 in
theorem lifted (os : Os) (started : os.Started) (H : Type) (enc : TypeId × Value → H) :
    ReturnsInHanded {} Try.checked os 4 .any (Rows.fnKeysOpenSpec.pre6 enc Try.prog Try.f4 Rows.fnKeysOpenRow.domain false) (Rows.fnKeysOpenSpec.post enc Try.prog Try.f4 false true false false) := by
  refine returnsInHanded_of_change_sized (C := Try.checked) own started (by kernel_rfl) Try.func4
    (ChangeSpec.witness6 (enc := enc) (C := Try.checked) false ⟨#[], #[.slice none 0 0, .slice none 0 0], []⟩ 8 (by kernel_rfl) (by kernel_rfl) (by kernel_rfl) (by kernel_rfl)) ?_
  intro W base args ds gs before hval0 hW hcnd hsz0 _
  have hval : ∀ (j : Nat) t v, Try.f4.params[j]? = some t → args[j]? = some v → Value.okWide Try.prog W .any base t v := hval0
  have hW' := hW
  obtain ⟨p, q, hA0, hV, rfl, hfz, hnd⟩ := hW
  have hA : DataW.TrodAll enc Try.prog W 0 (fun _ => true) true Try.f4.params.toList args.toList ds p := hA0
  rw [Try.params4] at hA hval
  obtain ⟨v0, vs0, d0, ds0, p0, q0, hargs, rfl, rfl, h0, r0⟩ := trodAll_cons hA
  obtain ⟨v1, vs1, d1, ds1, p1, q1, rfl, rfl, rfl, h1, r1⟩ := trodAll_cons r0
  obtain ⟨rfl, rfl, rfl⟩ := trodAll_nil r1
  obtain rfl : args = #[v0, v1] := by cases args; simp_all
  obtain ⟨rfl, rfl⟩ := trodVars_none hV
  have lt0 := arg_lt h0
  have k0_ := h0
  obtain ⟨A0, a0, c0, rfl, l0, g0, y0⟩ := arg_slice opens_t44 Try.underlying44 (hval 0 44 v0 rfl rfl) h0
  have lt1 := arg_lt h1
  have k1_ := h1
  obtain ⟨A1, a1, c1, rfl, l1, g1, y1⟩ := arg_slice opens_t44 Try.underlying44 (hval 1 44 v1 rfl rfl) h1
  clear hA0 hval0 hsz0
  have hk := pure_FnKeysOpen a0 y0 a1 y1
  refine (laws_FnKeysOpen.calls _ _ a0 _ _ a1 true W g0 l0 g1 l1 hk).mono fun e W' ⟨he, hbel⟩ => ?_
  have bel : Below W.heap.size W W' := hbel
  subst he
  exact ⟨_, rfl, _, _, _, [], _, [], hW', trodAll_mk1 (shut_bool Try.underlying4 _), (trodAll_cons_mk (Below.trod laidOut (by kernel_rfl) (of_decide_eq_true (by kernel_rfl)) k0_ bel lt0) (trodAll_cons_mk (Below.trod laidOut (by kernel_rfl) (of_decide_eq_true (by kernel_rfl)) k1_ bel lt1) trodAll_mk0)), rfl, bel.frame _, fun h => by cases h⟩
theorem over : Rows.fnKeysOpenRow.holds Try.pinned (OpenSpec.ofChange Rows.fnKeysOpenSpec) :=
  OpenClaim.holds_of_wide 4 Try.f4 rfl rfl rfl rfl rfl rfl rfl ⟨rfl, rfl, rfl, rfl, rfl⟩ rfl rfl rfl rfl rfl (by kernel_rfl) Try.func4 (by kernel_rfl)
    (of_decide_eq_true (by kernel_rfl)) (by unfold Func.isWrapper; first | (rw [if_pos (by decide +kernel)]; kernel_rfl) | (rw [if_neg (by decide +kernel)]; exact ⟨rfl, rfl⟩))
    (fun os started H enc _ => lifted os started H enc)
end Go.Proofs.Ytcbeihidnodceaa.fnKeysOpen
namespace Go.Proofs.Ytcbeihidnodceaa
/-- The statement, proved. -/
theorem fnKeysOpen_holds : Rows.FnKeysOpenSaid := fnKeysOpen.over
#print axioms fnKeysOpen_holds
end Go.Proofs.Ytcbeihidnodceaa
