/- The row of the law FnKeysOpenOfAll: proved of every input, with no condition, out of its pure statement and the walk of its contract. -/
import Derived.Test.YtcbeihidnodceaaRows
import Derived.Test.YtcbeihidnodceaaKFnKeysOpenOfAllA4
import Derived.WalkKit
import Derived.ProofKit
import Derived.OpenShut
import Derived.ShutString
import Derived.ChangeOld
import Derived.Below
import Derived.SizedLaws
namespace Go.Proofs.Ytcbeihidnodceaa.fnKeysOpenOfAll
open Go.ChangeShapes Go.WideShapes Go.ChangeAt Go.RowKit Go.Proofs.Ytcbeihidnodceaa.P
open Go.Proofs.YtcbeihidnodceaaW.PrintWords
set_option linter.unusedVariables false
theorem own : ownKnob Try.prog.godebug = none := by kernel_rfl
theorem laidOut : laidOutB Try.prog = true := by kernel_rfl
set_option maxRecDepth 100000 in
theorem lifted (os : Os) (started : os.Started) (H : Type) (enc : TypeId × Value → H) :
    ReturnsInHanded {} Try.checked os 3 .any (Rows.fnKeysOpenOfAllSpec.pre6 enc Try.prog Try.f3 Rows.fnKeysOpenOfAllRow.domain false) (Rows.fnKeysOpenOfAllSpec.post enc Try.prog Try.f3 false true false false) := by
  refine returnsInHanded_of_change_sized (C := Try.checked) own started (by kernel_rfl) Try.func3
    (ChangeSpec.witness6 (enc := enc) (C := Try.checked) false ⟨#[], #[.agg #[.int .i64 0, .slice none 0 0], .string ByteArray.empty, .slice none 0 0, .agg #[.int .i64 0, .slice none 0 0], .agg #[.int .i64 0, .slice none 0 0]], []⟩ 8 (by kernel_rfl) (by kernel_rfl) (by kernel_rfl) (by kernel_rfl)) ?_
  intro W base args ds gs before hval0 hW hcnd hsz0 _
  have hval : ∀ (j : Nat) t v, Try.f3.params[j]? = some t → args[j]? = some v → Value.okWide Try.prog W .any base t v := hval0
  have hW' := hW
  obtain ⟨p, q, hA0, hV, rfl, hfz, hnd⟩ := hW
  have hA : DataW.TrodAll enc Try.prog W 0 (fun _ => true) true Try.f3.params.toList args.toList ds p := hA0
  rw [Try.params3] at hA hval
  obtain ⟨v0, vs0, d0, ds0, p0, q0, hargs, rfl, rfl, h0, r0⟩ := trodAll_cons hA
  obtain ⟨v1, vs1, d1, ds1, p1, q1, rfl, rfl, rfl, h1, r1⟩ := trodAll_cons r0
  obtain ⟨v2, vs2, d2, ds2, p2, q2, rfl, rfl, rfl, h2, r2⟩ := trodAll_cons r1
  obtain ⟨v3, vs3, d3, ds3, p3, q3, rfl, rfl, rfl, h3, r3⟩ := trodAll_cons r2
  obtain ⟨v4, vs4, d4, ds4, p4, q4, rfl, rfl, rfl, h4, r4⟩ := trodAll_cons r3
  obtain ⟨rfl, rfl, rfl⟩ := trodAll_nil r4
  obtain rfl : args = #[v0, v1, v2, v3, v4] := by cases args; simp_all
  obtain ⟨rfl, rfl⟩ := trodVars_none hV
  have lt0 := arg_lt h0
  have k0_ := h0
  obtain ⟨a0, cs0, rfl, g0, y0⟩ := arg_struct opens_t24 Try.underlying24 (hval 0 24 v0 rfl rfl) h0
  obtain ⟨A0_1, c0_1, rfl, l0_1, g0_1⟩ := k24_open g0
  have lt1 := arg_lt h1
  have k1_ := h1
  obtain ⟨a1, rfl, y1⟩ := arg_string Try.underlying9 (hval 1 9 v1 rfl rfl) h1
  have lt2 := arg_lt h2
  have k2_ := h2
  obtain ⟨A2, a2, c2, rfl, l2, g2, y2⟩ := arg_slice opens_t25 Try.underlying25 (hval 2 25 v2 rfl rfl) h2
  have lt3 := arg_lt h3
  have k3_ := h3
  obtain ⟨a3, cs3, rfl, g3, y3⟩ := arg_struct opens_t24 Try.underlying24 (hval 3 24 v3 rfl rfl) h3
  obtain ⟨A3_1, c3_1, rfl, l3_1, g3_1⟩ := k24_open g3
  have lt4 := arg_lt h4
  have k4_ := h4
  obtain ⟨a4, cs4, rfl, g4, y4⟩ := arg_struct opens_t24 Try.underlying24 (hval 4 24 v4 rfl rfl) h4
  obtain ⟨A4_1, c4_1, rfl, l4_1, g4_1⟩ := k24_open g4
  clear hA0 hval0 hsz0
  have hk := pure_FnKeysOpenOfAll a0 y0 a1 y1 a2 y2 a3 y3 a4 y4
  refine (laws_FnKeysOpenOfAll.calls a0.f0 _ _ a0.f1 a1 _ _ a2 a3.f0 _ _ a3.f1 a4.f0 _ _ a4.f1 true W g0_1 l0_1 g2 l2 g3_1 l3_1 g4_1 l4_1 hk).mono fun e W' ⟨he, hbel⟩ => ?_
  have bel : Below W.heap.size W W' := hbel
  subst he
  exact ⟨_, rfl, _, _, _, [], _, [], hW', trodAll_mk1 (shut_bool Try.underlying4 _), (trodAll_cons_mk (Below.trod laidOut (by kernel_rfl) (of_decide_eq_true (by kernel_rfl)) k0_ bel lt0) (trodAll_cons_mk (Below.trod laidOut (by kernel_rfl) (of_decide_eq_true (by kernel_rfl)) k1_ bel lt1) (trodAll_cons_mk (Below.trod laidOut (by kernel_rfl) (of_decide_eq_true (by kernel_rfl)) k2_ bel lt2) (trodAll_cons_mk (Below.trod laidOut (by kernel_rfl) (of_decide_eq_true (by kernel_rfl)) k3_ bel lt3) (trodAll_cons_mk (Below.trod laidOut (by kernel_rfl) (of_decide_eq_true (by kernel_rfl)) k4_ bel lt4) trodAll_mk0))))), rfl, bel.frame _, fun h => by cases h⟩
theorem over : Rows.fnKeysOpenOfAllRow.holds Try.pinned (OpenSpec.ofChange Rows.fnKeysOpenOfAllSpec) :=
  OpenClaim.holds_of_wide 3 Try.f3 rfl rfl rfl rfl rfl rfl rfl ⟨rfl, rfl, rfl, rfl, rfl⟩ rfl rfl rfl rfl rfl (by kernel_rfl) Try.func3 (by kernel_rfl)
    (of_decide_eq_true (by kernel_rfl)) (by unfold Func.isWrapper; first | (rw [if_pos (by decide +kernel)]; kernel_rfl) | (rw [if_neg (by decide +kernel)]; exact ⟨rfl, rfl⟩))
    (fun os started H enc _ => lifted os started H enc)
end Go.Proofs.Ytcbeihidnodceaa.fnKeysOpenOfAll
namespace Go.Proofs.Ytcbeihidnodceaa
/-- The statement, proved. -/
theorem fnKeysOpenOfAll_holds : Rows.FnKeysOpenOfAllSaid := fnKeysOpenOfAll.over
#print axioms fnKeysOpenOfAll_holds
end Go.Proofs.Ytcbeihidnodceaa
