import Derived.Test.YtagiekcfnmhgjaaKFnExactSolutionsA0
import Derived.Test.YtagiekcfnmhgjaaKFnExactSolutionsA1
import Derived.Test.YtagiekcfnmhgjaaKFnExactSolutionsA2
import Derived.Test.YtagiekcfnmhgjaaKFnExactSolutionsA3
import Derived.ProofKit
import Derived.Lib.SmallJoins
import Derived.Deep.Slices
namespace Go.Proofs.Ytagiekcfnmhgjaa.P
open Go.RowKit Go.Proofs.YtagiekcfnmhgjaaW.PrintWords Go.Proofs.YtagiekcfnmhgjaaW.PrintLast Go.Proofs.YtagiekcfnmhgjaaW.PrintMore
attribute [local go_sem] max2_int min2_int max_two min_two max_three min_three max_four min_four
set_option linter.unusedVariables false
set_option linter.unusedSimpArgs false
/-! ### laws_FnExactSolutions: function 11 -/
mutual
def laws_FnExactSolutions.j0 : Nat → List ByteArray → Bool → List ByteArray → Bool → Bool → Int → Int → List (S25) → Int → Int → List (S30) → Option (Bool)
  | 0, _, _, _, _, _, _, _, _, _, _, _ => none
  | k + 1, x4, x5, x7, x8, x40, x680000, x680001, x680002, x696000, x696001, x696002 => if x40 = true then (some false) else ((laws_toPuzzle.f k x680000 x680001 x680002).bind fun bt701 => ((laws_eqPuzzle.f k x696000 x696001 x696002 bt701.1 bt701.2.1 bt701.2.2).bind fun t706 => (if t706 = true then ((laws_markPuzzle.f k x696000 x696001 x696002 1).bind fun bt707 => (if bt707.1 < 0 then (laws_FnExactSolutions.j1 k x4 x5 x7 true x680000 x680001 x680002) else ((laws_eqStringS.f k x7 x4).bind fun t709 => (if t709 = true then (laws_FnExactSolutions.j1 k x4 x5 x7 (x8 != x5) x680000 x680001 x680002) else (laws_FnExactSolutions.j1 k x4 x5 x7 true x680000 x680001 x680002))))) else (some false))))
def laws_FnExactSolutions.j1 : Nat → List ByteArray → Bool → List ByteArray → Bool → Int → Int → List (S25) → Option (Bool)
  | 0, _, _, _, _, _, _, _ => none
  | k + 1, x4, x5, x7, x61, x680000, x680001, x680002 => if x61 = true then (some false) else ((laws_markStringS.f k x7 1).bind fun bt710 => ((laws_heldStringS.f k bt710.2 1).bind fun t712 => (if t712 < 0 then (some false) else (if t712 = bt710.1 then ((laws_toPuzzle.f k x680000 x680001 x680002).bind fun bt713 => ((impl_Solutions.f k bt713.1 bt713.2.1 bt713.2.2).bind fun bt718 => ((laws_eqStringS.f k bt718.1 x4).bind fun t722 => (if t722 = true then (laws_FnExactSolutions.j2 k bt710.2 bt710.1 (bt718.2 != x5)) else (laws_FnExactSolutions.j2 k bt710.2 bt710.1 true))))) else (some false)))))
def laws_FnExactSolutions.j2 : Nat → List ByteArray → Int → Bool → Option (Bool)
  | 0, _, _, _ => none
  | k + 1, x7, x10, x87 => if x87 = true then (some false) else ((laws_heldStringS.f k x7 1).bind fun t723 => (if t723 < 0 then (some false) else (if t723 = x10 then (some true) else (some false))))
end
def laws_FnExactSolutions.f (k : Nat) (a0_0 : Int) (a0_1 : Int) (l0_2 : List (S25)) : Option (Bool) := (laws_szPuzzle.f a0_0 a0_1 l0_2 1048576).bind fun t680 => (if t680 < 0 then (some true) else ((laws_toPuzzle.f k a0_0 a0_1 l0_2).bind fun bt681 => ((spec_Solutions.f k bt681.1 bt681.2.1 bt681.2.2).bind fun bt686 => ((laws_toPuzzle.f k a0_0 a0_1 l0_2).bind fun bt690 => ((impl_Solutions.f k bt690.1 bt690.2.1 bt690.2.2).bind fun bt696 => ((laws_eqStringS.f k bt696.1 bt686.1).bind fun t700 => (if t700 = true then (laws_FnExactSolutions.j0 k bt686.1 bt686.2 bt696.1 bt696.2 (bt696.2 != bt686.2) a0_0 a0_1 l0_2 bt690.1 bt690.2.1 bt690.2.2) else (laws_FnExactSolutions.j0 k bt686.1 bt686.2 bt696.1 bt696.2 true a0_0 a0_1 l0_2 bt690.1 bt690.2.1 bt690.2.2))))))))
theorem laws_FnExactSolutions.mono_l : ∀ k, (∀ y0 y1 y2 y3 y4 y5 y6 y7 y8 y9 y10, LeO (laws_FnExactSolutions.j0 k y0 y1 y2 y3 y4 y5 y6 y7 y8 y9 y10) (laws_FnExactSolutions.j0 (k + 1) y0 y1 y2 y3 y4 y5 y6 y7 y8 y9 y10)) ∧ (∀ y0 y1 y2 y3 y4 y5 y6, LeO (laws_FnExactSolutions.j1 k y0 y1 y2 y3 y4 y5 y6) (laws_FnExactSolutions.j1 (k + 1) y0 y1 y2 y3 y4 y5 y6)) ∧ (∀ y0 y1 y2, LeO (laws_FnExactSolutions.j2 k y0 y1 y2) (laws_FnExactSolutions.j2 (k + 1) y0 y1 y2))
  | 0 => ⟨fun _ _ _ _ _ _ _ _ _ _ _ r h => by simp [laws_FnExactSolutions.j0] at h, fun _ _ _ _ _ _ _ r h => by simp [laws_FnExactSolutions.j1] at h, fun _ _ _ r h => by simp [laws_FnExactSolutions.j2] at h⟩
  | k + 1 => by
    obtain ⟨ih0, ih1, ih2⟩ := laws_FnExactSolutions.mono_l k
    refine ⟨?_, ?_, ?_⟩
    · intro y0 y1 y2 y3 y4 y5 y6 y7 y8 y9 y10
      unfold laws_FnExactSolutions.j0
      repeat' first
      | (with_reducible exact ih0 _ _ _ _ _ _ _ _ _ _ _)
      | (with_reducible exact ih1 _ _ _ _ _ _ _)
      | (with_reducible exact ih2 _ _ _)
      | (with_reducible exact impl_Solutions.mono _ _ _ _)
      | (with_reducible exact laws_eqPuzzle.mono _ _ _ _ _ _ _)
      | (with_reducible exact laws_eqStringS.mono _ _ _)
      | (with_reducible exact laws_heldStringS.mono _ _ _)
      | (with_reducible exact laws_markPuzzle.mono _ _ _ _ _)
      | (with_reducible exact laws_markStringS.mono _ _ _)
      | (with_reducible exact laws_toPuzzle.mono _ _ _ _)
      | (with_reducible exact spec_Solutions.mono _ _ _ _)
      | (with_reducible exact LeO.refl _)
      | (with_reducible exact LeO.none _)
      | (with_reducible refine LeO.ite ?_ ?_)
      | (with_reducible refine LeO.bind ?_ (fun _ => ?_))
      | exact ih0 _ _ _ _ _ _ _ _ _ _ _
      | exact ih1 _ _ _ _ _ _ _
      | exact ih2 _ _ _
      | exact impl_Solutions.mono _ _ _ _
      | exact laws_eqPuzzle.mono _ _ _ _ _ _ _
      | exact laws_eqStringS.mono _ _ _
      | exact laws_heldStringS.mono _ _ _
      | exact laws_markPuzzle.mono _ _ _ _ _
      | exact laws_markStringS.mono _ _ _
      | exact laws_toPuzzle.mono _ _ _ _
      | exact spec_Solutions.mono _ _ _ _
      | exact LeO.none _
      | refine LeO.ite ?_ ?_
      | refine LeO.bind ?_ (fun _ => ?_)
    · intro y0 y1 y2 y3 y4 y5 y6
      unfold laws_FnExactSolutions.j1
      repeat' first
      | (with_reducible exact ih0 _ _ _ _ _ _ _ _ _ _ _)
      | (with_reducible exact ih1 _ _ _ _ _ _ _)
      | (with_reducible exact ih2 _ _ _)
      | (with_reducible exact impl_Solutions.mono _ _ _ _)
      | (with_reducible exact laws_eqPuzzle.mono _ _ _ _ _ _ _)
      | (with_reducible exact laws_eqStringS.mono _ _ _)
      | (with_reducible exact laws_heldStringS.mono _ _ _)
      | (with_reducible exact laws_markPuzzle.mono _ _ _ _ _)
      | (with_reducible exact laws_markStringS.mono _ _ _)
      | (with_reducible exact laws_toPuzzle.mono _ _ _ _)
      | (with_reducible exact spec_Solutions.mono _ _ _ _)
      | (with_reducible exact LeO.refl _)
      | (with_reducible exact LeO.none _)
      | (with_reducible refine LeO.ite ?_ ?_)
      | (with_reducible refine LeO.bind ?_ (fun _ => ?_))
      | exact ih0 _ _ _ _ _ _ _ _ _ _ _
      | exact ih1 _ _ _ _ _ _ _
      | exact ih2 _ _ _
      | exact impl_Solutions.mono _ _ _ _
      | exact laws_eqPuzzle.mono _ _ _ _ _ _ _
      | exact laws_eqStringS.mono _ _ _
      | exact laws_heldStringS.mono _ _ _
      | exact laws_markPuzzle.mono _ _ _ _ _
      | exact laws_markStringS.mono _ _ _
      | exact laws_toPuzzle.mono _ _ _ _
      | exact spec_Solutions.mono _ _ _ _
      | exact LeO.none _
      | refine LeO.ite ?_ ?_
      | refine LeO.bind ?_ (fun _ => ?_)
    · intro y0 y1 y2
      unfold laws_FnExactSolutions.j2
      repeat' first
      | (with_reducible exact ih0 _ _ _ _ _ _ _ _ _ _ _)
      | (with_reducible exact ih1 _ _ _ _ _ _ _)
      | (with_reducible exact ih2 _ _ _)
      | (with_reducible exact impl_Solutions.mono _ _ _ _)
      | (with_reducible exact laws_eqPuzzle.mono _ _ _ _ _ _ _)
      | (with_reducible exact laws_eqStringS.mono _ _ _)
      | (with_reducible exact laws_heldStringS.mono _ _ _)
      | (with_reducible exact laws_markPuzzle.mono _ _ _ _ _)
      | (with_reducible exact laws_markStringS.mono _ _ _)
      | (with_reducible exact laws_toPuzzle.mono _ _ _ _)
      | (with_reducible exact spec_Solutions.mono _ _ _ _)
      | (with_reducible exact LeO.refl _)
      | (with_reducible exact LeO.none _)
      | (with_reducible refine LeO.ite ?_ ?_)
      | (with_reducible refine LeO.bind ?_ (fun _ => ?_))
      | exact ih0 _ _ _ _ _ _ _ _ _ _ _
      | exact ih1 _ _ _ _ _ _ _
      | exact ih2 _ _ _
      | exact impl_Solutions.mono _ _ _ _
      | exact laws_eqPuzzle.mono _ _ _ _ _ _ _
      | exact laws_eqStringS.mono _ _ _
      | exact laws_heldStringS.mono _ _ _
      | exact laws_markPuzzle.mono _ _ _ _ _
      | exact laws_markStringS.mono _ _ _
      | exact laws_toPuzzle.mono _ _ _ _
      | exact spec_Solutions.mono _ _ _ _
      | exact LeO.none _
      | refine LeO.ite ?_ ?_
      | refine LeO.bind ?_ (fun _ => ?_)
theorem laws_FnExactSolutions.mono : ∀ a0 a1 a2 k, LeO (laws_FnExactSolutions.f k a0 a1 a2) (laws_FnExactSolutions.f (k + 1) a0 a1 a2) := by
  intro a0 a1 a2 k
  obtain ⟨ih0, ih1, ih2⟩ := laws_FnExactSolutions.mono_l k
  unfold laws_FnExactSolutions.f
  repeat' first
      | (with_reducible exact ih0 _ _ _ _ _ _ _ _ _ _ _)
      | (with_reducible exact ih1 _ _ _ _ _ _ _)
      | (with_reducible exact ih2 _ _ _)
      | (with_reducible exact impl_Solutions.mono _ _ _ _)
      | (with_reducible exact laws_eqPuzzle.mono _ _ _ _ _ _ _)
      | (with_reducible exact laws_eqStringS.mono _ _ _)
      | (with_reducible exact laws_heldStringS.mono _ _ _)
      | (with_reducible exact laws_markPuzzle.mono _ _ _ _ _)
      | (with_reducible exact laws_markStringS.mono _ _ _)
      | (with_reducible exact laws_toPuzzle.mono _ _ _ _)
      | (with_reducible exact spec_Solutions.mono _ _ _ _)
      | (with_reducible exact LeO.refl _)
      | (with_reducible exact LeO.none _)
      | (with_reducible refine LeO.ite ?_ ?_)
      | (with_reducible refine LeO.bind ?_ (fun _ => ?_))
      | exact ih0 _ _ _ _ _ _ _ _ _ _ _
      | exact ih1 _ _ _ _ _ _ _
      | exact ih2 _ _ _
      | exact impl_Solutions.mono _ _ _ _
      | exact laws_eqPuzzle.mono _ _ _ _ _ _ _
      | exact laws_eqStringS.mono _ _ _
      | exact laws_heldStringS.mono _ _ _
      | exact laws_markPuzzle.mono _ _ _ _ _
      | exact laws_markStringS.mono _ _ _
      | exact laws_toPuzzle.mono _ _ _ _
      | exact spec_Solutions.mono _ _ _ _
      | exact LeO.none _
      | refine LeO.ite ?_ ?_
      | refine LeO.bind ?_ (fun _ => ?_)
set_option maxHeartbeats 8000000 in
set_option maxRecDepth 100000 in
theorem laws_FnExactSolutions.calls (k : Nat) (a0_0 : Int) (a0_1 : Int) (A0_2 : Option Addr) (c0_2 : Nat) (l0_2 : List (S25)) (r : Bool) (w : World) (hr0_2 : Kd.C k25 w A0_2 l0_2.length l0_2) (hc0_2 : l0_2.length ≤ c0_2) (h : laws_FnExactSolutions.f k a0_0 a0_1 l0_2 = some r) :
    Calls Try.prog 11 #[.agg #[.int .i64 a0_0, .int .i64 a0_1, .slice A0_2 l0_2.length c0_2]] w fun e w' => e = .returned (.bool r) ∧ Below w.heap.size w w' := by
  have hu43 := Try.underlying43
  have hu35 := Try.underlying35
  have HR0_2 := Aside0.mk hr0_2
  have HC0_2 := Aside0.mk hc0_2
  clear hr0_2 hc0_2
  have HB := Aside0.mk (Below.refl w.heap.size w)
  have H : ((laws_szPuzzle.f a0_0 a0_1 l0_2 1048576).bind fun t680 => (if t680 < 0 then (some true) else ((laws_toPuzzle.f k a0_0 a0_1 l0_2).bind fun bt681 => ((spec_Solutions.f k bt681.1 bt681.2.1 bt681.2.2).bind fun bt686 => ((laws_toPuzzle.f k a0_0 a0_1 l0_2).bind fun bt690 => ((impl_Solutions.f k bt690.1 bt690.2.1 bt690.2.2).bind fun bt696 => ((laws_eqStringS.f k bt696.1 bt686.1).bind fun t700 => (if t700 = true then (laws_FnExactSolutions.j0 k bt686.1 bt686.2 bt696.1 bt696.2 (bt696.2 != bt686.2) a0_0 a0_1 l0_2 bt690.1 bt690.2.1 bt690.2.2) else (laws_FnExactSolutions.j0 k bt686.1 bt686.2 bt696.1 bt696.2 true a0_0 a0_1 l0_2 bt690.1 bt690.2.1 bt690.2.2))))))))) = some r := h
  clear h
  replace H := Option.bind_eq_some_iff.mp H
  obtain ⟨t680, A20, H⟩ := H
  replace H : (if t680 < 0 then (some true) else ((laws_toPuzzle.f k a0_0 a0_1 l0_2).bind fun bt681 => ((spec_Solutions.f k bt681.1 bt681.2.1 bt681.2.2).bind fun bt686 => ((laws_toPuzzle.f k a0_0 a0_1 l0_2).bind fun bt690 => ((impl_Solutions.f k bt690.1 bt690.2.1 bt690.2.2).bind fun bt696 => ((laws_eqStringS.f k bt696.1 bt686.1).bind fun t700 => (if t700 = true then (laws_FnExactSolutions.j0 k bt686.1 bt686.2 bt696.1 bt696.2 (bt696.2 != bt686.2) a0_0 a0_1 l0_2 bt690.1 bt690.2.1 bt690.2.2) else (laws_FnExactSolutions.j0 k bt686.1 bt686.2 bt696.1 bt696.2 true a0_0 a0_1 l0_2 bt690.1 bt690.2.1 bt690.2.2)))))))) = some r := H
  have A2 := Aside0.mk A20
  clear A20
  by_cases c3 : t680 < 0
  · rw [if_pos c3] at H
    have c3b0 : decide (t680 < 0) = true := decide_eq_true c3
    clear c3
    obtain rfl := Option.some.inj H
    go_enter Try.func11, Try.ntmps11
    go_wp2_with (first | ((with_reducible refine gate_dst (N := 1) rfl ?_); refine box_event ?hg (N := 1) ?hd (cs := #[.int .i64 a0_0, .int .i64 a0_1, .slice A0_2 l0_2.length c0_2]) (t := 43) ?hr ?_; (case hd => rfl); (case hg => rfl); (case hr => first | (go_simp; done) | (go_simp; rfl)); intro gb679 hg w4 hbox hb; have n0_ := Aside0.mk (below_step (by repeat (first | (with_reducible first | exact HB.out | apply below_alloc | apply pw_below_drewN | apply below_drew1) | exact HB.out)) hb); have n1_ := Aside0.mk (hbox); have n2_ := Aside0.mk ((by rw [hg]; exact (below_size (by repeat (first | (with_reducible first | exact HB.out | apply below_alloc | apply pw_below_drewN | apply below_drew1) | exact HB.out))) : w.heap.size ≤ gb679)); have n3_ := Aside0.mk ((by rw [hg]; exact (below_size (by repeat (first | (with_reducible first | exact HB.out | apply below_alloc | apply pw_below_drewN | apply below_drew1) | exact HB.out))) : w.heap.size ≤ gb679)); clear HB; have HB := n0_; have BK679 := n1_; have GW679 := n2_; have GE679 := n3_; clear n0_ n1_ n2_ n3_; clear hb hbox hg; have hcz5_0 : w4.cell? ⟨gb679, 0, none⟩ = some (.int .i64 a0_0) := (blk_cell BK679.out 0).trans rfl; have hcz5_1 : w4.cell? ⟨gb679, 1, none⟩ = some (.int .i64 a0_1) := (blk_cell BK679.out 1).trans rfl; have hcz5_2 : w4.cell? ⟨gb679, 2, none⟩ = some (.slice A0_2 l0_2.length c0_2) := (blk_cell BK679.out 2).trans rfl; have hfz5_0 := blk_frozen BK679.out 0; have hfz5_1 := blk_frozen BK679.out 1; have hfz5_2 := blk_frozen BK679.out 2) | ((with_reducible refine gate_callee (f := 23) rfl ?_); refine goesL_ (some 16) rfl rfl Try.func23 (by kernel_rfl) rfl #[.agg #[.int .i64 a0_0, .int .i64 a0_1, .slice A0_2 l0_2.length c0_2], .int .i64 1048576] rfl (by (try simp only [List.map_toArray, List.map_cons, List.map_nil]); first | done | rfl | (simp only [List.length_drop, List.length_take]; rfl)) ?_; (with_reducible refine (laws_szPuzzle.calls a0_0 a0_1 _ _ l0_2 1048576 t680 _ ?side1 ?side2 A2.out).mono ?_); (case side1 => repeat (first | exact (Kd.C_below HR0_2.out HB.out) | (with_reducible refine Kd.C_alloc ?_ _) | (with_reducible refine Kd.C_drewN ?_ _) | (with_reducible refine Kd.C_drew ?_))); (case side2 => exact HC0_2.out); rintro e w6 ⟨rfl, hb⟩; refine ⟨_, rfl, ?_⟩; have n0_ := Aside0.mk (blk_below (g := gb679) (o := .cells #[.int .i64 a0_0, .int .i64 a0_1, .slice A0_2 l0_2.length c0_2] 43 (0, 0)) (by (with_reducible repeat (first | refine blk_drewN ?_ _ | refine blk_drew ?_ | refine blk_alloc ?_ _)); exact BK679.out) hb); have n1_ := Aside0.mk (below_step (by repeat (first | (with_reducible first | exact HB.out | apply below_alloc | apply pw_below_drewN | apply below_drew1 | refine below_set ?_ GE679.out) | exact HB.out)) hb); clear BK679; clear HB; have BK679 := n0_; have HB := n1_; clear n0_ n1_; (try clear hb); (try clear hb2); (try clear hk); (try clear hi)))
    go_ret
    exact ⟨by first | rfl | (simp [errW_none, errW_some] <;> rfl) | (simp [*, errW_none, errW_some] <;> rfl), by repeat (first | (with_reducible first | exact HB.out | apply below_alloc | apply pw_below_drewN | apply below_drew1 | refine below_set ?_ GE679.out) | exact HB.out)⟩
  · rw [if_neg c3] at H
    have c3b0 : decide (t680 < 0) = false := decide_eq_false c3
    clear c3
    replace H := Option.bind_eq_some_iff.mp H
    obtain ⟨⟨t681, t682, t683⟩, A70, H⟩ := H
    replace H : ((spec_Solutions.f k t681 t682 t683).bind fun bt686 => ((laws_toPuzzle.f k a0_0 a0_1 l0_2).bind fun bt690 => ((impl_Solutions.f k bt690.1 bt690.2.1 bt690.2.2).bind fun bt696 => ((laws_eqStringS.f k bt696.1 bt686.1).bind fun t700 => (if t700 = true then (laws_FnExactSolutions.j0 k bt686.1 bt686.2 bt696.1 bt696.2 (bt696.2 != bt686.2) a0_0 a0_1 l0_2 bt690.1 bt690.2.1 bt690.2.2) else (laws_FnExactSolutions.j0 k bt686.1 bt686.2 bt696.1 bt696.2 true a0_0 a0_1 l0_2 bt690.1 bt690.2.1 bt690.2.2)))))) = some r := H
    have A7 := Aside0.mk A70
    clear A70
    replace H := Option.bind_eq_some_iff.mp H
    obtain ⟨⟨t686, t689⟩, A80, H⟩ := H
    replace H : ((laws_toPuzzle.f k a0_0 a0_1 l0_2).bind fun bt690 => ((impl_Solutions.f k bt690.1 bt690.2.1 bt690.2.2).bind fun bt696 => ((laws_eqStringS.f k bt696.1 t686).bind fun t700 => (if t700 = true then (laws_FnExactSolutions.j0 k t686 t689 bt696.1 bt696.2 (bt696.2 != t689) a0_0 a0_1 l0_2 bt690.1 bt690.2.1 bt690.2.2) else (laws_FnExactSolutions.j0 k t686 t689 bt696.1 bt696.2 true a0_0 a0_1 l0_2 bt690.1 bt690.2.1 bt690.2.2))))) = some r := H
    have A8 := Aside0.mk A80
    clear A80
    replace H := Option.bind_eq_some_iff.mp H
    obtain ⟨⟨t690, t691, t692⟩, A90, H⟩ := H
    replace H : ((impl_Solutions.f k t690 t691 t692).bind fun bt696 => ((laws_eqStringS.f k bt696.1 t686).bind fun t700 => (if t700 = true then (laws_FnExactSolutions.j0 k t686 t689 bt696.1 bt696.2 (bt696.2 != t689) a0_0 a0_1 l0_2 t690 t691 t692) else (laws_FnExactSolutions.j0 k t686 t689 bt696.1 bt696.2 true a0_0 a0_1 l0_2 t690 t691 t692)))) = some r := H
    have A9 := Aside0.mk A90
    clear A90
    replace H := Option.bind_eq_some_iff.mp H
    obtain ⟨⟨t696, t699⟩, A100, H⟩ := H
    replace H : ((laws_eqStringS.f k t696 t686).bind fun t700 => (if t700 = true then (laws_FnExactSolutions.j0 k t686 t689 t696 t699 (t699 != t689) a0_0 a0_1 l0_2 t690 t691 t692) else (laws_FnExactSolutions.j0 k t686 t689 t696 t699 true a0_0 a0_1 l0_2 t690 t691 t692))) = some r := H
    have A10 := Aside0.mk A100
    clear A100
    have HC11 := Aside0.mk H
    clear H
    go_enter Try.func11, Try.ntmps11
    go_upto_region 8 with (first | ((with_reducible refine gate_dst (N := 1) rfl ?_); refine box_event ?hg (N := 1) ?hd (cs := #[.int .i64 a0_0, .int .i64 a0_1, .slice A0_2 l0_2.length c0_2]) (t := 43) ?hr ?_; (case hd => rfl); (case hg => rfl); (case hr => first | (go_simp; done) | (go_simp; rfl)); intro gb679 hg w12 hbox hb; have n0_ := Aside0.mk (below_step (by repeat (first | (with_reducible first | exact HB.out | apply below_alloc | apply pw_below_drewN | apply below_drew1) | exact HB.out)) hb); have n1_ := Aside0.mk (hbox); have n2_ := Aside0.mk ((by rw [hg]; exact (below_size (by repeat (first | (with_reducible first | exact HB.out | apply below_alloc | apply pw_below_drewN | apply below_drew1) | exact HB.out))) : w.heap.size ≤ gb679)); have n3_ := Aside0.mk ((by rw [hg]; exact (below_size (by repeat (first | (with_reducible first | exact HB.out | apply below_alloc | apply pw_below_drewN | apply below_drew1) | exact HB.out))) : w.heap.size ≤ gb679)); clear HB; have HB := n0_; have BK679 := n1_; have GW679 := n2_; have GE679 := n3_; clear n0_ n1_ n2_ n3_; clear hb hbox hg; have hcz13_0 : w12.cell? ⟨gb679, 0, none⟩ = some (.int .i64 a0_0) := (blk_cell BK679.out 0).trans rfl; have hcz13_1 : w12.cell? ⟨gb679, 1, none⟩ = some (.int .i64 a0_1) := (blk_cell BK679.out 1).trans rfl; have hcz13_2 : w12.cell? ⟨gb679, 2, none⟩ = some (.slice A0_2 l0_2.length c0_2) := (blk_cell BK679.out 2).trans rfl; have hfz13_0 := blk_frozen BK679.out 0; have hfz13_1 := blk_frozen BK679.out 1; have hfz13_2 := blk_frozen BK679.out 2) | ((with_reducible refine gate_callee (f := 23) rfl ?_); refine goesL_ (some 16) rfl rfl Try.func23 (by kernel_rfl) rfl #[.agg #[.int .i64 a0_0, .int .i64 a0_1, .slice A0_2 l0_2.length c0_2], .int .i64 1048576] rfl (by (try simp only [List.map_toArray, List.map_cons, List.map_nil]); first | done | rfl | (simp only [List.length_drop, List.length_take]; rfl)) ?_; (with_reducible refine (laws_szPuzzle.calls a0_0 a0_1 _ _ l0_2 1048576 t680 _ ?side1 ?side2 A2.out).mono ?_); (case side1 => repeat (first | exact (Kd.C_below HR0_2.out HB.out) | (with_reducible refine Kd.C_alloc ?_ _) | (with_reducible refine Kd.C_drewN ?_ _) | (with_reducible refine Kd.C_drew ?_))); (case side2 => exact HC0_2.out); rintro e w14 ⟨rfl, hb⟩; refine ⟨_, rfl, ?_⟩; have n0_ := Aside0.mk (blk_below (g := gb679) (o := .cells #[.int .i64 a0_0, .int .i64 a0_1, .slice A0_2 l0_2.length c0_2] 43 (0, 0)) (by (with_reducible repeat (first | refine blk_drewN ?_ _ | refine blk_drew ?_ | refine blk_alloc ?_ _)); exact BK679.out) hb); have n1_ := Aside0.mk (below_step (by repeat (first | (with_reducible first | exact HB.out | apply below_alloc | apply pw_below_drewN | apply below_drew1 | refine below_set ?_ GE679.out) | exact HB.out)) hb); clear BK679; clear HB; have BK679 := n0_; have HB := n1_; clear n0_ n1_; (try clear hb); (try clear hb2); (try clear hk); (try clear hi); have hcz15_0 : w14.cell? ⟨gb679, 0, none⟩ = some (.int .i64 a0_0) := (blk_cell BK679.out 0).trans rfl; have hcz15_1 : w14.cell? ⟨gb679, 1, none⟩ = some (.int .i64 a0_1) := (blk_cell BK679.out 1).trans rfl; have hcz15_2 : w14.cell? ⟨gb679, 2, none⟩ = some (.slice A0_2 l0_2.length c0_2) := (blk_cell BK679.out 2).trans rfl; have hfz15_0 := blk_frozen BK679.out 0; have hfz15_1 := blk_frozen BK679.out 1; have hfz15_2 := blk_frozen BK679.out 2) | ((with_reducible refine gate_callee (f := 25) rfl ?_); refine goesL_ (some 21) rfl rfl Try.func25 (by kernel_rfl) rfl #[.agg #[.int .i64 a0_0, .int .i64 a0_1, .slice A0_2 l0_2.length c0_2]] rfl (by (try simp only [List.map_toArray, List.map_cons, List.map_nil]); first | done | rfl | (simp only [List.length_drop, List.length_take]; rfl)) ?_; (with_reducible refine (laws_toPuzzle.calls k a0_0 a0_1 _ _ l0_2 t681 t682 t683 _ ?side1 ?side2 A7.out).mono ?_); (case side1 => repeat (first | exact (Kd.C_below HR0_2.out HB.out) | (with_reducible refine Kd.C_alloc ?_ _) | (with_reducible refine Kd.C_drewN ?_ _) | (with_reducible refine Kd.C_drew ?_))); (case side2 => exact HC0_2.out); rintro e w16 ⟨v684, rfl, ho0, hb⟩; refine ⟨_, rfl, ?_⟩; have n0_ := Aside0.mk (Kd.R_lower ho0 (below_size (by repeat (first | (with_reducible first | exact HB.out | apply below_alloc | apply pw_below_drewN | apply below_drew1 | refine below_set ?_ GE679.out) | exact HB.out)))); have n1_ := Aside0.mk (blk_below (g := gb679) (o := .cells #[.int .i64 a0_0, .int .i64 a0_1, .slice A0_2 l0_2.length c0_2] 43 (0, 0)) (by (with_reducible repeat (first | refine blk_drewN ?_ _ | refine blk_drew ?_ | refine blk_alloc ?_ _)); exact BK679.out) hb); have n2_ := Aside0.mk (below_step (by repeat (first | (with_reducible first | exact HB.out | apply below_alloc | apply pw_below_drewN | apply below_drew1 | refine below_set ?_ GE679.out) | exact HB.out)) hb); clear BK679; clear HB; have HO685 := n0_; have BK679 := n1_; have HB := n2_; clear n0_ n1_ n2_; (try clear hb); (try clear hb2); (try clear hk); (try clear hi); (try clear ho0); obtain ⟨Ao17, co17, eo17⟩ := Kd.R_slice HO685.out; subst eo17) | ((with_reducible refine gate_callee (f := 40) rfl ?_); refine goesL_ (some 22) rfl rfl Try.func40 (by kernel_rfl) rfl #[.agg #[.int .i64 t681, .int .i64 t682, .slice Ao17 t683.length co17]] rfl (by (try simp only [List.map_toArray, List.map_cons, List.map_nil]); first | done | rfl | (simp only [List.length_drop, List.length_take]; rfl)) ?_; (with_reducible refine (spec_Solutions.calls k t681 t682 _ _ t683 t686 t689 _ ?side1 ?side2 A8.out).mono ?_); (case side1 => repeat (first | exact (Kd.R_reads' HO685.out).2.2 | (with_reducible refine Kd.C_alloc ?_ _) | (with_reducible refine Kd.C_drewN ?_ _) | (with_reducible refine Kd.C_drew ?_))); (case side2 => exact (Kd.R_reads' HO685.out).2.1); rintro e w18 ⟨v687, rfl, ho0, hb⟩; refine ⟨_, rfl, ?_⟩; have n0_ := Aside0.mk (Kd.R_below (by (with_reducible repeat (first | apply Kd.R_alloc | apply Kd.R_drewN | apply Kd.R_drew)); exact HO685.out) hb); have n1_ := Aside0.mk (Kd.R_lower ho0 (below_size (by repeat (first | (with_reducible first | exact HB.out | apply below_alloc | apply pw_below_drewN | apply below_drew1 | refine below_set ?_ GE679.out) | exact HB.out)))); have n2_ := Aside0.mk (blk_below (g := gb679) (o := .cells #[.int .i64 a0_0, .int .i64 a0_1, .slice A0_2 l0_2.length c0_2] 43 (0, 0)) (by (with_reducible repeat (first | refine blk_drewN ?_ _ | refine blk_drew ?_ | refine blk_alloc ?_ _)); exact BK679.out) hb); have n3_ := Aside0.mk (below_step (by repeat (first | (with_reducible first | exact HB.out | apply below_alloc | apply pw_below_drewN | apply below_drew1 | refine below_set ?_ GE679.out) | exact HB.out)) hb); clear HO685; clear BK679; clear HB; have HO685 := n0_; have HO688 := n1_; have BK679 := n2_; have HB := n3_; clear n0_ n1_ n2_ n3_; (try clear hb); (try clear hb2); (try clear hk); (try clear hi); (try clear ho0); have hcz19_0 : w18.cell? ⟨gb679, 0, none⟩ = some (.int .i64 a0_0) := (blk_cell BK679.out 0).trans rfl; have hcz19_1 : w18.cell? ⟨gb679, 1, none⟩ = some (.int .i64 a0_1) := (blk_cell BK679.out 1).trans rfl; have hcz19_2 : w18.cell? ⟨gb679, 2, none⟩ = some (.slice A0_2 l0_2.length c0_2) := (blk_cell BK679.out 2).trans rfl; have hfz19_0 := blk_frozen BK679.out 0; have hfz19_1 := blk_frozen BK679.out 1; have hfz19_2 := blk_frozen BK679.out 2) | ((with_reducible refine gate_callee (f := 25) rfl ?_); refine goesL_ (some 26) rfl rfl Try.func25 (by kernel_rfl) rfl #[.agg #[.int .i64 a0_0, .int .i64 a0_1, .slice A0_2 l0_2.length c0_2]] rfl (by (try simp only [List.map_toArray, List.map_cons, List.map_nil]); first | done | rfl | (simp only [List.length_drop, List.length_take]; rfl)) ?_; (with_reducible refine (laws_toPuzzle.calls k a0_0 a0_1 _ _ l0_2 t690 t691 t692 _ ?side1 ?side2 A9.out).mono ?_); (case side1 => repeat (first | exact (Kd.C_below HR0_2.out HB.out) | (with_reducible refine Kd.C_alloc ?_ _) | (with_reducible refine Kd.C_drewN ?_ _) | (with_reducible refine Kd.C_drew ?_))); (case side2 => exact HC0_2.out); rintro e w20 ⟨v693, rfl, ho0, hb⟩; refine ⟨_, rfl, ?_⟩; have n0_ := Aside0.mk (Kd.R_elder' (by (with_reducible repeat (first | apply Kd.R_alloc | apply Kd.R_drewN | apply Kd.R_drew)); exact HO685.out) (Kd.R_base ho0) hb); have n1_ := Aside0.mk (Kd.R_below (by (with_reducible repeat (first | apply Kd.R_alloc | apply Kd.R_drewN | apply Kd.R_drew)); exact HO688.out) hb); have n2_ := Aside0.mk (Kd.R_lower (Kd.R_new' ho0 (Kd.R_lt (by (with_reducible repeat (first | apply Kd.R_alloc | apply Kd.R_drewN | apply Kd.R_drew)); exact HO685.out))) (below_size (by repeat (first | (with_reducible first | exact HB.out | apply below_alloc | apply pw_below_drewN | apply below_drew1 | refine below_set ?_ GE679.out) | exact HB.out)))); have n3_ := Aside0.mk (blk_below (g := gb679) (o := .cells #[.int .i64 a0_0, .int .i64 a0_1, .slice A0_2 l0_2.length c0_2] 43 (0, 0)) (by (with_reducible repeat (first | refine blk_drewN ?_ _ | refine blk_drew ?_ | refine blk_alloc ?_ _)); exact BK679.out) hb); have n4_ := Aside0.mk (below_step (by repeat (first | (with_reducible first | exact HB.out | apply below_alloc | apply pw_below_drewN | apply below_drew1 | refine below_set ?_ GE679.out) | exact HB.out)) hb); clear HO685; clear HO688; clear BK679; clear HB; have HO685 := n0_; have HO688 := n1_; have HO694 := n2_; have BK679 := n3_; have HB := n4_; clear n0_ n1_ n2_ n3_ n4_; (try clear hb); (try clear hb2); (try clear hk); (try clear hi); (try clear ho0)) | ((with_reducible refine gate_dst (N := 6) rfl ?_); refine box_event ?hg (N := 6) ?hd (cs := #[.int .i64 0, .int .i64 0, .slice none 0 0]) (t := 35) ?hr ?_; (case hd => rfl); (case hg => rfl); (case hr => first | (go_simp; done) | (go_simp; rfl)); intro gb695 hg w21 hbox hb; have n0_ := Aside0.mk (Kd.R_below (by (with_reducible repeat (first | apply Kd.R_alloc | apply Kd.R_drewN | apply Kd.R_drew)); exact HO685.out) hb); have n1_ := Aside0.mk (Kd.R_below (by (with_reducible repeat (first | apply Kd.R_alloc | apply Kd.R_drewN | apply Kd.R_drew)); exact HO688.out) hb); have n2_ := Aside0.mk (Kd.R_below (by (with_reducible repeat (first | apply Kd.R_alloc | apply Kd.R_drewN | apply Kd.R_drew)); exact HO694.out) hb); have n3_ := Aside0.mk (blk_below (g := gb679) (o := .cells #[.int .i64 a0_0, .int .i64 a0_1, .slice A0_2 l0_2.length c0_2] 43 (0, 0)) (by (with_reducible repeat (first | refine blk_drewN ?_ _ | refine blk_drew ?_ | refine blk_alloc ?_ _)); exact BK679.out) hb); have n4_ := Aside0.mk (below_step (by repeat (first | (with_reducible first | exact HB.out | apply below_alloc | apply pw_below_drewN | apply below_drew1 | refine below_set ?_ GE679.out) | exact HB.out)) hb); have n5_ := Aside0.mk (hbox); have n6_ := Aside0.mk ((by rw [hg]; exact (below_size (by repeat (first | (with_reducible first | exact HB.out | apply below_alloc | apply pw_below_drewN | apply below_drew1 | refine below_set ?_ GE679.out) | exact HB.out))) : w.heap.size ≤ gb695)); have n7_ := Aside0.mk ((by rw [hg]; exact (below_size (by repeat (first | (with_reducible first | exact HB.out | apply below_alloc | apply pw_below_drewN | apply below_drew1 | refine below_set ?_ GE679.out) | exact HB.out))) : w.heap.size ≤ gb695)); have n8_ := Aside0.mk ((by rw [hg]; exact Nat.ne_of_lt (blk_lt (g := gb679) (o := .cells #[.int .i64 a0_0, .int .i64 a0_1, .slice A0_2 l0_2.length c0_2] 43 (0, 0)) (by (with_reducible repeat (first | refine blk_drewN ?_ _ | refine blk_drew ?_ | refine blk_alloc ?_ _)); exact BK679.out)) : gb679 ≠ gb695)); have n9_ := Aside0.mk ((by rw [hg]; exact Nat.ne_of_gt (blk_lt (g := gb679) (o := .cells #[.int .i64 a0_0, .int .i64 a0_1, .slice A0_2 l0_2.length c0_2] 43 (0, 0)) (by (with_reducible repeat (first | refine blk_drewN ?_ _ | refine blk_drew ?_ | refine blk_alloc ?_ _)); exact BK679.out)) : gb695 ≠ gb679)); clear HO685; clear HO688; clear HO694; clear BK679; clear HB; have HO685 := n0_; have HO688 := n1_; have HO694 := n2_; have BK679 := n3_; have HB := n4_; have BK695 := n5_; have GW695 := n6_; have GE695 := n7_; have NB679_695 := n8_; have NB695_679 := n9_; clear n0_ n1_ n2_ n3_ n4_ n5_ n6_ n7_ n8_ n9_; clear hb hbox hg; have hnb22 := NB695_679.out; have hnc22 := NB679_695.out; have hcz23_0 : w21.cell? ⟨gb695, 0, none⟩ = some (.int .i64 0) := (blk_cell BK695.out 0).trans rfl; have hcz23_1 : w21.cell? ⟨gb695, 1, none⟩ = some (.int .i64 0) := (blk_cell BK695.out 1).trans rfl; have hcz23_2 : w21.cell? ⟨gb695, 2, none⟩ = some (.slice none 0 0) := (blk_cell BK695.out 2).trans rfl; have hfz23_0 := blk_frozen BK695.out 0; have hfz23_1 := blk_frozen BK695.out 1; have hfz23_2 := blk_frozen BK695.out 2; obtain ⟨Ao24, co24, eo24⟩ := Kd.R_slice HO694.out; subst eo24) | ((with_reducible refine gate_callee (f := 41) rfl ?_); refine goesL_ (some 29) rfl rfl Try.func41 (by kernel_rfl) rfl #[.agg #[.int .i64 t690, .int .i64 t691, .slice Ao24 t692.length co24]] rfl (by (try simp only [List.map_toArray, List.map_cons, List.map_nil]); first | done | rfl | (simp only [List.length_drop, List.length_take]; rfl)) ?_; (with_reducible refine (impl_Solutions.calls k t690 t691 _ _ t692 t696 t699 _ ?side1 ?side2 A10.out).mono ?_); (case side1 => refine (Kd.R_reads' (e := 30) (base := w.heap.size) (ok := fun k_ => (True ∧ some k_ ≠ (.slice Ao17 t683.length co17 : Value).ownBlock)) (n := t692.length) (c := co24) ?_).2.2; exact (by (with_reducible repeat (first | apply Kd.R_alloc | apply Kd.R_drewN | apply Kd.R_drew)); exact (Kd.R_mono (Kd.R_far (p := ⟨gb695, 2, none⟩) (Kd.R_far (p := ⟨gb695, 1, none⟩) (Kd.R_far (p := ⟨gb695, 0, none⟩) (Kd.R_types HO694.out BK695.out (by decide)) (fun _ hk => hk.2) (.int .i64 t690)) (fun _ hk => hk.2) (.int .i64 t691)) (fun _ hk => hk.2) (.slice Ao24 t692.length co24)) (fun _ h_ => h_.1)))); (case side2 => exact (Kd.R_reads' HO694.out).2.1); rintro e w25 ⟨v697, rfl, ho0, hb⟩; refine ⟨_, rfl, ?_⟩; have n0_ := Aside0.mk (Kd.R_below (by (with_reducible repeat (first | apply Kd.R_alloc | apply Kd.R_drewN | apply Kd.R_drew)); exact (Kd.R_mono (Kd.R_far (p := ⟨gb695, 2, none⟩) (Kd.R_far (p := ⟨gb695, 1, none⟩) (Kd.R_far (p := ⟨gb695, 0, none⟩) (Kd.R_types HO685.out BK695.out (by decide)) (fun _ hk => hk.2) (.int .i64 t690)) (fun _ hk => hk.2) (.int .i64 t691)) (fun _ hk => hk.2) (.slice Ao24 t692.length co24)) (fun _ h_ => h_.1))) hb); have n1_ := Aside0.mk (Kd.R_elder' (by (with_reducible repeat (first | apply Kd.R_alloc | apply Kd.R_drewN | apply Kd.R_drew)); exact (Kd.R_mono (Kd.R_far (p := ⟨gb695, 2, none⟩) (Kd.R_far (p := ⟨gb695, 1, none⟩) (Kd.R_far (p := ⟨gb695, 0, none⟩) (Kd.R_types HO688.out BK695.out (by decide)) (fun _ hk => hk.2) (.int .i64 t690)) (fun _ hk => hk.2) (.int .i64 t691)) (fun _ hk => hk.2) (.slice Ao24 t692.length co24)) (fun _ h_ => h_.1))) (Kd.R_base ho0) hb); have n2_ := Aside0.mk (Kd.R_below (by (with_reducible repeat (first | apply Kd.R_alloc | apply Kd.R_drewN | apply Kd.R_drew)); exact (Kd.R_mono (Kd.R_far (p := ⟨gb695, 2, none⟩) (Kd.R_far (p := ⟨gb695, 1, none⟩) (Kd.R_far (p := ⟨gb695, 0, none⟩) (Kd.R_types HO694.out BK695.out (by decide)) (fun _ hk => hk.2) (.int .i64 t690)) (fun _ hk => hk.2) (.int .i64 t691)) (fun _ hk => hk.2) (.slice Ao24 t692.length co24)) (fun _ h_ => h_.1))) hb); have n3_ := Aside0.mk (Kd.R_lower (Kd.R_new' ho0 (Kd.R_lt (by (with_reducible repeat (first | apply Kd.R_alloc | apply Kd.R_drewN | apply Kd.R_drew)); exact (Kd.R_mono (Kd.R_far (p := ⟨gb695, 2, none⟩) (Kd.R_far (p := ⟨gb695, 1, none⟩) (Kd.R_far (p := ⟨gb695, 0, none⟩) (Kd.R_types HO688.out BK695.out (by decide)) (fun _ hk => hk.2) (.int .i64 t690)) (fun _ hk => hk.2) (.int .i64 t691)) (fun _ hk => hk.2) (.slice Ao24 t692.length co24)) (fun _ h_ => h_.1))))) (below_size (by repeat (first | (with_reducible first | exact HB.out | apply below_alloc | apply pw_below_drewN | apply below_drew1 | refine below_set ?_ GE679.out | refine below_set ?_ GE695.out) | exact HB.out)))); have n4_ := Aside0.mk (blk_below (g := gb679) (o := .cells #[.int .i64 a0_0, .int .i64 a0_1, .slice A0_2 l0_2.length c0_2] 43 (0, 0)) (by (with_reducible repeat (first | refine blk_drewN ?_ _ | refine blk_drew ?_ | refine blk_alloc ?_ _)); refine blk_far ?_ NB679_695.out _; (with_reducible repeat (first | refine blk_drewN ?_ _ | refine blk_drew ?_ | refine blk_alloc ?_ _)); refine blk_far ?_ NB679_695.out _; (with_reducible repeat (first | refine blk_drewN ?_ _ | refine blk_drew ?_ | refine blk_alloc ?_ _)); refine blk_far ?_ NB679_695.out _; (with_reducible repeat (first | refine blk_drewN ?_ _ | refine blk_drew ?_ | refine blk_alloc ?_ _)); exact BK679.out) hb); have n5_ := Aside0.mk (blk_below (g := gb695) (o := .cells #[.int .i64 t690, .int .i64 t691, .slice Ao24 t692.length co24] 35 (0, 0)) (by (with_reducible repeat (first | refine blk_drewN ?_ _ | refine blk_drew ?_ | refine blk_alloc ?_ _)); refine blk_put (cs := #[.int .i64 t690, .int .i64 t691, .slice none 0 0]) ?_ 2 _ rfl; (with_reducible repeat (first | refine blk_drewN ?_ _ | refine blk_drew ?_ | refine blk_alloc ?_ _)); refine blk_put (cs := #[.int .i64 t690, .int .i64 0, .slice none 0 0]) ?_ 1 _ rfl; (with_reducible repeat (first | refine blk_drewN ?_ _ | refine blk_drew ?_ | refine blk_alloc ?_ _)); refine blk_put (cs := #[.int .i64 0, .int .i64 0, .slice none 0 0]) ?_ 0 _ rfl; (with_reducible repeat (first | refine blk_drewN ?_ _ | refine blk_drew ?_ | refine blk_alloc ?_ _)); exact BK695.out) hb); have n6_ := Aside0.mk (below_step (by repeat (first | (with_reducible first | exact HB.out | apply below_alloc | apply pw_below_drewN | apply below_drew1 | refine below_set ?_ GE679.out | refine below_set ?_ GE695.out) | exact HB.out)) hb); clear HO685; clear HO688; clear HO694; clear BK679; clear BK695; clear HB; have HO685 := n0_; have HO688 := n1_; have HO694 := n2_; have HO698 := n3_; have BK679 := n4_; have BK695 := n5_; have HB := n6_; clear n0_ n1_ n2_ n3_ n4_ n5_ n6_; (try clear hb); (try clear hb2); (try clear hk); (try clear hi); (try clear ho0)))
    (try simp only [Act.put, List.setIfInBounds_toArray, List.set_cons_zero, List.set_cons_succ])
    go_cut [40] (fun v40 wc => ∃ (kq : Nat) (x40_10 : Bool), v40 = .bool x40_10 ∧ Aside0 (laws_FnExactSolutions.j0 kq t686 t689 t696 t699 x40_10 a0_0 a0_1 l0_2 t690 t691 t692 = some r) ∧ Aside0 (kq ≤ k) ∧ Aside0 (Kd.R Kd.string 9 wc w.heap.size (fun k_ => some k_ ≠ (v697 : Value).ownBlock) v687 t686) ∧ Aside0 (Kd.R Kd.string 9 wc w.heap.size (fun k_ => some k_ ≠ (v687 : Value).ownBlock) v697 t696) ∧ Aside0 (Kd.R k30 30 wc w.heap.size (fun _ => True) (.slice Ao24 t692.length co24) t692) ∧ Aside0 (wc.heap[gb679]? = some (.cells #[.int .i64 a0_0, .int .i64 a0_1, (.slice A0_2 l0_2.length c0_2)] 43 (0, 0))) ∧ Aside0 (wc.heap[gb695]? = some (.cells #[.int .i64 t690, .int .i64 t691, (.slice Ao24 t692.length co24)] 35 (0, 0))) ∧ Aside0 (Below w.heap.size w wc))
    case first =>
      have H := HC11.out
      clear HC11
      replace H := Option.bind_eq_some_iff.mp H
      obtain ⟨t700, A260, H⟩ := H
      replace H : (if t700 = true then (laws_FnExactSolutions.j0 k t686 t689 t696 t699 (t699 != t689) a0_0 a0_1 l0_2 t690 t691 t692) else (laws_FnExactSolutions.j0 k t686 t689 t696 t699 true a0_0 a0_1 l0_2 t690 t691 t692)) = some r := H
      have A26 := Aside0.mk A260
      clear A260
      by_cases c27 : t700 = true
      · subst c27
        have H1 : (laws_FnExactSolutions.j0 k t686 t689 t696 t699 (t699 != t689) a0_0 a0_1 l0_2 t690 t691 t692) = some r := by rw [if_pos rfl] at H; exact H
        clear H
        have H := H1
        clear H1
        have H' := Aside0.mk H
        clear H
        obtain ⟨Ao28, co28, eo28⟩ := Kd.R_slice HO698.out
        subst eo28
        obtain ⟨Ao29, co29, eo29⟩ := Kd.R_slice HO688.out
        subst eo29
        go_wp2_with (first | ((with_reducible refine gate_callee (f := 42) rfl ?_); refine goesL_ (some 34) rfl rfl Try.func42 (by kernel_rfl) rfl #[.slice Ao28 t696.length co28, .slice Ao29 t686.length co29] rfl (by (try simp only [List.map_toArray, List.map_cons, List.map_nil]); first | done | rfl | (simp only [List.length_drop, List.length_take]; rfl)) ?_; (with_reducible refine (laws_eqStringS.calls k _ _ t696 _ _ t686 true _ ?side1 ?side2 ?side3 ?side4 A26.out).mono ?_); (case side1 => repeat (first | exact (Kd.R_reads' HO698.out).2.2 | (with_reducible refine Kd.C_alloc ?_ _) | (with_reducible refine Kd.C_drewN ?_ _) | (with_reducible refine Kd.C_drew ?_))); (case side2 => exact (Kd.R_reads' HO698.out).2.1); (case side3 => repeat (first | exact (Kd.R_reads' HO688.out).2.2 | (with_reducible refine Kd.C_alloc ?_ _) | (with_reducible refine Kd.C_drewN ?_ _) | (with_reducible refine Kd.C_drew ?_))); (case side4 => exact (Kd.R_reads' HO688.out).2.1); rintro e w' ⟨rfl, ⟨nd, rfl⟩⟩; refine ⟨_, rfl, ?_⟩))
        go_meet
        case rel => exact ⟨_, ((t699 != t689)), (by first | rfl | (simp; done) | (simp [*]; done)), H', ⟨by first | omega | exact Nat.le_refl _⟩, ⟨by (with_reducible repeat (first | apply Kd.R_alloc | apply Kd.R_drewN | apply Kd.R_drew)); exact Kd.R_mono HO688.out (fun _ hk => hk.2)⟩, ⟨by (with_reducible repeat (first | apply Kd.R_alloc | apply Kd.R_drewN | apply Kd.R_drew)); exact Kd.R_mono HO698.out (fun _ hk => hk.2)⟩, ⟨by (with_reducible repeat (first | apply Kd.R_alloc | apply Kd.R_drewN | apply Kd.R_drew)); exact Kd.R_mono HO694.out (fun _ hk => trivial)⟩, ⟨by (with_reducible repeat (first | refine blk_drewN ?_ _ | refine blk_drew ?_ | refine blk_alloc ?_ _)); exact BK679.out⟩, ⟨by (with_reducible repeat (first | refine blk_drewN ?_ _ | refine blk_drew ?_ | refine blk_alloc ?_ _)); exact BK695.out⟩, ⟨by repeat (first | (with_reducible first | exact HB.out | apply below_alloc | apply pw_below_drewN | apply below_drew1 | refine below_set ?_ GE679.out | refine below_set ?_ GE695.out) | exact HB.out)⟩⟩
      · replace c27 := Bool.eq_false_iff.mpr c27
        subst c27
        have H1 : (laws_FnExactSolutions.j0 k t686 t689 t696 t699 true a0_0 a0_1 l0_2 t690 t691 t692) = some r := by rw [if_neg (show ¬ (false = true) by decide)] at H; exact H
        clear H
        have H := H1
        clear H1
        have H' := Aside0.mk H
        clear H
        obtain ⟨Ao30, co30, eo30⟩ := Kd.R_slice HO698.out
        subst eo30
        obtain ⟨Ao31, co31, eo31⟩ := Kd.R_slice HO688.out
        subst eo31
        go_wp2_with (first | ((with_reducible refine gate_callee (f := 42) rfl ?_); refine goesL_ (some 34) rfl rfl Try.func42 (by kernel_rfl) rfl #[.slice Ao30 t696.length co30, .slice Ao31 t686.length co31] rfl (by (try simp only [List.map_toArray, List.map_cons, List.map_nil]); first | done | rfl | (simp only [List.length_drop, List.length_take]; rfl)) ?_; (with_reducible refine (laws_eqStringS.calls k _ _ t696 _ _ t686 false _ ?side1 ?side2 ?side3 ?side4 A26.out).mono ?_); (case side1 => repeat (first | exact (Kd.R_reads' HO698.out).2.2 | (with_reducible refine Kd.C_alloc ?_ _) | (with_reducible refine Kd.C_drewN ?_ _) | (with_reducible refine Kd.C_drew ?_))); (case side2 => exact (Kd.R_reads' HO698.out).2.1); (case side3 => repeat (first | exact (Kd.R_reads' HO688.out).2.2 | (with_reducible refine Kd.C_alloc ?_ _) | (with_reducible refine Kd.C_drewN ?_ _) | (with_reducible refine Kd.C_drew ?_))); (case side4 => exact (Kd.R_reads' HO688.out).2.1); rintro e w' ⟨rfl, ⟨nd, rfl⟩⟩; refine ⟨_, rfl, ?_⟩))
        go_meet
        case rel => exact ⟨_, (true), (by first | rfl | (simp; done) | (simp [*]; done)), H', ⟨by first | omega | exact Nat.le_refl _⟩, ⟨by (with_reducible repeat (first | apply Kd.R_alloc | apply Kd.R_drewN | apply Kd.R_drew)); exact Kd.R_mono HO688.out (fun _ hk => hk.2)⟩, ⟨by (with_reducible repeat (first | apply Kd.R_alloc | apply Kd.R_drewN | apply Kd.R_drew)); exact Kd.R_mono HO698.out (fun _ hk => hk.2)⟩, ⟨by (with_reducible repeat (first | apply Kd.R_alloc | apply Kd.R_drewN | apply Kd.R_drew)); exact Kd.R_mono HO694.out (fun _ hk => trivial)⟩, ⟨by (with_reducible repeat (first | refine blk_drewN ?_ _ | refine blk_drew ?_ | refine blk_alloc ?_ _)); exact BK679.out⟩, ⟨by (with_reducible repeat (first | refine blk_drewN ?_ _ | refine blk_drew ?_ | refine blk_alloc ?_ _)); exact BK695.out⟩, ⟨by repeat (first | (with_reducible first | exact HB.out | apply below_alloc | apply pw_below_drewN | apply below_drew1 | refine below_set ?_ GE679.out | refine below_set ?_ GE695.out) | exact HB.out)⟩⟩
    case rest =>
      clear HC11
      try clear c1; try clear c2; try clear p2; try clear c3; try clear c3b0; try clear c4; try clear c11; try clear c22; try clear c23; try clear c25; try clear c27; try clear hcz13_0; try clear hcz13_1; try clear hcz13_2; try clear hcz15_0; try clear hcz15_1; try clear hcz15_2; try clear hcz19_0; try clear hcz19_1; try clear hcz19_2; try clear hcz23_0; try clear hcz23_1; try clear hcz23_2; try clear hcz5_0; try clear hcz5_1; try clear hcz5_2; try clear hfz13_0; try clear hfz13_1; try clear hfz13_2; try clear hfz15_0; try clear hfz15_1; try clear hfz15_2; try clear hfz19_0; try clear hfz19_1; try clear hfz19_2; try clear hfz23_0; try clear hfz23_1; try clear hfz23_2; try clear hfz5_0; try clear hfz5_1; try clear hfz5_2
      obtain ⟨kq, x40_10, rfl, HA, HJ10, HO_4, HO_7, HO_696002, BK679, BK695, HB⟩ := hcut
      cases kq with
      | zero => exact absurd HA.out (by simp [laws_FnExactSolutions.j0])
      | succ kj10 =>
        have H := HA.out
        clear HA
        simp only [laws_FnExactSolutions.j0] at H
        by_cases c32 : x40_10 = true
        · subst c32
          have H1 : (some false) = some r := by rw [if_pos rfl] at H; exact H
          clear H
          have H := H1
          clear H1
          obtain rfl := Option.some.inj H
          go_wp2
          go_ret
          exact ⟨by first | rfl | (simp [errW_none, errW_some] <;> rfl) | (simp [*, errW_none, errW_some] <;> rfl), by repeat (first | (with_reducible first | exact HB.out | apply below_alloc | apply pw_below_drewN | apply below_drew1 | refine below_set ?_ GE679.out | refine below_set ?_ GE695.out) | exact HB.out)⟩
        · replace c32 := Bool.eq_false_iff.mpr c32
          subst c32
          have H1 : ((laws_toPuzzle.f kj10 a0_0 a0_1 l0_2).bind fun bt701 => ((laws_eqPuzzle.f kj10 t690 t691 t692 bt701.1 bt701.2.1 bt701.2.2).bind fun t706 => (if t706 = true then ((laws_markPuzzle.f kj10 t690 t691 t692 1).bind fun bt707 => (if bt707.1 < 0 then (laws_FnExactSolutions.j1 kj10 t686 t689 t696 true a0_0 a0_1 l0_2) else ((laws_eqStringS.f kj10 t696 t686).bind fun t709 => (if t709 = true then (laws_FnExactSolutions.j1 kj10 t686 t689 t696 (t699 != t689) a0_0 a0_1 l0_2) else (laws_FnExactSolutions.j1 kj10 t686 t689 t696 true a0_0 a0_1 l0_2))))) else (some false)))) = some r := by rw [if_neg (show ¬ (false = true) by decide)] at H; exact H
          clear H
          have H := H1
          clear H1
          replace H := Option.bind_eq_some_iff.mp H
          obtain ⟨⟨t701, t702, t703⟩, A330, H⟩ := H
          replace H : ((laws_eqPuzzle.f kj10 t690 t691 t692 t701 t702 t703).bind fun t706 => (if t706 = true then ((laws_markPuzzle.f kj10 t690 t691 t692 1).bind fun bt707 => (if bt707.1 < 0 then (laws_FnExactSolutions.j1 kj10 t686 t689 t696 true a0_0 a0_1 l0_2) else ((laws_eqStringS.f kj10 t696 t686).bind fun t709 => (if t709 = true then (laws_FnExactSolutions.j1 kj10 t686 t689 t696 (t699 != t689) a0_0 a0_1 l0_2) else (laws_FnExactSolutions.j1 kj10 t686 t689 t696 true a0_0 a0_1 l0_2))))) else (some false))) = some r := H
          have A33 := Aside0.mk A330
          clear A330
          replace H := Option.bind_eq_some_iff.mp H
          obtain ⟨t706, A340, H⟩ := H
          replace H : (if t706 = true then ((laws_markPuzzle.f kj10 t690 t691 t692 1).bind fun bt707 => (if bt707.1 < 0 then (laws_FnExactSolutions.j1 kj10 t686 t689 t696 true a0_0 a0_1 l0_2) else ((laws_eqStringS.f kj10 t696 t686).bind fun t709 => (if t709 = true then (laws_FnExactSolutions.j1 kj10 t686 t689 t696 (t699 != t689) a0_0 a0_1 l0_2) else (laws_FnExactSolutions.j1 kj10 t686 t689 t696 true a0_0 a0_1 l0_2))))) else (some false)) = some r := H
          have A34 := Aside0.mk A340
          clear A340
          by_cases c35 : t706 = true
          · subst c35
            have H1 : ((laws_markPuzzle.f kj10 t690 t691 t692 1).bind fun bt707 => (if bt707.1 < 0 then (laws_FnExactSolutions.j1 kj10 t686 t689 t696 true a0_0 a0_1 l0_2) else ((laws_eqStringS.f kj10 t696 t686).bind fun t709 => (if t709 = true then (laws_FnExactSolutions.j1 kj10 t686 t689 t696 (t699 != t689) a0_0 a0_1 l0_2) else (laws_FnExactSolutions.j1 kj10 t686 t689 t696 true a0_0 a0_1 l0_2))))) = some r := by rw [if_pos rfl] at H; exact H
            clear H
            have H := H1
            clear H1
            replace H := Option.bind_eq_some_iff.mp H
            obtain ⟨⟨t707, t708⟩, A360, H⟩ := H
            replace H : (if t707 < 0 then (laws_FnExactSolutions.j1 kj10 t686 t689 t696 true a0_0 a0_1 l0_2) else ((laws_eqStringS.f kj10 t696 t686).bind fun t709 => (if t709 = true then (laws_FnExactSolutions.j1 kj10 t686 t689 t696 (t699 != t689) a0_0 a0_1 l0_2) else (laws_FnExactSolutions.j1 kj10 t686 t689 t696 true a0_0 a0_1 l0_2)))) = some r := H
            have A36 := Aside0.mk A360
            clear A360
            have HC37 := Aside0.mk H
            clear H
            try go_wp2
            have n0_ := Aside0.mk (Kd.R_drew HO_4.out)
            have n1_ := Aside0.mk (Kd.R_drew HO_7.out)
            have n2_ := Aside0.mk (Kd.R_drew HO_696002.out)
            have n3_ := Aside0.mk (blk_drew BK679.out)
            have n4_ := Aside0.mk (blk_drew BK695.out)
            have n5_ := Aside0.mk (below_drew1 HB.out)
            clear HO_4
            clear HO_7
            clear HO_696002
            clear BK679
            clear BK695
            clear HB
            have HO_4 := n0_
            have HO_7 := n1_
            have HO_696002 := n2_
            have BK679 := n3_
            have BK695 := n4_
            have HB := n5_
            clear n0_ n1_ n2_ n3_ n4_ n5_
            refine start_ (n := 5) (S := fun w' => w'.cell? ⟨gb695, 0, none⟩ = some (.int .i64 t690) ∧ w'.cell? ⟨gb695, 1, none⟩ = some (.int .i64 t691) ∧ w'.cell? ⟨gb695, 2, none⟩ = some (.slice Ao24 t692.length co24) ∧ w'.cell? ⟨gb679, 0, none⟩ = some (.int .i64 a0_0) ∧ w'.cell? ⟨gb679, 1, none⟩ = some (.int .i64 a0_1) ∧ w'.cell? ⟨gb679, 2, none⟩ = some (.slice A0_2 l0_2.length c0_2)) (ds := []) #[false, false, false, false, false] (by kernel_rfl) rfl rfl ⟨(blk_cell BK695.out 0).trans rfl, (blk_cell BK695.out 1).trans rfl, (blk_cell BK695.out 2).trans rfl, (blk_cell BK679.out 0).trans rfl, (blk_cell BK679.out 1).trans rfl, (blk_cell BK679.out 2).trans rfl⟩ (fun hHeld => ?_)
            generalize wc.drew = w38 at HO_4 HO_7 HO_696002 BK679 BK695 HB hHeld ⊢
            refine take_ (i := 0) (N := some 41) (v := ?_) (a' := ?_) #[true, false, false, false, false] rfl rfl (by kernel_rfl) (fun _ _ _ h => h) (Or.inl ⟨by rfl, ?_⟩) hHeld ?_ ?_
            rotate_left
            · rintro w' ⟨s0, s1, s2, s3, s4, s5⟩
              go_simp
              with_reducible rfl
            rotate_left
            · simp only [Act.put, List.setIfInBounds_toArray, List.set_cons_zero, List.set_cons_succ, i64_w, i32_w]
              rfl
            refine take_ (i := 1) (N := some 42) (v := ?_) (a' := ?_) #[true, true, false, false, false] rfl rfl (by kernel_rfl) (fun _ _ _ h => h) (Or.inl ⟨by rfl, ?_⟩) hHeld ?_ ?_
            rotate_left
            · rintro w' ⟨s0, s1, s2, s3, s4, s5⟩
              go_simp
              with_reducible rfl
            rotate_left
            · simp only [Act.put, List.setIfInBounds_toArray, List.set_cons_zero, List.set_cons_succ, i64_w, i32_w]
              rfl
            refine one_ (i := 2) (N := some 43) #[true, true, true, false, false] rfl rfl (by kernel_rfl) (by decide) (fun K hK => ?_)
            refine goes_ Try.func25 (by kernel_rfl) rfl #[.agg #[.int .i64 a0_0, .int .i64 a0_1, .slice A0_2 l0_2.length c0_2]] (by rfl) rfl rfl (by (try simp only [List.map_toArray, List.map_cons, List.map_nil]); first | done | rfl | (simp only [List.length_drop, List.length_take]; rfl)) ?_
            with_reducible refine (laws_toPuzzle.calls kj10 a0_0 a0_1 _ _ l0_2 t701 t702 t703 _ ?side1 ?side2 A33.out).mono ?_
            (case side1 => repeat (first | exact (Kd.C_below HR0_2.out HB.out) | (with_reducible refine Kd.C_alloc ?_ _) | (with_reducible refine Kd.C_drewN ?_ _) | (with_reducible refine Kd.C_drew ?_)))
            (case side2 => exact HC0_2.out)
            rintro e w39 ⟨v704, rfl, ho0, hb⟩
            refine ⟨_, rfl, ?_⟩
            have n0_ := Aside0.mk (Kd.R_below (by (with_reducible repeat (first | apply Kd.R_alloc | apply Kd.R_drewN | apply Kd.R_drew)); exact HO_4.out) hb)
            have n1_ := Aside0.mk (Kd.R_below (by (with_reducible repeat (first | apply Kd.R_alloc | apply Kd.R_drewN | apply Kd.R_drew)); exact HO_7.out) hb)
            have n2_ := Aside0.mk (Kd.R_elder' (by (with_reducible repeat (first | apply Kd.R_alloc | apply Kd.R_drewN | apply Kd.R_drew)); exact HO_696002.out) (Kd.R_base ho0) hb)
            have n3_ := Aside0.mk (Kd.R_lower (Kd.R_new' ho0 (Kd.R_lt (by (with_reducible repeat (first | apply Kd.R_alloc | apply Kd.R_drewN | apply Kd.R_drew)); exact HO_696002.out))) (below_size (by repeat (first | (with_reducible first | exact HB.out | apply below_alloc | apply pw_below_drewN | apply below_drew1 | refine below_set ?_ GE679.out | refine below_set ?_ GE695.out) | exact HB.out))))
            have n4_ := Aside0.mk (blk_below (g := gb679) (o := .cells #[.int .i64 a0_0, .int .i64 a0_1, .slice A0_2 l0_2.length c0_2] 43 (0, 0)) (by (with_reducible repeat (first | refine blk_drewN ?_ _ | refine blk_drew ?_ | refine blk_alloc ?_ _)); exact BK679.out) hb)
            have n5_ := Aside0.mk (blk_below (g := gb695) (o := .cells #[.int .i64 t690, .int .i64 t691, .slice Ao24 t692.length co24] 35 (0, 0)) (by (with_reducible repeat (first | refine blk_drewN ?_ _ | refine blk_drew ?_ | refine blk_alloc ?_ _)); exact BK695.out) hb)
            have n6_ := Aside0.mk (below_step (by repeat (first | (with_reducible first | exact HB.out | apply below_alloc | apply pw_below_drewN | apply below_drew1 | refine below_set ?_ GE679.out | refine below_set ?_ GE695.out) | exact HB.out)) hb)
            clear HO_4
            clear HO_7
            clear HO_696002
            clear BK679
            clear BK695
            clear HB
            have HO_4 := n0_
            have HO_7 := n1_
            have HO_696002 := n2_
            have HO705 := n3_
            have BK679 := n4_
            have BK695 := n5_
            have HB := n6_
            clear n0_ n1_ n2_ n3_ n4_ n5_ n6_
            (try clear hb)
            (try clear hb2)
            (try clear hk)
            (try clear hi)
            (try clear ho0)
            obtain ⟨Ao40, co40, eo40⟩ := Kd.R_slice HO705.out
            (first | subst eo40 | (injection eo40 with f1_ f2_ f3_; have f4_ := f1_.symm; have f5_ := f3_.symm; clear f1_ f2_ f3_; subst f4_; subst f5_))
            refine hK.out _ _ ⟨(blk_cell BK695.out 0).trans rfl, (blk_cell BK695.out 1).trans rfl, (blk_cell BK695.out 2).trans rfl, (blk_cell BK679.out 0).trans rfl, (blk_cell BK679.out 1).trans rfl, (blk_cell BK679.out 2).trans rfl⟩ (fun hHeld => ?_)
            clear hK K
            refine norm_ (a' := ?_) ?_ ?_
            rotate_left
            · show Act.put _ (some 43) _ = _
              simp only [Act.put, List.setIfInBounds_toArray, List.set_cons_zero, List.set_cons_succ, i64_w, i32_w]
              rfl
            refine one_ (i := 3) (N := some 44) #[true, true, true, true, false] rfl rfl (by kernel_rfl) (by decide) (fun K hK => ?_)
            refine goes_ Try.func20 (by kernel_rfl) rfl #[.agg #[.int .i64 t690, .int .i64 t691, .slice Ao24 t692.length co24], .agg #[.int .i64 t701, .int .i64 t702, .slice Ao40 t703.length co40]] (by rfl) rfl rfl (by (try simp only [List.map_toArray, List.map_cons, List.map_nil]); first | done | rfl | (simp only [List.length_drop, List.length_take]; rfl)) ?_
            with_reducible refine (laws_eqPuzzle.calls kj10 t690 t691 _ _ t692 t701 t702 _ _ t703 true _ ?side1 ?side2 ?side3 ?side4 A34.out).mono ?_
            (case side1 => repeat (first | exact (Kd.R_reads' HO_696002.out).2.2 | (with_reducible refine Kd.C_alloc ?_ _) | (with_reducible refine Kd.C_drewN ?_ _) | (with_reducible refine Kd.C_drew ?_)))
            (case side2 => exact (Kd.R_reads' HO_696002.out).2.1)
            (case side3 => repeat (first | exact (Kd.R_reads' HO705.out).2.2 | (with_reducible refine Kd.C_alloc ?_ _) | (with_reducible refine Kd.C_drewN ?_ _) | (with_reducible refine Kd.C_drew ?_)))
            (case side4 => exact (Kd.R_reads' HO705.out).2.1)
            rintro e w41 ⟨rfl, hb⟩
            refine ⟨_, rfl, ?_⟩
            have n0_ := Aside0.mk (Kd.R_below (by (with_reducible repeat (first | apply Kd.R_alloc | apply Kd.R_drewN | apply Kd.R_drew)); exact HO_4.out) hb)
            have n1_ := Aside0.mk (Kd.R_below (by (with_reducible repeat (first | apply Kd.R_alloc | apply Kd.R_drewN | apply Kd.R_drew)); exact HO_7.out) hb)
            have n2_ := Aside0.mk (Kd.R_below (by (with_reducible repeat (first | apply Kd.R_alloc | apply Kd.R_drewN | apply Kd.R_drew)); exact HO_696002.out) hb)
            have n3_ := Aside0.mk (Kd.R_below (by (with_reducible repeat (first | apply Kd.R_alloc | apply Kd.R_drewN | apply Kd.R_drew)); exact HO705.out) hb)
            have n4_ := Aside0.mk (blk_below (g := gb679) (o := .cells #[.int .i64 a0_0, .int .i64 a0_1, .slice A0_2 l0_2.length c0_2] 43 (0, 0)) (by (with_reducible repeat (first | refine blk_drewN ?_ _ | refine blk_drew ?_ | refine blk_alloc ?_ _)); exact BK679.out) hb)
            have n5_ := Aside0.mk (blk_below (g := gb695) (o := .cells #[.int .i64 t690, .int .i64 t691, .slice Ao24 t692.length co24] 35 (0, 0)) (by (with_reducible repeat (first | refine blk_drewN ?_ _ | refine blk_drew ?_ | refine blk_alloc ?_ _)); exact BK695.out) hb)
            have n6_ := Aside0.mk (below_step (by repeat (first | (with_reducible first | exact HB.out | apply below_alloc | apply pw_below_drewN | apply below_drew1 | refine below_set ?_ GE679.out | refine below_set ?_ GE695.out) | exact HB.out)) hb)
            clear HO_4
            clear HO_7
            clear HO_696002
            clear HO705
            clear BK679
            clear BK695
            clear HB
            have HO_4 := n0_
            have HO_7 := n1_
            have HO_696002 := n2_
            have HO705 := n3_
            have BK679 := n4_
            have BK695 := n5_
            have HB := n6_
            clear n0_ n1_ n2_ n3_ n4_ n5_ n6_
            (try clear hb)
            (try clear hb2)
            (try clear hk)
            (try clear hi)
            refine hK.out _ _ ⟨(blk_cell BK695.out 0).trans rfl, (blk_cell BK695.out 1).trans rfl, (blk_cell BK695.out 2).trans rfl, (blk_cell BK679.out 0).trans rfl, (blk_cell BK679.out 1).trans rfl, (blk_cell BK679.out 2).trans rfl⟩ (fun hHeld => ?_)
            clear hK K
            refine norm_ (a' := ?_) ?_ ?_
            rotate_left
            · show Act.put _ (some 44) _ = _
              simp only [Act.put, List.setIfInBounds_toArray, List.set_cons_zero, List.set_cons_succ, i64_w, i32_w]
              rfl
            refine pure_ (i := 4) (N := some 45) (v := ?_) (a' := ?_) #[true, true, true, true, true] rfl rfl (by kernel_rfl) (fun _ _ _ h => h) (Or.inl ⟨by rfl, ?_⟩) ?_ ?_
            rotate_left
            · intro w'
              go_simp
              with_reducible rfl
            rotate_left
            · simp only [Act.put, List.setIfInBounds_toArray, List.set_cons_zero, List.set_cons_succ, i64_w, i32_w]
              rfl
            refine done_ (by kernel_rfl) ?_
            have hnb42 := NB695_679.out
            have hnc42 := NB679_695.out
            have hcz43_0 : w41.cell? ⟨gb695, 0, none⟩ = some (.int .i64 t690) := (blk_cell BK695.out 0).trans rfl
            have hcz43_1 : w41.cell? ⟨gb695, 1, none⟩ = some (.int .i64 t691) := (blk_cell BK695.out 1).trans rfl
            have hcz43_2 : w41.cell? ⟨gb695, 2, none⟩ = some (.slice Ao24 t692.length co24) := (blk_cell BK695.out 2).trans rfl
            have hfz43_0 := blk_frozen BK695.out 0
            have hfz43_1 := blk_frozen BK695.out 1
            have hfz43_2 := blk_frozen BK695.out 2
            go_upto_region 14 with (first | ((with_reducible refine gate_callee (f := 21) rfl ?_); refine goesL_ (some 48) rfl rfl Try.func21 (by kernel_rfl) rfl #[.agg #[.int .i64 t690, .int .i64 t691, .slice Ao24 t692.length co24], .int .i64 1] rfl (by (try simp only [List.map_toArray, List.map_cons, List.map_nil]); first | done | rfl | (simp only [List.length_drop, List.length_take]; rfl)) ?_; (with_reducible refine (laws_markPuzzle.calls kj10 t690 t691 (fun k_ => some k_ = (.slice Ao24 t692.length co24 : Value).ownBlock) (.slice Ao24 t692.length co24) t692 1 t707 t708 w _ ?side1 ?side2 A36.out).mono ?_); (case side1 => repeat (first | (with_reducible first | exact HB.out | apply below_alloc | apply pw_below_drewN | apply below_drew1 | refine below_set ?_ GE679.out | refine below_set ?_ GE695.out) | exact HB.out)); (case side2 => exact Kd.R_tight rfl HO_696002.out); rintro e w44 ⟨rfl, hy0, hb, hkp⟩; refine ⟨_, rfl, ?_⟩; have n0_ := Aside0.mk (Kd.R_mono (ok' := fun k_ => some k_ ≠ (v697 : Value).ownBlock) (Kd.R_keptB ((Kd.R_apart' HO_4.out (Kd.R_typed HO_696002.out) (by decide))) hkp (fun k_ hk_ hs_ => (hk_.2) hs_)) (fun k_ hk_ => hk_.1.1)); have n1_ := Aside0.mk (Kd.R_mono (ok' := fun k_ => some k_ ≠ (v687 : Value).ownBlock) (Kd.R_keptB ((Kd.R_apart' HO_7.out (Kd.R_typed HO_696002.out) (by decide))) hkp (fun k_ hk_ hs_ => (hk_.2) hs_)) (fun k_ hk_ => hk_.1.1)); have n2_ := Aside0.mk (Kd.R_reok rfl hy0 (fun k_ e_ => HO_696002.out.1 k_ e_)); have n3_ := Aside0.mk (blk_kept (by (with_reducible repeat (first | refine blk_drewN ?_ _ | refine blk_drew ?_ | refine blk_alloc ?_ _)); exact BK679.out) hkp (fun hs_ => (fun e_ => (Kd.R_ne HO_696002.out BK679.out (by decide)) e_) hs_)); have n4_ := Aside0.mk (blk_kept (by (with_reducible repeat (first | refine blk_drewN ?_ _ | refine blk_drew ?_ | refine blk_alloc ?_ _)); exact BK695.out) hkp (fun hs_ => (fun e_ => (Kd.R_ne HO_696002.out BK695.out (by decide)) e_) hs_)); have n5_ := Aside0.mk (Kd.R_mono (ok' := fun k_ => some k_ ≠ (.slice Ao24 t692.length co24 : Value).ownBlock) (Kd.R_keptB (HO705.out) hkp (fun k_ hk_ hs_ => (hk_.2) hs_)) (fun k_ hk_ => hk_.1.2)); have n6_ := Aside0.mk (hb); clear HO_4; clear HO_7; clear HO_696002; clear BK679; clear BK695; clear HO705; clear HB; have HO_4 := n0_; have HO_7 := n1_; have HO_696002 := n2_; have BK679 := n3_; have BK695 := n4_; have HO705 := n5_; have HB := n6_; clear n0_ n1_ n2_ n3_ n4_ n5_ n6_; (try clear hb); (try clear hkp); (try clear hy0)))
            (try simp only [Act.put, List.setIfInBounds_toArray, List.set_cons_zero, List.set_cons_succ])
            go_cut [61] (fun v61 wc => ∃ (kq : Nat) (x61_36 : Bool), v61 = .bool x61_36 ∧ Aside0 (laws_FnExactSolutions.j1 kq t686 t689 t696 x61_36 a0_0 a0_1 l0_2 = some r) ∧ Aside0 (kq ≤ kj10) ∧ Aside0 (Kd.R Kd.string 9 wc w.heap.size (fun k_ => some k_ ≠ (v697 : Value).ownBlock) v687 t686) ∧ Aside0 (Kd.R Kd.string 9 wc w.heap.size (fun k_ => some k_ ≠ (v687 : Value).ownBlock) v697 t696) ∧ Aside0 (Kd.R k30 30 wc w.heap.size (fun _ => True) (.slice Ao24 t692.length co24) t708) ∧ Aside0 (wc.heap[gb679]? = some (.cells #[.int .i64 a0_0, .int .i64 a0_1, (.slice A0_2 l0_2.length c0_2)] 43 (0, 0))) ∧ Aside0 (wc.heap[gb695]? = some (.cells #[.int .i64 t690, .int .i64 t691, (.slice Ao24 t692.length co24)] 35 (0, 0))) ∧ Aside0 (Below w.heap.size w wc))
            case first =>
              have H := HC37.out
              clear HC37
              by_cases c45 : t707 < 0
              · rw [if_pos c45] at H
                have c45b0 : decide (t707 < 0) = true := decide_eq_true c45
                clear c45
                (first | rw [c45b0] | (simp only [i64_w, i32_w]; rw [c45b0]) | skip)
                have H' := Aside0.mk H
                clear H
                go_wp2
                go_meet
                case rel => exact ⟨_, (true), (by first | rfl | (simp; done) | (simp [*]; done)), H', ⟨by have := HJ10.out; first | omega | exact Nat.le_refl _⟩, ⟨by (with_reducible repeat (first | apply Kd.R_alloc | apply Kd.R_drewN | apply Kd.R_drew)); exact HO_4.out⟩, ⟨by (with_reducible repeat (first | apply Kd.R_alloc | apply Kd.R_drewN | apply Kd.R_drew)); exact HO_7.out⟩, ⟨by (with_reducible repeat (first | apply Kd.R_alloc | apply Kd.R_drewN | apply Kd.R_drew)); exact Kd.R_mono HO_696002.out (fun _ hk => trivial)⟩, ⟨by (with_reducible repeat (first | refine blk_drewN ?_ _ | refine blk_drew ?_ | refine blk_alloc ?_ _)); exact BK679.out⟩, ⟨by (with_reducible repeat (first | refine blk_drewN ?_ _ | refine blk_drew ?_ | refine blk_alloc ?_ _)); exact BK695.out⟩, ⟨by repeat (first | (with_reducible first | exact HB.out | apply below_alloc | apply pw_below_drewN | apply below_drew1 | refine below_set ?_ GE679.out | refine below_set ?_ GE695.out) | exact HB.out)⟩⟩
              · rw [if_neg c45] at H
                have c45b0 : decide (t707 < 0) = false := decide_eq_false c45
                clear c45
                (first | rw [c45b0] | (simp only [i64_w, i32_w]; rw [c45b0]) | skip)
                replace H := Option.bind_eq_some_iff.mp H
                obtain ⟨t709, A460, H⟩ := H
                replace H : (if t709 = true then (laws_FnExactSolutions.j1 kj10 t686 t689 t696 (t699 != t689) a0_0 a0_1 l0_2) else (laws_FnExactSolutions.j1 kj10 t686 t689 t696 true a0_0 a0_1 l0_2)) = some r := H
                have A46 := Aside0.mk A460
                clear A460
                by_cases c47 : t709 = true
                · subst c47
                  have H1 : (laws_FnExactSolutions.j1 kj10 t686 t689 t696 (t699 != t689) a0_0 a0_1 l0_2) = some r := by rw [if_pos rfl] at H; exact H
                  clear H
                  have H := H1
                  clear H1
                  have H' := Aside0.mk H
                  clear H
                  obtain ⟨Ao48, co48, eo48⟩ := Kd.R_slice HO_7.out
                  subst eo48
                  obtain ⟨Ao49, co49, eo49⟩ := Kd.R_slice HO_4.out
                  subst eo49
                  go_wp2_with (first | (go_at_call 42; (with_reducible refine (laws_eqStringS.calls kj10 _ _ t696 _ _ t686 true _ ?side1 ?side2 ?side3 ?side4 A46.out).mono ?_); (case side1 => repeat (first | exact (Kd.R_reads' HO_7.out).2.2 | (with_reducible refine Kd.C_alloc ?_ _) | (with_reducible refine Kd.C_drewN ?_ _) | (with_reducible refine Kd.C_drew ?_))); (case side2 => exact (Kd.R_reads' HO_7.out).2.1); (case side3 => repeat (first | exact (Kd.R_reads' HO_4.out).2.2 | (with_reducible refine Kd.C_alloc ?_ _) | (with_reducible refine Kd.C_drewN ?_ _) | (with_reducible refine Kd.C_drew ?_))); (case side4 => exact (Kd.R_reads' HO_4.out).2.1); rintro e w' ⟨rfl, ⟨nd, rfl⟩⟩))
                  go_meet
                  case rel => exact ⟨_, ((t699 != t689)), (by first | rfl | (simp; done) | (simp [*]; done)), H', ⟨by have := HJ10.out; first | omega | exact Nat.le_refl _⟩, ⟨by (with_reducible repeat (first | apply Kd.R_alloc | apply Kd.R_drewN | apply Kd.R_drew)); exact HO_4.out⟩, ⟨by (with_reducible repeat (first | apply Kd.R_alloc | apply Kd.R_drewN | apply Kd.R_drew)); exact HO_7.out⟩, ⟨by (with_reducible repeat (first | apply Kd.R_alloc | apply Kd.R_drewN | apply Kd.R_drew)); exact Kd.R_mono HO_696002.out (fun _ hk => trivial)⟩, ⟨by (with_reducible repeat (first | refine blk_drewN ?_ _ | refine blk_drew ?_ | refine blk_alloc ?_ _)); exact BK679.out⟩, ⟨by (with_reducible repeat (first | refine blk_drewN ?_ _ | refine blk_drew ?_ | refine blk_alloc ?_ _)); exact BK695.out⟩, ⟨by repeat (first | (with_reducible first | exact HB.out | apply below_alloc | apply pw_below_drewN | apply below_drew1 | refine below_set ?_ GE679.out | refine below_set ?_ GE695.out) | exact HB.out)⟩⟩
                · replace c47 := Bool.eq_false_iff.mpr c47
                  subst c47
                  have H1 : (laws_FnExactSolutions.j1 kj10 t686 t689 t696 true a0_0 a0_1 l0_2) = some r := by rw [if_neg (show ¬ (false = true) by decide)] at H; exact H
                  clear H
                  have H := H1
                  clear H1
                  have H' := Aside0.mk H
                  clear H
                  obtain ⟨Ao50, co50, eo50⟩ := Kd.R_slice HO_7.out
                  subst eo50
                  obtain ⟨Ao51, co51, eo51⟩ := Kd.R_slice HO_4.out
                  subst eo51
                  go_wp2_with (first | (go_at_call 42; (with_reducible refine (laws_eqStringS.calls kj10 _ _ t696 _ _ t686 false _ ?side1 ?side2 ?side3 ?side4 A46.out).mono ?_); (case side1 => repeat (first | exact (Kd.R_reads' HO_7.out).2.2 | (with_reducible refine Kd.C_alloc ?_ _) | (with_reducible refine Kd.C_drewN ?_ _) | (with_reducible refine Kd.C_drew ?_))); (case side2 => exact (Kd.R_reads' HO_7.out).2.1); (case side3 => repeat (first | exact (Kd.R_reads' HO_4.out).2.2 | (with_reducible refine Kd.C_alloc ?_ _) | (with_reducible refine Kd.C_drewN ?_ _) | (with_reducible refine Kd.C_drew ?_))); (case side4 => exact (Kd.R_reads' HO_4.out).2.1); rintro e w' ⟨rfl, ⟨nd, rfl⟩⟩))
                  go_meet
                  case rel => exact ⟨_, (true), (by first | rfl | (simp; done) | (simp [*]; done)), H', ⟨by have := HJ10.out; first | omega | exact Nat.le_refl _⟩, ⟨by (with_reducible repeat (first | apply Kd.R_alloc | apply Kd.R_drewN | apply Kd.R_drew)); exact HO_4.out⟩, ⟨by (with_reducible repeat (first | apply Kd.R_alloc | apply Kd.R_drewN | apply Kd.R_drew)); exact HO_7.out⟩, ⟨by (with_reducible repeat (first | apply Kd.R_alloc | apply Kd.R_drewN | apply Kd.R_drew)); exact Kd.R_mono HO_696002.out (fun _ hk => trivial)⟩, ⟨by (with_reducible repeat (first | refine blk_drewN ?_ _ | refine blk_drew ?_ | refine blk_alloc ?_ _)); exact BK679.out⟩, ⟨by (with_reducible repeat (first | refine blk_drewN ?_ _ | refine blk_drew ?_ | refine blk_alloc ?_ _)); exact BK695.out⟩, ⟨by repeat (first | (with_reducible first | exact HB.out | apply below_alloc | apply pw_below_drewN | apply below_drew1 | refine below_set ?_ GE679.out | refine below_set ?_ GE695.out) | exact HB.out)⟩⟩
            case rest =>
              clear HC37
              try clear c1; try clear c2; try clear p2; try clear c3; try clear c3b0; try clear c4; try clear c11; try clear c20; try clear c21; try clear c22; try clear c23; try clear c25; try clear c27; try clear c32; try clear c35; try clear c40; try clear c41; try clear c42; try clear c45; try clear c45b0; try clear c47; try clear hcz13_0; try clear hcz13_1; try clear hcz13_2; try clear hcz15_0; try clear hcz15_1; try clear hcz15_2; try clear hcz19_0; try clear hcz19_1; try clear hcz19_2; try clear hcz23_0; try clear hcz23_1; try clear hcz23_2; try clear hcz43_0; try clear hcz43_1; try clear hcz43_2; try clear hcz5_0; try clear hcz5_1; try clear hcz5_2; try clear hfz13_0; try clear hfz13_1; try clear hfz13_2; try clear hfz15_0; try clear hfz15_1; try clear hfz15_2; try clear hfz19_0; try clear hfz19_1; try clear hfz19_2; try clear hfz23_0; try clear hfz23_1; try clear hfz23_2; try clear hfz43_0; try clear hfz43_1; try clear hfz43_2; try clear hfz5_0; try clear hfz5_1; try clear hfz5_2; try clear p2
              obtain ⟨kq, x61_36, rfl, HA, HJ36, HO_4, HO_7, HO_696002, BK679, BK695, HB⟩ := hcut
              have hl696002_36 := (Kd.R_reads' HO_696002.out).1
              rw [hl696002_36] at HO_696002
              (try simp only [hl696002_36])
              (try simp only [hl696002_36] at BK679)
              (try simp only [hl696002_36] at BK695)
              (try simp only [hl696002_36] at HO_4)
              (try simp only [hl696002_36] at HO_7)
              cases kq with
              | zero => exact absurd HA.out (by simp [laws_FnExactSolutions.j1])
              | succ kj36 =>
                have H := HA.out
                clear HA
                simp only [laws_FnExactSolutions.j1] at H
                by_cases c52 : x61_36 = true
                · subst c52
                  have H1 : (some false) = some r := by rw [if_pos rfl] at H; exact H
                  clear H
                  have H := H1
                  clear H1
                  obtain rfl := Option.some.inj H
                  go_wp2
                  go_ret
                  exact ⟨by first | rfl | (simp [errW_none, errW_some] <;> rfl) | (simp [*, errW_none, errW_some] <;> rfl), by repeat (first | (with_reducible first | exact HB.out | apply below_alloc | apply pw_below_drewN | apply below_drew1 | refine below_set ?_ GE679.out | refine below_set ?_ GE695.out) | exact HB.out)⟩
                · replace c52 := Bool.eq_false_iff.mpr c52
                  subst c52
                  have H1 : ((laws_markStringS.f kj36 t696 1).bind fun bt710 => ((laws_heldStringS.f kj36 bt710.2 1).bind fun t712 => (if t712 < 0 then (some false) else (if t712 = bt710.1 then ((laws_toPuzzle.f kj36 a0_0 a0_1 l0_2).bind fun bt713 => ((impl_Solutions.f kj36 bt713.1 bt713.2.1 bt713.2.2).bind fun bt718 => ((laws_eqStringS.f kj36 bt718.1 t686).bind fun t722 => (if t722 = true then (laws_FnExactSolutions.j2 kj36 bt710.2 bt710.1 (bt718.2 != t689)) else (laws_FnExactSolutions.j2 kj36 bt710.2 bt710.1 true))))) else (some false))))) = some r := by rw [if_neg (show ¬ (false = true) by decide)] at H; exact H
                  clear H
                  have H := H1
                  clear H1
                  replace H := Option.bind_eq_some_iff.mp H
                  obtain ⟨⟨t710, t711⟩, A530, H⟩ := H
                  replace H : ((laws_heldStringS.f kj36 t711 1).bind fun t712 => (if t712 < 0 then (some false) else (if t712 = t710 then ((laws_toPuzzle.f kj36 a0_0 a0_1 l0_2).bind fun bt713 => ((impl_Solutions.f kj36 bt713.1 bt713.2.1 bt713.2.2).bind fun bt718 => ((laws_eqStringS.f kj36 bt718.1 t686).bind fun t722 => (if t722 = true then (laws_FnExactSolutions.j2 kj36 t711 t710 (bt718.2 != t689)) else (laws_FnExactSolutions.j2 kj36 t711 t710 true))))) else (some false)))) = some r := H
                  have A53 := Aside0.mk A530
                  clear A530
                  replace H := Option.bind_eq_some_iff.mp H
                  obtain ⟨t712, A540, H⟩ := H
                  replace H : (if t712 < 0 then (some false) else (if t712 = t710 then ((laws_toPuzzle.f kj36 a0_0 a0_1 l0_2).bind fun bt713 => ((impl_Solutions.f kj36 bt713.1 bt713.2.1 bt713.2.2).bind fun bt718 => ((laws_eqStringS.f kj36 bt718.1 t686).bind fun t722 => (if t722 = true then (laws_FnExactSolutions.j2 kj36 t711 t710 (bt718.2 != t689)) else (laws_FnExactSolutions.j2 kj36 t711 t710 true))))) else (some false))) = some r := H
                  have A54 := Aside0.mk A540
                  clear A540
                  by_cases c55 : t712 < 0
                  · rw [if_pos c55] at H
                    have c55b0 : decide (t712 < 0) = true := decide_eq_true c55
                    clear c55
                    obtain rfl := Option.some.inj H
                    obtain ⟨Ao56, co56, eo56⟩ := Kd.R_slice HO_7.out
                    subst eo56
                    go_wp2_with (first | ((with_reducible refine gate_callee (f := 43) rfl ?_); refine goesL_ (some 64) rfl rfl Try.func43 (by kernel_rfl) rfl #[.slice Ao56 t696.length co56, .int .i64 1] rfl (by (try simp only [List.map_toArray, List.map_cons, List.map_nil]); first | done | rfl | (simp only [List.length_drop, List.length_take]; rfl)) ?_; (with_reducible refine (laws_markStringS.calls kj36 (fun k_ => some k_ = (.slice Ao56 t696.length co56 : Value).ownBlock) (.slice Ao56 t696.length co56) t696 1 t710 t711 w _ ?side1 ?side2 A53.out).mono ?_); (case side1 => repeat (first | (with_reducible first | exact HB.out | apply below_alloc | apply pw_below_drewN | apply below_drew1 | refine below_set ?_ GE679.out | refine below_set ?_ GE695.out) | exact HB.out)); (case side2 => exact Kd.R_tight rfl HO_7.out); rintro e w57 ⟨rfl, hy0, hb, hkp⟩; refine ⟨_, rfl, ?_⟩; have n0_ := Aside0.mk (Kd.R_mono (ok' := fun k_ => some k_ ≠ (.slice Ao56 t696.length co56 : Value).ownBlock) (Kd.R_keptB (HO_4.out) hkp (fun k_ hk_ hs_ => (hk_) hs_)) (fun k_ hk_ => hk_.1)); have n1_ := Aside0.mk (Kd.R_reok rfl hy0 (fun k_ e_ => HO_7.out.1 k_ e_)); have n2_ := Aside0.mk (Kd.R_mono (ok' := fun k_ => True) (Kd.R_keptB ((Kd.R_apart' HO_696002.out (Kd.R_typed HO_7.out) (by decide))) hkp (fun k_ hk_ hs_ => (hk_.2) hs_)) (fun k_ hk_ => trivial)); have n3_ := Aside0.mk (blk_kept (by (with_reducible repeat (first | refine blk_drewN ?_ _ | refine blk_drew ?_ | refine blk_alloc ?_ _)); exact BK679.out) hkp (fun hs_ => (fun e_ => (Kd.R_ne HO_7.out BK679.out (by decide)) e_) hs_)); have n4_ := Aside0.mk (blk_kept (by (with_reducible repeat (first | refine blk_drewN ?_ _ | refine blk_drew ?_ | refine blk_alloc ?_ _)); exact BK695.out) hkp (fun hs_ => (fun e_ => (Kd.R_ne HO_7.out BK695.out (by decide)) e_) hs_)); have n5_ := Aside0.mk (hb); clear HO_4; clear HO_7; clear HO_696002; clear BK679; clear BK695; clear HB; have HO_4 := n0_; have HO_7 := n1_; have HO_696002 := n2_; have BK679 := n3_; have BK695 := n4_; have HB := n5_; clear n0_ n1_ n2_ n3_ n4_ n5_; (try clear hb); (try clear hkp); (try clear hy0)) | ((with_reducible refine gate_callee (f := 44) rfl ?_); refine goesL_ (some 67) rfl rfl Try.func44 (by kernel_rfl) rfl #[.slice Ao56 t711.length co56, .int .i64 1] rfl (by (try simp only [List.map_toArray, List.map_cons, List.map_nil]); first | done | (rw [show t711.length = t696.length from (Kd.R_reads' HO_7.out).1.symm] <;> rfl) | rfl | (simp only [List.length_drop, List.length_take]; rfl)) ?_; (with_reducible refine (laws_heldStringS.calls kj36 _ _ t711 1 t712 _ ?side1 ?side2 A54.out).mono ?_); (case side1 => repeat (first | exact (Kd.R_reads' HO_7.out).2.2 | (with_reducible refine Kd.C_alloc ?_ _) | (with_reducible refine Kd.C_drewN ?_ _) | (with_reducible refine Kd.C_drew ?_))); (case side2 => rw [show t711.length = t696.length from (Kd.R_reads' HO_7.out).1.symm]; exact (Kd.R_reads' HO_7.out).2.1); rintro e w58 ⟨rfl, hb⟩; refine ⟨_, rfl, ?_⟩; have n0_ := Aside0.mk (Kd.R_below (by (with_reducible repeat (first | apply Kd.R_alloc | apply Kd.R_drewN | apply Kd.R_drew)); exact HO_4.out) hb); have n1_ := Aside0.mk (Kd.R_below (by (with_reducible repeat (first | apply Kd.R_alloc | apply Kd.R_drewN | apply Kd.R_drew)); exact HO_7.out) hb); have n2_ := Aside0.mk (Kd.R_below (by (with_reducible repeat (first | apply Kd.R_alloc | apply Kd.R_drewN | apply Kd.R_drew)); exact HO_696002.out) hb); have n3_ := Aside0.mk (blk_below (g := gb679) (o := .cells #[.int .i64 a0_0, .int .i64 a0_1, .slice A0_2 l0_2.length c0_2] 43 (0, 0)) (by (with_reducible repeat (first | refine blk_drewN ?_ _ | refine blk_drew ?_ | refine blk_alloc ?_ _)); exact BK679.out) hb); have n4_ := Aside0.mk (blk_below (g := gb695) (o := .cells #[.int .i64 t690, .int .i64 t691, .slice Ao24 t708.length co24] 35 (0, 0)) (by (with_reducible repeat (first | refine blk_drewN ?_ _ | refine blk_drew ?_ | refine blk_alloc ?_ _)); exact BK695.out) hb); have n5_ := Aside0.mk (below_step (by repeat (first | (with_reducible first | exact HB.out | apply below_alloc | apply pw_below_drewN | apply below_drew1 | refine below_set ?_ GE679.out | refine below_set ?_ GE695.out) | exact HB.out)) hb); clear HO_4; clear HO_7; clear HO_696002; clear BK679; clear BK695; clear HB; have HO_4 := n0_; have HO_7 := n1_; have HO_696002 := n2_; have BK679 := n3_; have BK695 := n4_; have HB := n5_; clear n0_ n1_ n2_ n3_ n4_ n5_; (try clear hb); (try clear hb2); (try clear hk); (try clear hi)))
                    go_ret
                    exact ⟨by first | rfl | (simp [errW_none, errW_some] <;> rfl) | (simp [*, errW_none, errW_some] <;> rfl), by repeat (first | (with_reducible first | exact HB.out | apply below_alloc | apply pw_below_drewN | apply below_drew1 | refine below_set ?_ GE679.out | refine below_set ?_ GE695.out) | exact HB.out)⟩
                  · rw [if_neg c55] at H
                    have c55b0 : decide (t712 < 0) = false := decide_eq_false c55
                    clear c55
                    by_cases c59 : t712 = t710
                    · rw [if_pos c59] at H
                      have c59b0 : (t712 == t710) = true := beq_iff_eq.mpr c59
                      have c59b1 : (t712 != t710) = false := bne_eq_false_iff_eq.mpr c59
                      clear c59
                      replace H := Option.bind_eq_some_iff.mp H
                      obtain ⟨⟨t713, t714, t715⟩, A600, H⟩ := H
                      replace H : ((impl_Solutions.f kj36 t713 t714 t715).bind fun bt718 => ((laws_eqStringS.f kj36 bt718.1 t686).bind fun t722 => (if t722 = true then (laws_FnExactSolutions.j2 kj36 t711 t710 (bt718.2 != t689)) else (laws_FnExactSolutions.j2 kj36 t711 t710 true)))) = some r := H
                      have A60 := Aside0.mk A600
                      clear A600
                      replace H := Option.bind_eq_some_iff.mp H
                      obtain ⟨⟨t718, t721⟩, A610, H⟩ := H
                      replace H : ((laws_eqStringS.f kj36 t718 t686).bind fun t722 => (if t722 = true then (laws_FnExactSolutions.j2 kj36 t711 t710 (t721 != t689)) else (laws_FnExactSolutions.j2 kj36 t711 t710 true))) = some r := H
                      have A61 := Aside0.mk A610
                      clear A610
                      have HC62 := Aside0.mk H
                      clear H
                      obtain ⟨Ao63, co63, eo63⟩ := Kd.R_slice HO_7.out
                      subst eo63
                      go_upto_region 25 with (first | ((with_reducible refine gate_callee (f := 43) rfl ?_); refine goesL_ (some 64) rfl rfl Try.func43 (by kernel_rfl) rfl #[.slice Ao63 t696.length co63, .int .i64 1] rfl (by (try simp only [List.map_toArray, List.map_cons, List.map_nil]); first | done | rfl | (simp only [List.length_drop, List.length_take]; rfl)) ?_; (with_reducible refine (laws_markStringS.calls kj36 (fun k_ => some k_ = (.slice Ao63 t696.length co63 : Value).ownBlock) (.slice Ao63 t696.length co63) t696 1 t710 t711 w _ ?side1 ?side2 A53.out).mono ?_); (case side1 => repeat (first | (with_reducible first | exact HB.out | apply below_alloc | apply pw_below_drewN | apply below_drew1 | refine below_set ?_ GE679.out | refine below_set ?_ GE695.out) | exact HB.out)); (case side2 => exact Kd.R_tight rfl HO_7.out); rintro e w64 ⟨rfl, hy0, hb, hkp⟩; refine ⟨_, rfl, ?_⟩; have n0_ := Aside0.mk (Kd.R_mono (ok' := fun k_ => some k_ ≠ (.slice Ao63 t696.length co63 : Value).ownBlock) (Kd.R_keptB (HO_4.out) hkp (fun k_ hk_ hs_ => (hk_) hs_)) (fun k_ hk_ => hk_.1)); have n1_ := Aside0.mk (Kd.R_reok rfl hy0 (fun k_ e_ => HO_7.out.1 k_ e_)); have n2_ := Aside0.mk (Kd.R_mono (ok' := fun k_ => True) (Kd.R_keptB ((Kd.R_apart' HO_696002.out (Kd.R_typed HO_7.out) (by decide))) hkp (fun k_ hk_ hs_ => (hk_.2) hs_)) (fun k_ hk_ => trivial)); have n3_ := Aside0.mk (blk_kept (by (with_reducible repeat (first | refine blk_drewN ?_ _ | refine blk_drew ?_ | refine blk_alloc ?_ _)); exact BK679.out) hkp (fun hs_ => (fun e_ => (Kd.R_ne HO_7.out BK679.out (by decide)) e_) hs_)); have n4_ := Aside0.mk (blk_kept (by (with_reducible repeat (first | refine blk_drewN ?_ _ | refine blk_drew ?_ | refine blk_alloc ?_ _)); exact BK695.out) hkp (fun hs_ => (fun e_ => (Kd.R_ne HO_7.out BK695.out (by decide)) e_) hs_)); have n5_ := Aside0.mk (hb); clear HO_4; clear HO_7; clear HO_696002; clear BK679; clear BK695; clear HB; have HO_4 := n0_; have HO_7 := n1_; have HO_696002 := n2_; have BK679 := n3_; have BK695 := n4_; have HB := n5_; clear n0_ n1_ n2_ n3_ n4_ n5_; (try clear hb); (try clear hkp); (try clear hy0)) | ((with_reducible refine gate_callee (f := 44) rfl ?_); refine goesL_ (some 67) rfl rfl Try.func44 (by kernel_rfl) rfl #[.slice Ao63 t711.length co63, .int .i64 1] rfl (by (try simp only [List.map_toArray, List.map_cons, List.map_nil]); first | done | (rw [show t711.length = t696.length from (Kd.R_reads' HO_7.out).1.symm] <;> rfl) | rfl | (simp only [List.length_drop, List.length_take]; rfl)) ?_; (with_reducible refine (laws_heldStringS.calls kj36 _ _ t711 1 t712 _ ?side1 ?side2 A54.out).mono ?_); (case side1 => repeat (first | exact (Kd.R_reads' HO_7.out).2.2 | (with_reducible refine Kd.C_alloc ?_ _) | (with_reducible refine Kd.C_drewN ?_ _) | (with_reducible refine Kd.C_drew ?_))); (case side2 => rw [show t711.length = t696.length from (Kd.R_reads' HO_7.out).1.symm]; exact (Kd.R_reads' HO_7.out).2.1); rintro e w65 ⟨rfl, hb⟩; refine ⟨_, rfl, ?_⟩; have n0_ := Aside0.mk (Kd.R_below (by (with_reducible repeat (first | apply Kd.R_alloc | apply Kd.R_drewN | apply Kd.R_drew)); exact HO_4.out) hb); have n1_ := Aside0.mk (Kd.R_below (by (with_reducible repeat (first | apply Kd.R_alloc | apply Kd.R_drewN | apply Kd.R_drew)); exact HO_7.out) hb); have n2_ := Aside0.mk (Kd.R_below (by (with_reducible repeat (first | apply Kd.R_alloc | apply Kd.R_drewN | apply Kd.R_drew)); exact HO_696002.out) hb); have n3_ := Aside0.mk (blk_below (g := gb679) (o := .cells #[.int .i64 a0_0, .int .i64 a0_1, .slice A0_2 l0_2.length c0_2] 43 (0, 0)) (by (with_reducible repeat (first | refine blk_drewN ?_ _ | refine blk_drew ?_ | refine blk_alloc ?_ _)); exact BK679.out) hb); have n4_ := Aside0.mk (blk_below (g := gb695) (o := .cells #[.int .i64 t690, .int .i64 t691, .slice Ao24 t708.length co24] 35 (0, 0)) (by (with_reducible repeat (first | refine blk_drewN ?_ _ | refine blk_drew ?_ | refine blk_alloc ?_ _)); exact BK695.out) hb); have n5_ := Aside0.mk (below_step (by repeat (first | (with_reducible first | exact HB.out | apply below_alloc | apply pw_below_drewN | apply below_drew1 | refine below_set ?_ GE679.out | refine below_set ?_ GE695.out) | exact HB.out)) hb); clear HO_4; clear HO_7; clear HO_696002; clear BK679; clear BK695; clear HB; have HO_4 := n0_; have HO_7 := n1_; have HO_696002 := n2_; have BK679 := n3_; have BK695 := n4_; have HB := n5_; clear n0_ n1_ n2_ n3_ n4_ n5_; (try clear hb); (try clear hb2); (try clear hk); (try clear hi); have hnb66 := NB679_695.out; have hnc66 := NB695_679.out; have hcz67_0 : w65.cell? ⟨gb679, 0, none⟩ = some (.int .i64 a0_0) := (blk_cell BK679.out 0).trans rfl; have hcz67_1 : w65.cell? ⟨gb679, 1, none⟩ = some (.int .i64 a0_1) := (blk_cell BK679.out 1).trans rfl; have hcz67_2 : w65.cell? ⟨gb679, 2, none⟩ = some (.slice A0_2 l0_2.length c0_2) := (blk_cell BK679.out 2).trans rfl; have hfz67_0 := blk_frozen BK679.out 0; have hfz67_1 := blk_frozen BK679.out 1; have hfz67_2 := blk_frozen BK679.out 2) | ((with_reducible refine gate_callee (f := 25) rfl ?_); refine goesL_ (some 75) rfl rfl Try.func25 (by kernel_rfl) rfl #[.agg #[.int .i64 a0_0, .int .i64 a0_1, .slice A0_2 l0_2.length c0_2]] rfl (by (try simp only [List.map_toArray, List.map_cons, List.map_nil]); first | done | rfl | (simp only [List.length_drop, List.length_take]; rfl)) ?_; (with_reducible refine (laws_toPuzzle.calls kj36 a0_0 a0_1 _ _ l0_2 t713 t714 t715 _ ?side1 ?side2 A60.out).mono ?_); (case side1 => repeat (first | exact (Kd.C_below HR0_2.out HB.out) | (with_reducible refine Kd.C_alloc ?_ _) | (with_reducible refine Kd.C_drewN ?_ _) | (with_reducible refine Kd.C_drew ?_))); (case side2 => exact HC0_2.out); rintro e w68 ⟨v716, rfl, ho0, hb⟩; refine ⟨_, rfl, ?_⟩; have n0_ := Aside0.mk (Kd.R_below (by (with_reducible repeat (first | apply Kd.R_alloc | apply Kd.R_drewN | apply Kd.R_drew)); exact HO_4.out) hb); have n1_ := Aside0.mk (Kd.R_below (by (with_reducible repeat (first | apply Kd.R_alloc | apply Kd.R_drewN | apply Kd.R_drew)); exact HO_7.out) hb); have n2_ := Aside0.mk (Kd.R_elder' (by (with_reducible repeat (first | apply Kd.R_alloc | apply Kd.R_drewN | apply Kd.R_drew)); exact HO_696002.out) (Kd.R_base ho0) hb); have n3_ := Aside0.mk (Kd.R_lower (Kd.R_new' ho0 (Kd.R_lt (by (with_reducible repeat (first | apply Kd.R_alloc | apply Kd.R_drewN | apply Kd.R_drew)); exact HO_696002.out))) (below_size (by repeat (first | (with_reducible first | exact HB.out | apply below_alloc | apply pw_below_drewN | apply below_drew1 | refine below_set ?_ GE679.out | refine below_set ?_ GE695.out) | exact HB.out)))); have n4_ := Aside0.mk (blk_below (g := gb679) (o := .cells #[.int .i64 a0_0, .int .i64 a0_1, .slice A0_2 l0_2.length c0_2] 43 (0, 0)) (by (with_reducible repeat (first | refine blk_drewN ?_ _ | refine blk_drew ?_ | refine blk_alloc ?_ _)); exact BK679.out) hb); have n5_ := Aside0.mk (blk_below (g := gb695) (o := .cells #[.int .i64 t690, .int .i64 t691, .slice Ao24 t708.length co24] 35 (0, 0)) (by (with_reducible repeat (first | refine blk_drewN ?_ _ | refine blk_drew ?_ | refine blk_alloc ?_ _)); exact BK695.out) hb); have n6_ := Aside0.mk (below_step (by repeat (first | (with_reducible first | exact HB.out | apply below_alloc | apply pw_below_drewN | apply below_drew1 | refine below_set ?_ GE679.out | refine below_set ?_ GE695.out) | exact HB.out)) hb); clear HO_4; clear HO_7; clear HO_696002; clear BK679; clear BK695; clear HB; have HO_4 := n0_; have HO_7 := n1_; have HO_696002 := n2_; have HO717 := n3_; have BK679 := n4_; have BK695 := n5_; have HB := n6_; clear n0_ n1_ n2_ n3_ n4_ n5_ n6_; (try clear hb); (try clear hb2); (try clear hk); (try clear hi); (try clear ho0); obtain ⟨Ao69, co69, eo69⟩ := Kd.R_slice HO717.out; subst eo69) | ((with_reducible refine gate_callee (f := 41) rfl ?_); refine goesL_ (some 76) rfl rfl Try.func41 (by kernel_rfl) rfl #[.agg #[.int .i64 t713, .int .i64 t714, .slice Ao69 t715.length co69]] rfl (by (try simp only [List.map_toArray, List.map_cons, List.map_nil]); first | done | rfl | (simp only [List.length_drop, List.length_take]; rfl)) ?_; (with_reducible refine (impl_Solutions.calls kj36 t713 t714 _ _ t715 t718 t721 _ ?side1 ?side2 A61.out).mono ?_); (case side1 => repeat (first | exact (Kd.R_reads' HO717.out).2.2 | (with_reducible refine Kd.C_alloc ?_ _) | (with_reducible refine Kd.C_drewN ?_ _) | (with_reducible refine Kd.C_drew ?_))); (case side2 => exact (Kd.R_reads' HO717.out).2.1); rintro e w70 ⟨v719, rfl, ho0, hb⟩; refine ⟨_, rfl, ?_⟩; have n0_ := Aside0.mk (Kd.R_elder' (by (with_reducible repeat (first | apply Kd.R_alloc | apply Kd.R_drewN | apply Kd.R_drew)); exact HO_4.out) (Kd.R_base ho0) hb); have n1_ := Aside0.mk (Kd.R_elder' (by (with_reducible repeat (first | apply Kd.R_alloc | apply Kd.R_drewN | apply Kd.R_drew)); exact HO_7.out) (Kd.R_base ho0) hb); have n2_ := Aside0.mk (Kd.R_below (by (with_reducible repeat (first | apply Kd.R_alloc | apply Kd.R_drewN | apply Kd.R_drew)); exact HO_696002.out) hb); have n3_ := Aside0.mk (Kd.R_below (by (with_reducible repeat (first | apply Kd.R_alloc | apply Kd.R_drewN | apply Kd.R_drew)); exact HO717.out) hb); have n4_ := Aside0.mk (Kd.R_lower (Kd.R_new' (Kd.R_new' ho0 (Kd.R_lt (by (with_reducible repeat (first | apply Kd.R_alloc | apply Kd.R_drewN | apply Kd.R_drew)); exact HO_4.out))) (Kd.R_lt (by (with_reducible repeat (first | apply Kd.R_alloc | apply Kd.R_drewN | apply Kd.R_drew)); exact HO_7.out))) (below_size (by repeat (first | (with_reducible first | exact HB.out | apply below_alloc | apply pw_below_drewN | apply below_drew1 | refine below_set ?_ GE679.out | refine below_set ?_ GE695.out) | exact HB.out)))); have n5_ := Aside0.mk (blk_below (g := gb679) (o := .cells #[.int .i64 a0_0, .int .i64 a0_1, .slice A0_2 l0_2.length c0_2] 43 (0, 0)) (by (with_reducible repeat (first | refine blk_drewN ?_ _ | refine blk_drew ?_ | refine blk_alloc ?_ _)); exact BK679.out) hb); have n6_ := Aside0.mk (blk_below (g := gb695) (o := .cells #[.int .i64 t690, .int .i64 t691, .slice Ao24 t708.length co24] 35 (0, 0)) (by (with_reducible repeat (first | refine blk_drewN ?_ _ | refine blk_drew ?_ | refine blk_alloc ?_ _)); exact BK695.out) hb); have n7_ := Aside0.mk (below_step (by repeat (first | (with_reducible first | exact HB.out | apply below_alloc | apply pw_below_drewN | apply below_drew1 | refine below_set ?_ GE679.out | refine below_set ?_ GE695.out) | exact HB.out)) hb); clear HO_4; clear HO_7; clear HO_696002; clear HO717; clear BK679; clear BK695; clear HB; have HO_4 := n0_; have HO_7 := n1_; have HO_696002 := n2_; have HO717 := n3_; have HO720 := n4_; have BK679 := n5_; have BK695 := n6_; have HB := n7_; clear n0_ n1_ n2_ n3_ n4_ n5_ n6_ n7_; (try clear hb); (try clear hb2); (try clear hk); (try clear hi); (try clear ho0)))
                      (try simp only [Act.put, List.setIfInBounds_toArray, List.set_cons_zero, List.set_cons_succ])
                      go_cut [87] (fun v87 wc => ∃ (kq : Nat) (x87_61 : Bool), v87 = .bool x87_61 ∧ Aside0 (laws_FnExactSolutions.j2 kq t711 t710 x87_61 = some r) ∧ Aside0 (kq ≤ kj36) ∧ Aside0 (Kd.R Kd.string 9 wc w.heap.size (fun _ => True) (.slice Ao63 t696.length co63) t711) ∧ Aside0 (Kd.R k30 30 wc w.heap.size (fun _ => True) (.slice Ao24 t708.length co24) t708) ∧ Aside0 (wc.heap[gb679]? = some (.cells #[.int .i64 a0_0, .int .i64 a0_1, (.slice A0_2 l0_2.length c0_2)] 43 (0, 0))) ∧ Aside0 (wc.heap[gb695]? = some (.cells #[.int .i64 t690, .int .i64 t691, (.slice Ao24 t708.length co24)] 35 (0, 0))) ∧ Aside0 (Below w.heap.size w wc))
                      case first =>
                        have H := HC62.out
                        clear HC62
                        replace H := Option.bind_eq_some_iff.mp H
                        obtain ⟨t722, A710, H⟩ := H
                        replace H : (if t722 = true then (laws_FnExactSolutions.j2 kj36 t711 t710 (t721 != t689)) else (laws_FnExactSolutions.j2 kj36 t711 t710 true)) = some r := H
                        have A71 := Aside0.mk A710
                        clear A710
                        by_cases c72 : t722 = true
                        · subst c72
                          have H1 : (laws_FnExactSolutions.j2 kj36 t711 t710 (t721 != t689)) = some r := by rw [if_pos rfl] at H; exact H
                          clear H
                          have H := H1
                          clear H1
                          have H' := Aside0.mk H
                          clear H
                          obtain ⟨Ao73, co73, eo73⟩ := Kd.R_slice HO720.out
                          subst eo73
                          obtain ⟨Ao74, co74, eo74⟩ := Kd.R_slice HO_4.out
                          subst eo74
                          go_wp2_with (first | ((with_reducible refine gate_callee (f := 42) rfl ?_); refine goesL_ (some 81) rfl rfl Try.func42 (by kernel_rfl) rfl #[.slice Ao73 t718.length co73, .slice Ao74 t686.length co74] rfl (by (try simp only [List.map_toArray, List.map_cons, List.map_nil]); first | done | rfl | (simp only [List.length_drop, List.length_take]; rfl)) ?_; (with_reducible refine (laws_eqStringS.calls kj36 _ _ t718 _ _ t686 true _ ?side1 ?side2 ?side3 ?side4 A71.out).mono ?_); (case side1 => repeat (first | exact (Kd.R_reads' HO720.out).2.2 | (with_reducible refine Kd.C_alloc ?_ _) | (with_reducible refine Kd.C_drewN ?_ _) | (with_reducible refine Kd.C_drew ?_))); (case side2 => exact (Kd.R_reads' HO720.out).2.1); (case side3 => repeat (first | exact (Kd.R_reads' HO_4.out).2.2 | (with_reducible refine Kd.C_alloc ?_ _) | (with_reducible refine Kd.C_drewN ?_ _) | (with_reducible refine Kd.C_drew ?_))); (case side4 => exact (Kd.R_reads' HO_4.out).2.1); rintro e w' ⟨rfl, ⟨nd, rfl⟩⟩; refine ⟨_, rfl, ?_⟩))
                          go_meet
                          case rel => exact ⟨_, ((t721 != t689)), (by first | rfl | (simp; done) | (simp [*]; done)), H', ⟨by have := HJ10.out; have := HJ36.out; first | omega | exact Nat.le_refl _⟩, ⟨by (try simp only [hl696002_36]); (with_reducible repeat (first | apply Kd.R_alloc | apply Kd.R_drewN | apply Kd.R_drew)); exact Kd.R_mono HO_7.out (fun _ hk => trivial)⟩, ⟨by (try simp only [hl696002_36]); (with_reducible repeat (first | apply Kd.R_alloc | apply Kd.R_drewN | apply Kd.R_drew)); exact Kd.R_mono HO_696002.out (fun _ hk => trivial)⟩, ⟨by (try simp only [hl696002_36]); (with_reducible repeat (first | refine blk_drewN ?_ _ | refine blk_drew ?_ | refine blk_alloc ?_ _)); exact BK679.out⟩, ⟨by (try simp only [hl696002_36]); (with_reducible repeat (first | refine blk_drewN ?_ _ | refine blk_drew ?_ | refine blk_alloc ?_ _)); exact BK695.out⟩, ⟨by repeat (first | (with_reducible first | exact HB.out | apply below_alloc | apply pw_below_drewN | apply below_drew1 | refine below_set ?_ GE679.out | refine below_set ?_ GE695.out) | exact HB.out)⟩⟩
                        · replace c72 := Bool.eq_false_iff.mpr c72
                          subst c72
                          have H1 : (laws_FnExactSolutions.j2 kj36 t711 t710 true) = some r := by rw [if_neg (show ¬ (false = true) by decide)] at H; exact H
                          clear H
                          have H := H1
                          clear H1
                          have H' := Aside0.mk H
                          clear H
                          obtain ⟨Ao75, co75, eo75⟩ := Kd.R_slice HO720.out
                          subst eo75
                          obtain ⟨Ao76, co76, eo76⟩ := Kd.R_slice HO_4.out
                          subst eo76
                          go_wp2_with (first | ((with_reducible refine gate_callee (f := 42) rfl ?_); refine goesL_ (some 81) rfl rfl Try.func42 (by kernel_rfl) rfl #[.slice Ao75 t718.length co75, .slice Ao76 t686.length co76] rfl (by (try simp only [List.map_toArray, List.map_cons, List.map_nil]); first | done | rfl | (simp only [List.length_drop, List.length_take]; rfl)) ?_; (with_reducible refine (laws_eqStringS.calls kj36 _ _ t718 _ _ t686 false _ ?side1 ?side2 ?side3 ?side4 A71.out).mono ?_); (case side1 => repeat (first | exact (Kd.R_reads' HO720.out).2.2 | (with_reducible refine Kd.C_alloc ?_ _) | (with_reducible refine Kd.C_drewN ?_ _) | (with_reducible refine Kd.C_drew ?_))); (case side2 => exact (Kd.R_reads' HO720.out).2.1); (case side3 => repeat (first | exact (Kd.R_reads' HO_4.out).2.2 | (with_reducible refine Kd.C_alloc ?_ _) | (with_reducible refine Kd.C_drewN ?_ _) | (with_reducible refine Kd.C_drew ?_))); (case side4 => exact (Kd.R_reads' HO_4.out).2.1); rintro e w' ⟨rfl, ⟨nd, rfl⟩⟩; refine ⟨_, rfl, ?_⟩))
                          go_meet
                          case rel => exact ⟨_, (true), (by first | rfl | (simp; done) | (simp [*]; done)), H', ⟨by have := HJ10.out; have := HJ36.out; first | omega | exact Nat.le_refl _⟩, ⟨by (try simp only [hl696002_36]); (with_reducible repeat (first | apply Kd.R_alloc | apply Kd.R_drewN | apply Kd.R_drew)); exact Kd.R_mono HO_7.out (fun _ hk => trivial)⟩, ⟨by (try simp only [hl696002_36]); (with_reducible repeat (first | apply Kd.R_alloc | apply Kd.R_drewN | apply Kd.R_drew)); exact Kd.R_mono HO_696002.out (fun _ hk => trivial)⟩, ⟨by (try simp only [hl696002_36]); (with_reducible repeat (first | refine blk_drewN ?_ _ | refine blk_drew ?_ | refine blk_alloc ?_ _)); exact BK679.out⟩, ⟨by (try simp only [hl696002_36]); (with_reducible repeat (first | refine blk_drewN ?_ _ | refine blk_drew ?_ | refine blk_alloc ?_ _)); exact BK695.out⟩, ⟨by repeat (first | (with_reducible first | exact HB.out | apply below_alloc | apply pw_below_drewN | apply below_drew1 | refine below_set ?_ GE679.out | refine below_set ?_ GE695.out) | exact HB.out)⟩⟩
                      case rest =>
                        clear HC62
                        try clear c1; try clear c2; try clear p2; try clear c3; try clear c3b0; try clear c4; try clear c5; try clear c6; try clear c7; try clear c11; try clear c20; try clear c21; try clear c22; try clear c23; try clear c25; try clear c27; try clear c32; try clear c35; try clear c40; try clear c41; try clear c42; try clear c43; try clear c44; try clear c45; try clear c45b0; try clear c47; try clear c52; try clear c55; try clear c55b0; try clear c59; try clear c59b0; try clear c59b1; try clear c66; try clear c72; try clear hcz13_0; try clear hcz13_1; try clear hcz13_2; try clear hcz15_0; try clear hcz15_1; try clear hcz15_2; try clear hcz19_0; try clear hcz19_1; try clear hcz19_2; try clear hcz23_0; try clear hcz23_1; try clear hcz23_2; try clear hcz43_0; try clear hcz43_1; try clear hcz43_2; try clear hcz5_0; try clear hcz5_1; try clear hcz5_2; try clear hcz67_0; try clear hcz67_1; try clear hcz67_2; try clear hfz13_0; try clear hfz13_1; try clear hfz13_2; try clear hfz15_0; try clear hfz15_1; try clear hfz15_2; try clear hfz19_0; try clear hfz19_1; try clear hfz19_2; try clear hfz23_0; try clear hfz23_1; try clear hfz23_2; try clear hfz43_0; try clear hfz43_1; try clear hfz43_2; try clear hfz5_0; try clear hfz5_1; try clear hfz5_2; try clear hfz67_0; try clear hfz67_1; try clear hfz67_2; try clear p2
                        obtain ⟨kq, x87_61, rfl, HA, HJ61, HO_7, HO_696002, BK679, BK695, HB⟩ := hcut
                        have hl7_61 := (Kd.R_reads' HO_7.out).1
                        rw [hl7_61] at HO_7
                        (try simp only [hl7_61])
                        (try simp only [hl7_61] at BK679)
                        (try simp only [hl7_61] at BK695)
                        (try simp only [hl7_61] at HO_696002)
                        cases kq with
                        | zero => exact absurd HA.out (by simp [laws_FnExactSolutions.j2])
                        | succ kj61 =>
                          have H := HA.out
                          clear HA
                          simp only [laws_FnExactSolutions.j2] at H
                          by_cases c77 : x87_61 = true
                          · subst c77
                            have H1 : (some false) = some r := by rw [if_pos rfl] at H; exact H
                            clear H
                            have H := H1
                            clear H1
                            obtain rfl := Option.some.inj H
                            go_wp2
                            go_ret
                            exact ⟨by first | rfl | (simp [errW_none, errW_some] <;> rfl) | (simp [*, errW_none, errW_some] <;> rfl), by repeat (first | (with_reducible first | exact HB.out | apply below_alloc | apply pw_below_drewN | apply below_drew1 | refine below_set ?_ GE679.out | refine below_set ?_ GE695.out) | exact HB.out)⟩
                          · replace c77 := Bool.eq_false_iff.mpr c77
                            subst c77
                            have H1 : ((laws_heldStringS.f kj61 t711 1).bind fun t723 => (if t723 < 0 then (some false) else (if t723 = t710 then (some true) else (some false)))) = some r := by rw [if_neg (show ¬ (false = true) by decide)] at H; exact H
                            clear H
                            have H := H1
                            clear H1
                            replace H := Option.bind_eq_some_iff.mp H
                            obtain ⟨t723, A780, H⟩ := H
                            replace H : (if t723 < 0 then (some false) else (if t723 = t710 then (some true) else (some false))) = some r := H
                            have A78 := Aside0.mk A780
                            clear A780
                            by_cases c79 : t723 < 0
                            · rw [if_pos c79] at H
                              have c79b0 : decide (t723 < 0) = true := decide_eq_true c79
                              clear c79
                              obtain rfl := Option.some.inj H
                              go_wp2_with (first | ((with_reducible refine gate_callee (f := 44) rfl ?_); refine goesL_ (some 90) rfl rfl Try.func44 (by kernel_rfl) rfl #[.slice Ao63 t711.length co63, .int .i64 1] rfl (by (try simp only [List.map_toArray, List.map_cons, List.map_nil]); first | done | rfl | (simp only [List.length_drop, List.length_take]; rfl)) ?_; (with_reducible refine (laws_heldStringS.calls kj61 _ _ t711 1 t723 _ ?side1 ?side2 A78.out).mono ?_); (case side1 => repeat (first | exact (Kd.R_reads' HO_7.out).2.2 | (with_reducible refine Kd.C_alloc ?_ _) | (with_reducible refine Kd.C_drewN ?_ _) | (with_reducible refine Kd.C_drew ?_))); (case side2 => exact (Kd.R_reads' HO_7.out).2.1); rintro e w80 ⟨rfl, hb⟩; refine ⟨_, rfl, ?_⟩; have n0_ := Aside0.mk (Kd.R_below (by (with_reducible repeat (first | apply Kd.R_alloc | apply Kd.R_drewN | apply Kd.R_drew)); exact HO_7.out) hb); have n1_ := Aside0.mk (Kd.R_below (by (with_reducible repeat (first | apply Kd.R_alloc | apply Kd.R_drewN | apply Kd.R_drew)); exact HO_696002.out) hb); have n2_ := Aside0.mk (blk_below (g := gb679) (o := .cells #[.int .i64 a0_0, .int .i64 a0_1, .slice A0_2 l0_2.length c0_2] 43 (0, 0)) (by (with_reducible repeat (first | refine blk_drewN ?_ _ | refine blk_drew ?_ | refine blk_alloc ?_ _)); exact BK679.out) hb); have n3_ := Aside0.mk (blk_below (g := gb695) (o := .cells #[.int .i64 t690, .int .i64 t691, .slice Ao24 t708.length co24] 35 (0, 0)) (by (with_reducible repeat (first | refine blk_drewN ?_ _ | refine blk_drew ?_ | refine blk_alloc ?_ _)); exact BK695.out) hb); have n4_ := Aside0.mk (below_step (by repeat (first | (with_reducible first | exact HB.out | apply below_alloc | apply pw_below_drewN | apply below_drew1 | refine below_set ?_ GE679.out | refine below_set ?_ GE695.out) | exact HB.out)) hb); clear HO_7; clear HO_696002; clear BK679; clear BK695; clear HB; have HO_7 := n0_; have HO_696002 := n1_; have BK679 := n2_; have BK695 := n3_; have HB := n4_; clear n0_ n1_ n2_ n3_ n4_; (try clear hb); (try clear hb2); (try clear hk); (try clear hi)))
                              go_ret
                              exact ⟨by first | rfl | (simp [errW_none, errW_some] <;> rfl) | (simp [*, errW_none, errW_some] <;> rfl), by repeat (first | (with_reducible first | exact HB.out | apply below_alloc | apply pw_below_drewN | apply below_drew1 | refine below_set ?_ GE679.out | refine below_set ?_ GE695.out) | exact HB.out)⟩
                            · rw [if_neg c79] at H
                              have c79b0 : decide (t723 < 0) = false := decide_eq_false c79
                              clear c79
                              by_cases c81 : t723 = t710
                              · rw [if_pos c81] at H
                                have c81b0 : (t723 == t710) = true := beq_iff_eq.mpr c81
                                have c81b1 : (t723 != t710) = false := bne_eq_false_iff_eq.mpr c81
                                clear c81
                                obtain rfl := Option.some.inj H
                                go_wp2_with (first | ((with_reducible refine gate_callee (f := 44) rfl ?_); refine goesL_ (some 90) rfl rfl Try.func44 (by kernel_rfl) rfl #[.slice Ao63 t711.length co63, .int .i64 1] rfl (by (try simp only [List.map_toArray, List.map_cons, List.map_nil]); first | done | rfl | (simp only [List.length_drop, List.length_take]; rfl)) ?_; (with_reducible refine (laws_heldStringS.calls kj61 _ _ t711 1 t723 _ ?side1 ?side2 A78.out).mono ?_); (case side1 => repeat (first | exact (Kd.R_reads' HO_7.out).2.2 | (with_reducible refine Kd.C_alloc ?_ _) | (with_reducible refine Kd.C_drewN ?_ _) | (with_reducible refine Kd.C_drew ?_))); (case side2 => exact (Kd.R_reads' HO_7.out).2.1); rintro e w82 ⟨rfl, hb⟩; refine ⟨_, rfl, ?_⟩; have n0_ := Aside0.mk (Kd.R_below (by (with_reducible repeat (first | apply Kd.R_alloc | apply Kd.R_drewN | apply Kd.R_drew)); exact HO_7.out) hb); have n1_ := Aside0.mk (Kd.R_below (by (with_reducible repeat (first | apply Kd.R_alloc | apply Kd.R_drewN | apply Kd.R_drew)); exact HO_696002.out) hb); have n2_ := Aside0.mk (blk_below (g := gb679) (o := .cells #[.int .i64 a0_0, .int .i64 a0_1, .slice A0_2 l0_2.length c0_2] 43 (0, 0)) (by (with_reducible repeat (first | refine blk_drewN ?_ _ | refine blk_drew ?_ | refine blk_alloc ?_ _)); exact BK679.out) hb); have n3_ := Aside0.mk (blk_below (g := gb695) (o := .cells #[.int .i64 t690, .int .i64 t691, .slice Ao24 t708.length co24] 35 (0, 0)) (by (with_reducible repeat (first | refine blk_drewN ?_ _ | refine blk_drew ?_ | refine blk_alloc ?_ _)); exact BK695.out) hb); have n4_ := Aside0.mk (below_step (by repeat (first | (with_reducible first | exact HB.out | apply below_alloc | apply pw_below_drewN | apply below_drew1 | refine below_set ?_ GE679.out | refine below_set ?_ GE695.out) | exact HB.out)) hb); clear HO_7; clear HO_696002; clear BK679; clear BK695; clear HB; have HO_7 := n0_; have HO_696002 := n1_; have BK679 := n2_; have BK695 := n3_; have HB := n4_; clear n0_ n1_ n2_ n3_ n4_; (try clear hb); (try clear hb2); (try clear hk); (try clear hi)))
                                go_ret
                                exact ⟨by first | rfl | (simp [errW_none, errW_some] <;> rfl) | (simp [*, errW_none, errW_some] <;> rfl), by repeat (first | (with_reducible first | exact HB.out | apply below_alloc | apply pw_below_drewN | apply below_drew1 | refine below_set ?_ GE679.out | refine below_set ?_ GE695.out) | exact HB.out)⟩
                              · rw [if_neg c81] at H
                                have c81b0 : (t723 == t710) = false := beq_eq_false_iff_ne.mpr c81
                                have c81b1 : (t723 != t710) = true := bne_iff_ne.mpr c81
                                obtain rfl := Option.some.inj H
                                go_wp2_with (first | ((with_reducible refine gate_callee (f := 44) rfl ?_); refine goesL_ (some 90) rfl rfl Try.func44 (by kernel_rfl) rfl #[.slice Ao63 t711.length co63, .int .i64 1] rfl (by (try simp only [List.map_toArray, List.map_cons, List.map_nil]); first | done | rfl | (simp only [List.length_drop, List.length_take]; rfl)) ?_; (with_reducible refine (laws_heldStringS.calls kj61 _ _ t711 1 t723 _ ?side1 ?side2 A78.out).mono ?_); (case side1 => repeat (first | exact (Kd.R_reads' HO_7.out).2.2 | (with_reducible refine Kd.C_alloc ?_ _) | (with_reducible refine Kd.C_drewN ?_ _) | (with_reducible refine Kd.C_drew ?_))); (case side2 => exact (Kd.R_reads' HO_7.out).2.1); rintro e w83 ⟨rfl, hb⟩; refine ⟨_, rfl, ?_⟩; have n0_ := Aside0.mk (Kd.R_below (by (with_reducible repeat (first | apply Kd.R_alloc | apply Kd.R_drewN | apply Kd.R_drew)); exact HO_7.out) hb); have n1_ := Aside0.mk (Kd.R_below (by (with_reducible repeat (first | apply Kd.R_alloc | apply Kd.R_drewN | apply Kd.R_drew)); exact HO_696002.out) hb); have n2_ := Aside0.mk (blk_below (g := gb679) (o := .cells #[.int .i64 a0_0, .int .i64 a0_1, .slice A0_2 l0_2.length c0_2] 43 (0, 0)) (by (with_reducible repeat (first | refine blk_drewN ?_ _ | refine blk_drew ?_ | refine blk_alloc ?_ _)); exact BK679.out) hb); have n3_ := Aside0.mk (blk_below (g := gb695) (o := .cells #[.int .i64 t690, .int .i64 t691, .slice Ao24 t708.length co24] 35 (0, 0)) (by (with_reducible repeat (first | refine blk_drewN ?_ _ | refine blk_drew ?_ | refine blk_alloc ?_ _)); exact BK695.out) hb); have n4_ := Aside0.mk (below_step (by repeat (first | (with_reducible first | exact HB.out | apply below_alloc | apply pw_below_drewN | apply below_drew1 | refine below_set ?_ GE679.out | refine below_set ?_ GE695.out) | exact HB.out)) hb); clear HO_7; clear HO_696002; clear BK679; clear BK695; clear HB; have HO_7 := n0_; have HO_696002 := n1_; have BK679 := n2_; have BK695 := n3_; have HB := n4_; clear n0_ n1_ n2_ n3_ n4_; (try clear hb); (try clear hb2); (try clear hk); (try clear hi)))
                                go_ret
                                exact ⟨by first | rfl | (simp [errW_none, errW_some] <;> rfl) | (simp [*, errW_none, errW_some] <;> rfl), by repeat (first | (with_reducible first | exact HB.out | apply below_alloc | apply pw_below_drewN | apply below_drew1 | refine below_set ?_ GE679.out | refine below_set ?_ GE695.out) | exact HB.out)⟩
                    · rw [if_neg c59] at H
                      have c59b0 : (t712 == t710) = false := beq_eq_false_iff_ne.mpr c59
                      have c59b1 : (t712 != t710) = true := bne_iff_ne.mpr c59
                      obtain rfl := Option.some.inj H
                      obtain ⟨Ao84, co84, eo84⟩ := Kd.R_slice HO_7.out
                      subst eo84
                      go_wp2_with (first | ((with_reducible refine gate_callee (f := 43) rfl ?_); refine goesL_ (some 64) rfl rfl Try.func43 (by kernel_rfl) rfl #[.slice Ao84 t696.length co84, .int .i64 1] rfl (by (try simp only [List.map_toArray, List.map_cons, List.map_nil]); first | done | rfl | (simp only [List.length_drop, List.length_take]; rfl)) ?_; (with_reducible refine (laws_markStringS.calls kj36 (fun k_ => some k_ = (.slice Ao84 t696.length co84 : Value).ownBlock) (.slice Ao84 t696.length co84) t696 1 t710 t711 w _ ?side1 ?side2 A53.out).mono ?_); (case side1 => repeat (first | (with_reducible first | exact HB.out | apply below_alloc | apply pw_below_drewN | apply below_drew1 | refine below_set ?_ GE679.out | refine below_set ?_ GE695.out) | exact HB.out)); (case side2 => exact Kd.R_tight rfl HO_7.out); rintro e w85 ⟨rfl, hy0, hb, hkp⟩; refine ⟨_, rfl, ?_⟩; have n0_ := Aside0.mk (Kd.R_mono (ok' := fun k_ => some k_ ≠ (.slice Ao84 t696.length co84 : Value).ownBlock) (Kd.R_keptB (HO_4.out) hkp (fun k_ hk_ hs_ => (hk_) hs_)) (fun k_ hk_ => hk_.1)); have n1_ := Aside0.mk (Kd.R_reok rfl hy0 (fun k_ e_ => HO_7.out.1 k_ e_)); have n2_ := Aside0.mk (Kd.R_mono (ok' := fun k_ => True) (Kd.R_keptB ((Kd.R_apart' HO_696002.out (Kd.R_typed HO_7.out) (by decide))) hkp (fun k_ hk_ hs_ => (hk_.2) hs_)) (fun k_ hk_ => trivial)); have n3_ := Aside0.mk (blk_kept (by (with_reducible repeat (first | refine blk_drewN ?_ _ | refine blk_drew ?_ | refine blk_alloc ?_ _)); exact BK679.out) hkp (fun hs_ => (fun e_ => (Kd.R_ne HO_7.out BK679.out (by decide)) e_) hs_)); have n4_ := Aside0.mk (blk_kept (by (with_reducible repeat (first | refine blk_drewN ?_ _ | refine blk_drew ?_ | refine blk_alloc ?_ _)); exact BK695.out) hkp (fun hs_ => (fun e_ => (Kd.R_ne HO_7.out BK695.out (by decide)) e_) hs_)); have n5_ := Aside0.mk (hb); clear HO_4; clear HO_7; clear HO_696002; clear BK679; clear BK695; clear HB; have HO_4 := n0_; have HO_7 := n1_; have HO_696002 := n2_; have BK679 := n3_; have BK695 := n4_; have HB := n5_; clear n0_ n1_ n2_ n3_ n4_ n5_; (try clear hb); (try clear hkp); (try clear hy0)) | ((with_reducible refine gate_callee (f := 44) rfl ?_); refine goesL_ (some 67) rfl rfl Try.func44 (by kernel_rfl) rfl #[.slice Ao84 t711.length co84, .int .i64 1] rfl (by (try simp only [List.map_toArray, List.map_cons, List.map_nil]); first | done | (rw [show t711.length = t696.length from (Kd.R_reads' HO_7.out).1.symm] <;> rfl) | rfl | (simp only [List.length_drop, List.length_take]; rfl)) ?_; (with_reducible refine (laws_heldStringS.calls kj36 _ _ t711 1 t712 _ ?side1 ?side2 A54.out).mono ?_); (case side1 => repeat (first | exact (Kd.R_reads' HO_7.out).2.2 | (with_reducible refine Kd.C_alloc ?_ _) | (with_reducible refine Kd.C_drewN ?_ _) | (with_reducible refine Kd.C_drew ?_))); (case side2 => rw [show t711.length = t696.length from (Kd.R_reads' HO_7.out).1.symm]; exact (Kd.R_reads' HO_7.out).2.1); rintro e w86 ⟨rfl, hb⟩; refine ⟨_, rfl, ?_⟩; have n0_ := Aside0.mk (Kd.R_below (by (with_reducible repeat (first | apply Kd.R_alloc | apply Kd.R_drewN | apply Kd.R_drew)); exact HO_4.out) hb); have n1_ := Aside0.mk (Kd.R_below (by (with_reducible repeat (first | apply Kd.R_alloc | apply Kd.R_drewN | apply Kd.R_drew)); exact HO_7.out) hb); have n2_ := Aside0.mk (Kd.R_below (by (with_reducible repeat (first | apply Kd.R_alloc | apply Kd.R_drewN | apply Kd.R_drew)); exact HO_696002.out) hb); have n3_ := Aside0.mk (blk_below (g := gb679) (o := .cells #[.int .i64 a0_0, .int .i64 a0_1, .slice A0_2 l0_2.length c0_2] 43 (0, 0)) (by (with_reducible repeat (first | refine blk_drewN ?_ _ | refine blk_drew ?_ | refine blk_alloc ?_ _)); exact BK679.out) hb); have n4_ := Aside0.mk (blk_below (g := gb695) (o := .cells #[.int .i64 t690, .int .i64 t691, .slice Ao24 t708.length co24] 35 (0, 0)) (by (with_reducible repeat (first | refine blk_drewN ?_ _ | refine blk_drew ?_ | refine blk_alloc ?_ _)); exact BK695.out) hb); have n5_ := Aside0.mk (below_step (by repeat (first | (with_reducible first | exact HB.out | apply below_alloc | apply pw_below_drewN | apply below_drew1 | refine below_set ?_ GE679.out | refine below_set ?_ GE695.out) | exact HB.out)) hb); clear HO_4; clear HO_7; clear HO_696002; clear BK679; clear BK695; clear HB; have HO_4 := n0_; have HO_7 := n1_; have HO_696002 := n2_; have BK679 := n3_; have BK695 := n4_; have HB := n5_; clear n0_ n1_ n2_ n3_ n4_ n5_; (try clear hb); (try clear hb2); (try clear hk); (try clear hi)))
                      go_ret
                      exact ⟨by first | rfl | (simp [errW_none, errW_some] <;> rfl) | (simp [*, errW_none, errW_some] <;> rfl), by repeat (first | (with_reducible first | exact HB.out | apply below_alloc | apply pw_below_drewN | apply below_drew1 | refine below_set ?_ GE679.out | refine below_set ?_ GE695.out) | exact HB.out)⟩
          · replace c35 := Bool.eq_false_iff.mpr c35
            subst c35
            have H1 : (some false) = some r := by rw [if_neg (show ¬ (false = true) by decide)] at H; exact H
            clear H
            have H := H1
            clear H1
            obtain rfl := Option.some.inj H
            try go_wp2
            have n0_ := Aside0.mk (Kd.R_drew HO_4.out)
            have n1_ := Aside0.mk (Kd.R_drew HO_7.out)
            have n2_ := Aside0.mk (Kd.R_drew HO_696002.out)
            have n3_ := Aside0.mk (blk_drew BK679.out)
            have n4_ := Aside0.mk (blk_drew BK695.out)
            have n5_ := Aside0.mk (below_drew1 HB.out)
            clear HO_4
            clear HO_7
            clear HO_696002
            clear BK679
            clear BK695
            clear HB
            have HO_4 := n0_
            have HO_7 := n1_
            have HO_696002 := n2_
            have BK679 := n3_
            have BK695 := n4_
            have HB := n5_
            clear n0_ n1_ n2_ n3_ n4_ n5_
            refine start_ (n := 5) (S := fun w' => w'.cell? ⟨gb695, 0, none⟩ = some (.int .i64 t690) ∧ w'.cell? ⟨gb695, 1, none⟩ = some (.int .i64 t691) ∧ w'.cell? ⟨gb695, 2, none⟩ = some (.slice Ao24 t692.length co24) ∧ w'.cell? ⟨gb679, 0, none⟩ = some (.int .i64 a0_0) ∧ w'.cell? ⟨gb679, 1, none⟩ = some (.int .i64 a0_1) ∧ w'.cell? ⟨gb679, 2, none⟩ = some (.slice A0_2 l0_2.length c0_2)) (ds := []) #[false, false, false, false, false] (by kernel_rfl) rfl rfl ⟨(blk_cell BK695.out 0).trans rfl, (blk_cell BK695.out 1).trans rfl, (blk_cell BK695.out 2).trans rfl, (blk_cell BK679.out 0).trans rfl, (blk_cell BK679.out 1).trans rfl, (blk_cell BK679.out 2).trans rfl⟩ (fun hHeld => ?_)
            generalize wc.drew = w87 at HO_4 HO_7 HO_696002 BK679 BK695 HB hHeld ⊢
            refine take_ (i := 0) (N := some 41) (v := ?_) (a' := ?_) #[true, false, false, false, false] rfl rfl (by kernel_rfl) (fun _ _ _ h => h) (Or.inl ⟨by rfl, ?_⟩) hHeld ?_ ?_
            rotate_left
            · rintro w' ⟨s0, s1, s2, s3, s4, s5⟩
              go_simp
              with_reducible rfl
            rotate_left
            · simp only [Act.put, List.setIfInBounds_toArray, List.set_cons_zero, List.set_cons_succ, i64_w, i32_w]
              rfl
            refine take_ (i := 1) (N := some 42) (v := ?_) (a' := ?_) #[true, true, false, false, false] rfl rfl (by kernel_rfl) (fun _ _ _ h => h) (Or.inl ⟨by rfl, ?_⟩) hHeld ?_ ?_
            rotate_left
            · rintro w' ⟨s0, s1, s2, s3, s4, s5⟩
              go_simp
              with_reducible rfl
            rotate_left
            · simp only [Act.put, List.setIfInBounds_toArray, List.set_cons_zero, List.set_cons_succ, i64_w, i32_w]
              rfl
            refine one_ (i := 2) (N := some 43) #[true, true, true, false, false] rfl rfl (by kernel_rfl) (by decide) (fun K hK => ?_)
            refine goes_ Try.func25 (by kernel_rfl) rfl #[.agg #[.int .i64 a0_0, .int .i64 a0_1, .slice A0_2 l0_2.length c0_2]] (by rfl) rfl rfl (by (try simp only [List.map_toArray, List.map_cons, List.map_nil]); first | done | rfl | (simp only [List.length_drop, List.length_take]; rfl)) ?_
            with_reducible refine (laws_toPuzzle.calls kj10 a0_0 a0_1 _ _ l0_2 t701 t702 t703 _ ?side1 ?side2 A33.out).mono ?_
            (case side1 => repeat (first | exact (Kd.C_below HR0_2.out HB.out) | (with_reducible refine Kd.C_alloc ?_ _) | (with_reducible refine Kd.C_drewN ?_ _) | (with_reducible refine Kd.C_drew ?_)))
            (case side2 => exact HC0_2.out)
            rintro e w88 ⟨v704, rfl, ho0, hb⟩
            refine ⟨_, rfl, ?_⟩
            have n0_ := Aside0.mk (Kd.R_below (by (with_reducible repeat (first | apply Kd.R_alloc | apply Kd.R_drewN | apply Kd.R_drew)); exact HO_4.out) hb)
            have n1_ := Aside0.mk (Kd.R_below (by (with_reducible repeat (first | apply Kd.R_alloc | apply Kd.R_drewN | apply Kd.R_drew)); exact HO_7.out) hb)
            have n2_ := Aside0.mk (Kd.R_elder' (by (with_reducible repeat (first | apply Kd.R_alloc | apply Kd.R_drewN | apply Kd.R_drew)); exact HO_696002.out) (Kd.R_base ho0) hb)
            have n3_ := Aside0.mk (Kd.R_lower (Kd.R_new' ho0 (Kd.R_lt (by (with_reducible repeat (first | apply Kd.R_alloc | apply Kd.R_drewN | apply Kd.R_drew)); exact HO_696002.out))) (below_size (by repeat (first | (with_reducible first | exact HB.out | apply below_alloc | apply pw_below_drewN | apply below_drew1 | refine below_set ?_ GE679.out | refine below_set ?_ GE695.out) | exact HB.out))))
            have n4_ := Aside0.mk (blk_below (g := gb679) (o := .cells #[.int .i64 a0_0, .int .i64 a0_1, .slice A0_2 l0_2.length c0_2] 43 (0, 0)) (by (with_reducible repeat (first | refine blk_drewN ?_ _ | refine blk_drew ?_ | refine blk_alloc ?_ _)); exact BK679.out) hb)
            have n5_ := Aside0.mk (blk_below (g := gb695) (o := .cells #[.int .i64 t690, .int .i64 t691, .slice Ao24 t692.length co24] 35 (0, 0)) (by (with_reducible repeat (first | refine blk_drewN ?_ _ | refine blk_drew ?_ | refine blk_alloc ?_ _)); exact BK695.out) hb)
            have n6_ := Aside0.mk (below_step (by repeat (first | (with_reducible first | exact HB.out | apply below_alloc | apply pw_below_drewN | apply below_drew1 | refine below_set ?_ GE679.out | refine below_set ?_ GE695.out) | exact HB.out)) hb)
            clear HO_4
            clear HO_7
            clear HO_696002
            clear BK679
            clear BK695
            clear HB
            have HO_4 := n0_
            have HO_7 := n1_
            have HO_696002 := n2_
            have HO705 := n3_
            have BK679 := n4_
            have BK695 := n5_
            have HB := n6_
            clear n0_ n1_ n2_ n3_ n4_ n5_ n6_
            (try clear hb)
            (try clear hb2)
            (try clear hk)
            (try clear hi)
            (try clear ho0)
            obtain ⟨Ao89, co89, eo89⟩ := Kd.R_slice HO705.out
            (first | subst eo89 | (injection eo89 with f1_ f2_ f3_; have f4_ := f1_.symm; have f5_ := f3_.symm; clear f1_ f2_ f3_; subst f4_; subst f5_))
            refine hK.out _ _ ⟨(blk_cell BK695.out 0).trans rfl, (blk_cell BK695.out 1).trans rfl, (blk_cell BK695.out 2).trans rfl, (blk_cell BK679.out 0).trans rfl, (blk_cell BK679.out 1).trans rfl, (blk_cell BK679.out 2).trans rfl⟩ (fun hHeld => ?_)
            clear hK K
            refine norm_ (a' := ?_) ?_ ?_
            rotate_left
            · show Act.put _ (some 43) _ = _
              simp only [Act.put, List.setIfInBounds_toArray, List.set_cons_zero, List.set_cons_succ, i64_w, i32_w]
              rfl
            refine one_ (i := 3) (N := some 44) #[true, true, true, true, false] rfl rfl (by kernel_rfl) (by decide) (fun K hK => ?_)
            refine goes_ Try.func20 (by kernel_rfl) rfl #[.agg #[.int .i64 t690, .int .i64 t691, .slice Ao24 t692.length co24], .agg #[.int .i64 t701, .int .i64 t702, .slice Ao89 t703.length co89]] (by rfl) rfl rfl (by (try simp only [List.map_toArray, List.map_cons, List.map_nil]); first | done | rfl | (simp only [List.length_drop, List.length_take]; rfl)) ?_
            with_reducible refine (laws_eqPuzzle.calls kj10 t690 t691 _ _ t692 t701 t702 _ _ t703 false _ ?side1 ?side2 ?side3 ?side4 A34.out).mono ?_
            (case side1 => repeat (first | exact (Kd.R_reads' HO_696002.out).2.2 | (with_reducible refine Kd.C_alloc ?_ _) | (with_reducible refine Kd.C_drewN ?_ _) | (with_reducible refine Kd.C_drew ?_)))
            (case side2 => exact (Kd.R_reads' HO_696002.out).2.1)
            (case side3 => repeat (first | exact (Kd.R_reads' HO705.out).2.2 | (with_reducible refine Kd.C_alloc ?_ _) | (with_reducible refine Kd.C_drewN ?_ _) | (with_reducible refine Kd.C_drew ?_)))
            (case side4 => exact (Kd.R_reads' HO705.out).2.1)
            rintro e w90 ⟨rfl, hb⟩
            refine ⟨_, rfl, ?_⟩
            have n0_ := Aside0.mk (Kd.R_below (by (with_reducible repeat (first | apply Kd.R_alloc | apply Kd.R_drewN | apply Kd.R_drew)); exact HO_4.out) hb)
            have n1_ := Aside0.mk (Kd.R_below (by (with_reducible repeat (first | apply Kd.R_alloc | apply Kd.R_drewN | apply Kd.R_drew)); exact HO_7.out) hb)
            have n2_ := Aside0.mk (Kd.R_below (by (with_reducible repeat (first | apply Kd.R_alloc | apply Kd.R_drewN | apply Kd.R_drew)); exact HO_696002.out) hb)
            have n3_ := Aside0.mk (Kd.R_below (by (with_reducible repeat (first | apply Kd.R_alloc | apply Kd.R_drewN | apply Kd.R_drew)); exact HO705.out) hb)
            have n4_ := Aside0.mk (blk_below (g := gb679) (o := .cells #[.int .i64 a0_0, .int .i64 a0_1, .slice A0_2 l0_2.length c0_2] 43 (0, 0)) (by (with_reducible repeat (first | refine blk_drewN ?_ _ | refine blk_drew ?_ | refine blk_alloc ?_ _)); exact BK679.out) hb)
            have n5_ := Aside0.mk (blk_below (g := gb695) (o := .cells #[.int .i64 t690, .int .i64 t691, .slice Ao24 t692.length co24] 35 (0, 0)) (by (with_reducible repeat (first | refine blk_drewN ?_ _ | refine blk_drew ?_ | refine blk_alloc ?_ _)); exact BK695.out) hb)
            have n6_ := Aside0.mk (below_step (by repeat (first | (with_reducible first | exact HB.out | apply below_alloc | apply pw_below_drewN | apply below_drew1 | refine below_set ?_ GE679.out | refine below_set ?_ GE695.out) | exact HB.out)) hb)
            clear HO_4
            clear HO_7
            clear HO_696002
            clear HO705
            clear BK679
            clear BK695
            clear HB
            have HO_4 := n0_
            have HO_7 := n1_
            have HO_696002 := n2_
            have HO705 := n3_
            have BK679 := n4_
            have BK695 := n5_
            have HB := n6_
            clear n0_ n1_ n2_ n3_ n4_ n5_ n6_
            (try clear hb)
            (try clear hb2)
            (try clear hk)
            (try clear hi)
            refine hK.out _ _ ⟨(blk_cell BK695.out 0).trans rfl, (blk_cell BK695.out 1).trans rfl, (blk_cell BK695.out 2).trans rfl, (blk_cell BK679.out 0).trans rfl, (blk_cell BK679.out 1).trans rfl, (blk_cell BK679.out 2).trans rfl⟩ (fun hHeld => ?_)
            clear hK K
            refine norm_ (a' := ?_) ?_ ?_
            rotate_left
            · show Act.put _ (some 44) _ = _
              simp only [Act.put, List.setIfInBounds_toArray, List.set_cons_zero, List.set_cons_succ, i64_w, i32_w]
              rfl
            refine pure_ (i := 4) (N := some 45) (v := ?_) (a' := ?_) #[true, true, true, true, true] rfl rfl (by kernel_rfl) (fun _ _ _ h => h) (Or.inl ⟨by rfl, ?_⟩) ?_ ?_
            rotate_left
            · intro w'
              go_simp
              with_reducible rfl
            rotate_left
            · simp only [Act.put, List.setIfInBounds_toArray, List.set_cons_zero, List.set_cons_succ, i64_w, i32_w]
              rfl
            refine done_ (by kernel_rfl) ?_
            try go_wp2
            go_ret
            exact ⟨by first | rfl | (simp [errW_none, errW_some] <;> rfl) | (simp [*, errW_none, errW_some] <;> rfl), by repeat (first | (with_reducible first | exact HB.out | apply below_alloc | apply pw_below_drewN | apply below_drew1 | refine below_set ?_ GE679.out | refine below_set ?_ GE695.out) | exact HB.out)⟩
end Go.Proofs.Ytagiekcfnmhgjaa.P

namespace Go.Proofs.Ytagiekcfnmhgjaa.P
open Go.RowKit Go.Proofs.YtagiekcfnmhgjaaW.PrintWords Go.Proofs.YtagiekcfnmhgjaaW.PrintLast Go.Proofs.YtagiekcfnmhgjaaW.PrintMore
attribute [local go_sem] max2_int min2_int max_two min_two max_three min_three max_four min_four   -- for this text's walks alone
set_option linter.unusedVariables false
set_option linter.unusedSimpArgs false

/-! Codes of a lock as texts, their digits, what clues tell of them. -/
def codeS (w d : Int) (s : ByteArray) : Prop := s.size = w.toNat ∧ ∀ i < s.size, 48 ≤ bt s (i : Nat) ∧ bt s (i : Nat) < 48 + d
def dg (s : ByteArray) : List Int := (List.range s.size).map fun i => bt s (i : Nat) - 48
theorem dg_length (s : ByteArray) : (dg s).length = s.size := by simp [dg]
theorem dg_at {s : ByteArray} {i : Nat} (h : i < s.size) : rd (dg s) (i : Nat) = bt s (i : Nat) - 48 := by
  rw [rd_at (by simpa [dg] using h)]; simp [dg]
theorem bt_textB {D : List Int} (h : ∀ x ∈ D, 0 ≤ x ∧ x < 10) {i : Nat} (hi : i < D.length) : bt (textB D) (i : Nat) = 48 + D[i] := by
  have hx := h D[i] (List.getElem_mem hi)
  have hs : (textB D).size = D.length := by unfold textB; rw [strOfNums_size, List.length_map]
  unfold bt
  rw [dif_pos (by rw [hs]; simpa using hi)]
  have e1 : ((textB D)[(i : Int).toNat]'(by rw [hs]; simpa using hi)) = UInt8.ofNat (wrap64 (48 + D[i]) % 256).toNat := by
    show (textB D).data[(i : Int).toNat]'_ = _
    have : (textB D).data = ((D.map fun x => wrap64 (48 + x) % 256).map fun n => UInt8.ofNat n.toNat).toArray := rfl
    simp [this]
  rw [e1, w64 (by omega) (by omega)]
  simp
  omega
theorem codeB_code {w d a : Int} (hl : lockB w d = true) : codeS w d (codeB w d a) := by
  obtain ⟨w1, w2, d1, d2⟩ := lockB_iff.mp hl
  have hs : (codeB w d a).size = w.toNat := by unfold codeB textB; rw [strOfNums_size, List.length_map, digs_length]
  refine ⟨hs, fun i hi => ?_⟩
  have hr := digs_range (d := d) (by omega) w.toNat a
  unfold codeB
  rw [bt_textB (fun x hx => by have := hr x hx; omega) (by rw [digs_length, ← hs]; exact hi)]
  have := hr _ (List.getElem_mem (by rw [digs_length, ← hs]; exact hi) : (digs d w.toNat a)[i]'(by rw [digs_length, ← hs]; exact hi) ∈ _)
  omega
def sumF : Int → List Int → Int
  | acc, [] => acc
  | acc, x :: xs => sumF (wrap64 (acc + x)) xs
def numF (d : Int) : Int → List Int → Int
  | acc, [] => acc
  | acc, x :: xs => numF d (wrap64 (wrap64 (acc * d) + x)) xs
def turnV (d x y : Int) : Int := Int.tmod (wrap64 (Int.tmod (wrap64 (y - x)) d + d)) d
def nearV (d x y : Int) : Int := lst (turnV d x y) (Int.tmod (wrap64 (d - turnV d x y)) d)
def distF (d : Int) (s t : ByteArray) : Nat → Int
  | 0 => 0
  | i + 1 => wrap64 (distF d s t i + nearV d (bt s (i : Nat)) (bt t (i : Nat)))
def valV (w d k a : Int) (s : ByteArray) : Int :=
  if k = 0 then bt s a - 48 else if k = 1 then sumF 0 (dg s) else if k = 2 then plN (codeB w d a) s w.toNat
  else if k = 3 then distF d (codeB w d a) s w.toNat else Int.tmod (numF d 0 (dg s)) a
def fitV (w d : Int) (c : Int × Int × Int) (s : ByteArray) : Bool := if c.1 = 1 then decide (valV w d 1 0 s = c.2.1) else decide (valV w d c.1 c.2.1 s = c.2.2)
theorem codeS_hint {w d : Int} {s t : ByteArray} (hl : lockB w d = true) (hs : codeS w d s) (ht : codeS w d t) : hintB s t = true := by
  obtain ⟨w1, w2, d1, d2⟩ := lockB_iff.mp hl
  have h1 := hs.1
  have h2 := ht.1
  refine hintB_iff.mpr ⟨by omega, by omega, by omega, fun i hi => ?_, fun i hi => ?_⟩
  · have := hs.2 i hi; omega
  · have := ht.2 i hi; omega
end Go.Proofs.Ytagiekcfnmhgjaa.P

namespace Go.Proofs.Ytagiekcfnmhgjaa.P
open Go.RowKit Go.Proofs.YtagiekcfnmhgjaaW.PrintWords Go.Proofs.YtagiekcfnmhgjaaW.PrintLast Go.Proofs.YtagiekcfnmhgjaaW.PrintMore
attribute [local go_sem] max2_int min2_int max_two min_two max_three min_three max_four min_four   -- for this text's walks alone
set_option linter.unusedVariables false
set_option linter.unusedSimpArgs false

/-! The statements' own helpers on clues and puzzles: what they come to. -/
def clueOf (x : S25) : S30 := ⟨x.f0, x.f1, x.f2⟩
theorem laws_szClueS.is (l : List S25) (a : Int) (h0 : 0 ≤ a) (h1 : a ≤ 1048576) (hl : l.length ≤ 9223372036854775807) : laws_szClueS.f l a = some (if (l.length : Int) ≤ a then a - l.length else -1) := by
  unfold laws_szClueS.f
  rw [w64 (x := a - (l.length : Int)) (by omega) (by omega)]
  by_cases h : (l.length : Int) ≤ a
  · rw [if_neg (by omega), if_pos h]
  · rw [if_pos (by omega), if_neg h]
theorem laws_szPuzzle.is (w d : Int) (l : List S25) (hl : l.length ≤ 9223372036854775807) : laws_szPuzzle.f w d l 1048576 = some (if (l.length : Int) ≤ 1048576 then (1048576 : Int) - (l.length : Int) else (-1 : Int)) := by
  unfold laws_szPuzzle.f
  rw [laws_szClueS.is l 1048576 (by omega) (by omega) hl]
  simp only [Option.bind_some]
  by_cases h : (l.length : Int) ≤ 1048576
  · rw [if_pos h, if_neg (by omega)]
  · rw [if_neg h, if_pos (by omega)]
theorem rd_laws_clue {xs : List S25} {i : Int} (h : i.toNat < xs.length) : rd_T25 xs i = xs[i.toNat] := by unfold rd_T25; exact getD_at h
theorem rd_clue {xs : List S30} {i : Int} (h : i.toNat < xs.length) : rd_T30 xs i = xs[i.toNat] := by unfold rd_T30; exact getD_at h
theorem laws_toClueS.lev (l : List S25) (hl : l.length ≤ 1048576) : ∀ (j : Nat) (i : Int), 0 ≤ i → i ≤ l.length → (l.length : Int) - i = j →
    Ev (fun k => laws_toClueS.l0 k l ((l.take i.toNat).map clueOf ++ List.replicate (l.length - i.toNat) z30) i) (l.map clueOf) := by
  intro j
  induction j with
  | zero =>
    intro i h0 hi hj
    obtain rfl : i = (l.length : Int) := by omega
    exact Ev.step (fun k => rfl) (Ev.no (by omega) (Ev.id (by simp)))
  | succ j ih =>
    intro i h0 hi hj
    have hlt : i.toNat < l.length := by omega
    refine Ev.step (fun k => rfl) (Ev.yes (by omega) (Ev.yes h0 ?_))
    simp only [laws_toClue.f, Option.bind_some, rd_laws_clue hlt]
    refine Ev.yes (by simp; omega) ?_
    have := fill_step clueOf l z30 i.toNat hlt
    unfold clueOf at this ⊢
    rw [this, w64 (x := i + 1) (by omega) (by omega), ← toNat_succ h0]
    exact ih (i + 1) (by omega) (by omega) (by omega)
theorem laws_toClueS.ev (l : List S25) (hl : l.length ≤ 1048576) : Ev (fun k => laws_toClueS.f k l) (l.map clueOf) := by
  unfold laws_toClueS.f
  refine Ev.yes (by omega) (Ev.yes (by omega) ?_)
  have := laws_toClueS.lev l hl l.length 0 (by omega) (by omega) (by omega)
  simpa using this
theorem laws_toPuzzle.ev (w d : Int) (l : List S25) (hl : l.length ≤ 1048576) : Ev (fun k => laws_toPuzzle.f k w d l) (w, d, l.map clueOf) := by
  unfold laws_toPuzzle.f
  simp only [laws_toLock.f, Option.bind_some]
  exact Ev.bind (laws_toClueS.ev l hl) (Ev.now _)
theorem laws_eqClueS.lev (l : List S30) (hl : l.length ≤ 9223372036854775807) : ∀ (j : Nat) (i : Int), 0 ≤ i → i ≤ l.length → (l.length : Int) - i = j → Ev (fun k => laws_eqClueS.l0 k l l i) true := by
  intro j
  induction j with
  | zero =>
    intro i h0 hi hj
    exact Ev.step (fun k => rfl) (Ev.no (by omega) (Ev.now _))
  | succ j ih =>
    intro i h0 hi hj
    refine Ev.step (fun k => rfl) (Ev.yes (by omega) (Ev.yes h0 (Ev.yes (by omega) ?_)))
    simp only [laws_eqClue.f, if_true, Option.bind_some]
    rw [w64 (x := i + 1) (by omega) (by omega)]
    exact ih (i + 1) (by omega) (by omega) (by omega)
theorem laws_eqClueS.ev (l : List S30) (hl : l.length ≤ 9223372036854775807) : Ev (fun k => laws_eqClueS.f k l l) true := by
  unfold laws_eqClueS.f
  exact Ev.yes rfl (laws_eqClueS.lev l hl l.length 0 (by omega) (by omega) (by omega))
theorem laws_eqPuzzle.ev (w d : Int) (l : List S30) (hl : l.length ≤ 9223372036854775807) : Ev (fun k => laws_eqPuzzle.f k w d l w d l) true := by
  unfold laws_eqPuzzle.f
  simp only [laws_eqLock.f, if_true, Option.bind_some]
  exact Ev.bind (laws_eqClueS.ev l hl) (Ev.yes rfl (Ev.now _))
end Go.Proofs.Ytagiekcfnmhgjaa.P

namespace Go.Proofs.Ytagiekcfnmhgjaa.P
open Go.RowKit Go.Proofs.YtagiekcfnmhgjaaW.PrintWords Go.Proofs.YtagiekcfnmhgjaaW.PrintLast Go.Proofs.YtagiekcfnmhgjaaW.PrintMore
attribute [local go_sem] max2_int min2_int max_two min_two max_three min_three max_four min_four   -- for this text's walks alone
set_option linter.unusedVariables false
set_option linter.unusedSimpArgs false

/-! spec's functions on locks and clues: what they come to. -/
theorem spec_l1In.is (a b c : Int) : spec_l1In.f a b c = some (decide (b ≤ a ∧ a ≤ c)) := by
  unfold spec_l1In.f
  by_cases h : a ≥ b
  · rw [if_pos h]; have h' : b ≤ a := h; congr 1; simp [h']
  · rw [if_neg h]; have h' : ¬ b ≤ a := h; congr 1; simp [h']
theorem spec_whGood.is (w d : Int) : spec_whGood.f w d = some (lockB w d) := by
  unfold spec_whGood.f lockB
  simp only [spec_l1In.is, Option.bind_some]
  by_cases h : 1 ≤ w ∧ w ≤ 6 <;> simp [h]
theorem spec_whCount.lev (w d : Int) (h1 : 1 ≤ d) (h2 : d ≤ 10) (hn : w ≤ 6) : ∀ (j : Nat) (i : Int), 0 ≤ i → i ≤ w → i = j → Ev (fun k => spec_whCount.l0 k (d ^ (w - i).toNat) i w d) (d ^ w.toNat) := by
  intro j
  induction j with
  | zero =>
    intro i h0 hi hj
    obtain rfl : i = 0 := by omega
    exact Ev.step (fun k => rfl) (Ev.no (by omega) (Ev.id (by simp)))
  | succ j ih =>
    intro i h0 hi hj
    refine Ev.step (fun k => rfl) (Ev.yes (by omega) ?_)
    have hb := pow_bound h1 h2 (n := (w - i).toNat) (by omega)
    have hm : d ^ (w - i).toNat * d = d ^ (w - (i - 1)).toNat := by rw [show (w - (i - 1)).toNat = (w - i).toNat + 1 by omega, Int.pow_succ]
    have hb' := pow_bound h1 h2 (n := (w - (i - 1)).toNat) (by omega)
    rw [w64 (x := i - 1) (by omega) (by omega), hm, w64 (x := d ^ (w - (i - 1)).toNat) (by omega) (by omega)]
    exact ih (i - 1) (by omega) (by omega) (by omega)
theorem spec_whCount.ev {w d : Int} (h : lockB w d = true) : Ev (fun k => spec_whCount.f k w d) (d ^ w.toNat) := by
  obtain ⟨a, b, c, e⟩ := lockB_iff.mp h
  have := spec_whCount.lev w d (by omega) e b w.toNat w (by omega) (by omega) (by omega)
  unfold spec_whCount.f
  simpa using this
theorem spec_hiLock.ev (w d m : Int) : Ev (fun k => spec_hiLock.f k w d m) (smallB w d m) := by
  unfold spec_hiLock.f smallB
  refine Ev.bindc (spec_whGood.is w d) ?_
  cases h : lockB w d with
  | true => exact Ev.yes rfl (Ev.bind (spec_whCount.ev h) (Ev.id (by simp)))
  | false => exact Ev.no (by simp) (Ev.id (by simp))
end Go.Proofs.Ytagiekcfnmhgjaa.P

namespace Go.Proofs.Ytagiekcfnmhgjaa.P
open Go.RowKit Go.Proofs.YtagiekcfnmhgjaaW.PrintWords Go.Proofs.YtagiekcfnmhgjaaW.PrintLast Go.Proofs.YtagiekcfnmhgjaaW.PrintMore
attribute [local go_sem] max2_int min2_int max_two min_two max_three min_three max_four min_four   -- for this text's walks alone
set_option linter.unusedVariables false
set_option linter.unusedSimpArgs false

/-! What clues tell of codes: impl's and spec's agree. -/
theorem spec_whDigits.ev {s : ByteArray} (h6 : s.size ≤ 6) (h : ∀ i < s.size, 48 ≤ bt s (i : Nat) ∧ bt s (i : Nat) ≤ 57) : Ev (fun k => spec_whDigits.f k s) (dg s) := by
  have : ∀ m i : Nat, i + m = s.size → ∀ xs : List Int, xs.length = i → Ev (fun k => spec_whDigits.l0 k s xs (i : Nat)) (xs ++ (List.range' i m).map fun i => bt s (i : Nat) - 48) := by
    intro m
    induction m with
    | zero =>
      intro i hi xs hx
      refine Ev.step (fun k => rfl) ?_
      refine Ev.no (by omega) ?_
      exact Ev.id (by simp)
    | succ m ih =>
      intro i hi xs hx
      refine Ev.step (fun k => rfl) ?_
      refine Ev.yes (by omega) (Ev.yes (by omega) (Ev.yes (by omega) ?_))
      have := ih (i + 1) (by omega) (xs ++ [bt s (i : Nat) - 48]) (by simp [hx])
      have hb := h i (by omega)
      rw [show ((bt s (i : Nat)) - 48) % 256 = bt s (i : Nat) - 48 by omega, show wrap64 ((i : Int) + 1) = ((i + 1 : Nat) : Int) from w64 (by omega) (by omega)]
      refine Ev.eq this ?_
      rw [List.range'_succ]
      simp
  have := this s.size 0 (by omega) [] rfl
  refine Ev.eq this ?_
  simp [dg, List.range_eq_range']
theorem impl_digits.ev {w d : Int} {s : ByteArray} (hl : lockB w d = true) (hs : codeS w d s) : Ev (fun k => impl_digits.f k s) (dg s) := by
  obtain ⟨w1, w2, d1, d2⟩ := lockB_iff.mp hl
  have h1 := hs.1
  exact impl_digits_of (by omega) (fun i hi => by have := hs.2 i hi; omega)
theorem spec_whDigits.evc {w d : Int} {s : ByteArray} (hl : lockB w d = true) (hs : codeS w d s) : Ev (fun k => spec_whDigits.f k s) (dg s) := by
  obtain ⟨w1, w2, d1, d2⟩ := lockB_iff.mp hl
  have h1 := hs.1
  exact spec_whDigits.ev (by omega) (fun i hi => by have := hs.2 i hi; omega)
theorem impl_Lock_number.lev (w d : Int) (D : List Int) (hD : D.length ≤ 6) : ∀ (m i : Nat), i + m = D.length → ∀ acc, Ev (fun k => impl_Lock_number.l0 k acc D (D.length : Int) (i : Nat) w d) (numF d acc (D.drop i)) := by
  intro m
  induction m with
  | zero =>
    intro i hi acc
    refine Ev.step (fun k => rfl) (Ev.no (by omega) (Ev.id ?_))
    rw [List.drop_eq_nil_of_le (by omega)]; rfl
  | succ m ih =>
    intro i hi acc
    refine Ev.step (fun k => rfl) (Ev.yes (by omega) (Ev.yes (by omega) (Ev.yes (by omega) ?_)))
    have hlt : i < D.length := by omega
    rw [show wrap64 ((i : Int) + 1) = ((i + 1 : Nat) : Int) from w64 (by omega) (by omega), List.drop_eq_getElem_cons hlt, rd_at (by simpa using hlt)]
    exact ih (i + 1) (by omega) _
theorem spec_whNumber.lev (w d : Int) (D : List Int) (hD : D.length ≤ 6) : ∀ (m i : Nat), i + m = D.length → ∀ acc, Ev (fun k => spec_whNumber.l0 k acc D (D.length : Int) (i : Nat) w d) (numF d acc (D.drop i)) := by
  intro m
  induction m with
  | zero =>
    intro i hi acc
    refine Ev.step (fun k => rfl) (Ev.no (by omega) (Ev.id ?_))
    rw [List.drop_eq_nil_of_le (by omega)]; rfl
  | succ m ih =>
    intro i hi acc
    refine Ev.step (fun k => rfl) (Ev.yes (by omega) (Ev.yes (by omega) (Ev.yes (by omega) ?_)))
    have hlt : i < D.length := by omega
    rw [show wrap64 ((i : Int) + 1) = ((i + 1 : Nat) : Int) from w64 (by omega) (by omega), List.drop_eq_getElem_cons hlt, rd_at (by simpa using hlt)]
    exact ih (i + 1) (by omega) _
theorem spec_pzValue.lev (D : List Int) (hD : D.length ≤ 6) : ∀ (m i : Nat), i + m = D.length → ∀ acc, Ev (fun k => spec_pzValue.l0 k acc D (D.length : Int) (i : Nat)) (sumF acc (D.drop i)) := by
  intro m
  induction m with
  | zero =>
    intro i hi acc
    refine Ev.step (fun k => rfl) (Ev.no (by omega) (Ev.id ?_))
    rw [List.drop_eq_nil_of_le (by omega)]; rfl
  | succ m ih =>
    intro i hi acc
    refine Ev.step (fun k => rfl) (Ev.yes (by omega) (Ev.yes (by omega) (Ev.yes (by omega) ?_)))
    have hlt : i < D.length := by omega
    rw [show wrap64 ((i : Int) + 1) = ((i + 1 : Nat) : Int) from w64 (by omega) (by omega), List.drop_eq_getElem_cons hlt, rd_at (by simpa using hlt)]
    exact ih (i + 1) (by omega) _
theorem impl_Lock_told.lev (D : List Int) (hD : D.length ≤ 6) : ∀ (m i : Nat), i + m = D.length → ∀ acc, Ev (fun k => impl_Lock_told.l0 k acc D (D.length : Int) (i : Nat)) (1, sumF acc (D.drop i), 0) := by
  intro m
  induction m with
  | zero =>
    intro i hi acc
    refine Ev.step (fun k => rfl) (Ev.no (by omega) (Ev.id ?_))
    rw [List.drop_eq_nil_of_le (by omega)]; rfl
  | succ m ih =>
    intro i hi acc
    refine Ev.step (fun k => rfl) (Ev.yes (by omega) (Ev.yes (by omega) (Ev.yes (by omega) ?_)))
    have hlt : i < D.length := by omega
    rw [show wrap64 ((i : Int) + 1) = ((i + 1 : Nat) : Int) from w64 (by omega) (by omega), List.drop_eq_getElem_cons hlt, rd_at (by simpa using hlt)]
    exact ih (i + 1) (by omega) _
theorem impl_Lock_number.ev {w d : Int} {s : ByteArray} (hl : lockB w d = true) (hs : codeS w d s) : Ev (fun k => impl_Lock_number.f k w d s) (numF d 0 (dg s)) := by
  have h6 : (dg s).length ≤ 6 := by rw [dg_length, hs.1]; have := lockB_iff.mp hl; omega
  unfold impl_Lock_number.f
  exact Ev.bind (impl_digits.ev hl hs) (impl_Lock_number.lev w d _ h6 (dg s).length 0 (by omega) 0)
theorem spec_whNumber.ev {w d : Int} {s : ByteArray} (hl : lockB w d = true) (hs : codeS w d s) : Ev (fun k => spec_whNumber.f k w d s) (numF d 0 (dg s)) := by
  have h6 : (dg s).length ≤ 6 := by rw [dg_length, hs.1]; have := lockB_iff.mp hl; omega
  unfold spec_whNumber.f
  exact Ev.bind (spec_whDigits.evc hl hs) (spec_whNumber.lev w d _ h6 (dg s).length 0 (by omega) 0)
end Go.Proofs.Ytagiekcfnmhgjaa.P

namespace Go.Proofs.Ytagiekcfnmhgjaa.P
open Go.RowKit Go.Proofs.YtagiekcfnmhgjaaW.PrintWords Go.Proofs.YtagiekcfnmhgjaaW.PrintLast Go.Proofs.YtagiekcfnmhgjaaW.PrintMore
attribute [local go_sem] max2_int min2_int max_two min_two max_three min_three max_four min_four   -- for this text's walks alone
set_option linter.unusedVariables false
set_option linter.unusedSimpArgs false

/-! spec's texts of codes, distances: what they come to. -/
theorem strOfNums_app (a b : List Int) : strOfNums (a ++ b) = strOfNums a ++ strOfNums b := by
  apply ByteArray.ext
  simp [strOfNums, ByteArray.data_append]
theorem textB_app (a : List Int) (x : Int) : textB (a ++ [x]) = textB a ++ strOfNums [wrap64 (48 + x) % 256] := by
  unfold textB; rw [List.map_append, strOfNums_app]; rfl
theorem spec_l1Num.one {x : Int} (h : x < 10) : Ev (fun k => spec_l1Num.f k x) (strOfNums [wrap64 (48 + x) % 256]) :=
  Ev.step (fun k => rfl) (Ev.yes h (Ev.now _))
theorem textB_size (l : List Int) : (textB l).size = l.length := by unfold textB; rw [strOfNums_size, List.length_map]
theorem spec_whText.lev (D : List Int) (hD : D.length ≤ 6) (h : ∀ x ∈ D, 0 ≤ x ∧ x < 10) : ∀ (m i : Nat), i + m = D.length → Ev (fun k => spec_whText.l0 k (textB (D.take i)) D (D.length : Int) (i : Nat)) (textB D) := by
  intro m
  induction m with
  | zero =>
    intro i hi
    refine Ev.step (fun k => rfl) (Ev.no (by omega) (Ev.id ?_))
    rw [List.take_of_length_le (by omega)]
  | succ m ih =>
    intro i hi
    have hlt : i < D.length := by omega
    have hx := h D[i] (List.getElem_mem hlt)
    refine Ev.step (fun k => rfl) (Ev.yes (by omega) (Ev.yes (by omega) (Ev.yes (by omega) ?_)))
    rw [rd_at (by simpa using hlt)]
    refine Ev.bind (spec_l1Num.one (by simpa using hx.2)) ?_
    refine Ev.yes (by rw [textB_size, strOfNums_size, List.length_take]; simp; omega) ?_
    rw [show wrap64 ((i : Int) + 1) = ((i + 1 : Nat) : Int) from w64 (by omega) (by omega)]
    have := ih (i + 1) (by omega)
    rw [List.take_succ_eq_append_getElem hlt, textB_app] at this
    exact this
theorem spec_whText.ev (D : List Int) (hD : D.length ≤ 6) (h : ∀ x ∈ D, 0 ≤ x ∧ x < 10) : Ev (fun k => spec_whText.f k D) (textB D) := by
  unfold spec_whText.f
  exact spec_whText.lev D hD h D.length 0 (by omega)
theorem spec_whOf.lev {w d : Int} (hl : lockB w d = true) (D : List Int) (hD : D.length = w.toNat) (h : ∀ x ∈ D, 0 ≤ x ∧ x < 10) : ∀ (m : Nat) (n : Int) (T : List Int), 0 ≤ n → n ≤ 9223372036854775807 → digs d m n ++ T = D → Ev (fun k => spec_whOf.l0 k n (List.replicate m 0 ++ T) ((m : Int) - 1) w d) (textB D) := by
  obtain ⟨w1, w2, d1, d2⟩ := lockB_iff.mp hl
  intro m
  induction m with
  | zero =>
    intro n T h0 h1 hT
    refine Ev.step (fun k => rfl) (Ev.no (by omega) ?_)
    have : List.replicate 0 (0 : Int) ++ T = D := hT
    rw [this]
    exact Ev.bind (spec_whText.ev D (by omega) h) (Ev.now _)
  | succ m ih =>
    intro n T h0 h1 hT
    have hlen : m + 1 + T.length = D.length := by rw [← hT, List.length_append, digs_length]
    refine Ev.step (fun k => rfl) (Ev.yes (by omega) (Ev.no (by omega) (Ev.yes (by omega) (Ev.yes (by rw [List.length_append, List.length_replicate]; omega) ?_))))
    rw [show ((m + 1 : Nat) : Int) - 1 = (m : Nat) by omega, Int.toNat_natCast, rep_set, Int.tmod_eq_emod_of_nonneg h0, Int.tdiv_eq_ediv_of_nonneg h0]
    have r3 : 0 ≤ n / d := Int.ediv_nonneg h0 (by omega)
    have r4 : n / d ≤ n := Int.ediv_le_self _ h0
    rw [w64 (x := n / d) (by omega) (by omega), w64 (x := (m : Int) - 1) (by omega) (by omega)]
    refine ih (n / d) (n % d :: T) r3 (by omega) ?_
    rw [digs, List.append_assoc] at hT
    exact hT
theorem spec_whOf.ev {w d a : Int} (hl : lockB w d = true) (h0 : 0 ≤ a) (h1 : a ≤ 9223372036854775807) : Ev (fun k => spec_whOf.f k w d a) (codeB w d a) := by
  obtain ⟨w1, w2, d1, d2⟩ := lockB_iff.mp hl
  unfold spec_whOf.f
  refine Ev.yes (by omega) (Ev.yes (by omega) ?_)
  rw [w64 (x := w - 1) (by omega) (by omega)]
  have := spec_whOf.lev hl (digs d w.toNat a) (by rw [digs_length]) (fun x hx => by have := digs_range (d := d) (by omega) w.toNat a x hx; omega) w.toNat a [] h0 h1 (by rw [List.append_nil])
  rw [List.append_nil, show ((w.toNat : Nat) : Int) - 1 = w - 1 by omega] at this
  exact this
theorem spec_l1Least.is (a b : Int) : spec_l1Least.f a b = some (lst a b) := by unfold spec_l1Least.f lst; split <;> rfl
theorem turnV_range {d x y : Int} (hd : 2 ≤ d) (hd2 : d ≤ 10) (hx : -300 ≤ x ∧ x ≤ 300) (hy : -300 ≤ y ∧ y ≤ 300) : 0 ≤ turnV d x y ∧ turnV d x y < d := by
  unfold turnV
  have e1 : wrap64 (y - x) = y - x := w64 (by omega) (by omega)
  have h1 : -d < Int.tmod (y - x) d := Int.lt_tmod_of_pos _ (by omega)
  have h2 : Int.tmod (y - x) d < d := Int.tmod_lt_of_pos _ (by omega)
  rw [e1, w64 (by omega) (by omega), Int.tmod_eq_emod_of_nonneg (by omega)]
  exact ⟨Int.emod_nonneg _ (by omega), Int.emod_lt_of_pos _ (by omega)⟩
theorem spec_whDistance.lev {w d : Int} (hl : lockB w d = true) {s t : ByteArray} (hs : codeS w d s) (ht : codeS w d t) : ∀ (m i : Nat), i + m = s.size → Ev (fun k => spec_whDistance.l0 k (dg s) (dg t) (distF d s t i) ((dg s).length : Int) (i : Nat) w d) (distF d s t s.size) := by
  obtain ⟨w1, w2, d1, d2⟩ := lockB_iff.mp hl
  have hsz := hs.1
  have htz := ht.1
  intro m
  induction m with
  | zero =>
    intro i hi
    refine Ev.step (fun k => rfl) (Ev.no (by rw [dg_length]; omega) (Ev.id ?_))
    rw [show i = s.size by omega]
  | succ m ih =>
    intro i hi
    have a1 := hs.2 i (by omega)
    have a2 := ht.2 i (by omega)
    refine Ev.step (fun k => rfl) (Ev.yes (by rw [dg_length]; omega) (Ev.yes (by omega) (Ev.yes (by rw [dg_length]; omega) (Ev.yes (by rw [dg_length]; omega) ?_))))
    rw [dg_at (by omega), dg_at (by omega)]
    have hf : spec_whFar.f w d (bt s (i : Nat) - 48) (bt t (i : Nat) - 48) = some (turnV d (bt s (i : Nat)) (bt t (i : Nat)), Int.tmod (wrap64 (d - turnV d (bt s (i : Nat)) (bt t (i : Nat)))) d) := by
      unfold spec_whFar.f spec_l1Mod.f turnV
      rw [if_neg (by omega), show bt t (i : Nat) - 48 - (bt s (i : Nat) - 48) = bt t (i : Nat) - bt s (i : Nat) by omega]
      simp only [Option.bind_some]
      rw [if_neg (by omega)]
    refine Ev.bindc hf (Ev.bindc (spec_l1Least.is _ _) ?_)
    rw [show wrap64 ((i : Int) + 1) = ((i + 1 : Nat) : Int) from w64 (by omega) (by omega)]
    exact ih (i + 1) (by omega)
theorem impl_Lock_distance.lev {w d : Int} (hl : lockB w d = true) {s t : ByteArray} (hs : codeS w d s) (ht : codeS w d t) : ∀ (m i : Nat), i + m = s.size → Ev (fun k => impl_Lock_distance.l0 k s t (distF d s t i) (s.size : Int) (i : Nat) w d) (distF d s t s.size) := by
  obtain ⟨w1, w2, d1, d2⟩ := lockB_iff.mp hl
  have hsz := hs.1
  have htz := ht.1
  intro m
  induction m with
  | zero =>
    intro i hi
    refine Ev.step (fun k => rfl) (Ev.no (by omega) (Ev.id ?_))
    rw [show i = s.size by omega]
  | succ m ih =>
    intro i hi
    have a1 := hs.2 i (by omega)
    have a2 := ht.2 i (by omega)
    refine Ev.step (fun k => rfl) (Ev.yes (by omega) (Ev.yes (by omega) (Ev.yes (by omega) (Ev.yes (by omega) ?_))))
    have hr := turnV_range (d := d) (x := bt s (i : Nat)) (y := bt t (i : Nat)) d1 d2 (by omega) (by omega)
    have hf : impl_Lock_near.f w d (wrap64 (bt s (i : Nat))) (wrap64 (bt t (i : Nat))) = some (nearV d (bt s (i : Nat)) (bt t (i : Nat))) := by
      unfold impl_Lock_near.f impl_Lock_gap.f impl_around.f
      rw [if_neg (by omega), w64 (x := bt s (i : Nat)) (by omega) (by omega), w64 (x := bt t (i : Nat)) (by omega) (by omega)]
      simp only [Option.bind_some]
      show some (mn (turnV d (bt s (i : Nat)) (bt t (i : Nat))) (wrap64 (d - turnV d (bt s (i : Nat)) (bt t (i : Nat))))) = _
      unfold nearV
      generalize turnV d (bt s (i : Nat)) (bt t (i : Nat)) = q at hr
      rw [w64 (x := d - q) (by omega) (by omega)]
      congr 1
      by_cases hq : q = 0
      · subst hq
        rw [Int.sub_zero, Int.tmod_self]
        unfold mn lst
        simp
        omega
      · rw [Int.tmod_eq_of_lt (by omega) (by omega)]
        unfold mn lst
        by_cases e : q < d - q
        · simp [e]; omega
        · simp [e]; omega
    refine Ev.bindc hf ?_
    rw [show wrap64 ((i : Int) + 1) = ((i + 1 : Nat) : Int) from w64 (by omega) (by omega)]
    exact ih (i + 1) (by omega)
theorem spec_whDistance.ev {w d : Int} (hl : lockB w d = true) {s t : ByteArray} (hs : codeS w d s) (ht : codeS w d t) : Ev (fun k => spec_whDistance.f k w d s t) (distF d s t w.toNat) := by
  unfold spec_whDistance.f
  rw [← hs.1]
  exact Ev.bind (spec_whDigits.evc hl hs) (Ev.bind (spec_whDigits.evc hl ht) (spec_whDistance.lev hl hs ht s.size 0 (by omega)))
theorem impl_Lock_distance.ev {w d : Int} (hl : lockB w d = true) {s t : ByteArray} (hs : codeS w d s) (ht : codeS w d t) : Ev (fun k => impl_Lock_distance.f k w d s t) (distF d s t w.toNat) := by
  unfold impl_Lock_distance.f
  rw [← hs.1]
  exact impl_Lock_distance.lev hl hs ht s.size 0 (by omega)
end Go.Proofs.Ytagiekcfnmhgjaa.P

namespace Go.Proofs.Ytagiekcfnmhgjaa.P
open Go.RowKit Go.Proofs.YtagiekcfnmhgjaaW.PrintWords Go.Proofs.YtagiekcfnmhgjaaW.PrintLast Go.Proofs.YtagiekcfnmhgjaaW.PrintMore
attribute [local go_sem] max2_int min2_int max_two min_two max_three min_three max_four min_four   -- for this text's walks alone
set_option linter.unusedVariables false
set_option linter.unusedSimpArgs false

/-! Whether codes fit clues; all solutions: what both sides come to. -/
theorem clueB_cases {w d a b c : Int} (h : clueB w d a b c = true) : (a = 0 ∧ 0 ≤ b ∧ b ≤ w - 1) ∨ (a = 1 ∧ c = 0) ∨ (a = 2 ∧ 0 ≤ b ∧ b ≤ d ^ w.toNat - 1) ∨ (a = 3 ∧ 0 ≤ b ∧ b ≤ d ^ w.toNat - 1) ∨ (a = 4 ∧ 2 ≤ b ∧ b ≤ 9) := by
  unfold clueB at h
  by_cases h0 : a = 0
  · rw [if_pos h0] at h; simp at h; omega
  rw [if_neg h0] at h
  by_cases h1 : a = 1
  · rw [if_pos h1] at h; simp at h; omega
  rw [if_neg h1] at h
  by_cases h2 : a = 2
  · rw [if_pos h2] at h; simp at h; omega
  rw [if_neg h2] at h
  by_cases h3 : a = 3
  · rw [if_pos h3] at h; simp at h; omega
  rw [if_neg h3] at h
  by_cases h4 : a = 4
  · rw [if_pos h4] at h; simp at h; omega
  rw [if_neg h4] at h; cases h
theorem spec_hiOf.is {a b : ByteArray} (h : hintB a b = true) : spec_hiOf.f a b = some (plN a b a.size, cmN a b a.size 10 - plN a b a.size) := by unfold spec_hiOf.f; rw [if_pos h]
theorem impl_hint.is {a b : ByteArray} (h : hintB a b = true) : impl_hint.f a b = some (plN a b a.size, cmN a b a.size 10 - plN a b a.size) := by unfold impl_hint.f; rw [if_pos h]
theorem spec_pzValue.ev {w d a b : Int} (hl : lockB w d = true) {s : ByteArray} (hs : codeS w d s) (h : (a = 0 ∧ 0 ≤ b ∧ b ≤ w - 1) ∨ a = 1 ∨ (a = 2 ∧ 0 ≤ b ∧ b ≤ d ^ w.toNat - 1) ∨ (a = 3 ∧ 0 ≤ b ∧ b ≤ d ^ w.toNat - 1) ∨ (a = 4 ∧ 2 ≤ b ∧ b ≤ 9)) :
    Ev (fun k => spec_pzValue.f k w d a b s) (valV w d a b s) := by
  obtain ⟨w1, w2, d1, d2⟩ := lockB_iff.mp hl
  have hsz := hs.1
  have hcb := count_bound hl
  have h6 : (dg s).length ≤ 6 := by rw [dg_length]; omega
  unfold spec_pzValue.f
  rcases h with ⟨rfl, h1, h2⟩ | rfl | ⟨rfl, h1, h2⟩ | ⟨rfl, h1, h2⟩ | ⟨rfl, h1, h2⟩
  · rw [show valV w d 0 b s = bt s b - 48 by simp [valV]]
    have hb := hs.2 b.toNat (by omega)
    rw [show ((b.toNat : Nat) : Int) = b by omega] at hb
    refine Ev.yes rfl (Ev.yes h1 (Ev.yes (by omega) (Ev.id (by omega))))
  · rw [show valV w d 1 b s = sumF 0 (dg s) by simp [valV]]
    exact Ev.no (by omega) (Ev.yes rfl (Ev.bind (spec_whDigits.evc hl hs) (spec_pzValue.lev _ h6 (dg s).length 0 (by omega) 0)))
  · rw [show valV w d 2 b s = plN (codeB w d b) s w.toNat by simp [valV]]
    have hc := codeB_code (a := b) hl
    refine Ev.no (by omega) (Ev.no (by omega) (Ev.yes rfl (Ev.bind (spec_whOf.ev hl h1 (by omega)) (Ev.bindc (spec_hiOf.is (codeS_hint hl hc hs)) (Ev.id ?_)))))
    rw [hc.1]
  · rw [show valV w d 3 b s = distF d (codeB w d b) s w.toNat by simp [valV]]
    have hc := codeB_code (a := b) hl
    exact Ev.no (by omega) (Ev.no (by omega) (Ev.no (by omega) (Ev.yes rfl (Ev.bind (spec_whOf.ev hl h1 (by omega)) (Ev.bind (spec_whDistance.ev hl hc hs) (Ev.now _))))))
  · rw [show valV w d 4 b s = Int.tmod (numF d 0 (dg s)) b by simp [valV]]
    exact Ev.no (by omega) (Ev.no (by omega) (Ev.no (by omega) (Ev.no (by omega) (Ev.bind (spec_whNumber.ev hl hs) (Ev.no (by omega) (Ev.now _))))))
theorem impl_Lock_told.ev {w d a b c : Int} (hl : lockB w d = true) {s : ByteArray} (hs : codeS w d s) (h : clueB w d a b c = true) :
    Ev (fun k => impl_Lock_told.f k w d a b s) (if a = 1 then (1, valV w d 1 0 s, 0) else (a, b, valV w d a b s)) := by
  obtain ⟨w1, w2, d1, d2⟩ := lockB_iff.mp hl
  have hsz := hs.1
  have hcb := count_bound hl
  have h6 : (dg s).length ≤ 6 := by rw [dg_length]; omega
  unfold impl_Lock_told.f
  rcases clueB_cases h with ⟨rfl, h1, h2⟩ | ⟨rfl, h1⟩ | ⟨rfl, h1, h2⟩ | ⟨rfl, h1, h2⟩ | ⟨rfl, h1, h2⟩
  · rw [if_neg (show ¬ (0 : Int) = 1 by omega), show valV w d 0 b s = bt s b - 48 by simp [valV]]
    refine Ev.yes rfl (Ev.bind (impl_digits.ev hl hs) (Ev.yes h1 (Ev.yes (by rw [dg_length]; omega) (Ev.id ?_))))
    have := dg_at (s := s) (i := b.toNat) (by omega)
    rw [show ((b.toNat : Nat) : Int) = b by omega] at this
    rw [this]
  · rw [if_pos rfl, show valV w d 1 0 s = sumF 0 (dg s) by simp [valV]]
    exact Ev.no (by omega) (Ev.yes rfl (Ev.bind (impl_digits.ev hl hs) (impl_Lock_told.lev _ h6 (dg s).length 0 (by omega) 0)))
  · rw [if_neg (show ¬ (2 : Int) = 1 by omega), show valV w d 2 b s = plN (codeB w d b) s w.toNat by simp [valV]]
    have hc := codeB_code (a := b) hl
    refine Ev.no (by omega) (Ev.no (by omega) (Ev.yes rfl (Ev.bindc (impl_Lock_code.is hl h1 (by omega)) (Ev.bindc (impl_hint.is (codeS_hint hl hc hs)) (Ev.id ?_)))))
    rw [hc.1]
  · rw [if_neg (show ¬ (3 : Int) = 1 by omega), show valV w d 3 b s = distF d (codeB w d b) s w.toNat by simp [valV]]
    have hc := codeB_code (a := b) hl
    exact Ev.no (by omega) (Ev.no (by omega) (Ev.no (by omega) (Ev.yes rfl (Ev.bindc (impl_Lock_code.is hl h1 (by omega)) (Ev.bind (impl_Lock_distance.ev hl hc hs) (Ev.now _))))))
  · rw [if_neg (show ¬ (4 : Int) = 1 by omega), show valV w d 4 b s = Int.tmod (numF d 0 (dg s)) b by simp [valV]]
    exact Ev.no (by omega) (Ev.no (by omega) (Ev.no (by omega) (Ev.no (by omega) (Ev.bind (impl_Lock_number.ev hl hs) (Ev.no (by omega) (Ev.now _))))))
theorem spec_pzFits.ev {w d a b c : Int} (hl : lockB w d = true) {s : ByteArray} (hs : codeS w d s) (h : clueB w d a b c = true) : Ev (fun k => spec_pzFits.f k w d a b c s) (fitV w d (a, b, c) s) := by
  unfold spec_pzFits.f fitV
  by_cases h1 : a = 1
  · rw [if_pos h1]
    exact Ev.yes h1 (Ev.bind (spec_pzValue.ev hl hs (Or.inr (Or.inl rfl))) (Ev.id (beq_of _ _)))
  · rw [if_neg h1]
    refine Ev.no h1 (Ev.bind (spec_pzValue.ev hl hs ?_) (Ev.id (beq_of _ _)))
    rcases clueB_cases h with h | h | h | h | h
    · exact Or.inl h
    · exact absurd h.1 h1
    · exact Or.inr (Or.inr (Or.inl h))
    · exact Or.inr (Or.inr (Or.inr (Or.inl h)))
    · exact Or.inr (Or.inr (Or.inr (Or.inr h)))
theorem told_fit {w d a b c : Int} {s : ByteArray} (h : clueB w d a b c = true) : decide ((if a = 1 then (1, valV w d 1 0 s, 0) else (a, b, valV w d a b s)) = (a, b, c)) = fitV w d (a, b, c) s := by
  unfold fitV
  by_cases h1 : a = 1
  · rw [if_pos h1, if_pos h1]
    rcases clueB_cases h with h | h | h | h | h
    · omega
    · subst h1; rw [h.2]; simp
    · omega
    · omega
    · omega
  · rw [if_neg h1, if_neg h1]; simp
def fitA (w d : Int) (l : List S30) (s : ByteArray) : Bool := l.all fun c => fitV w d (c.f0, c.f1, c.f2) s
theorem impl_Lock_fit.ev {w d : Int} (hl : lockB w d = true) {s : ByteArray} (hs : codeS w d s) (l : List S30) (h : ∀ c ∈ l, clueB w d c.f0 c.f1 c.f2 = true) : Ev (fun k => impl_Lock_fit.f k w d l s) (fitA w d l s) := by
  obtain ⟨K, hK⟩ : ∃ K, ∀ k ≥ K, ∀ c ∈ l, impl_Lock_told.f k w d c.f0 c.f1 s = some (if c.f0 = 1 then (1, valV w d 1 0 s, 0) else (c.f0, c.f1, valV w d c.f0 c.f1 s)) := by
    induction l with
    | nil => exact ⟨0, fun _ _ c hc => by cases hc⟩
    | cons x xs ih =>
      obtain ⟨K1, h1⟩ := ih (fun c hc => h c (List.mem_cons_of_mem _ hc))
      obtain ⟨K2, h2⟩ := impl_Lock_told.ev hl hs (h x (List.mem_cons_self ..))
      refine ⟨max K1 K2, fun k hk c hc => ?_⟩
      rcases List.mem_cons.mp hc with rfl | hc
      · exact h2 k (by omega)
      · exact h1 k (by omega) c hc
  refine ⟨K, fun k hk => ?_⟩
  have hk := hK k hk
  show impl_Lock_fit.f k w d l s = _
  unfold impl_Lock_fit.f
  rw [if_pos (List.all_eq_true.mpr fun c hc => by rw [hk c hc]; rfl)]
  congr 1
  unfold fitA
  rw [Bool.eq_iff_iff, List.all_eq_true, List.all_eq_true]
  have e : ∀ c ∈ l, decide (impl_Lock_told.f k w d c.f0 c.f1 s = some (c.f0, c.f1, c.f2)) = fitV w d (c.f0, c.f1, c.f2) s := by
    intro c hc
    rw [hk c hc, ← told_fit (h c hc)]
    simp
  exact ⟨fun h c hc => by rw [← e c hc]; exact h c hc, fun h c hc => by rw [e c hc]; exact h c hc⟩
def solA (w d : Int) (l : List S30) : Nat → List ByteArray
  | 0 => []
  | n + 1 => solA w d l n ++ if fitA w d l (codeB w d (n : Nat)) = true then [codeB w d (n : Nat)] else []
theorem solA_len (w d : Int) (l : List S30) : ∀ n, (solA w d l n).length ≤ n
  | 0 => by simp [solA]
  | n + 1 => by
    have := solA_len w d l n
    simp only [solA, List.length_append]
    split <;> simp <;> omega
theorem impl_Lock_solutions.lev {w d : Int} (hl : lockB w d = true) (l : List S30) (h : ∀ c ∈ l, clueB w d c.f0 c.f1 c.f2 = true) (N : Nat) (hN : (N : Int) ≤ 1000000) : ∀ (m i : Nat), i + m = N → Ev (fun k => impl_Lock_solutions.l0 k l (solA w d l i) (N : Int) (i : Nat) w d) (solA w d l N) := by
  intro m
  induction m with
  | zero =>
    intro i hi
    refine Ev.step (fun k => rfl) (Ev.no (by omega) (Ev.id ?_))
    rw [show i = N by omega]
  | succ m ih =>
    intro i hi
    have hx := solA_len w d l i
    refine Ev.step (fun k => rfl) (Ev.yes (by omega) (Ev.bindc (impl_Lock_code.is hl (by omega) (by omega)) (Ev.bind (impl_Lock_fit.ev hl (codeB_code hl) l h) ?_)))
    rw [show wrap64 ((i : Int) + 1) = ((i + 1 : Nat) : Int) from w64 (by omega) (by omega)]
    have hh := ih (i + 1) (by omega)
    rw [solA] at hh
    cases hf : fitA w d l (codeB w d (i : Nat)) with
    | true =>
      rw [hf, if_pos rfl] at hh
      exact Ev.yes rfl (Ev.yes (by omega) hh)
    | false =>
      rw [hf, if_neg (by simp), List.append_nil] at hh
      exact Ev.no (by simp) hh
theorem impl_Lock_solutions.ev {w d : Int} (hl : lockB w d = true) (l : List S30) (h : ∀ c ∈ l, clueB w d c.f0 c.f1 c.f2 = true) : Ev (fun k => impl_Lock_solutions.f k w d l) (solA w d l (d ^ w.toNat).toNat) := by
  have hcb := count_bound hl
  unfold impl_Lock_solutions.f
  refine Ev.bind (impl_Lock_count.ev hl) ?_
  have := impl_Lock_solutions.lev hl l h (d ^ w.toNat).toNat (by omega) (d ^ w.toNat).toNat 0 (by omega)
  rw [show (((d ^ w.toNat).toNat : Nat) : Int) = d ^ w.toNat by omega] at this
  exact this
def allC (w d : Int) (n : Nat) : List ByteArray := (List.range n).map fun i => codeB w d (i : Nat)
theorem spec_hiAll.lev {w d : Int} (hl : lockB w d = true) (N : Nat) (hN : (N : Int) = d ^ w.toNat) : ∀ (m i : Nat), i + m = N → Ev (fun k => spec_hiAll.l0 k (allC w d i) (i : Nat) w d) (allC w d N) := by
  have hcb := count_bound hl
  intro m
  induction m with
  | zero =>
    intro i hi
    refine Ev.step (fun k => rfl) (Ev.bind (spec_whCount.ev hl) (Ev.no (by omega) (Ev.id ?_)))
    rw [show i = N by omega]
  | succ m ih =>
    intro i hi
    refine Ev.step (fun k => rfl) (Ev.bind (spec_whCount.ev hl) (Ev.yes (by omega) (Ev.bind (spec_whOf.ev hl (by omega) (by omega)) (Ev.yes (by simp [allC]; omega) ?_))))
    rw [show wrap64 ((i : Int) + 1) = ((i + 1 : Nat) : Int) from w64 (by omega) (by omega)]
    have hh := ih (i + 1) (by omega)
    rw [show allC w d (i + 1) = allC w d i ++ [codeB w d (i : Nat)] by simp [allC, List.range_succ]] at hh
    exact hh
theorem spec_hiAll.ev {w d : Int} (hl : lockB w d = true) : Ev (fun k => spec_hiAll.f k w d) (allC w d (d ^ w.toNat).toNat) := by
  have hcb := count_bound hl
  unfold spec_hiAll.f
  exact spec_hiAll.lev hl (d ^ w.toNat).toNat (by omega) (d ^ w.toNat).toNat 0 (by omega)
theorem spec_pzAll.lev1 {w d : Int} (hl : lockB w d = true) (l : List S30) (hln : l.length ≤ 6) (h : ∀ c ∈ l, clueB w d c.f0 c.f1 c.f2 = true) {s : ByteArray} (hs : codeS w d s) (N i : Nat) (xs : List ByteArray) (r : List ByteArray) (C : List ByteArray)
    (hr : Ev (fun k => if fitA w d l s = true then (if xs.length < 8796093022208 then (spec_pzAll.l0 k l (xs ++ [s]) C (N : Int) (wrap64 ((i : Int) + 1)) w d) else none) else (spec_pzAll.l0 k l xs C (N : Int) (wrap64 ((i : Int) + 1)) w d)) r) : ∀ (m j : Nat) (b : Bool), j + m = l.length → b = (l.take j).all (fun c => fitV w d (c.f0, c.f1, c.f2) s) →
    Ev (fun k => spec_pzAll.l1 k l xs s b C (N : Int) (i : Int) l (l.length : Int) (j : Nat) w d) r := by
  intro m
  induction m with
  | zero =>
    intro j b hj hb
    refine Ev.step (fun k => rfl) (Ev.no (by omega) ?_)
    rw [List.take_of_length_le (by omega)] at hb
    have : b = fitA w d l s := hb
    rw [this]; exact hr
  | succ m ih =>
    intro j b hj hb
    have hlt : j < l.length := by omega
    refine Ev.step (fun k => rfl) (Ev.yes (by omega) (Ev.yes (by omega) (Ev.yes (by omega) ?_)))
    rw [show wrap64 ((j : Int) + 1) = ((j + 1 : Nat) : Int) from w64 (by omega) (by omega), rd_clue (i := (j : Int)) (by simpa using hlt)]
    have ht : (l.take (j + 1)).all (fun c => fitV w d (c.f0, c.f1, c.f2) s) = (b && fitV w d (l[j].f0, l[j].f1, l[j].f2) s) := by
      rw [List.take_succ_eq_append_getElem hlt, List.all_append, ← hb]; simp
    cases hbb : b with
    | true =>
      rw [hbb, Bool.true_and] at ht
      exact Ev.yes rfl (Ev.bind (spec_pzFits.ev hl hs (h _ (List.getElem_mem hlt))) (ih (j + 1) _ (by omega) ht.symm))
    | false =>
      rw [hbb, Bool.false_and] at ht
      exact Ev.no (by simp) (ih (j + 1) _ (by omega) ht.symm)
theorem spec_pzAll.lev {w d : Int} (hl : lockB w d = true) (l : List S30) (hln : l.length ≤ 6) (h : ∀ c ∈ l, clueB w d c.f0 c.f1 c.f2 = true) (N : Nat) (hN : (N : Int) ≤ 1000000) : ∀ (m i : Nat), i + m = N → Ev (fun k => spec_pzAll.l0 k l (solA w d l i) (allC w d N) (N : Int) (i : Nat) w d) (solA w d l N) := by
  intro m
  induction m with
  | zero =>
    intro i hi
    refine Ev.step (fun k => rfl) (Ev.no (by omega) (Ev.id ?_))
    rw [show i = N by omega]
  | succ m ih =>
    intro i hi
    have hx := solA_len w d l i
    have hcl : (allC w d N).length = N := by simp [allC]
    refine Ev.step (fun k => rfl) (Ev.yes (by omega) (Ev.yes (by omega) (Ev.yes (by omega) ?_)))
    have hrd : rdOf ByteArray.empty (allC w d N) (i : Int) = codeB w d (i : Nat) := by
      rw [rdOf_at (by rw [hcl]; omega)]; simp [allC]
    rw [hrd]
    refine spec_pzAll.lev1 hl l hln h (codeB_code hl) N i (solA w d l i) _ (allC w d N) ?_ l.length 0 true (by omega) (by simp)
    rw [show wrap64 ((i : Int) + 1) = ((i + 1 : Nat) : Int) from w64 (by omega) (by omega)]
    have hh := ih (i + 1) (by omega)
    rw [solA] at hh
    cases hf : fitA w d l (codeB w d (i : Nat)) with
    | true =>
      rw [hf, if_pos rfl] at hh
      exact Ev.yes rfl (Ev.yes (by omega) hh)
    | false =>
      rw [hf, if_neg (by simp), List.append_nil] at hh
      exact Ev.no (by simp) hh
theorem spec_pzAll.ev {w d : Int} (hl : lockB w d = true) (l : List S30) (hln : l.length ≤ 6) (h : ∀ c ∈ l, clueB w d c.f0 c.f1 c.f2 = true) : Ev (fun k => spec_pzAll.f k w d l) (solA w d l (d ^ w.toNat).toNat) := by
  have hcb := count_bound hl
  unfold spec_pzAll.f
  refine Ev.bind (spec_hiAll.ev hl) ?_
  have := spec_pzAll.lev hl l hln h (d ^ w.toNat).toNat (by omega) (d ^ w.toNat).toNat 0 (by omega)
  rw [show ((allC w d (d ^ w.toNat).toNat).length : Int) = (((d ^ w.toNat).toNat : Nat) : Int) by simp [allC]]
  exact this
theorem puzzleB_parts {w d : Int} {l : List S30} (h : puzzleB w d l = true) : lockB w d = true ∧ l.length ≤ 6 ∧ ∀ c ∈ l, clueB w d c.f0 c.f1 c.f2 = true := by
  unfold puzzleB at h
  rw [Bool.and_eq_true, Bool.and_eq_true] at h
  exact ⟨smallB_lock h.1.1, of_decide_eq_true h.1.2, fun c hc => List.all_eq_true.mp h.2 c hc⟩
theorem impl_Solutions.ev (w d : Int) (l : List S30) : Ev (fun k => impl_Solutions.f k w d l) (if puzzleB w d l = true then (solA w d l (d ^ w.toNat).toNat, true) else ([], false)) := by
  unfold impl_Solutions.f
  refine Ev.bindc (show impl_IsPuzzle.f w d l = some (puzzleB w d l) from rfl) ?_
  cases h : puzzleB w d l with
  | true =>
    obtain ⟨h1, h2, h3⟩ := puzzleB_parts h
    rw [if_pos rfl]
    exact Ev.yes rfl (Ev.bind (impl_Lock_solutions.ev h1 l h3) (Ev.now _))
  | false =>
    rw [if_neg (by simp)]
    exact Ev.no (by simp) (Ev.now _)
end Go.Proofs.Ytagiekcfnmhgjaa.P

namespace Go.Proofs.Ytagiekcfnmhgjaa.P
open Go.RowKit Go.Proofs.YtagiekcfnmhgjaaW.PrintWords Go.Proofs.YtagiekcfnmhgjaaW.PrintLast Go.Proofs.YtagiekcfnmhgjaaW.PrintMore
attribute [local go_sem] max2_int min2_int max_two min_two max_three min_three max_four min_four   -- for this text's walks alone
set_option linter.unusedVariables false
set_option linter.unusedSimpArgs false

/-! spec's clues: what they come to. -/
theorem spec_pzLock.ev (w d : Int) : Ev (fun k => spec_pzLock.f k w d) (smallB w d 125) := by
  unfold spec_pzLock.f
  exact Ev.bind (spec_hiLock.ev w d 125) (Ev.now _)
theorem spec_pzClue.ev (w d a b c : Int) (hl : lockB w d = true) : Ev (fun k => spec_pzClue.f k w d a b c) (clueB w d a b c) := by
  unfold spec_pzClue.f clueB
  obtain ⟨w1, w2, d1, d2⟩ := lockB_iff.mp hl
  have hc := count_bound hl
  simp only [spec_l1In.is, Option.bind_some, w64 (x := w - 1) (by omega) (by omega), w64 (x := d - 1) (by omega) (by omega)]
  refine Ev.both (fun e => ?_) (fun e => ?_)
  · rw [if_pos e]
    exact Ev.both (fun h => Ev.id (by simp [of_decide_eq_true h])) (fun h => Ev.id (by have := decide_eq_false_iff_not.mp (Bool.eq_false_iff.mpr h); simp [this]))
  rw [if_neg e]
  refine Ev.both (fun e => ?_) (fun e => ?_)
  · rw [if_pos e]
    exact Ev.both (fun h => Ev.id (by simp [of_decide_eq_true h])) (fun h => Ev.id (by have := decide_eq_false_iff_not.mp (Bool.eq_false_iff.mpr h); simp [this]))
  rw [if_neg e]
  refine Ev.both (fun e => ?_) (fun e => ?_)
  · rw [if_pos e]
    refine Ev.bind (spec_whCount.ev hl) ?_
    rw [w64 (x := d ^ w.toNat - 1) (by omega) (by omega)]
    exact Ev.both (fun h => Ev.id (by simp [of_decide_eq_true h])) (fun h => Ev.id (by have := decide_eq_false_iff_not.mp (Bool.eq_false_iff.mpr h); simp [this]))
  rw [if_neg e]
  refine Ev.both (fun e => ?_) (fun e => ?_)
  · rw [if_pos e]
    refine Ev.bind (spec_whCount.ev hl) ?_
    rw [w64 (x := d ^ w.toNat - 1) (by omega) (by omega)]
    exact Ev.both (fun h => Ev.id (by simp [of_decide_eq_true h])) (fun h => Ev.id (by have := decide_eq_false_iff_not.mp (Bool.eq_false_iff.mpr h); simp [this]))
  rw [if_neg e]
  refine Ev.both (fun e => ?_) (fun e => ?_)
  · rw [if_pos e]
    refine Ev.both (fun h => ?_) (fun h => Ev.id (by have := decide_eq_false_iff_not.mp (Bool.eq_false_iff.mpr h); simp [this]))
    have h' := of_decide_eq_true h
    rw [w64 (x := b - 1) (by omega) (by omega)]
    exact Ev.id (by simp [h'])
  rw [if_neg e]
  exact Ev.id (by simp)
end Go.Proofs.Ytagiekcfnmhgjaa.P

namespace Go.Proofs.Ytagiekcfnmhgjaa.P
open Go.RowKit Go.Proofs.YtagiekcfnmhgjaaW.PrintWords Go.Proofs.YtagiekcfnmhgjaaW.PrintLast Go.Proofs.YtagiekcfnmhgjaaW.PrintMore
attribute [local go_sem] max2_int min2_int max_two min_two max_three min_three max_four min_four   -- for this text's walks alone
set_option linter.unusedVariables false
set_option linter.unusedSimpArgs false

/-! spec's puzzles: what they come to. -/
theorem spec_pzGood.lev (w d : Int) (hl : lockB w d = true) (l : List S30) (hn : l.length ≤ 9223372036854775807) : ∀ (j : Nat) (i : Int), 0 ≤ i → i ≤ l.length → (l.length : Int) - i = j →
    Ev (fun k => spec_pzGood.l0 k l (l.length : Int) i w d l) ((l.drop i.toNat).all fun c => clueB w d c.f0 c.f1 c.f2) := by
  intro j
  induction j with
  | zero =>
    intro i h0 hi hj
    refine Ev.step (fun k => rfl) (Ev.no (by omega) (Ev.id ?_))
    rw [List.drop_eq_nil_of_le (by omega)]; rfl
  | succ j ih =>
    intro i h0 hi hj
    have hlt : i.toNat < l.length := by omega
    refine Ev.step (fun k => rfl) (Ev.yes (by omega) (Ev.yes h0 (Ev.yes (by omega) ?_)))
    refine Ev.bind (spec_pzClue.ev w d _ _ _ hl) ?_
    rw [List.drop_eq_getElem_cons hlt, List.all_cons, ← rd_clue hlt]
    cases clueB w d (rd_T30 l i).f0 (rd_T30 l i).f1 (rd_T30 l i).f2 with
    | false => exact Ev.no (by simp) (Ev.id (by simp))
    | true =>
      refine Ev.yes rfl ?_
      rw [w64 (x := i + 1) (by omega) (by omega), Bool.true_and, ← toNat_succ h0]
      exact ih (i + 1) (by omega) (by omega) (by omega)
theorem spec_pzGood.ev (w d : Int) (l : List S30) (hn : l.length ≤ 9223372036854775807) : Ev (fun k => spec_pzGood.f k w d l) (puzzleB w d l) := by
  unfold spec_pzGood.f puzzleB
  refine Ev.bind (spec_pzLock.ev w d) ?_
  cases h : smallB w d 125 with
  | false =>
    refine Ev.no (by simp) (Ev.step (fun k => rfl) ?_)
    simp only [spec_pzGood.j0]
    exact Ev.id (by simp)
  | true =>
    refine Ev.yes rfl (Ev.step (fun k => rfl) ?_)
    simp only [spec_pzGood.j0]
    by_cases h6 : l.length ≤ 6
    · refine Ev.no (by simp; omega) ?_
      have := spec_pzGood.lev w d (smallB_lock h) l hn l.length 0 (by omega) (by omega) (by omega)
      simpa [h6] using this
    · exact Ev.yes (by simp; omega) (Ev.id (by simp [h6]))
end Go.Proofs.Ytagiekcfnmhgjaa.P

namespace Go.Proofs.Ytagiekcfnmhgjaa.P
open Go.RowKit Go.Proofs.YtagiekcfnmhgjaaW.PrintWords Go.Proofs.YtagiekcfnmhgjaaW.PrintLast Go.Proofs.YtagiekcfnmhgjaaW.PrintMore
attribute [local go_sem] max2_int min2_int max_two min_two max_three min_three max_four min_four
set_option linter.unusedVariables false
set_option linter.unusedSimpArgs false
/-! ### laws_heldClueS: function 68 -/
def laws_heldClueS.l0 : Nat → List (S30) → Int → Int → Option (Int)
  | 0, _, _, _ => none
  | k + 1, x0, x1, x5 => if x5 < (x0.length : Int) then (if 0 ≤ x5 then (if ((rd_T30 x0 x5).f0) = x1 then (if ((rd_T30 x0 x5).f1) = (wrap64 (x1 + 1)) then (if ((rd_T30 x0 x5).f2) = (wrap64 ((wrap64 (x1 + 1)) + 1)) then (laws_heldClueS.l0 k x0 (wrap64 ((wrap64 ((wrap64 (x1 + 1)) + 1)) + 1)) (wrap64 (x5 + 1))) else (some (-1))) else (some (-1))) else (some (-1))) else (none)) else (some x1)
def laws_heldClueS.f (k : Nat) (l0 : List (S30)) (a1 : Int) : Option (Int) := laws_heldClueS.l0 k l0 a1 0
theorem laws_heldClueS.mono_l : ∀ k, (∀ y0 y1 y2, LeO (laws_heldClueS.l0 k y0 y1 y2) (laws_heldClueS.l0 (k + 1) y0 y1 y2))
  | 0 => fun _ _ _ r h => by simp [laws_heldClueS.l0] at h
  | k + 1 => by
    have ih0 := laws_heldClueS.mono_l k
    · intro y0 y1 y2
      unfold laws_heldClueS.l0
      repeat' first
      | (with_reducible exact ih0 _ _ _)
      | (with_reducible exact LeO.refl _)
      | (with_reducible exact LeO.none _)
      | (with_reducible refine LeO.ite ?_ ?_)
      | (with_reducible refine LeO.bind ?_ (fun _ => ?_))
      | exact ih0 _ _ _
      | exact LeO.none _
      | refine LeO.ite ?_ ?_
      | refine LeO.bind ?_ (fun _ => ?_)
theorem laws_heldClueS.mono : ∀ a0 a1 k, LeO (laws_heldClueS.f k a0 a1) (laws_heldClueS.f (k + 1) a0 a1) := by
  intro a0 a1 k
  have ih0 := laws_heldClueS.mono_l k
  unfold laws_heldClueS.f
  repeat' first
      | (with_reducible exact ih0 _ _ _)
      | (with_reducible exact LeO.refl _)
      | (with_reducible exact LeO.none _)
      | (with_reducible refine LeO.ite ?_ ?_)
      | (with_reducible refine LeO.bind ?_ (fun _ => ?_))
      | exact ih0 _ _ _
      | exact LeO.none _
      | refine LeO.ite ?_ ?_
      | refine LeO.bind ?_ (fun _ => ?_)
set_option maxHeartbeats 8000000 in
set_option maxRecDepth 100000 in
theorem laws_heldClueS.calls (k : Nat) (A0 : Option Addr) (c0 : Nat) (l0 : List (S30)) (a1 : Int) (r : Int) (w : World) (hr0 : Kd.C k30 w A0 l0.length l0) (hc0 : l0.length ≤ c0) (h : laws_heldClueS.f k l0 a1 = some r) :
    Calls Try.prog 68 #[.slice A0 l0.length c0, .int .i64 a1] w fun e w' => e = .returned (.int .i64 r) ∧ Drawn0 w w' := by
  have HR0 := Aside0.mk hr0
  have HC0 := Aside0.mk hc0
  clear hr0 hc0
  have H : (laws_heldClueS.l0 k l0 a1 0) = some r := h
  clear h
  have H' := Aside0.mk H
  clear H
  go_enter Try.func68, Try.ntmps68
  go_wp2
  go_loopg [1, 5] k (fun kq v1 v5 w' => ∃ (x1_1 : Int) (x5_1 : Int), v1 = .int .i64 x1_1 ∧ v5 = .int .i64 x5_1 ∧ Aside0 (laws_heldClueS.l0 kq l0 x1_1 x5_1 = some r) ∧ Aside0 (kq ≤ k) ∧ Drawn0 w w')
  case atStart => exact ⟨(a1), (0), (by first | rfl | (simp; done) | (simp [*]; done)), (by first | rfl | (simp; done) | (simp [*]; done)), H', ⟨Nat.le_refl _⟩, by repeat (first | exact Drawn0.refl _ | apply Drawn0.step)⟩
  case round =>
    clear H'
    try clear p2
    obtain ⟨x1_1, x5_1, rfl, rfl, HA, HK1, ⟨m1, rfl⟩⟩ := hrel
    cases gk with
    | zero => exact absurd HA.out (by simp [laws_heldClueS.l0])
    | succ k1 =>
      have H := HA.out
      clear HA
      simp only [laws_heldClueS.l0] at H
      by_cases c3 : x5_1 < (l0.length : Int)
      · rw [if_pos c3] at H
        have c3b0 : decide (x5_1 < (l0.length : Int)) = true := decide_eq_true c3
        clear c3
        by_cases c4 : 0 ≤ x5_1
        · rw [if_pos c4] at H
          have c4b0 : decide (0 ≤ x5_1) = true := decide_eq_true c4
          clear c4
          by_cases c5 : ((rd_T30 l0 x5_1).f0) = x1_1
          · rw [if_pos c5] at H
            have c5b0 : (((rd_T30 l0 x5_1).f0) == x1_1) = true := beq_iff_eq.mpr c5
            have c5b1 : (((rd_T30 l0 x5_1).f0) != x1_1) = false := bne_eq_false_iff_eq.mpr c5
            clear c5
            by_cases c6 : ((rd_T30 l0 x5_1).f1) = (wrap64 (x1_1 + 1))
            · rw [if_pos c6] at H
              have c6b0 : (((rd_T30 l0 x5_1).f1) == (wrap64 (x1_1 + 1))) = true := beq_iff_eq.mpr c6
              have c6b1 : (((rd_T30 l0 x5_1).f1) != (wrap64 (x1_1 + 1))) = false := bne_eq_false_iff_eq.mpr c6
              clear c6
              by_cases c7 : ((rd_T30 l0 x5_1).f2) = (wrap64 ((wrap64 (x1_1 + 1)) + 1))
              · rw [if_pos c7] at H
                have c7b0 : (((rd_T30 l0 x5_1).f2) == (wrap64 ((wrap64 (x1_1 + 1)) + 1))) = true := beq_iff_eq.mpr c7
                have c7b1 : (((rd_T30 l0 x5_1).f2) != (wrap64 ((wrap64 (x1_1 + 1)) + 1))) = false := bne_eq_false_iff_eq.mpr c7
                clear c7
                have H' := Aside0.mk H
                clear H
                have p353 : 0 ≤ (x5_1 : Int) := of_decide_eq_true (by first | (with_reducible assumption) | assumption)
                have q353 : x5_1 < (l0.length : Int) := of_decide_eq_true (by first | (with_reducible assumption) | assumption)
                obtain ⟨ad353, e353, hx353_0, hx353_1, hx353_2⟩ := at_T30 HR0.out x5_1 p353 q353
                cases e353
                replace p353 := eq_true p353
                replace q353 := eq_true q353
                have p354 : 0 ≤ (x5_1 : Int) := of_decide_eq_true (by first | (with_reducible assumption) | assumption)
                have q354 : x5_1 < (l0.length : Int) := of_decide_eq_true (by first | (with_reducible assumption) | assumption)
                obtain ⟨ad354, e354, hx354_0, hx354_1, hx354_2⟩ := at_T30 HR0.out x5_1 p354 q354
                obtain rfl : ad353 = ad354 := (by injection e354)
                replace p354 := eq_true p354
                replace q354 := eq_true q354
                have p355 : 0 ≤ (x5_1 : Int) := of_decide_eq_true (by first | (with_reducible assumption) | assumption)
                have q355 : x5_1 < (l0.length : Int) := of_decide_eq_true (by first | (with_reducible assumption) | assumption)
                obtain ⟨ad355, e355, hx355_0, hx355_1, hx355_2⟩ := at_T30 HR0.out x5_1 p355 q355
                obtain rfl : ad353 = ad355 := (by injection e355)
                replace p355 := eq_true p355
                replace q355 := eq_true q355
                go_wp2
                go_roundg k1
                case measure => have := HK1.out; omega
                case rel => exact ⟨(wrap64 ((wrap64 ((wrap64 (x1_1 + 1)) + 1)) + 1)), (wrap64 (x5_1 + 1)), (by first | rfl | (simp; done) | (simp [*]; done)), (by first | rfl | (simp; done) | (simp [*]; done)), H', ⟨by have := HK1.out; omega⟩, by repeat (first | exact Drawn0.refl _ | apply Drawn0.step)⟩
              · rw [if_neg c7] at H
                have c7b0 : (((rd_T30 l0 x5_1).f2) == (wrap64 ((wrap64 (x1_1 + 1)) + 1))) = false := beq_eq_false_iff_ne.mpr c7
                have c7b1 : (((rd_T30 l0 x5_1).f2) != (wrap64 ((wrap64 (x1_1 + 1)) + 1))) = true := bne_iff_ne.mpr c7
                obtain rfl := Option.some.inj H
                have p353 : 0 ≤ (x5_1 : Int) := of_decide_eq_true (by first | (with_reducible assumption) | assumption)
                have q353 : x5_1 < (l0.length : Int) := of_decide_eq_true (by first | (with_reducible assumption) | assumption)
                obtain ⟨ad353, e353, hx353_0, hx353_1, hx353_2⟩ := at_T30 HR0.out x5_1 p353 q353
                cases e353
                replace p353 := eq_true p353
                replace q353 := eq_true q353
                have p354 : 0 ≤ (x5_1 : Int) := of_decide_eq_true (by first | (with_reducible assumption) | assumption)
                have q354 : x5_1 < (l0.length : Int) := of_decide_eq_true (by first | (with_reducible assumption) | assumption)
                obtain ⟨ad354, e354, hx354_0, hx354_1, hx354_2⟩ := at_T30 HR0.out x5_1 p354 q354
                obtain rfl : ad353 = ad354 := (by injection e354)
                replace p354 := eq_true p354
                replace q354 := eq_true q354
                have p355 : 0 ≤ (x5_1 : Int) := of_decide_eq_true (by first | (with_reducible assumption) | assumption)
                have q355 : x5_1 < (l0.length : Int) := of_decide_eq_true (by first | (with_reducible assumption) | assumption)
                obtain ⟨ad355, e355, hx355_0, hx355_1, hx355_2⟩ := at_T30 HR0.out x5_1 p355 q355
                obtain rfl : ad353 = ad355 := (by injection e355)
                replace p355 := eq_true p355
                replace q355 := eq_true q355
                go_wp2
                go_ret
                exact ⟨by first | rfl | (simp; done) | (simp [*]; done), by repeat (first | exact Drawn0.refl _ | apply Drawn0.step)⟩
            · rw [if_neg c6] at H
              have c6b0 : (((rd_T30 l0 x5_1).f1) == (wrap64 (x1_1 + 1))) = false := beq_eq_false_iff_ne.mpr c6
              have c6b1 : (((rd_T30 l0 x5_1).f1) != (wrap64 (x1_1 + 1))) = true := bne_iff_ne.mpr c6
              obtain rfl := Option.some.inj H
              have p353 : 0 ≤ (x5_1 : Int) := of_decide_eq_true (by first | (with_reducible assumption) | assumption)
              have q353 : x5_1 < (l0.length : Int) := of_decide_eq_true (by first | (with_reducible assumption) | assumption)
              obtain ⟨ad353, e353, hx353_0, hx353_1, hx353_2⟩ := at_T30 HR0.out x5_1 p353 q353
              cases e353
              replace p353 := eq_true p353
              replace q353 := eq_true q353
              have p354 : 0 ≤ (x5_1 : Int) := of_decide_eq_true (by first | (with_reducible assumption) | assumption)
              have q354 : x5_1 < (l0.length : Int) := of_decide_eq_true (by first | (with_reducible assumption) | assumption)
              obtain ⟨ad354, e354, hx354_0, hx354_1, hx354_2⟩ := at_T30 HR0.out x5_1 p354 q354
              obtain rfl : ad353 = ad354 := (by injection e354)
              replace p354 := eq_true p354
              replace q354 := eq_true q354
              go_wp2
              go_ret
              exact ⟨by first | rfl | (simp; done) | (simp [*]; done), by repeat (first | exact Drawn0.refl _ | apply Drawn0.step)⟩
          · rw [if_neg c5] at H
            have c5b0 : (((rd_T30 l0 x5_1).f0) == x1_1) = false := beq_eq_false_iff_ne.mpr c5
            have c5b1 : (((rd_T30 l0 x5_1).f0) != x1_1) = true := bne_iff_ne.mpr c5
            obtain rfl := Option.some.inj H
            have p353 : 0 ≤ (x5_1 : Int) := of_decide_eq_true (by first | (with_reducible assumption) | assumption)
            have q353 : x5_1 < (l0.length : Int) := of_decide_eq_true (by first | (with_reducible assumption) | assumption)
            obtain ⟨ad353, e353, hx353_0, hx353_1, hx353_2⟩ := at_T30 HR0.out x5_1 p353 q353
            cases e353
            replace p353 := eq_true p353
            replace q353 := eq_true q353
            go_wp2
            go_ret
            exact ⟨by first | rfl | (simp; done) | (simp [*]; done), by repeat (first | exact Drawn0.refl _ | apply Drawn0.step)⟩
        · rw [if_neg c4] at H
          exact absurd H (by simp)
      · rw [if_neg c3] at H
        have c3b0 : decide (x5_1 < (l0.length : Int)) = false := decide_eq_false c3
        clear c3
        obtain rfl := Option.some.inj H
        go_wp2
        go_ret
        exact ⟨by first | rfl | (simp; done) | (simp [*]; done), by repeat (first | exact Drawn0.refl _ | apply Drawn0.step)⟩
end Go.Proofs.Ytagiekcfnmhgjaa.P

namespace Go.Proofs.Ytagiekcfnmhgjaa.P
open Go.RowKit Go.Proofs.YtagiekcfnmhgjaaW.PrintWords Go.Proofs.YtagiekcfnmhgjaaW.PrintLast Go.Proofs.YtagiekcfnmhgjaaW.PrintMore
attribute [local go_sem] max2_int min2_int max_two min_two max_three min_three max_four min_four
set_option linter.unusedVariables false
set_option linter.unusedSimpArgs false
/-! ### laws_heldPuzzle: function 22 -/
def laws_heldPuzzle.f (k : Nat) (a0_0 : Int) (a0_1 : Int) (l0_2 : List (S30)) (a1 : Int) : Option (Int) := (laws_heldClueS.f k l0_2 a1).bind fun t357 => (if t357 < 0 then (some (-1)) else (some t357))
theorem laws_heldPuzzle.mono : ∀ a0 a1 a2 a3 k, LeO (laws_heldPuzzle.f k a0 a1 a2 a3) (laws_heldPuzzle.f (k + 1) a0 a1 a2 a3) := by
  intro a0 a1 a2 a3 k
  unfold laws_heldPuzzle.f
  repeat' first
      | (with_reducible exact laws_heldClueS.mono _ _ _)
      | (with_reducible exact LeO.refl _)
      | (with_reducible exact LeO.none _)
      | (with_reducible refine LeO.ite ?_ ?_)
      | (with_reducible refine LeO.bind ?_ (fun _ => ?_))
      | exact laws_heldClueS.mono _ _ _
      | exact LeO.none _
      | refine LeO.ite ?_ ?_
      | refine LeO.bind ?_ (fun _ => ?_)
set_option maxHeartbeats 8000000 in
set_option maxRecDepth 100000 in
theorem laws_heldPuzzle.calls (k : Nat) (a0_0 : Int) (a0_1 : Int) (A0_2 : Option Addr) (c0_2 : Nat) (l0_2 : List (S30)) (a1 : Int) (r : Int) (w : World) (hr0_2 : Kd.C k30 w A0_2 l0_2.length l0_2) (hc0_2 : l0_2.length ≤ c0_2) (h : laws_heldPuzzle.f k a0_0 a0_1 l0_2 a1 = some r) :
    Calls Try.prog 22 #[.agg #[.int .i64 a0_0, .int .i64 a0_1, .slice A0_2 l0_2.length c0_2], .int .i64 a1] w fun e w' => e = .returned (.int .i64 r) ∧ Below w.heap.size w w' := by
  have hu35 := Try.underlying35
  have HR0_2 := Aside0.mk hr0_2
  have HC0_2 := Aside0.mk hc0_2
  clear hr0_2 hc0_2
  have HB := Aside0.mk (Below.refl w.heap.size w)
  have H : ((laws_heldClueS.f k l0_2 a1).bind fun t357 => (if t357 < 0 then (some (-1)) else (some t357))) = some r := h
  clear h
  replace H := Option.bind_eq_some_iff.mp H
  obtain ⟨t357, A30, H⟩ := H
  replace H : (if t357 < 0 then (some (-1)) else (some t357)) = some r := H
  have A3 := Aside0.mk A30
  clear A30
  by_cases c4 : t357 < 0
  · rw [if_pos c4] at H
    have c4b0 : decide (t357 < 0) = true := decide_eq_true c4
    clear c4
    obtain rfl := Option.some.inj H
    go_enter Try.func22, Try.ntmps22
    go_wp2_with (first | ((with_reducible refine gate_dst (N := 2) rfl ?_); refine box_event ?hg (N := 2) ?hd (cs := #[.int .i64 a0_0, .int .i64 a0_1, .slice A0_2 l0_2.length c0_2]) (t := 35) ?hr ?_; (case hd => rfl); (case hg => rfl); (case hr => first | (go_simp; done) | (go_simp; rfl)); intro gb356 hg w5 hbox hb; have n0_ := Aside0.mk (below_step (by repeat (first | (with_reducible first | exact HB.out | apply below_alloc | apply pw_below_drewN | apply below_drew1) | exact HB.out)) hb); have n1_ := Aside0.mk (hbox); have n2_ := Aside0.mk ((by rw [hg]; exact (below_size (by repeat (first | (with_reducible first | exact HB.out | apply below_alloc | apply pw_below_drewN | apply below_drew1) | exact HB.out))) : w.heap.size ≤ gb356)); have n3_ := Aside0.mk ((by rw [hg]; exact (below_size (by repeat (first | (with_reducible first | exact HB.out | apply below_alloc | apply pw_below_drewN | apply below_drew1) | exact HB.out))) : w.heap.size ≤ gb356)); clear HB; have HB := n0_; have BK356 := n1_; have GW356 := n2_; have GE356 := n3_; clear n0_ n1_ n2_ n3_; clear hb hbox hg; have hcz6_0 : w5.cell? ⟨gb356, 0, none⟩ = some (.int .i64 a0_0) := (blk_cell BK356.out 0).trans rfl; have hcz6_1 : w5.cell? ⟨gb356, 1, none⟩ = some (.int .i64 a0_1) := (blk_cell BK356.out 1).trans rfl; have hcz6_2 : w5.cell? ⟨gb356, 2, none⟩ = some (.slice A0_2 l0_2.length c0_2) := (blk_cell BK356.out 2).trans rfl; have hfz6_0 := blk_frozen BK356.out 0; have hfz6_1 := blk_frozen BK356.out 1; have hfz6_2 := blk_frozen BK356.out 2) | ((with_reducible refine gate_callee (f := 68) rfl ?_); refine goesL_ (some 8) rfl rfl Try.func68 (by kernel_rfl) rfl #[.slice A0_2 l0_2.length c0_2, .int .i64 a1] rfl (by (try simp only [List.map_toArray, List.map_cons, List.map_nil]); first | done | rfl | (simp only [List.length_drop, List.length_take]; rfl)) ?_; (with_reducible refine (laws_heldClueS.calls k _ _ l0_2 a1 t357 _ ?side1 ?side2 A3.out).mono ?_); (case side1 => repeat (first | exact (Kd.C_below HR0_2.out HB.out) | (with_reducible refine Kd.C_alloc ?_ _) | (with_reducible refine Kd.C_drewN ?_ _) | (with_reducible refine Kd.C_drew ?_))); (case side2 => exact HC0_2.out); rintro e w' ⟨rfl, ⟨nd, rfl⟩⟩; refine ⟨_, rfl, ?_⟩))
    go_ret
    exact ⟨by first | rfl | (simp [errW_none, errW_some] <;> rfl) | (simp [*, errW_none, errW_some] <;> rfl), by repeat (first | (with_reducible first | exact HB.out | apply below_alloc | apply pw_below_drewN | apply below_drew1 | refine below_set ?_ GE356.out) | exact HB.out)⟩
  · rw [if_neg c4] at H
    have c4b0 : decide (t357 < 0) = false := decide_eq_false c4
    clear c4
    obtain rfl := Option.some.inj H
    go_enter Try.func22, Try.ntmps22
    go_wp2_with (first | ((with_reducible refine gate_dst (N := 2) rfl ?_); refine box_event ?hg (N := 2) ?hd (cs := #[.int .i64 a0_0, .int .i64 a0_1, .slice A0_2 l0_2.length c0_2]) (t := 35) ?hr ?_; (case hd => rfl); (case hg => rfl); (case hr => first | (go_simp; done) | (go_simp; rfl)); intro gb356 hg w7 hbox hb; have n0_ := Aside0.mk (below_step (by repeat (first | (with_reducible first | exact HB.out | apply below_alloc | apply pw_below_drewN | apply below_drew1) | exact HB.out)) hb); have n1_ := Aside0.mk (hbox); have n2_ := Aside0.mk ((by rw [hg]; exact (below_size (by repeat (first | (with_reducible first | exact HB.out | apply below_alloc | apply pw_below_drewN | apply below_drew1) | exact HB.out))) : w.heap.size ≤ gb356)); have n3_ := Aside0.mk ((by rw [hg]; exact (below_size (by repeat (first | (with_reducible first | exact HB.out | apply below_alloc | apply pw_below_drewN | apply below_drew1) | exact HB.out))) : w.heap.size ≤ gb356)); clear HB; have HB := n0_; have BK356 := n1_; have GW356 := n2_; have GE356 := n3_; clear n0_ n1_ n2_ n3_; clear hb hbox hg; have hcz8_0 : w7.cell? ⟨gb356, 0, none⟩ = some (.int .i64 a0_0) := (blk_cell BK356.out 0).trans rfl; have hcz8_1 : w7.cell? ⟨gb356, 1, none⟩ = some (.int .i64 a0_1) := (blk_cell BK356.out 1).trans rfl; have hcz8_2 : w7.cell? ⟨gb356, 2, none⟩ = some (.slice A0_2 l0_2.length c0_2) := (blk_cell BK356.out 2).trans rfl; have hfz8_0 := blk_frozen BK356.out 0; have hfz8_1 := blk_frozen BK356.out 1; have hfz8_2 := blk_frozen BK356.out 2) | ((with_reducible refine gate_callee (f := 68) rfl ?_); refine goesL_ (some 8) rfl rfl Try.func68 (by kernel_rfl) rfl #[.slice A0_2 l0_2.length c0_2, .int .i64 a1] rfl (by (try simp only [List.map_toArray, List.map_cons, List.map_nil]); first | done | rfl | (simp only [List.length_drop, List.length_take]; rfl)) ?_; (with_reducible refine (laws_heldClueS.calls k _ _ l0_2 a1 t357 _ ?side1 ?side2 A3.out).mono ?_); (case side1 => repeat (first | exact (Kd.C_below HR0_2.out HB.out) | (with_reducible refine Kd.C_alloc ?_ _) | (with_reducible refine Kd.C_drewN ?_ _) | (with_reducible refine Kd.C_drew ?_))); (case side2 => exact HC0_2.out); rintro e w' ⟨rfl, ⟨nd, rfl⟩⟩; refine ⟨_, rfl, ?_⟩))
    go_ret
    exact ⟨by first | rfl | (simp [errW_none, errW_some] <;> rfl) | (simp [*, errW_none, errW_some] <;> rfl), by repeat (first | (with_reducible first | exact HB.out | apply below_alloc | apply pw_below_drewN | apply below_drew1 | refine below_set ?_ GE356.out) | exact HB.out)⟩
end Go.Proofs.Ytagiekcfnmhgjaa.P

namespace Go.Proofs.Ytagiekcfnmhgjaa.P
open Go.RowKit Go.Proofs.YtagiekcfnmhgjaaW.PrintWords Go.Proofs.YtagiekcfnmhgjaaW.PrintLast Go.Proofs.YtagiekcfnmhgjaaW.PrintMore
attribute [local go_sem] max2_int min2_int max_two min_two max_three min_three max_four min_four   -- for this text's walks alone
set_option linter.unusedVariables false
set_option linter.unusedSimpArgs false

/-! Marks on clues, and that they are held. -/
theorem laws_markClueS.lev : ∀ (j : Nat) (l : List S30) (a i : Int), 0 ≤ i → i ≤ l.length → (l.length : Int) - i = j → l.length ≤ 9223372036854775807 → 0 ≤ a → a + 3 * j ≤ 4611686018427387904 →
    ∃ l' : List S30, l'.length = l.length ∧ (∀ m : Nat, (m : Int) < i → l'[m]? = l[m]?) ∧ Ev (fun k => laws_markClueS.l0 k l a i) (a + 3 * j, l') ∧ Ev (fun k => laws_heldClueS.l0 k l' a i) (a + 3 * j) := by
  intro j
  induction j with
  | zero =>
    intro l a i h0 hi hj hn ha hb
    exact ⟨l, rfl, fun _ _ => rfl, Ev.step (fun k => rfl) (Ev.no (by omega) (Ev.id (by simp))), Ev.step (fun k => rfl) (Ev.no (by omega) (Ev.id (by simp)))⟩
  | succ j ih =>
    intro l a i h0 hi hj hn ha hb
    have hlt : i.toNat < l.length := by omega
    have e1 : wrap64 (a + 1) = a + 1 := w64 (by omega) (by omega)
    have e2 : wrap64 (a + 1 + 1) = a + 2 := by rw [w64 (by omega) (by omega)]; omega
    have e3 : wrap64 (a + 2 + 1) = a + 3 := by rw [w64 (by omega) (by omega)]; omega
    have e4 : wrap64 (i + 1) = i + 1 := w64 (by omega) (by omega)
    obtain ⟨l', hl, hk, hm, hh⟩ := ih (l.set i.toNat ⟨a, a + 1, a + 2⟩) (a + 3) (i + 1) (by omega) (by simp; omega) (by simp; omega) (by simpa using hn) (by omega) (by omega)
    rw [List.length_set] at hl
    have hat : l'[i.toNat]? = some ⟨a, a + 1, a + 2⟩ := by
      rw [hk i.toNat (by omega)]
      simp [hlt]
    have hat' : rd_T30 l' i = ⟨a, a + 1, a + 2⟩ := by
      unfold rd_T30
      simp [List.getD, hat]
    refine ⟨l', hl, fun m hmi => ?_, ?_, ?_⟩
    · rw [hk m (by omega), List.getElem?_set_ne (by omega)]
    · refine Ev.step (fun k => rfl) (Ev.yes (by omega) (Ev.yes h0 ?_))
      simp only [Option.bind_some, e1, e2, e3, e4]
      have r1 : ∀ x : S30, rd_T30 (l.set i.toNat x) i = x := fun x => by rw [rd_clue (by simpa using hlt)]; simp
      simp only [r1, List.set_set]
      exact Ev.eq hm (by rw [Prod.mk.injEq]; exact ⟨by omega, rfl⟩)
    · refine Ev.step (fun k => rfl) (Ev.yes (by omega) (Ev.yes h0 ?_))
      simp only [e1, e2, e3, e4, hat']
      exact Ev.yes trivial (Ev.yes trivial (Ev.yes trivial (Ev.eq hh (by omega))))
theorem laws_markPuzzle.ev (w d : Int) (l : List S30) (a : Int) (ha : 0 ≤ a) (hb : a + 3 * l.length ≤ 4611686018427387904) :
    ∃ l' : List S30, Ev (fun k => laws_markPuzzle.f k w d l a) (a + 3 * l.length, l') ∧ Ev (fun k => laws_heldPuzzle.f k w d l' a) (a + 3 * l.length) := by
  obtain ⟨l', _, _, hm, hh⟩ := laws_markClueS.lev l.length l a 0 (by omega) (by omega) (by omega) (by omega) ha hb
  refine ⟨l', ?_, ?_⟩
  · unfold laws_markPuzzle.f laws_markClueS.f
    exact Ev.bind hm (Ev.now _)
  · unfold laws_heldPuzzle.f laws_heldClueS.f
    exact Ev.bind hh (Ev.no (by omega) (Ev.now _))
end Go.Proofs.Ytagiekcfnmhgjaa.P

namespace Go.Proofs.Ytagiekcfnmhgjaa.P
open Go.RowKit Go.Proofs.YtagiekcfnmhgjaaW.PrintWords Go.Proofs.YtagiekcfnmhgjaaW.PrintLast Go.Proofs.YtagiekcfnmhgjaaW.PrintMore
attribute [local go_sem] max2_int min2_int max_two min_two max_three min_three max_four min_four   -- for this text's walks alone
set_option linter.unusedVariables false
set_option linter.unusedSimpArgs false

/-! Marks on texts, that they are held, lists of texts compared. -/
theorem laws_markText.lev : ∀ (n : Nat) (x : Int) (s : ByteArray), 0 ≤ x → x ≤ n → s.size + n ≤ 2000000 → ∃ t, Ev (fun k => laws_markText.l0 k x s) t := by
  intro n
  induction n with
  | zero =>
    intro x s h0 hx hs
    exact ⟨_, Ev.step (fun k => rfl) (Ev.no (by omega) (Ev.yes (by omega) (Ev.now _)))⟩
  | succ n ih =>
    intro x s h0 hx hs
    by_cases e : x > 0
    · have hd : Int.tdiv x 10 = x / 10 := Int.tdiv_eq_ediv_of_nonneg h0
      have hq : wrap64 (Int.tdiv x 10) = x / 10 := by rw [hd]; exact w64 (by omega) (by omega)
      have hsz : (strOfNums [wrap64 (48 + Int.tmod x 10) % 256]).size = 1 := by rw [strOfNums_size]; rfl
      obtain ⟨t, ht⟩ := ih (x / 10) (strOfNums [wrap64 (48 + Int.tmod x 10) % 256] ++ s) (by omega) (by omega) (by rw [ByteArray.size_append, hsz]; omega)
      refine ⟨t, Ev.step (fun k => rfl) (Ev.yes e ?_)⟩
      simp only [Option.bind_some, hq]
      exact Ev.yes (by rw [hsz]; omega) ht
    · exact ⟨_, Ev.step (fun k => rfl) (Ev.no e (Ev.yes (by omega) (Ev.now _)))⟩
theorem laws_markText.ev (a : Int) (h0 : 0 ≤ a) (h1 : a ≤ 1000000) : ∃ t, Ev (fun k => laws_markText.f k a) t := by
  by_cases e : a ≤ 0
  · exact ⟨_, by unfold laws_markText.f; exact Ev.yes e (Ev.now _)⟩
  · obtain ⟨t, ht⟩ := laws_markText.lev a.toNat a ⟨#[]⟩ (by omega) (by omega) (by show 0 + _ ≤ _; omega)
    exact ⟨t, by unfold laws_markText.f; exact Ev.no e ht⟩
theorem laws_eqStringS.lev (l : List ByteArray) (hn : l.length ≤ 1000000) : ∀ (m i : Nat), i + m = l.length → Ev (fun k => laws_eqStringS.l0 k l l (i : Nat)) true := by
  intro m
  induction m with
  | zero => intro i hi; exact Ev.step (fun k => rfl) (Ev.no (by omega) (Ev.now _))
  | succ m ih =>
    intro i hi
    refine Ev.step (fun k => rfl) (Ev.yes (by omega) (Ev.yes (by omega) (Ev.yes (by omega) (Ev.yes rfl ?_))))
    rw [show wrap64 ((i : Int) + 1) = ((i + 1 : Nat) : Int) from w64 (by omega) (by omega)]
    exact ih (i + 1) (by omega)
theorem laws_eqStringS.ev (l : List ByteArray) (hn : l.length ≤ 1000000) : Ev (fun k => laws_eqStringS.f k l l) true := by
  unfold laws_eqStringS.f
  exact Ev.yes rfl (laws_eqStringS.lev l hn l.length 0 (by omega))
theorem laws_markStringS.lev : ∀ (j : Nat) (l : List ByteArray) (a : Int) (i : Nat), i + j = l.length → l.length ≤ 1000 → 0 ≤ a → a + j ≤ 2000 →
    ∃ l' : List ByteArray, l'.length = l.length ∧ (∀ m : Nat, m < i → l'[m]? = l[m]?) ∧ Ev (fun k => laws_markStringS.l0 k l a (i : Nat)) (a + j, l') ∧ Ev (fun k => laws_heldStringS.l0 k l' a (i : Nat)) (a + j) := by
  intro j
  induction j with
  | zero =>
    intro l a i hi hn ha hb
    exact ⟨l, rfl, fun _ _ => rfl, Ev.step (fun k => rfl) (Ev.no (by omega) (Ev.id (by simp))), Ev.step (fun k => rfl) (Ev.no (by omega) (Ev.id (by simp)))⟩
  | succ j ih =>
    intro l a i hi hn ha hb
    have hlt : i < l.length := by omega
    have e1 : wrap64 (a + 1) = a + 1 := w64 (by omega) (by omega)
    have e4 : wrap64 ((i : Int) + 1) = ((i + 1 : Nat) : Int) := w64 (by omega) (by omega)
    obtain ⟨t, ht⟩ := laws_markText.ev a ha (by omega)
    obtain ⟨l', hl, hk, hm, hh⟩ := ih (l.set i t) (a + 1) (i + 1) (by simp; omega) (by simpa using hn) (by omega) (by omega)
    rw [List.length_set] at hl
    have hat : l'[i]? = some t := by
      rw [hk i (by omega)]
      simp [hlt]
    have hat' : rdOf ByteArray.empty l' (i : Nat) = t := by
      unfold rdOf
      simp [List.getD, hat]
    refine ⟨l', hl, fun m hmi => ?_, ?_, ?_⟩
    · rw [hk m (by omega), List.getElem?_set_ne (by omega)]
    · refine Ev.step (fun k => rfl) (Ev.yes (by omega) (Ev.bind ht (Ev.yes (by omega) ?_)))
      rw [e1, e4, Int.toNat_natCast]
      exact Ev.eq hm (by rw [Prod.mk.injEq]; exact ⟨by omega, rfl⟩)
    · refine Ev.step (fun k => rfl) (Ev.yes (by omega) (Ev.yes (by omega) (Ev.bind ht ?_)))
      rw [e1, e4]
      exact Ev.yes (by rw [hat']) (Ev.eq hh (by omega))
theorem laws_markStringS.ev (l : List ByteArray) (hn : l.length ≤ 1000) : ∃ l' : List ByteArray, Ev (fun k => laws_markStringS.f k l 1) (1 + (l.length : Nat), l') ∧ Ev (fun k => laws_heldStringS.f k l' 1) (1 + (l.length : Nat)) := by
  obtain ⟨l', _, _, hm, hh⟩ := laws_markStringS.lev l.length l 1 0 (by omega) hn (by omega) (by omega)
  exact ⟨l', hm, hh⟩
end Go.Proofs.Ytagiekcfnmhgjaa.P

namespace Go.Proofs.Ytagiekcfnmhgjaa.P
open Go.RowKit Go.Proofs.YtagiekcfnmhgjaaW.PrintWords Go.Proofs.YtagiekcfnmhgjaaW.PrintLast Go.Proofs.YtagiekcfnmhgjaaW.PrintMore
attribute [local go_sem] max2_int min2_int max_two min_two max_three min_three max_four min_four   -- for this text's walks alone
set_option linter.unusedVariables false
set_option linter.unusedSimpArgs false

/-! What a readable argument holds, told by kinds: the bridge from a statement's reading to the print's words. -/
open Go.WideShapes in
def Opens {α : Type} (P : Program) (t : TypeId) (d : Kd α) (V : α → Prop) : Prop :=
  ∀ (H : Type) (enc : TypeId × Value → H) (w : World) (base : Nat) (spare : Nat → Bool) (held : Bool) (fuel : Nat) (cs : List Value) (x : DataW H × List MemPlace),
    DataW.trod enc P w base spare held fuel t cs = some x → ∃ a : α, d.K w a cs ∧ V a
def IntV (a : Int) : Prop := -9223372036854775808 ≤ a ∧ a ≤ 9223372036854775807
def StrV (s : ByteArray) : Prop := s.size ≤ 9223372036854775807
def ListV {α : Type} (V : α → Prop) (l : List α) : Prop := l.length ≤ 9223372036854775807 ∧ ∀ x ∈ l, V x
theorem opens_int {P : Program} {t : TypeId} (ht : P.underlying t = some (.int .i64)) : Opens P t (Kd.int .i64) IntV := by
  intro H enc w base spare held fuel cs x h
  obtain ⟨n, rfl, _, hw⟩ := DataW.trod_int ht h
  refine ⟨n, rfl, ?_⟩
  have hb : (IntKind.i64.min ≤ n ∧ n ≤ IntKind.i64.max) := by simpa [Lit.wf] using hw
  have e1 : IntKind.i64.min = -9223372036854775808 := rfl
  have e2 : IntKind.i64.max = 9223372036854775807 := rfl
  rw [e1, e2] at hb
  unfold IntV
  omega
theorem opens_bool {P : Program} {t : TypeId} (ht : P.underlying t = some .bool) : Opens P t Kd.bool (fun _ => True) := by
  intro H enc w base spare held fuel cs x h
  obtain ⟨n, rfl, _⟩ := DataW.trod_bool ht h
  exact ⟨n, rfl, trivial⟩
theorem opens_string {P : Program} {t : TypeId} (ht : P.underlying t = some .string) : Opens P t Kd.string StrV := by
  intro H enc w base spare held fuel cs x h
  obtain ⟨n, rfl, _, hw⟩ := DataW.trod_string ht h
  unfold maxLen at hw
  exact ⟨n, rfl, hw⟩
theorem cells_list {w : World} {base : Nat} {a : Addr} {n : Nat} {cs : List Value} (h : w.cells? base a n = some cs) : cs.length = n ∧ ∀ i u, cs[i]? = some u → w.cell? (a.add i) = some u := by
  unfold World.cells? at h
  split at h
  · have hl := mapM_some_length h
    refine ⟨by simpa using hl, fun i u hu => ?_⟩
    have hi : i < n := by
      have := (List.getElem?_eq_some_iff.1 hu).1
      rw [hl] at this; simpa using this
    have := mapM_some_get h i i (by simp [hi])
    rw [hu] at this
    exact this
  · cases h
theorem opens_slice {α : Type} {P : Program} {t e : TypeId} {d : Kd α} {V : α → Prop} (ht : P.underlying t = some (.slice e)) (hd : Opens P e d V) (hsz : P.cellsOf e = d.sz) : Opens P t (Kd.slice e d) (ListV V) := by
  intro H enc w base spare held fuel cs x h
  rcases Go.Deep.open_slice ht h with ⟨rfl, _⟩ | ⟨a, len, cap, m, n, D, Pl, rfl, _, hl, hm, hmm, _, hel⟩
  · exact ⟨[], ⟨none, 0, rfl, Nat.le_refl _, ⟨rfl, by simp, fun h0 => absurd h0 (by simp)⟩⟩, ⟨by simp, fun x hx => by simp at hx⟩⟩
  · have hle : len ≤ m := by rw [hmm]; split <;> omega
    have each : ∀ i : Nat, ∃ a' : Option α, i < len → ∃ z cs', a' = some z ∧ V z ∧ d.K w z cs' ∧ ∀ j u, cs'[j]? = some u → w.cell? (a.add (i * d.sz + j)) = some u := by
      intro i
      by_cases hi : i < len
      · obtain ⟨cs', h1, h2⟩ := hel i (by omega)
        obtain ⟨z, hK, hV⟩ := hd H enc w base spare held n cs' _ h2
        refine ⟨some z, fun _ => ⟨z, cs', rfl, hV, hK, fun j u hu => ?_⟩⟩
        obtain ⟨_, hc⟩ := cells_list h1
        have := hc j u hu
        rw [Go.Deep.add_add, hsz] at this
        exact this
      · exact ⟨none, fun h0 => absurd h0 hi⟩
    have ⟨f, hf⟩ := Classical.axiomOfChoice each
    have hz : ∀ i, i < len → ∃ z, f i = some z ∧ V z ∧ ∃ cs', d.K w z cs' ∧ ∀ j u, cs'[j]? = some u → w.cell? (a.add (i * d.sz + j)) = some u := by
      intro i hi
      obtain ⟨z, cs', h1, h2, h3, h4⟩ := hf i hi
      exact ⟨z, h1, h2, cs', h3, h4⟩
    have hlist : ∃ l : List α, l.length = len ∧ ∀ i, i < len → f i = l[i]? := by
      clear hf each hel hmm hle
      have : ∀ n, n ≤ len → ∃ l : List α, l.length = n ∧ ∀ i, i < n → f i = l[i]? := by
        intro n
        induction n with
        | zero => intro _; exact ⟨[], rfl, fun i hi => by omega⟩
        | succ n ih =>
          intro hn
          obtain ⟨l, hl1, hl2⟩ := ih (by omega)
          obtain ⟨z, h1, _⟩ := hz n (by omega)
          refine ⟨l ++ [z], by simp [hl1], fun i hi => ?_⟩
          by_cases e : i < n
          · rw [List.getElem?_append_left (by omega)]; exact hl2 i e
          · obtain rfl : i = n := by omega
            rw [h1, ← hl1]; simp
      exact this len (Nat.le_refl _)
    obtain ⟨l, hlen, hget⟩ := hlist
    have hV : ∀ x ∈ l, V x := by
      intro x hx
      obtain ⟨i, hi, rfl⟩ := List.getElem_of_mem hx
      obtain ⟨z, h1, h2, _⟩ := hz i (by omega)
      have h3 := hget i (by omega)
      rw [h1, List.getElem?_eq_getElem hi] at h3
      injection h3 with h3
      rw [← h3]; exact h2
    unfold maxLen at hm
    subst hlen
    refine ⟨l, ⟨some a, cap, rfl, hl, ⟨rfl, by omega, fun _ => ⟨a, rfl, fun j p hp => ?_⟩⟩⟩, ⟨by omega, hV⟩⟩
    have hj : j < l.length := (List.getElem?_eq_some_iff.1 hp).1
    obtain ⟨z, h1, _, cs', h3, h4⟩ := hz j hj
    have h5 := hget j hj
    rw [h1, hp] at h5
    injection h5 with h5
    subst h5
    exact ⟨cs', d.K_len h3, h3, h4⟩
theorem opens_pair {α β : Type} {P : Program} {t : TypeId} {f0 f1 : Field} {d0 : Kd α} {d1 : Kd β} {V0 : α → Prop} {V1 : β → Prop} (ht : P.underlying t = some (.struct #[f0, f1]))
    (h0 : Opens P f0.type d0 V0) (h1 : Opens P f1.type d1 V1) (o0 : f0.offset = 0) (o1 : f1.offset = d0.sz) (z0 : P.cellsOf f0.type = d0.sz) (z1 : P.cellsOf f1.type = d1.sz) (zt : P.cellsOf t = d0.sz + d1.sz) :
    Opens P t (Kd.pair d0 d1) (fun x => V0 x.1 ∧ V1 x.2) := by
  intro H enc w base spare held fuel cs x h
  obtain ⟨y0, y1, n, _, hl, g0, g1⟩ := ChangeShapes.trod_struct2 ht h
  rw [o0, z0, List.drop_zero] at g0
  rw [o1, z1] at g1
  obtain ⟨a, ka, va⟩ := h0 H enc w base spare held n _ _ g0
  obtain ⟨b, kb, vb⟩ := h1 H enc w base spare held n _ _ g1
  refine ⟨(a, b), ⟨_, _, ?_, ka, kb⟩, va, vb⟩
  rw [List.take_of_length_le (l := cs.drop d0.sz) (by rw [List.length_drop, hl, zt]; omega), List.take_append_drop]
theorem opens_trip {α β γ : Type} {P : Program} {t : TypeId} {f0 f1 f2 : Field} {d0 : Kd α} {d1 : Kd β} {d2 : Kd γ} {V0 : α → Prop} {V1 : β → Prop} {V2 : γ → Prop} (ht : P.underlying t = some (.struct #[f0, f1, f2]))
    (h0 : Opens P f0.type d0 V0) (h1 : Opens P f1.type d1 V1) (h2 : Opens P f2.type d2 V2) (o0 : f0.offset = 0) (o1 : f1.offset = d0.sz) (o2 : f2.offset = d0.sz + d1.sz)
    (z0 : P.cellsOf f0.type = d0.sz) (z1 : P.cellsOf f1.type = d1.sz) (z2 : P.cellsOf f2.type = d2.sz) (zt : P.cellsOf t = d0.sz + d1.sz + d2.sz) :
    Opens P t (Kd.pair d0 (Kd.pair d1 d2)) (fun x => V0 x.1 ∧ V1 x.2.1 ∧ V2 x.2.2) := by
  intro H enc w base spare held fuel cs x h
  obtain ⟨xs, n, _, _, hl, hxl, hf⟩ := DataW.trod_struct ht h
  match xs, hxl with
  | [y0, y1, y2], _ =>
    have g0 := hf 0 f0 rfl
    have g1 := hf 1 f1 rfl
    have g2 := hf 2 f2 rfl
    rw [o0, z0, List.drop_zero] at g0
    rw [o1, z1] at g1
    rw [o2, z2] at g2
    obtain ⟨a, ka, va⟩ := h0 H enc w base spare held n _ _ g0
    obtain ⟨b, kb, vb⟩ := h1 H enc w base spare held n _ _ g1
    obtain ⟨c, kc, vc⟩ := h2 H enc w base spare held n _ _ g2
    refine ⟨(a, b, c), ⟨_, _, ?_, ka, ⟨_, _, rfl, kb, kc⟩⟩, va, vb, vc⟩
    rw [List.take_of_length_le (l := cs.drop (d0.sz + d1.sz)) (by rw [List.length_drop, hl, zt]; omega)]
    rw [← List.drop_drop, List.take_append_drop, List.take_append_drop]
theorem opens_iso {α β : Type} {P : Program} {t : TypeId} {d : Kd α} {V : α → Prop} (h : Opens P t d V) (f : β → α) (g : α → β) (e : ∀ a, f (g a) = a) : Opens P t (Kd.iso d f) (fun x => V (f x)) := by
  intro H enc w base spare held fuel cs x hx
  obtain ⟨a, ka, va⟩ := h H enc w base spare held fuel cs x hx
  exact ⟨g a, by show d.K w (f (g a)) cs; rw [e]; exact ka, by show V (f (g a)); rw [e]; exact va⟩
theorem opens_mono {α : Type} {P : Program} {t : TypeId} {d : Kd α} {V V' : α → Prop} (h : Opens P t d V) (hv : ∀ a, V a → V' a) : Opens P t d V' := by
  intro H enc w base spare held fuel cs x hx
  obtain ⟨a, ka, va⟩ := h H enc w base spare held fuel cs x hx
  exact ⟨a, ka, hv a va⟩
section
variable {H : Type} {enc : TypeId × Value → H} {P : Program} {w : World} {base : Nat} {spare : Nat → Bool} {held : Bool} {r : Reach} {b0 : Nat} {t : TypeId} {v : Value} {x : DataW H} {p : List MemPlace}
theorem arg_struct {α : Type} {d : Kd α} {V : α → Prop} (ho : Opens P t d V) {fs : Array Field} (hs : P.underlying t = some (.struct fs)) (hv : Value.okWide P w r b0 t v) (h : DataW.Trod enc P w base spare held t v x p) :
    ∃ a cs, v = .agg (List.toArray cs) ∧ d.K w a cs ∧ V a := by
  obtain ⟨cs, rfl, _⟩ := WideShapes.okWide_struct hs hv
  obtain ⟨fuel, hf⟩ := h
  obtain ⟨a, hk, hV⟩ := ho H enc w base spare held fuel _ _ hf
  exact ⟨a, cs.toList, by simp, by simpa [Value.cells] using hk, hV⟩
theorem arg_slice {α : Type} {d : Kd α} {e : TypeId} {V : List α → Prop} (ho : Opens P t (Kd.slice e d) V) (ht : P.underlying t = some (.slice e)) (hv : Value.okWide P w r b0 t v) (h : DataW.Trod enc P w base spare held t v x p) :
    ∃ A l c, v = .slice A (List.length l) c ∧ l.length ≤ c ∧ d.C w A l.length l ∧ V l := by
  obtain ⟨a, len, cap, rfl⟩ := WideShapes.okWide_slice ht hv
  obtain ⟨fuel, hf⟩ := h
  obtain ⟨l, ⟨A, c, hc, hl, hC⟩, hV⟩ := ho H enc w base spare held fuel _ _ hf
  simp only [Value.cells, List.cons.injEq, and_true] at hc
  injection hc with e1 e2 e3
  subst e1 e2 e3
  exact ⟨_, l, _, rfl, hl, hC, hV⟩
theorem arg_int (ht : P.underlying t = some (.int .i64)) (hv : Value.okWide P w r b0 t v) (h : DataW.Trod enc P w base spare held t v x p) : ∃ a, v = .int .i64 a ∧ IntV a := by
  obtain ⟨a, rfl, _, _, hw⟩ := ChangeShapes.open_int ht hv h
  have hb : (IntKind.i64.min ≤ a ∧ a ≤ IntKind.i64.max) := by simpa [Lit.wf] using hw
  exact ⟨a, rfl, hb.1, hb.2⟩
theorem arg_bool (ht : P.underlying t = some .bool) (hv : Value.okWide P w r b0 t v) (h : DataW.Trod enc P w base spare held t v x p) : ∃ a, v = .bool a := by
  obtain ⟨a, rfl, _, _⟩ := RowKit.open_bool ht hv h
  exact ⟨a, rfl⟩
theorem arg_string (ht : P.underlying t = some .string) (hv : Value.okWide P w r b0 t v) (h : DataW.Trod enc P w base spare held t v x p) : ∃ a, v = .string a ∧ StrV a := by
  obtain ⟨a, rfl, _, _, hw⟩ := ChangeMaps.open_string ht hv h
  unfold maxLen at hw
  exact ⟨a, rfl, hw⟩
theorem arg_lt (h : DataW.Trod enc P w base spare held t v x p) : ∀ y ∈ p, y.block < w.heap.size := by
  obtain ⟨m, hm⟩ := h
  exact DataW.trod_lt m _ _ _ hm
end
end Go.Proofs.Ytagiekcfnmhgjaa.P

namespace Go.Proofs.Ytagiekcfnmhgjaa.P
open Go.RowKit Go.Proofs.YtagiekcfnmhgjaaW.PrintWords Go.Proofs.YtagiekcfnmhgjaaW.PrintLast Go.Proofs.YtagiekcfnmhgjaaW.PrintMore
attribute [local go_sem] max2_int min2_int max_two min_two max_three min_three max_four min_four   -- for this text's walks alone
set_option linter.unusedVariables false
set_option linter.unusedSimpArgs false

theorem opens_t3 : Opens Try.prog 3 (Kd.int .i64) IntV := opens_int Try.underlying3
def V23 (x : S23) : Prop := IntV x.f0 ∧ IntV x.f1
theorem opens_t23 : Opens Try.prog 23 k23 V23 := opens_iso (opens_pair Try.underlying23 opens_t3 opens_t3 (by kernel_rfl) (by kernel_rfl) (by kernel_rfl) (by kernel_rfl) (by kernel_rfl)) (fun x : S23 => (x.f0, x.f1)) (fun p => ⟨p.1, p.2⟩) (fun _ => rfl)
def V25 (x : S25) : Prop := IntV x.f0 ∧ IntV x.f1 ∧ IntV x.f2
theorem opens_t25 : Opens Try.prog 25 k25 V25 := opens_iso (opens_trip Try.underlying25 opens_t3 opens_t3 opens_t3 (by kernel_rfl) (by kernel_rfl) (by kernel_rfl) (by kernel_rfl) (by kernel_rfl) (by kernel_rfl) (by kernel_rfl)) (fun x : S25 => (x.f0, x.f1, x.f2)) (fun p => ⟨p.1, p.2.1, p.2.2⟩) (fun _ => rfl)
theorem opens_t9 : Opens Try.prog 9 Kd.string StrV := opens_string Try.underlying9
theorem opens_t41 : Opens Try.prog 41 (Kd.slice 25 k25) (ListV V25) := opens_slice Try.underlying41 opens_t25 (by kernel_rfl)
def V43 (x : S43) : Prop := V23 x.f0 ∧ (ListV V25) x.f1
theorem opens_t43 : Opens Try.prog 43 k43 V43 := opens_iso (opens_pair Try.underlying43 opens_t23 opens_t41 (by kernel_rfl) (by kernel_rfl) (by kernel_rfl) (by kernel_rfl) (by kernel_rfl)) (fun x : S43 => (x.f0, x.f1)) (fun p => ⟨p.1, p.2⟩) (fun _ => rfl)
end Go.Proofs.Ytagiekcfnmhgjaa.P

namespace Go.Proofs.Ytagiekcfnmhgjaa.P
open Go.RowKit Go.Proofs.YtagiekcfnmhgjaaW.PrintWords Go.Proofs.YtagiekcfnmhgjaaW.PrintLast Go.Proofs.YtagiekcfnmhgjaaW.PrintMore
attribute [local go_sem] max2_int min2_int max_two min_two max_three min_three max_four min_four   -- for this text's walks alone
set_option linter.unusedVariables false
set_option linter.unusedSimpArgs false

/-! The law FnExactSolutions, over numbers and lists alone. -/
def solR (w d : Int) (l : List S30) : List ByteArray × Bool := if puzzleB w d l = true then (solA w d l (d ^ w.toNat).toNat, true) else ([], false)
theorem solR_len (w d : Int) (l : List S30) : (solR w d l).1.length ≤ 1000 := by
  unfold solR
  cases h : puzzleB w d l with
  | true =>
    have h2 : smallB w d 125 = true := by unfold puzzleB at h; rw [Bool.and_eq_true, Bool.and_eq_true] at h; exact h.1.1
    have := (smallB_iff.mp h2).2
    have := solA_len w d l (d ^ w.toNat).toNat
    rw [if_pos rfl]; show (solA w d l (d ^ w.toNat).toNat).length ≤ _; omega
  | false => simp
theorem spec_Solutions.ev (w d : Int) (l : List S30) (hn : l.length ≤ 9223372036854775807) : Ev (fun k => spec_Solutions.f k w d l) (solR w d l) := by
  unfold spec_Solutions.f solR
  refine Ev.bind (spec_pzGood.ev w d l hn) ?_
  cases h : puzzleB w d l with
  | true =>
    obtain ⟨h1, h2, h3⟩ := puzzleB_parts h
    rw [if_pos rfl]
    exact Ev.yes rfl (Ev.bind (spec_pzAll.ev h1 l h2 h3) (Ev.now _))
  | false =>
    rw [if_neg (by simp)]
    exact Ev.no (by simp) (Ev.now _)
theorem impl_Solutions.evR (w d : Int) (l : List S30) : Ev (fun k => impl_Solutions.f k w d l) (solR w d l) := impl_Solutions.ev w d l
theorem pure_FnExactSolutions (p : S43) (hp : V43 p) : ∃ k, laws_FnExactSolutions.f k p.f0.f0 p.f0.f1 p.f1 = some true := by
  refine Ev.rounds ?_
  obtain ⟨_, hn, _⟩ := hp
  unfold laws_FnExactSolutions.f
  refine Ev.bindc (laws_szPuzzle.is _ _ _ hn) ?_
  by_cases hl : (p.f1.length : Int) ≤ 1048576
  · rw [if_pos hl]
    have hto := laws_toPuzzle.ev p.f0.f0 p.f0.f1 p.f1 (by omega)
    have hlen := solR_len p.f0.f0 p.f0.f1 (p.f1.map clueOf)
    have him := impl_Solutions.evR p.f0.f0 p.f0.f1 (p.f1.map clueOf)
    have heq := laws_eqStringS.ev (solR p.f0.f0 p.f0.f1 (p.f1.map clueOf)).1 (by omega)
    have hpz := laws_eqPuzzle.ev p.f0.f0 p.f0.f1 (p.f1.map clueOf) (by simpa using hn)
    refine Ev.no (by omega) ?_
    refine Ev.bind hto (Ev.bind (spec_Solutions.ev _ _ _ (by simpa using hn)) (Ev.bind hto (Ev.bind him (Ev.bind heq (Ev.yes rfl ?_)))))
    refine Ev.step (fun k => rfl) ?_
    simp only [laws_FnExactSolutions.j0]
    refine Ev.no (by simp) (Ev.bind hto (Ev.bind hpz (Ev.yes rfl ?_)))
    obtain ⟨x', hx1, hx2⟩ := laws_markPuzzle.ev p.f0.f0 p.f0.f1 (p.f1.map clueOf) 1 (by omega) (by simp; omega)
    refine Ev.bind hx1 (Ev.no (by simp; omega) (Ev.bind heq (Ev.yes rfl ?_)))
    refine Ev.step (fun k => rfl) ?_
    simp only [laws_FnExactSolutions.j1]
    obtain ⟨g', hg1, hg2⟩ := laws_markStringS.ev _ hlen
    refine Ev.no (by simp) (Ev.bind hg1 (Ev.bind hg2 (Ev.no (by omega) (Ev.yes rfl ?_))))
    refine Ev.bind hto (Ev.bind him (Ev.bind heq (Ev.yes rfl ?_)))
    refine Ev.step (fun k => rfl) ?_
    simp only [laws_FnExactSolutions.j2]
    exact Ev.no (by simp) (Ev.bind hg2 (Ev.no (by omega) (Ev.yes rfl (Ev.now _))))
  · rw [if_neg hl]
    exact Ev.yes (by omega) (Ev.now _)
end Go.Proofs.Ytagiekcfnmhgjaa.P
