import Derived.Test.YtjjcppkehldmoaaKFnExactDropClueA0
import Derived.Test.YtjjcppkehldmoaaKFnExactDropClueA1
import Derived.Test.YtjjcppkehldmoaaKFnExactDropClueA2
import Derived.ProofKit
import Derived.Lib.SmallJoins
import Derived.Deep.Slices
namespace Go.Proofs.Ytjjcppkehldmoaa.P
open Go.RowKit Go.Proofs.YtjjcppkehldmoaaW.PrintWords Go.Proofs.YtjjcppkehldmoaaW.PrintLast Go.Proofs.YtjjcppkehldmoaaW.PrintMore
attribute [local go_sem] max2_int min2_int max_two min_two max_three min_three max_four min_four
set_option linter.unusedVariables false
set_option linter.unusedSimpArgs false
/-! ### laws_FnExactDropClue: function 8 -/
mutual
def laws_FnExactDropClue.j0 : Nat → Int → Bool → Bool → Bool → Int → Int → List (S25) → Int → Int → List (S29) → Int → Int → List (S29) → Int → Int → List (S29) → Option (Bool)
  | 0, _, _, _, _, _, _, _, _, _, _, _, _, _, _, _, _ => none
  | k + 1, x1, x7, x10, x44, x489000, x489001, x489002, x502000, x502001, x502002, x508000, x508001, x508002, x515000, x515001, x515002 => if x44 = true then (some false) else ((laws_toPuzzle.f k x489000 x489001 x489002).bind fun bt516 => ((laws_eqPuzzle.f k x508000 x508001 x508002 bt516.1 bt516.2.1 bt516.2.2).bind fun t521 => (if t521 = true then ((laws_markPuzzle.f k x508000 x508001 x508002 1).bind fun bt522 => (if bt522.1 < 0 then (laws_FnExactDropClue.j1 k x1 x7 true x489000 x489001 x489002 x502000 x502001 x502002 x515000 x515001 x515002) else ((laws_eqPuzzle.f k x515000 x515001 x515002 x502000 x502001 x502002).bind fun t524 => (if t524 = true then (laws_FnExactDropClue.j1 k x1 x7 (x10 != x7) x489000 x489001 x489002 x502000 x502001 x502002 x515000 x515001 x515002) else (laws_FnExactDropClue.j1 k x1 x7 true x489000 x489001 x489002 x502000 x502001 x502002 x515000 x515001 x515002))))) else (some false))))
def laws_FnExactDropClue.j1 : Nat → Int → Bool → Bool → Int → Int → List (S25) → Int → Int → List (S29) → Int → Int → List (S29) → Option (Bool)
  | 0, _, _, _, _, _, _, _, _, _, _, _, _ => none
  | k + 1, x1, x7, x65, x489000, x489001, x489002, x502000, x502001, x502002, x515000, x515001, x515002 => if x65 = true then (some false) else ((laws_markPuzzle.f k x515000 x515001 x515002 1).bind fun bt525 => ((laws_heldPuzzle.f k x515000 x515001 bt525.2 1).bind fun t527 => (if t527 < 0 then (some false) else (if t527 = bt525.1 then ((laws_toPuzzle.f k x489000 x489001 x489002).bind fun bt528 => ((impl_DropClue.f bt528.1 bt528.2.1 bt528.2.2 x1).bind fun bt533 => ((laws_eqPuzzle.f k bt533.1 bt533.2.1 bt533.2.2.1 x502000 x502001 x502002).bind fun t540 => (if t540 = true then (laws_FnExactDropClue.j2 k bt525.1 (bt533.2.2.2 != x7) x515000 x515001 bt525.2) else (laws_FnExactDropClue.j2 k bt525.1 true x515000 x515001 bt525.2))))) else (some false)))))
def laws_FnExactDropClue.j2 : Nat → Int → Bool → Int → Int → List (S29) → Option (Bool)
  | 0, _, _, _, _, _ => none
  | k + 1, x12, x92, x515000, x515001, x515002 => if x92 = true then (some false) else ((laws_heldPuzzle.f k x515000 x515001 x515002 1).bind fun t541 => (if t541 < 0 then (some false) else (if t541 = x12 then (some true) else (some false))))
end
def laws_FnExactDropClue.f (k : Nat) (a0_0 : Int) (a0_1 : Int) (l0_2 : List (S25)) (a1 : Int) : Option (Bool) := (laws_szPuzzle.f a0_0 a0_1 l0_2 1048576).bind fun t489 => (if t489 < 0 then (some true) else ((laws_toPuzzle.f k a0_0 a0_1 l0_2).bind fun bt490 => ((spec_DropClue.f k bt490.1 bt490.2.1 bt490.2.2 a1).bind fun bt495 => ((laws_toPuzzle.f k a0_0 a0_1 l0_2).bind fun bt502 => ((impl_DropClue.f bt502.1 bt502.2.1 bt502.2.2 a1).bind fun bt508 => ((laws_eqPuzzle.f k bt508.1 bt508.2.1 bt508.2.2.1 bt495.1 bt495.2.1 bt495.2.2.1).bind fun t515 => (if t515 = true then (laws_FnExactDropClue.j0 k a1 bt495.2.2.2 bt508.2.2.2 (bt508.2.2.2 != bt495.2.2.2) a0_0 a0_1 l0_2 bt495.1 bt495.2.1 bt495.2.2.1 bt502.1 bt502.2.1 bt502.2.2 bt508.1 bt508.2.1 bt508.2.2.1) else (laws_FnExactDropClue.j0 k a1 bt495.2.2.2 bt508.2.2.2 true a0_0 a0_1 l0_2 bt495.1 bt495.2.1 bt495.2.2.1 bt502.1 bt502.2.1 bt502.2.2 bt508.1 bt508.2.1 bt508.2.2.1))))))))
theorem laws_FnExactDropClue.mono_l : ∀ k, (∀ y0 y1 y2 y3 y4 y5 y6 y7 y8 y9 y10 y11 y12 y13 y14 y15, LeO (laws_FnExactDropClue.j0 k y0 y1 y2 y3 y4 y5 y6 y7 y8 y9 y10 y11 y12 y13 y14 y15) (laws_FnExactDropClue.j0 (k + 1) y0 y1 y2 y3 y4 y5 y6 y7 y8 y9 y10 y11 y12 y13 y14 y15)) ∧ (∀ y0 y1 y2 y3 y4 y5 y6 y7 y8 y9 y10 y11, LeO (laws_FnExactDropClue.j1 k y0 y1 y2 y3 y4 y5 y6 y7 y8 y9 y10 y11) (laws_FnExactDropClue.j1 (k + 1) y0 y1 y2 y3 y4 y5 y6 y7 y8 y9 y10 y11)) ∧ (∀ y0 y1 y2 y3 y4, LeO (laws_FnExactDropClue.j2 k y0 y1 y2 y3 y4) (laws_FnExactDropClue.j2 (k + 1) y0 y1 y2 y3 y4))
  | 0 => ⟨fun _ _ _ _ _ _ _ _ _ _ _ _ _ _ _ _ r h => by simp [laws_FnExactDropClue.j0] at h, fun _ _ _ _ _ _ _ _ _ _ _ _ r h => by simp [laws_FnExactDropClue.j1] at h, fun _ _ _ _ _ r h => by simp [laws_FnExactDropClue.j2] at h⟩
  | k + 1 => by
    obtain ⟨ih0, ih1, ih2⟩ := laws_FnExactDropClue.mono_l k
    refine ⟨?_, ?_, ?_⟩
    · intro y0 y1 y2 y3 y4 y5 y6 y7 y8 y9 y10 y11 y12 y13 y14 y15
      unfold laws_FnExactDropClue.j0
      repeat' first
      | (with_reducible exact ih0 _ _ _ _ _ _ _ _ _ _ _ _ _ _ _ _)
      | (with_reducible exact ih1 _ _ _ _ _ _ _ _ _ _ _ _)
      | (with_reducible exact ih2 _ _ _ _ _)
      | (with_reducible exact laws_eqPuzzle.mono _ _ _ _ _ _ _)
      | (with_reducible exact laws_heldPuzzle.mono _ _ _ _ _)
      | (with_reducible exact laws_markPuzzle.mono _ _ _ _ _)
      | (with_reducible exact laws_toPuzzle.mono _ _ _ _)
      | (with_reducible exact spec_DropClue.mono _ _ _ _ _)
      | (with_reducible exact LeO.refl _)
      | (with_reducible exact LeO.none _)
      | (with_reducible refine LeO.ite ?_ ?_)
      | (with_reducible refine LeO.bind ?_ (fun _ => ?_))
      | exact ih0 _ _ _ _ _ _ _ _ _ _ _ _ _ _ _ _
      | exact ih1 _ _ _ _ _ _ _ _ _ _ _ _
      | exact ih2 _ _ _ _ _
      | exact laws_eqPuzzle.mono _ _ _ _ _ _ _
      | exact laws_heldPuzzle.mono _ _ _ _ _
      | exact laws_markPuzzle.mono _ _ _ _ _
      | exact laws_toPuzzle.mono _ _ _ _
      | exact spec_DropClue.mono _ _ _ _ _
      | exact LeO.none _
      | refine LeO.ite ?_ ?_
      | refine LeO.bind ?_ (fun _ => ?_)
    · intro y0 y1 y2 y3 y4 y5 y6 y7 y8 y9 y10 y11
      unfold laws_FnExactDropClue.j1
      repeat' first
      | (with_reducible exact ih0 _ _ _ _ _ _ _ _ _ _ _ _ _ _ _ _)
      | (with_reducible exact ih1 _ _ _ _ _ _ _ _ _ _ _ _)
      | (with_reducible exact ih2 _ _ _ _ _)
      | (with_reducible exact laws_eqPuzzle.mono _ _ _ _ _ _ _)
      | (with_reducible exact laws_heldPuzzle.mono _ _ _ _ _)
      | (with_reducible exact laws_markPuzzle.mono _ _ _ _ _)
      | (with_reducible exact laws_toPuzzle.mono _ _ _ _)
      | (with_reducible exact spec_DropClue.mono _ _ _ _ _)
      | (with_reducible exact LeO.refl _)
      | (with_reducible exact LeO.none _)
      | (with_reducible refine LeO.ite ?_ ?_)
      | (with_reducible refine LeO.bind ?_ (fun _ => ?_))
      | exact ih0 _ _ _ _ _ _ _ _ _ _ _ _ _ _ _ _
      | exact ih1 _ _ _ _ _ _ _ _ _ _ _ _
      | exact ih2 _ _ _ _ _
      | exact laws_eqPuzzle.mono _ _ _ _ _ _ _
      | exact laws_heldPuzzle.mono _ _ _ _ _
      | exact laws_markPuzzle.mono _ _ _ _ _
      | exact laws_toPuzzle.mono _ _ _ _
      | exact spec_DropClue.mono _ _ _ _ _
      | exact LeO.none _
      | refine LeO.ite ?_ ?_
      | refine LeO.bind ?_ (fun _ => ?_)
    · intro y0 y1 y2 y3 y4
      unfold laws_FnExactDropClue.j2
      repeat' first
      | (with_reducible exact ih0 _ _ _ _ _ _ _ _ _ _ _ _ _ _ _ _)
      | (with_reducible exact ih1 _ _ _ _ _ _ _ _ _ _ _ _)
      | (with_reducible exact ih2 _ _ _ _ _)
      | (with_reducible exact laws_eqPuzzle.mono _ _ _ _ _ _ _)
      | (with_reducible exact laws_heldPuzzle.mono _ _ _ _ _)
      | (with_reducible exact laws_markPuzzle.mono _ _ _ _ _)
      | (with_reducible exact laws_toPuzzle.mono _ _ _ _)
      | (with_reducible exact spec_DropClue.mono _ _ _ _ _)
      | (with_reducible exact LeO.refl _)
      | (with_reducible exact LeO.none _)
      | (with_reducible refine LeO.ite ?_ ?_)
      | (with_reducible refine LeO.bind ?_ (fun _ => ?_))
      | exact ih0 _ _ _ _ _ _ _ _ _ _ _ _ _ _ _ _
      | exact ih1 _ _ _ _ _ _ _ _ _ _ _ _
      | exact ih2 _ _ _ _ _
      | exact laws_eqPuzzle.mono _ _ _ _ _ _ _
      | exact laws_heldPuzzle.mono _ _ _ _ _
      | exact laws_markPuzzle.mono _ _ _ _ _
      | exact laws_toPuzzle.mono _ _ _ _
      | exact spec_DropClue.mono _ _ _ _ _
      | exact LeO.none _
      | refine LeO.ite ?_ ?_
      | refine LeO.bind ?_ (fun _ => ?_)
theorem laws_FnExactDropClue.mono : ∀ a0 a1 a2 a3 k, LeO (laws_FnExactDropClue.f k a0 a1 a2 a3) (laws_FnExactDropClue.f (k + 1) a0 a1 a2 a3) := by
  intro a0 a1 a2 a3 k
  obtain ⟨ih0, ih1, ih2⟩ := laws_FnExactDropClue.mono_l k
  unfold laws_FnExactDropClue.f
  repeat' first
      | (with_reducible exact ih0 _ _ _ _ _ _ _ _ _ _ _ _ _ _ _ _)
      | (with_reducible exact ih1 _ _ _ _ _ _ _ _ _ _ _ _)
      | (with_reducible exact ih2 _ _ _ _ _)
      | (with_reducible exact laws_eqPuzzle.mono _ _ _ _ _ _ _)
      | (with_reducible exact laws_heldPuzzle.mono _ _ _ _ _)
      | (with_reducible exact laws_markPuzzle.mono _ _ _ _ _)
      | (with_reducible exact laws_toPuzzle.mono _ _ _ _)
      | (with_reducible exact spec_DropClue.mono _ _ _ _ _)
      | (with_reducible exact LeO.refl _)
      | (with_reducible exact LeO.none _)
      | (with_reducible refine LeO.ite ?_ ?_)
      | (with_reducible refine LeO.bind ?_ (fun _ => ?_))
      | exact ih0 _ _ _ _ _ _ _ _ _ _ _ _ _ _ _ _
      | exact ih1 _ _ _ _ _ _ _ _ _ _ _ _
      | exact ih2 _ _ _ _ _
      | exact laws_eqPuzzle.mono _ _ _ _ _ _ _
      | exact laws_heldPuzzle.mono _ _ _ _ _
      | exact laws_markPuzzle.mono _ _ _ _ _
      | exact laws_toPuzzle.mono _ _ _ _
      | exact spec_DropClue.mono _ _ _ _ _
      | exact LeO.none _
      | refine LeO.ite ?_ ?_
      | refine LeO.bind ?_ (fun _ => ?_)
set_option maxHeartbeats 8000000 in
set_option maxRecDepth 100000 in
theorem laws_FnExactDropClue.calls (k : Nat) (a0_0 : Int) (a0_1 : Int) (A0_2 : Option Addr) (c0_2 : Nat) (l0_2 : List (S25)) (a1 : Int) (r : Bool) (w : World) (hr0_2 : Kd.C k25 w A0_2 l0_2.length l0_2) (hc0_2 : l0_2.length ≤ c0_2) (h : laws_FnExactDropClue.f k a0_0 a0_1 l0_2 a1 = some r) :
    Calls Try.prog 8 #[.agg #[.int .i64 a0_0, .int .i64 a0_1, .slice A0_2 l0_2.length c0_2], .int .i64 a1] w fun e w' => e = .returned (.bool r) ∧ Below w.heap.size w w' := by
  have hu41 := Try.underlying41
  have hu46 := Try.underlying46
  have HR0_2 := Aside0.mk hr0_2
  have HC0_2 := Aside0.mk hc0_2
  clear hr0_2 hc0_2
  have HB := Aside0.mk (Below.refl w.heap.size w)
  have H : ((laws_szPuzzle.f a0_0 a0_1 l0_2 1048576).bind fun t489 => (if t489 < 0 then (some true) else ((laws_toPuzzle.f k a0_0 a0_1 l0_2).bind fun bt490 => ((spec_DropClue.f k bt490.1 bt490.2.1 bt490.2.2 a1).bind fun bt495 => ((laws_toPuzzle.f k a0_0 a0_1 l0_2).bind fun bt502 => ((impl_DropClue.f bt502.1 bt502.2.1 bt502.2.2 a1).bind fun bt508 => ((laws_eqPuzzle.f k bt508.1 bt508.2.1 bt508.2.2.1 bt495.1 bt495.2.1 bt495.2.2.1).bind fun t515 => (if t515 = true then (laws_FnExactDropClue.j0 k a1 bt495.2.2.2 bt508.2.2.2 (bt508.2.2.2 != bt495.2.2.2) a0_0 a0_1 l0_2 bt495.1 bt495.2.1 bt495.2.2.1 bt502.1 bt502.2.1 bt502.2.2 bt508.1 bt508.2.1 bt508.2.2.1) else (laws_FnExactDropClue.j0 k a1 bt495.2.2.2 bt508.2.2.2 true a0_0 a0_1 l0_2 bt495.1 bt495.2.1 bt495.2.2.1 bt502.1 bt502.2.1 bt502.2.2 bt508.1 bt508.2.1 bt508.2.2.1))))))))) = some r := h
  clear h
  replace H := Option.bind_eq_some_iff.mp H
  obtain ⟨t489, A30, H⟩ := H
  replace H : (if t489 < 0 then (some true) else ((laws_toPuzzle.f k a0_0 a0_1 l0_2).bind fun bt490 => ((spec_DropClue.f k bt490.1 bt490.2.1 bt490.2.2 a1).bind fun bt495 => ((laws_toPuzzle.f k a0_0 a0_1 l0_2).bind fun bt502 => ((impl_DropClue.f bt502.1 bt502.2.1 bt502.2.2 a1).bind fun bt508 => ((laws_eqPuzzle.f k bt508.1 bt508.2.1 bt508.2.2.1 bt495.1 bt495.2.1 bt495.2.2.1).bind fun t515 => (if t515 = true then (laws_FnExactDropClue.j0 k a1 bt495.2.2.2 bt508.2.2.2 (bt508.2.2.2 != bt495.2.2.2) a0_0 a0_1 l0_2 bt495.1 bt495.2.1 bt495.2.2.1 bt502.1 bt502.2.1 bt502.2.2 bt508.1 bt508.2.1 bt508.2.2.1) else (laws_FnExactDropClue.j0 k a1 bt495.2.2.2 bt508.2.2.2 true a0_0 a0_1 l0_2 bt495.1 bt495.2.1 bt495.2.2.1 bt502.1 bt502.2.1 bt502.2.2 bt508.1 bt508.2.1 bt508.2.2.1)))))))) = some r := H
  have A3 := Aside0.mk A30
  clear A30
  by_cases c4 : t489 < 0
  · rw [if_pos c4] at H
    have c4b0 : decide (t489 < 0) = true := decide_eq_true c4
    clear c4
    obtain rfl := Option.some.inj H
    go_enter Try.func8, Try.ntmps8
    go_wp2_with (first | ((with_reducible refine gate_dst (N := 2) rfl ?_); refine box_event ?hg (N := 2) ?hd (cs := #[.int .i64 a0_0, .int .i64 a0_1, .slice A0_2 l0_2.length c0_2]) (t := 41) ?hr ?_; (case hd => rfl); (case hg => rfl); (case hr => first | (go_simp; done) | (go_simp; rfl)); intro gb488 hg w5 hbox hb; have n0_ := Aside0.mk (below_step (by repeat (first | (with_reducible first | exact HB.out | apply below_alloc | apply pw_below_drewN | apply below_drew1) | exact HB.out)) hb); have n1_ := Aside0.mk (hbox); have n2_ := Aside0.mk ((by rw [hg]; exact (below_size (by repeat (first | (with_reducible first | exact HB.out | apply below_alloc | apply pw_below_drewN | apply below_drew1) | exact HB.out))) : w.heap.size ≤ gb488)); have n3_ := Aside0.mk ((by rw [hg]; exact (below_size (by repeat (first | (with_reducible first | exact HB.out | apply below_alloc | apply pw_below_drewN | apply below_drew1) | exact HB.out))) : w.heap.size ≤ gb488)); clear HB; have HB := n0_; have BK488 := n1_; have GW488 := n2_; have GE488 := n3_; clear n0_ n1_ n2_ n3_; clear hb hbox hg; have hcz6_0 : w5.cell? ⟨gb488, 0, none⟩ = some (.int .i64 a0_0) := (blk_cell BK488.out 0).trans rfl; have hcz6_1 : w5.cell? ⟨gb488, 1, none⟩ = some (.int .i64 a0_1) := (blk_cell BK488.out 1).trans rfl; have hcz6_2 : w5.cell? ⟨gb488, 2, none⟩ = some (.slice A0_2 l0_2.length c0_2) := (blk_cell BK488.out 2).trans rfl; have hfz6_0 := blk_frozen BK488.out 0; have hfz6_1 := blk_frozen BK488.out 1; have hfz6_2 := blk_frozen BK488.out 2) | ((with_reducible refine gate_callee (f := 24) rfl ?_); refine goesL_ (some 18) rfl rfl Try.func24 (by kernel_rfl) rfl #[.agg #[.int .i64 a0_0, .int .i64 a0_1, .slice A0_2 l0_2.length c0_2], .int .i64 1048576] rfl (by (try simp only [List.map_toArray, List.map_cons, List.map_nil]); first | done | rfl | (simp only [List.length_drop, List.length_take]; rfl)) ?_; (with_reducible refine (laws_szPuzzle.calls a0_0 a0_1 _ _ l0_2 1048576 t489 _ ?side1 ?side2 A3.out).mono ?_); (case side1 => repeat (first | exact (Kd.C_below HR0_2.out HB.out) | (with_reducible refine Kd.C_alloc ?_ _) | (with_reducible refine Kd.C_drewN ?_ _) | (with_reducible refine Kd.C_drew ?_))); (case side2 => exact HC0_2.out); rintro e w7 ⟨rfl, hb⟩; refine ⟨_, rfl, ?_⟩; have n0_ := Aside0.mk (blk_below (g := gb488) (o := .cells #[.int .i64 a0_0, .int .i64 a0_1, .slice A0_2 l0_2.length c0_2] 41 (0, 0)) (by (with_reducible repeat (first | refine blk_drewN ?_ _ | refine blk_drew ?_ | refine blk_alloc ?_ _)); exact BK488.out) hb); have n1_ := Aside0.mk (below_step (by repeat (first | (with_reducible first | exact HB.out | apply below_alloc | apply pw_below_drewN | apply below_drew1 | refine below_set ?_ GE488.out) | exact HB.out)) hb); clear BK488; clear HB; have BK488 := n0_; have HB := n1_; clear n0_ n1_; (try clear hb); (try clear hb2); (try clear hk); (try clear hi)))
    go_ret
    exact ⟨by first | rfl | (simp [errW_none, errW_some] <;> rfl) | (simp [*, errW_none, errW_some] <;> rfl), by repeat (first | (with_reducible first | exact HB.out | apply below_alloc | apply pw_below_drewN | apply below_drew1 | refine below_set ?_ GE488.out) | exact HB.out)⟩
  · rw [if_neg c4] at H
    have c4b0 : decide (t489 < 0) = false := decide_eq_false c4
    clear c4
    replace H := Option.bind_eq_some_iff.mp H
    obtain ⟨⟨t490, t491, t492⟩, A80, H⟩ := H
    replace H : ((spec_DropClue.f k t490 t491 t492 a1).bind fun bt495 => ((laws_toPuzzle.f k a0_0 a0_1 l0_2).bind fun bt502 => ((impl_DropClue.f bt502.1 bt502.2.1 bt502.2.2 a1).bind fun bt508 => ((laws_eqPuzzle.f k bt508.1 bt508.2.1 bt508.2.2.1 bt495.1 bt495.2.1 bt495.2.2.1).bind fun t515 => (if t515 = true then (laws_FnExactDropClue.j0 k a1 bt495.2.2.2 bt508.2.2.2 (bt508.2.2.2 != bt495.2.2.2) a0_0 a0_1 l0_2 bt495.1 bt495.2.1 bt495.2.2.1 bt502.1 bt502.2.1 bt502.2.2 bt508.1 bt508.2.1 bt508.2.2.1) else (laws_FnExactDropClue.j0 k a1 bt495.2.2.2 bt508.2.2.2 true a0_0 a0_1 l0_2 bt495.1 bt495.2.1 bt495.2.2.1 bt502.1 bt502.2.1 bt502.2.2 bt508.1 bt508.2.1 bt508.2.2.1)))))) = some r := H
    have A8 := Aside0.mk A80
    clear A80
    replace H := Option.bind_eq_some_iff.mp H
    obtain ⟨⟨t495, t496, t497, t500⟩, A90, H⟩ := H
    replace H : ((laws_toPuzzle.f k a0_0 a0_1 l0_2).bind fun bt502 => ((impl_DropClue.f bt502.1 bt502.2.1 bt502.2.2 a1).bind fun bt508 => ((laws_eqPuzzle.f k bt508.1 bt508.2.1 bt508.2.2.1 t495 t496 t497).bind fun t515 => (if t515 = true then (laws_FnExactDropClue.j0 k a1 t500 bt508.2.2.2 (bt508.2.2.2 != t500) a0_0 a0_1 l0_2 t495 t496 t497 bt502.1 bt502.2.1 bt502.2.2 bt508.1 bt508.2.1 bt508.2.2.1) else (laws_FnExactDropClue.j0 k a1 t500 bt508.2.2.2 true a0_0 a0_1 l0_2 t495 t496 t497 bt502.1 bt502.2.1 bt502.2.2 bt508.1 bt508.2.1 bt508.2.2.1))))) = some r := H
    have A9 := Aside0.mk A90
    clear A90
    replace H := Option.bind_eq_some_iff.mp H
    obtain ⟨⟨t502, t503, t504⟩, A100, H⟩ := H
    replace H : ((impl_DropClue.f t502 t503 t504 a1).bind fun bt508 => ((laws_eqPuzzle.f k bt508.1 bt508.2.1 bt508.2.2.1 t495 t496 t497).bind fun t515 => (if t515 = true then (laws_FnExactDropClue.j0 k a1 t500 bt508.2.2.2 (bt508.2.2.2 != t500) a0_0 a0_1 l0_2 t495 t496 t497 t502 t503 t504 bt508.1 bt508.2.1 bt508.2.2.1) else (laws_FnExactDropClue.j0 k a1 t500 bt508.2.2.2 true a0_0 a0_1 l0_2 t495 t496 t497 t502 t503 t504 bt508.1 bt508.2.1 bt508.2.2.1)))) = some r := H
    have A10 := Aside0.mk A100
    clear A100
    replace H := Option.bind_eq_some_iff.mp H
    obtain ⟨⟨t508, t509, t510, t513⟩, A110, H⟩ := H
    replace H : ((laws_eqPuzzle.f k t508 t509 t510 t495 t496 t497).bind fun t515 => (if t515 = true then (laws_FnExactDropClue.j0 k a1 t500 t513 (t513 != t500) a0_0 a0_1 l0_2 t495 t496 t497 t502 t503 t504 t508 t509 t510) else (laws_FnExactDropClue.j0 k a1 t500 t513 true a0_0 a0_1 l0_2 t495 t496 t497 t502 t503 t504 t508 t509 t510))) = some r := H
    have A11 := Aside0.mk A110
    clear A110
    have HC12 := Aside0.mk H
    clear H
    go_enter Try.func8, Try.ntmps8
    go_upto_region 8 with (first | ((with_reducible refine gate_dst (N := 2) rfl ?_); refine box_event ?hg (N := 2) ?hd (cs := #[.int .i64 a0_0, .int .i64 a0_1, .slice A0_2 l0_2.length c0_2]) (t := 41) ?hr ?_; (case hd => rfl); (case hg => rfl); (case hr => first | (go_simp; done) | (go_simp; rfl)); intro gb488 hg w13 hbox hb; have n0_ := Aside0.mk (below_step (by repeat (first | (with_reducible first | exact HB.out | apply below_alloc | apply pw_below_drewN | apply below_drew1) | exact HB.out)) hb); have n1_ := Aside0.mk (hbox); have n2_ := Aside0.mk ((by rw [hg]; exact (below_size (by repeat (first | (with_reducible first | exact HB.out | apply below_alloc | apply pw_below_drewN | apply below_drew1) | exact HB.out))) : w.heap.size ≤ gb488)); have n3_ := Aside0.mk ((by rw [hg]; exact (below_size (by repeat (first | (with_reducible first | exact HB.out | apply below_alloc | apply pw_below_drewN | apply below_drew1) | exact HB.out))) : w.heap.size ≤ gb488)); clear HB; have HB := n0_; have BK488 := n1_; have GW488 := n2_; have GE488 := n3_; clear n0_ n1_ n2_ n3_; clear hb hbox hg; have hcz14_0 : w13.cell? ⟨gb488, 0, none⟩ = some (.int .i64 a0_0) := (blk_cell BK488.out 0).trans rfl; have hcz14_1 : w13.cell? ⟨gb488, 1, none⟩ = some (.int .i64 a0_1) := (blk_cell BK488.out 1).trans rfl; have hcz14_2 : w13.cell? ⟨gb488, 2, none⟩ = some (.slice A0_2 l0_2.length c0_2) := (blk_cell BK488.out 2).trans rfl; have hfz14_0 := blk_frozen BK488.out 0; have hfz14_1 := blk_frozen BK488.out 1; have hfz14_2 := blk_frozen BK488.out 2) | ((with_reducible refine gate_callee (f := 24) rfl ?_); refine goesL_ (some 18) rfl rfl Try.func24 (by kernel_rfl) rfl #[.agg #[.int .i64 a0_0, .int .i64 a0_1, .slice A0_2 l0_2.length c0_2], .int .i64 1048576] rfl (by (try simp only [List.map_toArray, List.map_cons, List.map_nil]); first | done | rfl | (simp only [List.length_drop, List.length_take]; rfl)) ?_; (with_reducible refine (laws_szPuzzle.calls a0_0 a0_1 _ _ l0_2 1048576 t489 _ ?side1 ?side2 A3.out).mono ?_); (case side1 => repeat (first | exact (Kd.C_below HR0_2.out HB.out) | (with_reducible refine Kd.C_alloc ?_ _) | (with_reducible refine Kd.C_drewN ?_ _) | (with_reducible refine Kd.C_drew ?_))); (case side2 => exact HC0_2.out); rintro e w15 ⟨rfl, hb⟩; refine ⟨_, rfl, ?_⟩; have n0_ := Aside0.mk (blk_below (g := gb488) (o := .cells #[.int .i64 a0_0, .int .i64 a0_1, .slice A0_2 l0_2.length c0_2] 41 (0, 0)) (by (with_reducible repeat (first | refine blk_drewN ?_ _ | refine blk_drew ?_ | refine blk_alloc ?_ _)); exact BK488.out) hb); have n1_ := Aside0.mk (below_step (by repeat (first | (with_reducible first | exact HB.out | apply below_alloc | apply pw_below_drewN | apply below_drew1 | refine below_set ?_ GE488.out) | exact HB.out)) hb); clear BK488; clear HB; have BK488 := n0_; have HB := n1_; clear n0_ n1_; (try clear hb); (try clear hb2); (try clear hk); (try clear hi); have hcz16_0 : w15.cell? ⟨gb488, 0, none⟩ = some (.int .i64 a0_0) := (blk_cell BK488.out 0).trans rfl; have hcz16_1 : w15.cell? ⟨gb488, 1, none⟩ = some (.int .i64 a0_1) := (blk_cell BK488.out 1).trans rfl; have hcz16_2 : w15.cell? ⟨gb488, 2, none⟩ = some (.slice A0_2 l0_2.length c0_2) := (blk_cell BK488.out 2).trans rfl; have hfz16_0 := blk_frozen BK488.out 0; have hfz16_1 := blk_frozen BK488.out 1; have hfz16_2 := blk_frozen BK488.out 2) | ((with_reducible refine gate_callee (f := 26) rfl ?_); refine goesL_ (some 23) rfl rfl Try.func26 (by kernel_rfl) rfl #[.agg #[.int .i64 a0_0, .int .i64 a0_1, .slice A0_2 l0_2.length c0_2]] rfl (by (try simp only [List.map_toArray, List.map_cons, List.map_nil]); first | done | rfl | (simp only [List.length_drop, List.length_take]; rfl)) ?_; (with_reducible refine (laws_toPuzzle.calls k a0_0 a0_1 _ _ l0_2 t490 t491 t492 _ ?side1 ?side2 A8.out).mono ?_); (case side1 => repeat (first | exact (Kd.C_below HR0_2.out HB.out) | (with_reducible refine Kd.C_alloc ?_ _) | (with_reducible refine Kd.C_drewN ?_ _) | (with_reducible refine Kd.C_drew ?_))); (case side2 => exact HC0_2.out); rintro e w17 ⟨v493, rfl, ho0, hb⟩; refine ⟨_, rfl, ?_⟩; have n0_ := Aside0.mk (Kd.R_lower ho0 (below_size (by repeat (first | (with_reducible first | exact HB.out | apply below_alloc | apply pw_below_drewN | apply below_drew1 | refine below_set ?_ GE488.out) | exact HB.out)))); have n1_ := Aside0.mk (blk_below (g := gb488) (o := .cells #[.int .i64 a0_0, .int .i64 a0_1, .slice A0_2 l0_2.length c0_2] 41 (0, 0)) (by (with_reducible repeat (first | refine blk_drewN ?_ _ | refine blk_drew ?_ | refine blk_alloc ?_ _)); exact BK488.out) hb); have n2_ := Aside0.mk (below_step (by repeat (first | (with_reducible first | exact HB.out | apply below_alloc | apply pw_below_drewN | apply below_drew1 | refine below_set ?_ GE488.out) | exact HB.out)) hb); clear BK488; clear HB; have HO494 := n0_; have BK488 := n1_; have HB := n2_; clear n0_ n1_ n2_; (try clear hb); (try clear hb2); (try clear hk); (try clear hi); (try clear ho0); obtain ⟨Ao18, co18, eo18⟩ := Kd.R_slice HO494.out; subst eo18) | ((with_reducible refine gate_callee (f := 37) rfl ?_); refine goesL_ (some 25) rfl rfl Try.func37 (by kernel_rfl) rfl #[.agg #[.int .i64 t490, .int .i64 t491, .slice Ao18 t492.length co18], .int .i64 a1] rfl (by (try simp only [List.map_toArray, List.map_cons, List.map_nil]); first | done | rfl | (simp only [List.length_drop, List.length_take]; rfl)) ?_; (with_reducible refine (spec_DropClue.calls k t490 t491 _ _ t492 a1 t495 t496 t497 t500 _ ?side1 ?side2 A9.out).mono ?_); (case side1 => repeat (first | exact (Kd.R_reads' HO494.out).2.2 | (with_reducible refine Kd.C_alloc ?_ _) | (with_reducible refine Kd.C_drewN ?_ _) | (with_reducible refine Kd.C_drew ?_))); (case side2 => exact (Kd.R_reads' HO494.out).2.1); rintro e w19 ⟨v498, rfl, ho0, hb⟩; refine ⟨_, rfl, ?_⟩; have n0_ := Aside0.mk (Kd.R_elder' (by (with_reducible repeat (first | apply Kd.R_alloc | apply Kd.R_drewN | apply Kd.R_drew)); exact HO494.out) (Kd.R_base ho0) hb); have n1_ := Aside0.mk (Kd.R_lower (Kd.R_new' ho0 (Kd.R_lt (by (with_reducible repeat (first | apply Kd.R_alloc | apply Kd.R_drewN | apply Kd.R_drew)); exact HO494.out))) (below_size (by repeat (first | (with_reducible first | exact HB.out | apply below_alloc | apply pw_below_drewN | apply below_drew1 | refine below_set ?_ GE488.out) | exact HB.out)))); have n2_ := Aside0.mk (blk_below (g := gb488) (o := .cells #[.int .i64 a0_0, .int .i64 a0_1, .slice A0_2 l0_2.length c0_2] 41 (0, 0)) (by (with_reducible repeat (first | refine blk_drewN ?_ _ | refine blk_drew ?_ | refine blk_alloc ?_ _)); exact BK488.out) hb); have n3_ := Aside0.mk (below_step (by repeat (first | (with_reducible first | exact HB.out | apply below_alloc | apply pw_below_drewN | apply below_drew1 | refine below_set ?_ GE488.out) | exact HB.out)) hb); clear HO494; clear BK488; clear HB; have HO494 := n0_; have HO499 := n1_; have BK488 := n2_; have HB := n3_; clear n0_ n1_ n2_ n3_; (try clear hb); (try clear hb2); (try clear hk); (try clear hi); (try clear ho0)) | ((with_reducible refine gate_dst (N := 6) rfl ?_); refine box_event ?hg (N := 6) ?hd (cs := #[.int .i64 0, .int .i64 0, .slice none 0 0]) (t := 46) ?hr ?_; (case hd => rfl); (case hg => rfl); (case hr => first | (go_simp; done) | (go_simp; rfl)); intro gb501 hg w20 hbox hb; have n0_ := Aside0.mk (Kd.R_below (by (with_reducible repeat (first | apply Kd.R_alloc | apply Kd.R_drewN | apply Kd.R_drew)); exact HO494.out) hb); have n1_ := Aside0.mk (Kd.R_below (by (with_reducible repeat (first | apply Kd.R_alloc | apply Kd.R_drewN | apply Kd.R_drew)); exact HO499.out) hb); have n2_ := Aside0.mk (blk_below (g := gb488) (o := .cells #[.int .i64 a0_0, .int .i64 a0_1, .slice A0_2 l0_2.length c0_2] 41 (0, 0)) (by (with_reducible repeat (first | refine blk_drewN ?_ _ | refine blk_drew ?_ | refine blk_alloc ?_ _)); exact BK488.out) hb); have n3_ := Aside0.mk (below_step (by repeat (first | (with_reducible first | exact HB.out | apply below_alloc | apply pw_below_drewN | apply below_drew1 | refine below_set ?_ GE488.out) | exact HB.out)) hb); have n4_ := Aside0.mk (hbox); have n5_ := Aside0.mk ((by rw [hg]; exact (below_size (by repeat (first | (with_reducible first | exact HB.out | apply below_alloc | apply pw_below_drewN | apply below_drew1 | refine below_set ?_ GE488.out) | exact HB.out))) : w.heap.size ≤ gb501)); have n6_ := Aside0.mk ((by rw [hg]; exact (below_size (by repeat (first | (with_reducible first | exact HB.out | apply below_alloc | apply pw_below_drewN | apply below_drew1 | refine below_set ?_ GE488.out) | exact HB.out))) : w.heap.size ≤ gb501)); have n7_ := Aside0.mk ((by rw [hg]; exact Nat.ne_of_lt (blk_lt (g := gb488) (o := .cells #[.int .i64 a0_0, .int .i64 a0_1, .slice A0_2 l0_2.length c0_2] 41 (0, 0)) (by (with_reducible repeat (first | refine blk_drewN ?_ _ | refine blk_drew ?_ | refine blk_alloc ?_ _)); exact BK488.out)) : gb488 ≠ gb501)); have n8_ := Aside0.mk ((by rw [hg]; exact Nat.ne_of_gt (blk_lt (g := gb488) (o := .cells #[.int .i64 a0_0, .int .i64 a0_1, .slice A0_2 l0_2.length c0_2] 41 (0, 0)) (by (with_reducible repeat (first | refine blk_drewN ?_ _ | refine blk_drew ?_ | refine blk_alloc ?_ _)); exact BK488.out)) : gb501 ≠ gb488)); clear HO494; clear HO499; clear BK488; clear HB; have HO494 := n0_; have HO499 := n1_; have BK488 := n2_; have HB := n3_; have BK501 := n4_; have GW501 := n5_; have GE501 := n6_; have NB488_501 := n7_; have NB501_488 := n8_; clear n0_ n1_ n2_ n3_ n4_ n5_ n6_ n7_ n8_; clear hb hbox hg; have hnb21 := NB501_488.out; have hnc21 := NB488_501.out; have hcz22_0 : w20.cell? ⟨gb501, 0, none⟩ = some (.int .i64 0) := (blk_cell BK501.out 0).trans rfl; have hcz22_1 : w20.cell? ⟨gb501, 1, none⟩ = some (.int .i64 0) := (blk_cell BK501.out 1).trans rfl; have hcz22_2 : w20.cell? ⟨gb501, 2, none⟩ = some (.slice none 0 0) := (blk_cell BK501.out 2).trans rfl; have hfz22_0 := blk_frozen BK501.out 0; have hfz22_1 := blk_frozen BK501.out 1; have hfz22_2 := blk_frozen BK501.out 2; obtain ⟨Ao23, co23, eo23⟩ := Kd.R_slice HO499.out; subst eo23; have hcz24_0 : w20.cell? ⟨gb488, 0, none⟩ = some (.int .i64 a0_0) := (blk_cell BK488.out 0).trans rfl; have hcz24_1 : w20.cell? ⟨gb488, 1, none⟩ = some (.int .i64 a0_1) := (blk_cell BK488.out 1).trans rfl; have hcz24_2 : w20.cell? ⟨gb488, 2, none⟩ = some (.slice A0_2 l0_2.length c0_2) := (blk_cell BK488.out 2).trans rfl; have hfz24_0 := blk_frozen BK488.out 0; have hfz24_1 := blk_frozen BK488.out 1; have hfz24_2 := blk_frozen BK488.out 2) | ((with_reducible refine gate_callee (f := 26) rfl ?_); refine goesL_ (some 29) rfl rfl Try.func26 (by kernel_rfl) rfl #[.agg #[.int .i64 a0_0, .int .i64 a0_1, .slice A0_2 l0_2.length c0_2]] rfl (by (try simp only [List.map_toArray, List.map_cons, List.map_nil]); first | done | rfl | (simp only [List.length_drop, List.length_take]; rfl)) ?_; (with_reducible refine (laws_toPuzzle.calls k a0_0 a0_1 _ _ l0_2 t502 t503 t504 _ ?side1 ?side2 A10.out).mono ?_); (case side1 => exact Kd.C_below HR0_2.out (by repeat (first | (with_reducible first | exact HB.out | apply below_alloc | apply pw_below_drewN | apply below_drew1 | refine below_set ?_ GE488.out | refine below_set ?_ GE501.out) | exact HB.out))); (case side2 => exact HC0_2.out); rintro e w25 ⟨v505, rfl, ho0, hb⟩; refine ⟨_, rfl, ?_⟩; have n0_ := Aside0.mk (Kd.R_elder' (by (with_reducible repeat (first | apply Kd.R_alloc | apply Kd.R_drewN | apply Kd.R_drew)); exact (Kd.R_mono (Kd.R_far (p := ⟨gb501, 2, none⟩) (Kd.R_far (p := ⟨gb501, 1, none⟩) (Kd.R_far (p := ⟨gb501, 0, none⟩) (Kd.R_types HO494.out BK501.out (by decide)) (fun _ hk => hk.2) (.int .i64 t495)) (fun _ hk => hk.2) (.int .i64 t496)) (fun _ hk => hk.2) (.slice Ao23 t497.length co23)) (fun _ h_ => h_.1))) (Kd.R_base ho0) hb); have n1_ := Aside0.mk (Kd.R_elder' (by (with_reducible repeat (first | apply Kd.R_alloc | apply Kd.R_drewN | apply Kd.R_drew)); exact (Kd.R_mono (Kd.R_far (p := ⟨gb501, 2, none⟩) (Kd.R_far (p := ⟨gb501, 1, none⟩) (Kd.R_far (p := ⟨gb501, 0, none⟩) (Kd.R_types HO499.out BK501.out (by decide)) (fun _ hk => hk.2) (.int .i64 t495)) (fun _ hk => hk.2) (.int .i64 t496)) (fun _ hk => hk.2) (.slice Ao23 t497.length co23)) (fun _ h_ => h_.1))) (Kd.R_base ho0) hb); have n2_ := Aside0.mk (Kd.R_lower (Kd.R_new' (Kd.R_new' ho0 (Kd.R_lt (by (with_reducible repeat (first | apply Kd.R_alloc | apply Kd.R_drewN | apply Kd.R_drew)); exact (Kd.R_mono (Kd.R_far (p := ⟨gb501, 2, none⟩) (Kd.R_far (p := ⟨gb501, 1, none⟩) (Kd.R_far (p := ⟨gb501, 0, none⟩) (Kd.R_types HO494.out BK501.out (by decide)) (fun _ hk => hk.2) (.int .i64 t495)) (fun _ hk => hk.2) (.int .i64 t496)) (fun _ hk => hk.2) (.slice Ao23 t497.length co23)) (fun _ h_ => h_.1))))) (Kd.R_lt (by (with_reducible repeat (first | apply Kd.R_alloc | apply Kd.R_drewN | apply Kd.R_drew)); exact (Kd.R_mono (Kd.R_far (p := ⟨gb501, 2, none⟩) (Kd.R_far (p := ⟨gb501, 1, none⟩) (Kd.R_far (p := ⟨gb501, 0, none⟩) (Kd.R_types HO499.out BK501.out (by decide)) (fun _ hk => hk.2) (.int .i64 t495)) (fun _ hk => hk.2) (.int .i64 t496)) (fun _ hk => hk.2) (.slice Ao23 t497.length co23)) (fun _ h_ => h_.1))))) (below_size (by repeat (first | (with_reducible first | exact HB.out | apply below_alloc | apply pw_below_drewN | apply below_drew1 | refine below_set ?_ GE488.out | refine below_set ?_ GE501.out) | exact HB.out)))); have n3_ := Aside0.mk (blk_below (g := gb488) (o := .cells #[.int .i64 a0_0, .int .i64 a0_1, .slice A0_2 l0_2.length c0_2] 41 (0, 0)) (by (with_reducible repeat (first | refine blk_drewN ?_ _ | refine blk_drew ?_ | refine blk_alloc ?_ _)); refine blk_far ?_ NB488_501.out _; (with_reducible repeat (first | refine blk_drewN ?_ _ | refine blk_drew ?_ | refine blk_alloc ?_ _)); refine blk_far ?_ NB488_501.out _; (with_reducible repeat (first | refine blk_drewN ?_ _ | refine blk_drew ?_ | refine blk_alloc ?_ _)); refine blk_far ?_ NB488_501.out _; (with_reducible repeat (first | refine blk_drewN ?_ _ | refine blk_drew ?_ | refine blk_alloc ?_ _)); exact BK488.out) hb); have n4_ := Aside0.mk (blk_below (g := gb501) (o := .cells #[.int .i64 t495, .int .i64 t496, .slice Ao23 t497.length co23] 46 (0, 0)) (by (with_reducible repeat (first | refine blk_drewN ?_ _ | refine blk_drew ?_ | refine blk_alloc ?_ _)); refine blk_put (cs := #[.int .i64 t495, .int .i64 t496, .slice none 0 0]) ?_ 2 _ rfl; (with_reducible repeat (first | refine blk_drewN ?_ _ | refine blk_drew ?_ | refine blk_alloc ?_ _)); refine blk_put (cs := #[.int .i64 t495, .int .i64 0, .slice none 0 0]) ?_ 1 _ rfl; (with_reducible repeat (first | refine blk_drewN ?_ _ | refine blk_drew ?_ | refine blk_alloc ?_ _)); refine blk_put (cs := #[.int .i64 0, .int .i64 0, .slice none 0 0]) ?_ 0 _ rfl; (with_reducible repeat (first | refine blk_drewN ?_ _ | refine blk_drew ?_ | refine blk_alloc ?_ _)); exact BK501.out) hb); have n5_ := Aside0.mk (below_step (by repeat (first | (with_reducible first | exact HB.out | apply below_alloc | apply pw_below_drewN | apply below_drew1 | refine below_set ?_ GE488.out | refine below_set ?_ GE501.out) | exact HB.out)) hb); clear HO494; clear HO499; clear BK488; clear BK501; clear HB; have HO494 := n0_; have HO499 := n1_; have HO506 := n2_; have BK488 := n3_; have BK501 := n4_; have HB := n5_; clear n0_ n1_ n2_ n3_ n4_ n5_; (try clear hb); (try clear hb2); (try clear hk); (try clear hi); (try clear ho0)) | ((with_reducible refine gate_dst (N := 8) rfl ?_); refine box_event ?hg (N := 8) ?hd (cs := #[.int .i64 0, .int .i64 0, .slice none 0 0]) (t := 46) ?hr ?_; (case hd => rfl); (case hg => rfl); (case hr => first | (go_simp; done) | (go_simp; rfl)); intro gb507 hg w26 hbox hb; have n0_ := Aside0.mk (Kd.R_below (by (with_reducible repeat (first | apply Kd.R_alloc | apply Kd.R_drewN | apply Kd.R_drew)); exact HO494.out) hb); have n1_ := Aside0.mk (Kd.R_below (by (with_reducible repeat (first | apply Kd.R_alloc | apply Kd.R_drewN | apply Kd.R_drew)); exact HO499.out) hb); have n2_ := Aside0.mk (Kd.R_below (by (with_reducible repeat (first | apply Kd.R_alloc | apply Kd.R_drewN | apply Kd.R_drew)); exact HO506.out) hb); have n3_ := Aside0.mk (blk_below (g := gb488) (o := .cells #[.int .i64 a0_0, .int .i64 a0_1, .slice A0_2 l0_2.length c0_2] 41 (0, 0)) (by (with_reducible repeat (first | refine blk_drewN ?_ _ | refine blk_drew ?_ | refine blk_alloc ?_ _)); exact BK488.out) hb); have n4_ := Aside0.mk (blk_below (g := gb501) (o := .cells #[.int .i64 t495, .int .i64 t496, .slice Ao23 t497.length co23] 46 (0, 0)) (by (with_reducible repeat (first | refine blk_drewN ?_ _ | refine blk_drew ?_ | refine blk_alloc ?_ _)); exact BK501.out) hb); have n5_ := Aside0.mk (below_step (by repeat (first | (with_reducible first | exact HB.out | apply below_alloc | apply pw_below_drewN | apply below_drew1 | refine below_set ?_ GE488.out | refine below_set ?_ GE501.out) | exact HB.out)) hb); have n6_ := Aside0.mk (hbox); have n7_ := Aside0.mk ((by rw [hg]; exact (below_size (by repeat (first | (with_reducible first | exact HB.out | apply below_alloc | apply pw_below_drewN | apply below_drew1 | refine below_set ?_ GE488.out | refine below_set ?_ GE501.out) | exact HB.out))) : w.heap.size ≤ gb507)); have n8_ := Aside0.mk ((by rw [hg]; exact (below_size (by repeat (first | (with_reducible first | exact HB.out | apply below_alloc | apply pw_below_drewN | apply below_drew1 | refine below_set ?_ GE488.out | refine below_set ?_ GE501.out) | exact HB.out))) : w.heap.size ≤ gb507)); have n9_ := Aside0.mk ((by rw [hg]; exact Nat.ne_of_lt (blk_lt (g := gb488) (o := .cells #[.int .i64 a0_0, .int .i64 a0_1, .slice A0_2 l0_2.length c0_2] 41 (0, 0)) (by (with_reducible repeat (first | refine blk_drewN ?_ _ | refine blk_drew ?_ | refine blk_alloc ?_ _)); exact BK488.out)) : gb488 ≠ gb507)); have n10_ := Aside0.mk ((by rw [hg]; exact Nat.ne_of_gt (blk_lt (g := gb488) (o := .cells #[.int .i64 a0_0, .int .i64 a0_1, .slice A0_2 l0_2.length c0_2] 41 (0, 0)) (by (with_reducible repeat (first | refine blk_drewN ?_ _ | refine blk_drew ?_ | refine blk_alloc ?_ _)); exact BK488.out)) : gb507 ≠ gb488)); have n11_ := Aside0.mk ((by rw [hg]; exact Nat.ne_of_lt (blk_lt (g := gb501) (o := .cells #[.int .i64 t495, .int .i64 t496, .slice Ao23 t497.length co23] 46 (0, 0)) (by (with_reducible repeat (first | refine blk_drewN ?_ _ | refine blk_drew ?_ | refine blk_alloc ?_ _)); exact BK501.out)) : gb501 ≠ gb507)); have n12_ := Aside0.mk ((by rw [hg]; exact Nat.ne_of_gt (blk_lt (g := gb501) (o := .cells #[.int .i64 t495, .int .i64 t496, .slice Ao23 t497.length co23] 46 (0, 0)) (by (with_reducible repeat (first | refine blk_drewN ?_ _ | refine blk_drew ?_ | refine blk_alloc ?_ _)); exact BK501.out)) : gb507 ≠ gb501)); clear HO494; clear HO499; clear HO506; clear BK488; clear BK501; clear HB; have HO494 := n0_; have HO499 := n1_; have HO506 := n2_; have BK488 := n3_; have BK501 := n4_; have HB := n5_; have BK507 := n6_; have GW507 := n7_; have GE507 := n8_; have NB488_507 := n9_; have NB507_488 := n10_; have NB501_507 := n11_; have NB507_501 := n12_; clear n0_ n1_ n2_ n3_ n4_ n5_ n6_ n7_ n8_ n9_ n10_ n11_ n12_; clear hb hbox hg; have hnb27 := NB507_488.out; have hnc27 := NB488_507.out; have hnb28 := NB507_501.out; have hnc28 := NB501_507.out; have hcz29_0 : w26.cell? ⟨gb507, 0, none⟩ = some (.int .i64 0) := (blk_cell BK507.out 0).trans rfl; have hcz29_1 : w26.cell? ⟨gb507, 1, none⟩ = some (.int .i64 0) := (blk_cell BK507.out 1).trans rfl; have hcz29_2 : w26.cell? ⟨gb507, 2, none⟩ = some (.slice none 0 0) := (blk_cell BK507.out 2).trans rfl; have hfz29_0 := blk_frozen BK507.out 0; have hfz29_1 := blk_frozen BK507.out 1; have hfz29_2 := blk_frozen BK507.out 2; obtain ⟨Ao30, co30, eo30⟩ := Kd.R_slice HO506.out; subst eo30) | ((with_reducible refine gate_callee (f := 38) rfl ?_); refine goesL_ (some 33) rfl rfl Try.func38 (by kernel_rfl) rfl #[.agg #[.int .i64 t502, .int .i64 t503, .slice Ao30 t504.length co30], .int .i64 a1] rfl (by (try simp only [List.map_toArray, List.map_cons, List.map_nil]); first | done | rfl | (simp only [List.length_drop, List.length_take]; rfl)) ?_; (with_reducible refine (impl_DropClue.calls t502 t503 _ _ t504 a1 t508 t509 t510 t513 _ ?side1 ?side2 A11.out).mono ?_); (case side1 => refine (Kd.R_reads' (e := 29) (base := w.heap.size) (ok := fun k_ => ((True ∧ some k_ ≠ (.slice Ao18 t492.length co18 : Value).ownBlock) ∧ some k_ ≠ (.slice Ao23 t497.length co23 : Value).ownBlock)) (n := t504.length) (c := co30) ?_).2.2; exact (by (with_reducible repeat (first | apply Kd.R_alloc | apply Kd.R_drewN | apply Kd.R_drew)); exact (Kd.R_mono (Kd.R_far (p := ⟨gb507, 2, none⟩) (Kd.R_far (p := ⟨gb507, 1, none⟩) (Kd.R_far (p := ⟨gb507, 0, none⟩) (Kd.R_types HO506.out BK507.out (by decide)) (fun _ hk => hk.2) (.int .i64 t502)) (fun _ hk => hk.2) (.int .i64 t503)) (fun _ hk => hk.2) (.slice Ao30 t504.length co30)) (fun _ h_ => h_.1)))); (case side2 => exact (Kd.R_reads' HO506.out).2.1); rintro e w31 ⟨v511, rfl, ho0, hb⟩; refine ⟨_, rfl, ?_⟩; have n0_ := Aside0.mk (Kd.R_elder' (by (with_reducible repeat (first | apply Kd.R_alloc | apply Kd.R_drewN | apply Kd.R_drew)); exact (Kd.R_mono (Kd.R_far (p := ⟨gb507, 2, none⟩) (Kd.R_far (p := ⟨gb507, 1, none⟩) (Kd.R_far (p := ⟨gb507, 0, none⟩) (Kd.R_types HO494.out BK507.out (by decide)) (fun _ hk => hk.2) (.int .i64 t502)) (fun _ hk => hk.2) (.int .i64 t503)) (fun _ hk => hk.2) (.slice Ao30 t504.length co30)) (fun _ h_ => h_.1))) (Kd.R_base ho0) hb); have n1_ := Aside0.mk (Kd.R_elder' (by (with_reducible repeat (first | apply Kd.R_alloc | apply Kd.R_drewN | apply Kd.R_drew)); exact (Kd.R_mono (Kd.R_far (p := ⟨gb507, 2, none⟩) (Kd.R_far (p := ⟨gb507, 1, none⟩) (Kd.R_far (p := ⟨gb507, 0, none⟩) (Kd.R_types HO499.out BK507.out (by decide)) (fun _ hk => hk.2) (.int .i64 t502)) (fun _ hk => hk.2) (.int .i64 t503)) (fun _ hk => hk.2) (.slice Ao30 t504.length co30)) (fun _ h_ => h_.1))) (Kd.R_base ho0) hb); have n2_ := Aside0.mk (Kd.R_elder' (by (with_reducible repeat (first | apply Kd.R_alloc | apply Kd.R_drewN | apply Kd.R_drew)); exact (Kd.R_mono (Kd.R_far (p := ⟨gb507, 2, none⟩) (Kd.R_far (p := ⟨gb507, 1, none⟩) (Kd.R_far (p := ⟨gb507, 0, none⟩) (Kd.R_types HO506.out BK507.out (by decide)) (fun _ hk => hk.2) (.int .i64 t502)) (fun _ hk => hk.2) (.int .i64 t503)) (fun _ hk => hk.2) (.slice Ao30 t504.length co30)) (fun _ h_ => h_.1))) (Kd.R_base ho0) hb); have n3_ := Aside0.mk (Kd.R_lower (Kd.R_new' (Kd.R_new' (Kd.R_new' ho0 (Kd.R_lt (by (with_reducible repeat (first | apply Kd.R_alloc | apply Kd.R_drewN | apply Kd.R_drew)); exact (Kd.R_mono (Kd.R_far (p := ⟨gb507, 2, none⟩) (Kd.R_far (p := ⟨gb507, 1, none⟩) (Kd.R_far (p := ⟨gb507, 0, none⟩) (Kd.R_types HO494.out BK507.out (by decide)) (fun _ hk => hk.2) (.int .i64 t502)) (fun _ hk => hk.2) (.int .i64 t503)) (fun _ hk => hk.2) (.slice Ao30 t504.length co30)) (fun _ h_ => h_.1))))) (Kd.R_lt (by (with_reducible repeat (first | apply Kd.R_alloc | apply Kd.R_drewN | apply Kd.R_drew)); exact (Kd.R_mono (Kd.R_far (p := ⟨gb507, 2, none⟩) (Kd.R_far (p := ⟨gb507, 1, none⟩) (Kd.R_far (p := ⟨gb507, 0, none⟩) (Kd.R_types HO499.out BK507.out (by decide)) (fun _ hk => hk.2) (.int .i64 t502)) (fun _ hk => hk.2) (.int .i64 t503)) (fun _ hk => hk.2) (.slice Ao30 t504.length co30)) (fun _ h_ => h_.1))))) (Kd.R_lt (by (with_reducible repeat (first | apply Kd.R_alloc | apply Kd.R_drewN | apply Kd.R_drew)); exact (Kd.R_mono (Kd.R_far (p := ⟨gb507, 2, none⟩) (Kd.R_far (p := ⟨gb507, 1, none⟩) (Kd.R_far (p := ⟨gb507, 0, none⟩) (Kd.R_types HO506.out BK507.out (by decide)) (fun _ hk => hk.2) (.int .i64 t502)) (fun _ hk => hk.2) (.int .i64 t503)) (fun _ hk => hk.2) (.slice Ao30 t504.length co30)) (fun _ h_ => h_.1))))) (below_size (by repeat (first | (with_reducible first | exact HB.out | apply below_alloc | apply pw_below_drewN | apply below_drew1 | refine below_set ?_ GE488.out | refine below_set ?_ GE501.out | refine below_set ?_ GE507.out) | exact HB.out)))); have n4_ := Aside0.mk (blk_below (g := gb488) (o := .cells #[.int .i64 a0_0, .int .i64 a0_1, .slice A0_2 l0_2.length c0_2] 41 (0, 0)) (by (with_reducible repeat (first | refine blk_drewN ?_ _ | refine blk_drew ?_ | refine blk_alloc ?_ _)); refine blk_far ?_ NB488_507.out _; (with_reducible repeat (first | refine blk_drewN ?_ _ | refine blk_drew ?_ | refine blk_alloc ?_ _)); refine blk_far ?_ NB488_507.out _; (with_reducible repeat (first | refine blk_drewN ?_ _ | refine blk_drew ?_ | refine blk_alloc ?_ _)); refine blk_far ?_ NB488_507.out _; (with_reducible repeat (first | refine blk_drewN ?_ _ | refine blk_drew ?_ | refine blk_alloc ?_ _)); exact BK488.out) hb); have n5_ := Aside0.mk (blk_below (g := gb501) (o := .cells #[.int .i64 t495, .int .i64 t496, .slice Ao23 t497.length co23] 46 (0, 0)) (by (with_reducible repeat (first | refine blk_drewN ?_ _ | refine blk_drew ?_ | refine blk_alloc ?_ _)); refine blk_far ?_ NB501_507.out _; (with_reducible repeat (first | refine blk_drewN ?_ _ | refine blk_drew ?_ | refine blk_alloc ?_ _)); refine blk_far ?_ NB501_507.out _; (with_reducible repeat (first | refine blk_drewN ?_ _ | refine blk_drew ?_ | refine blk_alloc ?_ _)); refine blk_far ?_ NB501_507.out _; (with_reducible repeat (first | refine blk_drewN ?_ _ | refine blk_drew ?_ | refine blk_alloc ?_ _)); exact BK501.out) hb); have n6_ := Aside0.mk (blk_below (g := gb507) (o := .cells #[.int .i64 t502, .int .i64 t503, .slice Ao30 t504.length co30] 46 (0, 0)) (by (with_reducible repeat (first | refine blk_drewN ?_ _ | refine blk_drew ?_ | refine blk_alloc ?_ _)); refine blk_put (cs := #[.int .i64 t502, .int .i64 t503, .slice none 0 0]) ?_ 2 _ rfl; (with_reducible repeat (first | refine blk_drewN ?_ _ | refine blk_drew ?_ | refine blk_alloc ?_ _)); refine blk_put (cs := #[.int .i64 t502, .int .i64 0, .slice none 0 0]) ?_ 1 _ rfl; (with_reducible repeat (first | refine blk_drewN ?_ _ | refine blk_drew ?_ | refine blk_alloc ?_ _)); refine blk_put (cs := #[.int .i64 0, .int .i64 0, .slice none 0 0]) ?_ 0 _ rfl; (with_reducible repeat (first | refine blk_drewN ?_ _ | refine blk_drew ?_ | refine blk_alloc ?_ _)); exact BK507.out) hb); have n7_ := Aside0.mk (below_step (by repeat (first | (with_reducible first | exact HB.out | apply below_alloc | apply pw_below_drewN | apply below_drew1 | refine below_set ?_ GE488.out | refine below_set ?_ GE501.out | refine below_set ?_ GE507.out) | exact HB.out)) hb); clear HO494; clear HO499; clear HO506; clear BK488; clear BK501; clear BK507; clear HB; have HO494 := n0_; have HO499 := n1_; have HO506 := n2_; have HO512 := n3_; have BK488 := n4_; have BK501 := n5_; have BK507 := n6_; have HB := n7_; clear n0_ n1_ n2_ n3_ n4_ n5_ n6_ n7_; (try clear hb); (try clear hb2); (try clear hk); (try clear hi); (try clear ho0)) | ((with_reducible refine gate_dst (N := 9) rfl ?_); refine box_event ?hg (N := 9) ?hd (cs := #[.int .i64 0, .int .i64 0, .slice none 0 0]) (t := 46) ?hr ?_; (case hd => rfl); (case hg => rfl); (case hr => first | (go_simp; done) | (go_simp; rfl)); intro gb514 hg w32 hbox hb; have n0_ := Aside0.mk (Kd.R_below (by (with_reducible repeat (first | apply Kd.R_alloc | apply Kd.R_drewN | apply Kd.R_drew)); exact HO494.out) hb); have n1_ := Aside0.mk (Kd.R_below (by (with_reducible repeat (first | apply Kd.R_alloc | apply Kd.R_drewN | apply Kd.R_drew)); exact HO499.out) hb); have n2_ := Aside0.mk (Kd.R_below (by (with_reducible repeat (first | apply Kd.R_alloc | apply Kd.R_drewN | apply Kd.R_drew)); exact HO506.out) hb); have n3_ := Aside0.mk (Kd.R_below (by (with_reducible repeat (first | apply Kd.R_alloc | apply Kd.R_drewN | apply Kd.R_drew)); exact HO512.out) hb); have n4_ := Aside0.mk (blk_below (g := gb488) (o := .cells #[.int .i64 a0_0, .int .i64 a0_1, .slice A0_2 l0_2.length c0_2] 41 (0, 0)) (by (with_reducible repeat (first | refine blk_drewN ?_ _ | refine blk_drew ?_ | refine blk_alloc ?_ _)); exact BK488.out) hb); have n5_ := Aside0.mk (blk_below (g := gb501) (o := .cells #[.int .i64 t495, .int .i64 t496, .slice Ao23 t497.length co23] 46 (0, 0)) (by (with_reducible repeat (first | refine blk_drewN ?_ _ | refine blk_drew ?_ | refine blk_alloc ?_ _)); exact BK501.out) hb); have n6_ := Aside0.mk (blk_below (g := gb507) (o := .cells #[.int .i64 t502, .int .i64 t503, .slice Ao30 t504.length co30] 46 (0, 0)) (by (with_reducible repeat (first | refine blk_drewN ?_ _ | refine blk_drew ?_ | refine blk_alloc ?_ _)); exact BK507.out) hb); have n7_ := Aside0.mk (below_step (by repeat (first | (with_reducible first | exact HB.out | apply below_alloc | apply pw_below_drewN | apply below_drew1 | refine below_set ?_ GE488.out | refine below_set ?_ GE501.out | refine below_set ?_ GE507.out) | exact HB.out)) hb); have n8_ := Aside0.mk (hbox); have n9_ := Aside0.mk ((by rw [hg]; exact (below_size (by repeat (first | (with_reducible first | exact HB.out | apply below_alloc | apply pw_below_drewN | apply below_drew1 | refine below_set ?_ GE488.out | refine below_set ?_ GE501.out | refine below_set ?_ GE507.out) | exact HB.out))) : w.heap.size ≤ gb514)); have n10_ := Aside0.mk ((by rw [hg]; exact (below_size (by repeat (first | (with_reducible first | exact HB.out | apply below_alloc | apply pw_below_drewN | apply below_drew1 | refine below_set ?_ GE488.out | refine below_set ?_ GE501.out | refine below_set ?_ GE507.out) | exact HB.out))) : w.heap.size ≤ gb514)); have n11_ := Aside0.mk ((by rw [hg]; exact Nat.ne_of_lt (blk_lt (g := gb488) (o := .cells #[.int .i64 a0_0, .int .i64 a0_1, .slice A0_2 l0_2.length c0_2] 41 (0, 0)) (by (with_reducible repeat (first | refine blk_drewN ?_ _ | refine blk_drew ?_ | refine blk_alloc ?_ _)); exact BK488.out)) : gb488 ≠ gb514)); have n12_ := Aside0.mk ((by rw [hg]; exact Nat.ne_of_gt (blk_lt (g := gb488) (o := .cells #[.int .i64 a0_0, .int .i64 a0_1, .slice A0_2 l0_2.length c0_2] 41 (0, 0)) (by (with_reducible repeat (first | refine blk_drewN ?_ _ | refine blk_drew ?_ | refine blk_alloc ?_ _)); exact BK488.out)) : gb514 ≠ gb488)); have n13_ := Aside0.mk ((by rw [hg]; exact Nat.ne_of_lt (blk_lt (g := gb501) (o := .cells #[.int .i64 t495, .int .i64 t496, .slice Ao23 t497.length co23] 46 (0, 0)) (by (with_reducible repeat (first | refine blk_drewN ?_ _ | refine blk_drew ?_ | refine blk_alloc ?_ _)); exact BK501.out)) : gb501 ≠ gb514)); have n14_ := Aside0.mk ((by rw [hg]; exact Nat.ne_of_gt (blk_lt (g := gb501) (o := .cells #[.int .i64 t495, .int .i64 t496, .slice Ao23 t497.length co23] 46 (0, 0)) (by (with_reducible repeat (first | refine blk_drewN ?_ _ | refine blk_drew ?_ | refine blk_alloc ?_ _)); exact BK501.out)) : gb514 ≠ gb501)); have n15_ := Aside0.mk ((by rw [hg]; exact Nat.ne_of_lt (blk_lt (g := gb507) (o := .cells #[.int .i64 t502, .int .i64 t503, .slice Ao30 t504.length co30] 46 (0, 0)) (by (with_reducible repeat (first | refine blk_drewN ?_ _ | refine blk_drew ?_ | refine blk_alloc ?_ _)); exact BK507.out)) : gb507 ≠ gb514)); have n16_ := Aside0.mk ((by rw [hg]; exact Nat.ne_of_gt (blk_lt (g := gb507) (o := .cells #[.int .i64 t502, .int .i64 t503, .slice Ao30 t504.length co30] 46 (0, 0)) (by (with_reducible repeat (first | refine blk_drewN ?_ _ | refine blk_drew ?_ | refine blk_alloc ?_ _)); exact BK507.out)) : gb514 ≠ gb507)); clear HO494; clear HO499; clear HO506; clear HO512; clear BK488; clear BK501; clear BK507; clear HB; have HO494 := n0_; have HO499 := n1_; have HO506 := n2_; have HO512 := n3_; have BK488 := n4_; have BK501 := n5_; have BK507 := n6_; have HB := n7_; have BK514 := n8_; have GW514 := n9_; have GE514 := n10_; have NB488_514 := n11_; have NB514_488 := n12_; have NB501_514 := n13_; have NB514_501 := n14_; have NB507_514 := n15_; have NB514_507 := n16_; clear n0_ n1_ n2_ n3_ n4_ n5_ n6_ n7_ n8_ n9_ n10_ n11_ n12_ n13_ n14_ n15_ n16_; clear hb hbox hg; have hnb33 := NB514_488.out; have hnc33 := NB488_514.out; have hnb34 := NB514_501.out; have hnc34 := NB501_514.out; have hnb35 := NB514_507.out; have hnc35 := NB507_514.out; have hcz36_0 : w32.cell? ⟨gb514, 0, none⟩ = some (.int .i64 0) := (blk_cell BK514.out 0).trans rfl; have hcz36_1 : w32.cell? ⟨gb514, 1, none⟩ = some (.int .i64 0) := (blk_cell BK514.out 1).trans rfl; have hcz36_2 : w32.cell? ⟨gb514, 2, none⟩ = some (.slice none 0 0) := (blk_cell BK514.out 2).trans rfl; have hfz36_0 := blk_frozen BK514.out 0; have hfz36_1 := blk_frozen BK514.out 1; have hfz36_2 := blk_frozen BK514.out 2; obtain ⟨Ao37, co37, eo37⟩ := Kd.R_slice HO512.out; subst eo37))
    (try simp only [Act.put, List.setIfInBounds_toArray, List.set_cons_zero, List.set_cons_succ])
    go_cut [44] (fun v44 wc => ∃ (kq : Nat) (x44_11 : Bool), v44 = .bool x44_11 ∧ Aside0 (laws_FnExactDropClue.j0 kq a1 t500 t513 x44_11 a0_0 a0_1 l0_2 t495 t496 t497 t502 t503 t504 t508 t509 t510 = some r) ∧ Aside0 (kq ≤ k) ∧ Aside0 (Kd.R k29 29 wc w.heap.size (fun k_ => some k_ ≠ ((.slice Ao30 t504.length co30) : Value).ownBlock ∧ some k_ ≠ ((.slice Ao37 t510.length co37) : Value).ownBlock) (.slice Ao23 t497.length co23) t497) ∧ Aside0 (Kd.R k29 29 wc w.heap.size (fun k_ => some k_ ≠ ((.slice Ao23 t497.length co23) : Value).ownBlock ∧ some k_ ≠ ((.slice Ao37 t510.length co37) : Value).ownBlock) (.slice Ao30 t504.length co30) t504) ∧ Aside0 (Kd.R k29 29 wc w.heap.size (fun k_ => some k_ ≠ ((.slice Ao23 t497.length co23) : Value).ownBlock ∧ some k_ ≠ ((.slice Ao30 t504.length co30) : Value).ownBlock) (.slice Ao37 t510.length co37) t510) ∧ Aside0 (wc.heap[gb488]? = some (.cells #[.int .i64 a0_0, .int .i64 a0_1, (.slice A0_2 l0_2.length c0_2)] 41 (0, 0))) ∧ Aside0 (wc.heap[gb501]? = some (.cells #[.int .i64 t495, .int .i64 t496, (.slice Ao23 t497.length co23)] 46 (0, 0))) ∧ Aside0 (wc.heap[gb507]? = some (.cells #[.int .i64 t502, .int .i64 t503, (.slice Ao30 t504.length co30)] 46 (0, 0))) ∧ Aside0 (wc.heap[gb514]? = some (.cells #[.int .i64 t508, .int .i64 t509, (.slice Ao37 t510.length co37)] 46 (0, 0))) ∧ Aside0 (Below w.heap.size w wc))
    case first =>
      have H := HC12.out
      clear HC12
      replace H := Option.bind_eq_some_iff.mp H
      obtain ⟨t515, A380, H⟩ := H
      replace H : (if t515 = true then (laws_FnExactDropClue.j0 k a1 t500 t513 (t513 != t500) a0_0 a0_1 l0_2 t495 t496 t497 t502 t503 t504 t508 t509 t510) else (laws_FnExactDropClue.j0 k a1 t500 t513 true a0_0 a0_1 l0_2 t495 t496 t497 t502 t503 t504 t508 t509 t510)) = some r := H
      have A38 := Aside0.mk A380
      clear A380
      by_cases c39 : t515 = true
      · subst c39
        have H1 : (laws_FnExactDropClue.j0 k a1 t500 t513 (t513 != t500) a0_0 a0_1 l0_2 t495 t496 t497 t502 t503 t504 t508 t509 t510) = some r := by rw [if_pos rfl] at H; exact H
        clear H
        have H := H1
        clear H1
        have H' := Aside0.mk H
        clear H
        have hnb40 := NB514_488.out
        have hnc40 := NB488_514.out
        have hnb41 := NB514_501.out
        have hnc41 := NB501_514.out
        have hnb42 := NB514_507.out
        have hnc42 := NB507_514.out
        have hcz43_0 : w32.cell? ⟨gb514, 0, none⟩ = some (.int .i64 0) := (blk_cell BK514.out 0).trans rfl
        have hcz43_1 : w32.cell? ⟨gb514, 1, none⟩ = some (.int .i64 0) := (blk_cell BK514.out 1).trans rfl
        have hcz43_2 : w32.cell? ⟨gb514, 2, none⟩ = some (.slice none 0 0) := (blk_cell BK514.out 2).trans rfl
        have hfz43_0 := blk_frozen BK514.out 0
        have hfz43_1 := blk_frozen BK514.out 1
        have hfz43_2 := blk_frozen BK514.out 2
        have hnb44 := NB501_488.out
        have hnc44 := NB488_501.out
        have hnb45 := NB501_507.out
        have hnc45 := NB507_501.out
        have hcz46_0 : w32.cell? ⟨gb501, 0, none⟩ = some (.int .i64 t495) := (blk_cell BK501.out 0).trans rfl
        have hcz46_1 : w32.cell? ⟨gb501, 1, none⟩ = some (.int .i64 t496) := (blk_cell BK501.out 1).trans rfl
        have hcz46_2 : w32.cell? ⟨gb501, 2, none⟩ = some (.slice Ao23 t497.length co23) := (blk_cell BK501.out 2).trans rfl
        have hfz46_0 := blk_frozen BK501.out 0
        have hfz46_1 := blk_frozen BK501.out 1
        have hfz46_2 := blk_frozen BK501.out 2
        go_wp2_with (first | ((with_reducible refine gate_callee (f := 28) rfl ?_); refine goesL_ (some 38) rfl rfl Try.func28 (by kernel_rfl) rfl #[.agg #[.int .i64 t508, .int .i64 t509, .slice Ao37 t510.length co37], .agg #[.int .i64 t495, .int .i64 t496, .slice Ao23 t497.length co23]] rfl (by (try simp only [List.map_toArray, List.map_cons, List.map_nil]); first | done | rfl | (simp only [List.length_drop, List.length_take]; rfl)) ?_; (with_reducible refine (laws_eqPuzzle.calls k t508 t509 _ _ t510 t495 t496 _ _ t497 true _ ?side1 ?side2 ?side3 ?side4 A38.out).mono ?_); (case side1 => refine (Kd.R_reads' (e := 29) (base := w.heap.size) (ok := fun k_ => (((True ∧ some k_ ≠ (.slice Ao18 t492.length co18 : Value).ownBlock) ∧ some k_ ≠ (.slice Ao23 t497.length co23 : Value).ownBlock) ∧ some k_ ≠ (.slice Ao30 t504.length co30 : Value).ownBlock)) (n := t510.length) (c := co37) ?_).2.2; exact (by (with_reducible repeat (first | apply Kd.R_alloc | apply Kd.R_drewN | apply Kd.R_drew)); exact (Kd.R_mono (Kd.R_far (p := ⟨gb514, 2, none⟩) (Kd.R_far (p := ⟨gb514, 1, none⟩) (Kd.R_far (p := ⟨gb514, 0, none⟩) (Kd.R_types HO512.out BK514.out (by decide)) (fun _ hk => hk.2) (.int .i64 t508)) (fun _ hk => hk.2) (.int .i64 t509)) (fun _ hk => hk.2) (.slice Ao37 t510.length co37)) (fun _ h_ => h_.1)))); (case side2 => exact (Kd.R_reads' HO512.out).2.1); (case side3 => refine (Kd.R_reads' (e := 29) (base := w.heap.size) (ok := fun k_ => (((True ∧ some k_ ≠ (.slice Ao18 t492.length co18 : Value).ownBlock) ∧ some k_ ≠ (.slice Ao30 t504.length co30 : Value).ownBlock) ∧ some k_ ≠ (.slice Ao37 t510.length co37 : Value).ownBlock)) (n := t497.length) (c := co23) ?_).2.2; exact (by (with_reducible repeat (first | apply Kd.R_alloc | apply Kd.R_drewN | apply Kd.R_drew)); exact (Kd.R_mono (Kd.R_far (p := ⟨gb514, 2, none⟩) (Kd.R_far (p := ⟨gb514, 1, none⟩) (Kd.R_far (p := ⟨gb514, 0, none⟩) (Kd.R_types HO499.out BK514.out (by decide)) (fun _ hk => hk.2) (.int .i64 t508)) (fun _ hk => hk.2) (.int .i64 t509)) (fun _ hk => hk.2) (.slice Ao37 t510.length co37)) (fun _ h_ => h_.1)))); (case side4 => exact (Kd.R_reads' HO499.out).2.1); rintro e w47 ⟨rfl, hb⟩; refine ⟨_, rfl, ?_⟩; have n0_ := Aside0.mk (Kd.R_below (by (with_reducible repeat (first | apply Kd.R_alloc | apply Kd.R_drewN | apply Kd.R_drew)); exact (Kd.R_mono (Kd.R_far (p := ⟨gb514, 2, none⟩) (Kd.R_far (p := ⟨gb514, 1, none⟩) (Kd.R_far (p := ⟨gb514, 0, none⟩) (Kd.R_types HO494.out BK514.out (by decide)) (fun _ hk => hk.2) (.int .i64 t508)) (fun _ hk => hk.2) (.int .i64 t509)) (fun _ hk => hk.2) (.slice Ao37 t510.length co37)) (fun _ h_ => h_.1))) hb); have n1_ := Aside0.mk (Kd.R_below (by (with_reducible repeat (first | apply Kd.R_alloc | apply Kd.R_drewN | apply Kd.R_drew)); exact (Kd.R_mono (Kd.R_far (p := ⟨gb514, 2, none⟩) (Kd.R_far (p := ⟨gb514, 1, none⟩) (Kd.R_far (p := ⟨gb514, 0, none⟩) (Kd.R_types HO499.out BK514.out (by decide)) (fun _ hk => hk.2) (.int .i64 t508)) (fun _ hk => hk.2) (.int .i64 t509)) (fun _ hk => hk.2) (.slice Ao37 t510.length co37)) (fun _ h_ => h_.1))) hb); have n2_ := Aside0.mk (Kd.R_below (by (with_reducible repeat (first | apply Kd.R_alloc | apply Kd.R_drewN | apply Kd.R_drew)); exact (Kd.R_mono (Kd.R_far (p := ⟨gb514, 2, none⟩) (Kd.R_far (p := ⟨gb514, 1, none⟩) (Kd.R_far (p := ⟨gb514, 0, none⟩) (Kd.R_types HO506.out BK514.out (by decide)) (fun _ hk => hk.2) (.int .i64 t508)) (fun _ hk => hk.2) (.int .i64 t509)) (fun _ hk => hk.2) (.slice Ao37 t510.length co37)) (fun _ h_ => h_.1))) hb); have n3_ := Aside0.mk (Kd.R_below (by (with_reducible repeat (first | apply Kd.R_alloc | apply Kd.R_drewN | apply Kd.R_drew)); exact (Kd.R_mono (Kd.R_far (p := ⟨gb514, 2, none⟩) (Kd.R_far (p := ⟨gb514, 1, none⟩) (Kd.R_far (p := ⟨gb514, 0, none⟩) (Kd.R_types HO512.out BK514.out (by decide)) (fun _ hk => hk.2) (.int .i64 t508)) (fun _ hk => hk.2) (.int .i64 t509)) (fun _ hk => hk.2) (.slice Ao37 t510.length co37)) (fun _ h_ => h_.1))) hb); have n4_ := Aside0.mk (blk_below (g := gb488) (o := .cells #[.int .i64 a0_0, .int .i64 a0_1, .slice A0_2 l0_2.length c0_2] 41 (0, 0)) (by (with_reducible repeat (first | refine blk_drewN ?_ _ | refine blk_drew ?_ | refine blk_alloc ?_ _)); refine blk_far ?_ NB488_514.out _; (with_reducible repeat (first | refine blk_drewN ?_ _ | refine blk_drew ?_ | refine blk_alloc ?_ _)); refine blk_far ?_ NB488_514.out _; (with_reducible repeat (first | refine blk_drewN ?_ _ | refine blk_drew ?_ | refine blk_alloc ?_ _)); refine blk_far ?_ NB488_514.out _; (with_reducible repeat (first | refine blk_drewN ?_ _ | refine blk_drew ?_ | refine blk_alloc ?_ _)); exact BK488.out) hb); have n5_ := Aside0.mk (blk_below (g := gb501) (o := .cells #[.int .i64 t495, .int .i64 t496, .slice Ao23 t497.length co23] 46 (0, 0)) (by (with_reducible repeat (first | refine blk_drewN ?_ _ | refine blk_drew ?_ | refine blk_alloc ?_ _)); refine blk_far ?_ NB501_514.out _; (with_reducible repeat (first | refine blk_drewN ?_ _ | refine blk_drew ?_ | refine blk_alloc ?_ _)); refine blk_far ?_ NB501_514.out _; (with_reducible repeat (first | refine blk_drewN ?_ _ | refine blk_drew ?_ | refine blk_alloc ?_ _)); refine blk_far ?_ NB501_514.out _; (with_reducible repeat (first | refine blk_drewN ?_ _ | refine blk_drew ?_ | refine blk_alloc ?_ _)); exact BK501.out) hb); have n6_ := Aside0.mk (blk_below (g := gb507) (o := .cells #[.int .i64 t502, .int .i64 t503, .slice Ao30 t504.length co30] 46 (0, 0)) (by (with_reducible repeat (first | refine blk_drewN ?_ _ | refine blk_drew ?_ | refine blk_alloc ?_ _)); refine blk_far ?_ NB507_514.out _; (with_reducible repeat (first | refine blk_drewN ?_ _ | refine blk_drew ?_ | refine blk_alloc ?_ _)); refine blk_far ?_ NB507_514.out _; (with_reducible repeat (first | refine blk_drewN ?_ _ | refine blk_drew ?_ | refine blk_alloc ?_ _)); refine blk_far ?_ NB507_514.out _; (with_reducible repeat (first | refine blk_drewN ?_ _ | refine blk_drew ?_ | refine blk_alloc ?_ _)); exact BK507.out) hb); have n7_ := Aside0.mk (blk_below (g := gb514) (o := .cells #[.int .i64 t508, .int .i64 t509, .slice Ao37 t510.length co37] 46 (0, 0)) (by (with_reducible repeat (first | refine blk_drewN ?_ _ | refine blk_drew ?_ | refine blk_alloc ?_ _)); refine blk_put (cs := #[.int .i64 t508, .int .i64 t509, .slice none 0 0]) ?_ 2 _ rfl; (with_reducible repeat (first | refine blk_drewN ?_ _ | refine blk_drew ?_ | refine blk_alloc ?_ _)); refine blk_put (cs := #[.int .i64 t508, .int .i64 0, .slice none 0 0]) ?_ 1 _ rfl; (with_reducible repeat (first | refine blk_drewN ?_ _ | refine blk_drew ?_ | refine blk_alloc ?_ _)); refine blk_put (cs := #[.int .i64 0, .int .i64 0, .slice none 0 0]) ?_ 0 _ rfl; (with_reducible repeat (first | refine blk_drewN ?_ _ | refine blk_drew ?_ | refine blk_alloc ?_ _)); exact BK514.out) hb); have n8_ := Aside0.mk (below_step (by repeat (first | (with_reducible first | exact HB.out | apply below_alloc | apply pw_below_drewN | apply below_drew1 | refine below_set ?_ GE488.out | refine below_set ?_ GE501.out | refine below_set ?_ GE507.out | refine below_set ?_ GE514.out) | exact HB.out)) hb); clear HO494; clear HO499; clear HO506; clear HO512; clear BK488; clear BK501; clear BK507; clear BK514; clear HB; have HO494 := n0_; have HO499 := n1_; have HO506 := n2_; have HO512 := n3_; have BK488 := n4_; have BK501 := n5_; have BK507 := n6_; have BK514 := n7_; have HB := n8_; clear n0_ n1_ n2_ n3_ n4_ n5_ n6_ n7_ n8_; (try clear hb); (try clear hb2); (try clear hk); (try clear hi)))
        go_meet
        case rel => exact ⟨_, ((t513 != t500)), (by first | rfl | (simp; done) | (simp [*]; done)), H', ⟨by first | omega | exact Nat.le_refl _⟩, ⟨by (with_reducible repeat (first | apply Kd.R_alloc | apply Kd.R_drewN | apply Kd.R_drew)); exact Kd.R_mono HO499.out (fun _ hk => ⟨hk.1.2, hk.2⟩)⟩, ⟨by (with_reducible repeat (first | apply Kd.R_alloc | apply Kd.R_drewN | apply Kd.R_drew)); exact Kd.R_mono HO506.out (fun _ hk => ⟨hk.1.2, hk.2⟩)⟩, ⟨by (with_reducible repeat (first | apply Kd.R_alloc | apply Kd.R_drewN | apply Kd.R_drew)); exact Kd.R_mono HO512.out (fun _ hk => ⟨hk.1.2, hk.2⟩)⟩, ⟨by (with_reducible repeat (first | refine blk_drewN ?_ _ | refine blk_drew ?_ | refine blk_alloc ?_ _)); exact BK488.out⟩, ⟨by (with_reducible repeat (first | refine blk_drewN ?_ _ | refine blk_drew ?_ | refine blk_alloc ?_ _)); exact BK501.out⟩, ⟨by (with_reducible repeat (first | refine blk_drewN ?_ _ | refine blk_drew ?_ | refine blk_alloc ?_ _)); exact BK507.out⟩, ⟨by (with_reducible repeat (first | refine blk_drewN ?_ _ | refine blk_drew ?_ | refine blk_alloc ?_ _)); exact BK514.out⟩, ⟨by repeat (first | (with_reducible first | exact HB.out | apply below_alloc | apply pw_below_drewN | apply below_drew1 | refine below_set ?_ GE488.out | refine below_set ?_ GE501.out | refine below_set ?_ GE507.out | refine below_set ?_ GE514.out) | exact HB.out)⟩⟩
      · replace c39 := Bool.eq_false_iff.mpr c39
        subst c39
        have H1 : (laws_FnExactDropClue.j0 k a1 t500 t513 true a0_0 a0_1 l0_2 t495 t496 t497 t502 t503 t504 t508 t509 t510) = some r := by rw [if_neg (show ¬ (false = true) by decide)] at H; exact H
        clear H
        have H := H1
        clear H1
        have H' := Aside0.mk H
        clear H
        have hnb48 := NB514_488.out
        have hnc48 := NB488_514.out
        have hnb49 := NB514_501.out
        have hnc49 := NB501_514.out
        have hnb50 := NB514_507.out
        have hnc50 := NB507_514.out
        have hcz51_0 : w32.cell? ⟨gb514, 0, none⟩ = some (.int .i64 0) := (blk_cell BK514.out 0).trans rfl
        have hcz51_1 : w32.cell? ⟨gb514, 1, none⟩ = some (.int .i64 0) := (blk_cell BK514.out 1).trans rfl
        have hcz51_2 : w32.cell? ⟨gb514, 2, none⟩ = some (.slice none 0 0) := (blk_cell BK514.out 2).trans rfl
        have hfz51_0 := blk_frozen BK514.out 0
        have hfz51_1 := blk_frozen BK514.out 1
        have hfz51_2 := blk_frozen BK514.out 2
        have hnb52 := NB501_488.out
        have hnc52 := NB488_501.out
        have hnb53 := NB501_507.out
        have hnc53 := NB507_501.out
        have hcz54_0 : w32.cell? ⟨gb501, 0, none⟩ = some (.int .i64 t495) := (blk_cell BK501.out 0).trans rfl
        have hcz54_1 : w32.cell? ⟨gb501, 1, none⟩ = some (.int .i64 t496) := (blk_cell BK501.out 1).trans rfl
        have hcz54_2 : w32.cell? ⟨gb501, 2, none⟩ = some (.slice Ao23 t497.length co23) := (blk_cell BK501.out 2).trans rfl
        have hfz54_0 := blk_frozen BK501.out 0
        have hfz54_1 := blk_frozen BK501.out 1
        have hfz54_2 := blk_frozen BK501.out 2
        go_wp2_with (first | ((with_reducible refine gate_callee (f := 28) rfl ?_); refine goesL_ (some 38) rfl rfl Try.func28 (by kernel_rfl) rfl #[.agg #[.int .i64 t508, .int .i64 t509, .slice Ao37 t510.length co37], .agg #[.int .i64 t495, .int .i64 t496, .slice Ao23 t497.length co23]] rfl (by (try simp only [List.map_toArray, List.map_cons, List.map_nil]); first | done | rfl | (simp only [List.length_drop, List.length_take]; rfl)) ?_; (with_reducible refine (laws_eqPuzzle.calls k t508 t509 _ _ t510 t495 t496 _ _ t497 false _ ?side1 ?side2 ?side3 ?side4 A38.out).mono ?_); (case side1 => refine (Kd.R_reads' (e := 29) (base := w.heap.size) (ok := fun k_ => (((True ∧ some k_ ≠ (.slice Ao18 t492.length co18 : Value).ownBlock) ∧ some k_ ≠ (.slice Ao23 t497.length co23 : Value).ownBlock) ∧ some k_ ≠ (.slice Ao30 t504.length co30 : Value).ownBlock)) (n := t510.length) (c := co37) ?_).2.2; exact (by (with_reducible repeat (first | apply Kd.R_alloc | apply Kd.R_drewN | apply Kd.R_drew)); exact (Kd.R_mono (Kd.R_far (p := ⟨gb514, 2, none⟩) (Kd.R_far (p := ⟨gb514, 1, none⟩) (Kd.R_far (p := ⟨gb514, 0, none⟩) (Kd.R_types HO512.out BK514.out (by decide)) (fun _ hk => hk.2) (.int .i64 t508)) (fun _ hk => hk.2) (.int .i64 t509)) (fun _ hk => hk.2) (.slice Ao37 t510.length co37)) (fun _ h_ => h_.1)))); (case side2 => exact (Kd.R_reads' HO512.out).2.1); (case side3 => refine (Kd.R_reads' (e := 29) (base := w.heap.size) (ok := fun k_ => (((True ∧ some k_ ≠ (.slice Ao18 t492.length co18 : Value).ownBlock) ∧ some k_ ≠ (.slice Ao30 t504.length co30 : Value).ownBlock) ∧ some k_ ≠ (.slice Ao37 t510.length co37 : Value).ownBlock)) (n := t497.length) (c := co23) ?_).2.2; exact (by (with_reducible repeat (first | apply Kd.R_alloc | apply Kd.R_drewN | apply Kd.R_drew)); exact (Kd.R_mono (Kd.R_far (p := ⟨gb514, 2, none⟩) (Kd.R_far (p := ⟨gb514, 1, none⟩) (Kd.R_far (p := ⟨gb514, 0, none⟩) (Kd.R_types HO499.out BK514.out (by decide)) (fun _ hk => hk.2) (.int .i64 t508)) (fun _ hk => hk.2) (.int .i64 t509)) (fun _ hk => hk.2) (.slice Ao37 t510.length co37)) (fun _ h_ => h_.1)))); (case side4 => exact (Kd.R_reads' HO499.out).2.1); rintro e w55 ⟨rfl, hb⟩; refine ⟨_, rfl, ?_⟩; have n0_ := Aside0.mk (Kd.R_below (by (with_reducible repeat (first | apply Kd.R_alloc | apply Kd.R_drewN | apply Kd.R_drew)); exact (Kd.R_mono (Kd.R_far (p := ⟨gb514, 2, none⟩) (Kd.R_far (p := ⟨gb514, 1, none⟩) (Kd.R_far (p := ⟨gb514, 0, none⟩) (Kd.R_types HO494.out BK514.out (by decide)) (fun _ hk => hk.2) (.int .i64 t508)) (fun _ hk => hk.2) (.int .i64 t509)) (fun _ hk => hk.2) (.slice Ao37 t510.length co37)) (fun _ h_ => h_.1))) hb); have n1_ := Aside0.mk (Kd.R_below (by (with_reducible repeat (first | apply Kd.R_alloc | apply Kd.R_drewN | apply Kd.R_drew)); exact (Kd.R_mono (Kd.R_far (p := ⟨gb514, 2, none⟩) (Kd.R_far (p := ⟨gb514, 1, none⟩) (Kd.R_far (p := ⟨gb514, 0, none⟩) (Kd.R_types HO499.out BK514.out (by decide)) (fun _ hk => hk.2) (.int .i64 t508)) (fun _ hk => hk.2) (.int .i64 t509)) (fun _ hk => hk.2) (.slice Ao37 t510.length co37)) (fun _ h_ => h_.1))) hb); have n2_ := Aside0.mk (Kd.R_below (by (with_reducible repeat (first | apply Kd.R_alloc | apply Kd.R_drewN | apply Kd.R_drew)); exact (Kd.R_mono (Kd.R_far (p := ⟨gb514, 2, none⟩) (Kd.R_far (p := ⟨gb514, 1, none⟩) (Kd.R_far (p := ⟨gb514, 0, none⟩) (Kd.R_types HO506.out BK514.out (by decide)) (fun _ hk => hk.2) (.int .i64 t508)) (fun _ hk => hk.2) (.int .i64 t509)) (fun _ hk => hk.2) (.slice Ao37 t510.length co37)) (fun _ h_ => h_.1))) hb); have n3_ := Aside0.mk (Kd.R_below (by (with_reducible repeat (first | apply Kd.R_alloc | apply Kd.R_drewN | apply Kd.R_drew)); exact (Kd.R_mono (Kd.R_far (p := ⟨gb514, 2, none⟩) (Kd.R_far (p := ⟨gb514, 1, none⟩) (Kd.R_far (p := ⟨gb514, 0, none⟩) (Kd.R_types HO512.out BK514.out (by decide)) (fun _ hk => hk.2) (.int .i64 t508)) (fun _ hk => hk.2) (.int .i64 t509)) (fun _ hk => hk.2) (.slice Ao37 t510.length co37)) (fun _ h_ => h_.1))) hb); have n4_ := Aside0.mk (blk_below (g := gb488) (o := .cells #[.int .i64 a0_0, .int .i64 a0_1, .slice A0_2 l0_2.length c0_2] 41 (0, 0)) (by (with_reducible repeat (first | refine blk_drewN ?_ _ | refine blk_drew ?_ | refine blk_alloc ?_ _)); refine blk_far ?_ NB488_514.out _; (with_reducible repeat (first | refine blk_drewN ?_ _ | refine blk_drew ?_ | refine blk_alloc ?_ _)); refine blk_far ?_ NB488_514.out _; (with_reducible repeat (first | refine blk_drewN ?_ _ | refine blk_drew ?_ | refine blk_alloc ?_ _)); refine blk_far ?_ NB488_514.out _; (with_reducible repeat (first | refine blk_drewN ?_ _ | refine blk_drew ?_ | refine blk_alloc ?_ _)); exact BK488.out) hb); have n5_ := Aside0.mk (blk_below (g := gb501) (o := .cells #[.int .i64 t495, .int .i64 t496, .slice Ao23 t497.length co23] 46 (0, 0)) (by (with_reducible repeat (first | refine blk_drewN ?_ _ | refine blk_drew ?_ | refine blk_alloc ?_ _)); refine blk_far ?_ NB501_514.out _; (with_reducible repeat (first | refine blk_drewN ?_ _ | refine blk_drew ?_ | refine blk_alloc ?_ _)); refine blk_far ?_ NB501_514.out _; (with_reducible repeat (first | refine blk_drewN ?_ _ | refine blk_drew ?_ | refine blk_alloc ?_ _)); refine blk_far ?_ NB501_514.out _; (with_reducible repeat (first | refine blk_drewN ?_ _ | refine blk_drew ?_ | refine blk_alloc ?_ _)); exact BK501.out) hb); have n6_ := Aside0.mk (blk_below (g := gb507) (o := .cells #[.int .i64 t502, .int .i64 t503, .slice Ao30 t504.length co30] 46 (0, 0)) (by (with_reducible repeat (first | refine blk_drewN ?_ _ | refine blk_drew ?_ | refine blk_alloc ?_ _)); refine blk_far ?_ NB507_514.out _; (with_reducible repeat (first | refine blk_drewN ?_ _ | refine blk_drew ?_ | refine blk_alloc ?_ _)); refine blk_far ?_ NB507_514.out _; (with_reducible repeat (first | refine blk_drewN ?_ _ | refine blk_drew ?_ | refine blk_alloc ?_ _)); refine blk_far ?_ NB507_514.out _; (with_reducible repeat (first | refine blk_drewN ?_ _ | refine blk_drew ?_ | refine blk_alloc ?_ _)); exact BK507.out) hb); have n7_ := Aside0.mk (blk_below (g := gb514) (o := .cells #[.int .i64 t508, .int .i64 t509, .slice Ao37 t510.length co37] 46 (0, 0)) (by (with_reducible repeat (first | refine blk_drewN ?_ _ | refine blk_drew ?_ | refine blk_alloc ?_ _)); refine blk_put (cs := #[.int .i64 t508, .int .i64 t509, .slice none 0 0]) ?_ 2 _ rfl; (with_reducible repeat (first | refine blk_drewN ?_ _ | refine blk_drew ?_ | refine blk_alloc ?_ _)); refine blk_put (cs := #[.int .i64 t508, .int .i64 0, .slice none 0 0]) ?_ 1 _ rfl; (with_reducible repeat (first | refine blk_drewN ?_ _ | refine blk_drew ?_ | refine blk_alloc ?_ _)); refine blk_put (cs := #[.int .i64 0, .int .i64 0, .slice none 0 0]) ?_ 0 _ rfl; (with_reducible repeat (first | refine blk_drewN ?_ _ | refine blk_drew ?_ | refine blk_alloc ?_ _)); exact BK514.out) hb); have n8_ := Aside0.mk (below_step (by repeat (first | (with_reducible first | exact HB.out | apply below_alloc | apply pw_below_drewN | apply below_drew1 | refine below_set ?_ GE488.out | refine below_set ?_ GE501.out | refine below_set ?_ GE507.out | refine below_set ?_ GE514.out) | exact HB.out)) hb); clear HO494; clear HO499; clear HO506; clear HO512; clear BK488; clear BK501; clear BK507; clear BK514; clear HB; have HO494 := n0_; have HO499 := n1_; have HO506 := n2_; have HO512 := n3_; have BK488 := n4_; have BK501 := n5_; have BK507 := n6_; have BK514 := n7_; have HB := n8_; clear n0_ n1_ n2_ n3_ n4_ n5_ n6_ n7_ n8_; (try clear hb); (try clear hb2); (try clear hk); (try clear hi)))
        go_meet
        case rel => exact ⟨_, (true), (by first | rfl | (simp; done) | (simp [*]; done)), H', ⟨by first | omega | exact Nat.le_refl _⟩, ⟨by (with_reducible repeat (first | apply Kd.R_alloc | apply Kd.R_drewN | apply Kd.R_drew)); exact Kd.R_mono HO499.out (fun _ hk => ⟨hk.1.2, hk.2⟩)⟩, ⟨by (with_reducible repeat (first | apply Kd.R_alloc | apply Kd.R_drewN | apply Kd.R_drew)); exact Kd.R_mono HO506.out (fun _ hk => ⟨hk.1.2, hk.2⟩)⟩, ⟨by (with_reducible repeat (first | apply Kd.R_alloc | apply Kd.R_drewN | apply Kd.R_drew)); exact Kd.R_mono HO512.out (fun _ hk => ⟨hk.1.2, hk.2⟩)⟩, ⟨by (with_reducible repeat (first | refine blk_drewN ?_ _ | refine blk_drew ?_ | refine blk_alloc ?_ _)); exact BK488.out⟩, ⟨by (with_reducible repeat (first | refine blk_drewN ?_ _ | refine blk_drew ?_ | refine blk_alloc ?_ _)); exact BK501.out⟩, ⟨by (with_reducible repeat (first | refine blk_drewN ?_ _ | refine blk_drew ?_ | refine blk_alloc ?_ _)); exact BK507.out⟩, ⟨by (with_reducible repeat (first | refine blk_drewN ?_ _ | refine blk_drew ?_ | refine blk_alloc ?_ _)); exact BK514.out⟩, ⟨by repeat (first | (with_reducible first | exact HB.out | apply below_alloc | apply pw_below_drewN | apply below_drew1 | refine below_set ?_ GE488.out | refine below_set ?_ GE501.out | refine below_set ?_ GE507.out | refine below_set ?_ GE514.out) | exact HB.out)⟩⟩
    case rest =>
      clear HC12
      try clear c2; try clear p2; try clear c3; try clear c4; try clear c4b0; try clear c5; try clear c8; try clear c21; try clear c24; try clear c26; try clear c27; try clear c28; try clear c33; try clear c34; try clear c35; try clear c37; try clear c38; try clear c39; try clear c40; try clear c41; try clear c42; try clear c44; try clear c45; try clear c48; try clear c49; try clear c50; try clear c52; try clear c53; try clear hcz14_0; try clear hcz14_1; try clear hcz14_2; try clear hcz16_0; try clear hcz16_1; try clear hcz16_2; try clear hcz22_0; try clear hcz22_1; try clear hcz22_2; try clear hcz24_0; try clear hcz24_1; try clear hcz24_2; try clear hcz29_0; try clear hcz29_1; try clear hcz29_2; try clear hcz36_0; try clear hcz36_1; try clear hcz36_2; try clear hcz43_0; try clear hcz43_1; try clear hcz43_2; try clear hcz46_0; try clear hcz46_1; try clear hcz46_2; try clear hcz51_0; try clear hcz51_1; try clear hcz51_2; try clear hcz54_0; try clear hcz54_1; try clear hcz54_2; try clear hcz6_0; try clear hcz6_1; try clear hcz6_2; try clear hfz14_0; try clear hfz14_1; try clear hfz14_2; try clear hfz16_0; try clear hfz16_1; try clear hfz16_2; try clear hfz22_0; try clear hfz22_1; try clear hfz22_2; try clear hfz24_0; try clear hfz24_1; try clear hfz24_2; try clear hfz29_0; try clear hfz29_1; try clear hfz29_2; try clear hfz36_0; try clear hfz36_1; try clear hfz36_2; try clear hfz43_0; try clear hfz43_1; try clear hfz43_2; try clear hfz46_0; try clear hfz46_1; try clear hfz46_2; try clear hfz51_0; try clear hfz51_1; try clear hfz51_2; try clear hfz54_0; try clear hfz54_1; try clear hfz54_2; try clear hfz6_0; try clear hfz6_1; try clear hfz6_2
      obtain ⟨kq, x44_11, rfl, HA, HJ11, HO_502002, HO_508002, HO_515002, BK488, BK501, BK507, BK514, HB⟩ := hcut
      cases kq with
      | zero => exact absurd HA.out (by simp [laws_FnExactDropClue.j0])
      | succ kj11 =>
        have H := HA.out
        clear HA
        simp only [laws_FnExactDropClue.j0] at H
        by_cases c56 : x44_11 = true
        · subst c56
          have H1 : (some false) = some r := by rw [if_pos rfl] at H; exact H
          clear H
          have H := H1
          clear H1
          obtain rfl := Option.some.inj H
          go_wp2
          go_ret
          exact ⟨by first | rfl | (simp [errW_none, errW_some] <;> rfl) | (simp [*, errW_none, errW_some] <;> rfl), by repeat (first | (with_reducible first | exact HB.out | apply below_alloc | apply pw_below_drewN | apply below_drew1 | refine below_set ?_ GE488.out | refine below_set ?_ GE501.out | refine below_set ?_ GE507.out | refine below_set ?_ GE514.out) | exact HB.out)⟩
        · replace c56 := Bool.eq_false_iff.mpr c56
          subst c56
          have H1 : ((laws_toPuzzle.f kj11 a0_0 a0_1 l0_2).bind fun bt516 => ((laws_eqPuzzle.f kj11 t502 t503 t504 bt516.1 bt516.2.1 bt516.2.2).bind fun t521 => (if t521 = true then ((laws_markPuzzle.f kj11 t502 t503 t504 1).bind fun bt522 => (if bt522.1 < 0 then (laws_FnExactDropClue.j1 kj11 a1 t500 true a0_0 a0_1 l0_2 t495 t496 t497 t508 t509 t510) else ((laws_eqPuzzle.f kj11 t508 t509 t510 t495 t496 t497).bind fun t524 => (if t524 = true then (laws_FnExactDropClue.j1 kj11 a1 t500 (t513 != t500) a0_0 a0_1 l0_2 t495 t496 t497 t508 t509 t510) else (laws_FnExactDropClue.j1 kj11 a1 t500 true a0_0 a0_1 l0_2 t495 t496 t497 t508 t509 t510))))) else (some false)))) = some r := by rw [if_neg (show ¬ (false = true) by decide)] at H; exact H
          clear H
          have H := H1
          clear H1
          replace H := Option.bind_eq_some_iff.mp H
          obtain ⟨⟨t516, t517, t518⟩, A570, H⟩ := H
          replace H : ((laws_eqPuzzle.f kj11 t502 t503 t504 t516 t517 t518).bind fun t521 => (if t521 = true then ((laws_markPuzzle.f kj11 t502 t503 t504 1).bind fun bt522 => (if bt522.1 < 0 then (laws_FnExactDropClue.j1 kj11 a1 t500 true a0_0 a0_1 l0_2 t495 t496 t497 t508 t509 t510) else ((laws_eqPuzzle.f kj11 t508 t509 t510 t495 t496 t497).bind fun t524 => (if t524 = true then (laws_FnExactDropClue.j1 kj11 a1 t500 (t513 != t500) a0_0 a0_1 l0_2 t495 t496 t497 t508 t509 t510) else (laws_FnExactDropClue.j1 kj11 a1 t500 true a0_0 a0_1 l0_2 t495 t496 t497 t508 t509 t510))))) else (some false))) = some r := H
          have A57 := Aside0.mk A570
          clear A570
          replace H := Option.bind_eq_some_iff.mp H
          obtain ⟨t521, A580, H⟩ := H
          replace H : (if t521 = true then ((laws_markPuzzle.f kj11 t502 t503 t504 1).bind fun bt522 => (if bt522.1 < 0 then (laws_FnExactDropClue.j1 kj11 a1 t500 true a0_0 a0_1 l0_2 t495 t496 t497 t508 t509 t510) else ((laws_eqPuzzle.f kj11 t508 t509 t510 t495 t496 t497).bind fun t524 => (if t524 = true then (laws_FnExactDropClue.j1 kj11 a1 t500 (t513 != t500) a0_0 a0_1 l0_2 t495 t496 t497 t508 t509 t510) else (laws_FnExactDropClue.j1 kj11 a1 t500 true a0_0 a0_1 l0_2 t495 t496 t497 t508 t509 t510))))) else (some false)) = some r := H
          have A58 := Aside0.mk A580
          clear A580
          by_cases c59 : t521 = true
          · subst c59
            have H1 : ((laws_markPuzzle.f kj11 t502 t503 t504 1).bind fun bt522 => (if bt522.1 < 0 then (laws_FnExactDropClue.j1 kj11 a1 t500 true a0_0 a0_1 l0_2 t495 t496 t497 t508 t509 t510) else ((laws_eqPuzzle.f kj11 t508 t509 t510 t495 t496 t497).bind fun t524 => (if t524 = true then (laws_FnExactDropClue.j1 kj11 a1 t500 (t513 != t500) a0_0 a0_1 l0_2 t495 t496 t497 t508 t509 t510) else (laws_FnExactDropClue.j1 kj11 a1 t500 true a0_0 a0_1 l0_2 t495 t496 t497 t508 t509 t510))))) = some r := by rw [if_pos rfl] at H; exact H
            clear H
            have H := H1
            clear H1
            replace H := Option.bind_eq_some_iff.mp H
            obtain ⟨⟨t522, t523⟩, A600, H⟩ := H
            replace H : (if t522 < 0 then (laws_FnExactDropClue.j1 kj11 a1 t500 true a0_0 a0_1 l0_2 t495 t496 t497 t508 t509 t510) else ((laws_eqPuzzle.f kj11 t508 t509 t510 t495 t496 t497).bind fun t524 => (if t524 = true then (laws_FnExactDropClue.j1 kj11 a1 t500 (t513 != t500) a0_0 a0_1 l0_2 t495 t496 t497 t508 t509 t510) else (laws_FnExactDropClue.j1 kj11 a1 t500 true a0_0 a0_1 l0_2 t495 t496 t497 t508 t509 t510)))) = some r := H
            have A60 := Aside0.mk A600
            clear A600
            have HC61 := Aside0.mk H
            clear H
            try go_wp2
            have n0_ := Aside0.mk (Kd.R_drew HO_502002.out)
            have n1_ := Aside0.mk (Kd.R_drew HO_508002.out)
            have n2_ := Aside0.mk (Kd.R_drew HO_515002.out)
            have n3_ := Aside0.mk (blk_drew BK488.out)
            have n4_ := Aside0.mk (blk_drew BK501.out)
            have n5_ := Aside0.mk (blk_drew BK507.out)
            have n6_ := Aside0.mk (blk_drew BK514.out)
            have n7_ := Aside0.mk (below_drew1 HB.out)
            clear HO_502002
            clear HO_508002
            clear HO_515002
            clear BK488
            clear BK501
            clear BK507
            clear BK514
            clear HB
            have HO_502002 := n0_
            have HO_508002 := n1_
            have HO_515002 := n2_
            have BK488 := n3_
            have BK501 := n4_
            have BK507 := n5_
            have BK514 := n6_
            have HB := n7_
            clear n0_ n1_ n2_ n3_ n4_ n5_ n6_ n7_
            refine start_ (n := 5) (S := fun w' => w'.cell? ⟨gb507, 0, none⟩ = some (.int .i64 t502) ∧ w'.cell? ⟨gb507, 1, none⟩ = some (.int .i64 t503) ∧ w'.cell? ⟨gb507, 2, none⟩ = some (.slice Ao30 t504.length co30) ∧ w'.cell? ⟨gb488, 0, none⟩ = some (.int .i64 a0_0) ∧ w'.cell? ⟨gb488, 1, none⟩ = some (.int .i64 a0_1) ∧ w'.cell? ⟨gb488, 2, none⟩ = some (.slice A0_2 l0_2.length c0_2)) (ds := []) #[false, false, false, false, false] (by kernel_rfl) rfl rfl ⟨(blk_cell BK507.out 0).trans rfl, (blk_cell BK507.out 1).trans rfl, (blk_cell BK507.out 2).trans rfl, (blk_cell BK488.out 0).trans rfl, (blk_cell BK488.out 1).trans rfl, (blk_cell BK488.out 2).trans rfl⟩ (fun hHeld => ?_)
            generalize wc.drew = w62 at HO_502002 HO_508002 HO_515002 BK488 BK501 BK507 BK514 HB hHeld ⊢
            refine take_ (i := 0) (N := some 45) (v := ?_) (a' := ?_) #[true, false, false, false, false] rfl rfl (by kernel_rfl) (fun _ _ _ h => h) (Or.inl ⟨by rfl, ?_⟩) hHeld ?_ ?_
            rotate_left
            · rintro w' ⟨s0, s1, s2, s3, s4, s5⟩
              go_simp
              with_reducible rfl
            rotate_left
            · simp only [Act.put, List.setIfInBounds_toArray, List.set_cons_zero, List.set_cons_succ, i64_w, i32_w]
              rfl
            refine take_ (i := 1) (N := some 46) (v := ?_) (a' := ?_) #[true, true, false, false, false] rfl rfl (by kernel_rfl) (fun _ _ _ h => h) (Or.inl ⟨by rfl, ?_⟩) hHeld ?_ ?_
            rotate_left
            · rintro w' ⟨s0, s1, s2, s3, s4, s5⟩
              go_simp
              with_reducible rfl
            rotate_left
            · simp only [Act.put, List.setIfInBounds_toArray, List.set_cons_zero, List.set_cons_succ, i64_w, i32_w]
              rfl
            refine one_ (i := 2) (N := some 47) #[true, true, true, false, false] rfl rfl (by kernel_rfl) (by decide) (fun K hK => ?_)
            refine goes_ Try.func26 (by kernel_rfl) rfl #[.agg #[.int .i64 a0_0, .int .i64 a0_1, .slice A0_2 l0_2.length c0_2]] (by rfl) rfl rfl (by (try simp only [List.map_toArray, List.map_cons, List.map_nil]); first | done | rfl | (simp only [List.length_drop, List.length_take]; rfl)) ?_
            with_reducible refine (laws_toPuzzle.calls kj11 a0_0 a0_1 _ _ l0_2 t516 t517 t518 _ ?side1 ?side2 A57.out).mono ?_
            (case side1 => repeat (first | exact (Kd.C_below HR0_2.out HB.out) | (with_reducible refine Kd.C_alloc ?_ _) | (with_reducible refine Kd.C_drewN ?_ _) | (with_reducible refine Kd.C_drew ?_)))
            (case side2 => exact HC0_2.out)
            rintro e w63 ⟨v519, rfl, ho0, hb⟩
            refine ⟨_, rfl, ?_⟩
            have n0_ := Aside0.mk (Kd.R_elder' (by (with_reducible repeat (first | apply Kd.R_alloc | apply Kd.R_drewN | apply Kd.R_drew)); exact HO_502002.out) (Kd.R_base ho0) hb)
            have n1_ := Aside0.mk (Kd.R_elder' (by (with_reducible repeat (first | apply Kd.R_alloc | apply Kd.R_drewN | apply Kd.R_drew)); exact HO_508002.out) (Kd.R_base ho0) hb)
            have n2_ := Aside0.mk (Kd.R_elder' (by (with_reducible repeat (first | apply Kd.R_alloc | apply Kd.R_drewN | apply Kd.R_drew)); exact HO_515002.out) (Kd.R_base ho0) hb)
            have n3_ := Aside0.mk (Kd.R_lower (Kd.R_new' (Kd.R_new' (Kd.R_new' ho0 (Kd.R_lt (by (with_reducible repeat (first | apply Kd.R_alloc | apply Kd.R_drewN | apply Kd.R_drew)); exact HO_502002.out))) (Kd.R_lt (by (with_reducible repeat (first | apply Kd.R_alloc | apply Kd.R_drewN | apply Kd.R_drew)); exact HO_508002.out))) (Kd.R_lt (by (with_reducible repeat (first | apply Kd.R_alloc | apply Kd.R_drewN | apply Kd.R_drew)); exact HO_515002.out))) (below_size (by repeat (first | (with_reducible first | exact HB.out | apply below_alloc | apply pw_below_drewN | apply below_drew1 | refine below_set ?_ GE488.out | refine below_set ?_ GE501.out | refine below_set ?_ GE507.out | refine below_set ?_ GE514.out) | exact HB.out))))
            have n4_ := Aside0.mk (blk_below (g := gb488) (o := .cells #[.int .i64 a0_0, .int .i64 a0_1, .slice A0_2 l0_2.length c0_2] 41 (0, 0)) (by (with_reducible repeat (first | refine blk_drewN ?_ _ | refine blk_drew ?_ | refine blk_alloc ?_ _)); exact BK488.out) hb)
            have n5_ := Aside0.mk (blk_below (g := gb501) (o := .cells #[.int .i64 t495, .int .i64 t496, .slice Ao23 t497.length co23] 46 (0, 0)) (by (with_reducible repeat (first | refine blk_drewN ?_ _ | refine blk_drew ?_ | refine blk_alloc ?_ _)); exact BK501.out) hb)
            have n6_ := Aside0.mk (blk_below (g := gb507) (o := .cells #[.int .i64 t502, .int .i64 t503, .slice Ao30 t504.length co30] 46 (0, 0)) (by (with_reducible repeat (first | refine blk_drewN ?_ _ | refine blk_drew ?_ | refine blk_alloc ?_ _)); exact BK507.out) hb)
            have n7_ := Aside0.mk (blk_below (g := gb514) (o := .cells #[.int .i64 t508, .int .i64 t509, .slice Ao37 t510.length co37] 46 (0, 0)) (by (with_reducible repeat (first | refine blk_drewN ?_ _ | refine blk_drew ?_ | refine blk_alloc ?_ _)); exact BK514.out) hb)
            have n8_ := Aside0.mk (below_step (by repeat (first | (with_reducible first | exact HB.out | apply below_alloc | apply pw_below_drewN | apply below_drew1 | refine below_set ?_ GE488.out | refine below_set ?_ GE501.out | refine below_set ?_ GE507.out | refine below_set ?_ GE514.out) | exact HB.out)) hb)
            clear HO_502002
            clear HO_508002
            clear HO_515002
            clear BK488
            clear BK501
            clear BK507
            clear BK514
            clear HB
            have HO_502002 := n0_
            have HO_508002 := n1_
            have HO_515002 := n2_
            have HO520 := n3_
            have BK488 := n4_
            have BK501 := n5_
            have BK507 := n6_
            have BK514 := n7_
            have HB := n8_
            clear n0_ n1_ n2_ n3_ n4_ n5_ n6_ n7_ n8_
            (try clear hb)
            (try clear hb2)
            (try clear hk)
            (try clear hi)
            (try clear ho0)
            obtain ⟨Ao64, co64, eo64⟩ := Kd.R_slice HO520.out
            (first | subst eo64 | (injection eo64 with f1_ f2_ f3_; have f4_ := f1_.symm; have f5_ := f3_.symm; clear f1_ f2_ f3_; subst f4_; subst f5_))
            refine hK.out _ _ ⟨(blk_cell BK507.out 0).trans rfl, (blk_cell BK507.out 1).trans rfl, (blk_cell BK507.out 2).trans rfl, (blk_cell BK488.out 0).trans rfl, (blk_cell BK488.out 1).trans rfl, (blk_cell BK488.out 2).trans rfl⟩ (fun hHeld => ?_)
            clear hK K
            refine norm_ (a' := ?_) ?_ ?_
            rotate_left
            · show Act.put _ (some 47) _ = _
              simp only [Act.put, List.setIfInBounds_toArray, List.set_cons_zero, List.set_cons_succ, i64_w, i32_w]
              rfl
            refine one_ (i := 3) (N := some 48) #[true, true, true, true, false] rfl rfl (by kernel_rfl) (by decide) (fun K hK => ?_)
            refine goes_ Try.func28 (by kernel_rfl) rfl #[.agg #[.int .i64 t502, .int .i64 t503, .slice Ao30 t504.length co30], .agg #[.int .i64 t516, .int .i64 t517, .slice Ao64 t518.length co64]] (by rfl) rfl rfl (by (try simp only [List.map_toArray, List.map_cons, List.map_nil]); first | done | rfl | (simp only [List.length_drop, List.length_take]; rfl)) ?_
            with_reducible refine (laws_eqPuzzle.calls kj11 t502 t503 _ _ t504 t516 t517 _ _ t518 true _ ?side1 ?side2 ?side3 ?side4 A58.out).mono ?_
            (case side1 => repeat (first | exact (Kd.R_reads' HO_508002.out).2.2 | (with_reducible refine Kd.C_alloc ?_ _) | (with_reducible refine Kd.C_drewN ?_ _) | (with_reducible refine Kd.C_drew ?_)))
            (case side2 => exact (Kd.R_reads' HO_508002.out).2.1)
            (case side3 => repeat (first | exact (Kd.R_reads' HO520.out).2.2 | (with_reducible refine Kd.C_alloc ?_ _) | (with_reducible refine Kd.C_drewN ?_ _) | (with_reducible refine Kd.C_drew ?_)))
            (case side4 => exact (Kd.R_reads' HO520.out).2.1)
            rintro e w65 ⟨rfl, hb⟩
            refine ⟨_, rfl, ?_⟩
            have n0_ := Aside0.mk (Kd.R_below (by (with_reducible repeat (first | apply Kd.R_alloc | apply Kd.R_drewN | apply Kd.R_drew)); exact HO_502002.out) hb)
            have n1_ := Aside0.mk (Kd.R_below (by (with_reducible repeat (first | apply Kd.R_alloc | apply Kd.R_drewN | apply Kd.R_drew)); exact HO_508002.out) hb)
            have n2_ := Aside0.mk (Kd.R_below (by (with_reducible repeat (first | apply Kd.R_alloc | apply Kd.R_drewN | apply Kd.R_drew)); exact HO_515002.out) hb)
            have n3_ := Aside0.mk (Kd.R_below (by (with_reducible repeat (first | apply Kd.R_alloc | apply Kd.R_drewN | apply Kd.R_drew)); exact HO520.out) hb)
            have n4_ := Aside0.mk (blk_below (g := gb488) (o := .cells #[.int .i64 a0_0, .int .i64 a0_1, .slice A0_2 l0_2.length c0_2] 41 (0, 0)) (by (with_reducible repeat (first | refine blk_drewN ?_ _ | refine blk_drew ?_ | refine blk_alloc ?_ _)); exact BK488.out) hb)
            have n5_ := Aside0.mk (blk_below (g := gb501) (o := .cells #[.int .i64 t495, .int .i64 t496, .slice Ao23 t497.length co23] 46 (0, 0)) (by (with_reducible repeat (first | refine blk_drewN ?_ _ | refine blk_drew ?_ | refine blk_alloc ?_ _)); exact BK501.out) hb)
            have n6_ := Aside0.mk (blk_below (g := gb507) (o := .cells #[.int .i64 t502, .int .i64 t503, .slice Ao30 t504.length co30] 46 (0, 0)) (by (with_reducible repeat (first | refine blk_drewN ?_ _ | refine blk_drew ?_ | refine blk_alloc ?_ _)); exact BK507.out) hb)
            have n7_ := Aside0.mk (blk_below (g := gb514) (o := .cells #[.int .i64 t508, .int .i64 t509, .slice Ao37 t510.length co37] 46 (0, 0)) (by (with_reducible repeat (first | refine blk_drewN ?_ _ | refine blk_drew ?_ | refine blk_alloc ?_ _)); exact BK514.out) hb)
            have n8_ := Aside0.mk (below_step (by repeat (first | (with_reducible first | exact HB.out | apply below_alloc | apply pw_below_drewN | apply below_drew1 | refine below_set ?_ GE488.out | refine below_set ?_ GE501.out | refine below_set ?_ GE507.out | refine below_set ?_ GE514.out) | exact HB.out)) hb)
            clear HO_502002
            clear HO_508002
            clear HO_515002
            clear HO520
            clear BK488
            clear BK501
            clear BK507
            clear BK514
            clear HB
            have HO_502002 := n0_
            have HO_508002 := n1_
            have HO_515002 := n2_
            have HO520 := n3_
            have BK488 := n4_
            have BK501 := n5_
            have BK507 := n6_
            have BK514 := n7_
            have HB := n8_
            clear n0_ n1_ n2_ n3_ n4_ n5_ n6_ n7_ n8_
            (try clear hb)
            (try clear hb2)
            (try clear hk)
            (try clear hi)
            refine hK.out _ _ ⟨(blk_cell BK507.out 0).trans rfl, (blk_cell BK507.out 1).trans rfl, (blk_cell BK507.out 2).trans rfl, (blk_cell BK488.out 0).trans rfl, (blk_cell BK488.out 1).trans rfl, (blk_cell BK488.out 2).trans rfl⟩ (fun hHeld => ?_)
            clear hK K
            refine norm_ (a' := ?_) ?_ ?_
            rotate_left
            · show Act.put _ (some 48) _ = _
              simp only [Act.put, List.setIfInBounds_toArray, List.set_cons_zero, List.set_cons_succ, i64_w, i32_w]
              rfl
            refine pure_ (i := 4) (N := some 49) (v := ?_) (a' := ?_) #[true, true, true, true, true] rfl rfl (by kernel_rfl) (fun _ _ _ h => h) (Or.inl ⟨by rfl, ?_⟩) ?_ ?_
            rotate_left
            · intro w'
              go_simp
              with_reducible rfl
            rotate_left
            · simp only [Act.put, List.setIfInBounds_toArray, List.set_cons_zero, List.set_cons_succ, i64_w, i32_w]
              rfl
            refine done_ (by kernel_rfl) ?_
            have hnb66 := NB507_488.out
            have hnc66 := NB488_507.out
            have hnb67 := NB507_501.out
            have hnc67 := NB501_507.out
            have hnb68 := NB507_514.out
            have hnc68 := NB514_507.out
            have hcz69_0 : w65.cell? ⟨gb507, 0, none⟩ = some (.int .i64 t502) := (blk_cell BK507.out 0).trans rfl
            have hcz69_1 : w65.cell? ⟨gb507, 1, none⟩ = some (.int .i64 t503) := (blk_cell BK507.out 1).trans rfl
            have hcz69_2 : w65.cell? ⟨gb507, 2, none⟩ = some (.slice Ao30 t504.length co30) := (blk_cell BK507.out 2).trans rfl
            have hfz69_0 := blk_frozen BK507.out 0
            have hfz69_1 := blk_frozen BK507.out 1
            have hfz69_2 := blk_frozen BK507.out 2
            go_upto_region 14 with (first | ((with_reducible refine gate_callee (f := 35) rfl ?_); refine goesL_ (some 52) rfl rfl Try.func35 (by kernel_rfl) rfl #[.agg #[.int .i64 t502, .int .i64 t503, .slice Ao30 t504.length co30], .int .i64 1] rfl (by (try simp only [List.map_toArray, List.map_cons, List.map_nil]); first | done | rfl | (simp only [List.length_drop, List.length_take]; rfl)) ?_; (with_reducible refine (laws_markPuzzle.calls kj11 t502 t503 (fun k_ => some k_ = (.slice Ao30 t504.length co30 : Value).ownBlock) (.slice Ao30 t504.length co30) t504 1 t522 t523 w _ ?side1 ?side2 A60.out).mono ?_); (case side1 => repeat (first | (with_reducible first | exact HB.out | apply below_alloc | apply pw_below_drewN | apply below_drew1 | refine below_set ?_ GE488.out | refine below_set ?_ GE501.out | refine below_set ?_ GE507.out | refine below_set ?_ GE514.out) | exact HB.out)); (case side2 => exact Kd.R_tight rfl HO_508002.out); rintro e w70 ⟨rfl, hy0, hb, hkp⟩; refine ⟨_, rfl, ?_⟩; have n0_ := Aside0.mk (Kd.R_mono (ok' := fun k_ => some k_ ≠ (.slice Ao30 t504.length co30 : Value).ownBlock ∧ some k_ ≠ (.slice Ao37 t510.length co37 : Value).ownBlock ∧ some k_ ≠ (.slice Ao64 t518.length co64 : Value).ownBlock) (Kd.R_keptB (HO_502002.out) hkp (fun k_ hk_ hs_ => (hk_.1.1) hs_)) (fun k_ hk_ => ⟨hk_.1.1.1, hk_.1.1.2, hk_.1.2⟩)); have n1_ := Aside0.mk (Kd.R_reok rfl hy0 (fun k_ e_ => HO_508002.out.1 k_ e_)); have n2_ := Aside0.mk (Kd.R_mono (ok' := fun k_ => some k_ ≠ (.slice Ao23 t497.length co23 : Value).ownBlock ∧ some k_ ≠ (.slice Ao30 t504.length co30 : Value).ownBlock ∧ some k_ ≠ (.slice Ao64 t518.length co64 : Value).ownBlock) (Kd.R_keptB (HO_515002.out) hkp (fun k_ hk_ hs_ => (hk_.1.2) hs_)) (fun k_ hk_ => ⟨hk_.1.1.1, hk_.1.1.2, hk_.1.2⟩)); have n3_ := Aside0.mk (blk_kept (by (with_reducible repeat (first | refine blk_drewN ?_ _ | refine blk_drew ?_ | refine blk_alloc ?_ _)); exact BK488.out) hkp (fun hs_ => (fun e_ => (Kd.R_ne HO_508002.out BK488.out (by decide)) e_) hs_)); have n4_ := Aside0.mk (blk_kept (by (with_reducible repeat (first | refine blk_drewN ?_ _ | refine blk_drew ?_ | refine blk_alloc ?_ _)); exact BK501.out) hkp (fun hs_ => (fun e_ => (Kd.R_ne HO_508002.out BK501.out (by decide)) e_) hs_)); have n5_ := Aside0.mk (blk_kept (by (with_reducible repeat (first | refine blk_drewN ?_ _ | refine blk_drew ?_ | refine blk_alloc ?_ _)); exact BK507.out) hkp (fun hs_ => (fun e_ => (Kd.R_ne HO_508002.out BK507.out (by decide)) e_) hs_)); have n6_ := Aside0.mk (blk_kept (by (with_reducible repeat (first | refine blk_drewN ?_ _ | refine blk_drew ?_ | refine blk_alloc ?_ _)); exact BK514.out) hkp (fun hs_ => (fun e_ => (Kd.R_ne HO_508002.out BK514.out (by decide)) e_) hs_)); have n7_ := Aside0.mk (Kd.R_mono (ok' := fun k_ => some k_ ≠ (.slice Ao23 t497.length co23 : Value).ownBlock ∧ some k_ ≠ (.slice Ao30 t504.length co30 : Value).ownBlock ∧ some k_ ≠ (.slice Ao37 t510.length co37 : Value).ownBlock) (Kd.R_keptB (HO520.out) hkp (fun k_ hk_ hs_ => (hk_.1.2) hs_)) (fun k_ hk_ => ⟨hk_.1.1.1.2, hk_.1.1.2, hk_.1.2⟩)); have n8_ := Aside0.mk (hb); clear HO_502002; clear HO_508002; clear HO_515002; clear BK488; clear BK501; clear BK507; clear BK514; clear HO520; clear HB; have HO_502002 := n0_; have HO_508002 := n1_; have HO_515002 := n2_; have BK488 := n3_; have BK501 := n4_; have BK507 := n5_; have BK514 := n6_; have HO520 := n7_; have HB := n8_; clear n0_ n1_ n2_ n3_ n4_ n5_ n6_ n7_ n8_; (try clear hb); (try clear hkp); (try clear hy0)))
            (try simp only [Act.put, List.setIfInBounds_toArray, List.set_cons_zero, List.set_cons_succ])
            go_cut [65] (fun v65 wc => ∃ (kq : Nat) (x65_60 : Bool), v65 = .bool x65_60 ∧ Aside0 (laws_FnExactDropClue.j1 kq a1 t500 x65_60 a0_0 a0_1 l0_2 t495 t496 t497 t508 t509 t510 = some r) ∧ Aside0 (kq ≤ kj11) ∧ Aside0 (Kd.R k29 29 wc w.heap.size (fun k_ => some k_ ≠ ((.slice Ao30 t504.length co30) : Value).ownBlock ∧ some k_ ≠ ((.slice Ao37 t510.length co37) : Value).ownBlock) (.slice Ao23 t497.length co23) t497) ∧ Aside0 (Kd.R k29 29 wc w.heap.size (fun k_ => some k_ ≠ ((.slice Ao23 t497.length co23) : Value).ownBlock ∧ some k_ ≠ ((.slice Ao37 t510.length co37) : Value).ownBlock) (.slice Ao30 t504.length co30) t523) ∧ Aside0 (Kd.R k29 29 wc w.heap.size (fun k_ => some k_ ≠ ((.slice Ao23 t497.length co23) : Value).ownBlock ∧ some k_ ≠ ((.slice Ao30 t504.length co30) : Value).ownBlock) (.slice Ao37 t510.length co37) t510) ∧ Aside0 (wc.heap[gb488]? = some (.cells #[.int .i64 a0_0, .int .i64 a0_1, (.slice A0_2 l0_2.length c0_2)] 41 (0, 0))) ∧ Aside0 (wc.heap[gb501]? = some (.cells #[.int .i64 t495, .int .i64 t496, (.slice Ao23 t497.length co23)] 46 (0, 0))) ∧ Aside0 (wc.heap[gb507]? = some (.cells #[.int .i64 t502, .int .i64 t503, (.slice Ao30 t504.length co30)] 46 (0, 0))) ∧ Aside0 (wc.heap[gb514]? = some (.cells #[.int .i64 t508, .int .i64 t509, (.slice Ao37 t510.length co37)] 46 (0, 0))) ∧ Aside0 (Below w.heap.size w wc))
            case first =>
              have H := HC61.out
              clear HC61
              by_cases c71 : t522 < 0
              · rw [if_pos c71] at H
                have c71b0 : decide (t522 < 0) = true := decide_eq_true c71
                clear c71
                (first | rw [c71b0] | (simp only [i64_w, i32_w]; rw [c71b0]) | skip)
                have H' := Aside0.mk H
                clear H
                go_wp2
                go_meet
                case rel => exact ⟨_, (true), (by first | rfl | (simp; done) | (simp [*]; done)), H', ⟨by have := HJ11.out; first | omega | exact Nat.le_refl _⟩, ⟨by (with_reducible repeat (first | apply Kd.R_alloc | apply Kd.R_drewN | apply Kd.R_drew)); exact Kd.R_mono HO_502002.out (fun _ hk => ⟨hk.1, hk.2.1⟩)⟩, ⟨by (with_reducible repeat (first | apply Kd.R_alloc | apply Kd.R_drewN | apply Kd.R_drew)); exact Kd.R_mono HO_508002.out (fun _ hk => ⟨hk.1.1, hk.1.2⟩)⟩, ⟨by (with_reducible repeat (first | apply Kd.R_alloc | apply Kd.R_drewN | apply Kd.R_drew)); exact Kd.R_mono HO_515002.out (fun _ hk => ⟨hk.1, hk.2.1⟩)⟩, ⟨by (with_reducible repeat (first | refine blk_drewN ?_ _ | refine blk_drew ?_ | refine blk_alloc ?_ _)); exact BK488.out⟩, ⟨by (with_reducible repeat (first | refine blk_drewN ?_ _ | refine blk_drew ?_ | refine blk_alloc ?_ _)); exact BK501.out⟩, ⟨by (with_reducible repeat (first | refine blk_drewN ?_ _ | refine blk_drew ?_ | refine blk_alloc ?_ _)); exact BK507.out⟩, ⟨by (with_reducible repeat (first | refine blk_drewN ?_ _ | refine blk_drew ?_ | refine blk_alloc ?_ _)); exact BK514.out⟩, ⟨by repeat (first | (with_reducible first | exact HB.out | apply below_alloc | apply pw_below_drewN | apply below_drew1 | refine below_set ?_ GE488.out | refine below_set ?_ GE501.out | refine below_set ?_ GE507.out | refine below_set ?_ GE514.out) | exact HB.out)⟩⟩
              · rw [if_neg c71] at H
                have c71b0 : decide (t522 < 0) = false := decide_eq_false c71
                clear c71
                (first | rw [c71b0] | (simp only [i64_w, i32_w]; rw [c71b0]) | skip)
                replace H := Option.bind_eq_some_iff.mp H
                obtain ⟨t524, A720, H⟩ := H
                replace H : (if t524 = true then (laws_FnExactDropClue.j1 kj11 a1 t500 (t513 != t500) a0_0 a0_1 l0_2 t495 t496 t497 t508 t509 t510) else (laws_FnExactDropClue.j1 kj11 a1 t500 true a0_0 a0_1 l0_2 t495 t496 t497 t508 t509 t510)) = some r := H
                have A72 := Aside0.mk A720
                clear A720
                by_cases c73 : t524 = true
                · subst c73
                  have H1 : (laws_FnExactDropClue.j1 kj11 a1 t500 (t513 != t500) a0_0 a0_1 l0_2 t495 t496 t497 t508 t509 t510) = some r := by rw [if_pos rfl] at H; exact H
                  clear H
                  have H := H1
                  clear H1
                  have H' := Aside0.mk H
                  clear H
                  have hnb74 := NB514_488.out
                  have hnc74 := NB488_514.out
                  have hnb75 := NB514_501.out
                  have hnc75 := NB501_514.out
                  have hnb76 := NB514_507.out
                  have hnc76 := NB507_514.out
                  have hcz77_0 : w70.cell? ⟨gb514, 0, none⟩ = some (.int .i64 t508) := (blk_cell BK514.out 0).trans rfl
                  have hcz77_1 : w70.cell? ⟨gb514, 1, none⟩ = some (.int .i64 t509) := (blk_cell BK514.out 1).trans rfl
                  have hcz77_2 : w70.cell? ⟨gb514, 2, none⟩ = some (.slice Ao37 t510.length co37) := (blk_cell BK514.out 2).trans rfl
                  have hfz77_0 := blk_frozen BK514.out 0
                  have hfz77_1 := blk_frozen BK514.out 1
                  have hfz77_2 := blk_frozen BK514.out 2
                  have hnb78 := NB501_488.out
                  have hnc78 := NB488_501.out
                  have hnb79 := NB501_507.out
                  have hnc79 := NB507_501.out
                  have hcz80_0 : w70.cell? ⟨gb501, 0, none⟩ = some (.int .i64 t495) := (blk_cell BK501.out 0).trans rfl
                  have hcz80_1 : w70.cell? ⟨gb501, 1, none⟩ = some (.int .i64 t496) := (blk_cell BK501.out 1).trans rfl
                  have hcz80_2 : w70.cell? ⟨gb501, 2, none⟩ = some (.slice Ao23 t497.length co23) := (blk_cell BK501.out 2).trans rfl
                  have hfz80_0 := blk_frozen BK501.out 0
                  have hfz80_1 := blk_frozen BK501.out 1
                  have hfz80_2 := blk_frozen BK501.out 2
                  go_wp2_with (first | (go_at_call 28; (with_reducible refine (laws_eqPuzzle.calls kj11 t508 t509 _ _ t510 t495 t496 _ _ t497 true _ ?side1 ?side2 ?side3 ?side4 A72.out).mono ?_); (case side1 => repeat (first | exact (Kd.R_reads' HO_515002.out).2.2 | (with_reducible refine Kd.C_alloc ?_ _) | (with_reducible refine Kd.C_drewN ?_ _) | (with_reducible refine Kd.C_drew ?_))); (case side2 => exact (Kd.R_reads' HO_515002.out).2.1); (case side3 => repeat (first | exact (Kd.R_reads' HO_502002.out).2.2 | (with_reducible refine Kd.C_alloc ?_ _) | (with_reducible refine Kd.C_drewN ?_ _) | (with_reducible refine Kd.C_drew ?_))); (case side4 => exact (Kd.R_reads' HO_502002.out).2.1); rintro e w81 ⟨rfl, hb⟩; have n0_ := Aside0.mk (Kd.R_below (by (with_reducible repeat (first | apply Kd.R_alloc | apply Kd.R_drewN | apply Kd.R_drew)); exact HO_502002.out) hb); have n1_ := Aside0.mk (Kd.R_below (by (with_reducible repeat (first | apply Kd.R_alloc | apply Kd.R_drewN | apply Kd.R_drew)); exact HO_508002.out) hb); have n2_ := Aside0.mk (Kd.R_below (by (with_reducible repeat (first | apply Kd.R_alloc | apply Kd.R_drewN | apply Kd.R_drew)); exact HO_515002.out) hb); have n3_ := Aside0.mk (Kd.R_below (by (with_reducible repeat (first | apply Kd.R_alloc | apply Kd.R_drewN | apply Kd.R_drew)); exact HO520.out) hb); have n4_ := Aside0.mk (blk_below (g := gb488) (o := .cells #[.int .i64 a0_0, .int .i64 a0_1, .slice A0_2 l0_2.length c0_2] 41 (0, 0)) (by (with_reducible repeat (first | refine blk_drewN ?_ _ | refine blk_drew ?_ | refine blk_alloc ?_ _)); exact BK488.out) hb); have n5_ := Aside0.mk (blk_below (g := gb501) (o := .cells #[.int .i64 t495, .int .i64 t496, .slice Ao23 t497.length co23] 46 (0, 0)) (by (with_reducible repeat (first | refine blk_drewN ?_ _ | refine blk_drew ?_ | refine blk_alloc ?_ _)); exact BK501.out) hb); have n6_ := Aside0.mk (blk_below (g := gb507) (o := .cells #[.int .i64 t502, .int .i64 t503, .slice Ao30 t504.length co30] 46 (0, 0)) (by (with_reducible repeat (first | refine blk_drewN ?_ _ | refine blk_drew ?_ | refine blk_alloc ?_ _)); exact BK507.out) hb); have n7_ := Aside0.mk (blk_below (g := gb514) (o := .cells #[.int .i64 t508, .int .i64 t509, .slice Ao37 t510.length co37] 46 (0, 0)) (by (with_reducible repeat (first | refine blk_drewN ?_ _ | refine blk_drew ?_ | refine blk_alloc ?_ _)); exact BK514.out) hb); have n8_ := Aside0.mk (below_step (by repeat (first | (with_reducible first | exact HB.out | apply below_alloc | apply pw_below_drewN | apply below_drew1 | refine below_set ?_ GE488.out | refine below_set ?_ GE501.out | refine below_set ?_ GE507.out | refine below_set ?_ GE514.out) | exact HB.out)) hb); clear HO_502002; clear HO_508002; clear HO_515002; clear HO520; clear BK488; clear BK501; clear BK507; clear BK514; clear HB; have HO_502002 := n0_; have HO_508002 := n1_; have HO_515002 := n2_; have HO520 := n3_; have BK488 := n4_; have BK501 := n5_; have BK507 := n6_; have BK514 := n7_; have HB := n8_; clear n0_ n1_ n2_ n3_ n4_ n5_ n6_ n7_ n8_; (try clear hb); (try clear hb2); (try clear hk); (try clear hi)))
                  go_meet
                  case rel => exact ⟨_, ((t513 != t500)), (by first | rfl | (simp; done) | (simp [*]; done)), H', ⟨by have := HJ11.out; first | omega | exact Nat.le_refl _⟩, ⟨by (with_reducible repeat (first | apply Kd.R_alloc | apply Kd.R_drewN | apply Kd.R_drew)); exact Kd.R_mono HO_502002.out (fun _ hk => ⟨hk.1, hk.2.1⟩)⟩, ⟨by (with_reducible repeat (first | apply Kd.R_alloc | apply Kd.R_drewN | apply Kd.R_drew)); exact Kd.R_mono HO_508002.out (fun _ hk => ⟨hk.1.1, hk.1.2⟩)⟩, ⟨by (with_reducible repeat (first | apply Kd.R_alloc | apply Kd.R_drewN | apply Kd.R_drew)); exact Kd.R_mono HO_515002.out (fun _ hk => ⟨hk.1, hk.2.1⟩)⟩, ⟨by (with_reducible repeat (first | refine blk_drewN ?_ _ | refine blk_drew ?_ | refine blk_alloc ?_ _)); exact BK488.out⟩, ⟨by (with_reducible repeat (first | refine blk_drewN ?_ _ | refine blk_drew ?_ | refine blk_alloc ?_ _)); exact BK501.out⟩, ⟨by (with_reducible repeat (first | refine blk_drewN ?_ _ | refine blk_drew ?_ | refine blk_alloc ?_ _)); exact BK507.out⟩, ⟨by (with_reducible repeat (first | refine blk_drewN ?_ _ | refine blk_drew ?_ | refine blk_alloc ?_ _)); exact BK514.out⟩, ⟨by repeat (first | (with_reducible first | exact HB.out | apply below_alloc | apply pw_below_drewN | apply below_drew1 | refine below_set ?_ GE488.out | refine below_set ?_ GE501.out | refine below_set ?_ GE507.out | refine below_set ?_ GE514.out) | exact HB.out)⟩⟩
                · replace c73 := Bool.eq_false_iff.mpr c73
                  subst c73
                  have H1 : (laws_FnExactDropClue.j1 kj11 a1 t500 true a0_0 a0_1 l0_2 t495 t496 t497 t508 t509 t510) = some r := by rw [if_neg (show ¬ (false = true) by decide)] at H; exact H
                  clear H
                  have H := H1
                  clear H1
                  have H' := Aside0.mk H
                  clear H
                  have hnb82 := NB514_488.out
                  have hnc82 := NB488_514.out
                  have hnb83 := NB514_501.out
                  have hnc83 := NB501_514.out
                  have hnb84 := NB514_507.out
                  have hnc84 := NB507_514.out
                  have hcz85_0 : w70.cell? ⟨gb514, 0, none⟩ = some (.int .i64 t508) := (blk_cell BK514.out 0).trans rfl
                  have hcz85_1 : w70.cell? ⟨gb514, 1, none⟩ = some (.int .i64 t509) := (blk_cell BK514.out 1).trans rfl
                  have hcz85_2 : w70.cell? ⟨gb514, 2, none⟩ = some (.slice Ao37 t510.length co37) := (blk_cell BK514.out 2).trans rfl
                  have hfz85_0 := blk_frozen BK514.out 0
                  have hfz85_1 := blk_frozen BK514.out 1
                  have hfz85_2 := blk_frozen BK514.out 2
                  have hnb86 := NB501_488.out
                  have hnc86 := NB488_501.out
                  have hnb87 := NB501_507.out
                  have hnc87 := NB507_501.out
                  have hcz88_0 : w70.cell? ⟨gb501, 0, none⟩ = some (.int .i64 t495) := (blk_cell BK501.out 0).trans rfl
                  have hcz88_1 : w70.cell? ⟨gb501, 1, none⟩ = some (.int .i64 t496) := (blk_cell BK501.out 1).trans rfl
                  have hcz88_2 : w70.cell? ⟨gb501, 2, none⟩ = some (.slice Ao23 t497.length co23) := (blk_cell BK501.out 2).trans rfl
                  have hfz88_0 := blk_frozen BK501.out 0
                  have hfz88_1 := blk_frozen BK501.out 1
                  have hfz88_2 := blk_frozen BK501.out 2
                  go_wp2_with (first | (go_at_call 28; (with_reducible refine (laws_eqPuzzle.calls kj11 t508 t509 _ _ t510 t495 t496 _ _ t497 false _ ?side1 ?side2 ?side3 ?side4 A72.out).mono ?_); (case side1 => repeat (first | exact (Kd.R_reads' HO_515002.out).2.2 | (with_reducible refine Kd.C_alloc ?_ _) | (with_reducible refine Kd.C_drewN ?_ _) | (with_reducible refine Kd.C_drew ?_))); (case side2 => exact (Kd.R_reads' HO_515002.out).2.1); (case side3 => repeat (first | exact (Kd.R_reads' HO_502002.out).2.2 | (with_reducible refine Kd.C_alloc ?_ _) | (with_reducible refine Kd.C_drewN ?_ _) | (with_reducible refine Kd.C_drew ?_))); (case side4 => exact (Kd.R_reads' HO_502002.out).2.1); rintro e w89 ⟨rfl, hb⟩; have n0_ := Aside0.mk (Kd.R_below (by (with_reducible repeat (first | apply Kd.R_alloc | apply Kd.R_drewN | apply Kd.R_drew)); exact HO_502002.out) hb); have n1_ := Aside0.mk (Kd.R_below (by (with_reducible repeat (first | apply Kd.R_alloc | apply Kd.R_drewN | apply Kd.R_drew)); exact HO_508002.out) hb); have n2_ := Aside0.mk (Kd.R_below (by (with_reducible repeat (first | apply Kd.R_alloc | apply Kd.R_drewN | apply Kd.R_drew)); exact HO_515002.out) hb); have n3_ := Aside0.mk (Kd.R_below (by (with_reducible repeat (first | apply Kd.R_alloc | apply Kd.R_drewN | apply Kd.R_drew)); exact HO520.out) hb); have n4_ := Aside0.mk (blk_below (g := gb488) (o := .cells #[.int .i64 a0_0, .int .i64 a0_1, .slice A0_2 l0_2.length c0_2] 41 (0, 0)) (by (with_reducible repeat (first | refine blk_drewN ?_ _ | refine blk_drew ?_ | refine blk_alloc ?_ _)); exact BK488.out) hb); have n5_ := Aside0.mk (blk_below (g := gb501) (o := .cells #[.int .i64 t495, .int .i64 t496, .slice Ao23 t497.length co23] 46 (0, 0)) (by (with_reducible repeat (first | refine blk_drewN ?_ _ | refine blk_drew ?_ | refine blk_alloc ?_ _)); exact BK501.out) hb); have n6_ := Aside0.mk (blk_below (g := gb507) (o := .cells #[.int .i64 t502, .int .i64 t503, .slice Ao30 t504.length co30] 46 (0, 0)) (by (with_reducible repeat (first | refine blk_drewN ?_ _ | refine blk_drew ?_ | refine blk_alloc ?_ _)); exact BK507.out) hb); have n7_ := Aside0.mk (blk_below (g := gb514) (o := .cells #[.int .i64 t508, .int .i64 t509, .slice Ao37 t510.length co37] 46 (0, 0)) (by (with_reducible repeat (first | refine blk_drewN ?_ _ | refine blk_drew ?_ | refine blk_alloc ?_ _)); exact BK514.out) hb); have n8_ := Aside0.mk (below_step (by repeat (first | (with_reducible first | exact HB.out | apply below_alloc | apply pw_below_drewN | apply below_drew1 | refine below_set ?_ GE488.out | refine below_set ?_ GE501.out | refine below_set ?_ GE507.out | refine below_set ?_ GE514.out) | exact HB.out)) hb); clear HO_502002; clear HO_508002; clear HO_515002; clear HO520; clear BK488; clear BK501; clear BK507; clear BK514; clear HB; have HO_502002 := n0_; have HO_508002 := n1_; have HO_515002 := n2_; have HO520 := n3_; have BK488 := n4_; have BK501 := n5_; have BK507 := n6_; have BK514 := n7_; have HB := n8_; clear n0_ n1_ n2_ n3_ n4_ n5_ n6_ n7_ n8_; (try clear hb); (try clear hb2); (try clear hk); (try clear hi)))
                  go_meet
                  case rel => exact ⟨_, (true), (by first | rfl | (simp; done) | (simp [*]; done)), H', ⟨by have := HJ11.out; first | omega | exact Nat.le_refl _⟩, ⟨by (with_reducible repeat (first | apply Kd.R_alloc | apply Kd.R_drewN | apply Kd.R_drew)); exact Kd.R_mono HO_502002.out (fun _ hk => ⟨hk.1, hk.2.1⟩)⟩, ⟨by (with_reducible repeat (first | apply Kd.R_alloc | apply Kd.R_drewN | apply Kd.R_drew)); exact Kd.R_mono HO_508002.out (fun _ hk => ⟨hk.1.1, hk.1.2⟩)⟩, ⟨by (with_reducible repeat (first | apply Kd.R_alloc | apply Kd.R_drewN | apply Kd.R_drew)); exact Kd.R_mono HO_515002.out (fun _ hk => ⟨hk.1, hk.2.1⟩)⟩, ⟨by (with_reducible repeat (first | refine blk_drewN ?_ _ | refine blk_drew ?_ | refine blk_alloc ?_ _)); exact BK488.out⟩, ⟨by (with_reducible repeat (first | refine blk_drewN ?_ _ | refine blk_drew ?_ | refine blk_alloc ?_ _)); exact BK501.out⟩, ⟨by (with_reducible repeat (first | refine blk_drewN ?_ _ | refine blk_drew ?_ | refine blk_alloc ?_ _)); exact BK507.out⟩, ⟨by (with_reducible repeat (first | refine blk_drewN ?_ _ | refine blk_drew ?_ | refine blk_alloc ?_ _)); exact BK514.out⟩, ⟨by repeat (first | (with_reducible first | exact HB.out | apply below_alloc | apply pw_below_drewN | apply below_drew1 | refine below_set ?_ GE488.out | refine below_set ?_ GE501.out | refine below_set ?_ GE507.out | refine below_set ?_ GE514.out) | exact HB.out)⟩⟩
            case rest =>
              clear HC61
              try clear c2; try clear p2; try clear c3; try clear c4; try clear c4b0; try clear c5; try clear c6; try clear c7; try clear c8; try clear c21; try clear c24; try clear c26; try clear c27; try clear c28; try clear c33; try clear c34; try clear c35; try clear c37; try clear c38; try clear c39; try clear c40; try clear c41; try clear c42; try clear c44; try clear c45; try clear c48; try clear c49; try clear c50; try clear c52; try clear c53; try clear c56; try clear c59; try clear c66; try clear c67; try clear c68; try clear c71; try clear c71b0; try clear c73; try clear c74; try clear c75; try clear c76; try clear c78; try clear c79; try clear c82; try clear c83; try clear c84; try clear c86; try clear c87; try clear hcz14_0; try clear hcz14_1; try clear hcz14_2; try clear hcz16_0; try clear hcz16_1; try clear hcz16_2; try clear hcz22_0; try clear hcz22_1; try clear hcz22_2; try clear hcz24_0; try clear hcz24_1; try clear hcz24_2; try clear hcz29_0; try clear hcz29_1; try clear hcz29_2; try clear hcz36_0; try clear hcz36_1; try clear hcz36_2; try clear hcz43_0; try clear hcz43_1; try clear hcz43_2; try clear hcz46_0; try clear hcz46_1; try clear hcz46_2; try clear hcz51_0; try clear hcz51_1; try clear hcz51_2; try clear hcz54_0; try clear hcz54_1; try clear hcz54_2; try clear hcz69_0; try clear hcz69_1; try clear hcz69_2; try clear hcz6_0; try clear hcz6_1; try clear hcz6_2; try clear hcz77_0; try clear hcz77_1; try clear hcz77_2; try clear hcz80_0; try clear hcz80_1; try clear hcz80_2; try clear hcz85_0; try clear hcz85_1; try clear hcz85_2; try clear hcz88_0; try clear hcz88_1; try clear hcz88_2; try clear hfz14_0; try clear hfz14_1; try clear hfz14_2; try clear hfz16_0; try clear hfz16_1; try clear hfz16_2; try clear hfz22_0; try clear hfz22_1; try clear hfz22_2; try clear hfz24_0; try clear hfz24_1; try clear hfz24_2; try clear hfz29_0; try clear hfz29_1; try clear hfz29_2; try clear hfz36_0; try clear hfz36_1; try clear hfz36_2; try clear hfz43_0; try clear hfz43_1; try clear hfz43_2; try clear hfz46_0; try clear hfz46_1; try clear hfz46_2; try clear hfz51_0; try clear hfz51_1; try clear hfz51_2; try clear hfz54_0; try clear hfz54_1; try clear hfz54_2; try clear hfz69_0; try clear hfz69_1; try clear hfz69_2; try clear hfz6_0; try clear hfz6_1; try clear hfz6_2; try clear hfz77_0; try clear hfz77_1; try clear hfz77_2; try clear hfz80_0; try clear hfz80_1; try clear hfz80_2; try clear hfz85_0; try clear hfz85_1; try clear hfz85_2; try clear hfz88_0; try clear hfz88_1; try clear hfz88_2; try clear p2
              obtain ⟨kq, x65_60, rfl, HA, HJ60, HO_502002, HO_508002, HO_515002, BK488, BK501, BK507, BK514, HB⟩ := hcut
              have hl508002_60 := (Kd.R_reads' HO_508002.out).1
              rw [hl508002_60] at HO_508002
              (try simp only [hl508002_60])
              (try simp only [hl508002_60] at BK488)
              (try simp only [hl508002_60] at BK501)
              (try simp only [hl508002_60] at BK507)
              (try simp only [hl508002_60] at BK514)
              (try simp only [hl508002_60] at HO_502002)
              (try simp only [hl508002_60] at HO_515002)
              cases kq with
              | zero => exact absurd HA.out (by simp [laws_FnExactDropClue.j1])
              | succ kj60 =>
                have H := HA.out
                clear HA
                simp only [laws_FnExactDropClue.j1] at H
                by_cases c90 : x65_60 = true
                · subst c90
                  have H1 : (some false) = some r := by rw [if_pos rfl] at H; exact H
                  clear H
                  have H := H1
                  clear H1
                  obtain rfl := Option.some.inj H
                  go_wp2
                  go_ret
                  exact ⟨by first | rfl | (simp [errW_none, errW_some] <;> rfl) | (simp [*, errW_none, errW_some] <;> rfl), by repeat (first | (with_reducible first | exact HB.out | apply below_alloc | apply pw_below_drewN | apply below_drew1 | refine below_set ?_ GE488.out | refine below_set ?_ GE501.out | refine below_set ?_ GE507.out | refine below_set ?_ GE514.out) | exact HB.out)⟩
                · replace c90 := Bool.eq_false_iff.mpr c90
                  subst c90
                  have H1 : ((laws_markPuzzle.f kj60 t508 t509 t510 1).bind fun bt525 => ((laws_heldPuzzle.f kj60 t508 t509 bt525.2 1).bind fun t527 => (if t527 < 0 then (some false) else (if t527 = bt525.1 then ((laws_toPuzzle.f kj60 a0_0 a0_1 l0_2).bind fun bt528 => ((impl_DropClue.f bt528.1 bt528.2.1 bt528.2.2 a1).bind fun bt533 => ((laws_eqPuzzle.f kj60 bt533.1 bt533.2.1 bt533.2.2.1 t495 t496 t497).bind fun t540 => (if t540 = true then (laws_FnExactDropClue.j2 kj60 bt525.1 (bt533.2.2.2 != t500) t508 t509 bt525.2) else (laws_FnExactDropClue.j2 kj60 bt525.1 true t508 t509 bt525.2))))) else (some false))))) = some r := by rw [if_neg (show ¬ (false = true) by decide)] at H; exact H
                  clear H
                  have H := H1
                  clear H1
                  replace H := Option.bind_eq_some_iff.mp H
                  obtain ⟨⟨t525, t526⟩, A910, H⟩ := H
                  replace H : ((laws_heldPuzzle.f kj60 t508 t509 t526 1).bind fun t527 => (if t527 < 0 then (some false) else (if t527 = t525 then ((laws_toPuzzle.f kj60 a0_0 a0_1 l0_2).bind fun bt528 => ((impl_DropClue.f bt528.1 bt528.2.1 bt528.2.2 a1).bind fun bt533 => ((laws_eqPuzzle.f kj60 bt533.1 bt533.2.1 bt533.2.2.1 t495 t496 t497).bind fun t540 => (if t540 = true then (laws_FnExactDropClue.j2 kj60 t525 (bt533.2.2.2 != t500) t508 t509 t526) else (laws_FnExactDropClue.j2 kj60 t525 true t508 t509 t526))))) else (some false)))) = some r := H
                  have A91 := Aside0.mk A910
                  clear A910
                  replace H := Option.bind_eq_some_iff.mp H
                  obtain ⟨t527, A920, H⟩ := H
                  replace H : (if t527 < 0 then (some false) else (if t527 = t525 then ((laws_toPuzzle.f kj60 a0_0 a0_1 l0_2).bind fun bt528 => ((impl_DropClue.f bt528.1 bt528.2.1 bt528.2.2 a1).bind fun bt533 => ((laws_eqPuzzle.f kj60 bt533.1 bt533.2.1 bt533.2.2.1 t495 t496 t497).bind fun t540 => (if t540 = true then (laws_FnExactDropClue.j2 kj60 t525 (bt533.2.2.2 != t500) t508 t509 t526) else (laws_FnExactDropClue.j2 kj60 t525 true t508 t509 t526))))) else (some false))) = some r := H
                  have A92 := Aside0.mk A920
                  clear A920
                  by_cases c93 : t527 < 0
                  · rw [if_pos c93] at H
                    have c93b0 : decide (t527 < 0) = true := decide_eq_true c93
                    clear c93
                    obtain rfl := Option.some.inj H
                    have hnb94 := NB514_488.out
                    have hnc94 := NB488_514.out
                    have hnb95 := NB514_501.out
                    have hnc95 := NB501_514.out
                    have hnb96 := NB514_507.out
                    have hnc96 := NB507_514.out
                    have hcz97_0 : wc.cell? ⟨gb514, 0, none⟩ = some (.int .i64 t508) := (blk_cell BK514.out 0).trans rfl
                    have hcz97_1 : wc.cell? ⟨gb514, 1, none⟩ = some (.int .i64 t509) := (blk_cell BK514.out 1).trans rfl
                    have hcz97_2 : wc.cell? ⟨gb514, 2, none⟩ = some (.slice Ao37 t510.length co37) := (blk_cell BK514.out 2).trans rfl
                    have hfz97_0 := blk_frozen BK514.out 0
                    have hfz97_1 := blk_frozen BK514.out 1
                    have hfz97_2 := blk_frozen BK514.out 2
                    go_wp2_with (first | ((with_reducible refine gate_callee (f := 35) rfl ?_); refine goesL_ (some 68) rfl rfl Try.func35 (by kernel_rfl) rfl #[.agg #[.int .i64 t508, .int .i64 t509, .slice Ao37 t510.length co37], .int .i64 1] rfl (by (try simp only [List.map_toArray, List.map_cons, List.map_nil]); first | done | rfl | (simp only [List.length_drop, List.length_take]; rfl)) ?_; (with_reducible refine (laws_markPuzzle.calls kj60 t508 t509 (fun k_ => some k_ = (.slice Ao37 t510.length co37 : Value).ownBlock) (.slice Ao37 t510.length co37) t510 1 t525 t526 w _ ?side1 ?side2 A91.out).mono ?_); (case side1 => repeat (first | (with_reducible first | exact HB.out | apply below_alloc | apply pw_below_drewN | apply below_drew1 | refine below_set ?_ GE488.out | refine below_set ?_ GE501.out | refine below_set ?_ GE507.out | refine below_set ?_ GE514.out) | exact HB.out)); (case side2 => exact Kd.R_tight rfl HO_515002.out); rintro e w98 ⟨rfl, hy0, hb, hkp⟩; refine ⟨_, rfl, ?_⟩; have n0_ := Aside0.mk (Kd.R_mono (ok' := fun k_ => some k_ ≠ (.slice Ao30 t523.length co30 : Value).ownBlock ∧ some k_ ≠ (.slice Ao37 t510.length co37 : Value).ownBlock) (Kd.R_keptB (HO_502002.out) hkp (fun k_ hk_ hs_ => (hk_.2) hs_)) (fun k_ hk_ => ⟨hk_.1.1, hk_.1.2⟩)); have n1_ := Aside0.mk (Kd.R_mono (ok' := fun k_ => some k_ ≠ (.slice Ao23 t497.length co23 : Value).ownBlock ∧ some k_ ≠ (.slice Ao37 t510.length co37 : Value).ownBlock) (Kd.R_keptB (HO_508002.out) hkp (fun k_ hk_ hs_ => (hk_.2) hs_)) (fun k_ hk_ => ⟨hk_.1.1, hk_.1.2⟩)); have n2_ := Aside0.mk (Kd.R_reok rfl hy0 (fun k_ e_ => HO_515002.out.1 k_ e_)); have n3_ := Aside0.mk (blk_kept (by (with_reducible repeat (first | refine blk_drewN ?_ _ | refine blk_drew ?_ | refine blk_alloc ?_ _)); exact BK488.out) hkp (fun hs_ => (fun e_ => (Kd.R_ne HO_515002.out BK488.out (by decide)) e_) hs_)); have n4_ := Aside0.mk (blk_kept (by (with_reducible repeat (first | refine blk_drewN ?_ _ | refine blk_drew ?_ | refine blk_alloc ?_ _)); exact BK501.out) hkp (fun hs_ => (fun e_ => (Kd.R_ne HO_515002.out BK501.out (by decide)) e_) hs_)); have n5_ := Aside0.mk (blk_kept (by (with_reducible repeat (first | refine blk_drewN ?_ _ | refine blk_drew ?_ | refine blk_alloc ?_ _)); exact BK507.out) hkp (fun hs_ => (fun e_ => (Kd.R_ne HO_515002.out BK507.out (by decide)) e_) hs_)); have n6_ := Aside0.mk (blk_kept (by (with_reducible repeat (first | refine blk_drewN ?_ _ | refine blk_drew ?_ | refine blk_alloc ?_ _)); exact BK514.out) hkp (fun hs_ => (fun e_ => (Kd.R_ne HO_515002.out BK514.out (by decide)) e_) hs_)); have n7_ := Aside0.mk (hb); clear HO_502002; clear HO_508002; clear HO_515002; clear BK488; clear BK501; clear BK507; clear BK514; clear HB; have HO_502002 := n0_; have HO_508002 := n1_; have HO_515002 := n2_; have BK488 := n3_; have BK501 := n4_; have BK507 := n5_; have BK514 := n6_; have HB := n7_; clear n0_ n1_ n2_ n3_ n4_ n5_ n6_ n7_; (try clear hb); (try clear hkp); (try clear hy0); have hcz99_0 : w98.cell? ⟨gb514, 0, none⟩ = some (.int .i64 t508) := (blk_cell BK514.out 0).trans rfl; have hcz99_1 : w98.cell? ⟨gb514, 1, none⟩ = some (.int .i64 t509) := (blk_cell BK514.out 1).trans rfl; have hcz99_2 : w98.cell? ⟨gb514, 2, none⟩ = some (.slice Ao37 t510.length co37) := (blk_cell BK514.out 2).trans rfl; have hfz99_0 := blk_frozen BK514.out 0; have hfz99_1 := blk_frozen BK514.out 1; have hfz99_2 := blk_frozen BK514.out 2) | ((with_reducible refine gate_callee (f := 36) rfl ?_); refine goesL_ (some 71) rfl rfl Try.func36 (by kernel_rfl) rfl #[.agg #[.int .i64 t508, .int .i64 t509, .slice Ao37 t526.length co37], .int .i64 1] rfl (by (try simp only [List.map_toArray, List.map_cons, List.map_nil]); first | done | (rw [show t526.length = t510.length from (Kd.R_reads' HO_515002.out).1.symm] <;> rfl) | rfl | (simp only [List.length_drop, List.length_take]; rfl)) ?_; (with_reducible refine (laws_heldPuzzle.calls kj60 t508 t509 _ _ t526 1 t527 _ ?side1 ?side2 A92.out).mono ?_); (case side1 => repeat (first | exact (Kd.R_reads' HO_515002.out).2.2 | (with_reducible refine Kd.C_alloc ?_ _) | (with_reducible refine Kd.C_drewN ?_ _) | (with_reducible refine Kd.C_drew ?_))); (case side2 => rw [show t526.length = t510.length from (Kd.R_reads' HO_515002.out).1.symm]; exact (Kd.R_reads' HO_515002.out).2.1); rintro e w100 ⟨rfl, hb⟩; refine ⟨_, rfl, ?_⟩; have n0_ := Aside0.mk (Kd.R_below (by (with_reducible repeat (first | apply Kd.R_alloc | apply Kd.R_drewN | apply Kd.R_drew)); exact HO_502002.out) hb); have n1_ := Aside0.mk (Kd.R_below (by (with_reducible repeat (first | apply Kd.R_alloc | apply Kd.R_drewN | apply Kd.R_drew)); exact HO_508002.out) hb); have n2_ := Aside0.mk (Kd.R_below (by (with_reducible repeat (first | apply Kd.R_alloc | apply Kd.R_drewN | apply Kd.R_drew)); exact HO_515002.out) hb); have n3_ := Aside0.mk (blk_below (g := gb488) (o := .cells #[.int .i64 a0_0, .int .i64 a0_1, .slice A0_2 l0_2.length c0_2] 41 (0, 0)) (by (with_reducible repeat (first | refine blk_drewN ?_ _ | refine blk_drew ?_ | refine blk_alloc ?_ _)); exact BK488.out) hb); have n4_ := Aside0.mk (blk_below (g := gb501) (o := .cells #[.int .i64 t495, .int .i64 t496, .slice Ao23 t497.length co23] 46 (0, 0)) (by (with_reducible repeat (first | refine blk_drewN ?_ _ | refine blk_drew ?_ | refine blk_alloc ?_ _)); exact BK501.out) hb); have n5_ := Aside0.mk (blk_below (g := gb507) (o := .cells #[.int .i64 t502, .int .i64 t503, .slice Ao30 t523.length co30] 46 (0, 0)) (by (with_reducible repeat (first | refine blk_drewN ?_ _ | refine blk_drew ?_ | refine blk_alloc ?_ _)); exact BK507.out) hb); have n6_ := Aside0.mk (blk_below (g := gb514) (o := .cells #[.int .i64 t508, .int .i64 t509, .slice Ao37 t510.length co37] 46 (0, 0)) (by (with_reducible repeat (first | refine blk_drewN ?_ _ | refine blk_drew ?_ | refine blk_alloc ?_ _)); exact BK514.out) hb); have n7_ := Aside0.mk (below_step (by repeat (first | (with_reducible first | exact HB.out | apply below_alloc | apply pw_below_drewN | apply below_drew1 | refine below_set ?_ GE488.out | refine below_set ?_ GE501.out | refine below_set ?_ GE507.out | refine below_set ?_ GE514.out) | exact HB.out)) hb); clear HO_502002; clear HO_508002; clear HO_515002; clear BK488; clear BK501; clear BK507; clear BK514; clear HB; have HO_502002 := n0_; have HO_508002 := n1_; have HO_515002 := n2_; have BK488 := n3_; have BK501 := n4_; have BK507 := n5_; have BK514 := n6_; have HB := n7_; clear n0_ n1_ n2_ n3_ n4_ n5_ n6_ n7_; (try clear hb); (try clear hb2); (try clear hk); (try clear hi)))
                    go_ret
                    exact ⟨by first | rfl | (simp [errW_none, errW_some] <;> rfl) | (simp [*, errW_none, errW_some] <;> rfl), by repeat (first | (with_reducible first | exact HB.out | apply below_alloc | apply pw_below_drewN | apply below_drew1 | refine below_set ?_ GE488.out | refine below_set ?_ GE501.out | refine below_set ?_ GE507.out | refine below_set ?_ GE514.out) | exact HB.out)⟩
                  · rw [if_neg c93] at H
                    have c93b0 : decide (t527 < 0) = false := decide_eq_false c93
                    clear c93
                    by_cases c101 : t527 = t525
                    · rw [if_pos c101] at H
                      have c101b0 : (t527 == t525) = true := beq_iff_eq.mpr c101
                      have c101b1 : (t527 != t525) = false := bne_eq_false_iff_eq.mpr c101
                      clear c101
                      replace H := Option.bind_eq_some_iff.mp H
                      obtain ⟨⟨t528, t529, t530⟩, A1020, H⟩ := H
                      replace H : ((impl_DropClue.f t528 t529 t530 a1).bind fun bt533 => ((laws_eqPuzzle.f kj60 bt533.1 bt533.2.1 bt533.2.2.1 t495 t496 t497).bind fun t540 => (if t540 = true then (laws_FnExactDropClue.j2 kj60 t525 (bt533.2.2.2 != t500) t508 t509 t526) else (laws_FnExactDropClue.j2 kj60 t525 true t508 t509 t526)))) = some r := H
                      have A102 := Aside0.mk A1020
                      clear A1020
                      replace H := Option.bind_eq_some_iff.mp H
                      obtain ⟨⟨t533, t534, t535, t538⟩, A1030, H⟩ := H
                      replace H : ((laws_eqPuzzle.f kj60 t533 t534 t535 t495 t496 t497).bind fun t540 => (if t540 = true then (laws_FnExactDropClue.j2 kj60 t525 (t538 != t500) t508 t509 t526) else (laws_FnExactDropClue.j2 kj60 t525 true t508 t509 t526))) = some r := H
                      have A103 := Aside0.mk A1030
                      clear A1030
                      have HC104 := Aside0.mk H
                      clear H
                      have hnb105 := NB514_488.out
                      have hnc105 := NB488_514.out
                      have hnb106 := NB514_501.out
                      have hnc106 := NB501_514.out
                      have hnb107 := NB514_507.out
                      have hnc107 := NB507_514.out
                      have hcz108_0 : wc.cell? ⟨gb514, 0, none⟩ = some (.int .i64 t508) := (blk_cell BK514.out 0).trans rfl
                      have hcz108_1 : wc.cell? ⟨gb514, 1, none⟩ = some (.int .i64 t509) := (blk_cell BK514.out 1).trans rfl
                      have hcz108_2 : wc.cell? ⟨gb514, 2, none⟩ = some (.slice Ao37 t510.length co37) := (blk_cell BK514.out 2).trans rfl
                      have hfz108_0 := blk_frozen BK514.out 0
                      have hfz108_1 := blk_frozen BK514.out 1
                      have hfz108_2 := blk_frozen BK514.out 2
                      go_upto_region 25 with (first | ((with_reducible refine gate_callee (f := 35) rfl ?_); refine goesL_ (some 68) rfl rfl Try.func35 (by kernel_rfl) rfl #[.agg #[.int .i64 t508, .int .i64 t509, .slice Ao37 t510.length co37], .int .i64 1] rfl (by (try simp only [List.map_toArray, List.map_cons, List.map_nil]); first | done | rfl | (simp only [List.length_drop, List.length_take]; rfl)) ?_; (with_reducible refine (laws_markPuzzle.calls kj60 t508 t509 (fun k_ => some k_ = (.slice Ao37 t510.length co37 : Value).ownBlock) (.slice Ao37 t510.length co37) t510 1 t525 t526 w _ ?side1 ?side2 A91.out).mono ?_); (case side1 => repeat (first | (with_reducible first | exact HB.out | apply below_alloc | apply pw_below_drewN | apply below_drew1 | refine below_set ?_ GE488.out | refine below_set ?_ GE501.out | refine below_set ?_ GE507.out | refine below_set ?_ GE514.out) | exact HB.out)); (case side2 => exact Kd.R_tight rfl HO_515002.out); rintro e w109 ⟨rfl, hy0, hb, hkp⟩; refine ⟨_, rfl, ?_⟩; have n0_ := Aside0.mk (Kd.R_mono (ok' := fun k_ => some k_ ≠ (.slice Ao30 t523.length co30 : Value).ownBlock ∧ some k_ ≠ (.slice Ao37 t510.length co37 : Value).ownBlock) (Kd.R_keptB (HO_502002.out) hkp (fun k_ hk_ hs_ => (hk_.2) hs_)) (fun k_ hk_ => ⟨hk_.1.1, hk_.1.2⟩)); have n1_ := Aside0.mk (Kd.R_mono (ok' := fun k_ => some k_ ≠ (.slice Ao23 t497.length co23 : Value).ownBlock ∧ some k_ ≠ (.slice Ao37 t510.length co37 : Value).ownBlock) (Kd.R_keptB (HO_508002.out) hkp (fun k_ hk_ hs_ => (hk_.2) hs_)) (fun k_ hk_ => ⟨hk_.1.1, hk_.1.2⟩)); have n2_ := Aside0.mk (Kd.R_reok rfl hy0 (fun k_ e_ => HO_515002.out.1 k_ e_)); have n3_ := Aside0.mk (blk_kept (by (with_reducible repeat (first | refine blk_drewN ?_ _ | refine blk_drew ?_ | refine blk_alloc ?_ _)); exact BK488.out) hkp (fun hs_ => (fun e_ => (Kd.R_ne HO_515002.out BK488.out (by decide)) e_) hs_)); have n4_ := Aside0.mk (blk_kept (by (with_reducible repeat (first | refine blk_drewN ?_ _ | refine blk_drew ?_ | refine blk_alloc ?_ _)); exact BK501.out) hkp (fun hs_ => (fun e_ => (Kd.R_ne HO_515002.out BK501.out (by decide)) e_) hs_)); have n5_ := Aside0.mk (blk_kept (by (with_reducible repeat (first | refine blk_drewN ?_ _ | refine blk_drew ?_ | refine blk_alloc ?_ _)); exact BK507.out) hkp (fun hs_ => (fun e_ => (Kd.R_ne HO_515002.out BK507.out (by decide)) e_) hs_)); have n6_ := Aside0.mk (blk_kept (by (with_reducible repeat (first | refine blk_drewN ?_ _ | refine blk_drew ?_ | refine blk_alloc ?_ _)); exact BK514.out) hkp (fun hs_ => (fun e_ => (Kd.R_ne HO_515002.out BK514.out (by decide)) e_) hs_)); have n7_ := Aside0.mk (hb); clear HO_502002; clear HO_508002; clear HO_515002; clear BK488; clear BK501; clear BK507; clear BK514; clear HB; have HO_502002 := n0_; have HO_508002 := n1_; have HO_515002 := n2_; have BK488 := n3_; have BK501 := n4_; have BK507 := n5_; have BK514 := n6_; have HB := n7_; clear n0_ n1_ n2_ n3_ n4_ n5_ n6_ n7_; (try clear hb); (try clear hkp); (try clear hy0); have hcz110_0 : w109.cell? ⟨gb514, 0, none⟩ = some (.int .i64 t508) := (blk_cell BK514.out 0).trans rfl; have hcz110_1 : w109.cell? ⟨gb514, 1, none⟩ = some (.int .i64 t509) := (blk_cell BK514.out 1).trans rfl; have hcz110_2 : w109.cell? ⟨gb514, 2, none⟩ = some (.slice Ao37 t510.length co37) := (blk_cell BK514.out 2).trans rfl; have hfz110_0 := blk_frozen BK514.out 0; have hfz110_1 := blk_frozen BK514.out 1; have hfz110_2 := blk_frozen BK514.out 2) | ((with_reducible refine gate_callee (f := 36) rfl ?_); refine goesL_ (some 71) rfl rfl Try.func36 (by kernel_rfl) rfl #[.agg #[.int .i64 t508, .int .i64 t509, .slice Ao37 t526.length co37], .int .i64 1] rfl (by (try simp only [List.map_toArray, List.map_cons, List.map_nil]); first | done | (rw [show t526.length = t510.length from (Kd.R_reads' HO_515002.out).1.symm] <;> rfl) | rfl | (simp only [List.length_drop, List.length_take]; rfl)) ?_; (with_reducible refine (laws_heldPuzzle.calls kj60 t508 t509 _ _ t526 1 t527 _ ?side1 ?side2 A92.out).mono ?_); (case side1 => repeat (first | exact (Kd.R_reads' HO_515002.out).2.2 | (with_reducible refine Kd.C_alloc ?_ _) | (with_reducible refine Kd.C_drewN ?_ _) | (with_reducible refine Kd.C_drew ?_))); (case side2 => rw [show t526.length = t510.length from (Kd.R_reads' HO_515002.out).1.symm]; exact (Kd.R_reads' HO_515002.out).2.1); rintro e w111 ⟨rfl, hb⟩; refine ⟨_, rfl, ?_⟩; have n0_ := Aside0.mk (Kd.R_below (by (with_reducible repeat (first | apply Kd.R_alloc | apply Kd.R_drewN | apply Kd.R_drew)); exact HO_502002.out) hb); have n1_ := Aside0.mk (Kd.R_below (by (with_reducible repeat (first | apply Kd.R_alloc | apply Kd.R_drewN | apply Kd.R_drew)); exact HO_508002.out) hb); have n2_ := Aside0.mk (Kd.R_below (by (with_reducible repeat (first | apply Kd.R_alloc | apply Kd.R_drewN | apply Kd.R_drew)); exact HO_515002.out) hb); have n3_ := Aside0.mk (blk_below (g := gb488) (o := .cells #[.int .i64 a0_0, .int .i64 a0_1, .slice A0_2 l0_2.length c0_2] 41 (0, 0)) (by (with_reducible repeat (first | refine blk_drewN ?_ _ | refine blk_drew ?_ | refine blk_alloc ?_ _)); exact BK488.out) hb); have n4_ := Aside0.mk (blk_below (g := gb501) (o := .cells #[.int .i64 t495, .int .i64 t496, .slice Ao23 t497.length co23] 46 (0, 0)) (by (with_reducible repeat (first | refine blk_drewN ?_ _ | refine blk_drew ?_ | refine blk_alloc ?_ _)); exact BK501.out) hb); have n5_ := Aside0.mk (blk_below (g := gb507) (o := .cells #[.int .i64 t502, .int .i64 t503, .slice Ao30 t523.length co30] 46 (0, 0)) (by (with_reducible repeat (first | refine blk_drewN ?_ _ | refine blk_drew ?_ | refine blk_alloc ?_ _)); exact BK507.out) hb); have n6_ := Aside0.mk (blk_below (g := gb514) (o := .cells #[.int .i64 t508, .int .i64 t509, .slice Ao37 t510.length co37] 46 (0, 0)) (by (with_reducible repeat (first | refine blk_drewN ?_ _ | refine blk_drew ?_ | refine blk_alloc ?_ _)); exact BK514.out) hb); have n7_ := Aside0.mk (below_step (by repeat (first | (with_reducible first | exact HB.out | apply below_alloc | apply pw_below_drewN | apply below_drew1 | refine below_set ?_ GE488.out | refine below_set ?_ GE501.out | refine below_set ?_ GE507.out | refine below_set ?_ GE514.out) | exact HB.out)) hb); clear HO_502002; clear HO_508002; clear HO_515002; clear BK488; clear BK501; clear BK507; clear BK514; clear HB; have HO_502002 := n0_; have HO_508002 := n1_; have HO_515002 := n2_; have BK488 := n3_; have BK501 := n4_; have BK507 := n5_; have BK514 := n6_; have HB := n7_; clear n0_ n1_ n2_ n3_ n4_ n5_ n6_ n7_; (try clear hb); (try clear hb2); (try clear hk); (try clear hi); have hnb112 := NB488_501.out; have hnc112 := NB501_488.out; have hnb113 := NB488_507.out; have hnc113 := NB507_488.out; have hcz114_0 : w111.cell? ⟨gb488, 0, none⟩ = some (.int .i64 a0_0) := (blk_cell BK488.out 0).trans rfl; have hcz114_1 : w111.cell? ⟨gb488, 1, none⟩ = some (.int .i64 a0_1) := (blk_cell BK488.out 1).trans rfl; have hcz114_2 : w111.cell? ⟨gb488, 2, none⟩ = some (.slice A0_2 l0_2.length c0_2) := (blk_cell BK488.out 2).trans rfl; have hfz114_0 := blk_frozen BK488.out 0; have hfz114_1 := blk_frozen BK488.out 1; have hfz114_2 := blk_frozen BK488.out 2) | ((with_reducible refine gate_callee (f := 26) rfl ?_); refine goesL_ (some 79) rfl rfl Try.func26 (by kernel_rfl) rfl #[.agg #[.int .i64 a0_0, .int .i64 a0_1, .slice A0_2 l0_2.length c0_2]] rfl (by (try simp only [List.map_toArray, List.map_cons, List.map_nil]); first | done | rfl | (simp only [List.length_drop, List.length_take]; rfl)) ?_; (with_reducible refine (laws_toPuzzle.calls kj60 a0_0 a0_1 _ _ l0_2 t528 t529 t530 _ ?side1 ?side2 A102.out).mono ?_); (case side1 => repeat (first | exact (Kd.C_below HR0_2.out HB.out) | (with_reducible refine Kd.C_alloc ?_ _) | (with_reducible refine Kd.C_drewN ?_ _) | (with_reducible refine Kd.C_drew ?_))); (case side2 => exact HC0_2.out); rintro e w115 ⟨v531, rfl, ho0, hb⟩; refine ⟨_, rfl, ?_⟩; have n0_ := Aside0.mk (Kd.R_elder' (by (with_reducible repeat (first | apply Kd.R_alloc | apply Kd.R_drewN | apply Kd.R_drew)); exact HO_502002.out) (Kd.R_base ho0) hb); have n1_ := Aside0.mk (Kd.R_elder' (by (with_reducible repeat (first | apply Kd.R_alloc | apply Kd.R_drewN | apply Kd.R_drew)); exact HO_508002.out) (Kd.R_base ho0) hb); have n2_ := Aside0.mk (Kd.R_elder' (by (with_reducible repeat (first | apply Kd.R_alloc | apply Kd.R_drewN | apply Kd.R_drew)); exact HO_515002.out) (Kd.R_base ho0) hb); have n3_ := Aside0.mk (Kd.R_lower (Kd.R_new' (Kd.R_new' (Kd.R_new' ho0 (Kd.R_lt (by (with_reducible repeat (first | apply Kd.R_alloc | apply Kd.R_drewN | apply Kd.R_drew)); exact HO_502002.out))) (Kd.R_lt (by (with_reducible repeat (first | apply Kd.R_alloc | apply Kd.R_drewN | apply Kd.R_drew)); exact HO_508002.out))) (Kd.R_lt (by (with_reducible repeat (first | apply Kd.R_alloc | apply Kd.R_drewN | apply Kd.R_drew)); exact HO_515002.out))) (below_size (by repeat (first | (with_reducible first | exact HB.out | apply below_alloc | apply pw_below_drewN | apply below_drew1 | refine below_set ?_ GE488.out | refine below_set ?_ GE501.out | refine below_set ?_ GE507.out | refine below_set ?_ GE514.out) | exact HB.out)))); have n4_ := Aside0.mk (blk_below (g := gb488) (o := .cells #[.int .i64 a0_0, .int .i64 a0_1, .slice A0_2 l0_2.length c0_2] 41 (0, 0)) (by (with_reducible repeat (first | refine blk_drewN ?_ _ | refine blk_drew ?_ | refine blk_alloc ?_ _)); exact BK488.out) hb); have n5_ := Aside0.mk (blk_below (g := gb501) (o := .cells #[.int .i64 t495, .int .i64 t496, .slice Ao23 t497.length co23] 46 (0, 0)) (by (with_reducible repeat (first | refine blk_drewN ?_ _ | refine blk_drew ?_ | refine blk_alloc ?_ _)); exact BK501.out) hb); have n6_ := Aside0.mk (blk_below (g := gb507) (o := .cells #[.int .i64 t502, .int .i64 t503, .slice Ao30 t523.length co30] 46 (0, 0)) (by (with_reducible repeat (first | refine blk_drewN ?_ _ | refine blk_drew ?_ | refine blk_alloc ?_ _)); exact BK507.out) hb); have n7_ := Aside0.mk (blk_below (g := gb514) (o := .cells #[.int .i64 t508, .int .i64 t509, .slice Ao37 t510.length co37] 46 (0, 0)) (by (with_reducible repeat (first | refine blk_drewN ?_ _ | refine blk_drew ?_ | refine blk_alloc ?_ _)); exact BK514.out) hb); have n8_ := Aside0.mk (below_step (by repeat (first | (with_reducible first | exact HB.out | apply below_alloc | apply pw_below_drewN | apply below_drew1 | refine below_set ?_ GE488.out | refine below_set ?_ GE501.out | refine below_set ?_ GE507.out | refine below_set ?_ GE514.out) | exact HB.out)) hb); clear HO_502002; clear HO_508002; clear HO_515002; clear BK488; clear BK501; clear BK507; clear BK514; clear HB; have HO_502002 := n0_; have HO_508002 := n1_; have HO_515002 := n2_; have HO532 := n3_; have BK488 := n4_; have BK501 := n5_; have BK507 := n6_; have BK514 := n7_; have HB := n8_; clear n0_ n1_ n2_ n3_ n4_ n5_ n6_ n7_ n8_; (try clear hb); (try clear hb2); (try clear hk); (try clear hi); (try clear ho0); obtain ⟨Ao116, co116, eo116⟩ := Kd.R_slice HO532.out; subst eo116) | ((with_reducible refine gate_callee (f := 38) rfl ?_); refine goesL_ (some 81) rfl rfl Try.func38 (by kernel_rfl) rfl #[.agg #[.int .i64 t528, .int .i64 t529, .slice Ao116 t530.length co116], .int .i64 a1] rfl (by (try simp only [List.map_toArray, List.map_cons, List.map_nil]); first | done | rfl | (simp only [List.length_drop, List.length_take]; rfl)) ?_; (with_reducible refine (impl_DropClue.calls t528 t529 _ _ t530 a1 t533 t534 t535 t538 _ ?side1 ?side2 A103.out).mono ?_); (case side1 => repeat (first | exact (Kd.R_reads' HO532.out).2.2 | (with_reducible refine Kd.C_alloc ?_ _) | (with_reducible refine Kd.C_drewN ?_ _) | (with_reducible refine Kd.C_drew ?_))); (case side2 => exact (Kd.R_reads' HO532.out).2.1); rintro e w117 ⟨v536, rfl, ho0, hb⟩; refine ⟨_, rfl, ?_⟩; have n0_ := Aside0.mk (Kd.R_elder' (by (with_reducible repeat (first | apply Kd.R_alloc | apply Kd.R_drewN | apply Kd.R_drew)); exact HO_502002.out) (Kd.R_base ho0) hb); have n1_ := Aside0.mk (Kd.R_elder' (by (with_reducible repeat (first | apply Kd.R_alloc | apply Kd.R_drewN | apply Kd.R_drew)); exact HO_508002.out) (Kd.R_base ho0) hb); have n2_ := Aside0.mk (Kd.R_elder' (by (with_reducible repeat (first | apply Kd.R_alloc | apply Kd.R_drewN | apply Kd.R_drew)); exact HO_515002.out) (Kd.R_base ho0) hb); have n3_ := Aside0.mk (Kd.R_elder' (by (with_reducible repeat (first | apply Kd.R_alloc | apply Kd.R_drewN | apply Kd.R_drew)); exact HO532.out) (Kd.R_base ho0) hb); have n4_ := Aside0.mk (Kd.R_lower (Kd.R_new' (Kd.R_new' (Kd.R_new' (Kd.R_new' ho0 (Kd.R_lt (by (with_reducible repeat (first | apply Kd.R_alloc | apply Kd.R_drewN | apply Kd.R_drew)); exact HO_502002.out))) (Kd.R_lt (by (with_reducible repeat (first | apply Kd.R_alloc | apply Kd.R_drewN | apply Kd.R_drew)); exact HO_508002.out))) (Kd.R_lt (by (with_reducible repeat (first | apply Kd.R_alloc | apply Kd.R_drewN | apply Kd.R_drew)); exact HO_515002.out))) (Kd.R_lt (by (with_reducible repeat (first | apply Kd.R_alloc | apply Kd.R_drewN | apply Kd.R_drew)); exact HO532.out))) (below_size (by repeat (first | (with_reducible first | exact HB.out | apply below_alloc | apply pw_below_drewN | apply below_drew1 | refine below_set ?_ GE488.out | refine below_set ?_ GE501.out | refine below_set ?_ GE507.out | refine below_set ?_ GE514.out) | exact HB.out)))); have n5_ := Aside0.mk (blk_below (g := gb488) (o := .cells #[.int .i64 a0_0, .int .i64 a0_1, .slice A0_2 l0_2.length c0_2] 41 (0, 0)) (by (with_reducible repeat (first | refine blk_drewN ?_ _ | refine blk_drew ?_ | refine blk_alloc ?_ _)); exact BK488.out) hb); have n6_ := Aside0.mk (blk_below (g := gb501) (o := .cells #[.int .i64 t495, .int .i64 t496, .slice Ao23 t497.length co23] 46 (0, 0)) (by (with_reducible repeat (first | refine blk_drewN ?_ _ | refine blk_drew ?_ | refine blk_alloc ?_ _)); exact BK501.out) hb); have n7_ := Aside0.mk (blk_below (g := gb507) (o := .cells #[.int .i64 t502, .int .i64 t503, .slice Ao30 t523.length co30] 46 (0, 0)) (by (with_reducible repeat (first | refine blk_drewN ?_ _ | refine blk_drew ?_ | refine blk_alloc ?_ _)); exact BK507.out) hb); have n8_ := Aside0.mk (blk_below (g := gb514) (o := .cells #[.int .i64 t508, .int .i64 t509, .slice Ao37 t510.length co37] 46 (0, 0)) (by (with_reducible repeat (first | refine blk_drewN ?_ _ | refine blk_drew ?_ | refine blk_alloc ?_ _)); exact BK514.out) hb); have n9_ := Aside0.mk (below_step (by repeat (first | (with_reducible first | exact HB.out | apply below_alloc | apply pw_below_drewN | apply below_drew1 | refine below_set ?_ GE488.out | refine below_set ?_ GE501.out | refine below_set ?_ GE507.out | refine below_set ?_ GE514.out) | exact HB.out)) hb); clear HO_502002; clear HO_508002; clear HO_515002; clear HO532; clear BK488; clear BK501; clear BK507; clear BK514; clear HB; have HO_502002 := n0_; have HO_508002 := n1_; have HO_515002 := n2_; have HO532 := n3_; have HO537 := n4_; have BK488 := n5_; have BK501 := n6_; have BK507 := n7_; have BK514 := n8_; have HB := n9_; clear n0_ n1_ n2_ n3_ n4_ n5_ n6_ n7_ n8_ n9_; (try clear hb); (try clear hb2); (try clear hk); (try clear hi); (try clear ho0)) | ((with_reducible refine gate_dst (N := 14) rfl ?_); refine box_event ?hg (N := 14) ?hd (cs := #[.int .i64 0, .int .i64 0, .slice none 0 0]) (t := 46) ?hr ?_; (case hd => rfl); (case hg => rfl); (case hr => first | (go_simp; done) | (go_simp; rfl)); intro gb539 hg w118 hbox hb; have n0_ := Aside0.mk (Kd.R_below (by (with_reducible repeat (first | apply Kd.R_alloc | apply Kd.R_drewN | apply Kd.R_drew)); exact HO_502002.out) hb); have n1_ := Aside0.mk (Kd.R_below (by (with_reducible repeat (first | apply Kd.R_alloc | apply Kd.R_drewN | apply Kd.R_drew)); exact HO_508002.out) hb); have n2_ := Aside0.mk (Kd.R_below (by (with_reducible repeat (first | apply Kd.R_alloc | apply Kd.R_drewN | apply Kd.R_drew)); exact HO_515002.out) hb); have n3_ := Aside0.mk (Kd.R_below (by (with_reducible repeat (first | apply Kd.R_alloc | apply Kd.R_drewN | apply Kd.R_drew)); exact HO532.out) hb); have n4_ := Aside0.mk (Kd.R_below (by (with_reducible repeat (first | apply Kd.R_alloc | apply Kd.R_drewN | apply Kd.R_drew)); exact HO537.out) hb); have n5_ := Aside0.mk (blk_below (g := gb488) (o := .cells #[.int .i64 a0_0, .int .i64 a0_1, .slice A0_2 l0_2.length c0_2] 41 (0, 0)) (by (with_reducible repeat (first | refine blk_drewN ?_ _ | refine blk_drew ?_ | refine blk_alloc ?_ _)); exact BK488.out) hb); have n6_ := Aside0.mk (blk_below (g := gb501) (o := .cells #[.int .i64 t495, .int .i64 t496, .slice Ao23 t497.length co23] 46 (0, 0)) (by (with_reducible repeat (first | refine blk_drewN ?_ _ | refine blk_drew ?_ | refine blk_alloc ?_ _)); exact BK501.out) hb); have n7_ := Aside0.mk (blk_below (g := gb507) (o := .cells #[.int .i64 t502, .int .i64 t503, .slice Ao30 t523.length co30] 46 (0, 0)) (by (with_reducible repeat (first | refine blk_drewN ?_ _ | refine blk_drew ?_ | refine blk_alloc ?_ _)); exact BK507.out) hb); have n8_ := Aside0.mk (blk_below (g := gb514) (o := .cells #[.int .i64 t508, .int .i64 t509, .slice Ao37 t510.length co37] 46 (0, 0)) (by (with_reducible repeat (first | refine blk_drewN ?_ _ | refine blk_drew ?_ | refine blk_alloc ?_ _)); exact BK514.out) hb); have n9_ := Aside0.mk (below_step (by repeat (first | (with_reducible first | exact HB.out | apply below_alloc | apply pw_below_drewN | apply below_drew1 | refine below_set ?_ GE488.out | refine below_set ?_ GE501.out | refine below_set ?_ GE507.out | refine below_set ?_ GE514.out) | exact HB.out)) hb); have n10_ := Aside0.mk (hbox); have n11_ := Aside0.mk ((by rw [hg]; exact (below_size (by repeat (first | (with_reducible first | exact HB.out | apply below_alloc | apply pw_below_drewN | apply below_drew1 | refine below_set ?_ GE488.out | refine below_set ?_ GE501.out | refine below_set ?_ GE507.out | refine below_set ?_ GE514.out) | exact HB.out))) : w.heap.size ≤ gb539)); have n12_ := Aside0.mk ((by rw [hg]; exact (below_size (by repeat (first | (with_reducible first | exact HB.out | apply below_alloc | apply pw_below_drewN | apply below_drew1 | refine below_set ?_ GE488.out | refine below_set ?_ GE501.out | refine below_set ?_ GE507.out | refine below_set ?_ GE514.out) | exact HB.out))) : w.heap.size ≤ gb539)); have n13_ := Aside0.mk ((by rw [hg]; exact Nat.ne_of_lt (blk_lt (g := gb488) (o := .cells #[.int .i64 a0_0, .int .i64 a0_1, .slice A0_2 l0_2.length c0_2] 41 (0, 0)) (by (with_reducible repeat (first | refine blk_drewN ?_ _ | refine blk_drew ?_ | refine blk_alloc ?_ _)); exact BK488.out)) : gb488 ≠ gb539)); have n14_ := Aside0.mk ((by rw [hg]; exact Nat.ne_of_gt (blk_lt (g := gb488) (o := .cells #[.int .i64 a0_0, .int .i64 a0_1, .slice A0_2 l0_2.length c0_2] 41 (0, 0)) (by (with_reducible repeat (first | refine blk_drewN ?_ _ | refine blk_drew ?_ | refine blk_alloc ?_ _)); exact BK488.out)) : gb539 ≠ gb488)); have n15_ := Aside0.mk ((by rw [hg]; exact Nat.ne_of_lt (blk_lt (g := gb501) (o := .cells #[.int .i64 t495, .int .i64 t496, .slice Ao23 t497.length co23] 46 (0, 0)) (by (with_reducible repeat (first | refine blk_drewN ?_ _ | refine blk_drew ?_ | refine blk_alloc ?_ _)); exact BK501.out)) : gb501 ≠ gb539)); have n16_ := Aside0.mk ((by rw [hg]; exact Nat.ne_of_gt (blk_lt (g := gb501) (o := .cells #[.int .i64 t495, .int .i64 t496, .slice Ao23 t497.length co23] 46 (0, 0)) (by (with_reducible repeat (first | refine blk_drewN ?_ _ | refine blk_drew ?_ | refine blk_alloc ?_ _)); exact BK501.out)) : gb539 ≠ gb501)); have n17_ := Aside0.mk ((by rw [hg]; exact Nat.ne_of_lt (blk_lt (g := gb507) (o := .cells #[.int .i64 t502, .int .i64 t503, .slice Ao30 t523.length co30] 46 (0, 0)) (by (with_reducible repeat (first | refine blk_drewN ?_ _ | refine blk_drew ?_ | refine blk_alloc ?_ _)); exact BK507.out)) : gb507 ≠ gb539)); have n18_ := Aside0.mk ((by rw [hg]; exact Nat.ne_of_gt (blk_lt (g := gb507) (o := .cells #[.int .i64 t502, .int .i64 t503, .slice Ao30 t523.length co30] 46 (0, 0)) (by (with_reducible repeat (first | refine blk_drewN ?_ _ | refine blk_drew ?_ | refine blk_alloc ?_ _)); exact BK507.out)) : gb539 ≠ gb507)); have n19_ := Aside0.mk ((by rw [hg]; exact Nat.ne_of_lt (blk_lt (g := gb514) (o := .cells #[.int .i64 t508, .int .i64 t509, .slice Ao37 t510.length co37] 46 (0, 0)) (by (with_reducible repeat (first | refine blk_drewN ?_ _ | refine blk_drew ?_ | refine blk_alloc ?_ _)); exact BK514.out)) : gb514 ≠ gb539)); have n20_ := Aside0.mk ((by rw [hg]; exact Nat.ne_of_gt (blk_lt (g := gb514) (o := .cells #[.int .i64 t508, .int .i64 t509, .slice Ao37 t510.length co37] 46 (0, 0)) (by (with_reducible repeat (first | refine blk_drewN ?_ _ | refine blk_drew ?_ | refine blk_alloc ?_ _)); exact BK514.out)) : gb539 ≠ gb514)); clear HO_502002; clear HO_508002; clear HO_515002; clear HO532; clear HO537; clear BK488; clear BK501; clear BK507; clear BK514; clear HB; have HO_502002 := n0_; have HO_508002 := n1_; have HO_515002 := n2_; have HO532 := n3_; have HO537 := n4_; have BK488 := n5_; have BK501 := n6_; have BK507 := n7_; have BK514 := n8_; have HB := n9_; have BK539 := n10_; have GW539 := n11_; have GE539 := n12_; have NB488_539 := n13_; have NB539_488 := n14_; have NB501_539 := n15_; have NB539_501 := n16_; have NB507_539 := n17_; have NB539_507 := n18_; have NB514_539 := n19_; have NB539_514 := n20_; clear n0_ n1_ n2_ n3_ n4_ n5_ n6_ n7_ n8_ n9_ n10_ n11_ n12_ n13_ n14_ n15_ n16_ n17_ n18_ n19_ n20_; clear hb hbox hg; have hnb119 := NB539_488.out; have hnc119 := NB488_539.out; have hnb120 := NB539_501.out; have hnc120 := NB501_539.out; have hnb121 := NB539_507.out; have hnc121 := NB507_539.out; have hnb122 := NB539_514.out; have hnc122 := NB514_539.out; have hcz123_0 : w118.cell? ⟨gb539, 0, none⟩ = some (.int .i64 0) := (blk_cell BK539.out 0).trans rfl; have hcz123_1 : w118.cell? ⟨gb539, 1, none⟩ = some (.int .i64 0) := (blk_cell BK539.out 1).trans rfl; have hcz123_2 : w118.cell? ⟨gb539, 2, none⟩ = some (.slice none 0 0) := (blk_cell BK539.out 2).trans rfl; have hfz123_0 := blk_frozen BK539.out 0; have hfz123_1 := blk_frozen BK539.out 1; have hfz123_2 := blk_frozen BK539.out 2; obtain ⟨Ao124, co124, eo124⟩ := Kd.R_slice HO537.out; subst eo124))
                      (try simp only [Act.put, List.setIfInBounds_toArray, List.set_cons_zero, List.set_cons_succ])
                      go_cut [92] (fun v92 wc => ∃ (kq : Nat) (x92_103 : Bool), v92 = .bool x92_103 ∧ Aside0 (laws_FnExactDropClue.j2 kq t525 x92_103 t508 t509 t526 = some r) ∧ Aside0 (kq ≤ kj60) ∧ Aside0 (Kd.R k29 29 wc w.heap.size (fun k_ => some k_ ≠ ((.slice Ao30 t523.length co30) : Value).ownBlock ∧ some k_ ≠ ((.slice Ao37 t510.length co37) : Value).ownBlock ∧ some k_ ≠ ((.slice Ao124 t535.length co124) : Value).ownBlock) (.slice Ao23 t497.length co23) t497) ∧ Aside0 (Kd.R k29 29 wc w.heap.size (fun k_ => some k_ ≠ ((.slice Ao23 t497.length co23) : Value).ownBlock ∧ some k_ ≠ ((.slice Ao37 t510.length co37) : Value).ownBlock ∧ some k_ ≠ ((.slice Ao124 t535.length co124) : Value).ownBlock) (.slice Ao30 t523.length co30) t523) ∧ Aside0 (Kd.R k29 29 wc w.heap.size (fun k_ => some k_ ≠ ((.slice Ao23 t497.length co23) : Value).ownBlock ∧ some k_ ≠ ((.slice Ao30 t523.length co30) : Value).ownBlock ∧ some k_ ≠ ((.slice Ao124 t535.length co124) : Value).ownBlock) (.slice Ao37 t510.length co37) t526) ∧ Aside0 (Kd.R k29 29 wc w.heap.size (fun k_ => some k_ ≠ ((.slice Ao23 t497.length co23) : Value).ownBlock ∧ some k_ ≠ ((.slice Ao30 t523.length co30) : Value).ownBlock ∧ some k_ ≠ ((.slice Ao37 t510.length co37) : Value).ownBlock) (.slice Ao124 t535.length co124) t535) ∧ Aside0 (wc.heap[gb488]? = some (.cells #[.int .i64 a0_0, .int .i64 a0_1, (.slice A0_2 l0_2.length c0_2)] 41 (0, 0))) ∧ Aside0 (wc.heap[gb501]? = some (.cells #[.int .i64 t495, .int .i64 t496, (.slice Ao23 t497.length co23)] 46 (0, 0))) ∧ Aside0 (wc.heap[gb507]? = some (.cells #[.int .i64 t502, .int .i64 t503, (.slice Ao30 t523.length co30)] 46 (0, 0))) ∧ Aside0 (wc.heap[gb514]? = some (.cells #[.int .i64 t508, .int .i64 t509, (.slice Ao37 t510.length co37)] 46 (0, 0))) ∧ Aside0 (wc.heap[gb539]? = some (.cells #[.int .i64 t533, .int .i64 t534, (.slice Ao124 t535.length co124)] 46 (0, 0))) ∧ Aside0 (Below w.heap.size w wc))
                      case first =>
                        have H := HC104.out
                        clear HC104
                        replace H := Option.bind_eq_some_iff.mp H
                        obtain ⟨t540, A1250, H⟩ := H
                        replace H : (if t540 = true then (laws_FnExactDropClue.j2 kj60 t525 (t538 != t500) t508 t509 t526) else (laws_FnExactDropClue.j2 kj60 t525 true t508 t509 t526)) = some r := H
                        have A125 := Aside0.mk A1250
                        clear A1250
                        by_cases c126 : t540 = true
                        · subst c126
                          have H1 : (laws_FnExactDropClue.j2 kj60 t525 (t538 != t500) t508 t509 t526) = some r := by rw [if_pos rfl] at H; exact H
                          clear H
                          have H := H1
                          clear H1
                          have H' := Aside0.mk H
                          clear H
                          have hnb127 := NB539_488.out
                          have hnc127 := NB488_539.out
                          have hnb128 := NB539_501.out
                          have hnc128 := NB501_539.out
                          have hnb129 := NB539_507.out
                          have hnc129 := NB507_539.out
                          have hnb130 := NB539_514.out
                          have hnc130 := NB514_539.out
                          have hcz131_0 : w118.cell? ⟨gb539, 0, none⟩ = some (.int .i64 0) := (blk_cell BK539.out 0).trans rfl
                          have hcz131_1 : w118.cell? ⟨gb539, 1, none⟩ = some (.int .i64 0) := (blk_cell BK539.out 1).trans rfl
                          have hcz131_2 : w118.cell? ⟨gb539, 2, none⟩ = some (.slice none 0 0) := (blk_cell BK539.out 2).trans rfl
                          have hfz131_0 := blk_frozen BK539.out 0
                          have hfz131_1 := blk_frozen BK539.out 1
                          have hfz131_2 := blk_frozen BK539.out 2
                          have hnb132 := NB501_488.out
                          have hnc132 := NB488_501.out
                          have hnb133 := NB501_507.out
                          have hnc133 := NB507_501.out
                          have hnb134 := NB501_514.out
                          have hnc134 := NB514_501.out
                          have hcz135_0 : w118.cell? ⟨gb501, 0, none⟩ = some (.int .i64 t495) := (blk_cell BK501.out 0).trans rfl
                          have hcz135_1 : w118.cell? ⟨gb501, 1, none⟩ = some (.int .i64 t496) := (blk_cell BK501.out 1).trans rfl
                          have hcz135_2 : w118.cell? ⟨gb501, 2, none⟩ = some (.slice Ao23 t497.length co23) := (blk_cell BK501.out 2).trans rfl
                          have hfz135_0 := blk_frozen BK501.out 0
                          have hfz135_1 := blk_frozen BK501.out 1
                          have hfz135_2 := blk_frozen BK501.out 2
                          go_wp2_with (first | ((with_reducible refine gate_callee (f := 28) rfl ?_); refine goesL_ (some 86) rfl rfl Try.func28 (by kernel_rfl) rfl #[.agg #[.int .i64 t533, .int .i64 t534, .slice Ao124 t535.length co124], .agg #[.int .i64 t495, .int .i64 t496, .slice Ao23 t497.length co23]] rfl (by (try simp only [List.map_toArray, List.map_cons, List.map_nil]); first | done | rfl | (simp only [List.length_drop, List.length_take]; rfl)) ?_; (with_reducible refine (laws_eqPuzzle.calls kj60 t533 t534 _ _ t535 t495 t496 _ _ t497 true _ ?side1 ?side2 ?side3 ?side4 A125.out).mono ?_); (case side1 => refine (Kd.R_reads' (e := 29) (base := w.heap.size) (ok := fun k_ => ((((True ∧ some k_ ≠ (.slice Ao23 t497.length co23 : Value).ownBlock) ∧ some k_ ≠ (.slice Ao30 t523.length co30 : Value).ownBlock) ∧ some k_ ≠ (.slice Ao37 t510.length co37 : Value).ownBlock) ∧ some k_ ≠ (.slice Ao116 t530.length co116 : Value).ownBlock)) (n := t535.length) (c := co124) ?_).2.2; exact (by (with_reducible repeat (first | apply Kd.R_alloc | apply Kd.R_drewN | apply Kd.R_drew)); exact (Kd.R_mono (Kd.R_far (p := ⟨gb539, 2, none⟩) (Kd.R_far (p := ⟨gb539, 1, none⟩) (Kd.R_far (p := ⟨gb539, 0, none⟩) (Kd.R_types HO537.out BK539.out (by decide)) (fun _ hk => hk.2) (.int .i64 t533)) (fun _ hk => hk.2) (.int .i64 t534)) (fun _ hk => hk.2) (.slice Ao124 t535.length co124)) (fun _ h_ => h_.1)))); (case side2 => exact (Kd.R_reads' HO537.out).2.1); (case side3 => refine (Kd.R_reads' (e := 29) (base := w.heap.size) (ok := fun k_ => (((some k_ ≠ (.slice Ao30 t523.length co30 : Value).ownBlock ∧ some k_ ≠ (.slice Ao37 t510.length co37 : Value).ownBlock) ∧ some k_ ≠ (.slice Ao116 t530.length co116 : Value).ownBlock) ∧ some k_ ≠ (.slice Ao124 t535.length co124 : Value).ownBlock)) (n := t497.length) (c := co23) ?_).2.2; exact (by (with_reducible repeat (first | apply Kd.R_alloc | apply Kd.R_drewN | apply Kd.R_drew)); exact (Kd.R_mono (Kd.R_far (p := ⟨gb539, 2, none⟩) (Kd.R_far (p := ⟨gb539, 1, none⟩) (Kd.R_far (p := ⟨gb539, 0, none⟩) (Kd.R_types HO_502002.out BK539.out (by decide)) (fun _ hk => hk.2) (.int .i64 t533)) (fun _ hk => hk.2) (.int .i64 t534)) (fun _ hk => hk.2) (.slice Ao124 t535.length co124)) (fun _ h_ => h_.1)))); (case side4 => exact (Kd.R_reads' HO_502002.out).2.1); rintro e w136 ⟨rfl, hb⟩; refine ⟨_, rfl, ?_⟩; have n0_ := Aside0.mk (Kd.R_below (by (with_reducible repeat (first | apply Kd.R_alloc | apply Kd.R_drewN | apply Kd.R_drew)); exact (Kd.R_mono (Kd.R_far (p := ⟨gb539, 2, none⟩) (Kd.R_far (p := ⟨gb539, 1, none⟩) (Kd.R_far (p := ⟨gb539, 0, none⟩) (Kd.R_types HO_502002.out BK539.out (by decide)) (fun _ hk => hk.2) (.int .i64 t533)) (fun _ hk => hk.2) (.int .i64 t534)) (fun _ hk => hk.2) (.slice Ao124 t535.length co124)) (fun _ h_ => h_.1))) hb); have n1_ := Aside0.mk (Kd.R_below (by (with_reducible repeat (first | apply Kd.R_alloc | apply Kd.R_drewN | apply Kd.R_drew)); exact (Kd.R_mono (Kd.R_far (p := ⟨gb539, 2, none⟩) (Kd.R_far (p := ⟨gb539, 1, none⟩) (Kd.R_far (p := ⟨gb539, 0, none⟩) (Kd.R_types HO_508002.out BK539.out (by decide)) (fun _ hk => hk.2) (.int .i64 t533)) (fun _ hk => hk.2) (.int .i64 t534)) (fun _ hk => hk.2) (.slice Ao124 t535.length co124)) (fun _ h_ => h_.1))) hb); have n2_ := Aside0.mk (Kd.R_below (by (with_reducible repeat (first | apply Kd.R_alloc | apply Kd.R_drewN | apply Kd.R_drew)); exact (Kd.R_mono (Kd.R_far (p := ⟨gb539, 2, none⟩) (Kd.R_far (p := ⟨gb539, 1, none⟩) (Kd.R_far (p := ⟨gb539, 0, none⟩) (Kd.R_types HO_515002.out BK539.out (by decide)) (fun _ hk => hk.2) (.int .i64 t533)) (fun _ hk => hk.2) (.int .i64 t534)) (fun _ hk => hk.2) (.slice Ao124 t535.length co124)) (fun _ h_ => h_.1))) hb); have n3_ := Aside0.mk (Kd.R_below (by (with_reducible repeat (first | apply Kd.R_alloc | apply Kd.R_drewN | apply Kd.R_drew)); exact (Kd.R_mono (Kd.R_far (p := ⟨gb539, 2, none⟩) (Kd.R_far (p := ⟨gb539, 1, none⟩) (Kd.R_far (p := ⟨gb539, 0, none⟩) (Kd.R_types HO532.out BK539.out (by decide)) (fun _ hk => hk.2) (.int .i64 t533)) (fun _ hk => hk.2) (.int .i64 t534)) (fun _ hk => hk.2) (.slice Ao124 t535.length co124)) (fun _ h_ => h_.1))) hb); have n4_ := Aside0.mk (Kd.R_below (by (with_reducible repeat (first | apply Kd.R_alloc | apply Kd.R_drewN | apply Kd.R_drew)); exact (Kd.R_mono (Kd.R_far (p := ⟨gb539, 2, none⟩) (Kd.R_far (p := ⟨gb539, 1, none⟩) (Kd.R_far (p := ⟨gb539, 0, none⟩) (Kd.R_types HO537.out BK539.out (by decide)) (fun _ hk => hk.2) (.int .i64 t533)) (fun _ hk => hk.2) (.int .i64 t534)) (fun _ hk => hk.2) (.slice Ao124 t535.length co124)) (fun _ h_ => h_.1))) hb); have n5_ := Aside0.mk (blk_below (g := gb488) (o := .cells #[.int .i64 a0_0, .int .i64 a0_1, .slice A0_2 l0_2.length c0_2] 41 (0, 0)) (by (with_reducible repeat (first | refine blk_drewN ?_ _ | refine blk_drew ?_ | refine blk_alloc ?_ _)); refine blk_far ?_ NB488_539.out _; (with_reducible repeat (first | refine blk_drewN ?_ _ | refine blk_drew ?_ | refine blk_alloc ?_ _)); refine blk_far ?_ NB488_539.out _; (with_reducible repeat (first | refine blk_drewN ?_ _ | refine blk_drew ?_ | refine blk_alloc ?_ _)); refine blk_far ?_ NB488_539.out _; (with_reducible repeat (first | refine blk_drewN ?_ _ | refine blk_drew ?_ | refine blk_alloc ?_ _)); exact BK488.out) hb); have n6_ := Aside0.mk (blk_below (g := gb501) (o := .cells #[.int .i64 t495, .int .i64 t496, .slice Ao23 t497.length co23] 46 (0, 0)) (by (with_reducible repeat (first | refine blk_drewN ?_ _ | refine blk_drew ?_ | refine blk_alloc ?_ _)); refine blk_far ?_ NB501_539.out _; (with_reducible repeat (first | refine blk_drewN ?_ _ | refine blk_drew ?_ | refine blk_alloc ?_ _)); refine blk_far ?_ NB501_539.out _; (with_reducible repeat (first | refine blk_drewN ?_ _ | refine blk_drew ?_ | refine blk_alloc ?_ _)); refine blk_far ?_ NB501_539.out _; (with_reducible repeat (first | refine blk_drewN ?_ _ | refine blk_drew ?_ | refine blk_alloc ?_ _)); exact BK501.out) hb); have n7_ := Aside0.mk (blk_below (g := gb507) (o := .cells #[.int .i64 t502, .int .i64 t503, .slice Ao30 t523.length co30] 46 (0, 0)) (by (with_reducible repeat (first | refine blk_drewN ?_ _ | refine blk_drew ?_ | refine blk_alloc ?_ _)); refine blk_far ?_ NB507_539.out _; (with_reducible repeat (first | refine blk_drewN ?_ _ | refine blk_drew ?_ | refine blk_alloc ?_ _)); refine blk_far ?_ NB507_539.out _; (with_reducible repeat (first | refine blk_drewN ?_ _ | refine blk_drew ?_ | refine blk_alloc ?_ _)); refine blk_far ?_ NB507_539.out _; (with_reducible repeat (first | refine blk_drewN ?_ _ | refine blk_drew ?_ | refine blk_alloc ?_ _)); exact BK507.out) hb); have n8_ := Aside0.mk (blk_below (g := gb514) (o := .cells #[.int .i64 t508, .int .i64 t509, .slice Ao37 t510.length co37] 46 (0, 0)) (by (with_reducible repeat (first | refine blk_drewN ?_ _ | refine blk_drew ?_ | refine blk_alloc ?_ _)); refine blk_far ?_ NB514_539.out _; (with_reducible repeat (first | refine blk_drewN ?_ _ | refine blk_drew ?_ | refine blk_alloc ?_ _)); refine blk_far ?_ NB514_539.out _; (with_reducible repeat (first | refine blk_drewN ?_ _ | refine blk_drew ?_ | refine blk_alloc ?_ _)); refine blk_far ?_ NB514_539.out _; (with_reducible repeat (first | refine blk_drewN ?_ _ | refine blk_drew ?_ | refine blk_alloc ?_ _)); exact BK514.out) hb); have n9_ := Aside0.mk (blk_below (g := gb539) (o := .cells #[.int .i64 t533, .int .i64 t534, .slice Ao124 t535.length co124] 46 (0, 0)) (by (with_reducible repeat (first | refine blk_drewN ?_ _ | refine blk_drew ?_ | refine blk_alloc ?_ _)); refine blk_put (cs := #[.int .i64 t533, .int .i64 t534, .slice none 0 0]) ?_ 2 _ rfl; (with_reducible repeat (first | refine blk_drewN ?_ _ | refine blk_drew ?_ | refine blk_alloc ?_ _)); refine blk_put (cs := #[.int .i64 t533, .int .i64 0, .slice none 0 0]) ?_ 1 _ rfl; (with_reducible repeat (first | refine blk_drewN ?_ _ | refine blk_drew ?_ | refine blk_alloc ?_ _)); refine blk_put (cs := #[.int .i64 0, .int .i64 0, .slice none 0 0]) ?_ 0 _ rfl; (with_reducible repeat (first | refine blk_drewN ?_ _ | refine blk_drew ?_ | refine blk_alloc ?_ _)); exact BK539.out) hb); have n10_ := Aside0.mk (below_step (by repeat (first | (with_reducible first | exact HB.out | apply below_alloc | apply pw_below_drewN | apply below_drew1 | refine below_set ?_ GE488.out | refine below_set ?_ GE501.out | refine below_set ?_ GE507.out | refine below_set ?_ GE514.out | refine below_set ?_ GE539.out) | exact HB.out)) hb); clear HO_502002; clear HO_508002; clear HO_515002; clear HO532; clear HO537; clear BK488; clear BK501; clear BK507; clear BK514; clear BK539; clear HB; have HO_502002 := n0_; have HO_508002 := n1_; have HO_515002 := n2_; have HO532 := n3_; have HO537 := n4_; have BK488 := n5_; have BK501 := n6_; have BK507 := n7_; have BK514 := n8_; have BK539 := n9_; have HB := n10_; clear n0_ n1_ n2_ n3_ n4_ n5_ n6_ n7_ n8_ n9_ n10_; (try clear hb); (try clear hb2); (try clear hk); (try clear hi)))
                          go_meet
                          case rel => exact ⟨_, ((t538 != t500)), (by first | rfl | (simp; done) | (simp [*]; done)), H', ⟨by have := HJ11.out; have := HJ60.out; first | omega | exact Nat.le_refl _⟩, ⟨by (try simp only [hl508002_60]); (with_reducible repeat (first | apply Kd.R_alloc | apply Kd.R_drewN | apply Kd.R_drew)); exact Kd.R_mono HO_502002.out (fun _ hk => ⟨hk.1.1.1, ⟨hk.1.1.2, hk.2⟩⟩)⟩, ⟨by (try simp only [hl508002_60]); (with_reducible repeat (first | apply Kd.R_alloc | apply Kd.R_drewN | apply Kd.R_drew)); exact Kd.R_mono HO_508002.out (fun _ hk => ⟨hk.1.1.1, ⟨hk.1.1.2, hk.2⟩⟩)⟩, ⟨by (try simp only [hl508002_60]); (with_reducible repeat (first | apply Kd.R_alloc | apply Kd.R_drewN | apply Kd.R_drew)); exact Kd.R_mono HO_515002.out (fun _ hk => ⟨hk.1.1.1, ⟨hk.1.1.2, hk.2⟩⟩)⟩, ⟨by (try simp only [hl508002_60]); (with_reducible repeat (first | apply Kd.R_alloc | apply Kd.R_drewN | apply Kd.R_drew)); exact Kd.R_mono HO537.out (fun _ hk => ⟨hk.1.1.1.2, ⟨hk.1.1.2, hk.1.2⟩⟩)⟩, ⟨by (try simp only [hl508002_60]); (with_reducible repeat (first | refine blk_drewN ?_ _ | refine blk_drew ?_ | refine blk_alloc ?_ _)); exact BK488.out⟩, ⟨by (try simp only [hl508002_60]); (with_reducible repeat (first | refine blk_drewN ?_ _ | refine blk_drew ?_ | refine blk_alloc ?_ _)); exact BK501.out⟩, ⟨by (try simp only [hl508002_60]); (with_reducible repeat (first | refine blk_drewN ?_ _ | refine blk_drew ?_ | refine blk_alloc ?_ _)); exact BK507.out⟩, ⟨by (try simp only [hl508002_60]); (with_reducible repeat (first | refine blk_drewN ?_ _ | refine blk_drew ?_ | refine blk_alloc ?_ _)); exact BK514.out⟩, ⟨by (try simp only [hl508002_60]); (with_reducible repeat (first | refine blk_drewN ?_ _ | refine blk_drew ?_ | refine blk_alloc ?_ _)); exact BK539.out⟩, ⟨by repeat (first | (with_reducible first | exact HB.out | apply below_alloc | apply pw_below_drewN | apply below_drew1 | refine below_set ?_ GE488.out | refine below_set ?_ GE501.out | refine below_set ?_ GE507.out | refine below_set ?_ GE514.out | refine below_set ?_ GE539.out) | exact HB.out)⟩⟩
                        · replace c126 := Bool.eq_false_iff.mpr c126
                          subst c126
                          have H1 : (laws_FnExactDropClue.j2 kj60 t525 true t508 t509 t526) = some r := by rw [if_neg (show ¬ (false = true) by decide)] at H; exact H
                          clear H
                          have H := H1
                          clear H1
                          have H' := Aside0.mk H
                          clear H
                          have hnb137 := NB539_488.out
                          have hnc137 := NB488_539.out
                          have hnb138 := NB539_501.out
                          have hnc138 := NB501_539.out
                          have hnb139 := NB539_507.out
                          have hnc139 := NB507_539.out
                          have hnb140 := NB539_514.out
                          have hnc140 := NB514_539.out
                          have hcz141_0 : w118.cell? ⟨gb539, 0, none⟩ = some (.int .i64 0) := (blk_cell BK539.out 0).trans rfl
                          have hcz141_1 : w118.cell? ⟨gb539, 1, none⟩ = some (.int .i64 0) := (blk_cell BK539.out 1).trans rfl
                          have hcz141_2 : w118.cell? ⟨gb539, 2, none⟩ = some (.slice none 0 0) := (blk_cell BK539.out 2).trans rfl
                          have hfz141_0 := blk_frozen BK539.out 0
                          have hfz141_1 := blk_frozen BK539.out 1
                          have hfz141_2 := blk_frozen BK539.out 2
                          have hnb142 := NB501_488.out
                          have hnc142 := NB488_501.out
                          have hnb143 := NB501_507.out
                          have hnc143 := NB507_501.out
                          have hnb144 := NB501_514.out
                          have hnc144 := NB514_501.out
                          have hcz145_0 : w118.cell? ⟨gb501, 0, none⟩ = some (.int .i64 t495) := (blk_cell BK501.out 0).trans rfl
                          have hcz145_1 : w118.cell? ⟨gb501, 1, none⟩ = some (.int .i64 t496) := (blk_cell BK501.out 1).trans rfl
                          have hcz145_2 : w118.cell? ⟨gb501, 2, none⟩ = some (.slice Ao23 t497.length co23) := (blk_cell BK501.out 2).trans rfl
                          have hfz145_0 := blk_frozen BK501.out 0
                          have hfz145_1 := blk_frozen BK501.out 1
                          have hfz145_2 := blk_frozen BK501.out 2
                          go_wp2_with (first | ((with_reducible refine gate_callee (f := 28) rfl ?_); refine goesL_ (some 86) rfl rfl Try.func28 (by kernel_rfl) rfl #[.agg #[.int .i64 t533, .int .i64 t534, .slice Ao124 t535.length co124], .agg #[.int .i64 t495, .int .i64 t496, .slice Ao23 t497.length co23]] rfl (by (try simp only [List.map_toArray, List.map_cons, List.map_nil]); first | done | rfl | (simp only [List.length_drop, List.length_take]; rfl)) ?_; (with_reducible refine (laws_eqPuzzle.calls kj60 t533 t534 _ _ t535 t495 t496 _ _ t497 false _ ?side1 ?side2 ?side3 ?side4 A125.out).mono ?_); (case side1 => refine (Kd.R_reads' (e := 29) (base := w.heap.size) (ok := fun k_ => ((((True ∧ some k_ ≠ (.slice Ao23 t497.length co23 : Value).ownBlock) ∧ some k_ ≠ (.slice Ao30 t523.length co30 : Value).ownBlock) ∧ some k_ ≠ (.slice Ao37 t510.length co37 : Value).ownBlock) ∧ some k_ ≠ (.slice Ao116 t530.length co116 : Value).ownBlock)) (n := t535.length) (c := co124) ?_).2.2; exact (by (with_reducible repeat (first | apply Kd.R_alloc | apply Kd.R_drewN | apply Kd.R_drew)); exact (Kd.R_mono (Kd.R_far (p := ⟨gb539, 2, none⟩) (Kd.R_far (p := ⟨gb539, 1, none⟩) (Kd.R_far (p := ⟨gb539, 0, none⟩) (Kd.R_types HO537.out BK539.out (by decide)) (fun _ hk => hk.2) (.int .i64 t533)) (fun _ hk => hk.2) (.int .i64 t534)) (fun _ hk => hk.2) (.slice Ao124 t535.length co124)) (fun _ h_ => h_.1)))); (case side2 => exact (Kd.R_reads' HO537.out).2.1); (case side3 => refine (Kd.R_reads' (e := 29) (base := w.heap.size) (ok := fun k_ => (((some k_ ≠ (.slice Ao30 t523.length co30 : Value).ownBlock ∧ some k_ ≠ (.slice Ao37 t510.length co37 : Value).ownBlock) ∧ some k_ ≠ (.slice Ao116 t530.length co116 : Value).ownBlock) ∧ some k_ ≠ (.slice Ao124 t535.length co124 : Value).ownBlock)) (n := t497.length) (c := co23) ?_).2.2; exact (by (with_reducible repeat (first | apply Kd.R_alloc | apply Kd.R_drewN | apply Kd.R_drew)); exact (Kd.R_mono (Kd.R_far (p := ⟨gb539, 2, none⟩) (Kd.R_far (p := ⟨gb539, 1, none⟩) (Kd.R_far (p := ⟨gb539, 0, none⟩) (Kd.R_types HO_502002.out BK539.out (by decide)) (fun _ hk => hk.2) (.int .i64 t533)) (fun _ hk => hk.2) (.int .i64 t534)) (fun _ hk => hk.2) (.slice Ao124 t535.length co124)) (fun _ h_ => h_.1)))); (case side4 => exact (Kd.R_reads' HO_502002.out).2.1); rintro e w146 ⟨rfl, hb⟩; refine ⟨_, rfl, ?_⟩; have n0_ := Aside0.mk (Kd.R_below (by (with_reducible repeat (first | apply Kd.R_alloc | apply Kd.R_drewN | apply Kd.R_drew)); exact (Kd.R_mono (Kd.R_far (p := ⟨gb539, 2, none⟩) (Kd.R_far (p := ⟨gb539, 1, none⟩) (Kd.R_far (p := ⟨gb539, 0, none⟩) (Kd.R_types HO_502002.out BK539.out (by decide)) (fun _ hk => hk.2) (.int .i64 t533)) (fun _ hk => hk.2) (.int .i64 t534)) (fun _ hk => hk.2) (.slice Ao124 t535.length co124)) (fun _ h_ => h_.1))) hb); have n1_ := Aside0.mk (Kd.R_below (by (with_reducible repeat (first | apply Kd.R_alloc | apply Kd.R_drewN | apply Kd.R_drew)); exact (Kd.R_mono (Kd.R_far (p := ⟨gb539, 2, none⟩) (Kd.R_far (p := ⟨gb539, 1, none⟩) (Kd.R_far (p := ⟨gb539, 0, none⟩) (Kd.R_types HO_508002.out BK539.out (by decide)) (fun _ hk => hk.2) (.int .i64 t533)) (fun _ hk => hk.2) (.int .i64 t534)) (fun _ hk => hk.2) (.slice Ao124 t535.length co124)) (fun _ h_ => h_.1))) hb); have n2_ := Aside0.mk (Kd.R_below (by (with_reducible repeat (first | apply Kd.R_alloc | apply Kd.R_drewN | apply Kd.R_drew)); exact (Kd.R_mono (Kd.R_far (p := ⟨gb539, 2, none⟩) (Kd.R_far (p := ⟨gb539, 1, none⟩) (Kd.R_far (p := ⟨gb539, 0, none⟩) (Kd.R_types HO_515002.out BK539.out (by decide)) (fun _ hk => hk.2) (.int .i64 t533)) (fun _ hk => hk.2) (.int .i64 t534)) (fun _ hk => hk.2) (.slice Ao124 t535.length co124)) (fun _ h_ => h_.1))) hb); have n3_ := Aside0.mk (Kd.R_below (by (with_reducible repeat (first | apply Kd.R_alloc | apply Kd.R_drewN | apply Kd.R_drew)); exact (Kd.R_mono (Kd.R_far (p := ⟨gb539, 2, none⟩) (Kd.R_far (p := ⟨gb539, 1, none⟩) (Kd.R_far (p := ⟨gb539, 0, none⟩) (Kd.R_types HO532.out BK539.out (by decide)) (fun _ hk => hk.2) (.int .i64 t533)) (fun _ hk => hk.2) (.int .i64 t534)) (fun _ hk => hk.2) (.slice Ao124 t535.length co124)) (fun _ h_ => h_.1))) hb); have n4_ := Aside0.mk (Kd.R_below (by (with_reducible repeat (first | apply Kd.R_alloc | apply Kd.R_drewN | apply Kd.R_drew)); exact (Kd.R_mono (Kd.R_far (p := ⟨gb539, 2, none⟩) (Kd.R_far (p := ⟨gb539, 1, none⟩) (Kd.R_far (p := ⟨gb539, 0, none⟩) (Kd.R_types HO537.out BK539.out (by decide)) (fun _ hk => hk.2) (.int .i64 t533)) (fun _ hk => hk.2) (.int .i64 t534)) (fun _ hk => hk.2) (.slice Ao124 t535.length co124)) (fun _ h_ => h_.1))) hb); have n5_ := Aside0.mk (blk_below (g := gb488) (o := .cells #[.int .i64 a0_0, .int .i64 a0_1, .slice A0_2 l0_2.length c0_2] 41 (0, 0)) (by (with_reducible repeat (first | refine blk_drewN ?_ _ | refine blk_drew ?_ | refine blk_alloc ?_ _)); refine blk_far ?_ NB488_539.out _; (with_reducible repeat (first | refine blk_drewN ?_ _ | refine blk_drew ?_ | refine blk_alloc ?_ _)); refine blk_far ?_ NB488_539.out _; (with_reducible repeat (first | refine blk_drewN ?_ _ | refine blk_drew ?_ | refine blk_alloc ?_ _)); refine blk_far ?_ NB488_539.out _; (with_reducible repeat (first | refine blk_drewN ?_ _ | refine blk_drew ?_ | refine blk_alloc ?_ _)); exact BK488.out) hb); have n6_ := Aside0.mk (blk_below (g := gb501) (o := .cells #[.int .i64 t495, .int .i64 t496, .slice Ao23 t497.length co23] 46 (0, 0)) (by (with_reducible repeat (first | refine blk_drewN ?_ _ | refine blk_drew ?_ | refine blk_alloc ?_ _)); refine blk_far ?_ NB501_539.out _; (with_reducible repeat (first | refine blk_drewN ?_ _ | refine blk_drew ?_ | refine blk_alloc ?_ _)); refine blk_far ?_ NB501_539.out _; (with_reducible repeat (first | refine blk_drewN ?_ _ | refine blk_drew ?_ | refine blk_alloc ?_ _)); refine blk_far ?_ NB501_539.out _; (with_reducible repeat (first | refine blk_drewN ?_ _ | refine blk_drew ?_ | refine blk_alloc ?_ _)); exact BK501.out) hb); have n7_ := Aside0.mk (blk_below (g := gb507) (o := .cells #[.int .i64 t502, .int .i64 t503, .slice Ao30 t523.length co30] 46 (0, 0)) (by (with_reducible repeat (first | refine blk_drewN ?_ _ | refine blk_drew ?_ | refine blk_alloc ?_ _)); refine blk_far ?_ NB507_539.out _; (with_reducible repeat (first | refine blk_drewN ?_ _ | refine blk_drew ?_ | refine blk_alloc ?_ _)); refine blk_far ?_ NB507_539.out _; (with_reducible repeat (first | refine blk_drewN ?_ _ | refine blk_drew ?_ | refine blk_alloc ?_ _)); refine blk_far ?_ NB507_539.out _; (with_reducible repeat (first | refine blk_drewN ?_ _ | refine blk_drew ?_ | refine blk_alloc ?_ _)); exact BK507.out) hb); have n8_ := Aside0.mk (blk_below (g := gb514) (o := .cells #[.int .i64 t508, .int .i64 t509, .slice Ao37 t510.length co37] 46 (0, 0)) (by (with_reducible repeat (first | refine blk_drewN ?_ _ | refine blk_drew ?_ | refine blk_alloc ?_ _)); refine blk_far ?_ NB514_539.out _; (with_reducible repeat (first | refine blk_drewN ?_ _ | refine blk_drew ?_ | refine blk_alloc ?_ _)); refine blk_far ?_ NB514_539.out _; (with_reducible repeat (first | refine blk_drewN ?_ _ | refine blk_drew ?_ | refine blk_alloc ?_ _)); refine blk_far ?_ NB514_539.out _; (with_reducible repeat (first | refine blk_drewN ?_ _ | refine blk_drew ?_ | refine blk_alloc ?_ _)); exact BK514.out) hb); have n9_ := Aside0.mk (blk_below (g := gb539) (o := .cells #[.int .i64 t533, .int .i64 t534, .slice Ao124 t535.length co124] 46 (0, 0)) (by (with_reducible repeat (first | refine blk_drewN ?_ _ | refine blk_drew ?_ | refine blk_alloc ?_ _)); refine blk_put (cs := #[.int .i64 t533, .int .i64 t534, .slice none 0 0]) ?_ 2 _ rfl; (with_reducible repeat (first | refine blk_drewN ?_ _ | refine blk_drew ?_ | refine blk_alloc ?_ _)); refine blk_put (cs := #[.int .i64 t533, .int .i64 0, .slice none 0 0]) ?_ 1 _ rfl; (with_reducible repeat (first | refine blk_drewN ?_ _ | refine blk_drew ?_ | refine blk_alloc ?_ _)); refine blk_put (cs := #[.int .i64 0, .int .i64 0, .slice none 0 0]) ?_ 0 _ rfl; (with_reducible repeat (first | refine blk_drewN ?_ _ | refine blk_drew ?_ | refine blk_alloc ?_ _)); exact BK539.out) hb); have n10_ := Aside0.mk (below_step (by repeat (first | (with_reducible first | exact HB.out | apply below_alloc | apply pw_below_drewN | apply below_drew1 | refine below_set ?_ GE488.out | refine below_set ?_ GE501.out | refine below_set ?_ GE507.out | refine below_set ?_ GE514.out | refine below_set ?_ GE539.out) | exact HB.out)) hb); clear HO_502002; clear HO_508002; clear HO_515002; clear HO532; clear HO537; clear BK488; clear BK501; clear BK507; clear BK514; clear BK539; clear HB; have HO_502002 := n0_; have HO_508002 := n1_; have HO_515002 := n2_; have HO532 := n3_; have HO537 := n4_; have BK488 := n5_; have BK501 := n6_; have BK507 := n7_; have BK514 := n8_; have BK539 := n9_; have HB := n10_; clear n0_ n1_ n2_ n3_ n4_ n5_ n6_ n7_ n8_ n9_ n10_; (try clear hb); (try clear hb2); (try clear hk); (try clear hi)))
                          go_meet
                          case rel => exact ⟨_, (true), (by first | rfl | (simp; done) | (simp [*]; done)), H', ⟨by have := HJ11.out; have := HJ60.out; first | omega | exact Nat.le_refl _⟩, ⟨by (try simp only [hl508002_60]); (with_reducible repeat (first | apply Kd.R_alloc | apply Kd.R_drewN | apply Kd.R_drew)); exact Kd.R_mono HO_502002.out (fun _ hk => ⟨hk.1.1.1, ⟨hk.1.1.2, hk.2⟩⟩)⟩, ⟨by (try simp only [hl508002_60]); (with_reducible repeat (first | apply Kd.R_alloc | apply Kd.R_drewN | apply Kd.R_drew)); exact Kd.R_mono HO_508002.out (fun _ hk => ⟨hk.1.1.1, ⟨hk.1.1.2, hk.2⟩⟩)⟩, ⟨by (try simp only [hl508002_60]); (with_reducible repeat (first | apply Kd.R_alloc | apply Kd.R_drewN | apply Kd.R_drew)); exact Kd.R_mono HO_515002.out (fun _ hk => ⟨hk.1.1.1, ⟨hk.1.1.2, hk.2⟩⟩)⟩, ⟨by (try simp only [hl508002_60]); (with_reducible repeat (first | apply Kd.R_alloc | apply Kd.R_drewN | apply Kd.R_drew)); exact Kd.R_mono HO537.out (fun _ hk => ⟨hk.1.1.1.2, ⟨hk.1.1.2, hk.1.2⟩⟩)⟩, ⟨by (try simp only [hl508002_60]); (with_reducible repeat (first | refine blk_drewN ?_ _ | refine blk_drew ?_ | refine blk_alloc ?_ _)); exact BK488.out⟩, ⟨by (try simp only [hl508002_60]); (with_reducible repeat (first | refine blk_drewN ?_ _ | refine blk_drew ?_ | refine blk_alloc ?_ _)); exact BK501.out⟩, ⟨by (try simp only [hl508002_60]); (with_reducible repeat (first | refine blk_drewN ?_ _ | refine blk_drew ?_ | refine blk_alloc ?_ _)); exact BK507.out⟩, ⟨by (try simp only [hl508002_60]); (with_reducible repeat (first | refine blk_drewN ?_ _ | refine blk_drew ?_ | refine blk_alloc ?_ _)); exact BK514.out⟩, ⟨by (try simp only [hl508002_60]); (with_reducible repeat (first | refine blk_drewN ?_ _ | refine blk_drew ?_ | refine blk_alloc ?_ _)); exact BK539.out⟩, ⟨by repeat (first | (with_reducible first | exact HB.out | apply below_alloc | apply pw_below_drewN | apply below_drew1 | refine below_set ?_ GE488.out | refine below_set ?_ GE501.out | refine below_set ?_ GE507.out | refine below_set ?_ GE514.out | refine below_set ?_ GE539.out) | exact HB.out)⟩⟩
                      case rest =>
                        clear HC104
                        try clear c1; try clear c2; try clear p2; try clear c3; try clear c4; try clear c4b0; try clear c5; try clear c6; try clear c7; try clear c8; try clear c9; try clear c10; try clear c11; try clear c12; try clear c13; try clear c14; try clear c21; try clear c24; try clear c26; try clear c27; try clear c28; try clear c33; try clear c34; try clear c35; try clear c36; try clear c37; try clear c38; try clear c39; try clear c40; try clear c41; try clear c42; try clear c44; try clear c45; try clear c48; try clear c49; try clear c50; try clear c52; try clear c53; try clear c56; try clear c59; try clear c66; try clear c67; try clear c68; try clear c71; try clear c71b0; try clear c73; try clear c74; try clear c75; try clear c76; try clear c78; try clear c79; try clear c82; try clear c83; try clear c84; try clear c86; try clear c87; try clear c90; try clear c93; try clear c93b0; try clear c94; try clear c95; try clear c96; try clear c101; try clear c101b0; try clear c101b1; try clear c105; try clear c106; try clear c107; try clear c112; try clear c113; try clear c119; try clear c120; try clear c121; try clear c122; try clear c126; try clear c127; try clear c128; try clear c129; try clear c130; try clear c132; try clear c133; try clear c134; try clear c137; try clear c138; try clear c139; try clear c140; try clear c142; try clear c143; try clear c144; try clear hcz108_0; try clear hcz108_1; try clear hcz108_2; try clear hcz110_0; try clear hcz110_1; try clear hcz110_2; try clear hcz114_0; try clear hcz114_1; try clear hcz114_2; try clear hcz123_0; try clear hcz123_1; try clear hcz123_2; try clear hcz131_0; try clear hcz131_1; try clear hcz131_2; try clear hcz135_0; try clear hcz135_1; try clear hcz135_2; try clear hcz141_0; try clear hcz141_1; try clear hcz141_2; try clear hcz145_0; try clear hcz145_1; try clear hcz145_2; try clear hcz14_0; try clear hcz14_1; try clear hcz14_2; try clear hcz16_0; try clear hcz16_1; try clear hcz16_2; try clear hcz22_0; try clear hcz22_1; try clear hcz22_2; try clear hcz24_0; try clear hcz24_1; try clear hcz24_2; try clear hcz29_0; try clear hcz29_1; try clear hcz29_2; try clear hcz36_0; try clear hcz36_1; try clear hcz36_2; try clear hcz43_0; try clear hcz43_1; try clear hcz43_2; try clear hcz46_0; try clear hcz46_1; try clear hcz46_2; try clear hcz51_0; try clear hcz51_1; try clear hcz51_2; try clear hcz54_0; try clear hcz54_1; try clear hcz54_2; try clear hcz69_0; try clear hcz69_1; try clear hcz69_2; try clear hcz6_0; try clear hcz6_1; try clear hcz6_2; try clear hcz77_0; try clear hcz77_1; try clear hcz77_2; try clear hcz80_0; try clear hcz80_1; try clear hcz80_2; try clear hcz85_0; try clear hcz85_1; try clear hcz85_2; try clear hcz88_0; try clear hcz88_1; try clear hcz88_2; try clear hcz97_0; try clear hcz97_1; try clear hcz97_2; try clear hcz99_0; try clear hcz99_1; try clear hcz99_2; try clear hfz108_0; try clear hfz108_1; try clear hfz108_2; try clear hfz110_0; try clear hfz110_1; try clear hfz110_2; try clear hfz114_0; try clear hfz114_1; try clear hfz114_2; try clear hfz123_0; try clear hfz123_1; try clear hfz123_2; try clear hfz131_0; try clear hfz131_1; try clear hfz131_2; try clear hfz135_0; try clear hfz135_1; try clear hfz135_2; try clear hfz141_0; try clear hfz141_1; try clear hfz141_2; try clear hfz145_0; try clear hfz145_1; try clear hfz145_2; try clear hfz14_0; try clear hfz14_1; try clear hfz14_2; try clear hfz16_0; try clear hfz16_1; try clear hfz16_2; try clear hfz22_0; try clear hfz22_1; try clear hfz22_2; try clear hfz24_0; try clear hfz24_1; try clear hfz24_2; try clear hfz29_0; try clear hfz29_1; try clear hfz29_2; try clear hfz36_0; try clear hfz36_1; try clear hfz36_2; try clear hfz43_0; try clear hfz43_1; try clear hfz43_2; try clear hfz46_0; try clear hfz46_1; try clear hfz46_2; try clear hfz51_0; try clear hfz51_1; try clear hfz51_2; try clear hfz54_0; try clear hfz54_1; try clear hfz54_2; try clear hfz69_0; try clear hfz69_1; try clear hfz69_2; try clear hfz6_0; try clear hfz6_1; try clear hfz6_2; try clear hfz77_0; try clear hfz77_1; try clear hfz77_2; try clear hfz80_0; try clear hfz80_1; try clear hfz80_2; try clear hfz85_0; try clear hfz85_1; try clear hfz85_2; try clear hfz88_0; try clear hfz88_1; try clear hfz88_2; try clear hfz97_0; try clear hfz97_1; try clear hfz97_2; try clear hfz99_0; try clear hfz99_1; try clear hfz99_2; try clear p2
                        obtain ⟨kq, x92_103, rfl, HA, HJ103, HO_502002, HO_508002, HO_515002, HO_540002, BK488, BK501, BK507, BK514, BK539, HB⟩ := hcut
                        have hl515002_103 := (Kd.R_reads' HO_515002.out).1
                        rw [hl515002_103] at HO_515002
                        (try simp only [hl515002_103])
                        (try simp only [hl515002_103] at BK488)
                        (try simp only [hl515002_103] at BK501)
                        (try simp only [hl515002_103] at BK507)
                        (try simp only [hl515002_103] at BK514)
                        (try simp only [hl515002_103] at BK539)
                        (try simp only [hl515002_103] at HO_502002)
                        (try simp only [hl515002_103] at HO_508002)
                        (try simp only [hl515002_103] at HO_540002)
                        cases kq with
                        | zero => exact absurd HA.out (by simp [laws_FnExactDropClue.j2])
                        | succ kj103 =>
                          have H := HA.out
                          clear HA
                          simp only [laws_FnExactDropClue.j2] at H
                          by_cases c147 : x92_103 = true
                          · subst c147
                            have H1 : (some false) = some r := by rw [if_pos rfl] at H; exact H
                            clear H
                            have H := H1
                            clear H1
                            obtain rfl := Option.some.inj H
                            go_wp2
                            go_ret
                            exact ⟨by first | rfl | (simp [errW_none, errW_some] <;> rfl) | (simp [*, errW_none, errW_some] <;> rfl), by repeat (first | (with_reducible first | exact HB.out | apply below_alloc | apply pw_below_drewN | apply below_drew1 | refine below_set ?_ GE488.out | refine below_set ?_ GE501.out | refine below_set ?_ GE507.out | refine below_set ?_ GE514.out | refine below_set ?_ GE539.out) | exact HB.out)⟩
                          · replace c147 := Bool.eq_false_iff.mpr c147
                            subst c147
                            have H1 : ((laws_heldPuzzle.f kj103 t508 t509 t526 1).bind fun t541 => (if t541 < 0 then (some false) else (if t541 = t525 then (some true) else (some false)))) = some r := by rw [if_neg (show ¬ (false = true) by decide)] at H; exact H
                            clear H
                            have H := H1
                            clear H1
                            replace H := Option.bind_eq_some_iff.mp H
                            obtain ⟨t541, A1480, H⟩ := H
                            replace H : (if t541 < 0 then (some false) else (if t541 = t525 then (some true) else (some false))) = some r := H
                            have A148 := Aside0.mk A1480
                            clear A1480
                            by_cases c149 : t541 < 0
                            · rw [if_pos c149] at H
                              have c149b0 : decide (t541 < 0) = true := decide_eq_true c149
                              clear c149
                              obtain rfl := Option.some.inj H
                              have hnb150 := NB514_488.out
                              have hnc150 := NB488_514.out
                              have hnb151 := NB514_501.out
                              have hnc151 := NB501_514.out
                              have hnb152 := NB514_507.out
                              have hnc152 := NB507_514.out
                              have hnb153 := NB514_539.out
                              have hnc153 := NB539_514.out
                              have hcz154_0 : wc.cell? ⟨gb514, 0, none⟩ = some (.int .i64 t508) := (blk_cell BK514.out 0).trans rfl
                              have hcz154_1 : wc.cell? ⟨gb514, 1, none⟩ = some (.int .i64 t509) := (blk_cell BK514.out 1).trans rfl
                              have hcz154_2 : wc.cell? ⟨gb514, 2, none⟩ = some (.slice Ao37 t526.length co37) := (blk_cell BK514.out 2).trans rfl
                              have hfz154_0 := blk_frozen BK514.out 0
                              have hfz154_1 := blk_frozen BK514.out 1
                              have hfz154_2 := blk_frozen BK514.out 2
                              go_wp2_with (first | ((with_reducible refine gate_callee (f := 36) rfl ?_); refine goesL_ (some 95) rfl rfl Try.func36 (by kernel_rfl) rfl #[.agg #[.int .i64 t508, .int .i64 t509, .slice Ao37 t526.length co37], .int .i64 1] rfl (by (try simp only [List.map_toArray, List.map_cons, List.map_nil]); first | done | rfl | (simp only [List.length_drop, List.length_take]; rfl)) ?_; (with_reducible refine (laws_heldPuzzle.calls kj103 t508 t509 _ _ t526 1 t541 _ ?side1 ?side2 A148.out).mono ?_); (case side1 => repeat (first | exact (Kd.R_reads' HO_515002.out).2.2 | (with_reducible refine Kd.C_alloc ?_ _) | (with_reducible refine Kd.C_drewN ?_ _) | (with_reducible refine Kd.C_drew ?_))); (case side2 => exact (Kd.R_reads' HO_515002.out).2.1); rintro e w155 ⟨rfl, hb⟩; refine ⟨_, rfl, ?_⟩; have n0_ := Aside0.mk (Kd.R_below (by (with_reducible repeat (first | apply Kd.R_alloc | apply Kd.R_drewN | apply Kd.R_drew)); exact HO_502002.out) hb); have n1_ := Aside0.mk (Kd.R_below (by (with_reducible repeat (first | apply Kd.R_alloc | apply Kd.R_drewN | apply Kd.R_drew)); exact HO_508002.out) hb); have n2_ := Aside0.mk (Kd.R_below (by (with_reducible repeat (first | apply Kd.R_alloc | apply Kd.R_drewN | apply Kd.R_drew)); exact HO_515002.out) hb); have n3_ := Aside0.mk (Kd.R_below (by (with_reducible repeat (first | apply Kd.R_alloc | apply Kd.R_drewN | apply Kd.R_drew)); exact HO_540002.out) hb); have n4_ := Aside0.mk (blk_below (g := gb488) (o := .cells #[.int .i64 a0_0, .int .i64 a0_1, .slice A0_2 l0_2.length c0_2] 41 (0, 0)) (by (with_reducible repeat (first | refine blk_drewN ?_ _ | refine blk_drew ?_ | refine blk_alloc ?_ _)); exact BK488.out) hb); have n5_ := Aside0.mk (blk_below (g := gb501) (o := .cells #[.int .i64 t495, .int .i64 t496, .slice Ao23 t497.length co23] 46 (0, 0)) (by (with_reducible repeat (first | refine blk_drewN ?_ _ | refine blk_drew ?_ | refine blk_alloc ?_ _)); exact BK501.out) hb); have n6_ := Aside0.mk (blk_below (g := gb507) (o := .cells #[.int .i64 t502, .int .i64 t503, .slice Ao30 t523.length co30] 46 (0, 0)) (by (with_reducible repeat (first | refine blk_drewN ?_ _ | refine blk_drew ?_ | refine blk_alloc ?_ _)); exact BK507.out) hb); have n7_ := Aside0.mk (blk_below (g := gb514) (o := .cells #[.int .i64 t508, .int .i64 t509, .slice Ao37 t526.length co37] 46 (0, 0)) (by (with_reducible repeat (first | refine blk_drewN ?_ _ | refine blk_drew ?_ | refine blk_alloc ?_ _)); exact BK514.out) hb); have n8_ := Aside0.mk (blk_below (g := gb539) (o := .cells #[.int .i64 t533, .int .i64 t534, .slice Ao124 t535.length co124] 46 (0, 0)) (by (with_reducible repeat (first | refine blk_drewN ?_ _ | refine blk_drew ?_ | refine blk_alloc ?_ _)); exact BK539.out) hb); have n9_ := Aside0.mk (below_step (by repeat (first | (with_reducible first | exact HB.out | apply below_alloc | apply pw_below_drewN | apply below_drew1 | refine below_set ?_ GE488.out | refine below_set ?_ GE501.out | refine below_set ?_ GE507.out | refine below_set ?_ GE514.out | refine below_set ?_ GE539.out) | exact HB.out)) hb); clear HO_502002; clear HO_508002; clear HO_515002; clear HO_540002; clear BK488; clear BK501; clear BK507; clear BK514; clear BK539; clear HB; have HO_502002 := n0_; have HO_508002 := n1_; have HO_515002 := n2_; have HO_540002 := n3_; have BK488 := n4_; have BK501 := n5_; have BK507 := n6_; have BK514 := n7_; have BK539 := n8_; have HB := n9_; clear n0_ n1_ n2_ n3_ n4_ n5_ n6_ n7_ n8_ n9_; (try clear hb); (try clear hb2); (try clear hk); (try clear hi)))
                              go_ret
                              exact ⟨by first | rfl | (simp [errW_none, errW_some] <;> rfl) | (simp [*, errW_none, errW_some] <;> rfl), by repeat (first | (with_reducible first | exact HB.out | apply below_alloc | apply pw_below_drewN | apply below_drew1 | refine below_set ?_ GE488.out | refine below_set ?_ GE501.out | refine below_set ?_ GE507.out | refine below_set ?_ GE514.out | refine below_set ?_ GE539.out) | exact HB.out)⟩
                            · rw [if_neg c149] at H
                              have c149b0 : decide (t541 < 0) = false := decide_eq_false c149
                              clear c149
                              by_cases c156 : t541 = t525
                              · rw [if_pos c156] at H
                                have c156b0 : (t541 == t525) = true := beq_iff_eq.mpr c156
                                have c156b1 : (t541 != t525) = false := bne_eq_false_iff_eq.mpr c156
                                clear c156
                                obtain rfl := Option.some.inj H
                                have hnb157 := NB514_488.out
                                have hnc157 := NB488_514.out
                                have hnb158 := NB514_501.out
                                have hnc158 := NB501_514.out
                                have hnb159 := NB514_507.out
                                have hnc159 := NB507_514.out
                                have hnb160 := NB514_539.out
                                have hnc160 := NB539_514.out
                                have hcz161_0 : wc.cell? ⟨gb514, 0, none⟩ = some (.int .i64 t508) := (blk_cell BK514.out 0).trans rfl
                                have hcz161_1 : wc.cell? ⟨gb514, 1, none⟩ = some (.int .i64 t509) := (blk_cell BK514.out 1).trans rfl
                                have hcz161_2 : wc.cell? ⟨gb514, 2, none⟩ = some (.slice Ao37 t526.length co37) := (blk_cell BK514.out 2).trans rfl
                                have hfz161_0 := blk_frozen BK514.out 0
                                have hfz161_1 := blk_frozen BK514.out 1
                                have hfz161_2 := blk_frozen BK514.out 2
                                go_wp2_with (first | ((with_reducible refine gate_callee (f := 36) rfl ?_); refine goesL_ (some 95) rfl rfl Try.func36 (by kernel_rfl) rfl #[.agg #[.int .i64 t508, .int .i64 t509, .slice Ao37 t526.length co37], .int .i64 1] rfl (by (try simp only [List.map_toArray, List.map_cons, List.map_nil]); first | done | rfl | (simp only [List.length_drop, List.length_take]; rfl)) ?_; (with_reducible refine (laws_heldPuzzle.calls kj103 t508 t509 _ _ t526 1 t541 _ ?side1 ?side2 A148.out).mono ?_); (case side1 => repeat (first | exact (Kd.R_reads' HO_515002.out).2.2 | (with_reducible refine Kd.C_alloc ?_ _) | (with_reducible refine Kd.C_drewN ?_ _) | (with_reducible refine Kd.C_drew ?_))); (case side2 => exact (Kd.R_reads' HO_515002.out).2.1); rintro e w162 ⟨rfl, hb⟩; refine ⟨_, rfl, ?_⟩; have n0_ := Aside0.mk (Kd.R_below (by (with_reducible repeat (first | apply Kd.R_alloc | apply Kd.R_drewN | apply Kd.R_drew)); exact HO_502002.out) hb); have n1_ := Aside0.mk (Kd.R_below (by (with_reducible repeat (first | apply Kd.R_alloc | apply Kd.R_drewN | apply Kd.R_drew)); exact HO_508002.out) hb); have n2_ := Aside0.mk (Kd.R_below (by (with_reducible repeat (first | apply Kd.R_alloc | apply Kd.R_drewN | apply Kd.R_drew)); exact HO_515002.out) hb); have n3_ := Aside0.mk (Kd.R_below (by (with_reducible repeat (first | apply Kd.R_alloc | apply Kd.R_drewN | apply Kd.R_drew)); exact HO_540002.out) hb); have n4_ := Aside0.mk (blk_below (g := gb488) (o := .cells #[.int .i64 a0_0, .int .i64 a0_1, .slice A0_2 l0_2.length c0_2] 41 (0, 0)) (by (with_reducible repeat (first | refine blk_drewN ?_ _ | refine blk_drew ?_ | refine blk_alloc ?_ _)); exact BK488.out) hb); have n5_ := Aside0.mk (blk_below (g := gb501) (o := .cells #[.int .i64 t495, .int .i64 t496, .slice Ao23 t497.length co23] 46 (0, 0)) (by (with_reducible repeat (first | refine blk_drewN ?_ _ | refine blk_drew ?_ | refine blk_alloc ?_ _)); exact BK501.out) hb); have n6_ := Aside0.mk (blk_below (g := gb507) (o := .cells #[.int .i64 t502, .int .i64 t503, .slice Ao30 t523.length co30] 46 (0, 0)) (by (with_reducible repeat (first | refine blk_drewN ?_ _ | refine blk_drew ?_ | refine blk_alloc ?_ _)); exact BK507.out) hb); have n7_ := Aside0.mk (blk_below (g := gb514) (o := .cells #[.int .i64 t508, .int .i64 t509, .slice Ao37 t526.length co37] 46 (0, 0)) (by (with_reducible repeat (first | refine blk_drewN ?_ _ | refine blk_drew ?_ | refine blk_alloc ?_ _)); exact BK514.out) hb); have n8_ := Aside0.mk (blk_below (g := gb539) (o := .cells #[.int .i64 t533, .int .i64 t534, .slice Ao124 t535.length co124] 46 (0, 0)) (by (with_reducible repeat (first | refine blk_drewN ?_ _ | refine blk_drew ?_ | refine blk_alloc ?_ _)); exact BK539.out) hb); have n9_ := Aside0.mk (below_step (by repeat (first | (with_reducible first | exact HB.out | apply below_alloc | apply pw_below_drewN | apply below_drew1 | refine below_set ?_ GE488.out | refine below_set ?_ GE501.out | refine below_set ?_ GE507.out | refine below_set ?_ GE514.out | refine below_set ?_ GE539.out) | exact HB.out)) hb); clear HO_502002; clear HO_508002; clear HO_515002; clear HO_540002; clear BK488; clear BK501; clear BK507; clear BK514; clear BK539; clear HB; have HO_502002 := n0_; have HO_508002 := n1_; have HO_515002 := n2_; have HO_540002 := n3_; have BK488 := n4_; have BK501 := n5_; have BK507 := n6_; have BK514 := n7_; have BK539 := n8_; have HB := n9_; clear n0_ n1_ n2_ n3_ n4_ n5_ n6_ n7_ n8_ n9_; (try clear hb); (try clear hb2); (try clear hk); (try clear hi)))
                                go_ret
                                exact ⟨by first | rfl | (simp [errW_none, errW_some] <;> rfl) | (simp [*, errW_none, errW_some] <;> rfl), by repeat (first | (with_reducible first | exact HB.out | apply below_alloc | apply pw_below_drewN | apply below_drew1 | refine below_set ?_ GE488.out | refine below_set ?_ GE501.out | refine below_set ?_ GE507.out | refine below_set ?_ GE514.out | refine below_set ?_ GE539.out) | exact HB.out)⟩
                              · rw [if_neg c156] at H
                                have c156b0 : (t541 == t525) = false := beq_eq_false_iff_ne.mpr c156
                                have c156b1 : (t541 != t525) = true := bne_iff_ne.mpr c156
                                obtain rfl := Option.some.inj H
                                have hnb163 := NB514_488.out
                                have hnc163 := NB488_514.out
                                have hnb164 := NB514_501.out
                                have hnc164 := NB501_514.out
                                have hnb165 := NB514_507.out
                                have hnc165 := NB507_514.out
                                have hnb166 := NB514_539.out
                                have hnc166 := NB539_514.out
                                have hcz167_0 : wc.cell? ⟨gb514, 0, none⟩ = some (.int .i64 t508) := (blk_cell BK514.out 0).trans rfl
                                have hcz167_1 : wc.cell? ⟨gb514, 1, none⟩ = some (.int .i64 t509) := (blk_cell BK514.out 1).trans rfl
                                have hcz167_2 : wc.cell? ⟨gb514, 2, none⟩ = some (.slice Ao37 t526.length co37) := (blk_cell BK514.out 2).trans rfl
                                have hfz167_0 := blk_frozen BK514.out 0
                                have hfz167_1 := blk_frozen BK514.out 1
                                have hfz167_2 := blk_frozen BK514.out 2
                                go_wp2_with (first | ((with_reducible refine gate_callee (f := 36) rfl ?_); refine goesL_ (some 95) rfl rfl Try.func36 (by kernel_rfl) rfl #[.agg #[.int .i64 t508, .int .i64 t509, .slice Ao37 t526.length co37], .int .i64 1] rfl (by (try simp only [List.map_toArray, List.map_cons, List.map_nil]); first | done | rfl | (simp only [List.length_drop, List.length_take]; rfl)) ?_; (with_reducible refine (laws_heldPuzzle.calls kj103 t508 t509 _ _ t526 1 t541 _ ?side1 ?side2 A148.out).mono ?_); (case side1 => repeat (first | exact (Kd.R_reads' HO_515002.out).2.2 | (with_reducible refine Kd.C_alloc ?_ _) | (with_reducible refine Kd.C_drewN ?_ _) | (with_reducible refine Kd.C_drew ?_))); (case side2 => exact (Kd.R_reads' HO_515002.out).2.1); rintro e w168 ⟨rfl, hb⟩; refine ⟨_, rfl, ?_⟩; have n0_ := Aside0.mk (Kd.R_below (by (with_reducible repeat (first | apply Kd.R_alloc | apply Kd.R_drewN | apply Kd.R_drew)); exact HO_502002.out) hb); have n1_ := Aside0.mk (Kd.R_below (by (with_reducible repeat (first | apply Kd.R_alloc | apply Kd.R_drewN | apply Kd.R_drew)); exact HO_508002.out) hb); have n2_ := Aside0.mk (Kd.R_below (by (with_reducible repeat (first | apply Kd.R_alloc | apply Kd.R_drewN | apply Kd.R_drew)); exact HO_515002.out) hb); have n3_ := Aside0.mk (Kd.R_below (by (with_reducible repeat (first | apply Kd.R_alloc | apply Kd.R_drewN | apply Kd.R_drew)); exact HO_540002.out) hb); have n4_ := Aside0.mk (blk_below (g := gb488) (o := .cells #[.int .i64 a0_0, .int .i64 a0_1, .slice A0_2 l0_2.length c0_2] 41 (0, 0)) (by (with_reducible repeat (first | refine blk_drewN ?_ _ | refine blk_drew ?_ | refine blk_alloc ?_ _)); exact BK488.out) hb); have n5_ := Aside0.mk (blk_below (g := gb501) (o := .cells #[.int .i64 t495, .int .i64 t496, .slice Ao23 t497.length co23] 46 (0, 0)) (by (with_reducible repeat (first | refine blk_drewN ?_ _ | refine blk_drew ?_ | refine blk_alloc ?_ _)); exact BK501.out) hb); have n6_ := Aside0.mk (blk_below (g := gb507) (o := .cells #[.int .i64 t502, .int .i64 t503, .slice Ao30 t523.length co30] 46 (0, 0)) (by (with_reducible repeat (first | refine blk_drewN ?_ _ | refine blk_drew ?_ | refine blk_alloc ?_ _)); exact BK507.out) hb); have n7_ := Aside0.mk (blk_below (g := gb514) (o := .cells #[.int .i64 t508, .int .i64 t509, .slice Ao37 t526.length co37] 46 (0, 0)) (by (with_reducible repeat (first | refine blk_drewN ?_ _ | refine blk_drew ?_ | refine blk_alloc ?_ _)); exact BK514.out) hb); have n8_ := Aside0.mk (blk_below (g := gb539) (o := .cells #[.int .i64 t533, .int .i64 t534, .slice Ao124 t535.length co124] 46 (0, 0)) (by (with_reducible repeat (first | refine blk_drewN ?_ _ | refine blk_drew ?_ | refine blk_alloc ?_ _)); exact BK539.out) hb); have n9_ := Aside0.mk (below_step (by repeat (first | (with_reducible first | exact HB.out | apply below_alloc | apply pw_below_drewN | apply below_drew1 | refine below_set ?_ GE488.out | refine below_set ?_ GE501.out | refine below_set ?_ GE507.out | refine below_set ?_ GE514.out | refine below_set ?_ GE539.out) | exact HB.out)) hb); clear HO_502002; clear HO_508002; clear HO_515002; clear HO_540002; clear BK488; clear BK501; clear BK507; clear BK514; clear BK539; clear HB; have HO_502002 := n0_; have HO_508002 := n1_; have HO_515002 := n2_; have HO_540002 := n3_; have BK488 := n4_; have BK501 := n5_; have BK507 := n6_; have BK514 := n7_; have BK539 := n8_; have HB := n9_; clear n0_ n1_ n2_ n3_ n4_ n5_ n6_ n7_ n8_ n9_; (try clear hb); (try clear hb2); (try clear hk); (try clear hi)))
                                go_ret
                                exact ⟨by first | rfl | (simp [errW_none, errW_some] <;> rfl) | (simp [*, errW_none, errW_some] <;> rfl), by repeat (first | (with_reducible first | exact HB.out | apply below_alloc | apply pw_below_drewN | apply below_drew1 | refine below_set ?_ GE488.out | refine below_set ?_ GE501.out | refine below_set ?_ GE507.out | refine below_set ?_ GE514.out | refine below_set ?_ GE539.out) | exact HB.out)⟩
                    · rw [if_neg c101] at H
                      have c101b0 : (t527 == t525) = false := beq_eq_false_iff_ne.mpr c101
                      have c101b1 : (t527 != t525) = true := bne_iff_ne.mpr c101
                      obtain rfl := Option.some.inj H
                      have hnb169 := NB514_488.out
                      have hnc169 := NB488_514.out
                      have hnb170 := NB514_501.out
                      have hnc170 := NB501_514.out
                      have hnb171 := NB514_507.out
                      have hnc171 := NB507_514.out
                      have hcz172_0 : wc.cell? ⟨gb514, 0, none⟩ = some (.int .i64 t508) := (blk_cell BK514.out 0).trans rfl
                      have hcz172_1 : wc.cell? ⟨gb514, 1, none⟩ = some (.int .i64 t509) := (blk_cell BK514.out 1).trans rfl
                      have hcz172_2 : wc.cell? ⟨gb514, 2, none⟩ = some (.slice Ao37 t510.length co37) := (blk_cell BK514.out 2).trans rfl
                      have hfz172_0 := blk_frozen BK514.out 0
                      have hfz172_1 := blk_frozen BK514.out 1
                      have hfz172_2 := blk_frozen BK514.out 2
                      go_wp2_with (first | ((with_reducible refine gate_callee (f := 35) rfl ?_); refine goesL_ (some 68) rfl rfl Try.func35 (by kernel_rfl) rfl #[.agg #[.int .i64 t508, .int .i64 t509, .slice Ao37 t510.length co37], .int .i64 1] rfl (by (try simp only [List.map_toArray, List.map_cons, List.map_nil]); first | done | rfl | (simp only [List.length_drop, List.length_take]; rfl)) ?_; (with_reducible refine (laws_markPuzzle.calls kj60 t508 t509 (fun k_ => some k_ = (.slice Ao37 t510.length co37 : Value).ownBlock) (.slice Ao37 t510.length co37) t510 1 t525 t526 w _ ?side1 ?side2 A91.out).mono ?_); (case side1 => repeat (first | (with_reducible first | exact HB.out | apply below_alloc | apply pw_below_drewN | apply below_drew1 | refine below_set ?_ GE488.out | refine below_set ?_ GE501.out | refine below_set ?_ GE507.out | refine below_set ?_ GE514.out) | exact HB.out)); (case side2 => exact Kd.R_tight rfl HO_515002.out); rintro e w173 ⟨rfl, hy0, hb, hkp⟩; refine ⟨_, rfl, ?_⟩; have n0_ := Aside0.mk (Kd.R_mono (ok' := fun k_ => some k_ ≠ (.slice Ao30 t523.length co30 : Value).ownBlock ∧ some k_ ≠ (.slice Ao37 t510.length co37 : Value).ownBlock) (Kd.R_keptB (HO_502002.out) hkp (fun k_ hk_ hs_ => (hk_.2) hs_)) (fun k_ hk_ => ⟨hk_.1.1, hk_.1.2⟩)); have n1_ := Aside0.mk (Kd.R_mono (ok' := fun k_ => some k_ ≠ (.slice Ao23 t497.length co23 : Value).ownBlock ∧ some k_ ≠ (.slice Ao37 t510.length co37 : Value).ownBlock) (Kd.R_keptB (HO_508002.out) hkp (fun k_ hk_ hs_ => (hk_.2) hs_)) (fun k_ hk_ => ⟨hk_.1.1, hk_.1.2⟩)); have n2_ := Aside0.mk (Kd.R_reok rfl hy0 (fun k_ e_ => HO_515002.out.1 k_ e_)); have n3_ := Aside0.mk (blk_kept (by (with_reducible repeat (first | refine blk_drewN ?_ _ | refine blk_drew ?_ | refine blk_alloc ?_ _)); exact BK488.out) hkp (fun hs_ => (fun e_ => (Kd.R_ne HO_515002.out BK488.out (by decide)) e_) hs_)); have n4_ := Aside0.mk (blk_kept (by (with_reducible repeat (first | refine blk_drewN ?_ _ | refine blk_drew ?_ | refine blk_alloc ?_ _)); exact BK501.out) hkp (fun hs_ => (fun e_ => (Kd.R_ne HO_515002.out BK501.out (by decide)) e_) hs_)); have n5_ := Aside0.mk (blk_kept (by (with_reducible repeat (first | refine blk_drewN ?_ _ | refine blk_drew ?_ | refine blk_alloc ?_ _)); exact BK507.out) hkp (fun hs_ => (fun e_ => (Kd.R_ne HO_515002.out BK507.out (by decide)) e_) hs_)); have n6_ := Aside0.mk (blk_kept (by (with_reducible repeat (first | refine blk_drewN ?_ _ | refine blk_drew ?_ | refine blk_alloc ?_ _)); exact BK514.out) hkp (fun hs_ => (fun e_ => (Kd.R_ne HO_515002.out BK514.out (by decide)) e_) hs_)); have n7_ := Aside0.mk (hb); clear HO_502002; clear HO_508002; clear HO_515002; clear BK488; clear BK501; clear BK507; clear BK514; clear HB; have HO_502002 := n0_; have HO_508002 := n1_; have HO_515002 := n2_; have BK488 := n3_; have BK501 := n4_; have BK507 := n5_; have BK514 := n6_; have HB := n7_; clear n0_ n1_ n2_ n3_ n4_ n5_ n6_ n7_; (try clear hb); (try clear hkp); (try clear hy0); have hcz174_0 : w173.cell? ⟨gb514, 0, none⟩ = some (.int .i64 t508) := (blk_cell BK514.out 0).trans rfl; have hcz174_1 : w173.cell? ⟨gb514, 1, none⟩ = some (.int .i64 t509) := (blk_cell BK514.out 1).trans rfl; have hcz174_2 : w173.cell? ⟨gb514, 2, none⟩ = some (.slice Ao37 t510.length co37) := (blk_cell BK514.out 2).trans rfl; have hfz174_0 := blk_frozen BK514.out 0; have hfz174_1 := blk_frozen BK514.out 1; have hfz174_2 := blk_frozen BK514.out 2) | ((with_reducible refine gate_callee (f := 36) rfl ?_); refine goesL_ (some 71) rfl rfl Try.func36 (by kernel_rfl) rfl #[.agg #[.int .i64 t508, .int .i64 t509, .slice Ao37 t526.length co37], .int .i64 1] rfl (by (try simp only [List.map_toArray, List.map_cons, List.map_nil]); first | done | (rw [show t526.length = t510.length from (Kd.R_reads' HO_515002.out).1.symm] <;> rfl) | rfl | (simp only [List.length_drop, List.length_take]; rfl)) ?_; (with_reducible refine (laws_heldPuzzle.calls kj60 t508 t509 _ _ t526 1 t527 _ ?side1 ?side2 A92.out).mono ?_); (case side1 => repeat (first | exact (Kd.R_reads' HO_515002.out).2.2 | (with_reducible refine Kd.C_alloc ?_ _) | (with_reducible refine Kd.C_drewN ?_ _) | (with_reducible refine Kd.C_drew ?_))); (case side2 => rw [show t526.length = t510.length from (Kd.R_reads' HO_515002.out).1.symm]; exact (Kd.R_reads' HO_515002.out).2.1); rintro e w175 ⟨rfl, hb⟩; refine ⟨_, rfl, ?_⟩; have n0_ := Aside0.mk (Kd.R_below (by (with_reducible repeat (first | apply Kd.R_alloc | apply Kd.R_drewN | apply Kd.R_drew)); exact HO_502002.out) hb); have n1_ := Aside0.mk (Kd.R_below (by (with_reducible repeat (first | apply Kd.R_alloc | apply Kd.R_drewN | apply Kd.R_drew)); exact HO_508002.out) hb); have n2_ := Aside0.mk (Kd.R_below (by (with_reducible repeat (first | apply Kd.R_alloc | apply Kd.R_drewN | apply Kd.R_drew)); exact HO_515002.out) hb); have n3_ := Aside0.mk (blk_below (g := gb488) (o := .cells #[.int .i64 a0_0, .int .i64 a0_1, .slice A0_2 l0_2.length c0_2] 41 (0, 0)) (by (with_reducible repeat (first | refine blk_drewN ?_ _ | refine blk_drew ?_ | refine blk_alloc ?_ _)); exact BK488.out) hb); have n4_ := Aside0.mk (blk_below (g := gb501) (o := .cells #[.int .i64 t495, .int .i64 t496, .slice Ao23 t497.length co23] 46 (0, 0)) (by (with_reducible repeat (first | refine blk_drewN ?_ _ | refine blk_drew ?_ | refine blk_alloc ?_ _)); exact BK501.out) hb); have n5_ := Aside0.mk (blk_below (g := gb507) (o := .cells #[.int .i64 t502, .int .i64 t503, .slice Ao30 t523.length co30] 46 (0, 0)) (by (with_reducible repeat (first | refine blk_drewN ?_ _ | refine blk_drew ?_ | refine blk_alloc ?_ _)); exact BK507.out) hb); have n6_ := Aside0.mk (blk_below (g := gb514) (o := .cells #[.int .i64 t508, .int .i64 t509, .slice Ao37 t510.length co37] 46 (0, 0)) (by (with_reducible repeat (first | refine blk_drewN ?_ _ | refine blk_drew ?_ | refine blk_alloc ?_ _)); exact BK514.out) hb); have n7_ := Aside0.mk (below_step (by repeat (first | (with_reducible first | exact HB.out | apply below_alloc | apply pw_below_drewN | apply below_drew1 | refine below_set ?_ GE488.out | refine below_set ?_ GE501.out | refine below_set ?_ GE507.out | refine below_set ?_ GE514.out) | exact HB.out)) hb); clear HO_502002; clear HO_508002; clear HO_515002; clear BK488; clear BK501; clear BK507; clear BK514; clear HB; have HO_502002 := n0_; have HO_508002 := n1_; have HO_515002 := n2_; have BK488 := n3_; have BK501 := n4_; have BK507 := n5_; have BK514 := n6_; have HB := n7_; clear n0_ n1_ n2_ n3_ n4_ n5_ n6_ n7_; (try clear hb); (try clear hb2); (try clear hk); (try clear hi)))
                      go_ret
                      exact ⟨by first | rfl | (simp [errW_none, errW_some] <;> rfl) | (simp [*, errW_none, errW_some] <;> rfl), by repeat (first | (with_reducible first | exact HB.out | apply below_alloc | apply pw_below_drewN | apply below_drew1 | refine below_set ?_ GE488.out | refine below_set ?_ GE501.out | refine below_set ?_ GE507.out | refine below_set ?_ GE514.out) | exact HB.out)⟩
          · replace c59 := Bool.eq_false_iff.mpr c59
            subst c59
            have H1 : (some false) = some r := by rw [if_neg (show ¬ (false = true) by decide)] at H; exact H
            clear H
            have H := H1
            clear H1
            obtain rfl := Option.some.inj H
            try go_wp2
            have n0_ := Aside0.mk (Kd.R_drew HO_502002.out)
            have n1_ := Aside0.mk (Kd.R_drew HO_508002.out)
            have n2_ := Aside0.mk (Kd.R_drew HO_515002.out)
            have n3_ := Aside0.mk (blk_drew BK488.out)
            have n4_ := Aside0.mk (blk_drew BK501.out)
            have n5_ := Aside0.mk (blk_drew BK507.out)
            have n6_ := Aside0.mk (blk_drew BK514.out)
            have n7_ := Aside0.mk (below_drew1 HB.out)
            clear HO_502002
            clear HO_508002
            clear HO_515002
            clear BK488
            clear BK501
            clear BK507
            clear BK514
            clear HB
            have HO_502002 := n0_
            have HO_508002 := n1_
            have HO_515002 := n2_
            have BK488 := n3_
            have BK501 := n4_
            have BK507 := n5_
            have BK514 := n6_
            have HB := n7_
            clear n0_ n1_ n2_ n3_ n4_ n5_ n6_ n7_
            refine start_ (n := 5) (S := fun w' => w'.cell? ⟨gb507, 0, none⟩ = some (.int .i64 t502) ∧ w'.cell? ⟨gb507, 1, none⟩ = some (.int .i64 t503) ∧ w'.cell? ⟨gb507, 2, none⟩ = some (.slice Ao30 t504.length co30) ∧ w'.cell? ⟨gb488, 0, none⟩ = some (.int .i64 a0_0) ∧ w'.cell? ⟨gb488, 1, none⟩ = some (.int .i64 a0_1) ∧ w'.cell? ⟨gb488, 2, none⟩ = some (.slice A0_2 l0_2.length c0_2)) (ds := []) #[false, false, false, false, false] (by kernel_rfl) rfl rfl ⟨(blk_cell BK507.out 0).trans rfl, (blk_cell BK507.out 1).trans rfl, (blk_cell BK507.out 2).trans rfl, (blk_cell BK488.out 0).trans rfl, (blk_cell BK488.out 1).trans rfl, (blk_cell BK488.out 2).trans rfl⟩ (fun hHeld => ?_)
            generalize wc.drew = w176 at HO_502002 HO_508002 HO_515002 BK488 BK501 BK507 BK514 HB hHeld ⊢
            refine take_ (i := 0) (N := some 45) (v := ?_) (a' := ?_) #[true, false, false, false, false] rfl rfl (by kernel_rfl) (fun _ _ _ h => h) (Or.inl ⟨by rfl, ?_⟩) hHeld ?_ ?_
            rotate_left
            · rintro w' ⟨s0, s1, s2, s3, s4, s5⟩
              go_simp
              with_reducible rfl
            rotate_left
            · simp only [Act.put, List.setIfInBounds_toArray, List.set_cons_zero, List.set_cons_succ, i64_w, i32_w]
              rfl
            refine take_ (i := 1) (N := some 46) (v := ?_) (a' := ?_) #[true, true, false, false, false] rfl rfl (by kernel_rfl) (fun _ _ _ h => h) (Or.inl ⟨by rfl, ?_⟩) hHeld ?_ ?_
            rotate_left
            · rintro w' ⟨s0, s1, s2, s3, s4, s5⟩
              go_simp
              with_reducible rfl
            rotate_left
            · simp only [Act.put, List.setIfInBounds_toArray, List.set_cons_zero, List.set_cons_succ, i64_w, i32_w]
              rfl
            refine one_ (i := 2) (N := some 47) #[true, true, true, false, false] rfl rfl (by kernel_rfl) (by decide) (fun K hK => ?_)
            refine goes_ Try.func26 (by kernel_rfl) rfl #[.agg #[.int .i64 a0_0, .int .i64 a0_1, .slice A0_2 l0_2.length c0_2]] (by rfl) rfl rfl (by (try simp only [List.map_toArray, List.map_cons, List.map_nil]); first | done | rfl | (simp only [List.length_drop, List.length_take]; rfl)) ?_
            with_reducible refine (laws_toPuzzle.calls kj11 a0_0 a0_1 _ _ l0_2 t516 t517 t518 _ ?side1 ?side2 A57.out).mono ?_
            (case side1 => repeat (first | exact (Kd.C_below HR0_2.out HB.out) | (with_reducible refine Kd.C_alloc ?_ _) | (with_reducible refine Kd.C_drewN ?_ _) | (with_reducible refine Kd.C_drew ?_)))
            (case side2 => exact HC0_2.out)
            rintro e w177 ⟨v519, rfl, ho0, hb⟩
            refine ⟨_, rfl, ?_⟩
            have n0_ := Aside0.mk (Kd.R_elder' (by (with_reducible repeat (first | apply Kd.R_alloc | apply Kd.R_drewN | apply Kd.R_drew)); exact HO_502002.out) (Kd.R_base ho0) hb)
            have n1_ := Aside0.mk (Kd.R_elder' (by (with_reducible repeat (first | apply Kd.R_alloc | apply Kd.R_drewN | apply Kd.R_drew)); exact HO_508002.out) (Kd.R_base ho0) hb)
            have n2_ := Aside0.mk (Kd.R_elder' (by (with_reducible repeat (first | apply Kd.R_alloc | apply Kd.R_drewN | apply Kd.R_drew)); exact HO_515002.out) (Kd.R_base ho0) hb)
            have n3_ := Aside0.mk (Kd.R_lower (Kd.R_new' (Kd.R_new' (Kd.R_new' ho0 (Kd.R_lt (by (with_reducible repeat (first | apply Kd.R_alloc | apply Kd.R_drewN | apply Kd.R_drew)); exact HO_502002.out))) (Kd.R_lt (by (with_reducible repeat (first | apply Kd.R_alloc | apply Kd.R_drewN | apply Kd.R_drew)); exact HO_508002.out))) (Kd.R_lt (by (with_reducible repeat (first | apply Kd.R_alloc | apply Kd.R_drewN | apply Kd.R_drew)); exact HO_515002.out))) (below_size (by repeat (first | (with_reducible first | exact HB.out | apply below_alloc | apply pw_below_drewN | apply below_drew1 | refine below_set ?_ GE488.out | refine below_set ?_ GE501.out | refine below_set ?_ GE507.out | refine below_set ?_ GE514.out) | exact HB.out))))
            have n4_ := Aside0.mk (blk_below (g := gb488) (o := .cells #[.int .i64 a0_0, .int .i64 a0_1, .slice A0_2 l0_2.length c0_2] 41 (0, 0)) (by (with_reducible repeat (first | refine blk_drewN ?_ _ | refine blk_drew ?_ | refine blk_alloc ?_ _)); exact BK488.out) hb)
            have n5_ := Aside0.mk (blk_below (g := gb501) (o := .cells #[.int .i64 t495, .int .i64 t496, .slice Ao23 t497.length co23] 46 (0, 0)) (by (with_reducible repeat (first | refine blk_drewN ?_ _ | refine blk_drew ?_ | refine blk_alloc ?_ _)); exact BK501.out) hb)
            have n6_ := Aside0.mk (blk_below (g := gb507) (o := .cells #[.int .i64 t502, .int .i64 t503, .slice Ao30 t504.length co30] 46 (0, 0)) (by (with_reducible repeat (first | refine blk_drewN ?_ _ | refine blk_drew ?_ | refine blk_alloc ?_ _)); exact BK507.out) hb)
            have n7_ := Aside0.mk (blk_below (g := gb514) (o := .cells #[.int .i64 t508, .int .i64 t509, .slice Ao37 t510.length co37] 46 (0, 0)) (by (with_reducible repeat (first | refine blk_drewN ?_ _ | refine blk_drew ?_ | refine blk_alloc ?_ _)); exact BK514.out) hb)
            have n8_ := Aside0.mk (below_step (by repeat (first | (with_reducible first | exact HB.out | apply below_alloc | apply pw_below_drewN | apply below_drew1 | refine below_set ?_ GE488.out | refine below_set ?_ GE501.out | refine below_set ?_ GE507.out | refine below_set ?_ GE514.out) | exact HB.out)) hb)
            clear HO_502002
            clear HO_508002
            clear HO_515002
            clear BK488
            clear BK501
            clear BK507
            clear BK514
            clear HB
            have HO_502002 := n0_
            have HO_508002 := n1_
            have HO_515002 := n2_
            have HO520 := n3_
            have BK488 := n4_
            have BK501 := n5_
            have BK507 := n6_
            have BK514 := n7_
            have HB := n8_
            clear n0_ n1_ n2_ n3_ n4_ n5_ n6_ n7_ n8_
            (try clear hb)
            (try clear hb2)
            (try clear hk)
            (try clear hi)
            (try clear ho0)
            obtain ⟨Ao178, co178, eo178⟩ := Kd.R_slice HO520.out
            (first | subst eo178 | (injection eo178 with f1_ f2_ f3_; have f4_ := f1_.symm; have f5_ := f3_.symm; clear f1_ f2_ f3_; subst f4_; subst f5_))
            refine hK.out _ _ ⟨(blk_cell BK507.out 0).trans rfl, (blk_cell BK507.out 1).trans rfl, (blk_cell BK507.out 2).trans rfl, (blk_cell BK488.out 0).trans rfl, (blk_cell BK488.out 1).trans rfl, (blk_cell BK488.out 2).trans rfl⟩ (fun hHeld => ?_)
            clear hK K
            refine norm_ (a' := ?_) ?_ ?_
            rotate_left
            · show Act.put _ (some 47) _ = _
              simp only [Act.put, List.setIfInBounds_toArray, List.set_cons_zero, List.set_cons_succ, i64_w, i32_w]
              rfl
            refine one_ (i := 3) (N := some 48) #[true, true, true, true, false] rfl rfl (by kernel_rfl) (by decide) (fun K hK => ?_)
            refine goes_ Try.func28 (by kernel_rfl) rfl #[.agg #[.int .i64 t502, .int .i64 t503, .slice Ao30 t504.length co30], .agg #[.int .i64 t516, .int .i64 t517, .slice Ao178 t518.length co178]] (by rfl) rfl rfl (by (try simp only [List.map_toArray, List.map_cons, List.map_nil]); first | done | rfl | (simp only [List.length_drop, List.length_take]; rfl)) ?_
            with_reducible refine (laws_eqPuzzle.calls kj11 t502 t503 _ _ t504 t516 t517 _ _ t518 false _ ?side1 ?side2 ?side3 ?side4 A58.out).mono ?_
            (case side1 => repeat (first | exact (Kd.R_reads' HO_508002.out).2.2 | (with_reducible refine Kd.C_alloc ?_ _) | (with_reducible refine Kd.C_drewN ?_ _) | (with_reducible refine Kd.C_drew ?_)))
            (case side2 => exact (Kd.R_reads' HO_508002.out).2.1)
            (case side3 => repeat (first | exact (Kd.R_reads' HO520.out).2.2 | (with_reducible refine Kd.C_alloc ?_ _) | (with_reducible refine Kd.C_drewN ?_ _) | (with_reducible refine Kd.C_drew ?_)))
            (case side4 => exact (Kd.R_reads' HO520.out).2.1)
            rintro e w179 ⟨rfl, hb⟩
            refine ⟨_, rfl, ?_⟩
            have n0_ := Aside0.mk (Kd.R_below (by (with_reducible repeat (first | apply Kd.R_alloc | apply Kd.R_drewN | apply Kd.R_drew)); exact HO_502002.out) hb)
            have n1_ := Aside0.mk (Kd.R_below (by (with_reducible repeat (first | apply Kd.R_alloc | apply Kd.R_drewN | apply Kd.R_drew)); exact HO_508002.out) hb)
            have n2_ := Aside0.mk (Kd.R_below (by (with_reducible repeat (first | apply Kd.R_alloc | apply Kd.R_drewN | apply Kd.R_drew)); exact HO_515002.out) hb)
            have n3_ := Aside0.mk (Kd.R_below (by (with_reducible repeat (first | apply Kd.R_alloc | apply Kd.R_drewN | apply Kd.R_drew)); exact HO520.out) hb)
            have n4_ := Aside0.mk (blk_below (g := gb488) (o := .cells #[.int .i64 a0_0, .int .i64 a0_1, .slice A0_2 l0_2.length c0_2] 41 (0, 0)) (by (with_reducible repeat (first | refine blk_drewN ?_ _ | refine blk_drew ?_ | refine blk_alloc ?_ _)); exact BK488.out) hb)
            have n5_ := Aside0.mk (blk_below (g := gb501) (o := .cells #[.int .i64 t495, .int .i64 t496, .slice Ao23 t497.length co23] 46 (0, 0)) (by (with_reducible repeat (first | refine blk_drewN ?_ _ | refine blk_drew ?_ | refine blk_alloc ?_ _)); exact BK501.out) hb)
            have n6_ := Aside0.mk (blk_below (g := gb507) (o := .cells #[.int .i64 t502, .int .i64 t503, .slice Ao30 t504.length co30] 46 (0, 0)) (by (with_reducible repeat (first | refine blk_drewN ?_ _ | refine blk_drew ?_ | refine blk_alloc ?_ _)); exact BK507.out) hb)
            have n7_ := Aside0.mk (blk_below (g := gb514) (o := .cells #[.int .i64 t508, .int .i64 t509, .slice Ao37 t510.length co37] 46 (0, 0)) (by (with_reducible repeat (first | refine blk_drewN ?_ _ | refine blk_drew ?_ | refine blk_alloc ?_ _)); exact BK514.out) hb)
            have n8_ := Aside0.mk (below_step (by repeat (first | (with_reducible first | exact HB.out | apply below_alloc | apply pw_below_drewN | apply below_drew1 | refine below_set ?_ GE488.out | refine below_set ?_ GE501.out | refine below_set ?_ GE507.out | refine below_set ?_ GE514.out) | exact HB.out)) hb)
            clear HO_502002
            clear HO_508002
            clear HO_515002
            clear HO520
            clear BK488
            clear BK501
            clear BK507
            clear BK514
            clear HB
            have HO_502002 := n0_
            have HO_508002 := n1_
            have HO_515002 := n2_
            have HO520 := n3_
            have BK488 := n4_
            have BK501 := n5_
            have BK507 := n6_
            have BK514 := n7_
            have HB := n8_
            clear n0_ n1_ n2_ n3_ n4_ n5_ n6_ n7_ n8_
            (try clear hb)
            (try clear hb2)
            (try clear hk)
            (try clear hi)
            refine hK.out _ _ ⟨(blk_cell BK507.out 0).trans rfl, (blk_cell BK507.out 1).trans rfl, (blk_cell BK507.out 2).trans rfl, (blk_cell BK488.out 0).trans rfl, (blk_cell BK488.out 1).trans rfl, (blk_cell BK488.out 2).trans rfl⟩ (fun hHeld => ?_)
            clear hK K
            refine norm_ (a' := ?_) ?_ ?_
            rotate_left
            · show Act.put _ (some 48) _ = _
              simp only [Act.put, List.setIfInBounds_toArray, List.set_cons_zero, List.set_cons_succ, i64_w, i32_w]
              rfl
            refine pure_ (i := 4) (N := some 49) (v := ?_) (a' := ?_) #[true, true, true, true, true] rfl rfl (by kernel_rfl) (fun _ _ _ h => h) (Or.inl ⟨by rfl, ?_⟩) ?_ ?_
            rotate_left
            · intro w'
              go_simp
              with_reducible rfl
            rotate_left
            · simp only [Act.put, List.setIfInBounds_toArray, List.set_cons_zero, List.set_cons_succ, i64_w, i32_w]
              rfl
            refine done_ (by kernel_rfl) ?_
            try go_wp2
            go_ret
            exact ⟨by first | rfl | (simp [errW_none, errW_some] <;> rfl) | (simp [*, errW_none, errW_some] <;> rfl), by repeat (first | (with_reducible first | exact HB.out | apply below_alloc | apply pw_below_drewN | apply below_drew1 | refine below_set ?_ GE488.out | refine below_set ?_ GE501.out | refine below_set ?_ GE507.out | refine below_set ?_ GE514.out) | exact HB.out)⟩
end Go.Proofs.Ytjjcppkehldmoaa.P

namespace Go.Proofs.Ytjjcppkehldmoaa.P
open Go.RowKit Go.Proofs.YtjjcppkehldmoaaW.PrintWords Go.Proofs.YtjjcppkehldmoaaW.PrintLast Go.Proofs.YtjjcppkehldmoaaW.PrintMore
attribute [local go_sem] max2_int min2_int max_two min_two max_three min_three max_four min_four   -- for this text's walks alone
set_option linter.unusedVariables false
set_option linter.unusedSimpArgs false

/-! What a readable argument holds, told by kinds: the bridge from a statement's reading to the print's words. -/
open Go.WideShapes in
def Opens {α : Type} (P : Program) (t : TypeId) (d : Kd α) (V : α → Prop) : Prop :=
  ∀ (H : Type) (enc : TypeId × Value → H) (w : World) (base : Nat) (spare : Nat → Bool) (held : Bool) (fuel : Nat) (cs : List Value) (x : DataW H × List MemPlace),
    DataW.trod enc P w base spare held fuel t cs = some x → ∃ a : α, d.K w a cs ∧ V a
def IntV (a : Int) : Prop := -9223372036854775808 ≤ a ∧ a ≤ 9223372036854775807
def StrV (s : ByteArray) : Prop := s.size ≤ 9223372036854775807
def ListV {α : Type} (V : α → Prop) (l : List α) : Prop := l.length ≤ 9223372036854775807 ∧ ∀ x ∈ l, V x
theorem opens_int {P : Program} {t : TypeId} (ht : P.underlying t = some (.int .i64)) : Opens P t (Kd.int .i64) IntV := by
  intro H enc w base spare held fuel cs x h
  obtain ⟨n, rfl, _, hw⟩ := DataW.trod_int ht h
  refine ⟨n, rfl, ?_⟩
  have hb : (IntKind.i64.min ≤ n ∧ n ≤ IntKind.i64.max) := by simpa [Lit.wf] using hw
  have e1 : IntKind.i64.min = -9223372036854775808 := rfl
  have e2 : IntKind.i64.max = 9223372036854775807 := rfl
  rw [e1, e2] at hb
  unfold IntV
  omega
theorem opens_bool {P : Program} {t : TypeId} (ht : P.underlying t = some .bool) : Opens P t Kd.bool (fun _ => True) := by
  intro H enc w base spare held fuel cs x h
  obtain ⟨n, rfl, _⟩ := DataW.trod_bool ht h
  exact ⟨n, rfl, trivial⟩
theorem opens_string {P : Program} {t : TypeId} (ht : P.underlying t = some .string) : Opens P t Kd.string StrV := by
  intro H enc w base spare held fuel cs x h
  obtain ⟨n, rfl, _, hw⟩ := DataW.trod_string ht h
  unfold maxLen at hw
  exact ⟨n, rfl, hw⟩
theorem cells_list {w : World} {base : Nat} {a : Addr} {n : Nat} {cs : List Value} (h : w.cells? base a n = some cs) : cs.length = n ∧ ∀ i u, cs[i]? = some u → w.cell? (a.add i) = some u := by
  unfold World.cells? at h
  split at h
  · have hl := mapM_some_length h
    refine ⟨by simpa using hl, fun i u hu => ?_⟩
    have hi : i < n := by
      have := (List.getElem?_eq_some_iff.1 hu).1
      rw [hl] at this; simpa using this
    have := mapM_some_get h i i (by simp [hi])
    rw [hu] at this
    exact this
  · cases h
theorem opens_slice {α : Type} {P : Program} {t e : TypeId} {d : Kd α} {V : α → Prop} (ht : P.underlying t = some (.slice e)) (hd : Opens P e d V) (hsz : P.cellsOf e = d.sz) : Opens P t (Kd.slice e d) (ListV V) := by
  intro H enc w base spare held fuel cs x h
  rcases Go.Deep.open_slice ht h with ⟨rfl, _⟩ | ⟨a, len, cap, m, n, D, Pl, rfl, _, hl, hm, hmm, _, hel⟩
  · exact ⟨[], ⟨none, 0, rfl, Nat.le_refl _, ⟨rfl, by simp, fun h0 => absurd h0 (by simp)⟩⟩, ⟨by simp, fun x hx => by simp at hx⟩⟩
  · have hle : len ≤ m := by rw [hmm]; split <;> omega
    have each : ∀ i : Nat, ∃ a' : Option α, i < len → ∃ z cs', a' = some z ∧ V z ∧ d.K w z cs' ∧ ∀ j u, cs'[j]? = some u → w.cell? (a.add (i * d.sz + j)) = some u := by
      intro i
      by_cases hi : i < len
      · obtain ⟨cs', h1, h2⟩ := hel i (by omega)
        obtain ⟨z, hK, hV⟩ := hd H enc w base spare held n cs' _ h2
        refine ⟨some z, fun _ => ⟨z, cs', rfl, hV, hK, fun j u hu => ?_⟩⟩
        obtain ⟨_, hc⟩ := cells_list h1
        have := hc j u hu
        rw [Go.Deep.add_add, hsz] at this
        exact this
      · exact ⟨none, fun h0 => absurd h0 hi⟩
    have ⟨f, hf⟩ := Classical.axiomOfChoice each
    have hz : ∀ i, i < len → ∃ z, f i = some z ∧ V z ∧ ∃ cs', d.K w z cs' ∧ ∀ j u, cs'[j]? = some u → w.cell? (a.add (i * d.sz + j)) = some u := by
      intro i hi
      obtain ⟨z, cs', h1, h2, h3, h4⟩ := hf i hi
      exact ⟨z, h1, h2, cs', h3, h4⟩
    have hlist : ∃ l : List α, l.length = len ∧ ∀ i, i < len → f i = l[i]? := by
      clear hf each hel hmm hle
      have : ∀ n, n ≤ len → ∃ l : List α, l.length = n ∧ ∀ i, i < n → f i = l[i]? := by
        intro n
        induction n with
        | zero => intro _; exact ⟨[], rfl, fun i hi => by omega⟩
        | succ n ih =>
          intro hn
          obtain ⟨l, hl1, hl2⟩ := ih (by omega)
          obtain ⟨z, h1, _⟩ := hz n (by omega)
          refine ⟨l ++ [z], by simp [hl1], fun i hi => ?_⟩
          by_cases e : i < n
          · rw [List.getElem?_append_left (by omega)]; exact hl2 i e
          · obtain rfl : i = n := by omega
            rw [h1, ← hl1]; simp
      exact this len (Nat.le_refl _)
    obtain ⟨l, hlen, hget⟩ := hlist
    have hV : ∀ x ∈ l, V x := by
      intro x hx
      obtain ⟨i, hi, rfl⟩ := List.getElem_of_mem hx
      obtain ⟨z, h1, h2, _⟩ := hz i (by omega)
      have h3 := hget i (by omega)
      rw [h1, List.getElem?_eq_getElem hi] at h3
      injection h3 with h3
      rw [← h3]; exact h2
    unfold maxLen at hm
    subst hlen
    refine ⟨l, ⟨some a, cap, rfl, hl, ⟨rfl, by omega, fun _ => ⟨a, rfl, fun j p hp => ?_⟩⟩⟩, ⟨by omega, hV⟩⟩
    have hj : j < l.length := (List.getElem?_eq_some_iff.1 hp).1
    obtain ⟨z, h1, _, cs', h3, h4⟩ := hz j hj
    have h5 := hget j hj
    rw [h1, hp] at h5
    injection h5 with h5
    subst h5
    exact ⟨cs', d.K_len h3, h3, h4⟩
theorem opens_pair {α β : Type} {P : Program} {t : TypeId} {f0 f1 : Field} {d0 : Kd α} {d1 : Kd β} {V0 : α → Prop} {V1 : β → Prop} (ht : P.underlying t = some (.struct #[f0, f1]))
    (h0 : Opens P f0.type d0 V0) (h1 : Opens P f1.type d1 V1) (o0 : f0.offset = 0) (o1 : f1.offset = d0.sz) (z0 : P.cellsOf f0.type = d0.sz) (z1 : P.cellsOf f1.type = d1.sz) (zt : P.cellsOf t = d0.sz + d1.sz) :
    Opens P t (Kd.pair d0 d1) (fun x => V0 x.1 ∧ V1 x.2) := by
  intro H enc w base spare held fuel cs x h
  obtain ⟨y0, y1, n, _, hl, g0, g1⟩ := ChangeShapes.trod_struct2 ht h
  rw [o0, z0, List.drop_zero] at g0
  rw [o1, z1] at g1
  obtain ⟨a, ka, va⟩ := h0 H enc w base spare held n _ _ g0
  obtain ⟨b, kb, vb⟩ := h1 H enc w base spare held n _ _ g1
  refine ⟨(a, b), ⟨_, _, ?_, ka, kb⟩, va, vb⟩
  rw [List.take_of_length_le (l := cs.drop d0.sz) (by rw [List.length_drop, hl, zt]; omega), List.take_append_drop]
theorem opens_trip {α β γ : Type} {P : Program} {t : TypeId} {f0 f1 f2 : Field} {d0 : Kd α} {d1 : Kd β} {d2 : Kd γ} {V0 : α → Prop} {V1 : β → Prop} {V2 : γ → Prop} (ht : P.underlying t = some (.struct #[f0, f1, f2]))
    (h0 : Opens P f0.type d0 V0) (h1 : Opens P f1.type d1 V1) (h2 : Opens P f2.type d2 V2) (o0 : f0.offset = 0) (o1 : f1.offset = d0.sz) (o2 : f2.offset = d0.sz + d1.sz)
    (z0 : P.cellsOf f0.type = d0.sz) (z1 : P.cellsOf f1.type = d1.sz) (z2 : P.cellsOf f2.type = d2.sz) (zt : P.cellsOf t = d0.sz + d1.sz + d2.sz) :
    Opens P t (Kd.pair d0 (Kd.pair d1 d2)) (fun x => V0 x.1 ∧ V1 x.2.1 ∧ V2 x.2.2) := by
  intro H enc w base spare held fuel cs x h
  obtain ⟨xs, n, _, _, hl, hxl, hf⟩ := DataW.trod_struct ht h
  match xs, hxl with
  | [y0, y1, y2], _ =>
    have g0 := hf 0 f0 rfl
    have g1 := hf 1 f1 rfl
    have g2 := hf 2 f2 rfl
    rw [o0, z0, List.drop_zero] at g0
    rw [o1, z1] at g1
    rw [o2, z2] at g2
    obtain ⟨a, ka, va⟩ := h0 H enc w base spare held n _ _ g0
    obtain ⟨b, kb, vb⟩ := h1 H enc w base spare held n _ _ g1
    obtain ⟨c, kc, vc⟩ := h2 H enc w base spare held n _ _ g2
    refine ⟨(a, b, c), ⟨_, _, ?_, ka, ⟨_, _, rfl, kb, kc⟩⟩, va, vb, vc⟩
    rw [List.take_of_length_le (l := cs.drop (d0.sz + d1.sz)) (by rw [List.length_drop, hl, zt]; omega)]
    rw [← List.drop_drop, List.take_append_drop, List.take_append_drop]
theorem opens_iso {α β : Type} {P : Program} {t : TypeId} {d : Kd α} {V : α → Prop} (h : Opens P t d V) (f : β → α) (g : α → β) (e : ∀ a, f (g a) = a) : Opens P t (Kd.iso d f) (fun x => V (f x)) := by
  intro H enc w base spare held fuel cs x hx
  obtain ⟨a, ka, va⟩ := h H enc w base spare held fuel cs x hx
  exact ⟨g a, by show d.K w (f (g a)) cs; rw [e]; exact ka, by show V (f (g a)); rw [e]; exact va⟩
theorem opens_mono {α : Type} {P : Program} {t : TypeId} {d : Kd α} {V V' : α → Prop} (h : Opens P t d V) (hv : ∀ a, V a → V' a) : Opens P t d V' := by
  intro H enc w base spare held fuel cs x hx
  obtain ⟨a, ka, va⟩ := h H enc w base spare held fuel cs x hx
  exact ⟨a, ka, hv a va⟩
section
variable {H : Type} {enc : TypeId × Value → H} {P : Program} {w : World} {base : Nat} {spare : Nat → Bool} {held : Bool} {r : Reach} {b0 : Nat} {t : TypeId} {v : Value} {x : DataW H} {p : List MemPlace}
theorem arg_struct {α : Type} {d : Kd α} {V : α → Prop} (ho : Opens P t d V) {fs : Array Field} (hs : P.underlying t = some (.struct fs)) (hv : Value.okWide P w r b0 t v) (h : DataW.Trod enc P w base spare held t v x p) :
    ∃ a cs, v = .agg (List.toArray cs) ∧ d.K w a cs ∧ V a := by
  obtain ⟨cs, rfl, _⟩ := WideShapes.okWide_struct hs hv
  obtain ⟨fuel, hf⟩ := h
  obtain ⟨a, hk, hV⟩ := ho H enc w base spare held fuel _ _ hf
  exact ⟨a, cs.toList, by simp, by simpa [Value.cells] using hk, hV⟩
theorem arg_slice {α : Type} {d : Kd α} {e : TypeId} {V : List α → Prop} (ho : Opens P t (Kd.slice e d) V) (ht : P.underlying t = some (.slice e)) (hv : Value.okWide P w r b0 t v) (h : DataW.Trod enc P w base spare held t v x p) :
    ∃ A l c, v = .slice A (List.length l) c ∧ l.length ≤ c ∧ d.C w A l.length l ∧ V l := by
  obtain ⟨a, len, cap, rfl⟩ := WideShapes.okWide_slice ht hv
  obtain ⟨fuel, hf⟩ := h
  obtain ⟨l, ⟨A, c, hc, hl, hC⟩, hV⟩ := ho H enc w base spare held fuel _ _ hf
  simp only [Value.cells, List.cons.injEq, and_true] at hc
  injection hc with e1 e2 e3
  subst e1 e2 e3
  exact ⟨_, l, _, rfl, hl, hC, hV⟩
theorem arg_int (ht : P.underlying t = some (.int .i64)) (hv : Value.okWide P w r b0 t v) (h : DataW.Trod enc P w base spare held t v x p) : ∃ a, v = .int .i64 a ∧ IntV a := by
  obtain ⟨a, rfl, _, _, hw⟩ := ChangeShapes.open_int ht hv h
  have hb : (IntKind.i64.min ≤ a ∧ a ≤ IntKind.i64.max) := by simpa [Lit.wf] using hw
  exact ⟨a, rfl, hb.1, hb.2⟩
theorem arg_bool (ht : P.underlying t = some .bool) (hv : Value.okWide P w r b0 t v) (h : DataW.Trod enc P w base spare held t v x p) : ∃ a, v = .bool a := by
  obtain ⟨a, rfl, _, _⟩ := RowKit.open_bool ht hv h
  exact ⟨a, rfl⟩
theorem arg_string (ht : P.underlying t = some .string) (hv : Value.okWide P w r b0 t v) (h : DataW.Trod enc P w base spare held t v x p) : ∃ a, v = .string a ∧ StrV a := by
  obtain ⟨a, rfl, _, _, hw⟩ := ChangeMaps.open_string ht hv h
  unfold maxLen at hw
  exact ⟨a, rfl, hw⟩
theorem arg_lt (h : DataW.Trod enc P w base spare held t v x p) : ∀ y ∈ p, y.block < w.heap.size := by
  obtain ⟨m, hm⟩ := h
  exact DataW.trod_lt m _ _ _ hm
end
end Go.Proofs.Ytjjcppkehldmoaa.P

namespace Go.Proofs.Ytjjcppkehldmoaa.P
open Go.RowKit Go.Proofs.YtjjcppkehldmoaaW.PrintWords Go.Proofs.YtjjcppkehldmoaaW.PrintLast Go.Proofs.YtjjcppkehldmoaaW.PrintMore
attribute [local go_sem] max2_int min2_int max_two min_two max_three min_three max_four min_four   -- for this text's walks alone
set_option linter.unusedVariables false
set_option linter.unusedSimpArgs false

/-! Plain laws on lists: filling one in place, reading. -/
theorem fill_step {α β : Type} (f : α → β) (l : List α) (z : β) (i : Nat) (hi : i < l.length) :
    ((l.take i).map f ++ List.replicate (l.length - i) z).set i (f l[i]) = (l.take (i + 1)).map f ++ List.replicate (l.length - (i + 1)) z := by
  have h1 : ((l.take i).map f).length = i := by rw [List.length_map, List.length_take]; omega
  rw [List.set_append_right _ _ (by omega), h1, Nat.sub_self]
  obtain ⟨m, hm⟩ : ∃ m, l.length - i = m + 1 := ⟨l.length - i - 1, by omega⟩
  rw [hm, List.replicate_succ, List.set_cons_zero, show l.length - (i + 1) = m by omega, List.take_succ_eq_append_getElem hi, List.map_append]
  simp
theorem fill_done {α β : Type} (f : α → β) (l : List α) (z : β) : (l.take l.length).map f ++ List.replicate (l.length - l.length) z = l.map f := by simp
theorem rd_at {xs : List Int} {i : Int} (h : i.toNat < xs.length) : rd xs i = xs[i.toNat] := by unfold rd; simp [List.getD, h]
theorem rdOf_at {α : Type} {d : α} {xs : List α} {i : Int} (h : i.toNat < xs.length) : rdOf d xs i = xs[i.toNat] := by unfold rdOf; simp [List.getD, h]
theorem getD_at {α : Type} {d : α} {xs : List α} {i : Nat} (h : i < xs.length) : xs.getD i d = xs[i] := by simp [List.getD, h]
theorem toNat_succ {i : Int} (h : 0 ≤ i) : (i + 1).toNat = i.toNat + 1 := by omega
end Go.Proofs.Ytjjcppkehldmoaa.P

namespace Go.Proofs.Ytjjcppkehldmoaa.P
open Go.RowKit Go.Proofs.YtjjcppkehldmoaaW.PrintWords Go.Proofs.YtjjcppkehldmoaaW.PrintLast Go.Proofs.YtjjcppkehldmoaaW.PrintMore
attribute [local go_sem] max2_int min2_int max_two min_two max_three min_three max_four min_four   -- for this text's walks alone
set_option linter.unusedVariables false
set_option linter.unusedSimpArgs false

/-! spec's functions on locks and clues: what they come to. -/
theorem spec_l1In.is (a b c : Int) : spec_l1In.f a b c = some (decide (b ≤ a ∧ a ≤ c)) := by
  unfold spec_l1In.f
  by_cases h : a ≥ b
  · rw [if_pos h]; have h' : b ≤ a := h; congr 1; simp [h']
  · rw [if_neg h]; have h' : ¬ b ≤ a := h; congr 1; simp [h']
theorem spec_whGood.is (w d : Int) : spec_whGood.f w d = some (lockB w d) := by
  unfold spec_whGood.f lockB
  simp only [spec_l1In.is, Option.bind_some]
  by_cases h : 1 ≤ w ∧ w ≤ 6 <;> simp [h]
theorem spec_whCount.lev (w d : Int) (h1 : 1 ≤ d) (h2 : d ≤ 10) (hn : w ≤ 6) : ∀ (j : Nat) (i : Int), 0 ≤ i → i ≤ w → i = j → Ev (fun k => spec_whCount.l0 k (d ^ (w - i).toNat) i w d) (d ^ w.toNat) := by
  intro j
  induction j with
  | zero =>
    intro i h0 hi hj
    obtain rfl : i = 0 := by omega
    exact Ev.step (fun k => rfl) (Ev.no (by omega) (Ev.id (by simp)))
  | succ j ih =>
    intro i h0 hi hj
    refine Ev.step (fun k => rfl) (Ev.yes (by omega) ?_)
    have hb := pow_bound h1 h2 (n := (w - i).toNat) (by omega)
    have hm : d ^ (w - i).toNat * d = d ^ (w - (i - 1)).toNat := by rw [show (w - (i - 1)).toNat = (w - i).toNat + 1 by omega, Int.pow_succ]
    have hb' := pow_bound h1 h2 (n := (w - (i - 1)).toNat) (by omega)
    rw [w64 (x := i - 1) (by omega) (by omega), hm, w64 (x := d ^ (w - (i - 1)).toNat) (by omega) (by omega)]
    exact ih (i - 1) (by omega) (by omega) (by omega)
theorem spec_whCount.ev {w d : Int} (h : lockB w d = true) : Ev (fun k => spec_whCount.f k w d) (d ^ w.toNat) := by
  obtain ⟨a, b, c, e⟩ := lockB_iff.mp h
  have := spec_whCount.lev w d (by omega) e b w.toNat w (by omega) (by omega) (by omega)
  unfold spec_whCount.f
  simpa using this
theorem spec_hiLock.ev (w d m : Int) : Ev (fun k => spec_hiLock.f k w d m) (smallB w d m) := by
  unfold spec_hiLock.f smallB
  refine Ev.bindc (spec_whGood.is w d) ?_
  cases h : lockB w d with
  | true => exact Ev.yes rfl (Ev.bind (spec_whCount.ev h) (Ev.id (by simp)))
  | false => exact Ev.no (by simp) (Ev.id (by simp))
end Go.Proofs.Ytjjcppkehldmoaa.P

namespace Go.Proofs.Ytjjcppkehldmoaa.P
open Go.RowKit Go.Proofs.YtjjcppkehldmoaaW.PrintWords Go.Proofs.YtjjcppkehldmoaaW.PrintLast Go.Proofs.YtjjcppkehldmoaaW.PrintMore
attribute [local go_sem] max2_int min2_int max_two min_two max_three min_three max_four min_four
set_option linter.unusedVariables false
set_option linter.unusedSimpArgs false
/-! ### spec_IsClue: function 15 -/
def spec_IsClue.f (k : Nat) (a0_0 : Int) (a0_1 : Int) (a1_0 : Int) (a1_1 : Int) (a1_2 : Int) : Option (Bool) := (spec_pzLock.f k a0_0 a0_1).bind fun t125 => (if t125 = true then ((spec_pzClue.f k a0_0 a0_1 a1_0 a1_1 a1_2).bind fun t126 => (some t126)) else (some false))
theorem spec_IsClue.mono : ∀ a0 a1 a2 a3 a4 k, LeO (spec_IsClue.f k a0 a1 a2 a3 a4) (spec_IsClue.f (k + 1) a0 a1 a2 a3 a4) := by
  intro a0 a1 a2 a3 a4 k
  unfold spec_IsClue.f
  repeat' first
      | (with_reducible exact spec_pzClue.mono _ _ _ _ _ _)
      | (with_reducible exact spec_pzLock.mono _ _ _)
      | (with_reducible exact LeO.refl _)
      | (with_reducible exact LeO.none _)
      | (with_reducible refine LeO.ite ?_ ?_)
      | (with_reducible refine LeO.bind ?_ (fun _ => ?_))
      | exact spec_pzClue.mono _ _ _ _ _ _
      | exact spec_pzLock.mono _ _ _
      | exact LeO.none _
      | refine LeO.ite ?_ ?_
      | refine LeO.bind ?_ (fun _ => ?_)
set_option maxHeartbeats 8000000 in
set_option maxRecDepth 100000 in
theorem spec_IsClue.calls (k : Nat) (a0_0 : Int) (a0_1 : Int) (a1_0 : Int) (a1_1 : Int) (a1_2 : Int) (r : Bool) (w : World) (h : spec_IsClue.f k a0_0 a0_1 a1_0 a1_1 a1_2 = some r) :
    Calls Try.prog 15 #[.agg #[.int .i64 a0_0, .int .i64 a0_1], .agg #[.int .i64 a1_0, .int .i64 a1_1, .int .i64 a1_2]] w fun e w' => e = .returned (.bool r) ∧ Below w.heap.size w w' := by
  have hu27 := Try.underlying27
  have hu29 := Try.underlying29
  have HB := Aside0.mk (Below.refl w.heap.size w)
  have H : ((spec_pzLock.f k a0_0 a0_1).bind fun t125 => (if t125 = true then ((spec_pzClue.f k a0_0 a0_1 a1_0 a1_1 a1_2).bind fun t126 => (some t126)) else (some false))) = some r := h
  clear h
  replace H := Option.bind_eq_some_iff.mp H
  obtain ⟨t125, A30, H⟩ := H
  replace H : (if t125 = true then ((spec_pzClue.f k a0_0 a0_1 a1_0 a1_1 a1_2).bind fun t126 => (some t126)) else (some false)) = some r := H
  have A3 := Aside0.mk A30
  clear A30
  by_cases c4 : t125 = true
  · subst c4
    have H1 : ((spec_pzClue.f k a0_0 a0_1 a1_0 a1_1 a1_2).bind fun t126 => (some t126)) = some r := by rw [if_pos rfl] at H; exact H
    clear H
    have H := H1
    clear H1
    replace H := Option.bind_eq_some_iff.mp H
    obtain ⟨t126, A50, H⟩ := H
    replace H : (some t126) = some r := H
    have A5 := Aside0.mk A50
    clear A50
    obtain rfl := Option.some.inj H
    go_enter Try.func15, Try.ntmps15
    go_wp2_with (first | ((with_reducible refine gate_dst (N := 2) rfl ?_); refine box_event ?hg (N := 2) ?hd (cs := #[.int .i64 a0_0, .int .i64 a0_1]) (t := 27) ?hr ?_; (case hd => rfl); (case hg => rfl); (case hr => first | (go_simp; done) | (go_simp; rfl)); intro gb123 hg w6 hbox hb; have n0_ := Aside0.mk (below_step (by repeat (first | (with_reducible first | exact HB.out | apply below_alloc | apply pw_below_drewN | apply below_drew1) | exact HB.out)) hb); have n1_ := Aside0.mk (hbox); have n2_ := Aside0.mk ((by rw [hg]; exact (below_size (by repeat (first | (with_reducible first | exact HB.out | apply below_alloc | apply pw_below_drewN | apply below_drew1) | exact HB.out))) : w.heap.size ≤ gb123)); have n3_ := Aside0.mk ((by rw [hg]; exact (below_size (by repeat (first | (with_reducible first | exact HB.out | apply below_alloc | apply pw_below_drewN | apply below_drew1) | exact HB.out))) : w.heap.size ≤ gb123)); clear HB; have HB := n0_; have BK123 := n1_; have GW123 := n2_; have GE123 := n3_; clear n0_ n1_ n2_ n3_; clear hb hbox hg) | ((with_reducible refine gate_dst (N := 3) rfl ?_); refine box_event ?hg (N := 3) ?hd (cs := #[.int .i64 a1_0, .int .i64 a1_1, .int .i64 a1_2]) (t := 29) ?hr ?_; (case hd => rfl); (case hg => rfl); (case hr => first | (go_simp; done) | (go_simp; rfl)); intro gb124 hg w7 hbox hb; have n0_ := Aside0.mk (blk_below (g := gb123) (o := .cells #[.int .i64 a0_0, .int .i64 a0_1] 27 (0, 0)) (by (with_reducible repeat (first | refine blk_drewN ?_ _ | refine blk_drew ?_ | refine blk_alloc ?_ _)); exact BK123.out) hb); have n1_ := Aside0.mk (below_step (by repeat (first | (with_reducible first | exact HB.out | apply below_alloc | apply pw_below_drewN | apply below_drew1 | refine below_set ?_ GE123.out) | exact HB.out)) hb); have n2_ := Aside0.mk (hbox); have n3_ := Aside0.mk ((by rw [hg]; exact (below_size (by repeat (first | (with_reducible first | exact HB.out | apply below_alloc | apply pw_below_drewN | apply below_drew1 | refine below_set ?_ GE123.out) | exact HB.out))) : w.heap.size ≤ gb124)); have n4_ := Aside0.mk ((by rw [hg]; exact (below_size (by repeat (first | (with_reducible first | exact HB.out | apply below_alloc | apply pw_below_drewN | apply below_drew1 | refine below_set ?_ GE123.out) | exact HB.out))) : w.heap.size ≤ gb124)); have n5_ := Aside0.mk ((by rw [hg]; exact Nat.ne_of_lt (blk_lt (g := gb123) (o := .cells #[.int .i64 a0_0, .int .i64 a0_1] 27 (0, 0)) (by (with_reducible repeat (first | refine blk_drewN ?_ _ | refine blk_drew ?_ | refine blk_alloc ?_ _)); exact BK123.out)) : gb123 ≠ gb124)); have n6_ := Aside0.mk ((by rw [hg]; exact Nat.ne_of_gt (blk_lt (g := gb123) (o := .cells #[.int .i64 a0_0, .int .i64 a0_1] 27 (0, 0)) (by (with_reducible repeat (first | refine blk_drewN ?_ _ | refine blk_drew ?_ | refine blk_alloc ?_ _)); exact BK123.out)) : gb124 ≠ gb123)); clear BK123; clear HB; have BK123 := n0_; have HB := n1_; have BK124 := n2_; have GW124 := n3_; have GE124 := n4_; have NB123_124 := n5_; have NB124_123 := n6_; clear n0_ n1_ n2_ n3_ n4_ n5_ n6_; clear hb hbox hg; have hnb8 := NB123_124.out; have hnc8 := NB124_123.out; have hcz9_0 : w7.cell? ⟨gb123, 0, none⟩ = some (.int .i64 a0_0) := (blk_cell BK123.out 0).trans rfl; have hcz9_1 : w7.cell? ⟨gb123, 1, none⟩ = some (.int .i64 a0_1) := (blk_cell BK123.out 1).trans rfl; have hfz9_0 := blk_frozen BK123.out 0; have hfz9_1 := blk_frozen BK123.out 1) | ((with_reducible refine gate_callee (f := 63) rfl ?_); refine goesL_ (some 6) rfl rfl Try.func63 (by kernel_rfl) rfl #[.agg #[.int .i64 a0_0, .int .i64 a0_1]] rfl (by (try simp only [List.map_toArray, List.map_cons, List.map_nil]); first | done | rfl | (simp only [List.length_drop, List.length_take]; rfl)) ?_; (with_reducible refine (spec_pzLock.calls k a0_0 a0_1 true _ A3.out).mono ?_); rintro e w10 ⟨rfl, hb⟩; refine ⟨_, rfl, ?_⟩; have n0_ := Aside0.mk (blk_below (g := gb123) (o := .cells #[.int .i64 a0_0, .int .i64 a0_1] 27 (0, 0)) (by (with_reducible repeat (first | refine blk_drewN ?_ _ | refine blk_drew ?_ | refine blk_alloc ?_ _)); exact BK123.out) hb); have n1_ := Aside0.mk (blk_below (g := gb124) (o := .cells #[.int .i64 a1_0, .int .i64 a1_1, .int .i64 a1_2] 29 (0, 0)) (by (with_reducible repeat (first | refine blk_drewN ?_ _ | refine blk_drew ?_ | refine blk_alloc ?_ _)); exact BK124.out) hb); have n2_ := Aside0.mk (below_step (by repeat (first | (with_reducible first | exact HB.out | apply below_alloc | apply pw_below_drewN | apply below_drew1 | refine below_set ?_ GE123.out | refine below_set ?_ GE124.out) | exact HB.out)) hb); clear BK123; clear BK124; clear HB; have BK123 := n0_; have BK124 := n1_; have HB := n2_; clear n0_ n1_ n2_; (try clear hb); (try clear hb2); (try clear hk); (try clear hi); have hcz11_0 : w10.cell? ⟨gb123, 0, none⟩ = some (.int .i64 a0_0) := (blk_cell BK123.out 0).trans rfl; have hcz11_1 : w10.cell? ⟨gb123, 1, none⟩ = some (.int .i64 a0_1) := (blk_cell BK123.out 1).trans rfl; have hfz11_0 := blk_frozen BK123.out 0; have hfz11_1 := blk_frozen BK123.out 1; have hcz12_0 : w10.cell? ⟨gb124, 0, none⟩ = some (.int .i64 a1_0) := (blk_cell BK124.out 0).trans rfl; have hcz12_1 : w10.cell? ⟨gb124, 1, none⟩ = some (.int .i64 a1_1) := (blk_cell BK124.out 1).trans rfl; have hcz12_2 : w10.cell? ⟨gb124, 2, none⟩ = some (.int .i64 a1_2) := (blk_cell BK124.out 2).trans rfl; have hfz12_0 := blk_frozen BK124.out 0; have hfz12_1 := blk_frozen BK124.out 1; have hfz12_2 := blk_frozen BK124.out 2) | (go_at_call 64; (with_reducible refine (spec_pzClue.calls k a0_0 a0_1 a1_0 a1_1 a1_2 t126 _ A5.out).mono ?_); rintro e w13 ⟨rfl, hb⟩; have n0_ := Aside0.mk (blk_below (g := gb123) (o := .cells #[.int .i64 a0_0, .int .i64 a0_1] 27 (0, 0)) (by (with_reducible repeat (first | refine blk_drewN ?_ _ | refine blk_drew ?_ | refine blk_alloc ?_ _)); exact BK123.out) hb); have n1_ := Aside0.mk (blk_below (g := gb124) (o := .cells #[.int .i64 a1_0, .int .i64 a1_1, .int .i64 a1_2] 29 (0, 0)) (by (with_reducible repeat (first | refine blk_drewN ?_ _ | refine blk_drew ?_ | refine blk_alloc ?_ _)); exact BK124.out) hb); have n2_ := Aside0.mk (below_step (by repeat (first | (with_reducible first | exact HB.out | apply below_alloc | apply pw_below_drewN | apply below_drew1 | refine below_set ?_ GE123.out | refine below_set ?_ GE124.out) | exact HB.out)) hb); clear BK123; clear BK124; clear HB; have BK123 := n0_; have BK124 := n1_; have HB := n2_; clear n0_ n1_ n2_; (try clear hb); (try clear hb2); (try clear hk); (try clear hi)))
    go_ret
    exact ⟨by first | rfl | (simp [errW_none, errW_some] <;> rfl) | (simp [*, errW_none, errW_some] <;> rfl), by repeat (first | (with_reducible first | exact HB.out | apply below_alloc | apply pw_below_drewN | apply below_drew1 | refine below_set ?_ GE123.out | refine below_set ?_ GE124.out) | exact HB.out)⟩
  · replace c4 := Bool.eq_false_iff.mpr c4
    subst c4
    have H1 : (some false) = some r := by rw [if_neg (show ¬ (false = true) by decide)] at H; exact H
    clear H
    have H := H1
    clear H1
    obtain rfl := Option.some.inj H
    go_enter Try.func15, Try.ntmps15
    go_wp2_with (first | ((with_reducible refine gate_dst (N := 2) rfl ?_); refine box_event ?hg (N := 2) ?hd (cs := #[.int .i64 a0_0, .int .i64 a0_1]) (t := 27) ?hr ?_; (case hd => rfl); (case hg => rfl); (case hr => first | (go_simp; done) | (go_simp; rfl)); intro gb123 hg w14 hbox hb; have n0_ := Aside0.mk (below_step (by repeat (first | (with_reducible first | exact HB.out | apply below_alloc | apply pw_below_drewN | apply below_drew1) | exact HB.out)) hb); have n1_ := Aside0.mk (hbox); have n2_ := Aside0.mk ((by rw [hg]; exact (below_size (by repeat (first | (with_reducible first | exact HB.out | apply below_alloc | apply pw_below_drewN | apply below_drew1) | exact HB.out))) : w.heap.size ≤ gb123)); have n3_ := Aside0.mk ((by rw [hg]; exact (below_size (by repeat (first | (with_reducible first | exact HB.out | apply below_alloc | apply pw_below_drewN | apply below_drew1) | exact HB.out))) : w.heap.size ≤ gb123)); clear HB; have HB := n0_; have BK123 := n1_; have GW123 := n2_; have GE123 := n3_; clear n0_ n1_ n2_ n3_; clear hb hbox hg) | ((with_reducible refine gate_dst (N := 3) rfl ?_); refine box_event ?hg (N := 3) ?hd (cs := #[.int .i64 a1_0, .int .i64 a1_1, .int .i64 a1_2]) (t := 29) ?hr ?_; (case hd => rfl); (case hg => rfl); (case hr => first | (go_simp; done) | (go_simp; rfl)); intro gb124 hg w15 hbox hb; have n0_ := Aside0.mk (blk_below (g := gb123) (o := .cells #[.int .i64 a0_0, .int .i64 a0_1] 27 (0, 0)) (by (with_reducible repeat (first | refine blk_drewN ?_ _ | refine blk_drew ?_ | refine blk_alloc ?_ _)); exact BK123.out) hb); have n1_ := Aside0.mk (below_step (by repeat (first | (with_reducible first | exact HB.out | apply below_alloc | apply pw_below_drewN | apply below_drew1 | refine below_set ?_ GE123.out) | exact HB.out)) hb); have n2_ := Aside0.mk (hbox); have n3_ := Aside0.mk ((by rw [hg]; exact (below_size (by repeat (first | (with_reducible first | exact HB.out | apply below_alloc | apply pw_below_drewN | apply below_drew1 | refine below_set ?_ GE123.out) | exact HB.out))) : w.heap.size ≤ gb124)); have n4_ := Aside0.mk ((by rw [hg]; exact (below_size (by repeat (first | (with_reducible first | exact HB.out | apply below_alloc | apply pw_below_drewN | apply below_drew1 | refine below_set ?_ GE123.out) | exact HB.out))) : w.heap.size ≤ gb124)); have n5_ := Aside0.mk ((by rw [hg]; exact Nat.ne_of_lt (blk_lt (g := gb123) (o := .cells #[.int .i64 a0_0, .int .i64 a0_1] 27 (0, 0)) (by (with_reducible repeat (first | refine blk_drewN ?_ _ | refine blk_drew ?_ | refine blk_alloc ?_ _)); exact BK123.out)) : gb123 ≠ gb124)); have n6_ := Aside0.mk ((by rw [hg]; exact Nat.ne_of_gt (blk_lt (g := gb123) (o := .cells #[.int .i64 a0_0, .int .i64 a0_1] 27 (0, 0)) (by (with_reducible repeat (first | refine blk_drewN ?_ _ | refine blk_drew ?_ | refine blk_alloc ?_ _)); exact BK123.out)) : gb124 ≠ gb123)); clear BK123; clear HB; have BK123 := n0_; have HB := n1_; have BK124 := n2_; have GW124 := n3_; have GE124 := n4_; have NB123_124 := n5_; have NB124_123 := n6_; clear n0_ n1_ n2_ n3_ n4_ n5_ n6_; clear hb hbox hg; have hnb16 := NB123_124.out; have hnc16 := NB124_123.out; have hcz17_0 : w15.cell? ⟨gb123, 0, none⟩ = some (.int .i64 a0_0) := (blk_cell BK123.out 0).trans rfl; have hcz17_1 : w15.cell? ⟨gb123, 1, none⟩ = some (.int .i64 a0_1) := (blk_cell BK123.out 1).trans rfl; have hfz17_0 := blk_frozen BK123.out 0; have hfz17_1 := blk_frozen BK123.out 1) | ((with_reducible refine gate_callee (f := 63) rfl ?_); refine goesL_ (some 6) rfl rfl Try.func63 (by kernel_rfl) rfl #[.agg #[.int .i64 a0_0, .int .i64 a0_1]] rfl (by (try simp only [List.map_toArray, List.map_cons, List.map_nil]); first | done | rfl | (simp only [List.length_drop, List.length_take]; rfl)) ?_; (with_reducible refine (spec_pzLock.calls k a0_0 a0_1 false _ A3.out).mono ?_); rintro e w18 ⟨rfl, hb⟩; refine ⟨_, rfl, ?_⟩; have n0_ := Aside0.mk (blk_below (g := gb123) (o := .cells #[.int .i64 a0_0, .int .i64 a0_1] 27 (0, 0)) (by (with_reducible repeat (first | refine blk_drewN ?_ _ | refine blk_drew ?_ | refine blk_alloc ?_ _)); exact BK123.out) hb); have n1_ := Aside0.mk (blk_below (g := gb124) (o := .cells #[.int .i64 a1_0, .int .i64 a1_1, .int .i64 a1_2] 29 (0, 0)) (by (with_reducible repeat (first | refine blk_drewN ?_ _ | refine blk_drew ?_ | refine blk_alloc ?_ _)); exact BK124.out) hb); have n2_ := Aside0.mk (below_step (by repeat (first | (with_reducible first | exact HB.out | apply below_alloc | apply pw_below_drewN | apply below_drew1 | refine below_set ?_ GE123.out | refine below_set ?_ GE124.out) | exact HB.out)) hb); clear BK123; clear BK124; clear HB; have BK123 := n0_; have BK124 := n1_; have HB := n2_; clear n0_ n1_ n2_; (try clear hb); (try clear hb2); (try clear hk); (try clear hi)))
    go_ret
    exact ⟨by first | rfl | (simp [errW_none, errW_some] <;> rfl) | (simp [*, errW_none, errW_some] <;> rfl), by repeat (first | (with_reducible first | exact HB.out | apply below_alloc | apply pw_below_drewN | apply below_drew1 | refine below_set ?_ GE123.out | refine below_set ?_ GE124.out) | exact HB.out)⟩
end Go.Proofs.Ytjjcppkehldmoaa.P

namespace Go.Proofs.Ytjjcppkehldmoaa.P
open Go.RowKit Go.Proofs.YtjjcppkehldmoaaW.PrintWords Go.Proofs.YtjjcppkehldmoaaW.PrintLast Go.Proofs.YtjjcppkehldmoaaW.PrintMore
attribute [local go_sem] max2_int min2_int max_two min_two max_three min_three max_four min_four   -- for this text's walks alone
set_option linter.unusedVariables false
set_option linter.unusedSimpArgs false

/-! spec's clues: what they come to. -/
theorem spec_pzLock.ev (w d : Int) : Ev (fun k => spec_pzLock.f k w d) (smallB w d 125) := by
  unfold spec_pzLock.f
  exact Ev.bind (spec_hiLock.ev w d 125) (Ev.now _)
theorem spec_pzClue.ev (w d a b c : Int) (hl : lockB w d = true) : Ev (fun k => spec_pzClue.f k w d a b c) (clueB w d a b c) := by
  unfold spec_pzClue.f clueB
  obtain ⟨w1, w2, d1, d2⟩ := lockB_iff.mp hl
  have hc := count_bound hl
  simp only [spec_l1In.is, Option.bind_some, w64 (x := w - 1) (by omega) (by omega), w64 (x := d - 1) (by omega) (by omega)]
  refine Ev.both (fun e => ?_) (fun e => ?_)
  · rw [if_pos e]
    exact Ev.both (fun h => Ev.id (by simp [of_decide_eq_true h])) (fun h => Ev.id (by have := decide_eq_false_iff_not.mp (Bool.eq_false_iff.mpr h); simp [this]))
  rw [if_neg e]
  refine Ev.both (fun e => ?_) (fun e => ?_)
  · rw [if_pos e]
    exact Ev.both (fun h => Ev.id (by simp [of_decide_eq_true h])) (fun h => Ev.id (by have := decide_eq_false_iff_not.mp (Bool.eq_false_iff.mpr h); simp [this]))
  rw [if_neg e]
  refine Ev.both (fun e => ?_) (fun e => ?_)
  · rw [if_pos e]
    refine Ev.bind (spec_whCount.ev hl) ?_
    rw [w64 (x := d ^ w.toNat - 1) (by omega) (by omega)]
    exact Ev.both (fun h => Ev.id (by simp [of_decide_eq_true h])) (fun h => Ev.id (by have := decide_eq_false_iff_not.mp (Bool.eq_false_iff.mpr h); simp [this]))
  rw [if_neg e]
  refine Ev.both (fun e => ?_) (fun e => ?_)
  · rw [if_pos e]
    refine Ev.bind (spec_whCount.ev hl) ?_
    rw [w64 (x := d ^ w.toNat - 1) (by omega) (by omega)]
    exact Ev.both (fun h => Ev.id (by simp [of_decide_eq_true h])) (fun h => Ev.id (by have := decide_eq_false_iff_not.mp (Bool.eq_false_iff.mpr h); simp [this]))
  rw [if_neg e]
  refine Ev.both (fun e => ?_) (fun e => ?_)
  · rw [if_pos e]
    refine Ev.both (fun h => ?_) (fun h => Ev.id (by have := decide_eq_false_iff_not.mp (Bool.eq_false_iff.mpr h); simp [this]))
    have h' := of_decide_eq_true h
    rw [w64 (x := b - 1) (by omega) (by omega)]
    exact Ev.id (by simp [h'])
  rw [if_neg e]
  exact Ev.id (by simp)
theorem spec_IsClue.ev (w d a b c : Int) : Ev (fun k => spec_IsClue.f k w d a b c) (smallB w d 125 && clueB w d a b c) := by
  unfold spec_IsClue.f
  refine Ev.bind (spec_pzLock.ev w d) ?_
  cases h : smallB w d 125 with
  | true => exact Ev.yes rfl (Ev.bind (spec_pzClue.ev w d a b c (smallB_lock h)) (Ev.id (by simp)))
  | false => exact Ev.no (by simp) (Ev.id (by simp))
end Go.Proofs.Ytjjcppkehldmoaa.P

namespace Go.Proofs.Ytjjcppkehldmoaa.P
open Go.RowKit Go.Proofs.YtjjcppkehldmoaaW.PrintWords Go.Proofs.YtjjcppkehldmoaaW.PrintLast Go.Proofs.YtjjcppkehldmoaaW.PrintMore
attribute [local go_sem] max2_int min2_int max_two min_two max_three min_three max_four min_four   -- for this text's walks alone
set_option linter.unusedVariables false
set_option linter.unusedSimpArgs false

/-! The statements' own helpers on clues and puzzles: what they come to. -/
def clueOf (x : S25) : S29 := ⟨x.f0, x.f1, x.f2⟩
theorem laws_szClueS.is (l : List S25) (a : Int) (h0 : 0 ≤ a) (h1 : a ≤ 1048576) (hl : l.length ≤ 9223372036854775807) : laws_szClueS.f l a = some (if (l.length : Int) ≤ a then a - l.length else -1) := by
  unfold laws_szClueS.f
  rw [w64 (x := a - (l.length : Int)) (by omega) (by omega)]
  by_cases h : (l.length : Int) ≤ a
  · rw [if_neg (by omega), if_pos h]
  · rw [if_pos (by omega), if_neg h]
theorem laws_szPuzzle.is (w d : Int) (l : List S25) (hl : l.length ≤ 9223372036854775807) : laws_szPuzzle.f w d l 1048576 = some (if (l.length : Int) ≤ 1048576 then (1048576 : Int) - (l.length : Int) else (-1 : Int)) := by
  unfold laws_szPuzzle.f
  rw [laws_szClueS.is l 1048576 (by omega) (by omega) hl]
  simp only [Option.bind_some]
  by_cases h : (l.length : Int) ≤ 1048576
  · rw [if_pos h, if_neg (by omega)]
  · rw [if_neg h, if_pos (by omega)]
theorem rd_laws_clue {xs : List S25} {i : Int} (h : i.toNat < xs.length) : rd_T25 xs i = xs[i.toNat] := by unfold rd_T25; exact getD_at h
theorem rd_clue {xs : List S29} {i : Int} (h : i.toNat < xs.length) : rd_T29 xs i = xs[i.toNat] := by unfold rd_T29; exact getD_at h
theorem laws_toClueS.lev (l : List S25) (hl : l.length ≤ 1048576) : ∀ (j : Nat) (i : Int), 0 ≤ i → i ≤ l.length → (l.length : Int) - i = j →
    Ev (fun k => laws_toClueS.l0 k l ((l.take i.toNat).map clueOf ++ List.replicate (l.length - i.toNat) z29) i) (l.map clueOf) := by
  intro j
  induction j with
  | zero =>
    intro i h0 hi hj
    obtain rfl : i = (l.length : Int) := by omega
    exact Ev.step (fun k => rfl) (Ev.no (by omega) (Ev.id (by simp)))
  | succ j ih =>
    intro i h0 hi hj
    have hlt : i.toNat < l.length := by omega
    refine Ev.step (fun k => rfl) (Ev.yes (by omega) (Ev.yes h0 ?_))
    simp only [laws_toClue.f, Option.bind_some, rd_laws_clue hlt]
    refine Ev.yes (by simp; omega) ?_
    have := fill_step clueOf l z29 i.toNat hlt
    unfold clueOf at this ⊢
    rw [this, w64 (x := i + 1) (by omega) (by omega), ← toNat_succ h0]
    exact ih (i + 1) (by omega) (by omega) (by omega)
theorem laws_toClueS.ev (l : List S25) (hl : l.length ≤ 1048576) : Ev (fun k => laws_toClueS.f k l) (l.map clueOf) := by
  unfold laws_toClueS.f
  refine Ev.yes (by omega) (Ev.yes (by omega) ?_)
  have := laws_toClueS.lev l hl l.length 0 (by omega) (by omega) (by omega)
  simpa using this
theorem laws_toPuzzle.ev (w d : Int) (l : List S25) (hl : l.length ≤ 1048576) : Ev (fun k => laws_toPuzzle.f k w d l) (w, d, l.map clueOf) := by
  unfold laws_toPuzzle.f
  simp only [laws_toLock.f, Option.bind_some]
  exact Ev.bind (laws_toClueS.ev l hl) (Ev.now _)
theorem laws_eqClueS.lev (l : List S29) (hl : l.length ≤ 9223372036854775807) : ∀ (j : Nat) (i : Int), 0 ≤ i → i ≤ l.length → (l.length : Int) - i = j → Ev (fun k => laws_eqClueS.l0 k l l i) true := by
  intro j
  induction j with
  | zero =>
    intro i h0 hi hj
    exact Ev.step (fun k => rfl) (Ev.no (by omega) (Ev.now _))
  | succ j ih =>
    intro i h0 hi hj
    refine Ev.step (fun k => rfl) (Ev.yes (by omega) (Ev.yes h0 (Ev.yes (by omega) ?_)))
    simp only [laws_eqClue.f, if_true, Option.bind_some]
    rw [w64 (x := i + 1) (by omega) (by omega)]
    exact ih (i + 1) (by omega) (by omega) (by omega)
theorem laws_eqClueS.ev (l : List S29) (hl : l.length ≤ 9223372036854775807) : Ev (fun k => laws_eqClueS.f k l l) true := by
  unfold laws_eqClueS.f
  exact Ev.yes rfl (laws_eqClueS.lev l hl l.length 0 (by omega) (by omega) (by omega))
theorem laws_eqPuzzle.ev (w d : Int) (l : List S29) (hl : l.length ≤ 9223372036854775807) : Ev (fun k => laws_eqPuzzle.f k w d l w d l) true := by
  unfold laws_eqPuzzle.f
  simp only [laws_eqLock.f, if_true, Option.bind_some]
  exact Ev.bind (laws_eqClueS.ev l hl) (Ev.yes rfl (Ev.now _))
end Go.Proofs.Ytjjcppkehldmoaa.P
