import Derived.Test.YtlmfiaopgndbcaaKFnExactMakePuzzleA0
import Derived.Test.YtlmfiaopgndbcaaKFnExactMakePuzzleA1
import Derived.Test.YtlmfiaopgndbcaaKFnExactMakePuzzleA2
import Derived.ProofKit
import Derived.Lib.SmallJoins
import Derived.Deep.Slices
import Derived.Shelf.Abstract
import Derived.Deep.RegionHeld3
import Derived.Laws.StructEq
namespace Go.Proofs.Ytlmfiaopgndbcaa.P
open Go.RowKit Go.Proofs.YtlmfiaopgndbcaaW.PrintWords Go.Proofs.YtlmfiaopgndbcaaW.PrintLast Go.Proofs.YtlmfiaopgndbcaaW.PrintMore
attribute [local go_sem] max2_int min2_int max_two min_two max_three min_three max_four min_four
set_option linter.unusedVariables false
set_option linter.unusedSimpArgs false
/-! ### laws_FnExactMakePuzzle: function 4 -/
mutual
def laws_FnExactMakePuzzle.j0 : Nat → ByteArray → Int → Int → Bool → Bool → Int → Int → Int → Int → List (S37) → Int → Int → List (S37) → Option (Bool)
  | 0, _, _, _, _, _, _, _, _, _, _, _, _, _ => none
  | k + 1, x1, x2, x3, x10, x46, x467000, x467001, x476000, x476001, x476002, x485000, x485001, x485002 => if x46 = true then (some false) else ((laws_markPuzzle.f k x485000 x485001 x485002 1).bind fun bt486 => ((laws_heldPuzzle.f k x485000 x485001 bt486.2 1).bind fun t488 => (if t488 < 0 then (some false) else (if t488 = bt486.1 then ((laws_toLock.f x467000 x467001).bind fun bt489 => ((impl_MakePuzzle.f k bt489.1 bt489.2 x1 x2 x3).bind fun bt491 => ((laws_eqPuzzle.f k bt491.1 bt491.2.1 bt491.2.2.1 x476000 x476001 x476002).bind fun t498 => (if t498 = true then (laws_FnExactMakePuzzle.j1 k bt486.1 (bt491.2.2.2 != x10) x485000 x485001 bt486.2) else (laws_FnExactMakePuzzle.j1 k bt486.1 true x485000 x485001 bt486.2))))) else (some false)))))
def laws_FnExactMakePuzzle.j1 : Nat → Int → Bool → Int → Int → List (S37) → Option (Bool)
  | 0, _, _, _, _, _ => none
  | k + 1, x13, x75, x485000, x485001, x485002 => if x75 = true then (some false) else ((laws_heldPuzzle.f k x485000 x485001 x485002 1).bind fun t499 => (if t499 < 0 then (some false) else (if t499 = x13 then (some true) else (some false))))
end
def laws_FnExactMakePuzzle.f (k : Nat) (a0_0 : Int) (a0_1 : Int) (a1 : ByteArray) (a2 : Int) (a3 : Int) : Option (Bool) := if (a1.size : Int) > 1048576 then (some true) else ((laws_toLock.f a0_0 a0_1).bind fun bt467 => ((spec_MakePuzzle.f k bt467.1 bt467.2 a1 a2 a3).bind fun bt469 => ((laws_toLock.f a0_0 a0_1).bind fun bt476 => ((impl_MakePuzzle.f k bt476.1 bt476.2 a1 a2 a3).bind fun bt478 => ((laws_eqPuzzle.f k bt478.1 bt478.2.1 bt478.2.2.1 bt469.1 bt469.2.1 bt469.2.2.1).bind fun t485 => (if t485 = true then (laws_FnExactMakePuzzle.j0 k a1 a2 a3 bt469.2.2.2 (bt478.2.2.2 != bt469.2.2.2) a0_0 a0_1 bt469.1 bt469.2.1 bt469.2.2.1 bt478.1 bt478.2.1 bt478.2.2.1) else (laws_FnExactMakePuzzle.j0 k a1 a2 a3 bt469.2.2.2 true a0_0 a0_1 bt469.1 bt469.2.1 bt469.2.2.1 bt478.1 bt478.2.1 bt478.2.2.1)))))))
set_option maxHeartbeats 8000000 in
set_option maxRecDepth 100000 in
theorem laws_FnExactMakePuzzle.calls (k : Nat) (a0_0 : Int) (a0_1 : Int) (a1 : ByteArray) (a2 : Int) (a3 : Int) (r : Bool) (w : World) (h : laws_FnExactMakePuzzle.f k a0_0 a0_1 a1 a2 a3 = some r) :
    Calls Try.prog 4 #[.agg #[.int .i64 a0_0, .int .i64 a0_1], .string a1, .int .i64 a2, .int .i64 a3] w fun e w' => e = .returned (.bool r) ∧ Below w.heap.size w w' := by
  have hu23 := Try.underlying23
  have hu33 := Try.underlying33
  have HB := amk (Below.refl w.heap.size w)
  have H : (if (a1.size : Int) > 1048576 then (some true) else ((laws_toLock.f a0_0 a0_1).bind fun bt467 => ((spec_MakePuzzle.f k bt467.1 bt467.2 a1 a2 a3).bind fun bt469 => ((laws_toLock.f a0_0 a0_1).bind fun bt476 => ((impl_MakePuzzle.f k bt476.1 bt476.2 a1 a2 a3).bind fun bt478 => ((laws_eqPuzzle.f k bt478.1 bt478.2.1 bt478.2.2.1 bt469.1 bt469.2.1 bt469.2.2.1).bind fun t485 => (if t485 = true then (laws_FnExactMakePuzzle.j0 k a1 a2 a3 bt469.2.2.2 (bt478.2.2.2 != bt469.2.2.2) a0_0 a0_1 bt469.1 bt469.2.1 bt469.2.2.1 bt478.1 bt478.2.1 bt478.2.2.1) else (laws_FnExactMakePuzzle.j0 k a1 a2 a3 bt469.2.2.2 true a0_0 a0_1 bt469.1 bt469.2.1 bt469.2.2.1 bt478.1 bt478.2.1 bt478.2.2.1)))))))) = some r := h
  clear h
  by_cases c5 : (a1.size : Int) > 1048576
  · rw [if_pos c5] at H
    have c5b0 : decide (1048576 < (a1.size : Int)) = true := decide_eq_true c5
    have c5b1 : decide (1048576 < a1.size) = true := decide_eq_true (by omega)
    clear c5
    obtain rfl := Option.some.inj H
    go_enter Try.func4, Try.ntmps4
    go_wp2_with (first | ((with_reducible refine gate_dst (N := 4) rfl ?_); refine box_event ?hg (N := 4) ?hd (cs := #[.int .i64 a0_0, .int .i64 a0_1]) (t := 23) ?hr ?_; (case hd => rfl); (case hg => rfl); (case hr => first | (go_simp; done) | (go_simp; rfl)); intro gb466 hg w6 hbox hb; have n0_ := amk (bp_ (by repeat (first | (with_reducible first | exact HB.out | apply ba_ | apply bn_ | apply bd_) | exact HB.out)) hb); have n1_ := amk (hbox); have n2_ := amk ((by rw [hg]; exact (below_size (by repeat (first | (with_reducible first | exact HB.out | apply ba_ | apply bn_ | apply bd_) | exact HB.out))) : w.heap.size ≤ gb466)); have n3_ := amk ((by rw [hg]; exact (below_size (by repeat (first | (with_reducible first | exact HB.out | apply ba_ | apply bn_ | apply bd_) | exact HB.out))) : w.heap.size ≤ gb466)); clear HB; have HB := n0_; have BK466 := n1_; have GW466 := n2_; have GE466 := n3_; clear n0_ n1_ n2_ n3_; clear hb hbox hg))
    go_ret
    exact ⟨by first | rfl | (simp [errW_none, errW_some] <;> rfl) | (simp [*, errW_none, errW_some] <;> rfl), by repeat (first | (with_reducible first | exact HB.out | apply ba_ | apply bn_ | apply bd_ | refine bs_ ?_ GE466.out) | exact HB.out)⟩
  · rw [if_neg c5] at H
    have c5b0 : decide (1048576 < (a1.size : Int)) = false := decide_eq_false c5
    have c5b1 : decide (1048576 < a1.size) = false := decide_eq_false (by omega)
    clear c5
    replace H := Option.bind_eq_some_iff.mp H
    obtain ⟨⟨t467, t468⟩, A70, H⟩ := H
    replace H : ((spec_MakePuzzle.f k t467 t468 a1 a2 a3).bind fun bt469 => ((laws_toLock.f a0_0 a0_1).bind fun bt476 => ((impl_MakePuzzle.f k bt476.1 bt476.2 a1 a2 a3).bind fun bt478 => ((laws_eqPuzzle.f k bt478.1 bt478.2.1 bt478.2.2.1 bt469.1 bt469.2.1 bt469.2.2.1).bind fun t485 => (if t485 = true then (laws_FnExactMakePuzzle.j0 k a1 a2 a3 bt469.2.2.2 (bt478.2.2.2 != bt469.2.2.2) a0_0 a0_1 bt469.1 bt469.2.1 bt469.2.2.1 bt478.1 bt478.2.1 bt478.2.2.1) else (laws_FnExactMakePuzzle.j0 k a1 a2 a3 bt469.2.2.2 true a0_0 a0_1 bt469.1 bt469.2.1 bt469.2.2.1 bt478.1 bt478.2.1 bt478.2.2.1)))))) = some r := H
    have A7 := amk A70
    clear A70
    replace H := Option.bind_eq_some_iff.mp H
    obtain ⟨⟨t469, t470, t471, t474⟩, A80, H⟩ := H
    replace H : ((laws_toLock.f a0_0 a0_1).bind fun bt476 => ((impl_MakePuzzle.f k bt476.1 bt476.2 a1 a2 a3).bind fun bt478 => ((laws_eqPuzzle.f k bt478.1 bt478.2.1 bt478.2.2.1 t469 t470 t471).bind fun t485 => (if t485 = true then (laws_FnExactMakePuzzle.j0 k a1 a2 a3 t474 (bt478.2.2.2 != t474) a0_0 a0_1 t469 t470 t471 bt478.1 bt478.2.1 bt478.2.2.1) else (laws_FnExactMakePuzzle.j0 k a1 a2 a3 t474 true a0_0 a0_1 t469 t470 t471 bt478.1 bt478.2.1 bt478.2.2.1))))) = some r := H
    have A8 := amk A80
    clear A80
    replace H := Option.bind_eq_some_iff.mp H
    obtain ⟨⟨t476, t477⟩, A90, H⟩ := H
    replace H : ((impl_MakePuzzle.f k t476 t477 a1 a2 a3).bind fun bt478 => ((laws_eqPuzzle.f k bt478.1 bt478.2.1 bt478.2.2.1 t469 t470 t471).bind fun t485 => (if t485 = true then (laws_FnExactMakePuzzle.j0 k a1 a2 a3 t474 (bt478.2.2.2 != t474) a0_0 a0_1 t469 t470 t471 bt478.1 bt478.2.1 bt478.2.2.1) else (laws_FnExactMakePuzzle.j0 k a1 a2 a3 t474 true a0_0 a0_1 t469 t470 t471 bt478.1 bt478.2.1 bt478.2.2.1)))) = some r := H
    have A9 := amk A90
    clear A90
    replace H := Option.bind_eq_some_iff.mp H
    obtain ⟨⟨t478, t479, t480, t483⟩, A100, H⟩ := H
    replace H : ((laws_eqPuzzle.f k t478 t479 t480 t469 t470 t471).bind fun t485 => (if t485 = true then (laws_FnExactMakePuzzle.j0 k a1 a2 a3 t474 (t483 != t474) a0_0 a0_1 t469 t470 t471 t478 t479 t480) else (laws_FnExactMakePuzzle.j0 k a1 a2 a3 t474 true a0_0 a0_1 t469 t470 t471 t478 t479 t480))) = some r := H
    have A10 := amk A100
    clear A100
    have HC11 := amk H
    clear H
    go_enter Try.func4, Try.ntmps4
    go_upto_region 5 with (first | ((with_reducible refine gate_dst (N := 4) rfl ?_); refine box_event ?hg (N := 4) ?hd (cs := #[.int .i64 a0_0, .int .i64 a0_1]) (t := 23) ?hr ?_; (case hd => rfl); (case hg => rfl); (case hr => first | (go_simp; done) | (go_simp; rfl)); intro gb466 hg w12 hbox hb; have n0_ := amk (bp_ (by repeat (first | (with_reducible first | exact HB.out | apply ba_ | apply bn_ | apply bd_) | exact HB.out)) hb); have n1_ := amk (hbox); have n2_ := amk ((by rw [hg]; exact (below_size (by repeat (first | (with_reducible first | exact HB.out | apply ba_ | apply bn_ | apply bd_) | exact HB.out))) : w.heap.size ≤ gb466)); have n3_ := amk ((by rw [hg]; exact (below_size (by repeat (first | (with_reducible first | exact HB.out | apply ba_ | apply bn_ | apply bd_) | exact HB.out))) : w.heap.size ≤ gb466)); clear HB; have HB := n0_; have BK466 := n1_; have GW466 := n2_; have GE466 := n3_; clear n0_ n1_ n2_ n3_; clear hb hbox hg; have hcz13_0 : w12.cell? ⟨gb466, 0, none⟩ = some (.int .i64 a0_0) := (blk_cell BK466.out 0).trans rfl; have hcz13_1 : w12.cell? ⟨gb466, 1, none⟩ = some (.int .i64 a0_1) := (blk_cell BK466.out 1).trans rfl; have hfz13_0 := blk_frozen BK466.out 0; have hfz13_1 := blk_frozen BK466.out 1) | ((with_reducible refine gate_callee (f := 15) rfl ?_); refine goesL_ (some 22) rfl rfl Try.func15 (by kernel_rfl) rfl #[.agg #[.int .i64 a0_0, .int .i64 a0_1]] rfl (by (try simp only [List.map_toArray, List.map_cons, List.map_nil]); first | done | rfl | (simp only [List.length_drop, List.length_take]; rfl)) ?_; (with_reducible refine (laws_toLock.calls a0_0 a0_1 t467 t468 _ A7.out).mono ?_); rintro e w14 ⟨rfl, hb⟩; refine ⟨_, rfl, ?_⟩; have n0_ := amk (blk_below (g := gb466) (o := .cells #[.int .i64 a0_0, .int .i64 a0_1] 23 (0, 0)) (by (with_reducible repeat (first | refine kn_ ?_ _ | refine blk_drew ?_ | refine ka_ ?_ _)); exact BK466.out) hb); have n1_ := amk (bp_ (by repeat (first | (with_reducible first | exact HB.out | apply ba_ | apply bn_ | apply bd_ | refine bs_ ?_ GE466.out) | exact HB.out)) hb); clear BK466; clear HB; have BK466 := n0_; have HB := n1_; clear n0_ n1_; (try clear hb); (try clear hb2); (try clear hk); (try clear hi)) | ((with_reducible refine gate_callee (f := 14) rfl ?_); refine goesL_ (some 26) rfl rfl Try.func14 (by kernel_rfl) rfl #[.agg #[.int .i64 t467, .int .i64 t468], .string a1, .int .i64 a2, .int .i64 a3] rfl (by (try simp only [List.map_toArray, List.map_cons, List.map_nil]); first | done | rfl | (simp only [List.length_drop, List.length_take]; rfl)) ?_; (with_reducible refine (spec_MakePuzzle.calls k t467 t468 a1 a2 a3 t469 t470 t471 t474 _ A8.out).mono ?_); rintro e w15 ⟨v472, rfl, ho0, hb⟩; refine ⟨_, rfl, ?_⟩; have n0_ := amk (Kd.R_lower ho0 (below_size (by repeat (first | (with_reducible first | exact HB.out | apply ba_ | apply bn_ | apply bd_ | refine bs_ ?_ GE466.out) | exact HB.out)))); have n1_ := amk (blk_below (g := gb466) (o := .cells #[.int .i64 a0_0, .int .i64 a0_1] 23 (0, 0)) (by (with_reducible repeat (first | refine kn_ ?_ _ | refine blk_drew ?_ | refine ka_ ?_ _)); exact BK466.out) hb); have n2_ := amk (bp_ (by repeat (first | (with_reducible first | exact HB.out | apply ba_ | apply bn_ | apply bd_ | refine bs_ ?_ GE466.out) | exact HB.out)) hb); clear BK466; clear HB; have HO473 := n0_; have BK466 := n1_; have HB := n2_; clear n0_ n1_ n2_; (try clear hb); (try clear hb2); (try clear hk); (try clear hi); (try clear ho0)) | ((with_reducible refine gate_dst (N := 9) rfl ?_); refine box_event ?hg (N := 9) ?hd (cs := #[.int .i64 0, .int .i64 0, .slice none 0 0]) (t := 33) ?hr ?_; (case hd => rfl); (case hg => rfl); (case hr => first | (go_simp; done) | (go_simp; rfl)); intro gb475 hg w16 hbox hb; have n0_ := amk (Kd.R_below (by (with_reducible repeat (first | apply Kd.R_alloc | apply Kd.R_drewN | apply Kd.R_drew)); exact HO473.out) hb); have n1_ := amk (blk_below (g := gb466) (o := .cells #[.int .i64 a0_0, .int .i64 a0_1] 23 (0, 0)) (by (with_reducible repeat (first | refine kn_ ?_ _ | refine blk_drew ?_ | refine ka_ ?_ _)); exact BK466.out) hb); have n2_ := amk (bp_ (by repeat (first | (with_reducible first | exact HB.out | apply ba_ | apply bn_ | apply bd_ | refine bs_ ?_ GE466.out) | exact HB.out)) hb); have n3_ := amk (hbox); have n4_ := amk ((by rw [hg]; exact (below_size (by repeat (first | (with_reducible first | exact HB.out | apply ba_ | apply bn_ | apply bd_ | refine bs_ ?_ GE466.out) | exact HB.out))) : w.heap.size ≤ gb475)); have n5_ := amk ((by rw [hg]; exact (below_size (by repeat (first | (with_reducible first | exact HB.out | apply ba_ | apply bn_ | apply bd_ | refine bs_ ?_ GE466.out) | exact HB.out))) : w.heap.size ≤ gb475)); have n6_ := amk ((by rw [hg]; exact Nat.ne_of_lt (blk_lt (g := gb466) (o := .cells #[.int .i64 a0_0, .int .i64 a0_1] 23 (0, 0)) (by (with_reducible repeat (first | refine kn_ ?_ _ | refine blk_drew ?_ | refine ka_ ?_ _)); exact BK466.out)) : gb466 ≠ gb475)); have n7_ := amk ((by rw [hg]; exact Nat.ne_of_gt (blk_lt (g := gb466) (o := .cells #[.int .i64 a0_0, .int .i64 a0_1] 23 (0, 0)) (by (with_reducible repeat (first | refine kn_ ?_ _ | refine blk_drew ?_ | refine ka_ ?_ _)); exact BK466.out)) : gb475 ≠ gb466)); clear HO473; clear BK466; clear HB; have HO473 := n0_; have BK466 := n1_; have HB := n2_; have BK475 := n3_; have GW475 := n4_; have GE475 := n5_; have NB466_475 := n6_; have NB475_466 := n7_; clear n0_ n1_ n2_ n3_ n4_ n5_ n6_ n7_; clear hb hbox hg; have hnb17 := NB475_466.out; have hnc17 := NB466_475.out; have hcz18_0 : w16.cell? ⟨gb475, 0, none⟩ = some (.int .i64 0) := (blk_cell BK475.out 0).trans rfl; have hcz18_1 : w16.cell? ⟨gb475, 1, none⟩ = some (.int .i64 0) := (blk_cell BK475.out 1).trans rfl; have hcz18_2 : w16.cell? ⟨gb475, 2, none⟩ = some (.slice none 0 0) := (blk_cell BK475.out 2).trans rfl; have hfz18_0 := blk_frozen BK475.out 0; have hfz18_1 := blk_frozen BK475.out 1; have hfz18_2 := blk_frozen BK475.out 2; obtain ⟨Ao19, co19, eo19⟩ := Kd.R_slice HO473.out; subst eo19; have hcz20_0 : w16.cell? ⟨gb466, 0, none⟩ = some (.int .i64 a0_0) := (blk_cell BK466.out 0).trans rfl; have hcz20_1 : w16.cell? ⟨gb466, 1, none⟩ = some (.int .i64 a0_1) := (blk_cell BK466.out 1).trans rfl; have hfz20_0 := blk_frozen BK466.out 0; have hfz20_1 := blk_frozen BK466.out 1) | ((with_reducible refine gate_callee (f := 15) rfl ?_); refine goesL_ (some 31) rfl rfl Try.func15 (by kernel_rfl) rfl #[.agg #[.int .i64 a0_0, .int .i64 a0_1]] rfl (by (try simp only [List.map_toArray, List.map_cons, List.map_nil]); first | done | rfl | (simp only [List.length_drop, List.length_take]; rfl)) ?_; (with_reducible refine (laws_toLock.calls a0_0 a0_1 t476 t477 _ A9.out).mono ?_); rintro e w21 ⟨rfl, hb⟩; refine ⟨_, rfl, ?_⟩; have n0_ := amk (Kd.R_below (by (with_reducible repeat (first | apply Kd.R_alloc | apply Kd.R_drewN | apply Kd.R_drew)); exact (Kd.R_mono (Kd.R_far (p := ⟨gb475, 2, none⟩) (Kd.R_far (p := ⟨gb475, 1, none⟩) (Kd.R_far (p := ⟨gb475, 0, none⟩) (Kd.R_types HO473.out BK475.out (by decide)) (fun _ hk => hk.2) (.int .i64 t469)) (fun _ hk => hk.2) (.int .i64 t470)) (fun _ hk => hk.2) (.slice Ao19 t471.length co19)) (fun _ h_ => h_.1))) hb); have n1_ := amk (blk_below (g := gb466) (o := .cells #[.int .i64 a0_0, .int .i64 a0_1] 23 (0, 0)) (by (with_reducible repeat (first | refine kn_ ?_ _ | refine blk_drew ?_ | refine ka_ ?_ _)); refine blk_far ?_ NB466_475.out _; (with_reducible repeat (first | refine kn_ ?_ _ | refine blk_drew ?_ | refine ka_ ?_ _)); refine blk_far ?_ NB466_475.out _; (with_reducible repeat (first | refine kn_ ?_ _ | refine blk_drew ?_ | refine ka_ ?_ _)); refine blk_far ?_ NB466_475.out _; (with_reducible repeat (first | refine kn_ ?_ _ | refine blk_drew ?_ | refine ka_ ?_ _)); exact BK466.out) hb); have n2_ := amk (blk_below (g := gb475) (o := .cells #[.int .i64 t469, .int .i64 t470, .slice Ao19 t471.length co19] 33 (0, 0)) (by (with_reducible repeat (first | refine kn_ ?_ _ | refine blk_drew ?_ | refine ka_ ?_ _)); refine blk_put (cs := #[.int .i64 t469, .int .i64 t470, .slice none 0 0]) ?_ 2 _ rfl; (with_reducible repeat (first | refine kn_ ?_ _ | refine blk_drew ?_ | refine ka_ ?_ _)); refine blk_put (cs := #[.int .i64 t469, .int .i64 0, .slice none 0 0]) ?_ 1 _ rfl; (with_reducible repeat (first | refine kn_ ?_ _ | refine blk_drew ?_ | refine ka_ ?_ _)); refine blk_put (cs := #[.int .i64 0, .int .i64 0, .slice none 0 0]) ?_ 0 _ rfl; (with_reducible repeat (first | refine kn_ ?_ _ | refine blk_drew ?_ | refine ka_ ?_ _)); exact BK475.out) hb); have n3_ := amk (bp_ (by repeat (first | (with_reducible first | exact HB.out | apply ba_ | apply bn_ | apply bd_ | refine bs_ ?_ GE466.out | refine bs_ ?_ GE475.out) | exact HB.out)) hb); clear HO473; clear BK466; clear BK475; clear HB; have HO473 := n0_; have BK466 := n1_; have BK475 := n2_; have HB := n3_; clear n0_ n1_ n2_ n3_; (try clear hb); (try clear hb2); (try clear hk); (try clear hi)) | ((with_reducible refine gate_callee (f := 16) rfl ?_); refine goesL_ (some 35) rfl rfl Try.func16 (by kernel_rfl) rfl #[.agg #[.int .i64 t476, .int .i64 t477], .string a1, .int .i64 a2, .int .i64 a3] rfl (by (try simp only [List.map_toArray, List.map_cons, List.map_nil]); first | done | rfl | (simp only [List.length_drop, List.length_take]; rfl)) ?_; (with_reducible refine (impl_MakePuzzle.calls k t476 t477 a1 a2 a3 t478 t479 t480 t483 _ A10.out).mono ?_); rintro e w22 ⟨v481, rfl, ho0, hb⟩; refine ⟨_, rfl, ?_⟩; have n0_ := amk (Kd.R_elder' (by (with_reducible repeat (first | apply Kd.R_alloc | apply Kd.R_drewN | apply Kd.R_drew)); exact HO473.out) (Kd.R_base ho0) hb); have n1_ := amk (Kd.R_lower (Kd.R_new' ho0 (Kd.R_lt (by (with_reducible repeat (first | apply Kd.R_alloc | apply Kd.R_drewN | apply Kd.R_drew)); exact HO473.out))) (below_size (by repeat (first | (with_reducible first | exact HB.out | apply ba_ | apply bn_ | apply bd_ | refine bs_ ?_ GE466.out | refine bs_ ?_ GE475.out) | exact HB.out)))); have n2_ := amk (blk_below (g := gb466) (o := .cells #[.int .i64 a0_0, .int .i64 a0_1] 23 (0, 0)) (by (with_reducible repeat (first | refine kn_ ?_ _ | refine blk_drew ?_ | refine ka_ ?_ _)); exact BK466.out) hb); have n3_ := amk (blk_below (g := gb475) (o := .cells #[.int .i64 t469, .int .i64 t470, .slice Ao19 t471.length co19] 33 (0, 0)) (by (with_reducible repeat (first | refine kn_ ?_ _ | refine blk_drew ?_ | refine ka_ ?_ _)); exact BK475.out) hb); have n4_ := amk (bp_ (by repeat (first | (with_reducible first | exact HB.out | apply ba_ | apply bn_ | apply bd_ | refine bs_ ?_ GE466.out | refine bs_ ?_ GE475.out) | exact HB.out)) hb); clear HO473; clear BK466; clear BK475; clear HB; have HO473 := n0_; have HO482 := n1_; have BK466 := n2_; have BK475 := n3_; have HB := n4_; clear n0_ n1_ n2_ n3_ n4_; (try clear hb); (try clear hb2); (try clear hk); (try clear hi); (try clear ho0)) | ((with_reducible refine gate_dst (N := 11) rfl ?_); refine box_event ?hg (N := 11) ?hd (cs := #[.int .i64 0, .int .i64 0, .slice none 0 0]) (t := 33) ?hr ?_; (case hd => rfl); (case hg => rfl); (case hr => first | (go_simp; done) | (go_simp; rfl)); intro gb484 hg w23 hbox hb; have n0_ := amk (Kd.R_below (by (with_reducible repeat (first | apply Kd.R_alloc | apply Kd.R_drewN | apply Kd.R_drew)); exact HO473.out) hb); have n1_ := amk (Kd.R_below (by (with_reducible repeat (first | apply Kd.R_alloc | apply Kd.R_drewN | apply Kd.R_drew)); exact HO482.out) hb); have n2_ := amk (blk_below (g := gb466) (o := .cells #[.int .i64 a0_0, .int .i64 a0_1] 23 (0, 0)) (by (with_reducible repeat (first | refine kn_ ?_ _ | refine blk_drew ?_ | refine ka_ ?_ _)); exact BK466.out) hb); have n3_ := amk (blk_below (g := gb475) (o := .cells #[.int .i64 t469, .int .i64 t470, .slice Ao19 t471.length co19] 33 (0, 0)) (by (with_reducible repeat (first | refine kn_ ?_ _ | refine blk_drew ?_ | refine ka_ ?_ _)); exact BK475.out) hb); have n4_ := amk (bp_ (by repeat (first | (with_reducible first | exact HB.out | apply ba_ | apply bn_ | apply bd_ | refine bs_ ?_ GE466.out | refine bs_ ?_ GE475.out) | exact HB.out)) hb); have n5_ := amk (hbox); have n6_ := amk ((by rw [hg]; exact (below_size (by repeat (first | (with_reducible first | exact HB.out | apply ba_ | apply bn_ | apply bd_ | refine bs_ ?_ GE466.out | refine bs_ ?_ GE475.out) | exact HB.out))) : w.heap.size ≤ gb484)); have n7_ := amk ((by rw [hg]; exact (below_size (by repeat (first | (with_reducible first | exact HB.out | apply ba_ | apply bn_ | apply bd_ | refine bs_ ?_ GE466.out | refine bs_ ?_ GE475.out) | exact HB.out))) : w.heap.size ≤ gb484)); have n8_ := amk ((by rw [hg]; exact Nat.ne_of_lt (blk_lt (g := gb466) (o := .cells #[.int .i64 a0_0, .int .i64 a0_1] 23 (0, 0)) (by (with_reducible repeat (first | refine kn_ ?_ _ | refine blk_drew ?_ | refine ka_ ?_ _)); exact BK466.out)) : gb466 ≠ gb484)); have n9_ := amk ((by rw [hg]; exact Nat.ne_of_gt (blk_lt (g := gb466) (o := .cells #[.int .i64 a0_0, .int .i64 a0_1] 23 (0, 0)) (by (with_reducible repeat (first | refine kn_ ?_ _ | refine blk_drew ?_ | refine ka_ ?_ _)); exact BK466.out)) : gb484 ≠ gb466)); have n10_ := amk ((by rw [hg]; exact Nat.ne_of_lt (blk_lt (g := gb475) (o := .cells #[.int .i64 t469, .int .i64 t470, .slice Ao19 t471.length co19] 33 (0, 0)) (by (with_reducible repeat (first | refine kn_ ?_ _ | refine blk_drew ?_ | refine ka_ ?_ _)); exact BK475.out)) : gb475 ≠ gb484)); have n11_ := amk ((by rw [hg]; exact Nat.ne_of_gt (blk_lt (g := gb475) (o := .cells #[.int .i64 t469, .int .i64 t470, .slice Ao19 t471.length co19] 33 (0, 0)) (by (with_reducible repeat (first | refine kn_ ?_ _ | refine blk_drew ?_ | refine ka_ ?_ _)); exact BK475.out)) : gb484 ≠ gb475)); clear HO473; clear HO482; clear BK466; clear BK475; clear HB; have HO473 := n0_; have HO482 := n1_; have BK466 := n2_; have BK475 := n3_; have HB := n4_; have BK484 := n5_; have GW484 := n6_; have GE484 := n7_; have NB466_484 := n8_; have NB484_466 := n9_; have NB475_484 := n10_; have NB484_475 := n11_; clear n0_ n1_ n2_ n3_ n4_ n5_ n6_ n7_ n8_ n9_ n10_ n11_; clear hb hbox hg; have hnb24 := NB484_466.out; have hnc24 := NB466_484.out; have hnb25 := NB484_475.out; have hnc25 := NB475_484.out; have hcz26_0 : w23.cell? ⟨gb484, 0, none⟩ = some (.int .i64 0) := (blk_cell BK484.out 0).trans rfl; have hcz26_1 : w23.cell? ⟨gb484, 1, none⟩ = some (.int .i64 0) := (blk_cell BK484.out 1).trans rfl; have hcz26_2 : w23.cell? ⟨gb484, 2, none⟩ = some (.slice none 0 0) := (blk_cell BK484.out 2).trans rfl; have hfz26_0 := blk_frozen BK484.out 0; have hfz26_1 := blk_frozen BK484.out 1; have hfz26_2 := blk_frozen BK484.out 2; obtain ⟨Ao27, co27, eo27⟩ := Kd.R_slice HO482.out; subst eo27))
    (try simp only [Act.put, List.setIfInBounds_toArray, List.set_cons_zero, List.set_cons_succ])
    go_cut [46] (fun v46 wc => ∃ (kq : Nat) (x46_10 : Bool), v46 = .bool x46_10 ∧ Aside0 (laws_FnExactMakePuzzle.j0 kq a1 a2 a3 t474 x46_10 a0_0 a0_1 t469 t470 t471 t478 t479 t480 = some r) ∧ Aside0 (kq ≤ k) ∧ Aside0 (Kd.R k37 37 wc w.heap.size (fun k_ => some k_ ≠ ((.slice Ao27 t480.length co27) : Value).ownBlock) (.slice Ao19 t471.length co19) t471) ∧ Aside0 (Kd.R k37 37 wc w.heap.size (fun k_ => some k_ ≠ ((.slice Ao19 t471.length co19) : Value).ownBlock) (.slice Ao27 t480.length co27) t480) ∧ Aside0 (wc.heap[gb466]? = some (.cells #[.int .i64 a0_0, .int .i64 a0_1] 23 (0, 0))) ∧ Aside0 (wc.heap[gb475]? = some (.cells #[.int .i64 t469, .int .i64 t470, (.slice Ao19 t471.length co19)] 33 (0, 0))) ∧ Aside0 (wc.heap[gb484]? = some (.cells #[.int .i64 t478, .int .i64 t479, (.slice Ao27 t480.length co27)] 33 (0, 0))) ∧ Aside0 (Below w.heap.size w wc))
    case first =>
      have H := HC11.out
      clear HC11
      replace H := Option.bind_eq_some_iff.mp H
      obtain ⟨t485, A280, H⟩ := H
      replace H : (if t485 = true then (laws_FnExactMakePuzzle.j0 k a1 a2 a3 t474 (t483 != t474) a0_0 a0_1 t469 t470 t471 t478 t479 t480) else (laws_FnExactMakePuzzle.j0 k a1 a2 a3 t474 true a0_0 a0_1 t469 t470 t471 t478 t479 t480)) = some r := H
      have A28 := amk A280
      clear A280
      by_cases c29 : t485 = true
      · subst c29
        have H1 : (laws_FnExactMakePuzzle.j0 k a1 a2 a3 t474 (t483 != t474) a0_0 a0_1 t469 t470 t471 t478 t479 t480) = some r := by rw [if_pos rfl] at H; exact H
        clear H
        have H := H1
        clear H1
        have H' := amk H
        clear H
        have hnb30 := NB484_466.out
        have hnc30 := NB466_484.out
        have hnb31 := NB484_475.out
        have hnc31 := NB475_484.out
        have hcz32_0 : w23.cell? ⟨gb484, 0, none⟩ = some (.int .i64 0) := (blk_cell BK484.out 0).trans rfl
        have hcz32_1 : w23.cell? ⟨gb484, 1, none⟩ = some (.int .i64 0) := (blk_cell BK484.out 1).trans rfl
        have hcz32_2 : w23.cell? ⟨gb484, 2, none⟩ = some (.slice none 0 0) := (blk_cell BK484.out 2).trans rfl
        have hfz32_0 := blk_frozen BK484.out 0
        have hfz32_1 := blk_frozen BK484.out 1
        have hfz32_2 := blk_frozen BK484.out 2
        have hnb33 := NB475_466.out
        have hnc33 := NB466_475.out
        have hcz34_0 : w23.cell? ⟨gb475, 0, none⟩ = some (.int .i64 t469) := (blk_cell BK475.out 0).trans rfl
        have hcz34_1 : w23.cell? ⟨gb475, 1, none⟩ = some (.int .i64 t470) := (blk_cell BK475.out 1).trans rfl
        have hcz34_2 : w23.cell? ⟨gb475, 2, none⟩ = some (.slice Ao19 t471.length co19) := (blk_cell BK475.out 2).trans rfl
        have hfz34_0 := blk_frozen BK475.out 0
        have hfz34_1 := blk_frozen BK475.out 1
        have hfz34_2 := blk_frozen BK475.out 2
        go_wp2_with (first | ((with_reducible refine gate_callee (f := 11) rfl ?_); refine goesL_ (some 40) rfl rfl Try.func11 (by kernel_rfl) rfl #[.agg #[.int .i64 t478, .int .i64 t479, .slice Ao27 t480.length co27], .agg #[.int .i64 t469, .int .i64 t470, .slice Ao19 t471.length co19]] rfl (by (try simp only [List.map_toArray, List.map_cons, List.map_nil]); first | done | rfl | (simp only [List.length_drop, List.length_take]; rfl)) ?_; (with_reducible refine (laws_eqPuzzle.calls k t478 t479 _ _ t480 t469 t470 _ _ t471 true _ ?side1 ?side2 ?side3 ?side4 A28.out).mono ?_); (case side1 => refine (Kd.R_reads' (e := 37) (base := w.heap.size) (ok := fun k_ => (True ∧ some k_ ≠ (.slice Ao19 t471.length co19 : Value).ownBlock)) (n := t480.length) (c := co27) ?_).2.2; exact (by (with_reducible repeat (first | apply Kd.R_alloc | apply Kd.R_drewN | apply Kd.R_drew)); exact (Kd.R_mono (Kd.R_far (p := ⟨gb484, 2, none⟩) (Kd.R_far (p := ⟨gb484, 1, none⟩) (Kd.R_far (p := ⟨gb484, 0, none⟩) (Kd.R_types HO482.out BK484.out (by decide)) (fun _ hk => hk.2) (.int .i64 t478)) (fun _ hk => hk.2) (.int .i64 t479)) (fun _ hk => hk.2) (.slice Ao27 t480.length co27)) (fun _ h_ => h_.1)))); (case side2 => exact (Kd.R_reads' HO482.out).2.1); (case side3 => refine (Kd.R_reads' (e := 37) (base := w.heap.size) (ok := fun k_ => (True ∧ some k_ ≠ (.slice Ao27 t480.length co27 : Value).ownBlock)) (n := t471.length) (c := co19) ?_).2.2; exact (by (with_reducible repeat (first | apply Kd.R_alloc | apply Kd.R_drewN | apply Kd.R_drew)); exact (Kd.R_mono (Kd.R_far (p := ⟨gb484, 2, none⟩) (Kd.R_far (p := ⟨gb484, 1, none⟩) (Kd.R_far (p := ⟨gb484, 0, none⟩) (Kd.R_types HO473.out BK484.out (by decide)) (fun _ hk => hk.2) (.int .i64 t478)) (fun _ hk => hk.2) (.int .i64 t479)) (fun _ hk => hk.2) (.slice Ao27 t480.length co27)) (fun _ h_ => h_.1)))); (case side4 => exact (Kd.R_reads' HO473.out).2.1); rintro e w35 ⟨rfl, hb⟩; refine ⟨_, rfl, ?_⟩; have n0_ := amk (Kd.R_below (by (with_reducible repeat (first | apply Kd.R_alloc | apply Kd.R_drewN | apply Kd.R_drew)); exact (Kd.R_mono (Kd.R_far (p := ⟨gb484, 2, none⟩) (Kd.R_far (p := ⟨gb484, 1, none⟩) (Kd.R_far (p := ⟨gb484, 0, none⟩) (Kd.R_types HO473.out BK484.out (by decide)) (fun _ hk => hk.2) (.int .i64 t478)) (fun _ hk => hk.2) (.int .i64 t479)) (fun _ hk => hk.2) (.slice Ao27 t480.length co27)) (fun _ h_ => h_.1))) hb); have n1_ := amk (Kd.R_below (by (with_reducible repeat (first | apply Kd.R_alloc | apply Kd.R_drewN | apply Kd.R_drew)); exact (Kd.R_mono (Kd.R_far (p := ⟨gb484, 2, none⟩) (Kd.R_far (p := ⟨gb484, 1, none⟩) (Kd.R_far (p := ⟨gb484, 0, none⟩) (Kd.R_types HO482.out BK484.out (by decide)) (fun _ hk => hk.2) (.int .i64 t478)) (fun _ hk => hk.2) (.int .i64 t479)) (fun _ hk => hk.2) (.slice Ao27 t480.length co27)) (fun _ h_ => h_.1))) hb); have n2_ := amk (blk_below (g := gb466) (o := .cells #[.int .i64 a0_0, .int .i64 a0_1] 23 (0, 0)) (by (with_reducible repeat (first | refine kn_ ?_ _ | refine blk_drew ?_ | refine ka_ ?_ _)); refine blk_far ?_ NB466_484.out _; (with_reducible repeat (first | refine kn_ ?_ _ | refine blk_drew ?_ | refine ka_ ?_ _)); refine blk_far ?_ NB466_484.out _; (with_reducible repeat (first | refine kn_ ?_ _ | refine blk_drew ?_ | refine ka_ ?_ _)); refine blk_far ?_ NB466_484.out _; (with_reducible repeat (first | refine kn_ ?_ _ | refine blk_drew ?_ | refine ka_ ?_ _)); exact BK466.out) hb); have n3_ := amk (blk_below (g := gb475) (o := .cells #[.int .i64 t469, .int .i64 t470, .slice Ao19 t471.length co19] 33 (0, 0)) (by (with_reducible repeat (first | refine kn_ ?_ _ | refine blk_drew ?_ | refine ka_ ?_ _)); refine blk_far ?_ NB475_484.out _; (with_reducible repeat (first | refine kn_ ?_ _ | refine blk_drew ?_ | refine ka_ ?_ _)); refine blk_far ?_ NB475_484.out _; (with_reducible repeat (first | refine kn_ ?_ _ | refine blk_drew ?_ | refine ka_ ?_ _)); refine blk_far ?_ NB475_484.out _; (with_reducible repeat (first | refine kn_ ?_ _ | refine blk_drew ?_ | refine ka_ ?_ _)); exact BK475.out) hb); have n4_ := amk (blk_below (g := gb484) (o := .cells #[.int .i64 t478, .int .i64 t479, .slice Ao27 t480.length co27] 33 (0, 0)) (by (with_reducible repeat (first | refine kn_ ?_ _ | refine blk_drew ?_ | refine ka_ ?_ _)); refine blk_put (cs := #[.int .i64 t478, .int .i64 t479, .slice none 0 0]) ?_ 2 _ rfl; (with_reducible repeat (first | refine kn_ ?_ _ | refine blk_drew ?_ | refine ka_ ?_ _)); refine blk_put (cs := #[.int .i64 t478, .int .i64 0, .slice none 0 0]) ?_ 1 _ rfl; (with_reducible repeat (first | refine kn_ ?_ _ | refine blk_drew ?_ | refine ka_ ?_ _)); refine blk_put (cs := #[.int .i64 0, .int .i64 0, .slice none 0 0]) ?_ 0 _ rfl; (with_reducible repeat (first | refine kn_ ?_ _ | refine blk_drew ?_ | refine ka_ ?_ _)); exact BK484.out) hb); have n5_ := amk (bp_ (by repeat (first | (with_reducible first | exact HB.out | apply ba_ | apply bn_ | apply bd_ | refine bs_ ?_ GE466.out | refine bs_ ?_ GE475.out | refine bs_ ?_ GE484.out) | exact HB.out)) hb); clear HO473; clear HO482; clear BK466; clear BK475; clear BK484; clear HB; have HO473 := n0_; have HO482 := n1_; have BK466 := n2_; have BK475 := n3_; have BK484 := n4_; have HB := n5_; clear n0_ n1_ n2_ n3_ n4_ n5_; (try clear hb); (try clear hb2); (try clear hk); (try clear hi)))
        go_meet
        case rel => exact ⟨_, ((t483 != t474)), (by first | rfl | (simp; done) | (simp [*]; done)), H', ⟨by first | omega | exact Nat.le_refl _⟩, ⟨by (with_reducible repeat (first | apply Kd.R_alloc | apply Kd.R_drewN | apply Kd.R_drew)); exact Kd.R_mono HO473.out (fun _ hk => hk.2)⟩, ⟨by (with_reducible repeat (first | apply Kd.R_alloc | apply Kd.R_drewN | apply Kd.R_drew)); exact Kd.R_mono HO482.out (fun _ hk => hk.2)⟩, ⟨by (with_reducible repeat (first | refine kn_ ?_ _ | refine blk_drew ?_ | refine ka_ ?_ _)); exact BK466.out⟩, ⟨by (with_reducible repeat (first | refine kn_ ?_ _ | refine blk_drew ?_ | refine ka_ ?_ _)); exact BK475.out⟩, ⟨by (with_reducible repeat (first | refine kn_ ?_ _ | refine blk_drew ?_ | refine ka_ ?_ _)); exact BK484.out⟩, ⟨by repeat (first | (with_reducible first | exact HB.out | apply ba_ | apply bn_ | apply bd_ | refine bs_ ?_ GE466.out | refine bs_ ?_ GE475.out | refine bs_ ?_ GE484.out) | exact HB.out)⟩⟩
      · replace c29 := Bool.eq_false_iff.mpr c29
        subst c29
        have H1 : (laws_FnExactMakePuzzle.j0 k a1 a2 a3 t474 true a0_0 a0_1 t469 t470 t471 t478 t479 t480) = some r := by rw [if_neg (show ¬ (false = true) by decide)] at H; exact H
        clear H
        have H := H1
        clear H1
        have H' := amk H
        clear H
        have hnb36 := NB484_466.out
        have hnc36 := NB466_484.out
        have hnb37 := NB484_475.out
        have hnc37 := NB475_484.out
        have hcz38_0 : w23.cell? ⟨gb484, 0, none⟩ = some (.int .i64 0) := (blk_cell BK484.out 0).trans rfl
        have hcz38_1 : w23.cell? ⟨gb484, 1, none⟩ = some (.int .i64 0) := (blk_cell BK484.out 1).trans rfl
        have hcz38_2 : w23.cell? ⟨gb484, 2, none⟩ = some (.slice none 0 0) := (blk_cell BK484.out 2).trans rfl
        have hfz38_0 := blk_frozen BK484.out 0
        have hfz38_1 := blk_frozen BK484.out 1
        have hfz38_2 := blk_frozen BK484.out 2
        have hnb39 := NB475_466.out
        have hnc39 := NB466_475.out
        have hcz40_0 : w23.cell? ⟨gb475, 0, none⟩ = some (.int .i64 t469) := (blk_cell BK475.out 0).trans rfl
        have hcz40_1 : w23.cell? ⟨gb475, 1, none⟩ = some (.int .i64 t470) := (blk_cell BK475.out 1).trans rfl
        have hcz40_2 : w23.cell? ⟨gb475, 2, none⟩ = some (.slice Ao19 t471.length co19) := (blk_cell BK475.out 2).trans rfl
        have hfz40_0 := blk_frozen BK475.out 0
        have hfz40_1 := blk_frozen BK475.out 1
        have hfz40_2 := blk_frozen BK475.out 2
        go_wp2_with (first | ((with_reducible refine gate_callee (f := 11) rfl ?_); refine goesL_ (some 40) rfl rfl Try.func11 (by kernel_rfl) rfl #[.agg #[.int .i64 t478, .int .i64 t479, .slice Ao27 t480.length co27], .agg #[.int .i64 t469, .int .i64 t470, .slice Ao19 t471.length co19]] rfl (by (try simp only [List.map_toArray, List.map_cons, List.map_nil]); first | done | rfl | (simp only [List.length_drop, List.length_take]; rfl)) ?_; (with_reducible refine (laws_eqPuzzle.calls k t478 t479 _ _ t480 t469 t470 _ _ t471 false _ ?side1 ?side2 ?side3 ?side4 A28.out).mono ?_); (case side1 => refine (Kd.R_reads' (e := 37) (base := w.heap.size) (ok := fun k_ => (True ∧ some k_ ≠ (.slice Ao19 t471.length co19 : Value).ownBlock)) (n := t480.length) (c := co27) ?_).2.2; exact (by (with_reducible repeat (first | apply Kd.R_alloc | apply Kd.R_drewN | apply Kd.R_drew)); exact (Kd.R_mono (Kd.R_far (p := ⟨gb484, 2, none⟩) (Kd.R_far (p := ⟨gb484, 1, none⟩) (Kd.R_far (p := ⟨gb484, 0, none⟩) (Kd.R_types HO482.out BK484.out (by decide)) (fun _ hk => hk.2) (.int .i64 t478)) (fun _ hk => hk.2) (.int .i64 t479)) (fun _ hk => hk.2) (.slice Ao27 t480.length co27)) (fun _ h_ => h_.1)))); (case side2 => exact (Kd.R_reads' HO482.out).2.1); (case side3 => refine (Kd.R_reads' (e := 37) (base := w.heap.size) (ok := fun k_ => (True ∧ some k_ ≠ (.slice Ao27 t480.length co27 : Value).ownBlock)) (n := t471.length) (c := co19) ?_).2.2; exact (by (with_reducible repeat (first | apply Kd.R_alloc | apply Kd.R_drewN | apply Kd.R_drew)); exact (Kd.R_mono (Kd.R_far (p := ⟨gb484, 2, none⟩) (Kd.R_far (p := ⟨gb484, 1, none⟩) (Kd.R_far (p := ⟨gb484, 0, none⟩) (Kd.R_types HO473.out BK484.out (by decide)) (fun _ hk => hk.2) (.int .i64 t478)) (fun _ hk => hk.2) (.int .i64 t479)) (fun _ hk => hk.2) (.slice Ao27 t480.length co27)) (fun _ h_ => h_.1)))); (case side4 => exact (Kd.R_reads' HO473.out).2.1); rintro e w41 ⟨rfl, hb⟩; refine ⟨_, rfl, ?_⟩; have n0_ := amk (Kd.R_below (by (with_reducible repeat (first | apply Kd.R_alloc | apply Kd.R_drewN | apply Kd.R_drew)); exact (Kd.R_mono (Kd.R_far (p := ⟨gb484, 2, none⟩) (Kd.R_far (p := ⟨gb484, 1, none⟩) (Kd.R_far (p := ⟨gb484, 0, none⟩) (Kd.R_types HO473.out BK484.out (by decide)) (fun _ hk => hk.2) (.int .i64 t478)) (fun _ hk => hk.2) (.int .i64 t479)) (fun _ hk => hk.2) (.slice Ao27 t480.length co27)) (fun _ h_ => h_.1))) hb); have n1_ := amk (Kd.R_below (by (with_reducible repeat (first | apply Kd.R_alloc | apply Kd.R_drewN | apply Kd.R_drew)); exact (Kd.R_mono (Kd.R_far (p := ⟨gb484, 2, none⟩) (Kd.R_far (p := ⟨gb484, 1, none⟩) (Kd.R_far (p := ⟨gb484, 0, none⟩) (Kd.R_types HO482.out BK484.out (by decide)) (fun _ hk => hk.2) (.int .i64 t478)) (fun _ hk => hk.2) (.int .i64 t479)) (fun _ hk => hk.2) (.slice Ao27 t480.length co27)) (fun _ h_ => h_.1))) hb); have n2_ := amk (blk_below (g := gb466) (o := .cells #[.int .i64 a0_0, .int .i64 a0_1] 23 (0, 0)) (by (with_reducible repeat (first | refine kn_ ?_ _ | refine blk_drew ?_ | refine ka_ ?_ _)); refine blk_far ?_ NB466_484.out _; (with_reducible repeat (first | refine kn_ ?_ _ | refine blk_drew ?_ | refine ka_ ?_ _)); refine blk_far ?_ NB466_484.out _; (with_reducible repeat (first | refine kn_ ?_ _ | refine blk_drew ?_ | refine ka_ ?_ _)); refine blk_far ?_ NB466_484.out _; (with_reducible repeat (first | refine kn_ ?_ _ | refine blk_drew ?_ | refine ka_ ?_ _)); exact BK466.out) hb); have n3_ := amk (blk_below (g := gb475) (o := .cells #[.int .i64 t469, .int .i64 t470, .slice Ao19 t471.length co19] 33 (0, 0)) (by (with_reducible repeat (first | refine kn_ ?_ _ | refine blk_drew ?_ | refine ka_ ?_ _)); refine blk_far ?_ NB475_484.out _; (with_reducible repeat (first | refine kn_ ?_ _ | refine blk_drew ?_ | refine ka_ ?_ _)); refine blk_far ?_ NB475_484.out _; (with_reducible repeat (first | refine kn_ ?_ _ | refine blk_drew ?_ | refine ka_ ?_ _)); refine blk_far ?_ NB475_484.out _; (with_reducible repeat (first | refine kn_ ?_ _ | refine blk_drew ?_ | refine ka_ ?_ _)); exact BK475.out) hb); have n4_ := amk (blk_below (g := gb484) (o := .cells #[.int .i64 t478, .int .i64 t479, .slice Ao27 t480.length co27] 33 (0, 0)) (by (with_reducible repeat (first | refine kn_ ?_ _ | refine blk_drew ?_ | refine ka_ ?_ _)); refine blk_put (cs := #[.int .i64 t478, .int .i64 t479, .slice none 0 0]) ?_ 2 _ rfl; (with_reducible repeat (first | refine kn_ ?_ _ | refine blk_drew ?_ | refine ka_ ?_ _)); refine blk_put (cs := #[.int .i64 t478, .int .i64 0, .slice none 0 0]) ?_ 1 _ rfl; (with_reducible repeat (first | refine kn_ ?_ _ | refine blk_drew ?_ | refine ka_ ?_ _)); refine blk_put (cs := #[.int .i64 0, .int .i64 0, .slice none 0 0]) ?_ 0 _ rfl; (with_reducible repeat (first | refine kn_ ?_ _ | refine blk_drew ?_ | refine ka_ ?_ _)); exact BK484.out) hb); have n5_ := amk (bp_ (by repeat (first | (with_reducible first | exact HB.out | apply ba_ | apply bn_ | apply bd_ | refine bs_ ?_ GE466.out | refine bs_ ?_ GE475.out | refine bs_ ?_ GE484.out) | exact HB.out)) hb); clear HO473; clear HO482; clear BK466; clear BK475; clear BK484; clear HB; have HO473 := n0_; have HO482 := n1_; have BK466 := n2_; have BK475 := n3_; have BK484 := n4_; have HB := n5_; clear n0_ n1_ n2_ n3_ n4_ n5_; (try clear hb); (try clear hb2); (try clear hk); (try clear hi)))
        go_meet
        case rel => exact ⟨_, (true), (by first | rfl | (simp; done) | (simp [*]; done)), H', ⟨by first | omega | exact Nat.le_refl _⟩, ⟨by (with_reducible repeat (first | apply Kd.R_alloc | apply Kd.R_drewN | apply Kd.R_drew)); exact Kd.R_mono HO473.out (fun _ hk => hk.2)⟩, ⟨by (with_reducible repeat (first | apply Kd.R_alloc | apply Kd.R_drewN | apply Kd.R_drew)); exact Kd.R_mono HO482.out (fun _ hk => hk.2)⟩, ⟨by (with_reducible repeat (first | refine kn_ ?_ _ | refine blk_drew ?_ | refine ka_ ?_ _)); exact BK466.out⟩, ⟨by (with_reducible repeat (first | refine kn_ ?_ _ | refine blk_drew ?_ | refine ka_ ?_ _)); exact BK475.out⟩, ⟨by (with_reducible repeat (first | refine kn_ ?_ _ | refine blk_drew ?_ | refine ka_ ?_ _)); exact BK484.out⟩, ⟨by repeat (first | (with_reducible first | exact HB.out | apply ba_ | apply bn_ | apply bd_ | refine bs_ ?_ GE466.out | refine bs_ ?_ GE475.out | refine bs_ ?_ GE484.out) | exact HB.out)⟩⟩
    case rest =>
      clear HC11
      try clear c1; try clear c2; try clear p2; try clear c3; try clear c4; try clear c5; try clear c5b0; try clear c5b1; try clear c11; try clear c14; try clear c15; try clear c16; try clear c17; try clear c24; try clear c25; try clear c29; try clear c30; try clear c31; try clear c33; try clear c36; try clear c37; try clear c39; try clear hcz13_0; try clear hcz13_1; try clear hcz18_0; try clear hcz18_1; try clear hcz18_2; try clear hcz20_0; try clear hcz20_1; try clear hcz26_0; try clear hcz26_1; try clear hcz26_2; try clear hcz32_0; try clear hcz32_1; try clear hcz32_2; try clear hcz34_0; try clear hcz34_1; try clear hcz34_2; try clear hcz38_0; try clear hcz38_1; try clear hcz38_2; try clear hcz40_0; try clear hcz40_1; try clear hcz40_2; try clear hfz13_0; try clear hfz13_1; try clear hfz18_0; try clear hfz18_1; try clear hfz18_2; try clear hfz20_0; try clear hfz20_1; try clear hfz26_0; try clear hfz26_1; try clear hfz26_2; try clear hfz32_0; try clear hfz32_1; try clear hfz32_2; try clear hfz34_0; try clear hfz34_1; try clear hfz34_2; try clear hfz38_0; try clear hfz38_1; try clear hfz38_2; try clear hfz40_0; try clear hfz40_1; try clear hfz40_2
      obtain ⟨kq, x46_10, rfl, HA, HJ10, HO_476002, HO_485002, BK466, BK475, BK484, HB⟩ := hcut
      cases kq with
      | zero => exact absurd HA.out (by simp [laws_FnExactMakePuzzle.j0])
      | succ kj10 =>
        have H := HA.out
        clear HA
        simp only [laws_FnExactMakePuzzle.j0] at H
        by_cases c42 : x46_10 = true
        · subst c42
          have H1 : (some false) = some r := by rw [if_pos rfl] at H; exact H
          clear H
          have H := H1
          clear H1
          obtain rfl := Option.some.inj H
          go_wp2
          go_ret
          exact ⟨by first | rfl | (simp [errW_none, errW_some] <;> rfl) | (simp [*, errW_none, errW_some] <;> rfl), by repeat (first | (with_reducible first | exact HB.out | apply ba_ | apply bn_ | apply bd_ | refine bs_ ?_ GE466.out | refine bs_ ?_ GE475.out | refine bs_ ?_ GE484.out) | exact HB.out)⟩
        · replace c42 := Bool.eq_false_iff.mpr c42
          subst c42
          have H1 : ((laws_markPuzzle.f kj10 t478 t479 t480 1).bind fun bt486 => ((laws_heldPuzzle.f kj10 t478 t479 bt486.2 1).bind fun t488 => (if t488 < 0 then (some false) else (if t488 = bt486.1 then ((laws_toLock.f a0_0 a0_1).bind fun bt489 => ((impl_MakePuzzle.f kj10 bt489.1 bt489.2 a1 a2 a3).bind fun bt491 => ((laws_eqPuzzle.f kj10 bt491.1 bt491.2.1 bt491.2.2.1 t469 t470 t471).bind fun t498 => (if t498 = true then (laws_FnExactMakePuzzle.j1 kj10 bt486.1 (bt491.2.2.2 != t474) t478 t479 bt486.2) else (laws_FnExactMakePuzzle.j1 kj10 bt486.1 true t478 t479 bt486.2))))) else (some false))))) = some r := by rw [if_neg (show ¬ (false = true) by decide)] at H; exact H
          clear H
          have H := H1
          clear H1
          replace H := Option.bind_eq_some_iff.mp H
          obtain ⟨⟨t486, t487⟩, A430, H⟩ := H
          replace H : ((laws_heldPuzzle.f kj10 t478 t479 t487 1).bind fun t488 => (if t488 < 0 then (some false) else (if t488 = t486 then ((laws_toLock.f a0_0 a0_1).bind fun bt489 => ((impl_MakePuzzle.f kj10 bt489.1 bt489.2 a1 a2 a3).bind fun bt491 => ((laws_eqPuzzle.f kj10 bt491.1 bt491.2.1 bt491.2.2.1 t469 t470 t471).bind fun t498 => (if t498 = true then (laws_FnExactMakePuzzle.j1 kj10 t486 (bt491.2.2.2 != t474) t478 t479 t487) else (laws_FnExactMakePuzzle.j1 kj10 t486 true t478 t479 t487))))) else (some false)))) = some r := H
          have A43 := amk A430
          clear A430
          replace H := Option.bind_eq_some_iff.mp H
          obtain ⟨t488, A440, H⟩ := H
          replace H : (if t488 < 0 then (some false) else (if t488 = t486 then ((laws_toLock.f a0_0 a0_1).bind fun bt489 => ((impl_MakePuzzle.f kj10 bt489.1 bt489.2 a1 a2 a3).bind fun bt491 => ((laws_eqPuzzle.f kj10 bt491.1 bt491.2.1 bt491.2.2.1 t469 t470 t471).bind fun t498 => (if t498 = true then (laws_FnExactMakePuzzle.j1 kj10 t486 (bt491.2.2.2 != t474) t478 t479 t487) else (laws_FnExactMakePuzzle.j1 kj10 t486 true t478 t479 t487))))) else (some false))) = some r := H
          have A44 := amk A440
          clear A440
          by_cases c45 : t488 < 0
          · rw [if_pos c45] at H
            have c45b0 : decide (t488 < 0) = true := decide_eq_true c45
            clear c45
            obtain rfl := Option.some.inj H
            have hnb46 := NB484_466.out
            have hnc46 := NB466_484.out
            have hnb47 := NB484_475.out
            have hnc47 := NB475_484.out
            have hcz48_0 : wc.cell? ⟨gb484, 0, none⟩ = some (.int .i64 t478) := (blk_cell BK484.out 0).trans rfl
            have hcz48_1 : wc.cell? ⟨gb484, 1, none⟩ = some (.int .i64 t479) := (blk_cell BK484.out 1).trans rfl
            have hcz48_2 : wc.cell? ⟨gb484, 2, none⟩ = some (.slice Ao27 t480.length co27) := (blk_cell BK484.out 2).trans rfl
            have hfz48_0 := blk_frozen BK484.out 0
            have hfz48_1 := blk_frozen BK484.out 1
            have hfz48_2 := blk_frozen BK484.out 2
            go_wp2_with (first | ((with_reducible refine gate_callee (f := 12) rfl ?_); refine goesL_ (some 49) rfl rfl Try.func12 (by kernel_rfl) rfl #[.agg #[.int .i64 t478, .int .i64 t479, .slice Ao27 t480.length co27], .int .i64 1] rfl (by (try simp only [List.map_toArray, List.map_cons, List.map_nil]); first | done | rfl | (simp only [List.length_drop, List.length_take]; rfl)) ?_; (with_reducible refine (laws_markPuzzle.calls kj10 t478 t479 (fun k_ => some k_ = (.slice Ao27 t480.length co27 : Value).ownBlock) (.slice Ao27 t480.length co27) t480 1 t486 t487 w _ ?side1 ?side2 A43.out).mono ?_); (case side1 => repeat (first | (with_reducible first | exact HB.out | apply ba_ | apply bn_ | apply bd_ | refine bs_ ?_ GE466.out | refine bs_ ?_ GE475.out | refine bs_ ?_ GE484.out) | exact HB.out)); (case side2 => exact Kd.R_tight rfl HO_485002.out); rintro e w49 ⟨rfl, hy0, hb, hkp⟩; refine ⟨_, rfl, ?_⟩; have n0_ := amk (Kd.R_mono (ok' := fun k_ => some k_ ≠ (.slice Ao27 t480.length co27 : Value).ownBlock) (Kd.R_keptB (HO_476002.out) hkp (fun k_ hk_ hs_ => (hk_) hs_)) (fun k_ hk_ => hk_.1)); have n1_ := amk (Kd.R_reok rfl hy0 (fun k_ e_ => HO_485002.out.1 k_ e_)); have n2_ := amk (blk_kept (by (with_reducible repeat (first | refine kn_ ?_ _ | refine blk_drew ?_ | refine ka_ ?_ _)); exact BK466.out) hkp (fun hs_ => (fun e_ => (Kd.R_ne HO_485002.out BK466.out (by decide)) e_) hs_)); have n3_ := amk (blk_kept (by (with_reducible repeat (first | refine kn_ ?_ _ | refine blk_drew ?_ | refine ka_ ?_ _)); exact BK475.out) hkp (fun hs_ => (fun e_ => (Kd.R_ne HO_485002.out BK475.out (by decide)) e_) hs_)); have n4_ := amk (blk_kept (by (with_reducible repeat (first | refine kn_ ?_ _ | refine blk_drew ?_ | refine ka_ ?_ _)); exact BK484.out) hkp (fun hs_ => (fun e_ => (Kd.R_ne HO_485002.out BK484.out (by decide)) e_) hs_)); have n5_ := amk (hb); clear HO_476002; clear HO_485002; clear BK466; clear BK475; clear BK484; clear HB; have HO_476002 := n0_; have HO_485002 := n1_; have BK466 := n2_; have BK475 := n3_; have BK484 := n4_; have HB := n5_; clear n0_ n1_ n2_ n3_ n4_ n5_; (try clear hb); (try clear hkp); (try clear hy0); have hcz50_0 : w49.cell? ⟨gb484, 0, none⟩ = some (.int .i64 t478) := (blk_cell BK484.out 0).trans rfl; have hcz50_1 : w49.cell? ⟨gb484, 1, none⟩ = some (.int .i64 t479) := (blk_cell BK484.out 1).trans rfl; have hcz50_2 : w49.cell? ⟨gb484, 2, none⟩ = some (.slice Ao27 t480.length co27) := (blk_cell BK484.out 2).trans rfl; have hfz50_0 := blk_frozen BK484.out 0; have hfz50_1 := blk_frozen BK484.out 1; have hfz50_2 := blk_frozen BK484.out 2) | ((with_reducible refine gate_callee (f := 13) rfl ?_); refine goesL_ (some 52) rfl rfl Try.func13 (by kernel_rfl) rfl #[.agg #[.int .i64 t478, .int .i64 t479, .slice Ao27 t487.length co27], .int .i64 1] rfl (by (try simp only [List.map_toArray, List.map_cons, List.map_nil]); first | done | (rw [show t487.length = t480.length from (Kd.R_reads' HO_485002.out).1.symm] <;> rfl) | rfl | (simp only [List.length_drop, List.length_take]; rfl)) ?_; (with_reducible refine (laws_heldPuzzle.calls kj10 t478 t479 _ _ t487 1 t488 _ ?side1 ?side2 A44.out).mono ?_); (case side1 => repeat (first | exact (Kd.R_reads' HO_485002.out).2.2 | (with_reducible refine Kd.C_alloc ?_ _) | (with_reducible refine Kd.C_drewN ?_ _) | (with_reducible refine Kd.C_drew ?_))); (case side2 => rw [show t487.length = t480.length from (Kd.R_reads' HO_485002.out).1.symm]; exact (Kd.R_reads' HO_485002.out).2.1); rintro e w51 ⟨rfl, hb⟩; refine ⟨_, rfl, ?_⟩; have n0_ := amk (Kd.R_below (by (with_reducible repeat (first | apply Kd.R_alloc | apply Kd.R_drewN | apply Kd.R_drew)); exact HO_476002.out) hb); have n1_ := amk (Kd.R_below (by (with_reducible repeat (first | apply Kd.R_alloc | apply Kd.R_drewN | apply Kd.R_drew)); exact HO_485002.out) hb); have n2_ := amk (blk_below (g := gb466) (o := .cells #[.int .i64 a0_0, .int .i64 a0_1] 23 (0, 0)) (by (with_reducible repeat (first | refine kn_ ?_ _ | refine blk_drew ?_ | refine ka_ ?_ _)); exact BK466.out) hb); have n3_ := amk (blk_below (g := gb475) (o := .cells #[.int .i64 t469, .int .i64 t470, .slice Ao19 t471.length co19] 33 (0, 0)) (by (with_reducible repeat (first | refine kn_ ?_ _ | refine blk_drew ?_ | refine ka_ ?_ _)); exact BK475.out) hb); have n4_ := amk (blk_below (g := gb484) (o := .cells #[.int .i64 t478, .int .i64 t479, .slice Ao27 t480.length co27] 33 (0, 0)) (by (with_reducible repeat (first | refine kn_ ?_ _ | refine blk_drew ?_ | refine ka_ ?_ _)); exact BK484.out) hb); have n5_ := amk (bp_ (by repeat (first | (with_reducible first | exact HB.out | apply ba_ | apply bn_ | apply bd_ | refine bs_ ?_ GE466.out | refine bs_ ?_ GE475.out | refine bs_ ?_ GE484.out) | exact HB.out)) hb); clear HO_476002; clear HO_485002; clear BK466; clear BK475; clear BK484; clear HB; have HO_476002 := n0_; have HO_485002 := n1_; have BK466 := n2_; have BK475 := n3_; have BK484 := n4_; have HB := n5_; clear n0_ n1_ n2_ n3_ n4_ n5_; (try clear hb); (try clear hb2); (try clear hk); (try clear hi)))
            go_ret
            exact ⟨by first | rfl | (simp [errW_none, errW_some] <;> rfl) | (simp [*, errW_none, errW_some] <;> rfl), by repeat (first | (with_reducible first | exact HB.out | apply ba_ | apply bn_ | apply bd_ | refine bs_ ?_ GE466.out | refine bs_ ?_ GE475.out | refine bs_ ?_ GE484.out) | exact HB.out)⟩
          · rw [if_neg c45] at H
            have c45b0 : decide (t488 < 0) = false := decide_eq_false c45
            clear c45
            by_cases c52 : t488 = t486
            · rw [if_pos c52] at H
              have c52b0 : (t488 == t486) = true := beq_iff_eq.mpr c52
              have c52b1 : (t488 != t486) = false := bne_eq_false_iff_eq.mpr c52
              clear c52
              replace H := Option.bind_eq_some_iff.mp H
              obtain ⟨⟨t489, t490⟩, A530, H⟩ := H
              replace H : ((impl_MakePuzzle.f kj10 t489 t490 a1 a2 a3).bind fun bt491 => ((laws_eqPuzzle.f kj10 bt491.1 bt491.2.1 bt491.2.2.1 t469 t470 t471).bind fun t498 => (if t498 = true then (laws_FnExactMakePuzzle.j1 kj10 t486 (bt491.2.2.2 != t474) t478 t479 t487) else (laws_FnExactMakePuzzle.j1 kj10 t486 true t478 t479 t487)))) = some r := H
              have A53 := amk A530
              clear A530
              replace H := Option.bind_eq_some_iff.mp H
              obtain ⟨⟨t491, t492, t493, t496⟩, A540, H⟩ := H
              replace H : ((laws_eqPuzzle.f kj10 t491 t492 t493 t469 t470 t471).bind fun t498 => (if t498 = true then (laws_FnExactMakePuzzle.j1 kj10 t486 (t496 != t474) t478 t479 t487) else (laws_FnExactMakePuzzle.j1 kj10 t486 true t478 t479 t487))) = some r := H
              have A54 := amk A540
              clear A540
              have HC55 := amk H
              clear H
              have hnb56 := NB484_466.out
              have hnc56 := NB466_484.out
              have hnb57 := NB484_475.out
              have hnc57 := NB475_484.out
              have hcz58_0 : wc.cell? ⟨gb484, 0, none⟩ = some (.int .i64 t478) := (blk_cell BK484.out 0).trans rfl
              have hcz58_1 : wc.cell? ⟨gb484, 1, none⟩ = some (.int .i64 t479) := (blk_cell BK484.out 1).trans rfl
              have hcz58_2 : wc.cell? ⟨gb484, 2, none⟩ = some (.slice Ao27 t480.length co27) := (blk_cell BK484.out 2).trans rfl
              have hfz58_0 := blk_frozen BK484.out 0
              have hfz58_1 := blk_frozen BK484.out 1
              have hfz58_2 := blk_frozen BK484.out 2
              go_upto_region 16 with (first | ((with_reducible refine gate_callee (f := 12) rfl ?_); refine goesL_ (some 49) rfl rfl Try.func12 (by kernel_rfl) rfl #[.agg #[.int .i64 t478, .int .i64 t479, .slice Ao27 t480.length co27], .int .i64 1] rfl (by (try simp only [List.map_toArray, List.map_cons, List.map_nil]); first | done | rfl | (simp only [List.length_drop, List.length_take]; rfl)) ?_; (with_reducible refine (laws_markPuzzle.calls kj10 t478 t479 (fun k_ => some k_ = (.slice Ao27 t480.length co27 : Value).ownBlock) (.slice Ao27 t480.length co27) t480 1 t486 t487 w _ ?side1 ?side2 A43.out).mono ?_); (case side1 => repeat (first | (with_reducible first | exact HB.out | apply ba_ | apply bn_ | apply bd_ | refine bs_ ?_ GE466.out | refine bs_ ?_ GE475.out | refine bs_ ?_ GE484.out) | exact HB.out)); (case side2 => exact Kd.R_tight rfl HO_485002.out); rintro e w59 ⟨rfl, hy0, hb, hkp⟩; refine ⟨_, rfl, ?_⟩; have n0_ := amk (Kd.R_mono (ok' := fun k_ => some k_ ≠ (.slice Ao27 t480.length co27 : Value).ownBlock) (Kd.R_keptB (HO_476002.out) hkp (fun k_ hk_ hs_ => (hk_) hs_)) (fun k_ hk_ => hk_.1)); have n1_ := amk (Kd.R_reok rfl hy0 (fun k_ e_ => HO_485002.out.1 k_ e_)); have n2_ := amk (blk_kept (by (with_reducible repeat (first | refine kn_ ?_ _ | refine blk_drew ?_ | refine ka_ ?_ _)); exact BK466.out) hkp (fun hs_ => (fun e_ => (Kd.R_ne HO_485002.out BK466.out (by decide)) e_) hs_)); have n3_ := amk (blk_kept (by (with_reducible repeat (first | refine kn_ ?_ _ | refine blk_drew ?_ | refine ka_ ?_ _)); exact BK475.out) hkp (fun hs_ => (fun e_ => (Kd.R_ne HO_485002.out BK475.out (by decide)) e_) hs_)); have n4_ := amk (blk_kept (by (with_reducible repeat (first | refine kn_ ?_ _ | refine blk_drew ?_ | refine ka_ ?_ _)); exact BK484.out) hkp (fun hs_ => (fun e_ => (Kd.R_ne HO_485002.out BK484.out (by decide)) e_) hs_)); have n5_ := amk (hb); clear HO_476002; clear HO_485002; clear BK466; clear BK475; clear BK484; clear HB; have HO_476002 := n0_; have HO_485002 := n1_; have BK466 := n2_; have BK475 := n3_; have BK484 := n4_; have HB := n5_; clear n0_ n1_ n2_ n3_ n4_ n5_; (try clear hb); (try clear hkp); (try clear hy0); have hcz60_0 : w59.cell? ⟨gb484, 0, none⟩ = some (.int .i64 t478) := (blk_cell BK484.out 0).trans rfl; have hcz60_1 : w59.cell? ⟨gb484, 1, none⟩ = some (.int .i64 t479) := (blk_cell BK484.out 1).trans rfl; have hcz60_2 : w59.cell? ⟨gb484, 2, none⟩ = some (.slice Ao27 t480.length co27) := (blk_cell BK484.out 2).trans rfl; have hfz60_0 := blk_frozen BK484.out 0; have hfz60_1 := blk_frozen BK484.out 1; have hfz60_2 := blk_frozen BK484.out 2) | ((with_reducible refine gate_callee (f := 13) rfl ?_); refine goesL_ (some 52) rfl rfl Try.func13 (by kernel_rfl) rfl #[.agg #[.int .i64 t478, .int .i64 t479, .slice Ao27 t487.length co27], .int .i64 1] rfl (by (try simp only [List.map_toArray, List.map_cons, List.map_nil]); first | done | (rw [show t487.length = t480.length from (Kd.R_reads' HO_485002.out).1.symm] <;> rfl) | rfl | (simp only [List.length_drop, List.length_take]; rfl)) ?_; (with_reducible refine (laws_heldPuzzle.calls kj10 t478 t479 _ _ t487 1 t488 _ ?side1 ?side2 A44.out).mono ?_); (case side1 => repeat (first | exact (Kd.R_reads' HO_485002.out).2.2 | (with_reducible refine Kd.C_alloc ?_ _) | (with_reducible refine Kd.C_drewN ?_ _) | (with_reducible refine Kd.C_drew ?_))); (case side2 => rw [show t487.length = t480.length from (Kd.R_reads' HO_485002.out).1.symm]; exact (Kd.R_reads' HO_485002.out).2.1); rintro e w61 ⟨rfl, hb⟩; refine ⟨_, rfl, ?_⟩; have n0_ := amk (Kd.R_below (by (with_reducible repeat (first | apply Kd.R_alloc | apply Kd.R_drewN | apply Kd.R_drew)); exact HO_476002.out) hb); have n1_ := amk (Kd.R_below (by (with_reducible repeat (first | apply Kd.R_alloc | apply Kd.R_drewN | apply Kd.R_drew)); exact HO_485002.out) hb); have n2_ := amk (blk_below (g := gb466) (o := .cells #[.int .i64 a0_0, .int .i64 a0_1] 23 (0, 0)) (by (with_reducible repeat (first | refine kn_ ?_ _ | refine blk_drew ?_ | refine ka_ ?_ _)); exact BK466.out) hb); have n3_ := amk (blk_below (g := gb475) (o := .cells #[.int .i64 t469, .int .i64 t470, .slice Ao19 t471.length co19] 33 (0, 0)) (by (with_reducible repeat (first | refine kn_ ?_ _ | refine blk_drew ?_ | refine ka_ ?_ _)); exact BK475.out) hb); have n4_ := amk (blk_below (g := gb484) (o := .cells #[.int .i64 t478, .int .i64 t479, .slice Ao27 t480.length co27] 33 (0, 0)) (by (with_reducible repeat (first | refine kn_ ?_ _ | refine blk_drew ?_ | refine ka_ ?_ _)); exact BK484.out) hb); have n5_ := amk (bp_ (by repeat (first | (with_reducible first | exact HB.out | apply ba_ | apply bn_ | apply bd_ | refine bs_ ?_ GE466.out | refine bs_ ?_ GE475.out | refine bs_ ?_ GE484.out) | exact HB.out)) hb); clear HO_476002; clear HO_485002; clear BK466; clear BK475; clear BK484; clear HB; have HO_476002 := n0_; have HO_485002 := n1_; have BK466 := n2_; have BK475 := n3_; have BK484 := n4_; have HB := n5_; clear n0_ n1_ n2_ n3_ n4_ n5_; (try clear hb); (try clear hb2); (try clear hk); (try clear hi); have hnb62 := NB466_475.out; have hnc62 := NB475_466.out; have hcz63_0 : w61.cell? ⟨gb466, 0, none⟩ = some (.int .i64 a0_0) := (blk_cell BK466.out 0).trans rfl; have hcz63_1 : w61.cell? ⟨gb466, 1, none⟩ = some (.int .i64 a0_1) := (blk_cell BK466.out 1).trans rfl; have hfz63_0 := blk_frozen BK466.out 0; have hfz63_1 := blk_frozen BK466.out 1) | ((with_reducible refine gate_callee (f := 15) rfl ?_); refine goesL_ (some 60) rfl rfl Try.func15 (by kernel_rfl) rfl #[.agg #[.int .i64 a0_0, .int .i64 a0_1]] rfl (by (try simp only [List.map_toArray, List.map_cons, List.map_nil]); first | done | rfl | (simp only [List.length_drop, List.length_take]; rfl)) ?_; (with_reducible refine (laws_toLock.calls a0_0 a0_1 t489 t490 _ A53.out).mono ?_); rintro e w64 ⟨rfl, hb⟩; refine ⟨_, rfl, ?_⟩; have n0_ := amk (Kd.R_below (by (with_reducible repeat (first | apply Kd.R_alloc | apply Kd.R_drewN | apply Kd.R_drew)); exact HO_476002.out) hb); have n1_ := amk (Kd.R_below (by (with_reducible repeat (first | apply Kd.R_alloc | apply Kd.R_drewN | apply Kd.R_drew)); exact HO_485002.out) hb); have n2_ := amk (blk_below (g := gb466) (o := .cells #[.int .i64 a0_0, .int .i64 a0_1] 23 (0, 0)) (by (with_reducible repeat (first | refine kn_ ?_ _ | refine blk_drew ?_ | refine ka_ ?_ _)); exact BK466.out) hb); have n3_ := amk (blk_below (g := gb475) (o := .cells #[.int .i64 t469, .int .i64 t470, .slice Ao19 t471.length co19] 33 (0, 0)) (by (with_reducible repeat (first | refine kn_ ?_ _ | refine blk_drew ?_ | refine ka_ ?_ _)); exact BK475.out) hb); have n4_ := amk (blk_below (g := gb484) (o := .cells #[.int .i64 t478, .int .i64 t479, .slice Ao27 t480.length co27] 33 (0, 0)) (by (with_reducible repeat (first | refine kn_ ?_ _ | refine blk_drew ?_ | refine ka_ ?_ _)); exact BK484.out) hb); have n5_ := amk (bp_ (by repeat (first | (with_reducible first | exact HB.out | apply ba_ | apply bn_ | apply bd_ | refine bs_ ?_ GE466.out | refine bs_ ?_ GE475.out | refine bs_ ?_ GE484.out) | exact HB.out)) hb); clear HO_476002; clear HO_485002; clear BK466; clear BK475; clear BK484; clear HB; have HO_476002 := n0_; have HO_485002 := n1_; have BK466 := n2_; have BK475 := n3_; have BK484 := n4_; have HB := n5_; clear n0_ n1_ n2_ n3_ n4_ n5_; (try clear hb); (try clear hb2); (try clear hk); (try clear hi)) | ((with_reducible refine gate_callee (f := 16) rfl ?_); refine goesL_ (some 64) rfl rfl Try.func16 (by kernel_rfl) rfl #[.agg #[.int .i64 t489, .int .i64 t490], .string a1, .int .i64 a2, .int .i64 a3] rfl (by (try simp only [List.map_toArray, List.map_cons, List.map_nil]); first | done | rfl | (simp only [List.length_drop, List.length_take]; rfl)) ?_; (with_reducible refine (impl_MakePuzzle.calls kj10 t489 t490 a1 a2 a3 t491 t492 t493 t496 _ A54.out).mono ?_); rintro e w65 ⟨v494, rfl, ho0, hb⟩; refine ⟨_, rfl, ?_⟩; have n0_ := amk (Kd.R_elder' (by (with_reducible repeat (first | apply Kd.R_alloc | apply Kd.R_drewN | apply Kd.R_drew)); exact HO_476002.out) (Kd.R_base ho0) hb); have n1_ := amk (Kd.R_elder' (by (with_reducible repeat (first | apply Kd.R_alloc | apply Kd.R_drewN | apply Kd.R_drew)); exact HO_485002.out) (Kd.R_base ho0) hb); have n2_ := amk (Kd.R_lower (Kd.R_new' (Kd.R_new' ho0 (Kd.R_lt (by (with_reducible repeat (first | apply Kd.R_alloc | apply Kd.R_drewN | apply Kd.R_drew)); exact HO_476002.out))) (Kd.R_lt (by (with_reducible repeat (first | apply Kd.R_alloc | apply Kd.R_drewN | apply Kd.R_drew)); exact HO_485002.out))) (below_size (by repeat (first | (with_reducible first | exact HB.out | apply ba_ | apply bn_ | apply bd_ | refine bs_ ?_ GE466.out | refine bs_ ?_ GE475.out | refine bs_ ?_ GE484.out) | exact HB.out)))); have n3_ := amk (blk_below (g := gb466) (o := .cells #[.int .i64 a0_0, .int .i64 a0_1] 23 (0, 0)) (by (with_reducible repeat (first | refine kn_ ?_ _ | refine blk_drew ?_ | refine ka_ ?_ _)); exact BK466.out) hb); have n4_ := amk (blk_below (g := gb475) (o := .cells #[.int .i64 t469, .int .i64 t470, .slice Ao19 t471.length co19] 33 (0, 0)) (by (with_reducible repeat (first | refine kn_ ?_ _ | refine blk_drew ?_ | refine ka_ ?_ _)); exact BK475.out) hb); have n5_ := amk (blk_below (g := gb484) (o := .cells #[.int .i64 t478, .int .i64 t479, .slice Ao27 t480.length co27] 33 (0, 0)) (by (with_reducible repeat (first | refine kn_ ?_ _ | refine blk_drew ?_ | refine ka_ ?_ _)); exact BK484.out) hb); have n6_ := amk (bp_ (by repeat (first | (with_reducible first | exact HB.out | apply ba_ | apply bn_ | apply bd_ | refine bs_ ?_ GE466.out | refine bs_ ?_ GE475.out | refine bs_ ?_ GE484.out) | exact HB.out)) hb); clear HO_476002; clear HO_485002; clear BK466; clear BK475; clear BK484; clear HB; have HO_476002 := n0_; have HO_485002 := n1_; have HO495 := n2_; have BK466 := n3_; have BK475 := n4_; have BK484 := n5_; have HB := n6_; clear n0_ n1_ n2_ n3_ n4_ n5_ n6_; (try clear hb); (try clear hb2); (try clear hk); (try clear hi); (try clear ho0)) | ((with_reducible refine gate_dst (N := 15) rfl ?_); refine box_event ?hg (N := 15) ?hd (cs := #[.int .i64 0, .int .i64 0, .slice none 0 0]) (t := 33) ?hr ?_; (case hd => rfl); (case hg => rfl); (case hr => first | (go_simp; done) | (go_simp; rfl)); intro gb497 hg w66 hbox hb; have n0_ := amk (Kd.R_below (by (with_reducible repeat (first | apply Kd.R_alloc | apply Kd.R_drewN | apply Kd.R_drew)); exact HO_476002.out) hb); have n1_ := amk (Kd.R_below (by (with_reducible repeat (first | apply Kd.R_alloc | apply Kd.R_drewN | apply Kd.R_drew)); exact HO_485002.out) hb); have n2_ := amk (Kd.R_below (by (with_reducible repeat (first | apply Kd.R_alloc | apply Kd.R_drewN | apply Kd.R_drew)); exact HO495.out) hb); have n3_ := amk (blk_below (g := gb466) (o := .cells #[.int .i64 a0_0, .int .i64 a0_1] 23 (0, 0)) (by (with_reducible repeat (first | refine kn_ ?_ _ | refine blk_drew ?_ | refine ka_ ?_ _)); exact BK466.out) hb); have n4_ := amk (blk_below (g := gb475) (o := .cells #[.int .i64 t469, .int .i64 t470, .slice Ao19 t471.length co19] 33 (0, 0)) (by (with_reducible repeat (first | refine kn_ ?_ _ | refine blk_drew ?_ | refine ka_ ?_ _)); exact BK475.out) hb); have n5_ := amk (blk_below (g := gb484) (o := .cells #[.int .i64 t478, .int .i64 t479, .slice Ao27 t480.length co27] 33 (0, 0)) (by (with_reducible repeat (first | refine kn_ ?_ _ | refine blk_drew ?_ | refine ka_ ?_ _)); exact BK484.out) hb); have n6_ := amk (bp_ (by repeat (first | (with_reducible first | exact HB.out | apply ba_ | apply bn_ | apply bd_ | refine bs_ ?_ GE466.out | refine bs_ ?_ GE475.out | refine bs_ ?_ GE484.out) | exact HB.out)) hb); have n7_ := amk (hbox); have n8_ := amk ((by rw [hg]; exact (below_size (by repeat (first | (with_reducible first | exact HB.out | apply ba_ | apply bn_ | apply bd_ | refine bs_ ?_ GE466.out | refine bs_ ?_ GE475.out | refine bs_ ?_ GE484.out) | exact HB.out))) : w.heap.size ≤ gb497)); have n9_ := amk ((by rw [hg]; exact (below_size (by repeat (first | (with_reducible first | exact HB.out | apply ba_ | apply bn_ | apply bd_ | refine bs_ ?_ GE466.out | refine bs_ ?_ GE475.out | refine bs_ ?_ GE484.out) | exact HB.out))) : w.heap.size ≤ gb497)); have n10_ := amk ((by rw [hg]; exact Nat.ne_of_lt (blk_lt (g := gb466) (o := .cells #[.int .i64 a0_0, .int .i64 a0_1] 23 (0, 0)) (by (with_reducible repeat (first | refine kn_ ?_ _ | refine blk_drew ?_ | refine ka_ ?_ _)); exact BK466.out)) : gb466 ≠ gb497)); have n11_ := amk ((by rw [hg]; exact Nat.ne_of_gt (blk_lt (g := gb466) (o := .cells #[.int .i64 a0_0, .int .i64 a0_1] 23 (0, 0)) (by (with_reducible repeat (first | refine kn_ ?_ _ | refine blk_drew ?_ | refine ka_ ?_ _)); exact BK466.out)) : gb497 ≠ gb466)); have n12_ := amk ((by rw [hg]; exact Nat.ne_of_lt (blk_lt (g := gb475) (o := .cells #[.int .i64 t469, .int .i64 t470, .slice Ao19 t471.length co19] 33 (0, 0)) (by (with_reducible repeat (first | refine kn_ ?_ _ | refine blk_drew ?_ | refine ka_ ?_ _)); exact BK475.out)) : gb475 ≠ gb497)); have n13_ := amk ((by rw [hg]; exact Nat.ne_of_gt (blk_lt (g := gb475) (o := .cells #[.int .i64 t469, .int .i64 t470, .slice Ao19 t471.length co19] 33 (0, 0)) (by (with_reducible repeat (first | refine kn_ ?_ _ | refine blk_drew ?_ | refine ka_ ?_ _)); exact BK475.out)) : gb497 ≠ gb475)); have n14_ := amk ((by rw [hg]; exact Nat.ne_of_lt (blk_lt (g := gb484) (o := .cells #[.int .i64 t478, .int .i64 t479, .slice Ao27 t480.length co27] 33 (0, 0)) (by (with_reducible repeat (first | refine kn_ ?_ _ | refine blk_drew ?_ | refine ka_ ?_ _)); exact BK484.out)) : gb484 ≠ gb497)); have n15_ := amk ((by rw [hg]; exact Nat.ne_of_gt (blk_lt (g := gb484) (o := .cells #[.int .i64 t478, .int .i64 t479, .slice Ao27 t480.length co27] 33 (0, 0)) (by (with_reducible repeat (first | refine kn_ ?_ _ | refine blk_drew ?_ | refine ka_ ?_ _)); exact BK484.out)) : gb497 ≠ gb484)); clear HO_476002; clear HO_485002; clear HO495; clear BK466; clear BK475; clear BK484; clear HB; have HO_476002 := n0_; have HO_485002 := n1_; have HO495 := n2_; have BK466 := n3_; have BK475 := n4_; have BK484 := n5_; have HB := n6_; have BK497 := n7_; have GW497 := n8_; have GE497 := n9_; have NB466_497 := n10_; have NB497_466 := n11_; have NB475_497 := n12_; have NB497_475 := n13_; have NB484_497 := n14_; have NB497_484 := n15_; clear n0_ n1_ n2_ n3_ n4_ n5_ n6_ n7_ n8_ n9_ n10_ n11_ n12_ n13_ n14_ n15_; clear hb hbox hg; have hnb67 := NB497_466.out; have hnc67 := NB466_497.out; have hnb68 := NB497_475.out; have hnc68 := NB475_497.out; have hnb69 := NB497_484.out; have hnc69 := NB484_497.out; have hcz70_0 : w66.cell? ⟨gb497, 0, none⟩ = some (.int .i64 0) := (blk_cell BK497.out 0).trans rfl; have hcz70_1 : w66.cell? ⟨gb497, 1, none⟩ = some (.int .i64 0) := (blk_cell BK497.out 1).trans rfl; have hcz70_2 : w66.cell? ⟨gb497, 2, none⟩ = some (.slice none 0 0) := (blk_cell BK497.out 2).trans rfl; have hfz70_0 := blk_frozen BK497.out 0; have hfz70_1 := blk_frozen BK497.out 1; have hfz70_2 := blk_frozen BK497.out 2; obtain ⟨Ao71, co71, eo71⟩ := Kd.R_slice HO495.out; subst eo71))
              (try simp only [Act.put, List.setIfInBounds_toArray, List.set_cons_zero, List.set_cons_succ])
              go_cut [75] (fun v75 wc => ∃ (kq : Nat) (x75_54 : Bool), v75 = .bool x75_54 ∧ Aside0 (laws_FnExactMakePuzzle.j1 kq t486 x75_54 t478 t479 t487 = some r) ∧ Aside0 (kq ≤ kj10) ∧ Aside0 (Kd.R k37 37 wc w.heap.size (fun k_ => some k_ ≠ ((.slice Ao27 t480.length co27) : Value).ownBlock ∧ some k_ ≠ ((.slice Ao71 t493.length co71) : Value).ownBlock) (.slice Ao19 t471.length co19) t471) ∧ Aside0 (Kd.R k37 37 wc w.heap.size (fun k_ => some k_ ≠ ((.slice Ao19 t471.length co19) : Value).ownBlock ∧ some k_ ≠ ((.slice Ao71 t493.length co71) : Value).ownBlock) (.slice Ao27 t480.length co27) t487) ∧ Aside0 (Kd.R k37 37 wc w.heap.size (fun k_ => some k_ ≠ ((.slice Ao19 t471.length co19) : Value).ownBlock ∧ some k_ ≠ ((.slice Ao27 t480.length co27) : Value).ownBlock) (.slice Ao71 t493.length co71) t493) ∧ Aside0 (wc.heap[gb466]? = some (.cells #[.int .i64 a0_0, .int .i64 a0_1] 23 (0, 0))) ∧ Aside0 (wc.heap[gb475]? = some (.cells #[.int .i64 t469, .int .i64 t470, (.slice Ao19 t471.length co19)] 33 (0, 0))) ∧ Aside0 (wc.heap[gb484]? = some (.cells #[.int .i64 t478, .int .i64 t479, (.slice Ao27 t480.length co27)] 33 (0, 0))) ∧ Aside0 (wc.heap[gb497]? = some (.cells #[.int .i64 t491, .int .i64 t492, (.slice Ao71 t493.length co71)] 33 (0, 0))) ∧ Aside0 (Below w.heap.size w wc))
              case first =>
                have H := HC55.out
                clear HC55
                replace H := Option.bind_eq_some_iff.mp H
                obtain ⟨t498, A720, H⟩ := H
                replace H : (if t498 = true then (laws_FnExactMakePuzzle.j1 kj10 t486 (t496 != t474) t478 t479 t487) else (laws_FnExactMakePuzzle.j1 kj10 t486 true t478 t479 t487)) = some r := H
                have A72 := amk A720
                clear A720
                by_cases c73 : t498 = true
                · subst c73
                  have H1 : (laws_FnExactMakePuzzle.j1 kj10 t486 (t496 != t474) t478 t479 t487) = some r := by rw [if_pos rfl] at H; exact H
                  clear H
                  have H := H1
                  clear H1
                  have H' := amk H
                  clear H
                  have hnb74 := NB497_466.out
                  have hnc74 := NB466_497.out
                  have hnb75 := NB497_475.out
                  have hnc75 := NB475_497.out
                  have hnb76 := NB497_484.out
                  have hnc76 := NB484_497.out
                  have hcz77_0 : w66.cell? ⟨gb497, 0, none⟩ = some (.int .i64 0) := (blk_cell BK497.out 0).trans rfl
                  have hcz77_1 : w66.cell? ⟨gb497, 1, none⟩ = some (.int .i64 0) := (blk_cell BK497.out 1).trans rfl
                  have hcz77_2 : w66.cell? ⟨gb497, 2, none⟩ = some (.slice none 0 0) := (blk_cell BK497.out 2).trans rfl
                  have hfz77_0 := blk_frozen BK497.out 0
                  have hfz77_1 := blk_frozen BK497.out 1
                  have hfz77_2 := blk_frozen BK497.out 2
                  have hnb78 := NB475_466.out
                  have hnc78 := NB466_475.out
                  have hnb79 := NB475_484.out
                  have hnc79 := NB484_475.out
                  have hcz80_0 : w66.cell? ⟨gb475, 0, none⟩ = some (.int .i64 t469) := (blk_cell BK475.out 0).trans rfl
                  have hcz80_1 : w66.cell? ⟨gb475, 1, none⟩ = some (.int .i64 t470) := (blk_cell BK475.out 1).trans rfl
                  have hcz80_2 : w66.cell? ⟨gb475, 2, none⟩ = some (.slice Ao19 t471.length co19) := (blk_cell BK475.out 2).trans rfl
                  have hfz80_0 := blk_frozen BK475.out 0
                  have hfz80_1 := blk_frozen BK475.out 1
                  have hfz80_2 := blk_frozen BK475.out 2
                  go_wp2_with (first | ((with_reducible refine gate_callee (f := 11) rfl ?_); refine goesL_ (some 69) rfl rfl Try.func11 (by kernel_rfl) rfl #[.agg #[.int .i64 t491, .int .i64 t492, .slice Ao71 t493.length co71], .agg #[.int .i64 t469, .int .i64 t470, .slice Ao19 t471.length co19]] rfl (by (try simp only [List.map_toArray, List.map_cons, List.map_nil]); first | done | rfl | (simp only [List.length_drop, List.length_take]; rfl)) ?_; (with_reducible refine (laws_eqPuzzle.calls kj10 t491 t492 _ _ t493 t469 t470 _ _ t471 true _ ?side1 ?side2 ?side3 ?side4 A72.out).mono ?_); (case side1 => refine (Kd.R_reads' (e := 37) (base := w.heap.size) (ok := fun k_ => ((True ∧ some k_ ≠ (.slice Ao19 t471.length co19 : Value).ownBlock) ∧ some k_ ≠ (.slice Ao27 t480.length co27 : Value).ownBlock)) (n := t493.length) (c := co71) ?_).2.2; exact (by (with_reducible repeat (first | apply Kd.R_alloc | apply Kd.R_drewN | apply Kd.R_drew)); exact (Kd.R_mono (Kd.R_far (p := ⟨gb497, 2, none⟩) (Kd.R_far (p := ⟨gb497, 1, none⟩) (Kd.R_far (p := ⟨gb497, 0, none⟩) (Kd.R_types HO495.out BK497.out (by decide)) (fun _ hk => hk.2) (.int .i64 t491)) (fun _ hk => hk.2) (.int .i64 t492)) (fun _ hk => hk.2) (.slice Ao71 t493.length co71)) (fun _ h_ => h_.1)))); (case side2 => exact (Kd.R_reads' HO495.out).2.1); (case side3 => refine (Kd.R_reads' (e := 37) (base := w.heap.size) (ok := fun k_ => (some k_ ≠ (.slice Ao27 t480.length co27 : Value).ownBlock ∧ some k_ ≠ (.slice Ao71 t493.length co71 : Value).ownBlock)) (n := t471.length) (c := co19) ?_).2.2; exact (by (with_reducible repeat (first | apply Kd.R_alloc | apply Kd.R_drewN | apply Kd.R_drew)); exact (Kd.R_mono (Kd.R_far (p := ⟨gb497, 2, none⟩) (Kd.R_far (p := ⟨gb497, 1, none⟩) (Kd.R_far (p := ⟨gb497, 0, none⟩) (Kd.R_types HO_476002.out BK497.out (by decide)) (fun _ hk => hk.2) (.int .i64 t491)) (fun _ hk => hk.2) (.int .i64 t492)) (fun _ hk => hk.2) (.slice Ao71 t493.length co71)) (fun _ h_ => h_.1)))); (case side4 => exact (Kd.R_reads' HO_476002.out).2.1); rintro e w81 ⟨rfl, hb⟩; refine ⟨_, rfl, ?_⟩; have n0_ := amk (Kd.R_below (by (with_reducible repeat (first | apply Kd.R_alloc | apply Kd.R_drewN | apply Kd.R_drew)); exact (Kd.R_mono (Kd.R_far (p := ⟨gb497, 2, none⟩) (Kd.R_far (p := ⟨gb497, 1, none⟩) (Kd.R_far (p := ⟨gb497, 0, none⟩) (Kd.R_types HO_476002.out BK497.out (by decide)) (fun _ hk => hk.2) (.int .i64 t491)) (fun _ hk => hk.2) (.int .i64 t492)) (fun _ hk => hk.2) (.slice Ao71 t493.length co71)) (fun _ h_ => h_.1))) hb); have n1_ := amk (Kd.R_below (by (with_reducible repeat (first | apply Kd.R_alloc | apply Kd.R_drewN | apply Kd.R_drew)); exact (Kd.R_mono (Kd.R_far (p := ⟨gb497, 2, none⟩) (Kd.R_far (p := ⟨gb497, 1, none⟩) (Kd.R_far (p := ⟨gb497, 0, none⟩) (Kd.R_types HO_485002.out BK497.out (by decide)) (fun _ hk => hk.2) (.int .i64 t491)) (fun _ hk => hk.2) (.int .i64 t492)) (fun _ hk => hk.2) (.slice Ao71 t493.length co71)) (fun _ h_ => h_.1))) hb); have n2_ := amk (Kd.R_below (by (with_reducible repeat (first | apply Kd.R_alloc | apply Kd.R_drewN | apply Kd.R_drew)); exact (Kd.R_mono (Kd.R_far (p := ⟨gb497, 2, none⟩) (Kd.R_far (p := ⟨gb497, 1, none⟩) (Kd.R_far (p := ⟨gb497, 0, none⟩) (Kd.R_types HO495.out BK497.out (by decide)) (fun _ hk => hk.2) (.int .i64 t491)) (fun _ hk => hk.2) (.int .i64 t492)) (fun _ hk => hk.2) (.slice Ao71 t493.length co71)) (fun _ h_ => h_.1))) hb); have n3_ := amk (blk_below (g := gb466) (o := .cells #[.int .i64 a0_0, .int .i64 a0_1] 23 (0, 0)) (by (with_reducible repeat (first | refine kn_ ?_ _ | refine blk_drew ?_ | refine ka_ ?_ _)); refine blk_far ?_ NB466_497.out _; (with_reducible repeat (first | refine kn_ ?_ _ | refine blk_drew ?_ | refine ka_ ?_ _)); refine blk_far ?_ NB466_497.out _; (with_reducible repeat (first | refine kn_ ?_ _ | refine blk_drew ?_ | refine ka_ ?_ _)); refine blk_far ?_ NB466_497.out _; (with_reducible repeat (first | refine kn_ ?_ _ | refine blk_drew ?_ | refine ka_ ?_ _)); exact BK466.out) hb); have n4_ := amk (blk_below (g := gb475) (o := .cells #[.int .i64 t469, .int .i64 t470, .slice Ao19 t471.length co19] 33 (0, 0)) (by (with_reducible repeat (first | refine kn_ ?_ _ | refine blk_drew ?_ | refine ka_ ?_ _)); refine blk_far ?_ NB475_497.out _; (with_reducible repeat (first | refine kn_ ?_ _ | refine blk_drew ?_ | refine ka_ ?_ _)); refine blk_far ?_ NB475_497.out _; (with_reducible repeat (first | refine kn_ ?_ _ | refine blk_drew ?_ | refine ka_ ?_ _)); refine blk_far ?_ NB475_497.out _; (with_reducible repeat (first | refine kn_ ?_ _ | refine blk_drew ?_ | refine ka_ ?_ _)); exact BK475.out) hb); have n5_ := amk (blk_below (g := gb484) (o := .cells #[.int .i64 t478, .int .i64 t479, .slice Ao27 t480.length co27] 33 (0, 0)) (by (with_reducible repeat (first | refine kn_ ?_ _ | refine blk_drew ?_ | refine ka_ ?_ _)); refine blk_far ?_ NB484_497.out _; (with_reducible repeat (first | refine kn_ ?_ _ | refine blk_drew ?_ | refine ka_ ?_ _)); refine blk_far ?_ NB484_497.out _; (with_reducible repeat (first | refine kn_ ?_ _ | refine blk_drew ?_ | refine ka_ ?_ _)); refine blk_far ?_ NB484_497.out _; (with_reducible repeat (first | refine kn_ ?_ _ | refine blk_drew ?_ | refine ka_ ?_ _)); exact BK484.out) hb); have n6_ := amk (blk_below (g := gb497) (o := .cells #[.int .i64 t491, .int .i64 t492, .slice Ao71 t493.length co71] 33 (0, 0)) (by (with_reducible repeat (first | refine kn_ ?_ _ | refine blk_drew ?_ | refine ka_ ?_ _)); refine blk_put (cs := #[.int .i64 t491, .int .i64 t492, .slice none 0 0]) ?_ 2 _ rfl; (with_reducible repeat (first | refine kn_ ?_ _ | refine blk_drew ?_ | refine ka_ ?_ _)); refine blk_put (cs := #[.int .i64 t491, .int .i64 0, .slice none 0 0]) ?_ 1 _ rfl; (with_reducible repeat (first | refine kn_ ?_ _ | refine blk_drew ?_ | refine ka_ ?_ _)); refine blk_put (cs := #[.int .i64 0, .int .i64 0, .slice none 0 0]) ?_ 0 _ rfl; (with_reducible repeat (first | refine kn_ ?_ _ | refine blk_drew ?_ | refine ka_ ?_ _)); exact BK497.out) hb); have n7_ := amk (bp_ (by repeat (first | (with_reducible first | exact HB.out | apply ba_ | apply bn_ | apply bd_ | refine bs_ ?_ GE466.out | refine bs_ ?_ GE475.out | refine bs_ ?_ GE484.out | refine bs_ ?_ GE497.out) | exact HB.out)) hb); clear HO_476002; clear HO_485002; clear HO495; clear BK466; clear BK475; clear BK484; clear BK497; clear HB; have HO_476002 := n0_; have HO_485002 := n1_; have HO495 := n2_; have BK466 := n3_; have BK475 := n4_; have BK484 := n5_; have BK497 := n6_; have HB := n7_; clear n0_ n1_ n2_ n3_ n4_ n5_ n6_ n7_; (try clear hb); (try clear hb2); (try clear hk); (try clear hi)))
                  go_meet
                  case rel => exact ⟨_, ((t496 != t474)), (by first | rfl | (simp; done) | (simp [*]; done)), H', ⟨by have := HJ10.out; first | omega | exact Nat.le_refl _⟩, ⟨by (with_reducible repeat (first | apply Kd.R_alloc | apply Kd.R_drewN | apply Kd.R_drew)); exact HO_476002.out⟩, ⟨by (with_reducible repeat (first | apply Kd.R_alloc | apply Kd.R_drewN | apply Kd.R_drew)); exact HO_485002.out⟩, ⟨by (with_reducible repeat (first | apply Kd.R_alloc | apply Kd.R_drewN | apply Kd.R_drew)); exact Kd.R_mono HO495.out (fun _ hk => ⟨hk.1.2, hk.2⟩)⟩, ⟨by (with_reducible repeat (first | refine kn_ ?_ _ | refine blk_drew ?_ | refine ka_ ?_ _)); exact BK466.out⟩, ⟨by (with_reducible repeat (first | refine kn_ ?_ _ | refine blk_drew ?_ | refine ka_ ?_ _)); exact BK475.out⟩, ⟨by (with_reducible repeat (first | refine kn_ ?_ _ | refine blk_drew ?_ | refine ka_ ?_ _)); exact BK484.out⟩, ⟨by (with_reducible repeat (first | refine kn_ ?_ _ | refine blk_drew ?_ | refine ka_ ?_ _)); exact BK497.out⟩, ⟨by repeat (first | (with_reducible first | exact HB.out | apply ba_ | apply bn_ | apply bd_ | refine bs_ ?_ GE466.out | refine bs_ ?_ GE475.out | refine bs_ ?_ GE484.out | refine bs_ ?_ GE497.out) | exact HB.out)⟩⟩
                · replace c73 := Bool.eq_false_iff.mpr c73
                  subst c73
                  have H1 : (laws_FnExactMakePuzzle.j1 kj10 t486 true t478 t479 t487) = some r := by rw [if_neg (show ¬ (false = true) by decide)] at H; exact H
                  clear H
                  have H := H1
                  clear H1
                  have H' := amk H
                  clear H
                  have hnb82 := NB497_466.out
                  have hnc82 := NB466_497.out
                  have hnb83 := NB497_475.out
                  have hnc83 := NB475_497.out
                  have hnb84 := NB497_484.out
                  have hnc84 := NB484_497.out
                  have hcz85_0 : w66.cell? ⟨gb497, 0, none⟩ = some (.int .i64 0) := (blk_cell BK497.out 0).trans rfl
                  have hcz85_1 : w66.cell? ⟨gb497, 1, none⟩ = some (.int .i64 0) := (blk_cell BK497.out 1).trans rfl
                  have hcz85_2 : w66.cell? ⟨gb497, 2, none⟩ = some (.slice none 0 0) := (blk_cell BK497.out 2).trans rfl
                  have hfz85_0 := blk_frozen BK497.out 0
                  have hfz85_1 := blk_frozen BK497.out 1
                  have hfz85_2 := blk_frozen BK497.out 2
                  have hnb86 := NB475_466.out
                  have hnc86 := NB466_475.out
                  have hnb87 := NB475_484.out
                  have hnc87 := NB484_475.out
                  have hcz88_0 : w66.cell? ⟨gb475, 0, none⟩ = some (.int .i64 t469) := (blk_cell BK475.out 0).trans rfl
                  have hcz88_1 : w66.cell? ⟨gb475, 1, none⟩ = some (.int .i64 t470) := (blk_cell BK475.out 1).trans rfl
                  have hcz88_2 : w66.cell? ⟨gb475, 2, none⟩ = some (.slice Ao19 t471.length co19) := (blk_cell BK475.out 2).trans rfl
                  have hfz88_0 := blk_frozen BK475.out 0
                  have hfz88_1 := blk_frozen BK475.out 1
                  have hfz88_2 := blk_frozen BK475.out 2
                  go_wp2_with (first | ((with_reducible refine gate_callee (f := 11) rfl ?_); refine goesL_ (some 69) rfl rfl Try.func11 (by kernel_rfl) rfl #[.agg #[.int .i64 t491, .int .i64 t492, .slice Ao71 t493.length co71], .agg #[.int .i64 t469, .int .i64 t470, .slice Ao19 t471.length co19]] rfl (by (try simp only [List.map_toArray, List.map_cons, List.map_nil]); first | done | rfl | (simp only [List.length_drop, List.length_take]; rfl)) ?_; (with_reducible refine (laws_eqPuzzle.calls kj10 t491 t492 _ _ t493 t469 t470 _ _ t471 false _ ?side1 ?side2 ?side3 ?side4 A72.out).mono ?_); (case side1 => refine (Kd.R_reads' (e := 37) (base := w.heap.size) (ok := fun k_ => ((True ∧ some k_ ≠ (.slice Ao19 t471.length co19 : Value).ownBlock) ∧ some k_ ≠ (.slice Ao27 t480.length co27 : Value).ownBlock)) (n := t493.length) (c := co71) ?_).2.2; exact (by (with_reducible repeat (first | apply Kd.R_alloc | apply Kd.R_drewN | apply Kd.R_drew)); exact (Kd.R_mono (Kd.R_far (p := ⟨gb497, 2, none⟩) (Kd.R_far (p := ⟨gb497, 1, none⟩) (Kd.R_far (p := ⟨gb497, 0, none⟩) (Kd.R_types HO495.out BK497.out (by decide)) (fun _ hk => hk.2) (.int .i64 t491)) (fun _ hk => hk.2) (.int .i64 t492)) (fun _ hk => hk.2) (.slice Ao71 t493.length co71)) (fun _ h_ => h_.1)))); (case side2 => exact (Kd.R_reads' HO495.out).2.1); (case side3 => refine (Kd.R_reads' (e := 37) (base := w.heap.size) (ok := fun k_ => (some k_ ≠ (.slice Ao27 t480.length co27 : Value).ownBlock ∧ some k_ ≠ (.slice Ao71 t493.length co71 : Value).ownBlock)) (n := t471.length) (c := co19) ?_).2.2; exact (by (with_reducible repeat (first | apply Kd.R_alloc | apply Kd.R_drewN | apply Kd.R_drew)); exact (Kd.R_mono (Kd.R_far (p := ⟨gb497, 2, none⟩) (Kd.R_far (p := ⟨gb497, 1, none⟩) (Kd.R_far (p := ⟨gb497, 0, none⟩) (Kd.R_types HO_476002.out BK497.out (by decide)) (fun _ hk => hk.2) (.int .i64 t491)) (fun _ hk => hk.2) (.int .i64 t492)) (fun _ hk => hk.2) (.slice Ao71 t493.length co71)) (fun _ h_ => h_.1)))); (case side4 => exact (Kd.R_reads' HO_476002.out).2.1); rintro e w89 ⟨rfl, hb⟩; refine ⟨_, rfl, ?_⟩; have n0_ := amk (Kd.R_below (by (with_reducible repeat (first | apply Kd.R_alloc | apply Kd.R_drewN | apply Kd.R_drew)); exact (Kd.R_mono (Kd.R_far (p := ⟨gb497, 2, none⟩) (Kd.R_far (p := ⟨gb497, 1, none⟩) (Kd.R_far (p := ⟨gb497, 0, none⟩) (Kd.R_types HO_476002.out BK497.out (by decide)) (fun _ hk => hk.2) (.int .i64 t491)) (fun _ hk => hk.2) (.int .i64 t492)) (fun _ hk => hk.2) (.slice Ao71 t493.length co71)) (fun _ h_ => h_.1))) hb); have n1_ := amk (Kd.R_below (by (with_reducible repeat (first | apply Kd.R_alloc | apply Kd.R_drewN | apply Kd.R_drew)); exact (Kd.R_mono (Kd.R_far (p := ⟨gb497, 2, none⟩) (Kd.R_far (p := ⟨gb497, 1, none⟩) (Kd.R_far (p := ⟨gb497, 0, none⟩) (Kd.R_types HO_485002.out BK497.out (by decide)) (fun _ hk => hk.2) (.int .i64 t491)) (fun _ hk => hk.2) (.int .i64 t492)) (fun _ hk => hk.2) (.slice Ao71 t493.length co71)) (fun _ h_ => h_.1))) hb); have n2_ := amk (Kd.R_below (by (with_reducible repeat (first | apply Kd.R_alloc | apply Kd.R_drewN | apply Kd.R_drew)); exact (Kd.R_mono (Kd.R_far (p := ⟨gb497, 2, none⟩) (Kd.R_far (p := ⟨gb497, 1, none⟩) (Kd.R_far (p := ⟨gb497, 0, none⟩) (Kd.R_types HO495.out BK497.out (by decide)) (fun _ hk => hk.2) (.int .i64 t491)) (fun _ hk => hk.2) (.int .i64 t492)) (fun _ hk => hk.2) (.slice Ao71 t493.length co71)) (fun _ h_ => h_.1))) hb); have n3_ := amk (blk_below (g := gb466) (o := .cells #[.int .i64 a0_0, .int .i64 a0_1] 23 (0, 0)) (by (with_reducible repeat (first | refine kn_ ?_ _ | refine blk_drew ?_ | refine ka_ ?_ _)); refine blk_far ?_ NB466_497.out _; (with_reducible repeat (first | refine kn_ ?_ _ | refine blk_drew ?_ | refine ka_ ?_ _)); refine blk_far ?_ NB466_497.out _; (with_reducible repeat (first | refine kn_ ?_ _ | refine blk_drew ?_ | refine ka_ ?_ _)); refine blk_far ?_ NB466_497.out _; (with_reducible repeat (first | refine kn_ ?_ _ | refine blk_drew ?_ | refine ka_ ?_ _)); exact BK466.out) hb); have n4_ := amk (blk_below (g := gb475) (o := .cells #[.int .i64 t469, .int .i64 t470, .slice Ao19 t471.length co19] 33 (0, 0)) (by (with_reducible repeat (first | refine kn_ ?_ _ | refine blk_drew ?_ | refine ka_ ?_ _)); refine blk_far ?_ NB475_497.out _; (with_reducible repeat (first | refine kn_ ?_ _ | refine blk_drew ?_ | refine ka_ ?_ _)); refine blk_far ?_ NB475_497.out _; (with_reducible repeat (first | refine kn_ ?_ _ | refine blk_drew ?_ | refine ka_ ?_ _)); refine blk_far ?_ NB475_497.out _; (with_reducible repeat (first | refine kn_ ?_ _ | refine blk_drew ?_ | refine ka_ ?_ _)); exact BK475.out) hb); have n5_ := amk (blk_below (g := gb484) (o := .cells #[.int .i64 t478, .int .i64 t479, .slice Ao27 t480.length co27] 33 (0, 0)) (by (with_reducible repeat (first | refine kn_ ?_ _ | refine blk_drew ?_ | refine ka_ ?_ _)); refine blk_far ?_ NB484_497.out _; (with_reducible repeat (first | refine kn_ ?_ _ | refine blk_drew ?_ | refine ka_ ?_ _)); refine blk_far ?_ NB484_497.out _; (with_reducible repeat (first | refine kn_ ?_ _ | refine blk_drew ?_ | refine ka_ ?_ _)); refine blk_far ?_ NB484_497.out _; (with_reducible repeat (first | refine kn_ ?_ _ | refine blk_drew ?_ | refine ka_ ?_ _)); exact BK484.out) hb); have n6_ := amk (blk_below (g := gb497) (o := .cells #[.int .i64 t491, .int .i64 t492, .slice Ao71 t493.length co71] 33 (0, 0)) (by (with_reducible repeat (first | refine kn_ ?_ _ | refine blk_drew ?_ | refine ka_ ?_ _)); refine blk_put (cs := #[.int .i64 t491, .int .i64 t492, .slice none 0 0]) ?_ 2 _ rfl; (with_reducible repeat (first | refine kn_ ?_ _ | refine blk_drew ?_ | refine ka_ ?_ _)); refine blk_put (cs := #[.int .i64 t491, .int .i64 0, .slice none 0 0]) ?_ 1 _ rfl; (with_reducible repeat (first | refine kn_ ?_ _ | refine blk_drew ?_ | refine ka_ ?_ _)); refine blk_put (cs := #[.int .i64 0, .int .i64 0, .slice none 0 0]) ?_ 0 _ rfl; (with_reducible repeat (first | refine kn_ ?_ _ | refine blk_drew ?_ | refine ka_ ?_ _)); exact BK497.out) hb); have n7_ := amk (bp_ (by repeat (first | (with_reducible first | exact HB.out | apply ba_ | apply bn_ | apply bd_ | refine bs_ ?_ GE466.out | refine bs_ ?_ GE475.out | refine bs_ ?_ GE484.out | refine bs_ ?_ GE497.out) | exact HB.out)) hb); clear HO_476002; clear HO_485002; clear HO495; clear BK466; clear BK475; clear BK484; clear BK497; clear HB; have HO_476002 := n0_; have HO_485002 := n1_; have HO495 := n2_; have BK466 := n3_; have BK475 := n4_; have BK484 := n5_; have BK497 := n6_; have HB := n7_; clear n0_ n1_ n2_ n3_ n4_ n5_ n6_ n7_; (try clear hb); (try clear hb2); (try clear hk); (try clear hi)))
                  go_meet
                  case rel => exact ⟨_, (true), (by first | rfl | (simp; done) | (simp [*]; done)), H', ⟨by have := HJ10.out; first | omega | exact Nat.le_refl _⟩, ⟨by (with_reducible repeat (first | apply Kd.R_alloc | apply Kd.R_drewN | apply Kd.R_drew)); exact HO_476002.out⟩, ⟨by (with_reducible repeat (first | apply Kd.R_alloc | apply Kd.R_drewN | apply Kd.R_drew)); exact HO_485002.out⟩, ⟨by (with_reducible repeat (first | apply Kd.R_alloc | apply Kd.R_drewN | apply Kd.R_drew)); exact Kd.R_mono HO495.out (fun _ hk => ⟨hk.1.2, hk.2⟩)⟩, ⟨by (with_reducible repeat (first | refine kn_ ?_ _ | refine blk_drew ?_ | refine ka_ ?_ _)); exact BK466.out⟩, ⟨by (with_reducible repeat (first | refine kn_ ?_ _ | refine blk_drew ?_ | refine ka_ ?_ _)); exact BK475.out⟩, ⟨by (with_reducible repeat (first | refine kn_ ?_ _ | refine blk_drew ?_ | refine ka_ ?_ _)); exact BK484.out⟩, ⟨by (with_reducible repeat (first | refine kn_ ?_ _ | refine blk_drew ?_ | refine ka_ ?_ _)); exact BK497.out⟩, ⟨by repeat (first | (with_reducible first | exact HB.out | apply ba_ | apply bn_ | apply bd_ | refine bs_ ?_ GE466.out | refine bs_ ?_ GE475.out | refine bs_ ?_ GE484.out | refine bs_ ?_ GE497.out) | exact HB.out)⟩⟩
              case rest =>
                clear HC55
                try clear c1; try clear c2; try clear p2; try clear c3; try clear c4; try clear c5; try clear c5b0; try clear c5b1; try clear c6; try clear c7; try clear c8; try clear c11; try clear c12; try clear c13; try clear c14; try clear c15; try clear c16; try clear c17; try clear c24; try clear c25; try clear c29; try clear c30; try clear c31; try clear c33; try clear c36; try clear c37; try clear c39; try clear c42; try clear c45; try clear c45b0; try clear c46; try clear c47; try clear c52; try clear c52b0; try clear c52b1; try clear c56; try clear c57; try clear c62; try clear c67; try clear c68; try clear c69; try clear c73; try clear c74; try clear c75; try clear c76; try clear c78; try clear c79; try clear c82; try clear c83; try clear c84; try clear c86; try clear c87; try clear hcz13_0; try clear hcz13_1; try clear hcz18_0; try clear hcz18_1; try clear hcz18_2; try clear hcz20_0; try clear hcz20_1; try clear hcz26_0; try clear hcz26_1; try clear hcz26_2; try clear hcz32_0; try clear hcz32_1; try clear hcz32_2; try clear hcz34_0; try clear hcz34_1; try clear hcz34_2; try clear hcz38_0; try clear hcz38_1; try clear hcz38_2; try clear hcz40_0; try clear hcz40_1; try clear hcz40_2; try clear hcz48_0; try clear hcz48_1; try clear hcz48_2; try clear hcz50_0; try clear hcz50_1; try clear hcz50_2; try clear hcz58_0; try clear hcz58_1; try clear hcz58_2; try clear hcz60_0; try clear hcz60_1; try clear hcz60_2; try clear hcz63_0; try clear hcz63_1; try clear hcz70_0; try clear hcz70_1; try clear hcz70_2; try clear hcz77_0; try clear hcz77_1; try clear hcz77_2; try clear hcz80_0; try clear hcz80_1; try clear hcz80_2; try clear hcz85_0; try clear hcz85_1; try clear hcz85_2; try clear hcz88_0; try clear hcz88_1; try clear hcz88_2; try clear hfz13_0; try clear hfz13_1; try clear hfz18_0; try clear hfz18_1; try clear hfz18_2; try clear hfz20_0; try clear hfz20_1; try clear hfz26_0; try clear hfz26_1; try clear hfz26_2; try clear hfz32_0; try clear hfz32_1; try clear hfz32_2; try clear hfz34_0; try clear hfz34_1; try clear hfz34_2; try clear hfz38_0; try clear hfz38_1; try clear hfz38_2; try clear hfz40_0; try clear hfz40_1; try clear hfz40_2; try clear hfz48_0; try clear hfz48_1; try clear hfz48_2; try clear hfz50_0; try clear hfz50_1; try clear hfz50_2; try clear hfz58_0; try clear hfz58_1; try clear hfz58_2; try clear hfz60_0; try clear hfz60_1; try clear hfz60_2; try clear hfz63_0; try clear hfz63_1; try clear hfz70_0; try clear hfz70_1; try clear hfz70_2; try clear hfz77_0; try clear hfz77_1; try clear hfz77_2; try clear hfz80_0; try clear hfz80_1; try clear hfz80_2; try clear hfz85_0; try clear hfz85_1; try clear hfz85_2; try clear hfz88_0; try clear hfz88_1; try clear hfz88_2; try clear p2
                obtain ⟨kq, x75_54, rfl, HA, HJ54, HO_476002, HO_485002, HO_498002, BK466, BK475, BK484, BK497, HB⟩ := hcut
                have hl485002_54 := (Kd.R_reads' HO_485002.out).1
                rw [hl485002_54] at HO_485002
                (try simp only [hl485002_54])
                (try simp only [hl485002_54] at BK466)
                (try simp only [hl485002_54] at BK475)
                (try simp only [hl485002_54] at BK484)
                (try simp only [hl485002_54] at BK497)
                (try simp only [hl485002_54] at HO_476002)
                (try simp only [hl485002_54] at HO_498002)
                cases kq with
                | zero => exact absurd HA.out (by simp [laws_FnExactMakePuzzle.j1])
                | succ kj54 =>
                  have H := HA.out
                  clear HA
                  simp only [laws_FnExactMakePuzzle.j1] at H
                  by_cases c90 : x75_54 = true
                  · subst c90
                    have H1 : (some false) = some r := by rw [if_pos rfl] at H; exact H
                    clear H
                    have H := H1
                    clear H1
                    obtain rfl := Option.some.inj H
                    go_wp2
                    go_ret
                    exact ⟨by first | rfl | (simp [errW_none, errW_some] <;> rfl) | (simp [*, errW_none, errW_some] <;> rfl), by repeat (first | (with_reducible first | exact HB.out | apply ba_ | apply bn_ | apply bd_ | refine bs_ ?_ GE466.out | refine bs_ ?_ GE475.out | refine bs_ ?_ GE484.out | refine bs_ ?_ GE497.out) | exact HB.out)⟩
                  · replace c90 := Bool.eq_false_iff.mpr c90
                    subst c90
                    have H1 : ((laws_heldPuzzle.f kj54 t478 t479 t487 1).bind fun t499 => (if t499 < 0 then (some false) else (if t499 = t486 then (some true) else (some false)))) = some r := by rw [if_neg (show ¬ (false = true) by decide)] at H; exact H
                    clear H
                    have H := H1
                    clear H1
                    replace H := Option.bind_eq_some_iff.mp H
                    obtain ⟨t499, A910, H⟩ := H
                    replace H : (if t499 < 0 then (some false) else (if t499 = t486 then (some true) else (some false))) = some r := H
                    have A91 := amk A910
                    clear A910
                    by_cases c92 : t499 < 0
                    · rw [if_pos c92] at H
                      have c92b0 : decide (t499 < 0) = true := decide_eq_true c92
                      clear c92
                      obtain rfl := Option.some.inj H
                      have hnb93 := NB484_466.out
                      have hnc93 := NB466_484.out
                      have hnb94 := NB484_475.out
                      have hnc94 := NB475_484.out
                      have hnb95 := NB484_497.out
                      have hnc95 := NB497_484.out
                      have hcz96_0 : wc.cell? ⟨gb484, 0, none⟩ = some (.int .i64 t478) := (blk_cell BK484.out 0).trans rfl
                      have hcz96_1 : wc.cell? ⟨gb484, 1, none⟩ = some (.int .i64 t479) := (blk_cell BK484.out 1).trans rfl
                      have hcz96_2 : wc.cell? ⟨gb484, 2, none⟩ = some (.slice Ao27 t487.length co27) := (blk_cell BK484.out 2).trans rfl
                      have hfz96_0 := blk_frozen BK484.out 0
                      have hfz96_1 := blk_frozen BK484.out 1
                      have hfz96_2 := blk_frozen BK484.out 2
                      go_wp2_with (first | ((with_reducible refine gate_callee (f := 13) rfl ?_); refine goesL_ (some 78) rfl rfl Try.func13 (by kernel_rfl) rfl #[.agg #[.int .i64 t478, .int .i64 t479, .slice Ao27 t487.length co27], .int .i64 1] rfl (by (try simp only [List.map_toArray, List.map_cons, List.map_nil]); first | done | rfl | (simp only [List.length_drop, List.length_take]; rfl)) ?_; (with_reducible refine (laws_heldPuzzle.calls kj54 t478 t479 _ _ t487 1 t499 _ ?side1 ?side2 A91.out).mono ?_); (case side1 => repeat (first | exact (Kd.R_reads' HO_485002.out).2.2 | (with_reducible refine Kd.C_alloc ?_ _) | (with_reducible refine Kd.C_drewN ?_ _) | (with_reducible refine Kd.C_drew ?_))); (case side2 => exact (Kd.R_reads' HO_485002.out).2.1); rintro e w97 ⟨rfl, hb⟩; refine ⟨_, rfl, ?_⟩; have n0_ := amk (Kd.R_below (by (with_reducible repeat (first | apply Kd.R_alloc | apply Kd.R_drewN | apply Kd.R_drew)); exact HO_476002.out) hb); have n1_ := amk (Kd.R_below (by (with_reducible repeat (first | apply Kd.R_alloc | apply Kd.R_drewN | apply Kd.R_drew)); exact HO_485002.out) hb); have n2_ := amk (Kd.R_below (by (with_reducible repeat (first | apply Kd.R_alloc | apply Kd.R_drewN | apply Kd.R_drew)); exact HO_498002.out) hb); have n3_ := amk (blk_below (g := gb466) (o := .cells #[.int .i64 a0_0, .int .i64 a0_1] 23 (0, 0)) (by (with_reducible repeat (first | refine kn_ ?_ _ | refine blk_drew ?_ | refine ka_ ?_ _)); exact BK466.out) hb); have n4_ := amk (blk_below (g := gb475) (o := .cells #[.int .i64 t469, .int .i64 t470, .slice Ao19 t471.length co19] 33 (0, 0)) (by (with_reducible repeat (first | refine kn_ ?_ _ | refine blk_drew ?_ | refine ka_ ?_ _)); exact BK475.out) hb); have n5_ := amk (blk_below (g := gb484) (o := .cells #[.int .i64 t478, .int .i64 t479, .slice Ao27 t487.length co27] 33 (0, 0)) (by (with_reducible repeat (first | refine kn_ ?_ _ | refine blk_drew ?_ | refine ka_ ?_ _)); exact BK484.out) hb); have n6_ := amk (blk_below (g := gb497) (o := .cells #[.int .i64 t491, .int .i64 t492, .slice Ao71 t493.length co71] 33 (0, 0)) (by (with_reducible repeat (first | refine kn_ ?_ _ | refine blk_drew ?_ | refine ka_ ?_ _)); exact BK497.out) hb); have n7_ := amk (bp_ (by repeat (first | (with_reducible first | exact HB.out | apply ba_ | apply bn_ | apply bd_ | refine bs_ ?_ GE466.out | refine bs_ ?_ GE475.out | refine bs_ ?_ GE484.out | refine bs_ ?_ GE497.out) | exact HB.out)) hb); clear HO_476002; clear HO_485002; clear HO_498002; clear BK466; clear BK475; clear BK484; clear BK497; clear HB; have HO_476002 := n0_; have HO_485002 := n1_; have HO_498002 := n2_; have BK466 := n3_; have BK475 := n4_; have BK484 := n5_; have BK497 := n6_; have HB := n7_; clear n0_ n1_ n2_ n3_ n4_ n5_ n6_ n7_; (try clear hb); (try clear hb2); (try clear hk); (try clear hi)))
                      go_ret
                      exact ⟨by first | rfl | (simp [errW_none, errW_some] <;> rfl) | (simp [*, errW_none, errW_some] <;> rfl), by repeat (first | (with_reducible first | exact HB.out | apply ba_ | apply bn_ | apply bd_ | refine bs_ ?_ GE466.out | refine bs_ ?_ GE475.out | refine bs_ ?_ GE484.out | refine bs_ ?_ GE497.out) | exact HB.out)⟩
                    · rw [if_neg c92] at H
                      have c92b0 : decide (t499 < 0) = false := decide_eq_false c92
                      clear c92
                      by_cases c98 : t499 = t486
                      · rw [if_pos c98] at H
                        have c98b0 : (t499 == t486) = true := beq_iff_eq.mpr c98
                        have c98b1 : (t499 != t486) = false := bne_eq_false_iff_eq.mpr c98
                        clear c98
                        obtain rfl := Option.some.inj H
                        have hnb99 := NB484_466.out
                        have hnc99 := NB466_484.out
                        have hnb100 := NB484_475.out
                        have hnc100 := NB475_484.out
                        have hnb101 := NB484_497.out
                        have hnc101 := NB497_484.out
                        have hcz102_0 : wc.cell? ⟨gb484, 0, none⟩ = some (.int .i64 t478) := (blk_cell BK484.out 0).trans rfl
                        have hcz102_1 : wc.cell? ⟨gb484, 1, none⟩ = some (.int .i64 t479) := (blk_cell BK484.out 1).trans rfl
                        have hcz102_2 : wc.cell? ⟨gb484, 2, none⟩ = some (.slice Ao27 t487.length co27) := (blk_cell BK484.out 2).trans rfl
                        have hfz102_0 := blk_frozen BK484.out 0
                        have hfz102_1 := blk_frozen BK484.out 1
                        have hfz102_2 := blk_frozen BK484.out 2
                        go_wp2_with (first | ((with_reducible refine gate_callee (f := 13) rfl ?_); refine goesL_ (some 78) rfl rfl Try.func13 (by kernel_rfl) rfl #[.agg #[.int .i64 t478, .int .i64 t479, .slice Ao27 t487.length co27], .int .i64 1] rfl (by (try simp only [List.map_toArray, List.map_cons, List.map_nil]); first | done | rfl | (simp only [List.length_drop, List.length_take]; rfl)) ?_; (with_reducible refine (laws_heldPuzzle.calls kj54 t478 t479 _ _ t487 1 t499 _ ?side1 ?side2 A91.out).mono ?_); (case side1 => repeat (first | exact (Kd.R_reads' HO_485002.out).2.2 | (with_reducible refine Kd.C_alloc ?_ _) | (with_reducible refine Kd.C_drewN ?_ _) | (with_reducible refine Kd.C_drew ?_))); (case side2 => exact (Kd.R_reads' HO_485002.out).2.1); rintro e w103 ⟨rfl, hb⟩; refine ⟨_, rfl, ?_⟩; have n0_ := amk (Kd.R_below (by (with_reducible repeat (first | apply Kd.R_alloc | apply Kd.R_drewN | apply Kd.R_drew)); exact HO_476002.out) hb); have n1_ := amk (Kd.R_below (by (with_reducible repeat (first | apply Kd.R_alloc | apply Kd.R_drewN | apply Kd.R_drew)); exact HO_485002.out) hb); have n2_ := amk (Kd.R_below (by (with_reducible repeat (first | apply Kd.R_alloc | apply Kd.R_drewN | apply Kd.R_drew)); exact HO_498002.out) hb); have n3_ := amk (blk_below (g := gb466) (o := .cells #[.int .i64 a0_0, .int .i64 a0_1] 23 (0, 0)) (by (with_reducible repeat (first | refine kn_ ?_ _ | refine blk_drew ?_ | refine ka_ ?_ _)); exact BK466.out) hb); have n4_ := amk (blk_below (g := gb475) (o := .cells #[.int .i64 t469, .int .i64 t470, .slice Ao19 t471.length co19] 33 (0, 0)) (by (with_reducible repeat (first | refine kn_ ?_ _ | refine blk_drew ?_ | refine ka_ ?_ _)); exact BK475.out) hb); have n5_ := amk (blk_below (g := gb484) (o := .cells #[.int .i64 t478, .int .i64 t479, .slice Ao27 t487.length co27] 33 (0, 0)) (by (with_reducible repeat (first | refine kn_ ?_ _ | refine blk_drew ?_ | refine ka_ ?_ _)); exact BK484.out) hb); have n6_ := amk (blk_below (g := gb497) (o := .cells #[.int .i64 t491, .int .i64 t492, .slice Ao71 t493.length co71] 33 (0, 0)) (by (with_reducible repeat (first | refine kn_ ?_ _ | refine blk_drew ?_ | refine ka_ ?_ _)); exact BK497.out) hb); have n7_ := amk (bp_ (by repeat (first | (with_reducible first | exact HB.out | apply ba_ | apply bn_ | apply bd_ | refine bs_ ?_ GE466.out | refine bs_ ?_ GE475.out | refine bs_ ?_ GE484.out | refine bs_ ?_ GE497.out) | exact HB.out)) hb); clear HO_476002; clear HO_485002; clear HO_498002; clear BK466; clear BK475; clear BK484; clear BK497; clear HB; have HO_476002 := n0_; have HO_485002 := n1_; have HO_498002 := n2_; have BK466 := n3_; have BK475 := n4_; have BK484 := n5_; have BK497 := n6_; have HB := n7_; clear n0_ n1_ n2_ n3_ n4_ n5_ n6_ n7_; (try clear hb); (try clear hb2); (try clear hk); (try clear hi)))
                        go_ret
                        exact ⟨by first | rfl | (simp [errW_none, errW_some] <;> rfl) | (simp [*, errW_none, errW_some] <;> rfl), by repeat (first | (with_reducible first | exact HB.out | apply ba_ | apply bn_ | apply bd_ | refine bs_ ?_ GE466.out | refine bs_ ?_ GE475.out | refine bs_ ?_ GE484.out | refine bs_ ?_ GE497.out) | exact HB.out)⟩
                      · rw [if_neg c98] at H
                        have c98b0 : (t499 == t486) = false := beq_eq_false_iff_ne.mpr c98
                        have c98b1 : (t499 != t486) = true := bne_iff_ne.mpr c98
                        obtain rfl := Option.some.inj H
                        have hnb104 := NB484_466.out
                        have hnc104 := NB466_484.out
                        have hnb105 := NB484_475.out
                        have hnc105 := NB475_484.out
                        have hnb106 := NB484_497.out
                        have hnc106 := NB497_484.out
                        have hcz107_0 : wc.cell? ⟨gb484, 0, none⟩ = some (.int .i64 t478) := (blk_cell BK484.out 0).trans rfl
                        have hcz107_1 : wc.cell? ⟨gb484, 1, none⟩ = some (.int .i64 t479) := (blk_cell BK484.out 1).trans rfl
                        have hcz107_2 : wc.cell? ⟨gb484, 2, none⟩ = some (.slice Ao27 t487.length co27) := (blk_cell BK484.out 2).trans rfl
                        have hfz107_0 := blk_frozen BK484.out 0
                        have hfz107_1 := blk_frozen BK484.out 1
                        have hfz107_2 := blk_frozen BK484.out 2
                        go_wp2_with (first | ((with_reducible refine gate_callee (f := 13) rfl ?_); refine goesL_ (some 78) rfl rfl Try.func13 (by kernel_rfl) rfl #[.agg #[.int .i64 t478, .int .i64 t479, .slice Ao27 t487.length co27], .int .i64 1] rfl (by (try simp only [List.map_toArray, List.map_cons, List.map_nil]); first | done | rfl | (simp only [List.length_drop, List.length_take]; rfl)) ?_; (with_reducible refine (laws_heldPuzzle.calls kj54 t478 t479 _ _ t487 1 t499 _ ?side1 ?side2 A91.out).mono ?_); (case side1 => repeat (first | exact (Kd.R_reads' HO_485002.out).2.2 | (with_reducible refine Kd.C_alloc ?_ _) | (with_reducible refine Kd.C_drewN ?_ _) | (with_reducible refine Kd.C_drew ?_))); (case side2 => exact (Kd.R_reads' HO_485002.out).2.1); rintro e w108 ⟨rfl, hb⟩; refine ⟨_, rfl, ?_⟩; have n0_ := amk (Kd.R_below (by (with_reducible repeat (first | apply Kd.R_alloc | apply Kd.R_drewN | apply Kd.R_drew)); exact HO_476002.out) hb); have n1_ := amk (Kd.R_below (by (with_reducible repeat (first | apply Kd.R_alloc | apply Kd.R_drewN | apply Kd.R_drew)); exact HO_485002.out) hb); have n2_ := amk (Kd.R_below (by (with_reducible repeat (first | apply Kd.R_alloc | apply Kd.R_drewN | apply Kd.R_drew)); exact HO_498002.out) hb); have n3_ := amk (blk_below (g := gb466) (o := .cells #[.int .i64 a0_0, .int .i64 a0_1] 23 (0, 0)) (by (with_reducible repeat (first | refine kn_ ?_ _ | refine blk_drew ?_ | refine ka_ ?_ _)); exact BK466.out) hb); have n4_ := amk (blk_below (g := gb475) (o := .cells #[.int .i64 t469, .int .i64 t470, .slice Ao19 t471.length co19] 33 (0, 0)) (by (with_reducible repeat (first | refine kn_ ?_ _ | refine blk_drew ?_ | refine ka_ ?_ _)); exact BK475.out) hb); have n5_ := amk (blk_below (g := gb484) (o := .cells #[.int .i64 t478, .int .i64 t479, .slice Ao27 t487.length co27] 33 (0, 0)) (by (with_reducible repeat (first | refine kn_ ?_ _ | refine blk_drew ?_ | refine ka_ ?_ _)); exact BK484.out) hb); have n6_ := amk (blk_below (g := gb497) (o := .cells #[.int .i64 t491, .int .i64 t492, .slice Ao71 t493.length co71] 33 (0, 0)) (by (with_reducible repeat (first | refine kn_ ?_ _ | refine blk_drew ?_ | refine ka_ ?_ _)); exact BK497.out) hb); have n7_ := amk (bp_ (by repeat (first | (with_reducible first | exact HB.out | apply ba_ | apply bn_ | apply bd_ | refine bs_ ?_ GE466.out | refine bs_ ?_ GE475.out | refine bs_ ?_ GE484.out | refine bs_ ?_ GE497.out) | exact HB.out)) hb); clear HO_476002; clear HO_485002; clear HO_498002; clear BK466; clear BK475; clear BK484; clear BK497; clear HB; have HO_476002 := n0_; have HO_485002 := n1_; have HO_498002 := n2_; have BK466 := n3_; have BK475 := n4_; have BK484 := n5_; have BK497 := n6_; have HB := n7_; clear n0_ n1_ n2_ n3_ n4_ n5_ n6_ n7_; (try clear hb); (try clear hb2); (try clear hk); (try clear hi)))
                        go_ret
                        exact ⟨by first | rfl | (simp [errW_none, errW_some] <;> rfl) | (simp [*, errW_none, errW_some] <;> rfl), by repeat (first | (with_reducible first | exact HB.out | apply ba_ | apply bn_ | apply bd_ | refine bs_ ?_ GE466.out | refine bs_ ?_ GE475.out | refine bs_ ?_ GE484.out | refine bs_ ?_ GE497.out) | exact HB.out)⟩
            · rw [if_neg c52] at H
              have c52b0 : (t488 == t486) = false := beq_eq_false_iff_ne.mpr c52
              have c52b1 : (t488 != t486) = true := bne_iff_ne.mpr c52
              obtain rfl := Option.some.inj H
              have hnb109 := NB484_466.out
              have hnc109 := NB466_484.out
              have hnb110 := NB484_475.out
              have hnc110 := NB475_484.out
              have hcz111_0 : wc.cell? ⟨gb484, 0, none⟩ = some (.int .i64 t478) := (blk_cell BK484.out 0).trans rfl
              have hcz111_1 : wc.cell? ⟨gb484, 1, none⟩ = some (.int .i64 t479) := (blk_cell BK484.out 1).trans rfl
              have hcz111_2 : wc.cell? ⟨gb484, 2, none⟩ = some (.slice Ao27 t480.length co27) := (blk_cell BK484.out 2).trans rfl
              have hfz111_0 := blk_frozen BK484.out 0
              have hfz111_1 := blk_frozen BK484.out 1
              have hfz111_2 := blk_frozen BK484.out 2
              go_wp2_with (first | ((with_reducible refine gate_callee (f := 12) rfl ?_); refine goesL_ (some 49) rfl rfl Try.func12 (by kernel_rfl) rfl #[.agg #[.int .i64 t478, .int .i64 t479, .slice Ao27 t480.length co27], .int .i64 1] rfl (by (try simp only [List.map_toArray, List.map_cons, List.map_nil]); first | done | rfl | (simp only [List.length_drop, List.length_take]; rfl)) ?_; (with_reducible refine (laws_markPuzzle.calls kj10 t478 t479 (fun k_ => some k_ = (.slice Ao27 t480.length co27 : Value).ownBlock) (.slice Ao27 t480.length co27) t480 1 t486 t487 w _ ?side1 ?side2 A43.out).mono ?_); (case side1 => repeat (first | (with_reducible first | exact HB.out | apply ba_ | apply bn_ | apply bd_ | refine bs_ ?_ GE466.out | refine bs_ ?_ GE475.out | refine bs_ ?_ GE484.out) | exact HB.out)); (case side2 => exact Kd.R_tight rfl HO_485002.out); rintro e w112 ⟨rfl, hy0, hb, hkp⟩; refine ⟨_, rfl, ?_⟩; have n0_ := amk (Kd.R_mono (ok' := fun k_ => some k_ ≠ (.slice Ao27 t480.length co27 : Value).ownBlock) (Kd.R_keptB (HO_476002.out) hkp (fun k_ hk_ hs_ => (hk_) hs_)) (fun k_ hk_ => hk_.1)); have n1_ := amk (Kd.R_reok rfl hy0 (fun k_ e_ => HO_485002.out.1 k_ e_)); have n2_ := amk (blk_kept (by (with_reducible repeat (first | refine kn_ ?_ _ | refine blk_drew ?_ | refine ka_ ?_ _)); exact BK466.out) hkp (fun hs_ => (fun e_ => (Kd.R_ne HO_485002.out BK466.out (by decide)) e_) hs_)); have n3_ := amk (blk_kept (by (with_reducible repeat (first | refine kn_ ?_ _ | refine blk_drew ?_ | refine ka_ ?_ _)); exact BK475.out) hkp (fun hs_ => (fun e_ => (Kd.R_ne HO_485002.out BK475.out (by decide)) e_) hs_)); have n4_ := amk (blk_kept (by (with_reducible repeat (first | refine kn_ ?_ _ | refine blk_drew ?_ | refine ka_ ?_ _)); exact BK484.out) hkp (fun hs_ => (fun e_ => (Kd.R_ne HO_485002.out BK484.out (by decide)) e_) hs_)); have n5_ := amk (hb); clear HO_476002; clear HO_485002; clear BK466; clear BK475; clear BK484; clear HB; have HO_476002 := n0_; have HO_485002 := n1_; have BK466 := n2_; have BK475 := n3_; have BK484 := n4_; have HB := n5_; clear n0_ n1_ n2_ n3_ n4_ n5_; (try clear hb); (try clear hkp); (try clear hy0); have hcz113_0 : w112.cell? ⟨gb484, 0, none⟩ = some (.int .i64 t478) := (blk_cell BK484.out 0).trans rfl; have hcz113_1 : w112.cell? ⟨gb484, 1, none⟩ = some (.int .i64 t479) := (blk_cell BK484.out 1).trans rfl; have hcz113_2 : w112.cell? ⟨gb484, 2, none⟩ = some (.slice Ao27 t480.length co27) := (blk_cell BK484.out 2).trans rfl; have hfz113_0 := blk_frozen BK484.out 0; have hfz113_1 := blk_frozen BK484.out 1; have hfz113_2 := blk_frozen BK484.out 2) | ((with_reducible refine gate_callee (f := 13) rfl ?_); refine goesL_ (some 52) rfl rfl Try.func13 (by kernel_rfl) rfl #[.agg #[.int .i64 t478, .int .i64 t479, .slice Ao27 t487.length co27], .int .i64 1] rfl (by (try simp only [List.map_toArray, List.map_cons, List.map_nil]); first | done | (rw [show t487.length = t480.length from (Kd.R_reads' HO_485002.out).1.symm] <;> rfl) | rfl | (simp only [List.length_drop, List.length_take]; rfl)) ?_; (with_reducible refine (laws_heldPuzzle.calls kj10 t478 t479 _ _ t487 1 t488 _ ?side1 ?side2 A44.out).mono ?_); (case side1 => repeat (first | exact (Kd.R_reads' HO_485002.out).2.2 | (with_reducible refine Kd.C_alloc ?_ _) | (with_reducible refine Kd.C_drewN ?_ _) | (with_reducible refine Kd.C_drew ?_))); (case side2 => rw [show t487.length = t480.length from (Kd.R_reads' HO_485002.out).1.symm]; exact (Kd.R_reads' HO_485002.out).2.1); rintro e w114 ⟨rfl, hb⟩; refine ⟨_, rfl, ?_⟩; have n0_ := amk (Kd.R_below (by (with_reducible repeat (first | apply Kd.R_alloc | apply Kd.R_drewN | apply Kd.R_drew)); exact HO_476002.out) hb); have n1_ := amk (Kd.R_below (by (with_reducible repeat (first | apply Kd.R_alloc | apply Kd.R_drewN | apply Kd.R_drew)); exact HO_485002.out) hb); have n2_ := amk (blk_below (g := gb466) (o := .cells #[.int .i64 a0_0, .int .i64 a0_1] 23 (0, 0)) (by (with_reducible repeat (first | refine kn_ ?_ _ | refine blk_drew ?_ | refine ka_ ?_ _)); exact BK466.out) hb); have n3_ := amk (blk_below (g := gb475) (o := .cells #[.int .i64 t469, .int .i64 t470, .slice Ao19 t471.length co19] 33 (0, 0)) (by (with_reducible repeat (first | refine kn_ ?_ _ | refine blk_drew ?_ | refine ka_ ?_ _)); exact BK475.out) hb); have n4_ := amk (blk_below (g := gb484) (o := .cells #[.int .i64 t478, .int .i64 t479, .slice Ao27 t480.length co27] 33 (0, 0)) (by (with_reducible repeat (first | refine kn_ ?_ _ | refine blk_drew ?_ | refine ka_ ?_ _)); exact BK484.out) hb); have n5_ := amk (bp_ (by repeat (first | (with_reducible first | exact HB.out | apply ba_ | apply bn_ | apply bd_ | refine bs_ ?_ GE466.out | refine bs_ ?_ GE475.out | refine bs_ ?_ GE484.out) | exact HB.out)) hb); clear HO_476002; clear HO_485002; clear BK466; clear BK475; clear BK484; clear HB; have HO_476002 := n0_; have HO_485002 := n1_; have BK466 := n2_; have BK475 := n3_; have BK484 := n4_; have HB := n5_; clear n0_ n1_ n2_ n3_ n4_ n5_; (try clear hb); (try clear hb2); (try clear hk); (try clear hi)))
              go_ret
              exact ⟨by first | rfl | (simp [errW_none, errW_some] <;> rfl) | (simp [*, errW_none, errW_some] <;> rfl), by repeat (first | (with_reducible first | exact HB.out | apply ba_ | apply bn_ | apply bd_ | refine bs_ ?_ GE466.out | refine bs_ ?_ GE475.out | refine bs_ ?_ GE484.out) | exact HB.out)⟩
/-! Codes of a lock as texts, their digits, what clues tell of them. -/
def codeS (w d : Int) (s : ByteArray) : Prop := s.size = w.toNat ∧ ∀ i < s.size, 48 ≤ bt s (i : Nat) ∧ bt s (i : Nat) < 48 + d
def dg (s : ByteArray) : List Int := (List.range s.size).map fun i => bt s (i : Nat) - 48
theorem dg_length (s : ByteArray) : (dg s).length = s.size := by simp [dg]
theorem dg_at {s : ByteArray} {i : Nat} (h : i < s.size) : rd (dg s) (i : Nat) = bt s (i : Nat) - 48 := by
  rw [rd_at (by simpa [dg] using h)]; simp [dg]
theorem bt_textB {D : List Int} (h : ∀ x ∈ D, 0 ≤ x ∧ x < 10) {i : Nat} (hi : i < D.length) : bt (textB D) (i : Nat) = 48 + D[i] := by
  have hx := h D[i] (List.getElem_mem hi)
  have hs : (textB D).size = D.length := by unfold textB; rw [strOfNums_size, List.length_map]
  unfold bt
  rw [dif_pos (by rw [hs]; simpa using hi)]
  have e1 : ((textB D)[(i : Int).toNat]'(by rw [hs]; simpa using hi)) = UInt8.ofNat (wrap64 (48 + D[i]) % 256).toNat := by
    show (textB D).data[(i : Int).toNat]'_ = _
    have : (textB D).data = ((D.map fun x => wrap64 (48 + x) % 256).map fun n => UInt8.ofNat n.toNat).toArray := rfl
    simp [this]
  rw [e1, w64 (by omega) (by omega)]
  simp
  omega
theorem codeB_code {w d a : Int} (hl : lockB w d = true) : codeS w d (codeB w d a) := by
  obtain ⟨w1, w2, d1, d2⟩ := lockB_iff.mp hl
  have hs : (codeB w d a).size = w.toNat := by unfold codeB textB; rw [strOfNums_size, List.length_map, digs_length]
  refine ⟨hs, fun i hi => ?_⟩
  have hr := digs_range (d := d) (by omega) w.toNat a
  unfold codeB
  rw [bt_textB (fun x hx => by have := hr x hx; omega) (by rw [digs_length, ← hs]; exact hi)]
  have := hr _ (List.getElem_mem (by rw [digs_length, ← hs]; exact hi) : (digs d w.toNat a)[i]'(by rw [digs_length, ← hs]; exact hi) ∈ _)
  omega
def sumF : Int → List Int → Int
  | acc, [] => acc
  | acc, x :: xs => sumF (wrap64 (acc + x)) xs
def numF (d : Int) : Int → List Int → Int
  | acc, [] => acc
  | acc, x :: xs => numF d (wrap64 (wrap64 (acc * d) + x)) xs
def turnV (d x y : Int) : Int := Int.tmod (wrap64 (Int.tmod (wrap64 (y - x)) d + d)) d
def nearV (d x y : Int) : Int := lst (turnV d x y) (Int.tmod (wrap64 (d - turnV d x y)) d)
def distF (d : Int) (s t : ByteArray) : Nat → Int
  | 0 => 0
  | i + 1 => wrap64 (distF d s t i + nearV d (bt s (i : Nat)) (bt t (i : Nat)))
def valV (w d k a : Int) (s : ByteArray) : Int :=
  if k = 0 then bt s a - 48 else if k = 1 then sumF 0 (dg s) else if k = 2 then plN (codeB w d a) s w.toNat
  else if k = 3 then distF d (codeB w d a) s w.toNat else Int.tmod (numF d 0 (dg s)) a
theorem codeS_hint {w d : Int} {s t : ByteArray} (hl : lockB w d = true) (hs : codeS w d s) (ht : codeS w d t) : hintB s t = true := by
  obtain ⟨w1, w2, d1, d2⟩ := lockB_iff.mp hl
  have h1 := hs.1
  have h2 := ht.1
  refine hintB_iff.mpr ⟨by omega, by omega, by omega, fun i hi => ?_, fun i hi => ?_⟩
  · have := hs.2 i hi; omega
  · have := ht.2 i hi; omega
section
/-! What a readable argument holds, told by kinds: the bridge from a statement's reading to the print's words. -/
open Go.WideShapes in
def Opens {α : Type} (P : Program) (t : TypeId) (d : Kd α) (V : α → Prop) : Prop :=
  ∀ (H : Type) (enc : TypeId × Value → H) (w : World) (base : Nat) (spare : Nat → Bool) (held : Bool) (fuel : Nat) (cs : List Value) (x : DataW H × List MemPlace),
    DataW.trod enc P w base spare held fuel t cs = some x → ∃ a : α, d.K w a cs ∧ V a
def IntV (a : Int) : Prop := -9223372036854775808 ≤ a ∧ a ≤ 9223372036854775807
def StrV (s : ByteArray) : Prop := s.size ≤ 9223372036854775807
theorem opens_int {P : Program} {t : TypeId} (ht : P.underlying t = some (.int .i64)) : Opens P t (Kd.int .i64) IntV := by
  intro H enc w base spare held fuel cs x h
  obtain ⟨n, rfl, _, hw⟩ := DataW.trod_int ht h
  refine ⟨n, rfl, ?_⟩
  have hb : (IntKind.i64.min ≤ n ∧ n ≤ IntKind.i64.max) := by simpa [Lit.wf] using hw
  have e1 : IntKind.i64.min = -9223372036854775808 := rfl
  have e2 : IntKind.i64.max = 9223372036854775807 := rfl
  rw [e1, e2] at hb
  unfold IntV
  omega
theorem opens_pair {α β : Type} {P : Program} {t : TypeId} {f0 f1 : Field} {d0 : Kd α} {d1 : Kd β} {V0 : α → Prop} {V1 : β → Prop} (ht : P.underlying t = some (.struct #[f0, f1]))
    (h0 : Opens P f0.type d0 V0) (h1 : Opens P f1.type d1 V1) (o0 : f0.offset = 0) (o1 : f1.offset = d0.sz) (z0 : P.cellsOf f0.type = d0.sz) (z1 : P.cellsOf f1.type = d1.sz) (zt : P.cellsOf t = d0.sz + d1.sz) :
    Opens P t (Kd.pair d0 d1) (fun x => V0 x.1 ∧ V1 x.2) := by
  intro H enc w base spare held fuel cs x h
  obtain ⟨y0, y1, n, _, hl, g0, g1⟩ := ChangeShapes.trod_struct2 ht h
  rw [o0, z0, List.drop_zero] at g0
  rw [o1, z1] at g1
  obtain ⟨a, ka, va⟩ := h0 H enc w base spare held n _ _ g0
  obtain ⟨b, kb, vb⟩ := h1 H enc w base spare held n _ _ g1
  refine ⟨(a, b), ⟨_, _, ?_, ka, kb⟩, va, vb⟩
  rw [List.take_of_length_le (l := cs.drop d0.sz) (by rw [List.length_drop, hl, zt]; omega), List.take_append_drop]
theorem opens_iso {α β : Type} {P : Program} {t : TypeId} {d : Kd α} {V : α → Prop} (h : Opens P t d V) (f : β → α) (g : α → β) (e : ∀ a, f (g a) = a) : Opens P t (Kd.iso d f) (fun x => V (f x)) := by
  intro H enc w base spare held fuel cs x hx
  obtain ⟨a, ka, va⟩ := h H enc w base spare held fuel cs x hx
  exact ⟨g a, by show d.K w (f (g a)) cs; rw [e]; exact ka, by show V (f (g a)); rw [e]; exact va⟩
section
variable {H : Type} {enc : TypeId × Value → H} {P : Program} {w : World} {base : Nat} {spare : Nat → Bool} {held : Bool} {r : Reach} {b0 : Nat} {t : TypeId} {v : Value} {x : DataW H} {p : List MemPlace}
theorem arg_struct {α : Type} {d : Kd α} {V : α → Prop} (ho : Opens P t d V) {fs : Array Field} (hs : P.underlying t = some (.struct fs)) (hv : Value.okWide P w r b0 t v) (h : DataW.Trod enc P w base spare held t v x p) :
    ∃ a cs, v = .agg (List.toArray cs) ∧ d.K w a cs ∧ V a := by
  obtain ⟨cs, rfl, _⟩ := WideShapes.okWide_struct hs hv
  obtain ⟨fuel, hf⟩ := h
  obtain ⟨a, hk, hV⟩ := ho H enc w base spare held fuel _ _ hf
  exact ⟨a, cs.toList, by simp, by simpa [Value.cells] using hk, hV⟩
theorem arg_int (ht : P.underlying t = some (.int .i64)) (hv : Value.okWide P w r b0 t v) (h : DataW.Trod enc P w base spare held t v x p) : ∃ a, v = .int .i64 a ∧ IntV a := by
  obtain ⟨a, rfl, _, _, hw⟩ := ChangeShapes.open_int ht hv h
  have hb : (IntKind.i64.min ≤ a ∧ a ≤ IntKind.i64.max) := by simpa [Lit.wf] using hw
  exact ⟨a, rfl, hb.1, hb.2⟩
theorem arg_string (ht : P.underlying t = some .string) (hv : Value.okWide P w r b0 t v) (h : DataW.Trod enc P w base spare held t v x p) : ∃ a, v = .string a ∧ StrV a := by
  obtain ⟨a, rfl, _, _, hw⟩ := ChangeMaps.open_string ht hv h
  unfold maxLen at hw
  exact ⟨a, rfl, hw⟩
theorem arg_lt (h : DataW.Trod enc P w base spare held t v x p) : ∀ y ∈ p, y.block < w.heap.size := by
  obtain ⟨m, hm⟩ := h
  exact DataW.trod_lt m _ _ _ hm
end
end
/-! spec's functions on locks and clues: what they come to. -/
theorem spec_l1In.is (a b c : Int) : spec_l1In.f a b c = some (decide (b ≤ a ∧ a ≤ c)) := by
  unfold spec_l1In.f
  by_cases h : a ≥ b
  · rw [if_pos h]; have h' : b ≤ a := h; congr 1; simp [h']
  · rw [if_neg h]; have h' : ¬ b ≤ a := h; congr 1; simp [h']
theorem spec_whGood.is (w d : Int) : spec_whGood.f w d = some (lockB w d) := by
  unfold spec_whGood.f lockB
  simp only [spec_l1In.is, Option.bind_some]
  by_cases h : 1 ≤ w ∧ w ≤ 6 <;> simp [h]
theorem spec_whCount.lev (w d : Int) (h1 : 1 ≤ d) (h2 : d ≤ 10) (hn : w ≤ 6) : ∀ (j : Nat) (i : Int), 0 ≤ i → i ≤ w → i = j → Ev (fun k => spec_whCount.l0 k (d ^ (w - i).toNat) i w d) (d ^ w.toNat) := by
  intro j
  induction j with
  | zero =>
    intro i h0 hi hj
    obtain rfl : i = 0 := by omega
    exact Ev.step (fun k => rfl) (Ev.no (by omega) (Ev.id (by simp)))
  | succ j ih =>
    intro i h0 hi hj
    refine Ev.step (fun k => rfl) (Ev.yes (by omega) ?_)
    have hb := pow_bound h1 h2 (n := (w - i).toNat) (by omega)
    have hm : d ^ (w - i).toNat * d = d ^ (w - (i - 1)).toNat := by rw [show (w - (i - 1)).toNat = (w - i).toNat + 1 by omega, Int.pow_succ]
    have hb' := pow_bound h1 h2 (n := (w - (i - 1)).toNat) (by omega)
    rw [w64 (x := i - 1) (by omega) (by omega), hm, w64 (x := d ^ (w - (i - 1)).toNat) (by omega) (by omega)]
    exact ih (i - 1) (by omega) (by omega) (by omega)
theorem spec_whCount.ev {w d : Int} (h : lockB w d = true) : Ev (fun k => spec_whCount.f k w d) (d ^ w.toNat) := by
  obtain ⟨a, b, c, e⟩ := lockB_iff.mp h
  have := spec_whCount.lev w d (by omega) e b w.toNat w (by omega) (by omega) (by omega)
  unfold spec_whCount.f
  simpa using this
/-! spec's locks of hints: what they come to. -/
theorem spec_hiLock.ev (w d m : Int) : Ev (fun k => spec_hiLock.f k w d m) (smallB w d m) := by
  unfold spec_hiLock.f smallB
  refine Ev.bindc (spec_whGood.is w d) ?_
  cases h : lockB w d with
  | true => exact Ev.yes rfl (Ev.bind (spec_whCount.ev h) (Ev.id (by simp)))
  | false => exact Ev.no (by simp) (Ev.id (by simp))
/-! ### spec_pzClue: function 21 -/
/-! spec's clues: what they come to. -/
theorem spec_pzLock.ev (w d : Int) : Ev (fun k => spec_pzLock.f k w d) (smallB w d 125) := by
  unfold spec_pzLock.f
  exact Ev.bind (spec_hiLock.ev w d 125) (Ev.now _)
/-! impl's functions on locks: what they come to. -/
theorem impl_within.is (a b c : Int) : impl_within.f a b c = some (decide (b ≤ a ∧ a ≤ c)) := by
  unfold impl_within.f
  by_cases h : b ≤ a
  · rw [if_pos h]; congr 1; simp [h]
  · rw [if_neg h]; congr 1; simp [h]
theorem impl_IsLock.is (w d : Int) : impl_IsLock.f w d = some (lockB w d) := by
  unfold impl_IsLock.f lockB
  simp only [impl_within.is, Option.bind_some]
  by_cases h : 1 ≤ w ∧ w ≤ 6 <;> simp [h]
theorem impl_power.lev (d : Int) (h1 : 1 ≤ d) (h2 : d ≤ 10) (n : Int) (hn : n ≤ 6) : ∀ (j : Nat) (i : Int), 0 ≤ i → i ≤ n → n - i = j → Ev (fun k => impl_power.l0 k d (d ^ i.toNat) n i) (d ^ n.toNat) := by
  intro j
  induction j with
  | zero =>
    intro i h0 hi hj
    obtain rfl : i = n := by omega
    exact Ev.step (fun k => rfl) (Ev.no (by omega) (Ev.now _))
  | succ j ih =>
    intro i h0 hi hj
    refine Ev.step (fun k => rfl) (Ev.yes (by omega) ?_)
    have hb := pow_bound h1 h2 (n := i.toNat) (by omega)
    have hm : d ^ i.toNat * d = d ^ (i + 1).toNat := by rw [show (i + 1).toNat = i.toNat + 1 by omega, Int.pow_succ]
    have hb' := pow_bound h1 h2 (n := (i + 1).toNat) (by omega)
    rw [w64 (x := i + 1) (by omega) (by omega), hm, w64 (x := d ^ (i + 1).toNat) (by omega) (by omega)]
    exact ih (i + 1) (by omega) (by omega) (by omega)
theorem impl_power.ev {d n : Int} (h1 : 1 ≤ d) (h2 : d ≤ 10) (h0 : 0 ≤ n) (hn : n ≤ 6) : Ev (fun k => impl_power.f k d n) (d ^ n.toNat) := by
  have := impl_power.lev d h1 h2 n hn n.toNat 0 (by omega) (by omega) (by omega)
  unfold impl_power.f
  simpa using this
theorem impl_Lock_count.ev {w d : Int} (h : lockB w d = true) : Ev (fun k => impl_Lock_count.f k w d) (d ^ w.toNat) := by
  obtain ⟨a, b, c, e⟩ := lockB_iff.mp h
  unfold impl_Lock_count.f
  exact Ev.bind (impl_power.ev (by omega) e (by omega) b) (Ev.now _)
theorem impl_isSmall.ev (w d m : Int) : Ev (fun k => impl_isSmall.f k w d m) (smallB w d m) := by
  unfold impl_isSmall.f smallB
  refine Ev.bindc (impl_IsLock.is w d) ?_
  cases h : lockB w d with
  | true => exact Ev.yes rfl (Ev.bind (impl_Lock_count.ev h) (Ev.id (by simp)))
  | false => exact Ev.no (by simp) (Ev.id (by simp))
/-! Which texts are codes: both sides. -/
def codeT (w d : Int) (s : ByteArray) : Bool := decide (s.size = w.toNat ∧ ∀ i < s.size, 48 ≤ bt s (i : Nat) ∧ bt s (i : Nat) < 48 + d)
theorem codeT_iff {w d : Int} {s : ByteArray} : codeT w d s = true ↔ codeS w d s := by simp [codeT, codeS]
def restT (d : Int) (s : ByteArray) : Nat → Nat → Bool
  | 0, _ => true
  | m + 1, i => decide (48 ≤ bt s (i : Nat) ∧ bt s (i : Nat) < 48 + d) && restT d s m (i + 1)
theorem restT_all {d : Int} {s : ByteArray} : ∀ (m i : Nat), restT d s m i = true ↔ ∀ j, i ≤ j → j < i + m → 48 ≤ bt s (j : Nat) ∧ bt s (j : Nat) < 48 + d
  | 0, i => by simp [restT]; omega
  | m + 1, i => by
    simp only [restT, Bool.and_eq_true, decide_eq_true_eq, restT_all m (i + 1)]
    constructor
    · rintro ⟨h1, h2⟩ j hj hj2
      by_cases e : j = i
      · subst e; exact h1
      · exact h2 j (by omega) (by omega)
    · intro h
      exact ⟨h i (by omega) (by omega), fun j hj hj2 => h j (by omega) (by omega)⟩
theorem codeT_rest {w d : Int} {s : ByteArray} (hw : 0 ≤ w) (h : (s.size : Int) = w) : codeT w d s = restT d s s.size 0 := by
  rw [Bool.eq_iff_iff, codeT_iff, restT_all]
  constructor
  · intro hc j _ hj; exact hc.2 j (by omega)
  · intro hr; exact ⟨by omega, fun i hi => hr i (by omega) (by omega)⟩
theorem codeT_no {w d : Int} {s : ByteArray} (hw : 0 ≤ w) (h : ¬ (s.size : Int) = w) : codeT w d s = false := by
  rw [Bool.eq_false_iff]; intro hc
  have := (codeT_iff.mp hc).1
  omega
theorem spec_whCode.lev {w d : Int} (hl : lockB w d = true) (s : ByteArray) (h6 : s.size ≤ 6) : ∀ (m i : Nat), i + m = s.size → Ev (fun k => spec_whCode.l0 k s (i : Nat) w d) (restT d s m i) := by
  obtain ⟨w1, w2, d1, d2⟩ := lockB_iff.mp hl
  intro m
  induction m with
  | zero => intro i hi; exact Ev.step (fun k => rfl) (Ev.no (by omega) (Ev.now _))
  | succ m ih =>
    intro i hi
    have hb := bt_range s (i : Nat)
    refine Ev.step (fun k => rfl) (Ev.yes (by omega) (Ev.yes (by omega) ?_))
    rw [w64 (x := bt s (i : Nat)) (by omega) (by omega), w64 (x := bt s (i : Nat) - 48) (by omega) (by omega), w64 (x := d - 1) (by omega) (by omega)]
    refine Ev.bindc (spec_l1In.is _ _ _) ?_
    rw [restT, show decide (0 ≤ bt s (i : Nat) - 48 ∧ bt s (i : Nat) - 48 ≤ d - 1) = decide (48 ≤ bt s (i : Nat) ∧ bt s (i : Nat) < 48 + d) from decide_eq_decide.mpr (by omega), w64 (x := (i : Int) + 1) (by omega) (by omega)]
    cases decide (48 ≤ bt s (i : Nat) ∧ bt s (i : Nat) < 48 + d) with
    | true => exact Ev.yes rfl (ih (i + 1) (by omega))
    | false => exact Ev.no (by simp) (Ev.now _)
theorem impl_Lock_isText.lev {w d : Int} (hl : lockB w d = true) (s : ByteArray) (h6 : s.size ≤ 6) : ∀ (m i : Nat), i + m = s.size → Ev (fun k => impl_Lock_isText.l0 k s (s.size : Int) (i : Nat) w d) (restT d s m i) := by
  obtain ⟨w1, w2, d1, d2⟩ := lockB_iff.mp hl
  intro m
  induction m with
  | zero => intro i hi; exact Ev.step (fun k => rfl) (Ev.no (by omega) (Ev.now _))
  | succ m ih =>
    intro i hi
    have hb := bt_range s (i : Nat)
    refine Ev.step (fun k => rfl) (Ev.yes (by omega) (Ev.yes (by omega) (Ev.yes (by omega) ?_)))
    rw [w64 (x := bt s (i : Nat)) (by omega) (by omega), w64 (x := 48 + d) (by omega) (by omega), w64 (x := 48 + d - 1) (by omega) (by omega)]
    refine Ev.bindc (impl_within.is _ _ _) ?_
    rw [restT, show decide (48 ≤ bt s (i : Nat) ∧ bt s (i : Nat) ≤ 48 + d - 1) = decide (48 ≤ bt s (i : Nat) ∧ bt s (i : Nat) < 48 + d) from decide_eq_decide.mpr (by omega), w64 (x := (i : Int) + 1) (by omega) (by omega)]
    cases decide (48 ≤ bt s (i : Nat) ∧ bt s (i : Nat) < 48 + d) with
    | true => exact Ev.yes rfl (ih (i + 1) (by omega))
    | false => exact Ev.no (by simp) (Ev.now _)
theorem spec_whCode.ev {w d : Int} (hl : lockB w d = true) (s : ByteArray) : Ev (fun k => spec_whCode.f k w d s) (codeT w d s) := by
  obtain ⟨w1, w2, d1, d2⟩ := lockB_iff.mp hl
  unfold spec_whCode.f
  by_cases e : (s.size : Int) = w
  · rw [codeT_rest (by omega) e]
    exact Ev.yes e (spec_whCode.lev hl s (by omega) s.size 0 (by omega))
  · rw [codeT_no (by omega) e]
    exact Ev.no e (Ev.now _)
theorem impl_Lock_isCode.ev {w d : Int} (hl : lockB w d = true) (s : ByteArray) : Ev (fun k => impl_Lock_isCode.f k w d s) (codeT w d s) := by
  obtain ⟨w1, w2, d1, d2⟩ := lockB_iff.mp hl
  unfold impl_Lock_isCode.f impl_Lock_isText.f
  by_cases e : (s.size : Int) = w
  · rw [codeT_rest (by omega) e]
    exact Ev.yes e (Ev.bind (impl_Lock_isText.lev hl s (by omega) s.size 0 (by omega)) (Ev.now _))
  · rw [codeT_no (by omega) e]
    exact Ev.no e (Ev.now _)
theorem impl_has.one {w d : Int} (hl : lockB w d = true) (s : ByteArray) : Ev (fun k => impl_has.f k w d [s]) (codeT w d s) := by
  unfold impl_has.f
  refine Ev.bindc (impl_IsLock.is w d) (Ev.yes hl ?_)
  refine Ev.step (fun k => rfl) (Ev.yes (by simp) (Ev.yes (by omega) (Ev.yes (by simp) ?_)))
  rw [show rdOf ByteArray.empty [s] 0 = s from rfl]
  refine Ev.bind (impl_Lock_isCode.ev hl s) ?_
  cases codeT w d s with
  | true =>
    refine Ev.yes rfl (Ev.step (fun k => rfl) (Ev.no ?_ (Ev.now _)))
    rw [show wrap64 ((0 : Int) + 1) = 1 from w64 (by omega) (by omega)]; simp
  | false => exact Ev.no (by simp) (Ev.now _)
/-! Puzzles: which values are one. -/
/-! ### laws_szClueS: function 19 -/
/-! ### laws_szPuzzle: function 6 -/
/-! ### laws_toClue: function 9 -/
/-! ### laws_toClueS: function 22 -/
/-! ### laws_toPuzzle: function 8 -/
/-! The statements' own helpers on clues and puzzles: what they come to. -/
theorem rd_clue {xs : List S37} {i : Int} (h : i.toNat < xs.length) : rd_T37 xs i = xs[i.toNat] := by unfold rd_T37; exact getD_at h
theorem laws_eqClueS.lev (l : List S37) (hl : l.length ≤ 9223372036854775807) : ∀ (j : Nat) (i : Int), 0 ≤ i → i ≤ l.length → (l.length : Int) - i = j → Ev (fun k => laws_eqClueS.l0 k l l i) true := by
  intro j
  induction j with
  | zero =>
    intro i h0 hi hj
    exact Ev.step (fun k => rfl) (Ev.no (by omega) (Ev.now _))
  | succ j ih =>
    intro i h0 hi hj
    refine Ev.step (fun k => rfl) (Ev.yes (by omega) (Ev.yes h0 (Ev.yes (by omega) ?_)))
    simp only [laws_eqClue.f, if_true, Option.bind_some]
    rw [w64 (x := i + 1) (by omega) (by omega)]
    exact ih (i + 1) (by omega) (by omega) (by omega)
theorem laws_eqClueS.ev (l : List S37) (hl : l.length ≤ 9223372036854775807) : Ev (fun k => laws_eqClueS.f k l l) true := by
  unfold laws_eqClueS.f
  exact Ev.yes rfl (laws_eqClueS.lev l hl l.length 0 (by omega) (by omega) (by omega))
theorem laws_eqPuzzle.ev (w d : Int) (l : List S37) (hl : l.length ≤ 9223372036854775807) : Ev (fun k => laws_eqPuzzle.f k w d l w d l) true := by
  unfold laws_eqPuzzle.f
  simp only [laws_eqLock.f, if_true, Option.bind_some]
  exact Ev.bind (laws_eqClueS.ev l hl) (Ev.yes rfl (Ev.now _))
/-! What clues tell of codes: impl's and spec's agree. -/
theorem spec_whDigits.ev {s : ByteArray} (h6 : s.size ≤ 6) (h : ∀ i < s.size, 48 ≤ bt s (i : Nat) ∧ bt s (i : Nat) ≤ 57) : Ev (fun k => spec_whDigits.f k s) (dg s) := by
  have : ∀ m i : Nat, i + m = s.size → ∀ xs : List Int, xs.length = i → Ev (fun k => spec_whDigits.l0 k s xs (i : Nat)) (xs ++ (List.range' i m).map fun i => bt s (i : Nat) - 48) := by
    intro m
    induction m with
    | zero =>
      intro i hi xs hx
      refine Ev.step (fun k => rfl) ?_
      refine Ev.no (by omega) ?_
      exact Ev.id (by simp)
    | succ m ih =>
      intro i hi xs hx
      refine Ev.step (fun k => rfl) ?_
      refine Ev.yes (by omega) (Ev.yes (by omega) (Ev.yes (by omega) ?_))
      have := ih (i + 1) (by omega) (xs ++ [bt s (i : Nat) - 48]) (by simp [hx])
      have hb := h i (by omega)
      rw [show ((bt s (i : Nat)) - 48) % 256 = bt s (i : Nat) - 48 by omega, show wrap64 ((i : Int) + 1) = ((i + 1 : Nat) : Int) from w64 (by omega) (by omega)]
      refine Ev.eq this ?_
      rw [List.range'_succ]
      simp
  have := this s.size 0 (by omega) [] rfl
  refine Ev.eq this ?_
  simp [dg, List.range_eq_range']
theorem impl_digits.ev {w d : Int} {s : ByteArray} (hl : lockB w d = true) (hs : codeS w d s) : Ev (fun k => impl_digits.f k s) (dg s) := by
  obtain ⟨w1, w2, d1, d2⟩ := lockB_iff.mp hl
  have h1 := hs.1
  exact impl_digits_of (by omega) (fun i hi => by have := hs.2 i hi; omega)
theorem spec_whDigits.evc {w d : Int} {s : ByteArray} (hl : lockB w d = true) (hs : codeS w d s) : Ev (fun k => spec_whDigits.f k s) (dg s) := by
  obtain ⟨w1, w2, d1, d2⟩ := lockB_iff.mp hl
  have h1 := hs.1
  exact spec_whDigits.ev (by omega) (fun i hi => by have := hs.2 i hi; omega)
theorem impl_Lock_number.lev (w d : Int) (D : List Int) (hD : D.length ≤ 6) : ∀ (m i : Nat), i + m = D.length → ∀ acc, Ev (fun k => impl_Lock_number.l0 k acc D (D.length : Int) (i : Nat) w d) (numF d acc (D.drop i)) := by
  intro m
  induction m with
  | zero =>
    intro i hi acc
    refine Ev.step (fun k => rfl) (Ev.no (by omega) (Ev.id ?_))
    rw [List.drop_eq_nil_of_le (by omega)]; rfl
  | succ m ih =>
    intro i hi acc
    refine Ev.step (fun k => rfl) (Ev.yes (by omega) (Ev.yes (by omega) (Ev.yes (by omega) ?_)))
    have hlt : i < D.length := by omega
    rw [show wrap64 ((i : Int) + 1) = ((i + 1 : Nat) : Int) from w64 (by omega) (by omega), List.drop_eq_getElem_cons hlt, rd_at (by simpa using hlt)]
    exact ih (i + 1) (by omega) _
theorem spec_whNumber.lev (w d : Int) (D : List Int) (hD : D.length ≤ 6) : ∀ (m i : Nat), i + m = D.length → ∀ acc, Ev (fun k => spec_whNumber.l0 k acc D (D.length : Int) (i : Nat) w d) (numF d acc (D.drop i)) := by
  intro m
  induction m with
  | zero =>
    intro i hi acc
    refine Ev.step (fun k => rfl) (Ev.no (by omega) (Ev.id ?_))
    rw [List.drop_eq_nil_of_le (by omega)]; rfl
  | succ m ih =>
    intro i hi acc
    refine Ev.step (fun k => rfl) (Ev.yes (by omega) (Ev.yes (by omega) (Ev.yes (by omega) ?_)))
    have hlt : i < D.length := by omega
    rw [show wrap64 ((i : Int) + 1) = ((i + 1 : Nat) : Int) from w64 (by omega) (by omega), List.drop_eq_getElem_cons hlt, rd_at (by simpa using hlt)]
    exact ih (i + 1) (by omega) _
theorem spec_pzValue.lev (D : List Int) (hD : D.length ≤ 6) : ∀ (m i : Nat), i + m = D.length → ∀ acc, Ev (fun k => spec_pzValue.l0 k acc D (D.length : Int) (i : Nat)) (sumF acc (D.drop i)) := by
  intro m
  induction m with
  | zero =>
    intro i hi acc
    refine Ev.step (fun k => rfl) (Ev.no (by omega) (Ev.id ?_))
    rw [List.drop_eq_nil_of_le (by omega)]; rfl
  | succ m ih =>
    intro i hi acc
    refine Ev.step (fun k => rfl) (Ev.yes (by omega) (Ev.yes (by omega) (Ev.yes (by omega) ?_)))
    have hlt : i < D.length := by omega
    rw [show wrap64 ((i : Int) + 1) = ((i + 1 : Nat) : Int) from w64 (by omega) (by omega), List.drop_eq_getElem_cons hlt, rd_at (by simpa using hlt)]
    exact ih (i + 1) (by omega) _
theorem impl_Lock_told.lev (D : List Int) (hD : D.length ≤ 6) : ∀ (m i : Nat), i + m = D.length → ∀ acc, Ev (fun k => impl_Lock_told.l0 k acc D (D.length : Int) (i : Nat)) (1, sumF acc (D.drop i), 0) := by
  intro m
  induction m with
  | zero =>
    intro i hi acc
    refine Ev.step (fun k => rfl) (Ev.no (by omega) (Ev.id ?_))
    rw [List.drop_eq_nil_of_le (by omega)]; rfl
  | succ m ih =>
    intro i hi acc
    refine Ev.step (fun k => rfl) (Ev.yes (by omega) (Ev.yes (by omega) (Ev.yes (by omega) ?_)))
    have hlt : i < D.length := by omega
    rw [show wrap64 ((i : Int) + 1) = ((i + 1 : Nat) : Int) from w64 (by omega) (by omega), List.drop_eq_getElem_cons hlt, rd_at (by simpa using hlt)]
    exact ih (i + 1) (by omega) _
theorem impl_Lock_number.ev {w d : Int} {s : ByteArray} (hl : lockB w d = true) (hs : codeS w d s) : Ev (fun k => impl_Lock_number.f k w d s) (numF d 0 (dg s)) := by
  have h6 : (dg s).length ≤ 6 := by rw [dg_length, hs.1]; have := lockB_iff.mp hl; omega
  unfold impl_Lock_number.f
  exact Ev.bind (impl_digits.ev hl hs) (impl_Lock_number.lev w d _ h6 (dg s).length 0 (by omega) 0)
theorem spec_whNumber.ev {w d : Int} {s : ByteArray} (hl : lockB w d = true) (hs : codeS w d s) : Ev (fun k => spec_whNumber.f k w d s) (numF d 0 (dg s)) := by
  have h6 : (dg s).length ≤ 6 := by rw [dg_length, hs.1]; have := lockB_iff.mp hl; omega
  unfold spec_whNumber.f
  exact Ev.bind (spec_whDigits.evc hl hs) (spec_whNumber.lev w d _ h6 (dg s).length 0 (by omega) 0)
/-! Texts of digits: their sizes. -/
theorem strOfNums_app (a b : List Int) : strOfNums (a ++ b) = strOfNums a ++ strOfNums b := by
  apply ByteArray.ext
  simp [strOfNums, ByteArray.data_append]
theorem textB_app (a : List Int) (x : Int) : textB (a ++ [x]) = textB a ++ strOfNums [wrap64 (48 + x) % 256] := by
  unfold textB; rw [List.map_append, strOfNums_app]; rfl
theorem textB_size (l : List Int) : (textB l).size = l.length := by unfold textB; rw [strOfNums_size, List.length_map]
/-! spec's numbers of one digit. -/
theorem spec_l1Num.one {x : Int} (h : x < 10) : Ev (fun k => spec_l1Num.f k x) (strOfNums [wrap64 (48 + x) % 256]) :=
  Ev.step (fun k => rfl) (Ev.yes h (Ev.now _))
/-! spec's texts of codes, distances: what they come to. -/
theorem spec_whText.lev (D : List Int) (hD : D.length ≤ 6) (h : ∀ x ∈ D, 0 ≤ x ∧ x < 10) : ∀ (m i : Nat), i + m = D.length → Ev (fun k => spec_whText.l0 k (textB (D.take i)) D (D.length : Int) (i : Nat)) (textB D) := by
  intro m
  induction m with
  | zero =>
    intro i hi
    refine Ev.step (fun k => rfl) (Ev.no (by omega) (Ev.id ?_))
    rw [List.take_of_length_le (by omega)]
  | succ m ih =>
    intro i hi
    have hlt : i < D.length := by omega
    have hx := h D[i] (List.getElem_mem hlt)
    refine Ev.step (fun k => rfl) (Ev.yes (by omega) (Ev.yes (by omega) (Ev.yes (by omega) ?_)))
    rw [rd_at (by simpa using hlt)]
    refine Ev.bind (spec_l1Num.one (by simpa using hx.2)) ?_
    refine Ev.yes (by rw [textB_size, strOfNums_size, List.length_take]; simp; omega) ?_
    rw [show wrap64 ((i : Int) + 1) = ((i + 1 : Nat) : Int) from w64 (by omega) (by omega)]
    have := ih (i + 1) (by omega)
    rw [List.take_succ_eq_append_getElem hlt, textB_app] at this
    exact this
theorem spec_whText.ev (D : List Int) (hD : D.length ≤ 6) (h : ∀ x ∈ D, 0 ≤ x ∧ x < 10) : Ev (fun k => spec_whText.f k D) (textB D) := by
  unfold spec_whText.f
  exact spec_whText.lev D hD h D.length 0 (by omega)
theorem spec_whOf.lev {w d : Int} (hl : lockB w d = true) (D : List Int) (hD : D.length = w.toNat) (h : ∀ x ∈ D, 0 ≤ x ∧ x < 10) : ∀ (m : Nat) (n : Int) (T : List Int), 0 ≤ n → n ≤ 9223372036854775807 → digs d m n ++ T = D → Ev (fun k => spec_whOf.l0 k n (List.replicate m 0 ++ T) ((m : Int) - 1) w d) (textB D) := by
  obtain ⟨w1, w2, d1, d2⟩ := lockB_iff.mp hl
  intro m
  induction m with
  | zero =>
    intro n T h0 h1 hT
    refine Ev.step (fun k => rfl) (Ev.no (by omega) ?_)
    have : List.replicate 0 (0 : Int) ++ T = D := hT
    rw [this]
    exact Ev.bind (spec_whText.ev D (by omega) h) (Ev.now _)
  | succ m ih =>
    intro n T h0 h1 hT
    have hlen : m + 1 + T.length = D.length := by rw [← hT, List.length_append, digs_length]
    refine Ev.step (fun k => rfl) (Ev.yes (by omega) (Ev.no (by omega) (Ev.yes (by omega) (Ev.yes (by rw [List.length_append, List.length_replicate]; omega) ?_))))
    rw [show ((m + 1 : Nat) : Int) - 1 = (m : Nat) by omega, Int.toNat_natCast, rep_set, Int.tmod_eq_emod_of_nonneg h0, Int.tdiv_eq_ediv_of_nonneg h0]
    have r3 : 0 ≤ n / d := Int.ediv_nonneg h0 (by omega)
    have r4 : n / d ≤ n := Int.ediv_le_self _ h0
    rw [w64 (x := n / d) (by omega) (by omega), w64 (x := (m : Int) - 1) (by omega) (by omega)]
    refine ih (n / d) (n % d :: T) r3 (by omega) ?_
    rw [digs, List.append_assoc] at hT
    exact hT
theorem spec_whOf.ev {w d a : Int} (hl : lockB w d = true) (h0 : 0 ≤ a) (h1 : a ≤ 9223372036854775807) : Ev (fun k => spec_whOf.f k w d a) (codeB w d a) := by
  obtain ⟨w1, w2, d1, d2⟩ := lockB_iff.mp hl
  unfold spec_whOf.f
  refine Ev.yes (by omega) (Ev.yes (by omega) ?_)
  rw [w64 (x := w - 1) (by omega) (by omega)]
  have := spec_whOf.lev hl (digs d w.toNat a) (by rw [digs_length]) (fun x hx => by have := digs_range (d := d) (by omega) w.toNat a x hx; omega) w.toNat a [] h0 h1 (by rw [List.append_nil])
  rw [List.append_nil, show ((w.toNat : Nat) : Int) - 1 = w - 1 by omega] at this
  exact this
theorem spec_l1Least.is (a b : Int) : spec_l1Least.f a b = some (lst a b) := by unfold spec_l1Least.f lst; split <;> rfl
theorem turnV_range {d x y : Int} (hd : 2 ≤ d) (hd2 : d ≤ 10) (hx : -300 ≤ x ∧ x ≤ 300) (hy : -300 ≤ y ∧ y ≤ 300) : 0 ≤ turnV d x y ∧ turnV d x y < d := by
  unfold turnV
  have e1 : wrap64 (y - x) = y - x := w64 (by omega) (by omega)
  have h1 : -d < Int.tmod (y - x) d := Int.lt_tmod_of_pos _ (by omega)
  have h2 : Int.tmod (y - x) d < d := Int.tmod_lt_of_pos _ (by omega)
  rw [e1, w64 (by omega) (by omega), Int.tmod_eq_emod_of_nonneg (by omega)]
  exact ⟨Int.emod_nonneg _ (by omega), Int.emod_lt_of_pos _ (by omega)⟩
theorem spec_whDistance.lev {w d : Int} (hl : lockB w d = true) {s t : ByteArray} (hs : codeS w d s) (ht : codeS w d t) : ∀ (m i : Nat), i + m = s.size → Ev (fun k => spec_whDistance.l0 k (dg s) (dg t) (distF d s t i) ((dg s).length : Int) (i : Nat) w d) (distF d s t s.size) := by
  obtain ⟨w1, w2, d1, d2⟩ := lockB_iff.mp hl
  have hsz := hs.1
  have htz := ht.1
  intro m
  induction m with
  | zero =>
    intro i hi
    refine Ev.step (fun k => rfl) (Ev.no (by rw [dg_length]; omega) (Ev.id ?_))
    rw [show i = s.size by omega]
  | succ m ih =>
    intro i hi
    have a1 := hs.2 i (by omega)
    have a2 := ht.2 i (by omega)
    refine Ev.step (fun k => rfl) (Ev.yes (by rw [dg_length]; omega) (Ev.yes (by omega) (Ev.yes (by rw [dg_length]; omega) (Ev.yes (by rw [dg_length]; omega) ?_))))
    rw [dg_at (by omega), dg_at (by omega)]
    have hf : spec_whFar.f w d (bt s (i : Nat) - 48) (bt t (i : Nat) - 48) = some (turnV d (bt s (i : Nat)) (bt t (i : Nat)), Int.tmod (wrap64 (d - turnV d (bt s (i : Nat)) (bt t (i : Nat)))) d) := by
      unfold spec_whFar.f spec_l1Mod.f turnV
      rw [if_neg (by omega), show bt t (i : Nat) - 48 - (bt s (i : Nat) - 48) = bt t (i : Nat) - bt s (i : Nat) by omega]
      simp only [Option.bind_some]
      rw [if_neg (by omega)]
    refine Ev.bindc hf (Ev.bindc (spec_l1Least.is _ _) ?_)
    rw [show wrap64 ((i : Int) + 1) = ((i + 1 : Nat) : Int) from w64 (by omega) (by omega)]
    exact ih (i + 1) (by omega)
theorem impl_Lock_distance.lev {w d : Int} (hl : lockB w d = true) {s t : ByteArray} (hs : codeS w d s) (ht : codeS w d t) : ∀ (m i : Nat), i + m = s.size → Ev (fun k => impl_Lock_distance.l0 k s t (distF d s t i) (s.size : Int) (i : Nat) w d) (distF d s t s.size) := by
  obtain ⟨w1, w2, d1, d2⟩ := lockB_iff.mp hl
  have hsz := hs.1
  have htz := ht.1
  intro m
  induction m with
  | zero =>
    intro i hi
    refine Ev.step (fun k => rfl) (Ev.no (by omega) (Ev.id ?_))
    rw [show i = s.size by omega]
  | succ m ih =>
    intro i hi
    have a1 := hs.2 i (by omega)
    have a2 := ht.2 i (by omega)
    refine Ev.step (fun k => rfl) (Ev.yes (by omega) (Ev.yes (by omega) (Ev.yes (by omega) (Ev.yes (by omega) ?_))))
    have hr := turnV_range (d := d) (x := bt s (i : Nat)) (y := bt t (i : Nat)) d1 d2 (by omega) (by omega)
    have hf : impl_Lock_near.f w d (wrap64 (bt s (i : Nat))) (wrap64 (bt t (i : Nat))) = some (nearV d (bt s (i : Nat)) (bt t (i : Nat))) := by
      unfold impl_Lock_near.f impl_Lock_gap.f impl_around.f
      rw [if_neg (by omega), w64 (x := bt s (i : Nat)) (by omega) (by omega), w64 (x := bt t (i : Nat)) (by omega) (by omega)]
      simp only [Option.bind_some]
      show some (mn (turnV d (bt s (i : Nat)) (bt t (i : Nat))) (wrap64 (d - turnV d (bt s (i : Nat)) (bt t (i : Nat))))) = _
      unfold nearV
      generalize turnV d (bt s (i : Nat)) (bt t (i : Nat)) = q at hr
      rw [w64 (x := d - q) (by omega) (by omega)]
      congr 1
      by_cases hq : q = 0
      · subst hq
        rw [Int.sub_zero, Int.tmod_self]
        unfold mn lst
        simp
        omega
      · rw [Int.tmod_eq_of_lt (by omega) (by omega)]
        unfold mn lst
        by_cases e : q < d - q
        · simp [e]; omega
        · simp [e]; omega
    refine Ev.bindc hf ?_
    rw [show wrap64 ((i : Int) + 1) = ((i + 1 : Nat) : Int) from w64 (by omega) (by omega)]
    exact ih (i + 1) (by omega)
theorem spec_whDistance.ev {w d : Int} (hl : lockB w d = true) {s t : ByteArray} (hs : codeS w d s) (ht : codeS w d t) : Ev (fun k => spec_whDistance.f k w d s t) (distF d s t w.toNat) := by
  unfold spec_whDistance.f
  rw [← hs.1]
  exact Ev.bind (spec_whDigits.evc hl hs) (Ev.bind (spec_whDigits.evc hl ht) (spec_whDistance.lev hl hs ht s.size 0 (by omega)))
theorem impl_Lock_distance.ev {w d : Int} (hl : lockB w d = true) {s t : ByteArray} (hs : codeS w d s) (ht : codeS w d t) : Ev (fun k => impl_Lock_distance.f k w d s t) (distF d s t w.toNat) := by
  unfold impl_Lock_distance.f
  rw [← hs.1]
  exact impl_Lock_distance.lev hl hs ht s.size 0 (by omega)
/-! the first place where a test holds. -/
/-! slices.IndexFunc and slices.ContainsFunc at clues, under any predicate that makes nothing but new memory. -/
/-! (impl.Lock).fit, by hand: it asks its clues through slices.ContainsFunc and a closure. -/
/-! ### impl_Lock_solutions: function 60 -/
/-! ### impl_IsClue: function 45 -/
/-! impl's hidden locks and clues: what they come to. -/
theorem impl_isHidden.ev (w d : Int) : Ev (fun k => impl_isHidden.f k w d) (smallB w d 125) := by
  unfold impl_isHidden.f
  exact Ev.bind (impl_isSmall.ev w d 125) (Ev.now _)
/-! impl.IsPuzzle, by hand: it asks its clues through slices.ContainsFunc and a closure. -/
/-! ### impl_Solutions: function 42 -/
/-! ### spec_hiAll: function 58 -/
/-! ### spec_pzFits: function 59 -/
/-! ### spec_pzAll: function 41 -/
/-! Whether codes fit clues; all solutions: what both sides come to. -/
theorem clueB_cases {w d a b c : Int} (h : clueB w d a b c = true) : (a = 0 ∧ 0 ≤ b ∧ b ≤ w - 1) ∨ (a = 1 ∧ c = 0) ∨ (a = 2 ∧ 0 ≤ b ∧ b ≤ d ^ w.toNat - 1) ∨ (a = 3 ∧ 0 ≤ b ∧ b ≤ d ^ w.toNat - 1) ∨ (a = 4 ∧ 2 ≤ b ∧ b ≤ 9) := by
  unfold clueB at h
  by_cases h0 : a = 0
  · rw [if_pos h0] at h; simp at h; omega
  rw [if_neg h0] at h
  by_cases h1 : a = 1
  · rw [if_pos h1] at h; simp at h; omega
  rw [if_neg h1] at h
  by_cases h2 : a = 2
  · rw [if_pos h2] at h; simp at h; omega
  rw [if_neg h2] at h
  by_cases h3 : a = 3
  · rw [if_pos h3] at h; simp at h; omega
  rw [if_neg h3] at h
  by_cases h4 : a = 4
  · rw [if_pos h4] at h; simp at h; omega
  rw [if_neg h4] at h; cases h
theorem spec_hiOf.is {a b : ByteArray} (h : hintB a b = true) : spec_hiOf.f a b = some (plN a b a.size, cmN a b a.size 10 - plN a b a.size) := by unfold spec_hiOf.f; rw [if_pos h]
theorem impl_hint.is {a b : ByteArray} (h : hintB a b = true) : impl_hint.f a b = some (plN a b a.size, cmN a b a.size 10 - plN a b a.size) := by unfold impl_hint.f; rw [if_pos h]
theorem spec_pzValue.ev {w d a b : Int} (hl : lockB w d = true) {s : ByteArray} (hs : codeS w d s) (h : (a = 0 ∧ 0 ≤ b ∧ b ≤ w - 1) ∨ a = 1 ∨ (a = 2 ∧ 0 ≤ b ∧ b ≤ d ^ w.toNat - 1) ∨ (a = 3 ∧ 0 ≤ b ∧ b ≤ d ^ w.toNat - 1) ∨ (a = 4 ∧ 2 ≤ b ∧ b ≤ 9)) :
    Ev (fun k => spec_pzValue.f k w d a b s) (valV w d a b s) := by
  obtain ⟨w1, w2, d1, d2⟩ := lockB_iff.mp hl
  have hsz := hs.1
  have hcb := count_bound hl
  have h6 : (dg s).length ≤ 6 := by rw [dg_length]; omega
  unfold spec_pzValue.f
  rcases h with ⟨rfl, h1, h2⟩ | rfl | ⟨rfl, h1, h2⟩ | ⟨rfl, h1, h2⟩ | ⟨rfl, h1, h2⟩
  · rw [show valV w d 0 b s = bt s b - 48 by simp [valV]]
    have hb := hs.2 b.toNat (by omega)
    rw [show ((b.toNat : Nat) : Int) = b by omega] at hb
    refine Ev.yes rfl (Ev.yes h1 (Ev.yes (by omega) (Ev.id (by omega))))
  · rw [show valV w d 1 b s = sumF 0 (dg s) by simp [valV]]
    exact Ev.no (by omega) (Ev.yes rfl (Ev.bind (spec_whDigits.evc hl hs) (spec_pzValue.lev _ h6 (dg s).length 0 (by omega) 0)))
  · rw [show valV w d 2 b s = plN (codeB w d b) s w.toNat by simp [valV]]
    have hc := codeB_code (a := b) hl
    refine Ev.no (by omega) (Ev.no (by omega) (Ev.yes rfl (Ev.bind (spec_whOf.ev hl h1 (by omega)) (Ev.bindc (spec_hiOf.is (codeS_hint hl hc hs)) (Ev.id ?_)))))
    rw [hc.1]
  · rw [show valV w d 3 b s = distF d (codeB w d b) s w.toNat by simp [valV]]
    have hc := codeB_code (a := b) hl
    exact Ev.no (by omega) (Ev.no (by omega) (Ev.no (by omega) (Ev.yes rfl (Ev.bind (spec_whOf.ev hl h1 (by omega)) (Ev.bind (spec_whDistance.ev hl hc hs) (Ev.now _))))))
  · rw [show valV w d 4 b s = Int.tmod (numF d 0 (dg s)) b by simp [valV]]
    exact Ev.no (by omega) (Ev.no (by omega) (Ev.no (by omega) (Ev.no (by omega) (Ev.bind (spec_whNumber.ev hl hs) (Ev.no (by omega) (Ev.now _))))))
theorem impl_Lock_told.ev {w d a b c : Int} (hl : lockB w d = true) {s : ByteArray} (hs : codeS w d s) (h : clueB w d a b c = true) :
    Ev (fun k => impl_Lock_told.f k w d a b s) (if a = 1 then (1, valV w d 1 0 s, 0) else (a, b, valV w d a b s)) := by
  obtain ⟨w1, w2, d1, d2⟩ := lockB_iff.mp hl
  have hsz := hs.1
  have hcb := count_bound hl
  have h6 : (dg s).length ≤ 6 := by rw [dg_length]; omega
  unfold impl_Lock_told.f
  rcases clueB_cases h with ⟨rfl, h1, h2⟩ | ⟨rfl, h1⟩ | ⟨rfl, h1, h2⟩ | ⟨rfl, h1, h2⟩ | ⟨rfl, h1, h2⟩
  · rw [if_neg (show ¬ (0 : Int) = 1 by omega), show valV w d 0 b s = bt s b - 48 by simp [valV]]
    refine Ev.yes rfl (Ev.bind (impl_digits.ev hl hs) (Ev.yes h1 (Ev.yes (by rw [dg_length]; omega) (Ev.id ?_))))
    have := dg_at (s := s) (i := b.toNat) (by omega)
    rw [show ((b.toNat : Nat) : Int) = b by omega] at this
    rw [this]
  · rw [if_pos rfl, show valV w d 1 0 s = sumF 0 (dg s) by simp [valV]]
    exact Ev.no (by omega) (Ev.yes rfl (Ev.bind (impl_digits.ev hl hs) (impl_Lock_told.lev _ h6 (dg s).length 0 (by omega) 0)))
  · rw [if_neg (show ¬ (2 : Int) = 1 by omega), show valV w d 2 b s = plN (codeB w d b) s w.toNat by simp [valV]]
    have hc := codeB_code (a := b) hl
    refine Ev.no (by omega) (Ev.no (by omega) (Ev.yes rfl (Ev.bindc (impl_Lock_code.is hl h1 (by omega)) (Ev.bindc (impl_hint.is (codeS_hint hl hc hs)) (Ev.id ?_)))))
    rw [hc.1]
  · rw [if_neg (show ¬ (3 : Int) = 1 by omega), show valV w d 3 b s = distF d (codeB w d b) s w.toNat by simp [valV]]
    have hc := codeB_code (a := b) hl
    exact Ev.no (by omega) (Ev.no (by omega) (Ev.no (by omega) (Ev.yes rfl (Ev.bindc (impl_Lock_code.is hl h1 (by omega)) (Ev.bind (impl_Lock_distance.ev hl hc hs) (Ev.now _))))))
  · rw [if_neg (show ¬ (4 : Int) = 1 by omega), show valV w d 4 b s = Int.tmod (numF d 0 (dg s)) b by simp [valV]]
    exact Ev.no (by omega) (Ev.no (by omega) (Ev.no (by omega) (Ev.no (by omega) (Ev.bind (impl_Lock_number.ev hl hs) (Ev.no (by omega) (Ev.now _))))))
/-! Marks on clues, and that they are held. -/
theorem laws_markClueS.lev : ∀ (j : Nat) (l : List S37) (a i : Int), 0 ≤ i → i ≤ l.length → (l.length : Int) - i = j → l.length ≤ 9223372036854775807 → 0 ≤ a → a + 3 * j ≤ 4611686018427387904 →
    ∃ l' : List S37, l'.length = l.length ∧ (∀ m : Nat, (m : Int) < i → l'[m]? = l[m]?) ∧ Ev (fun k => laws_markClueS.l0 k l a i) (a + 3 * j, l') ∧ Ev (fun k => laws_heldClueS.l0 k l' a i) (a + 3 * j) := by
  intro j
  induction j with
  | zero =>
    intro l a i h0 hi hj hn ha hb
    exact ⟨l, rfl, fun _ _ => rfl, Ev.step (fun k => rfl) (Ev.no (by omega) (Ev.id (by simp))), Ev.step (fun k => rfl) (Ev.no (by omega) (Ev.id (by simp)))⟩
  | succ j ih =>
    intro l a i h0 hi hj hn ha hb
    have hlt : i.toNat < l.length := by omega
    have e1 : wrap64 (a + 1) = a + 1 := w64 (by omega) (by omega)
    have e2 : wrap64 (a + 1 + 1) = a + 2 := by rw [w64 (by omega) (by omega)]; omega
    have e3 : wrap64 (a + 2 + 1) = a + 3 := by rw [w64 (by omega) (by omega)]; omega
    have e4 : wrap64 (i + 1) = i + 1 := w64 (by omega) (by omega)
    obtain ⟨l', hl, hk, hm, hh⟩ := ih (l.set i.toNat ⟨a, a + 1, a + 2⟩) (a + 3) (i + 1) (by omega) (by simp; omega) (by simp; omega) (by simpa using hn) (by omega) (by omega)
    rw [List.length_set] at hl
    have hat : l'[i.toNat]? = some ⟨a, a + 1, a + 2⟩ := by
      rw [hk i.toNat (by omega)]
      simp [hlt]
    have hat' : rd_T37 l' i = ⟨a, a + 1, a + 2⟩ := by
      unfold rd_T37
      simp [List.getD, hat]
    refine ⟨l', hl, fun m hmi => ?_, ?_, ?_⟩
    · rw [hk m (by omega), List.getElem?_set_ne (by omega)]
    · refine Ev.step (fun k => rfl) (Ev.yes (by omega) (Ev.yes h0 ?_))
      simp only [Option.bind_some, e1, e2, e3, e4]
      have r1 : ∀ x : S37, rd_T37 (l.set i.toNat x) i = x := fun x => by rw [rd_clue (by simpa using hlt)]; simp
      simp only [r1, List.set_set]
      exact Ev.eq hm (by rw [Prod.mk.injEq]; exact ⟨by omega, rfl⟩)
    · refine Ev.step (fun k => rfl) (Ev.yes (by omega) (Ev.yes h0 ?_))
      simp only [e1, e2, e3, e4, hat']
      exact Ev.yes trivial (Ev.yes trivial (Ev.yes trivial (Ev.eq hh (by omega))))
theorem laws_markPuzzle.ev (w d : Int) (l : List S37) (a : Int) (ha : 0 ≤ a) (hb : a + 3 * l.length ≤ 4611686018427387904) :
    ∃ l' : List S37, Ev (fun k => laws_markPuzzle.f k w d l a) (a + 3 * l.length, l') ∧ Ev (fun k => laws_heldPuzzle.f k w d l' a) (a + 3 * l.length) := by
  obtain ⟨l', _, _, hm, hh⟩ := laws_markClueS.lev l.length l a 0 (by omega) (by omega) (by omega) (by omega) ha hb
  refine ⟨l', ?_, ?_⟩
  · unfold laws_markPuzzle.f laws_markClueS.f
    exact Ev.bind hm (Ev.now _)
  · unfold laws_heldPuzzle.f laws_heldClueS.f
    exact Ev.bind hh (Ev.no (by omega) (Ev.now _))
theorem opens_t3 : Opens Try.prog 3 (Kd.int .i64) IntV := opens_int Try.underlying3
def V23 (x : S23) : Prop := IntV x.f0 ∧ IntV x.f1
theorem opens_t23 : Opens Try.prog 23 k23 V23 := opens_iso (opens_pair Try.underlying23 opens_t3 opens_t3 (by kernel_rfl) (by kernel_rfl) (by kernel_rfl) (by kernel_rfl) (by kernel_rfl)) (fun x : S23 => (x.f0, x.f1)) (fun p => ⟨p.1, p.2⟩) (fun _ => rfl)
/-! The law FnExactMakePuzzle, over numbers and lists alone. -/
def toldC (w d : Int) (s : ByteArray) (a b : Int) : Int × Int × Int := if a = 1 then (1, valV w d 1 0 s, 0) else (a, b, valV w d a b s)
def mkV (w d : Int) (s : ByteArray) : Nat → Int → List S37 → List S37
  | 0, _, cs => cs
  | m + 1, z, cs => mkV w d s m (mkZ z) (cs ++ [(⟨(toldC w d s (nxV z % 5) (mkA w (d ^ w.toNat) (nxV z % 5) (mkZ z))).1, (toldC w d s (nxV z % 5) (mkA w (d ^ w.toNat) (nxV z % 5) (mkZ z))).2.1, (toldC w d s (nxV z % 5) (mkA w (d ^ w.toNat) (nxV z % 5) (mkZ z))).2.2⟩ : S37)])
theorem mkV_len (w d : Int) (s : ByteArray) : ∀ (m : Nat) (z : Int) (cs : List S37), (mkV w d s m z cs).length = cs.length + m
  | 0, _, _ => rfl
  | m + 1, z, cs => by rw [mkV, mkV_len w d s m]; simp; omega
theorem mkZ_range (z : Int) : 0 ≤ mkZ z ∧ mkZ z ≤ 10006 := by
  unfold mkZ; split
  · exact nxV_range z
  · exact nxV_range _
theorem mkA_ok {w cnt : Int} (hw : 1 ≤ w) (hc : 1 ≤ cnt) (z : Int) : (nxV z % 5 = 0 ∧ 0 ≤ mkA w cnt (nxV z % 5) (mkZ z) ∧ mkA w cnt (nxV z % 5) (mkZ z) ≤ w - 1) ∨ (nxV z % 5 = 1 ∧ mkA w cnt (nxV z % 5) (mkZ z) = 0) ∨ (nxV z % 5 = 2 ∧ 0 ≤ mkA w cnt (nxV z % 5) (mkZ z) ∧ mkA w cnt (nxV z % 5) (mkZ z) ≤ cnt - 1) ∨ (nxV z % 5 = 3 ∧ 0 ≤ mkA w cnt (nxV z % 5) (mkZ z) ∧ mkA w cnt (nxV z % 5) (mkZ z) ≤ cnt - 1) ∨ (nxV z % 5 = 4 ∧ 2 ≤ mkA w cnt (nxV z % 5) (mkZ z) ∧ mkA w cnt (nxV z % 5) (mkZ z) ≤ 9) := by
  have h1 := mkZ_range z
  generalize mkZ z = y at h1 ⊢
  have h2 : nxV z % 5 = 0 ∨ nxV z % 5 = 1 ∨ nxV z % 5 = 2 ∨ nxV z % 5 = 3 ∨ nxV z % 5 = 4 := by omega
  generalize nxV z % 5 = t at h2 ⊢
  have a1 := Int.emod_nonneg y (show w ≠ 0 by omega)
  have a2 := Int.emod_lt_of_pos y (show 0 < w by omega)
  have a3 := Int.emod_nonneg y (show cnt ≠ 0 by omega)
  have a4 := Int.emod_lt_of_pos y (show 0 < cnt by omega)
  unfold mkA
  rcases h2 with rfl | rfl | rfl | rfl | rfl <;> simp <;> omega
theorem told_mk {w d : Int} (hl : lockB w d = true) {s : ByteArray} (hs : codeS w d s) (z : Int) : Ev (fun k => impl_Lock_told.f k w d (nxV z % 5) (mkA w (d ^ w.toNat) (nxV z % 5) (mkZ z)) s) (toldC w d s (nxV z % 5) (mkA w (d ^ w.toNat) (nxV z % 5) (mkZ z))) := by
  obtain ⟨w1, w2, d1, d2⟩ := lockB_iff.mp hl
  have hc := (count_bound hl).1
  have hk := mkA_ok (w := w) w1 hc z
  generalize mkA w (d ^ w.toNat) (nxV z % 5) (mkZ z) = A at hk ⊢
  generalize nxV z % 5 = t at hk ⊢
  unfold toldC
  refine impl_Lock_told.ev (c := 0) hl hs ?_
  unfold clueB
  rcases hk with ⟨rfl, h⟩ | ⟨rfl, h⟩ | ⟨rfl, h⟩ | ⟨rfl, h⟩ | ⟨rfl, h⟩ <;> simp <;> omega
theorem pzOf_mk {w d : Int} (hl : lockB w d = true) {s : ByteArray} (hs : codeS w d s) (z : Int) : Ev (fun k => spec_pzOf.f k w d (nxV z % 5) (mkA w (d ^ w.toNat) (nxV z % 5) (mkZ z)) s) (toldC w d s (nxV z % 5) (mkA w (d ^ w.toNat) (nxV z % 5) (mkZ z))) := by
  obtain ⟨w1, w2, d1, d2⟩ := lockB_iff.mp hl
  have hc := (count_bound hl).1
  have hk := mkA_ok (w := w) w1 hc z
  generalize mkA w (d ^ w.toNat) (nxV z % 5) (mkZ z) = A at hk ⊢
  generalize nxV z % 5 = t at hk ⊢
  unfold toldC spec_pzOf.f
  by_cases h1 : t = 1
  · subst h1
    exact Ev.yes rfl (Ev.bind (spec_pzValue.ev hl hs (Or.inr (Or.inl rfl))) (Ev.id (by rw [if_pos rfl])))
  · exact Ev.no h1 (Ev.bind (spec_pzValue.ev hl hs (by omega)) (Ev.id (by rw [if_neg h1])))
theorem mkL.ev {w d : Int} (hl : lockB w d = true) {s : ByteArray} (hs : codeS w d s) : ∀ (m : Nat) (z : Int) (cs : List S37), Ev (fun k => mkL k w d (d ^ w.toNat) s m z cs) (mkV w d s m z cs)
  | 0, _, _ => Ev.now _
  | m + 1, z, cs => Ev.bind (told_mk hl hs z) (mkL.ev hl hs m _ _)
theorem pzNext_is {z : Int} (h0 : 0 ≤ z) (h1 : z ≤ 10006) : spec_pzNext.f z = some (nxV z) := by
  unfold spec_pzNext.f nxV
  rw [show wrap64 (173 * z) = z * 173 from by unfold wrap64; omega, show wrap64 (z * 173 + 2633) = z * 173 + 2633 from by unfold wrap64; omega, Int.tmod_eq_emod_of_nonneg (by omega)]
theorem spec_MakePuzzle.lev {w d : Int} (hl : lockB w d = true) {s : ByteArray} (hs : codeS w d s) : ∀ (m : Nat) (z : Int) (cs : List S37), 0 ≤ z → z ≤ 10006 → cs.length + m ≤ 6 → Ev (fun k => spec_MakePuzzle.l0 k s (m : Nat) z w d w d cs) (w, d, mkV w d s m z cs, true) := by
  obtain ⟨w1, w2, d1, d2⟩ := lockB_iff.mp hl
  have hcb := (count_bound hl).1
  intro m
  induction m with
  | zero => intro z cs h0 h1 h6; exact Ev.step (fun k => rfl) (Ev.no (by omega) (Ev.now _))
  | succ m ih =>
    intro z cs h0 h1 h6
    have hr := nxV_range z
    have hr2 := nxV_range (nxV z)
    have hof := pzOf_mk hl hs z
    have hrec := ih (mkZ z) (cs ++ [(⟨(toldC w d s (nxV z % 5) (mkA w (d ^ w.toNat) (nxV z % 5) (mkZ z))).1, (toldC w d s (nxV z % 5) (mkA w (d ^ w.toNat) (nxV z % 5) (mkZ z))).2.1, (toldC w d s (nxV z % 5) (mkA w (d ^ w.toNat) (nxV z % 5) (mkZ z))).2.2⟩ : S37)]) (mkZ_range z).1 (mkZ_range z).2 (by simp; omega)
    have hm : wrap64 (((m + 1 : Nat) : Int) - 1) = (m : Nat) := by unfold wrap64; omega
    have ht : (nxV z).tmod 5 = nxV z % 5 := Int.tmod_eq_emod_of_nonneg hr.1
    have hk : nxV z % 5 = 0 ∨ nxV z % 5 = 1 ∨ nxV z % 5 = 2 ∨ nxV z % 5 = 3 ∨ nxV z % 5 = 4 := by omega
    refine Ev.step (fun k => rfl) (Ev.yes (by omega) (Ev.bindc (pzNext_is h0 h1) ?_))
    simp only [ht, hm]
    rw [mkV]
    rcases hk with hk | hk | hk | hk | hk
    · have hA : mkA w (d ^ w.toNat) (nxV z % 5) (mkZ z) = (nxV (nxV z)).tmod w := by unfold mkA mkZ; rw [if_pos hk, if_neg (by omega), Int.tmod_eq_emod_of_nonneg hr2.1]
      have hZ : mkZ z = nxV (nxV z) := by unfold mkZ; rw [if_neg (by omega)]
      rw [hA] at hof; rw [hA, hZ] at hrec ⊢
      exact Ev.no (by omega) (Ev.bindc (pzNext_is hr.1 hr.2) (Ev.yes hk (Ev.no (by omega) (Ev.bind hof (Ev.yes (by omega) hrec)))))
    · have hA : mkA w (d ^ w.toNat) (nxV z % 5) (mkZ z) = 0 := by unfold mkA; rw [if_neg (by omega), if_neg (by omega), if_neg (by omega)]
      have hZ : mkZ z = nxV z := by unfold mkZ; rw [if_pos hk]
      rw [hA] at hof; rw [hA, hZ] at hrec ⊢
      exact Ev.yes hk (Ev.bind hof (Ev.yes (by omega) hrec))
    · have hA : mkA w (d ^ w.toNat) (nxV z % 5) (mkZ z) = (nxV (nxV z)).tmod (d ^ w.toNat) := by unfold mkA mkZ; rw [if_neg (by omega), if_pos (Or.inl hk), if_neg (by omega), Int.tmod_eq_emod_of_nonneg hr2.1]
      have hZ : mkZ z = nxV (nxV z) := by unfold mkZ; rw [if_neg (by omega)]
      rw [hA] at hof; rw [hA, hZ] at hrec ⊢
      exact Ev.no (by omega) (Ev.bindc (pzNext_is hr.1 hr.2) (Ev.no (by omega) (Ev.no (by omega) (Ev.bind (spec_whCount.ev hl) (Ev.no (by omega) (Ev.bind hof (Ev.yes (by omega) hrec)))))))
    · have hA : mkA w (d ^ w.toNat) (nxV z % 5) (mkZ z) = (nxV (nxV z)).tmod (d ^ w.toNat) := by unfold mkA mkZ; rw [if_neg (by omega), if_pos (Or.inr hk), if_neg (by omega), Int.tmod_eq_emod_of_nonneg hr2.1]
      have hZ : mkZ z = nxV (nxV z) := by unfold mkZ; rw [if_neg (by omega)]
      rw [hA] at hof; rw [hA, hZ] at hrec ⊢
      exact Ev.no (by omega) (Ev.bindc (pzNext_is hr.1 hr.2) (Ev.no (by omega) (Ev.no (by omega) (Ev.bind (spec_whCount.ev hl) (Ev.no (by omega) (Ev.bind hof (Ev.yes (by omega) hrec)))))))
    · have hA : mkA w (d ^ w.toNat) (nxV z % 5) (mkZ z) = wrap64 ((nxV (nxV z)).tmod 8 + 2) := by unfold mkA mkZ; rw [if_neg (by omega), if_neg (by omega), if_pos hk, if_neg (by omega), Int.tmod_eq_emod_of_nonneg hr2.1]; unfold wrap64; omega
      have hZ : mkZ z = nxV (nxV z) := by unfold mkZ; rw [if_neg (by omega)]
      rw [hA] at hof; rw [hA, hZ] at hrec ⊢
      exact Ev.no (by omega) (Ev.bindc (pzNext_is hr.1 hr.2) (Ev.no (by omega) (Ev.yes hk (Ev.bind hof (Ev.yes (by omega) hrec)))))
def makeR (w d : Int) (s : ByteArray) (n z : Int) : Int × Int × List S37 × Bool :=
  if smallB w d 125 = true ∧ codeT w d s = true ∧ winB n 0 6 = true ∧ winB z 0 9999 = true then (w, d, mkV w d s n.toNat z [], true) else (0, 0, [], false)
theorem makeR_len (w d : Int) (s : ByteArray) (n z : Int) : (makeR w d s n z).2.2.1.length ≤ 6 := by
  unfold makeR
  by_cases e : smallB w d 125 = true ∧ codeT w d s = true ∧ winB n 0 6 = true ∧ winB z 0 9999 = true
  · rw [if_pos e]
    have h3 := e.2.2.1
    unfold winB at h3
    have := of_decide_eq_true h3
    show (mkV w d s n.toNat z []).length ≤ 6
    rw [mkV_len]; simp; omega
  · rw [if_neg e]; exact Nat.zero_le _
theorem impl_MakePuzzle.ev (w d : Int) (s : ByteArray) (n z : Int) : Ev (fun k => impl_MakePuzzle.f k w d s n z) (makeR w d s n z) := by
  unfold impl_MakePuzzle.f makeR
  refine Ev.bind (impl_isHidden.ev w d) ?_
  cases h : smallB w d 125 with
  | false => exact Ev.no (by simp) (Ev.id (by simp))
  | true =>
    have hl := smallB_lock h
    obtain ⟨w1, w2, d1, d2⟩ := lockB_iff.mp hl
    have hcb := (count_bound hl).1
    refine Ev.yes rfl (Ev.bind (impl_has.one hl s) ?_)
    cases h2 : codeT w d s with
    | false => exact Ev.no (by simp) (Ev.id (by simp))
    | true =>
      refine Ev.yes rfl ?_
      cases h3 : winB n 0 6 with
      | false => exact Ev.no (by simp) (Ev.id (by simp))
      | true =>
        refine Ev.yes rfl ?_
        cases h4 : winB z 0 9999 with
        | false => exact Ev.no (by simp) (Ev.id (by simp))
        | true =>
          have b3 := h3
          have b4 := h4
          unfold winB at b3 b4
          have c3 := of_decide_eq_true b3
          have c4 := of_decide_eq_true b4
          refine Ev.yes rfl (Ev.yes (by omega) (Ev.bind (impl_Lock_count.ev hl) (Ev.yes (by omega) (Ev.bind (mkL.ev hl (codeT_iff.mp h2) _ _ _) (Ev.id (by simp))))))
theorem winB_eq (a b c : Int) : decide (b ≤ a ∧ a ≤ c) = winB a b c := rfl
theorem spec_MakePuzzle.ev (w d : Int) (s : ByteArray) (n z : Int) : Ev (fun k => spec_MakePuzzle.f k w d s n z) (makeR w d s n z) := by
  have fail : ∀ (h : ¬ (smallB w d 125 = true ∧ codeT w d s = true ∧ winB n 0 6 = true ∧ winB z 0 9999 = true)), Ev (fun k => spec_MakePuzzle.j0 k s n z true w d) (makeR w d s n z) := by
    intro h
    refine Ev.step (fun k => rfl) ?_
    simp only [spec_MakePuzzle.j0]
    exact Ev.yes trivial (Ev.id (by unfold makeR; rw [if_neg h]))
  unfold spec_MakePuzzle.f
  refine Ev.bind (spec_pzLock.ev w d) ?_
  cases h : smallB w d 125 with
  | false => exact Ev.no (by simp) (fail (by simp [h]))
  | true =>
    have hl := smallB_lock h
    refine Ev.yes rfl (Ev.bind (spec_whCode.ev hl s) ?_)
    cases h2 : codeT w d s with
    | false => exact Ev.no (by simp) (fail (by simp [h2]))
    | true =>
      refine Ev.yes rfl (Ev.bindc (spec_l1In.is _ _ _) ?_)
      rw [winB_eq]
      cases h3 : winB n 0 6 with
      | false => exact Ev.no (by simp) (fail (by simp [h3]))
      | true =>
        refine Ev.yes rfl (Ev.bindc (spec_l1In.is _ _ _) ?_)
        rw [winB_eq]
        cases h4 : winB z 0 9999 with
        | false => exact fail (by simp [h4])
        | true =>
          have b3 := h3
          have b4 := h4
          unfold winB at b3 b4
          have c3 := of_decide_eq_true b3
          have c4 := of_decide_eq_true b4
          refine Ev.step (fun k => rfl) ?_
          simp only [spec_MakePuzzle.j0]
          refine Ev.no (by simp) ?_
          obtain ⟨N, rfl⟩ := Int.eq_ofNat_of_zero_le c3.1
          refine Ev.eq (spec_MakePuzzle.lev hl (codeT_iff.mp h2) N z [] (by omega) (by omega) (by simp; omega)) ?_
          unfold makeR
          rw [if_pos ⟨h, h2, h3, h4⟩, Int.toNat_natCast]
theorem pure_FnExactMakePuzzle (l : S23) (_ : V23 l) (s : ByteArray) (_ : StrV s) (n : Int) (_ : IntV n) (z : Int) (_ : IntV z) : ∃ k, laws_FnExactMakePuzzle.f k l.f0 l.f1 s n z = some true := by
  refine Ev.rounds ?_
  unfold laws_FnExactMakePuzzle.f
  by_cases hz : (s.size : Int) > 1048576
  · exact Ev.yes hz (Ev.now _)
  · refine Ev.no hz ?_
    simp only [laws_toLock.f, Option.bind_some]
    have him := impl_MakePuzzle.ev l.f0 l.f1 s n z
    have hsp := spec_MakePuzzle.ev l.f0 l.f1 s n z
    have hlen := makeR_len l.f0 l.f1 s n z
    generalize makeR l.f0 l.f1 s n z = R at hlen him hsp
    have heq := laws_eqPuzzle.ev R.1 R.2.1 R.2.2.1 (by omega)
    refine Ev.bind hsp (Ev.bind him (Ev.bind heq (Ev.yes rfl (Ev.step (fun k => rfl) ?_))))
    simp only [laws_FnExactMakePuzzle.j0]
    obtain ⟨g', hg1, hg2⟩ := laws_markPuzzle.ev R.1 R.2.1 R.2.2.1 1 (by omega) (by omega)
    refine Ev.no (by simp) (Ev.bind hg1 (Ev.bind hg2 (Ev.no (by omega) (Ev.yes rfl ?_))))
    simp only [laws_toLock.f, Option.bind_some]
    refine Ev.bind him (Ev.bind heq (Ev.yes rfl ?_))
    refine Ev.step (fun k => rfl) ?_
    simp only [laws_FnExactMakePuzzle.j1]
    exact Ev.no (by simp) (Ev.bind hg2 (Ev.no (by omega) (Ev.yes rfl (Ev.now _))))
end Go.Proofs.Ytlmfiaopgndbcaa.P