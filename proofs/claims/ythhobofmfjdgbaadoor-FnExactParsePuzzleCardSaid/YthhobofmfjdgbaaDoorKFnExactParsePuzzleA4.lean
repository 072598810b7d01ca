import Derived.Test.YthhobofmfjdgbaaDoorKFnExactParsePuzzleA0
import Derived.Test.YthhobofmfjdgbaaDoorKFnExactParsePuzzleA3
import Derived.Test.YthhobofmfjdgbaaDoorKFnExactParsePuzzleA1
import Derived.ProofKit
import Derived.Lib.SmallJoins
import Derived.Deep.Slices
import Derived.Lib.Join
import Derived.Lib.SplitLaws
import Derived.Test.YthhobofmfjdgbaaDoorKFnExactParsePuzzleA2
import Derived.Shelf.Abstract
import Derived.Deep.RegionHeld3
import Derived.HandedShaped
import Derived.LaidMore
import Derived.LaidLaws
import Derived.Lay
namespace Go.Proofs.YthhobofmfjdgbaaDoor.P
open Go.RowKit Go.Proofs.YthhobofmfjdgbaaDoorW.PrintWords Go.Proofs.YthhobofmfjdgbaaDoorW.PrintLast Go.Proofs.YthhobofmfjdgbaaDoorW.PrintMore
attribute [local go_sem] max2_int min2_int max_two min_two max_three min_three max_four min_four
set_option linter.unusedVariables false
set_option linter.unusedSimpArgs false
/-! ### spec_ParsePuzzle: function 21 -/
def spec_ParsePuzzle.f (k : Nat) (a0 : ByteArray) : Option (Int × Int × (List (S77)) × Bool) := (spec_pzParse.f k a0).bind fun bt354 => (if bt354.2.2.2 = true then (some (bt354.1, bt354.2.1, bt354.2.2.1, true)) else (some (0, 0, ([] : List (S77)), false)))
set_option maxHeartbeats 8000000 in
set_option maxRecDepth 100000 in
theorem spec_ParsePuzzle.calls (k : Nat) (a0 : ByteArray) (r1 : Int) (r2 : Int) (r3 : List (S77)) (r4 : Bool) (w : World) (h : spec_ParsePuzzle.f k a0 = some (r1, r2, r3, r4)) :
    Calls Tryd.prog 21 #[.string a0] w fun e w' => ∃ v2_ : Value, e = .returned (.tuple #[.agg #[.int .i64 r1, .int .i64 r2, v2_], .bool r4]) ∧ Kd.R k77 77 w' w.heap.size (fun _ => True) v2_ r3 ∧ Below w.heap.size w w' := by
  have hu42 := Tryd.underlying42
  have HB := amk (Below.refl w.heap.size w)
  have H : ((spec_pzParse.f k a0).bind fun bt354 => (if bt354.2.2.2 = true then (some (bt354.1, bt354.2.1, bt354.2.2.1, true)) else (some (0, 0, ([] : List (S77)), false)))) = some (r1, r2, r3, r4) := h
  clear h
  replace H := Option.bind_eq_some_iff.mp H
  obtain ⟨⟨t354, t355, t356, t359⟩, A20, H⟩ := H
  replace H : (if t359 = true then (some (t354, t355, t356, true)) else (some (0, 0, ([] : List (S77)), false))) = some (r1, r2, r3, r4) := H
  have A2 := amk A20
  clear A20
  by_cases c3 : t359 = true
  · subst c3
    have H1 : (some (t354, t355, t356, true)) = some (r1, r2, r3, r4) := by rw [if_pos rfl] at H; exact H
    clear H
    have H := H1
    clear H1
    simp only [Option.some.injEq, Prod.mk.injEq] at H
    obtain ⟨rfl, rfl, rfl, rfl⟩ := H
    go_enter Tryd.func21, Tryd.ntmps21
    go_wp2_with (first | ((with_reducible refine gate_dst (N := 2) rfl ?_); refine box_event ?hg (N := 2) ?hd (cs := #[.int .i64 0, .int .i64 0, .slice none 0 0]) (t := 42) ?hr ?_; (case hd => rfl); (case hg => rfl); (case hr => first | (go_simp; done) | (go_simp; rfl)); intro gb353 hg w4 hbox hb; have n0_ := amk (bp_ (by repeat (first | (with_reducible first | exact HB.out | apply ba_ | apply bn_ | apply bd_) | exact HB.out)) hb); have n1_ := amk (hbox); have n2_ := amk ((by rw [hg]; exact (below_size (by repeat (first | (with_reducible first | exact HB.out | apply ba_ | apply bn_ | apply bd_) | exact HB.out))) : w.heap.size ≤ gb353)); have n3_ := amk ((by rw [hg]; exact (below_size (by repeat (first | (with_reducible first | exact HB.out | apply ba_ | apply bn_ | apply bd_) | exact HB.out))) : w.heap.size ≤ gb353)); clear HB; have HB := n0_; have BK353 := n1_; have GW353 := n2_; have GE353 := n3_; clear n0_ n1_ n2_ n3_; clear hb hbox hg) | ((with_reducible refine gate_callee (f := 48) rfl ?_); refine goesL_ (some 8) rfl rfl Tryd.func48 (by kernel_rfl) rfl #[.string a0] rfl (by (try simp only [List.map_toArray, List.map_cons, List.map_nil]); first | done | rfl | (simp only [List.length_drop, List.length_take]; rfl)) ?_; (with_reducible refine (spec_pzParse.calls k a0 t354 t355 t356 true _ A2.out).mono ?_); rintro e w5 ⟨v357, rfl, ho0, hb⟩; refine ⟨_, rfl, ?_⟩; have n0_ := amk (Kd.R_lower ho0 (below_size (by repeat (first | (with_reducible first | exact HB.out | apply ba_ | apply bn_ | apply bd_ | refine bs_ ?_ GE353.out) | exact HB.out)))); have n1_ := amk (blk_below (g := gb353) (o := .cells #[.int .i64 0, .int .i64 0, .slice none 0 0] 42 (0, 0)) (by (with_reducible repeat (first | refine kn_ ?_ _ | refine blk_drew ?_ | refine ka_ ?_ _)); exact BK353.out) hb); have n2_ := amk (bp_ (by repeat (first | (with_reducible first | exact HB.out | apply ba_ | apply bn_ | apply bd_ | refine bs_ ?_ GE353.out) | exact HB.out)) hb); clear BK353; clear HB; have HO358 := n0_; have BK353 := n1_; have HB := n2_; clear n0_ n1_ n2_; (try clear hb); (try clear hb2); (try clear hk); (try clear hi); (try clear ho0)) | ((with_reducible refine gate_dst (N := 4) rfl ?_); refine box_event ?hg (N := 4) ?hd (cs := #[.int .i64 0, .int .i64 0, .slice none 0 0]) (t := 42) ?hr ?_; (case hd => rfl); (case hg => rfl); (case hr => first | (go_simp; done) | (go_simp; rfl)); intro gb360 hg w6 hbox hb; have n0_ := amk (Kd.R_below (by (with_reducible repeat (first | apply Kd.R_alloc | apply Kd.R_drewN | apply Kd.R_drew)); exact HO358.out) hb); have n1_ := amk (blk_below (g := gb353) (o := .cells #[.int .i64 0, .int .i64 0, .slice none 0 0] 42 (0, 0)) (by (with_reducible repeat (first | refine kn_ ?_ _ | refine blk_drew ?_ | refine ka_ ?_ _)); exact BK353.out) hb); have n2_ := amk (bp_ (by repeat (first | (with_reducible first | exact HB.out | apply ba_ | apply bn_ | apply bd_ | refine bs_ ?_ GE353.out) | exact HB.out)) hb); have n3_ := amk (hbox); have n4_ := amk ((by rw [hg]; exact (below_size (by repeat (first | (with_reducible first | exact HB.out | apply ba_ | apply bn_ | apply bd_ | refine bs_ ?_ GE353.out) | exact HB.out))) : w.heap.size ≤ gb360)); have n5_ := amk ((by rw [hg]; exact (below_size (by repeat (first | (with_reducible first | exact HB.out | apply ba_ | apply bn_ | apply bd_ | refine bs_ ?_ GE353.out) | exact HB.out))) : w.heap.size ≤ gb360)); have n6_ := amk ((by rw [hg]; exact Nat.ne_of_lt (blk_lt (g := gb353) (o := .cells #[.int .i64 0, .int .i64 0, .slice none 0 0] 42 (0, 0)) (by (with_reducible repeat (first | refine kn_ ?_ _ | refine blk_drew ?_ | refine ka_ ?_ _)); exact BK353.out)) : gb353 ≠ gb360)); have n7_ := amk ((by rw [hg]; exact Nat.ne_of_gt (blk_lt (g := gb353) (o := .cells #[.int .i64 0, .int .i64 0, .slice none 0 0] 42 (0, 0)) (by (with_reducible repeat (first | refine kn_ ?_ _ | refine blk_drew ?_ | refine ka_ ?_ _)); exact BK353.out)) : gb360 ≠ gb353)); clear HO358; clear BK353; clear HB; have HO358 := n0_; have BK353 := n1_; have HB := n2_; have BK360 := n3_; have GW360 := n4_; have GE360 := n5_; have NB353_360 := n6_; have NB360_353 := n7_; clear n0_ n1_ n2_ n3_ n4_ n5_ n6_ n7_; clear hb hbox hg; have hnb7 := NB360_353.out; have hnc7 := NB353_360.out; have hcz8_0 : w6.cell? ⟨gb360, 0, none⟩ = some (.int .i64 0) := (blk_cell BK360.out 0).trans rfl; have hcz8_1 : w6.cell? ⟨gb360, 1, none⟩ = some (.int .i64 0) := (blk_cell BK360.out 1).trans rfl; have hcz8_2 : w6.cell? ⟨gb360, 2, none⟩ = some (.slice none 0 0) := (blk_cell BK360.out 2).trans rfl; have hfz8_0 := blk_frozen BK360.out 0; have hfz8_1 := blk_frozen BK360.out 1; have hfz8_2 := blk_frozen BK360.out 2; obtain ⟨Ao9, co9, eo9⟩ := Kd.R_slice HO358.out; subst eo9; have hcz10_0 : w6.cell? ⟨gb353, 0, none⟩ = some (.int .i64 0) := (blk_cell BK353.out 0).trans rfl; have hcz10_1 : w6.cell? ⟨gb353, 1, none⟩ = some (.int .i64 0) := (blk_cell BK353.out 1).trans rfl; have hcz10_2 : w6.cell? ⟨gb353, 2, none⟩ = some (.slice none 0 0) := (blk_cell BK353.out 2).trans rfl; have hfz10_0 := blk_frozen BK353.out 0; have hfz10_1 := blk_frozen BK353.out 1; have hfz10_2 := blk_frozen BK353.out 2))
    refine bodyPost_ret (results_ct rfl _ _ gb353 42 #[.int .i64 t354, .int .i64 t355, .slice Ao9 t356.length co9] (0, 0) _ rfl (by (with_reducible repeat (first | refine kn_ ?_ _ | refine blk_drew ?_ | refine ka_ ?_ _)); refine blk_put (cs := #[.int .i64 t354, .int .i64 t355, .slice none 0 0]) ?_ 2 _ rfl; (with_reducible repeat (first | refine kn_ ?_ _ | refine blk_drew ?_ | refine ka_ ?_ _)); refine blk_put (cs := #[.int .i64 t354, .int .i64 0, .slice none 0 0]) ?_ 1 _ rfl; (with_reducible repeat (first | refine kn_ ?_ _ | refine blk_drew ?_ | refine ka_ ?_ _)); refine blk_put (cs := #[.int .i64 0, .int .i64 0, .slice none 0 0]) ?_ 0 _ rfl; (with_reducible repeat (first | refine kn_ ?_ _ | refine blk_drew ?_ | refine ka_ ?_ _)); refine blk_far ?_ NB353_360.out _; (with_reducible repeat (first | refine kn_ ?_ _ | refine blk_drew ?_ | refine ka_ ?_ _)); refine blk_far ?_ NB353_360.out _; (with_reducible repeat (first | refine kn_ ?_ _ | refine blk_drew ?_ | refine ka_ ?_ _)); refine blk_far ?_ NB353_360.out _; (with_reducible repeat (first | refine kn_ ?_ _ | refine blk_drew ?_ | refine ka_ ?_ _)); exact BK353.out) Tryd.underlying42 rfl (by kernel_rfl)) rfl ?_
    exact ⟨_, by first | rfl | (simp [errW_none, errW_some] <;> rfl) | (simp [*, errW_none, errW_some] <;> rfl), by (with_reducible repeat (first | apply Kd.R_alloc | apply Kd.R_drewN | apply Kd.R_drew)); exact Kd.R_mono (Kd.R_far (p := ⟨gb353, 2, none⟩) (Kd.R_far (p := ⟨gb353, 1, none⟩) (Kd.R_far (p := ⟨gb353, 0, none⟩) (Kd.R_far (p := ⟨gb360, 2, none⟩) (Kd.R_far (p := ⟨gb360, 1, none⟩) (Kd.R_far (p := ⟨gb360, 0, none⟩) (Kd.R_types (Kd.R_types HO358.out BK360.out (by decide)) BK353.out (by decide)) (fun _ hk => hk.1.2) (.int .i64 t354)) (fun _ hk => hk.1.2) (.int .i64 t355)) (fun _ hk => hk.1.2) (.slice Ao9 t356.length co9)) (fun _ hk => hk.2) (.int .i64 t354)) (fun _ hk => hk.2) (.int .i64 t355)) (fun _ hk => hk.2) (.slice Ao9 t356.length co9)) (fun _ hk => trivial), by repeat (first | (with_reducible first | exact HB.out | apply ba_ | apply bn_ | apply bd_ | refine bs_ ?_ GE353.out | refine bs_ ?_ GE360.out) | exact HB.out)⟩
  · replace c3 := Bool.eq_false_iff.mpr c3
    subst c3
    have H1 : (some (0, 0, ([] : List (S77)), false)) = some (r1, r2, r3, r4) := by rw [if_neg (show ¬ (false = true) by decide)] at H; exact H
    clear H
    have H := H1
    clear H1
    simp only [Option.some.injEq, Prod.mk.injEq] at H
    obtain ⟨rfl, rfl, rfl, rfl⟩ := H
    go_enter Tryd.func21, Tryd.ntmps21
    go_wp2_with (first | ((with_reducible refine gate_dst (N := 2) rfl ?_); refine box_event ?hg (N := 2) ?hd (cs := #[.int .i64 0, .int .i64 0, .slice none 0 0]) (t := 42) ?hr ?_; (case hd => rfl); (case hg => rfl); (case hr => first | (go_simp; done) | (go_simp; rfl)); intro gb353 hg w11 hbox hb; have n0_ := amk (bp_ (by repeat (first | (with_reducible first | exact HB.out | apply ba_ | apply bn_ | apply bd_) | exact HB.out)) hb); have n1_ := amk (hbox); have n2_ := amk ((by rw [hg]; exact (below_size (by repeat (first | (with_reducible first | exact HB.out | apply ba_ | apply bn_ | apply bd_) | exact HB.out))) : w.heap.size ≤ gb353)); have n3_ := amk ((by rw [hg]; exact (below_size (by repeat (first | (with_reducible first | exact HB.out | apply ba_ | apply bn_ | apply bd_) | exact HB.out))) : w.heap.size ≤ gb353)); clear HB; have HB := n0_; have BK353 := n1_; have GW353 := n2_; have GE353 := n3_; clear n0_ n1_ n2_ n3_; clear hb hbox hg) | ((with_reducible refine gate_callee (f := 48) rfl ?_); refine goesL_ (some 8) rfl rfl Tryd.func48 (by kernel_rfl) rfl #[.string a0] rfl (by (try simp only [List.map_toArray, List.map_cons, List.map_nil]); first | done | rfl | (simp only [List.length_drop, List.length_take]; rfl)) ?_; (with_reducible refine (spec_pzParse.calls k a0 t354 t355 t356 false _ A2.out).mono ?_); rintro e w12 ⟨v357, rfl, ho0, hb⟩; refine ⟨_, rfl, ?_⟩; have n0_ := amk (Kd.R_lower ho0 (below_size (by repeat (first | (with_reducible first | exact HB.out | apply ba_ | apply bn_ | apply bd_ | refine bs_ ?_ GE353.out) | exact HB.out)))); have n1_ := amk (blk_below (g := gb353) (o := .cells #[.int .i64 0, .int .i64 0, .slice none 0 0] 42 (0, 0)) (by (with_reducible repeat (first | refine kn_ ?_ _ | refine blk_drew ?_ | refine ka_ ?_ _)); exact BK353.out) hb); have n2_ := amk (bp_ (by repeat (first | (with_reducible first | exact HB.out | apply ba_ | apply bn_ | apply bd_ | refine bs_ ?_ GE353.out) | exact HB.out)) hb); clear BK353; clear HB; have HO358 := n0_; have BK353 := n1_; have HB := n2_; clear n0_ n1_ n2_; (try clear hb); (try clear hb2); (try clear hk); (try clear hi); (try clear ho0)) | ((with_reducible refine gate_dst (N := 4) rfl ?_); refine box_event ?hg (N := 4) ?hd (cs := #[.int .i64 0, .int .i64 0, .slice none 0 0]) (t := 42) ?hr ?_; (case hd => rfl); (case hg => rfl); (case hr => first | (go_simp; done) | (go_simp; rfl)); intro gb360 hg w13 hbox hb; have n0_ := amk (Kd.R_below (by (with_reducible repeat (first | apply Kd.R_alloc | apply Kd.R_drewN | apply Kd.R_drew)); exact HO358.out) hb); have n1_ := amk (blk_below (g := gb353) (o := .cells #[.int .i64 0, .int .i64 0, .slice none 0 0] 42 (0, 0)) (by (with_reducible repeat (first | refine kn_ ?_ _ | refine blk_drew ?_ | refine ka_ ?_ _)); exact BK353.out) hb); have n2_ := amk (bp_ (by repeat (first | (with_reducible first | exact HB.out | apply ba_ | apply bn_ | apply bd_ | refine bs_ ?_ GE353.out) | exact HB.out)) hb); have n3_ := amk (hbox); have n4_ := amk ((by rw [hg]; exact (below_size (by repeat (first | (with_reducible first | exact HB.out | apply ba_ | apply bn_ | apply bd_ | refine bs_ ?_ GE353.out) | exact HB.out))) : w.heap.size ≤ gb360)); have n5_ := amk ((by rw [hg]; exact (below_size (by repeat (first | (with_reducible first | exact HB.out | apply ba_ | apply bn_ | apply bd_ | refine bs_ ?_ GE353.out) | exact HB.out))) : w.heap.size ≤ gb360)); have n6_ := amk ((by rw [hg]; exact Nat.ne_of_lt (blk_lt (g := gb353) (o := .cells #[.int .i64 0, .int .i64 0, .slice none 0 0] 42 (0, 0)) (by (with_reducible repeat (first | refine kn_ ?_ _ | refine blk_drew ?_ | refine ka_ ?_ _)); exact BK353.out)) : gb353 ≠ gb360)); have n7_ := amk ((by rw [hg]; exact Nat.ne_of_gt (blk_lt (g := gb353) (o := .cells #[.int .i64 0, .int .i64 0, .slice none 0 0] 42 (0, 0)) (by (with_reducible repeat (first | refine kn_ ?_ _ | refine blk_drew ?_ | refine ka_ ?_ _)); exact BK353.out)) : gb360 ≠ gb353)); clear HO358; clear BK353; clear HB; have HO358 := n0_; have BK353 := n1_; have HB := n2_; have BK360 := n3_; have GW360 := n4_; have GE360 := n5_; have NB353_360 := n6_; have NB360_353 := n7_; clear n0_ n1_ n2_ n3_ n4_ n5_ n6_ n7_; clear hb hbox hg; have hnb14 := NB360_353.out; have hnc14 := NB353_360.out; have hcz15_0 : w13.cell? ⟨gb360, 0, none⟩ = some (.int .i64 0) := (blk_cell BK360.out 0).trans rfl; have hcz15_1 : w13.cell? ⟨gb360, 1, none⟩ = some (.int .i64 0) := (blk_cell BK360.out 1).trans rfl; have hcz15_2 : w13.cell? ⟨gb360, 2, none⟩ = some (.slice none 0 0) := (blk_cell BK360.out 2).trans rfl; have hfz15_0 := blk_frozen BK360.out 0; have hfz15_1 := blk_frozen BK360.out 1; have hfz15_2 := blk_frozen BK360.out 2; obtain ⟨Ao16, co16, eo16⟩ := Kd.R_slice HO358.out; subst eo16; have hcz17_0 : w13.cell? ⟨gb353, 0, none⟩ = some (.int .i64 0) := (blk_cell BK353.out 0).trans rfl; have hcz17_1 : w13.cell? ⟨gb353, 1, none⟩ = some (.int .i64 0) := (blk_cell BK353.out 1).trans rfl; have hcz17_2 : w13.cell? ⟨gb353, 2, none⟩ = some (.slice none 0 0) := (blk_cell BK353.out 2).trans rfl; have hfz17_0 := blk_frozen BK353.out 0; have hfz17_1 := blk_frozen BK353.out 1; have hfz17_2 := blk_frozen BK353.out 2))
    refine bodyPost_ret (results_ct rfl _ _ gb353 42 #[.int .i64 0, .int .i64 0, .slice none 0 0] (0, 0) _ rfl (by (with_reducible repeat (first | refine kn_ ?_ _ | refine blk_drew ?_ | refine ka_ ?_ _)); refine blk_put (cs := #[.int .i64 0, .int .i64 0, .slice none 0 0]) ?_ 2 _ rfl; (with_reducible repeat (first | refine kn_ ?_ _ | refine blk_drew ?_ | refine ka_ ?_ _)); refine blk_put (cs := #[.int .i64 0, .int .i64 0, .slice none 0 0]) ?_ 1 _ rfl; (with_reducible repeat (first | refine kn_ ?_ _ | refine blk_drew ?_ | refine ka_ ?_ _)); refine blk_put (cs := #[.int .i64 0, .int .i64 0, .slice none 0 0]) ?_ 0 _ rfl; (with_reducible repeat (first | refine kn_ ?_ _ | refine blk_drew ?_ | refine ka_ ?_ _)); refine blk_far ?_ NB353_360.out _; (with_reducible repeat (first | refine kn_ ?_ _ | refine blk_drew ?_ | refine ka_ ?_ _)); refine blk_far ?_ NB353_360.out _; (with_reducible repeat (first | refine kn_ ?_ _ | refine blk_drew ?_ | refine ka_ ?_ _)); refine blk_far ?_ NB353_360.out _; (with_reducible repeat (first | refine kn_ ?_ _ | refine blk_drew ?_ | refine ka_ ?_ _)); exact BK353.out) Tryd.underlying42 rfl (by kernel_rfl)) rfl ?_
    exact ⟨_, by first | rfl | (simp [errW_none, errW_some] <;> rfl) | (simp [*, errW_none, errW_some] <;> rfl), by first | exact Kd.R_nil _ _ _ _ _ | exact Kd.N_nil _ _ _ _ _ | exact Kd.V_nil _ _ _ _ _ | exact Kd.Q_nil _ _ _ _ _ | exact Kd.S_nil _ _ _ _ _, by repeat (first | (with_reducible first | exact HB.out | apply ba_ | apply bn_ | apply bd_ | refine bs_ ?_ GE353.out | refine bs_ ?_ GE360.out) | exact HB.out)⟩
/-! ### laws_FnExactParsePuzzle: function 6 -/
mutual
def laws_FnExactParsePuzzle.j0 : Nat → ByteArray → Bool → Bool → Int → Int → List (S77) → Int → Int → List (S77) → Option (Bool)
  | 0, _, _, _, _, _, _, _, _, _ => none
  | k + 1, x0, x4, x32, x553000, x553001, x553002, x560000, x560001, x560002 => if x32 = true then (some false) else ((laws_markPuzzle.f k x560000 x560001 x560002 1).bind fun bt561 => ((laws_heldPuzzle.f k x560000 x560001 bt561.2 1).bind fun t563 => (if t563 < 0 then (some false) else (if t563 = bt561.1 then ((impl_ParsePuzzle.f k x0).bind fun bt564 => ((laws_eqPuzzle.f k bt564.1 bt564.2.1 bt564.2.2.1 x553000 x553001 x553002).bind fun t571 => (if t571 = true then (laws_FnExactParsePuzzle.j1 k bt561.1 (bt564.2.2.2 != x4) x560000 x560001 bt561.2) else (laws_FnExactParsePuzzle.j1 k bt561.1 true x560000 x560001 bt561.2)))) else (some false)))))
def laws_FnExactParsePuzzle.j1 : Nat → Int → Bool → Int → Int → List (S77) → Option (Bool)
  | 0, _, _, _, _, _ => none
  | k + 1, x7, x57, x560000, x560001, x560002 => if x57 = true then (some false) else ((laws_heldPuzzle.f k x560000 x560001 x560002 1).bind fun t572 => (if t572 < 0 then (some false) else (if t572 = x7 then (some true) else (some false))))
end
def laws_FnExactParsePuzzle.f (k : Nat) (a0 : ByteArray) : Option (Bool) := if (a0.size : Int) > 1048576 then (some true) else ((spec_ParsePuzzle.f k a0).bind fun bt546 => ((impl_ParsePuzzle.f k a0).bind fun bt553 => ((laws_eqPuzzle.f k bt553.1 bt553.2.1 bt553.2.2.1 bt546.1 bt546.2.1 bt546.2.2.1).bind fun t560 => (if t560 = true then (laws_FnExactParsePuzzle.j0 k a0 bt546.2.2.2 (bt553.2.2.2 != bt546.2.2.2) bt546.1 bt546.2.1 bt546.2.2.1 bt553.1 bt553.2.1 bt553.2.2.1) else (laws_FnExactParsePuzzle.j0 k a0 bt546.2.2.2 true bt546.1 bt546.2.1 bt546.2.2.1 bt553.1 bt553.2.1 bt553.2.2.1)))))
set_option maxHeartbeats 8000000 in
set_option maxRecDepth 100000 in
theorem laws_FnExactParsePuzzle.calls (k : Nat) (a0 : ByteArray) (r : Bool) (w : World) (htp : EnvP w) (h : laws_FnExactParsePuzzle.f k a0 = some r) :
    Calls Tryd.prog 6 #[.string a0] w fun e w' => e = .returned (.bool r) ∧ Below w.heap.size w w' := by
  have HTP := amk htp
  clear htp
  have hu42 := Tryd.underlying42
  have HB := amk (Below.refl w.heap.size w)
  have H : (if (a0.size : Int) > 1048576 then (some true) else ((spec_ParsePuzzle.f k a0).bind fun bt546 => ((impl_ParsePuzzle.f k a0).bind fun bt553 => ((laws_eqPuzzle.f k bt553.1 bt553.2.1 bt553.2.2.1 bt546.1 bt546.2.1 bt546.2.2.1).bind fun t560 => (if t560 = true then (laws_FnExactParsePuzzle.j0 k a0 bt546.2.2.2 (bt553.2.2.2 != bt546.2.2.2) bt546.1 bt546.2.1 bt546.2.2.1 bt553.1 bt553.2.1 bt553.2.2.1) else (laws_FnExactParsePuzzle.j0 k a0 bt546.2.2.2 true bt546.1 bt546.2.1 bt546.2.2.1 bt553.1 bt553.2.1 bt553.2.2.1)))))) = some r := h
  clear h
  by_cases c2 : (a0.size : Int) > 1048576
  · rw [if_pos c2] at H
    have c2b0 : decide (1048576 < (a0.size : Int)) = true := decide_eq_true c2
    have c2b1 : decide (1048576 < a0.size) = true := decide_eq_true (by omega)
    clear c2
    obtain rfl := Option.some.inj H
    go_enter Tryd.func6, Tryd.ntmps6
    go_wp2
    go_ret
    exact ⟨by first | rfl | (simp [errW_none, errW_some] <;> rfl) | (simp [*, errW_none, errW_some] <;> rfl), by repeat (first | (with_reducible first | exact HB.out | apply ba_ | apply bn_ | apply bd_) | exact HB.out)⟩
  · rw [if_neg c2] at H
    have c2b0 : decide (1048576 < (a0.size : Int)) = false := decide_eq_false c2
    have c2b1 : decide (1048576 < a0.size) = false := decide_eq_false (by omega)
    clear c2
    replace H := Option.bind_eq_some_iff.mp H
    obtain ⟨⟨t546, t547, t548, t551⟩, A30, H⟩ := H
    replace H : ((impl_ParsePuzzle.f k a0).bind fun bt553 => ((laws_eqPuzzle.f k bt553.1 bt553.2.1 bt553.2.2.1 t546 t547 t548).bind fun t560 => (if t560 = true then (laws_FnExactParsePuzzle.j0 k a0 t551 (bt553.2.2.2 != t551) t546 t547 t548 bt553.1 bt553.2.1 bt553.2.2.1) else (laws_FnExactParsePuzzle.j0 k a0 t551 true t546 t547 t548 bt553.1 bt553.2.1 bt553.2.2.1)))) = some r := H
    have A3 := amk A30
    clear A30
    replace H := Option.bind_eq_some_iff.mp H
    obtain ⟨⟨t553, t554, t555, t558⟩, A40, H⟩ := H
    replace H : ((laws_eqPuzzle.f k t553 t554 t555 t546 t547 t548).bind fun t560 => (if t560 = true then (laws_FnExactParsePuzzle.j0 k a0 t551 (t558 != t551) t546 t547 t548 t553 t554 t555) else (laws_FnExactParsePuzzle.j0 k a0 t551 true t546 t547 t548 t553 t554 t555))) = some r := H
    have A4 := amk A40
    clear A40
    have HC5 := amk H
    clear H
    go_enter Tryd.func6, Tryd.ntmps6
    go_upto_region 5 with (first | ((with_reducible refine gate_callee (f := 21) rfl ?_); refine goesL_ (some 16) rfl rfl Tryd.func21 (by kernel_rfl) rfl #[.string a0] rfl (by (try simp only [List.map_toArray, List.map_cons, List.map_nil]); first | done | rfl | (simp only [List.length_drop, List.length_take]; rfl)) ?_; (with_reducible refine (spec_ParsePuzzle.calls k a0 t546 t547 t548 t551 _ A3.out).mono ?_); rintro e w6 ⟨v549, rfl, ho0, hb⟩; refine ⟨_, rfl, ?_⟩; have n0_ := amk (Kd.R_lower ho0 (below_size (by repeat (first | (with_reducible first | exact HB.out | apply ba_ | apply bn_ | apply bd_) | exact HB.out)))); have n1_ := amk (bp_ (by repeat (first | (with_reducible first | exact HB.out | apply ba_ | apply bn_ | apply bd_) | exact HB.out)) hb); clear HB; have HO550 := n0_; have HB := n1_; clear n0_ n1_; (try clear hb); (try clear hb2); (try clear hk); (try clear hi); (try clear ho0)) | ((with_reducible refine gate_dst (N := 3) rfl ?_); refine box_event ?hg (N := 3) ?hd (cs := #[.int .i64 0, .int .i64 0, .slice none 0 0]) (t := 42) ?hr ?_; (case hd => rfl); (case hg => rfl); (case hr => first | (go_simp; done) | (go_simp; rfl)); intro gb552 hg w7 hbox hb; have n0_ := amk (Kd.R_below (by (with_reducible repeat (first | apply Kd.R_alloc | apply Kd.R_drewN | apply Kd.R_drew)); exact HO550.out) hb); have n1_ := amk (bp_ (by repeat (first | (with_reducible first | exact HB.out | apply ba_ | apply bn_ | apply bd_) | exact HB.out)) hb); have n2_ := amk (hbox); have n3_ := amk ((by rw [hg]; exact (below_size (by repeat (first | (with_reducible first | exact HB.out | apply ba_ | apply bn_ | apply bd_) | exact HB.out))) : w.heap.size ≤ gb552)); have n4_ := amk ((by rw [hg]; exact (below_size (by repeat (first | (with_reducible first | exact HB.out | apply ba_ | apply bn_ | apply bd_) | exact HB.out))) : w.heap.size ≤ gb552)); clear HO550; clear HB; have HO550 := n0_; have HB := n1_; have BK552 := n2_; have GW552 := n3_; have GE552 := n4_; clear n0_ n1_ n2_ n3_ n4_; clear hb hbox hg; have hcz8_0 : w7.cell? ⟨gb552, 0, none⟩ = some (.int .i64 0) := (blk_cell BK552.out 0).trans rfl; have hcz8_1 : w7.cell? ⟨gb552, 1, none⟩ = some (.int .i64 0) := (blk_cell BK552.out 1).trans rfl; have hcz8_2 : w7.cell? ⟨gb552, 2, none⟩ = some (.slice none 0 0) := (blk_cell BK552.out 2).trans rfl; have hfz8_0 := blk_frozen BK552.out 0; have hfz8_1 := blk_frozen BK552.out 1; have hfz8_2 := blk_frozen BK552.out 2; obtain ⟨Ao9, co9, eo9⟩ := Kd.R_slice HO550.out; subst eo9) | ((with_reducible refine gate_callee (f := 22) rfl ?_); refine goesL_ (some 21) rfl rfl Tryd.func22 (by kernel_rfl) rfl #[.string a0] rfl (by (try simp only [List.map_toArray, List.map_cons, List.map_nil]); first | done | rfl | (simp only [List.length_drop, List.length_take]; rfl)) ?_; (with_reducible refine (impl_ParsePuzzle.calls k a0 t553 t554 t555 t558 _ ?sideT A4.out).mono ?_); (case sideT => exact (HTP.out.below (by repeat (first | (with_reducible first | exact HB.out | apply ba_ | apply bn_ | apply bd_ | refine bs_ ?_ GE552.out) | exact HB.out)))); rintro e w10 ⟨v556, rfl, ho0, hb⟩; refine ⟨_, rfl, ?_⟩; have n0_ := amk (Kd.R_elder' (by (with_reducible repeat (first | apply Kd.R_alloc | apply Kd.R_drewN | apply Kd.R_drew)); exact (Kd.R_mono (Kd.R_far (p := ⟨gb552, 2, none⟩) (Kd.R_far (p := ⟨gb552, 1, none⟩) (Kd.R_far (p := ⟨gb552, 0, none⟩) (Kd.R_types HO550.out BK552.out (by decide)) (fun _ hk => hk.2) (.int .i64 t546)) (fun _ hk => hk.2) (.int .i64 t547)) (fun _ hk => hk.2) (.slice Ao9 t548.length co9)) (fun _ h_ => h_.1))) (Kd.R_base ho0) hb); have n1_ := amk (Kd.R_lower (Kd.R_new' ho0 (Kd.R_lt (by (with_reducible repeat (first | apply Kd.R_alloc | apply Kd.R_drewN | apply Kd.R_drew)); exact (Kd.R_mono (Kd.R_far (p := ⟨gb552, 2, none⟩) (Kd.R_far (p := ⟨gb552, 1, none⟩) (Kd.R_far (p := ⟨gb552, 0, none⟩) (Kd.R_types HO550.out BK552.out (by decide)) (fun _ hk => hk.2) (.int .i64 t546)) (fun _ hk => hk.2) (.int .i64 t547)) (fun _ hk => hk.2) (.slice Ao9 t548.length co9)) (fun _ h_ => h_.1))))) (below_size (by repeat (first | (with_reducible first | exact HB.out | apply ba_ | apply bn_ | apply bd_ | refine bs_ ?_ GE552.out) | exact HB.out)))); have n2_ := amk (blk_below (g := gb552) (o := .cells #[.int .i64 t546, .int .i64 t547, .slice Ao9 t548.length co9] 42 (0, 0)) (by (with_reducible repeat (first | refine kn_ ?_ _ | refine blk_drew ?_ | refine ka_ ?_ _)); refine blk_put (cs := #[.int .i64 t546, .int .i64 t547, .slice none 0 0]) ?_ 2 _ rfl; (with_reducible repeat (first | refine kn_ ?_ _ | refine blk_drew ?_ | refine ka_ ?_ _)); refine blk_put (cs := #[.int .i64 t546, .int .i64 0, .slice none 0 0]) ?_ 1 _ rfl; (with_reducible repeat (first | refine kn_ ?_ _ | refine blk_drew ?_ | refine ka_ ?_ _)); refine blk_put (cs := #[.int .i64 0, .int .i64 0, .slice none 0 0]) ?_ 0 _ rfl; (with_reducible repeat (first | refine kn_ ?_ _ | refine blk_drew ?_ | refine ka_ ?_ _)); exact BK552.out) hb); have n3_ := amk (bp_ (by repeat (first | (with_reducible first | exact HB.out | apply ba_ | apply bn_ | apply bd_ | refine bs_ ?_ GE552.out) | exact HB.out)) hb); clear HO550; clear BK552; clear HB; have HO550 := n0_; have HO557 := n1_; have BK552 := n2_; have HB := n3_; clear n0_ n1_ n2_ n3_; (try clear hb); (try clear hb2); (try clear hk); (try clear hi); (try clear ho0)) | ((with_reducible refine gate_dst (N := 5) rfl ?_); refine box_event ?hg (N := 5) ?hd (cs := #[.int .i64 0, .int .i64 0, .slice none 0 0]) (t := 42) ?hr ?_; (case hd => rfl); (case hg => rfl); (case hr => first | (go_simp; done) | (go_simp; rfl)); intro gb559 hg w11 hbox hb; have n0_ := amk (Kd.R_below (by (with_reducible repeat (first | apply Kd.R_alloc | apply Kd.R_drewN | apply Kd.R_drew)); exact HO550.out) hb); have n1_ := amk (Kd.R_below (by (with_reducible repeat (first | apply Kd.R_alloc | apply Kd.R_drewN | apply Kd.R_drew)); exact HO557.out) hb); have n2_ := amk (blk_below (g := gb552) (o := .cells #[.int .i64 t546, .int .i64 t547, .slice Ao9 t548.length co9] 42 (0, 0)) (by (with_reducible repeat (first | refine kn_ ?_ _ | refine blk_drew ?_ | refine ka_ ?_ _)); exact BK552.out) hb); have n3_ := amk (bp_ (by repeat (first | (with_reducible first | exact HB.out | apply ba_ | apply bn_ | apply bd_ | refine bs_ ?_ GE552.out) | exact HB.out)) hb); have n4_ := amk (hbox); have n5_ := amk ((by rw [hg]; exact (below_size (by repeat (first | (with_reducible first | exact HB.out | apply ba_ | apply bn_ | apply bd_ | refine bs_ ?_ GE552.out) | exact HB.out))) : w.heap.size ≤ gb559)); have n6_ := amk ((by rw [hg]; exact (below_size (by repeat (first | (with_reducible first | exact HB.out | apply ba_ | apply bn_ | apply bd_ | refine bs_ ?_ GE552.out) | exact HB.out))) : w.heap.size ≤ gb559)); have n7_ := amk ((by rw [hg]; exact Nat.ne_of_lt (blk_lt (g := gb552) (o := .cells #[.int .i64 t546, .int .i64 t547, .slice Ao9 t548.length co9] 42 (0, 0)) (by (with_reducible repeat (first | refine kn_ ?_ _ | refine blk_drew ?_ | refine ka_ ?_ _)); exact BK552.out)) : gb552 ≠ gb559)); have n8_ := amk ((by rw [hg]; exact Nat.ne_of_gt (blk_lt (g := gb552) (o := .cells #[.int .i64 t546, .int .i64 t547, .slice Ao9 t548.length co9] 42 (0, 0)) (by (with_reducible repeat (first | refine kn_ ?_ _ | refine blk_drew ?_ | refine ka_ ?_ _)); exact BK552.out)) : gb559 ≠ gb552)); clear HO550; clear HO557; clear BK552; clear HB; have HO550 := n0_; have HO557 := n1_; have BK552 := n2_; have HB := n3_; have BK559 := n4_; have GW559 := n5_; have GE559 := n6_; have NB552_559 := n7_; have NB559_552 := n8_; clear n0_ n1_ n2_ n3_ n4_ n5_ n6_ n7_ n8_; clear hb hbox hg; have hnb12 := NB559_552.out; have hnc12 := NB552_559.out; have hcz13_0 : w11.cell? ⟨gb559, 0, none⟩ = some (.int .i64 0) := (blk_cell BK559.out 0).trans rfl; have hcz13_1 : w11.cell? ⟨gb559, 1, none⟩ = some (.int .i64 0) := (blk_cell BK559.out 1).trans rfl; have hcz13_2 : w11.cell? ⟨gb559, 2, none⟩ = some (.slice none 0 0) := (blk_cell BK559.out 2).trans rfl; have hfz13_0 := blk_frozen BK559.out 0; have hfz13_1 := blk_frozen BK559.out 1; have hfz13_2 := blk_frozen BK559.out 2; obtain ⟨Ao14, co14, eo14⟩ := Kd.R_slice HO557.out; subst eo14))
    (try simp only [Act.put, List.setIfInBounds_toArray, List.set_cons_zero, List.set_cons_succ])
    go_cut [32] (fun v32 wc => ∃ (kq : Nat) (x32_4 : Bool), v32 = .bool x32_4 ∧ Aside0 (laws_FnExactParsePuzzle.j0 kq a0 t551 x32_4 t546 t547 t548 t553 t554 t555 = some r) ∧ Aside0 (kq ≤ k) ∧ Aside0 (Kd.R k77 77 wc w.heap.size (fun k_ => some k_ ≠ ((.slice Ao14 t555.length co14) : Value).ownBlock) (.slice Ao9 t548.length co9) t548) ∧ Aside0 (Kd.R k77 77 wc w.heap.size (fun k_ => some k_ ≠ ((.slice Ao9 t548.length co9) : Value).ownBlock) (.slice Ao14 t555.length co14) t555) ∧ Aside0 (wc.heap[gb552]? = some (.cells #[.int .i64 t546, .int .i64 t547, (.slice Ao9 t548.length co9)] 42 (0, 0))) ∧ Aside0 (wc.heap[gb559]? = some (.cells #[.int .i64 t553, .int .i64 t554, (.slice Ao14 t555.length co14)] 42 (0, 0))) ∧ Aside0 (Below w.heap.size w wc))
    case first =>
      have H := HC5.out
      clear HC5
      replace H := Option.bind_eq_some_iff.mp H
      obtain ⟨t560, A150, H⟩ := H
      replace H : (if t560 = true then (laws_FnExactParsePuzzle.j0 k a0 t551 (t558 != t551) t546 t547 t548 t553 t554 t555) else (laws_FnExactParsePuzzle.j0 k a0 t551 true t546 t547 t548 t553 t554 t555)) = some r := H
      have A15 := amk A150
      clear A150
      by_cases c16 : t560 = true
      · subst c16
        have H1 : (laws_FnExactParsePuzzle.j0 k a0 t551 (t558 != t551) t546 t547 t548 t553 t554 t555) = some r := by rw [if_pos rfl] at H; exact H
        clear H
        have H := H1
        clear H1
        have H' := amk H
        clear H
        have hnb17 := NB559_552.out
        have hnc17 := NB552_559.out
        have hcz18_0 : w11.cell? ⟨gb559, 0, none⟩ = some (.int .i64 0) := (blk_cell BK559.out 0).trans rfl
        have hcz18_1 : w11.cell? ⟨gb559, 1, none⟩ = some (.int .i64 0) := (blk_cell BK559.out 1).trans rfl
        have hcz18_2 : w11.cell? ⟨gb559, 2, none⟩ = some (.slice none 0 0) := (blk_cell BK559.out 2).trans rfl
        have hfz18_0 := blk_frozen BK559.out 0
        have hfz18_1 := blk_frozen BK559.out 1
        have hfz18_2 := blk_frozen BK559.out 2
        have hcz19_0 : w11.cell? ⟨gb552, 0, none⟩ = some (.int .i64 t546) := (blk_cell BK552.out 0).trans rfl
        have hcz19_1 : w11.cell? ⟨gb552, 1, none⟩ = some (.int .i64 t547) := (blk_cell BK552.out 1).trans rfl
        have hcz19_2 : w11.cell? ⟨gb552, 2, none⟩ = some (.slice Ao9 t548.length co9) := (blk_cell BK552.out 2).trans rfl
        have hfz19_0 := blk_frozen BK552.out 0
        have hfz19_1 := blk_frozen BK552.out 1
        have hfz19_2 := blk_frozen BK552.out 2
        go_wp2_with (first | ((with_reducible refine gate_callee (f := 16) rfl ?_); refine goesL_ (some 26) rfl rfl Tryd.func16 (by kernel_rfl) rfl #[.agg #[.int .i64 t553, .int .i64 t554, .slice Ao14 t555.length co14], .agg #[.int .i64 t546, .int .i64 t547, .slice Ao9 t548.length co9]] rfl (by (try simp only [List.map_toArray, List.map_cons, List.map_nil]); first | done | rfl | (simp only [List.length_drop, List.length_take]; rfl)) ?_; (with_reducible refine (laws_eqPuzzle.calls k t553 t554 _ _ t555 t546 t547 _ _ t548 true _ ?side1 ?side2 ?side3 ?side4 A15.out).mono ?_); (case side1 => refine (Kd.R_reads' (e := 77) (base := w.heap.size) (ok := fun k_ => (True ∧ some k_ ≠ (.slice Ao9 t548.length co9 : Value).ownBlock)) (n := t555.length) (c := co14) ?_).2.2; exact (by (with_reducible repeat (first | apply Kd.R_alloc | apply Kd.R_drewN | apply Kd.R_drew)); exact (Kd.R_mono (Kd.R_far (p := ⟨gb559, 2, none⟩) (Kd.R_far (p := ⟨gb559, 1, none⟩) (Kd.R_far (p := ⟨gb559, 0, none⟩) (Kd.R_types HO557.out BK559.out (by decide)) (fun _ hk => hk.2) (.int .i64 t553)) (fun _ hk => hk.2) (.int .i64 t554)) (fun _ hk => hk.2) (.slice Ao14 t555.length co14)) (fun _ h_ => h_.1)))); (case side2 => exact (Kd.R_reads' HO557.out).2.1); (case side3 => refine (Kd.R_reads' (e := 77) (base := w.heap.size) (ok := fun k_ => (True ∧ some k_ ≠ (.slice Ao14 t555.length co14 : Value).ownBlock)) (n := t548.length) (c := co9) ?_).2.2; exact (by (with_reducible repeat (first | apply Kd.R_alloc | apply Kd.R_drewN | apply Kd.R_drew)); exact (Kd.R_mono (Kd.R_far (p := ⟨gb559, 2, none⟩) (Kd.R_far (p := ⟨gb559, 1, none⟩) (Kd.R_far (p := ⟨gb559, 0, none⟩) (Kd.R_types HO550.out BK559.out (by decide)) (fun _ hk => hk.2) (.int .i64 t553)) (fun _ hk => hk.2) (.int .i64 t554)) (fun _ hk => hk.2) (.slice Ao14 t555.length co14)) (fun _ h_ => h_.1)))); (case side4 => exact (Kd.R_reads' HO550.out).2.1); rintro e w20 ⟨rfl, hb⟩; refine ⟨_, rfl, ?_⟩; have n0_ := amk (Kd.R_below (by (with_reducible repeat (first | apply Kd.R_alloc | apply Kd.R_drewN | apply Kd.R_drew)); exact (Kd.R_mono (Kd.R_far (p := ⟨gb559, 2, none⟩) (Kd.R_far (p := ⟨gb559, 1, none⟩) (Kd.R_far (p := ⟨gb559, 0, none⟩) (Kd.R_types HO550.out BK559.out (by decide)) (fun _ hk => hk.2) (.int .i64 t553)) (fun _ hk => hk.2) (.int .i64 t554)) (fun _ hk => hk.2) (.slice Ao14 t555.length co14)) (fun _ h_ => h_.1))) hb); have n1_ := amk (Kd.R_below (by (with_reducible repeat (first | apply Kd.R_alloc | apply Kd.R_drewN | apply Kd.R_drew)); exact (Kd.R_mono (Kd.R_far (p := ⟨gb559, 2, none⟩) (Kd.R_far (p := ⟨gb559, 1, none⟩) (Kd.R_far (p := ⟨gb559, 0, none⟩) (Kd.R_types HO557.out BK559.out (by decide)) (fun _ hk => hk.2) (.int .i64 t553)) (fun _ hk => hk.2) (.int .i64 t554)) (fun _ hk => hk.2) (.slice Ao14 t555.length co14)) (fun _ h_ => h_.1))) hb); have n2_ := amk (blk_below (g := gb552) (o := .cells #[.int .i64 t546, .int .i64 t547, .slice Ao9 t548.length co9] 42 (0, 0)) (by (with_reducible repeat (first | refine kn_ ?_ _ | refine blk_drew ?_ | refine ka_ ?_ _)); refine blk_far ?_ NB552_559.out _; (with_reducible repeat (first | refine kn_ ?_ _ | refine blk_drew ?_ | refine ka_ ?_ _)); refine blk_far ?_ NB552_559.out _; (with_reducible repeat (first | refine kn_ ?_ _ | refine blk_drew ?_ | refine ka_ ?_ _)); refine blk_far ?_ NB552_559.out _; (with_reducible repeat (first | refine kn_ ?_ _ | refine blk_drew ?_ | refine ka_ ?_ _)); exact BK552.out) hb); have n3_ := amk (blk_below (g := gb559) (o := .cells #[.int .i64 t553, .int .i64 t554, .slice Ao14 t555.length co14] 42 (0, 0)) (by (with_reducible repeat (first | refine kn_ ?_ _ | refine blk_drew ?_ | refine ka_ ?_ _)); refine blk_put (cs := #[.int .i64 t553, .int .i64 t554, .slice none 0 0]) ?_ 2 _ rfl; (with_reducible repeat (first | refine kn_ ?_ _ | refine blk_drew ?_ | refine ka_ ?_ _)); refine blk_put (cs := #[.int .i64 t553, .int .i64 0, .slice none 0 0]) ?_ 1 _ rfl; (with_reducible repeat (first | refine kn_ ?_ _ | refine blk_drew ?_ | refine ka_ ?_ _)); refine blk_put (cs := #[.int .i64 0, .int .i64 0, .slice none 0 0]) ?_ 0 _ rfl; (with_reducible repeat (first | refine kn_ ?_ _ | refine blk_drew ?_ | refine ka_ ?_ _)); exact BK559.out) hb); have n4_ := amk (bp_ (by repeat (first | (with_reducible first | exact HB.out | apply ba_ | apply bn_ | apply bd_ | refine bs_ ?_ GE552.out | refine bs_ ?_ GE559.out) | exact HB.out)) hb); clear HO550; clear HO557; clear BK552; clear BK559; clear HB; have HO550 := n0_; have HO557 := n1_; have BK552 := n2_; have BK559 := n3_; have HB := n4_; clear n0_ n1_ n2_ n3_ n4_; (try clear hb); (try clear hb2); (try clear hk); (try clear hi)))
        go_meet
        case rel => exact ⟨_, ((t558 != t551)), (by first | rfl | (simp; done) | (simp [*]; done)), H', ⟨by first | omega | exact Nat.le_refl _⟩, ⟨by (with_reducible repeat (first | apply Kd.R_alloc | apply Kd.R_drewN | apply Kd.R_drew)); exact Kd.R_mono HO550.out (fun _ hk => hk.2)⟩, ⟨by (with_reducible repeat (first | apply Kd.R_alloc | apply Kd.R_drewN | apply Kd.R_drew)); exact Kd.R_mono HO557.out (fun _ hk => hk.2)⟩, ⟨by (with_reducible repeat (first | refine kn_ ?_ _ | refine blk_drew ?_ | refine ka_ ?_ _)); exact BK552.out⟩, ⟨by (with_reducible repeat (first | refine kn_ ?_ _ | refine blk_drew ?_ | refine ka_ ?_ _)); exact BK559.out⟩, ⟨by repeat (first | (with_reducible first | exact HB.out | apply ba_ | apply bn_ | apply bd_ | refine bs_ ?_ GE552.out | refine bs_ ?_ GE559.out) | exact HB.out)⟩⟩
      · replace c16 := Bool.eq_false_iff.mpr c16
        subst c16
        have H1 : (laws_FnExactParsePuzzle.j0 k a0 t551 true t546 t547 t548 t553 t554 t555) = some r := by rw [if_neg (show ¬ (false = true) by decide)] at H; exact H
        clear H
        have H := H1
        clear H1
        have H' := amk H
        clear H
        have hnb21 := NB559_552.out
        have hnc21 := NB552_559.out
        have hcz22_0 : w11.cell? ⟨gb559, 0, none⟩ = some (.int .i64 0) := (blk_cell BK559.out 0).trans rfl
        have hcz22_1 : w11.cell? ⟨gb559, 1, none⟩ = some (.int .i64 0) := (blk_cell BK559.out 1).trans rfl
        have hcz22_2 : w11.cell? ⟨gb559, 2, none⟩ = some (.slice none 0 0) := (blk_cell BK559.out 2).trans rfl
        have hfz22_0 := blk_frozen BK559.out 0
        have hfz22_1 := blk_frozen BK559.out 1
        have hfz22_2 := blk_frozen BK559.out 2
        have hcz23_0 : w11.cell? ⟨gb552, 0, none⟩ = some (.int .i64 t546) := (blk_cell BK552.out 0).trans rfl
        have hcz23_1 : w11.cell? ⟨gb552, 1, none⟩ = some (.int .i64 t547) := (blk_cell BK552.out 1).trans rfl
        have hcz23_2 : w11.cell? ⟨gb552, 2, none⟩ = some (.slice Ao9 t548.length co9) := (blk_cell BK552.out 2).trans rfl
        have hfz23_0 := blk_frozen BK552.out 0
        have hfz23_1 := blk_frozen BK552.out 1
        have hfz23_2 := blk_frozen BK552.out 2
        go_wp2_with (first | ((with_reducible refine gate_callee (f := 16) rfl ?_); refine goesL_ (some 26) rfl rfl Tryd.func16 (by kernel_rfl) rfl #[.agg #[.int .i64 t553, .int .i64 t554, .slice Ao14 t555.length co14], .agg #[.int .i64 t546, .int .i64 t547, .slice Ao9 t548.length co9]] rfl (by (try simp only [List.map_toArray, List.map_cons, List.map_nil]); first | done | rfl | (simp only [List.length_drop, List.length_take]; rfl)) ?_; (with_reducible refine (laws_eqPuzzle.calls k t553 t554 _ _ t555 t546 t547 _ _ t548 false _ ?side1 ?side2 ?side3 ?side4 A15.out).mono ?_); (case side1 => refine (Kd.R_reads' (e := 77) (base := w.heap.size) (ok := fun k_ => (True ∧ some k_ ≠ (.slice Ao9 t548.length co9 : Value).ownBlock)) (n := t555.length) (c := co14) ?_).2.2; exact (by (with_reducible repeat (first | apply Kd.R_alloc | apply Kd.R_drewN | apply Kd.R_drew)); exact (Kd.R_mono (Kd.R_far (p := ⟨gb559, 2, none⟩) (Kd.R_far (p := ⟨gb559, 1, none⟩) (Kd.R_far (p := ⟨gb559, 0, none⟩) (Kd.R_types HO557.out BK559.out (by decide)) (fun _ hk => hk.2) (.int .i64 t553)) (fun _ hk => hk.2) (.int .i64 t554)) (fun _ hk => hk.2) (.slice Ao14 t555.length co14)) (fun _ h_ => h_.1)))); (case side2 => exact (Kd.R_reads' HO557.out).2.1); (case side3 => refine (Kd.R_reads' (e := 77) (base := w.heap.size) (ok := fun k_ => (True ∧ some k_ ≠ (.slice Ao14 t555.length co14 : Value).ownBlock)) (n := t548.length) (c := co9) ?_).2.2; exact (by (with_reducible repeat (first | apply Kd.R_alloc | apply Kd.R_drewN | apply Kd.R_drew)); exact (Kd.R_mono (Kd.R_far (p := ⟨gb559, 2, none⟩) (Kd.R_far (p := ⟨gb559, 1, none⟩) (Kd.R_far (p := ⟨gb559, 0, none⟩) (Kd.R_types HO550.out BK559.out (by decide)) (fun _ hk => hk.2) (.int .i64 t553)) (fun _ hk => hk.2) (.int .i64 t554)) (fun _ hk => hk.2) (.slice Ao14 t555.length co14)) (fun _ h_ => h_.1)))); (case side4 => exact (Kd.R_reads' HO550.out).2.1); rintro e w24 ⟨rfl, hb⟩; refine ⟨_, rfl, ?_⟩; have n0_ := amk (Kd.R_below (by (with_reducible repeat (first | apply Kd.R_alloc | apply Kd.R_drewN | apply Kd.R_drew)); exact (Kd.R_mono (Kd.R_far (p := ⟨gb559, 2, none⟩) (Kd.R_far (p := ⟨gb559, 1, none⟩) (Kd.R_far (p := ⟨gb559, 0, none⟩) (Kd.R_types HO550.out BK559.out (by decide)) (fun _ hk => hk.2) (.int .i64 t553)) (fun _ hk => hk.2) (.int .i64 t554)) (fun _ hk => hk.2) (.slice Ao14 t555.length co14)) (fun _ h_ => h_.1))) hb); have n1_ := amk (Kd.R_below (by (with_reducible repeat (first | apply Kd.R_alloc | apply Kd.R_drewN | apply Kd.R_drew)); exact (Kd.R_mono (Kd.R_far (p := ⟨gb559, 2, none⟩) (Kd.R_far (p := ⟨gb559, 1, none⟩) (Kd.R_far (p := ⟨gb559, 0, none⟩) (Kd.R_types HO557.out BK559.out (by decide)) (fun _ hk => hk.2) (.int .i64 t553)) (fun _ hk => hk.2) (.int .i64 t554)) (fun _ hk => hk.2) (.slice Ao14 t555.length co14)) (fun _ h_ => h_.1))) hb); have n2_ := amk (blk_below (g := gb552) (o := .cells #[.int .i64 t546, .int .i64 t547, .slice Ao9 t548.length co9] 42 (0, 0)) (by (with_reducible repeat (first | refine kn_ ?_ _ | refine blk_drew ?_ | refine ka_ ?_ _)); refine blk_far ?_ NB552_559.out _; (with_reducible repeat (first | refine kn_ ?_ _ | refine blk_drew ?_ | refine ka_ ?_ _)); refine blk_far ?_ NB552_559.out _; (with_reducible repeat (first | refine kn_ ?_ _ | refine blk_drew ?_ | refine ka_ ?_ _)); refine blk_far ?_ NB552_559.out _; (with_reducible repeat (first | refine kn_ ?_ _ | refine blk_drew ?_ | refine ka_ ?_ _)); exact BK552.out) hb); have n3_ := amk (blk_below (g := gb559) (o := .cells #[.int .i64 t553, .int .i64 t554, .slice Ao14 t555.length co14] 42 (0, 0)) (by (with_reducible repeat (first | refine kn_ ?_ _ | refine blk_drew ?_ | refine ka_ ?_ _)); refine blk_put (cs := #[.int .i64 t553, .int .i64 t554, .slice none 0 0]) ?_ 2 _ rfl; (with_reducible repeat (first | refine kn_ ?_ _ | refine blk_drew ?_ | refine ka_ ?_ _)); refine blk_put (cs := #[.int .i64 t553, .int .i64 0, .slice none 0 0]) ?_ 1 _ rfl; (with_reducible repeat (first | refine kn_ ?_ _ | refine blk_drew ?_ | refine ka_ ?_ _)); refine blk_put (cs := #[.int .i64 0, .int .i64 0, .slice none 0 0]) ?_ 0 _ rfl; (with_reducible repeat (first | refine kn_ ?_ _ | refine blk_drew ?_ | refine ka_ ?_ _)); exact BK559.out) hb); have n4_ := amk (bp_ (by repeat (first | (with_reducible first | exact HB.out | apply ba_ | apply bn_ | apply bd_ | refine bs_ ?_ GE552.out | refine bs_ ?_ GE559.out) | exact HB.out)) hb); clear HO550; clear HO557; clear BK552; clear BK559; clear HB; have HO550 := n0_; have HO557 := n1_; have BK552 := n2_; have BK559 := n3_; have HB := n4_; clear n0_ n1_ n2_ n3_ n4_; (try clear hb); (try clear hb2); (try clear hk); (try clear hi)))
        go_meet
        case rel => exact ⟨_, (true), (by first | rfl | (simp; done) | (simp [*]; done)), H', ⟨by first | omega | exact Nat.le_refl _⟩, ⟨by (with_reducible repeat (first | apply Kd.R_alloc | apply Kd.R_drewN | apply Kd.R_drew)); exact Kd.R_mono HO550.out (fun _ hk => hk.2)⟩, ⟨by (with_reducible repeat (first | apply Kd.R_alloc | apply Kd.R_drewN | apply Kd.R_drew)); exact Kd.R_mono HO557.out (fun _ hk => hk.2)⟩, ⟨by (with_reducible repeat (first | refine kn_ ?_ _ | refine blk_drew ?_ | refine ka_ ?_ _)); exact BK552.out⟩, ⟨by (with_reducible repeat (first | refine kn_ ?_ _ | refine blk_drew ?_ | refine ka_ ?_ _)); exact BK559.out⟩, ⟨by repeat (first | (with_reducible first | exact HB.out | apply ba_ | apply bn_ | apply bd_ | refine bs_ ?_ GE552.out | refine bs_ ?_ GE559.out) | exact HB.out)⟩⟩
    case rest =>
      clear HC5
      try clear c1; try clear c2; try clear c2b0; try clear c2b1; try clear p2; try clear c6; try clear c12; try clear c16; try clear c17; try clear c21; try clear c22; try clear hcz13_0; try clear hcz13_1; try clear hcz13_2; try clear hcz18_0; try clear hcz18_1; try clear hcz18_2; try clear hcz19_0; try clear hcz19_1; try clear hcz19_2; try clear hcz22_0; try clear hcz22_1; try clear hcz22_2; try clear hcz23_0; try clear hcz23_1; try clear hcz23_2; try clear hcz8_0; try clear hcz8_1; try clear hcz8_2; try clear hfz13_0; try clear hfz13_1; try clear hfz13_2; try clear hfz18_0; try clear hfz18_1; try clear hfz18_2; try clear hfz19_0; try clear hfz19_1; try clear hfz19_2; try clear hfz22_0; try clear hfz22_1; try clear hfz22_2; try clear hfz23_0; try clear hfz23_1; try clear hfz23_2; try clear hfz8_0; try clear hfz8_1; try clear hfz8_2
      obtain ⟨kq, x32_4, rfl, HA, HJ4, HO_553002, HO_560002, BK552, BK559, HB⟩ := hcut
      cases kq with
      | zero => exact absurd HA.out (by simp [laws_FnExactParsePuzzle.j0])
      | succ kj4 =>
        have H := HA.out
        clear HA
        simp only [laws_FnExactParsePuzzle.j0] at H
        by_cases c25 : x32_4 = true
        · subst c25
          have H1 : (some false) = some r := by rw [if_pos rfl] at H; exact H
          clear H
          have H := H1
          clear H1
          obtain rfl := Option.some.inj H
          go_wp2
          go_ret
          exact ⟨by first | rfl | (simp [errW_none, errW_some] <;> rfl) | (simp [*, errW_none, errW_some] <;> rfl), by repeat (first | (with_reducible first | exact HB.out | apply ba_ | apply bn_ | apply bd_ | refine bs_ ?_ GE552.out | refine bs_ ?_ GE559.out) | exact HB.out)⟩
        · replace c25 := Bool.eq_false_iff.mpr c25
          subst c25
          have H1 : ((laws_markPuzzle.f kj4 t553 t554 t555 1).bind fun bt561 => ((laws_heldPuzzle.f kj4 t553 t554 bt561.2 1).bind fun t563 => (if t563 < 0 then (some false) else (if t563 = bt561.1 then ((impl_ParsePuzzle.f kj4 a0).bind fun bt564 => ((laws_eqPuzzle.f kj4 bt564.1 bt564.2.1 bt564.2.2.1 t546 t547 t548).bind fun t571 => (if t571 = true then (laws_FnExactParsePuzzle.j1 kj4 bt561.1 (bt564.2.2.2 != t551) t553 t554 bt561.2) else (laws_FnExactParsePuzzle.j1 kj4 bt561.1 true t553 t554 bt561.2)))) else (some false))))) = some r := by rw [if_neg (show ¬ (false = true) by decide)] at H; exact H
          clear H
          have H := H1
          clear H1
          replace H := Option.bind_eq_some_iff.mp H
          obtain ⟨⟨t561, t562⟩, A260, H⟩ := H
          replace H : ((laws_heldPuzzle.f kj4 t553 t554 t562 1).bind fun t563 => (if t563 < 0 then (some false) else (if t563 = t561 then ((impl_ParsePuzzle.f kj4 a0).bind fun bt564 => ((laws_eqPuzzle.f kj4 bt564.1 bt564.2.1 bt564.2.2.1 t546 t547 t548).bind fun t571 => (if t571 = true then (laws_FnExactParsePuzzle.j1 kj4 t561 (bt564.2.2.2 != t551) t553 t554 t562) else (laws_FnExactParsePuzzle.j1 kj4 t561 true t553 t554 t562)))) else (some false)))) = some r := H
          have A26 := amk A260
          clear A260
          replace H := Option.bind_eq_some_iff.mp H
          obtain ⟨t563, A270, H⟩ := H
          replace H : (if t563 < 0 then (some false) else (if t563 = t561 then ((impl_ParsePuzzle.f kj4 a0).bind fun bt564 => ((laws_eqPuzzle.f kj4 bt564.1 bt564.2.1 bt564.2.2.1 t546 t547 t548).bind fun t571 => (if t571 = true then (laws_FnExactParsePuzzle.j1 kj4 t561 (bt564.2.2.2 != t551) t553 t554 t562) else (laws_FnExactParsePuzzle.j1 kj4 t561 true t553 t554 t562)))) else (some false))) = some r := H
          have A27 := amk A270
          clear A270
          by_cases c28 : t563 < 0
          · rw [if_pos c28] at H
            have c28b0 : decide (t563 < 0) = true := decide_eq_true c28
            clear c28
            obtain rfl := Option.some.inj H
            have hnb29 := NB559_552.out
            have hnc29 := NB552_559.out
            have hcz30_0 : wc.cell? ⟨gb559, 0, none⟩ = some (.int .i64 t553) := (blk_cell BK559.out 0).trans rfl
            have hcz30_1 : wc.cell? ⟨gb559, 1, none⟩ = some (.int .i64 t554) := (blk_cell BK559.out 1).trans rfl
            have hcz30_2 : wc.cell? ⟨gb559, 2, none⟩ = some (.slice Ao14 t555.length co14) := (blk_cell BK559.out 2).trans rfl
            have hfz30_0 := blk_frozen BK559.out 0
            have hfz30_1 := blk_frozen BK559.out 1
            have hfz30_2 := blk_frozen BK559.out 2
            go_wp2_with (first | ((with_reducible refine gate_callee (f := 23) rfl ?_); refine goesL_ (some 35) rfl rfl Tryd.func23 (by kernel_rfl) rfl #[.agg #[.int .i64 t553, .int .i64 t554, .slice Ao14 t555.length co14], .int .i64 1] rfl (by (try simp only [List.map_toArray, List.map_cons, List.map_nil]); first | done | rfl | (simp only [List.length_drop, List.length_take]; rfl)) ?_; (with_reducible refine (laws_markPuzzle.calls kj4 t553 t554 (fun k_ => some k_ = (.slice Ao14 t555.length co14 : Value).ownBlock) (.slice Ao14 t555.length co14) t555 1 t561 t562 w _ ?side1 ?side2 A26.out).mono ?_); (case side1 => repeat (first | (with_reducible first | exact HB.out | apply ba_ | apply bn_ | apply bd_ | refine bs_ ?_ GE552.out | refine bs_ ?_ GE559.out) | exact HB.out)); (case side2 => exact Kd.R_tight rfl HO_560002.out); rintro e w31 ⟨rfl, hy0, hb, hkp⟩; refine ⟨_, rfl, ?_⟩; have n0_ := amk (Kd.R_mono (ok' := fun k_ => some k_ ≠ (.slice Ao14 t555.length co14 : Value).ownBlock) (Kd.R_keptB (HO_553002.out) hkp (fun k_ hk_ hs_ => (hk_) hs_)) (fun k_ hk_ => hk_.1)); have n1_ := amk (Kd.R_reok rfl hy0 (fun k_ e_ => HO_560002.out.1 k_ e_)); have n2_ := amk (blk_kept (by (with_reducible repeat (first | refine kn_ ?_ _ | refine blk_drew ?_ | refine ka_ ?_ _)); exact BK552.out) hkp (fun hs_ => (fun e_ => (Kd.R_ne HO_560002.out BK552.out (by decide)) e_) hs_)); have n3_ := amk (blk_kept (by (with_reducible repeat (first | refine kn_ ?_ _ | refine blk_drew ?_ | refine ka_ ?_ _)); exact BK559.out) hkp (fun hs_ => (fun e_ => (Kd.R_ne HO_560002.out BK559.out (by decide)) e_) hs_)); have n4_ := amk (hb); clear HO_553002; clear HO_560002; clear BK552; clear BK559; clear HB; have HO_553002 := n0_; have HO_560002 := n1_; have BK552 := n2_; have BK559 := n3_; have HB := n4_; clear n0_ n1_ n2_ n3_ n4_; (try clear hb); (try clear hkp); (try clear hy0); have hcz32_0 : w31.cell? ⟨gb559, 0, none⟩ = some (.int .i64 t553) := (blk_cell BK559.out 0).trans rfl; have hcz32_1 : w31.cell? ⟨gb559, 1, none⟩ = some (.int .i64 t554) := (blk_cell BK559.out 1).trans rfl; have hcz32_2 : w31.cell? ⟨gb559, 2, none⟩ = some (.slice Ao14 t555.length co14) := (blk_cell BK559.out 2).trans rfl; have hfz32_0 := blk_frozen BK559.out 0; have hfz32_1 := blk_frozen BK559.out 1; have hfz32_2 := blk_frozen BK559.out 2) | ((with_reducible refine gate_callee (f := 24) rfl ?_); refine goesL_ (some 38) rfl rfl Tryd.func24 (by kernel_rfl) rfl #[.agg #[.int .i64 t553, .int .i64 t554, .slice Ao14 t562.length co14], .int .i64 1] rfl (by (try simp only [List.map_toArray, List.map_cons, List.map_nil]); first | done | (rw [show t562.length = t555.length from (Kd.R_reads' HO_560002.out).1.symm] <;> rfl) | rfl | (simp only [List.length_drop, List.length_take]; rfl)) ?_; (with_reducible refine (laws_heldPuzzle.calls kj4 t553 t554 _ _ t562 1 t563 _ ?side1 ?side2 A27.out).mono ?_); (case side1 => repeat (first | exact (Kd.R_reads' HO_560002.out).2.2 | (with_reducible refine Kd.C_alloc ?_ _) | (with_reducible refine Kd.C_drewN ?_ _) | (with_reducible refine Kd.C_drew ?_))); (case side2 => rw [show t562.length = t555.length from (Kd.R_reads' HO_560002.out).1.symm]; exact (Kd.R_reads' HO_560002.out).2.1); rintro e w33 ⟨rfl, hb⟩; refine ⟨_, rfl, ?_⟩; have n0_ := amk (Kd.R_below (by (with_reducible repeat (first | apply Kd.R_alloc | apply Kd.R_drewN | apply Kd.R_drew)); exact HO_553002.out) hb); have n1_ := amk (Kd.R_below (by (with_reducible repeat (first | apply Kd.R_alloc | apply Kd.R_drewN | apply Kd.R_drew)); exact HO_560002.out) hb); have n2_ := amk (blk_below (g := gb552) (o := .cells #[.int .i64 t546, .int .i64 t547, .slice Ao9 t548.length co9] 42 (0, 0)) (by (with_reducible repeat (first | refine kn_ ?_ _ | refine blk_drew ?_ | refine ka_ ?_ _)); exact BK552.out) hb); have n3_ := amk (blk_below (g := gb559) (o := .cells #[.int .i64 t553, .int .i64 t554, .slice Ao14 t555.length co14] 42 (0, 0)) (by (with_reducible repeat (first | refine kn_ ?_ _ | refine blk_drew ?_ | refine ka_ ?_ _)); exact BK559.out) hb); have n4_ := amk (bp_ (by repeat (first | (with_reducible first | exact HB.out | apply ba_ | apply bn_ | apply bd_ | refine bs_ ?_ GE552.out | refine bs_ ?_ GE559.out) | exact HB.out)) hb); clear HO_553002; clear HO_560002; clear BK552; clear BK559; clear HB; have HO_553002 := n0_; have HO_560002 := n1_; have BK552 := n2_; have BK559 := n3_; have HB := n4_; clear n0_ n1_ n2_ n3_ n4_; (try clear hb); (try clear hb2); (try clear hk); (try clear hi)))
            go_ret
            exact ⟨by first | rfl | (simp [errW_none, errW_some] <;> rfl) | (simp [*, errW_none, errW_some] <;> rfl), by repeat (first | (with_reducible first | exact HB.out | apply ba_ | apply bn_ | apply bd_ | refine bs_ ?_ GE552.out | refine bs_ ?_ GE559.out) | exact HB.out)⟩
          · rw [if_neg c28] at H
            have c28b0 : decide (t563 < 0) = false := decide_eq_false c28
            clear c28
            by_cases c34 : t563 = t561
            · rw [if_pos c34] at H
              have c34b0 : (t563 == t561) = true := beq_iff_eq.mpr c34
              have c34b1 : (t563 != t561) = false := bne_eq_false_iff_eq.mpr c34
              clear c34
              replace H := Option.bind_eq_some_iff.mp H
              obtain ⟨⟨t564, t565, t566, t569⟩, A350, H⟩ := H
              replace H : ((laws_eqPuzzle.f kj4 t564 t565 t566 t546 t547 t548).bind fun t571 => (if t571 = true then (laws_FnExactParsePuzzle.j1 kj4 t561 (t569 != t551) t553 t554 t562) else (laws_FnExactParsePuzzle.j1 kj4 t561 true t553 t554 t562))) = some r := H
              have A35 := amk A350
              clear A350
              have HC36 := amk H
              clear H
              have hnb37 := NB559_552.out
              have hnc37 := NB552_559.out
              have hcz38_0 : wc.cell? ⟨gb559, 0, none⟩ = some (.int .i64 t553) := (blk_cell BK559.out 0).trans rfl
              have hcz38_1 : wc.cell? ⟨gb559, 1, none⟩ = some (.int .i64 t554) := (blk_cell BK559.out 1).trans rfl
              have hcz38_2 : wc.cell? ⟨gb559, 2, none⟩ = some (.slice Ao14 t555.length co14) := (blk_cell BK559.out 2).trans rfl
              have hfz38_0 := blk_frozen BK559.out 0
              have hfz38_1 := blk_frozen BK559.out 1
              have hfz38_2 := blk_frozen BK559.out 2
              go_upto_region 16 with (first | ((with_reducible refine gate_callee (f := 23) rfl ?_); refine goesL_ (some 35) rfl rfl Tryd.func23 (by kernel_rfl) rfl #[.agg #[.int .i64 t553, .int .i64 t554, .slice Ao14 t555.length co14], .int .i64 1] rfl (by (try simp only [List.map_toArray, List.map_cons, List.map_nil]); first | done | rfl | (simp only [List.length_drop, List.length_take]; rfl)) ?_; (with_reducible refine (laws_markPuzzle.calls kj4 t553 t554 (fun k_ => some k_ = (.slice Ao14 t555.length co14 : Value).ownBlock) (.slice Ao14 t555.length co14) t555 1 t561 t562 w _ ?side1 ?side2 A26.out).mono ?_); (case side1 => repeat (first | (with_reducible first | exact HB.out | apply ba_ | apply bn_ | apply bd_ | refine bs_ ?_ GE552.out | refine bs_ ?_ GE559.out) | exact HB.out)); (case side2 => exact Kd.R_tight rfl HO_560002.out); rintro e w39 ⟨rfl, hy0, hb, hkp⟩; refine ⟨_, rfl, ?_⟩; have n0_ := amk (Kd.R_mono (ok' := fun k_ => some k_ ≠ (.slice Ao14 t555.length co14 : Value).ownBlock) (Kd.R_keptB (HO_553002.out) hkp (fun k_ hk_ hs_ => (hk_) hs_)) (fun k_ hk_ => hk_.1)); have n1_ := amk (Kd.R_reok rfl hy0 (fun k_ e_ => HO_560002.out.1 k_ e_)); have n2_ := amk (blk_kept (by (with_reducible repeat (first | refine kn_ ?_ _ | refine blk_drew ?_ | refine ka_ ?_ _)); exact BK552.out) hkp (fun hs_ => (fun e_ => (Kd.R_ne HO_560002.out BK552.out (by decide)) e_) hs_)); have n3_ := amk (blk_kept (by (with_reducible repeat (first | refine kn_ ?_ _ | refine blk_drew ?_ | refine ka_ ?_ _)); exact BK559.out) hkp (fun hs_ => (fun e_ => (Kd.R_ne HO_560002.out BK559.out (by decide)) e_) hs_)); have n4_ := amk (hb); clear HO_553002; clear HO_560002; clear BK552; clear BK559; clear HB; have HO_553002 := n0_; have HO_560002 := n1_; have BK552 := n2_; have BK559 := n3_; have HB := n4_; clear n0_ n1_ n2_ n3_ n4_; (try clear hb); (try clear hkp); (try clear hy0); have hcz40_0 : w39.cell? ⟨gb559, 0, none⟩ = some (.int .i64 t553) := (blk_cell BK559.out 0).trans rfl; have hcz40_1 : w39.cell? ⟨gb559, 1, none⟩ = some (.int .i64 t554) := (blk_cell BK559.out 1).trans rfl; have hcz40_2 : w39.cell? ⟨gb559, 2, none⟩ = some (.slice Ao14 t555.length co14) := (blk_cell BK559.out 2).trans rfl; have hfz40_0 := blk_frozen BK559.out 0; have hfz40_1 := blk_frozen BK559.out 1; have hfz40_2 := blk_frozen BK559.out 2) | ((with_reducible refine gate_callee (f := 24) rfl ?_); refine goesL_ (some 38) rfl rfl Tryd.func24 (by kernel_rfl) rfl #[.agg #[.int .i64 t553, .int .i64 t554, .slice Ao14 t562.length co14], .int .i64 1] rfl (by (try simp only [List.map_toArray, List.map_cons, List.map_nil]); first | done | (rw [show t562.length = t555.length from (Kd.R_reads' HO_560002.out).1.symm] <;> rfl) | rfl | (simp only [List.length_drop, List.length_take]; rfl)) ?_; (with_reducible refine (laws_heldPuzzle.calls kj4 t553 t554 _ _ t562 1 t563 _ ?side1 ?side2 A27.out).mono ?_); (case side1 => repeat (first | exact (Kd.R_reads' HO_560002.out).2.2 | (with_reducible refine Kd.C_alloc ?_ _) | (with_reducible refine Kd.C_drewN ?_ _) | (with_reducible refine Kd.C_drew ?_))); (case side2 => rw [show t562.length = t555.length from (Kd.R_reads' HO_560002.out).1.symm]; exact (Kd.R_reads' HO_560002.out).2.1); rintro e w41 ⟨rfl, hb⟩; refine ⟨_, rfl, ?_⟩; have n0_ := amk (Kd.R_below (by (with_reducible repeat (first | apply Kd.R_alloc | apply Kd.R_drewN | apply Kd.R_drew)); exact HO_553002.out) hb); have n1_ := amk (Kd.R_below (by (with_reducible repeat (first | apply Kd.R_alloc | apply Kd.R_drewN | apply Kd.R_drew)); exact HO_560002.out) hb); have n2_ := amk (blk_below (g := gb552) (o := .cells #[.int .i64 t546, .int .i64 t547, .slice Ao9 t548.length co9] 42 (0, 0)) (by (with_reducible repeat (first | refine kn_ ?_ _ | refine blk_drew ?_ | refine ka_ ?_ _)); exact BK552.out) hb); have n3_ := amk (blk_below (g := gb559) (o := .cells #[.int .i64 t553, .int .i64 t554, .slice Ao14 t555.length co14] 42 (0, 0)) (by (with_reducible repeat (first | refine kn_ ?_ _ | refine blk_drew ?_ | refine ka_ ?_ _)); exact BK559.out) hb); have n4_ := amk (bp_ (by repeat (first | (with_reducible first | exact HB.out | apply ba_ | apply bn_ | apply bd_ | refine bs_ ?_ GE552.out | refine bs_ ?_ GE559.out) | exact HB.out)) hb); clear HO_553002; clear HO_560002; clear BK552; clear BK559; clear HB; have HO_553002 := n0_; have HO_560002 := n1_; have BK552 := n2_; have BK559 := n3_; have HB := n4_; clear n0_ n1_ n2_ n3_ n4_; (try clear hb); (try clear hb2); (try clear hk); (try clear hi)) | ((with_reducible refine gate_callee (f := 22) rfl ?_); refine goesL_ (some 46) rfl rfl Tryd.func22 (by kernel_rfl) rfl #[.string a0] rfl (by (try simp only [List.map_toArray, List.map_cons, List.map_nil]); first | done | rfl | (simp only [List.length_drop, List.length_take]; rfl)) ?_; (with_reducible refine (impl_ParsePuzzle.calls kj4 a0 t564 t565 t566 t569 _ ?sideT A35.out).mono ?_); (case sideT => exact (HTP.out.below (by repeat (first | (with_reducible first | exact HB.out | apply ba_ | apply bn_ | apply bd_ | refine bs_ ?_ GE552.out | refine bs_ ?_ GE559.out) | exact HB.out)))); rintro e w42 ⟨v567, rfl, ho0, hb⟩; refine ⟨_, rfl, ?_⟩; have n0_ := amk (Kd.R_elder' (by (with_reducible repeat (first | apply Kd.R_alloc | apply Kd.R_drewN | apply Kd.R_drew)); exact HO_553002.out) (Kd.R_base ho0) hb); have n1_ := amk (Kd.R_elder' (by (with_reducible repeat (first | apply Kd.R_alloc | apply Kd.R_drewN | apply Kd.R_drew)); exact HO_560002.out) (Kd.R_base ho0) hb); have n2_ := amk (Kd.R_lower (Kd.R_new' (Kd.R_new' ho0 (Kd.R_lt (by (with_reducible repeat (first | apply Kd.R_alloc | apply Kd.R_drewN | apply Kd.R_drew)); exact HO_553002.out))) (Kd.R_lt (by (with_reducible repeat (first | apply Kd.R_alloc | apply Kd.R_drewN | apply Kd.R_drew)); exact HO_560002.out))) (below_size (by repeat (first | (with_reducible first | exact HB.out | apply ba_ | apply bn_ | apply bd_ | refine bs_ ?_ GE552.out | refine bs_ ?_ GE559.out) | exact HB.out)))); have n3_ := amk (blk_below (g := gb552) (o := .cells #[.int .i64 t546, .int .i64 t547, .slice Ao9 t548.length co9] 42 (0, 0)) (by (with_reducible repeat (first | refine kn_ ?_ _ | refine blk_drew ?_ | refine ka_ ?_ _)); exact BK552.out) hb); have n4_ := amk (blk_below (g := gb559) (o := .cells #[.int .i64 t553, .int .i64 t554, .slice Ao14 t555.length co14] 42 (0, 0)) (by (with_reducible repeat (first | refine kn_ ?_ _ | refine blk_drew ?_ | refine ka_ ?_ _)); exact BK559.out) hb); have n5_ := amk (bp_ (by repeat (first | (with_reducible first | exact HB.out | apply ba_ | apply bn_ | apply bd_ | refine bs_ ?_ GE552.out | refine bs_ ?_ GE559.out) | exact HB.out)) hb); clear HO_553002; clear HO_560002; clear BK552; clear BK559; clear HB; have HO_553002 := n0_; have HO_560002 := n1_; have HO568 := n2_; have BK552 := n3_; have BK559 := n4_; have HB := n5_; clear n0_ n1_ n2_ n3_ n4_ n5_; (try clear hb); (try clear hb2); (try clear hk); (try clear hi); (try clear ho0)) | ((with_reducible refine gate_dst (N := 9) rfl ?_); refine box_event ?hg (N := 9) ?hd (cs := #[.int .i64 0, .int .i64 0, .slice none 0 0]) (t := 42) ?hr ?_; (case hd => rfl); (case hg => rfl); (case hr => first | (go_simp; done) | (go_simp; rfl)); intro gb570 hg w43 hbox hb; have n0_ := amk (Kd.R_below (by (with_reducible repeat (first | apply Kd.R_alloc | apply Kd.R_drewN | apply Kd.R_drew)); exact HO_553002.out) hb); have n1_ := amk (Kd.R_below (by (with_reducible repeat (first | apply Kd.R_alloc | apply Kd.R_drewN | apply Kd.R_drew)); exact HO_560002.out) hb); have n2_ := amk (Kd.R_below (by (with_reducible repeat (first | apply Kd.R_alloc | apply Kd.R_drewN | apply Kd.R_drew)); exact HO568.out) hb); have n3_ := amk (blk_below (g := gb552) (o := .cells #[.int .i64 t546, .int .i64 t547, .slice Ao9 t548.length co9] 42 (0, 0)) (by (with_reducible repeat (first | refine kn_ ?_ _ | refine blk_drew ?_ | refine ka_ ?_ _)); exact BK552.out) hb); have n4_ := amk (blk_below (g := gb559) (o := .cells #[.int .i64 t553, .int .i64 t554, .slice Ao14 t555.length co14] 42 (0, 0)) (by (with_reducible repeat (first | refine kn_ ?_ _ | refine blk_drew ?_ | refine ka_ ?_ _)); exact BK559.out) hb); have n5_ := amk (bp_ (by repeat (first | (with_reducible first | exact HB.out | apply ba_ | apply bn_ | apply bd_ | refine bs_ ?_ GE552.out | refine bs_ ?_ GE559.out) | exact HB.out)) hb); have n6_ := amk (hbox); have n7_ := amk ((by rw [hg]; exact (below_size (by repeat (first | (with_reducible first | exact HB.out | apply ba_ | apply bn_ | apply bd_ | refine bs_ ?_ GE552.out | refine bs_ ?_ GE559.out) | exact HB.out))) : w.heap.size ≤ gb570)); have n8_ := amk ((by rw [hg]; exact (below_size (by repeat (first | (with_reducible first | exact HB.out | apply ba_ | apply bn_ | apply bd_ | refine bs_ ?_ GE552.out | refine bs_ ?_ GE559.out) | exact HB.out))) : w.heap.size ≤ gb570)); have n9_ := amk ((by rw [hg]; exact Nat.ne_of_lt (blk_lt (g := gb552) (o := .cells #[.int .i64 t546, .int .i64 t547, .slice Ao9 t548.length co9] 42 (0, 0)) (by (with_reducible repeat (first | refine kn_ ?_ _ | refine blk_drew ?_ | refine ka_ ?_ _)); exact BK552.out)) : gb552 ≠ gb570)); have n10_ := amk ((by rw [hg]; exact Nat.ne_of_gt (blk_lt (g := gb552) (o := .cells #[.int .i64 t546, .int .i64 t547, .slice Ao9 t548.length co9] 42 (0, 0)) (by (with_reducible repeat (first | refine kn_ ?_ _ | refine blk_drew ?_ | refine ka_ ?_ _)); exact BK552.out)) : gb570 ≠ gb552)); have n11_ := amk ((by rw [hg]; exact Nat.ne_of_lt (blk_lt (g := gb559) (o := .cells #[.int .i64 t553, .int .i64 t554, .slice Ao14 t555.length co14] 42 (0, 0)) (by (with_reducible repeat (first | refine kn_ ?_ _ | refine blk_drew ?_ | refine ka_ ?_ _)); exact BK559.out)) : gb559 ≠ gb570)); have n12_ := amk ((by rw [hg]; exact Nat.ne_of_gt (blk_lt (g := gb559) (o := .cells #[.int .i64 t553, .int .i64 t554, .slice Ao14 t555.length co14] 42 (0, 0)) (by (with_reducible repeat (first | refine kn_ ?_ _ | refine blk_drew ?_ | refine ka_ ?_ _)); exact BK559.out)) : gb570 ≠ gb559)); clear HO_553002; clear HO_560002; clear HO568; clear BK552; clear BK559; clear HB; have HO_553002 := n0_; have HO_560002 := n1_; have HO568 := n2_; have BK552 := n3_; have BK559 := n4_; have HB := n5_; have BK570 := n6_; have GW570 := n7_; have GE570 := n8_; have NB552_570 := n9_; have NB570_552 := n10_; have NB559_570 := n11_; have NB570_559 := n12_; clear n0_ n1_ n2_ n3_ n4_ n5_ n6_ n7_ n8_ n9_ n10_ n11_ n12_; clear hb hbox hg; have hnb44 := NB570_552.out; have hnc44 := NB552_570.out; have hnb45 := NB570_559.out; have hnc45 := NB559_570.out; have hcz46_0 : w43.cell? ⟨gb570, 0, none⟩ = some (.int .i64 0) := (blk_cell BK570.out 0).trans rfl; have hcz46_1 : w43.cell? ⟨gb570, 1, none⟩ = some (.int .i64 0) := (blk_cell BK570.out 1).trans rfl; have hcz46_2 : w43.cell? ⟨gb570, 2, none⟩ = some (.slice none 0 0) := (blk_cell BK570.out 2).trans rfl; have hfz46_0 := blk_frozen BK570.out 0; have hfz46_1 := blk_frozen BK570.out 1; have hfz46_2 := blk_frozen BK570.out 2; obtain ⟨Ao47, co47, eo47⟩ := Kd.R_slice HO568.out; subst eo47))
              (try simp only [Act.put, List.setIfInBounds_toArray, List.set_cons_zero, List.set_cons_succ])
              go_cut [57] (fun v57 wc => ∃ (kq : Nat) (x57_35 : Bool), v57 = .bool x57_35 ∧ Aside0 (laws_FnExactParsePuzzle.j1 kq t561 x57_35 t553 t554 t562 = some r) ∧ Aside0 (kq ≤ kj4) ∧ Aside0 (Kd.R k77 77 wc w.heap.size (fun k_ => some k_ ≠ ((.slice Ao14 t555.length co14) : Value).ownBlock ∧ some k_ ≠ ((.slice Ao47 t566.length co47) : Value).ownBlock) (.slice Ao9 t548.length co9) t548) ∧ Aside0 (Kd.R k77 77 wc w.heap.size (fun k_ => some k_ ≠ ((.slice Ao9 t548.length co9) : Value).ownBlock ∧ some k_ ≠ ((.slice Ao47 t566.length co47) : Value).ownBlock) (.slice Ao14 t555.length co14) t562) ∧ Aside0 (Kd.R k77 77 wc w.heap.size (fun k_ => some k_ ≠ ((.slice Ao9 t548.length co9) : Value).ownBlock ∧ some k_ ≠ ((.slice Ao14 t555.length co14) : Value).ownBlock) (.slice Ao47 t566.length co47) t566) ∧ Aside0 (wc.heap[gb552]? = some (.cells #[.int .i64 t546, .int .i64 t547, (.slice Ao9 t548.length co9)] 42 (0, 0))) ∧ Aside0 (wc.heap[gb559]? = some (.cells #[.int .i64 t553, .int .i64 t554, (.slice Ao14 t555.length co14)] 42 (0, 0))) ∧ Aside0 (wc.heap[gb570]? = some (.cells #[.int .i64 t564, .int .i64 t565, (.slice Ao47 t566.length co47)] 42 (0, 0))) ∧ Aside0 (Below w.heap.size w wc))
              case first =>
                have H := HC36.out
                clear HC36
                replace H := Option.bind_eq_some_iff.mp H
                obtain ⟨t571, A480, H⟩ := H
                replace H : (if t571 = true then (laws_FnExactParsePuzzle.j1 kj4 t561 (t569 != t551) t553 t554 t562) else (laws_FnExactParsePuzzle.j1 kj4 t561 true t553 t554 t562)) = some r := H
                have A48 := amk A480
                clear A480
                by_cases c49 : t571 = true
                · subst c49
                  have H1 : (laws_FnExactParsePuzzle.j1 kj4 t561 (t569 != t551) t553 t554 t562) = some r := by rw [if_pos rfl] at H; exact H
                  clear H
                  have H := H1
                  clear H1
                  have H' := amk H
                  clear H
                  have hnb50 := NB570_552.out
                  have hnc50 := NB552_570.out
                  have hnb51 := NB570_559.out
                  have hnc51 := NB559_570.out
                  have hcz52_0 : w43.cell? ⟨gb570, 0, none⟩ = some (.int .i64 0) := (blk_cell BK570.out 0).trans rfl
                  have hcz52_1 : w43.cell? ⟨gb570, 1, none⟩ = some (.int .i64 0) := (blk_cell BK570.out 1).trans rfl
                  have hcz52_2 : w43.cell? ⟨gb570, 2, none⟩ = some (.slice none 0 0) := (blk_cell BK570.out 2).trans rfl
                  have hfz52_0 := blk_frozen BK570.out 0
                  have hfz52_1 := blk_frozen BK570.out 1
                  have hfz52_2 := blk_frozen BK570.out 2
                  have hnb53 := NB552_559.out
                  have hnc53 := NB559_552.out
                  have hcz54_0 : w43.cell? ⟨gb552, 0, none⟩ = some (.int .i64 t546) := (blk_cell BK552.out 0).trans rfl
                  have hcz54_1 : w43.cell? ⟨gb552, 1, none⟩ = some (.int .i64 t547) := (blk_cell BK552.out 1).trans rfl
                  have hcz54_2 : w43.cell? ⟨gb552, 2, none⟩ = some (.slice Ao9 t548.length co9) := (blk_cell BK552.out 2).trans rfl
                  have hfz54_0 := blk_frozen BK552.out 0
                  have hfz54_1 := blk_frozen BK552.out 1
                  have hfz54_2 := blk_frozen BK552.out 2
                  go_wp2_with (first | ((with_reducible refine gate_callee (f := 16) rfl ?_); refine goesL_ (some 51) rfl rfl Tryd.func16 (by kernel_rfl) rfl #[.agg #[.int .i64 t564, .int .i64 t565, .slice Ao47 t566.length co47], .agg #[.int .i64 t546, .int .i64 t547, .slice Ao9 t548.length co9]] rfl (by (try simp only [List.map_toArray, List.map_cons, List.map_nil]); first | done | rfl | (simp only [List.length_drop, List.length_take]; rfl)) ?_; (with_reducible refine (laws_eqPuzzle.calls kj4 t564 t565 _ _ t566 t546 t547 _ _ t548 true _ ?side1 ?side2 ?side3 ?side4 A48.out).mono ?_); (case side1 => refine (Kd.R_reads' (e := 77) (base := w.heap.size) (ok := fun k_ => ((True ∧ some k_ ≠ (.slice Ao9 t548.length co9 : Value).ownBlock) ∧ some k_ ≠ (.slice Ao14 t555.length co14 : Value).ownBlock)) (n := t566.length) (c := co47) ?_).2.2; exact (by (with_reducible repeat (first | apply Kd.R_alloc | apply Kd.R_drewN | apply Kd.R_drew)); exact (Kd.R_mono (Kd.R_far (p := ⟨gb570, 2, none⟩) (Kd.R_far (p := ⟨gb570, 1, none⟩) (Kd.R_far (p := ⟨gb570, 0, none⟩) (Kd.R_types HO568.out BK570.out (by decide)) (fun _ hk => hk.2) (.int .i64 t564)) (fun _ hk => hk.2) (.int .i64 t565)) (fun _ hk => hk.2) (.slice Ao47 t566.length co47)) (fun _ h_ => h_.1)))); (case side2 => exact (Kd.R_reads' HO568.out).2.1); (case side3 => refine (Kd.R_reads' (e := 77) (base := w.heap.size) (ok := fun k_ => (some k_ ≠ (.slice Ao14 t555.length co14 : Value).ownBlock ∧ some k_ ≠ (.slice Ao47 t566.length co47 : Value).ownBlock)) (n := t548.length) (c := co9) ?_).2.2; exact (by (with_reducible repeat (first | apply Kd.R_alloc | apply Kd.R_drewN | apply Kd.R_drew)); exact (Kd.R_mono (Kd.R_far (p := ⟨gb570, 2, none⟩) (Kd.R_far (p := ⟨gb570, 1, none⟩) (Kd.R_far (p := ⟨gb570, 0, none⟩) (Kd.R_types HO_553002.out BK570.out (by decide)) (fun _ hk => hk.2) (.int .i64 t564)) (fun _ hk => hk.2) (.int .i64 t565)) (fun _ hk => hk.2) (.slice Ao47 t566.length co47)) (fun _ h_ => h_.1)))); (case side4 => exact (Kd.R_reads' HO_553002.out).2.1); rintro e w55 ⟨rfl, hb⟩; refine ⟨_, rfl, ?_⟩; have n0_ := amk (Kd.R_below (by (with_reducible repeat (first | apply Kd.R_alloc | apply Kd.R_drewN | apply Kd.R_drew)); exact (Kd.R_mono (Kd.R_far (p := ⟨gb570, 2, none⟩) (Kd.R_far (p := ⟨gb570, 1, none⟩) (Kd.R_far (p := ⟨gb570, 0, none⟩) (Kd.R_types HO_553002.out BK570.out (by decide)) (fun _ hk => hk.2) (.int .i64 t564)) (fun _ hk => hk.2) (.int .i64 t565)) (fun _ hk => hk.2) (.slice Ao47 t566.length co47)) (fun _ h_ => h_.1))) hb); have n1_ := amk (Kd.R_below (by (with_reducible repeat (first | apply Kd.R_alloc | apply Kd.R_drewN | apply Kd.R_drew)); exact (Kd.R_mono (Kd.R_far (p := ⟨gb570, 2, none⟩) (Kd.R_far (p := ⟨gb570, 1, none⟩) (Kd.R_far (p := ⟨gb570, 0, none⟩) (Kd.R_types HO_560002.out BK570.out (by decide)) (fun _ hk => hk.2) (.int .i64 t564)) (fun _ hk => hk.2) (.int .i64 t565)) (fun _ hk => hk.2) (.slice Ao47 t566.length co47)) (fun _ h_ => h_.1))) hb); have n2_ := amk (Kd.R_below (by (with_reducible repeat (first | apply Kd.R_alloc | apply Kd.R_drewN | apply Kd.R_drew)); exact (Kd.R_mono (Kd.R_far (p := ⟨gb570, 2, none⟩) (Kd.R_far (p := ⟨gb570, 1, none⟩) (Kd.R_far (p := ⟨gb570, 0, none⟩) (Kd.R_types HO568.out BK570.out (by decide)) (fun _ hk => hk.2) (.int .i64 t564)) (fun _ hk => hk.2) (.int .i64 t565)) (fun _ hk => hk.2) (.slice Ao47 t566.length co47)) (fun _ h_ => h_.1))) hb); have n3_ := amk (blk_below (g := gb552) (o := .cells #[.int .i64 t546, .int .i64 t547, .slice Ao9 t548.length co9] 42 (0, 0)) (by (with_reducible repeat (first | refine kn_ ?_ _ | refine blk_drew ?_ | refine ka_ ?_ _)); refine blk_far ?_ NB552_570.out _; (with_reducible repeat (first | refine kn_ ?_ _ | refine blk_drew ?_ | refine ka_ ?_ _)); refine blk_far ?_ NB552_570.out _; (with_reducible repeat (first | refine kn_ ?_ _ | refine blk_drew ?_ | refine ka_ ?_ _)); refine blk_far ?_ NB552_570.out _; (with_reducible repeat (first | refine kn_ ?_ _ | refine blk_drew ?_ | refine ka_ ?_ _)); exact BK552.out) hb); have n4_ := amk (blk_below (g := gb559) (o := .cells #[.int .i64 t553, .int .i64 t554, .slice Ao14 t555.length co14] 42 (0, 0)) (by (with_reducible repeat (first | refine kn_ ?_ _ | refine blk_drew ?_ | refine ka_ ?_ _)); refine blk_far ?_ NB559_570.out _; (with_reducible repeat (first | refine kn_ ?_ _ | refine blk_drew ?_ | refine ka_ ?_ _)); refine blk_far ?_ NB559_570.out _; (with_reducible repeat (first | refine kn_ ?_ _ | refine blk_drew ?_ | refine ka_ ?_ _)); refine blk_far ?_ NB559_570.out _; (with_reducible repeat (first | refine kn_ ?_ _ | refine blk_drew ?_ | refine ka_ ?_ _)); exact BK559.out) hb); have n5_ := amk (blk_below (g := gb570) (o := .cells #[.int .i64 t564, .int .i64 t565, .slice Ao47 t566.length co47] 42 (0, 0)) (by (with_reducible repeat (first | refine kn_ ?_ _ | refine blk_drew ?_ | refine ka_ ?_ _)); refine blk_put (cs := #[.int .i64 t564, .int .i64 t565, .slice none 0 0]) ?_ 2 _ rfl; (with_reducible repeat (first | refine kn_ ?_ _ | refine blk_drew ?_ | refine ka_ ?_ _)); refine blk_put (cs := #[.int .i64 t564, .int .i64 0, .slice none 0 0]) ?_ 1 _ rfl; (with_reducible repeat (first | refine kn_ ?_ _ | refine blk_drew ?_ | refine ka_ ?_ _)); refine blk_put (cs := #[.int .i64 0, .int .i64 0, .slice none 0 0]) ?_ 0 _ rfl; (with_reducible repeat (first | refine kn_ ?_ _ | refine blk_drew ?_ | refine ka_ ?_ _)); exact BK570.out) hb); have n6_ := amk (bp_ (by repeat (first | (with_reducible first | exact HB.out | apply ba_ | apply bn_ | apply bd_ | refine bs_ ?_ GE552.out | refine bs_ ?_ GE559.out | refine bs_ ?_ GE570.out) | exact HB.out)) hb); clear HO_553002; clear HO_560002; clear HO568; clear BK552; clear BK559; clear BK570; clear HB; have HO_553002 := n0_; have HO_560002 := n1_; have HO568 := n2_; have BK552 := n3_; have BK559 := n4_; have BK570 := n5_; have HB := n6_; clear n0_ n1_ n2_ n3_ n4_ n5_ n6_; (try clear hb); (try clear hb2); (try clear hk); (try clear hi)))
                  go_meet
                  case rel => exact ⟨_, ((t569 != t551)), (by first | rfl | (simp; done) | (simp [*]; done)), H', ⟨by have := HJ4.out; first | omega | exact Nat.le_refl _⟩, ⟨by (with_reducible repeat (first | apply Kd.R_alloc | apply Kd.R_drewN | apply Kd.R_drew)); exact HO_553002.out⟩, ⟨by (with_reducible repeat (first | apply Kd.R_alloc | apply Kd.R_drewN | apply Kd.R_drew)); exact HO_560002.out⟩, ⟨by (with_reducible repeat (first | apply Kd.R_alloc | apply Kd.R_drewN | apply Kd.R_drew)); exact Kd.R_mono HO568.out (fun _ hk => ⟨hk.1.2, hk.2⟩)⟩, ⟨by (with_reducible repeat (first | refine kn_ ?_ _ | refine blk_drew ?_ | refine ka_ ?_ _)); exact BK552.out⟩, ⟨by (with_reducible repeat (first | refine kn_ ?_ _ | refine blk_drew ?_ | refine ka_ ?_ _)); exact BK559.out⟩, ⟨by (with_reducible repeat (first | refine kn_ ?_ _ | refine blk_drew ?_ | refine ka_ ?_ _)); exact BK570.out⟩, ⟨by repeat (first | (with_reducible first | exact HB.out | apply ba_ | apply bn_ | apply bd_ | refine bs_ ?_ GE552.out | refine bs_ ?_ GE559.out | refine bs_ ?_ GE570.out) | exact HB.out)⟩⟩
                · replace c49 := Bool.eq_false_iff.mpr c49
                  subst c49
                  have H1 : (laws_FnExactParsePuzzle.j1 kj4 t561 true t553 t554 t562) = some r := by rw [if_neg (show ¬ (false = true) by decide)] at H; exact H
                  clear H
                  have H := H1
                  clear H1
                  have H' := amk H
                  clear H
                  have hnb56 := NB570_552.out
                  have hnc56 := NB552_570.out
                  have hnb57 := NB570_559.out
                  have hnc57 := NB559_570.out
                  have hcz58_0 : w43.cell? ⟨gb570, 0, none⟩ = some (.int .i64 0) := (blk_cell BK570.out 0).trans rfl
                  have hcz58_1 : w43.cell? ⟨gb570, 1, none⟩ = some (.int .i64 0) := (blk_cell BK570.out 1).trans rfl
                  have hcz58_2 : w43.cell? ⟨gb570, 2, none⟩ = some (.slice none 0 0) := (blk_cell BK570.out 2).trans rfl
                  have hfz58_0 := blk_frozen BK570.out 0
                  have hfz58_1 := blk_frozen BK570.out 1
                  have hfz58_2 := blk_frozen BK570.out 2
                  have hnb59 := NB552_559.out
                  have hnc59 := NB559_552.out
                  have hcz60_0 : w43.cell? ⟨gb552, 0, none⟩ = some (.int .i64 t546) := (blk_cell BK552.out 0).trans rfl
                  have hcz60_1 : w43.cell? ⟨gb552, 1, none⟩ = some (.int .i64 t547) := (blk_cell BK552.out 1).trans rfl
                  have hcz60_2 : w43.cell? ⟨gb552, 2, none⟩ = some (.slice Ao9 t548.length co9) := (blk_cell BK552.out 2).trans rfl
                  have hfz60_0 := blk_frozen BK552.out 0
                  have hfz60_1 := blk_frozen BK552.out 1
                  have hfz60_2 := blk_frozen BK552.out 2
                  go_wp2_with (first | ((with_reducible refine gate_callee (f := 16) rfl ?_); refine goesL_ (some 51) rfl rfl Tryd.func16 (by kernel_rfl) rfl #[.agg #[.int .i64 t564, .int .i64 t565, .slice Ao47 t566.length co47], .agg #[.int .i64 t546, .int .i64 t547, .slice Ao9 t548.length co9]] rfl (by (try simp only [List.map_toArray, List.map_cons, List.map_nil]); first | done | rfl | (simp only [List.length_drop, List.length_take]; rfl)) ?_; (with_reducible refine (laws_eqPuzzle.calls kj4 t564 t565 _ _ t566 t546 t547 _ _ t548 false _ ?side1 ?side2 ?side3 ?side4 A48.out).mono ?_); (case side1 => refine (Kd.R_reads' (e := 77) (base := w.heap.size) (ok := fun k_ => ((True ∧ some k_ ≠ (.slice Ao9 t548.length co9 : Value).ownBlock) ∧ some k_ ≠ (.slice Ao14 t555.length co14 : Value).ownBlock)) (n := t566.length) (c := co47) ?_).2.2; exact (by (with_reducible repeat (first | apply Kd.R_alloc | apply Kd.R_drewN | apply Kd.R_drew)); exact (Kd.R_mono (Kd.R_far (p := ⟨gb570, 2, none⟩) (Kd.R_far (p := ⟨gb570, 1, none⟩) (Kd.R_far (p := ⟨gb570, 0, none⟩) (Kd.R_types HO568.out BK570.out (by decide)) (fun _ hk => hk.2) (.int .i64 t564)) (fun _ hk => hk.2) (.int .i64 t565)) (fun _ hk => hk.2) (.slice Ao47 t566.length co47)) (fun _ h_ => h_.1)))); (case side2 => exact (Kd.R_reads' HO568.out).2.1); (case side3 => refine (Kd.R_reads' (e := 77) (base := w.heap.size) (ok := fun k_ => (some k_ ≠ (.slice Ao14 t555.length co14 : Value).ownBlock ∧ some k_ ≠ (.slice Ao47 t566.length co47 : Value).ownBlock)) (n := t548.length) (c := co9) ?_).2.2; exact (by (with_reducible repeat (first | apply Kd.R_alloc | apply Kd.R_drewN | apply Kd.R_drew)); exact (Kd.R_mono (Kd.R_far (p := ⟨gb570, 2, none⟩) (Kd.R_far (p := ⟨gb570, 1, none⟩) (Kd.R_far (p := ⟨gb570, 0, none⟩) (Kd.R_types HO_553002.out BK570.out (by decide)) (fun _ hk => hk.2) (.int .i64 t564)) (fun _ hk => hk.2) (.int .i64 t565)) (fun _ hk => hk.2) (.slice Ao47 t566.length co47)) (fun _ h_ => h_.1)))); (case side4 => exact (Kd.R_reads' HO_553002.out).2.1); rintro e w61 ⟨rfl, hb⟩; refine ⟨_, rfl, ?_⟩; have n0_ := amk (Kd.R_below (by (with_reducible repeat (first | apply Kd.R_alloc | apply Kd.R_drewN | apply Kd.R_drew)); exact (Kd.R_mono (Kd.R_far (p := ⟨gb570, 2, none⟩) (Kd.R_far (p := ⟨gb570, 1, none⟩) (Kd.R_far (p := ⟨gb570, 0, none⟩) (Kd.R_types HO_553002.out BK570.out (by decide)) (fun _ hk => hk.2) (.int .i64 t564)) (fun _ hk => hk.2) (.int .i64 t565)) (fun _ hk => hk.2) (.slice Ao47 t566.length co47)) (fun _ h_ => h_.1))) hb); have n1_ := amk (Kd.R_below (by (with_reducible repeat (first | apply Kd.R_alloc | apply Kd.R_drewN | apply Kd.R_drew)); exact (Kd.R_mono (Kd.R_far (p := ⟨gb570, 2, none⟩) (Kd.R_far (p := ⟨gb570, 1, none⟩) (Kd.R_far (p := ⟨gb570, 0, none⟩) (Kd.R_types HO_560002.out BK570.out (by decide)) (fun _ hk => hk.2) (.int .i64 t564)) (fun _ hk => hk.2) (.int .i64 t565)) (fun _ hk => hk.2) (.slice Ao47 t566.length co47)) (fun _ h_ => h_.1))) hb); have n2_ := amk (Kd.R_below (by (with_reducible repeat (first | apply Kd.R_alloc | apply Kd.R_drewN | apply Kd.R_drew)); exact (Kd.R_mono (Kd.R_far (p := ⟨gb570, 2, none⟩) (Kd.R_far (p := ⟨gb570, 1, none⟩) (Kd.R_far (p := ⟨gb570, 0, none⟩) (Kd.R_types HO568.out BK570.out (by decide)) (fun _ hk => hk.2) (.int .i64 t564)) (fun _ hk => hk.2) (.int .i64 t565)) (fun _ hk => hk.2) (.slice Ao47 t566.length co47)) (fun _ h_ => h_.1))) hb); have n3_ := amk (blk_below (g := gb552) (o := .cells #[.int .i64 t546, .int .i64 t547, .slice Ao9 t548.length co9] 42 (0, 0)) (by (with_reducible repeat (first | refine kn_ ?_ _ | refine blk_drew ?_ | refine ka_ ?_ _)); refine blk_far ?_ NB552_570.out _; (with_reducible repeat (first | refine kn_ ?_ _ | refine blk_drew ?_ | refine ka_ ?_ _)); refine blk_far ?_ NB552_570.out _; (with_reducible repeat (first | refine kn_ ?_ _ | refine blk_drew ?_ | refine ka_ ?_ _)); refine blk_far ?_ NB552_570.out _; (with_reducible repeat (first | refine kn_ ?_ _ | refine blk_drew ?_ | refine ka_ ?_ _)); exact BK552.out) hb); have n4_ := amk (blk_below (g := gb559) (o := .cells #[.int .i64 t553, .int .i64 t554, .slice Ao14 t555.length co14] 42 (0, 0)) (by (with_reducible repeat (first | refine kn_ ?_ _ | refine blk_drew ?_ | refine ka_ ?_ _)); refine blk_far ?_ NB559_570.out _; (with_reducible repeat (first | refine kn_ ?_ _ | refine blk_drew ?_ | refine ka_ ?_ _)); refine blk_far ?_ NB559_570.out _; (with_reducible repeat (first | refine kn_ ?_ _ | refine blk_drew ?_ | refine ka_ ?_ _)); refine blk_far ?_ NB559_570.out _; (with_reducible repeat (first | refine kn_ ?_ _ | refine blk_drew ?_ | refine ka_ ?_ _)); exact BK559.out) hb); have n5_ := amk (blk_below (g := gb570) (o := .cells #[.int .i64 t564, .int .i64 t565, .slice Ao47 t566.length co47] 42 (0, 0)) (by (with_reducible repeat (first | refine kn_ ?_ _ | refine blk_drew ?_ | refine ka_ ?_ _)); refine blk_put (cs := #[.int .i64 t564, .int .i64 t565, .slice none 0 0]) ?_ 2 _ rfl; (with_reducible repeat (first | refine kn_ ?_ _ | refine blk_drew ?_ | refine ka_ ?_ _)); refine blk_put (cs := #[.int .i64 t564, .int .i64 0, .slice none 0 0]) ?_ 1 _ rfl; (with_reducible repeat (first | refine kn_ ?_ _ | refine blk_drew ?_ | refine ka_ ?_ _)); refine blk_put (cs := #[.int .i64 0, .int .i64 0, .slice none 0 0]) ?_ 0 _ rfl; (with_reducible repeat (first | refine kn_ ?_ _ | refine blk_drew ?_ | refine ka_ ?_ _)); exact BK570.out) hb); have n6_ := amk (bp_ (by repeat (first | (with_reducible first | exact HB.out | apply ba_ | apply bn_ | apply bd_ | refine bs_ ?_ GE552.out | refine bs_ ?_ GE559.out | refine bs_ ?_ GE570.out) | exact HB.out)) hb); clear HO_553002; clear HO_560002; clear HO568; clear BK552; clear BK559; clear BK570; clear HB; have HO_553002 := n0_; have HO_560002 := n1_; have HO568 := n2_; have BK552 := n3_; have BK559 := n4_; have BK570 := n5_; have HB := n6_; clear n0_ n1_ n2_ n3_ n4_ n5_ n6_; (try clear hb); (try clear hb2); (try clear hk); (try clear hi)))
                  go_meet
                  case rel => exact ⟨_, (true), (by first | rfl | (simp; done) | (simp [*]; done)), H', ⟨by have := HJ4.out; first | omega | exact Nat.le_refl _⟩, ⟨by (with_reducible repeat (first | apply Kd.R_alloc | apply Kd.R_drewN | apply Kd.R_drew)); exact HO_553002.out⟩, ⟨by (with_reducible repeat (first | apply Kd.R_alloc | apply Kd.R_drewN | apply Kd.R_drew)); exact HO_560002.out⟩, ⟨by (with_reducible repeat (first | apply Kd.R_alloc | apply Kd.R_drewN | apply Kd.R_drew)); exact Kd.R_mono HO568.out (fun _ hk => ⟨hk.1.2, hk.2⟩)⟩, ⟨by (with_reducible repeat (first | refine kn_ ?_ _ | refine blk_drew ?_ | refine ka_ ?_ _)); exact BK552.out⟩, ⟨by (with_reducible repeat (first | refine kn_ ?_ _ | refine blk_drew ?_ | refine ka_ ?_ _)); exact BK559.out⟩, ⟨by (with_reducible repeat (first | refine kn_ ?_ _ | refine blk_drew ?_ | refine ka_ ?_ _)); exact BK570.out⟩, ⟨by repeat (first | (with_reducible first | exact HB.out | apply ba_ | apply bn_ | apply bd_ | refine bs_ ?_ GE552.out | refine bs_ ?_ GE559.out | refine bs_ ?_ GE570.out) | exact HB.out)⟩⟩
              case rest =>
                clear HC36
                try clear c1; try clear c2; try clear c2b0; try clear c2b1; try clear p2; try clear c3; try clear c4; try clear c5; try clear c6; try clear c12; try clear c16; try clear c17; try clear c21; try clear c22; try clear c23; try clear c24; try clear c25; try clear c28; try clear c28b0; try clear c29; try clear c34; try clear c34b0; try clear c34b1; try clear c37; try clear c44; try clear c45; try clear c49; try clear c50; try clear c51; try clear c53; try clear c56; try clear c57; try clear c59; try clear hcz13_0; try clear hcz13_1; try clear hcz13_2; try clear hcz18_0; try clear hcz18_1; try clear hcz18_2; try clear hcz19_0; try clear hcz19_1; try clear hcz19_2; try clear hcz22_0; try clear hcz22_1; try clear hcz22_2; try clear hcz23_0; try clear hcz23_1; try clear hcz23_2; try clear hcz30_0; try clear hcz30_1; try clear hcz30_2; try clear hcz32_0; try clear hcz32_1; try clear hcz32_2; try clear hcz38_0; try clear hcz38_1; try clear hcz38_2; try clear hcz40_0; try clear hcz40_1; try clear hcz40_2; try clear hcz46_0; try clear hcz46_1; try clear hcz46_2; try clear hcz52_0; try clear hcz52_1; try clear hcz52_2; try clear hcz54_0; try clear hcz54_1; try clear hcz54_2; try clear hcz58_0; try clear hcz58_1; try clear hcz58_2; try clear hcz60_0; try clear hcz60_1; try clear hcz60_2; try clear hcz8_0; try clear hcz8_1; try clear hcz8_2; try clear hfz13_0; try clear hfz13_1; try clear hfz13_2; try clear hfz18_0; try clear hfz18_1; try clear hfz18_2; try clear hfz19_0; try clear hfz19_1; try clear hfz19_2; try clear hfz22_0; try clear hfz22_1; try clear hfz22_2; try clear hfz23_0; try clear hfz23_1; try clear hfz23_2; try clear hfz30_0; try clear hfz30_1; try clear hfz30_2; try clear hfz32_0; try clear hfz32_1; try clear hfz32_2; try clear hfz38_0; try clear hfz38_1; try clear hfz38_2; try clear hfz40_0; try clear hfz40_1; try clear hfz40_2; try clear hfz46_0; try clear hfz46_1; try clear hfz46_2; try clear hfz52_0; try clear hfz52_1; try clear hfz52_2; try clear hfz54_0; try clear hfz54_1; try clear hfz54_2; try clear hfz58_0; try clear hfz58_1; try clear hfz58_2; try clear hfz60_0; try clear hfz60_1; try clear hfz60_2; try clear hfz8_0; try clear hfz8_1; try clear hfz8_2; try clear p2
                obtain ⟨kq, x57_35, rfl, HA, HJ35, HO_553002, HO_560002, HO_571002, BK552, BK559, BK570, HB⟩ := hcut
                have hl560002_35 := (Kd.R_reads' HO_560002.out).1
                rw [hl560002_35] at HO_560002
                (try simp only [hl560002_35])
                (try simp only [hl560002_35] at BK552)
                (try simp only [hl560002_35] at BK559)
                (try simp only [hl560002_35] at BK570)
                (try simp only [hl560002_35] at HO_553002)
                (try simp only [hl560002_35] at HO_571002)
                cases kq with
                | zero => exact absurd HA.out (by simp [laws_FnExactParsePuzzle.j1])
                | succ kj35 =>
                  have H := HA.out
                  clear HA
                  simp only [laws_FnExactParsePuzzle.j1] at H
                  by_cases c62 : x57_35 = true
                  · subst c62
                    have H1 : (some false) = some r := by rw [if_pos rfl] at H; exact H
                    clear H
                    have H := H1
                    clear H1
                    obtain rfl := Option.some.inj H
                    go_wp2
                    go_ret
                    exact ⟨by first | rfl | (simp [errW_none, errW_some] <;> rfl) | (simp [*, errW_none, errW_some] <;> rfl), by repeat (first | (with_reducible first | exact HB.out | apply ba_ | apply bn_ | apply bd_ | refine bs_ ?_ GE552.out | refine bs_ ?_ GE559.out | refine bs_ ?_ GE570.out) | exact HB.out)⟩
                  · replace c62 := Bool.eq_false_iff.mpr c62
                    subst c62
                    have H1 : ((laws_heldPuzzle.f kj35 t553 t554 t562 1).bind fun t572 => (if t572 < 0 then (some false) else (if t572 = t561 then (some true) else (some false)))) = some r := by rw [if_neg (show ¬ (false = true) by decide)] at H; exact H
                    clear H
                    have H := H1
                    clear H1
                    replace H := Option.bind_eq_some_iff.mp H
                    obtain ⟨t572, A630, H⟩ := H
                    replace H : (if t572 < 0 then (some false) else (if t572 = t561 then (some true) else (some false))) = some r := H
                    have A63 := amk A630
                    clear A630
                    by_cases c64 : t572 < 0
                    · rw [if_pos c64] at H
                      have c64b0 : decide (t572 < 0) = true := decide_eq_true c64
                      clear c64
                      obtain rfl := Option.some.inj H
                      have hnb65 := NB559_552.out
                      have hnc65 := NB552_559.out
                      have hnb66 := NB559_570.out
                      have hnc66 := NB570_559.out
                      have hcz67_0 : wc.cell? ⟨gb559, 0, none⟩ = some (.int .i64 t553) := (blk_cell BK559.out 0).trans rfl
                      have hcz67_1 : wc.cell? ⟨gb559, 1, none⟩ = some (.int .i64 t554) := (blk_cell BK559.out 1).trans rfl
                      have hcz67_2 : wc.cell? ⟨gb559, 2, none⟩ = some (.slice Ao14 t562.length co14) := (blk_cell BK559.out 2).trans rfl
                      have hfz67_0 := blk_frozen BK559.out 0
                      have hfz67_1 := blk_frozen BK559.out 1
                      have hfz67_2 := blk_frozen BK559.out 2
                      go_wp2_with (first | ((with_reducible refine gate_callee (f := 24) rfl ?_); refine goesL_ (some 60) rfl rfl Tryd.func24 (by kernel_rfl) rfl #[.agg #[.int .i64 t553, .int .i64 t554, .slice Ao14 t562.length co14], .int .i64 1] rfl (by (try simp only [List.map_toArray, List.map_cons, List.map_nil]); first | done | rfl | (simp only [List.length_drop, List.length_take]; rfl)) ?_; (with_reducible refine (laws_heldPuzzle.calls kj35 t553 t554 _ _ t562 1 t572 _ ?side1 ?side2 A63.out).mono ?_); (case side1 => repeat (first | exact (Kd.R_reads' HO_560002.out).2.2 | (with_reducible refine Kd.C_alloc ?_ _) | (with_reducible refine Kd.C_drewN ?_ _) | (with_reducible refine Kd.C_drew ?_))); (case side2 => exact (Kd.R_reads' HO_560002.out).2.1); rintro e w68 ⟨rfl, hb⟩; refine ⟨_, rfl, ?_⟩; have n0_ := amk (Kd.R_below (by (with_reducible repeat (first | apply Kd.R_alloc | apply Kd.R_drewN | apply Kd.R_drew)); exact HO_553002.out) hb); have n1_ := amk (Kd.R_below (by (with_reducible repeat (first | apply Kd.R_alloc | apply Kd.R_drewN | apply Kd.R_drew)); exact HO_560002.out) hb); have n2_ := amk (Kd.R_below (by (with_reducible repeat (first | apply Kd.R_alloc | apply Kd.R_drewN | apply Kd.R_drew)); exact HO_571002.out) hb); have n3_ := amk (blk_below (g := gb552) (o := .cells #[.int .i64 t546, .int .i64 t547, .slice Ao9 t548.length co9] 42 (0, 0)) (by (with_reducible repeat (first | refine kn_ ?_ _ | refine blk_drew ?_ | refine ka_ ?_ _)); exact BK552.out) hb); have n4_ := amk (blk_below (g := gb559) (o := .cells #[.int .i64 t553, .int .i64 t554, .slice Ao14 t562.length co14] 42 (0, 0)) (by (with_reducible repeat (first | refine kn_ ?_ _ | refine blk_drew ?_ | refine ka_ ?_ _)); exact BK559.out) hb); have n5_ := amk (blk_below (g := gb570) (o := .cells #[.int .i64 t564, .int .i64 t565, .slice Ao47 t566.length co47] 42 (0, 0)) (by (with_reducible repeat (first | refine kn_ ?_ _ | refine blk_drew ?_ | refine ka_ ?_ _)); exact BK570.out) hb); have n6_ := amk (bp_ (by repeat (first | (with_reducible first | exact HB.out | apply ba_ | apply bn_ | apply bd_ | refine bs_ ?_ GE552.out | refine bs_ ?_ GE559.out | refine bs_ ?_ GE570.out) | exact HB.out)) hb); clear HO_553002; clear HO_560002; clear HO_571002; clear BK552; clear BK559; clear BK570; clear HB; have HO_553002 := n0_; have HO_560002 := n1_; have HO_571002 := n2_; have BK552 := n3_; have BK559 := n4_; have BK570 := n5_; have HB := n6_; clear n0_ n1_ n2_ n3_ n4_ n5_ n6_; (try clear hb); (try clear hb2); (try clear hk); (try clear hi)))
                      go_ret
                      exact ⟨by first | rfl | (simp [errW_none, errW_some] <;> rfl) | (simp [*, errW_none, errW_some] <;> rfl), by repeat (first | (with_reducible first | exact HB.out | apply ba_ | apply bn_ | apply bd_ | refine bs_ ?_ GE552.out | refine bs_ ?_ GE559.out | refine bs_ ?_ GE570.out) | exact HB.out)⟩
                    · rw [if_neg c64] at H
                      have c64b0 : decide (t572 < 0) = false := decide_eq_false c64
                      clear c64
                      by_cases c69 : t572 = t561
                      · rw [if_pos c69] at H
                        have c69b0 : (t572 == t561) = true := beq_iff_eq.mpr c69
                        have c69b1 : (t572 != t561) = false := bne_eq_false_iff_eq.mpr c69
                        clear c69
                        obtain rfl := Option.some.inj H
                        have hnb70 := NB559_552.out
                        have hnc70 := NB552_559.out
                        have hnb71 := NB559_570.out
                        have hnc71 := NB570_559.out
                        have hcz72_0 : wc.cell? ⟨gb559, 0, none⟩ = some (.int .i64 t553) := (blk_cell BK559.out 0).trans rfl
                        have hcz72_1 : wc.cell? ⟨gb559, 1, none⟩ = some (.int .i64 t554) := (blk_cell BK559.out 1).trans rfl
                        have hcz72_2 : wc.cell? ⟨gb559, 2, none⟩ = some (.slice Ao14 t562.length co14) := (blk_cell BK559.out 2).trans rfl
                        have hfz72_0 := blk_frozen BK559.out 0
                        have hfz72_1 := blk_frozen BK559.out 1
                        have hfz72_2 := blk_frozen BK559.out 2
                        go_wp2_with (first | ((with_reducible refine gate_callee (f := 24) rfl ?_); refine goesL_ (some 60) rfl rfl Tryd.func24 (by kernel_rfl) rfl #[.agg #[.int .i64 t553, .int .i64 t554, .slice Ao14 t562.length co14], .int .i64 1] rfl (by (try simp only [List.map_toArray, List.map_cons, List.map_nil]); first | done | rfl | (simp only [List.length_drop, List.length_take]; rfl)) ?_; (with_reducible refine (laws_heldPuzzle.calls kj35 t553 t554 _ _ t562 1 t572 _ ?side1 ?side2 A63.out).mono ?_); (case side1 => repeat (first | exact (Kd.R_reads' HO_560002.out).2.2 | (with_reducible refine Kd.C_alloc ?_ _) | (with_reducible refine Kd.C_drewN ?_ _) | (with_reducible refine Kd.C_drew ?_))); (case side2 => exact (Kd.R_reads' HO_560002.out).2.1); rintro e w73 ⟨rfl, hb⟩; refine ⟨_, rfl, ?_⟩; have n0_ := amk (Kd.R_below (by (with_reducible repeat (first | apply Kd.R_alloc | apply Kd.R_drewN | apply Kd.R_drew)); exact HO_553002.out) hb); have n1_ := amk (Kd.R_below (by (with_reducible repeat (first | apply Kd.R_alloc | apply Kd.R_drewN | apply Kd.R_drew)); exact HO_560002.out) hb); have n2_ := amk (Kd.R_below (by (with_reducible repeat (first | apply Kd.R_alloc | apply Kd.R_drewN | apply Kd.R_drew)); exact HO_571002.out) hb); have n3_ := amk (blk_below (g := gb552) (o := .cells #[.int .i64 t546, .int .i64 t547, .slice Ao9 t548.length co9] 42 (0, 0)) (by (with_reducible repeat (first | refine kn_ ?_ _ | refine blk_drew ?_ | refine ka_ ?_ _)); exact BK552.out) hb); have n4_ := amk (blk_below (g := gb559) (o := .cells #[.int .i64 t553, .int .i64 t554, .slice Ao14 t562.length co14] 42 (0, 0)) (by (with_reducible repeat (first | refine kn_ ?_ _ | refine blk_drew ?_ | refine ka_ ?_ _)); exact BK559.out) hb); have n5_ := amk (blk_below (g := gb570) (o := .cells #[.int .i64 t564, .int .i64 t565, .slice Ao47 t566.length co47] 42 (0, 0)) (by (with_reducible repeat (first | refine kn_ ?_ _ | refine blk_drew ?_ | refine ka_ ?_ _)); exact BK570.out) hb); have n6_ := amk (bp_ (by repeat (first | (with_reducible first | exact HB.out | apply ba_ | apply bn_ | apply bd_ | refine bs_ ?_ GE552.out | refine bs_ ?_ GE559.out | refine bs_ ?_ GE570.out) | exact HB.out)) hb); clear HO_553002; clear HO_560002; clear HO_571002; clear BK552; clear BK559; clear BK570; clear HB; have HO_553002 := n0_; have HO_560002 := n1_; have HO_571002 := n2_; have BK552 := n3_; have BK559 := n4_; have BK570 := n5_; have HB := n6_; clear n0_ n1_ n2_ n3_ n4_ n5_ n6_; (try clear hb); (try clear hb2); (try clear hk); (try clear hi)))
                        go_ret
                        exact ⟨by first | rfl | (simp [errW_none, errW_some] <;> rfl) | (simp [*, errW_none, errW_some] <;> rfl), by repeat (first | (with_reducible first | exact HB.out | apply ba_ | apply bn_ | apply bd_ | refine bs_ ?_ GE552.out | refine bs_ ?_ GE559.out | refine bs_ ?_ GE570.out) | exact HB.out)⟩
                      · rw [if_neg c69] at H
                        have c69b0 : (t572 == t561) = false := beq_eq_false_iff_ne.mpr c69
                        have c69b1 : (t572 != t561) = true := bne_iff_ne.mpr c69
                        obtain rfl := Option.some.inj H
                        have hnb74 := NB559_552.out
                        have hnc74 := NB552_559.out
                        have hnb75 := NB559_570.out
                        have hnc75 := NB570_559.out
                        have hcz76_0 : wc.cell? ⟨gb559, 0, none⟩ = some (.int .i64 t553) := (blk_cell BK559.out 0).trans rfl
                        have hcz76_1 : wc.cell? ⟨gb559, 1, none⟩ = some (.int .i64 t554) := (blk_cell BK559.out 1).trans rfl
                        have hcz76_2 : wc.cell? ⟨gb559, 2, none⟩ = some (.slice Ao14 t562.length co14) := (blk_cell BK559.out 2).trans rfl
                        have hfz76_0 := blk_frozen BK559.out 0
                        have hfz76_1 := blk_frozen BK559.out 1
                        have hfz76_2 := blk_frozen BK559.out 2
                        go_wp2_with (first | ((with_reducible refine gate_callee (f := 24) rfl ?_); refine goesL_ (some 60) rfl rfl Tryd.func24 (by kernel_rfl) rfl #[.agg #[.int .i64 t553, .int .i64 t554, .slice Ao14 t562.length co14], .int .i64 1] rfl (by (try simp only [List.map_toArray, List.map_cons, List.map_nil]); first | done | rfl | (simp only [List.length_drop, List.length_take]; rfl)) ?_; (with_reducible refine (laws_heldPuzzle.calls kj35 t553 t554 _ _ t562 1 t572 _ ?side1 ?side2 A63.out).mono ?_); (case side1 => repeat (first | exact (Kd.R_reads' HO_560002.out).2.2 | (with_reducible refine Kd.C_alloc ?_ _) | (with_reducible refine Kd.C_drewN ?_ _) | (with_reducible refine Kd.C_drew ?_))); (case side2 => exact (Kd.R_reads' HO_560002.out).2.1); rintro e w77 ⟨rfl, hb⟩; refine ⟨_, rfl, ?_⟩; have n0_ := amk (Kd.R_below (by (with_reducible repeat (first | apply Kd.R_alloc | apply Kd.R_drewN | apply Kd.R_drew)); exact HO_553002.out) hb); have n1_ := amk (Kd.R_below (by (with_reducible repeat (first | apply Kd.R_alloc | apply Kd.R_drewN | apply Kd.R_drew)); exact HO_560002.out) hb); have n2_ := amk (Kd.R_below (by (with_reducible repeat (first | apply Kd.R_alloc | apply Kd.R_drewN | apply Kd.R_drew)); exact HO_571002.out) hb); have n3_ := amk (blk_below (g := gb552) (o := .cells #[.int .i64 t546, .int .i64 t547, .slice Ao9 t548.length co9] 42 (0, 0)) (by (with_reducible repeat (first | refine kn_ ?_ _ | refine blk_drew ?_ | refine ka_ ?_ _)); exact BK552.out) hb); have n4_ := amk (blk_below (g := gb559) (o := .cells #[.int .i64 t553, .int .i64 t554, .slice Ao14 t562.length co14] 42 (0, 0)) (by (with_reducible repeat (first | refine kn_ ?_ _ | refine blk_drew ?_ | refine ka_ ?_ _)); exact BK559.out) hb); have n5_ := amk (blk_below (g := gb570) (o := .cells #[.int .i64 t564, .int .i64 t565, .slice Ao47 t566.length co47] 42 (0, 0)) (by (with_reducible repeat (first | refine kn_ ?_ _ | refine blk_drew ?_ | refine ka_ ?_ _)); exact BK570.out) hb); have n6_ := amk (bp_ (by repeat (first | (with_reducible first | exact HB.out | apply ba_ | apply bn_ | apply bd_ | refine bs_ ?_ GE552.out | refine bs_ ?_ GE559.out | refine bs_ ?_ GE570.out) | exact HB.out)) hb); clear HO_553002; clear HO_560002; clear HO_571002; clear BK552; clear BK559; clear BK570; clear HB; have HO_553002 := n0_; have HO_560002 := n1_; have HO_571002 := n2_; have BK552 := n3_; have BK559 := n4_; have BK570 := n5_; have HB := n6_; clear n0_ n1_ n2_ n3_ n4_ n5_ n6_; (try clear hb); (try clear hb2); (try clear hk); (try clear hi)))
                        go_ret
                        exact ⟨by first | rfl | (simp [errW_none, errW_some] <;> rfl) | (simp [*, errW_none, errW_some] <;> rfl), by repeat (first | (with_reducible first | exact HB.out | apply ba_ | apply bn_ | apply bd_ | refine bs_ ?_ GE552.out | refine bs_ ?_ GE559.out | refine bs_ ?_ GE570.out) | exact HB.out)⟩
            · rw [if_neg c34] at H
              have c34b0 : (t563 == t561) = false := beq_eq_false_iff_ne.mpr c34
              have c34b1 : (t563 != t561) = true := bne_iff_ne.mpr c34
              obtain rfl := Option.some.inj H
              have hnb78 := NB559_552.out
              have hnc78 := NB552_559.out
              have hcz79_0 : wc.cell? ⟨gb559, 0, none⟩ = some (.int .i64 t553) := (blk_cell BK559.out 0).trans rfl
              have hcz79_1 : wc.cell? ⟨gb559, 1, none⟩ = some (.int .i64 t554) := (blk_cell BK559.out 1).trans rfl
              have hcz79_2 : wc.cell? ⟨gb559, 2, none⟩ = some (.slice Ao14 t555.length co14) := (blk_cell BK559.out 2).trans rfl
              have hfz79_0 := blk_frozen BK559.out 0
              have hfz79_1 := blk_frozen BK559.out 1
              have hfz79_2 := blk_frozen BK559.out 2
              go_wp2_with (first | ((with_reducible refine gate_callee (f := 23) rfl ?_); refine goesL_ (some 35) rfl rfl Tryd.func23 (by kernel_rfl) rfl #[.agg #[.int .i64 t553, .int .i64 t554, .slice Ao14 t555.length co14], .int .i64 1] rfl (by (try simp only [List.map_toArray, List.map_cons, List.map_nil]); first | done | rfl | (simp only [List.length_drop, List.length_take]; rfl)) ?_; (with_reducible refine (laws_markPuzzle.calls kj4 t553 t554 (fun k_ => some k_ = (.slice Ao14 t555.length co14 : Value).ownBlock) (.slice Ao14 t555.length co14) t555 1 t561 t562 w _ ?side1 ?side2 A26.out).mono ?_); (case side1 => repeat (first | (with_reducible first | exact HB.out | apply ba_ | apply bn_ | apply bd_ | refine bs_ ?_ GE552.out | refine bs_ ?_ GE559.out) | exact HB.out)); (case side2 => exact Kd.R_tight rfl HO_560002.out); rintro e w80 ⟨rfl, hy0, hb, hkp⟩; refine ⟨_, rfl, ?_⟩; have n0_ := amk (Kd.R_mono (ok' := fun k_ => some k_ ≠ (.slice Ao14 t555.length co14 : Value).ownBlock) (Kd.R_keptB (HO_553002.out) hkp (fun k_ hk_ hs_ => (hk_) hs_)) (fun k_ hk_ => hk_.1)); have n1_ := amk (Kd.R_reok rfl hy0 (fun k_ e_ => HO_560002.out.1 k_ e_)); have n2_ := amk (blk_kept (by (with_reducible repeat (first | refine kn_ ?_ _ | refine blk_drew ?_ | refine ka_ ?_ _)); exact BK552.out) hkp (fun hs_ => (fun e_ => (Kd.R_ne HO_560002.out BK552.out (by decide)) e_) hs_)); have n3_ := amk (blk_kept (by (with_reducible repeat (first | refine kn_ ?_ _ | refine blk_drew ?_ | refine ka_ ?_ _)); exact BK559.out) hkp (fun hs_ => (fun e_ => (Kd.R_ne HO_560002.out BK559.out (by decide)) e_) hs_)); have n4_ := amk (hb); clear HO_553002; clear HO_560002; clear BK552; clear BK559; clear HB; have HO_553002 := n0_; have HO_560002 := n1_; have BK552 := n2_; have BK559 := n3_; have HB := n4_; clear n0_ n1_ n2_ n3_ n4_; (try clear hb); (try clear hkp); (try clear hy0); have hcz81_0 : w80.cell? ⟨gb559, 0, none⟩ = some (.int .i64 t553) := (blk_cell BK559.out 0).trans rfl; have hcz81_1 : w80.cell? ⟨gb559, 1, none⟩ = some (.int .i64 t554) := (blk_cell BK559.out 1).trans rfl; have hcz81_2 : w80.cell? ⟨gb559, 2, none⟩ = some (.slice Ao14 t555.length co14) := (blk_cell BK559.out 2).trans rfl; have hfz81_0 := blk_frozen BK559.out 0; have hfz81_1 := blk_frozen BK559.out 1; have hfz81_2 := blk_frozen BK559.out 2) | ((with_reducible refine gate_callee (f := 24) rfl ?_); refine goesL_ (some 38) rfl rfl Tryd.func24 (by kernel_rfl) rfl #[.agg #[.int .i64 t553, .int .i64 t554, .slice Ao14 t562.length co14], .int .i64 1] rfl (by (try simp only [List.map_toArray, List.map_cons, List.map_nil]); first | done | (rw [show t562.length = t555.length from (Kd.R_reads' HO_560002.out).1.symm] <;> rfl) | rfl | (simp only [List.length_drop, List.length_take]; rfl)) ?_; (with_reducible refine (laws_heldPuzzle.calls kj4 t553 t554 _ _ t562 1 t563 _ ?side1 ?side2 A27.out).mono ?_); (case side1 => repeat (first | exact (Kd.R_reads' HO_560002.out).2.2 | (with_reducible refine Kd.C_alloc ?_ _) | (with_reducible refine Kd.C_drewN ?_ _) | (with_reducible refine Kd.C_drew ?_))); (case side2 => rw [show t562.length = t555.length from (Kd.R_reads' HO_560002.out).1.symm]; exact (Kd.R_reads' HO_560002.out).2.1); rintro e w82 ⟨rfl, hb⟩; refine ⟨_, rfl, ?_⟩; have n0_ := amk (Kd.R_below (by (with_reducible repeat (first | apply Kd.R_alloc | apply Kd.R_drewN | apply Kd.R_drew)); exact HO_553002.out) hb); have n1_ := amk (Kd.R_below (by (with_reducible repeat (first | apply Kd.R_alloc | apply Kd.R_drewN | apply Kd.R_drew)); exact HO_560002.out) hb); have n2_ := amk (blk_below (g := gb552) (o := .cells #[.int .i64 t546, .int .i64 t547, .slice Ao9 t548.length co9] 42 (0, 0)) (by (with_reducible repeat (first | refine kn_ ?_ _ | refine blk_drew ?_ | refine ka_ ?_ _)); exact BK552.out) hb); have n3_ := amk (blk_below (g := gb559) (o := .cells #[.int .i64 t553, .int .i64 t554, .slice Ao14 t555.length co14] 42 (0, 0)) (by (with_reducible repeat (first | refine kn_ ?_ _ | refine blk_drew ?_ | refine ka_ ?_ _)); exact BK559.out) hb); have n4_ := amk (bp_ (by repeat (first | (with_reducible first | exact HB.out | apply ba_ | apply bn_ | apply bd_ | refine bs_ ?_ GE552.out | refine bs_ ?_ GE559.out) | exact HB.out)) hb); clear HO_553002; clear HO_560002; clear BK552; clear BK559; clear HB; have HO_553002 := n0_; have HO_560002 := n1_; have BK552 := n2_; have BK559 := n3_; have HB := n4_; clear n0_ n1_ n2_ n3_ n4_; (try clear hb); (try clear hb2); (try clear hk); (try clear hi)))
              go_ret
              exact ⟨by first | rfl | (simp [errW_none, errW_some] <;> rfl) | (simp [*, errW_none, errW_some] <;> rfl), by repeat (first | (with_reducible first | exact HB.out | apply ba_ | apply bn_ | apply bd_ | refine bs_ ?_ GE552.out | refine bs_ ?_ GE559.out) | exact HB.out)⟩
/-! What a readable argument holds, told by kinds: the bridge from a statement's reading to the print's words. -/
def StrV (s : ByteArray) : Prop := s.size ≤ 9223372036854775807
section
variable {H : Type} {enc : TypeId × Value → H} {P : Program} {w : World} {base : Nat} {spare : Nat → Bool} {held : Bool} {r : Reach} {b0 : Nat} {t : TypeId} {v : Value} {x : DataW H} {p : List MemPlace}
theorem arg_string (ht : P.underlying t = some .string) (hv : Value.okWide P w r b0 t v) (h : DataW.Trod enc P w base spare held t v x p) : ∃ a, v = .string a ∧ StrV a := by
  obtain ⟨a, rfl, _, _, hw⟩ := ChangeMaps.open_string ht hv h
  unfold maxLen at hw
  exact ⟨a, rfl, hw⟩
theorem arg_lt (h : DataW.Trod enc P w base spare held t v x p) : ∀ y ∈ p, y.block < w.heap.size := by
  obtain ⟨m, hm⟩ := h
  exact DataW.trod_lt m _ _ _ hm
end
/-! Texts split at a byte: over lists of bytes. -/
def splL (c : UInt8) : List UInt8 → List (List UInt8)
  | [] => [[]]
  | b :: t => if b = c then [] :: splL c t else (b :: (splL c t).headD []) :: (splL c t).tail
theorem splL_no {c : UInt8} : ∀ {l : List UInt8}, (∀ b ∈ l, b ≠ c) → splL c l = [l]
  | [], _ => rfl
  | b :: t, h => by
    have ih := splL_no (l := t) (fun x hx => h x (List.mem_cons_of_mem _ hx))
    show (if b = c then [] :: splL c t else (b :: (splL c t).headD []) :: (splL c t).tail) = _
    rw [if_neg (h b List.mem_cons_self), ih]; rfl
theorem splL_app {c : UInt8} {t : List UInt8} : ∀ {l : List UInt8}, (∀ b ∈ l, b ≠ c) → splL c (l ++ c :: t) = l :: splL c t
  | [], _ => by
    show (if c = c then [] :: splL c t else (c :: (splL c t).headD []) :: (splL c t).tail) = _
    exact if_pos rfl
  | b :: l, h => by
    have ih := splL_app (t := t) (l := l) (fun x hx => h x (List.mem_cons_of_mem _ hx))
    show (if b = c then [] :: splL c (l ++ c :: t) else (b :: (splL c (l ++ c :: t)).headD []) :: (splL c (l ++ c :: t)).tail) = _
    rw [if_neg (h b List.mem_cons_self), ih]; rfl
theorem splL_join {c : UInt8} : ∀ (r : List (List UInt8)) (x : List UInt8), (∀ b ∈ x, b ≠ c) → (∀ y ∈ r, ∀ b ∈ y, b ≠ c) → splL c (Lib.join (x :: r) [c]) = x :: r
  | [], x, h, _ => by
    rw [Lib.join_one]; exact splL_no h
  | y :: r, x, h, h2 => by
    have ih := splL_join r y (h2 y List.mem_cons_self) (fun z hz => h2 z (List.mem_cons_of_mem _ hz))
    rw [Lib.join_cons] at ih ⊢
    have e : Lib.joinTail [c] (y :: r) = c :: (y ++ Lib.joinTail [c] r) := by simp [Lib.joinTail]
    rw [e, splL_app h, ih]
theorem index_one (c : UInt8) : ∀ (l : List UInt8), (Lib.index l [c] = -1 ∧ ∀ b ∈ l, b ≠ c) ∨ ∃ p t, l = p ++ c :: t ∧ (∀ b ∈ p, b ≠ c) ∧ Lib.index l [c] = (p.length : Int)
  | [] => .inl ⟨rfl, fun b hb => absurd hb (by simp)⟩
  | b :: l => by
    have e : Lib.index (b :: l) [c] = if ([c].isPrefixOf (b :: l)) = true then 0 else if (Lib.index l [c] == -1) = true then -1 else Lib.index l [c] + 1 := rfl
    have e2 : [c].isPrefixOf (b :: l) = (c == b) := by simp [List.isPrefixOf]
    rw [e, e2]
    by_cases hb : b = c
    · subst hb
      exact .inr ⟨[], l, rfl, fun x hx => absurd hx (by simp), by rw [if_pos (beq_self_eq_true b)]; rfl⟩
    · have hn : ¬ ((c == b) = true) := fun h => hb (beq_iff_eq.mp h).symm
      rw [if_neg hn]
      rcases index_one c l with ⟨h1, h2⟩ | ⟨p, t, h1, h2, h3⟩
      · refine .inl ⟨by rw [h1]; rfl, fun x hx => ?_⟩
        rcases List.mem_cons.mp hx with rfl | hx
        · exact hb
        · exact h2 x hx
      · refine .inr ⟨b :: p, t, by rw [h1]; rfl, fun x hx => ?_, ?_⟩
        · rcases List.mem_cons.mp hx with rfl | hx
          · exact hb
          · exact h2 x hx
        · rw [h3, if_neg (by intro h; have := beq_iff_eq.mp h; omega), List.length_cons]; omega
theorem cut_one {c : UInt8} {p t : List UInt8} (h : ∀ b ∈ p, b ≠ c) : Lib.cut (p ++ c :: t) [c] = (p, t, true) := by
  rcases index_one c (p ++ c :: t) with ⟨_, h2⟩ | ⟨p2, t2, h1, h2, h3⟩
  · exact absurd rfl (h2 c (by simp))
  · have hs := splL_app (t := t) h
    rw [h1, splL_app h2] at hs
    have hp : p2 = p := (List.cons.inj hs).1
    subst hp
    unfold Lib.cut
    rw [if_pos (by omega), h3, Int.toNat_natCast]
    simp
theorem splitB_spl {c : UInt8} {sep : ByteArray} (hsep : sep.data.toList = [c]) : ∀ (k : Nat) (s : ByteArray), Lib.countB s sep = k → (Lib.splitB sep 0 k s).map (·.data.toList) = splL c s.data.toList := by
  have hz : sep.size = 1 := by rw [Lib.size_eq, hsep]; rfl
  have hix : ∀ s : ByteArray, Lib.indexB s sep = Lib.index s.data.toList [c] := fun s => by rw [← hsep]
  intro k
  induction k with
  | zero =>
    intro s hk
    rw [Lib.splitB_zero]
    rcases index_one c s.data.toList with ⟨_, h2⟩ | ⟨p, t, _, _, h3⟩
    · rw [splL_no h2]; rfl
    · rw [Lib.countB_hit s sep p.length (by omega) ((hix s).trans h3)] at hk; omega
  | succ k ih =>
    intro s hk
    rcases index_one c s.data.toList with ⟨h1, _⟩ | ⟨p, t, h1, h2, h3⟩
    · rw [Lib.countB_miss s sep ((hix s).trans h1)] at hk; omega
    · rw [Lib.countB_hit s sep p.length (by omega) ((hix s).trans h3)] at hk
      rw [Lib.splitB_hit _ _ _ _ p.length ((hix s).trans h3), List.map_cons, ih _ (by omega), Lib.extract_from_zero, Lib.extract_to_end, hz, h1, splL_app h2]
      simp
/-! Plain laws on lists: filling one in place, reading. -/
theorem rdOf_at {α : Type} {d : α} {xs : List α} {i : Int} (h : i.toNat < xs.length) : rdOf d xs i = xs[i.toNat] := by unfold rdOf; simp [List.getD, h]
theorem getD_at {α : Type} {d : α} {xs : List α} {i : Nat} (h : i < xs.length) : xs.getD i d = xs[i] := by simp [List.getD, h]
theorem toNat_succ {i : Int} (h : 0 ≤ i) : (i + 1).toNat = i.toNat + 1 := by omega
/-! spec's functions on locks and clues: what they come to. -/
theorem spec_l1In.is (a b c : Int) : spec_l1In.f a b c = some (decide (b ≤ a ∧ a ≤ c)) := by
  unfold spec_l1In.f
  by_cases h : a ≥ b
  · rw [if_pos h]; have h' : b ≤ a := h; congr 1; simp [h']
  · rw [if_neg h]; have h' : ¬ b ≤ a := h; congr 1; simp [h']
theorem spec_whGood.is (w d : Int) : spec_whGood.f w d = some (lockB w d) := by
  unfold spec_whGood.f lockB
  simp only [spec_l1In.is, Option.bind_some]
  by_cases h : 1 ≤ w ∧ w ≤ 6 <;> simp [h]
theorem spec_whCount.lev (w d : Int) (h1 : 1 ≤ d) (h2 : d ≤ 10) (hn : w ≤ 6) : ∀ (j : Nat) (i : Int), 0 ≤ i → i ≤ w → i = j → Ev (fun k => spec_whCount.l0 k (d ^ (w - i).toNat) i w d) (d ^ w.toNat) := by
  intro j
  induction j with
  | zero =>
    intro i h0 hi hj
    obtain rfl : i = 0 := by omega
    exact Ev.step (fun k => rfl) (Ev.no (by omega) (Ev.id (by simp)))
  | succ j ih =>
    intro i h0 hi hj
    refine Ev.step (fun k => rfl) (Ev.yes (by omega) ?_)
    have hb := pow_bound h1 h2 (n := (w - i).toNat) (by omega)
    have hm : d ^ (w - i).toNat * d = d ^ (w - (i - 1)).toNat := by rw [show (w - (i - 1)).toNat = (w - i).toNat + 1 by omega, Int.pow_succ]
    have hb' := pow_bound h1 h2 (n := (w - (i - 1)).toNat) (by omega)
    rw [w64 (x := i - 1) (by omega) (by omega), hm, w64 (x := d ^ (w - (i - 1)).toNat) (by omega) (by omega)]
    exact ih (i - 1) (by omega) (by omega) (by omega)
theorem spec_whCount.ev {w d : Int} (h : lockB w d = true) : Ev (fun k => spec_whCount.f k w d) (d ^ w.toNat) := by
  obtain ⟨a, b, c, e⟩ := lockB_iff.mp h
  have := spec_whCount.lev w d (by omega) e b w.toNat w (by omega) (by omega) (by omega)
  unfold spec_whCount.f
  simpa using this
/-! spec's locks of hints: what they come to. -/
theorem spec_hiLock.ev (w d m : Int) : Ev (fun k => spec_hiLock.f k w d m) (smallB w d m) := by
  unfold spec_hiLock.f smallB
  refine Ev.bindc (spec_whGood.is w d) ?_
  cases h : lockB w d with
  | true => exact Ev.yes rfl (Ev.bind (spec_whCount.ev h) (Ev.id (by simp)))
  | false => exact Ev.no (by simp) (Ev.id (by simp))
/-! spec's clues: what they come to. -/
theorem spec_pzLock.ev (w d : Int) : Ev (fun k => spec_pzLock.f k w d) (smallB w d 125) := by
  unfold spec_pzLock.f
  exact Ev.bind (spec_hiLock.ev w d 125) (Ev.now _)
theorem spec_pzClue.ev (w d a b c : Int) (hl : lockB w d = true) : Ev (fun k => spec_pzClue.f k w d a b c) (clueB w d a b c) := by
  unfold spec_pzClue.f clueB
  obtain ⟨w1, w2, d1, d2⟩ := lockB_iff.mp hl
  have hc := count_bound hl
  simp only [spec_l1In.is, Option.bind_some, w64 (x := w - 1) (by omega) (by omega), w64 (x := d - 1) (by omega) (by omega)]
  refine Ev.both (fun e => ?_) (fun e => ?_)
  · rw [if_pos e]
    exact Ev.both (fun h => Ev.id (by simp [of_decide_eq_true h])) (fun h => Ev.id (by have := decide_eq_false_iff_not.mp (Bool.eq_false_iff.mpr h); simp [this]))
  rw [if_neg e]
  refine Ev.both (fun e => ?_) (fun e => ?_)
  · rw [if_pos e]
    exact Ev.both (fun h => Ev.id (by simp [of_decide_eq_true h])) (fun h => Ev.id (by have := decide_eq_false_iff_not.mp (Bool.eq_false_iff.mpr h); simp [this]))
  rw [if_neg e]
  refine Ev.both (fun e => ?_) (fun e => ?_)
  · rw [if_pos e]
    refine Ev.bind (spec_whCount.ev hl) ?_
    rw [w64 (x := d ^ w.toNat - 1) (by omega) (by omega)]
    exact Ev.both (fun h => Ev.id (by simp [of_decide_eq_true h])) (fun h => Ev.id (by have := decide_eq_false_iff_not.mp (Bool.eq_false_iff.mpr h); simp [this]))
  rw [if_neg e]
  refine Ev.both (fun e => ?_) (fun e => ?_)
  · rw [if_pos e]
    refine Ev.bind (spec_whCount.ev hl) ?_
    rw [w64 (x := d ^ w.toNat - 1) (by omega) (by omega)]
    exact Ev.both (fun h => Ev.id (by simp [of_decide_eq_true h])) (fun h => Ev.id (by have := decide_eq_false_iff_not.mp (Bool.eq_false_iff.mpr h); simp [this]))
  rw [if_neg e]
  refine Ev.both (fun e => ?_) (fun e => ?_)
  · rw [if_pos e]
    refine Ev.both (fun h => ?_) (fun h => Ev.id (by have := decide_eq_false_iff_not.mp (Bool.eq_false_iff.mpr h); simp [this]))
    have h' := of_decide_eq_true h
    rw [w64 (x := b - 1) (by omega) (by omega)]
    exact Ev.id (by simp [h'])
  rw [if_neg e]
  exact Ev.id (by simp)
/-! ### laws_szClueS: function 32 -/
/-! ### laws_szPuzzle: function 12 -/
/-! ### laws_toClue: function 68 -/
/-! ### laws_toClueS: function 36 -/
/-! ### laws_toLock: function 35 -/
/-! ### laws_toPuzzle: function 14 -/
/-! The statements' own helpers on clues and puzzles: what they come to. -/
theorem rd_clue {xs : List S77} {i : Int} (h : i.toNat < xs.length) : rd_T77 xs i = xs[i.toNat] := by unfold rd_T77; exact getD_at h
theorem laws_eqClueS.lev (l : List S77) (hl : l.length ≤ 9223372036854775807) : ∀ (j : Nat) (i : Int), 0 ≤ i → i ≤ l.length → (l.length : Int) - i = j → Ev (fun k => laws_eqClueS.l0 k l l i) true := by
  intro j
  induction j with
  | zero =>
    intro i h0 hi hj
    exact Ev.step (fun k => rfl) (Ev.no (by omega) (Ev.now _))
  | succ j ih =>
    intro i h0 hi hj
    refine Ev.step (fun k => rfl) (Ev.yes (by omega) (Ev.yes h0 (Ev.yes (by omega) ?_)))
    simp only [laws_eqClue.f, if_true, Option.bind_some]
    rw [w64 (x := i + 1) (by omega) (by omega)]
    exact ih (i + 1) (by omega) (by omega) (by omega)
theorem laws_eqClueS.ev (l : List S77) (hl : l.length ≤ 9223372036854775807) : Ev (fun k => laws_eqClueS.f k l l) true := by
  unfold laws_eqClueS.f
  exact Ev.yes rfl (laws_eqClueS.lev l hl l.length 0 (by omega) (by omega) (by omega))
theorem laws_eqPuzzle.ev (w d : Int) (l : List S77) (hl : l.length ≤ 9223372036854775807) : Ev (fun k => laws_eqPuzzle.f k w d l w d l) true := by
  unfold laws_eqPuzzle.f
  simp only [laws_eqLock.f, if_true, Option.bind_some]
  exact Ev.bind (laws_eqClueS.ev l hl) (Ev.yes rfl (Ev.now _))
/-! spec's puzzles: what they come to. -/
theorem spec_pzGood.lev (w d : Int) (hl : lockB w d = true) (l : List S77) (hn : l.length ≤ 9223372036854775807) : ∀ (j : Nat) (i : Int), 0 ≤ i → i ≤ l.length → (l.length : Int) - i = j →
    Ev (fun k => spec_pzGood.l0 k l (l.length : Int) i w d l) ((l.drop i.toNat).all fun c => clueB w d c.f0 c.f1 c.f2) := by
  intro j
  induction j with
  | zero =>
    intro i h0 hi hj
    refine Ev.step (fun k => rfl) (Ev.no (by omega) (Ev.id ?_))
    rw [List.drop_eq_nil_of_le (by omega)]; rfl
  | succ j ih =>
    intro i h0 hi hj
    have hlt : i.toNat < l.length := by omega
    refine Ev.step (fun k => rfl) (Ev.yes (by omega) (Ev.yes h0 (Ev.yes (by omega) ?_)))
    refine Ev.bind (spec_pzClue.ev w d _ _ _ hl) ?_
    rw [List.drop_eq_getElem_cons hlt, List.all_cons, ← rd_clue hlt]
    cases clueB w d (rd_T77 l i).f0 (rd_T77 l i).f1 (rd_T77 l i).f2 with
    | false => exact Ev.no (by simp) (Ev.id (by simp))
    | true =>
      refine Ev.yes rfl ?_
      rw [w64 (x := i + 1) (by omega) (by omega), Bool.true_and, ← toNat_succ h0]
      exact ih (i + 1) (by omega) (by omega) (by omega)
theorem spec_pzGood.ev (w d : Int) (l : List S77) (hn : l.length ≤ 9223372036854775807) : Ev (fun k => spec_pzGood.f k w d l) (puzzleB w d l) := by
  unfold spec_pzGood.f puzzleB
  refine Ev.bind (spec_pzLock.ev w d) ?_
  cases h : smallB w d 125 with
  | false =>
    refine Ev.no (by simp) (Ev.step (fun k => rfl) ?_)
    simp only [spec_pzGood.j0]
    exact Ev.id (by simp)
  | true =>
    refine Ev.yes rfl (Ev.step (fun k => rfl) ?_)
    simp only [spec_pzGood.j0]
    by_cases h6 : l.length ≤ 6
    · refine Ev.no (by simp; omega) ?_
      have := spec_pzGood.lev w d (smallB_lock h) l hn l.length 0 (by omega) (by omega) (by omega)
      simpa [h6] using this
    · exact Ev.yes (by simp; omega) (Ev.id (by simp [h6]))
/-! Marks on clues, and that they are held. -/
theorem laws_markClueS.lev : ∀ (j : Nat) (l : List S77) (a i : Int), 0 ≤ i → i ≤ l.length → (l.length : Int) - i = j → l.length ≤ 9223372036854775807 → 0 ≤ a → a + 3 * j ≤ 4611686018427387904 →
    ∃ l' : List S77, l'.length = l.length ∧ (∀ m : Nat, (m : Int) < i → l'[m]? = l[m]?) ∧ Ev (fun k => laws_markClueS.l0 k l a i) (a + 3 * j, l') ∧ Ev (fun k => laws_heldClueS.l0 k l' a i) (a + 3 * j) := by
  intro j
  induction j with
  | zero =>
    intro l a i h0 hi hj hn ha hb
    exact ⟨l, rfl, fun _ _ => rfl, Ev.step (fun k => rfl) (Ev.no (by omega) (Ev.id (by simp))), Ev.step (fun k => rfl) (Ev.no (by omega) (Ev.id (by simp)))⟩
  | succ j ih =>
    intro l a i h0 hi hj hn ha hb
    have hlt : i.toNat < l.length := by omega
    have e1 : wrap64 (a + 1) = a + 1 := w64 (by omega) (by omega)
    have e2 : wrap64 (a + 1 + 1) = a + 2 := by rw [w64 (by omega) (by omega)]; omega
    have e3 : wrap64 (a + 2 + 1) = a + 3 := by rw [w64 (by omega) (by omega)]; omega
    have e4 : wrap64 (i + 1) = i + 1 := w64 (by omega) (by omega)
    obtain ⟨l', hl, hk, hm, hh⟩ := ih (l.set i.toNat ⟨a, a + 1, a + 2⟩) (a + 3) (i + 1) (by omega) (by simp; omega) (by simp; omega) (by simpa using hn) (by omega) (by omega)
    rw [List.length_set] at hl
    have hat : l'[i.toNat]? = some ⟨a, a + 1, a + 2⟩ := by
      rw [hk i.toNat (by omega)]
      simp [hlt]
    have hat' : rd_T77 l' i = ⟨a, a + 1, a + 2⟩ := by
      unfold rd_T77
      simp [List.getD, hat]
    refine ⟨l', hl, fun m hmi => ?_, ?_, ?_⟩
    · rw [hk m (by omega), List.getElem?_set_ne (by omega)]
    · refine Ev.step (fun k => rfl) (Ev.yes (by omega) (Ev.yes h0 ?_))
      simp only [Option.bind_some, e1, e2, e3, e4]
      have r1 : ∀ x : S77, rd_T77 (l.set i.toNat x) i = x := fun x => by rw [rd_clue (by simpa using hlt)]; simp
      simp only [r1, List.set_set]
      exact Ev.eq hm (by rw [Prod.mk.injEq]; exact ⟨by omega, rfl⟩)
    · refine Ev.step (fun k => rfl) (Ev.yes (by omega) (Ev.yes h0 ?_))
      simp only [e1, e2, e3, e4, hat']
      exact Ev.yes trivial (Ev.yes trivial (Ev.yes trivial (Ev.eq hh (by omega))))
theorem laws_markPuzzle.ev (w d : Int) (l : List S77) (a : Int) (ha : 0 ≤ a) (hb : a + 3 * l.length ≤ 4611686018427387904) :
    ∃ l' : List S77, Ev (fun k => laws_markPuzzle.f k w d l a) (a + 3 * l.length, l') ∧ Ev (fun k => laws_heldPuzzle.f k w d l' a) (a + 3 * l.length) := by
  obtain ⟨l', _, _, hm, hh⟩ := laws_markClueS.lev l.length l a 0 (by omega) (by omega) (by omega) (by omega) ha hb
  refine ⟨l', ?_, ?_⟩
  · unfold laws_markPuzzle.f laws_markClueS.f
    exact Ev.bind hm (Ev.now _)
  · unfold laws_heldPuzzle.f laws_heldClueS.f
    exact Ev.bind hh (Ev.no (by omega) (Ev.now _))
/-! Numbers told by digits. -/
def textB (l : List Int) : ByteArray := strOfNums (l.map fun x => wrap64 (48 + x) % 256)
/-! The places and the digits that two codes share. -/
/-! Codes of a lock as texts, their digits, what clues tell of them. -/
theorem bt_textB {D : List Int} (h : ∀ x ∈ D, 0 ≤ x ∧ x < 10) {i : Nat} (hi : i < D.length) : bt (textB D) (i : Nat) = 48 + D[i] := by
  have hx := h D[i] (List.getElem_mem hi)
  have hs : (textB D).size = D.length := by unfold textB; rw [strOfNums_size, List.length_map]
  unfold bt
  rw [dif_pos (by rw [hs]; simpa using hi)]
  have e1 : ((textB D)[(i : Int).toNat]'(by rw [hs]; simpa using hi)) = UInt8.ofNat (wrap64 (48 + D[i]) % 256).toNat := by
    show (textB D).data[(i : Int).toNat]'_ = _
    have : (textB D).data = ((D.map fun x => wrap64 (48 + x) % 256).map fun n => UInt8.ofNat n.toNat).toArray := rfl
    simp [this]
  rw [e1, w64 (by omega) (by omega)]
  simp
  omega
/-! Joined texts, as Lean's lists tell them. -/
theorem joinB_nil (s : ByteArray) : joinB [] s = ⟨#[]⟩ := by unfold joinB; rfl
theorem joinB_one (x s : ByteArray) : joinB [x] s = x := by
  apply ByteArray.ext
  unfold joinB
  simp [Lib.join_one]
theorem joinTail_snoc (sep : List UInt8) (r : List (List UInt8)) (x : List UInt8) : Lib.joinTail sep (r ++ [x]) = Lib.joinTail sep r ++ (sep ++ x) := by
  simp [Lib.joinTail]
theorem joinB_snoc (l : List ByteArray) (x s : ByteArray) (h : l ≠ []) : joinB (l ++ [x]) s = joinB l s ++ s ++ x := by
  cases l with
  | nil => exact absurd rfl h
  | cons y r =>
    apply ByteArray.ext
    unfold joinB
    simp only [List.cons_append, List.map_cons, List.map_append, List.map_nil, Lib.join_cons, joinTail_snoc, ByteArray.data_append]
    apply Array.ext'
    simp [List.append_assoc]
theorem lens_le (m : Nat) : ∀ (r : List ByteArray), (∀ x ∈ r, x.size ≤ m) → Lib.lens (r.map (·.data.toList)) ≤ m * r.length
  | [], _ => by simp [Lib.lens]
  | y :: r, h => by
    have := lens_le m r (fun x hx => h x (List.mem_cons_of_mem _ hx))
    have h1 := h y List.mem_cons_self
    have h2 : y.data.toList.length = y.size := Array.length_toList
    unfold Lib.lens at this ⊢
    rw [List.map_cons, List.map_cons, List.sum_cons, h2, List.length_cons, Nat.mul_succ]
    omega
theorem joinB_size (m : Nat) (s : ByteArray) (l : List ByteArray) (h : ∀ x ∈ l, x.size ≤ m) : (joinB l s).size ≤ (m + s.size) * l.length := by
  cases l with
  | nil => rw [joinB_nil]; exact Nat.zero_le _
  | cons y r =>
    have h1 := h y List.mem_cons_self
    have h3 := lens_le m r (fun x hx => h x (List.mem_cons_of_mem _ hx))
    have e : (joinB (y :: r) s).size = y.size + (s.size * r.length + Lib.lens (r.map (·.data.toList))) := by
      have e2 : (joinB (y :: r) s).size = (Lib.join ((y :: r).map (·.data.toList)) s.data.toList).length := List.size_toArray
      have e3 : s.data.toList.length = s.size := Array.length_toList
      have e4 : y.data.toList.length = y.size := Array.length_toList
      rw [e2, List.map_cons, Lib.join_cons, List.length_append, Lib.joinTail_length, List.length_map, e3, e4]
    rw [e, List.length_cons, Nat.add_mul, Nat.mul_succ, Nat.mul_succ]
    omega
theorem decB_one {n : Int} (h0 : 0 ≤ n) (h : n < 10) : decB n = strOfNums [wrap64 (48 + n) % 256] := by
  obtain ⟨n, rfl⟩ := Int.eq_ofNat_of_zero_le h0
  have h2 : n < 10 := by omega
  unfold decB
  rw [Int.toNat_natCast]
  unfold Lib.decDigits
  rw [dif_pos h2]
  have key : ∀ m : Fin 10, ([UInt8.ofNat (48 + m.val)] : List UInt8) = (strOfNums [wrap64 (48 + (m.val : Int)) % 256]).data.toList := by decide +kernel
  have := key ⟨n, h2⟩
  apply ByteArray.ext
  rw [this]
/-! Texts of digits: their sizes. -/
theorem strOfNums_app (a b : List Int) : strOfNums (a ++ b) = strOfNums a ++ strOfNums b := by
  apply ByteArray.ext
  simp [strOfNums, ByteArray.data_append]
theorem textB_app (a : List Int) (x : Int) : textB (a ++ [x]) = textB a ++ strOfNums [wrap64 (48 + x) % 256] := by
  unfold textB; rw [List.map_append, strOfNums_app]; rfl
theorem textB_size (l : List Int) : (textB l).size = l.length := by unfold textB; rw [strOfNums_size, List.length_map]
/-! Pins: which rows of numbers are some. -/
def risF (n : Int) : Int → List Int → Bool
  | _, [] => true
  | q, x :: l => decide (q < x) && decide (x ≤ n - 1) && risF n x l
def rowB (n : Int) (l : List Int) : Bool := !l.isEmpty && risF n (-1) l
def pinsB (n : Int) (l : List (List Int)) : Bool := decide (1 ≤ n ∧ n ≤ 9) && decide (1 ≤ (l.length : Int) ∧ (l.length : Int) ≤ 7) && l.all (rowB n)
theorem pinsB_parts {n : Int} {l : List (List Int)} (h : pinsB n l = true) : (1 ≤ n ∧ n ≤ 9) ∧ (1 ≤ l.length ∧ l.length ≤ 7) ∧ ∀ x ∈ l, rowB n x = true := by
  unfold pinsB at h
  rw [Bool.and_eq_true, Bool.and_eq_true, decide_eq_true_eq, decide_eq_true_eq, List.all_eq_true] at h
  exact ⟨h.1.1, ⟨by omega, by omega⟩, h.2⟩
theorem risF_mem {n : Int} : ∀ {l : List Int} {q : Int}, risF n q l = true → ∀ x ∈ l, q < x ∧ x ≤ n - 1 := by
  intro l
  induction l with
  | nil => intro q _ x hx; simp at hx
  | cons a l ih =>
    intro q h x hx
    unfold risF at h
    rw [Bool.and_eq_true, Bool.and_eq_true, decide_eq_true_eq, decide_eq_true_eq] at h
    rcases List.mem_cons.mp hx with rfl | hm
    · exact ⟨h.1.1, h.1.2⟩
    · have := ih h.2 x hm
      omega
theorem rowB_mem {n : Int} {l : List Int} (h : rowB n l = true) : ∀ x ∈ l, 0 ≤ x ∧ x ≤ n - 1 := by
  unfold rowB at h
  rw [Bool.and_eq_true] at h
  intro x hx
  have := risF_mem h.2 x hx
  omega
theorem risF_len {n : Int} : ∀ {l : List Int} {q : Int}, q ≤ n - 1 → risF n q l = true → (l.length : Int) ≤ n - 1 - q := by
  intro l
  induction l with
  | nil => intro q hq _; simp; omega
  | cons a l ih =>
    intro q hq h
    unfold risF at h
    rw [Bool.and_eq_true, Bool.and_eq_true, decide_eq_true_eq, decide_eq_true_eq] at h
    have := ih (q := a) (by omega) h.2
    simp only [List.length_cons]
    omega
theorem rowB_len {n : Int} {l : List Int} (hn : 0 ≤ n) (h : rowB n l = true) : 1 ≤ l.length ∧ (l.length : Int) ≤ n := by
  unfold rowB at h
  rw [Bool.and_eq_true] at h
  have := risF_len (q := -1) (by omega) h.2
  refine ⟨?_, by omega⟩
  cases l with
  | nil => simp at h
  | cons a l => simp
/-! ### impl_areDepths: function 61 -/
/-! impl's areDepths and spec's l1Rising: what they come to. -/
theorem spec_l1In.bs (a b c : Int) : spec_l1In.f a b c = some (decide (b ≤ a ∧ a ≤ c)) := by
  unfold spec_l1In.f
  by_cases h : b ≤ a
  · rw [if_pos h]; simp [h]
  · rw [if_neg h]; simp [h]
/-! spec's numbers of one digit. -/
theorem spec_l1Num.one {x : Int} (h : x < 10) : Ev (fun k => spec_l1Num.f k x) (strOfNums [wrap64 (48 + x) % 256]) :=
  Ev.step (fun k => rfl) (Ev.yes h (Ev.now _))
/-! spec's numbers of up to three digits. -/
theorem decB_step {n : Nat} (h : 10 ≤ n) : decB (n : Int) = decB ((n / 10 : Nat) : Int) ++ strOfNums [wrap64 (48 + ((n % 10 : Nat) : Int)) % 256] := by
  rw [← decB_one (n := ((n % 10 : Nat) : Int)) (by omega) (by omega)]
  unfold decB
  rw [Int.toNat_natCast, Int.toNat_natCast, Int.toNat_natCast]
  rw [Lib.decDigits, dif_neg (by omega)]
  have e : Lib.decDigits (n % 10) = [UInt8.ofNat (48 + n % 10)] := by rw [Lib.decDigits, dif_pos (by omega)]
  rw [e]
  apply ByteArray.ext
  simp only [ByteArray.data_append]
  apply Array.ext'
  simp
theorem decB_size1 {n : Nat} (h : n < 10) : (decB (n : Int)).size = 1 := by
  rw [decB_one (by omega) (by omega), strOfNums_size]; rfl
theorem decB_size2 {n : Nat} (h : n < 100) : (decB (n : Int)).size ≤ 2 := by
  by_cases h1 : n < 10
  · rw [decB_size1 h1]; omega
  · rw [decB_step (by omega), ByteArray.size_append, decB_size1 (by omega), strOfNums_size]; simp
theorem decB_size3 {n : Nat} (h : n < 1000) : (decB (n : Int)).size ≤ 3 := by
  by_cases h1 : n < 10
  · rw [decB_size1 h1]; omega
  · have := decB_size2 (n := n / 10) (by omega)
    rw [decB_step (by omega), ByteArray.size_append, strOfNums_size]
    simp only [List.length_cons, List.length_nil]
    omega
theorem decB_size {n : Int} (h0 : 0 ≤ n) (h : n < 1000) : (decB n).size ≤ 3 := by
  obtain ⟨n, rfl⟩ := Int.eq_ofNat_of_zero_le h0
  exact decB_size3 (by omega)
theorem spec_l1Num.lev : ∀ (m n : Nat), n < 10 ^ (m + 1) → n < 1000 → Ev (fun k => spec_l1Num.f k (n : Int)) (decB (n : Int)) := by
  intro m
  induction m with
  | zero =>
    intro n h _
    rw [decB_one (by omega) (by omega)]
    exact spec_l1Num.one (by omega)
  | succ m ih =>
    intro n h h3
    by_cases h1 : n < 10
    · rw [decB_one (by omega) (by omega)]
      exact spec_l1Num.one (by omega)
    · have hd : n / 10 < 10 ^ (m + 1) := by
        rw [Nat.pow_succ] at h
        omega
      have hgo := ih (n / 10) hd (by omega)
      have e1 : wrap64 (Int.tdiv (n : Int) 10) = ((n / 10 : Nat) : Int) := by
        rw [Int.tdiv_eq_ediv_of_nonneg (by omega)]
        rw [w64 (by omega) (by omega)]
        omega
      have e2 : Int.tmod (n : Int) 10 = ((n % 10 : Nat) : Int) := by
        rw [Int.tmod_eq_emod_of_nonneg (by omega)]
        omega
      have hs := decB_size3 (n := n / 10) (by omega)
      refine Ev.step (fun k => rfl) (Ev.no (by omega) ?_)
      rw [e1, e2]
      refine Ev.bind hgo (Ev.bindc rfl (Ev.yes ?_ (Ev.id ?_)))
      · rw [strOfNums_size]; simp only [List.length_cons, List.length_nil]; omega
      · rw [← decB_step (by omega)]
theorem spec_l1Num.ev {n : Int} (h0 : 0 ≤ n) (h : n < 1000) : Ev (fun k => spec_l1Num.f k n) (decB n) := by
  obtain ⟨n, rfl⟩ := Int.eq_ofNat_of_zero_le h0
  exact spec_l1Num.lev 2 n (by omega) (by omega)
/-! Declarations moved out of EHelpPins. -/
def RowsV (x : List (List Int)) : Prop := x.length ≤ 9223372036854775807 ∧ ∀ r ∈ x, r.length ≤ 9223372036854775807
/-! Declarations moved out of LFnExactAllKeys. -/
/-! Declarations moved out of EDead. -/
/-! ### laws_eqIntS: function 65 -/
/-! ### laws_eqIntSS: function 31 -/
/-! ### laws_eqPins: function 11 -/
/-! ### laws_szIntS: function 52 -/
/-! ### laws_szIntSS: function 25 -/
/-! ### laws_szPins: function 7 -/
/-! ### laws_toIntS: function 57 -/
/-! ### laws_toIntSS: function 28 -/
/-! ### laws_toPins: function 9 -/
/-! The statements' own helpers on rows and pins: what they come to. -/
/-- No longer than a million. -/
def RowsM (x : List (List Int)) : Prop := x.length ≤ 1048576 ∧ ∀ r ∈ x, r.length ≤ 1048576
theorem RowsM.v {x : List (List Int)} (h : RowsM x) : RowsV x := ⟨by have := h.1; omega, fun r hr => by have := h.2 r hr; omega⟩
/-! ### laws_heldIntS: function 83 -/
/-! ### laws_markIntS: function 82 -/
/-! Marks on numbers, that they are held, lists of numbers compared. -/
/-! ### laws_heldIntSS: function 47 -/
/-! ### laws_heldPins: function 20 -/
/-! laws.markIntSS, by hand: each row is lent, written, and given back. -/
/-! laws.markPins, by hand. -/
/-! Marks on rows of numbers: what is marked is held. -/
/-! ### spec_l1Rising: function 54 -/
/-! ### spec_keGood: function 26 -/
/-! spec's pins: what they come to. -/
/-! ### impl_digits: function 45 -/
/-! ### spec_whDigits: function 77 -/
/-! spec's split at a byte; digits of any text: what they come to. -/
theorem bytes_eq {a : ByteArray} {l : List UInt8} (h : a.data.toList = l) : a = bytesOf l := by
  apply ByteArray.ext
  apply Array.ext'
  unfold bytesOf
  rw [h]
theorem bytesOf_data (l : List UInt8) : (bytesOf l).data.toList = l := by unfold bytesOf; simp
theorem bytesOf_size (l : List UInt8) : (bytesOf l).size = l.length := by rw [Lib.size_eq, bytesOf_data]
theorem bt_list {s : ByteArray} {i : Nat} (h : i < s.data.toList.length) : bt s (i : Nat) = ((s.data.toList[i]'h).toNat : Int) := by
  have h2 : i < s.size := by rw [Lib.size_eq]; exact h
  rw [← bt_at s (i : Nat) (by simpa using h2)]
  rfl
theorem spec_l1Split.lev (c : UInt8) (s : ByteArray) (hs : s.size ≤ 1048576) : ∀ (m from_ i : Nat) (acc : List ByteArray), i + m = s.size → from_ ≤ i → (∀ b ∈ (s.data.toList.drop from_).take (i - from_), b ≠ c) → acc.length ≤ from_ → Ev (fun k => spec_l1Split.l0 k s (c.toNat : Int) acc (from_ : Nat) (i : Nat)) (acc ++ (splL c (s.data.toList.drop from_)).map bytesOf) := by
  have hz := Lib.size_eq s
  intro m
  induction m with
  | zero =>
    intro from_ i acc hi hf hb ha
    rw [List.take_of_length_le (by rw [List.length_drop]; omega)] at hb
    refine Ev.step (fun k => rfl) (Ev.no (by omega) (Ev.yes (by omega) (Ev.yes (by omega) (Ev.yes (by omega) (Ev.id ?_)))))
    rw [splL_no hb, Int.toNat_natCast, bytes_eq (Lib.extract_to_end s from_)]; rfl
  | succ m ih =>
    intro from_ i acc hi hf hb ha
    have hlt : i < s.data.toList.length := by omega
    have e : wrap64 ((i : Int) + 1) = ((i + 1 : Nat) : Int) := w64 (by omega) (by omega)
    have hd : (s.data.toList.drop from_) = (s.data.toList.drop from_).take (i - from_) ++ s.data.toList[i] :: s.data.toList.drop (i + 1) := by
      rw [← List.drop_eq_getElem_cons hlt]
      have h1 : s.data.toList.drop i = (s.data.toList.drop from_).drop (i - from_) := by rw [List.drop_drop]; congr 1; omega
      rw [h1, List.take_append_drop]
    refine Ev.step (fun k => rfl) (Ev.yes (by omega) (Ev.yes (by omega) ?_))
    rw [bt_list hlt, e]
    by_cases h : s.data.toList[i] = c
    · refine Ev.yes (by rw [h]) (Ev.yes (by omega) (Ev.yes (by omega) (Ev.yes (by omega) (Ev.yes (by omega) ?_))))
      have hgo := ih (i + 1) (i + 1) (acc ++ [s.extract from_ i]) (by omega) (by omega) (by rw [Nat.sub_self, List.take_zero]; intro b hb; cases hb) (by rw [List.length_append, List.length_singleton]; omega)
      rw [Int.toNat_natCast, Int.toNat_natCast]
      refine Ev.eq hgo ?_
      rw [hd, h, splL_app hb, List.map_cons, bytes_eq (Lib.extract_data s from_ i), List.append_assoc]; rfl
    · refine Ev.no (fun h2 => h (UInt8.toNat_inj.mp (by omega))) ?_
      refine ih from_ (i + 1) acc (by omega) (by omega) ?_ ha
      intro b hb2
      rw [show i + 1 - from_ = (i - from_) + 1 by omega, List.take_succ_eq_append_getElem (by rw [List.length_drop]; omega)] at hb2
      rcases List.mem_append.mp hb2 with h3 | h3
      · exact hb b h3
      · rw [List.mem_singleton.mp h3, List.getElem_drop]
        have e2 : from_ + (i - from_) = i := by omega
        simp only [e2]
        exact h
theorem spec_l1Split.ev (c : UInt8) (s : ByteArray) (hs : s.size ≤ 1048576) : Ev (fun k => spec_l1Split.f k s (c.toNat : Int)) ((splL c s.data.toList).map bytesOf) := by
  unfold spec_l1Split.f
  have := spec_l1Split.lev c s hs s.size 0 0 [] (by omega) (by omega) (by rw [Nat.sub_self, List.take_zero]; intro b hb; cases hb) (by simp)
  rw [List.nil_append, List.drop_zero] at this
  exact this
/-! ### impl_text: function 62 -/
/-! ### impl_pinsText: function 30 -/
/-! slices.IndexFunc and slices.ContainsFunc at rows of numbers, under any predicate that makes nothing but new memory. -/
/-! impl.within and spec.l1In, by hand: the world stays. -/
/-! impl.ArePins, by hand: it asks its rows through slices.ContainsFunc and a closure. -/
/-! ### impl_ParsePins: function 18 -/
/-! ### spec_whText: function 56 -/
/-! ### spec_keText: function 27 -/
/-! ### spec_keParse: function 41 -/
/-! Digits of texts, texts of digits: what they come to. -/
/-! Declarations moved out of ETexts. -/
/-! ### impl_PinsText: function 10 -/
/-! ### spec_PinsText: function 8 -/
/-! ### laws_FnExactPinsText: function 3 -/

/-! PinsText: the pins' text; and that the program's and the reference's are one. -/
def pinsT (n : Int) (L : List (List Int)) : ByteArray := decB n ++ ⟨#[61]⟩ ++ joinB (L.map textB) ⟨#[44]⟩
def TxtRow (r : List Int) : Prop := r.length ≤ 9 ∧ ∀ x ∈ r, 0 ≤ x ∧ x < 10
theorem pinsB_txt {n : Int} {L : List (List Int)} (h : pinsB n L = true) : ∀ r ∈ L, TxtRow r := by
  obtain ⟨h1, h2, h3⟩ := pinsB_parts h
  intro r hr
  have h4 := rowB_len (by omega) (h3 r hr)
  refine ⟨by omega, fun x hx => ?_⟩
  have := rowB_mem (h3 r hr) x hx
  omega
theorem txt_joined (L : List (List Int)) (h : ∀ r ∈ L, TxtRow r) (s : ByteArray) (hs : s.size = 1) : (joinB (L.map textB) s).size ≤ 10 * L.length := by
  have := joinB_size 9 s (L.map textB) (fun x hx => by
    obtain ⟨r, hr, rfl⟩ := List.mem_map.mp hx
    rw [textB_size]; exact (h r hr).1)
  rw [hs, List.length_map] at this
  exact this
/-! ParsePins: what the program's and the reference's come to. -/
theorem bl_eq {a b : ByteArray} : a.toList = b.toList ↔ a = b := by
  constructor
  · intro h
    rw [ByteArray.toList_eq, ByteArray.toList_eq] at h
    exact ByteArray.ext (Array.toList_inj.mp h)
  · intro h; rw [h]
theorem splL_len (c : UInt8) : ∀ l : List UInt8, splL c l ≠ [] ∧ (splL c l).length ≤ l.length + 1 ∧ ∀ x ∈ splL c l, x.length ≤ l.length
  | [] => ⟨by unfold splL; simp, by unfold splL; simp, fun x hx => by unfold splL at hx; rw [List.mem_singleton.mp hx]; simp⟩
  | b :: t => by
    obtain ⟨h1, h2, h3⟩ := splL_len c t
    have e : splL c (b :: t) = if b = c then [] :: splL c t else (b :: (splL c t).headD []) :: (splL c t).tail := rfl
    rw [e]
    by_cases h : b = c
    · rw [if_pos h]
      refine ⟨by simp, by simp; omega, fun x hx => ?_⟩
      rcases List.mem_cons.mp hx with rfl | hx
      · simp
      · have := h3 x hx; simp; omega
    · rw [if_neg h]
      cases hc : splL c t with
      | nil => exact absurd hc h1
      | cons y r =>
        rw [hc] at h2 h3
        refine ⟨by simp, by simp at h2 ⊢; omega, fun x hx => ?_⟩
        rcases List.mem_cons.mp hx with rfl | hx
        · have := h3 y List.mem_cons_self; simp; omega
        · have := h3 x (List.mem_cons_of_mem _ hx); simp; omega
theorem rdOf_nat {α : Type} {d : α} {xs : List α} {i : Nat} (h : i < xs.length) : rdOf d xs (i : Nat) = xs[i] := by
  rw [rdOf_at (by simpa using h)]; simp
theorem spec_l1Read.lev (s : ByteArray) (hs : s.size ≤ 1048576) : ∀ (m i : Nat) (x : Int), i + m = s.size → ∃ v, Ev (fun k => spec_l1Read.l0 k s x (i : Nat)) v := by
  intro m
  induction m with
  | zero =>
    intro i x hi
    exact ⟨x, Ev.step (fun k => rfl) (Ev.no (by omega) (Ev.now _))⟩
  | succ m ih =>
    intro i x hi
    obtain ⟨v, hv⟩ := ih (i + 1) (wrap64 ((wrap64 (10 * x)) + (((bt s (i : Nat)) - 48) % 256))) (by omega)
    by_cases h1 : bt s (i : Nat) < 48
    · exact ⟨-1, Ev.step (fun k => rfl) (Ev.yes (by omega) (Ev.yes (by omega) (Ev.yes h1 (Ev.now _))))⟩
    · by_cases h2 : bt s (i : Nat) > 57
      · exact ⟨-1, Ev.step (fun k => rfl) (Ev.yes (by omega) (Ev.yes (by omega) (Ev.no h1 (Ev.yes h2 (Ev.now _)))))⟩
      · refine ⟨v, Ev.step (fun k => rfl) (Ev.yes (by omega) (Ev.yes (by omega) (Ev.no h1 (Ev.no h2 ?_))))⟩
        rw [show wrap64 ((i : Int) + 1) = ((i + 1 : Nat) : Int) from w64 (by omega) (by omega)]
        exact hv
theorem spec_l1Read.j0ev (s : ByteArray) (hs : s.size ≤ 1048576) (b : Bool) : ∃ v, Ev (fun k => spec_l1Read.j0 k s b) v := by
  cases b with
  | true =>
    refine ⟨-1, Ev.step (fun k => rfl) ?_⟩
    simp only [spec_l1Read.j0]
    first | exact Ev.yes rfl (Ev.now _) | exact Ev.yes trivial (Ev.now _) | exact Ev.now _
  | false =>
    obtain ⟨v, hv⟩ := spec_l1Read.lev s hs s.size 0 0 (by omega)
    refine ⟨v, Ev.step (fun k => rfl) ?_⟩
    simp only [spec_l1Read.j0]
    exact Ev.no (by simp) hv
theorem spec_l1Read.ex (s : ByteArray) (hs : s.size ≤ 1048576) : ∃ v, Ev (fun k => spec_l1Read.f k s) v := by
  unfold spec_l1Read.f
  by_cases h : 1 ≤ (s.size : Int) ∧ (s.size : Int) ≤ 6
  · by_cases h2 : bt s 0 = 48
    · obtain ⟨v, hv⟩ := spec_l1Read.j0ev s hs (decide ((s.size : Int) > 1))
      exact ⟨v, Ev.bindc (spec_l1In.bs _ _ _) (Ev.yes (decide_eq_true h) (Ev.yes (by omega) (Ev.yes h2 hv)))⟩
    · obtain ⟨v, hv⟩ := spec_l1Read.j0ev s hs false
      exact ⟨v, Ev.bindc (spec_l1In.bs _ _ _) (Ev.yes (decide_eq_true h) (Ev.yes (by omega) (Ev.no h2 hv)))⟩
  · obtain ⟨v, hv⟩ := spec_l1Read.j0ev s hs true
    exact ⟨v, Ev.bindc (spec_l1In.bs _ _ _) (Ev.no (by simpa using h) hv)⟩
/-! ### spec_ParsePins: function 17 -/
/-! Small laws on blocks of two and of three cells, and on what lies in an interval of blocks. -/
/-! laws.FnExactParsePins, by hand: the result's rows are marked. -/
section
variable {w W W2 : World} {rn : Int} {X X' : List (List Int)} {A : Option Addr} {l c b aw ew c8 : Nat}
end
/-! ParsePins: texts are read back; and that the program's and the reference's are one. -/
theorem textB_bytes {r : List Int} (h : ∀ x ∈ r, 0 ≤ x ∧ x < 10) : (textB r).data.toList = r.map (fun x => UInt8.ofNat (48 + x.toNat)) := by
  unfold textB strOfNums
  rw [List.toList_toArray, List.map_map]
  refine List.map_congr_left (fun x hx => ?_)
  have hx2 := h x hx
  have e : wrap64 (48 + x) % 256 = 48 + x := by rw [w64 (by omega) (by omega)]; omega
  show UInt8.ofNat (wrap64 (48 + x) % 256).toNat = _
  rw [e]
  congr 1
  omega
theorem digB (n : Nat) (h : n < 10) : (UInt8.ofNat (48 + n)).toNat = 48 + n := by
  rw [UInt8.toNat_ofNat']
  omega
theorem textB_ne {r : List Int} (h : ∀ x ∈ r, 0 ≤ x ∧ x < 10) {c : UInt8} (hc : c.toNat < 48) : ∀ b ∈ (textB r).data.toList, b ≠ c := by
  rw [textB_bytes h]
  intro b hb e
  obtain ⟨x, hx, rfl⟩ := List.mem_map.mp hb
  have hx2 := h x hx
  have := digB x.toNat (by omega)
  rw [e] at this
  omega
theorem textB_ne2 {r : List Int} (h : ∀ x ∈ r, 0 ≤ x ∧ x < 10) {c : UInt8} (hc : 57 < c.toNat) : ∀ b ∈ (textB r).data.toList, b ≠ c := by
  rw [textB_bytes h]
  intro b hb e
  obtain ⟨x, hx, rfl⟩ := List.mem_map.mp hb
  have hx2 := h x hx
  have := digB x.toNat (by omega)
  rw [e] at this
  omega
theorem mem_join {sep : List UInt8} {b : UInt8} : ∀ (xs : List (List UInt8)), b ∈ Lib.join xs sep → b ∈ sep ∨ ∃ x ∈ xs, b ∈ x
  | [], h => by rw [Lib.join_nil] at h; cases h
  | x :: r, h => by
    rw [Lib.join_cons] at h
    rcases List.mem_append.mp h with h | h
    · exact .inr ⟨x, List.mem_cons_self, h⟩
    · unfold Lib.joinTail at h
      obtain ⟨l, hl, hb⟩ := List.mem_flatten.mp h
      obtain ⟨y, hy, rfl⟩ := List.mem_map.mp hl
      rcases List.mem_append.mp hb with hb | hb
      · exact .inl hb
      · exact .inr ⟨y, List.mem_cons_of_mem _ hy, hb⟩
def Own (n : Int) (L : List (List Int)) (s : ByteArray) : Prop := ∀ n' L', pinsB n' L' = true → pinsT n' L' = s → n = n' ∧ L = L'
theorem pinsT_small {n : Int} {L : List (List Int)} (h : pinsB n L = true) : (pinsT n L).size ≤ 100 := by
  obtain ⟨a1, a2, a3⟩ := pinsB_parts h
  have hj := txt_joined L (pinsB_txt h) ⟨#[44]⟩ rfl
  have hd : (decB n).size = 1 := by rw [decB_one (by omega) (by omega), strOfNums_size]; rfl
  have h1 : ((⟨#[61]⟩ : ByteArray)).size = 1 := rfl
  unfold pinsT
  rw [ByteArray.size_append, ByteArray.size_append]
  omega
theorem Own.of_big {s : ByteArray} (h : (s.size : Int) > 100) : Own 0 [] s := fun n' L' h1 h2 => by
  have := pinsT_small h1
  rw [h2] at this
  omega
theorem cut_len (l sep : List UInt8) : (Lib.cut l sep).1.length ≤ l.length ∧ (Lib.cut l sep).2.1.length ≤ l.length := by
  unfold Lib.cut
  split
  · simp only [List.length_take, List.length_drop]; omega
  · simp
theorem atoiV_of {s : ByteArray} {v : Int} (h : Lib.atoiAll s.data.toList = .ok v) : atoiV s = v := by
  unfold atoiV
  split
  · rename_i u e
    rw [h] at e
    exact (Lib.NumEnd.ok.inj e).symm
  · rename_i e
    rw [h] at e
    cases e
  · rename_i e1 e2
    exact absurd h (e1 _)
/-! Numbers of up to three digits, read back: the reference's l1Read, the library's Atoi. -/
def foldD (a : Int) (D : List Int) : Int := D.foldl (fun x y => 10 * x + y) a
def Dig (D : List Int) : Prop := ∀ x ∈ D, 0 ≤ x ∧ x < 10
theorem Dig.one {x : Int} (h0 : 0 ≤ x) (h : x < 10) : Dig [x] := fun y hy => by rw [List.mem_singleton.mp hy]; exact ⟨h0, h⟩
theorem Dig.snoc {D : List Int} {x : Int} (h : Dig D) (h0 : 0 ≤ x) (h1 : x < 10) : Dig (D ++ [x]) := fun y hy => by
  rcases List.mem_append.mp hy with hy | hy
  · exact h y hy
  · rw [List.mem_singleton.mp hy]; exact ⟨h0, h1⟩
theorem foldD_snoc (a : Int) (D : List Int) (x : Int) : foldD a (D ++ [x]) = 10 * foldD a D + x := by unfold foldD; rw [List.foldl_append]; rfl
theorem decB_text1 {n : Nat} (h : n < 10) : decB (n : Int) = textB [(n : Int)] := decB_one (by omega) (by omega)
theorem decB_digits {n : Nat} (h : n < 1000) : ∃ D, decB (n : Int) = textB D ∧ Dig D ∧ foldD 0 D = n ∧ 1 ≤ D.length ∧ D.length ≤ 3 ∧ (D.length > 1 → D.headD 0 ≠ 0) := by
  by_cases h1 : n < 10
  · exact ⟨[(n : Int)], decB_text1 h1, Dig.one (by omega) (by omega), by unfold foldD; simp, by simp, by simp, fun h => absurd h (by simp)⟩
  · by_cases h2 : n < 100
    · refine ⟨[((n / 10 : Nat) : Int)] ++ [((n % 10 : Nat) : Int)], ?_, Dig.snoc (Dig.one (by omega) (by omega)) (by omega) (by omega), ?_, by simp, by simp, fun _ => ?_⟩
      · rw [decB_step (by omega), decB_text1 (by omega), textB_app]
      · rw [foldD_snoc]; unfold foldD; simp; omega
      · simp; omega
    · refine ⟨([((n / 100 : Nat) : Int)] ++ [((n / 10 % 10 : Nat) : Int)]) ++ [((n % 10 : Nat) : Int)], ?_, Dig.snoc (Dig.snoc (Dig.one (by omega) (by omega)) (by omega) (by omega)) (by omega) (by omega), ?_, by simp, by simp, fun _ => ?_⟩
      · rw [decB_step (by omega), decB_step (n := n / 10) (by omega), show n / 10 / 10 = n / 100 by omega, decB_text1 (by omega), textB_app, textB_app]
      · rw [foldD_snoc, foldD_snoc]; unfold foldD; simp; omega
      · simp; omega
theorem spec_l1Read.levD (D : List Int) (hD : Dig D) (hl : D.length ≤ 6) : ∀ (m i : Nat) (a : Int), i + m = D.length → 0 ≤ a → a < 10 ^ (i + 1) → Ev (fun k => spec_l1Read.l0 k (textB D) a (i : Nat)) (foldD a (D.drop i)) := by
  intro m
  induction m with
  | zero =>
    intro i a hi h0 h1
    have hz := textB_size D
    refine Ev.step (fun k => rfl) (Ev.no (by omega) (Ev.id ?_))
    rw [List.drop_eq_nil_of_le (by omega)]; rfl
  | succ m ih =>
    intro i a hi h0 h1
    have hz := textB_size D
    have hlt : i < D.length := by omega
    have hx := hD D[i] (List.getElem_mem hlt)
    have hb := bt_textB (D := D) hD hlt
    have hp : (10 : Int) ^ (i + 1) ≤ 10 ^ 6 := pow_mono (by omega) (by omega)
    have ha : a < 1000000 := by
      have : (10 : Int) ^ 6 = 1000000 := by decide
      omega
    refine Ev.step (fun k => rfl) (Ev.yes (by omega) (Ev.yes (by omega) (Ev.no (by omega) (Ev.no (by omega) ?_))))
    have e : wrap64 ((wrap64 (10 * a)) + (((bt (textB D) (i : Nat)) - 48) % 256)) = 10 * a + D[i] := by
      rw [hb, w64 (x := 10 * a) (by omega) (by omega), w64 (by omega) (by omega)]; omega
    rw [e, show wrap64 ((i : Int) + 1) = ((i + 1 : Nat) : Int) from w64 (by omega) (by omega), List.drop_eq_getElem_cons hlt]
    exact ih (i + 1) (10 * a + D[i]) (by omega) (by omega) (by rw [Int.pow_succ]; omega)
theorem spec_l1Read.text {D : List Int} (hD : Dig D) (h1 : 1 ≤ D.length) (h3 : D.length ≤ 3) (hh : D.length > 1 → D.headD 0 ≠ 0) : Ev (fun k => spec_l1Read.f k (textB D)) (foldD 0 D) := by
  have hz := textB_size D
  have hb := bt_textB (D := D) hD (i := 0) (by omega)
  have hb : bt (textB D) 0 = 48 + D[0] := hb
  have hgo := spec_l1Read.levD D hD (by omega) D.length 0 0 (by omega) (by omega) (by decide)
  rw [List.drop_zero] at hgo
  have hgo : Ev (fun k => spec_l1Read.l0 k (textB D) 0 0) (foldD 0 D) := hgo
  have hd : D.headD 0 = D[0] := by
    cases D with
    | nil => simp at h1
    | cons x t => rfl
  unfold spec_l1Read.f
  refine Ev.bindc (spec_l1In.bs _ _ _) (Ev.yes (decide_eq_true (by omega)) (Ev.yes (by omega) ?_))
  by_cases c : bt (textB D) 0 = 48
  · have : ¬ (D.length > 1) := fun h => hh h (by omega)
    refine Ev.yes c (Ev.step (fun k => rfl) ?_)
    simp only [spec_l1Read.j0]
    exact Ev.no (by simp; omega) hgo
  · refine Ev.no c (Ev.step (fun k => rfl) ?_)
    simp only [spec_l1Read.j0]
    exact Ev.no (by simp) hgo
theorem spec_l1Read.num {n : Int} (h0 : 0 ≤ n) (h : n < 1000) : Ev (fun k => spec_l1Read.f k (decB n)) n := by
  obtain ⟨n, rfl⟩ := Int.eq_ofNat_of_zero_le h0
  obtain ⟨D, e, hD, hf, h1, h3, hh⟩ := decB_digits (n := n) (by omega)
  rw [e]
  refine Ev.eq (spec_l1Read.text hD h1 h3 hh) hf
theorem parse_text : ∀ (D : List Int) (a : Nat), Dig D → (a + 1) * 10 ^ D.length ≤ 10 ^ 9 → Lib.parseUint10 a ((textB D).data.toList) = .ok (foldD (a : Int) D).toNat
  | [], a, _, _ => by
    show Lib.parseUint10 a [] = _
    unfold Lib.parseUint10 foldD
    simp
  | x :: t, a, hD, ha => by
    have hx := hD x List.mem_cons_self
    have ht : Dig t := fun z hz => hD z (List.mem_cons_of_mem _ hz)
    have hpos : 1 ≤ 10 ^ (x :: t).length := Nat.pow_le_pow_right (n := 10) (by omega) (Nat.zero_le (x :: t).length)
    have h1 : a + 1 ≤ 10 ^ 9 := Nat.le_trans (Nat.le_mul_of_pos_right _ hpos) ha
    have h9 : (10 : Nat) ^ 9 = 1000000000 := by decide
    have hb := digB x.toNat (by omega)
    have ih := parse_text t (a * 10 + x.toNat) ht (by
      refine Nat.le_trans ?_ ha
      rw [List.length_cons, Nat.pow_succ, Nat.mul_comm (10 ^ t.length) 10, ← Nat.mul_assoc]
      exact Nat.mul_le_mul_right _ (by omega))
    have e : (textB (x :: t)).data.toList = UInt8.ofNat (48 + x.toNat) :: (textB t).data.toList := by
      rw [textB_bytes hD, textB_bytes ht]; rfl
    rw [e]
    generalize UInt8.ofNat (48 + x.toNat) = b at hb
    have e2 : Lib.parseUint10 a (b :: (textB t).data.toList) = if 48 ≤ b.toNat ∧ b.toNat ≤ 57 then (if 1844674407370955162 ≤ a then .range else if 18446744073709551616 ≤ a * 10 + (b.toNat - 48) then .range else Lib.parseUint10 (a * 10 + (b.toNat - 48)) (textB t).data.toList) else Lib.NumEnd.syntax := by
      conv => lhs; unfold Lib.parseUint10
    rw [e2, if_pos (by omega), if_neg (by omega), if_neg (by omega), show b.toNat - 48 = x.toNat by omega, ih]
    congr 2
    show foldD ((a * 10 + x.toNat : Nat) : Int) t = foldD (10 * (a : Int) + x) t
    congr 1
    omega
theorem atoiV_num {n : Int} (h0 : 0 ≤ n) (h : n < 1000) : atoiV (decB n) = n := by
  obtain ⟨n, rfl⟩ := Int.eq_ofNat_of_zero_le h0
  obtain ⟨D, e, hD, hf, h1, h3, hh⟩ := decB_digits (n := n) (by omega)
  refine atoiV_of ?_
  rw [e]
  have hp := parse_text D 0 hD (by
    have : (10 : Nat) ^ D.length ≤ 10 ^ 9 := Nat.pow_le_pow_right (by omega) (by omega)
    omega)
  rw [show ((0 : Nat) : Int) = 0 from rfl, hf, Int.toNat_natCast] at hp
  cases D with
  | nil => simp at h1
  | cons x t =>
    have hx := hD x List.mem_cons_self
    have hb := digB x.toNat (by omega)
    have e3 : (textB (x :: t)).data.toList = UInt8.ofNat (48 + x.toNat) :: t.map (fun x => UInt8.ofNat (48 + x.toNat)) := by
      rw [textB_bytes hD]; rfl
    rw [e3] at hp ⊢
    generalize UInt8.ofNat (48 + x.toNat) = b at hb hp
    generalize t.map (fun x => UInt8.ofNat (48 + x.toNat)) = r at hp
    have hm : Lib.parseMag (b :: r) = .ok n := by
      unfold Lib.parseMag
      rw [if_neg (by simp)]
      exact hp
    unfold Lib.atoiAll
    simp only
    rw [if_neg (by omega), hm]
    simp only
    rw [if_neg (by omega), if_neg (by omega), if_neg (by omega)]
/-! ### impl_PuzzleText: function 15 -/
/-! ### spec_PuzzleText: function 13 -/
/-! ### laws_FnExactPuzzleText: function 4 -/
/-! PuzzleText: the puzzle's text; and that the program's and the reference's are one. -/
def clueT (c : S77) : ByteArray := decB c.f0 ++ ⟨#[46]⟩ ++ decB c.f1 ++ ⟨#[46]⟩ ++ decB c.f2
def lockT (w d : Int) : ByteArray := decB w ++ ⟨#[120]⟩ ++ decB d
def puzzleT (w d : Int) (l : List S77) : ByteArray := lockT w d ++ ⟨#[58]⟩ ++ joinB (l.map clueT) ⟨#[44]⟩
def TxtClue (c : S77) : Prop := (0 ≤ c.f0 ∧ c.f0 < 1000) ∧ (0 ≤ c.f1 ∧ c.f1 < 1000) ∧ (0 ≤ c.f2 ∧ c.f2 < 1000)
theorem clueB_txt {w d k a b : Int} (h : smallB w d 125 = true) (hc : clueB w d k a b = true) : (0 ≤ k ∧ k < 1000) ∧ (0 ≤ a ∧ a < 1000) ∧ (0 ≤ b ∧ b < 1000) := by
  obtain ⟨h1, h2⟩ := smallB_iff.mp h
  unfold clueB at hc
  generalize d ^ w.toNat = q at h2 hc
  split at hc
  · simp only [Bool.and_eq_true, decide_eq_true_eq] at hc; omega
  split at hc
  · simp only [Bool.and_eq_true, decide_eq_true_eq, beq_iff_eq] at hc; omega
  split at hc
  · simp only [Bool.and_eq_true, decide_eq_true_eq] at hc; omega
  split at hc
  · simp only [Bool.and_eq_true, decide_eq_true_eq] at hc; omega
  split at hc
  · simp only [Bool.and_eq_true, decide_eq_true_eq] at hc; omega
  · cases hc
theorem puzzleB_txt {w d : Int} {l : List S77} (h : puzzleB w d l = true) : smallB w d 125 = true ∧ l.length ≤ 6 ∧ ∀ c ∈ l, TxtClue c := by
  unfold puzzleB at h
  rw [Bool.and_eq_true, Bool.and_eq_true, decide_eq_true_eq] at h
  exact ⟨h.1.1, h.1.2, fun c hc => clueB_txt h.1.1 (List.all_eq_true.mp h.2 c hc)⟩
theorem rd_clueN {xs : List S77} {i : Nat} (h : i < xs.length) : rd_T77 xs (i : Nat) = xs[i] := by
  rw [rd_clue (by simpa using h)]; simp
theorem clueT_size {c : S77} (h : TxtClue c) : (clueT c).size ≤ 11 := by
  obtain ⟨h0, h1, h2⟩ := h
  have a := decB_size h0.1 h0.2
  have b := decB_size h1.1 h1.2
  have e := decB_size h2.1 h2.2
  have h1 : ((⟨#[46]⟩ : ByteArray)).size = 1 := rfl
  unfold clueT
  rw [ByteArray.size_append, ByteArray.size_append, ByteArray.size_append, ByteArray.size_append]
  omega
theorem clue_joined (l : List S77) (h : ∀ c ∈ l, TxtClue c) (s : ByteArray) (hs : s.size = 1) : (joinB (l.map clueT) s).size ≤ 12 * l.length := by
  have := joinB_size 11 s (l.map clueT) (fun x hx => by
    obtain ⟨r, hr, rfl⟩ := List.mem_map.mp hx
    exact clueT_size (h r hr))
  rw [hs, List.length_map] at this
  exact this
theorem lockT_size {w d : Int} (hw : 1 ≤ w ∧ w ≤ 6) (hd : 2 ≤ d ∧ d ≤ 10) : (lockT w d).size ≤ 7 := by
  have a := decB_size (n := w) (by omega) (by omega)
  have b := decB_size (n := d) (by omega) (by omega)
  have h1 : ((⟨#[120]⟩ : ByteArray)).size = 1 := rfl
  unfold lockT
  rw [ByteArray.size_append, ByteArray.size_append]
  omega
theorem impl_lockText.is {w d : Int} (hw : 1 ≤ w ∧ w ≤ 6) (hd : 2 ≤ d ∧ d ≤ 10) : impl_lockText.f w d = some (lockT w d) := by
  have a := decB_size (n := w) (by omega) (by omega)
  have b := decB_size (n := d) (by omega) (by omega)
  have h1 : ((⟨#[120]⟩ : ByteArray)).size = 1 := rfl
  unfold impl_lockText.f lockT
  rw [show strconv_Itoa.f w = some (decB w) from if_pos (by omega), show strconv_Itoa.f d = some (decB d) from if_pos (by omega), Option.bind_some, Option.bind_some, if_pos (by omega), if_pos (by rw [ByteArray.size_append]; omega)]
theorem impl_puzzleText.lev (w d : Int) (hw : 1 ≤ w ∧ w ≤ 6) (hd : 2 ≤ d ∧ d ≤ 10) (l : List S77) (hl : l.length ≤ 6) (h : ∀ c ∈ l, TxtClue c) : ∀ (m i : Nat), i + m = l.length → Ev (fun k => impl_puzzleText.l0 k ((l.take i).map clueT) l (l.length : Int) (i : Nat) w d l) (puzzleT w d l) := by
  intro m
  induction m with
  | zero =>
    intro i hi
    have hs := lockT_size hw hd
    have h1 : ((⟨#[58]⟩ : ByteArray)).size = 1 := rfl
    have hj := clue_joined l h ⟨#[44]⟩ rfl
    refine Ev.step (fun k => rfl) (Ev.no (by omega) (Ev.bindc (impl_lockText.is hw hd) (Ev.yes (by omega) (Ev.bindc (a := joinB (l.map clueT) ⟨#[44]⟩) ?_ (Ev.yes (by rw [ByteArray.size_append]; omega) (Ev.id rfl))))))
    rw [List.take_of_length_le (by omega)]
    unfold strings_Join.f
    exact if_pos ⟨by rw [List.length_map]; omega, by omega⟩
  | succ m ih =>
    intro i hi
    have hlt : i < l.length := by omega
    have hx := h l[i] (List.getElem_mem hlt)
    obtain ⟨h0, h1, h2⟩ := hx
    have a := decB_size h0.1 h0.2
    have b := decB_size h1.1 h1.2
    have e := decB_size h2.1 h2.2
    have hz : ((⟨#[46]⟩ : ByteArray)).size = 1 := rfl
    refine Ev.step (fun k => rfl) (Ev.yes (by omega) (Ev.yes (by omega) (Ev.yes (by omega) ?_)))
    rw [rd_clueN hlt]
    refine Ev.bindc (show strconv_ItoaT.f l[i].f0 = some (decB l[i].f0) from if_pos h0) (Ev.yes (by omega) ?_)
    refine Ev.bindc (show strconv_ItoaT.f l[i].f1 = some (decB l[i].f1) from if_pos h1) (Ev.yes (by rw [ByteArray.size_append]; omega) (Ev.yes (by rw [ByteArray.size_append, ByteArray.size_append]; omega) ?_))
    refine Ev.bindc (show strconv_ItoaT.f l[i].f2 = some (decB l[i].f2) from if_pos h2) (Ev.yes (by rw [ByteArray.size_append, ByteArray.size_append, ByteArray.size_append]; omega) (Ev.yes (by rw [List.length_map, List.length_take]; omega) ?_))
    rw [show wrap64 ((i : Int) + 1) = ((i + 1 : Nat) : Int) from w64 (by omega) (by omega)]
    have := ih (i + 1) (by omega)
    rw [List.take_succ_eq_append_getElem hlt, List.map_append] at this
    exact this
theorem impl_puzzleText.ev (w d : Int) (hw : 1 ≤ w ∧ w ≤ 6) (hd : 2 ≤ d ∧ d ≤ 10) (l : List S77) (hl : l.length ≤ 6) (h : ∀ c ∈ l, TxtClue c) : Ev (fun k => impl_puzzleText.f k w d l) (puzzleT w d l) := by
  unfold impl_puzzleText.f
  exact impl_puzzleText.lev w d hw hd l hl h l.length 0 (by omega)
theorem spec_pzText.lev (l : List S77) (hl : l.length ≤ 6) (h : ∀ c ∈ l, TxtClue c) (t : ByteArray) (ht : t.size ≤ 8) : ∀ (m i : Nat), i + m = l.length → Ev (fun k => spec_pzText.l0 k (t ++ joinB ((l.take i).map clueT) ⟨#[44]⟩) l (l.length : Int) (i : Nat)) (t ++ joinB (l.map clueT) ⟨#[44]⟩) := by
  intro m
  induction m with
  | zero =>
    intro i hi
    refine Ev.step (fun k => rfl) (Ev.no (by omega) (Ev.id ?_))
    rw [List.take_of_length_le (by omega)]
  | succ m ih =>
    intro i hi
    have hlt : i < l.length := by omega
    have hx := h l[i] (List.getElem_mem hlt)
    have hz := clue_joined (l.take i) (fun r hr => h r (List.mem_of_mem_take hr)) ⟨#[44]⟩ rfl
    rw [List.length_take] at hz
    have hs : (t ++ joinB ((l.take i).map clueT) ⟨#[44]⟩).size ≤ 100 := by rw [ByteArray.size_append]; omega
    have hc := clueT_size hx
    have hgo := ih (i + 1) (by omega)
    rw [List.take_succ_eq_append_getElem hlt, List.map_append] at hgo
    have e9 : wrap64 ((i : Int) + 1) = ((i + 1 : Nat) : Int) := w64 (by omega) (by omega)
    obtain ⟨h0, h1, h2⟩ := hx
    have a := decB_size h0.1 h0.2
    have b := decB_size h1.1 h1.2
    have e := decB_size h2.1 h2.2
    have hd : ((⟨#[46]⟩ : ByteArray)).size = 1 := rfl
    have hk : ((⟨#[44]⟩ : ByteArray)).size = 1 := rfl
    refine Ev.step (fun k => rfl) (Ev.yes (by omega) (Ev.yes (by omega) (Ev.yes (by omega) ?_)))
    rw [rd_clueN hlt, e9]
    by_cases hi0 : i = 0
    · subst hi0
      refine Ev.no (by omega) (Ev.bind (spec_l1Num.ev h0.1 h0.2) (Ev.yes (by omega) ?_))
      refine Ev.bind (spec_l1Num.ev h1.1 h1.2) (Ev.yes (by rw [ByteArray.size_append]; omega) (Ev.yes (by rw [ByteArray.size_append, ByteArray.size_append]; omega) ?_))
      refine Ev.bind (spec_l1Num.ev h2.1 h2.2) (Ev.yes (by rw [ByteArray.size_append, ByteArray.size_append, ByteArray.size_append]; omega) (Ev.yes ?_ ?_))
      · show _ + (clueT l[0]).size ≤ _; omega
      rw [List.take_zero, List.map_nil, List.nil_append, List.map_cons, List.map_nil, joinB_one] at hgo
      rw [List.take_zero, List.map_nil, joinB_nil, show t ++ (⟨#[]⟩ : ByteArray) = t from ByteArray.append_empty]
      exact hgo
    · refine Ev.yes (by omega) (Ev.yes (by omega) (Ev.bind (spec_l1Num.ev h0.1 h0.2) (Ev.yes (by omega) ?_)))
      refine Ev.bind (spec_l1Num.ev h1.1 h1.2) (Ev.yes (by rw [ByteArray.size_append]; omega) (Ev.yes (by rw [ByteArray.size_append, ByteArray.size_append]; omega) ?_))
      refine Ev.bind (spec_l1Num.ev h2.1 h2.2) (Ev.yes (by rw [ByteArray.size_append, ByteArray.size_append, ByteArray.size_append]; omega) (Ev.yes ?_ ?_))
      · show _ + (clueT l[i]).size ≤ _; rw [ByteArray.size_append]; omega
      rw [List.map_cons, List.map_nil, joinB_snoc _ _ _ (by
        intro h2
        have := congrArg List.length h2
        rw [List.length_map, List.length_take, List.length_nil] at this
        omega), ← ByteArray.append_assoc, ← ByteArray.append_assoc] at hgo
      exact hgo
theorem spec_pzText.ev (w d : Int) (hw : 1 ≤ w ∧ w ≤ 6) (hd : 2 ≤ d ∧ d ≤ 10) (l : List S77) (hl : l.length ≤ 6) (h : ∀ c ∈ l, TxtClue c) : Ev (fun k => spec_pzText.f k w d l) (puzzleT w d l) := by
  unfold spec_pzText.f puzzleT
  have a := decB_size (n := w) (by omega) (by omega)
  have b := decB_size (n := d) (by omega) (by omega)
  have h1 : ((⟨#[120]⟩ : ByteArray)).size = 1 := rfl
  have h2 : ((⟨#[58]⟩ : ByteArray)).size = 1 := rfl
  refine Ev.bind (spec_l1Num.ev (n := w) (by omega) (by omega)) (Ev.yes (by omega) (Ev.bind (spec_l1Num.ev (n := d) (by omega) (by omega)) (Ev.yes (by rw [ByteArray.size_append]; omega) (Ev.yes (by rw [ByteArray.size_append, ByteArray.size_append]; omega) ?_))))
  have := spec_pzText.lev l hl h (lockT w d ++ ⟨#[58]⟩) (by have := lockT_size hw hd; rw [ByteArray.size_append]; omega) l.length 0 (by omega)
  rw [List.take_zero, List.map_nil, joinB_nil, show lockT w d ++ ⟨#[58]⟩ ++ (⟨#[]⟩ : ByteArray) = lockT w d ++ ⟨#[58]⟩ from ByteArray.append_empty] at this
  exact this
/-! ParsePuzzle: what the program's comes to; texts are read back. -/
def qqV (w d : Int) (l : List S77) (s : ByteArray) : Int × Int × List S77 × Bool := if puzzleB w d l = true ∧ puzzleT w d l = s then (w, d, l, true) else (0, 0, [], false)
def OwnZ (w d : Int) (l : List S77) (s : ByteArray) : Prop := ∀ w' d' l', puzzleB w' d' l' = true → puzzleT w' d' l' = s → w = w' ∧ d = d' ∧ l = l'
theorem qqV_own {w1 d1 w2 d2 : Int} {l1 l2 : List S77} {s : ByteArray} (h1 : OwnZ w1 d1 l1 s) (h2 : OwnZ w2 d2 l2 s) : qqV w1 d1 l1 s = qqV w2 d2 l2 s := by
  unfold qqV
  by_cases c1 : puzzleB w1 d1 l1 = true ∧ puzzleT w1 d1 l1 = s
  · obtain ⟨e1, e2, e3⟩ := h2 w1 d1 l1 c1.1 c1.2
    rw [e1, e2, e3]
  · by_cases c2 : puzzleB w2 d2 l2 = true ∧ puzzleT w2 d2 l2 = s
    · obtain ⟨e1, e2, e3⟩ := h1 w2 d2 l2 c2.1 c2.2
      rw [e1, e2, e3]
    · rw [if_neg c1, if_neg c2]
theorem puzzleT_small {w d : Int} {l : List S77} (h : puzzleB w d l = true) : (puzzleT w d l).size ≤ 100 := by
  obtain ⟨a1, a2, a3⟩ := puzzleB_txt h
  obtain ⟨b1, _⟩ := smallB_iff.mp a1
  have hs := lockT_size (w := w) (d := d) (by omega) (by omega)
  have hj := clue_joined l a3 ⟨#[44]⟩ rfl
  have h1 : ((⟨#[58]⟩ : ByteArray)).size = 1 := rfl
  unfold puzzleT
  rw [ByteArray.size_append, ByteArray.size_append]
  omega
theorem qqV_none (s : ByteArray) : qqV 0 0 [] s = (0, 0, [], false) := by
  unfold qqV
  exact if_neg (fun h => absurd h.1 (by decide))
theorem OwnZ.of_big {s : ByteArray} (h : (s.size : Int) > 100) : OwnZ 0 0 [] s := fun w' d' l' h1 h2 => by
  have := puzzleT_small h1
  rw [h2] at this
  omega
theorem impl_ParsePuzzle.j1ev (s : ByteArray) (w d : Int) (l : List S77) : Ev (fun k => impl_ParsePuzzle.j1 k s w d l) (qqV w d l s) := by
  refine Ev.step (fun k => rfl) ?_
  simp only [impl_ParsePuzzle.j1]
  refine Ev.bindc (show impl_IsPuzzle.f w d l = some (puzzleB w d l) from rfl) ?_
  unfold qqV
  by_cases h1 : puzzleB w d l = true
  · obtain ⟨a1, a2, a3⟩ := puzzleB_txt h1
    obtain ⟨b1, _⟩ := smallB_iff.mp a1
    refine Ev.yes h1 (Ev.bind (impl_puzzleText.ev w d (by omega) (by omega) l a2 a3) ?_)
    by_cases h2 : puzzleT w d l = s
    · refine Ev.yes (bl_eq.mpr h2) (Ev.id ?_)
      rw [if_pos ⟨h1, h2⟩]
    · refine Ev.no (fun h => h2 (bl_eq.mp h)) (Ev.id ?_)
      rw [if_neg (fun h => h2 h.2)]
  · refine Ev.no h1 (Ev.id ?_)
    rw [if_neg (fun h => h1 h.1)]
theorem splitL_mapc {c : UInt8} {sep : ByteArray} (hsep : sep.data.toList = [c]) (s : ByteArray) : (splitL s sep).map (·.data.toList) = splL c s.data.toList := splitB_spl hsep _ s rfl
theorem unmap {xs : List ByteArray} {ys : List (List UInt8)} (h : xs.map (·.data.toList) = ys) : xs = ys.map bytesOf := by
  rw [← h, List.map_map]
  conv => lhs; rw [← List.map_id xs]
  exact List.map_congr_left (fun x _ => bytes_eq rfl)
theorem splitL_small {c : UInt8} {sep : ByteArray} (hsep : sep.data.toList = [c]) (s : ByteArray) : (splitL s sep).length ≤ s.size + 1 ∧ ∀ x ∈ splitL s sep, x.size ≤ s.size := by
  have hsp := splitL_mapc hsep s
  obtain ⟨_, s2, s3⟩ := splL_len c s.data.toList
  have hz := Lib.size_eq s
  refine ⟨by rw [← List.length_map (f := fun b : ByteArray => b.data.toList), hsp]; omega, fun x hx => ?_⟩
  have := s3 x.data.toList (by rw [← hsp]; exact List.mem_map_of_mem (f := fun b : ByteArray => b.data.toList) hx)
  rw [Lib.size_eq]; omega
theorem rdOf_size {xs : List ByteArray} {N : Nat} (h : ∀ p ∈ xs, p.size ≤ N) (i : Int) : (rdOf ByteArray.empty xs i).size ≤ N := by
  unfold rdOf
  rw [List.getD_eq_getElem?_getD]
  cases hc : xs[i.toNat]? with
  | none => exact Nat.zero_le _
  | some p => exact h p (List.mem_of_getElem? hc)
def yI (x : ByteArray) : List ByteArray := splitL x ⟨#[46]⟩ ++ [⟨#[]⟩, ⟨#[]⟩, ⟨#[]⟩]
def clI (x : ByteArray) : S77 := ⟨atoiV (rdOf ByteArray.empty (yI x) 0), atoiV (rdOf ByteArray.empty (yI x) 1), atoiV (rdOf ByteArray.empty (yI x) 2)⟩
theorem yI_small {x : ByteArray} (hx : x.size ≤ 1000) : 3 ≤ (yI x).length ∧ ∀ p ∈ yI x, p.size ≤ 1000 := by
  obtain ⟨_, h2⟩ := splitL_small (sep := ⟨#[46]⟩) (c := 46) rfl x
  unfold yI
  refine ⟨by rw [List.length_append]; simp, fun p hp => ?_⟩
  rcases List.mem_append.mp hp with hp | hp
  · have := h2 p hp; omega
  · simp only [List.mem_cons, List.mem_nil_iff, or_false, or_self] at hp
    rw [hp]; exact Nat.zero_le _
theorem atoi_ok {x : ByteArray} (hx : x.size ≤ 1000) : strconv_Atoi.f x = some (atoiV x, true) := if_pos (by omega)
theorem impl_ParsePuzzle.lev (s t : ByteArray) (ht : ¬ t.toList = []) (w d : Int) (xs : List ByteArray) (hx : ∀ x ∈ xs, x.size ≤ 1000) (hl : xs.length ≤ 1001) : ∀ (m i : Nat), i + m = xs.length → Ev (fun k => impl_ParsePuzzle.l0 k s t xs (xs.length : Int) (i : Nat) w d ((xs.take i).map clI)) (qqV w d (xs.map clI) s) := by
  intro m
  induction m with
  | zero =>
    intro i hi
    refine Ev.step (fun k => rfl) (Ev.no (by omega) ?_)
    rw [List.take_of_length_le (by omega)]
    exact impl_ParsePuzzle.j1ev s w d _
  | succ m ih =>
    intro i hi
    have hlt : i < xs.length := by omega
    have hxi := hx _ (List.getElem_mem hlt)
    obtain ⟨y1, y2⟩ := yI_small hxi
    have z1 := (splitL_small (sep := ⟨#[46]⟩) (c := 46) rfl xs[i]).1
    refine Ev.step (fun k => rfl) (Ev.yes (by omega) (Ev.yes (by omega) (Ev.yes (by omega) (Ev.no ht ?_))))
    rw [rdOf_nat hlt]
    refine Ev.bindc (show strings_Split.f xs[i] ⟨#[46]⟩ = some (splitL xs[i] ⟨#[46]⟩) from if_pos ⟨by omega, by decide⟩) (Ev.bindc rfl (Ev.yes (by simp only [List.length_cons, List.length_nil]; omega) (Ev.bindc (show _ = some (yI xs[i]) from rfl) ?_)))
    refine Ev.yes (by omega) (Ev.bindc (atoi_ok (rdOf_size y2 0)) (Ev.yes (by omega) (Ev.bindc (atoi_ok (rdOf_size y2 1)) (Ev.yes (by omega) (Ev.bindc (atoi_ok (rdOf_size y2 2)) (Ev.yes (by rw [List.length_map, List.length_take]; omega) ?_))))))
    rw [show wrap64 ((i : Int) + 1) = ((i + 1 : Nat) : Int) from w64 (by omega) (by omega)]
    have := ih (i + 1) (by omega)
    rw [List.take_succ_eq_append_getElem hlt, List.map_append] at this
    exact this
theorem decB_ne {n : Int} (h0 : 0 ≤ n) (h : n < 1000) {c : UInt8} (hc : c.toNat < 48 ∨ 57 < c.toNat) : ∀ b ∈ (decB n).data.toList, b ≠ c := by
  obtain ⟨n, rfl⟩ := Int.eq_ofNat_of_zero_le h0
  obtain ⟨D, e, hD, _⟩ := decB_digits (n := n) (by omega)
  rw [e]
  rcases hc with hc | hc
  · exact textB_ne hD hc
  · exact textB_ne2 hD hc
def clueU (c : S77) : List UInt8 := (decB c.f0).data.toList ++ 46 :: ((decB c.f1).data.toList ++ 46 :: (decB c.f2).data.toList)
theorem clueT_bytes (c : S77) : (clueT c).data.toList = clueU c := by
  unfold clueT clueU
  simp only [ByteArray.data_append, Array.toList_append, List.append_assoc]
  rfl
theorem clueU_ne {c : S77} (h : TxtClue c) {u : UInt8} (hu : u.toNat < 46 ∨ 57 < u.toNat) : ∀ b ∈ clueU c, b ≠ u := by
  obtain ⟨h0, h1, h2⟩ := h
  have hd : u.toNat < 48 ∨ 57 < u.toNat := by omega
  have h46 : (46 : UInt8) ≠ u := fun e => by rw [← e] at hu; exact absurd hu (by decide)
  intro b hb
  unfold clueU at hb
  rcases List.mem_append.mp hb with hb | hb
  · exact decB_ne h0.1 h0.2 hd b hb
  rcases List.mem_cons.mp hb with rfl | hb
  · exact h46
  rcases List.mem_append.mp hb with hb | hb
  · exact decB_ne h1.1 h1.2 hd b hb
  rcases List.mem_cons.mp hb with rfl | hb
  · exact h46
  · exact decB_ne h2.1 h2.2 hd b hb
theorem clueU_split {c : S77} (h : TxtClue c) : splL 46 (clueU c) = [(decB c.f0).data.toList, (decB c.f1).data.toList, (decB c.f2).data.toList] := by
  obtain ⟨h0, h1, h2⟩ := h
  unfold clueU
  rw [splL_app (decB_ne h0.1 h0.2 (by decide)), splL_app (decB_ne h1.1 h1.2 (by decide)), splL_no (decB_ne h2.1 h2.2 (by decide))]
theorem clI_back {c : S77} (h : TxtClue c) : clI (clueT c) = c := by
  have e : splitL (clueT c) ⟨#[46]⟩ = [decB c.f0, decB c.f1, decB c.f2] := by
    have := unmap ((splitL_mapc (sep := ⟨#[46]⟩) (c := 46) rfl (clueT c)).trans (by rw [clueT_bytes, clueU_split h]))
    rw [this]
    simp only [List.map_cons, List.map_nil]
    rw [← bytes_eq (a := decB c.f0) rfl, ← bytes_eq (a := decB c.f1) rfl, ← bytes_eq (a := decB c.f2) rfl]
  obtain ⟨h0, h1, h2⟩ := h
  unfold clI yI
  rw [e]
  show (⟨atoiV (decB c.f0), atoiV (decB c.f1), atoiV (decB c.f2)⟩ : S77) = c
  rw [atoiV_num h0.1 h0.2, atoiV_num h1.1 h1.2, atoiV_num h2.1 h2.2]
def lockU (w d : Int) : List UInt8 := (decB w).data.toList ++ 120 :: (decB d).data.toList
def cluesU (l : List S77) : List UInt8 := Lib.join (l.map clueU) [44]
theorem puzzleT_bytes (w d : Int) (l : List S77) : (puzzleT w d l).data.toList = lockU w d ++ 58 :: cluesU l := by
  unfold puzzleT lockT joinB lockU cluesU
  rw [List.map_map, show ((fun x : ByteArray => x.data.toList) ∘ clueT) = clueU from funext clueT_bytes]
  simp only [ByteArray.data_append, Array.toList_append, List.append_assoc]
  rfl
theorem lockU_ne {w d : Int} (hw : 1 ≤ w ∧ w ≤ 6) (hd : 2 ≤ d ∧ d ≤ 10) : ∀ b ∈ lockU w d, b ≠ 58 := by
  intro b hb
  unfold lockU at hb
  rcases List.mem_append.mp hb with hb | hb
  · exact decB_ne (by omega) (by omega) (by decide) b hb
  rcases List.mem_cons.mp hb with rfl | hb
  · decide
  · exact decB_ne (by omega) (by omega) (by decide) b hb
theorem cluesU_ne {l : List S77} (h : ∀ c ∈ l, TxtClue c) : ∀ b ∈ cluesU l, b ≠ 58 := by
  intro b hb
  unfold cluesU at hb
  rcases mem_join _ hb with h2 | ⟨x, hx, h2⟩
  · rw [List.mem_singleton.mp h2]; decide
  · obtain ⟨q, hq, rfl⟩ := List.mem_map.mp hx
    exact clueU_ne (h q hq) (by decide) b h2
theorem cluesU_split {l : List S77} (hl : l ≠ []) (h : ∀ c ∈ l, TxtClue c) : splL 44 (cluesU l) = l.map clueU := by
  cases l with
  | nil => exact absurd rfl hl
  | cons r t =>
    unfold cluesU
    rw [List.map_cons]
    refine splL_join _ _ (clueU_ne (h r List.mem_cons_self) (by decide)) (fun y hy => ?_)
    obtain ⟨q, hq, rfl⟩ := List.mem_map.mp hy
    exact clueU_ne (h q (List.mem_cons_of_mem _ hq)) (by decide)
theorem cluesU_nil {l : List S77} : cluesU l = [] ↔ l = [] := by
  constructor
  · intro h
    cases l with
    | nil => rfl
    | cons r t =>
      unfold cluesU at h
      rw [List.map_cons, Lib.join_cons] at h
      have := congrArg List.length h
      unfold clueU at this
      simp at this
  · intro h; rw [h]; rfl
theorem map_clueU (l : List S77) : (l.map clueU).map bytesOf = l.map clueT := by
  rw [List.map_map]
  exact List.map_congr_left (fun c _ => (bytes_eq (clueT_bytes c)).symm)
/-! ParsePuzzle: that the program's and the reference's are one. -/
theorem impl_parseLock.is {s : ByteArray} (hs : s.size ≤ 1000) : impl_parseLock.f s = some (atoiV (bytesOf (Lib.cut s.data.toList [120]).1), atoiV (bytesOf (Lib.cut s.data.toList [120]).2.1)) := by
  have hz := Lib.size_eq s
  obtain ⟨q1, q2⟩ := cut_len s.data.toList [120]
  have e0 : strings_Cut.f s ⟨#[120]⟩ = some (bytesOf (Lib.cut s.data.toList [120]).1, bytesOf (Lib.cut s.data.toList [120]).2.1, (Lib.cut s.data.toList [120]).2.2) := if_pos (by omega)
  unfold impl_parseLock.f
  rw [e0, Option.bind_some, atoi_ok (by rw [bytesOf_size]; omega), Option.bind_some, atoi_ok (by rw [bytesOf_size]; omega)]; rfl
theorem impl_ParsePuzzle.ev (s : ByteArray) (hs : s.size ≤ 1048576) : ∃ w d l, Ev (fun k => impl_ParsePuzzle.f k s) (qqV w d l s) ∧ OwnZ w d l s := by
  unfold impl_ParsePuzzle.f
  by_cases hb : (s.size : Int) > 200
  · exact ⟨0, 0, [], Ev.yes hb (Ev.id (qqV_none s).symm), OwnZ.of_big (by omega)⟩
  · have hz := Lib.size_eq s
    obtain ⟨q1, q2⟩ := cut_len s.data.toList [58]
    have e0 : strings_Cut.f s ⟨#[58]⟩ = some (bytesOf (Lib.cut s.data.toList [58]).1, bytesOf (Lib.cut s.data.toList [58]).2.1, (Lib.cut s.data.toList [58]).2.2) := if_pos (by omega)
    have eL := impl_parseLock.is (s := bytesOf (Lib.cut s.data.toList [58]).1) (by rw [bytesOf_size]; omega)
    rw [bytesOf_data] at eL
    have e2 : strings_Split.f (bytesOf (Lib.cut s.data.toList [58]).2.1) ⟨#[44]⟩ = some (splitL (bytesOf (Lib.cut s.data.toList [58]).2.1) ⟨#[44]⟩) := if_pos ⟨by rw [bytesOf_size]; omega, by decide⟩
    obtain ⟨l1, l2⟩ := splitL_small (sep := ⟨#[44]⟩) (c := 44) rfl (bytesOf (Lib.cut s.data.toList [58]).2.1)
    rw [bytesOf_size] at l1 l2
    have own : ∀ w' d' l', puzzleB w' d' l' = true → puzzleT w' d' l' = s → atoiV (bytesOf (Lib.cut (Lib.cut s.data.toList [58]).1 [120]).1) = w' ∧ atoiV (bytesOf (Lib.cut (Lib.cut s.data.toList [58]).1 [120]).2.1) = d' ∧ (Lib.cut s.data.toList [58]).2.1 = cluesU l' ∧ ∀ c ∈ l', TxtClue c := by
      intro w' d' l' h1 h2
      obtain ⟨a1, a2, a3⟩ := puzzleB_txt h1
      obtain ⟨b1, _⟩ := smallB_iff.mp a1
      have hb2 := puzzleT_bytes w' d' l'
      rw [h2] at hb2
      rw [hb2, cut_one (lockU_ne (by omega) (by omega))]
      have hc : Lib.cut (lockU w' d') [120] = ((decB w').data.toList, (decB d').data.toList, true) := cut_one (decB_ne (by omega) (by omega) (by decide))
      show atoiV (bytesOf (Lib.cut (lockU w' d') [120]).1) = w' ∧ atoiV (bytesOf (Lib.cut (lockU w' d') [120]).2.1) = d' ∧ cluesU l' = cluesU l' ∧ _
      rw [hc]
      refine ⟨?_, ?_, rfl, a3⟩
      · show atoiV (bytesOf (decB w').data.toList) = w'
        rw [← bytes_eq (a := decB w') rfl, atoiV_num (by omega) (by omega)]
      · show atoiV (bytesOf (decB d').data.toList) = d'
        rw [← bytes_eq (a := decB d') rfl, atoiV_num (by omega) (by omega)]
    by_cases ht : (Lib.cut s.data.toList [58]).2.1 = []
    · have ht2 : (bytesOf (Lib.cut s.data.toList [58]).2.1).toList = [] := by rw [ByteArray.toList_eq, bytesOf_data, ht]
      have hgo : Ev (fun k => impl_ParsePuzzle.l0 k s (bytesOf (Lib.cut s.data.toList [58]).2.1) (splitL (bytesOf (Lib.cut s.data.toList [58]).2.1) ⟨#[44]⟩) ((splitL (bytesOf (Lib.cut s.data.toList [58]).2.1) ⟨#[44]⟩).length : Int) 0 (atoiV (bytesOf (Lib.cut (Lib.cut s.data.toList [58]).1 [120]).1)) (atoiV (bytesOf (Lib.cut (Lib.cut s.data.toList [58]).1 [120]).2.1)) []) (qqV (atoiV (bytesOf (Lib.cut (Lib.cut s.data.toList [58]).1 [120]).1)) (atoiV (bytesOf (Lib.cut (Lib.cut s.data.toList [58]).1 [120]).2.1)) [] s) := by
        by_cases hn : 0 < (splitL (bytesOf (Lib.cut s.data.toList [58]).2.1) ⟨#[44]⟩).length
        · exact Ev.step (fun k => rfl) (Ev.yes (by omega) (Ev.yes (by omega) (Ev.yes (by omega) (Ev.yes ht2 (impl_ParsePuzzle.j1ev _ _ _ _)))))
        · exact Ev.step (fun k => rfl) (Ev.no (by omega) (impl_ParsePuzzle.j1ev _ _ _ _))
      refine ⟨_, _, _, Ev.no hb (Ev.bindc e0 (Ev.bindc eL (Ev.bindc e2 hgo))), fun w' d' l' h1 h2 => ?_⟩
      obtain ⟨c1, c2, c3, _⟩ := own w' d' l' h1 h2
      exact ⟨c1, c2, (cluesU_nil.mp (c3.symm.trans ht)).symm⟩
    · have ht2 : ¬ (bytesOf (Lib.cut s.data.toList [58]).2.1).toList = [] := by rw [ByteArray.toList_eq, bytesOf_data]; exact ht
      have hgo := impl_ParsePuzzle.lev s (bytesOf (Lib.cut s.data.toList [58]).2.1) ht2 (atoiV (bytesOf (Lib.cut (Lib.cut s.data.toList [58]).1 [120]).1)) (atoiV (bytesOf (Lib.cut (Lib.cut s.data.toList [58]).1 [120]).2.1)) (splitL (bytesOf (Lib.cut s.data.toList [58]).2.1) ⟨#[44]⟩) (fun x hx => by have := l2 x hx; omega) (by omega) (splitL (bytesOf (Lib.cut s.data.toList [58]).2.1) ⟨#[44]⟩).length 0 (by omega)
      rw [List.take_zero, List.map_nil] at hgo
      refine ⟨_, _, _, Ev.no hb (Ev.bindc e0 (Ev.bindc eL (Ev.bindc e2 hgo))), fun w' d' l' h1 h2 => ?_⟩
      obtain ⟨c1, c2, c3, c4⟩ := own w' d' l' h1 h2
      refine ⟨c1, c2, ?_⟩
      have hne : l' ≠ [] := fun h => ht (c3.trans (cluesU_nil.mpr h))
      have e3 := unmap (splitL_mapc (sep := ⟨#[44]⟩) (c := 44) rfl (bytesOf (Lib.cut s.data.toList [58]).2.1))
      rw [bytesOf_data, c3, cluesU_split hne c4, map_clueU] at e3
      rw [c3, e3, List.map_map]
      conv => rhs; rw [← List.map_id l']
      exact List.map_congr_left (fun c hc => clI_back (c4 c hc))
def Rd (x : ByteArray) (c : S77) : Prop := ∃ p0 p1 p2, splL 46 x.data.toList = [p0, p1, p2] ∧ Ev (fun k => spec_l1Read.f k (bytesOf p0)) c.f0 ∧ Ev (fun k => spec_l1Read.f k (bytesOf p1)) c.f1 ∧ Ev (fun k => spec_l1Read.f k (bytesOf p2)) c.f2
def RdL : List ByteArray → List S77 → Prop
  | [], [] => True
  | x :: xs, c :: cs => Rd x c ∧ RdL xs cs
  | _, _ => False
def kqV (w d : Int) (l : List S77) (s : ByteArray) : Int × Int × List S77 × Bool := if puzzleB w d l = true then (w, d, l, ((puzzleT w d l).toList == s.toList)) else (w, d, l, false)
theorem kq_qq (w d : Int) (l : List S77) (s : ByteArray) : (if (kqV w d l s).2.2.2 = true then ((kqV w d l s).1, (kqV w d l s).2.1, (kqV w d l s).2.2.1, true) else (0, 0, [], false)) = qqV w d l s := by
  unfold kqV qqV
  by_cases c : puzzleB w d l = true
  · by_cases c2 : puzzleT w d l = s
    · have h3 : ((puzzleT w d l).toList == s.toList) = true := beq_iff_eq.mpr (bl_eq.mpr c2)
      simp [c, c2, h3]
    · have h3 : ((puzzleT w d l).toList == s.toList) = false := beq_eq_false_iff_ne.mpr (fun h => c2 (bl_eq.mp h))
      simp [c, c2, h3]
  · simp [c]
theorem kqV.ev (s : ByteArray) (w d : Int) (l : List S77) (hl : l.length ≤ 1048577) : Ev (fun k => (spec_pzGood.f k w d l).bind fun t => (if t = true then ((spec_pzText.f k w d l).bind fun u => (some (w, d, l, (u.toList == s.toList)))) else (some (w, d, l, false)))) (kqV w d l s) := by
  refine Ev.bind (spec_pzGood.ev w d l (by omega)) ?_
  unfold kqV
  by_cases h1 : puzzleB w d l = true
  · obtain ⟨a1, a2, a3⟩ := puzzleB_txt h1
    obtain ⟨b1, _⟩ := smallB_iff.mp a1
    refine Ev.yes h1 (Ev.bind (spec_pzText.ev w d (by omega) (by omega) l a2 a3) (Ev.id ?_))
    rw [if_pos h1]
  · refine Ev.no h1 (Ev.id ?_)
    rw [if_neg h1]
theorem three {α : Type} {l : List α} (h : l.length = 3) : ∃ a b c, l = [a, b, c] := by
  match l, h with
  | [a, b, c], _ => exact ⟨a, b, c, rfl⟩
theorem two_ {α : Type} {l : List α} (h : l.length = 2) : ∃ a b, l = [a, b] := by
  match l, h with
  | [a, b], _ => exact ⟨a, b, rfl⟩
theorem spec_pzParse.lev (s : ByteArray) (w d : Int) (xs : List ByteArray) (hx : ∀ x ∈ xs, x.size ≤ 1048576) (hl : xs.length ≤ 1048577) : ∀ (m i : Nat) (acc : List S77), i + m = xs.length → acc.length = i → ∃ o, Ev (fun k => spec_pzParse.l0 k s xs (xs.length : Int) (i : Nat) w d acc) o ∧ ((∃ cs, RdL (xs.drop i) cs ∧ o = kqV w d (acc ++ cs) s) ∨ (o = (0, 0, [], false) ∧ ∃ x ∈ xs.drop i, (splL 46 x.data.toList).length ≠ 3)) := by
  intro m
  induction m with
  | zero =>
    intro i acc hi ha
    refine ⟨kqV w d acc s, Ev.step (fun k => rfl) (Ev.no (by omega) (kqV.ev s w d acc (by omega))), .inl ⟨[], ?_, by rw [List.append_nil]⟩⟩
    rw [List.drop_eq_nil_of_le (by omega)]; exact trivial
  | succ m ih =>
    intro i acc hi ha
    have hlt : i < xs.length := by omega
    have hs1 := spec_l1Split.ev 46 xs[i] (hx _ (List.getElem_mem hlt))
    have hz := Lib.size_eq xs[i]
    have hxi := hx _ (List.getElem_mem hlt)
    obtain ⟨_, s2, s3⟩ := splL_len 46 xs[i].data.toList
    rw [List.drop_eq_getElem_cons hlt]
    by_cases h3 : (splL 46 xs[i].data.toList).length = 3
    · obtain ⟨p0, p1, p2, hp⟩ := three h3
      rw [hp] at hs1 s3
      obtain ⟨v0, hv0⟩ := spec_l1Read.ex (bytesOf p0) (by rw [bytesOf_size]; have := s3 p0 (by simp); omega)
      obtain ⟨v1, hv1⟩ := spec_l1Read.ex (bytesOf p1) (by rw [bytesOf_size]; have := s3 p1 (by simp); omega)
      obtain ⟨v2, hv2⟩ := spec_l1Read.ex (bytesOf p2) (by rw [bytesOf_size]; have := s3 p2 (by simp); omega)
      obtain ⟨o, ho, hc⟩ := ih (i + 1) (acc ++ [(⟨v0, v1, v2⟩ : S77)]) (by omega) (by rw [List.length_append]; simp [ha])
      refine ⟨o, Ev.step (fun k => rfl) (Ev.yes (by omega) (Ev.yes (by omega) (Ev.yes (by omega) ?_))), ?_⟩
      · rw [rdOf_nat hlt]
        refine Ev.bind hs1 (Ev.yes (by simp) (Ev.yes (by simp) (Ev.bind hv0 (Ev.yes (by simp) (Ev.bind hv1 (Ev.yes (by simp) (Ev.bind hv2 (Ev.yes (by omega) ?_))))))))
        rw [show wrap64 ((i : Int) + 1) = ((i + 1 : Nat) : Int) from w64 (by omega) (by omega)]
        exact ho
      · rcases hc with ⟨cs, h1, h2⟩ | ⟨h1, x, h2, h4⟩
        · exact .inl ⟨⟨v0, v1, v2⟩ :: cs, ⟨⟨p0, p1, p2, hp, hv0, hv1, hv2⟩, h1⟩, by rw [h2, List.append_assoc]; rfl⟩
        · exact .inr ⟨h1, x, List.mem_cons_of_mem _ h2, h4⟩
    · refine ⟨(0, 0, [], false), Ev.step (fun k => rfl) (Ev.yes (by omega) (Ev.yes (by omega) (Ev.yes (by omega) ?_))), .inr ⟨rfl, xs[i], List.mem_cons_self, h3⟩⟩
      rw [rdOf_nat hlt]
      exact Ev.bind hs1 (Ev.no (by rw [List.length_map]; omega) (Ev.now _))
theorem Rd_back {c c' : S77} (h : TxtClue c) (hr : Rd (clueT c) c') : c' = c := by
  obtain ⟨p0, p1, p2, h1, e0, e1, e2⟩ := hr
  rw [clueT_bytes, clueU_split h] at h1
  have g0 := (List.cons.inj h1).1
  have g1 := (List.cons.inj (List.cons.inj h1).2).1
  have g2 := (List.cons.inj (List.cons.inj (List.cons.inj h1).2).2).1
  subst g0; subst g1; subst g2
  obtain ⟨h0, h1, h2⟩ := h
  rw [← bytes_eq (a := decB c.f0) rfl] at e0
  rw [← bytes_eq (a := decB c.f1) rfl] at e1
  rw [← bytes_eq (a := decB c.f2) rfl] at e2
  have f0 := Ev.un e0 (spec_l1Read.num h0.1 h0.2)
  have f1 := Ev.un e1 (spec_l1Read.num h1.1 h1.2)
  have f2 := Ev.un e2 (spec_l1Read.num h2.1 h2.2)
  cases c'; cases c
  simp only at f0 f1 f2
  rw [f0, f1, f2]
theorem RdL_back : ∀ (l cs : List S77), (∀ c ∈ l, TxtClue c) → RdL (l.map clueT) cs → cs = l
  | [], [], _, _ => rfl
  | [], _ :: _, _, h => absurd h (by unfold RdL; simp)
  | _ :: _, [], _, h => absurd h (by unfold RdL; simp)
  | c :: l, c' :: cs, ht, h => by
    obtain ⟨h1, h2⟩ := h
    rw [Rd_back (ht c List.mem_cons_self) h1, RdL_back l cs (fun x hx => ht x (List.mem_cons_of_mem _ hx)) h2]
theorem spec_ParsePuzzle.ev (s : ByteArray) (hs : s.size ≤ 1048576) : ∃ w d l, Ev (fun k => spec_ParsePuzzle.f k s) (qqV w d l s) ∧ OwnZ w d l s := by
  unfold spec_ParsePuzzle.f spec_pzParse.f
  have hz := Lib.size_eq s
  obtain ⟨p1, p2, p3⟩ := splL_len 58 s.data.toList
  have hsp := spec_l1Split.ev 58 s hs
  have fin : ∀ (o : Int × Int × List S77 × Bool) (w d : Int) (l : List S77), (if o.2.2.2 = true then (o.1, o.2.1, o.2.2.1, true) else (0, 0, [], false)) = qqV w d l s → Ev (fun _ => if o.2.2.2 = true then some (o.1, o.2.1, o.2.2.1, true) else some (0, 0, [], false)) (qqV w d l s) := fun o w d l h => by
    rw [← h]
    by_cases c : o.2.2.2 = true
    · exact Ev.yes c (Ev.id (if_pos c).symm)
    · exact Ev.no c (Ev.id (if_neg c).symm)
  have bad : Ev (fun k => spec_pzParse.j0 k s ((splL 58 s.data.toList).map bytesOf) true) ((0, 0, [], false) : Int × Int × List S77 × Bool) := by
    refine Ev.step (fun k => rfl) ?_
    simp only [spec_pzParse.j0]
    first | exact Ev.yes rfl (Ev.now _) | exact Ev.yes trivial (Ev.now _) | exact Ev.now _
  have byt : ∀ w' d' l', puzzleB w' d' l' = true → puzzleT w' d' l' = s → splL 58 s.data.toList = [lockU w' d', cluesU l'] ∧ splL 120 (lockU w' d') = [(decB w').data.toList, (decB d').data.toList] ∧ ((0 ≤ w' ∧ w' < 1000) ∧ 0 ≤ d' ∧ d' < 1000) ∧ ∀ c ∈ l', TxtClue c := by
    intro w' d' l' h1 h2
    obtain ⟨a1, a2, a3⟩ := puzzleB_txt h1
    obtain ⟨b1, _⟩ := smallB_iff.mp a1
    have hb2 := puzzleT_bytes w' d' l'
    rw [h2] at hb2
    refine ⟨?_, ?_, by omega, a3⟩
    · rw [hb2, splL_app (lockU_ne (by omega) (by omega)), splL_no (cluesU_ne a3)]
    · unfold lockU
      rw [splL_app (decB_ne (by omega) (by omega) (by decide)), splL_no (decB_ne (by omega) (by omega) (by decide))]
  by_cases hb : (s.size : Int) > 100
  · exact ⟨0, 0, [], Ev.bind (Ev.bind hsp (Ev.yes hb bad)) (fin _ _ _ _ (qqV_none s).symm), OwnZ.of_big hb⟩
  · by_cases h2 : (splL 58 s.data.toList).length = 2
    · obtain ⟨P0, P1, hP⟩ := two_ h2
      rw [hP] at p3
      have b0 := p3 P0 (by simp)
      have b1 := p3 P1 (by simp)
      have hs0 := spec_l1Split.ev 120 (bytesOf P0) (by rw [bytesOf_size]; omega)
      rw [bytesOf_data] at hs0
      obtain ⟨_, _, r3⟩ := splL_len 120 P0
      by_cases h3 : (splL 120 P0).length = 2
      · obtain ⟨Z0, Z1, hQ⟩ := two_ h3
        rw [hQ] at r3
        obtain ⟨w, hw⟩ := spec_l1Read.ex (bytesOf Z0) (by rw [bytesOf_size]; have := r3 Z0 (by simp); omega)
        obtain ⟨d, hd⟩ := spec_l1Read.ex (bytesOf Z1) (by rw [bytesOf_size]; have := r3 Z1 (by simp); omega)
        have back : ∀ w' d' l', puzzleB w' d' l' = true → puzzleT w' d' l' = s → w = w' ∧ d = d' ∧ P1 = cluesU l' ∧ ∀ c ∈ l', TxtClue c := by
          intro w' d' l' h1 h4
          obtain ⟨y1, y2, y3, y4⟩ := byt w' d' l' h1 h4
          rw [hP] at y1
          have g0 := (List.cons.inj y1).1
          have g1 := (List.cons.inj (List.cons.inj y1).2).1
          rw [← g0, hQ] at y2
          have k0 := (List.cons.inj y2).1
          have k1 := (List.cons.inj (List.cons.inj y2).2).1
          rw [k0, ← bytes_eq (a := decB w') rfl] at hw
          rw [k1, ← bytes_eq (a := decB d') rfl] at hd
          exact ⟨Ev.un hw (spec_l1Read.num y3.1.1 y3.1.2), Ev.un hd (spec_l1Read.num y3.2.1 y3.2.2), g1, y4⟩
        have enter : ∀ o, Ev (fun k => (if ((rdOf ByteArray.empty [bytesOf P0, bytesOf P1] 1).size : Int) > 0 then ((spec_l1Split.f k (rdOf ByteArray.empty [bytesOf P0, bytesOf P1] 1) 44).bind fun t333 => (spec_pzParse.l0 k s t333 (t333.length : Int) 0 w d ([] : List S77))) else ((spec_pzGood.f k w d ([] : List S77)).bind fun t351 => (if t351 = true then ((spec_pzText.f k w d ([] : List S77)).bind fun t352 => (some (w, d, ([] : List S77), (t352.toList == s.toList)))) else (some (w, d, ([] : List S77), false)))))) o → Ev (fun k => spec_pzParse.j0 k s ((splL 58 s.data.toList).map bytesOf) (((((splL 58 s.data.toList).map bytesOf).length : Int)) != 2)) o := by
          intro o ho
          rw [hP]
          refine Ev.step (fun k => rfl) ?_
          simp only [spec_pzParse.j0]
          refine Ev.no (by simp) (Ev.yes (by simp) (Ev.bind hs0 ?_))
          rw [hQ]
          exact Ev.yes (by simp) (Ev.yes (by simp) (Ev.bind hw (Ev.yes (by simp) (Ev.bind hd (Ev.yes (by simp) ho)))))
        have hr1 : rdOf ByteArray.empty [bytesOf P0, bytesOf P1] 1 = bytesOf P1 := rfl
        by_cases hn : P1 = []
        · refine ⟨w, d, [], Ev.bind (Ev.bind hsp (Ev.no hb (enter (kqV w d [] s) ?_))) (fin (kqV w d [] s) _ _ _ (kq_qq w d [] s)), fun w' d' l' h1 h4 => ?_⟩
          · rw [hr1]
            exact Ev.no (by rw [bytesOf_size, hn]; simp) (kqV.ev s w d [] (by simp))
          · obtain ⟨c1, c2, c3, _⟩ := back w' d' l' h1 h4
            exact ⟨c1, c2, (cluesU_nil.mp (c3.symm.trans hn)).symm⟩
        · have hs1 := spec_l1Split.ev 44 (bytesOf P1) (by rw [bytesOf_size]; omega)
          rw [bytesOf_data] at hs1
          obtain ⟨_, s2, s3⟩ := splL_len 44 P1
          have hx : ∀ x ∈ (splL 44 P1).map bytesOf, x.size ≤ 1048576 := fun x hx => by
            obtain ⟨y, hy, rfl⟩ := List.mem_map.mp hx
            have := s3 y hy
            rw [bytesOf_size]; omega
          have hpos : 0 < P1.length := List.length_pos_iff.mpr hn
          obtain ⟨o, ho, hc⟩ := spec_pzParse.lev s w d ((splL 44 P1).map bytesOf) hx (by rw [List.length_map]; omega) ((splL 44 P1).map bytesOf).length 0 [] (by omega) rfl
          have hj : Ev (fun k => spec_pzParse.j0 k s ((splL 58 s.data.toList).map bytesOf) (((((splL 58 s.data.toList).map bytesOf).length : Int)) != 2)) o := enter o (by
            rw [hr1]
            exact Ev.yes (by rw [bytesOf_size]; omega) (Ev.bind hs1 ho))
          have parts : ∀ l' : List S77, P1 = cluesU l' → (∀ c ∈ l', TxtClue c) → (splL 44 P1).map bytesOf = l'.map clueT := fun l' e ht => by
            rw [e, cluesU_split (fun h => hn (e.trans (cluesU_nil.mpr h))) ht, map_clueU]
          rcases hc with ⟨cs, h4, h5⟩ | ⟨h4, x, h5, h6⟩
          · rw [List.nil_append] at h5
            subst h5
            refine ⟨w, d, cs, Ev.bind (Ev.bind hsp (Ev.no hb hj)) (fin (kqV w d cs s) _ _ _ (kq_qq w d cs s)), fun w' d' l' h1 h7 => ?_⟩
            obtain ⟨c1, c2, c3, c4⟩ := back w' d' l' h1 h7
            rw [List.drop_zero, parts l' c3 c4] at h4
            exact ⟨c1, c2, RdL_back l' cs c4 h4⟩
          · subst h4
            refine ⟨0, 0, [], Ev.bind (Ev.bind hsp (Ev.no hb hj)) (fin (0, 0, [], false) _ _ _ (qqV_none s).symm), fun w' d' l' h1 h7 => ?_⟩
            obtain ⟨c1, c2, c3, c4⟩ := back w' d' l' h1 h7
            rw [List.drop_zero, parts l' c3 c4] at h5
            obtain ⟨c, hc, rfl⟩ := List.mem_map.mp h5
            rw [clueT_bytes, clueU_split (c4 c hc)] at h6
            exact absurd rfl h6
      · refine ⟨0, 0, [], Ev.bind (Ev.bind hsp (Ev.no hb ?_)) (fin (0, 0, [], false) _ _ _ (qqV_none s).symm), fun w' d' l' h1 h4 => ?_⟩
        · rw [hP]
          refine Ev.step (fun k => rfl) ?_
          simp only [spec_pzParse.j0]
          exact Ev.no (by simp) (Ev.yes (by simp) (Ev.bind hs0 (Ev.no (by rw [List.length_map]; omega) (Ev.now _))))
        · obtain ⟨y1, y2, _, _⟩ := byt w' d' l' h1 h4
          rw [hP] at y1
          rw [(List.cons.inj y1).1, y2] at h3
          exact absurd rfl h3
    · refine ⟨0, 0, [], Ev.bind (Ev.bind hsp (Ev.no hb ?_)) (fin (0, 0, [], false) _ _ _ (qqV_none s).symm), fun w' d' l' h1 h4 => ?_⟩
      · have e : ((((splL 58 s.data.toList).map bytesOf).length : Int) != 2) = true := by
          rw [List.length_map, bne_iff_ne]; omega
        rw [e]; exact bad
      · obtain ⟨y1, _, _, _⟩ := byt w' d' l' h1 h4
        rw [y1] at h2
        exact absurd rfl h2
theorem qqV_len (w d : Int) (l : List S77) (s : ByteArray) : (qqV w d l s).2.2.1.length ≤ 6 := by
  unfold qqV
  by_cases h : puzzleB w d l = true ∧ puzzleT w d l = s
  · rw [if_pos h]
    exact (puzzleB_txt h.1).2.1
  · rw [if_neg h]; exact Nat.zero_le _
theorem pure_FnExactParsePuzzle (s : ByteArray) (_ : StrV s) : ∃ k, laws_FnExactParsePuzzle.f k s = some true := by
  refine Ev.rounds ?_
  unfold laws_FnExactParsePuzzle.f
  by_cases hz : (s.size : Int) > 1048576
  · exact Ev.yes hz (Ev.now _)
  · obtain ⟨w1, d1, l1, hi, o1⟩ := impl_ParsePuzzle.ev s (by omega)
    obtain ⟨w2, d2, l2, hs, o2⟩ := spec_ParsePuzzle.ev s (by omega)
    rw [qqV_own o2 o1] at hs
    have q1 := qqV_len w1 d1 l1 s
    generalize qqV w1 d1 l1 s = V at hs hi q1
    obtain ⟨rw_, rd_, R, ok⟩ := V
    have q1 : R.length ≤ 6 := q1
    have he := laws_eqPuzzle.ev rw_ rd_ R (by omega)
    obtain ⟨R', hm, hh⟩ := laws_markPuzzle.ev rw_ rd_ R 1 (by omega) (by omega)
    refine Ev.no hz (Ev.bind hs (Ev.bind hi (Ev.bind he (Ev.yes rfl (Ev.step (fun k => rfl) ?_)))))
    simp only [laws_FnExactParsePuzzle.j0]
    refine Ev.no (by simp) (Ev.bind hm (Ev.bind hh (Ev.no (by omega) (Ev.yes rfl (Ev.bind hi (Ev.bind he (Ev.yes rfl (Ev.step (fun k => rfl) ?_))))))))
    simp only [laws_FnExactParsePuzzle.j1]
    exact Ev.no (by simp) (Ev.bind hh (Ev.no (by omega) (Ev.yes rfl (Ev.now _))))
/-! A row that lists variables and keeps the world's shape; what a listed variable of an interface type holds. -/
section
variable {H : Type} {enc : TypeId × Value → H}
theorem handed_and_shaped {a : Assume} {C : Checked} {os : Os} {f : FuncId} {fn : Func} {s : ChangeSpec} {conds : List PathCond} {apart fresh handsOn again : Bool} {X : World → Array Value → Prop}
    (hX : ∀ (w w' : World) (args : Array Value), w.heap = w'.heap → X w args → X w' args)
    (own : ownKnob C.prog.godebug = none) (started : os.Started) (noInit : C.prog.inits.idxOf? f = none) (hfn : C.prog.funcs[f]? = some fn)
    (witness : ∃ (w : World) (tape : Tape) (i : Input), w.os = os ∧ (w.forCall tape i).Shaped C.prog ∧ i.vars = [] ∧ Input.okWide C.prog (w.forCall tape i) .any w.heap.size f i ∧
      ((s.pre enc C.prog fn conds apart (w.forCall tape i).memory i.args ∧ X (w.forCall tape i).memory i.args) ∧ sizedMet enc C.prog fn (OpenSpec.ofChange s) apart (w.forCall tape i).memory i.args) ∧ a.holds C.prog (lone (Frame.enter C.prog f i.args .normal) [] (w.forCall tape i)))
    (contract : ∀ (W : World) (base : Nat) (args : Array Value) (ds gs : List (DataW H)) (before : List MemPlace),
      (∀ (j : Nat) t v, fn.params[j]? = some t → args[j]? = some v → Value.okWide C.prog W .any base t v) →
      DataW.Whole enc C.prog fn.params.toList s.vars apart W args.toList ds gs before →
      conds.all (PathCond.test C.prog ⟨fn.params.toList, ds, s.plain.varTypes C.prog, gs⟩) = true →
      (DataW.weightsEach C.prog (fn.params.toList ++ s.plain.varTypes C.prog) (ds ++ gs)).all (· ≤ reachBytes) = true → X W args → W.ShapedOpen C.prog →
      a.holds C.prog (lone (Frame.enter C.prog f args .normal) [] W) →
      Calls C.prog f args W fun e W' => ∃ v, e = .returned v ∧ s.post enc C.prog fn apart fresh handsOn again W args v W') :
    ReturnsInHanded a C os f .any (fun w args => (s.pre enc C.prog fn conds apart w args ∧ X w args) ∧ sizedMet enc C.prog fn (OpenSpec.ofChange s) apart w args) (s.post enc C.prog fn apart fresh handsOn again) := by
  refine returnsInHanded_of_calls own started noInit witness ?_
  intro w tape i _ hsh _ hok hpre hholds
  obtain ⟨_, _, _, fn', hfn', _, _, _, _, hval⟩ := hok
  have e : fn' = fn := Option.some.inj (hfn'.symm.trans hfn)
  subst e
  obtain ⟨⟨⟨ds, gs, before, hw, hc⟩, hx⟩, hz⟩ := hpre
  have hw' := DataW.Whole.of_heap (w' := w.forCall tape i) (by rfl) hw
  refine (contract (w.forCall tape i) w.heap.size i.args ds gs before hval hw' hc (hz.weights hw) (hX _ _ _ (by rfl) hx) hsh hholds).mono fun e W' ⟨v, he, hp⟩ => ?_
  subst he
  exact ChangeSpec.post_blind hp
end
theorem laid_iface {P : Program} {n nm : String} {d : DataW Unit} {r : List (String × DataW Unit)} {W : World} {g : Nat} {ti : TypeId} {ms : Array (String × TypeId)}
    (h : laidMet P ((n, .iface nm d) :: r) W) (hg : P.globalNamed n = some g) (ht : (P.globals[g]?).map (·.type) = some ti) (hi : P.underlying ti = some (.interface ms)) : ∃ te pe, W.cell? ⟨g, 0, none⟩ = some (.iface te pe) := by
  obtain ⟨ps, ⟨g0, t0, cs0, f0, p0, q0, hg0, ht0, hv0, hd0, _, e0⟩, _, hrows⟩ := h
  obtain rfl := Option.some.inj (hg.symm.trans hg0)
  obtain rfl := Option.some.inj (ht.symm.trans ht0)
  obtain ⟨l0⟩ := cs0
  obtain ⟨_, u, v, rfl, _⟩ := iface_of_trod hi hd0
  exact ⟨u, v, by simpa using World.var?_cell hg0 hv0 0⟩
end Go.Proofs.YthhobofmfjdgbaaDoor.P