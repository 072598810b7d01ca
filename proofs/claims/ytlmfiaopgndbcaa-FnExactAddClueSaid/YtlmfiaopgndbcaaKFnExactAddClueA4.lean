import Derived.Test.YtlmfiaopgndbcaaKFnExactAddClueA0
import Derived.Test.YtlmfiaopgndbcaaKFnExactAddClueA1
import Derived.Test.YtlmfiaopgndbcaaKFnExactAddClueA2
import Derived.Test.YtlmfiaopgndbcaaKFnExactAddClueA3
import Derived.Lib.SliceRun
import Derived.RegionTactic
import Derived.ChangeAlike
import Derived.BigRegion
import Derived.Laws.RangeString
import Derived.Deep.RegionHeld3
import Derived.Shelf.Abstract
import Derived.Laws.StructEq
namespace Go.Proofs.Ytlmfiaopgndbcaa.P
open Go.RowKit Go.Proofs.YtlmfiaopgndbcaaW.PrintWords Go.Proofs.YtlmfiaopgndbcaaW.PrintLast Go.Proofs.YtlmfiaopgndbcaaW.PrintMore
attribute [local go_sem] max2_int min2_int max_two min_two max_three min_three max_four min_four
set_option linter.unusedVariables false
set_option linter.unusedSimpArgs false
/-! ### laws_FnExactAddClue: function 3 -/
mutual
def laws_FnExactAddClue.j0 : Nat → Bool → Bool → Bool → Int → Int → List (S28) → Int → Int → Int → Int → Int → List (S37) → Int → Int → List (S37) → Int → Int → List (S37) → Option (Bool)
 | 0, _, _, _, _, _, _, _, _, _, _, _, _, _, _, _, _, _, _ => none
 | k + 1, x7, x10, x46, x363000, x363001, x363002, x364000, x364001, x364002, x380000, x380001, x380002, x386000, x386001, x386002, x396000, x396001, x396002 => if x46 = true then (none) else ((laws_toPuzzle.f k x363000 x363001 x363002).bind fun bt397 => ((laws_eqPuzzle.f k x386000 x386001 x386002 bt397.1 bt397.2.1 bt397.2.2).bind fun t402 => (if t402 = true then ((laws_markPuzzle.f k x386000 x386001 x386002 1).bind fun bt403 => (if bt403.1 < 0 then (none) else ((laws_eqPuzzle.f k x396000 x396001 x396002 x380000 x380001 x380002).bind fun t405 => (if t405 = true then (laws_FnExactAddClue.j1 k x7 (x10 != x7) x363000 x363001 x363002 x364000 x364001 x364002 x380000 x380001 x380002 x396000 x396001 x396002) else (none))))) else (none))))
def laws_FnExactAddClue.j1 : Nat → Bool → Bool → Int → Int → List (S28) → Int → Int → Int → Int → Int → List (S37) → Int → Int → List (S37) → Option (Bool)
 | 0, _, _, _, _, _, _, _, _, _, _, _, _, _, _ => none
 | k + 1, x7, x67, x363000, x363001, x363002, x364000, x364001, x364002, x380000, x380001, x380002, x396000, x396001, x396002 => if x67 = true then (none) else ((laws_markPuzzle.f k x396000 x396001 x396002 1).bind fun bt406 => ((laws_heldPuzzle.f k x396000 x396001 bt406.2 1).bind fun t408 => (if t408 < 0 then (none) else (if t408 = bt406.1 then ((laws_toPuzzle.f k x363000 x363001 x363002).bind fun bt409 => ((laws_toClue.f x364000 x364001 x364002).bind fun bt414 => ((impl_AddClue.f bt409.1 bt409.2.1 bt409.2.2 bt414.1 bt414.2.1 bt414.2.2).bind fun bt417 => ((laws_eqPuzzle.f k bt417.1 bt417.2.1 bt417.2.2.1 x380000 x380001 x380002).bind fun t424 => (if t424 = true then (laws_FnExactAddClue.j2 k bt406.1 (bt417.2.2.2 != x7) x396000 x396001 bt406.2) else (none)))))) else (none)))))
def laws_FnExactAddClue.j2 : Nat → Int → Bool → Int → Int → List (S37) → Option (Bool)
 | 0, _, _, _, _, _ => none
 | k + 1, x12, x95, x396000, x396001, x396002 => if x95 = true then (none) else ((laws_heldPuzzle.f k x396000 x396001 x396002 1).bind fun t425 => (if t425 < 0 then (none) else (if t425 = x12 then (some true) else (none))))
end
def laws_FnExactAddClue.f (k : Nat) (a0_0 : Int) (a0_1 : Int) (l0_2 : List (S28)) (a1_0 : Int) (a1_1 : Int) (a1_2 : Int) : Option (Bool) := (laws_szPuzzle.f a0_0 a0_1 l0_2 1048576).bind fun t364 => (if t364 < 0 then (some true) else ((laws_toPuzzle.f k a0_0 a0_1 l0_2).bind fun bt365 => ((laws_toClue.f a1_0 a1_1 a1_2).bind fun bt370 => ((spec_AddClue.f k bt365.1 bt365.2.1 bt365.2.2 bt370.1 bt370.2.1 bt370.2.2).bind fun bt373 => ((laws_toPuzzle.f k a0_0 a0_1 l0_2).bind fun bt380 => ((laws_toClue.f a1_0 a1_1 a1_2).bind fun bt386 => ((impl_AddClue.f bt380.1 bt380.2.1 bt380.2.2 bt386.1 bt386.2.1 bt386.2.2).bind fun bt389 => ((laws_eqPuzzle.f k bt389.1 bt389.2.1 bt389.2.2.1 bt373.1 bt373.2.1 bt373.2.2.1).bind fun t396 => (if t396 = true then (laws_FnExactAddClue.j0 k bt373.2.2.2 bt389.2.2.2 (bt389.2.2.2 != bt373.2.2.2) a0_0 a0_1 l0_2 a1_0 a1_1 a1_2 bt373.1 bt373.2.1 bt373.2.2.1 bt380.1 bt380.2.1 bt380.2.2 bt389.1 bt389.2.1 bt389.2.2.1) else (none))))))))))
def laws_FnExactAddClue.T5 : Bool × List (List Nat × List Nat) := (true, [([], []), ([0], [0]), ([], []), ([2, 1], [2]), ([1, 3, 3], [1, 3]), ([4], [4]), ([5], [5]), ([5], [5]), ([], []), ([8, 6, 4, 0, 1, 2, 3, 4, 5, 6, 8], [6, 8]), ([7, 9, 0, 1, 2, 3, 4, 5, 6, 7, 8, 9], [7])])
def laws_FnExactAddClue.B5 : List Nat := [0, 1, 0, 7, 15, 31, 63, 63, 0, 383, 1023]
theorem laws_FnExactAddClue.tab5 : rtab .any (opsOf Try.f3 5) = laws_FnExactAddClue.T5 := by kernel_rfl
theorem laws_FnExactAddClue.bits5 : waitsOk laws_FnExactAddClue.T5.2 laws_FnExactAddClue.B5 = true := by kernel_rfl
def laws_FnExactAddClue.T7 : Bool × List (List Nat × List Nat) := (true, [([], []), ([], []), ([1], [1]), ([0, 2, 2], [0, 2]), ([3], [3]), ([4], [4]), ([4], [4]), ([], []), ([7, 5, 3, 0, 1, 2, 3, 4, 5, 7], [5, 7]), ([6, 8, 0, 1, 2, 3, 4, 5, 6, 7, 8], [6])])
def laws_FnExactAddClue.B7 : List Nat := [0, 0, 2, 7, 15, 31, 31, 0, 191, 511]
theorem laws_FnExactAddClue.tab7 : rtab .any (opsOf Try.f3 7) = laws_FnExactAddClue.T7 := by kernel_rfl
theorem laws_FnExactAddClue.bits7 : waitsOk laws_FnExactAddClue.T7.2 laws_FnExactAddClue.B7 = true := by kernel_rfl
def laws_FnExactAddClue.T24 : Bool × List (List Nat × List Nat) := (true, [([], []), ([0], [0]), ([], []), ([2, 1], [2]), ([1, 3, 3], [1, 3]), ([4], [4]), ([5], [5]), ([5], [5]), ([], []), ([8, 6, 4, 0, 1, 2, 3, 4, 5, 6, 8], [6, 8]), ([7, 9, 0, 1, 2, 3, 4, 5, 6, 7, 8, 9], [7])])
def laws_FnExactAddClue.B24 : List Nat := [0, 1, 0, 7, 15, 31, 63, 63, 0, 383, 1023]
theorem laws_FnExactAddClue.tab24 : rtab .any (opsOf Try.f3 24) = laws_FnExactAddClue.T24 := by kernel_rfl
theorem laws_FnExactAddClue.bits24 : waitsOk laws_FnExactAddClue.T24.2 laws_FnExactAddClue.B24 = true := by kernel_rfl
set_option maxHeartbeats 8000000 in
set_option maxRecDepth 100000 in
theorem laws_FnExactAddClue.calls (k : Nat) (a0_0 : Int) (a0_1 : Int) (A0_2 : Option Addr) (c0_2 : Nat) (l0_2 : List (S28)) (a1_0 : Int) (a1_1 : Int) (a1_2 : Int) (r : Bool) (w : World) (hr0_2 : Kd.C k28 w A0_2 l0_2.length l0_2) (hc0_2 : l0_2.length ≤ c0_2) (h : laws_FnExactAddClue.f k a0_0 a0_1 l0_2 a1_0 a1_1 a1_2 = some r) :
  Calls Try.prog 3 #[.agg #[.int .i64 a0_0, .int .i64 a0_1, .slice A0_2 l0_2.length c0_2], .agg #[.int .i64 a1_0, .int .i64 a1_1, .int .i64 a1_2]] w fun e w' => e = .returned (.bool r) ∧ Below w.heap.size w w' := by
 have hu26 := Try.underlying26
 have hu28 := Try.underlying28
 have hu33 := Try.underlying33
 have HR0_2 := amk hr0_2
 have HC0_2 := amk hc0_2
 clear hr0_2 hc0_2
 have HB := amk (Below.refl w.heap.size w)
 have H : ((laws_szPuzzle.f a0_0 a0_1 l0_2 1048576).bind fun t364 => (if t364 < 0 then (some true) else ((laws_toPuzzle.f k a0_0 a0_1 l0_2).bind fun bt365 => ((laws_toClue.f a1_0 a1_1 a1_2).bind fun bt370 => ((spec_AddClue.f k bt365.1 bt365.2.1 bt365.2.2 bt370.1 bt370.2.1 bt370.2.2).bind fun bt373 => ((laws_toPuzzle.f k a0_0 a0_1 l0_2).bind fun bt380 => ((laws_toClue.f a1_0 a1_1 a1_2).bind fun bt386 => ((impl_AddClue.f bt380.1 bt380.2.1 bt380.2.2 bt386.1 bt386.2.1 bt386.2.2).bind fun bt389 => ((laws_eqPuzzle.f k bt389.1 bt389.2.1 bt389.2.2.1 bt373.1 bt373.2.1 bt373.2.2.1).bind fun t396 => (if t396 = true then (laws_FnExactAddClue.j0 k bt373.2.2.2 bt389.2.2.2 (bt389.2.2.2 != bt373.2.2.2) a0_0 a0_1 l0_2 a1_0 a1_1 a1_2 bt373.1 bt373.2.1 bt373.2.2.1 bt380.1 bt380.2.1 bt380.2.2 bt389.1 bt389.2.1 bt389.2.2.1) else (none))))))))))) = some r := h
 clear h
 replace H := Option.bind_eq_some_iff.mp H
 obtain ⟨t364, A30, H⟩ := H
 replace H : (if t364 < 0 then (some true) else ((laws_toPuzzle.f k a0_0 a0_1 l0_2).bind fun bt365 => ((laws_toClue.f a1_0 a1_1 a1_2).bind fun bt370 => ((spec_AddClue.f k bt365.1 bt365.2.1 bt365.2.2 bt370.1 bt370.2.1 bt370.2.2).bind fun bt373 => ((laws_toPuzzle.f k a0_0 a0_1 l0_2).bind fun bt380 => ((laws_toClue.f a1_0 a1_1 a1_2).bind fun bt386 => ((impl_AddClue.f bt380.1 bt380.2.1 bt380.2.2 bt386.1 bt386.2.1 bt386.2.2).bind fun bt389 => ((laws_eqPuzzle.f k bt389.1 bt389.2.1 bt389.2.2.1 bt373.1 bt373.2.1 bt373.2.2.1).bind fun t396 => (if t396 = true then (laws_FnExactAddClue.j0 k bt373.2.2.2 bt389.2.2.2 (bt389.2.2.2 != bt373.2.2.2) a0_0 a0_1 l0_2 a1_0 a1_1 a1_2 bt373.1 bt373.2.1 bt373.2.2.1 bt380.1 bt380.2.1 bt380.2.2 bt389.1 bt389.2.1 bt389.2.2.1) else (none)))))))))) = some r := H
 have A3 := amk A30
 clear A30
 by_cases c4 : t364 < 0
 · rw [if_pos c4] at H
  have c4b0 : decide (t364 < 0) = true := decide_eq_true c4
  clear c4
  obtain rfl := Option.some.inj H
  go_enter Try.func3, Try.ntmps3
  go_wp2_with (first | ((with_reducible refine gate_dst (N := 2) rfl ?_); refine box_event ?hg (N := 2) ?hd (cs := #[.int .i64 a0_0, .int .i64 a0_1, .slice A0_2 l0_2.length c0_2]) (t := 26) ?hr ?_; (case hd => rfl); (case hg => rfl); (case hr => first | (go_simp; done) | (go_simp; rfl)); intro gb362 hg w5 hbox hb; have n0_ := amk (bp_ (by repeat (first | (with_reducible first | exact HB.out | apply ba_ | apply bn_ | apply bd_) | exact HB.out)) hb); have n1_ := amk (hbox); have n2_ := amk ((by rw [hg]; exact (below_size (by repeat (first | (with_reducible first | exact HB.out | apply ba_ | apply bn_ | apply bd_) | exact HB.out))) : w.heap.size ≤ gb362)); have n3_ := amk ((by rw [hg]; exact (below_size (by repeat (first | (with_reducible first | exact HB.out | apply ba_ | apply bn_ | apply bd_) | exact HB.out))) : w.heap.size ≤ gb362)); clear HB; have HB := n0_; have BK362 := n1_; have GW362 := n2_; have GE362 := n3_; clear n0_ n1_ n2_ n3_; clear hb hbox hg) | ((with_reducible refine gate_dst (N := 3) rfl ?_); refine box_event ?hg (N := 3) ?hd (cs := #[.int .i64 a1_0, .int .i64 a1_1, .int .i64 a1_2]) (t := 28) ?hr ?_; (case hd => rfl); (case hg => rfl); (case hr => first | (go_simp; done) | (go_simp; rfl)); intro gb363 hg w6 hbox hb; have n0_ := amk (blk_below (g := gb362) (o := .cells #[.int .i64 a0_0, .int .i64 a0_1, .slice A0_2 l0_2.length c0_2] 26 (0, 0)) (by (with_reducible repeat (first | refine kn_ ?_ _ | refine blk_drew ?_ | refine ka_ ?_ _)); exact BK362.out) hb); have n1_ := amk (bp_ (by repeat (first | (with_reducible first | exact HB.out | apply ba_ | apply bn_ | apply bd_ | refine bs_ ?_ GE362.out) | exact HB.out)) hb); have n2_ := amk (hbox); have n3_ := amk ((by rw [hg]; exact (below_size (by repeat (first | (with_reducible first | exact HB.out | apply ba_ | apply bn_ | apply bd_ | refine bs_ ?_ GE362.out) | exact HB.out))) : w.heap.size ≤ gb363)); have n4_ := amk ((by rw [hg]; exact (below_size (by repeat (first | (with_reducible first | exact HB.out | apply ba_ | apply bn_ | apply bd_ | refine bs_ ?_ GE362.out) | exact HB.out))) : w.heap.size ≤ gb363)); have n5_ := amk ((by rw [hg]; exact Nat.ne_of_lt (blk_lt (g := gb362) (o := .cells #[.int .i64 a0_0, .int .i64 a0_1, .slice A0_2 l0_2.length c0_2] 26 (0, 0)) (by (with_reducible repeat (first | refine kn_ ?_ _ | refine blk_drew ?_ | refine ka_ ?_ _)); exact BK362.out)) : gb362 ≠ gb363)); have n6_ := amk ((by rw [hg]; exact Nat.ne_of_gt (blk_lt (g := gb362) (o := .cells #[.int .i64 a0_0, .int .i64 a0_1, .slice A0_2 l0_2.length c0_2] 26 (0, 0)) (by (with_reducible repeat (first | refine kn_ ?_ _ | refine blk_drew ?_ | refine ka_ ?_ _)); exact BK362.out)) : gb363 ≠ gb362)); clear BK362; clear HB; have BK362 := n0_; have HB := n1_; have BK363 := n2_; have GW363 := n3_; have GE363 := n4_; have NB362_363 := n5_; have NB363_362 := n6_; clear n0_ n1_ n2_ n3_ n4_ n5_ n6_; clear hb hbox hg; have hnb7 := NB362_363.out; have hnc7 := NB363_362.out; have hcz8_0 : w6.cell? ⟨gb362, 0, none⟩ = some (.int .i64 a0_0) := (blk_cell BK362.out 0).trans rfl; have hcz8_1 : w6.cell? ⟨gb362, 1, none⟩ = some (.int .i64 a0_1) := (blk_cell BK362.out 1).trans rfl; have hcz8_2 : w6.cell? ⟨gb362, 2, none⟩ = some (.slice A0_2 l0_2.length c0_2) := (blk_cell BK362.out 2).trans rfl; have hfz8_0 := blk_frozen BK362.out 0; have hfz8_1 := blk_frozen BK362.out 1; have hfz8_2 := blk_frozen BK362.out 2) | ((with_reducible refine gate_callee (f := 6) rfl ?_); refine goesL_ (some 18) rfl rfl Try.func6 (by kernel_rfl) rfl #[.agg #[.int .i64 a0_0, .int .i64 a0_1, .slice A0_2 l0_2.length c0_2], .int .i64 1048576] rfl (by (try simp only [List.map_toArray, List.map_cons, List.map_nil]); first | done | rfl | (simp only [List.length_drop, List.length_take]; rfl)) ?_; (with_reducible refine (laws_szPuzzle.calls a0_0 a0_1 _ _ l0_2 1048576 t364 _ ?side1 ?side2 A3.out).mono ?_); (case side1 => repeat (first | exact (Kd.C_below HR0_2.out HB.out) | (with_reducible refine Kd.C_alloc ?_ _) | (with_reducible refine Kd.C_drewN ?_ _) | (with_reducible refine Kd.C_drew ?_))); (case side2 => exact HC0_2.out); rintro e w9 ⟨rfl, hb⟩; refine ⟨_, rfl, ?_⟩; have n0_ := amk (blk_below (g := gb362) (o := .cells #[.int .i64 a0_0, .int .i64 a0_1, .slice A0_2 l0_2.length c0_2] 26 (0, 0)) (by (with_reducible repeat (first | refine kn_ ?_ _ | refine blk_drew ?_ | refine ka_ ?_ _)); exact BK362.out) hb); have n1_ := amk (blk_below (g := gb363) (o := .cells #[.int .i64 a1_0, .int .i64 a1_1, .int .i64 a1_2] 28 (0, 0)) (by (with_reducible repeat (first | refine kn_ ?_ _ | refine blk_drew ?_ | refine ka_ ?_ _)); exact BK363.out) hb); have n2_ := amk (bp_ (by repeat (first | (with_reducible first | exact HB.out | apply ba_ | apply bn_ | apply bd_ | refine bs_ ?_ GE362.out | refine bs_ ?_ GE363.out) | exact HB.out)) hb); clear BK362; clear BK363; clear HB; have BK362 := n0_; have BK363 := n1_; have HB := n2_; clear n0_ n1_ n2_; (try clear hb); (try clear hb2); (try clear hk); (try clear hi)))
  go_ret
  exact ⟨by first | rfl | (simp [errW_none, errW_some] <;> rfl) | (simp [*, errW_none, errW_some] <;> rfl), by repeat (first | (with_reducible first | exact HB.out | apply ba_ | apply bn_ | apply bd_ | refine bs_ ?_ GE362.out | refine bs_ ?_ GE363.out) | exact HB.out)⟩
 · rw [if_neg c4] at H
  have c4b0 : decide (t364 < 0) = false := decide_eq_false c4
  clear c4
  replace H := Option.bind_eq_some_iff.mp H
  obtain ⟨⟨t365, t366, t367⟩, A100, H⟩ := H
  replace H : ((laws_toClue.f a1_0 a1_1 a1_2).bind fun bt370 => ((spec_AddClue.f k t365 t366 t367 bt370.1 bt370.2.1 bt370.2.2).bind fun bt373 => ((laws_toPuzzle.f k a0_0 a0_1 l0_2).bind fun bt380 => ((laws_toClue.f a1_0 a1_1 a1_2).bind fun bt386 => ((impl_AddClue.f bt380.1 bt380.2.1 bt380.2.2 bt386.1 bt386.2.1 bt386.2.2).bind fun bt389 => ((laws_eqPuzzle.f k bt389.1 bt389.2.1 bt389.2.2.1 bt373.1 bt373.2.1 bt373.2.2.1).bind fun t396 => (if t396 = true then (laws_FnExactAddClue.j0 k bt373.2.2.2 bt389.2.2.2 (bt389.2.2.2 != bt373.2.2.2) a0_0 a0_1 l0_2 a1_0 a1_1 a1_2 bt373.1 bt373.2.1 bt373.2.2.1 bt380.1 bt380.2.1 bt380.2.2 bt389.1 bt389.2.1 bt389.2.2.1) else (none)))))))) = some r := H
  have A10 := amk A100
  clear A100
  replace H := Option.bind_eq_some_iff.mp H
  obtain ⟨⟨t370, t371, t372⟩, A110, H⟩ := H
  replace H : ((spec_AddClue.f k t365 t366 t367 t370 t371 t372).bind fun bt373 => ((laws_toPuzzle.f k a0_0 a0_1 l0_2).bind fun bt380 => ((laws_toClue.f a1_0 a1_1 a1_2).bind fun bt386 => ((impl_AddClue.f bt380.1 bt380.2.1 bt380.2.2 bt386.1 bt386.2.1 bt386.2.2).bind fun bt389 => ((laws_eqPuzzle.f k bt389.1 bt389.2.1 bt389.2.2.1 bt373.1 bt373.2.1 bt373.2.2.1).bind fun t396 => (if t396 = true then (laws_FnExactAddClue.j0 k bt373.2.2.2 bt389.2.2.2 (bt389.2.2.2 != bt373.2.2.2) a0_0 a0_1 l0_2 a1_0 a1_1 a1_2 bt373.1 bt373.2.1 bt373.2.2.1 bt380.1 bt380.2.1 bt380.2.2 bt389.1 bt389.2.1 bt389.2.2.1) else (none))))))) = some r := H
  have A11 := amk A110
  clear A110
  replace H := Option.bind_eq_some_iff.mp H
  obtain ⟨⟨t373, t374, t375, t378⟩, A120, H⟩ := H
  replace H : ((laws_toPuzzle.f k a0_0 a0_1 l0_2).bind fun bt380 => ((laws_toClue.f a1_0 a1_1 a1_2).bind fun bt386 => ((impl_AddClue.f bt380.1 bt380.2.1 bt380.2.2 bt386.1 bt386.2.1 bt386.2.2).bind fun bt389 => ((laws_eqPuzzle.f k bt389.1 bt389.2.1 bt389.2.2.1 t373 t374 t375).bind fun t396 => (if t396 = true then (laws_FnExactAddClue.j0 k t378 bt389.2.2.2 (bt389.2.2.2 != t378) a0_0 a0_1 l0_2 a1_0 a1_1 a1_2 t373 t374 t375 bt380.1 bt380.2.1 bt380.2.2 bt389.1 bt389.2.1 bt389.2.2.1) else (none)))))) = some r := H
  have A12 := amk A120
  clear A120
  replace H := Option.bind_eq_some_iff.mp H
  obtain ⟨⟨t380, t381, t382⟩, A130, H⟩ := H
  replace H : ((laws_toClue.f a1_0 a1_1 a1_2).bind fun bt386 => ((impl_AddClue.f t380 t381 t382 bt386.1 bt386.2.1 bt386.2.2).bind fun bt389 => ((laws_eqPuzzle.f k bt389.1 bt389.2.1 bt389.2.2.1 t373 t374 t375).bind fun t396 => (if t396 = true then (laws_FnExactAddClue.j0 k t378 bt389.2.2.2 (bt389.2.2.2 != t378) a0_0 a0_1 l0_2 a1_0 a1_1 a1_2 t373 t374 t375 t380 t381 t382 bt389.1 bt389.2.1 bt389.2.2.1) else (none))))) = some r := H
  have A13 := amk A130
  clear A130
  replace H := Option.bind_eq_some_iff.mp H
  obtain ⟨⟨t386, t387, t388⟩, A140, H⟩ := H
  replace H : ((impl_AddClue.f t380 t381 t382 t386 t387 t388).bind fun bt389 => ((laws_eqPuzzle.f k bt389.1 bt389.2.1 bt389.2.2.1 t373 t374 t375).bind fun t396 => (if t396 = true then (laws_FnExactAddClue.j0 k t378 bt389.2.2.2 (bt389.2.2.2 != t378) a0_0 a0_1 l0_2 a1_0 a1_1 a1_2 t373 t374 t375 t380 t381 t382 bt389.1 bt389.2.1 bt389.2.2.1) else (none)))) = some r := H
  have A14 := amk A140
  clear A140
  replace H := Option.bind_eq_some_iff.mp H
  obtain ⟨⟨t389, t390, t391, t394⟩, A150, H⟩ := H
  replace H : ((laws_eqPuzzle.f k t389 t390 t391 t373 t374 t375).bind fun t396 => (if t396 = true then (laws_FnExactAddClue.j0 k t378 t394 (t394 != t378) a0_0 a0_1 l0_2 a1_0 a1_1 a1_2 t373 t374 t375 t380 t381 t382 t389 t390 t391) else (none))) = some r := H
  have A15 := amk A150
  clear A150
  have HC16 := amk H
  clear H
  go_enter Try.func3, Try.ntmps3
  try go_wp2_with (first | ((with_reducible refine gate_dst (N := 2) rfl ?_); refine box_event ?hg (N := 2) ?hd (cs := #[.int .i64 a0_0, .int .i64 a0_1, .slice A0_2 l0_2.length c0_2]) (t := 26) ?hr ?_; (case hd => rfl); (case hg => rfl); (case hr => first | (go_simp; done) | (go_simp; rfl)); intro gb362 hg w17 hbox hb; have n0_ := amk (bp_ (by repeat (first | (with_reducible first | exact HB.out | apply ba_ | apply bn_ | apply bd_) | exact HB.out)) hb); have n1_ := amk (hbox); have n2_ := amk ((by rw [hg]; exact (below_size (by repeat (first | (with_reducible first | exact HB.out | apply ba_ | apply bn_ | apply bd_) | exact HB.out))) : w.heap.size ≤ gb362)); have n3_ := amk ((by rw [hg]; exact (below_size (by repeat (first | (with_reducible first | exact HB.out | apply ba_ | apply bn_ | apply bd_) | exact HB.out))) : w.heap.size ≤ gb362)); clear HB; have HB := n0_; have BK362 := n1_; have GW362 := n2_; have GE362 := n3_; clear n0_ n1_ n2_ n3_; clear hb hbox hg) | ((with_reducible refine gate_dst (N := 3) rfl ?_); refine box_event ?hg (N := 3) ?hd (cs := #[.int .i64 a1_0, .int .i64 a1_1, .int .i64 a1_2]) (t := 28) ?hr ?_; (case hd => rfl); (case hg => rfl); (case hr => first | (go_simp; done) | (go_simp; rfl)); intro gb363 hg w18 hbox hb; have n0_ := amk (blk_below (g := gb362) (o := .cells #[.int .i64 a0_0, .int .i64 a0_1, .slice A0_2 l0_2.length c0_2] 26 (0, 0)) (by (with_reducible repeat (first | refine kn_ ?_ _ | refine blk_drew ?_ | refine ka_ ?_ _)); exact BK362.out) hb); have n1_ := amk (bp_ (by repeat (first | (with_reducible first | exact HB.out | apply ba_ | apply bn_ | apply bd_ | refine bs_ ?_ GE362.out) | exact HB.out)) hb); have n2_ := amk (hbox); have n3_ := amk ((by rw [hg]; exact (below_size (by repeat (first | (with_reducible first | exact HB.out | apply ba_ | apply bn_ | apply bd_ | refine bs_ ?_ GE362.out) | exact HB.out))) : w.heap.size ≤ gb363)); have n4_ := amk ((by rw [hg]; exact (below_size (by repeat (first | (with_reducible first | exact HB.out | apply ba_ | apply bn_ | apply bd_ | refine bs_ ?_ GE362.out) | exact HB.out))) : w.heap.size ≤ gb363)); have n5_ := amk ((by rw [hg]; exact Nat.ne_of_lt (blk_lt (g := gb362) (o := .cells #[.int .i64 a0_0, .int .i64 a0_1, .slice A0_2 l0_2.length c0_2] 26 (0, 0)) (by (with_reducible repeat (first | refine kn_ ?_ _ | refine blk_drew ?_ | refine ka_ ?_ _)); exact BK362.out)) : gb362 ≠ gb363)); have n6_ := amk ((by rw [hg]; exact Nat.ne_of_gt (blk_lt (g := gb362) (o := .cells #[.int .i64 a0_0, .int .i64 a0_1, .slice A0_2 l0_2.length c0_2] 26 (0, 0)) (by (with_reducible repeat (first | refine kn_ ?_ _ | refine blk_drew ?_ | refine ka_ ?_ _)); exact BK362.out)) : gb363 ≠ gb362)); clear BK362; clear HB; have BK362 := n0_; have HB := n1_; have BK363 := n2_; have GW363 := n3_; have GE363 := n4_; have NB362_363 := n5_; have NB363_362 := n6_; clear n0_ n1_ n2_ n3_ n4_ n5_ n6_; clear hb hbox hg; have hnb19 := NB362_363.out; have hnc19 := NB363_362.out; have hcz20_0 : w18.cell? ⟨gb362, 0, none⟩ = some (.int .i64 a0_0) := (blk_cell BK362.out 0).trans rfl; have hcz20_1 : w18.cell? ⟨gb362, 1, none⟩ = some (.int .i64 a0_1) := (blk_cell BK362.out 1).trans rfl; have hcz20_2 : w18.cell? ⟨gb362, 2, none⟩ = some (.slice A0_2 l0_2.length c0_2) := (blk_cell BK362.out 2).trans rfl; have hfz20_0 := blk_frozen BK362.out 0; have hfz20_1 := blk_frozen BK362.out 1; have hfz20_2 := blk_frozen BK362.out 2) | ((with_reducible refine gate_callee (f := 6) rfl ?_); refine goesL_ (some 18) rfl rfl Try.func6 (by kernel_rfl) rfl #[.agg #[.int .i64 a0_0, .int .i64 a0_1, .slice A0_2 l0_2.length c0_2], .int .i64 1048576] rfl (by (try simp only [List.map_toArray, List.map_cons, List.map_nil]); first | done | rfl | (simp only [List.length_drop, List.length_take]; rfl)) ?_; (with_reducible refine (laws_szPuzzle.calls a0_0 a0_1 _ _ l0_2 1048576 t364 _ ?side1 ?side2 A3.out).mono ?_); (case side1 => repeat (first | exact (Kd.C_below HR0_2.out HB.out) | (with_reducible refine Kd.C_alloc ?_ _) | (with_reducible refine Kd.C_drewN ?_ _) | (with_reducible refine Kd.C_drew ?_))); (case side2 => exact HC0_2.out); rintro e w21 ⟨rfl, hb⟩; refine ⟨_, rfl, ?_⟩; have n0_ := amk (blk_below (g := gb362) (o := .cells #[.int .i64 a0_0, .int .i64 a0_1, .slice A0_2 l0_2.length c0_2] 26 (0, 0)) (by (with_reducible repeat (first | refine kn_ ?_ _ | refine blk_drew ?_ | refine ka_ ?_ _)); exact BK362.out) hb); have n1_ := amk (blk_below (g := gb363) (o := .cells #[.int .i64 a1_0, .int .i64 a1_1, .int .i64 a1_2] 28 (0, 0)) (by (with_reducible repeat (first | refine kn_ ?_ _ | refine blk_drew ?_ | refine ka_ ?_ _)); exact BK363.out) hb); have n2_ := amk (bp_ (by repeat (first | (with_reducible first | exact HB.out | apply ba_ | apply bn_ | apply bd_ | refine bs_ ?_ GE362.out | refine bs_ ?_ GE363.out) | exact HB.out)) hb); clear BK362; clear BK363; clear HB; have BK362 := n0_; have BK363 := n1_; have HB := n2_; clear n0_ n1_ n2_; (try clear hb); (try clear hb2); (try clear hk); (try clear hi)))
  have n0_ := amk (blk_drew BK362.out)
  have n1_ := amk (blk_drew BK363.out)
  have n2_ := amk (bd_ HB.out)
  clear BK362 BK363 HB
  have BK362 := n0_
  have BK363 := n1_
  have HB := n2_
  clear n0_ n1_ n2_
  refine start_ (n := 11) (S := fun w' => w'.cell? ⟨gb362, 0, none⟩ = some (.int .i64 a0_0) ∧ w'.cell? ⟨gb362, 1, none⟩ = some (.int .i64 a0_1) ∧ w'.cell? ⟨gb362, 2, none⟩ = some (.slice A0_2 l0_2.length c0_2) ∧ w'.cell? ⟨gb363, 0, none⟩ = some (.int .i64 a1_0) ∧ w'.cell? ⟨gb363, 1, none⟩ = some (.int .i64 a1_1) ∧ w'.cell? ⟨gb363, 2, none⟩ = some (.int .i64 a1_2)) (ds := []) #[false, false, false, false, false, false, false, false, false, false, false] (by kernel_rfl) rfl rfl ⟨(blk_cell BK362.out 0).trans rfl, (blk_cell BK362.out 1).trans rfl, (blk_cell BK362.out 2).trans rfl, (blk_cell BK363.out 0).trans rfl, (blk_cell BK363.out 1).trans rfl, (blk_cell BK363.out 2).trans rfl⟩ (fun hHeld => ?_); refine with_tabW laws_FnExactAddClue.tab5 laws_FnExactAddClue.bits5 (fun HT_ HW_ => ?_)
  generalize w21.drew = w22 at BK362 BK363 HB hHeld ⊢
  refine take_ (i := 0) (N := some 22) (v := ?_) (a' := ?_) #[true, false, false, false, false, false, false, false, false, false, false] rfl rfl (take_ofW HT_.out HW_.out (by kernel_rfl)) (fun _ _ _ h => h) (Or.inl ⟨by rfl, ?_⟩) hHeld ?_ ?_
  rotate_left
  · rintro w' ⟨s0, s1, s2, s3, s4, s5⟩
   go_simp
   with_reducible rfl
  rotate_left
  · simp only [Act.put, List.setIfInBounds_toArray, List.set_cons_zero, List.set_cons_succ, i64_w, i32_w]
   rfl
  refine take_ (i := 2) (N := some 24) (v := ?_) (a' := ?_) #[true, false, true, false, false, false, false, false, false, false, false] rfl rfl (take_ofW HT_.out HW_.out (by kernel_rfl)) (fun _ _ _ h => h) (Or.inl ⟨by rfl, ?_⟩) hHeld ?_ ?_
  rotate_left
  · rintro w' ⟨s0, s1, s2, s3, s4, s5⟩
   go_simp
   with_reducible rfl
  rotate_left
  · simp only [Act.put, List.setIfInBounds_toArray, List.set_cons_zero, List.set_cons_succ, i64_w, i32_w]
   rfl
  refine join_ (σ := Value × Value × Nat) 2 #[true, true, true, true, true, true, true, true, true, false, false] (fun s_ => [(23, .agg #[.int .i64 t365, .int .i64 t366, s_.1]), (25, .agg #[.int .i64 t370, .int .i64 t371, .int .i64 t372]), (26, .tuple #[.agg #[.int .i64 t373, .int .i64 t374, s_.2.1], .bool t378]), (6, .pointer (some ⟨s_.2.2, 0, none⟩)), (21, .tuple #[.agg #[.int .i64 t373, .int .i64 t374, s_.2.1], .bool t378]), (27, .agg #[.int .i64 t373, .int .i64 t374, s_.2.1]), (28, .bool t378)]) (fun s_ w' => (w'.cell? ⟨gb362, 0, none⟩ = some (.int .i64 a0_0) ∧ w'.cell? ⟨gb362, 1, none⟩ = some (.int .i64 a0_1) ∧ w'.cell? ⟨gb362, 2, none⟩ = some (.slice A0_2 l0_2.length c0_2) ∧ w'.cell? ⟨gb363, 0, none⟩ = some (.int .i64 a1_0) ∧ w'.cell? ⟨gb363, 1, none⟩ = some (.int .i64 a1_1) ∧ w'.cell? ⟨gb363, 2, none⟩ = some (.int .i64 a1_2)) ∧ (Kd.R k37 37 w' w.heap.size (fun k_ => some k_ ≠ (s_.2.1 : Value).ownBlock) s_.1 t367) ∧ (Kd.R k37 37 w' w.heap.size (fun k_ => some k_ ≠ (s_.1 : Value).ownBlock) s_.2.1 t375) ∧ (w'.heap[gb362]? = some (.cells #[.int .i64 a0_0, .int .i64 a0_1, .slice A0_2 l0_2.length c0_2] 26 (0, 0))) ∧ (w'.heap[gb363]? = some (.cells #[.int .i64 a1_0, .int .i64 a1_1, .int .i64 a1_2] 28 (0, 0))) ∧ (w'.heap[s_.2.2]? = some (.cells #[.int .i64 0, .int .i64 0, .slice none 0 0] 33 (0, 0))) ∧ (w.heap.size ≤ s_.2.2) ∧ (w.heap.size ≤ s_.2.2) ∧ (gb362 ≠ s_.2.2) ∧ (s_.2.2 ≠ gb362) ∧ (gb363 ≠ s_.2.2) ∧ (s_.2.2 ≠ gb363) ∧ (Below w.heap.size w w')) ?_ ?_
  rotate_left
  · intro hCont
   refine two_ (i := 1) (j := 8) (Ni := some 23) (Nj := some 6) #[true, true, true, false, false, false, false, false, false, false, false] #[true, false, true, false, false, false, false, false, true, false, false] rfl rfl rfl rfl (two_of HT_.out (by kernel_rfl)) (by decide) (by decide) (fun K hK => ?_) (fun K hK => ?_)
   · skip
    refine goes_ Try.func8 (by kernel_rfl) rfl #[.agg #[.int .i64 a0_0, .int .i64 a0_1, .slice A0_2 l0_2.length c0_2]] (by rfl) rfl rfl (by (try simp only [List.map_toArray, List.map_cons, List.map_nil]); first | done | rfl | (simp only [List.length_drop, List.length_take]; rfl)) ?_
    with_reducible refine (laws_toPuzzle.calls k a0_0 a0_1 _ _ l0_2 t365 t366 t367 _ ?side1 ?side2 A10.out).mono ?_
    (case side1 => repeat (first | exact (Kd.C_below HR0_2.out HB.out) | (with_reducible refine Kd.C_alloc ?_ _) | (with_reducible refine Kd.C_drewN ?_ _) | (with_reducible refine Kd.C_drew ?_)))
    (case side2 => exact HC0_2.out)
    rintro e w23 ⟨v368, rfl, ho0, hb⟩
    refine ⟨_, rfl, ?_⟩
    have n0_ := amk (Kd.R_lower ho0 (below_size HB.out))
    have n1_ := amk (blk_below BK362.out hb)
    have n2_ := amk (blk_below BK363.out hb)
    have n3_ := amk (bp_ HB.out hb)
    clear BK362 BK363 HB
    have HO369 := n0_
    have BK362 := n1_
    have BK363 := n2_
    have HB := n3_
    clear n0_ n1_ n2_ n3_
    (try clear hb)
    (try clear hb2)
    (try clear hk)
    (try clear hi)
    (try clear ho0)
    refine hK.out _ _ ⟨(blk_cell BK362.out 0).trans rfl, (blk_cell BK362.out 1).trans rfl, (blk_cell BK362.out 2).trans rfl, (blk_cell BK363.out 0).trans rfl, (blk_cell BK363.out 1).trans rfl, (blk_cell BK363.out 2).trans rfl⟩ (fun hHeld => ?_)
    clear hK K
    refine norm_ (a' := ?_) ?_ ?_
    rotate_left
    · show Act.put _ (some 23) _ = _
     simp only [Act.put, List.setIfInBounds_toArray, List.set_cons_zero, List.set_cons_succ, i64_w, i32_w]
     rfl
    refine two_ (i := 3) (j := 8) (Ni := some 25) (Nj := some 6) #[true, true, true, true, false, false, false, false, false, false, false] #[true, true, true, false, false, false, false, false, true, false, false] rfl rfl rfl rfl (two_of HT_.out (by kernel_rfl)) (by decide) (by decide) (fun K hK => ?_) (fun K hK => ?_)
    · skip
     refine goes_ Try.func9 (by kernel_rfl) rfl #[.agg #[.int .i64 a1_0, .int .i64 a1_1, .int .i64 a1_2]] (by rfl) rfl rfl (by (try simp only [List.map_toArray, List.map_cons, List.map_nil]); first | done | rfl | (simp only [List.length_drop, List.length_take]; rfl)) ?_
     with_reducible refine (laws_toClue.calls a1_0 a1_1 a1_2 t370 t371 t372 _ A11.out).mono ?_
     rintro e w24 ⟨rfl, hb⟩
     refine ⟨_, rfl, ?_⟩
     have n0_ := amk (Kd.R_below HO369.out hb)
     have n1_ := amk (blk_below BK362.out hb)
     have n2_ := amk (blk_below BK363.out hb)
     have n3_ := amk (bp_ HB.out hb)
     clear HO369 BK362 BK363 HB
     have HO369 := n0_
     have BK362 := n1_
     have BK363 := n2_
     have HB := n3_
     clear n0_ n1_ n2_ n3_
     (try clear hb)
     (try clear hb2)
     (try clear hk)
     (try clear hi)
     obtain ⟨Ao25, co25, eo25⟩ := Kd.R_slice HO369.out
     (first | subst eo25 | (injection eo25 with f1_ f2_ f3_; have f4_ := f1_.symm; have f5_ := f3_.symm; clear f1_ f2_ f3_; subst f4_; subst f5_))
     refine hK.out _ _ ⟨(blk_cell BK362.out 0).trans rfl, (blk_cell BK362.out 1).trans rfl, (blk_cell BK362.out 2).trans rfl, (blk_cell BK363.out 0).trans rfl, (blk_cell BK363.out 1).trans rfl, (blk_cell BK363.out 2).trans rfl⟩ (fun hHeld => ?_)
     clear hK K
     refine norm_ (a' := ?_) ?_ ?_
     rotate_left
     · show Act.put _ (some 25) _ = _
      simp only [Act.put, List.setIfInBounds_toArray, List.set_cons_zero, List.set_cons_succ, i64_w, i32_w]
      rfl
     refine two_ (i := 4) (j := 8) (Ni := some 26) (Nj := some 6) #[true, true, true, true, true, false, false, false, false, false, false] #[true, true, true, true, false, false, false, false, true, false, false] rfl rfl rfl rfl (two_of HT_.out (by kernel_rfl)) (by decide) (by decide) (fun K hK => ?_) (fun K hK => ?_)
     · skip
      refine goes_ Try.func7 (by kernel_rfl) rfl #[.agg #[.int .i64 t365, .int .i64 t366, .slice Ao25 t367.length co25], .agg #[.int .i64 t370, .int .i64 t371, .int .i64 t372]] (by rfl) rfl rfl (by (try simp only [List.map_toArray, List.map_cons, List.map_nil]); first | done | rfl | (simp only [List.length_drop, List.length_take]; rfl)) ?_
      with_reducible refine (spec_AddClue.calls k t365 t366 _ _ t367 t370 t371 t372 t373 t374 t375 t378 _ ?side1 ?side2 A12.out).mono ?_
      (case side1 => repeat (first | exact (Kd.R_reads' HO369.out).2.2 | (with_reducible refine Kd.C_alloc ?_ _) | (with_reducible refine Kd.C_drewN ?_ _) | (with_reducible refine Kd.C_drew ?_)))
      (case side2 => exact (Kd.R_reads' HO369.out).2.1)
      rintro e w26 ⟨v376, rfl, ho0, hb⟩
      refine ⟨_, rfl, ?_⟩
      have n0_ := amk (Kd.R_elder' HO369.out (Kd.R_base ho0) hb)
      have n1_ := amk (Kd.R_lower (Kd.R_new' ho0 (Kd.R_lt HO369.out)) (below_size HB.out))
      have n2_ := amk (blk_below BK362.out hb)
      have n3_ := amk (blk_below BK363.out hb)
      have n4_ := amk (bp_ HB.out hb)
      clear HO369 BK362 BK363 HB
      have HO369 := n0_
      have HO377 := n1_
      have BK362 := n2_
      have BK363 := n3_
      have HB := n4_
      clear n0_ n1_ n2_ n3_ n4_
      (try clear hb)
      (try clear hb2)
      (try clear hk)
      (try clear hi)
      (try clear ho0)
      refine hK.out _ _ ⟨(blk_cell BK362.out 0).trans rfl, (blk_cell BK362.out 1).trans rfl, (blk_cell BK362.out 2).trans rfl, (blk_cell BK363.out 0).trans rfl, (blk_cell BK363.out 1).trans rfl, (blk_cell BK363.out 2).trans rfl⟩ (fun hHeld => ?_)
      clear hK K
      refine norm_ (a' := ?_) ?_ ?_
      rotate_left
      · show Act.put _ (some 26) _ = _
       simp only [Act.put, List.setIfInBounds_toArray, List.set_cons_zero, List.set_cons_succ, i64_w, i32_w]
       rfl
      refine pure_ (i := 5) (N := some 21) (v := ?_) (a' := ?_) #[true, true, true, true, true, true, false, false, false, false, false] rfl rfl (any_of HT_.out (by kernel_rfl)) (fun _ _ _ h => h) (Or.inl ⟨by rfl, ?_⟩) ?_ ?_
      rotate_left
      · intro w'
       go_simp
       with_reducible rfl
      rotate_left
      · simp only [Act.put, List.setIfInBounds_toArray, List.set_cons_zero, List.set_cons_succ, i64_w, i32_w]
       rfl
      refine pure_ (i := 6) (N := some 27) (v := ?_) (a' := ?_) #[true, true, true, true, true, true, true, false, false, false, false] rfl rfl (any_of HT_.out (by kernel_rfl)) (fun _ _ _ h => h) (Or.inl ⟨by rfl, ?_⟩) ?_ ?_
      rotate_left
      · intro w'
       go_simp
       with_reducible rfl
      rotate_left
      · simp only [Act.put, List.setIfInBounds_toArray, List.set_cons_zero, List.set_cons_succ, i64_w, i32_w]
       rfl
      refine pure_ (i := 7) (N := some 28) (v := ?_) (a' := ?_) #[true, true, true, true, true, true, true, true, false, false, false] rfl rfl (any_of HT_.out (by kernel_rfl)) (fun _ _ _ h => h) (Or.inl ⟨by rfl, ?_⟩) ?_ ?_
      rotate_left
      · intro w'
       go_simp
       with_reducible rfl
      rotate_left
      · simp only [Act.put, List.setIfInBounds_toArray, List.set_cons_zero, List.set_cons_succ, i64_w, i32_w]
       rfl
      refine one_ (i := 8) (N := some 6) #[true, true, true, true, true, true, true, true, true, false, false] rfl rfl (one_of HT_.out (by kernel_rfl)) (by decide) (fun K hK => ?_)
      refine box_step ?hg (N := 6) ?hd (cs := #[.int .i64 0, .int .i64 0, .slice none 0 0]) (t := 33) ?hr ?_; (case hd => rfl); (case hg => rfl); (case hr => first | (go_simp; done) | (go_simp; rfl))
      intro gb379 hg w27 hbox hb
      have n0_ := amk (Kd.R_below HO369.out hb)
      have n1_ := amk (Kd.R_below HO377.out hb)
      have n2_ := amk (blk_below BK362.out hb)
      have n3_ := amk (blk_below BK363.out hb)
      have n4_ := amk (bp_ HB.out hb)
      have n5_ := amk (hbox)
      have n6_ := amk ((by rw [hg]; exact (below_size HB.out) : w.heap.size ≤ gb379))
      have n7_ := amk ((by rw [hg]; exact (below_size HB.out) : w.heap.size ≤ gb379))
      have n8_ := amk ((by rw [hg]; exact Nat.ne_of_lt (blk_lt BK362.out) : gb362 ≠ gb379))
      have n9_ := amk ((by rw [hg]; exact Nat.ne_of_gt (blk_lt BK362.out) : gb379 ≠ gb362))
      have n10_ := amk ((by rw [hg]; exact Nat.ne_of_lt (blk_lt BK363.out) : gb363 ≠ gb379))
      have n11_ := amk ((by rw [hg]; exact Nat.ne_of_gt (blk_lt BK363.out) : gb379 ≠ gb363))
      clear HO369 HO377 BK362 BK363 HB
      have HO369 := n0_
      have HO377 := n1_
      have BK362 := n2_
      have BK363 := n3_
      have HB := n4_
      have BK379 := n5_
      have GW379 := n6_
      have GE379 := n7_
      have NB362_379 := n8_
      have NB379_362 := n9_
      have NB363_379 := n10_
      have NB379_363 := n11_
      clear n0_ n1_ n2_ n3_ n4_ n5_ n6_ n7_ n8_ n9_ n10_ n11_ hb hbox hg
      refine hK.out _ _ ⟨(blk_cell BK362.out 0).trans rfl, (blk_cell BK362.out 1).trans rfl, (blk_cell BK362.out 2).trans rfl, (blk_cell BK363.out 0).trans rfl, (blk_cell BK363.out 1).trans rfl, (blk_cell BK363.out 2).trans rfl⟩ (fun hHeld => ?_)
      clear hK K
      refine norm_ (a' := ?_) ?_ ?_
      rotate_left
      · show Act.put _ (some 6) _ = _
       simp only [Act.put, List.setIfInBounds_toArray, List.set_cons_zero, List.set_cons_succ, i64_w, i32_w]
       rfl
      exact norm_ (by simp only [putAll, Act.put, List.setIfInBounds_toArray, List.set_cons_zero, List.set_cons_succ]) (hCont (.slice Ao25 t367.length co25, v376, gb379) _ ⟨hHeld, (by (with_reducible repeat (first | apply Kd.R_alloc | apply Kd.R_drewN | apply Kd.R_drew)); exact Kd.R_mono HO369.out (fun _ hk => hk.2)), (by (with_reducible repeat (first | apply Kd.R_alloc | apply Kd.R_drewN | apply Kd.R_drew)); exact Kd.R_mono HO377.out (fun _ hk => hk.2)), BK362.out, BK363.out, BK379.out, GW379.out, GE379.out, NB362_379.out, NB379_362.out, NB363_379.out, NB379_363.out, HB.out⟩)
     · skip
      refine box_step ?hg (N := 6) ?hd (cs := #[.int .i64 0, .int .i64 0, .slice none 0 0]) (t := 33) ?hr ?_; (case hd => rfl); (case hg => rfl); (case hr => first | (go_simp; done) | (go_simp; rfl))
      intro gb379 hg w25 hbox hb
      have n0_ := amk (Kd.R_below HO369.out hb)
      have n1_ := amk (blk_below BK362.out hb)
      have n2_ := amk (blk_below BK363.out hb)
      have n3_ := amk (bp_ HB.out hb)
      have n4_ := amk (hbox)
      have n5_ := amk ((by rw [hg]; exact (below_size HB.out) : w.heap.size ≤ gb379))
      have n6_ := amk ((by rw [hg]; exact (below_size HB.out) : w.heap.size ≤ gb379))
      have n7_ := amk ((by rw [hg]; exact Nat.ne_of_lt (blk_lt BK362.out) : gb362 ≠ gb379))
      have n8_ := amk ((by rw [hg]; exact Nat.ne_of_gt (blk_lt BK362.out) : gb379 ≠ gb362))
      have n9_ := amk ((by rw [hg]; exact Nat.ne_of_lt (blk_lt BK363.out) : gb363 ≠ gb379))
      have n10_ := amk ((by rw [hg]; exact Nat.ne_of_gt (blk_lt BK363.out) : gb379 ≠ gb363))
      clear HO369 BK362 BK363 HB
      have HO369 := n0_
      have BK362 := n1_
      have BK363 := n2_
      have HB := n3_
      have BK379 := n4_
      have GW379 := n5_
      have GE379 := n6_
      have NB362_379 := n7_
      have NB379_362 := n8_
      have NB363_379 := n9_
      have NB379_363 := n10_
      clear n0_ n1_ n2_ n3_ n4_ n5_ n6_ n7_ n8_ n9_ n10_ hb hbox hg
      obtain ⟨Ao26, co26, eo26⟩ := Kd.R_slice HO369.out
      (first | subst eo26 | (injection eo26 with f1_ f2_ f3_; have f4_ := f1_.symm; have f5_ := f3_.symm; clear f1_ f2_ f3_; subst f4_; subst f5_))
      refine hK.out _ _ ⟨(blk_cell BK362.out 0).trans rfl, (blk_cell BK362.out 1).trans rfl, (blk_cell BK362.out 2).trans rfl, (blk_cell BK363.out 0).trans rfl, (blk_cell BK363.out 1).trans rfl, (blk_cell BK363.out 2).trans rfl⟩ (fun hHeld => ?_)
      clear hK K
      refine norm_ (a' := ?_) ?_ ?_
      rotate_left
      · show Act.put _ (some 6) _ = _
       simp only [Act.put, List.setIfInBounds_toArray, List.set_cons_zero, List.set_cons_succ, i64_w, i32_w]
       rfl
      refine one_ (i := 4) (N := some 26) #[true, true, true, true, true, false, false, false, true, false, false] rfl rfl (one_of HT_.out (by kernel_rfl)) (by decide) (fun K hK => ?_)
      refine goes_ Try.func7 (by kernel_rfl) rfl #[.agg #[.int .i64 t365, .int .i64 t366, .slice Ao26 t367.length co26], .agg #[.int .i64 t370, .int .i64 t371, .int .i64 t372]] (by rfl) rfl rfl (by (try simp only [List.map_toArray, List.map_cons, List.map_nil]); first | done | rfl | (simp only [List.length_drop, List.length_take]; rfl)) ?_
      with_reducible refine (spec_AddClue.calls k t365 t366 _ _ t367 t370 t371 t372 t373 t374 t375 t378 _ ?side1 ?side2 A12.out).mono ?_
      (case side1 => repeat (first | exact (Kd.R_reads' HO369.out).2.2 | (with_reducible refine Kd.C_alloc ?_ _) | (with_reducible refine Kd.C_drewN ?_ _) | (with_reducible refine Kd.C_drew ?_)))
      (case side2 => exact (Kd.R_reads' HO369.out).2.1)
      rintro e w27 ⟨v376, rfl, ho0, hb⟩
      refine ⟨_, rfl, ?_⟩
      have n0_ := amk (Kd.R_elder' HO369.out (Kd.R_base ho0) hb)
      have n1_ := amk (Kd.R_lower (Kd.R_new' ho0 (Kd.R_lt HO369.out)) (below_size HB.out))
      have n2_ := amk (blk_below BK362.out hb)
      have n3_ := amk (blk_below BK363.out hb)
      have n4_ := amk (blk_below BK379.out hb)
      have n5_ := amk (bp_ HB.out hb)
      clear HO369 BK362 BK363 BK379 HB
      have HO369 := n0_
      have HO377 := n1_
      have BK362 := n2_
      have BK363 := n3_
      have BK379 := n4_
      have HB := n5_
      clear n0_ n1_ n2_ n3_ n4_ n5_
      (try clear hb)
      (try clear hb2)
      (try clear hk)
      (try clear hi)
      (try clear ho0)
      refine hK.out _ _ ⟨(blk_cell BK362.out 0).trans rfl, (blk_cell BK362.out 1).trans rfl, (blk_cell BK362.out 2).trans rfl, (blk_cell BK363.out 0).trans rfl, (blk_cell BK363.out 1).trans rfl, (blk_cell BK363.out 2).trans rfl⟩ (fun hHeld => ?_)
      clear hK K
      refine norm_ (a' := ?_) ?_ ?_
      rotate_left
      · show Act.put _ (some 26) _ = _
       simp only [Act.put, List.setIfInBounds_toArray, List.set_cons_zero, List.set_cons_succ, i64_w, i32_w]
       rfl
      refine pure_ (i := 5) (N := some 21) (v := ?_) (a' := ?_) #[true, true, true, true, true, true, false, false, true, false, false] rfl rfl (any_of HT_.out (by kernel_rfl)) (fun _ _ _ h => h) (Or.inl ⟨by rfl, ?_⟩) ?_ ?_
      rotate_left
      · intro w'
       go_simp
       with_reducible rfl
      rotate_left
      · simp only [Act.put, List.setIfInBounds_toArray, List.set_cons_zero, List.set_cons_succ, i64_w, i32_w]
       rfl
      refine pure_ (i := 6) (N := some 27) (v := ?_) (a' := ?_) #[true, true, true, true, true, true, true, false, true, false, false] rfl rfl (any_of HT_.out (by kernel_rfl)) (fun _ _ _ h => h) (Or.inl ⟨by rfl, ?_⟩) ?_ ?_
      rotate_left
      · intro w'
       go_simp
       with_reducible rfl
      rotate_left
      · simp only [Act.put, List.setIfInBounds_toArray, List.set_cons_zero, List.set_cons_succ, i64_w, i32_w]
       rfl
      refine pure_ (i := 7) (N := some 28) (v := ?_) (a' := ?_) #[true, true, true, true, true, true, true, true, true, false, false] rfl rfl (any_of HT_.out (by kernel_rfl)) (fun _ _ _ h => h) (Or.inl ⟨by rfl, ?_⟩) ?_ ?_
      rotate_left
      · intro w'
       go_simp
       with_reducible rfl
      rotate_left
      · simp only [Act.put, List.setIfInBounds_toArray, List.set_cons_zero, List.set_cons_succ, i64_w, i32_w]
       rfl
      exact norm_ (by simp only [putAll, Act.put, List.setIfInBounds_toArray, List.set_cons_zero, List.set_cons_succ]) (hCont (.slice Ao26 t367.length co26, v376, gb379) _ ⟨hHeld, (by (with_reducible repeat (first | apply Kd.R_alloc | apply Kd.R_drewN | apply Kd.R_drew)); exact Kd.R_mono HO369.out (fun _ hk => hk.2)), (by (with_reducible repeat (first | apply Kd.R_alloc | apply Kd.R_drewN | apply Kd.R_drew)); exact Kd.R_mono HO377.out (fun _ hk => hk.2)), BK362.out, BK363.out, BK379.out, GW379.out, GE379.out, NB362_379.out, NB379_362.out, NB363_379.out, NB379_363.out, HB.out⟩)
    · skip
     refine box_step ?hg (N := 6) ?hd (cs := #[.int .i64 0, .int .i64 0, .slice none 0 0]) (t := 33) ?hr ?_; (case hd => rfl); (case hg => rfl); (case hr => first | (go_simp; done) | (go_simp; rfl))
     intro gb379 hg w24 hbox hb
     have n0_ := amk (Kd.R_below HO369.out hb)
     have n1_ := amk (blk_below BK362.out hb)
     have n2_ := amk (blk_below BK363.out hb)
     have n3_ := amk (bp_ HB.out hb)
     have n4_ := amk (hbox)
     have n5_ := amk ((by rw [hg]; exact (below_size HB.out) : w.heap.size ≤ gb379))
     have n6_ := amk ((by rw [hg]; exact (below_size HB.out) : w.heap.size ≤ gb379))
     have n7_ := amk ((by rw [hg]; exact Nat.ne_of_lt (blk_lt BK362.out) : gb362 ≠ gb379))
     have n8_ := amk ((by rw [hg]; exact Nat.ne_of_gt (blk_lt BK362.out) : gb379 ≠ gb362))
     have n9_ := amk ((by rw [hg]; exact Nat.ne_of_lt (blk_lt BK363.out) : gb363 ≠ gb379))
     have n10_ := amk ((by rw [hg]; exact Nat.ne_of_gt (blk_lt BK363.out) : gb379 ≠ gb363))
     clear HO369 BK362 BK363 HB
     have HO369 := n0_
     have BK362 := n1_
     have BK363 := n2_
     have HB := n3_
     have BK379 := n4_
     have GW379 := n5_
     have GE379 := n6_
     have NB362_379 := n7_
     have NB379_362 := n8_
     have NB363_379 := n9_
     have NB379_363 := n10_
     clear n0_ n1_ n2_ n3_ n4_ n5_ n6_ n7_ n8_ n9_ n10_ hb hbox hg
     refine hK.out _ _ ⟨(blk_cell BK362.out 0).trans rfl, (blk_cell BK362.out 1).trans rfl, (blk_cell BK362.out 2).trans rfl, (blk_cell BK363.out 0).trans rfl, (blk_cell BK363.out 1).trans rfl, (blk_cell BK363.out 2).trans rfl⟩ (fun hHeld => ?_)
     clear hK K
     refine norm_ (a' := ?_) ?_ ?_
     rotate_left
     · show Act.put _ (some 6) _ = _
      simp only [Act.put, List.setIfInBounds_toArray, List.set_cons_zero, List.set_cons_succ, i64_w, i32_w]
      rfl
     refine one_ (i := 3) (N := some 25) #[true, true, true, true, false, false, false, false, true, false, false] rfl rfl (one_of HT_.out (by kernel_rfl)) (by decide) (fun K hK => ?_)
     refine goes_ Try.func9 (by kernel_rfl) rfl #[.agg #[.int .i64 a1_0, .int .i64 a1_1, .int .i64 a1_2]] (by rfl) rfl rfl (by (try simp only [List.map_toArray, List.map_cons, List.map_nil]); first | done | rfl | (simp only [List.length_drop, List.length_take]; rfl)) ?_
     with_reducible refine (laws_toClue.calls a1_0 a1_1 a1_2 t370 t371 t372 _ A11.out).mono ?_
     rintro e w25 ⟨rfl, hb⟩
     refine ⟨_, rfl, ?_⟩
     have n0_ := amk (Kd.R_below HO369.out hb)
     have n1_ := amk (blk_below BK362.out hb)
     have n2_ := amk (blk_below BK363.out hb)
     have n3_ := amk (blk_below BK379.out hb)
     have n4_ := amk (bp_ HB.out hb)
     clear HO369 BK362 BK363 BK379 HB
     have HO369 := n0_
     have BK362 := n1_
     have BK363 := n2_
     have BK379 := n3_
     have HB := n4_
     clear n0_ n1_ n2_ n3_ n4_
     (try clear hb)
     (try clear hb2)
     (try clear hk)
     (try clear hi)
     obtain ⟨Ao26, co26, eo26⟩ := Kd.R_slice HO369.out
     (first | subst eo26 | (injection eo26 with f1_ f2_ f3_; have f4_ := f1_.symm; have f5_ := f3_.symm; clear f1_ f2_ f3_; subst f4_; subst f5_))
     refine hK.out _ _ ⟨(blk_cell BK362.out 0).trans rfl, (blk_cell BK362.out 1).trans rfl, (blk_cell BK362.out 2).trans rfl, (blk_cell BK363.out 0).trans rfl, (blk_cell BK363.out 1).trans rfl, (blk_cell BK363.out 2).trans rfl⟩ (fun hHeld => ?_)
     clear hK K
     refine norm_ (a' := ?_) ?_ ?_
     rotate_left
     · show Act.put _ (some 25) _ = _
      simp only [Act.put, List.setIfInBounds_toArray, List.set_cons_zero, List.set_cons_succ, i64_w, i32_w]
      rfl
     refine one_ (i := 4) (N := some 26) #[true, true, true, true, true, false, false, false, true, false, false] rfl rfl (one_of HT_.out (by kernel_rfl)) (by decide) (fun K hK => ?_)
     refine goes_ Try.func7 (by kernel_rfl) rfl #[.agg #[.int .i64 t365, .int .i64 t366, .slice Ao26 t367.length co26], .agg #[.int .i64 t370, .int .i64 t371, .int .i64 t372]] (by rfl) rfl rfl (by (try simp only [List.map_toArray, List.map_cons, List.map_nil]); first | done | rfl | (simp only [List.length_drop, List.length_take]; rfl)) ?_
     with_reducible refine (spec_AddClue.calls k t365 t366 _ _ t367 t370 t371 t372 t373 t374 t375 t378 _ ?side1 ?side2 A12.out).mono ?_
     (case side1 => repeat (first | exact (Kd.R_reads' HO369.out).2.2 | (with_reducible refine Kd.C_alloc ?_ _) | (with_reducible refine Kd.C_drewN ?_ _) | (with_reducible refine Kd.C_drew ?_)))
     (case side2 => exact (Kd.R_reads' HO369.out).2.1)
     rintro e w27 ⟨v376, rfl, ho0, hb⟩
     refine ⟨_, rfl, ?_⟩
     have n0_ := amk (Kd.R_elder' HO369.out (Kd.R_base ho0) hb)
     have n1_ := amk (Kd.R_lower (Kd.R_new' ho0 (Kd.R_lt HO369.out)) (below_size HB.out))
     have n2_ := amk (blk_below BK362.out hb)
     have n3_ := amk (blk_below BK363.out hb)
     have n4_ := amk (blk_below BK379.out hb)
     have n5_ := amk (bp_ HB.out hb)
     clear HO369 BK362 BK363 BK379 HB
     have HO369 := n0_
     have HO377 := n1_
     have BK362 := n2_
     have BK363 := n3_
     have BK379 := n4_
     have HB := n5_
     clear n0_ n1_ n2_ n3_ n4_ n5_
     (try clear hb)
     (try clear hb2)
     (try clear hk)
     (try clear hi)
     (try clear ho0)
     refine hK.out _ _ ⟨(blk_cell BK362.out 0).trans rfl, (blk_cell BK362.out 1).trans rfl, (blk_cell BK362.out 2).trans rfl, (blk_cell BK363.out 0).trans rfl, (blk_cell BK363.out 1).trans rfl, (blk_cell BK363.out 2).trans rfl⟩ (fun hHeld => ?_)
     clear hK K
     refine norm_ (a' := ?_) ?_ ?_
     rotate_left
     · show Act.put _ (some 26) _ = _
      simp only [Act.put, List.setIfInBounds_toArray, List.set_cons_zero, List.set_cons_succ, i64_w, i32_w]
      rfl
     refine pure_ (i := 5) (N := some 21) (v := ?_) (a' := ?_) #[true, true, true, true, true, true, false, false, true, false, false] rfl rfl (any_of HT_.out (by kernel_rfl)) (fun _ _ _ h => h) (Or.inl ⟨by rfl, ?_⟩) ?_ ?_
     rotate_left
     · intro w'
      go_simp
      with_reducible rfl
     rotate_left
     · simp only [Act.put, List.setIfInBounds_toArray, List.set_cons_zero, List.set_cons_succ, i64_w, i32_w]
      rfl
     refine pure_ (i := 6) (N := some 27) (v := ?_) (a' := ?_) #[true, true, true, true, true, true, true, false, true, false, false] rfl rfl (any_of HT_.out (by kernel_rfl)) (fun _ _ _ h => h) (Or.inl ⟨by rfl, ?_⟩) ?_ ?_
     rotate_left
     · intro w'
      go_simp
      with_reducible rfl
     rotate_left
     · simp only [Act.put, List.setIfInBounds_toArray, List.set_cons_zero, List.set_cons_succ, i64_w, i32_w]
      rfl
     refine pure_ (i := 7) (N := some 28) (v := ?_) (a' := ?_) #[true, true, true, true, true, true, true, true, true, false, false] rfl rfl (any_of HT_.out (by kernel_rfl)) (fun _ _ _ h => h) (Or.inl ⟨by rfl, ?_⟩) ?_ ?_
     rotate_left
     · intro w'
      go_simp
      with_reducible rfl
     rotate_left
     · simp only [Act.put, List.setIfInBounds_toArray, List.set_cons_zero, List.set_cons_succ, i64_w, i32_w]
      rfl
     exact norm_ (by simp only [putAll, Act.put, List.setIfInBounds_toArray, List.set_cons_zero, List.set_cons_succ]) (hCont (.slice Ao26 t367.length co26, v376, gb379) _ ⟨hHeld, (by (with_reducible repeat (first | apply Kd.R_alloc | apply Kd.R_drewN | apply Kd.R_drew)); exact Kd.R_mono HO369.out (fun _ hk => hk.2)), (by (with_reducible repeat (first | apply Kd.R_alloc | apply Kd.R_drewN | apply Kd.R_drew)); exact Kd.R_mono HO377.out (fun _ hk => hk.2)), BK362.out, BK363.out, BK379.out, GW379.out, GE379.out, NB362_379.out, NB379_362.out, NB363_379.out, NB379_363.out, HB.out⟩)
   · skip
    refine box_step ?hg (N := 6) ?hd (cs := #[.int .i64 0, .int .i64 0, .slice none 0 0]) (t := 33) ?hr ?_; (case hd => rfl); (case hg => rfl); (case hr => first | (go_simp; done) | (go_simp; rfl))
    intro gb379 hg w23 hbox hb
    have n0_ := amk (blk_below BK362.out hb)
    have n1_ := amk (blk_below BK363.out hb)
    have n2_ := amk (bp_ HB.out hb)
    have n3_ := amk (hbox)
    have n4_ := amk ((by rw [hg]; exact (below_size HB.out) : w.heap.size ≤ gb379))
    have n5_ := amk ((by rw [hg]; exact (below_size HB.out) : w.heap.size ≤ gb379))
    have n6_ := amk ((by rw [hg]; exact Nat.ne_of_lt (blk_lt BK362.out) : gb362 ≠ gb379))
    have n7_ := amk ((by rw [hg]; exact Nat.ne_of_gt (blk_lt BK362.out) : gb379 ≠ gb362))
    have n8_ := amk ((by rw [hg]; exact Nat.ne_of_lt (blk_lt BK363.out) : gb363 ≠ gb379))
    have n9_ := amk ((by rw [hg]; exact Nat.ne_of_gt (blk_lt BK363.out) : gb379 ≠ gb363))
    clear BK362 BK363 HB
    have BK362 := n0_
    have BK363 := n1_
    have HB := n2_
    have BK379 := n3_
    have GW379 := n4_
    have GE379 := n5_
    have NB362_379 := n6_
    have NB379_362 := n7_
    have NB363_379 := n8_
    have NB379_363 := n9_
    clear n0_ n1_ n2_ n3_ n4_ n5_ n6_ n7_ n8_ n9_ hb hbox hg
    refine hK.out _ _ ⟨(blk_cell BK362.out 0).trans rfl, (blk_cell BK362.out 1).trans rfl, (blk_cell BK362.out 2).trans rfl, (blk_cell BK363.out 0).trans rfl, (blk_cell BK363.out 1).trans rfl, (blk_cell BK363.out 2).trans rfl⟩ (fun hHeld => ?_)
    clear hK K
    refine norm_ (a' := ?_) ?_ ?_
    rotate_left
    · show Act.put _ (some 6) _ = _
     simp only [Act.put, List.setIfInBounds_toArray, List.set_cons_zero, List.set_cons_succ, i64_w, i32_w]
     rfl
    refine one_ (i := 1) (N := some 23) #[true, true, true, false, false, false, false, false, true, false, false] rfl rfl (one_of HT_.out (by kernel_rfl)) (by decide) (fun K hK => ?_)
    refine goes_ Try.func8 (by kernel_rfl) rfl #[.agg #[.int .i64 a0_0, .int .i64 a0_1, .slice A0_2 l0_2.length c0_2]] (by rfl) rfl rfl (by (try simp only [List.map_toArray, List.map_cons, List.map_nil]); first | done | rfl | (simp only [List.length_drop, List.length_take]; rfl)) ?_
    with_reducible refine (laws_toPuzzle.calls k a0_0 a0_1 _ _ l0_2 t365 t366 t367 _ ?side1 ?side2 A10.out).mono ?_
    (case side1 => repeat (first | exact (Kd.C_below HR0_2.out HB.out) | (with_reducible refine Kd.C_alloc ?_ _) | (with_reducible refine Kd.C_drewN ?_ _) | (with_reducible refine Kd.C_drew ?_)))
    (case side2 => exact HC0_2.out)
    rintro e w24 ⟨v368, rfl, ho0, hb⟩
    refine ⟨_, rfl, ?_⟩
    have n0_ := amk (Kd.R_lower ho0 (below_size HB.out))
    have n1_ := amk (blk_below BK362.out hb)
    have n2_ := amk (blk_below BK363.out hb)
    have n3_ := amk (blk_below BK379.out hb)
    have n4_ := amk (bp_ HB.out hb)
    clear BK362 BK363 BK379 HB
    have HO369 := n0_
    have BK362 := n1_
    have BK363 := n2_
    have BK379 := n3_
    have HB := n4_
    clear n0_ n1_ n2_ n3_ n4_
    (try clear hb)
    (try clear hb2)
    (try clear hk)
    (try clear hi)
    (try clear ho0)
    refine hK.out _ _ ⟨(blk_cell BK362.out 0).trans rfl, (blk_cell BK362.out 1).trans rfl, (blk_cell BK362.out 2).trans rfl, (blk_cell BK363.out 0).trans rfl, (blk_cell BK363.out 1).trans rfl, (blk_cell BK363.out 2).trans rfl⟩ (fun hHeld => ?_)
    clear hK K
    refine norm_ (a' := ?_) ?_ ?_
    rotate_left
    · show Act.put _ (some 23) _ = _
     simp only [Act.put, List.setIfInBounds_toArray, List.set_cons_zero, List.set_cons_succ, i64_w, i32_w]
     rfl
    refine one_ (i := 3) (N := some 25) #[true, true, true, true, false, false, false, false, true, false, false] rfl rfl (one_of HT_.out (by kernel_rfl)) (by decide) (fun K hK => ?_)
    refine goes_ Try.func9 (by kernel_rfl) rfl #[.agg #[.int .i64 a1_0, .int .i64 a1_1, .int .i64 a1_2]] (by rfl) rfl rfl (by (try simp only [List.map_toArray, List.map_cons, List.map_nil]); first | done | rfl | (simp only [List.length_drop, List.length_take]; rfl)) ?_
    with_reducible refine (laws_toClue.calls a1_0 a1_1 a1_2 t370 t371 t372 _ A11.out).mono ?_
    rintro e w25 ⟨rfl, hb⟩
    refine ⟨_, rfl, ?_⟩
    have n0_ := amk (Kd.R_below HO369.out hb)
    have n1_ := amk (blk_below BK362.out hb)
    have n2_ := amk (blk_below BK363.out hb)
    have n3_ := amk (blk_below BK379.out hb)
    have n4_ := amk (bp_ HB.out hb)
    clear HO369 BK362 BK363 BK379 HB
    have HO369 := n0_
    have BK362 := n1_
    have BK363 := n2_
    have BK379 := n3_
    have HB := n4_
    clear n0_ n1_ n2_ n3_ n4_
    (try clear hb)
    (try clear hb2)
    (try clear hk)
    (try clear hi)
    obtain ⟨Ao26, co26, eo26⟩ := Kd.R_slice HO369.out
    (first | subst eo26 | (injection eo26 with f1_ f2_ f3_; have f4_ := f1_.symm; have f5_ := f3_.symm; clear f1_ f2_ f3_; subst f4_; subst f5_))
    refine hK.out _ _ ⟨(blk_cell BK362.out 0).trans rfl, (blk_cell BK362.out 1).trans rfl, (blk_cell BK362.out 2).trans rfl, (blk_cell BK363.out 0).trans rfl, (blk_cell BK363.out 1).trans rfl, (blk_cell BK363.out 2).trans rfl⟩ (fun hHeld => ?_)
    clear hK K
    refine norm_ (a' := ?_) ?_ ?_
    rotate_left
    · show Act.put _ (some 25) _ = _
     simp only [Act.put, List.setIfInBounds_toArray, List.set_cons_zero, List.set_cons_succ, i64_w, i32_w]
     rfl
    refine one_ (i := 4) (N := some 26) #[true, true, true, true, true, false, false, false, true, false, false] rfl rfl (one_of HT_.out (by kernel_rfl)) (by decide) (fun K hK => ?_)
    refine goes_ Try.func7 (by kernel_rfl) rfl #[.agg #[.int .i64 t365, .int .i64 t366, .slice Ao26 t367.length co26], .agg #[.int .i64 t370, .int .i64 t371, .int .i64 t372]] (by rfl) rfl rfl (by (try simp only [List.map_toArray, List.map_cons, List.map_nil]); first | done | rfl | (simp only [List.length_drop, List.length_take]; rfl)) ?_
    with_reducible refine (spec_AddClue.calls k t365 t366 _ _ t367 t370 t371 t372 t373 t374 t375 t378 _ ?side1 ?side2 A12.out).mono ?_
    (case side1 => repeat (first | exact (Kd.R_reads' HO369.out).2.2 | (with_reducible refine Kd.C_alloc ?_ _) | (with_reducible refine Kd.C_drewN ?_ _) | (with_reducible refine Kd.C_drew ?_)))
    (case side2 => exact (Kd.R_reads' HO369.out).2.1)
    rintro e w27 ⟨v376, rfl, ho0, hb⟩
    refine ⟨_, rfl, ?_⟩
    have n0_ := amk (Kd.R_elder' HO369.out (Kd.R_base ho0) hb)
    have n1_ := amk (Kd.R_lower (Kd.R_new' ho0 (Kd.R_lt HO369.out)) (below_size HB.out))
    have n2_ := amk (blk_below BK362.out hb)
    have n3_ := amk (blk_below BK363.out hb)
    have n4_ := amk (blk_below BK379.out hb)
    have n5_ := amk (bp_ HB.out hb)
    clear HO369 BK362 BK363 BK379 HB
    have HO369 := n0_
    have HO377 := n1_
    have BK362 := n2_
    have BK363 := n3_
    have BK379 := n4_
    have HB := n5_
    clear n0_ n1_ n2_ n3_ n4_ n5_
    (try clear hb)
    (try clear hb2)
    (try clear hk)
    (try clear hi)
    (try clear ho0)
    refine hK.out _ _ ⟨(blk_cell BK362.out 0).trans rfl, (blk_cell BK362.out 1).trans rfl, (blk_cell BK362.out 2).trans rfl, (blk_cell BK363.out 0).trans rfl, (blk_cell BK363.out 1).trans rfl, (blk_cell BK363.out 2).trans rfl⟩ (fun hHeld => ?_)
    clear hK K
    refine norm_ (a' := ?_) ?_ ?_
    rotate_left
    · show Act.put _ (some 26) _ = _
     simp only [Act.put, List.setIfInBounds_toArray, List.set_cons_zero, List.set_cons_succ, i64_w, i32_w]
     rfl
    refine pure_ (i := 5) (N := some 21) (v := ?_) (a' := ?_) #[true, true, true, true, true, true, false, false, true, false, false] rfl rfl (any_of HT_.out (by kernel_rfl)) (fun _ _ _ h => h) (Or.inl ⟨by rfl, ?_⟩) ?_ ?_
    rotate_left
    · intro w'
     go_simp
     with_reducible rfl
    rotate_left
    · simp only [Act.put, List.setIfInBounds_toArray, List.set_cons_zero, List.set_cons_succ, i64_w, i32_w]
     rfl
    refine pure_ (i := 6) (N := some 27) (v := ?_) (a' := ?_) #[true, true, true, true, true, true, true, false, true, false, false] rfl rfl (any_of HT_.out (by kernel_rfl)) (fun _ _ _ h => h) (Or.inl ⟨by rfl, ?_⟩) ?_ ?_
    rotate_left
    · intro w'
     go_simp
     with_reducible rfl
    rotate_left
    · simp only [Act.put, List.setIfInBounds_toArray, List.set_cons_zero, List.set_cons_succ, i64_w, i32_w]
     rfl
    refine pure_ (i := 7) (N := some 28) (v := ?_) (a' := ?_) #[true, true, true, true, true, true, true, true, true, false, false] rfl rfl (any_of HT_.out (by kernel_rfl)) (fun _ _ _ h => h) (Or.inl ⟨by rfl, ?_⟩) ?_ ?_
    rotate_left
    · intro w'
     go_simp
     with_reducible rfl
    rotate_left
    · simp only [Act.put, List.setIfInBounds_toArray, List.set_cons_zero, List.set_cons_succ, i64_w, i32_w]
     rfl
    exact norm_ (by simp only [putAll, Act.put, List.setIfInBounds_toArray, List.set_cons_zero, List.set_cons_succ]) (hCont (.slice Ao26 t367.length co26, v376, gb379) _ ⟨hHeld, (by (with_reducible repeat (first | apply Kd.R_alloc | apply Kd.R_drewN | apply Kd.R_drew)); exact Kd.R_mono HO369.out (fun _ hk => hk.2)), (by (with_reducible repeat (first | apply Kd.R_alloc | apply Kd.R_drewN | apply Kd.R_drew)); exact Kd.R_mono HO377.out (fun _ hk => hk.2)), BK362.out, BK363.out, BK379.out, GW379.out, GE379.out, NB362_379.out, NB379_362.out, NB363_379.out, NB379_363.out, HB.out⟩)
  rintro ⟨v368, v376, gb379⟩ w28 ⟨hS_, h0_, h1_, h2_, h3_, h4_, h5_, h6_, h7_, h8_, h9_, h10_, h11_⟩
  have n0_ : Aside0 (Kd.R k37 37 w28 w.heap.size (fun k_ => some k_ ≠ (v376 : Value).ownBlock) v368 t367) := ⟨h0_⟩
  have n1_ : Aside0 (Kd.R k37 37 w28 w.heap.size (fun k_ => some k_ ≠ (v368 : Value).ownBlock) v376 t375) := ⟨h1_⟩
  have n2_ : Aside0 (w28.heap[gb362]? = some (.cells #[.int .i64 a0_0, .int .i64 a0_1, .slice A0_2 l0_2.length c0_2] 26 (0, 0))) := ⟨h2_⟩
  have n3_ : Aside0 (w28.heap[gb363]? = some (.cells #[.int .i64 a1_0, .int .i64 a1_1, .int .i64 a1_2] 28 (0, 0))) := ⟨h3_⟩
  have n4_ : Aside0 (w28.heap[gb379]? = some (.cells #[.int .i64 0, .int .i64 0, .slice none 0 0] 33 (0, 0))) := ⟨h4_⟩
  have n5_ : Aside0 (w.heap.size ≤ gb379) := ⟨h5_⟩
  have n6_ : Aside0 (w.heap.size ≤ gb379) := ⟨h6_⟩
  have n7_ : Aside0 (gb362 ≠ gb379) := ⟨h7_⟩
  have n8_ : Aside0 (gb379 ≠ gb362) := ⟨h8_⟩
  have n9_ : Aside0 (gb363 ≠ gb379) := ⟨h9_⟩
  have n10_ : Aside0 (gb379 ≠ gb363) := ⟨h10_⟩
  have n11_ : Aside0 (Below w.heap.size w w28) := ⟨h11_⟩
  clear BK362 BK363 HB h0_ h1_ h2_ h3_ h4_ h5_ h6_ h7_ h8_ h9_ h10_ h11_
  have HO369 := n0_
  have HO377 := n1_
  have BK362 := n2_
  have BK363 := n3_
  have BK379 := n4_
  have GW379 := n5_
  have GE379 := n6_
  have NB362_379 := n7_
  have NB379_362 := n8_
  have NB363_379 := n9_
  have NB379_363 := n10_
  have HB := n11_
  clear n0_ n1_ n2_ n3_ n4_ n5_ n6_ n7_ n8_ n9_ n10_ n11_
  have hHeld : w28.cell? ⟨gb362, 0, none⟩ = some (.int .i64 a0_0) ∧ w28.cell? ⟨gb362, 1, none⟩ = some (.int .i64 a0_1) ∧ w28.cell? ⟨gb362, 2, none⟩ = some (.slice A0_2 l0_2.length c0_2) ∧ w28.cell? ⟨gb363, 0, none⟩ = some (.int .i64 a1_0) ∧ w28.cell? ⟨gb363, 1, none⟩ = some (.int .i64 a1_1) ∧ w28.cell? ⟨gb363, 2, none⟩ = some (.int .i64 a1_2) := hS_
  obtain ⟨Ao31, co31, eo31⟩ := Kd.R_slice HO377.out
  (first | subst eo31 | (injection eo31 with f1_ f2_ f3_; have f4_ := f1_.symm; have f5_ := f3_.symm; clear f1_ f2_ f3_; subst f4_; subst f5_))
  refine norm_ (a' := ?_) ?_ ?_
  rotate_left
  · simp only [putAll, Act.put, List.setIfInBounds_toArray, List.set_cons_zero, List.set_cons_succ]
   rfl
  refine one_ (i := 9) (N := none) #[true, true, true, true, true, true, true, true, true, true, false] rfl rfl (one_of HT_.out (by kernel_rfl)) (by decide) (fun K hK => ?_)
  have hs29 : w28.cell? ⟨gb379, 0, none⟩ = some (.int .i64 0) := (blk_cell BK379.out 0).trans rfl
  have hfs29 := blk_frozen BK379.out 0
  have hns29_0 := NB362_379.out
  have hns29_1 := NB363_379.out
  have hms29_0 := NB379_362.out
  have hms29_1 := NB379_363.out
  have hs30 : w28.cell? ⟨gb379, 1, none⟩ = some (.int .i64 0) := (blk_cell BK379.out 1).trans rfl
  have hfs30 := blk_frozen BK379.out 1
  have hns30_0 := NB362_379.out
  have hns30_1 := NB363_379.out
  have hms30_0 := NB379_362.out
  have hms30_1 := NB379_363.out
  have hs32 : w28.cell? ⟨gb379, 2, none⟩ = some (.slice none 0 0) := (blk_cell BK379.out 2).trans rfl
  have hfs32 := blk_frozen BK379.out 2
  have hns32_0 := NB362_379.out
  have hns32_1 := NB363_379.out
  have hms32_0 := NB379_362.out
  have hms32_1 := NB379_363.out
  refine skip_ (w1 := ?_) (by rfl) rfl ?_ ?_
  rotate_left
  · go_simp
   rfl
  refine hK.out _ _ ⟨((cell_far (p := ⟨gb379, _, none⟩) NB362_379.out _).trans (((cell_far (p := ⟨gb379, _, none⟩) NB362_379.out _).trans (((cell_far (p := ⟨gb379, _, none⟩) NB362_379.out _).trans (hHeld.1)))))), ((cell_far (p := ⟨gb379, _, none⟩) NB362_379.out _).trans (((cell_far (p := ⟨gb379, _, none⟩) NB362_379.out _).trans (((cell_far (p := ⟨gb379, _, none⟩) NB362_379.out _).trans (hHeld.2.1)))))), ((cell_far (p := ⟨gb379, _, none⟩) NB362_379.out _).trans (((cell_far (p := ⟨gb379, _, none⟩) NB362_379.out _).trans (((cell_far (p := ⟨gb379, _, none⟩) NB362_379.out _).trans (hHeld.2.2.1)))))), ((cell_far (p := ⟨gb379, _, none⟩) NB363_379.out _).trans (((cell_far (p := ⟨gb379, _, none⟩) NB363_379.out _).trans (((cell_far (p := ⟨gb379, _, none⟩) NB363_379.out _).trans (hHeld.2.2.2.1)))))), ((cell_far (p := ⟨gb379, _, none⟩) NB363_379.out _).trans (((cell_far (p := ⟨gb379, _, none⟩) NB363_379.out _).trans (((cell_far (p := ⟨gb379, _, none⟩) NB363_379.out _).trans (hHeld.2.2.2.2.1)))))), ((cell_far (p := ⟨gb379, _, none⟩) NB363_379.out _).trans (((cell_far (p := ⟨gb379, _, none⟩) NB363_379.out _).trans (((cell_far (p := ⟨gb379, _, none⟩) NB363_379.out _).trans (hHeld.2.2.2.2.2))))))⟩ (fun hHeld => ?_)
  clear hK K
  refine pure_ (i := 10) (N := some 7) (v := ?_) (a' := ?_) #[true, true, true, true, true, true, true, true, true, true, true] rfl rfl (any_of HT_.out (by kernel_rfl)) (fun _ _ _ h => h) (Or.inl ⟨by rfl, ?_⟩) ?_ ?_
  rotate_left
  · intro w'
   go_simp
   with_reducible rfl
  rotate_left
  · simp only [Act.put, List.setIfInBounds_toArray, List.set_cons_zero, List.set_cons_succ, i64_w, i32_w]
   rfl
  refine done_ (done_of HT_.out (by kernel_rfl)) ?_
  have hnb33 := NB362_379.out
  have hnc33 := NB379_362.out
  have hcz34_0 : w28.cell? ⟨gb362, 0, none⟩ = some (.int .i64 a0_0) := (blk_cell BK362.out 0).trans rfl
  have hcz34_1 : w28.cell? ⟨gb362, 1, none⟩ = some (.int .i64 a0_1) := (blk_cell BK362.out 1).trans rfl
  have hcz34_2 : w28.cell? ⟨gb362, 2, none⟩ = some (.slice A0_2 l0_2.length c0_2) := (blk_cell BK362.out 2).trans rfl
  have hfz34_0 := blk_frozen BK362.out 0
  have hfz34_1 := blk_frozen BK362.out 1
  have hfz34_2 := blk_frozen BK362.out 2
  try go_wp2_with (first | ((with_reducible refine gate_callee (f := 8) rfl ?_); refine goesL_ (some 30) rfl rfl Try.func8 (by kernel_rfl) rfl #[.agg #[.int .i64 a0_0, .int .i64 a0_1, .slice A0_2 l0_2.length c0_2]] rfl (by (try simp only [List.map_toArray, List.map_cons, List.map_nil]); first | done | rfl | (simp only [List.length_drop, List.length_take]; rfl)) ?_; (with_reducible refine (laws_toPuzzle.calls k a0_0 a0_1 _ _ l0_2 t380 t381 t382 _ ?side1 ?side2 A13.out).mono ?_); (case side1 => exact Kd.C_below HR0_2.out (by repeat (first | (with_reducible first | exact HB.out | apply ba_ | apply bn_ | apply bd_ | refine bs_ ?_ GE362.out | refine bs_ ?_ GE363.out | refine bs_ ?_ GE379.out) | exact HB.out))); (case side2 => exact HC0_2.out); rintro e w35 ⟨v383, rfl, ho0, hb⟩; refine ⟨_, rfl, ?_⟩; have n0_ := amk (Kd.R_elder' (by (with_reducible repeat (first | apply Kd.R_alloc | apply Kd.R_drewN | apply Kd.R_drew)); exact (Kd.R_mono (Kd.R_far (p := ⟨gb379, 2, none⟩) (Kd.R_far (p := ⟨gb379, 1, none⟩) (Kd.R_far (p := ⟨gb379, 0, none⟩) (Kd.R_types HO369.out BK379.out (by decide)) (fun _ hk => hk.2) (.int .i64 t373)) (fun _ hk => hk.2) (.int .i64 t374)) (fun _ hk => hk.2) (.slice Ao31 t375.length co31)) (fun _ h_ => h_.1))) (Kd.R_base ho0) hb); have n1_ := amk (Kd.R_elder' (by (with_reducible repeat (first | apply Kd.R_alloc | apply Kd.R_drewN | apply Kd.R_drew)); exact (Kd.R_mono (Kd.R_far (p := ⟨gb379, 2, none⟩) (Kd.R_far (p := ⟨gb379, 1, none⟩) (Kd.R_far (p := ⟨gb379, 0, none⟩) (Kd.R_types HO377.out BK379.out (by decide)) (fun _ hk => hk.2) (.int .i64 t373)) (fun _ hk => hk.2) (.int .i64 t374)) (fun _ hk => hk.2) (.slice Ao31 t375.length co31)) (fun _ h_ => h_.1))) (Kd.R_base ho0) hb); have n2_ := amk (Kd.R_lower (Kd.R_new' (Kd.R_new' ho0 (Kd.R_lt (by (with_reducible repeat (first | apply Kd.R_alloc | apply Kd.R_drewN | apply Kd.R_drew)); exact (Kd.R_mono (Kd.R_far (p := ⟨gb379, 2, none⟩) (Kd.R_far (p := ⟨gb379, 1, none⟩) (Kd.R_far (p := ⟨gb379, 0, none⟩) (Kd.R_types HO369.out BK379.out (by decide)) (fun _ hk => hk.2) (.int .i64 t373)) (fun _ hk => hk.2) (.int .i64 t374)) (fun _ hk => hk.2) (.slice Ao31 t375.length co31)) (fun _ h_ => h_.1))))) (Kd.R_lt (by (with_reducible repeat (first | apply Kd.R_alloc | apply Kd.R_drewN | apply Kd.R_drew)); exact (Kd.R_mono (Kd.R_far (p := ⟨gb379, 2, none⟩) (Kd.R_far (p := ⟨gb379, 1, none⟩) (Kd.R_far (p := ⟨gb379, 0, none⟩) (Kd.R_types HO377.out BK379.out (by decide)) (fun _ hk => hk.2) (.int .i64 t373)) (fun _ hk => hk.2) (.int .i64 t374)) (fun _ hk => hk.2) (.slice Ao31 t375.length co31)) (fun _ h_ => h_.1))))) (below_size (by repeat (first | (with_reducible first | exact HB.out | apply ba_ | apply bn_ | apply bd_ | refine bs_ ?_ GE362.out | refine bs_ ?_ GE363.out | refine bs_ ?_ GE379.out) | exact HB.out)))); have n3_ := amk (blk_below (g := gb362) (o := .cells #[.int .i64 a0_0, .int .i64 a0_1, .slice A0_2 l0_2.length c0_2] 26 (0, 0)) (by (with_reducible repeat (first | refine kn_ ?_ _ | refine blk_drew ?_ | refine ka_ ?_ _)); refine blk_far ?_ NB362_379.out _; (with_reducible repeat (first | refine kn_ ?_ _ | refine blk_drew ?_ | refine ka_ ?_ _)); refine blk_far ?_ NB362_379.out _; (with_reducible repeat (first | refine kn_ ?_ _ | refine blk_drew ?_ | refine ka_ ?_ _)); refine blk_far ?_ NB362_379.out _; (with_reducible repeat (first | refine kn_ ?_ _ | refine blk_drew ?_ | refine ka_ ?_ _)); exact BK362.out) hb); have n4_ := amk (blk_below (g := gb363) (o := .cells #[.int .i64 a1_0, .int .i64 a1_1, .int .i64 a1_2] 28 (0, 0)) (by (with_reducible repeat (first | refine kn_ ?_ _ | refine blk_drew ?_ | refine ka_ ?_ _)); refine blk_far ?_ NB363_379.out _; (with_reducible repeat (first | refine kn_ ?_ _ | refine blk_drew ?_ | refine ka_ ?_ _)); refine blk_far ?_ NB363_379.out _; (with_reducible repeat (first | refine kn_ ?_ _ | refine blk_drew ?_ | refine ka_ ?_ _)); refine blk_far ?_ NB363_379.out _; (with_reducible repeat (first | refine kn_ ?_ _ | refine blk_drew ?_ | refine ka_ ?_ _)); exact BK363.out) hb); have n5_ := amk (blk_below (g := gb379) (o := .cells #[.int .i64 t373, .int .i64 t374, .slice Ao31 t375.length co31] 33 (0, 0)) (by (with_reducible repeat (first | refine kn_ ?_ _ | refine blk_drew ?_ | refine ka_ ?_ _)); refine blk_put (cs := #[.int .i64 t373, .int .i64 t374, .slice none 0 0]) ?_ 2 _ rfl; (with_reducible repeat (first | refine kn_ ?_ _ | refine blk_drew ?_ | refine ka_ ?_ _)); refine blk_put (cs := #[.int .i64 t373, .int .i64 0, .slice none 0 0]) ?_ 1 _ rfl; (with_reducible repeat (first | refine kn_ ?_ _ | refine blk_drew ?_ | refine ka_ ?_ _)); refine blk_put (cs := #[.int .i64 0, .int .i64 0, .slice none 0 0]) ?_ 0 _ rfl; (with_reducible repeat (first | refine kn_ ?_ _ | refine blk_drew ?_ | refine ka_ ?_ _)); exact BK379.out) hb); have n6_ := amk (bp_ (by repeat (first | (with_reducible first | exact HB.out | apply ba_ | apply bn_ | apply bd_ | refine bs_ ?_ GE362.out | refine bs_ ?_ GE363.out | refine bs_ ?_ GE379.out) | exact HB.out)) hb); clear HO369; clear HO377; clear BK362; clear BK363; clear BK379; clear HB; have HO369 := n0_; have HO377 := n1_; have HO384 := n2_; have BK362 := n3_; have BK363 := n4_; have BK379 := n5_; have HB := n6_; clear n0_ n1_ n2_ n3_ n4_ n5_ n6_; (try clear hb); (try clear hb2); (try clear hk); (try clear hi); (try clear ho0)) | ((with_reducible refine gate_dst (N := 8) rfl ?_); refine box_event ?hg (N := 8) ?hd (cs := #[.int .i64 0, .int .i64 0, .slice none 0 0]) (t := 33) ?hr ?_; (case hd => rfl); (case hg => rfl); (case hr => first | (go_simp; done) | (go_simp; rfl)); intro gb385 hg w36 hbox hb; have n0_ := amk (Kd.R_below (by (with_reducible repeat (first | apply Kd.R_alloc | apply Kd.R_drewN | apply Kd.R_drew)); exact HO369.out) hb); have n1_ := amk (Kd.R_below (by (with_reducible repeat (first | apply Kd.R_alloc | apply Kd.R_drewN | apply Kd.R_drew)); exact HO377.out) hb); have n2_ := amk (Kd.R_below (by (with_reducible repeat (first | apply Kd.R_alloc | apply Kd.R_drewN | apply Kd.R_drew)); exact HO384.out) hb); have n3_ := amk (blk_below (g := gb362) (o := .cells #[.int .i64 a0_0, .int .i64 a0_1, .slice A0_2 l0_2.length c0_2] 26 (0, 0)) (by (with_reducible repeat (first | refine kn_ ?_ _ | refine blk_drew ?_ | refine ka_ ?_ _)); exact BK362.out) hb); have n4_ := amk (blk_below (g := gb363) (o := .cells #[.int .i64 a1_0, .int .i64 a1_1, .int .i64 a1_2] 28 (0, 0)) (by (with_reducible repeat (first | refine kn_ ?_ _ | refine blk_drew ?_ | refine ka_ ?_ _)); exact BK363.out) hb); have n5_ := amk (blk_below (g := gb379) (o := .cells #[.int .i64 t373, .int .i64 t374, .slice Ao31 t375.length co31] 33 (0, 0)) (by (with_reducible repeat (first | refine kn_ ?_ _ | refine blk_drew ?_ | refine ka_ ?_ _)); exact BK379.out) hb); have n6_ := amk (bp_ (by repeat (first | (with_reducible first | exact HB.out | apply ba_ | apply bn_ | apply bd_ | refine bs_ ?_ GE362.out | refine bs_ ?_ GE363.out | refine bs_ ?_ GE379.out) | exact HB.out)) hb); have n7_ := amk (hbox); have n8_ := amk ((by rw [hg]; exact (below_size (by repeat (first | (with_reducible first | exact HB.out | apply ba_ | apply bn_ | apply bd_ | refine bs_ ?_ GE362.out | refine bs_ ?_ GE363.out | refine bs_ ?_ GE379.out) | exact HB.out))) : w.heap.size ≤ gb385)); have n9_ := amk ((by rw [hg]; exact (below_size (by repeat (first | (with_reducible first | exact HB.out | apply ba_ | apply bn_ | apply bd_ | refine bs_ ?_ GE362.out | refine bs_ ?_ GE363.out | refine bs_ ?_ GE379.out) | exact HB.out))) : w.heap.size ≤ gb385)); have n10_ := amk ((by rw [hg]; exact Nat.ne_of_lt (blk_lt (g := gb362) (o := .cells #[.int .i64 a0_0, .int .i64 a0_1, .slice A0_2 l0_2.length c0_2] 26 (0, 0)) (by (with_reducible repeat (first | refine kn_ ?_ _ | refine blk_drew ?_ | refine ka_ ?_ _)); exact BK362.out)) : gb362 ≠ gb385)); have n11_ := amk ((by rw [hg]; exact Nat.ne_of_gt (blk_lt (g := gb362) (o := .cells #[.int .i64 a0_0, .int .i64 a0_1, .slice A0_2 l0_2.length c0_2] 26 (0, 0)) (by (with_reducible repeat (first | refine kn_ ?_ _ | refine blk_drew ?_ | refine ka_ ?_ _)); exact BK362.out)) : gb385 ≠ gb362)); have n12_ := amk ((by rw [hg]; exact Nat.ne_of_lt (blk_lt (g := gb363) (o := .cells #[.int .i64 a1_0, .int .i64 a1_1, .int .i64 a1_2] 28 (0, 0)) (by (with_reducible repeat (first | refine kn_ ?_ _ | refine blk_drew ?_ | refine ka_ ?_ _)); exact BK363.out)) : gb363 ≠ gb385)); have n13_ := amk ((by rw [hg]; exact Nat.ne_of_gt (blk_lt (g := gb363) (o := .cells #[.int .i64 a1_0, .int .i64 a1_1, .int .i64 a1_2] 28 (0, 0)) (by (with_reducible repeat (first | refine kn_ ?_ _ | refine blk_drew ?_ | refine ka_ ?_ _)); exact BK363.out)) : gb385 ≠ gb363)); have n14_ := amk ((by rw [hg]; exact Nat.ne_of_lt (blk_lt (g := gb379) (o := .cells #[.int .i64 t373, .int .i64 t374, .slice Ao31 t375.length co31] 33 (0, 0)) (by (with_reducible repeat (first | refine kn_ ?_ _ | refine blk_drew ?_ | refine ka_ ?_ _)); exact BK379.out)) : gb379 ≠ gb385)); have n15_ := amk ((by rw [hg]; exact Nat.ne_of_gt (blk_lt (g := gb379) (o := .cells #[.int .i64 t373, .int .i64 t374, .slice Ao31 t375.length co31] 33 (0, 0)) (by (with_reducible repeat (first | refine kn_ ?_ _ | refine blk_drew ?_ | refine ka_ ?_ _)); exact BK379.out)) : gb385 ≠ gb379)); clear HO369; clear HO377; clear HO384; clear BK362; clear BK363; clear BK379; clear HB; have HO369 := n0_; have HO377 := n1_; have HO384 := n2_; have BK362 := n3_; have BK363 := n4_; have BK379 := n5_; have HB := n6_; have BK385 := n7_; have GW385 := n8_; have GE385 := n9_; have NB362_385 := n10_; have NB385_362 := n11_; have NB363_385 := n12_; have NB385_363 := n13_; have NB379_385 := n14_; have NB385_379 := n15_; clear n0_ n1_ n2_ n3_ n4_ n5_ n6_ n7_ n8_ n9_ n10_ n11_ n12_ n13_ n14_ n15_; clear hb hbox hg; have hnb37 := NB385_362.out; have hnc37 := NB362_385.out; have hnb38 := NB385_363.out; have hnc38 := NB363_385.out; have hnb39 := NB385_379.out; have hnc39 := NB379_385.out; have hcz40_0 : w36.cell? ⟨gb385, 0, none⟩ = some (.int .i64 0) := (blk_cell BK385.out 0).trans rfl; have hcz40_1 : w36.cell? ⟨gb385, 1, none⟩ = some (.int .i64 0) := (blk_cell BK385.out 1).trans rfl; have hcz40_2 : w36.cell? ⟨gb385, 2, none⟩ = some (.slice none 0 0) := (blk_cell BK385.out 2).trans rfl; have hfz40_0 := blk_frozen BK385.out 0; have hfz40_1 := blk_frozen BK385.out 1; have hfz40_2 := blk_frozen BK385.out 2; obtain ⟨Ao41, co41, eo41⟩ := Kd.R_slice HO384.out; subst eo41))
  have n0_ : Aside0 (Kd.R k37 37 (((w36.setCell ⟨gb385, 0, none⟩ (.int .i64 t380)).setCell ⟨gb385, 1, none⟩ (.int .i64 t381)).setCell ⟨gb385, 2, none⟩ (.slice Ao41 t382.length co41)) w.heap.size (fun k_ => some k_ ≠ (.slice Ao31 t375.length co31 : Value).ownBlock ∧ some k_ ≠ (.slice Ao41 t382.length co41 : Value).ownBlock) v368 t367) := ⟨by (with_reducible repeat (first | apply Kd.R_alloc | apply Kd.R_drewN | apply Kd.R_drew)); exact Kd.R_mono (Kd.R_far (p := ⟨gb385, 2, none⟩) (Kd.R_far (p := ⟨gb385, 1, none⟩) (Kd.R_far (p := ⟨gb385, 0, none⟩) (Kd.R_types HO369.out BK385.out (by decide)) (fun _ hk => hk.2) (.int .i64 t380)) (fun _ hk => hk.2) (.int .i64 t381)) (fun _ hk => hk.2) (.slice Ao41 t382.length co41)) (fun _ hk => ⟨hk.1.1, hk.1.2⟩)⟩
  have n1_ : Aside0 (Kd.R k37 37 (((w36.setCell ⟨gb385, 0, none⟩ (.int .i64 t380)).setCell ⟨gb385, 1, none⟩ (.int .i64 t381)).setCell ⟨gb385, 2, none⟩ (.slice Ao41 t382.length co41)) w.heap.size (fun k_ => some k_ ≠ (v368 : Value).ownBlock ∧ some k_ ≠ (.slice Ao41 t382.length co41 : Value).ownBlock) (.slice Ao31 t375.length co31) t375) := ⟨by (with_reducible repeat (first | apply Kd.R_alloc | apply Kd.R_drewN | apply Kd.R_drew)); exact Kd.R_mono (Kd.R_far (p := ⟨gb385, 2, none⟩) (Kd.R_far (p := ⟨gb385, 1, none⟩) (Kd.R_far (p := ⟨gb385, 0, none⟩) (Kd.R_types HO377.out BK385.out (by decide)) (fun _ hk => hk.2) (.int .i64 t380)) (fun _ hk => hk.2) (.int .i64 t381)) (fun _ hk => hk.2) (.slice Ao41 t382.length co41)) (fun _ hk => ⟨hk.1.1, hk.1.2⟩)⟩
  have n2_ : Aside0 (Kd.R k37 37 (((w36.setCell ⟨gb385, 0, none⟩ (.int .i64 t380)).setCell ⟨gb385, 1, none⟩ (.int .i64 t381)).setCell ⟨gb385, 2, none⟩ (.slice Ao41 t382.length co41)) w.heap.size (fun k_ => some k_ ≠ (v368 : Value).ownBlock ∧ some k_ ≠ (.slice Ao31 t375.length co31 : Value).ownBlock) (.slice Ao41 t382.length co41) t382) := ⟨by (with_reducible repeat (first | apply Kd.R_alloc | apply Kd.R_drewN | apply Kd.R_drew)); exact Kd.R_mono (Kd.R_far (p := ⟨gb385, 2, none⟩) (Kd.R_far (p := ⟨gb385, 1, none⟩) (Kd.R_far (p := ⟨gb385, 0, none⟩) (Kd.R_types HO384.out BK385.out (by decide)) (fun _ hk => hk.2) (.int .i64 t380)) (fun _ hk => hk.2) (.int .i64 t381)) (fun _ hk => hk.2) (.slice Ao41 t382.length co41)) (fun _ hk => ⟨hk.1.1.2, hk.1.2⟩)⟩
  have n3_ : Aside0 ((((w36.setCell ⟨gb385, 0, none⟩ (.int .i64 t380)).setCell ⟨gb385, 1, none⟩ (.int .i64 t381)).setCell ⟨gb385, 2, none⟩ (.slice Ao41 t382.length co41)).heap[gb362]? = some (.cells #[.int .i64 a0_0, .int .i64 a0_1, .slice A0_2 l0_2.length c0_2] 26 (0, 0))) := ⟨by (with_reducible repeat (first | refine kn_ ?_ _ | refine blk_drew ?_ | refine ka_ ?_ _)); refine blk_far ?_ NB362_385.out _; (with_reducible repeat (first | refine kn_ ?_ _ | refine blk_drew ?_ | refine ka_ ?_ _)); refine blk_far ?_ NB362_385.out _; (with_reducible repeat (first | refine kn_ ?_ _ | refine blk_drew ?_ | refine ka_ ?_ _)); refine blk_far ?_ NB362_385.out _; (with_reducible repeat (first | refine kn_ ?_ _ | refine blk_drew ?_ | refine ka_ ?_ _)); exact BK362.out⟩
  have n4_ : Aside0 ((((w36.setCell ⟨gb385, 0, none⟩ (.int .i64 t380)).setCell ⟨gb385, 1, none⟩ (.int .i64 t381)).setCell ⟨gb385, 2, none⟩ (.slice Ao41 t382.length co41)).heap[gb363]? = some (.cells #[.int .i64 a1_0, .int .i64 a1_1, .int .i64 a1_2] 28 (0, 0))) := ⟨by (with_reducible repeat (first | refine kn_ ?_ _ | refine blk_drew ?_ | refine ka_ ?_ _)); refine blk_far ?_ NB363_385.out _; (with_reducible repeat (first | refine kn_ ?_ _ | refine blk_drew ?_ | refine ka_ ?_ _)); refine blk_far ?_ NB363_385.out _; (with_reducible repeat (first | refine kn_ ?_ _ | refine blk_drew ?_ | refine ka_ ?_ _)); refine blk_far ?_ NB363_385.out _; (with_reducible repeat (first | refine kn_ ?_ _ | refine blk_drew ?_ | refine ka_ ?_ _)); exact BK363.out⟩
  have n5_ : Aside0 ((((w36.setCell ⟨gb385, 0, none⟩ (.int .i64 t380)).setCell ⟨gb385, 1, none⟩ (.int .i64 t381)).setCell ⟨gb385, 2, none⟩ (.slice Ao41 t382.length co41)).heap[gb379]? = some (.cells #[.int .i64 t373, .int .i64 t374, .slice Ao31 t375.length co31] 33 (0, 0))) := ⟨by (with_reducible repeat (first | refine kn_ ?_ _ | refine blk_drew ?_ | refine ka_ ?_ _)); refine blk_far ?_ NB379_385.out _; (with_reducible repeat (first | refine kn_ ?_ _ | refine blk_drew ?_ | refine ka_ ?_ _)); refine blk_far ?_ NB379_385.out _; (with_reducible repeat (first | refine kn_ ?_ _ | refine blk_drew ?_ | refine ka_ ?_ _)); refine blk_far ?_ NB379_385.out _; (with_reducible repeat (first | refine kn_ ?_ _ | refine blk_drew ?_ | refine ka_ ?_ _)); exact BK379.out⟩
  have n6_ : Aside0 ((((w36.setCell ⟨gb385, 0, none⟩ (.int .i64 t380)).setCell ⟨gb385, 1, none⟩ (.int .i64 t381)).setCell ⟨gb385, 2, none⟩ (.slice Ao41 t382.length co41)).heap[gb385]? = some (.cells #[.int .i64 t380, .int .i64 t381, .slice Ao41 t382.length co41] 33 (0, 0))) := ⟨by (with_reducible repeat (first | refine kn_ ?_ _ | refine blk_drew ?_ | refine ka_ ?_ _)); refine blk_put (cs := #[.int .i64 t380, .int .i64 t381, .slice none 0 0]) ?_ 2 _ rfl; (with_reducible repeat (first | refine kn_ ?_ _ | refine blk_drew ?_ | refine ka_ ?_ _)); refine blk_put (cs := #[.int .i64 t380, .int .i64 0, .slice none 0 0]) ?_ 1 _ rfl; (with_reducible repeat (first | refine kn_ ?_ _ | refine blk_drew ?_ | refine ka_ ?_ _)); refine blk_put (cs := #[.int .i64 0, .int .i64 0, .slice none 0 0]) ?_ 0 _ rfl; (with_reducible repeat (first | refine kn_ ?_ _ | refine blk_drew ?_ | refine ka_ ?_ _)); exact BK385.out⟩
  have n7_ : Aside0 (Below w.heap.size w (((w36.setCell ⟨gb385, 0, none⟩ (.int .i64 t380)).setCell ⟨gb385, 1, none⟩ (.int .i64 t381)).setCell ⟨gb385, 2, none⟩ (.slice Ao41 t382.length co41))) := ⟨by repeat (first | (with_reducible first | exact HB.out | apply ba_ | apply bn_ | apply bd_ | refine bs_ ?_ GE362.out | refine bs_ ?_ GE363.out | refine bs_ ?_ GE379.out | refine bs_ ?_ GE385.out) | exact HB.out)⟩
  (try clear HO369)
  (try clear HO377)
  (try clear HO384)
  (try clear BK362)
  (try clear BK363)
  (try clear BK379)
  (try clear BK385)
  (try clear HB)
  generalize (((w36.setCell ⟨gb385, 0, none⟩ (.int .i64 t380)).setCell ⟨gb385, 1, none⟩ (.int .i64 t381)).setCell ⟨gb385, 2, none⟩ (.slice Ao41 t382.length co41)) = w42 at n0_ n1_ n2_ n3_ n4_ n5_ n6_ n7_ ⊢
  have HO369 := n0_
  have HO377 := n1_
  have HO384 := n2_
  have BK362 := n3_
  have BK363 := n4_
  have BK379 := n5_
  have BK385 := n6_
  have HB := n7_
  clear n0_ n1_ n2_ n3_ n4_ n5_ n6_ n7_
  have n0_ := amk (Kd.R_drew HO369.out)
  have n1_ := amk (Kd.R_drew HO377.out)
  have n2_ := amk (Kd.R_drew HO384.out)
  have n3_ := amk (blk_drew BK362.out)
  have n4_ := amk (blk_drew BK363.out)
  have n5_ := amk (blk_drew BK379.out)
  have n6_ := amk (blk_drew BK385.out)
  have n7_ := amk (bd_ HB.out)
  clear HO369 HO377 HO384 BK362 BK363 BK379 BK385 HB
  have HO369 := n0_
  have HO377 := n1_
  have HO384 := n2_
  have BK362 := n3_
  have BK363 := n4_
  have BK379 := n5_
  have BK385 := n6_
  have HB := n7_
  clear n0_ n1_ n2_ n3_ n4_ n5_ n6_ n7_
  refine start_ (n := 10) (S := fun w' => w'.cell? ⟨gb385, 0, none⟩ = some (.int .i64 t380) ∧ w'.cell? ⟨gb385, 1, none⟩ = some (.int .i64 t381) ∧ w'.cell? ⟨gb385, 2, none⟩ = some (.slice Ao41 t382.length co41) ∧ w'.cell? ⟨gb363, 0, none⟩ = some (.int .i64 a1_0) ∧ w'.cell? ⟨gb363, 1, none⟩ = some (.int .i64 a1_1) ∧ w'.cell? ⟨gb363, 2, none⟩ = some (.int .i64 a1_2)) (ds := []) #[false, false, false, false, false, false, false, false, false, false] (by kernel_rfl) rfl rfl ⟨(blk_cell BK385.out 0).trans rfl, (blk_cell BK385.out 1).trans rfl, (blk_cell BK385.out 2).trans rfl, (blk_cell BK363.out 0).trans rfl, (blk_cell BK363.out 1).trans rfl, (blk_cell BK363.out 2).trans rfl⟩ (fun hHeld => ?_); refine with_tabW laws_FnExactAddClue.tab7 laws_FnExactAddClue.bits7 (fun HT_ HW_ => ?_)
  generalize w42.drew = w43 at HO369 HO377 HO384 BK362 BK363 BK379 BK385 HB hHeld ⊢
  refine take_ (i := 0) (N := some 32) (v := ?_) (a' := ?_) #[true, false, false, false, false, false, false, false, false, false] rfl rfl (take_ofW HT_.out HW_.out (by kernel_rfl)) (fun _ _ _ h => h) (Or.inl ⟨by rfl, ?_⟩) hHeld ?_ ?_
  rotate_left
  · rintro w' ⟨s0, s1, s2, s3, s4, s5⟩
   go_simp
   with_reducible rfl
  rotate_left
  · simp only [Act.put, List.setIfInBounds_toArray, List.set_cons_zero, List.set_cons_succ, i64_w, i32_w]
   rfl
  refine take_ (i := 1) (N := some 33) (v := ?_) (a' := ?_) #[true, true, false, false, false, false, false, false, false, false] rfl rfl (take_ofW HT_.out HW_.out (by kernel_rfl)) (fun _ _ _ h => h) (Or.inl ⟨by rfl, ?_⟩) hHeld ?_ ?_
  rotate_left
  · rintro w' ⟨s0, s1, s2, s3, s4, s5⟩
   go_simp
   with_reducible rfl
  rotate_left
  · simp only [Act.put, List.setIfInBounds_toArray, List.set_cons_zero, List.set_cons_succ, i64_w, i32_w]
   rfl
  refine join_ (σ := Value × Nat) 2 #[true, true, true, true, true, true, true, true, false, false] (fun s_ => [(34, .agg #[.int .i64 t386, .int .i64 t387, .int .i64 t388]), (35, .tuple #[.agg #[.int .i64 t389, .int .i64 t390, s_.1], .bool t394]), (9, .pointer (some ⟨s_.2, 0, none⟩)), (31, .tuple #[.agg #[.int .i64 t389, .int .i64 t390, s_.1], .bool t394]), (36, .agg #[.int .i64 t389, .int .i64 t390, s_.1]), (37, .bool t394)]) (fun s_ w' => (w'.cell? ⟨gb385, 0, none⟩ = some (.int .i64 t380) ∧ w'.cell? ⟨gb385, 1, none⟩ = some (.int .i64 t381) ∧ w'.cell? ⟨gb385, 2, none⟩ = some (.slice Ao41 t382.length co41) ∧ w'.cell? ⟨gb363, 0, none⟩ = some (.int .i64 a1_0) ∧ w'.cell? ⟨gb363, 1, none⟩ = some (.int .i64 a1_1) ∧ w'.cell? ⟨gb363, 2, none⟩ = some (.int .i64 a1_2)) ∧ (Kd.R k37 37 w' w.heap.size (fun k_ => some k_ ≠ (.slice Ao31 t375.length co31 : Value).ownBlock ∧ some k_ ≠ (.slice Ao41 t382.length co41 : Value).ownBlock ∧ some k_ ≠ (s_.1 : Value).ownBlock) v368 t367) ∧ (Kd.R k37 37 w' w.heap.size (fun k_ => some k_ ≠ (v368 : Value).ownBlock ∧ some k_ ≠ (.slice Ao41 t382.length co41 : Value).ownBlock ∧ some k_ ≠ (s_.1 : Value).ownBlock) (.slice Ao31 t375.length co31) t375) ∧ (Kd.R k37 37 w' w.heap.size (fun k_ => some k_ ≠ (v368 : Value).ownBlock ∧ some k_ ≠ (.slice Ao31 t375.length co31 : Value).ownBlock ∧ some k_ ≠ (s_.1 : Value).ownBlock) (.slice Ao41 t382.length co41) t382) ∧ (Kd.R k37 37 w' w.heap.size (fun k_ => some k_ ≠ (v368 : Value).ownBlock ∧ some k_ ≠ (.slice Ao31 t375.length co31 : Value).ownBlock ∧ some k_ ≠ (.slice Ao41 t382.length co41 : Value).ownBlock) s_.1 t391) ∧ (w'.heap[gb362]? = some (.cells #[.int .i64 a0_0, .int .i64 a0_1, .slice A0_2 l0_2.length c0_2] 26 (0, 0))) ∧ (w'.heap[gb363]? = some (.cells #[.int .i64 a1_0, .int .i64 a1_1, .int .i64 a1_2] 28 (0, 0))) ∧ (w'.heap[gb379]? = some (.cells #[.int .i64 t373, .int .i64 t374, .slice Ao31 t375.length co31] 33 (0, 0))) ∧ (w'.heap[gb385]? = some (.cells #[.int .i64 t380, .int .i64 t381, .slice Ao41 t382.length co41] 33 (0, 0))) ∧ (w'.heap[s_.2]? = some (.cells #[.int .i64 0, .int .i64 0, .slice none 0 0] 33 (0, 0))) ∧ (w.heap.size ≤ s_.2) ∧ (w.heap.size ≤ s_.2) ∧ (gb362 ≠ s_.2) ∧ (s_.2 ≠ gb362) ∧ (gb363 ≠ s_.2) ∧ (s_.2 ≠ gb363) ∧ (gb379 ≠ s_.2) ∧ (s_.2 ≠ gb379) ∧ (gb385 ≠ s_.2) ∧ (s_.2 ≠ gb385) ∧ (Below w.heap.size w w')) ?_ ?_
  rotate_left
  · intro hCont
   refine two_ (i := 2) (j := 7) (Ni := some 34) (Nj := some 9) #[true, true, true, false, false, false, false, false, false, false] #[true, true, false, false, false, false, false, true, false, false] rfl rfl rfl rfl (two_of HT_.out (by kernel_rfl)) (by decide) (by decide) (fun K hK => ?_) (fun K hK => ?_)
   · skip
    refine goes_ Try.func9 (by kernel_rfl) rfl #[.agg #[.int .i64 a1_0, .int .i64 a1_1, .int .i64 a1_2]] (by rfl) rfl rfl (by (try simp only [List.map_toArray, List.map_cons, List.map_nil]); first | done | rfl | (simp only [List.length_drop, List.length_take]; rfl)) ?_
    with_reducible refine (laws_toClue.calls a1_0 a1_1 a1_2 t386 t387 t388 _ A14.out).mono ?_
    rintro e w44 ⟨rfl, hb⟩
    refine ⟨_, rfl, ?_⟩
    have n0_ := amk (Kd.R_below HO369.out hb)
    have n1_ := amk (Kd.R_below HO377.out hb)
    have n2_ := amk (Kd.R_below HO384.out hb)
    have n3_ := amk (blk_below BK362.out hb)
    have n4_ := amk (blk_below BK363.out hb)
    have n5_ := amk (blk_below BK379.out hb)
    have n6_ := amk (blk_below BK385.out hb)
    have n7_ := amk (bp_ HB.out hb)
    clear HO369 HO377 HO384 BK362 BK363 BK379 BK385 HB
    have HO369 := n0_
    have HO377 := n1_
    have HO384 := n2_
    have BK362 := n3_
    have BK363 := n4_
    have BK379 := n5_
    have BK385 := n6_
    have HB := n7_
    clear n0_ n1_ n2_ n3_ n4_ n5_ n6_ n7_
    (try clear hb)
    (try clear hb2)
    (try clear hk)
    (try clear hi)
    refine hK.out _ _ ⟨(blk_cell BK385.out 0).trans rfl, (blk_cell BK385.out 1).trans rfl, (blk_cell BK385.out 2).trans rfl, (blk_cell BK363.out 0).trans rfl, (blk_cell BK363.out 1).trans rfl, (blk_cell BK363.out 2).trans rfl⟩ (fun hHeld => ?_)
    clear hK K
    refine norm_ (a' := ?_) ?_ ?_
    rotate_left
    · show Act.put _ (some 34) _ = _
     simp only [Act.put, List.setIfInBounds_toArray, List.set_cons_zero, List.set_cons_succ, i64_w, i32_w]
     rfl
    refine two_ (i := 3) (j := 7) (Ni := some 35) (Nj := some 9) #[true, true, true, true, false, false, false, false, false, false] #[true, true, true, false, false, false, false, true, false, false] rfl rfl rfl rfl (two_of HT_.out (by kernel_rfl)) (by decide) (by decide) (fun K hK => ?_) (fun K hK => ?_)
    · skip
     refine goes_ Try.func10 (by kernel_rfl) rfl #[.agg #[.int .i64 t380, .int .i64 t381, .slice Ao41 t382.length co41], .agg #[.int .i64 t386, .int .i64 t387, .int .i64 t388]] (by rfl) rfl rfl (by (try simp only [List.map_toArray, List.map_cons, List.map_nil]); first | done | rfl | (simp only [List.length_drop, List.length_take]; rfl)) ?_
     with_reducible refine (impl_AddClue.calls t380 t381 _ _ t382 t386 t387 t388 t389 t390 t391 t394 _ ?side1 ?side2 A15.out).mono ?_
     (case side1 => repeat (first | exact (Kd.R_reads' HO384.out).2.2 | (with_reducible refine Kd.C_alloc ?_ _) | (with_reducible refine Kd.C_drewN ?_ _) | (with_reducible refine Kd.C_drew ?_)))
     (case side2 => exact (Kd.R_reads' HO384.out).2.1)
     rintro e w45 ⟨v392, rfl, ho0, hb⟩
     refine ⟨_, rfl, ?_⟩
     have n0_ := amk (Kd.R_elder' HO369.out (Kd.R_base ho0) hb)
     have n1_ := amk (Kd.R_elder' HO377.out (Kd.R_base ho0) hb)
     have n2_ := amk (Kd.R_elder' HO384.out (Kd.R_base ho0) hb)
     have n3_ := amk (Kd.R_lower (Kd.R_new' (Kd.R_new' (Kd.R_new' ho0 (Kd.R_lt HO369.out)) (Kd.R_lt HO377.out)) (Kd.R_lt HO384.out)) (below_size HB.out))
     have n4_ := amk (blk_below BK362.out hb)
     have n5_ := amk (blk_below BK363.out hb)
     have n6_ := amk (blk_below BK379.out hb)
     have n7_ := amk (blk_below BK385.out hb)
     have n8_ := amk (bp_ HB.out hb)
     clear HO369 HO377 HO384 BK362 BK363 BK379 BK385 HB
     have HO369 := n0_
     have HO377 := n1_
     have HO384 := n2_
     have HO393 := n3_
     have BK362 := n4_
     have BK363 := n5_
     have BK379 := n6_
     have BK385 := n7_
     have HB := n8_
     clear n0_ n1_ n2_ n3_ n4_ n5_ n6_ n7_ n8_
     (try clear hb)
     (try clear hb2)
     (try clear hk)
     (try clear hi)
     (try clear ho0)
     refine hK.out _ _ ⟨(blk_cell BK385.out 0).trans rfl, (blk_cell BK385.out 1).trans rfl, (blk_cell BK385.out 2).trans rfl, (blk_cell BK363.out 0).trans rfl, (blk_cell BK363.out 1).trans rfl, (blk_cell BK363.out 2).trans rfl⟩ (fun hHeld => ?_)
     clear hK K
     refine norm_ (a' := ?_) ?_ ?_
     rotate_left
     · show Act.put _ (some 35) _ = _
      simp only [Act.put, List.setIfInBounds_toArray, List.set_cons_zero, List.set_cons_succ, i64_w, i32_w]
      rfl
     refine pure_ (i := 4) (N := some 31) (v := ?_) (a' := ?_) #[true, true, true, true, true, false, false, false, false, false] rfl rfl (any_of HT_.out (by kernel_rfl)) (fun _ _ _ h => h) (Or.inl ⟨by rfl, ?_⟩) ?_ ?_
     rotate_left
     · intro w'
      go_simp
      with_reducible rfl
     rotate_left
     · simp only [Act.put, List.setIfInBounds_toArray, List.set_cons_zero, List.set_cons_succ, i64_w, i32_w]
      rfl
     refine pure_ (i := 5) (N := some 36) (v := ?_) (a' := ?_) #[true, true, true, true, true, true, false, false, false, false] rfl rfl (any_of HT_.out (by kernel_rfl)) (fun _ _ _ h => h) (Or.inl ⟨by rfl, ?_⟩) ?_ ?_
     rotate_left
     · intro w'
      go_simp
      with_reducible rfl
     rotate_left
     · simp only [Act.put, List.setIfInBounds_toArray, List.set_cons_zero, List.set_cons_succ, i64_w, i32_w]
      rfl
     refine pure_ (i := 6) (N := some 37) (v := ?_) (a' := ?_) #[true, true, true, true, true, true, true, false, false, false] rfl rfl (any_of HT_.out (by kernel_rfl)) (fun _ _ _ h => h) (Or.inl ⟨by rfl, ?_⟩) ?_ ?_
     rotate_left
     · intro w'
      go_simp
      with_reducible rfl
     rotate_left
     · simp only [Act.put, List.setIfInBounds_toArray, List.set_cons_zero, List.set_cons_succ, i64_w, i32_w]
      rfl
     refine one_ (i := 7) (N := some 9) #[true, true, true, true, true, true, true, true, false, false] rfl rfl (one_of HT_.out (by kernel_rfl)) (by decide) (fun K hK => ?_)
     refine box_step ?hg (N := 9) ?hd (cs := #[.int .i64 0, .int .i64 0, .slice none 0 0]) (t := 33) ?hr ?_; (case hd => rfl); (case hg => rfl); (case hr => first | (go_simp; done) | (go_simp; rfl))
     intro gb395 hg w46 hbox hb
     have n0_ := amk (Kd.R_below HO369.out hb)
     have n1_ := amk (Kd.R_below HO377.out hb)
     have n2_ := amk (Kd.R_below HO384.out hb)
     have n3_ := amk (Kd.R_below HO393.out hb)
     have n4_ := amk (blk_below BK362.out hb)
     have n5_ := amk (blk_below BK363.out hb)
     have n6_ := amk (blk_below BK379.out hb)
     have n7_ := amk (blk_below BK385.out hb)
     have n8_ := amk (bp_ HB.out hb)
     have n9_ := amk (hbox)
     have n10_ := amk ((by rw [hg]; exact (below_size HB.out) : w.heap.size ≤ gb395))
     have n11_ := amk ((by rw [hg]; exact (below_size HB.out) : w.heap.size ≤ gb395))
     have n12_ := amk ((by rw [hg]; exact Nat.ne_of_lt (blk_lt BK362.out) : gb362 ≠ gb395))
     have n13_ := amk ((by rw [hg]; exact Nat.ne_of_gt (blk_lt BK362.out) : gb395 ≠ gb362))
     have n14_ := amk ((by rw [hg]; exact Nat.ne_of_lt (blk_lt BK363.out) : gb363 ≠ gb395))
     have n15_ := amk ((by rw [hg]; exact Nat.ne_of_gt (blk_lt BK363.out) : gb395 ≠ gb363))
     have n16_ := amk ((by rw [hg]; exact Nat.ne_of_lt (blk_lt BK379.out) : gb379 ≠ gb395))
     have n17_ := amk ((by rw [hg]; exact Nat.ne_of_gt (blk_lt BK379.out) : gb395 ≠ gb379))
     have n18_ := amk ((by rw [hg]; exact Nat.ne_of_lt (blk_lt BK385.out) : gb385 ≠ gb395))
     have n19_ := amk ((by rw [hg]; exact Nat.ne_of_gt (blk_lt BK385.out) : gb395 ≠ gb385))
     clear HO369 HO377 HO384 HO393 BK362 BK363 BK379 BK385 HB
     have HO369 := n0_
     have HO377 := n1_
     have HO384 := n2_
     have HO393 := n3_
     have BK362 := n4_
     have BK363 := n5_
     have BK379 := n6_
     have BK385 := n7_
     have HB := n8_
     have BK395 := n9_
     have GW395 := n10_
     have GE395 := n11_
     have NB362_395 := n12_
     have NB395_362 := n13_
     have NB363_395 := n14_
     have NB395_363 := n15_
     have NB379_395 := n16_
     have NB395_379 := n17_
     have NB385_395 := n18_
     have NB395_385 := n19_
     clear n0_ n1_ n2_ n3_ n4_ n5_ n6_ n7_ n8_ n9_ n10_ n11_ n12_ n13_ n14_ n15_ n16_ n17_ n18_ n19_ hb hbox hg
     refine hK.out _ _ ⟨(blk_cell BK385.out 0).trans rfl, (blk_cell BK385.out 1).trans rfl, (blk_cell BK385.out 2).trans rfl, (blk_cell BK363.out 0).trans rfl, (blk_cell BK363.out 1).trans rfl, (blk_cell BK363.out 2).trans rfl⟩ (fun hHeld => ?_)
     clear hK K
     refine norm_ (a' := ?_) ?_ ?_
     rotate_left
     · show Act.put _ (some 9) _ = _
      simp only [Act.put, List.setIfInBounds_toArray, List.set_cons_zero, List.set_cons_succ, i64_w, i32_w]
      rfl
     exact norm_ (by simp only [putAll, Act.put, List.setIfInBounds_toArray, List.set_cons_zero, List.set_cons_succ]) (hCont (v392, gb395) _ ⟨hHeld, (by (with_reducible repeat (first | apply Kd.R_alloc | apply Kd.R_drewN | apply Kd.R_drew)); exact Kd.R_mono HO369.out (fun _ hk => ⟨hk.1.1, ⟨hk.1.2, hk.2⟩⟩)), (by (with_reducible repeat (first | apply Kd.R_alloc | apply Kd.R_drewN | apply Kd.R_drew)); exact Kd.R_mono HO377.out (fun _ hk => ⟨hk.1.1, ⟨hk.1.2, hk.2⟩⟩)), (by (with_reducible repeat (first | apply Kd.R_alloc | apply Kd.R_drewN | apply Kd.R_drew)); exact Kd.R_mono HO384.out (fun _ hk => ⟨hk.1.1, ⟨hk.1.2, hk.2⟩⟩)), (by (with_reducible repeat (first | apply Kd.R_alloc | apply Kd.R_drewN | apply Kd.R_drew)); exact Kd.R_mono HO393.out (fun _ hk => ⟨hk.1.1.2, ⟨hk.1.2, hk.2⟩⟩)), BK362.out, BK363.out, BK379.out, BK385.out, BK395.out, GW395.out, GE395.out, NB362_395.out, NB395_362.out, NB363_395.out, NB395_363.out, NB379_395.out, NB395_379.out, NB385_395.out, NB395_385.out, HB.out⟩)
    · skip
     refine box_step ?hg (N := 9) ?hd (cs := #[.int .i64 0, .int .i64 0, .slice none 0 0]) (t := 33) ?hr ?_; (case hd => rfl); (case hg => rfl); (case hr => first | (go_simp; done) | (go_simp; rfl))
     intro gb395 hg w45 hbox hb
     have n0_ := amk (Kd.R_below HO369.out hb)
     have n1_ := amk (Kd.R_below HO377.out hb)
     have n2_ := amk (Kd.R_below HO384.out hb)
     have n3_ := amk (blk_below BK362.out hb)
     have n4_ := amk (blk_below BK363.out hb)
     have n5_ := amk (blk_below BK379.out hb)
     have n6_ := amk (blk_below BK385.out hb)
     have n7_ := amk (bp_ HB.out hb)
     have n8_ := amk (hbox)
     have n9_ := amk ((by rw [hg]; exact (below_size HB.out) : w.heap.size ≤ gb395))
     have n10_ := amk ((by rw [hg]; exact (below_size HB.out) : w.heap.size ≤ gb395))
     have n11_ := amk ((by rw [hg]; exact Nat.ne_of_lt (blk_lt BK362.out) : gb362 ≠ gb395))
     have n12_ := amk ((by rw [hg]; exact Nat.ne_of_gt (blk_lt BK362.out) : gb395 ≠ gb362))
     have n13_ := amk ((by rw [hg]; exact Nat.ne_of_lt (blk_lt BK363.out) : gb363 ≠ gb395))
     have n14_ := amk ((by rw [hg]; exact Nat.ne_of_gt (blk_lt BK363.out) : gb395 ≠ gb363))
     have n15_ := amk ((by rw [hg]; exact Nat.ne_of_lt (blk_lt BK379.out) : gb379 ≠ gb395))
     have n16_ := amk ((by rw [hg]; exact Nat.ne_of_gt (blk_lt BK379.out) : gb395 ≠ gb379))
     have n17_ := amk ((by rw [hg]; exact Nat.ne_of_lt (blk_lt BK385.out) : gb385 ≠ gb395))
     have n18_ := amk ((by rw [hg]; exact Nat.ne_of_gt (blk_lt BK385.out) : gb395 ≠ gb385))
     clear HO369 HO377 HO384 BK362 BK363 BK379 BK385 HB
     have HO369 := n0_
     have HO377 := n1_
     have HO384 := n2_
     have BK362 := n3_
     have BK363 := n4_
     have BK379 := n5_
     have BK385 := n6_
     have HB := n7_
     have BK395 := n8_
     have GW395 := n9_
     have GE395 := n10_
     have NB362_395 := n11_
     have NB395_362 := n12_
     have NB363_395 := n13_
     have NB395_363 := n14_
     have NB379_395 := n15_
     have NB395_379 := n16_
     have NB385_395 := n17_
     have NB395_385 := n18_
     clear n0_ n1_ n2_ n3_ n4_ n5_ n6_ n7_ n8_ n9_ n10_ n11_ n12_ n13_ n14_ n15_ n16_ n17_ n18_ hb hbox hg
     refine hK.out _ _ ⟨(blk_cell BK385.out 0).trans rfl, (blk_cell BK385.out 1).trans rfl, (blk_cell BK385.out 2).trans rfl, (blk_cell BK363.out 0).trans rfl, (blk_cell BK363.out 1).trans rfl, (blk_cell BK363.out 2).trans rfl⟩ (fun hHeld => ?_)
     clear hK K
     refine norm_ (a' := ?_) ?_ ?_
     rotate_left
     · show Act.put _ (some 9) _ = _
      simp only [Act.put, List.setIfInBounds_toArray, List.set_cons_zero, List.set_cons_succ, i64_w, i32_w]
      rfl
     refine one_ (i := 3) (N := some 35) #[true, true, true, true, false, false, false, true, false, false] rfl rfl (one_of HT_.out (by kernel_rfl)) (by decide) (fun K hK => ?_)
     refine goes_ Try.func10 (by kernel_rfl) rfl #[.agg #[.int .i64 t380, .int .i64 t381, .slice Ao41 t382.length co41], .agg #[.int .i64 t386, .int .i64 t387, .int .i64 t388]] (by rfl) rfl rfl (by (try simp only [List.map_toArray, List.map_cons, List.map_nil]); first | done | rfl | (simp only [List.length_drop, List.length_take]; rfl)) ?_
     with_reducible refine (impl_AddClue.calls t380 t381 _ _ t382 t386 t387 t388 t389 t390 t391 t394 _ ?side1 ?side2 A15.out).mono ?_
     (case side1 => repeat (first | exact (Kd.R_reads' HO384.out).2.2 | (with_reducible refine Kd.C_alloc ?_ _) | (with_reducible refine Kd.C_drewN ?_ _) | (with_reducible refine Kd.C_drew ?_)))
     (case side2 => exact (Kd.R_reads' HO384.out).2.1)
     rintro e w46 ⟨v392, rfl, ho0, hb⟩
     refine ⟨_, rfl, ?_⟩
     have n0_ := amk (Kd.R_elder' HO369.out (Kd.R_base ho0) hb)
     have n1_ := amk (Kd.R_elder' HO377.out (Kd.R_base ho0) hb)
     have n2_ := amk (Kd.R_elder' HO384.out (Kd.R_base ho0) hb)
     have n3_ := amk (Kd.R_lower (Kd.R_new' (Kd.R_new' (Kd.R_new' ho0 (Kd.R_lt HO369.out)) (Kd.R_lt HO377.out)) (Kd.R_lt HO384.out)) (below_size HB.out))
     have n4_ := amk (blk_below BK362.out hb)
     have n5_ := amk (blk_below BK363.out hb)
     have n6_ := amk (blk_below BK379.out hb)
     have n7_ := amk (blk_below BK385.out hb)
     have n8_ := amk (blk_below BK395.out hb)
     have n9_ := amk (bp_ HB.out hb)
     clear HO369 HO377 HO384 BK362 BK363 BK379 BK385 BK395 HB
     have HO369 := n0_
     have HO377 := n1_
     have HO384 := n2_
     have HO393 := n3_
     have BK362 := n4_
     have BK363 := n5_
     have BK379 := n6_
     have BK385 := n7_
     have BK395 := n8_
     have HB := n9_
     clear n0_ n1_ n2_ n3_ n4_ n5_ n6_ n7_ n8_ n9_
     (try clear hb)
     (try clear hb2)
     (try clear hk)
     (try clear hi)
     (try clear ho0)
     refine hK.out _ _ ⟨(blk_cell BK385.out 0).trans rfl, (blk_cell BK385.out 1).trans rfl, (blk_cell BK385.out 2).trans rfl, (blk_cell BK363.out 0).trans rfl, (blk_cell BK363.out 1).trans rfl, (blk_cell BK363.out 2).trans rfl⟩ (fun hHeld => ?_)
     clear hK K
     refine norm_ (a' := ?_) ?_ ?_
     rotate_left
     · show Act.put _ (some 35) _ = _
      simp only [Act.put, List.setIfInBounds_toArray, List.set_cons_zero, List.set_cons_succ, i64_w, i32_w]
      rfl
     refine pure_ (i := 4) (N := some 31) (v := ?_) (a' := ?_) #[true, true, true, true, true, false, false, true, false, false] rfl rfl (any_of HT_.out (by kernel_rfl)) (fun _ _ _ h => h) (Or.inl ⟨by rfl, ?_⟩) ?_ ?_
     rotate_left
     · intro w'
      go_simp
      with_reducible rfl
     rotate_left
     · simp only [Act.put, List.setIfInBounds_toArray, List.set_cons_zero, List.set_cons_succ, i64_w, i32_w]
      rfl
     refine pure_ (i := 5) (N := some 36) (v := ?_) (a' := ?_) #[true, true, true, true, true, true, false, true, false, false] rfl rfl (any_of HT_.out (by kernel_rfl)) (fun _ _ _ h => h) (Or.inl ⟨by rfl, ?_⟩) ?_ ?_
     rotate_left
     · intro w'
      go_simp
      with_reducible rfl
     rotate_left
     · simp only [Act.put, List.setIfInBounds_toArray, List.set_cons_zero, List.set_cons_succ, i64_w, i32_w]
      rfl
     refine pure_ (i := 6) (N := some 37) (v := ?_) (a' := ?_) #[true, true, true, true, true, true, true, true, false, false] rfl rfl (any_of HT_.out (by kernel_rfl)) (fun _ _ _ h => h) (Or.inl ⟨by rfl, ?_⟩) ?_ ?_
     rotate_left
     · intro w'
      go_simp
      with_reducible rfl
     rotate_left
     · simp only [Act.put, List.setIfInBounds_toArray, List.set_cons_zero, List.set_cons_succ, i64_w, i32_w]
      rfl
     exact norm_ (by simp only [putAll, Act.put, List.setIfInBounds_toArray, List.set_cons_zero, List.set_cons_succ]) (hCont (v392, gb395) _ ⟨hHeld, (by (with_reducible repeat (first | apply Kd.R_alloc | apply Kd.R_drewN | apply Kd.R_drew)); exact Kd.R_mono HO369.out (fun _ hk => ⟨hk.1.1, ⟨hk.1.2, hk.2⟩⟩)), (by (with_reducible repeat (first | apply Kd.R_alloc | apply Kd.R_drewN | apply Kd.R_drew)); exact Kd.R_mono HO377.out (fun _ hk => ⟨hk.1.1, ⟨hk.1.2, hk.2⟩⟩)), (by (with_reducible repeat (first | apply Kd.R_alloc | apply Kd.R_drewN | apply Kd.R_drew)); exact Kd.R_mono HO384.out (fun _ hk => ⟨hk.1.1, ⟨hk.1.2, hk.2⟩⟩)), (by (with_reducible repeat (first | apply Kd.R_alloc | apply Kd.R_drewN | apply Kd.R_drew)); exact Kd.R_mono HO393.out (fun _ hk => ⟨hk.1.1.2, ⟨hk.1.2, hk.2⟩⟩)), BK362.out, BK363.out, BK379.out, BK385.out, BK395.out, GW395.out, GE395.out, NB362_395.out, NB395_362.out, NB363_395.out, NB395_363.out, NB379_395.out, NB395_379.out, NB385_395.out, NB395_385.out, HB.out⟩)
   · skip
    refine box_step ?hg (N := 9) ?hd (cs := #[.int .i64 0, .int .i64 0, .slice none 0 0]) (t := 33) ?hr ?_; (case hd => rfl); (case hg => rfl); (case hr => first | (go_simp; done) | (go_simp; rfl))
    intro gb395 hg w44 hbox hb
    have n0_ := amk (Kd.R_below HO369.out hb)
    have n1_ := amk (Kd.R_below HO377.out hb)
    have n2_ := amk (Kd.R_below HO384.out hb)
    have n3_ := amk (blk_below BK362.out hb)
    have n4_ := amk (blk_below BK363.out hb)
    have n5_ := amk (blk_below BK379.out hb)
    have n6_ := amk (blk_below BK385.out hb)
    have n7_ := amk (bp_ HB.out hb)
    have n8_ := amk (hbox)
    have n9_ := amk ((by rw [hg]; exact (below_size HB.out) : w.heap.size ≤ gb395))
    have n10_ := amk ((by rw [hg]; exact (below_size HB.out) : w.heap.size ≤ gb395))
    have n11_ := amk ((by rw [hg]; exact Nat.ne_of_lt (blk_lt BK362.out) : gb362 ≠ gb395))
    have n12_ := amk ((by rw [hg]; exact Nat.ne_of_gt (blk_lt BK362.out) : gb395 ≠ gb362))
    have n13_ := amk ((by rw [hg]; exact Nat.ne_of_lt (blk_lt BK363.out) : gb363 ≠ gb395))
    have n14_ := amk ((by rw [hg]; exact Nat.ne_of_gt (blk_lt BK363.out) : gb395 ≠ gb363))
    have n15_ := amk ((by rw [hg]; exact Nat.ne_of_lt (blk_lt BK379.out) : gb379 ≠ gb395))
    have n16_ := amk ((by rw [hg]; exact Nat.ne_of_gt (blk_lt BK379.out) : gb395 ≠ gb379))
    have n17_ := amk ((by rw [hg]; exact Nat.ne_of_lt (blk_lt BK385.out) : gb385 ≠ gb395))
    have n18_ := amk ((by rw [hg]; exact Nat.ne_of_gt (blk_lt BK385.out) : gb395 ≠ gb385))
    clear HO369 HO377 HO384 BK362 BK363 BK379 BK385 HB
    have HO369 := n0_
    have HO377 := n1_
    have HO384 := n2_
    have BK362 := n3_
    have BK363 := n4_
    have BK379 := n5_
    have BK385 := n6_
    have HB := n7_
    have BK395 := n8_
    have GW395 := n9_
    have GE395 := n10_
    have NB362_395 := n11_
    have NB395_362 := n12_
    have NB363_395 := n13_
    have NB395_363 := n14_
    have NB379_395 := n15_
    have NB395_379 := n16_
    have NB385_395 := n17_
    have NB395_385 := n18_
    clear n0_ n1_ n2_ n3_ n4_ n5_ n6_ n7_ n8_ n9_ n10_ n11_ n12_ n13_ n14_ n15_ n16_ n17_ n18_ hb hbox hg
    refine hK.out _ _ ⟨(blk_cell BK385.out 0).trans rfl, (blk_cell BK385.out 1).trans rfl, (blk_cell BK385.out 2).trans rfl, (blk_cell BK363.out 0).trans rfl, (blk_cell BK363.out 1).trans rfl, (blk_cell BK363.out 2).trans rfl⟩ (fun hHeld => ?_)
    clear hK K
    refine norm_ (a' := ?_) ?_ ?_
    rotate_left
    · show Act.put _ (some 9) _ = _
     simp only [Act.put, List.setIfInBounds_toArray, List.set_cons_zero, List.set_cons_succ, i64_w, i32_w]
     rfl
    refine one_ (i := 2) (N := some 34) #[true, true, true, false, false, false, false, true, false, false] rfl rfl (one_of HT_.out (by kernel_rfl)) (by decide) (fun K hK => ?_)
    refine goes_ Try.func9 (by kernel_rfl) rfl #[.agg #[.int .i64 a1_0, .int .i64 a1_1, .int .i64 a1_2]] (by rfl) rfl rfl (by (try simp only [List.map_toArray, List.map_cons, List.map_nil]); first | done | rfl | (simp only [List.length_drop, List.length_take]; rfl)) ?_
    with_reducible refine (laws_toClue.calls a1_0 a1_1 a1_2 t386 t387 t388 _ A14.out).mono ?_
    rintro e w45 ⟨rfl, hb⟩
    refine ⟨_, rfl, ?_⟩
    have n0_ := amk (Kd.R_below HO369.out hb)
    have n1_ := amk (Kd.R_below HO377.out hb)
    have n2_ := amk (Kd.R_below HO384.out hb)
    have n3_ := amk (blk_below BK362.out hb)
    have n4_ := amk (blk_below BK363.out hb)
    have n5_ := amk (blk_below BK379.out hb)
    have n6_ := amk (blk_below BK385.out hb)
    have n7_ := amk (blk_below BK395.out hb)
    have n8_ := amk (bp_ HB.out hb)
    clear HO369 HO377 HO384 BK362 BK363 BK379 BK385 BK395 HB
    have HO369 := n0_
    have HO377 := n1_
    have HO384 := n2_
    have BK362 := n3_
    have BK363 := n4_
    have BK379 := n5_
    have BK385 := n6_
    have BK395 := n7_
    have HB := n8_
    clear n0_ n1_ n2_ n3_ n4_ n5_ n6_ n7_ n8_
    (try clear hb)
    (try clear hb2)
    (try clear hk)
    (try clear hi)
    refine hK.out _ _ ⟨(blk_cell BK385.out 0).trans rfl, (blk_cell BK385.out 1).trans rfl, (blk_cell BK385.out 2).trans rfl, (blk_cell BK363.out 0).trans rfl, (blk_cell BK363.out 1).trans rfl, (blk_cell BK363.out 2).trans rfl⟩ (fun hHeld => ?_)
    clear hK K
    refine norm_ (a' := ?_) ?_ ?_
    rotate_left
    · show Act.put _ (some 34) _ = _
     simp only [Act.put, List.setIfInBounds_toArray, List.set_cons_zero, List.set_cons_succ, i64_w, i32_w]
     rfl
    refine one_ (i := 3) (N := some 35) #[true, true, true, true, false, false, false, true, false, false] rfl rfl (one_of HT_.out (by kernel_rfl)) (by decide) (fun K hK => ?_)
    refine goes_ Try.func10 (by kernel_rfl) rfl #[.agg #[.int .i64 t380, .int .i64 t381, .slice Ao41 t382.length co41], .agg #[.int .i64 t386, .int .i64 t387, .int .i64 t388]] (by rfl) rfl rfl (by (try simp only [List.map_toArray, List.map_cons, List.map_nil]); first | done | rfl | (simp only [List.length_drop, List.length_take]; rfl)) ?_
    with_reducible refine (impl_AddClue.calls t380 t381 _ _ t382 t386 t387 t388 t389 t390 t391 t394 _ ?side1 ?side2 A15.out).mono ?_
    (case side1 => repeat (first | exact (Kd.R_reads' HO384.out).2.2 | (with_reducible refine Kd.C_alloc ?_ _) | (with_reducible refine Kd.C_drewN ?_ _) | (with_reducible refine Kd.C_drew ?_)))
    (case side2 => exact (Kd.R_reads' HO384.out).2.1)
    rintro e w46 ⟨v392, rfl, ho0, hb⟩
    refine ⟨_, rfl, ?_⟩
    have n0_ := amk (Kd.R_elder' HO369.out (Kd.R_base ho0) hb)
    have n1_ := amk (Kd.R_elder' HO377.out (Kd.R_base ho0) hb)
    have n2_ := amk (Kd.R_elder' HO384.out (Kd.R_base ho0) hb)
    have n3_ := amk (Kd.R_lower (Kd.R_new' (Kd.R_new' (Kd.R_new' ho0 (Kd.R_lt HO369.out)) (Kd.R_lt HO377.out)) (Kd.R_lt HO384.out)) (below_size HB.out))
    have n4_ := amk (blk_below BK362.out hb)
    have n5_ := amk (blk_below BK363.out hb)
    have n6_ := amk (blk_below BK379.out hb)
    have n7_ := amk (blk_below BK385.out hb)
    have n8_ := amk (blk_below BK395.out hb)
    have n9_ := amk (bp_ HB.out hb)
    clear HO369 HO377 HO384 BK362 BK363 BK379 BK385 BK395 HB
    have HO369 := n0_
    have HO377 := n1_
    have HO384 := n2_
    have HO393 := n3_
    have BK362 := n4_
    have BK363 := n5_
    have BK379 := n6_
    have BK385 := n7_
    have BK395 := n8_
    have HB := n9_
    clear n0_ n1_ n2_ n3_ n4_ n5_ n6_ n7_ n8_ n9_
    (try clear hb)
    (try clear hb2)
    (try clear hk)
    (try clear hi)
    (try clear ho0)
    refine hK.out _ _ ⟨(blk_cell BK385.out 0).trans rfl, (blk_cell BK385.out 1).trans rfl, (blk_cell BK385.out 2).trans rfl, (blk_cell BK363.out 0).trans rfl, (blk_cell BK363.out 1).trans rfl, (blk_cell BK363.out 2).trans rfl⟩ (fun hHeld => ?_)
    clear hK K
    refine norm_ (a' := ?_) ?_ ?_
    rotate_left
    · show Act.put _ (some 35) _ = _
     simp only [Act.put, List.setIfInBounds_toArray, List.set_cons_zero, List.set_cons_succ, i64_w, i32_w]
     rfl
    refine pure_ (i := 4) (N := some 31) (v := ?_) (a' := ?_) #[true, true, true, true, true, false, false, true, false, false] rfl rfl (any_of HT_.out (by kernel_rfl)) (fun _ _ _ h => h) (Or.inl ⟨by rfl, ?_⟩) ?_ ?_
    rotate_left
    · intro w'
     go_simp
     with_reducible rfl
    rotate_left
    · simp only [Act.put, List.setIfInBounds_toArray, List.set_cons_zero, List.set_cons_succ, i64_w, i32_w]
     rfl
    refine pure_ (i := 5) (N := some 36) (v := ?_) (a' := ?_) #[true, true, true, true, true, true, false, true, false, false] rfl rfl (any_of HT_.out (by kernel_rfl)) (fun _ _ _ h => h) (Or.inl ⟨by rfl, ?_⟩) ?_ ?_
    rotate_left
    · intro w'
     go_simp
     with_reducible rfl
    rotate_left
    · simp only [Act.put, List.setIfInBounds_toArray, List.set_cons_zero, List.set_cons_succ, i64_w, i32_w]
     rfl
    refine pure_ (i := 6) (N := some 37) (v := ?_) (a' := ?_) #[true, true, true, true, true, true, true, true, false, false] rfl rfl (any_of HT_.out (by kernel_rfl)) (fun _ _ _ h => h) (Or.inl ⟨by rfl, ?_⟩) ?_ ?_
    rotate_left
    · intro w'
     go_simp
     with_reducible rfl
    rotate_left
    · simp only [Act.put, List.setIfInBounds_toArray, List.set_cons_zero, List.set_cons_succ, i64_w, i32_w]
     rfl
    exact norm_ (by simp only [putAll, Act.put, List.setIfInBounds_toArray, List.set_cons_zero, List.set_cons_succ]) (hCont (v392, gb395) _ ⟨hHeld, (by (with_reducible repeat (first | apply Kd.R_alloc | apply Kd.R_drewN | apply Kd.R_drew)); exact Kd.R_mono HO369.out (fun _ hk => ⟨hk.1.1, ⟨hk.1.2, hk.2⟩⟩)), (by (with_reducible repeat (first | apply Kd.R_alloc | apply Kd.R_drewN | apply Kd.R_drew)); exact Kd.R_mono HO377.out (fun _ hk => ⟨hk.1.1, ⟨hk.1.2, hk.2⟩⟩)), (by (with_reducible repeat (first | apply Kd.R_alloc | apply Kd.R_drewN | apply Kd.R_drew)); exact Kd.R_mono HO384.out (fun _ hk => ⟨hk.1.1, ⟨hk.1.2, hk.2⟩⟩)), (by (with_reducible repeat (first | apply Kd.R_alloc | apply Kd.R_drewN | apply Kd.R_drew)); exact Kd.R_mono HO393.out (fun _ hk => ⟨hk.1.1.2, ⟨hk.1.2, hk.2⟩⟩)), BK362.out, BK363.out, BK379.out, BK385.out, BK395.out, GW395.out, GE395.out, NB362_395.out, NB395_362.out, NB363_395.out, NB395_363.out, NB379_395.out, NB395_379.out, NB385_395.out, NB395_385.out, HB.out⟩)
  rintro ⟨v392, gb395⟩ w47 ⟨hS_, h0_, h1_, h2_, h3_, h4_, h5_, h6_, h7_, h8_, h9_, h10_, h11_, h12_, h13_, h14_, h15_, h16_, h17_, h18_, h19_⟩
  have n0_ : Aside0 (Kd.R k37 37 w47 w.heap.size (fun k_ => some k_ ≠ (.slice Ao31 t375.length co31 : Value).ownBlock ∧ some k_ ≠ (.slice Ao41 t382.length co41 : Value).ownBlock ∧ some k_ ≠ (v392 : Value).ownBlock) v368 t367) := ⟨h0_⟩
  have n1_ : Aside0 (Kd.R k37 37 w47 w.heap.size (fun k_ => some k_ ≠ (v368 : Value).ownBlock ∧ some k_ ≠ (.slice Ao41 t382.length co41 : Value).ownBlock ∧ some k_ ≠ (v392 : Value).ownBlock) (.slice Ao31 t375.length co31) t375) := ⟨h1_⟩
  have n2_ : Aside0 (Kd.R k37 37 w47 w.heap.size (fun k_ => some k_ ≠ (v368 : Value).ownBlock ∧ some k_ ≠ (.slice Ao31 t375.length co31 : Value).ownBlock ∧ some k_ ≠ (v392 : Value).ownBlock) (.slice Ao41 t382.length co41) t382) := ⟨h2_⟩
  have n3_ : Aside0 (Kd.R k37 37 w47 w.heap.size (fun k_ => some k_ ≠ (v368 : Value).ownBlock ∧ some k_ ≠ (.slice Ao31 t375.length co31 : Value).ownBlock ∧ some k_ ≠ (.slice Ao41 t382.length co41 : Value).ownBlock) v392 t391) := ⟨h3_⟩
  have n4_ : Aside0 (w47.heap[gb362]? = some (.cells #[.int .i64 a0_0, .int .i64 a0_1, .slice A0_2 l0_2.length c0_2] 26 (0, 0))) := ⟨h4_⟩
  have n5_ : Aside0 (w47.heap[gb363]? = some (.cells #[.int .i64 a1_0, .int .i64 a1_1, .int .i64 a1_2] 28 (0, 0))) := ⟨h5_⟩
  have n6_ : Aside0 (w47.heap[gb379]? = some (.cells #[.int .i64 t373, .int .i64 t374, .slice Ao31 t375.length co31] 33 (0, 0))) := ⟨h6_⟩
  have n7_ : Aside0 (w47.heap[gb385]? = some (.cells #[.int .i64 t380, .int .i64 t381, .slice Ao41 t382.length co41] 33 (0, 0))) := ⟨h7_⟩
  have n8_ : Aside0 (w47.heap[gb395]? = some (.cells #[.int .i64 0, .int .i64 0, .slice none 0 0] 33 (0, 0))) := ⟨h8_⟩
  have n9_ : Aside0 (w.heap.size ≤ gb395) := ⟨h9_⟩
  have n10_ : Aside0 (w.heap.size ≤ gb395) := ⟨h10_⟩
  have n11_ : Aside0 (gb362 ≠ gb395) := ⟨h11_⟩
  have n12_ : Aside0 (gb395 ≠ gb362) := ⟨h12_⟩
  have n13_ : Aside0 (gb363 ≠ gb395) := ⟨h13_⟩
  have n14_ : Aside0 (gb395 ≠ gb363) := ⟨h14_⟩
  have n15_ : Aside0 (gb379 ≠ gb395) := ⟨h15_⟩
  have n16_ : Aside0 (gb395 ≠ gb379) := ⟨h16_⟩
  have n17_ : Aside0 (gb385 ≠ gb395) := ⟨h17_⟩
  have n18_ : Aside0 (gb395 ≠ gb385) := ⟨h18_⟩
  have n19_ : Aside0 (Below w.heap.size w w47) := ⟨h19_⟩
  clear HO369 HO377 HO384 BK362 BK363 BK379 BK385 HB h0_ h1_ h2_ h3_ h4_ h5_ h6_ h7_ h8_ h9_ h10_ h11_ h12_ h13_ h14_ h15_ h16_ h17_ h18_ h19_
  have HO369 := n0_
  have HO377 := n1_
  have HO384 := n2_
  have HO393 := n3_
  have BK362 := n4_
  have BK363 := n5_
  have BK379 := n6_
  have BK385 := n7_
  have BK395 := n8_
  have GW395 := n9_
  have GE395 := n10_
  have NB362_395 := n11_
  have NB395_362 := n12_
  have NB363_395 := n13_
  have NB395_363 := n14_
  have NB379_395 := n15_
  have NB395_379 := n16_
  have NB385_395 := n17_
  have NB395_385 := n18_
  have HB := n19_
  clear n0_ n1_ n2_ n3_ n4_ n5_ n6_ n7_ n8_ n9_ n10_ n11_ n12_ n13_ n14_ n15_ n16_ n17_ n18_ n19_
  have hHeld : w47.cell? ⟨gb385, 0, none⟩ = some (.int .i64 t380) ∧ w47.cell? ⟨gb385, 1, none⟩ = some (.int .i64 t381) ∧ w47.cell? ⟨gb385, 2, none⟩ = some (.slice Ao41 t382.length co41) ∧ w47.cell? ⟨gb363, 0, none⟩ = some (.int .i64 a1_0) ∧ w47.cell? ⟨gb363, 1, none⟩ = some (.int .i64 a1_1) ∧ w47.cell? ⟨gb363, 2, none⟩ = some (.int .i64 a1_2) := hS_
  obtain ⟨Ao50, co50, eo50⟩ := Kd.R_slice HO393.out
  (first | subst eo50 | (injection eo50 with f1_ f2_ f3_; have f4_ := f1_.symm; have f5_ := f3_.symm; clear f1_ f2_ f3_; subst f4_; subst f5_))
  refine norm_ (a' := ?_) ?_ ?_
  rotate_left
  · simp only [putAll, Act.put, List.setIfInBounds_toArray, List.set_cons_zero, List.set_cons_succ]
   rfl
  refine one_ (i := 8) (N := none) #[true, true, true, true, true, true, true, true, true, false] rfl rfl (one_of HT_.out (by kernel_rfl)) (by decide) (fun K hK => ?_)
  have hs48 : w47.cell? ⟨gb395, 0, none⟩ = some (.int .i64 0) := (blk_cell BK395.out 0).trans rfl
  have hfs48 := blk_frozen BK395.out 0
  have hns48_0 := NB362_395.out
  have hns48_1 := NB363_395.out
  have hns48_2 := NB379_395.out
  have hns48_3 := NB385_395.out
  have hms48_0 := NB395_362.out
  have hms48_1 := NB395_363.out
  have hms48_2 := NB395_379.out
  have hms48_3 := NB395_385.out
  have hs49 : w47.cell? ⟨gb395, 1, none⟩ = some (.int .i64 0) := (blk_cell BK395.out 1).trans rfl
  have hfs49 := blk_frozen BK395.out 1
  have hns49_0 := NB362_395.out
  have hns49_1 := NB363_395.out
  have hns49_2 := NB379_395.out
  have hns49_3 := NB385_395.out
  have hms49_0 := NB395_362.out
  have hms49_1 := NB395_363.out
  have hms49_2 := NB395_379.out
  have hms49_3 := NB395_385.out
  have hs51 : w47.cell? ⟨gb395, 2, none⟩ = some (.slice none 0 0) := (blk_cell BK395.out 2).trans rfl
  have hfs51 := blk_frozen BK395.out 2
  have hns51_0 := NB362_395.out
  have hns51_1 := NB363_395.out
  have hns51_2 := NB379_395.out
  have hns51_3 := NB385_395.out
  have hms51_0 := NB395_362.out
  have hms51_1 := NB395_363.out
  have hms51_2 := NB395_379.out
  have hms51_3 := NB395_385.out
  refine skip_ (w1 := ?_) (by rfl) rfl ?_ ?_
  rotate_left
  · go_simp
   rfl
  refine hK.out _ _ ⟨((cell_far (p := ⟨gb395, _, none⟩) NB385_395.out _).trans (((cell_far (p := ⟨gb395, _, none⟩) NB385_395.out _).trans (((cell_far (p := ⟨gb395, _, none⟩) NB385_395.out _).trans (hHeld.1)))))), ((cell_far (p := ⟨gb395, _, none⟩) NB385_395.out _).trans (((cell_far (p := ⟨gb395, _, none⟩) NB385_395.out _).trans (((cell_far (p := ⟨gb395, _, none⟩) NB385_395.out _).trans (hHeld.2.1)))))), ((cell_far (p := ⟨gb395, _, none⟩) NB385_395.out _).trans (((cell_far (p := ⟨gb395, _, none⟩) NB385_395.out _).trans (((cell_far (p := ⟨gb395, _, none⟩) NB385_395.out _).trans (hHeld.2.2.1)))))), ((cell_far (p := ⟨gb395, _, none⟩) NB363_395.out _).trans (((cell_far (p := ⟨gb395, _, none⟩) NB363_395.out _).trans (((cell_far (p := ⟨gb395, _, none⟩) NB363_395.out _).trans (hHeld.2.2.2.1)))))), ((cell_far (p := ⟨gb395, _, none⟩) NB363_395.out _).trans (((cell_far (p := ⟨gb395, _, none⟩) NB363_395.out _).trans (((cell_far (p := ⟨gb395, _, none⟩) NB363_395.out _).trans (hHeld.2.2.2.2.1)))))), ((cell_far (p := ⟨gb395, _, none⟩) NB363_395.out _).trans (((cell_far (p := ⟨gb395, _, none⟩) NB363_395.out _).trans (((cell_far (p := ⟨gb395, _, none⟩) NB363_395.out _).trans (hHeld.2.2.2.2.2))))))⟩ (fun hHeld => ?_)
  clear hK K
  refine pure_ (i := 9) (N := some 10) (v := ?_) (a' := ?_) #[true, true, true, true, true, true, true, true, true, true] rfl rfl (any_of HT_.out (by kernel_rfl)) (fun _ _ _ h => h) (Or.inl ⟨by rfl, ?_⟩) ?_ ?_
  rotate_left
  · intro w'
   go_simp
   with_reducible rfl
  rotate_left
  · simp only [Act.put, List.setIfInBounds_toArray, List.set_cons_zero, List.set_cons_succ, i64_w, i32_w]
   rfl
  refine done_ (done_of HT_.out (by kernel_rfl)) ?_
  go_upto_region 8 with (fail)
  go_cut [46] (fun v46 wc => ∃ (kq : Nat) (x46_15 : Bool), v46 = .bool x46_15 ∧ Aside0 (laws_FnExactAddClue.j0 kq t378 t394 x46_15 a0_0 a0_1 l0_2 a1_0 a1_1 a1_2 t373 t374 t375 t380 t381 t382 t389 t390 t391 = some r) ∧ Aside0 (kq ≤ k) ∧ Aside0 (Kd.R k37 37 wc w.heap.size (fun k_ => some k_ ≠ ((.slice Ao41 t382.length co41) : Value).ownBlock ∧ some k_ ≠ ((.slice Ao50 t391.length co50) : Value).ownBlock) (.slice Ao31 t375.length co31) t375) ∧ Aside0 (Kd.R k37 37 wc w.heap.size (fun k_ => some k_ ≠ ((.slice Ao31 t375.length co31) : Value).ownBlock ∧ some k_ ≠ ((.slice Ao50 t391.length co50) : Value).ownBlock) (.slice Ao41 t382.length co41) t382) ∧ Aside0 (Kd.R k37 37 wc w.heap.size (fun k_ => some k_ ≠ ((.slice Ao31 t375.length co31) : Value).ownBlock ∧ some k_ ≠ ((.slice Ao41 t382.length co41) : Value).ownBlock) (.slice Ao50 t391.length co50) t391) ∧ Aside0 (wc.heap[gb362]? = some (.cells #[.int .i64 a0_0, .int .i64 a0_1, (.slice A0_2 l0_2.length c0_2)] 26 (0, 0))) ∧ Aside0 (wc.heap[gb363]? = some (.cells #[.int .i64 a1_0, .int .i64 a1_1, .int .i64 a1_2] 28 (0, 0))) ∧ Aside0 (wc.heap[gb379]? = some (.cells #[.int .i64 t373, .int .i64 t374, (.slice Ao31 t375.length co31)] 33 (0, 0))) ∧ Aside0 (wc.heap[gb385]? = some (.cells #[.int .i64 t380, .int .i64 t381, (.slice Ao41 t382.length co41)] 33 (0, 0))) ∧ Aside0 (wc.heap[gb395]? = some (.cells #[.int .i64 t389, .int .i64 t390, (.slice Ao50 t391.length co50)] 33 (0, 0))) ∧ Aside0 (Below w.heap.size w wc))
  case first =>
   have H := HC16.out
   clear HC16
   replace H := Option.bind_eq_some_iff.mp H
   obtain ⟨t396, A520, H⟩ := H
   replace H : (if t396 = true then (laws_FnExactAddClue.j0 k t378 t394 (t394 != t378) a0_0 a0_1 l0_2 a1_0 a1_1 a1_2 t373 t374 t375 t380 t381 t382 t389 t390 t391) else (none)) = some r := H
   have A52 := amk A520
   clear A520
   by_cases c53 : t396 = true
   · subst c53
    have H1 : (laws_FnExactAddClue.j0 k t378 t394 (t394 != t378) a0_0 a0_1 l0_2 a1_0 a1_1 a1_2 t373 t374 t375 t380 t381 t382 t389 t390 t391) = some r := by rw [if_pos rfl] at H; exact H
    clear H
    have H := H1
    clear H1
    have H' := amk H
    clear H
    have hnb54 := NB395_362.out
    have hnc54 := NB362_395.out
    have hnb55 := NB395_363.out
    have hnc55 := NB363_395.out
    have hnb56 := NB395_379.out
    have hnc56 := NB379_395.out
    have hnb57 := NB395_385.out
    have hnc57 := NB385_395.out
    have hcz58_0 : w47.cell? ⟨gb395, 0, none⟩ = some (.int .i64 0) := (blk_cell BK395.out 0).trans rfl
    have hcz58_1 : w47.cell? ⟨gb395, 1, none⟩ = some (.int .i64 0) := (blk_cell BK395.out 1).trans rfl
    have hcz58_2 : w47.cell? ⟨gb395, 2, none⟩ = some (.slice none 0 0) := (blk_cell BK395.out 2).trans rfl
    have hfz58_0 := blk_frozen BK395.out 0
    have hfz58_1 := blk_frozen BK395.out 1
    have hfz58_2 := blk_frozen BK395.out 2
    have hnb59 := NB379_362.out
    have hnc59 := NB362_379.out
    have hnb60 := NB379_363.out
    have hnc60 := NB363_379.out
    have hnb61 := NB379_385.out
    have hnc61 := NB385_379.out
    have hcz62_0 : w47.cell? ⟨gb379, 0, none⟩ = some (.int .i64 t373) := (blk_cell BK379.out 0).trans rfl
    have hcz62_1 : w47.cell? ⟨gb379, 1, none⟩ = some (.int .i64 t374) := (blk_cell BK379.out 1).trans rfl
    have hcz62_2 : w47.cell? ⟨gb379, 2, none⟩ = some (.slice Ao31 t375.length co31) := (blk_cell BK379.out 2).trans rfl
    have hfz62_0 := blk_frozen BK379.out 0
    have hfz62_1 := blk_frozen BK379.out 1
    have hfz62_2 := blk_frozen BK379.out 2
    go_wp2_with (first | ((with_reducible refine gate_callee (f := 11) rfl ?_); refine goesL_ (some 40) rfl rfl Try.func11 (by kernel_rfl) rfl #[.agg #[.int .i64 t389, .int .i64 t390, .slice Ao50 t391.length co50], .agg #[.int .i64 t373, .int .i64 t374, .slice Ao31 t375.length co31]] rfl (by (try simp only [List.map_toArray, List.map_cons, List.map_nil]); first | done | rfl | (simp only [List.length_drop, List.length_take]; rfl)) ?_; (with_reducible refine (laws_eqPuzzle.calls k t389 t390 _ _ t391 t373 t374 _ _ t375 true _ ?side1 ?side2 ?side3 ?side4 A52.out).mono ?_); (case side1 => refine (Kd.R_reads' (e := 37) (base := w.heap.size) (ok := fun k_ => (some k_ ≠ (v368 : Value).ownBlock ∧ (some k_ ≠ (.slice Ao31 t375.length co31 : Value).ownBlock ∧ some k_ ≠ (.slice Ao41 t382.length co41 : Value).ownBlock))) (n := t391.length) (c := co50) ?_).2.2; exact (by (with_reducible repeat (first | apply Kd.R_alloc | apply Kd.R_drewN | apply Kd.R_drew)); exact (Kd.R_mono (Kd.R_far (p := ⟨gb395, 2, none⟩) (Kd.R_far (p := ⟨gb395, 1, none⟩) (Kd.R_far (p := ⟨gb395, 0, none⟩) (Kd.R_types HO393.out BK395.out (by decide)) (fun _ hk => hk.2) (.int .i64 t389)) (fun _ hk => hk.2) (.int .i64 t390)) (fun _ hk => hk.2) (.slice Ao50 t391.length co50)) (fun _ h_ => h_.1)))); (case side2 => exact (Kd.R_reads' HO393.out).2.1); (case side3 => refine (Kd.R_reads' (e := 37) (base := w.heap.size) (ok := fun k_ => (some k_ ≠ (v368 : Value).ownBlock ∧ (some k_ ≠ (.slice Ao41 t382.length co41 : Value).ownBlock ∧ some k_ ≠ (.slice Ao50 t391.length co50 : Value).ownBlock))) (n := t375.length) (c := co31) ?_).2.2; exact (by (with_reducible repeat (first | apply Kd.R_alloc | apply Kd.R_drewN | apply Kd.R_drew)); exact (Kd.R_mono (Kd.R_far (p := ⟨gb395, 2, none⟩) (Kd.R_far (p := ⟨gb395, 1, none⟩) (Kd.R_far (p := ⟨gb395, 0, none⟩) (Kd.R_types HO377.out BK395.out (by decide)) (fun _ hk => hk.2) (.int .i64 t389)) (fun _ hk => hk.2) (.int .i64 t390)) (fun _ hk => hk.2) (.slice Ao50 t391.length co50)) (fun _ h_ => h_.1)))); (case side4 => exact (Kd.R_reads' HO377.out).2.1); rintro e w63 ⟨rfl, hb⟩; refine ⟨_, rfl, ?_⟩; have n0_ := amk (Kd.R_below (by (with_reducible repeat (first | apply Kd.R_alloc | apply Kd.R_drewN | apply Kd.R_drew)); exact (Kd.R_mono (Kd.R_far (p := ⟨gb395, 2, none⟩) (Kd.R_far (p := ⟨gb395, 1, none⟩) (Kd.R_far (p := ⟨gb395, 0, none⟩) (Kd.R_types HO369.out BK395.out (by decide)) (fun _ hk => hk.2) (.int .i64 t389)) (fun _ hk => hk.2) (.int .i64 t390)) (fun _ hk => hk.2) (.slice Ao50 t391.length co50)) (fun _ h_ => h_.1))) hb); have n1_ := amk (Kd.R_below (by (with_reducible repeat (first | apply Kd.R_alloc | apply Kd.R_drewN | apply Kd.R_drew)); exact (Kd.R_mono (Kd.R_far (p := ⟨gb395, 2, none⟩) (Kd.R_far (p := ⟨gb395, 1, none⟩) (Kd.R_far (p := ⟨gb395, 0, none⟩) (Kd.R_types HO377.out BK395.out (by decide)) (fun _ hk => hk.2) (.int .i64 t389)) (fun _ hk => hk.2) (.int .i64 t390)) (fun _ hk => hk.2) (.slice Ao50 t391.length co50)) (fun _ h_ => h_.1))) hb); have n2_ := amk (Kd.R_below (by (with_reducible repeat (first | apply Kd.R_alloc | apply Kd.R_drewN | apply Kd.R_drew)); exact (Kd.R_mono (Kd.R_far (p := ⟨gb395, 2, none⟩) (Kd.R_far (p := ⟨gb395, 1, none⟩) (Kd.R_far (p := ⟨gb395, 0, none⟩) (Kd.R_types HO384.out BK395.out (by decide)) (fun _ hk => hk.2) (.int .i64 t389)) (fun _ hk => hk.2) (.int .i64 t390)) (fun _ hk => hk.2) (.slice Ao50 t391.length co50)) (fun _ h_ => h_.1))) hb); have n3_ := amk (Kd.R_below (by (with_reducible repeat (first | apply Kd.R_alloc | apply Kd.R_drewN | apply Kd.R_drew)); exact (Kd.R_mono (Kd.R_far (p := ⟨gb395, 2, none⟩) (Kd.R_far (p := ⟨gb395, 1, none⟩) (Kd.R_far (p := ⟨gb395, 0, none⟩) (Kd.R_types HO393.out BK395.out (by decide)) (fun _ hk => hk.2) (.int .i64 t389)) (fun _ hk => hk.2) (.int .i64 t390)) (fun _ hk => hk.2) (.slice Ao50 t391.length co50)) (fun _ h_ => h_.1))) hb); have n4_ := amk (blk_below (g := gb362) (o := .cells #[.int .i64 a0_0, .int .i64 a0_1, .slice A0_2 l0_2.length c0_2] 26 (0, 0)) (by (with_reducible repeat (first | refine kn_ ?_ _ | refine blk_drew ?_ | refine ka_ ?_ _)); refine blk_far ?_ NB362_395.out _; (with_reducible repeat (first | refine kn_ ?_ _ | refine blk_drew ?_ | refine ka_ ?_ _)); refine blk_far ?_ NB362_395.out _; (with_reducible repeat (first | refine kn_ ?_ _ | refine blk_drew ?_ | refine ka_ ?_ _)); refine blk_far ?_ NB362_395.out _; (with_reducible repeat (first | refine kn_ ?_ _ | refine blk_drew ?_ | refine ka_ ?_ _)); exact BK362.out) hb); have n5_ := amk (blk_below (g := gb363) (o := .cells #[.int .i64 a1_0, .int .i64 a1_1, .int .i64 a1_2] 28 (0, 0)) (by (with_reducible repeat (first | refine kn_ ?_ _ | refine blk_drew ?_ | refine ka_ ?_ _)); refine blk_far ?_ NB363_395.out _; (with_reducible repeat (first | refine kn_ ?_ _ | refine blk_drew ?_ | refine ka_ ?_ _)); refine blk_far ?_ NB363_395.out _; (with_reducible repeat (first | refine kn_ ?_ _ | refine blk_drew ?_ | refine ka_ ?_ _)); refine blk_far ?_ NB363_395.out _; (with_reducible repeat (first | refine kn_ ?_ _ | refine blk_drew ?_ | refine ka_ ?_ _)); exact BK363.out) hb); have n6_ := amk (blk_below (g := gb379) (o := .cells #[.int .i64 t373, .int .i64 t374, .slice Ao31 t375.length co31] 33 (0, 0)) (by (with_reducible repeat (first | refine kn_ ?_ _ | refine blk_drew ?_ | refine ka_ ?_ _)); refine blk_far ?_ NB379_395.out _; (with_reducible repeat (first | refine kn_ ?_ _ | refine blk_drew ?_ | refine ka_ ?_ _)); refine blk_far ?_ NB379_395.out _; (with_reducible repeat (first | refine kn_ ?_ _ | refine blk_drew ?_ | refine ka_ ?_ _)); refine blk_far ?_ NB379_395.out _; (with_reducible repeat (first | refine kn_ ?_ _ | refine blk_drew ?_ | refine ka_ ?_ _)); exact BK379.out) hb); have n7_ := amk (blk_below (g := gb385) (o := .cells #[.int .i64 t380, .int .i64 t381, .slice Ao41 t382.length co41] 33 (0, 0)) (by (with_reducible repeat (first | refine kn_ ?_ _ | refine blk_drew ?_ | refine ka_ ?_ _)); refine blk_far ?_ NB385_395.out _; (with_reducible repeat (first | refine kn_ ?_ _ | refine blk_drew ?_ | refine ka_ ?_ _)); refine blk_far ?_ NB385_395.out _; (with_reducible repeat (first | refine kn_ ?_ _ | refine blk_drew ?_ | refine ka_ ?_ _)); refine blk_far ?_ NB385_395.out _; (with_reducible repeat (first | refine kn_ ?_ _ | refine blk_drew ?_ | refine ka_ ?_ _)); exact BK385.out) hb); have n8_ := amk (blk_below (g := gb395) (o := .cells #[.int .i64 t389, .int .i64 t390, .slice Ao50 t391.length co50] 33 (0, 0)) (by (with_reducible repeat (first | refine kn_ ?_ _ | refine blk_drew ?_ | refine ka_ ?_ _)); refine blk_put (cs := #[.int .i64 t389, .int .i64 t390, .slice none 0 0]) ?_ 2 _ rfl; (with_reducible repeat (first | refine kn_ ?_ _ | refine blk_drew ?_ | refine ka_ ?_ _)); refine blk_put (cs := #[.int .i64 t389, .int .i64 0, .slice none 0 0]) ?_ 1 _ rfl; (with_reducible repeat (first | refine kn_ ?_ _ | refine blk_drew ?_ | refine ka_ ?_ _)); refine blk_put (cs := #[.int .i64 0, .int .i64 0, .slice none 0 0]) ?_ 0 _ rfl; (with_reducible repeat (first | refine kn_ ?_ _ | refine blk_drew ?_ | refine ka_ ?_ _)); exact BK395.out) hb); have n9_ := amk (bp_ (by repeat (first | (with_reducible first | exact HB.out | apply ba_ | apply bn_ | apply bd_ | refine bs_ ?_ GE362.out | refine bs_ ?_ GE363.out | refine bs_ ?_ GE379.out | refine bs_ ?_ GE385.out | refine bs_ ?_ GE395.out) | exact HB.out)) hb); clear HO369; clear HO377; clear HO384; clear HO393; clear BK362; clear BK363; clear BK379; clear BK385; clear BK395; clear HB; have HO369 := n0_; have HO377 := n1_; have HO384 := n2_; have HO393 := n3_; have BK362 := n4_; have BK363 := n5_; have BK379 := n6_; have BK385 := n7_; have BK395 := n8_; have HB := n9_; clear n0_ n1_ n2_ n3_ n4_ n5_ n6_ n7_ n8_ n9_; (try clear hb); (try clear hb2); (try clear hk); (try clear hi)))
    go_meet
    case rel => exact ⟨_, ((t394 != t378)), (by first | rfl | (simp; done) | (simp [*]; done)), H', ⟨by first | omega | exact Nat.le_refl _⟩, ⟨by (with_reducible repeat (first | apply Kd.R_alloc | apply Kd.R_drewN | apply Kd.R_drew)); exact Kd.R_mono HO377.out (fun _ hk => ⟨hk.2.1, hk.2.2⟩)⟩, ⟨by (with_reducible repeat (first | apply Kd.R_alloc | apply Kd.R_drewN | apply Kd.R_drew)); exact Kd.R_mono HO384.out (fun _ hk => ⟨hk.2.1, hk.2.2⟩)⟩, ⟨by (with_reducible repeat (first | apply Kd.R_alloc | apply Kd.R_drewN | apply Kd.R_drew)); exact Kd.R_mono HO393.out (fun _ hk => ⟨hk.2.1, hk.2.2⟩)⟩, ⟨by (with_reducible repeat (first | refine kn_ ?_ _ | refine blk_drew ?_ | refine ka_ ?_ _)); exact BK362.out⟩, ⟨by (with_reducible repeat (first | refine kn_ ?_ _ | refine blk_drew ?_ | refine ka_ ?_ _)); exact BK363.out⟩, ⟨by (with_reducible repeat (first | refine kn_ ?_ _ | refine blk_drew ?_ | refine ka_ ?_ _)); exact BK379.out⟩, ⟨by (with_reducible repeat (first | refine kn_ ?_ _ | refine blk_drew ?_ | refine ka_ ?_ _)); exact BK385.out⟩, ⟨by (with_reducible repeat (first | refine kn_ ?_ _ | refine blk_drew ?_ | refine ka_ ?_ _)); exact BK395.out⟩, ⟨by repeat (first | (with_reducible first | exact HB.out | apply ba_ | apply bn_ | apply bd_ | refine bs_ ?_ GE362.out | refine bs_ ?_ GE363.out | refine bs_ ?_ GE379.out | refine bs_ ?_ GE385.out | refine bs_ ?_ GE395.out) | exact HB.out)⟩⟩
   · replace c53 := Bool.eq_false_iff.mpr c53
    subst c53
    have H1 : (none) = some r := by rw [if_neg (show ¬ (false = true) by decide)] at H; exact H
    cases H1
  case rest =>
   clear HC16
   try clear c1; try clear p2; try clear c5; try clear c6; try clear c7; try clear c9; try clear c10; try clear c11; try clear c53; try clear c54; try clear c55; try clear c56; try clear c57; try clear c59; try clear c60; try clear c61; try clear c64; try clear c65; try clear c66; try clear c67; try clear c69; try clear c70; try clear c71; try clear hcz58_0; try clear hcz58_1; try clear hcz58_2; try clear hcz62_0; try clear hcz62_1; try clear hcz62_2; try clear hcz68_0; try clear hcz68_1; try clear hcz68_2; try clear hcz72_0; try clear hcz72_1; try clear hcz72_2; try clear hfz58_0; try clear hfz58_1; try clear hfz58_2; try clear hfz62_0; try clear hfz62_1; try clear hfz62_2; try clear hfz68_0; try clear hfz68_1; try clear hfz68_2; try clear hfz72_0; try clear hfz72_1; try clear hfz72_2
   obtain ⟨kq, x46_15, rfl, HA, HJ15, HO_380002, HO_386002, HO_396002, BK362, BK363, BK379, BK385, BK395, HB⟩ := hcut
   cases kq with
   | zero => exact absurd HA.out (by simp [laws_FnExactAddClue.j0])
   | succ kj15 =>
    have H := HA.out
    clear HA
    simp only [laws_FnExactAddClue.j0] at H
    by_cases c74 : x46_15 = true
    · subst c74
     have H1 : (none) = some r := by rw [if_pos rfl] at H; exact H
     cases H1
    · replace c74 := Bool.eq_false_iff.mpr c74
     subst c74
     have H1 : ((laws_toPuzzle.f kj15 a0_0 a0_1 l0_2).bind fun bt397 => ((laws_eqPuzzle.f kj15 t380 t381 t382 bt397.1 bt397.2.1 bt397.2.2).bind fun t402 => (if t402 = true then ((laws_markPuzzle.f kj15 t380 t381 t382 1).bind fun bt403 => (if bt403.1 < 0 then (none) else ((laws_eqPuzzle.f kj15 t389 t390 t391 t373 t374 t375).bind fun t405 => (if t405 = true then (laws_FnExactAddClue.j1 kj15 t378 (t394 != t378) a0_0 a0_1 l0_2 a1_0 a1_1 a1_2 t373 t374 t375 t389 t390 t391) else (none))))) else (none)))) = some r := by rw [if_neg (show ¬ (false = true) by decide)] at H; exact H
     clear H
     have H := H1
     clear H1
     replace H := Option.bind_eq_some_iff.mp H
     obtain ⟨⟨t397, t398, t399⟩, A750, H⟩ := H
     replace H : ((laws_eqPuzzle.f kj15 t380 t381 t382 t397 t398 t399).bind fun t402 => (if t402 = true then ((laws_markPuzzle.f kj15 t380 t381 t382 1).bind fun bt403 => (if bt403.1 < 0 then (none) else ((laws_eqPuzzle.f kj15 t389 t390 t391 t373 t374 t375).bind fun t405 => (if t405 = true then (laws_FnExactAddClue.j1 kj15 t378 (t394 != t378) a0_0 a0_1 l0_2 a1_0 a1_1 a1_2 t373 t374 t375 t389 t390 t391) else (none))))) else (none))) = some r := H
     have A75 := amk A750
     clear A750
     replace H := Option.bind_eq_some_iff.mp H
     obtain ⟨t402, A760, H⟩ := H
     replace H : (if t402 = true then ((laws_markPuzzle.f kj15 t380 t381 t382 1).bind fun bt403 => (if bt403.1 < 0 then (none) else ((laws_eqPuzzle.f kj15 t389 t390 t391 t373 t374 t375).bind fun t405 => (if t405 = true then (laws_FnExactAddClue.j1 kj15 t378 (t394 != t378) a0_0 a0_1 l0_2 a1_0 a1_1 a1_2 t373 t374 t375 t389 t390 t391) else (none))))) else (none)) = some r := H
     have A76 := amk A760
     clear A760
     by_cases c77 : t402 = true
     · subst c77
      have H1 : ((laws_markPuzzle.f kj15 t380 t381 t382 1).bind fun bt403 => (if bt403.1 < 0 then (none) else ((laws_eqPuzzle.f kj15 t389 t390 t391 t373 t374 t375).bind fun t405 => (if t405 = true then (laws_FnExactAddClue.j1 kj15 t378 (t394 != t378) a0_0 a0_1 l0_2 a1_0 a1_1 a1_2 t373 t374 t375 t389 t390 t391) else (none))))) = some r := by rw [if_pos rfl] at H; exact H
      clear H
      have H := H1
      clear H1
      replace H := Option.bind_eq_some_iff.mp H
      obtain ⟨⟨t403, t404⟩, A780, H⟩ := H
      replace H : (if t403 < 0 then (none) else ((laws_eqPuzzle.f kj15 t389 t390 t391 t373 t374 t375).bind fun t405 => (if t405 = true then (laws_FnExactAddClue.j1 kj15 t378 (t394 != t378) a0_0 a0_1 l0_2 a1_0 a1_1 a1_2 t373 t374 t375 t389 t390 t391) else (none)))) = some r := H
      have A78 := amk A780
      clear A780
      have HC79 := amk H
      clear H
      try go_wp2
      have n0_ := amk (Kd.R_drew HO_380002.out)
      have n1_ := amk (Kd.R_drew HO_386002.out)
      have n2_ := amk (Kd.R_drew HO_396002.out)
      have n3_ := amk (blk_drew BK362.out)
      have n4_ := amk (blk_drew BK363.out)
      have n5_ := amk (blk_drew BK379.out)
      have n6_ := amk (blk_drew BK385.out)
      have n7_ := amk (blk_drew BK395.out)
      have n8_ := amk (bd_ HB.out)
      clear HO_380002 HO_386002 HO_396002 BK362 BK363 BK379 BK385 BK395 HB
      have HO_380002 := n0_
      have HO_386002 := n1_
      have HO_396002 := n2_
      have BK362 := n3_
      have BK363 := n4_
      have BK379 := n5_
      have BK385 := n6_
      have BK395 := n7_
      have HB := n8_
      clear n0_ n1_ n2_ n3_ n4_ n5_ n6_ n7_ n8_
      refine start_ (n := 5) (S := fun w' => w'.cell? ⟨gb385, 0, none⟩ = some (.int .i64 t380) ∧ w'.cell? ⟨gb385, 1, none⟩ = some (.int .i64 t381) ∧ w'.cell? ⟨gb385, 2, none⟩ = some (.slice Ao41 t382.length co41) ∧ w'.cell? ⟨gb362, 0, none⟩ = some (.int .i64 a0_0) ∧ w'.cell? ⟨gb362, 1, none⟩ = some (.int .i64 a0_1) ∧ w'.cell? ⟨gb362, 2, none⟩ = some (.slice A0_2 l0_2.length c0_2)) (ds := []) #[false, false, false, false, false] (by kernel_rfl) rfl rfl ⟨(blk_cell BK385.out 0).trans rfl, (blk_cell BK385.out 1).trans rfl, (blk_cell BK385.out 2).trans rfl, (blk_cell BK362.out 0).trans rfl, (blk_cell BK362.out 1).trans rfl, (blk_cell BK362.out 2).trans rfl⟩ (fun hHeld => ?_)
      generalize wc.drew = w80 at HO_380002 HO_386002 HO_396002 BK362 BK363 BK379 BK385 BK395 HB hHeld ⊢
      refine take_ (i := 0) (N := some 47) (v := ?_) (a' := ?_) #[true, false, false, false, false] rfl rfl (by kernel_rfl) (fun _ _ _ h => h) (Or.inl ⟨by rfl, ?_⟩) hHeld ?_ ?_
      rotate_left
      · rintro w' ⟨s0, s1, s2, s3, s4, s5⟩
       go_simp
       with_reducible rfl
      rotate_left
      · simp only [Act.put, List.setIfInBounds_toArray, List.set_cons_zero, List.set_cons_succ, i64_w, i32_w]
       rfl
      refine take_ (i := 1) (N := some 48) (v := ?_) (a' := ?_) #[true, true, false, false, false] rfl rfl (by kernel_rfl) (fun _ _ _ h => h) (Or.inl ⟨by rfl, ?_⟩) hHeld ?_ ?_
      rotate_left
      · rintro w' ⟨s0, s1, s2, s3, s4, s5⟩
       go_simp
       with_reducible rfl
      rotate_left
      · simp only [Act.put, List.setIfInBounds_toArray, List.set_cons_zero, List.set_cons_succ, i64_w, i32_w]
       rfl
      refine one_ (i := 2) (N := some 49) #[true, true, true, false, false] rfl rfl (by kernel_rfl) (by decide) (fun K hK => ?_)
      refine goes_ Try.func8 (by kernel_rfl) rfl #[.agg #[.int .i64 a0_0, .int .i64 a0_1, .slice A0_2 l0_2.length c0_2]] (by rfl) rfl rfl (by (try simp only [List.map_toArray, List.map_cons, List.map_nil]); first | done | rfl | (simp only [List.length_drop, List.length_take]; rfl)) ?_
      with_reducible refine (laws_toPuzzle.calls kj15 a0_0 a0_1 _ _ l0_2 t397 t398 t399 _ ?side1 ?side2 A75.out).mono ?_
      (case side1 => repeat (first | exact (Kd.C_below HR0_2.out HB.out) | (with_reducible refine Kd.C_alloc ?_ _) | (with_reducible refine Kd.C_drewN ?_ _) | (with_reducible refine Kd.C_drew ?_)))
      (case side2 => exact HC0_2.out)
      rintro e w81 ⟨v400, rfl, ho0, hb⟩
      refine ⟨_, rfl, ?_⟩
      have n0_ := amk (Kd.R_elder' HO_380002.out (Kd.R_base ho0) hb)
      have n1_ := amk (Kd.R_elder' HO_386002.out (Kd.R_base ho0) hb)
      have n2_ := amk (Kd.R_elder' HO_396002.out (Kd.R_base ho0) hb)
      have n3_ := amk (Kd.R_lower (Kd.R_new' (Kd.R_new' (Kd.R_new' ho0 (Kd.R_lt HO_380002.out)) (Kd.R_lt HO_386002.out)) (Kd.R_lt HO_396002.out)) (below_size HB.out))
      have n4_ := amk (blk_below BK362.out hb)
      have n5_ := amk (blk_below BK363.out hb)
      have n6_ := amk (blk_below BK379.out hb)
      have n7_ := amk (blk_below BK385.out hb)
      have n8_ := amk (blk_below BK395.out hb)
      have n9_ := amk (bp_ HB.out hb)
      clear HO_380002 HO_386002 HO_396002 BK362 BK363 BK379 BK385 BK395 HB
      have HO_380002 := n0_
      have HO_386002 := n1_
      have HO_396002 := n2_
      have HO401 := n3_
      have BK362 := n4_
      have BK363 := n5_
      have BK379 := n6_
      have BK385 := n7_
      have BK395 := n8_
      have HB := n9_
      clear n0_ n1_ n2_ n3_ n4_ n5_ n6_ n7_ n8_ n9_
      (try clear hb)
      (try clear hb2)
      (try clear hk)
      (try clear hi)
      (try clear ho0)
      obtain ⟨Ao82, co82, eo82⟩ := Kd.R_slice HO401.out
      (first | subst eo82 | (injection eo82 with f1_ f2_ f3_; have f4_ := f1_.symm; have f5_ := f3_.symm; clear f1_ f2_ f3_; subst f4_; subst f5_))
      refine hK.out _ _ ⟨(blk_cell BK385.out 0).trans rfl, (blk_cell BK385.out 1).trans rfl, (blk_cell BK385.out 2).trans rfl, (blk_cell BK362.out 0).trans rfl, (blk_cell BK362.out 1).trans rfl, (blk_cell BK362.out 2).trans rfl⟩ (fun hHeld => ?_)
      clear hK K
      refine norm_ (a' := ?_) ?_ ?_
      rotate_left
      · show Act.put _ (some 49) _ = _
       simp only [Act.put, List.setIfInBounds_toArray, List.set_cons_zero, List.set_cons_succ, i64_w, i32_w]
       rfl
      refine one_ (i := 3) (N := some 50) #[true, true, true, true, false] rfl rfl (by kernel_rfl) (by decide) (fun K hK => ?_)
      refine goes_ Try.func11 (by kernel_rfl) rfl #[.agg #[.int .i64 t380, .int .i64 t381, .slice Ao41 t382.length co41], .agg #[.int .i64 t397, .int .i64 t398, .slice Ao82 t399.length co82]] (by rfl) rfl rfl (by (try simp only [List.map_toArray, List.map_cons, List.map_nil]); first | done | rfl | (simp only [List.length_drop, List.length_take]; rfl)) ?_
      with_reducible refine (laws_eqPuzzle.calls kj15 t380 t381 _ _ t382 t397 t398 _ _ t399 true _ ?side1 ?side2 ?side3 ?side4 A76.out).mono ?_
      (case side1 => repeat (first | exact (Kd.R_reads' HO_386002.out).2.2 | (with_reducible refine Kd.C_alloc ?_ _) | (with_reducible refine Kd.C_drewN ?_ _) | (with_reducible refine Kd.C_drew ?_)))
      (case side2 => exact (Kd.R_reads' HO_386002.out).2.1)
      (case side3 => repeat (first | exact (Kd.R_reads' HO401.out).2.2 | (with_reducible refine Kd.C_alloc ?_ _) | (with_reducible refine Kd.C_drewN ?_ _) | (with_reducible refine Kd.C_drew ?_)))
      (case side4 => exact (Kd.R_reads' HO401.out).2.1)
      rintro e w83 ⟨rfl, hb⟩
      refine ⟨_, rfl, ?_⟩
      have n0_ := amk (Kd.R_below HO_380002.out hb)
      have n1_ := amk (Kd.R_below HO_386002.out hb)
      have n2_ := amk (Kd.R_below HO_396002.out hb)
      have n3_ := amk (Kd.R_below HO401.out hb)
      have n4_ := amk (blk_below BK362.out hb)
      have n5_ := amk (blk_below BK363.out hb)
      have n6_ := amk (blk_below BK379.out hb)
      have n7_ := amk (blk_below BK385.out hb)
      have n8_ := amk (blk_below BK395.out hb)
      have n9_ := amk (bp_ HB.out hb)
      clear HO_380002 HO_386002 HO_396002 HO401 BK362 BK363 BK379 BK385 BK395 HB
      have HO_380002 := n0_
      have HO_386002 := n1_
      have HO_396002 := n2_
      have HO401 := n3_
      have BK362 := n4_
      have BK363 := n5_
      have BK379 := n6_
      have BK385 := n7_
      have BK395 := n8_
      have HB := n9_
      clear n0_ n1_ n2_ n3_ n4_ n5_ n6_ n7_ n8_ n9_
      (try clear hb)
      (try clear hb2)
      (try clear hk)
      (try clear hi)
      refine hK.out _ _ ⟨(blk_cell BK385.out 0).trans rfl, (blk_cell BK385.out 1).trans rfl, (blk_cell BK385.out 2).trans rfl, (blk_cell BK362.out 0).trans rfl, (blk_cell BK362.out 1).trans rfl, (blk_cell BK362.out 2).trans rfl⟩ (fun hHeld => ?_)
      clear hK K
      refine norm_ (a' := ?_) ?_ ?_
      rotate_left
      · show Act.put _ (some 50) _ = _
       simp only [Act.put, List.setIfInBounds_toArray, List.set_cons_zero, List.set_cons_succ, i64_w, i32_w]
       rfl
      refine pure_ (i := 4) (N := some 51) (v := ?_) (a' := ?_) #[true, true, true, true, true] rfl rfl (by kernel_rfl) (fun _ _ _ h => h) (Or.inl ⟨by rfl, ?_⟩) ?_ ?_
      rotate_left
      · intro w'
       go_simp
       with_reducible rfl
      rotate_left
      · simp only [Act.put, List.setIfInBounds_toArray, List.set_cons_zero, List.set_cons_succ, i64_w, i32_w]
       rfl
      refine done_ (by kernel_rfl) ?_
      have hnb84 := NB385_362.out
      have hnc84 := NB362_385.out
      have hnb85 := NB385_363.out
      have hnc85 := NB363_385.out
      have hnb86 := NB385_379.out
      have hnc86 := NB379_385.out
      have hnb87 := NB385_395.out
      have hnc87 := NB395_385.out
      have hcz88_0 : w83.cell? ⟨gb385, 0, none⟩ = some (.int .i64 t380) := (blk_cell BK385.out 0).trans rfl
      have hcz88_1 : w83.cell? ⟨gb385, 1, none⟩ = some (.int .i64 t381) := (blk_cell BK385.out 1).trans rfl
      have hcz88_2 : w83.cell? ⟨gb385, 2, none⟩ = some (.slice Ao41 t382.length co41) := (blk_cell BK385.out 2).trans rfl
      have hfz88_0 := blk_frozen BK385.out 0
      have hfz88_1 := blk_frozen BK385.out 1
      have hfz88_2 := blk_frozen BK385.out 2
      go_upto_region 14 with (first | ((with_reducible refine gate_callee (f := 12) rfl ?_); refine goesL_ (some 54) rfl rfl Try.func12 (by kernel_rfl) rfl #[.agg #[.int .i64 t380, .int .i64 t381, .slice Ao41 t382.length co41], .int .i64 1] rfl (by (try simp only [List.map_toArray, List.map_cons, List.map_nil]); first | done | rfl | (simp only [List.length_drop, List.length_take]; rfl)) ?_; (with_reducible refine (laws_markPuzzle.calls kj15 t380 t381 (fun k_ => some k_ = (.slice Ao41 t382.length co41 : Value).ownBlock) (.slice Ao41 t382.length co41) t382 1 t403 t404 w _ ?side1 ?side2 A78.out).mono ?_); (case side1 => repeat (first | (with_reducible first | exact HB.out | apply ba_ | apply bn_ | apply bd_ | refine bs_ ?_ GE362.out | refine bs_ ?_ GE363.out | refine bs_ ?_ GE379.out | refine bs_ ?_ GE385.out | refine bs_ ?_ GE395.out) | exact HB.out)); (case side2 => exact Kd.R_tight rfl HO_386002.out); rintro e w89 ⟨rfl, hy0, hb, hkp⟩; refine ⟨_, rfl, ?_⟩; have n0_ := amk (Kd.R_mono (ok' := fun k_ => some k_ ≠ (.slice Ao41 t382.length co41 : Value).ownBlock ∧ some k_ ≠ (.slice Ao50 t391.length co50 : Value).ownBlock ∧ some k_ ≠ (.slice Ao82 t399.length co82 : Value).ownBlock) (Kd.R_keptB (HO_380002.out) hkp (fun k_ hk_ hs_ => (hk_.1.1) hs_)) (fun k_ hk_ => ⟨hk_.1.1.1, hk_.1.1.2, hk_.1.2⟩)); have n1_ := amk (Kd.R_reok rfl hy0 (fun k_ e_ => HO_386002.out.1 k_ e_)); have n2_ := amk (Kd.R_mono (ok' := fun k_ => some k_ ≠ (.slice Ao31 t375.length co31 : Value).ownBlock ∧ some k_ ≠ (.slice Ao41 t382.length co41 : Value).ownBlock ∧ some k_ ≠ (.slice Ao82 t399.length co82 : Value).ownBlock) (Kd.R_keptB (HO_396002.out) hkp (fun k_ hk_ hs_ => (hk_.1.2) hs_)) (fun k_ hk_ => ⟨hk_.1.1.1, hk_.1.1.2, hk_.1.2⟩)); have n3_ := amk (blk_kept (by (with_reducible repeat (first | refine kn_ ?_ _ | refine blk_drew ?_ | refine ka_ ?_ _)); exact BK362.out) hkp (fun hs_ => (fun e_ => (Kd.R_ne HO_386002.out BK362.out (by decide)) e_) hs_)); have n4_ := amk (blk_kept (by (with_reducible repeat (first | refine kn_ ?_ _ | refine blk_drew ?_ | refine ka_ ?_ _)); exact BK363.out) hkp (fun hs_ => (fun e_ => (Kd.R_ne HO_386002.out BK363.out (by decide)) e_) hs_)); have n5_ := amk (blk_kept (by (with_reducible repeat (first | refine kn_ ?_ _ | refine blk_drew ?_ | refine ka_ ?_ _)); exact BK379.out) hkp (fun hs_ => (fun e_ => (Kd.R_ne HO_386002.out BK379.out (by decide)) e_) hs_)); have n6_ := amk (blk_kept (by (with_reducible repeat (first | refine kn_ ?_ _ | refine blk_drew ?_ | refine ka_ ?_ _)); exact BK385.out) hkp (fun hs_ => (fun e_ => (Kd.R_ne HO_386002.out BK385.out (by decide)) e_) hs_)); have n7_ := amk (blk_kept (by (with_reducible repeat (first | refine kn_ ?_ _ | refine blk_drew ?_ | refine ka_ ?_ _)); exact BK395.out) hkp (fun hs_ => (fun e_ => (Kd.R_ne HO_386002.out BK395.out (by decide)) e_) hs_)); have n8_ := amk (Kd.R_mono (ok' := fun k_ => some k_ ≠ (.slice Ao31 t375.length co31 : Value).ownBlock ∧ some k_ ≠ (.slice Ao41 t382.length co41 : Value).ownBlock ∧ some k_ ≠ (.slice Ao50 t391.length co50 : Value).ownBlock) (Kd.R_keptB (HO401.out) hkp (fun k_ hk_ hs_ => (hk_.1.2) hs_)) (fun k_ hk_ => ⟨hk_.1.1.1.2, hk_.1.1.2, hk_.1.2⟩)); have n9_ := amk (hb); clear HO_380002; clear HO_386002; clear HO_396002; clear BK362; clear BK363; clear BK379; clear BK385; clear BK395; clear HO401; clear HB; have HO_380002 := n0_; have HO_386002 := n1_; have HO_396002 := n2_; have BK362 := n3_; have BK363 := n4_; have BK379 := n5_; have BK385 := n6_; have BK395 := n7_; have HO401 := n8_; have HB := n9_; clear n0_ n1_ n2_ n3_ n4_ n5_ n6_ n7_ n8_ n9_; (try clear hb); (try clear hkp); (try clear hy0)))
      (try simp only [Act.put, List.setIfInBounds_toArray, List.set_cons_zero, List.set_cons_succ])
      go_cut [67] (fun v67 wc => ∃ (kq : Nat) (x67_78 : Bool), v67 = .bool x67_78 ∧ Aside0 (laws_FnExactAddClue.j1 kq t378 x67_78 a0_0 a0_1 l0_2 a1_0 a1_1 a1_2 t373 t374 t375 t389 t390 t391 = some r) ∧ Aside0 (kq ≤ kj15) ∧ Aside0 (Kd.R k37 37 wc w.heap.size (fun k_ => some k_ ≠ ((.slice Ao41 t382.length co41) : Value).ownBlock ∧ some k_ ≠ ((.slice Ao50 t391.length co50) : Value).ownBlock) (.slice Ao31 t375.length co31) t375) ∧ Aside0 (Kd.R k37 37 wc w.heap.size (fun k_ => some k_ ≠ ((.slice Ao31 t375.length co31) : Value).ownBlock ∧ some k_ ≠ ((.slice Ao50 t391.length co50) : Value).ownBlock) (.slice Ao41 t382.length co41) t404) ∧ Aside0 (Kd.R k37 37 wc w.heap.size (fun k_ => some k_ ≠ ((.slice Ao31 t375.length co31) : Value).ownBlock ∧ some k_ ≠ ((.slice Ao41 t382.length co41) : Value).ownBlock) (.slice Ao50 t391.length co50) t391) ∧ Aside0 (wc.heap[gb362]? = some (.cells #[.int .i64 a0_0, .int .i64 a0_1, (.slice A0_2 l0_2.length c0_2)] 26 (0, 0))) ∧ Aside0 (wc.heap[gb363]? = some (.cells #[.int .i64 a1_0, .int .i64 a1_1, .int .i64 a1_2] 28 (0, 0))) ∧ Aside0 (wc.heap[gb379]? = some (.cells #[.int .i64 t373, .int .i64 t374, (.slice Ao31 t375.length co31)] 33 (0, 0))) ∧ Aside0 (wc.heap[gb385]? = some (.cells #[.int .i64 t380, .int .i64 t381, (.slice Ao41 t382.length co41)] 33 (0, 0))) ∧ Aside0 (wc.heap[gb395]? = some (.cells #[.int .i64 t389, .int .i64 t390, (.slice Ao50 t391.length co50)] 33 (0, 0))) ∧ Aside0 (Below w.heap.size w wc))
      case first =>
       have H := HC79.out
       clear HC79
       by_cases c90 : t403 < 0
       · rw [if_pos c90] at H
        cases H
       · rw [if_neg c90] at H
        have c90b0 : decide (t403 < 0) = false := decide_eq_false c90
        clear c90
        (first | rw [c90b0] | (simp only [i64_w, i32_w]; rw [c90b0]) | skip)
        replace H := Option.bind_eq_some_iff.mp H
        obtain ⟨t405, A910, H⟩ := H
        replace H : (if t405 = true then (laws_FnExactAddClue.j1 kj15 t378 (t394 != t378) a0_0 a0_1 l0_2 a1_0 a1_1 a1_2 t373 t374 t375 t389 t390 t391) else (none)) = some r := H
        have A91 := amk A910
        clear A910
        by_cases c92 : t405 = true
        · subst c92
         have H1 : (laws_FnExactAddClue.j1 kj15 t378 (t394 != t378) a0_0 a0_1 l0_2 a1_0 a1_1 a1_2 t373 t374 t375 t389 t390 t391) = some r := by rw [if_pos rfl] at H; exact H
         clear H
         have H := H1
         clear H1
         have H' := amk H
         clear H
         have hnb93 := NB395_362.out
         have hnc93 := NB362_395.out
         have hnb94 := NB395_363.out
         have hnc94 := NB363_395.out
         have hnb95 := NB395_379.out
         have hnc95 := NB379_395.out
         have hnb96 := NB395_385.out
         have hnc96 := NB385_395.out
         have hcz97_0 : w89.cell? ⟨gb395, 0, none⟩ = some (.int .i64 t389) := (blk_cell BK395.out 0).trans rfl
         have hcz97_1 : w89.cell? ⟨gb395, 1, none⟩ = some (.int .i64 t390) := (blk_cell BK395.out 1).trans rfl
         have hcz97_2 : w89.cell? ⟨gb395, 2, none⟩ = some (.slice Ao50 t391.length co50) := (blk_cell BK395.out 2).trans rfl
         have hfz97_0 := blk_frozen BK395.out 0
         have hfz97_1 := blk_frozen BK395.out 1
         have hfz97_2 := blk_frozen BK395.out 2
         have hnb98 := NB379_362.out
         have hnc98 := NB362_379.out
         have hnb99 := NB379_363.out
         have hnc99 := NB363_379.out
         have hnb100 := NB379_385.out
         have hnc100 := NB385_379.out
         have hcz101_0 : w89.cell? ⟨gb379, 0, none⟩ = some (.int .i64 t373) := (blk_cell BK379.out 0).trans rfl
         have hcz101_1 : w89.cell? ⟨gb379, 1, none⟩ = some (.int .i64 t374) := (blk_cell BK379.out 1).trans rfl
         have hcz101_2 : w89.cell? ⟨gb379, 2, none⟩ = some (.slice Ao31 t375.length co31) := (blk_cell BK379.out 2).trans rfl
         have hfz101_0 := blk_frozen BK379.out 0
         have hfz101_1 := blk_frozen BK379.out 1
         have hfz101_2 := blk_frozen BK379.out 2
         go_wp2_with (first | (go_at_call 11; (with_reducible refine (laws_eqPuzzle.calls kj15 t389 t390 _ _ t391 t373 t374 _ _ t375 true _ ?side1 ?side2 ?side3 ?side4 A91.out).mono ?_); (case side1 => repeat (first | exact (Kd.R_reads' HO_396002.out).2.2 | (with_reducible refine Kd.C_alloc ?_ _) | (with_reducible refine Kd.C_drewN ?_ _) | (with_reducible refine Kd.C_drew ?_))); (case side2 => exact (Kd.R_reads' HO_396002.out).2.1); (case side3 => repeat (first | exact (Kd.R_reads' HO_380002.out).2.2 | (with_reducible refine Kd.C_alloc ?_ _) | (with_reducible refine Kd.C_drewN ?_ _) | (with_reducible refine Kd.C_drew ?_))); (case side4 => exact (Kd.R_reads' HO_380002.out).2.1); rintro e w102 ⟨rfl, hb⟩; have n0_ := amk (Kd.R_below (by (with_reducible repeat (first | apply Kd.R_alloc | apply Kd.R_drewN | apply Kd.R_drew)); exact HO_380002.out) hb); have n1_ := amk (Kd.R_below (by (with_reducible repeat (first | apply Kd.R_alloc | apply Kd.R_drewN | apply Kd.R_drew)); exact HO_386002.out) hb); have n2_ := amk (Kd.R_below (by (with_reducible repeat (first | apply Kd.R_alloc | apply Kd.R_drewN | apply Kd.R_drew)); exact HO_396002.out) hb); have n3_ := amk (Kd.R_below (by (with_reducible repeat (first | apply Kd.R_alloc | apply Kd.R_drewN | apply Kd.R_drew)); exact HO401.out) hb); have n4_ := amk (blk_below (g := gb362) (o := .cells #[.int .i64 a0_0, .int .i64 a0_1, .slice A0_2 l0_2.length c0_2] 26 (0, 0)) (by (with_reducible repeat (first | refine kn_ ?_ _ | refine blk_drew ?_ | refine ka_ ?_ _)); exact BK362.out) hb); have n5_ := amk (blk_below (g := gb363) (o := .cells #[.int .i64 a1_0, .int .i64 a1_1, .int .i64 a1_2] 28 (0, 0)) (by (with_reducible repeat (first | refine kn_ ?_ _ | refine blk_drew ?_ | refine ka_ ?_ _)); exact BK363.out) hb); have n6_ := amk (blk_below (g := gb379) (o := .cells #[.int .i64 t373, .int .i64 t374, .slice Ao31 t375.length co31] 33 (0, 0)) (by (with_reducible repeat (first | refine kn_ ?_ _ | refine blk_drew ?_ | refine ka_ ?_ _)); exact BK379.out) hb); have n7_ := amk (blk_below (g := gb385) (o := .cells #[.int .i64 t380, .int .i64 t381, .slice Ao41 t382.length co41] 33 (0, 0)) (by (with_reducible repeat (first | refine kn_ ?_ _ | refine blk_drew ?_ | refine ka_ ?_ _)); exact BK385.out) hb); have n8_ := amk (blk_below (g := gb395) (o := .cells #[.int .i64 t389, .int .i64 t390, .slice Ao50 t391.length co50] 33 (0, 0)) (by (with_reducible repeat (first | refine kn_ ?_ _ | refine blk_drew ?_ | refine ka_ ?_ _)); exact BK395.out) hb); have n9_ := amk (bp_ (by repeat (first | (with_reducible first | exact HB.out | apply ba_ | apply bn_ | apply bd_ | refine bs_ ?_ GE362.out | refine bs_ ?_ GE363.out | refine bs_ ?_ GE379.out | refine bs_ ?_ GE385.out | refine bs_ ?_ GE395.out) | exact HB.out)) hb); clear HO_380002; clear HO_386002; clear HO_396002; clear HO401; clear BK362; clear BK363; clear BK379; clear BK385; clear BK395; clear HB; have HO_380002 := n0_; have HO_386002 := n1_; have HO_396002 := n2_; have HO401 := n3_; have BK362 := n4_; have BK363 := n5_; have BK379 := n6_; have BK385 := n7_; have BK395 := n8_; have HB := n9_; clear n0_ n1_ n2_ n3_ n4_ n5_ n6_ n7_ n8_ n9_; (try clear hb); (try clear hb2); (try clear hk); (try clear hi)))
         go_meet
         case rel => exact ⟨_, ((t394 != t378)), (by first | rfl | (simp; done) | (simp [*]; done)), H', ⟨by have := HJ15.out; first | omega | exact Nat.le_refl _⟩, ⟨by (with_reducible repeat (first | apply Kd.R_alloc | apply Kd.R_drewN | apply Kd.R_drew)); exact Kd.R_mono HO_380002.out (fun _ hk => ⟨hk.1, hk.2.1⟩)⟩, ⟨by (with_reducible repeat (first | apply Kd.R_alloc | apply Kd.R_drewN | apply Kd.R_drew)); exact Kd.R_mono HO_386002.out (fun _ hk => ⟨hk.1.1, hk.1.2⟩)⟩, ⟨by (with_reducible repeat (first | apply Kd.R_alloc | apply Kd.R_drewN | apply Kd.R_drew)); exact Kd.R_mono HO_396002.out (fun _ hk => ⟨hk.1, hk.2.1⟩)⟩, ⟨by (with_reducible repeat (first | refine kn_ ?_ _ | refine blk_drew ?_ | refine ka_ ?_ _)); exact BK362.out⟩, ⟨by (with_reducible repeat (first | refine kn_ ?_ _ | refine blk_drew ?_ | refine ka_ ?_ _)); exact BK363.out⟩, ⟨by (with_reducible repeat (first | refine kn_ ?_ _ | refine blk_drew ?_ | refine ka_ ?_ _)); exact BK379.out⟩, ⟨by (with_reducible repeat (first | refine kn_ ?_ _ | refine blk_drew ?_ | refine ka_ ?_ _)); exact BK385.out⟩, ⟨by (with_reducible repeat (first | refine kn_ ?_ _ | refine blk_drew ?_ | refine ka_ ?_ _)); exact BK395.out⟩, ⟨by repeat (first | (with_reducible first | exact HB.out | apply ba_ | apply bn_ | apply bd_ | refine bs_ ?_ GE362.out | refine bs_ ?_ GE363.out | refine bs_ ?_ GE379.out | refine bs_ ?_ GE385.out | refine bs_ ?_ GE395.out) | exact HB.out)⟩⟩
        · replace c92 := Bool.eq_false_iff.mpr c92
         subst c92
         have H1 : (none) = some r := by rw [if_neg (show ¬ (false = true) by decide)] at H; exact H
         cases H1
      case rest =>
       clear HC79
       try clear c1; try clear p2; try clear c5; try clear c6; try clear c7; try clear c8; try clear c9; try clear c10; try clear c11; try clear c12; try clear c53; try clear c54; try clear c55; try clear c56; try clear c57; try clear c59; try clear c60; try clear c61; try clear c64; try clear c65; try clear c66; try clear c67; try clear c69; try clear c70; try clear c71; try clear c74; try clear c77; try clear c84; try clear c85; try clear c86; try clear c87; try clear c90; try clear c90b0; try clear c92; try clear c93; try clear c94; try clear c95; try clear c96; try clear c98; try clear c99; try clear c100; try clear c103; try clear c104; try clear c105; try clear c106; try clear c108; try clear c109; try clear c110; try clear hcz101_0; try clear hcz101_1; try clear hcz101_2; try clear hcz107_0; try clear hcz107_1; try clear hcz107_2; try clear hcz111_0; try clear hcz111_1; try clear hcz111_2; try clear hcz58_0; try clear hcz58_1; try clear hcz58_2; try clear hcz62_0; try clear hcz62_1; try clear hcz62_2; try clear hcz68_0; try clear hcz68_1; try clear hcz68_2; try clear hcz72_0; try clear hcz72_1; try clear hcz72_2; try clear hcz88_0; try clear hcz88_1; try clear hcz88_2; try clear hcz97_0; try clear hcz97_1; try clear hcz97_2; try clear hfz101_0; try clear hfz101_1; try clear hfz101_2; try clear hfz107_0; try clear hfz107_1; try clear hfz107_2; try clear hfz111_0; try clear hfz111_1; try clear hfz111_2; try clear hfz58_0; try clear hfz58_1; try clear hfz58_2; try clear hfz62_0; try clear hfz62_1; try clear hfz62_2; try clear hfz68_0; try clear hfz68_1; try clear hfz68_2; try clear hfz72_0; try clear hfz72_1; try clear hfz72_2; try clear hfz88_0; try clear hfz88_1; try clear hfz88_2; try clear hfz97_0; try clear hfz97_1; try clear hfz97_2; try clear p2
       obtain ⟨kq, x67_78, rfl, HA, HJ78, HO_380002, HO_386002, HO_396002, BK362, BK363, BK379, BK385, BK395, HB⟩ := hcut
       have hl386002_78 := (Kd.R_reads' HO_386002.out).1
       rw [hl386002_78] at HO_386002
       (try simp only [hl386002_78])
       (try simp only [hl386002_78] at BK362)
       (try simp only [hl386002_78] at BK363)
       (try simp only [hl386002_78] at BK379)
       (try simp only [hl386002_78] at BK385)
       (try simp only [hl386002_78] at BK395)
       (try simp only [hl386002_78] at HO_380002)
       (try simp only [hl386002_78] at HO_396002)
       cases kq with
       | zero => exact absurd HA.out (by simp [laws_FnExactAddClue.j1])
       | succ kj78 =>
        have H := HA.out
        clear HA
        simp only [laws_FnExactAddClue.j1] at H
        by_cases c113 : x67_78 = true
        · subst c113
         have H1 : (none) = some r := by rw [if_pos rfl] at H; exact H
         cases H1
        · replace c113 := Bool.eq_false_iff.mpr c113
         subst c113
         have H1 : ((laws_markPuzzle.f kj78 t389 t390 t391 1).bind fun bt406 => ((laws_heldPuzzle.f kj78 t389 t390 bt406.2 1).bind fun t408 => (if t408 < 0 then (none) else (if t408 = bt406.1 then ((laws_toPuzzle.f kj78 a0_0 a0_1 l0_2).bind fun bt409 => ((laws_toClue.f a1_0 a1_1 a1_2).bind fun bt414 => ((impl_AddClue.f bt409.1 bt409.2.1 bt409.2.2 bt414.1 bt414.2.1 bt414.2.2).bind fun bt417 => ((laws_eqPuzzle.f kj78 bt417.1 bt417.2.1 bt417.2.2.1 t373 t374 t375).bind fun t424 => (if t424 = true then (laws_FnExactAddClue.j2 kj78 bt406.1 (bt417.2.2.2 != t378) t389 t390 bt406.2) else (none)))))) else (none))))) = some r := by rw [if_neg (show ¬ (false = true) by decide)] at H; exact H
         clear H
         have H := H1
         clear H1
         replace H := Option.bind_eq_some_iff.mp H
         obtain ⟨⟨t406, t407⟩, A1140, H⟩ := H
         replace H : ((laws_heldPuzzle.f kj78 t389 t390 t407 1).bind fun t408 => (if t408 < 0 then (none) else (if t408 = t406 then ((laws_toPuzzle.f kj78 a0_0 a0_1 l0_2).bind fun bt409 => ((laws_toClue.f a1_0 a1_1 a1_2).bind fun bt414 => ((impl_AddClue.f bt409.1 bt409.2.1 bt409.2.2 bt414.1 bt414.2.1 bt414.2.2).bind fun bt417 => ((laws_eqPuzzle.f kj78 bt417.1 bt417.2.1 bt417.2.2.1 t373 t374 t375).bind fun t424 => (if t424 = true then (laws_FnExactAddClue.j2 kj78 t406 (bt417.2.2.2 != t378) t389 t390 t407) else (none)))))) else (none)))) = some r := H
         have A114 := amk A1140
         clear A1140
         replace H := Option.bind_eq_some_iff.mp H
         obtain ⟨t408, A1150, H⟩ := H
         replace H : (if t408 < 0 then (none) else (if t408 = t406 then ((laws_toPuzzle.f kj78 a0_0 a0_1 l0_2).bind fun bt409 => ((laws_toClue.f a1_0 a1_1 a1_2).bind fun bt414 => ((impl_AddClue.f bt409.1 bt409.2.1 bt409.2.2 bt414.1 bt414.2.1 bt414.2.2).bind fun bt417 => ((laws_eqPuzzle.f kj78 bt417.1 bt417.2.1 bt417.2.2.1 t373 t374 t375).bind fun t424 => (if t424 = true then (laws_FnExactAddClue.j2 kj78 t406 (bt417.2.2.2 != t378) t389 t390 t407) else (none)))))) else (none))) = some r := H
         have A115 := amk A1150
         clear A1150
         by_cases c116 : t408 < 0
         · rw [if_pos c116] at H
          cases H
         · rw [if_neg c116] at H
          have c116b0 : decide (t408 < 0) = false := decide_eq_false c116
          clear c116
          by_cases c125 : t408 = t406
          · rw [if_pos c125] at H
           have c125b0 : (t408 == t406) = true := beq_iff_eq.mpr c125
           have c125b1 : (t408 != t406) = false := bne_eq_false_iff_eq.mpr c125
           clear c125
           replace H := Option.bind_eq_some_iff.mp H
           obtain ⟨⟨t409, t410, t411⟩, A1260, H⟩ := H
           replace H : ((laws_toClue.f a1_0 a1_1 a1_2).bind fun bt414 => ((impl_AddClue.f t409 t410 t411 bt414.1 bt414.2.1 bt414.2.2).bind fun bt417 => ((laws_eqPuzzle.f kj78 bt417.1 bt417.2.1 bt417.2.2.1 t373 t374 t375).bind fun t424 => (if t424 = true then (laws_FnExactAddClue.j2 kj78 t406 (bt417.2.2.2 != t378) t389 t390 t407) else (none))))) = some r := H
           have A126 := amk A1260
           clear A1260
           replace H := Option.bind_eq_some_iff.mp H
           obtain ⟨⟨t414, t415, t416⟩, A1270, H⟩ := H
           replace H : ((impl_AddClue.f t409 t410 t411 t414 t415 t416).bind fun bt417 => ((laws_eqPuzzle.f kj78 bt417.1 bt417.2.1 bt417.2.2.1 t373 t374 t375).bind fun t424 => (if t424 = true then (laws_FnExactAddClue.j2 kj78 t406 (bt417.2.2.2 != t378) t389 t390 t407) else (none)))) = some r := H
           have A127 := amk A1270
           clear A1270
           replace H := Option.bind_eq_some_iff.mp H
           obtain ⟨⟨t417, t418, t419, t422⟩, A1280, H⟩ := H
           replace H : ((laws_eqPuzzle.f kj78 t417 t418 t419 t373 t374 t375).bind fun t424 => (if t424 = true then (laws_FnExactAddClue.j2 kj78 t406 (t422 != t378) t389 t390 t407) else (none))) = some r := H
           have A128 := amk A1280
           clear A1280
           have HC129 := amk H
           clear H
           have hnb130 := NB395_362.out
           have hnc130 := NB362_395.out
           have hnb131 := NB395_363.out
           have hnc131 := NB363_395.out
           have hnb132 := NB395_379.out
           have hnc132 := NB379_395.out
           have hnb133 := NB395_385.out
           have hnc133 := NB385_395.out
           have hcz134_0 : wc.cell? ⟨gb395, 0, none⟩ = some (.int .i64 t389) := (blk_cell BK395.out 0).trans rfl
           have hcz134_1 : wc.cell? ⟨gb395, 1, none⟩ = some (.int .i64 t390) := (blk_cell BK395.out 1).trans rfl
           have hcz134_2 : wc.cell? ⟨gb395, 2, none⟩ = some (.slice Ao50 t391.length co50) := (blk_cell BK395.out 2).trans rfl
           have hfz134_0 := blk_frozen BK395.out 0
           have hfz134_1 := blk_frozen BK395.out 1
           have hfz134_2 := blk_frozen BK395.out 2
           try go_wp2_with (first | ((with_reducible refine gate_callee (f := 12) rfl ?_); refine goesL_ (some 70) rfl rfl Try.func12 (by kernel_rfl) rfl #[.agg #[.int .i64 t389, .int .i64 t390, .slice Ao50 t391.length co50], .int .i64 1] rfl (by (try simp only [List.map_toArray, List.map_cons, List.map_nil]); first | done | rfl | (simp only [List.length_drop, List.length_take]; rfl)) ?_; (with_reducible refine (laws_markPuzzle.calls kj78 t389 t390 (fun k_ => some k_ = (.slice Ao50 t391.length co50 : Value).ownBlock) (.slice Ao50 t391.length co50) t391 1 t406 t407 w _ ?side1 ?side2 A114.out).mono ?_); (case side1 => repeat (first | (with_reducible first | exact HB.out | apply ba_ | apply bn_ | apply bd_ | refine bs_ ?_ GE362.out | refine bs_ ?_ GE363.out | refine bs_ ?_ GE379.out | refine bs_ ?_ GE385.out | refine bs_ ?_ GE395.out) | exact HB.out)); (case side2 => exact Kd.R_tight rfl HO_396002.out); rintro e w135 ⟨rfl, hy0, hb, hkp⟩; refine ⟨_, rfl, ?_⟩; have n0_ := amk (Kd.R_mono (ok' := fun k_ => some k_ ≠ (.slice Ao41 t404.length co41 : Value).ownBlock ∧ some k_ ≠ (.slice Ao50 t391.length co50 : Value).ownBlock) (Kd.R_keptB (HO_380002.out) hkp (fun k_ hk_ hs_ => (hk_.2) hs_)) (fun k_ hk_ => ⟨hk_.1.1, hk_.1.2⟩)); have n1_ := amk (Kd.R_mono (ok' := fun k_ => some k_ ≠ (.slice Ao31 t375.length co31 : Value).ownBlock ∧ some k_ ≠ (.slice Ao50 t391.length co50 : Value).ownBlock) (Kd.R_keptB (HO_386002.out) hkp (fun k_ hk_ hs_ => (hk_.2) hs_)) (fun k_ hk_ => ⟨hk_.1.1, hk_.1.2⟩)); have n2_ := amk (Kd.R_reok rfl hy0 (fun k_ e_ => HO_396002.out.1 k_ e_)); have n3_ := amk (blk_kept (by (with_reducible repeat (first | refine kn_ ?_ _ | refine blk_drew ?_ | refine ka_ ?_ _)); exact BK362.out) hkp (fun hs_ => (fun e_ => (Kd.R_ne HO_396002.out BK362.out (by decide)) e_) hs_)); have n4_ := amk (blk_kept (by (with_reducible repeat (first | refine kn_ ?_ _ | refine blk_drew ?_ | refine ka_ ?_ _)); exact BK363.out) hkp (fun hs_ => (fun e_ => (Kd.R_ne HO_396002.out BK363.out (by decide)) e_) hs_)); have n5_ := amk (blk_kept (by (with_reducible repeat (first | refine kn_ ?_ _ | refine blk_drew ?_ | refine ka_ ?_ _)); exact BK379.out) hkp (fun hs_ => (fun e_ => (Kd.R_ne HO_396002.out BK379.out (by decide)) e_) hs_)); have n6_ := amk (blk_kept (by (with_reducible repeat (first | refine kn_ ?_ _ | refine blk_drew ?_ | refine ka_ ?_ _)); exact BK385.out) hkp (fun hs_ => (fun e_ => (Kd.R_ne HO_396002.out BK385.out (by decide)) e_) hs_)); have n7_ := amk (blk_kept (by (with_reducible repeat (first | refine kn_ ?_ _ | refine blk_drew ?_ | refine ka_ ?_ _)); exact BK395.out) hkp (fun hs_ => (fun e_ => (Kd.R_ne HO_396002.out BK395.out (by decide)) e_) hs_)); have n8_ := amk (hb); clear HO_380002; clear HO_386002; clear HO_396002; clear BK362; clear BK363; clear BK379; clear BK385; clear BK395; clear HB; have HO_380002 := n0_; have HO_386002 := n1_; have HO_396002 := n2_; have BK362 := n3_; have BK363 := n4_; have BK379 := n5_; have BK385 := n6_; have BK395 := n7_; have HB := n8_; clear n0_ n1_ n2_ n3_ n4_ n5_ n6_ n7_ n8_; (try clear hb); (try clear hkp); (try clear hy0); have hcz136_0 : w135.cell? ⟨gb395, 0, none⟩ = some (.int .i64 t389) := (blk_cell BK395.out 0).trans rfl; have hcz136_1 : w135.cell? ⟨gb395, 1, none⟩ = some (.int .i64 t390) := (blk_cell BK395.out 1).trans rfl; have hcz136_2 : w135.cell? ⟨gb395, 2, none⟩ = some (.slice Ao50 t391.length co50) := (blk_cell BK395.out 2).trans rfl; have hfz136_0 := blk_frozen BK395.out 0; have hfz136_1 := blk_frozen BK395.out 1; have hfz136_2 := blk_frozen BK395.out 2) | ((with_reducible refine gate_callee (f := 13) rfl ?_); refine goesL_ (some 73) rfl rfl Try.func13 (by kernel_rfl) rfl #[.agg #[.int .i64 t389, .int .i64 t390, .slice Ao50 t407.length co50], .int .i64 1] rfl (by (try simp only [List.map_toArray, List.map_cons, List.map_nil]); first | done | (rw [show t407.length = t391.length from (Kd.R_reads' HO_396002.out).1.symm] <;> rfl) | rfl | (simp only [List.length_drop, List.length_take]; rfl)) ?_; (with_reducible refine (laws_heldPuzzle.calls kj78 t389 t390 _ _ t407 1 t408 _ ?side1 ?side2 A115.out).mono ?_); (case side1 => repeat (first | exact (Kd.R_reads' HO_396002.out).2.2 | (with_reducible refine Kd.C_alloc ?_ _) | (with_reducible refine Kd.C_drewN ?_ _) | (with_reducible refine Kd.C_drew ?_))); (case side2 => rw [show t407.length = t391.length from (Kd.R_reads' HO_396002.out).1.symm]; exact (Kd.R_reads' HO_396002.out).2.1); rintro e w137 ⟨rfl, hb⟩; refine ⟨_, rfl, ?_⟩; have n0_ := amk (Kd.R_below (by (with_reducible repeat (first | apply Kd.R_alloc | apply Kd.R_drewN | apply Kd.R_drew)); exact HO_380002.out) hb); have n1_ := amk (Kd.R_below (by (with_reducible repeat (first | apply Kd.R_alloc | apply Kd.R_drewN | apply Kd.R_drew)); exact HO_386002.out) hb); have n2_ := amk (Kd.R_below (by (with_reducible repeat (first | apply Kd.R_alloc | apply Kd.R_drewN | apply Kd.R_drew)); exact HO_396002.out) hb); have n3_ := amk (blk_below (g := gb362) (o := .cells #[.int .i64 a0_0, .int .i64 a0_1, .slice A0_2 l0_2.length c0_2] 26 (0, 0)) (by (with_reducible repeat (first | refine kn_ ?_ _ | refine blk_drew ?_ | refine ka_ ?_ _)); exact BK362.out) hb); have n4_ := amk (blk_below (g := gb363) (o := .cells #[.int .i64 a1_0, .int .i64 a1_1, .int .i64 a1_2] 28 (0, 0)) (by (with_reducible repeat (first | refine kn_ ?_ _ | refine blk_drew ?_ | refine ka_ ?_ _)); exact BK363.out) hb); have n5_ := amk (blk_below (g := gb379) (o := .cells #[.int .i64 t373, .int .i64 t374, .slice Ao31 t375.length co31] 33 (0, 0)) (by (with_reducible repeat (first | refine kn_ ?_ _ | refine blk_drew ?_ | refine ka_ ?_ _)); exact BK379.out) hb); have n6_ := amk (blk_below (g := gb385) (o := .cells #[.int .i64 t380, .int .i64 t381, .slice Ao41 t404.length co41] 33 (0, 0)) (by (with_reducible repeat (first | refine kn_ ?_ _ | refine blk_drew ?_ | refine ka_ ?_ _)); exact BK385.out) hb); have n7_ := amk (blk_below (g := gb395) (o := .cells #[.int .i64 t389, .int .i64 t390, .slice Ao50 t391.length co50] 33 (0, 0)) (by (with_reducible repeat (first | refine kn_ ?_ _ | refine blk_drew ?_ | refine ka_ ?_ _)); exact BK395.out) hb); have n8_ := amk (bp_ (by repeat (first | (with_reducible first | exact HB.out | apply ba_ | apply bn_ | apply bd_ | refine bs_ ?_ GE362.out | refine bs_ ?_ GE363.out | refine bs_ ?_ GE379.out | refine bs_ ?_ GE385.out | refine bs_ ?_ GE395.out) | exact HB.out)) hb); clear HO_380002; clear HO_386002; clear HO_396002; clear BK362; clear BK363; clear BK379; clear BK385; clear BK395; clear HB; have HO_380002 := n0_; have HO_386002 := n1_; have HO_396002 := n2_; have BK362 := n3_; have BK363 := n4_; have BK379 := n5_; have BK385 := n6_; have BK395 := n7_; have HB := n8_; clear n0_ n1_ n2_ n3_ n4_ n5_ n6_ n7_ n8_; (try clear hb); (try clear hb2); (try clear hk); (try clear hi)))
           have n0_ := amk (Kd.R_drew HO_380002.out)
           have n1_ := amk (Kd.R_drew HO_386002.out)
           have n2_ := amk (Kd.R_drew HO_396002.out)
           have n3_ := amk (blk_drew BK362.out)
           have n4_ := amk (blk_drew BK363.out)
           have n5_ := amk (blk_drew BK379.out)
           have n6_ := amk (blk_drew BK385.out)
           have n7_ := amk (blk_drew BK395.out)
           have n8_ := amk (bd_ HB.out)
           clear HO_380002 HO_386002 HO_396002 BK362 BK363 BK379 BK385 BK395 HB
           have HO_380002 := n0_
           have HO_386002 := n1_
           have HO_396002 := n2_
           have BK362 := n3_
           have BK363 := n4_
           have BK379 := n5_
           have BK385 := n6_
           have BK395 := n7_
           have HB := n8_
           clear n0_ n1_ n2_ n3_ n4_ n5_ n6_ n7_ n8_
           refine start_ (n := 11) (S := fun w' => w'.cell? ⟨gb362, 0, none⟩ = some (.int .i64 a0_0) ∧ w'.cell? ⟨gb362, 1, none⟩ = some (.int .i64 a0_1) ∧ w'.cell? ⟨gb362, 2, none⟩ = some (.slice A0_2 l0_2.length c0_2) ∧ w'.cell? ⟨gb363, 0, none⟩ = some (.int .i64 a1_0) ∧ w'.cell? ⟨gb363, 1, none⟩ = some (.int .i64 a1_1) ∧ w'.cell? ⟨gb363, 2, none⟩ = some (.int .i64 a1_2)) (ds := []) #[false, false, false, false, false, false, false, false, false, false, false] (by kernel_rfl) rfl rfl ⟨(blk_cell BK362.out 0).trans rfl, (blk_cell BK362.out 1).trans rfl, (blk_cell BK362.out 2).trans rfl, (blk_cell BK363.out 0).trans rfl, (blk_cell BK363.out 1).trans rfl, (blk_cell BK363.out 2).trans rfl⟩ (fun hHeld => ?_); refine with_tabW laws_FnExactAddClue.tab24 laws_FnExactAddClue.bits24 (fun HT_ HW_ => ?_)
           generalize w137.drew = w138 at HO_380002 HO_386002 HO_396002 BK362 BK363 BK379 BK385 BK395 HB hHeld ⊢
           refine take_ (i := 0) (N := some 80) (v := ?_) (a' := ?_) #[true, false, false, false, false, false, false, false, false, false, false] rfl rfl (take_ofW HT_.out HW_.out (by kernel_rfl)) (fun _ _ _ h => h) (Or.inl ⟨by rfl, ?_⟩) hHeld ?_ ?_
           rotate_left
           · rintro w' ⟨s0, s1, s2, s3, s4, s5⟩
            go_simp
            with_reducible rfl
           rotate_left
           · simp only [Act.put, List.setIfInBounds_toArray, List.set_cons_zero, List.set_cons_succ, i64_w, i32_w]
            rfl
           refine take_ (i := 2) (N := some 82) (v := ?_) (a' := ?_) #[true, false, true, false, false, false, false, false, false, false, false] rfl rfl (take_ofW HT_.out HW_.out (by kernel_rfl)) (fun _ _ _ h => h) (Or.inl ⟨by rfl, ?_⟩) hHeld ?_ ?_
           rotate_left
           · rintro w' ⟨s0, s1, s2, s3, s4, s5⟩
            go_simp
            with_reducible rfl
           rotate_left
           · simp only [Act.put, List.setIfInBounds_toArray, List.set_cons_zero, List.set_cons_succ, i64_w, i32_w]
            rfl
           refine join_ (σ := Value × Value × Nat) 2 #[true, true, true, true, true, true, true, true, true, false, false] (fun s_ => [(81, .agg #[.int .i64 t409, .int .i64 t410, s_.1]), (83, .agg #[.int .i64 t414, .int .i64 t415, .int .i64 t416]), (84, .tuple #[.agg #[.int .i64 t417, .int .i64 t418, s_.2.1], .bool t422]), (14, .pointer (some ⟨s_.2.2, 0, none⟩)), (79, .tuple #[.agg #[.int .i64 t417, .int .i64 t418, s_.2.1], .bool t422]), (85, .agg #[.int .i64 t417, .int .i64 t418, s_.2.1]), (86, .bool t422)]) (fun s_ w' => (w'.cell? ⟨gb362, 0, none⟩ = some (.int .i64 a0_0) ∧ w'.cell? ⟨gb362, 1, none⟩ = some (.int .i64 a0_1) ∧ w'.cell? ⟨gb362, 2, none⟩ = some (.slice A0_2 l0_2.length c0_2) ∧ w'.cell? ⟨gb363, 0, none⟩ = some (.int .i64 a1_0) ∧ w'.cell? ⟨gb363, 1, none⟩ = some (.int .i64 a1_1) ∧ w'.cell? ⟨gb363, 2, none⟩ = some (.int .i64 a1_2)) ∧ (Kd.R k37 37 w' w.heap.size (fun k_ => some k_ ≠ (s_.2.1 : Value).ownBlock ∧ some k_ ≠ (.slice Ao31 t375.length co31 : Value).ownBlock ∧ some k_ ≠ (.slice Ao41 t404.length co41 : Value).ownBlock ∧ some k_ ≠ (.slice Ao50 t391.length co50 : Value).ownBlock) s_.1 t411) ∧ (Kd.R k37 37 w' w.heap.size (fun k_ => some k_ ≠ (s_.1 : Value).ownBlock ∧ some k_ ≠ (.slice Ao31 t375.length co31 : Value).ownBlock ∧ some k_ ≠ (.slice Ao41 t404.length co41 : Value).ownBlock ∧ some k_ ≠ (.slice Ao50 t391.length co50 : Value).ownBlock) s_.2.1 t419) ∧ (Kd.R k37 37 w' w.heap.size (fun k_ => some k_ ≠ (s_.1 : Value).ownBlock ∧ some k_ ≠ (s_.2.1 : Value).ownBlock ∧ some k_ ≠ (.slice Ao41 t404.length co41 : Value).ownBlock ∧ some k_ ≠ (.slice Ao50 t391.length co50 : Value).ownBlock) (.slice Ao31 t375.length co31) t375) ∧ (Kd.R k37 37 w' w.heap.size (fun k_ => some k_ ≠ (s_.1 : Value).ownBlock ∧ some k_ ≠ (s_.2.1 : Value).ownBlock ∧ some k_ ≠ (.slice Ao31 t375.length co31 : Value).ownBlock ∧ some k_ ≠ (.slice Ao50 t391.length co50 : Value).ownBlock) (.slice Ao41 t404.length co41) t404) ∧ (Kd.R k37 37 w' w.heap.size (fun k_ => some k_ ≠ (s_.1 : Value).ownBlock ∧ some k_ ≠ (s_.2.1 : Value).ownBlock ∧ some k_ ≠ (.slice Ao31 t375.length co31 : Value).ownBlock ∧ some k_ ≠ (.slice Ao41 t404.length co41 : Value).ownBlock) (.slice Ao50 t391.length co50) t407) ∧ (w'.heap[gb362]? = some (.cells #[.int .i64 a0_0, .int .i64 a0_1, .slice A0_2 l0_2.length c0_2] 26 (0, 0))) ∧ (w'.heap[gb363]? = some (.cells #[.int .i64 a1_0, .int .i64 a1_1, .int .i64 a1_2] 28 (0, 0))) ∧ (w'.heap[gb379]? = some (.cells #[.int .i64 t373, .int .i64 t374, .slice Ao31 t375.length co31] 33 (0, 0))) ∧ (w'.heap[gb385]? = some (.cells #[.int .i64 t380, .int .i64 t381, .slice Ao41 t404.length co41] 33 (0, 0))) ∧ (w'.heap[gb395]? = some (.cells #[.int .i64 t389, .int .i64 t390, .slice Ao50 t391.length co50] 33 (0, 0))) ∧ (w'.heap[s_.2.2]? = some (.cells #[.int .i64 0, .int .i64 0, .slice none 0 0] 33 (0, 0))) ∧ (w.heap.size ≤ s_.2.2) ∧ (w.heap.size ≤ s_.2.2) ∧ (gb362 ≠ s_.2.2) ∧ (s_.2.2 ≠ gb362) ∧ (gb363 ≠ s_.2.2) ∧ (s_.2.2 ≠ gb363) ∧ (gb379 ≠ s_.2.2) ∧ (s_.2.2 ≠ gb379) ∧ (gb385 ≠ s_.2.2) ∧ (s_.2.2 ≠ gb385) ∧ (gb395 ≠ s_.2.2) ∧ (s_.2.2 ≠ gb395) ∧ (Below w.heap.size w w')) ?_ ?_
           rotate_left
           · intro hCont
            refine two_ (i := 1) (j := 8) (Ni := some 81) (Nj := some 14) #[true, true, true, false, false, false, false, false, false, false, false] #[true, false, true, false, false, false, false, false, true, false, false] rfl rfl rfl rfl (two_of HT_.out (by kernel_rfl)) (by decide) (by decide) (fun K hK => ?_) (fun K hK => ?_)
            · skip
             refine goes_ Try.func8 (by kernel_rfl) rfl #[.agg #[.int .i64 a0_0, .int .i64 a0_1, .slice A0_2 l0_2.length c0_2]] (by rfl) rfl rfl (by (try simp only [List.map_toArray, List.map_cons, List.map_nil]); first | done | rfl | (simp only [List.length_drop, List.length_take]; rfl)) ?_
             with_reducible refine (laws_toPuzzle.calls kj78 a0_0 a0_1 _ _ l0_2 t409 t410 t411 _ ?side1 ?side2 A126.out).mono ?_
             (case side1 => repeat (first | exact (Kd.C_below HR0_2.out HB.out) | (with_reducible refine Kd.C_alloc ?_ _) | (with_reducible refine Kd.C_drewN ?_ _) | (with_reducible refine Kd.C_drew ?_)))
             (case side2 => exact HC0_2.out)
             rintro e w139 ⟨v412, rfl, ho0, hb⟩
             refine ⟨_, rfl, ?_⟩
             have n0_ := amk (Kd.R_elder' HO_380002.out (Kd.R_base ho0) hb)
             have n1_ := amk (Kd.R_elder' HO_386002.out (Kd.R_base ho0) hb)
             have n2_ := amk (Kd.R_elder' HO_396002.out (Kd.R_base ho0) hb)
             have n3_ := amk (Kd.R_lower (Kd.R_new' (Kd.R_new' (Kd.R_new' ho0 (Kd.R_lt HO_380002.out)) (Kd.R_lt HO_386002.out)) (Kd.R_lt HO_396002.out)) (below_size HB.out))
             have n4_ := amk (blk_below BK362.out hb)
             have n5_ := amk (blk_below BK363.out hb)
             have n6_ := amk (blk_below BK379.out hb)
             have n7_ := amk (blk_below BK385.out hb)
             have n8_ := amk (blk_below BK395.out hb)
             have n9_ := amk (bp_ HB.out hb)
             clear HO_380002 HO_386002 HO_396002 BK362 BK363 BK379 BK385 BK395 HB
             have HO_380002 := n0_
             have HO_386002 := n1_
             have HO_396002 := n2_
             have HO413 := n3_
             have BK362 := n4_
             have BK363 := n5_
             have BK379 := n6_
             have BK385 := n7_
             have BK395 := n8_
             have HB := n9_
             clear n0_ n1_ n2_ n3_ n4_ n5_ n6_ n7_ n8_ n9_
             (try clear hb)
             (try clear hb2)
             (try clear hk)
             (try clear hi)
             (try clear ho0)
             refine hK.out _ _ ⟨(blk_cell BK362.out 0).trans rfl, (blk_cell BK362.out 1).trans rfl, (blk_cell BK362.out 2).trans rfl, (blk_cell BK363.out 0).trans rfl, (blk_cell BK363.out 1).trans rfl, (blk_cell BK363.out 2).trans rfl⟩ (fun hHeld => ?_)
             clear hK K
             refine norm_ (a' := ?_) ?_ ?_
             rotate_left
             · show Act.put _ (some 81) _ = _
              simp only [Act.put, List.setIfInBounds_toArray, List.set_cons_zero, List.set_cons_succ, i64_w, i32_w]
              rfl
             refine two_ (i := 3) (j := 8) (Ni := some 83) (Nj := some 14) #[true, true, true, true, false, false, false, false, false, false, false] #[true, true, true, false, false, false, false, false, true, false, false] rfl rfl rfl rfl (two_of HT_.out (by kernel_rfl)) (by decide) (by decide) (fun K hK => ?_) (fun K hK => ?_)
             · skip
              refine goes_ Try.func9 (by kernel_rfl) rfl #[.agg #[.int .i64 a1_0, .int .i64 a1_1, .int .i64 a1_2]] (by rfl) rfl rfl (by (try simp only [List.map_toArray, List.map_cons, List.map_nil]); first | done | rfl | (simp only [List.length_drop, List.length_take]; rfl)) ?_
              with_reducible refine (laws_toClue.calls a1_0 a1_1 a1_2 t414 t415 t416 _ A127.out).mono ?_
              rintro e w140 ⟨rfl, hb⟩
              refine ⟨_, rfl, ?_⟩
              have n0_ := amk (Kd.R_below HO_380002.out hb)
              have n1_ := amk (Kd.R_below HO_386002.out hb)
              have n2_ := amk (Kd.R_below HO_396002.out hb)
              have n3_ := amk (Kd.R_below HO413.out hb)
              have n4_ := amk (blk_below BK362.out hb)
              have n5_ := amk (blk_below BK363.out hb)
              have n6_ := amk (blk_below BK379.out hb)
              have n7_ := amk (blk_below BK385.out hb)
              have n8_ := amk (blk_below BK395.out hb)
              have n9_ := amk (bp_ HB.out hb)
              clear HO_380002 HO_386002 HO_396002 HO413 BK362 BK363 BK379 BK385 BK395 HB
              have HO_380002 := n0_
              have HO_386002 := n1_
              have HO_396002 := n2_
              have HO413 := n3_
              have BK362 := n4_
              have BK363 := n5_
              have BK379 := n6_
              have BK385 := n7_
              have BK395 := n8_
              have HB := n9_
              clear n0_ n1_ n2_ n3_ n4_ n5_ n6_ n7_ n8_ n9_
              (try clear hb)
              (try clear hb2)
              (try clear hk)
              (try clear hi)
              obtain ⟨Ao141, co141, eo141⟩ := Kd.R_slice HO413.out
              (first | subst eo141 | (injection eo141 with f1_ f2_ f3_; have f4_ := f1_.symm; have f5_ := f3_.symm; clear f1_ f2_ f3_; subst f4_; subst f5_))
              refine hK.out _ _ ⟨(blk_cell BK362.out 0).trans rfl, (blk_cell BK362.out 1).trans rfl, (blk_cell BK362.out 2).trans rfl, (blk_cell BK363.out 0).trans rfl, (blk_cell BK363.out 1).trans rfl, (blk_cell BK363.out 2).trans rfl⟩ (fun hHeld => ?_)
              clear hK K
              refine norm_ (a' := ?_) ?_ ?_
              rotate_left
              · show Act.put _ (some 83) _ = _
               simp only [Act.put, List.setIfInBounds_toArray, List.set_cons_zero, List.set_cons_succ, i64_w, i32_w]
               rfl
              refine two_ (i := 4) (j := 8) (Ni := some 84) (Nj := some 14) #[true, true, true, true, true, false, false, false, false, false, false] #[true, true, true, true, false, false, false, false, true, false, false] rfl rfl rfl rfl (two_of HT_.out (by kernel_rfl)) (by decide) (by decide) (fun K hK => ?_) (fun K hK => ?_)
              · skip
               refine goes_ Try.func10 (by kernel_rfl) rfl #[.agg #[.int .i64 t409, .int .i64 t410, .slice Ao141 t411.length co141], .agg #[.int .i64 t414, .int .i64 t415, .int .i64 t416]] (by rfl) rfl rfl (by (try simp only [List.map_toArray, List.map_cons, List.map_nil]); first | done | rfl | (simp only [List.length_drop, List.length_take]; rfl)) ?_
               with_reducible refine (impl_AddClue.calls t409 t410 _ _ t411 t414 t415 t416 t417 t418 t419 t422 _ ?side1 ?side2 A128.out).mono ?_
               (case side1 => repeat (first | exact (Kd.R_reads' HO413.out).2.2 | (with_reducible refine Kd.C_alloc ?_ _) | (with_reducible refine Kd.C_drewN ?_ _) | (with_reducible refine Kd.C_drew ?_)))
               (case side2 => exact (Kd.R_reads' HO413.out).2.1)
               rintro e w142 ⟨v420, rfl, ho0, hb⟩
               refine ⟨_, rfl, ?_⟩
               have n0_ := amk (Kd.R_elder' HO_380002.out (Kd.R_base ho0) hb)
               have n1_ := amk (Kd.R_elder' HO_386002.out (Kd.R_base ho0) hb)
               have n2_ := amk (Kd.R_elder' HO_396002.out (Kd.R_base ho0) hb)
               have n3_ := amk (Kd.R_elder' HO413.out (Kd.R_base ho0) hb)
               have n4_ := amk (Kd.R_lower (Kd.R_new' (Kd.R_new' (Kd.R_new' (Kd.R_new' ho0 (Kd.R_lt HO_380002.out)) (Kd.R_lt HO_386002.out)) (Kd.R_lt HO_396002.out)) (Kd.R_lt HO413.out)) (below_size HB.out))
               have n5_ := amk (blk_below BK362.out hb)
               have n6_ := amk (blk_below BK363.out hb)
               have n7_ := amk (blk_below BK379.out hb)
               have n8_ := amk (blk_below BK385.out hb)
               have n9_ := amk (blk_below BK395.out hb)
               have n10_ := amk (bp_ HB.out hb)
               clear HO_380002 HO_386002 HO_396002 HO413 BK362 BK363 BK379 BK385 BK395 HB
               have HO_380002 := n0_
               have HO_386002 := n1_
               have HO_396002 := n2_
               have HO413 := n3_
               have HO421 := n4_
               have BK362 := n5_
               have BK363 := n6_
               have BK379 := n7_
               have BK385 := n8_
               have BK395 := n9_
               have HB := n10_
               clear n0_ n1_ n2_ n3_ n4_ n5_ n6_ n7_ n8_ n9_ n10_
               (try clear hb)
               (try clear hb2)
               (try clear hk)
               (try clear hi)
               (try clear ho0)
               refine hK.out _ _ ⟨(blk_cell BK362.out 0).trans rfl, (blk_cell BK362.out 1).trans rfl, (blk_cell BK362.out 2).trans rfl, (blk_cell BK363.out 0).trans rfl, (blk_cell BK363.out 1).trans rfl, (blk_cell BK363.out 2).trans rfl⟩ (fun hHeld => ?_)
               clear hK K
               refine norm_ (a' := ?_) ?_ ?_
               rotate_left
               · show Act.put _ (some 84) _ = _
                simp only [Act.put, List.setIfInBounds_toArray, List.set_cons_zero, List.set_cons_succ, i64_w, i32_w]
                rfl
               refine pure_ (i := 5) (N := some 79) (v := ?_) (a' := ?_) #[true, true, true, true, true, true, false, false, false, false, false] rfl rfl (any_of HT_.out (by kernel_rfl)) (fun _ _ _ h => h) (Or.inl ⟨by rfl, ?_⟩) ?_ ?_
               rotate_left
               · intro w'
                go_simp
                with_reducible rfl
               rotate_left
               · simp only [Act.put, List.setIfInBounds_toArray, List.set_cons_zero, List.set_cons_succ, i64_w, i32_w]
                rfl
               refine pure_ (i := 6) (N := some 85) (v := ?_) (a' := ?_) #[true, true, true, true, true, true, true, false, false, false, false] rfl rfl (any_of HT_.out (by kernel_rfl)) (fun _ _ _ h => h) (Or.inl ⟨by rfl, ?_⟩) ?_ ?_
               rotate_left
               · intro w'
                go_simp
                with_reducible rfl
               rotate_left
               · simp only [Act.put, List.setIfInBounds_toArray, List.set_cons_zero, List.set_cons_succ, i64_w, i32_w]
                rfl
               refine pure_ (i := 7) (N := some 86) (v := ?_) (a' := ?_) #[true, true, true, true, true, true, true, true, false, false, false] rfl rfl (any_of HT_.out (by kernel_rfl)) (fun _ _ _ h => h) (Or.inl ⟨by rfl, ?_⟩) ?_ ?_
               rotate_left
               · intro w'
                go_simp
                with_reducible rfl
               rotate_left
               · simp only [Act.put, List.setIfInBounds_toArray, List.set_cons_zero, List.set_cons_succ, i64_w, i32_w]
                rfl
               refine one_ (i := 8) (N := some 14) #[true, true, true, true, true, true, true, true, true, false, false] rfl rfl (one_of HT_.out (by kernel_rfl)) (by decide) (fun K hK => ?_)
               refine box_step ?hg (N := 14) ?hd (cs := #[.int .i64 0, .int .i64 0, .slice none 0 0]) (t := 33) ?hr ?_; (case hd => rfl); (case hg => rfl); (case hr => first | (go_simp; done) | (go_simp; rfl))
               intro gb423 hg w143 hbox hb
               have n0_ := amk (Kd.R_below HO_380002.out hb)
               have n1_ := amk (Kd.R_below HO_386002.out hb)
               have n2_ := amk (Kd.R_below HO_396002.out hb)
               have n3_ := amk (Kd.R_below HO413.out hb)
               have n4_ := amk (Kd.R_below HO421.out hb)
               have n5_ := amk (blk_below BK362.out hb)
               have n6_ := amk (blk_below BK363.out hb)
               have n7_ := amk (blk_below BK379.out hb)
               have n8_ := amk (blk_below BK385.out hb)
               have n9_ := amk (blk_below BK395.out hb)
               have n10_ := amk (bp_ HB.out hb)
               have n11_ := amk (hbox)
               have n12_ := amk ((by rw [hg]; exact (below_size HB.out) : w.heap.size ≤ gb423))
               have n13_ := amk ((by rw [hg]; exact (below_size HB.out) : w.heap.size ≤ gb423))
               have n14_ := amk ((by rw [hg]; exact Nat.ne_of_lt (blk_lt BK362.out) : gb362 ≠ gb423))
               have n15_ := amk ((by rw [hg]; exact Nat.ne_of_gt (blk_lt BK362.out) : gb423 ≠ gb362))
               have n16_ := amk ((by rw [hg]; exact Nat.ne_of_lt (blk_lt BK363.out) : gb363 ≠ gb423))
               have n17_ := amk ((by rw [hg]; exact Nat.ne_of_gt (blk_lt BK363.out) : gb423 ≠ gb363))
               have n18_ := amk ((by rw [hg]; exact Nat.ne_of_lt (blk_lt BK379.out) : gb379 ≠ gb423))
               have n19_ := amk ((by rw [hg]; exact Nat.ne_of_gt (blk_lt BK379.out) : gb423 ≠ gb379))
               have n20_ := amk ((by rw [hg]; exact Nat.ne_of_lt (blk_lt BK385.out) : gb385 ≠ gb423))
               have n21_ := amk ((by rw [hg]; exact Nat.ne_of_gt (blk_lt BK385.out) : gb423 ≠ gb385))
               have n22_ := amk ((by rw [hg]; exact Nat.ne_of_lt (blk_lt BK395.out) : gb395 ≠ gb423))
               have n23_ := amk ((by rw [hg]; exact Nat.ne_of_gt (blk_lt BK395.out) : gb423 ≠ gb395))
               clear HO_380002 HO_386002 HO_396002 HO413 HO421 BK362 BK363 BK379 BK385 BK395 HB
               have HO_380002 := n0_
               have HO_386002 := n1_
               have HO_396002 := n2_
               have HO413 := n3_
               have HO421 := n4_
               have BK362 := n5_
               have BK363 := n6_
               have BK379 := n7_
               have BK385 := n8_
               have BK395 := n9_
               have HB := n10_
               have BK423 := n11_
               have GW423 := n12_
               have GE423 := n13_
               have NB362_423 := n14_
               have NB423_362 := n15_
               have NB363_423 := n16_
               have NB423_363 := n17_
               have NB379_423 := n18_
               have NB423_379 := n19_
               have NB385_423 := n20_
               have NB423_385 := n21_
               have NB395_423 := n22_
               have NB423_395 := n23_
               clear n0_ n1_ n2_ n3_ n4_ n5_ n6_ n7_ n8_ n9_ n10_ n11_ n12_ n13_ n14_ n15_ n16_ n17_ n18_ n19_ n20_ n21_ n22_ n23_ hb hbox hg
               refine hK.out _ _ ⟨(blk_cell BK362.out 0).trans rfl, (blk_cell BK362.out 1).trans rfl, (blk_cell BK362.out 2).trans rfl, (blk_cell BK363.out 0).trans rfl, (blk_cell BK363.out 1).trans rfl, (blk_cell BK363.out 2).trans rfl⟩ (fun hHeld => ?_)
               clear hK K
               refine norm_ (a' := ?_) ?_ ?_
               rotate_left
               · show Act.put _ (some 14) _ = _
                simp only [Act.put, List.setIfInBounds_toArray, List.set_cons_zero, List.set_cons_succ, i64_w, i32_w]
                rfl
               exact norm_ (by simp only [putAll, Act.put, List.setIfInBounds_toArray, List.set_cons_zero, List.set_cons_succ]) (hCont (.slice Ao141 t411.length co141, v420, gb423) _ ⟨hHeld, (by (with_reducible repeat (first | apply Kd.R_alloc | apply Kd.R_drewN | apply Kd.R_drew)); exact Kd.R_mono HO413.out (fun _ hk => ⟨hk.2, ⟨hk.1.1.1.2, ⟨hk.1.1.2, hk.1.2⟩⟩⟩)), (by (with_reducible repeat (first | apply Kd.R_alloc | apply Kd.R_drewN | apply Kd.R_drew)); exact Kd.R_mono HO421.out (fun _ hk => ⟨hk.2, ⟨hk.1.1.1.2, ⟨hk.1.1.2, hk.1.2⟩⟩⟩)), (by (with_reducible repeat (first | apply Kd.R_alloc | apply Kd.R_drewN | apply Kd.R_drew)); exact Kd.R_mono HO_380002.out (fun _ hk => ⟨hk.1.2, ⟨hk.2, ⟨hk.1.1.1, hk.1.1.2⟩⟩⟩)), (by (with_reducible repeat (first | apply Kd.R_alloc | apply Kd.R_drewN | apply Kd.R_drew)); exact Kd.R_mono HO_386002.out (fun _ hk => ⟨hk.1.2, ⟨hk.2, ⟨hk.1.1.1, hk.1.1.2⟩⟩⟩)), (by (with_reducible repeat (first | apply Kd.R_alloc | apply Kd.R_drewN | apply Kd.R_drew)); exact Kd.R_mono HO_396002.out (fun _ hk => ⟨hk.1.2, ⟨hk.2, ⟨hk.1.1.1, hk.1.1.2⟩⟩⟩)), BK362.out, BK363.out, BK379.out, BK385.out, BK395.out, BK423.out, GW423.out, GE423.out, NB362_423.out, NB423_362.out, NB363_423.out, NB423_363.out, NB379_423.out, NB423_379.out, NB385_423.out, NB423_385.out, NB395_423.out, NB423_395.out, HB.out⟩)
              · skip
               refine box_step ?hg (N := 14) ?hd (cs := #[.int .i64 0, .int .i64 0, .slice none 0 0]) (t := 33) ?hr ?_; (case hd => rfl); (case hg => rfl); (case hr => first | (go_simp; done) | (go_simp; rfl))
               intro gb423 hg w141 hbox hb
               have n0_ := amk (Kd.R_below HO_380002.out hb)
               have n1_ := amk (Kd.R_below HO_386002.out hb)
               have n2_ := amk (Kd.R_below HO_396002.out hb)
               have n3_ := amk (Kd.R_below HO413.out hb)
               have n4_ := amk (blk_below BK362.out hb)
               have n5_ := amk (blk_below BK363.out hb)
               have n6_ := amk (blk_below BK379.out hb)
               have n7_ := amk (blk_below BK385.out hb)
               have n8_ := amk (blk_below BK395.out hb)
               have n9_ := amk (bp_ HB.out hb)
               have n10_ := amk (hbox)
               have n11_ := amk ((by rw [hg]; exact (below_size HB.out) : w.heap.size ≤ gb423))
               have n12_ := amk ((by rw [hg]; exact (below_size HB.out) : w.heap.size ≤ gb423))
               have n13_ := amk ((by rw [hg]; exact Nat.ne_of_lt (blk_lt BK362.out) : gb362 ≠ gb423))
               have n14_ := amk ((by rw [hg]; exact Nat.ne_of_gt (blk_lt BK362.out) : gb423 ≠ gb362))
               have n15_ := amk ((by rw [hg]; exact Nat.ne_of_lt (blk_lt BK363.out) : gb363 ≠ gb423))
               have n16_ := amk ((by rw [hg]; exact Nat.ne_of_gt (blk_lt BK363.out) : gb423 ≠ gb363))
               have n17_ := amk ((by rw [hg]; exact Nat.ne_of_lt (blk_lt BK379.out) : gb379 ≠ gb423))
               have n18_ := amk ((by rw [hg]; exact Nat.ne_of_gt (blk_lt BK379.out) : gb423 ≠ gb379))
               have n19_ := amk ((by rw [hg]; exact Nat.ne_of_lt (blk_lt BK385.out) : gb385 ≠ gb423))
               have n20_ := amk ((by rw [hg]; exact Nat.ne_of_gt (blk_lt BK385.out) : gb423 ≠ gb385))
               have n21_ := amk ((by rw [hg]; exact Nat.ne_of_lt (blk_lt BK395.out) : gb395 ≠ gb423))
               have n22_ := amk ((by rw [hg]; exact Nat.ne_of_gt (blk_lt BK395.out) : gb423 ≠ gb395))
               clear HO_380002 HO_386002 HO_396002 HO413 BK362 BK363 BK379 BK385 BK395 HB
               have HO_380002 := n0_
               have HO_386002 := n1_
               have HO_396002 := n2_
               have HO413 := n3_
               have BK362 := n4_
               have BK363 := n5_
               have BK379 := n6_
               have BK385 := n7_
               have BK395 := n8_
               have HB := n9_
               have BK423 := n10_
               have GW423 := n11_
               have GE423 := n12_
               have NB362_423 := n13_
               have NB423_362 := n14_
               have NB363_423 := n15_
               have NB423_363 := n16_
               have NB379_423 := n17_
               have NB423_379 := n18_
               have NB385_423 := n19_
               have NB423_385 := n20_
               have NB395_423 := n21_
               have NB423_395 := n22_
               clear n0_ n1_ n2_ n3_ n4_ n5_ n6_ n7_ n8_ n9_ n10_ n11_ n12_ n13_ n14_ n15_ n16_ n17_ n18_ n19_ n20_ n21_ n22_ hb hbox hg
               obtain ⟨Ao142, co142, eo142⟩ := Kd.R_slice HO413.out
               (first | subst eo142 | (injection eo142 with f1_ f2_ f3_; have f4_ := f1_.symm; have f5_ := f3_.symm; clear f1_ f2_ f3_; subst f4_; subst f5_))
               refine hK.out _ _ ⟨(blk_cell BK362.out 0).trans rfl, (blk_cell BK362.out 1).trans rfl, (blk_cell BK362.out 2).trans rfl, (blk_cell BK363.out 0).trans rfl, (blk_cell BK363.out 1).trans rfl, (blk_cell BK363.out 2).trans rfl⟩ (fun hHeld => ?_)
               clear hK K
               refine norm_ (a' := ?_) ?_ ?_
               rotate_left
               · show Act.put _ (some 14) _ = _
                simp only [Act.put, List.setIfInBounds_toArray, List.set_cons_zero, List.set_cons_succ, i64_w, i32_w]
                rfl
               refine one_ (i := 4) (N := some 84) #[true, true, true, true, true, false, false, false, true, false, false] rfl rfl (one_of HT_.out (by kernel_rfl)) (by decide) (fun K hK => ?_)
               refine goes_ Try.func10 (by kernel_rfl) rfl #[.agg #[.int .i64 t409, .int .i64 t410, .slice Ao142 t411.length co142], .agg #[.int .i64 t414, .int .i64 t415, .int .i64 t416]] (by rfl) rfl rfl (by (try simp only [List.map_toArray, List.map_cons, List.map_nil]); first | done | rfl | (simp only [List.length_drop, List.length_take]; rfl)) ?_
               with_reducible refine (impl_AddClue.calls t409 t410 _ _ t411 t414 t415 t416 t417 t418 t419 t422 _ ?side1 ?side2 A128.out).mono ?_
               (case side1 => repeat (first | exact (Kd.R_reads' HO413.out).2.2 | (with_reducible refine Kd.C_alloc ?_ _) | (with_reducible refine Kd.C_drewN ?_ _) | (with_reducible refine Kd.C_drew ?_)))
               (case side2 => exact (Kd.R_reads' HO413.out).2.1)
               rintro e w143 ⟨v420, rfl, ho0, hb⟩
               refine ⟨_, rfl, ?_⟩
               have n0_ := amk (Kd.R_elder' HO_380002.out (Kd.R_base ho0) hb)
               have n1_ := amk (Kd.R_elder' HO_386002.out (Kd.R_base ho0) hb)
               have n2_ := amk (Kd.R_elder' HO_396002.out (Kd.R_base ho0) hb)
               have n3_ := amk (Kd.R_elder' HO413.out (Kd.R_base ho0) hb)
               have n4_ := amk (Kd.R_lower (Kd.R_new' (Kd.R_new' (Kd.R_new' (Kd.R_new' ho0 (Kd.R_lt HO_380002.out)) (Kd.R_lt HO_386002.out)) (Kd.R_lt HO_396002.out)) (Kd.R_lt HO413.out)) (below_size HB.out))
               have n5_ := amk (blk_below BK362.out hb)
               have n6_ := amk (blk_below BK363.out hb)
               have n7_ := amk (blk_below BK379.out hb)
               have n8_ := amk (blk_below BK385.out hb)
               have n9_ := amk (blk_below BK395.out hb)
               have n10_ := amk (blk_below BK423.out hb)
               have n11_ := amk (bp_ HB.out hb)
               clear HO_380002 HO_386002 HO_396002 HO413 BK362 BK363 BK379 BK385 BK395 BK423 HB
               have HO_380002 := n0_
               have HO_386002 := n1_
               have HO_396002 := n2_
               have HO413 := n3_
               have HO421 := n4_
               have BK362 := n5_
               have BK363 := n6_
               have BK379 := n7_
               have BK385 := n8_
               have BK395 := n9_
               have BK423 := n10_
               have HB := n11_
               clear n0_ n1_ n2_ n3_ n4_ n5_ n6_ n7_ n8_ n9_ n10_ n11_
               (try clear hb)
               (try clear hb2)
               (try clear hk)
               (try clear hi)
               (try clear ho0)
               refine hK.out _ _ ⟨(blk_cell BK362.out 0).trans rfl, (blk_cell BK362.out 1).trans rfl, (blk_cell BK362.out 2).trans rfl, (blk_cell BK363.out 0).trans rfl, (blk_cell BK363.out 1).trans rfl, (blk_cell BK363.out 2).trans rfl⟩ (fun hHeld => ?_)
               clear hK K
               refine norm_ (a' := ?_) ?_ ?_
               rotate_left
               · show Act.put _ (some 84) _ = _
                simp only [Act.put, List.setIfInBounds_toArray, List.set_cons_zero, List.set_cons_succ, i64_w, i32_w]
                rfl
               refine pure_ (i := 5) (N := some 79) (v := ?_) (a' := ?_) #[true, true, true, true, true, true, false, false, true, false, false] rfl rfl (any_of HT_.out (by kernel_rfl)) (fun _ _ _ h => h) (Or.inl ⟨by rfl, ?_⟩) ?_ ?_
               rotate_left
               · intro w'
                go_simp
                with_reducible rfl
               rotate_left
               · simp only [Act.put, List.setIfInBounds_toArray, List.set_cons_zero, List.set_cons_succ, i64_w, i32_w]
                rfl
               refine pure_ (i := 6) (N := some 85) (v := ?_) (a' := ?_) #[true, true, true, true, true, true, true, false, true, false, false] rfl rfl (any_of HT_.out (by kernel_rfl)) (fun _ _ _ h => h) (Or.inl ⟨by rfl, ?_⟩) ?_ ?_
               rotate_left
               · intro w'
                go_simp
                with_reducible rfl
               rotate_left
               · simp only [Act.put, List.setIfInBounds_toArray, List.set_cons_zero, List.set_cons_succ, i64_w, i32_w]
                rfl
               refine pure_ (i := 7) (N := some 86) (v := ?_) (a' := ?_) #[true, true, true, true, true, true, true, true, true, false, false] rfl rfl (any_of HT_.out (by kernel_rfl)) (fun _ _ _ h => h) (Or.inl ⟨by rfl, ?_⟩) ?_ ?_
               rotate_left
               · intro w'
                go_simp
                with_reducible rfl
               rotate_left
               · simp only [Act.put, List.setIfInBounds_toArray, List.set_cons_zero, List.set_cons_succ, i64_w, i32_w]
                rfl
               exact norm_ (by simp only [putAll, Act.put, List.setIfInBounds_toArray, List.set_cons_zero, List.set_cons_succ]) (hCont (.slice Ao142 t411.length co142, v420, gb423) _ ⟨hHeld, (by (with_reducible repeat (first | apply Kd.R_alloc | apply Kd.R_drewN | apply Kd.R_drew)); exact Kd.R_mono HO413.out (fun _ hk => ⟨hk.2, ⟨hk.1.1.1.2, ⟨hk.1.1.2, hk.1.2⟩⟩⟩)), (by (with_reducible repeat (first | apply Kd.R_alloc | apply Kd.R_drewN | apply Kd.R_drew)); exact Kd.R_mono HO421.out (fun _ hk => ⟨hk.2, ⟨hk.1.1.1.2, ⟨hk.1.1.2, hk.1.2⟩⟩⟩)), (by (with_reducible repeat (first | apply Kd.R_alloc | apply Kd.R_drewN | apply Kd.R_drew)); exact Kd.R_mono HO_380002.out (fun _ hk => ⟨hk.1.2, ⟨hk.2, ⟨hk.1.1.1, hk.1.1.2⟩⟩⟩)), (by (with_reducible repeat (first | apply Kd.R_alloc | apply Kd.R_drewN | apply Kd.R_drew)); exact Kd.R_mono HO_386002.out (fun _ hk => ⟨hk.1.2, ⟨hk.2, ⟨hk.1.1.1, hk.1.1.2⟩⟩⟩)), (by (with_reducible repeat (first | apply Kd.R_alloc | apply Kd.R_drewN | apply Kd.R_drew)); exact Kd.R_mono HO_396002.out (fun _ hk => ⟨hk.1.2, ⟨hk.2, ⟨hk.1.1.1, hk.1.1.2⟩⟩⟩)), BK362.out, BK363.out, BK379.out, BK385.out, BK395.out, BK423.out, GW423.out, GE423.out, NB362_423.out, NB423_362.out, NB363_423.out, NB423_363.out, NB379_423.out, NB423_379.out, NB385_423.out, NB423_385.out, NB395_423.out, NB423_395.out, HB.out⟩)
             · skip
              refine box_step ?hg (N := 14) ?hd (cs := #[.int .i64 0, .int .i64 0, .slice none 0 0]) (t := 33) ?hr ?_; (case hd => rfl); (case hg => rfl); (case hr => first | (go_simp; done) | (go_simp; rfl))
              intro gb423 hg w140 hbox hb
              have n0_ := amk (Kd.R_below HO_380002.out hb)
              have n1_ := amk (Kd.R_below HO_386002.out hb)
              have n2_ := amk (Kd.R_below HO_396002.out hb)
              have n3_ := amk (Kd.R_below HO413.out hb)
              have n4_ := amk (blk_below BK362.out hb)
              have n5_ := amk (blk_below BK363.out hb)
              have n6_ := amk (blk_below BK379.out hb)
              have n7_ := amk (blk_below BK385.out hb)
              have n8_ := amk (blk_below BK395.out hb)
              have n9_ := amk (bp_ HB.out hb)
              have n10_ := amk (hbox)
              have n11_ := amk ((by rw [hg]; exact (below_size HB.out) : w.heap.size ≤ gb423))
              have n12_ := amk ((by rw [hg]; exact (below_size HB.out) : w.heap.size ≤ gb423))
              have n13_ := amk ((by rw [hg]; exact Nat.ne_of_lt (blk_lt BK362.out) : gb362 ≠ gb423))
              have n14_ := amk ((by rw [hg]; exact Nat.ne_of_gt (blk_lt BK362.out) : gb423 ≠ gb362))
              have n15_ := amk ((by rw [hg]; exact Nat.ne_of_lt (blk_lt BK363.out) : gb363 ≠ gb423))
              have n16_ := amk ((by rw [hg]; exact Nat.ne_of_gt (blk_lt BK363.out) : gb423 ≠ gb363))
              have n17_ := amk ((by rw [hg]; exact Nat.ne_of_lt (blk_lt BK379.out) : gb379 ≠ gb423))
              have n18_ := amk ((by rw [hg]; exact Nat.ne_of_gt (blk_lt BK379.out) : gb423 ≠ gb379))
              have n19_ := amk ((by rw [hg]; exact Nat.ne_of_lt (blk_lt BK385.out) : gb385 ≠ gb423))
              have n20_ := amk ((by rw [hg]; exact Nat.ne_of_gt (blk_lt BK385.out) : gb423 ≠ gb385))
              have n21_ := amk ((by rw [hg]; exact Nat.ne_of_lt (blk_lt BK395.out) : gb395 ≠ gb423))
              have n22_ := amk ((by rw [hg]; exact Nat.ne_of_gt (blk_lt BK395.out) : gb423 ≠ gb395))
              clear HO_380002 HO_386002 HO_396002 HO413 BK362 BK363 BK379 BK385 BK395 HB
              have HO_380002 := n0_
              have HO_386002 := n1_
              have HO_396002 := n2_
              have HO413 := n3_
              have BK362 := n4_
              have BK363 := n5_
              have BK379 := n6_
              have BK385 := n7_
              have BK395 := n8_
              have HB := n9_
              have BK423 := n10_
              have GW423 := n11_
              have GE423 := n12_
              have NB362_423 := n13_
              have NB423_362 := n14_
              have NB363_423 := n15_
              have NB423_363 := n16_
              have NB379_423 := n17_
              have NB423_379 := n18_
              have NB385_423 := n19_
              have NB423_385 := n20_
              have NB395_423 := n21_
              have NB423_395 := n22_
              clear n0_ n1_ n2_ n3_ n4_ n5_ n6_ n7_ n8_ n9_ n10_ n11_ n12_ n13_ n14_ n15_ n16_ n17_ n18_ n19_ n20_ n21_ n22_ hb hbox hg
              refine hK.out _ _ ⟨(blk_cell BK362.out 0).trans rfl, (blk_cell BK362.out 1).trans rfl, (blk_cell BK362.out 2).trans rfl, (blk_cell BK363.out 0).trans rfl, (blk_cell BK363.out 1).trans rfl, (blk_cell BK363.out 2).trans rfl⟩ (fun hHeld => ?_)
              clear hK K
              refine norm_ (a' := ?_) ?_ ?_
              rotate_left
              · show Act.put _ (some 14) _ = _
               simp only [Act.put, List.setIfInBounds_toArray, List.set_cons_zero, List.set_cons_succ, i64_w, i32_w]
               rfl
              refine one_ (i := 3) (N := some 83) #[true, true, true, true, false, false, false, false, true, false, false] rfl rfl (one_of HT_.out (by kernel_rfl)) (by decide) (fun K hK => ?_)
              refine goes_ Try.func9 (by kernel_rfl) rfl #[.agg #[.int .i64 a1_0, .int .i64 a1_1, .int .i64 a1_2]] (by rfl) rfl rfl (by (try simp only [List.map_toArray, List.map_cons, List.map_nil]); first | done | rfl | (simp only [List.length_drop, List.length_take]; rfl)) ?_
              with_reducible refine (laws_toClue.calls a1_0 a1_1 a1_2 t414 t415 t416 _ A127.out).mono ?_
              rintro e w141 ⟨rfl, hb⟩
              refine ⟨_, rfl, ?_⟩
              have n0_ := amk (Kd.R_below HO_380002.out hb)
              have n1_ := amk (Kd.R_below HO_386002.out hb)
              have n2_ := amk (Kd.R_below HO_396002.out hb)
              have n3_ := amk (Kd.R_below HO413.out hb)
              have n4_ := amk (blk_below BK362.out hb)
              have n5_ := amk (blk_below BK363.out hb)
              have n6_ := amk (blk_below BK379.out hb)
              have n7_ := amk (blk_below BK385.out hb)
              have n8_ := amk (blk_below BK395.out hb)
              have n9_ := amk (blk_below BK423.out hb)
              have n10_ := amk (bp_ HB.out hb)
              clear HO_380002 HO_386002 HO_396002 HO413 BK362 BK363 BK379 BK385 BK395 BK423 HB
              have HO_380002 := n0_
              have HO_386002 := n1_
              have HO_396002 := n2_
              have HO413 := n3_
              have BK362 := n4_
              have BK363 := n5_
              have BK379 := n6_
              have BK385 := n7_
              have BK395 := n8_
              have BK423 := n9_
              have HB := n10_
              clear n0_ n1_ n2_ n3_ n4_ n5_ n6_ n7_ n8_ n9_ n10_
              (try clear hb)
              (try clear hb2)
              (try clear hk)
              (try clear hi)
              obtain ⟨Ao142, co142, eo142⟩ := Kd.R_slice HO413.out
              (first | subst eo142 | (injection eo142 with f1_ f2_ f3_; have f4_ := f1_.symm; have f5_ := f3_.symm; clear f1_ f2_ f3_; subst f4_; subst f5_))
              refine hK.out _ _ ⟨(blk_cell BK362.out 0).trans rfl, (blk_cell BK362.out 1).trans rfl, (blk_cell BK362.out 2).trans rfl, (blk_cell BK363.out 0).trans rfl, (blk_cell BK363.out 1).trans rfl, (blk_cell BK363.out 2).trans rfl⟩ (fun hHeld => ?_)
              clear hK K
              refine norm_ (a' := ?_) ?_ ?_
              rotate_left
              · show Act.put _ (some 83) _ = _
               simp only [Act.put, List.setIfInBounds_toArray, List.set_cons_zero, List.set_cons_succ, i64_w, i32_w]
               rfl
              refine one_ (i := 4) (N := some 84) #[true, true, true, true, true, false, false, false, true, false, false] rfl rfl (one_of HT_.out (by kernel_rfl)) (by decide) (fun K hK => ?_)
              refine goes_ Try.func10 (by kernel_rfl) rfl #[.agg #[.int .i64 t409, .int .i64 t410, .slice Ao142 t411.length co142], .agg #[.int .i64 t414, .int .i64 t415, .int .i64 t416]] (by rfl) rfl rfl (by (try simp only [List.map_toArray, List.map_cons, List.map_nil]); first | done | rfl | (simp only [List.length_drop, List.length_take]; rfl)) ?_
              with_reducible refine (impl_AddClue.calls t409 t410 _ _ t411 t414 t415 t416 t417 t418 t419 t422 _ ?side1 ?side2 A128.out).mono ?_
              (case side1 => repeat (first | exact (Kd.R_reads' HO413.out).2.2 | (with_reducible refine Kd.C_alloc ?_ _) | (with_reducible refine Kd.C_drewN ?_ _) | (with_reducible refine Kd.C_drew ?_)))
              (case side2 => exact (Kd.R_reads' HO413.out).2.1)
              rintro e w143 ⟨v420, rfl, ho0, hb⟩
              refine ⟨_, rfl, ?_⟩
              have n0_ := amk (Kd.R_elder' HO_380002.out (Kd.R_base ho0) hb)
              have n1_ := amk (Kd.R_elder' HO_386002.out (Kd.R_base ho0) hb)
              have n2_ := amk (Kd.R_elder' HO_396002.out (Kd.R_base ho0) hb)
              have n3_ := amk (Kd.R_elder' HO413.out (Kd.R_base ho0) hb)
              have n4_ := amk (Kd.R_lower (Kd.R_new' (Kd.R_new' (Kd.R_new' (Kd.R_new' ho0 (Kd.R_lt HO_380002.out)) (Kd.R_lt HO_386002.out)) (Kd.R_lt HO_396002.out)) (Kd.R_lt HO413.out)) (below_size HB.out))
              have n5_ := amk (blk_below BK362.out hb)
              have n6_ := amk (blk_below BK363.out hb)
              have n7_ := amk (blk_below BK379.out hb)
              have n8_ := amk (blk_below BK385.out hb)
              have n9_ := amk (blk_below BK395.out hb)
              have n10_ := amk (blk_below BK423.out hb)
              have n11_ := amk (bp_ HB.out hb)
              clear HO_380002 HO_386002 HO_396002 HO413 BK362 BK363 BK379 BK385 BK395 BK423 HB
              have HO_380002 := n0_
              have HO_386002 := n1_
              have HO_396002 := n2_
              have HO413 := n3_
              have HO421 := n4_
              have BK362 := n5_
              have BK363 := n6_
              have BK379 := n7_
              have BK385 := n8_
              have BK395 := n9_
              have BK423 := n10_
              have HB := n11_
              clear n0_ n1_ n2_ n3_ n4_ n5_ n6_ n7_ n8_ n9_ n10_ n11_
              (try clear hb)
              (try clear hb2)
              (try clear hk)
              (try clear hi)
              (try clear ho0)
              refine hK.out _ _ ⟨(blk_cell BK362.out 0).trans rfl, (blk_cell BK362.out 1).trans rfl, (blk_cell BK362.out 2).trans rfl, (blk_cell BK363.out 0).trans rfl, (blk_cell BK363.out 1).trans rfl, (blk_cell BK363.out 2).trans rfl⟩ (fun hHeld => ?_)
              clear hK K
              refine norm_ (a' := ?_) ?_ ?_
              rotate_left
              · show Act.put _ (some 84) _ = _
               simp only [Act.put, List.setIfInBounds_toArray, List.set_cons_zero, List.set_cons_succ, i64_w, i32_w]
               rfl
              refine pure_ (i := 5) (N := some 79) (v := ?_) (a' := ?_) #[true, true, true, true, true, true, false, false, true, false, false] rfl rfl (any_of HT_.out (by kernel_rfl)) (fun _ _ _ h => h) (Or.inl ⟨by rfl, ?_⟩) ?_ ?_
              rotate_left
              · intro w'
               go_simp
               with_reducible rfl
              rotate_left
              · simp only [Act.put, List.setIfInBounds_toArray, List.set_cons_zero, List.set_cons_succ, i64_w, i32_w]
               rfl
              refine pure_ (i := 6) (N := some 85) (v := ?_) (a' := ?_) #[true, true, true, true, true, true, true, false, true, false, false] rfl rfl (any_of HT_.out (by kernel_rfl)) (fun _ _ _ h => h) (Or.inl ⟨by rfl, ?_⟩) ?_ ?_
              rotate_left
              · intro w'
               go_simp
               with_reducible rfl
              rotate_left
              · simp only [Act.put, List.setIfInBounds_toArray, List.set_cons_zero, List.set_cons_succ, i64_w, i32_w]
               rfl
              refine pure_ (i := 7) (N := some 86) (v := ?_) (a' := ?_) #[true, true, true, true, true, true, true, true, true, false, false] rfl rfl (any_of HT_.out (by kernel_rfl)) (fun _ _ _ h => h) (Or.inl ⟨by rfl, ?_⟩) ?_ ?_
              rotate_left
              · intro w'
               go_simp
               with_reducible rfl
              rotate_left
              · simp only [Act.put, List.setIfInBounds_toArray, List.set_cons_zero, List.set_cons_succ, i64_w, i32_w]
               rfl
              exact norm_ (by simp only [putAll, Act.put, List.setIfInBounds_toArray, List.set_cons_zero, List.set_cons_succ]) (hCont (.slice Ao142 t411.length co142, v420, gb423) _ ⟨hHeld, (by (with_reducible repeat (first | apply Kd.R_alloc | apply Kd.R_drewN | apply Kd.R_drew)); exact Kd.R_mono HO413.out (fun _ hk => ⟨hk.2, ⟨hk.1.1.1.2, ⟨hk.1.1.2, hk.1.2⟩⟩⟩)), (by (with_reducible repeat (first | apply Kd.R_alloc | apply Kd.R_drewN | apply Kd.R_drew)); exact Kd.R_mono HO421.out (fun _ hk => ⟨hk.2, ⟨hk.1.1.1.2, ⟨hk.1.1.2, hk.1.2⟩⟩⟩)), (by (with_reducible repeat (first | apply Kd.R_alloc | apply Kd.R_drewN | apply Kd.R_drew)); exact Kd.R_mono HO_380002.out (fun _ hk => ⟨hk.1.2, ⟨hk.2, ⟨hk.1.1.1, hk.1.1.2⟩⟩⟩)), (by (with_reducible repeat (first | apply Kd.R_alloc | apply Kd.R_drewN | apply Kd.R_drew)); exact Kd.R_mono HO_386002.out (fun _ hk => ⟨hk.1.2, ⟨hk.2, ⟨hk.1.1.1, hk.1.1.2⟩⟩⟩)), (by (with_reducible repeat (first | apply Kd.R_alloc | apply Kd.R_drewN | apply Kd.R_drew)); exact Kd.R_mono HO_396002.out (fun _ hk => ⟨hk.1.2, ⟨hk.2, ⟨hk.1.1.1, hk.1.1.2⟩⟩⟩)), BK362.out, BK363.out, BK379.out, BK385.out, BK395.out, BK423.out, GW423.out, GE423.out, NB362_423.out, NB423_362.out, NB363_423.out, NB423_363.out, NB379_423.out, NB423_379.out, NB385_423.out, NB423_385.out, NB395_423.out, NB423_395.out, HB.out⟩)
            · skip
             refine box_step ?hg (N := 14) ?hd (cs := #[.int .i64 0, .int .i64 0, .slice none 0 0]) (t := 33) ?hr ?_; (case hd => rfl); (case hg => rfl); (case hr => first | (go_simp; done) | (go_simp; rfl))
             intro gb423 hg w139 hbox hb
             have n0_ := amk (Kd.R_below HO_380002.out hb)
             have n1_ := amk (Kd.R_below HO_386002.out hb)
             have n2_ := amk (Kd.R_below HO_396002.out hb)
             have n3_ := amk (blk_below BK362.out hb)
             have n4_ := amk (blk_below BK363.out hb)
             have n5_ := amk (blk_below BK379.out hb)
             have n6_ := amk (blk_below BK385.out hb)
             have n7_ := amk (blk_below BK395.out hb)
             have n8_ := amk (bp_ HB.out hb)
             have n9_ := amk (hbox)
             have n10_ := amk ((by rw [hg]; exact (below_size HB.out) : w.heap.size ≤ gb423))
             have n11_ := amk ((by rw [hg]; exact (below_size HB.out) : w.heap.size ≤ gb423))
             have n12_ := amk ((by rw [hg]; exact Nat.ne_of_lt (blk_lt BK362.out) : gb362 ≠ gb423))
             have n13_ := amk ((by rw [hg]; exact Nat.ne_of_gt (blk_lt BK362.out) : gb423 ≠ gb362))
             have n14_ := amk ((by rw [hg]; exact Nat.ne_of_lt (blk_lt BK363.out) : gb363 ≠ gb423))
             have n15_ := amk ((by rw [hg]; exact Nat.ne_of_gt (blk_lt BK363.out) : gb423 ≠ gb363))
             have n16_ := amk ((by rw [hg]; exact Nat.ne_of_lt (blk_lt BK379.out) : gb379 ≠ gb423))
             have n17_ := amk ((by rw [hg]; exact Nat.ne_of_gt (blk_lt BK379.out) : gb423 ≠ gb379))
             have n18_ := amk ((by rw [hg]; exact Nat.ne_of_lt (blk_lt BK385.out) : gb385 ≠ gb423))
             have n19_ := amk ((by rw [hg]; exact Nat.ne_of_gt (blk_lt BK385.out) : gb423 ≠ gb385))
             have n20_ := amk ((by rw [hg]; exact Nat.ne_of_lt (blk_lt BK395.out) : gb395 ≠ gb423))
             have n21_ := amk ((by rw [hg]; exact Nat.ne_of_gt (blk_lt BK395.out) : gb423 ≠ gb395))
             clear HO_380002 HO_386002 HO_396002 BK362 BK363 BK379 BK385 BK395 HB
             have HO_380002 := n0_
             have HO_386002 := n1_
             have HO_396002 := n2_
             have BK362 := n3_
             have BK363 := n4_
             have BK379 := n5_
             have BK385 := n6_
             have BK395 := n7_
             have HB := n8_
             have BK423 := n9_
             have GW423 := n10_
             have GE423 := n11_
             have NB362_423 := n12_
             have NB423_362 := n13_
             have NB363_423 := n14_
             have NB423_363 := n15_
             have NB379_423 := n16_
             have NB423_379 := n17_
             have NB385_423 := n18_
             have NB423_385 := n19_
             have NB395_423 := n20_
             have NB423_395 := n21_
             clear n0_ n1_ n2_ n3_ n4_ n5_ n6_ n7_ n8_ n9_ n10_ n11_ n12_ n13_ n14_ n15_ n16_ n17_ n18_ n19_ n20_ n21_ hb hbox hg
             refine hK.out _ _ ⟨(blk_cell BK362.out 0).trans rfl, (blk_cell BK362.out 1).trans rfl, (blk_cell BK362.out 2).trans rfl, (blk_cell BK363.out 0).trans rfl, (blk_cell BK363.out 1).trans rfl, (blk_cell BK363.out 2).trans rfl⟩ (fun hHeld => ?_)
             clear hK K
             refine norm_ (a' := ?_) ?_ ?_
             rotate_left
             · show Act.put _ (some 14) _ = _
              simp only [Act.put, List.setIfInBounds_toArray, List.set_cons_zero, List.set_cons_succ, i64_w, i32_w]
              rfl
             refine one_ (i := 1) (N := some 81) #[true, true, true, false, false, false, false, false, true, false, false] rfl rfl (one_of HT_.out (by kernel_rfl)) (by decide) (fun K hK => ?_)
             refine goes_ Try.func8 (by kernel_rfl) rfl #[.agg #[.int .i64 a0_0, .int .i64 a0_1, .slice A0_2 l0_2.length c0_2]] (by rfl) rfl rfl (by (try simp only [List.map_toArray, List.map_cons, List.map_nil]); first | done | rfl | (simp only [List.length_drop, List.length_take]; rfl)) ?_
             with_reducible refine (laws_toPuzzle.calls kj78 a0_0 a0_1 _ _ l0_2 t409 t410 t411 _ ?side1 ?side2 A126.out).mono ?_
             (case side1 => repeat (first | exact (Kd.C_below HR0_2.out HB.out) | (with_reducible refine Kd.C_alloc ?_ _) | (with_reducible refine Kd.C_drewN ?_ _) | (with_reducible refine Kd.C_drew ?_)))
             (case side2 => exact HC0_2.out)
             rintro e w140 ⟨v412, rfl, ho0, hb⟩
             refine ⟨_, rfl, ?_⟩
             have n0_ := amk (Kd.R_elder' HO_380002.out (Kd.R_base ho0) hb)
             have n1_ := amk (Kd.R_elder' HO_386002.out (Kd.R_base ho0) hb)
             have n2_ := amk (Kd.R_elder' HO_396002.out (Kd.R_base ho0) hb)
             have n3_ := amk (Kd.R_lower (Kd.R_new' (Kd.R_new' (Kd.R_new' ho0 (Kd.R_lt HO_380002.out)) (Kd.R_lt HO_386002.out)) (Kd.R_lt HO_396002.out)) (below_size HB.out))
             have n4_ := amk (blk_below BK362.out hb)
             have n5_ := amk (blk_below BK363.out hb)
             have n6_ := amk (blk_below BK379.out hb)
             have n7_ := amk (blk_below BK385.out hb)
             have n8_ := amk (blk_below BK395.out hb)
             have n9_ := amk (blk_below BK423.out hb)
             have n10_ := amk (bp_ HB.out hb)
             clear HO_380002 HO_386002 HO_396002 BK362 BK363 BK379 BK385 BK395 BK423 HB
             have HO_380002 := n0_
             have HO_386002 := n1_
             have HO_396002 := n2_
             have HO413 := n3_
             have BK362 := n4_
             have BK363 := n5_
             have BK379 := n6_
             have BK385 := n7_
             have BK395 := n8_
             have BK423 := n9_
             have HB := n10_
             clear n0_ n1_ n2_ n3_ n4_ n5_ n6_ n7_ n8_ n9_ n10_
             (try clear hb)
             (try clear hb2)
             (try clear hk)
             (try clear hi)
             (try clear ho0)
             refine hK.out _ _ ⟨(blk_cell BK362.out 0).trans rfl, (blk_cell BK362.out 1).trans rfl, (blk_cell BK362.out 2).trans rfl, (blk_cell BK363.out 0).trans rfl, (blk_cell BK363.out 1).trans rfl, (blk_cell BK363.out 2).trans rfl⟩ (fun hHeld => ?_)
             clear hK K
             refine norm_ (a' := ?_) ?_ ?_
             rotate_left
             · show Act.put _ (some 81) _ = _
              simp only [Act.put, List.setIfInBounds_toArray, List.set_cons_zero, List.set_cons_succ, i64_w, i32_w]
              rfl
             refine one_ (i := 3) (N := some 83) #[true, true, true, true, false, false, false, false, true, false, false] rfl rfl (one_of HT_.out (by kernel_rfl)) (by decide) (fun K hK => ?_)
             refine goes_ Try.func9 (by kernel_rfl) rfl #[.agg #[.int .i64 a1_0, .int .i64 a1_1, .int .i64 a1_2]] (by rfl) rfl rfl (by (try simp only [List.map_toArray, List.map_cons, List.map_nil]); first | done | rfl | (simp only [List.length_drop, List.length_take]; rfl)) ?_
             with_reducible refine (laws_toClue.calls a1_0 a1_1 a1_2 t414 t415 t416 _ A127.out).mono ?_
             rintro e w141 ⟨rfl, hb⟩
             refine ⟨_, rfl, ?_⟩
             have n0_ := amk (Kd.R_below HO_380002.out hb)
             have n1_ := amk (Kd.R_below HO_386002.out hb)
             have n2_ := amk (Kd.R_below HO_396002.out hb)
             have n3_ := amk (Kd.R_below HO413.out hb)
             have n4_ := amk (blk_below BK362.out hb)
             have n5_ := amk (blk_below BK363.out hb)
             have n6_ := amk (blk_below BK379.out hb)
             have n7_ := amk (blk_below BK385.out hb)
             have n8_ := amk (blk_below BK395.out hb)
             have n9_ := amk (blk_below BK423.out hb)
             have n10_ := amk (bp_ HB.out hb)
             clear HO_380002 HO_386002 HO_396002 HO413 BK362 BK363 BK379 BK385 BK395 BK423 HB
             have HO_380002 := n0_
             have HO_386002 := n1_
             have HO_396002 := n2_
             have HO413 := n3_
             have BK362 := n4_
             have BK363 := n5_
             have BK379 := n6_
             have BK385 := n7_
             have BK395 := n8_
             have BK423 := n9_
             have HB := n10_
             clear n0_ n1_ n2_ n3_ n4_ n5_ n6_ n7_ n8_ n9_ n10_
             (try clear hb)
             (try clear hb2)
             (try clear hk)
             (try clear hi)
             obtain ⟨Ao142, co142, eo142⟩ := Kd.R_slice HO413.out
             (first | subst eo142 | (injection eo142 with f1_ f2_ f3_; have f4_ := f1_.symm; have f5_ := f3_.symm; clear f1_ f2_ f3_; subst f4_; subst f5_))
             refine hK.out _ _ ⟨(blk_cell BK362.out 0).trans rfl, (blk_cell BK362.out 1).trans rfl, (blk_cell BK362.out 2).trans rfl, (blk_cell BK363.out 0).trans rfl, (blk_cell BK363.out 1).trans rfl, (blk_cell BK363.out 2).trans rfl⟩ (fun hHeld => ?_)
             clear hK K
             refine norm_ (a' := ?_) ?_ ?_
             rotate_left
             · show Act.put _ (some 83) _ = _
              simp only [Act.put, List.setIfInBounds_toArray, List.set_cons_zero, List.set_cons_succ, i64_w, i32_w]
              rfl
             refine one_ (i := 4) (N := some 84) #[true, true, true, true, true, false, false, false, true, false, false] rfl rfl (one_of HT_.out (by kernel_rfl)) (by decide) (fun K hK => ?_)
             refine goes_ Try.func10 (by kernel_rfl) rfl #[.agg #[.int .i64 t409, .int .i64 t410, .slice Ao142 t411.length co142], .agg #[.int .i64 t414, .int .i64 t415, .int .i64 t416]] (by rfl) rfl rfl (by (try simp only [List.map_toArray, List.map_cons, List.map_nil]); first | done | rfl | (simp only [List.length_drop, List.length_take]; rfl)) ?_
             with_reducible refine (impl_AddClue.calls t409 t410 _ _ t411 t414 t415 t416 t417 t418 t419 t422 _ ?side1 ?side2 A128.out).mono ?_
             (case side1 => repeat (first | exact (Kd.R_reads' HO413.out).2.2 | (with_reducible refine Kd.C_alloc ?_ _) | (with_reducible refine Kd.C_drewN ?_ _) | (with_reducible refine Kd.C_drew ?_)))
             (case side2 => exact (Kd.R_reads' HO413.out).2.1)
             rintro e w143 ⟨v420, rfl, ho0, hb⟩
             refine ⟨_, rfl, ?_⟩
             have n0_ := amk (Kd.R_elder' HO_380002.out (Kd.R_base ho0) hb)
             have n1_ := amk (Kd.R_elder' HO_386002.out (Kd.R_base ho0) hb)
             have n2_ := amk (Kd.R_elder' HO_396002.out (Kd.R_base ho0) hb)
             have n3_ := amk (Kd.R_elder' HO413.out (Kd.R_base ho0) hb)
             have n4_ := amk (Kd.R_lower (Kd.R_new' (Kd.R_new' (Kd.R_new' (Kd.R_new' ho0 (Kd.R_lt HO_380002.out)) (Kd.R_lt HO_386002.out)) (Kd.R_lt HO_396002.out)) (Kd.R_lt HO413.out)) (below_size HB.out))
             have n5_ := amk (blk_below BK362.out hb)
             have n6_ := amk (blk_below BK363.out hb)
             have n7_ := amk (blk_below BK379.out hb)
             have n8_ := amk (blk_below BK385.out hb)
             have n9_ := amk (blk_below BK395.out hb)
             have n10_ := amk (blk_below BK423.out hb)
             have n11_ := amk (bp_ HB.out hb)
             clear HO_380002 HO_386002 HO_396002 HO413 BK362 BK363 BK379 BK385 BK395 BK423 HB
             have HO_380002 := n0_
             have HO_386002 := n1_
             have HO_396002 := n2_
             have HO413 := n3_
             have HO421 := n4_
             have BK362 := n5_
             have BK363 := n6_
             have BK379 := n7_
             have BK385 := n8_
             have BK395 := n9_
             have BK423 := n10_
             have HB := n11_
             clear n0_ n1_ n2_ n3_ n4_ n5_ n6_ n7_ n8_ n9_ n10_ n11_
             (try clear hb)
             (try clear hb2)
             (try clear hk)
             (try clear hi)
             (try clear ho0)
             refine hK.out _ _ ⟨(blk_cell BK362.out 0).trans rfl, (blk_cell BK362.out 1).trans rfl, (blk_cell BK362.out 2).trans rfl, (blk_cell BK363.out 0).trans rfl, (blk_cell BK363.out 1).trans rfl, (blk_cell BK363.out 2).trans rfl⟩ (fun hHeld => ?_)
             clear hK K
             refine norm_ (a' := ?_) ?_ ?_
             rotate_left
             · show Act.put _ (some 84) _ = _
              simp only [Act.put, List.setIfInBounds_toArray, List.set_cons_zero, List.set_cons_succ, i64_w, i32_w]
              rfl
             refine pure_ (i := 5) (N := some 79) (v := ?_) (a' := ?_) #[true, true, true, true, true, true, false, false, true, false, false] rfl rfl (any_of HT_.out (by kernel_rfl)) (fun _ _ _ h => h) (Or.inl ⟨by rfl, ?_⟩) ?_ ?_
             rotate_left
             · intro w'
              go_simp
              with_reducible rfl
             rotate_left
             · simp only [Act.put, List.setIfInBounds_toArray, List.set_cons_zero, List.set_cons_succ, i64_w, i32_w]
              rfl
             refine pure_ (i := 6) (N := some 85) (v := ?_) (a' := ?_) #[true, true, true, true, true, true, true, false, true, false, false] rfl rfl (any_of HT_.out (by kernel_rfl)) (fun _ _ _ h => h) (Or.inl ⟨by rfl, ?_⟩) ?_ ?_
             rotate_left
             · intro w'
              go_simp
              with_reducible rfl
             rotate_left
             · simp only [Act.put, List.setIfInBounds_toArray, List.set_cons_zero, List.set_cons_succ, i64_w, i32_w]
              rfl
             refine pure_ (i := 7) (N := some 86) (v := ?_) (a' := ?_) #[true, true, true, true, true, true, true, true, true, false, false] rfl rfl (any_of HT_.out (by kernel_rfl)) (fun _ _ _ h => h) (Or.inl ⟨by rfl, ?_⟩) ?_ ?_
             rotate_left
             · intro w'
              go_simp
              with_reducible rfl
             rotate_left
             · simp only [Act.put, List.setIfInBounds_toArray, List.set_cons_zero, List.set_cons_succ, i64_w, i32_w]
              rfl
             exact norm_ (by simp only [putAll, Act.put, List.setIfInBounds_toArray, List.set_cons_zero, List.set_cons_succ]) (hCont (.slice Ao142 t411.length co142, v420, gb423) _ ⟨hHeld, (by (with_reducible repeat (first | apply Kd.R_alloc | apply Kd.R_drewN | apply Kd.R_drew)); exact Kd.R_mono HO413.out (fun _ hk => ⟨hk.2, ⟨hk.1.1.1.2, ⟨hk.1.1.2, hk.1.2⟩⟩⟩)), (by (with_reducible repeat (first | apply Kd.R_alloc | apply Kd.R_drewN | apply Kd.R_drew)); exact Kd.R_mono HO421.out (fun _ hk => ⟨hk.2, ⟨hk.1.1.1.2, ⟨hk.1.1.2, hk.1.2⟩⟩⟩)), (by (with_reducible repeat (first | apply Kd.R_alloc | apply Kd.R_drewN | apply Kd.R_drew)); exact Kd.R_mono HO_380002.out (fun _ hk => ⟨hk.1.2, ⟨hk.2, ⟨hk.1.1.1, hk.1.1.2⟩⟩⟩)), (by (with_reducible repeat (first | apply Kd.R_alloc | apply Kd.R_drewN | apply Kd.R_drew)); exact Kd.R_mono HO_386002.out (fun _ hk => ⟨hk.1.2, ⟨hk.2, ⟨hk.1.1.1, hk.1.1.2⟩⟩⟩)), (by (with_reducible repeat (first | apply Kd.R_alloc | apply Kd.R_drewN | apply Kd.R_drew)); exact Kd.R_mono HO_396002.out (fun _ hk => ⟨hk.1.2, ⟨hk.2, ⟨hk.1.1.1, hk.1.1.2⟩⟩⟩)), BK362.out, BK363.out, BK379.out, BK385.out, BK395.out, BK423.out, GW423.out, GE423.out, NB362_423.out, NB423_362.out, NB363_423.out, NB423_363.out, NB379_423.out, NB423_379.out, NB385_423.out, NB423_385.out, NB395_423.out, NB423_395.out, HB.out⟩)
           rintro ⟨v412, v420, gb423⟩ w144 ⟨hS_, h0_, h1_, h2_, h3_, h4_, h5_, h6_, h7_, h8_, h9_, h10_, h11_, h12_, h13_, h14_, h15_, h16_, h17_, h18_, h19_, h20_, h21_, h22_, h23_⟩
           have n0_ : Aside0 (Kd.R k37 37 w144 w.heap.size (fun k_ => some k_ ≠ (v420 : Value).ownBlock ∧ some k_ ≠ (.slice Ao31 t375.length co31 : Value).ownBlock ∧ some k_ ≠ (.slice Ao41 t404.length co41 : Value).ownBlock ∧ some k_ ≠ (.slice Ao50 t391.length co50 : Value).ownBlock) v412 t411) := ⟨h0_⟩
           have n1_ : Aside0 (Kd.R k37 37 w144 w.heap.size (fun k_ => some k_ ≠ (v412 : Value).ownBlock ∧ some k_ ≠ (.slice Ao31 t375.length co31 : Value).ownBlock ∧ some k_ ≠ (.slice Ao41 t404.length co41 : Value).ownBlock ∧ some k_ ≠ (.slice Ao50 t391.length co50 : Value).ownBlock) v420 t419) := ⟨h1_⟩
           have n2_ : Aside0 (Kd.R k37 37 w144 w.heap.size (fun k_ => some k_ ≠ (v412 : Value).ownBlock ∧ some k_ ≠ (v420 : Value).ownBlock ∧ some k_ ≠ (.slice Ao41 t404.length co41 : Value).ownBlock ∧ some k_ ≠ (.slice Ao50 t391.length co50 : Value).ownBlock) (.slice Ao31 t375.length co31) t375) := ⟨h2_⟩
           have n3_ : Aside0 (Kd.R k37 37 w144 w.heap.size (fun k_ => some k_ ≠ (v412 : Value).ownBlock ∧ some k_ ≠ (v420 : Value).ownBlock ∧ some k_ ≠ (.slice Ao31 t375.length co31 : Value).ownBlock ∧ some k_ ≠ (.slice Ao50 t391.length co50 : Value).ownBlock) (.slice Ao41 t404.length co41) t404) := ⟨h3_⟩
           have n4_ : Aside0 (Kd.R k37 37 w144 w.heap.size (fun k_ => some k_ ≠ (v412 : Value).ownBlock ∧ some k_ ≠ (v420 : Value).ownBlock ∧ some k_ ≠ (.slice Ao31 t375.length co31 : Value).ownBlock ∧ some k_ ≠ (.slice Ao41 t404.length co41 : Value).ownBlock) (.slice Ao50 t391.length co50) t407) := ⟨h4_⟩
           have n5_ : Aside0 (w144.heap[gb362]? = some (.cells #[.int .i64 a0_0, .int .i64 a0_1, .slice A0_2 l0_2.length c0_2] 26 (0, 0))) := ⟨h5_⟩
           have n6_ : Aside0 (w144.heap[gb363]? = some (.cells #[.int .i64 a1_0, .int .i64 a1_1, .int .i64 a1_2] 28 (0, 0))) := ⟨h6_⟩
           have n7_ : Aside0 (w144.heap[gb379]? = some (.cells #[.int .i64 t373, .int .i64 t374, .slice Ao31 t375.length co31] 33 (0, 0))) := ⟨h7_⟩
           have n8_ : Aside0 (w144.heap[gb385]? = some (.cells #[.int .i64 t380, .int .i64 t381, .slice Ao41 t404.length co41] 33 (0, 0))) := ⟨h8_⟩
           have n9_ : Aside0 (w144.heap[gb395]? = some (.cells #[.int .i64 t389, .int .i64 t390, .slice Ao50 t391.length co50] 33 (0, 0))) := ⟨h9_⟩
           have n10_ : Aside0 (w144.heap[gb423]? = some (.cells #[.int .i64 0, .int .i64 0, .slice none 0 0] 33 (0, 0))) := ⟨h10_⟩
           have n11_ : Aside0 (w.heap.size ≤ gb423) := ⟨h11_⟩
           have n12_ : Aside0 (w.heap.size ≤ gb423) := ⟨h12_⟩
           have n13_ : Aside0 (gb362 ≠ gb423) := ⟨h13_⟩
           have n14_ : Aside0 (gb423 ≠ gb362) := ⟨h14_⟩
           have n15_ : Aside0 (gb363 ≠ gb423) := ⟨h15_⟩
           have n16_ : Aside0 (gb423 ≠ gb363) := ⟨h16_⟩
           have n17_ : Aside0 (gb379 ≠ gb423) := ⟨h17_⟩
           have n18_ : Aside0 (gb423 ≠ gb379) := ⟨h18_⟩
           have n19_ : Aside0 (gb385 ≠ gb423) := ⟨h19_⟩
           have n20_ : Aside0 (gb423 ≠ gb385) := ⟨h20_⟩
           have n21_ : Aside0 (gb395 ≠ gb423) := ⟨h21_⟩
           have n22_ : Aside0 (gb423 ≠ gb395) := ⟨h22_⟩
           have n23_ : Aside0 (Below w.heap.size w w144) := ⟨h23_⟩
           clear HO_380002 HO_386002 HO_396002 BK362 BK363 BK379 BK385 BK395 HB h0_ h1_ h2_ h3_ h4_ h5_ h6_ h7_ h8_ h9_ h10_ h11_ h12_ h13_ h14_ h15_ h16_ h17_ h18_ h19_ h20_ h21_ h22_ h23_
           have HO413 := n0_
           have HO421 := n1_
           have HO_380002 := n2_
           have HO_386002 := n3_
           have HO_396002 := n4_
           have BK362 := n5_
           have BK363 := n6_
           have BK379 := n7_
           have BK385 := n8_
           have BK395 := n9_
           have BK423 := n10_
           have GW423 := n11_
           have GE423 := n12_
           have NB362_423 := n13_
           have NB423_362 := n14_
           have NB363_423 := n15_
           have NB423_363 := n16_
           have NB379_423 := n17_
           have NB423_379 := n18_
           have NB385_423 := n19_
           have NB423_385 := n20_
           have NB395_423 := n21_
           have NB423_395 := n22_
           have HB := n23_
           clear n0_ n1_ n2_ n3_ n4_ n5_ n6_ n7_ n8_ n9_ n10_ n11_ n12_ n13_ n14_ n15_ n16_ n17_ n18_ n19_ n20_ n21_ n22_ n23_
           have hHeld : w144.cell? ⟨gb362, 0, none⟩ = some (.int .i64 a0_0) ∧ w144.cell? ⟨gb362, 1, none⟩ = some (.int .i64 a0_1) ∧ w144.cell? ⟨gb362, 2, none⟩ = some (.slice A0_2 l0_2.length c0_2) ∧ w144.cell? ⟨gb363, 0, none⟩ = some (.int .i64 a1_0) ∧ w144.cell? ⟨gb363, 1, none⟩ = some (.int .i64 a1_1) ∧ w144.cell? ⟨gb363, 2, none⟩ = some (.int .i64 a1_2) := hS_
           obtain ⟨Ao147, co147, eo147⟩ := Kd.R_slice HO421.out
           (first | subst eo147 | (injection eo147 with f1_ f2_ f3_; have f4_ := f1_.symm; have f5_ := f3_.symm; clear f1_ f2_ f3_; subst f4_; subst f5_))
           refine norm_ (a' := ?_) ?_ ?_
           rotate_left
           · simp only [putAll, Act.put, List.setIfInBounds_toArray, List.set_cons_zero, List.set_cons_succ]
            rfl
           refine one_ (i := 9) (N := none) #[true, true, true, true, true, true, true, true, true, true, false] rfl rfl (one_of HT_.out (by kernel_rfl)) (by decide) (fun K hK => ?_)
           have hs145 : w144.cell? ⟨gb423, 0, none⟩ = some (.int .i64 0) := (blk_cell BK423.out 0).trans rfl
           have hfs145 := blk_frozen BK423.out 0
           have hns145_0 := NB362_423.out
           have hns145_1 := NB363_423.out
           have hns145_2 := NB379_423.out
           have hns145_3 := NB385_423.out
           have hns145_4 := NB395_423.out
           have hms145_0 := NB423_362.out
           have hms145_1 := NB423_363.out
           have hms145_2 := NB423_379.out
           have hms145_3 := NB423_385.out
           have hms145_4 := NB423_395.out
           have hs146 : w144.cell? ⟨gb423, 1, none⟩ = some (.int .i64 0) := (blk_cell BK423.out 1).trans rfl
           have hfs146 := blk_frozen BK423.out 1
           have hns146_0 := NB362_423.out
           have hns146_1 := NB363_423.out
           have hns146_2 := NB379_423.out
           have hns146_3 := NB385_423.out
           have hns146_4 := NB395_423.out
           have hms146_0 := NB423_362.out
           have hms146_1 := NB423_363.out
           have hms146_2 := NB423_379.out
           have hms146_3 := NB423_385.out
           have hms146_4 := NB423_395.out
           have hs148 : w144.cell? ⟨gb423, 2, none⟩ = some (.slice none 0 0) := (blk_cell BK423.out 2).trans rfl
           have hfs148 := blk_frozen BK423.out 2
           have hns148_0 := NB362_423.out
           have hns148_1 := NB363_423.out
           have hns148_2 := NB379_423.out
           have hns148_3 := NB385_423.out
           have hns148_4 := NB395_423.out
           have hms148_0 := NB423_362.out
           have hms148_1 := NB423_363.out
           have hms148_2 := NB423_379.out
           have hms148_3 := NB423_385.out
           have hms148_4 := NB423_395.out
           refine skip_ (w1 := ?_) (by rfl) rfl ?_ ?_
           rotate_left
           · go_simp
            rfl
           refine hK.out _ _ ⟨((cell_far (p := ⟨gb423, _, none⟩) NB362_423.out _).trans (((cell_far (p := ⟨gb423, _, none⟩) NB362_423.out _).trans (((cell_far (p := ⟨gb423, _, none⟩) NB362_423.out _).trans (hHeld.1)))))), ((cell_far (p := ⟨gb423, _, none⟩) NB362_423.out _).trans (((cell_far (p := ⟨gb423, _, none⟩) NB362_423.out _).trans (((cell_far (p := ⟨gb423, _, none⟩) NB362_423.out _).trans (hHeld.2.1)))))), ((cell_far (p := ⟨gb423, _, none⟩) NB362_423.out _).trans (((cell_far (p := ⟨gb423, _, none⟩) NB362_423.out _).trans (((cell_far (p := ⟨gb423, _, none⟩) NB362_423.out _).trans (hHeld.2.2.1)))))), ((cell_far (p := ⟨gb423, _, none⟩) NB363_423.out _).trans (((cell_far (p := ⟨gb423, _, none⟩) NB363_423.out _).trans (((cell_far (p := ⟨gb423, _, none⟩) NB363_423.out _).trans (hHeld.2.2.2.1)))))), ((cell_far (p := ⟨gb423, _, none⟩) NB363_423.out _).trans (((cell_far (p := ⟨gb423, _, none⟩) NB363_423.out _).trans (((cell_far (p := ⟨gb423, _, none⟩) NB363_423.out _).trans (hHeld.2.2.2.2.1)))))), ((cell_far (p := ⟨gb423, _, none⟩) NB363_423.out _).trans (((cell_far (p := ⟨gb423, _, none⟩) NB363_423.out _).trans (((cell_far (p := ⟨gb423, _, none⟩) NB363_423.out _).trans (hHeld.2.2.2.2.2))))))⟩ (fun hHeld => ?_)
           clear hK K
           refine pure_ (i := 10) (N := some 15) (v := ?_) (a' := ?_) #[true, true, true, true, true, true, true, true, true, true, true] rfl rfl (any_of HT_.out (by kernel_rfl)) (fun _ _ _ h => h) (Or.inl ⟨by rfl, ?_⟩) ?_ ?_
           rotate_left
           · intro w'
            go_simp
            with_reducible rfl
           rotate_left
           · simp only [Act.put, List.setIfInBounds_toArray, List.set_cons_zero, List.set_cons_succ, i64_w, i32_w]
            rfl
           refine done_ (done_of HT_.out (by kernel_rfl)) ?_
           go_upto_region 25 with (fail)
           go_cut [95] (fun v95 wc => ∃ (kq : Nat) (x95_128 : Bool), v95 = .bool x95_128 ∧ Aside0 (laws_FnExactAddClue.j2 kq t406 x95_128 t389 t390 t407 = some r) ∧ Aside0 (kq ≤ kj78) ∧ Aside0 (Kd.R k37 37 wc w.heap.size (fun k_ => some k_ ≠ ((.slice Ao41 t404.length co41) : Value).ownBlock ∧ some k_ ≠ ((.slice Ao50 t391.length co50) : Value).ownBlock ∧ some k_ ≠ ((.slice Ao147 t419.length co147) : Value).ownBlock) (.slice Ao31 t375.length co31) t375) ∧ Aside0 (Kd.R k37 37 wc w.heap.size (fun k_ => some k_ ≠ ((.slice Ao31 t375.length co31) : Value).ownBlock ∧ some k_ ≠ ((.slice Ao50 t391.length co50) : Value).ownBlock ∧ some k_ ≠ ((.slice Ao147 t419.length co147) : Value).ownBlock) (.slice Ao41 t404.length co41) t404) ∧ Aside0 (Kd.R k37 37 wc w.heap.size (fun k_ => some k_ ≠ ((.slice Ao31 t375.length co31) : Value).ownBlock ∧ some k_ ≠ ((.slice Ao41 t404.length co41) : Value).ownBlock ∧ some k_ ≠ ((.slice Ao147 t419.length co147) : Value).ownBlock) (.slice Ao50 t391.length co50) t407) ∧ Aside0 (Kd.R k37 37 wc w.heap.size (fun k_ => some k_ ≠ ((.slice Ao31 t375.length co31) : Value).ownBlock ∧ some k_ ≠ ((.slice Ao41 t404.length co41) : Value).ownBlock ∧ some k_ ≠ ((.slice Ao50 t391.length co50) : Value).ownBlock) (.slice Ao147 t419.length co147) t419) ∧ Aside0 (wc.heap[gb362]? = some (.cells #[.int .i64 a0_0, .int .i64 a0_1, (.slice A0_2 l0_2.length c0_2)] 26 (0, 0))) ∧ Aside0 (wc.heap[gb363]? = some (.cells #[.int .i64 a1_0, .int .i64 a1_1, .int .i64 a1_2] 28 (0, 0))) ∧ Aside0 (wc.heap[gb379]? = some (.cells #[.int .i64 t373, .int .i64 t374, (.slice Ao31 t375.length co31)] 33 (0, 0))) ∧ Aside0 (wc.heap[gb385]? = some (.cells #[.int .i64 t380, .int .i64 t381, (.slice Ao41 t404.length co41)] 33 (0, 0))) ∧ Aside0 (wc.heap[gb395]? = some (.cells #[.int .i64 t389, .int .i64 t390, (.slice Ao50 t391.length co50)] 33 (0, 0))) ∧ Aside0 (wc.heap[gb423]? = some (.cells #[.int .i64 t417, .int .i64 t418, (.slice Ao147 t419.length co147)] 33 (0, 0))) ∧ Aside0 (Below w.heap.size w wc))
           case first =>
            have H := HC129.out
            clear HC129
            replace H := Option.bind_eq_some_iff.mp H
            obtain ⟨t424, A1490, H⟩ := H
            replace H : (if t424 = true then (laws_FnExactAddClue.j2 kj78 t406 (t422 != t378) t389 t390 t407) else (none)) = some r := H
            have A149 := amk A1490
            clear A1490
            by_cases c150 : t424 = true
            · subst c150
             have H1 : (laws_FnExactAddClue.j2 kj78 t406 (t422 != t378) t389 t390 t407) = some r := by rw [if_pos rfl] at H; exact H
             clear H
             have H := H1
             clear H1
             have H' := amk H
             clear H
             have hnb151 := NB423_362.out
             have hnc151 := NB362_423.out
             have hnb152 := NB423_363.out
             have hnc152 := NB363_423.out
             have hnb153 := NB423_379.out
             have hnc153 := NB379_423.out
             have hnb154 := NB423_385.out
             have hnc154 := NB385_423.out
             have hnb155 := NB423_395.out
             have hnc155 := NB395_423.out
             have hcz156_0 : w144.cell? ⟨gb423, 0, none⟩ = some (.int .i64 0) := (blk_cell BK423.out 0).trans rfl
             have hcz156_1 : w144.cell? ⟨gb423, 1, none⟩ = some (.int .i64 0) := (blk_cell BK423.out 1).trans rfl
             have hcz156_2 : w144.cell? ⟨gb423, 2, none⟩ = some (.slice none 0 0) := (blk_cell BK423.out 2).trans rfl
             have hfz156_0 := blk_frozen BK423.out 0
             have hfz156_1 := blk_frozen BK423.out 1
             have hfz156_2 := blk_frozen BK423.out 2
             have hnb157 := NB379_362.out
             have hnc157 := NB362_379.out
             have hnb158 := NB379_363.out
             have hnc158 := NB363_379.out
             have hnb159 := NB379_385.out
             have hnc159 := NB385_379.out
             have hnb160 := NB379_395.out
             have hnc160 := NB395_379.out
             have hcz161_0 : w144.cell? ⟨gb379, 0, none⟩ = some (.int .i64 t373) := (blk_cell BK379.out 0).trans rfl
             have hcz161_1 : w144.cell? ⟨gb379, 1, none⟩ = some (.int .i64 t374) := (blk_cell BK379.out 1).trans rfl
             have hcz161_2 : w144.cell? ⟨gb379, 2, none⟩ = some (.slice Ao31 t375.length co31) := (blk_cell BK379.out 2).trans rfl
             have hfz161_0 := blk_frozen BK379.out 0
             have hfz161_1 := blk_frozen BK379.out 1
             have hfz161_2 := blk_frozen BK379.out 2
             go_wp2_with (first | ((with_reducible refine gate_callee (f := 11) rfl ?_); refine goesL_ (some 89) rfl rfl Try.func11 (by kernel_rfl) rfl #[.agg #[.int .i64 t417, .int .i64 t418, .slice Ao147 t419.length co147], .agg #[.int .i64 t373, .int .i64 t374, .slice Ao31 t375.length co31]] rfl (by (try simp only [List.map_toArray, List.map_cons, List.map_nil]); first | done | rfl | (simp only [List.length_drop, List.length_take]; rfl)) ?_; (with_reducible refine (laws_eqPuzzle.calls kj78 t417 t418 _ _ t419 t373 t374 _ _ t375 true _ ?side1 ?side2 ?side3 ?side4 A149.out).mono ?_); (case side1 => refine (Kd.R_reads' (e := 37) (base := w.heap.size) (ok := fun k_ => (some k_ ≠ (v412 : Value).ownBlock ∧ (some k_ ≠ (.slice Ao31 t375.length co31 : Value).ownBlock ∧ (some k_ ≠ (.slice Ao41 t404.length co41 : Value).ownBlock ∧ some k_ ≠ (.slice Ao50 t391.length co50 : Value).ownBlock)))) (n := t419.length) (c := co147) ?_).2.2; exact (by (with_reducible repeat (first | apply Kd.R_alloc | apply Kd.R_drewN | apply Kd.R_drew)); exact (Kd.R_mono (Kd.R_far (p := ⟨gb423, 2, none⟩) (Kd.R_far (p := ⟨gb423, 1, none⟩) (Kd.R_far (p := ⟨gb423, 0, none⟩) (Kd.R_types HO421.out BK423.out (by decide)) (fun _ hk => hk.2) (.int .i64 t417)) (fun _ hk => hk.2) (.int .i64 t418)) (fun _ hk => hk.2) (.slice Ao147 t419.length co147)) (fun _ h_ => h_.1)))); (case side2 => exact (Kd.R_reads' HO421.out).2.1); (case side3 => refine (Kd.R_reads' (e := 37) (base := w.heap.size) (ok := fun k_ => (some k_ ≠ (v412 : Value).ownBlock ∧ (some k_ ≠ (.slice Ao147 t419.length co147 : Value).ownBlock ∧ (some k_ ≠ (.slice Ao41 t404.length co41 : Value).ownBlock ∧ some k_ ≠ (.slice Ao50 t391.length co50 : Value).ownBlock)))) (n := t375.length) (c := co31) ?_).2.2; exact (by (with_reducible repeat (first | apply Kd.R_alloc | apply Kd.R_drewN | apply Kd.R_drew)); exact (Kd.R_mono (Kd.R_far (p := ⟨gb423, 2, none⟩) (Kd.R_far (p := ⟨gb423, 1, none⟩) (Kd.R_far (p := ⟨gb423, 0, none⟩) (Kd.R_types HO_380002.out BK423.out (by decide)) (fun _ hk => hk.2) (.int .i64 t417)) (fun _ hk => hk.2) (.int .i64 t418)) (fun _ hk => hk.2) (.slice Ao147 t419.length co147)) (fun _ h_ => h_.1)))); (case side4 => exact (Kd.R_reads' HO_380002.out).2.1); rintro e w162 ⟨rfl, hb⟩; refine ⟨_, rfl, ?_⟩; have n0_ := amk (Kd.R_below (by (with_reducible repeat (first | apply Kd.R_alloc | apply Kd.R_drewN | apply Kd.R_drew)); exact (Kd.R_mono (Kd.R_far (p := ⟨gb423, 2, none⟩) (Kd.R_far (p := ⟨gb423, 1, none⟩) (Kd.R_far (p := ⟨gb423, 0, none⟩) (Kd.R_types HO_380002.out BK423.out (by decide)) (fun _ hk => hk.2) (.int .i64 t417)) (fun _ hk => hk.2) (.int .i64 t418)) (fun _ hk => hk.2) (.slice Ao147 t419.length co147)) (fun _ h_ => h_.1))) hb); have n1_ := amk (Kd.R_below (by (with_reducible repeat (first | apply Kd.R_alloc | apply Kd.R_drewN | apply Kd.R_drew)); exact (Kd.R_mono (Kd.R_far (p := ⟨gb423, 2, none⟩) (Kd.R_far (p := ⟨gb423, 1, none⟩) (Kd.R_far (p := ⟨gb423, 0, none⟩) (Kd.R_types HO_386002.out BK423.out (by decide)) (fun _ hk => hk.2) (.int .i64 t417)) (fun _ hk => hk.2) (.int .i64 t418)) (fun _ hk => hk.2) (.slice Ao147 t419.length co147)) (fun _ h_ => h_.1))) hb); have n2_ := amk (Kd.R_below (by (with_reducible repeat (first | apply Kd.R_alloc | apply Kd.R_drewN | apply Kd.R_drew)); exact (Kd.R_mono (Kd.R_far (p := ⟨gb423, 2, none⟩) (Kd.R_far (p := ⟨gb423, 1, none⟩) (Kd.R_far (p := ⟨gb423, 0, none⟩) (Kd.R_types HO_396002.out BK423.out (by decide)) (fun _ hk => hk.2) (.int .i64 t417)) (fun _ hk => hk.2) (.int .i64 t418)) (fun _ hk => hk.2) (.slice Ao147 t419.length co147)) (fun _ h_ => h_.1))) hb); have n3_ := amk (Kd.R_below (by (with_reducible repeat (first | apply Kd.R_alloc | apply Kd.R_drewN | apply Kd.R_drew)); exact (Kd.R_mono (Kd.R_far (p := ⟨gb423, 2, none⟩) (Kd.R_far (p := ⟨gb423, 1, none⟩) (Kd.R_far (p := ⟨gb423, 0, none⟩) (Kd.R_types HO413.out BK423.out (by decide)) (fun _ hk => hk.2) (.int .i64 t417)) (fun _ hk => hk.2) (.int .i64 t418)) (fun _ hk => hk.2) (.slice Ao147 t419.length co147)) (fun _ h_ => h_.1))) hb); have n4_ := amk (Kd.R_below (by (with_reducible repeat (first | apply Kd.R_alloc | apply Kd.R_drewN | apply Kd.R_drew)); exact (Kd.R_mono (Kd.R_far (p := ⟨gb423, 2, none⟩) (Kd.R_far (p := ⟨gb423, 1, none⟩) (Kd.R_far (p := ⟨gb423, 0, none⟩) (Kd.R_types HO421.out BK423.out (by decide)) (fun _ hk => hk.2) (.int .i64 t417)) (fun _ hk => hk.2) (.int .i64 t418)) (fun _ hk => hk.2) (.slice Ao147 t419.length co147)) (fun _ h_ => h_.1))) hb); have n5_ := amk (blk_below (g := gb362) (o := .cells #[.int .i64 a0_0, .int .i64 a0_1, .slice A0_2 l0_2.length c0_2] 26 (0, 0)) (by (with_reducible repeat (first | refine kn_ ?_ _ | refine blk_drew ?_ | refine ka_ ?_ _)); refine blk_far ?_ NB362_423.out _; (with_reducible repeat (first | refine kn_ ?_ _ | refine blk_drew ?_ | refine ka_ ?_ _)); refine blk_far ?_ NB362_423.out _; (with_reducible repeat (first | refine kn_ ?_ _ | refine blk_drew ?_ | refine ka_ ?_ _)); refine blk_far ?_ NB362_423.out _; (with_reducible repeat (first | refine kn_ ?_ _ | refine blk_drew ?_ | refine ka_ ?_ _)); exact BK362.out) hb); have n6_ := amk (blk_below (g := gb363) (o := .cells #[.int .i64 a1_0, .int .i64 a1_1, .int .i64 a1_2] 28 (0, 0)) (by (with_reducible repeat (first | refine kn_ ?_ _ | refine blk_drew ?_ | refine ka_ ?_ _)); refine blk_far ?_ NB363_423.out _; (with_reducible repeat (first | refine kn_ ?_ _ | refine blk_drew ?_ | refine ka_ ?_ _)); refine blk_far ?_ NB363_423.out _; (with_reducible repeat (first | refine kn_ ?_ _ | refine blk_drew ?_ | refine ka_ ?_ _)); refine blk_far ?_ NB363_423.out _; (with_reducible repeat (first | refine kn_ ?_ _ | refine blk_drew ?_ | refine ka_ ?_ _)); exact BK363.out) hb); have n7_ := amk (blk_below (g := gb379) (o := .cells #[.int .i64 t373, .int .i64 t374, .slice Ao31 t375.length co31] 33 (0, 0)) (by (with_reducible repeat (first | refine kn_ ?_ _ | refine blk_drew ?_ | refine ka_ ?_ _)); refine blk_far ?_ NB379_423.out _; (with_reducible repeat (first | refine kn_ ?_ _ | refine blk_drew ?_ | refine ka_ ?_ _)); refine blk_far ?_ NB379_423.out _; (with_reducible repeat (first | refine kn_ ?_ _ | refine blk_drew ?_ | refine ka_ ?_ _)); refine blk_far ?_ NB379_423.out _; (with_reducible repeat (first | refine kn_ ?_ _ | refine blk_drew ?_ | refine ka_ ?_ _)); exact BK379.out) hb); have n8_ := amk (blk_below (g := gb385) (o := .cells #[.int .i64 t380, .int .i64 t381, .slice Ao41 t404.length co41] 33 (0, 0)) (by (with_reducible repeat (first | refine kn_ ?_ _ | refine blk_drew ?_ | refine ka_ ?_ _)); refine blk_far ?_ NB385_423.out _; (with_reducible repeat (first | refine kn_ ?_ _ | refine blk_drew ?_ | refine ka_ ?_ _)); refine blk_far ?_ NB385_423.out _; (with_reducible repeat (first | refine kn_ ?_ _ | refine blk_drew ?_ | refine ka_ ?_ _)); refine blk_far ?_ NB385_423.out _; (with_reducible repeat (first | refine kn_ ?_ _ | refine blk_drew ?_ | refine ka_ ?_ _)); exact BK385.out) hb); have n9_ := amk (blk_below (g := gb395) (o := .cells #[.int .i64 t389, .int .i64 t390, .slice Ao50 t391.length co50] 33 (0, 0)) (by (with_reducible repeat (first | refine kn_ ?_ _ | refine blk_drew ?_ | refine ka_ ?_ _)); refine blk_far ?_ NB395_423.out _; (with_reducible repeat (first | refine kn_ ?_ _ | refine blk_drew ?_ | refine ka_ ?_ _)); refine blk_far ?_ NB395_423.out _; (with_reducible repeat (first | refine kn_ ?_ _ | refine blk_drew ?_ | refine ka_ ?_ _)); refine blk_far ?_ NB395_423.out _; (with_reducible repeat (first | refine kn_ ?_ _ | refine blk_drew ?_ | refine ka_ ?_ _)); exact BK395.out) hb); have n10_ := amk (blk_below (g := gb423) (o := .cells #[.int .i64 t417, .int .i64 t418, .slice Ao147 t419.length co147] 33 (0, 0)) (by (with_reducible repeat (first | refine kn_ ?_ _ | refine blk_drew ?_ | refine ka_ ?_ _)); refine blk_put (cs := #[.int .i64 t417, .int .i64 t418, .slice none 0 0]) ?_ 2 _ rfl; (with_reducible repeat (first | refine kn_ ?_ _ | refine blk_drew ?_ | refine ka_ ?_ _)); refine blk_put (cs := #[.int .i64 t417, .int .i64 0, .slice none 0 0]) ?_ 1 _ rfl; (with_reducible repeat (first | refine kn_ ?_ _ | refine blk_drew ?_ | refine ka_ ?_ _)); refine blk_put (cs := #[.int .i64 0, .int .i64 0, .slice none 0 0]) ?_ 0 _ rfl; (with_reducible repeat (first | refine kn_ ?_ _ | refine blk_drew ?_ | refine ka_ ?_ _)); exact BK423.out) hb); have n11_ := amk (bp_ (by repeat (first | (with_reducible first | exact HB.out | apply ba_ | apply bn_ | apply bd_ | refine bs_ ?_ GE362.out | refine bs_ ?_ GE363.out | refine bs_ ?_ GE379.out | refine bs_ ?_ GE385.out | refine bs_ ?_ GE395.out | refine bs_ ?_ GE423.out) | exact HB.out)) hb); clear HO_380002; clear HO_386002; clear HO_396002; clear HO413; clear HO421; clear BK362; clear BK363; clear BK379; clear BK385; clear BK395; clear BK423; clear HB; have HO_380002 := n0_; have HO_386002 := n1_; have HO_396002 := n2_; have HO413 := n3_; have HO421 := n4_; have BK362 := n5_; have BK363 := n6_; have BK379 := n7_; have BK385 := n8_; have BK395 := n9_; have BK423 := n10_; have HB := n11_; clear n0_ n1_ n2_ n3_ n4_ n5_ n6_ n7_ n8_ n9_ n10_ n11_; (try clear hb); (try clear hb2); (try clear hk); (try clear hi)))
             go_meet
             case rel => exact ⟨_, ((t422 != t378)), (by first | rfl | (simp; done) | (simp [*]; done)), H', ⟨by have := HJ15.out; have := HJ78.out; first | omega | exact Nat.le_refl _⟩, ⟨by (try simp only [hl386002_78]); (with_reducible repeat (first | apply Kd.R_alloc | apply Kd.R_drewN | apply Kd.R_drew)); exact Kd.R_mono HO_380002.out (fun _ hk => ⟨hk.2.2.1, ⟨hk.2.2.2, hk.2.1⟩⟩)⟩, ⟨by (try simp only [hl386002_78]); (with_reducible repeat (first | apply Kd.R_alloc | apply Kd.R_drewN | apply Kd.R_drew)); exact Kd.R_mono HO_386002.out (fun _ hk => ⟨hk.2.2.1, ⟨hk.2.2.2, hk.2.1⟩⟩)⟩, ⟨by (try simp only [hl386002_78]); (with_reducible repeat (first | apply Kd.R_alloc | apply Kd.R_drewN | apply Kd.R_drew)); exact Kd.R_mono HO_396002.out (fun _ hk => ⟨hk.2.2.1, ⟨hk.2.2.2, hk.2.1⟩⟩)⟩, ⟨by (try simp only [hl386002_78]); (with_reducible repeat (first | apply Kd.R_alloc | apply Kd.R_drewN | apply Kd.R_drew)); exact Kd.R_mono HO421.out (fun _ hk => ⟨hk.2.1, ⟨hk.2.2.1, hk.2.2.2⟩⟩)⟩, ⟨by (try simp only [hl386002_78]); (with_reducible repeat (first | refine kn_ ?_ _ | refine blk_drew ?_ | refine ka_ ?_ _)); exact BK362.out⟩, ⟨by (try simp only [hl386002_78]); (with_reducible repeat (first | refine kn_ ?_ _ | refine blk_drew ?_ | refine ka_ ?_ _)); exact BK363.out⟩, ⟨by (try simp only [hl386002_78]); (with_reducible repeat (first | refine kn_ ?_ _ | refine blk_drew ?_ | refine ka_ ?_ _)); exact BK379.out⟩, ⟨by (try simp only [hl386002_78]); (with_reducible repeat (first | refine kn_ ?_ _ | refine blk_drew ?_ | refine ka_ ?_ _)); exact BK385.out⟩, ⟨by (try simp only [hl386002_78]); (with_reducible repeat (first | refine kn_ ?_ _ | refine blk_drew ?_ | refine ka_ ?_ _)); exact BK395.out⟩, ⟨by (try simp only [hl386002_78]); (with_reducible repeat (first | refine kn_ ?_ _ | refine blk_drew ?_ | refine ka_ ?_ _)); exact BK423.out⟩, ⟨by repeat (first | (with_reducible first | exact HB.out | apply ba_ | apply bn_ | apply bd_ | refine bs_ ?_ GE362.out | refine bs_ ?_ GE363.out | refine bs_ ?_ GE379.out | refine bs_ ?_ GE385.out | refine bs_ ?_ GE395.out | refine bs_ ?_ GE423.out) | exact HB.out)⟩⟩
            · replace c150 := Bool.eq_false_iff.mpr c150
             subst c150
             have H1 : (none) = some r := by rw [if_neg (show ¬ (false = true) by decide)] at H; exact H
             cases H1
           case rest =>
            clear HC129
            try clear c1; try clear p2; try clear c8; try clear c9; try clear c10; try clear c11; try clear c15; try clear c16; try clear c17; try clear c150; try clear c151; try clear c152; try clear c153; try clear c154; try clear c155; try clear c157; try clear c158; try clear c159; try clear c160; try clear c163; try clear c164; try clear c165; try clear c166; try clear c167; try clear c169; try clear c170; try clear c171; try clear c172; try clear hcz156_0; try clear hcz156_1; try clear hcz156_2; try clear hcz161_0; try clear hcz161_1; try clear hcz161_2; try clear hcz168_0; try clear hcz168_1; try clear hcz168_2; try clear hcz173_0; try clear hcz173_1; try clear hcz173_2; try clear hfz156_0; try clear hfz156_1; try clear hfz156_2; try clear hfz161_0; try clear hfz161_1; try clear hfz161_2; try clear hfz168_0; try clear hfz168_1; try clear hfz168_2; try clear hfz173_0; try clear hfz173_1; try clear hfz173_2
            obtain ⟨kq, x95_128, rfl, HA, HJ128, HO_380002, HO_386002, HO_396002, HO_424002, BK362, BK363, BK379, BK385, BK395, BK423, HB⟩ := hcut
            have hl396002_128 := (Kd.R_reads' HO_396002.out).1
            rw [hl396002_128] at HO_396002
            (try simp only [hl396002_128])
            (try simp only [hl396002_128] at BK362)
            (try simp only [hl396002_128] at BK363)
            (try simp only [hl396002_128] at BK379)
            (try simp only [hl396002_128] at BK385)
            (try simp only [hl396002_128] at BK395)
            (try simp only [hl396002_128] at BK423)
            (try simp only [hl396002_128] at HO_380002)
            (try simp only [hl396002_128] at HO_386002)
            (try simp only [hl396002_128] at HO_424002)
            cases kq with
            | zero => exact absurd HA.out (by simp [laws_FnExactAddClue.j2])
            | succ kj128 =>
             have H := HA.out
             clear HA
             simp only [laws_FnExactAddClue.j2] at H
             by_cases c175 : x95_128 = true
             · subst c175
              have H1 : (none) = some r := by rw [if_pos rfl] at H; exact H
              cases H1
             · replace c175 := Bool.eq_false_iff.mpr c175
              subst c175
              have H1 : ((laws_heldPuzzle.f kj128 t389 t390 t407 1).bind fun t425 => (if t425 < 0 then (none) else (if t425 = t406 then (some true) else (none)))) = some r := by rw [if_neg (show ¬ (false = true) by decide)] at H; exact H
              clear H
              have H := H1
              clear H1
              replace H := Option.bind_eq_some_iff.mp H
              obtain ⟨t425, A1760, H⟩ := H
              replace H : (if t425 < 0 then (none) else (if t425 = t406 then (some true) else (none))) = some r := H
              have A176 := amk A1760
              clear A1760
              by_cases c177 : t425 < 0
              · rw [if_pos c177] at H
               cases H
              · rw [if_neg c177] at H
               have c177b0 : decide (t425 < 0) = false := decide_eq_false c177
               clear c177
               by_cases c185 : t425 = t406
               · rw [if_pos c185] at H
                have c185b0 : (t425 == t406) = true := beq_iff_eq.mpr c185
                have c185b1 : (t425 != t406) = false := bne_eq_false_iff_eq.mpr c185
                clear c185
                obtain rfl := Option.some.inj H
                have hnb186 := NB395_362.out
                have hnc186 := NB362_395.out
                have hnb187 := NB395_363.out
                have hnc187 := NB363_395.out
                have hnb188 := NB395_379.out
                have hnc188 := NB379_395.out
                have hnb189 := NB395_385.out
                have hnc189 := NB385_395.out
                have hnb190 := NB395_423.out
                have hnc190 := NB423_395.out
                have hcz191_0 : wc.cell? ⟨gb395, 0, none⟩ = some (.int .i64 t389) := (blk_cell BK395.out 0).trans rfl
                have hcz191_1 : wc.cell? ⟨gb395, 1, none⟩ = some (.int .i64 t390) := (blk_cell BK395.out 1).trans rfl
                have hcz191_2 : wc.cell? ⟨gb395, 2, none⟩ = some (.slice Ao50 t407.length co50) := (blk_cell BK395.out 2).trans rfl
                have hfz191_0 := blk_frozen BK395.out 0
                have hfz191_1 := blk_frozen BK395.out 1
                have hfz191_2 := blk_frozen BK395.out 2
                go_wp2_with (first | ((with_reducible refine gate_callee (f := 13) rfl ?_); refine goesL_ (some 98) rfl rfl Try.func13 (by kernel_rfl) rfl #[.agg #[.int .i64 t389, .int .i64 t390, .slice Ao50 t407.length co50], .int .i64 1] rfl (by (try simp only [List.map_toArray, List.map_cons, List.map_nil]); first | done | rfl | (simp only [List.length_drop, List.length_take]; rfl)) ?_; (with_reducible refine (laws_heldPuzzle.calls kj128 t389 t390 _ _ t407 1 t425 _ ?side1 ?side2 A176.out).mono ?_); (case side1 => repeat (first | exact (Kd.R_reads' HO_396002.out).2.2 | (with_reducible refine Kd.C_alloc ?_ _) | (with_reducible refine Kd.C_drewN ?_ _) | (with_reducible refine Kd.C_drew ?_))); (case side2 => exact (Kd.R_reads' HO_396002.out).2.1); rintro e w192 ⟨rfl, hb⟩; refine ⟨_, rfl, ?_⟩; have n0_ := amk (Kd.R_below (by (with_reducible repeat (first | apply Kd.R_alloc | apply Kd.R_drewN | apply Kd.R_drew)); exact HO_380002.out) hb); have n1_ := amk (Kd.R_below (by (with_reducible repeat (first | apply Kd.R_alloc | apply Kd.R_drewN | apply Kd.R_drew)); exact HO_386002.out) hb); have n2_ := amk (Kd.R_below (by (with_reducible repeat (first | apply Kd.R_alloc | apply Kd.R_drewN | apply Kd.R_drew)); exact HO_396002.out) hb); have n3_ := amk (Kd.R_below (by (with_reducible repeat (first | apply Kd.R_alloc | apply Kd.R_drewN | apply Kd.R_drew)); exact HO_424002.out) hb); have n4_ := amk (blk_below (g := gb362) (o := .cells #[.int .i64 a0_0, .int .i64 a0_1, .slice A0_2 l0_2.length c0_2] 26 (0, 0)) (by (with_reducible repeat (first | refine kn_ ?_ _ | refine blk_drew ?_ | refine ka_ ?_ _)); exact BK362.out) hb); have n5_ := amk (blk_below (g := gb363) (o := .cells #[.int .i64 a1_0, .int .i64 a1_1, .int .i64 a1_2] 28 (0, 0)) (by (with_reducible repeat (first | refine kn_ ?_ _ | refine blk_drew ?_ | refine ka_ ?_ _)); exact BK363.out) hb); have n6_ := amk (blk_below (g := gb379) (o := .cells #[.int .i64 t373, .int .i64 t374, .slice Ao31 t375.length co31] 33 (0, 0)) (by (with_reducible repeat (first | refine kn_ ?_ _ | refine blk_drew ?_ | refine ka_ ?_ _)); exact BK379.out) hb); have n7_ := amk (blk_below (g := gb385) (o := .cells #[.int .i64 t380, .int .i64 t381, .slice Ao41 t404.length co41] 33 (0, 0)) (by (with_reducible repeat (first | refine kn_ ?_ _ | refine blk_drew ?_ | refine ka_ ?_ _)); exact BK385.out) hb); have n8_ := amk (blk_below (g := gb395) (o := .cells #[.int .i64 t389, .int .i64 t390, .slice Ao50 t407.length co50] 33 (0, 0)) (by (with_reducible repeat (first | refine kn_ ?_ _ | refine blk_drew ?_ | refine ka_ ?_ _)); exact BK395.out) hb); have n9_ := amk (blk_below (g := gb423) (o := .cells #[.int .i64 t417, .int .i64 t418, .slice Ao147 t419.length co147] 33 (0, 0)) (by (with_reducible repeat (first | refine kn_ ?_ _ | refine blk_drew ?_ | refine ka_ ?_ _)); exact BK423.out) hb); have n10_ := amk (bp_ (by repeat (first | (with_reducible first | exact HB.out | apply ba_ | apply bn_ | apply bd_ | refine bs_ ?_ GE362.out | refine bs_ ?_ GE363.out | refine bs_ ?_ GE379.out | refine bs_ ?_ GE385.out | refine bs_ ?_ GE395.out | refine bs_ ?_ GE423.out) | exact HB.out)) hb); clear HO_380002; clear HO_386002; clear HO_396002; clear HO_424002; clear BK362; clear BK363; clear BK379; clear BK385; clear BK395; clear BK423; clear HB; have HO_380002 := n0_; have HO_386002 := n1_; have HO_396002 := n2_; have HO_424002 := n3_; have BK362 := n4_; have BK363 := n5_; have BK379 := n6_; have BK385 := n7_; have BK395 := n8_; have BK423 := n9_; have HB := n10_; clear n0_ n1_ n2_ n3_ n4_ n5_ n6_ n7_ n8_ n9_ n10_; (try clear hb); (try clear hb2); (try clear hk); (try clear hi)))
                go_ret
                exact ⟨by first | rfl | (simp [errW_none, errW_some] <;> rfl) | (simp [*, errW_none, errW_some] <;> rfl), by repeat (first | (with_reducible first | exact HB.out | apply ba_ | apply bn_ | apply bd_ | refine bs_ ?_ GE362.out | refine bs_ ?_ GE363.out | refine bs_ ?_ GE379.out | refine bs_ ?_ GE385.out | refine bs_ ?_ GE395.out | refine bs_ ?_ GE423.out) | exact HB.out)⟩
               · rw [if_neg c185] at H
                cases H
          · rw [if_neg c125] at H
           cases H
     · replace c77 := Bool.eq_false_iff.mpr c77
      subst c77
      have H1 : (none) = some r := by rw [if_neg (show ¬ (false = true) by decide)] at H; exact H
      cases H1
/-! spec's functions on locks and clues: what they come to. -/
theorem spec_l1In.is (a b c : Int) : spec_l1In.f a b c = some (decide (b ≤ a ∧ a ≤ c)) := by
  unfold spec_l1In.f
  by_cases h : a ≥ b
  · rw [if_pos h]; have h' : b ≤ a := h; congr 1; simp [h']
  · rw [if_neg h]; have h' : ¬ b ≤ a := h; congr 1; simp [h']
theorem spec_whGood.is (w d : Int) : spec_whGood.f w d = some (lockB w d) := by
  unfold spec_whGood.f lockB
  simp only [spec_l1In.is, Option.bind_some]
  by_cases h : 1 ≤ w ∧ w ≤ 6 <;> simp [h]
theorem spec_whCount.lev (w d : Int) (h1 : 1 ≤ d) (h2 : d ≤ 10) (hn : w ≤ 6) : ∀ (j : Nat) (i : Int), 0 ≤ i → i ≤ w → i = j → Ev (fun k => spec_whCount.l0 k (d ^ (w - i).toNat) i w d) (d ^ w.toNat) := by
  intro j
  induction j with
  | zero =>
    intro i h0 hi hj
    obtain rfl : i = 0 := by omega
    exact Ev.step (fun k => rfl) (Ev.no (by omega) (Ev.id (by simp)))
  | succ j ih =>
    intro i h0 hi hj
    refine Ev.step (fun k => rfl) (Ev.yes (by omega) ?_)
    have hb := pow_bound h1 h2 (n := (w - i).toNat) (by omega)
    have hm : d ^ (w - i).toNat * d = d ^ (w - (i - 1)).toNat := by rw [show (w - (i - 1)).toNat = (w - i).toNat + 1 by omega, Int.pow_succ]
    have hb' := pow_bound h1 h2 (n := (w - (i - 1)).toNat) (by omega)
    rw [w64 (x := i - 1) (by omega) (by omega), hm, w64 (x := d ^ (w - (i - 1)).toNat) (by omega) (by omega)]
    exact ih (i - 1) (by omega) (by omega) (by omega)
theorem spec_whCount.ev {w d : Int} (h : lockB w d = true) : Ev (fun k => spec_whCount.f k w d) (d ^ w.toNat) := by
  obtain ⟨a, b, c, e⟩ := lockB_iff.mp h
  have := spec_whCount.lev w d (by omega) e b w.toNat w (by omega) (by omega) (by omega)
  unfold spec_whCount.f
  simpa using this
/-! spec's locks of hints: what they come to. -/
theorem spec_hiLock.ev (w d m : Int) : Ev (fun k => spec_hiLock.f k w d m) (smallB w d m) := by
  unfold spec_hiLock.f smallB
  refine Ev.bindc (spec_whGood.is w d) ?_
  cases h : lockB w d with
  | true => exact Ev.yes rfl (Ev.bind (spec_whCount.ev h) (Ev.id (by simp)))
  | false => exact Ev.no (by simp) (Ev.id (by simp))
/-! spec's clues: what they come to. -/
theorem spec_pzLock.ev (w d : Int) : Ev (fun k => spec_pzLock.f k w d) (smallB w d 125) := by
  unfold spec_pzLock.f
  exact Ev.bind (spec_hiLock.ev w d 125) (Ev.now _)
theorem spec_pzClue.ev (w d a b c : Int) (hl : lockB w d = true) : Ev (fun k => spec_pzClue.f k w d a b c) (clueB w d a b c) := by
  unfold spec_pzClue.f clueB
  obtain ⟨w1, w2, d1, d2⟩ := lockB_iff.mp hl
  have hc := count_bound hl
  simp only [spec_l1In.is, Option.bind_some, w64 (x := w - 1) (by omega) (by omega), w64 (x := d - 1) (by omega) (by omega)]
  refine Ev.both (fun e => ?_) (fun e => ?_)
  · rw [if_pos e]
    exact Ev.both (fun h => Ev.id (by simp [of_decide_eq_true h])) (fun h => Ev.id (by have := decide_eq_false_iff_not.mp (Bool.eq_false_iff.mpr h); simp [this]))
  rw [if_neg e]
  refine Ev.both (fun e => ?_) (fun e => ?_)
  · rw [if_pos e]
    exact Ev.both (fun h => Ev.id (by simp [of_decide_eq_true h])) (fun h => Ev.id (by have := decide_eq_false_iff_not.mp (Bool.eq_false_iff.mpr h); simp [this]))
  rw [if_neg e]
  refine Ev.both (fun e => ?_) (fun e => ?_)
  · rw [if_pos e]
    refine Ev.bind (spec_whCount.ev hl) ?_
    rw [w64 (x := d ^ w.toNat - 1) (by omega) (by omega)]
    exact Ev.both (fun h => Ev.id (by simp [of_decide_eq_true h])) (fun h => Ev.id (by have := decide_eq_false_iff_not.mp (Bool.eq_false_iff.mpr h); simp [this]))
  rw [if_neg e]
  refine Ev.both (fun e => ?_) (fun e => ?_)
  · rw [if_pos e]
    refine Ev.bind (spec_whCount.ev hl) ?_
    rw [w64 (x := d ^ w.toNat - 1) (by omega) (by omega)]
    exact Ev.both (fun h => Ev.id (by simp [of_decide_eq_true h])) (fun h => Ev.id (by have := decide_eq_false_iff_not.mp (Bool.eq_false_iff.mpr h); simp [this]))
  rw [if_neg e]
  refine Ev.both (fun e => ?_) (fun e => ?_)
  · rw [if_pos e]
    refine Ev.both (fun h => ?_) (fun h => Ev.id (by have := decide_eq_false_iff_not.mp (Bool.eq_false_iff.mpr h); simp [this]))
    have h' := of_decide_eq_true h
    rw [w64 (x := b - 1) (by omega) (by omega)]
    exact Ev.id (by simp [h'])
  rw [if_neg e]
  exact Ev.id (by simp)
/-! Numbers told by digits. -/
/-! The places and the digits that two codes share. -/
def plN (s t : ByteArray) : Nat → Int
  | 0 => 0
  | i + 1 => plN s t i + if bt s i = bt t i then 1 else 0
def ctN (s : ByteArray) (d : Int) : Nat → Int
  | 0 => 0
  | i + 1 => ctN s d i + if bt s i = d then 1 else 0
def lst (a b : Int) : Int := if a < b then a else b
def cmN (s t : ByteArray) (n : Nat) : Nat → Int
  | 0 => 0
  | m + 1 => cmN s t n m + lst (ctN s (48 + m) n) (ctN t (48 + m) n)
/-! Plain laws on lists: filling one in place, reading. -/
theorem fill_step {α β : Type} (f : α → β) (l : List α) (z : β) (i : Nat) (hi : i < l.length) :
    ((l.take i).map f ++ List.replicate (l.length - i) z).set i (f l[i]) = (l.take (i + 1)).map f ++ List.replicate (l.length - (i + 1)) z := by
  have h1 : ((l.take i).map f).length = i := by rw [List.length_map, List.length_take]; omega
  rw [List.set_append_right _ _ (by omega), h1, Nat.sub_self]
  obtain ⟨m, hm⟩ : ∃ m, l.length - i = m + 1 := ⟨l.length - i - 1, by omega⟩
  rw [hm, List.replicate_succ, List.set_cons_zero, show l.length - (i + 1) = m by omega, List.take_succ_eq_append_getElem hi, List.map_append]
  simp
theorem getD_at {α : Type} {d : α} {xs : List α} {i : Nat} (h : i < xs.length) : xs.getD i d = xs[i] := by simp [List.getD, h]
theorem toNat_succ {i : Int} (h : 0 ≤ i) : (i + 1).toNat = i.toNat + 1 := by omega
/-! Codes of a lock as texts, their digits, what clues tell of them. -/
/-! The statements' own helpers on clues and puzzles: what they come to. -/
def clueOf (x : S28) : S37 := ⟨x.f0, x.f1, x.f2⟩
theorem laws_szClueS.is (l : List S28) (a : Int) (h0 : 0 ≤ a) (h1 : a ≤ 1048576) (hl : l.length ≤ 9223372036854775807) : laws_szClueS.f l a = some (if (l.length : Int) ≤ a then a - l.length else -1) := by
  unfold laws_szClueS.f
  rw [w64 (x := a - (l.length : Int)) (by omega) (by omega)]
  by_cases h : (l.length : Int) ≤ a
  · rw [if_neg (by omega), if_pos h]
  · rw [if_pos (by omega), if_neg h]
theorem laws_szPuzzle.is (w d : Int) (l : List S28) (hl : l.length ≤ 9223372036854775807) : laws_szPuzzle.f w d l 1048576 = some (if (l.length : Int) ≤ 1048576 then (1048576 : Int) - (l.length : Int) else (-1 : Int)) := by
  unfold laws_szPuzzle.f
  rw [laws_szClueS.is l 1048576 (by omega) (by omega) hl]
  simp only [Option.bind_some]
  by_cases h : (l.length : Int) ≤ 1048576
  · rw [if_pos h, if_neg (by omega)]
  · rw [if_neg h, if_pos (by omega)]
theorem rd_laws_clue {xs : List S28} {i : Int} (h : i.toNat < xs.length) : rd_T28 xs i = xs[i.toNat] := by unfold rd_T28; exact getD_at h
theorem rd_clue {xs : List S37} {i : Int} (h : i.toNat < xs.length) : rd_T37 xs i = xs[i.toNat] := by unfold rd_T37; exact getD_at h
theorem laws_toClueS.lev (l : List S28) (hl : l.length ≤ 1048576) : ∀ (j : Nat) (i : Int), 0 ≤ i → i ≤ l.length → (l.length : Int) - i = j →
    Ev (fun k => laws_toClueS.l0 k l ((l.take i.toNat).map clueOf ++ List.replicate (l.length - i.toNat) z37) i) (l.map clueOf) := by
  intro j
  induction j with
  | zero =>
    intro i h0 hi hj
    obtain rfl : i = (l.length : Int) := by omega
    exact Ev.step (fun k => rfl) (Ev.no (by omega) (Ev.id (by simp)))
  | succ j ih =>
    intro i h0 hi hj
    have hlt : i.toNat < l.length := by omega
    refine Ev.step (fun k => rfl) (Ev.yes (by omega) (Ev.yes h0 ?_))
    simp only [laws_toClue.f, Option.bind_some, rd_laws_clue hlt]
    refine Ev.yes (by simp; omega) ?_
    have := fill_step clueOf l z37 i.toNat hlt
    unfold clueOf at this ⊢
    rw [this, w64 (x := i + 1) (by omega) (by omega), ← toNat_succ h0]
    exact ih (i + 1) (by omega) (by omega) (by omega)
theorem laws_toClueS.ev (l : List S28) (hl : l.length ≤ 1048576) : Ev (fun k => laws_toClueS.f k l) (l.map clueOf) := by
  unfold laws_toClueS.f
  refine Ev.yes (by omega) (Ev.yes (by omega) ?_)
  have := laws_toClueS.lev l hl l.length 0 (by omega) (by omega) (by omega)
  simpa using this
theorem laws_toPuzzle.ev (w d : Int) (l : List S28) (hl : l.length ≤ 1048576) : Ev (fun k => laws_toPuzzle.f k w d l) (w, d, l.map clueOf) := by
  unfold laws_toPuzzle.f
  simp only [laws_toLock.f, Option.bind_some]
  exact Ev.bind (laws_toClueS.ev l hl) (Ev.now _)
theorem laws_eqClueS.lev (l : List S37) (hl : l.length ≤ 9223372036854775807) : ∀ (j : Nat) (i : Int), 0 ≤ i → i ≤ l.length → (l.length : Int) - i = j → Ev (fun k => laws_eqClueS.l0 k l l i) true := by
  intro j
  induction j with
  | zero =>
    intro i h0 hi hj
    exact Ev.step (fun k => rfl) (Ev.no (by omega) (Ev.now _))
  | succ j ih =>
    intro i h0 hi hj
    refine Ev.step (fun k => rfl) (Ev.yes (by omega) (Ev.yes h0 (Ev.yes (by omega) ?_)))
    simp only [laws_eqClue.f, if_true, Option.bind_some]
    rw [w64 (x := i + 1) (by omega) (by omega)]
    exact ih (i + 1) (by omega) (by omega) (by omega)
theorem laws_eqClueS.ev (l : List S37) (hl : l.length ≤ 9223372036854775807) : Ev (fun k => laws_eqClueS.f k l l) true := by
  unfold laws_eqClueS.f
  exact Ev.yes rfl (laws_eqClueS.lev l hl l.length 0 (by omega) (by omega) (by omega))
theorem laws_eqPuzzle.ev (w d : Int) (l : List S37) (hl : l.length ≤ 9223372036854775807) : Ev (fun k => laws_eqPuzzle.f k w d l w d l) true := by
  unfold laws_eqPuzzle.f
  simp only [laws_eqLock.f, if_true, Option.bind_some]
  exact Ev.bind (laws_eqClueS.ev l hl) (Ev.yes rfl (Ev.now _))
/-! ### impl_digits: function 53 -/
/-! ### impl_Lock_number: function 57 -/
/-! ### impl_around: function 79 -/
/-! ### impl_Lock_gap: function 75 -/
/-! ### impl_Lock_near: function 70 -/
/-! ### impl_Lock_distance: function 56 -/
/-! Behind a row's end: what is stored there turns nothing of the row; 'clear' at one element of several cells. -/
/-! ### impl_text: function 69 -/
/-! Digits of texts, texts of digits: what they come to. -/
/-! impl's code of a number, by hand. -/
section
/-! impl.hint, by hand: it counts in an array of ten. -/
attribute [local irreducible] plN ctN cmN
end
/-! ### impl_Lock_told: function 40 -/
/-! ### spec_whDigits: function 63 -/
/-! ### spec_l1Least: function 72 -/
/-! ### spec_l1Mod: function 78 -/
/-! ### spec_whFar: function 74 -/
/-! ### spec_whDistance: function 66 -/
/-! ### spec_whNumber: function 67 -/
/-! ### spec_l1Num: function 77 -/
/-! ### spec_whText: function 73 -/
/-! ### spec_whOf: function 65 -/
/-! spec.hiOf, by hand: it ranges over texts. -/
/-! ### spec_pzValue: function 48 -/
/-! What clues tell of codes: impl's and spec's agree. -/
/-! Texts of digits: their sizes. -/
/-! spec's numbers of one digit. -/
/-! spec's texts of codes, distances: what they come to. -/
/-! (impl.Lock).fit, by hand: it asks its clues through slices.ContainsFunc and a closure. -/
/-! ### impl_Lock_solutions: function 60 -/
/-! ### impl_Solutions: function 42 -/
/-! ### spec_hiAll: function 58 -/
/-! ### spec_pzFits: function 59 -/
/-! ### spec_pzAll: function 41 -/
/-! Whether codes fit clues; all solutions: what both sides come to. -/
theorem puzzleB_parts {w d : Int} {l : List S37} (h : puzzleB w d l = true) : lockB w d = true ∧ l.length ≤ 6 ∧ ∀ c ∈ l, clueB w d c.f0 c.f1 c.f2 = true := by
  unfold puzzleB at h
  rw [Bool.and_eq_true, Bool.and_eq_true] at h
  exact ⟨smallB_lock h.1.1, of_decide_eq_true h.1.2, fun c hc => List.all_eq_true.mp h.2 c hc⟩
end Go.Proofs.Ytlmfiaopgndbcaa.P