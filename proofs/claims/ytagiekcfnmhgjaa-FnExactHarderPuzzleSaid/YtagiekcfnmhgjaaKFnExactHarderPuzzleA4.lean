import Derived.Test.YtagiekcfnmhgjaaKFnExactHarderPuzzleA0
import Derived.Test.YtagiekcfnmhgjaaKFnExactHarderPuzzleA1
import Derived.Test.YtagiekcfnmhgjaaKFnExactHarderPuzzleA2
import Derived.Test.YtagiekcfnmhgjaaKFnExactHarderPuzzleA3
import Derived.ProofKit
import Derived.Lib.SmallJoins
import Derived.Deep.Slices
namespace Go.Proofs.Ytagiekcfnmhgjaa.P
open Go.RowKit Go.Proofs.YtagiekcfnmhgjaaW.PrintWords Go.Proofs.YtagiekcfnmhgjaaW.PrintLast Go.Proofs.YtagiekcfnmhgjaaW.PrintMore
attribute [local go_sem] max2_int min2_int max_two min_two max_three min_three max_four min_four
set_option linter.unusedVariables false
set_option linter.unusedSimpArgs false
/-! ### laws_FnExactHarderPuzzle: function 13 -/
mutual
def laws_FnExactHarderPuzzle.j0 : Nat → Bool → Bool → Bool → Int → Int → List (S25) → Int → Int → List (S30) → Int → Int → List (S30) → Int → Int → List (S30) → Option (Bool)
  | 0, _, _, _, _, _, _, _, _, _, _, _, _, _, _, _ => none
  | k + 1, x5, x8, x40, x845000, x845001, x845002, x858000, x858001, x858002, x864000, x864001, x864002, x871000, x871001, x871002 => if x40 = true then (some false) else ((laws_toPuzzle.f k x845000 x845001 x845002).bind fun bt872 => ((laws_eqPuzzle.f k x864000 x864001 x864002 bt872.1 bt872.2.1 bt872.2.2).bind fun t877 => (if t877 = true then ((laws_markPuzzle.f k x864000 x864001 x864002 1).bind fun bt878 => (if bt878.1 < 0 then (laws_FnExactHarderPuzzle.j1 k x5 true x845000 x845001 x845002 x858000 x858001 x858002 x871000 x871001 x871002) else ((laws_eqPuzzle.f k x871000 x871001 x871002 x858000 x858001 x858002).bind fun t880 => (if t880 = true then (laws_FnExactHarderPuzzle.j1 k x5 (x8 != x5) x845000 x845001 x845002 x858000 x858001 x858002 x871000 x871001 x871002) else (laws_FnExactHarderPuzzle.j1 k x5 true x845000 x845001 x845002 x858000 x858001 x858002 x871000 x871001 x871002))))) else (some false))))
def laws_FnExactHarderPuzzle.j1 : Nat → Bool → Bool → Int → Int → List (S25) → Int → Int → List (S30) → Int → Int → List (S30) → Option (Bool)
  | 0, _, _, _, _, _, _, _, _, _, _, _ => none
  | k + 1, x5, x61, x845000, x845001, x845002, x858000, x858001, x858002, x871000, x871001, x871002 => if x61 = true then (some false) else ((laws_markPuzzle.f k x871000 x871001 x871002 1).bind fun bt881 => ((laws_heldPuzzle.f k x871000 x871001 bt881.2 1).bind fun t883 => (if t883 < 0 then (some false) else (if t883 = bt881.1 then ((laws_toPuzzle.f k x845000 x845001 x845002).bind fun bt884 => ((impl_HarderPuzzle.f k bt884.1 bt884.2.1 bt884.2.2).bind fun bt889 => ((laws_eqPuzzle.f k bt889.1 bt889.2.1 bt889.2.2.1 x858000 x858001 x858002).bind fun t896 => (if t896 = true then (laws_FnExactHarderPuzzle.j2 k bt881.1 (bt889.2.2.2 != x5) x871000 x871001 bt881.2) else (laws_FnExactHarderPuzzle.j2 k bt881.1 true x871000 x871001 bt881.2))))) else (some false)))))
def laws_FnExactHarderPuzzle.j2 : Nat → Int → Bool → Int → Int → List (S30) → Option (Bool)
  | 0, _, _, _, _, _ => none
  | k + 1, x10, x87, x871000, x871001, x871002 => if x87 = true then (some false) else ((laws_heldPuzzle.f k x871000 x871001 x871002 1).bind fun t897 => (if t897 < 0 then (some false) else (if t897 = x10 then (some true) else (some false))))
end
def laws_FnExactHarderPuzzle.f (k : Nat) (a0_0 : Int) (a0_1 : Int) (l0_2 : List (S25)) : Option (Bool) := (laws_szPuzzle.f a0_0 a0_1 l0_2 1048576).bind fun t845 => (if t845 < 0 then (some true) else ((laws_toPuzzle.f k a0_0 a0_1 l0_2).bind fun bt846 => ((spec_HarderPuzzle.f k bt846.1 bt846.2.1 bt846.2.2).bind fun bt851 => ((laws_toPuzzle.f k a0_0 a0_1 l0_2).bind fun bt858 => ((impl_HarderPuzzle.f k bt858.1 bt858.2.1 bt858.2.2).bind fun bt864 => ((laws_eqPuzzle.f k bt864.1 bt864.2.1 bt864.2.2.1 bt851.1 bt851.2.1 bt851.2.2.1).bind fun t871 => (if t871 = true then (laws_FnExactHarderPuzzle.j0 k bt851.2.2.2 bt864.2.2.2 (bt864.2.2.2 != bt851.2.2.2) a0_0 a0_1 l0_2 bt851.1 bt851.2.1 bt851.2.2.1 bt858.1 bt858.2.1 bt858.2.2 bt864.1 bt864.2.1 bt864.2.2.1) else (laws_FnExactHarderPuzzle.j0 k bt851.2.2.2 bt864.2.2.2 true a0_0 a0_1 l0_2 bt851.1 bt851.2.1 bt851.2.2.1 bt858.1 bt858.2.1 bt858.2.2 bt864.1 bt864.2.1 bt864.2.2.1))))))))
set_option maxHeartbeats 8000000 in
set_option maxRecDepth 100000 in
theorem laws_FnExactHarderPuzzle.calls (k : Nat) (a0_0 : Int) (a0_1 : Int) (A0_2 : Option Addr) (c0_2 : Nat) (l0_2 : List (S25)) (r : Bool) (w : World) (hr0_2 : Kd.C k25 w A0_2 l0_2.length l0_2) (hc0_2 : l0_2.length ≤ c0_2) (h : laws_FnExactHarderPuzzle.f k a0_0 a0_1 l0_2 = some r) :
    Calls Try.prog 13 #[.agg #[.int .i64 a0_0, .int .i64 a0_1, .slice A0_2 l0_2.length c0_2]] w fun e w' => e = .returned (.bool r) ∧ Below w.heap.size w w' := by
  have hu43 := Try.underlying43
  have hu35 := Try.underlying35
  have HR0_2 := amk hr0_2
  have HC0_2 := amk hc0_2
  clear hr0_2 hc0_2
  have HB := amk (Below.refl w.heap.size w)
  have H : ((laws_szPuzzle.f a0_0 a0_1 l0_2 1048576).bind fun t845 => (if t845 < 0 then (some true) else ((laws_toPuzzle.f k a0_0 a0_1 l0_2).bind fun bt846 => ((spec_HarderPuzzle.f k bt846.1 bt846.2.1 bt846.2.2).bind fun bt851 => ((laws_toPuzzle.f k a0_0 a0_1 l0_2).bind fun bt858 => ((impl_HarderPuzzle.f k bt858.1 bt858.2.1 bt858.2.2).bind fun bt864 => ((laws_eqPuzzle.f k bt864.1 bt864.2.1 bt864.2.2.1 bt851.1 bt851.2.1 bt851.2.2.1).bind fun t871 => (if t871 = true then (laws_FnExactHarderPuzzle.j0 k bt851.2.2.2 bt864.2.2.2 (bt864.2.2.2 != bt851.2.2.2) a0_0 a0_1 l0_2 bt851.1 bt851.2.1 bt851.2.2.1 bt858.1 bt858.2.1 bt858.2.2 bt864.1 bt864.2.1 bt864.2.2.1) else (laws_FnExactHarderPuzzle.j0 k bt851.2.2.2 bt864.2.2.2 true a0_0 a0_1 l0_2 bt851.1 bt851.2.1 bt851.2.2.1 bt858.1 bt858.2.1 bt858.2.2 bt864.1 bt864.2.1 bt864.2.2.1))))))))) = some r := h
  clear h
  replace H := Option.bind_eq_some_iff.mp H
  obtain ⟨t845, A20, H⟩ := H
  replace H : (if t845 < 0 then (some true) else ((laws_toPuzzle.f k a0_0 a0_1 l0_2).bind fun bt846 => ((spec_HarderPuzzle.f k bt846.1 bt846.2.1 bt846.2.2).bind fun bt851 => ((laws_toPuzzle.f k a0_0 a0_1 l0_2).bind fun bt858 => ((impl_HarderPuzzle.f k bt858.1 bt858.2.1 bt858.2.2).bind fun bt864 => ((laws_eqPuzzle.f k bt864.1 bt864.2.1 bt864.2.2.1 bt851.1 bt851.2.1 bt851.2.2.1).bind fun t871 => (if t871 = true then (laws_FnExactHarderPuzzle.j0 k bt851.2.2.2 bt864.2.2.2 (bt864.2.2.2 != bt851.2.2.2) a0_0 a0_1 l0_2 bt851.1 bt851.2.1 bt851.2.2.1 bt858.1 bt858.2.1 bt858.2.2 bt864.1 bt864.2.1 bt864.2.2.1) else (laws_FnExactHarderPuzzle.j0 k bt851.2.2.2 bt864.2.2.2 true a0_0 a0_1 l0_2 bt851.1 bt851.2.1 bt851.2.2.1 bt858.1 bt858.2.1 bt858.2.2 bt864.1 bt864.2.1 bt864.2.2.1)))))))) = some r := H
  have A2 := amk A20
  clear A20
  by_cases c3 : t845 < 0
  · rw [if_pos c3] at H
    have c3b0 : decide (t845 < 0) = true := decide_eq_true c3
    clear c3
    obtain rfl := Option.some.inj H
    go_enter Try.func13, Try.ntmps13
    go_wp2_with (first | ((with_reducible refine gate_dst (N := 1) rfl ?_); refine box_event ?hg (N := 1) ?hd (cs := #[.int .i64 a0_0, .int .i64 a0_1, .slice A0_2 l0_2.length c0_2]) (t := 43) ?hr ?_; (case hd => rfl); (case hg => rfl); (case hr => first | (go_simp; done) | (go_simp; rfl)); intro gb844 hg w4 hbox hb; have n0_ := amk (bp_ (by repeat (first | (with_reducible first | exact HB.out | apply ba_ | apply bn_ | apply bd_) | exact HB.out)) hb); have n1_ := amk (hbox); have n2_ := amk ((by rw [hg]; exact (below_size (by repeat (first | (with_reducible first | exact HB.out | apply ba_ | apply bn_ | apply bd_) | exact HB.out))) : w.heap.size ≤ gb844)); have n3_ := amk ((by rw [hg]; exact (below_size (by repeat (first | (with_reducible first | exact HB.out | apply ba_ | apply bn_ | apply bd_) | exact HB.out))) : w.heap.size ≤ gb844)); clear HB; have HB := n0_; have BK844 := n1_; have GW844 := n2_; have GE844 := n3_; clear n0_ n1_ n2_ n3_; clear hb hbox hg; have hcz5_0 : w4.cell? ⟨gb844, 0, none⟩ = some (.int .i64 a0_0) := (blk_cell BK844.out 0).trans rfl; have hcz5_1 : w4.cell? ⟨gb844, 1, none⟩ = some (.int .i64 a0_1) := (blk_cell BK844.out 1).trans rfl; have hcz5_2 : w4.cell? ⟨gb844, 2, none⟩ = some (.slice A0_2 l0_2.length c0_2) := (blk_cell BK844.out 2).trans rfl; have hfz5_0 := blk_frozen BK844.out 0; have hfz5_1 := blk_frozen BK844.out 1; have hfz5_2 := blk_frozen BK844.out 2) | ((with_reducible refine gate_callee (f := 23) rfl ?_); refine goesL_ (some 16) rfl rfl Try.func23 (by kernel_rfl) rfl #[.agg #[.int .i64 a0_0, .int .i64 a0_1, .slice A0_2 l0_2.length c0_2], .int .i64 1048576] rfl (by (try simp only [List.map_toArray, List.map_cons, List.map_nil]); first | done | rfl | (simp only [List.length_drop, List.length_take]; rfl)) ?_; (with_reducible refine (laws_szPuzzle.calls a0_0 a0_1 _ _ l0_2 1048576 t845 _ ?side1 ?side2 A2.out).mono ?_); (case side1 => repeat (first | exact (Kd.C_below HR0_2.out HB.out) | (with_reducible refine Kd.C_alloc ?_ _) | (with_reducible refine Kd.C_drewN ?_ _) | (with_reducible refine Kd.C_drew ?_))); (case side2 => exact HC0_2.out); rintro e w6 ⟨rfl, hb⟩; refine ⟨_, rfl, ?_⟩; have n0_ := amk (blk_below (g := gb844) (o := .cells #[.int .i64 a0_0, .int .i64 a0_1, .slice A0_2 l0_2.length c0_2] 43 (0, 0)) (by (with_reducible repeat (first | refine kn_ ?_ _ | refine blk_drew ?_ | refine ka_ ?_ _)); exact BK844.out) hb); have n1_ := amk (bp_ (by repeat (first | (with_reducible first | exact HB.out | apply ba_ | apply bn_ | apply bd_ | refine bs_ ?_ GE844.out) | exact HB.out)) hb); clear BK844; clear HB; have BK844 := n0_; have HB := n1_; clear n0_ n1_; (try clear hb); (try clear hb2); (try clear hk); (try clear hi)))
    go_ret
    exact ⟨by first | rfl | (simp [errW_none, errW_some] <;> rfl) | (simp [*, errW_none, errW_some] <;> rfl), by repeat (first | (with_reducible first | exact HB.out | apply ba_ | apply bn_ | apply bd_ | refine bs_ ?_ GE844.out) | exact HB.out)⟩
  · rw [if_neg c3] at H
    have c3b0 : decide (t845 < 0) = false := decide_eq_false c3
    clear c3
    replace H := Option.bind_eq_some_iff.mp H
    obtain ⟨⟨t846, t847, t848⟩, A70, H⟩ := H
    replace H : ((spec_HarderPuzzle.f k t846 t847 t848).bind fun bt851 => ((laws_toPuzzle.f k a0_0 a0_1 l0_2).bind fun bt858 => ((impl_HarderPuzzle.f k bt858.1 bt858.2.1 bt858.2.2).bind fun bt864 => ((laws_eqPuzzle.f k bt864.1 bt864.2.1 bt864.2.2.1 bt851.1 bt851.2.1 bt851.2.2.1).bind fun t871 => (if t871 = true then (laws_FnExactHarderPuzzle.j0 k bt851.2.2.2 bt864.2.2.2 (bt864.2.2.2 != bt851.2.2.2) a0_0 a0_1 l0_2 bt851.1 bt851.2.1 bt851.2.2.1 bt858.1 bt858.2.1 bt858.2.2 bt864.1 bt864.2.1 bt864.2.2.1) else (laws_FnExactHarderPuzzle.j0 k bt851.2.2.2 bt864.2.2.2 true a0_0 a0_1 l0_2 bt851.1 bt851.2.1 bt851.2.2.1 bt858.1 bt858.2.1 bt858.2.2 bt864.1 bt864.2.1 bt864.2.2.1)))))) = some r := H
    have A7 := amk A70
    clear A70
    replace H := Option.bind_eq_some_iff.mp H
    obtain ⟨⟨t851, t852, t853, t856⟩, A80, H⟩ := H
    replace H : ((laws_toPuzzle.f k a0_0 a0_1 l0_2).bind fun bt858 => ((impl_HarderPuzzle.f k bt858.1 bt858.2.1 bt858.2.2).bind fun bt864 => ((laws_eqPuzzle.f k bt864.1 bt864.2.1 bt864.2.2.1 t851 t852 t853).bind fun t871 => (if t871 = true then (laws_FnExactHarderPuzzle.j0 k t856 bt864.2.2.2 (bt864.2.2.2 != t856) a0_0 a0_1 l0_2 t851 t852 t853 bt858.1 bt858.2.1 bt858.2.2 bt864.1 bt864.2.1 bt864.2.2.1) else (laws_FnExactHarderPuzzle.j0 k t856 bt864.2.2.2 true a0_0 a0_1 l0_2 t851 t852 t853 bt858.1 bt858.2.1 bt858.2.2 bt864.1 bt864.2.1 bt864.2.2.1))))) = some r := H
    have A8 := amk A80
    clear A80
    replace H := Option.bind_eq_some_iff.mp H
    obtain ⟨⟨t858, t859, t860⟩, A90, H⟩ := H
    replace H : ((impl_HarderPuzzle.f k t858 t859 t860).bind fun bt864 => ((laws_eqPuzzle.f k bt864.1 bt864.2.1 bt864.2.2.1 t851 t852 t853).bind fun t871 => (if t871 = true then (laws_FnExactHarderPuzzle.j0 k t856 bt864.2.2.2 (bt864.2.2.2 != t856) a0_0 a0_1 l0_2 t851 t852 t853 t858 t859 t860 bt864.1 bt864.2.1 bt864.2.2.1) else (laws_FnExactHarderPuzzle.j0 k t856 bt864.2.2.2 true a0_0 a0_1 l0_2 t851 t852 t853 t858 t859 t860 bt864.1 bt864.2.1 bt864.2.2.1)))) = some r := H
    have A9 := amk A90
    clear A90
    replace H := Option.bind_eq_some_iff.mp H
    obtain ⟨⟨t864, t865, t866, t869⟩, A100, H⟩ := H
    replace H : ((laws_eqPuzzle.f k t864 t865 t866 t851 t852 t853).bind fun t871 => (if t871 = true then (laws_FnExactHarderPuzzle.j0 k t856 t869 (t869 != t856) a0_0 a0_1 l0_2 t851 t852 t853 t858 t859 t860 t864 t865 t866) else (laws_FnExactHarderPuzzle.j0 k t856 t869 true a0_0 a0_1 l0_2 t851 t852 t853 t858 t859 t860 t864 t865 t866))) = some r := H
    have A10 := amk A100
    clear A100
    have HC11 := amk H
    clear H
    go_enter Try.func13, Try.ntmps13
    go_upto_region 8 with (first | ((with_reducible refine gate_dst (N := 1) rfl ?_); refine box_event ?hg (N := 1) ?hd (cs := #[.int .i64 a0_0, .int .i64 a0_1, .slice A0_2 l0_2.length c0_2]) (t := 43) ?hr ?_; (case hd => rfl); (case hg => rfl); (case hr => first | (go_simp; done) | (go_simp; rfl)); intro gb844 hg w12 hbox hb; have n0_ := amk (bp_ (by repeat (first | (with_reducible first | exact HB.out | apply ba_ | apply bn_ | apply bd_) | exact HB.out)) hb); have n1_ := amk (hbox); have n2_ := amk ((by rw [hg]; exact (below_size (by repeat (first | (with_reducible first | exact HB.out | apply ba_ | apply bn_ | apply bd_) | exact HB.out))) : w.heap.size ≤ gb844)); have n3_ := amk ((by rw [hg]; exact (below_size (by repeat (first | (with_reducible first | exact HB.out | apply ba_ | apply bn_ | apply bd_) | exact HB.out))) : w.heap.size ≤ gb844)); clear HB; have HB := n0_; have BK844 := n1_; have GW844 := n2_; have GE844 := n3_; clear n0_ n1_ n2_ n3_; clear hb hbox hg; have hcz13_0 : w12.cell? ⟨gb844, 0, none⟩ = some (.int .i64 a0_0) := (blk_cell BK844.out 0).trans rfl; have hcz13_1 : w12.cell? ⟨gb844, 1, none⟩ = some (.int .i64 a0_1) := (blk_cell BK844.out 1).trans rfl; have hcz13_2 : w12.cell? ⟨gb844, 2, none⟩ = some (.slice A0_2 l0_2.length c0_2) := (blk_cell BK844.out 2).trans rfl; have hfz13_0 := blk_frozen BK844.out 0; have hfz13_1 := blk_frozen BK844.out 1; have hfz13_2 := blk_frozen BK844.out 2) | ((with_reducible refine gate_callee (f := 23) rfl ?_); refine goesL_ (some 16) rfl rfl Try.func23 (by kernel_rfl) rfl #[.agg #[.int .i64 a0_0, .int .i64 a0_1, .slice A0_2 l0_2.length c0_2], .int .i64 1048576] rfl (by (try simp only [List.map_toArray, List.map_cons, List.map_nil]); first | done | rfl | (simp only [List.length_drop, List.length_take]; rfl)) ?_; (with_reducible refine (laws_szPuzzle.calls a0_0 a0_1 _ _ l0_2 1048576 t845 _ ?side1 ?side2 A2.out).mono ?_); (case side1 => repeat (first | exact (Kd.C_below HR0_2.out HB.out) | (with_reducible refine Kd.C_alloc ?_ _) | (with_reducible refine Kd.C_drewN ?_ _) | (with_reducible refine Kd.C_drew ?_))); (case side2 => exact HC0_2.out); rintro e w14 ⟨rfl, hb⟩; refine ⟨_, rfl, ?_⟩; have n0_ := amk (blk_below (g := gb844) (o := .cells #[.int .i64 a0_0, .int .i64 a0_1, .slice A0_2 l0_2.length c0_2] 43 (0, 0)) (by (with_reducible repeat (first | refine kn_ ?_ _ | refine blk_drew ?_ | refine ka_ ?_ _)); exact BK844.out) hb); have n1_ := amk (bp_ (by repeat (first | (with_reducible first | exact HB.out | apply ba_ | apply bn_ | apply bd_ | refine bs_ ?_ GE844.out) | exact HB.out)) hb); clear BK844; clear HB; have BK844 := n0_; have HB := n1_; clear n0_ n1_; (try clear hb); (try clear hb2); (try clear hk); (try clear hi); have hcz15_0 : w14.cell? ⟨gb844, 0, none⟩ = some (.int .i64 a0_0) := (blk_cell BK844.out 0).trans rfl; have hcz15_1 : w14.cell? ⟨gb844, 1, none⟩ = some (.int .i64 a0_1) := (blk_cell BK844.out 1).trans rfl; have hcz15_2 : w14.cell? ⟨gb844, 2, none⟩ = some (.slice A0_2 l0_2.length c0_2) := (blk_cell BK844.out 2).trans rfl; have hfz15_0 := blk_frozen BK844.out 0; have hfz15_1 := blk_frozen BK844.out 1; have hfz15_2 := blk_frozen BK844.out 2) | ((with_reducible refine gate_callee (f := 25) rfl ?_); refine goesL_ (some 21) rfl rfl Try.func25 (by kernel_rfl) rfl #[.agg #[.int .i64 a0_0, .int .i64 a0_1, .slice A0_2 l0_2.length c0_2]] rfl (by (try simp only [List.map_toArray, List.map_cons, List.map_nil]); first | done | rfl | (simp only [List.length_drop, List.length_take]; rfl)) ?_; (with_reducible refine (laws_toPuzzle.calls k a0_0 a0_1 _ _ l0_2 t846 t847 t848 _ ?side1 ?side2 A7.out).mono ?_); (case side1 => repeat (first | exact (Kd.C_below HR0_2.out HB.out) | (with_reducible refine Kd.C_alloc ?_ _) | (with_reducible refine Kd.C_drewN ?_ _) | (with_reducible refine Kd.C_drew ?_))); (case side2 => exact HC0_2.out); rintro e w16 ⟨v849, rfl, ho0, hb⟩; refine ⟨_, rfl, ?_⟩; have n0_ := amk (Kd.R_lower ho0 (below_size (by repeat (first | (with_reducible first | exact HB.out | apply ba_ | apply bn_ | apply bd_ | refine bs_ ?_ GE844.out) | exact HB.out)))); have n1_ := amk (blk_below (g := gb844) (o := .cells #[.int .i64 a0_0, .int .i64 a0_1, .slice A0_2 l0_2.length c0_2] 43 (0, 0)) (by (with_reducible repeat (first | refine kn_ ?_ _ | refine blk_drew ?_ | refine ka_ ?_ _)); exact BK844.out) hb); have n2_ := amk (bp_ (by repeat (first | (with_reducible first | exact HB.out | apply ba_ | apply bn_ | apply bd_ | refine bs_ ?_ GE844.out) | exact HB.out)) hb); clear BK844; clear HB; have HO850 := n0_; have BK844 := n1_; have HB := n2_; clear n0_ n1_ n2_; (try clear hb); (try clear hb2); (try clear hk); (try clear hi); (try clear ho0); obtain ⟨Ao17, co17, eo17⟩ := Kd.R_slice HO850.out; subst eo17) | ((with_reducible refine gate_callee (f := 47) rfl ?_); refine goesL_ (some 22) rfl rfl Try.func47 (by kernel_rfl) rfl #[.agg #[.int .i64 t846, .int .i64 t847, .slice Ao17 t848.length co17]] rfl (by (try simp only [List.map_toArray, List.map_cons, List.map_nil]); first | done | rfl | (simp only [List.length_drop, List.length_take]; rfl)) ?_; (with_reducible refine (spec_HarderPuzzle.calls k t846 t847 _ _ t848 t851 t852 t853 t856 _ ?side1 ?side2 A8.out).mono ?_); (case side1 => repeat (first | exact (Kd.R_reads' HO850.out).2.2 | (with_reducible refine Kd.C_alloc ?_ _) | (with_reducible refine Kd.C_drewN ?_ _) | (with_reducible refine Kd.C_drew ?_))); (case side2 => exact (Kd.R_reads' HO850.out).2.1); rintro e w18 ⟨v854, rfl, ho0, hb⟩; refine ⟨_, rfl, ?_⟩; have n0_ := amk (Kd.R_elder' (by (with_reducible repeat (first | apply Kd.R_alloc | apply Kd.R_drewN | apply Kd.R_drew)); exact HO850.out) (Kd.R_base ho0) hb); have n1_ := amk (Kd.R_lower (Kd.R_new' ho0 (Kd.R_lt (by (with_reducible repeat (first | apply Kd.R_alloc | apply Kd.R_drewN | apply Kd.R_drew)); exact HO850.out))) (below_size (by repeat (first | (with_reducible first | exact HB.out | apply ba_ | apply bn_ | apply bd_ | refine bs_ ?_ GE844.out) | exact HB.out)))); have n2_ := amk (blk_below (g := gb844) (o := .cells #[.int .i64 a0_0, .int .i64 a0_1, .slice A0_2 l0_2.length c0_2] 43 (0, 0)) (by (with_reducible repeat (first | refine kn_ ?_ _ | refine blk_drew ?_ | refine ka_ ?_ _)); exact BK844.out) hb); have n3_ := amk (bp_ (by repeat (first | (with_reducible first | exact HB.out | apply ba_ | apply bn_ | apply bd_ | refine bs_ ?_ GE844.out) | exact HB.out)) hb); clear HO850; clear BK844; clear HB; have HO850 := n0_; have HO855 := n1_; have BK844 := n2_; have HB := n3_; clear n0_ n1_ n2_ n3_; (try clear hb); (try clear hb2); (try clear hk); (try clear hi); (try clear ho0)) | ((with_reducible refine gate_dst (N := 4) rfl ?_); refine box_event ?hg (N := 4) ?hd (cs := #[.int .i64 0, .int .i64 0, .slice none 0 0]) (t := 35) ?hr ?_; (case hd => rfl); (case hg => rfl); (case hr => first | (go_simp; done) | (go_simp; rfl)); intro gb857 hg w19 hbox hb; have n0_ := amk (Kd.R_below (by (with_reducible repeat (first | apply Kd.R_alloc | apply Kd.R_drewN | apply Kd.R_drew)); exact HO850.out) hb); have n1_ := amk (Kd.R_below (by (with_reducible repeat (first | apply Kd.R_alloc | apply Kd.R_drewN | apply Kd.R_drew)); exact HO855.out) hb); have n2_ := amk (blk_below (g := gb844) (o := .cells #[.int .i64 a0_0, .int .i64 a0_1, .slice A0_2 l0_2.length c0_2] 43 (0, 0)) (by (with_reducible repeat (first | refine kn_ ?_ _ | refine blk_drew ?_ | refine ka_ ?_ _)); exact BK844.out) hb); have n3_ := amk (bp_ (by repeat (first | (with_reducible first | exact HB.out | apply ba_ | apply bn_ | apply bd_ | refine bs_ ?_ GE844.out) | exact HB.out)) hb); have n4_ := amk (hbox); have n5_ := amk ((by rw [hg]; exact (below_size (by repeat (first | (with_reducible first | exact HB.out | apply ba_ | apply bn_ | apply bd_ | refine bs_ ?_ GE844.out) | exact HB.out))) : w.heap.size ≤ gb857)); have n6_ := amk ((by rw [hg]; exact (below_size (by repeat (first | (with_reducible first | exact HB.out | apply ba_ | apply bn_ | apply bd_ | refine bs_ ?_ GE844.out) | exact HB.out))) : w.heap.size ≤ gb857)); have n7_ := amk ((by rw [hg]; exact Nat.ne_of_lt (blk_lt (g := gb844) (o := .cells #[.int .i64 a0_0, .int .i64 a0_1, .slice A0_2 l0_2.length c0_2] 43 (0, 0)) (by (with_reducible repeat (first | refine kn_ ?_ _ | refine blk_drew ?_ | refine ka_ ?_ _)); exact BK844.out)) : gb844 ≠ gb857)); have n8_ := amk ((by rw [hg]; exact Nat.ne_of_gt (blk_lt (g := gb844) (o := .cells #[.int .i64 a0_0, .int .i64 a0_1, .slice A0_2 l0_2.length c0_2] 43 (0, 0)) (by (with_reducible repeat (first | refine kn_ ?_ _ | refine blk_drew ?_ | refine ka_ ?_ _)); exact BK844.out)) : gb857 ≠ gb844)); clear HO850; clear HO855; clear BK844; clear HB; have HO850 := n0_; have HO855 := n1_; have BK844 := n2_; have HB := n3_; have BK857 := n4_; have GW857 := n5_; have GE857 := n6_; have NB844_857 := n7_; have NB857_844 := n8_; clear n0_ n1_ n2_ n3_ n4_ n5_ n6_ n7_ n8_; clear hb hbox hg; have hnb20 := NB857_844.out; have hnc20 := NB844_857.out; have hcz21_0 : w19.cell? ⟨gb857, 0, none⟩ = some (.int .i64 0) := (blk_cell BK857.out 0).trans rfl; have hcz21_1 : w19.cell? ⟨gb857, 1, none⟩ = some (.int .i64 0) := (blk_cell BK857.out 1).trans rfl; have hcz21_2 : w19.cell? ⟨gb857, 2, none⟩ = some (.slice none 0 0) := (blk_cell BK857.out 2).trans rfl; have hfz21_0 := blk_frozen BK857.out 0; have hfz21_1 := blk_frozen BK857.out 1; have hfz21_2 := blk_frozen BK857.out 2; obtain ⟨Ao22, co22, eo22⟩ := Kd.R_slice HO855.out; subst eo22; have hcz23_0 : w19.cell? ⟨gb844, 0, none⟩ = some (.int .i64 a0_0) := (blk_cell BK844.out 0).trans rfl; have hcz23_1 : w19.cell? ⟨gb844, 1, none⟩ = some (.int .i64 a0_1) := (blk_cell BK844.out 1).trans rfl; have hcz23_2 : w19.cell? ⟨gb844, 2, none⟩ = some (.slice A0_2 l0_2.length c0_2) := (blk_cell BK844.out 2).trans rfl; have hfz23_0 := blk_frozen BK844.out 0; have hfz23_1 := blk_frozen BK844.out 1; have hfz23_2 := blk_frozen BK844.out 2) | ((with_reducible refine gate_callee (f := 25) rfl ?_); refine goesL_ (some 26) rfl rfl Try.func25 (by kernel_rfl) rfl #[.agg #[.int .i64 a0_0, .int .i64 a0_1, .slice A0_2 l0_2.length c0_2]] rfl (by (try simp only [List.map_toArray, List.map_cons, List.map_nil]); first | done | rfl | (simp only [List.length_drop, List.length_take]; rfl)) ?_; (with_reducible refine (laws_toPuzzle.calls k a0_0 a0_1 _ _ l0_2 t858 t859 t860 _ ?side1 ?side2 A9.out).mono ?_); (case side1 => exact Kd.C_below HR0_2.out (by repeat (first | (with_reducible first | exact HB.out | apply ba_ | apply bn_ | apply bd_ | refine bs_ ?_ GE844.out | refine bs_ ?_ GE857.out) | exact HB.out))); (case side2 => exact HC0_2.out); rintro e w24 ⟨v861, rfl, ho0, hb⟩; refine ⟨_, rfl, ?_⟩; have n0_ := amk (Kd.R_elder' (by (with_reducible repeat (first | apply Kd.R_alloc | apply Kd.R_drewN | apply Kd.R_drew)); exact (Kd.R_mono (Kd.R_far (p := ⟨gb857, 2, none⟩) (Kd.R_far (p := ⟨gb857, 1, none⟩) (Kd.R_far (p := ⟨gb857, 0, none⟩) (Kd.R_types HO850.out BK857.out (by decide)) (fun _ hk => hk.2) (.int .i64 t851)) (fun _ hk => hk.2) (.int .i64 t852)) (fun _ hk => hk.2) (.slice Ao22 t853.length co22)) (fun _ h_ => h_.1))) (Kd.R_base ho0) hb); have n1_ := amk (Kd.R_elder' (by (with_reducible repeat (first | apply Kd.R_alloc | apply Kd.R_drewN | apply Kd.R_drew)); exact (Kd.R_mono (Kd.R_far (p := ⟨gb857, 2, none⟩) (Kd.R_far (p := ⟨gb857, 1, none⟩) (Kd.R_far (p := ⟨gb857, 0, none⟩) (Kd.R_types HO855.out BK857.out (by decide)) (fun _ hk => hk.2) (.int .i64 t851)) (fun _ hk => hk.2) (.int .i64 t852)) (fun _ hk => hk.2) (.slice Ao22 t853.length co22)) (fun _ h_ => h_.1))) (Kd.R_base ho0) hb); have n2_ := amk (Kd.R_lower (Kd.R_new' (Kd.R_new' ho0 (Kd.R_lt (by (with_reducible repeat (first | apply Kd.R_alloc | apply Kd.R_drewN | apply Kd.R_drew)); exact (Kd.R_mono (Kd.R_far (p := ⟨gb857, 2, none⟩) (Kd.R_far (p := ⟨gb857, 1, none⟩) (Kd.R_far (p := ⟨gb857, 0, none⟩) (Kd.R_types HO850.out BK857.out (by decide)) (fun _ hk => hk.2) (.int .i64 t851)) (fun _ hk => hk.2) (.int .i64 t852)) (fun _ hk => hk.2) (.slice Ao22 t853.length co22)) (fun _ h_ => h_.1))))) (Kd.R_lt (by (with_reducible repeat (first | apply Kd.R_alloc | apply Kd.R_drewN | apply Kd.R_drew)); exact (Kd.R_mono (Kd.R_far (p := ⟨gb857, 2, none⟩) (Kd.R_far (p := ⟨gb857, 1, none⟩) (Kd.R_far (p := ⟨gb857, 0, none⟩) (Kd.R_types HO855.out BK857.out (by decide)) (fun _ hk => hk.2) (.int .i64 t851)) (fun _ hk => hk.2) (.int .i64 t852)) (fun _ hk => hk.2) (.slice Ao22 t853.length co22)) (fun _ h_ => h_.1))))) (below_size (by repeat (first | (with_reducible first | exact HB.out | apply ba_ | apply bn_ | apply bd_ | refine bs_ ?_ GE844.out | refine bs_ ?_ GE857.out) | exact HB.out)))); have n3_ := amk (blk_below (g := gb844) (o := .cells #[.int .i64 a0_0, .int .i64 a0_1, .slice A0_2 l0_2.length c0_2] 43 (0, 0)) (by (with_reducible repeat (first | refine kn_ ?_ _ | refine blk_drew ?_ | refine ka_ ?_ _)); refine blk_far ?_ NB844_857.out _; (with_reducible repeat (first | refine kn_ ?_ _ | refine blk_drew ?_ | refine ka_ ?_ _)); refine blk_far ?_ NB844_857.out _; (with_reducible repeat (first | refine kn_ ?_ _ | refine blk_drew ?_ | refine ka_ ?_ _)); refine blk_far ?_ NB844_857.out _; (with_reducible repeat (first | refine kn_ ?_ _ | refine blk_drew ?_ | refine ka_ ?_ _)); exact BK844.out) hb); have n4_ := amk (blk_below (g := gb857) (o := .cells #[.int .i64 t851, .int .i64 t852, .slice Ao22 t853.length co22] 35 (0, 0)) (by (with_reducible repeat (first | refine kn_ ?_ _ | refine blk_drew ?_ | refine ka_ ?_ _)); refine blk_put (cs := #[.int .i64 t851, .int .i64 t852, .slice none 0 0]) ?_ 2 _ rfl; (with_reducible repeat (first | refine kn_ ?_ _ | refine blk_drew ?_ | refine ka_ ?_ _)); refine blk_put (cs := #[.int .i64 t851, .int .i64 0, .slice none 0 0]) ?_ 1 _ rfl; (with_reducible repeat (first | refine kn_ ?_ _ | refine blk_drew ?_ | refine ka_ ?_ _)); refine blk_put (cs := #[.int .i64 0, .int .i64 0, .slice none 0 0]) ?_ 0 _ rfl; (with_reducible repeat (first | refine kn_ ?_ _ | refine blk_drew ?_ | refine ka_ ?_ _)); exact BK857.out) hb); have n5_ := amk (bp_ (by repeat (first | (with_reducible first | exact HB.out | apply ba_ | apply bn_ | apply bd_ | refine bs_ ?_ GE844.out | refine bs_ ?_ GE857.out) | exact HB.out)) hb); clear HO850; clear HO855; clear BK844; clear BK857; clear HB; have HO850 := n0_; have HO855 := n1_; have HO862 := n2_; have BK844 := n3_; have BK857 := n4_; have HB := n5_; clear n0_ n1_ n2_ n3_ n4_ n5_; (try clear hb); (try clear hb2); (try clear hk); (try clear hi); (try clear ho0)) | ((with_reducible refine gate_dst (N := 6) rfl ?_); refine box_event ?hg (N := 6) ?hd (cs := #[.int .i64 0, .int .i64 0, .slice none 0 0]) (t := 35) ?hr ?_; (case hd => rfl); (case hg => rfl); (case hr => first | (go_simp; done) | (go_simp; rfl)); intro gb863 hg w25 hbox hb; have n0_ := amk (Kd.R_below (by (with_reducible repeat (first | apply Kd.R_alloc | apply Kd.R_drewN | apply Kd.R_drew)); exact HO850.out) hb); have n1_ := amk (Kd.R_below (by (with_reducible repeat (first | apply Kd.R_alloc | apply Kd.R_drewN | apply Kd.R_drew)); exact HO855.out) hb); have n2_ := amk (Kd.R_below (by (with_reducible repeat (first | apply Kd.R_alloc | apply Kd.R_drewN | apply Kd.R_drew)); exact HO862.out) hb); have n3_ := amk (blk_below (g := gb844) (o := .cells #[.int .i64 a0_0, .int .i64 a0_1, .slice A0_2 l0_2.length c0_2] 43 (0, 0)) (by (with_reducible repeat (first | refine kn_ ?_ _ | refine blk_drew ?_ | refine ka_ ?_ _)); exact BK844.out) hb); have n4_ := amk (blk_below (g := gb857) (o := .cells #[.int .i64 t851, .int .i64 t852, .slice Ao22 t853.length co22] 35 (0, 0)) (by (with_reducible repeat (first | refine kn_ ?_ _ | refine blk_drew ?_ | refine ka_ ?_ _)); exact BK857.out) hb); have n5_ := amk (bp_ (by repeat (first | (with_reducible first | exact HB.out | apply ba_ | apply bn_ | apply bd_ | refine bs_ ?_ GE844.out | refine bs_ ?_ GE857.out) | exact HB.out)) hb); have n6_ := amk (hbox); have n7_ := amk ((by rw [hg]; exact (below_size (by repeat (first | (with_reducible first | exact HB.out | apply ba_ | apply bn_ | apply bd_ | refine bs_ ?_ GE844.out | refine bs_ ?_ GE857.out) | exact HB.out))) : w.heap.size ≤ gb863)); have n8_ := amk ((by rw [hg]; exact (below_size (by repeat (first | (with_reducible first | exact HB.out | apply ba_ | apply bn_ | apply bd_ | refine bs_ ?_ GE844.out | refine bs_ ?_ GE857.out) | exact HB.out))) : w.heap.size ≤ gb863)); have n9_ := amk ((by rw [hg]; exact Nat.ne_of_lt (blk_lt (g := gb844) (o := .cells #[.int .i64 a0_0, .int .i64 a0_1, .slice A0_2 l0_2.length c0_2] 43 (0, 0)) (by (with_reducible repeat (first | refine kn_ ?_ _ | refine blk_drew ?_ | refine ka_ ?_ _)); exact BK844.out)) : gb844 ≠ gb863)); have n10_ := amk ((by rw [hg]; exact Nat.ne_of_gt (blk_lt (g := gb844) (o := .cells #[.int .i64 a0_0, .int .i64 a0_1, .slice A0_2 l0_2.length c0_2] 43 (0, 0)) (by (with_reducible repeat (first | refine kn_ ?_ _ | refine blk_drew ?_ | refine ka_ ?_ _)); exact BK844.out)) : gb863 ≠ gb844)); have n11_ := amk ((by rw [hg]; exact Nat.ne_of_lt (blk_lt (g := gb857) (o := .cells #[.int .i64 t851, .int .i64 t852, .slice Ao22 t853.length co22] 35 (0, 0)) (by (with_reducible repeat (first | refine kn_ ?_ _ | refine blk_drew ?_ | refine ka_ ?_ _)); exact BK857.out)) : gb857 ≠ gb863)); have n12_ := amk ((by rw [hg]; exact Nat.ne_of_gt (blk_lt (g := gb857) (o := .cells #[.int .i64 t851, .int .i64 t852, .slice Ao22 t853.length co22] 35 (0, 0)) (by (with_reducible repeat (first | refine kn_ ?_ _ | refine blk_drew ?_ | refine ka_ ?_ _)); exact BK857.out)) : gb863 ≠ gb857)); clear HO850; clear HO855; clear HO862; clear BK844; clear BK857; clear HB; have HO850 := n0_; have HO855 := n1_; have HO862 := n2_; have BK844 := n3_; have BK857 := n4_; have HB := n5_; have BK863 := n6_; have GW863 := n7_; have GE863 := n8_; have NB844_863 := n9_; have NB863_844 := n10_; have NB857_863 := n11_; have NB863_857 := n12_; clear n0_ n1_ n2_ n3_ n4_ n5_ n6_ n7_ n8_ n9_ n10_ n11_ n12_; clear hb hbox hg; have hnb26 := NB863_844.out; have hnc26 := NB844_863.out; have hnb27 := NB863_857.out; have hnc27 := NB857_863.out; have hcz28_0 : w25.cell? ⟨gb863, 0, none⟩ = some (.int .i64 0) := (blk_cell BK863.out 0).trans rfl; have hcz28_1 : w25.cell? ⟨gb863, 1, none⟩ = some (.int .i64 0) := (blk_cell BK863.out 1).trans rfl; have hcz28_2 : w25.cell? ⟨gb863, 2, none⟩ = some (.slice none 0 0) := (blk_cell BK863.out 2).trans rfl; have hfz28_0 := blk_frozen BK863.out 0; have hfz28_1 := blk_frozen BK863.out 1; have hfz28_2 := blk_frozen BK863.out 2; obtain ⟨Ao29, co29, eo29⟩ := Kd.R_slice HO862.out; subst eo29) | ((with_reducible refine gate_callee (f := 48) rfl ?_); refine goesL_ (some 29) rfl rfl Try.func48 (by kernel_rfl) rfl #[.agg #[.int .i64 t858, .int .i64 t859, .slice Ao29 t860.length co29]] rfl (by (try simp only [List.map_toArray, List.map_cons, List.map_nil]); first | done | rfl | (simp only [List.length_drop, List.length_take]; rfl)) ?_; (with_reducible refine (impl_HarderPuzzle.calls k t858 t859 _ _ t860 t864 t865 t866 t869 _ ?side1 ?side2 A10.out).mono ?_); (case side1 => refine (Kd.R_reads' (e := 30) (base := w.heap.size) (ok := fun k_ => ((True ∧ some k_ ≠ (.slice Ao17 t848.length co17 : Value).ownBlock) ∧ some k_ ≠ (.slice Ao22 t853.length co22 : Value).ownBlock)) (n := t860.length) (c := co29) ?_).2.2; exact (by (with_reducible repeat (first | apply Kd.R_alloc | apply Kd.R_drewN | apply Kd.R_drew)); exact (Kd.R_mono (Kd.R_far (p := ⟨gb863, 2, none⟩) (Kd.R_far (p := ⟨gb863, 1, none⟩) (Kd.R_far (p := ⟨gb863, 0, none⟩) (Kd.R_types HO862.out BK863.out (by decide)) (fun _ hk => hk.2) (.int .i64 t858)) (fun _ hk => hk.2) (.int .i64 t859)) (fun _ hk => hk.2) (.slice Ao29 t860.length co29)) (fun _ h_ => h_.1)))); (case side2 => exact (Kd.R_reads' HO862.out).2.1); rintro e w30 ⟨v867, rfl, ho0, hb⟩; refine ⟨_, rfl, ?_⟩; have n0_ := amk (Kd.R_elder' (by (with_reducible repeat (first | apply Kd.R_alloc | apply Kd.R_drewN | apply Kd.R_drew)); exact (Kd.R_mono (Kd.R_far (p := ⟨gb863, 2, none⟩) (Kd.R_far (p := ⟨gb863, 1, none⟩) (Kd.R_far (p := ⟨gb863, 0, none⟩) (Kd.R_types HO850.out BK863.out (by decide)) (fun _ hk => hk.2) (.int .i64 t858)) (fun _ hk => hk.2) (.int .i64 t859)) (fun _ hk => hk.2) (.slice Ao29 t860.length co29)) (fun _ h_ => h_.1))) (Kd.R_base ho0) hb); have n1_ := amk (Kd.R_elder' (by (with_reducible repeat (first | apply Kd.R_alloc | apply Kd.R_drewN | apply Kd.R_drew)); exact (Kd.R_mono (Kd.R_far (p := ⟨gb863, 2, none⟩) (Kd.R_far (p := ⟨gb863, 1, none⟩) (Kd.R_far (p := ⟨gb863, 0, none⟩) (Kd.R_types HO855.out BK863.out (by decide)) (fun _ hk => hk.2) (.int .i64 t858)) (fun _ hk => hk.2) (.int .i64 t859)) (fun _ hk => hk.2) (.slice Ao29 t860.length co29)) (fun _ h_ => h_.1))) (Kd.R_base ho0) hb); have n2_ := amk (Kd.R_elder' (by (with_reducible repeat (first | apply Kd.R_alloc | apply Kd.R_drewN | apply Kd.R_drew)); exact (Kd.R_mono (Kd.R_far (p := ⟨gb863, 2, none⟩) (Kd.R_far (p := ⟨gb863, 1, none⟩) (Kd.R_far (p := ⟨gb863, 0, none⟩) (Kd.R_types HO862.out BK863.out (by decide)) (fun _ hk => hk.2) (.int .i64 t858)) (fun _ hk => hk.2) (.int .i64 t859)) (fun _ hk => hk.2) (.slice Ao29 t860.length co29)) (fun _ h_ => h_.1))) (Kd.R_base ho0) hb); have n3_ := amk (Kd.R_lower (Kd.R_new' (Kd.R_new' (Kd.R_new' ho0 (Kd.R_lt (by (with_reducible repeat (first | apply Kd.R_alloc | apply Kd.R_drewN | apply Kd.R_drew)); exact (Kd.R_mono (Kd.R_far (p := ⟨gb863, 2, none⟩) (Kd.R_far (p := ⟨gb863, 1, none⟩) (Kd.R_far (p := ⟨gb863, 0, none⟩) (Kd.R_types HO850.out BK863.out (by decide)) (fun _ hk => hk.2) (.int .i64 t858)) (fun _ hk => hk.2) (.int .i64 t859)) (fun _ hk => hk.2) (.slice Ao29 t860.length co29)) (fun _ h_ => h_.1))))) (Kd.R_lt (by (with_reducible repeat (first | apply Kd.R_alloc | apply Kd.R_drewN | apply Kd.R_drew)); exact (Kd.R_mono (Kd.R_far (p := ⟨gb863, 2, none⟩) (Kd.R_far (p := ⟨gb863, 1, none⟩) (Kd.R_far (p := ⟨gb863, 0, none⟩) (Kd.R_types HO855.out BK863.out (by decide)) (fun _ hk => hk.2) (.int .i64 t858)) (fun _ hk => hk.2) (.int .i64 t859)) (fun _ hk => hk.2) (.slice Ao29 t860.length co29)) (fun _ h_ => h_.1))))) (Kd.R_lt (by (with_reducible repeat (first | apply Kd.R_alloc | apply Kd.R_drewN | apply Kd.R_drew)); exact (Kd.R_mono (Kd.R_far (p := ⟨gb863, 2, none⟩) (Kd.R_far (p := ⟨gb863, 1, none⟩) (Kd.R_far (p := ⟨gb863, 0, none⟩) (Kd.R_types HO862.out BK863.out (by decide)) (fun _ hk => hk.2) (.int .i64 t858)) (fun _ hk => hk.2) (.int .i64 t859)) (fun _ hk => hk.2) (.slice Ao29 t860.length co29)) (fun _ h_ => h_.1))))) (below_size (by repeat (first | (with_reducible first | exact HB.out | apply ba_ | apply bn_ | apply bd_ | refine bs_ ?_ GE844.out | refine bs_ ?_ GE857.out | refine bs_ ?_ GE863.out) | exact HB.out)))); have n4_ := amk (blk_below (g := gb844) (o := .cells #[.int .i64 a0_0, .int .i64 a0_1, .slice A0_2 l0_2.length c0_2] 43 (0, 0)) (by (with_reducible repeat (first | refine kn_ ?_ _ | refine blk_drew ?_ | refine ka_ ?_ _)); refine blk_far ?_ NB844_863.out _; (with_reducible repeat (first | refine kn_ ?_ _ | refine blk_drew ?_ | refine ka_ ?_ _)); refine blk_far ?_ NB844_863.out _; (with_reducible repeat (first | refine kn_ ?_ _ | refine blk_drew ?_ | refine ka_ ?_ _)); refine blk_far ?_ NB844_863.out _; (with_reducible repeat (first | refine kn_ ?_ _ | refine blk_drew ?_ | refine ka_ ?_ _)); exact BK844.out) hb); have n5_ := amk (blk_below (g := gb857) (o := .cells #[.int .i64 t851, .int .i64 t852, .slice Ao22 t853.length co22] 35 (0, 0)) (by (with_reducible repeat (first | refine kn_ ?_ _ | refine blk_drew ?_ | refine ka_ ?_ _)); refine blk_far ?_ NB857_863.out _; (with_reducible repeat (first | refine kn_ ?_ _ | refine blk_drew ?_ | refine ka_ ?_ _)); refine blk_far ?_ NB857_863.out _; (with_reducible repeat (first | refine kn_ ?_ _ | refine blk_drew ?_ | refine ka_ ?_ _)); refine blk_far ?_ NB857_863.out _; (with_reducible repeat (first | refine kn_ ?_ _ | refine blk_drew ?_ | refine ka_ ?_ _)); exact BK857.out) hb); have n6_ := amk (blk_below (g := gb863) (o := .cells #[.int .i64 t858, .int .i64 t859, .slice Ao29 t860.length co29] 35 (0, 0)) (by (with_reducible repeat (first | refine kn_ ?_ _ | refine blk_drew ?_ | refine ka_ ?_ _)); refine blk_put (cs := #[.int .i64 t858, .int .i64 t859, .slice none 0 0]) ?_ 2 _ rfl; (with_reducible repeat (first | refine kn_ ?_ _ | refine blk_drew ?_ | refine ka_ ?_ _)); refine blk_put (cs := #[.int .i64 t858, .int .i64 0, .slice none 0 0]) ?_ 1 _ rfl; (with_reducible repeat (first | refine kn_ ?_ _ | refine blk_drew ?_ | refine ka_ ?_ _)); refine blk_put (cs := #[.int .i64 0, .int .i64 0, .slice none 0 0]) ?_ 0 _ rfl; (with_reducible repeat (first | refine kn_ ?_ _ | refine blk_drew ?_ | refine ka_ ?_ _)); exact BK863.out) hb); have n7_ := amk (bp_ (by repeat (first | (with_reducible first | exact HB.out | apply ba_ | apply bn_ | apply bd_ | refine bs_ ?_ GE844.out | refine bs_ ?_ GE857.out | refine bs_ ?_ GE863.out) | exact HB.out)) hb); clear HO850; clear HO855; clear HO862; clear BK844; clear BK857; clear BK863; clear HB; have HO850 := n0_; have HO855 := n1_; have HO862 := n2_; have HO868 := n3_; have BK844 := n4_; have BK857 := n5_; have BK863 := n6_; have HB := n7_; clear n0_ n1_ n2_ n3_ n4_ n5_ n6_ n7_; (try clear hb); (try clear hb2); (try clear hk); (try clear hi); (try clear ho0)) | ((with_reducible refine gate_dst (N := 7) rfl ?_); refine box_event ?hg (N := 7) ?hd (cs := #[.int .i64 0, .int .i64 0, .slice none 0 0]) (t := 35) ?hr ?_; (case hd => rfl); (case hg => rfl); (case hr => first | (go_simp; done) | (go_simp; rfl)); intro gb870 hg w31 hbox hb; have n0_ := amk (Kd.R_below (by (with_reducible repeat (first | apply Kd.R_alloc | apply Kd.R_drewN | apply Kd.R_drew)); exact HO850.out) hb); have n1_ := amk (Kd.R_below (by (with_reducible repeat (first | apply Kd.R_alloc | apply Kd.R_drewN | apply Kd.R_drew)); exact HO855.out) hb); have n2_ := amk (Kd.R_below (by (with_reducible repeat (first | apply Kd.R_alloc | apply Kd.R_drewN | apply Kd.R_drew)); exact HO862.out) hb); have n3_ := amk (Kd.R_below (by (with_reducible repeat (first | apply Kd.R_alloc | apply Kd.R_drewN | apply Kd.R_drew)); exact HO868.out) hb); have n4_ := amk (blk_below (g := gb844) (o := .cells #[.int .i64 a0_0, .int .i64 a0_1, .slice A0_2 l0_2.length c0_2] 43 (0, 0)) (by (with_reducible repeat (first | refine kn_ ?_ _ | refine blk_drew ?_ | refine ka_ ?_ _)); exact BK844.out) hb); have n5_ := amk (blk_below (g := gb857) (o := .cells #[.int .i64 t851, .int .i64 t852, .slice Ao22 t853.length co22] 35 (0, 0)) (by (with_reducible repeat (first | refine kn_ ?_ _ | refine blk_drew ?_ | refine ka_ ?_ _)); exact BK857.out) hb); have n6_ := amk (blk_below (g := gb863) (o := .cells #[.int .i64 t858, .int .i64 t859, .slice Ao29 t860.length co29] 35 (0, 0)) (by (with_reducible repeat (first | refine kn_ ?_ _ | refine blk_drew ?_ | refine ka_ ?_ _)); exact BK863.out) hb); have n7_ := amk (bp_ (by repeat (first | (with_reducible first | exact HB.out | apply ba_ | apply bn_ | apply bd_ | refine bs_ ?_ GE844.out | refine bs_ ?_ GE857.out | refine bs_ ?_ GE863.out) | exact HB.out)) hb); have n8_ := amk (hbox); have n9_ := amk ((by rw [hg]; exact (below_size (by repeat (first | (with_reducible first | exact HB.out | apply ba_ | apply bn_ | apply bd_ | refine bs_ ?_ GE844.out | refine bs_ ?_ GE857.out | refine bs_ ?_ GE863.out) | exact HB.out))) : w.heap.size ≤ gb870)); have n10_ := amk ((by rw [hg]; exact (below_size (by repeat (first | (with_reducible first | exact HB.out | apply ba_ | apply bn_ | apply bd_ | refine bs_ ?_ GE844.out | refine bs_ ?_ GE857.out | refine bs_ ?_ GE863.out) | exact HB.out))) : w.heap.size ≤ gb870)); have n11_ := amk ((by rw [hg]; exact Nat.ne_of_lt (blk_lt (g := gb844) (o := .cells #[.int .i64 a0_0, .int .i64 a0_1, .slice A0_2 l0_2.length c0_2] 43 (0, 0)) (by (with_reducible repeat (first | refine kn_ ?_ _ | refine blk_drew ?_ | refine ka_ ?_ _)); exact BK844.out)) : gb844 ≠ gb870)); have n12_ := amk ((by rw [hg]; exact Nat.ne_of_gt (blk_lt (g := gb844) (o := .cells #[.int .i64 a0_0, .int .i64 a0_1, .slice A0_2 l0_2.length c0_2] 43 (0, 0)) (by (with_reducible repeat (first | refine kn_ ?_ _ | refine blk_drew ?_ | refine ka_ ?_ _)); exact BK844.out)) : gb870 ≠ gb844)); have n13_ := amk ((by rw [hg]; exact Nat.ne_of_lt (blk_lt (g := gb857) (o := .cells #[.int .i64 t851, .int .i64 t852, .slice Ao22 t853.length co22] 35 (0, 0)) (by (with_reducible repeat (first | refine kn_ ?_ _ | refine blk_drew ?_ | refine ka_ ?_ _)); exact BK857.out)) : gb857 ≠ gb870)); have n14_ := amk ((by rw [hg]; exact Nat.ne_of_gt (blk_lt (g := gb857) (o := .cells #[.int .i64 t851, .int .i64 t852, .slice Ao22 t853.length co22] 35 (0, 0)) (by (with_reducible repeat (first | refine kn_ ?_ _ | refine blk_drew ?_ | refine ka_ ?_ _)); exact BK857.out)) : gb870 ≠ gb857)); have n15_ := amk ((by rw [hg]; exact Nat.ne_of_lt (blk_lt (g := gb863) (o := .cells #[.int .i64 t858, .int .i64 t859, .slice Ao29 t860.length co29] 35 (0, 0)) (by (with_reducible repeat (first | refine kn_ ?_ _ | refine blk_drew ?_ | refine ka_ ?_ _)); exact BK863.out)) : gb863 ≠ gb870)); have n16_ := amk ((by rw [hg]; exact Nat.ne_of_gt (blk_lt (g := gb863) (o := .cells #[.int .i64 t858, .int .i64 t859, .slice Ao29 t860.length co29] 35 (0, 0)) (by (with_reducible repeat (first | refine kn_ ?_ _ | refine blk_drew ?_ | refine ka_ ?_ _)); exact BK863.out)) : gb870 ≠ gb863)); clear HO850; clear HO855; clear HO862; clear HO868; clear BK844; clear BK857; clear BK863; clear HB; have HO850 := n0_; have HO855 := n1_; have HO862 := n2_; have HO868 := n3_; have BK844 := n4_; have BK857 := n5_; have BK863 := n6_; have HB := n7_; have BK870 := n8_; have GW870 := n9_; have GE870 := n10_; have NB844_870 := n11_; have NB870_844 := n12_; have NB857_870 := n13_; have NB870_857 := n14_; have NB863_870 := n15_; have NB870_863 := n16_; clear n0_ n1_ n2_ n3_ n4_ n5_ n6_ n7_ n8_ n9_ n10_ n11_ n12_ n13_ n14_ n15_ n16_; clear hb hbox hg; have hnb32 := NB870_844.out; have hnc32 := NB844_870.out; have hnb33 := NB870_857.out; have hnc33 := NB857_870.out; have hnb34 := NB870_863.out; have hnc34 := NB863_870.out; have hcz35_0 : w31.cell? ⟨gb870, 0, none⟩ = some (.int .i64 0) := (blk_cell BK870.out 0).trans rfl; have hcz35_1 : w31.cell? ⟨gb870, 1, none⟩ = some (.int .i64 0) := (blk_cell BK870.out 1).trans rfl; have hcz35_2 : w31.cell? ⟨gb870, 2, none⟩ = some (.slice none 0 0) := (blk_cell BK870.out 2).trans rfl; have hfz35_0 := blk_frozen BK870.out 0; have hfz35_1 := blk_frozen BK870.out 1; have hfz35_2 := blk_frozen BK870.out 2; obtain ⟨Ao36, co36, eo36⟩ := Kd.R_slice HO868.out; subst eo36))
    (try simp only [Act.put, List.setIfInBounds_toArray, List.set_cons_zero, List.set_cons_succ])
    go_cut [40] (fun v40 wc => ∃ (kq : Nat) (x40_10 : Bool), v40 = .bool x40_10 ∧ Aside0 (laws_FnExactHarderPuzzle.j0 kq t856 t869 x40_10 a0_0 a0_1 l0_2 t851 t852 t853 t858 t859 t860 t864 t865 t866 = some r) ∧ Aside0 (kq ≤ k) ∧ Aside0 (Kd.R k30 30 wc w.heap.size (fun k_ => some k_ ≠ ((.slice Ao29 t860.length co29) : Value).ownBlock ∧ some k_ ≠ ((.slice Ao36 t866.length co36) : Value).ownBlock) (.slice Ao22 t853.length co22) t853) ∧ Aside0 (Kd.R k30 30 wc w.heap.size (fun k_ => some k_ ≠ ((.slice Ao22 t853.length co22) : Value).ownBlock ∧ some k_ ≠ ((.slice Ao36 t866.length co36) : Value).ownBlock) (.slice Ao29 t860.length co29) t860) ∧ Aside0 (Kd.R k30 30 wc w.heap.size (fun k_ => some k_ ≠ ((.slice Ao22 t853.length co22) : Value).ownBlock ∧ some k_ ≠ ((.slice Ao29 t860.length co29) : Value).ownBlock) (.slice Ao36 t866.length co36) t866) ∧ Aside0 (wc.heap[gb844]? = some (.cells #[.int .i64 a0_0, .int .i64 a0_1, (.slice A0_2 l0_2.length c0_2)] 43 (0, 0))) ∧ Aside0 (wc.heap[gb857]? = some (.cells #[.int .i64 t851, .int .i64 t852, (.slice Ao22 t853.length co22)] 35 (0, 0))) ∧ Aside0 (wc.heap[gb863]? = some (.cells #[.int .i64 t858, .int .i64 t859, (.slice Ao29 t860.length co29)] 35 (0, 0))) ∧ Aside0 (wc.heap[gb870]? = some (.cells #[.int .i64 t864, .int .i64 t865, (.slice Ao36 t866.length co36)] 35 (0, 0))) ∧ Aside0 (Below w.heap.size w wc))
    case first =>
      have H := HC11.out
      clear HC11
      replace H := Option.bind_eq_some_iff.mp H
      obtain ⟨t871, A370, H⟩ := H
      replace H : (if t871 = true then (laws_FnExactHarderPuzzle.j0 k t856 t869 (t869 != t856) a0_0 a0_1 l0_2 t851 t852 t853 t858 t859 t860 t864 t865 t866) else (laws_FnExactHarderPuzzle.j0 k t856 t869 true a0_0 a0_1 l0_2 t851 t852 t853 t858 t859 t860 t864 t865 t866)) = some r := H
      have A37 := amk A370
      clear A370
      by_cases c38 : t871 = true
      · subst c38
        have H1 : (laws_FnExactHarderPuzzle.j0 k t856 t869 (t869 != t856) a0_0 a0_1 l0_2 t851 t852 t853 t858 t859 t860 t864 t865 t866) = some r := by rw [if_pos rfl] at H; exact H
        clear H
        have H := H1
        clear H1
        have H' := amk H
        clear H
        have hnb39 := NB870_844.out
        have hnc39 := NB844_870.out
        have hnb40 := NB870_857.out
        have hnc40 := NB857_870.out
        have hnb41 := NB870_863.out
        have hnc41 := NB863_870.out
        have hcz42_0 : w31.cell? ⟨gb870, 0, none⟩ = some (.int .i64 0) := (blk_cell BK870.out 0).trans rfl
        have hcz42_1 : w31.cell? ⟨gb870, 1, none⟩ = some (.int .i64 0) := (blk_cell BK870.out 1).trans rfl
        have hcz42_2 : w31.cell? ⟨gb870, 2, none⟩ = some (.slice none 0 0) := (blk_cell BK870.out 2).trans rfl
        have hfz42_0 := blk_frozen BK870.out 0
        have hfz42_1 := blk_frozen BK870.out 1
        have hfz42_2 := blk_frozen BK870.out 2
        have hnb43 := NB857_844.out
        have hnc43 := NB844_857.out
        have hnb44 := NB857_863.out
        have hnc44 := NB863_857.out
        have hcz45_0 : w31.cell? ⟨gb857, 0, none⟩ = some (.int .i64 t851) := (blk_cell BK857.out 0).trans rfl
        have hcz45_1 : w31.cell? ⟨gb857, 1, none⟩ = some (.int .i64 t852) := (blk_cell BK857.out 1).trans rfl
        have hcz45_2 : w31.cell? ⟨gb857, 2, none⟩ = some (.slice Ao22 t853.length co22) := (blk_cell BK857.out 2).trans rfl
        have hfz45_0 := blk_frozen BK857.out 0
        have hfz45_1 := blk_frozen BK857.out 1
        have hfz45_2 := blk_frozen BK857.out 2
        go_wp2_with (first | ((with_reducible refine gate_callee (f := 20) rfl ?_); refine goesL_ (some 34) rfl rfl Try.func20 (by kernel_rfl) rfl #[.agg #[.int .i64 t864, .int .i64 t865, .slice Ao36 t866.length co36], .agg #[.int .i64 t851, .int .i64 t852, .slice Ao22 t853.length co22]] rfl (by (try simp only [List.map_toArray, List.map_cons, List.map_nil]); first | done | rfl | (simp only [List.length_drop, List.length_take]; rfl)) ?_; (with_reducible refine (laws_eqPuzzle.calls k t864 t865 _ _ t866 t851 t852 _ _ t853 true _ ?side1 ?side2 ?side3 ?side4 A37.out).mono ?_); (case side1 => refine (Kd.R_reads' (e := 30) (base := w.heap.size) (ok := fun k_ => (((True ∧ some k_ ≠ (.slice Ao17 t848.length co17 : Value).ownBlock) ∧ some k_ ≠ (.slice Ao22 t853.length co22 : Value).ownBlock) ∧ some k_ ≠ (.slice Ao29 t860.length co29 : Value).ownBlock)) (n := t866.length) (c := co36) ?_).2.2; exact (by (with_reducible repeat (first | apply Kd.R_alloc | apply Kd.R_drewN | apply Kd.R_drew)); exact (Kd.R_mono (Kd.R_far (p := ⟨gb870, 2, none⟩) (Kd.R_far (p := ⟨gb870, 1, none⟩) (Kd.R_far (p := ⟨gb870, 0, none⟩) (Kd.R_types HO868.out BK870.out (by decide)) (fun _ hk => hk.2) (.int .i64 t864)) (fun _ hk => hk.2) (.int .i64 t865)) (fun _ hk => hk.2) (.slice Ao36 t866.length co36)) (fun _ h_ => h_.1)))); (case side2 => exact (Kd.R_reads' HO868.out).2.1); (case side3 => refine (Kd.R_reads' (e := 30) (base := w.heap.size) (ok := fun k_ => (((True ∧ some k_ ≠ (.slice Ao17 t848.length co17 : Value).ownBlock) ∧ some k_ ≠ (.slice Ao29 t860.length co29 : Value).ownBlock) ∧ some k_ ≠ (.slice Ao36 t866.length co36 : Value).ownBlock)) (n := t853.length) (c := co22) ?_).2.2; exact (by (with_reducible repeat (first | apply Kd.R_alloc | apply Kd.R_drewN | apply Kd.R_drew)); exact (Kd.R_mono (Kd.R_far (p := ⟨gb870, 2, none⟩) (Kd.R_far (p := ⟨gb870, 1, none⟩) (Kd.R_far (p := ⟨gb870, 0, none⟩) (Kd.R_types HO855.out BK870.out (by decide)) (fun _ hk => hk.2) (.int .i64 t864)) (fun _ hk => hk.2) (.int .i64 t865)) (fun _ hk => hk.2) (.slice Ao36 t866.length co36)) (fun _ h_ => h_.1)))); (case side4 => exact (Kd.R_reads' HO855.out).2.1); rintro e w46 ⟨rfl, hb⟩; refine ⟨_, rfl, ?_⟩; have n0_ := amk (Kd.R_below (by (with_reducible repeat (first | apply Kd.R_alloc | apply Kd.R_drewN | apply Kd.R_drew)); exact (Kd.R_mono (Kd.R_far (p := ⟨gb870, 2, none⟩) (Kd.R_far (p := ⟨gb870, 1, none⟩) (Kd.R_far (p := ⟨gb870, 0, none⟩) (Kd.R_types HO850.out BK870.out (by decide)) (fun _ hk => hk.2) (.int .i64 t864)) (fun _ hk => hk.2) (.int .i64 t865)) (fun _ hk => hk.2) (.slice Ao36 t866.length co36)) (fun _ h_ => h_.1))) hb); have n1_ := amk (Kd.R_below (by (with_reducible repeat (first | apply Kd.R_alloc | apply Kd.R_drewN | apply Kd.R_drew)); exact (Kd.R_mono (Kd.R_far (p := ⟨gb870, 2, none⟩) (Kd.R_far (p := ⟨gb870, 1, none⟩) (Kd.R_far (p := ⟨gb870, 0, none⟩) (Kd.R_types HO855.out BK870.out (by decide)) (fun _ hk => hk.2) (.int .i64 t864)) (fun _ hk => hk.2) (.int .i64 t865)) (fun _ hk => hk.2) (.slice Ao36 t866.length co36)) (fun _ h_ => h_.1))) hb); have n2_ := amk (Kd.R_below (by (with_reducible repeat (first | apply Kd.R_alloc | apply Kd.R_drewN | apply Kd.R_drew)); exact (Kd.R_mono (Kd.R_far (p := ⟨gb870, 2, none⟩) (Kd.R_far (p := ⟨gb870, 1, none⟩) (Kd.R_far (p := ⟨gb870, 0, none⟩) (Kd.R_types HO862.out BK870.out (by decide)) (fun _ hk => hk.2) (.int .i64 t864)) (fun _ hk => hk.2) (.int .i64 t865)) (fun _ hk => hk.2) (.slice Ao36 t866.length co36)) (fun _ h_ => h_.1))) hb); have n3_ := amk (Kd.R_below (by (with_reducible repeat (first | apply Kd.R_alloc | apply Kd.R_drewN | apply Kd.R_drew)); exact (Kd.R_mono (Kd.R_far (p := ⟨gb870, 2, none⟩) (Kd.R_far (p := ⟨gb870, 1, none⟩) (Kd.R_far (p := ⟨gb870, 0, none⟩) (Kd.R_types HO868.out BK870.out (by decide)) (fun _ hk => hk.2) (.int .i64 t864)) (fun _ hk => hk.2) (.int .i64 t865)) (fun _ hk => hk.2) (.slice Ao36 t866.length co36)) (fun _ h_ => h_.1))) hb); have n4_ := amk (blk_below (g := gb844) (o := .cells #[.int .i64 a0_0, .int .i64 a0_1, .slice A0_2 l0_2.length c0_2] 43 (0, 0)) (by (with_reducible repeat (first | refine kn_ ?_ _ | refine blk_drew ?_ | refine ka_ ?_ _)); refine blk_far ?_ NB844_870.out _; (with_reducible repeat (first | refine kn_ ?_ _ | refine blk_drew ?_ | refine ka_ ?_ _)); refine blk_far ?_ NB844_870.out _; (with_reducible repeat (first | refine kn_ ?_ _ | refine blk_drew ?_ | refine ka_ ?_ _)); refine blk_far ?_ NB844_870.out _; (with_reducible repeat (first | refine kn_ ?_ _ | refine blk_drew ?_ | refine ka_ ?_ _)); exact BK844.out) hb); have n5_ := amk (blk_below (g := gb857) (o := .cells #[.int .i64 t851, .int .i64 t852, .slice Ao22 t853.length co22] 35 (0, 0)) (by (with_reducible repeat (first | refine kn_ ?_ _ | refine blk_drew ?_ | refine ka_ ?_ _)); refine blk_far ?_ NB857_870.out _; (with_reducible repeat (first | refine kn_ ?_ _ | refine blk_drew ?_ | refine ka_ ?_ _)); refine blk_far ?_ NB857_870.out _; (with_reducible repeat (first | refine kn_ ?_ _ | refine blk_drew ?_ | refine ka_ ?_ _)); refine blk_far ?_ NB857_870.out _; (with_reducible repeat (first | refine kn_ ?_ _ | refine blk_drew ?_ | refine ka_ ?_ _)); exact BK857.out) hb); have n6_ := amk (blk_below (g := gb863) (o := .cells #[.int .i64 t858, .int .i64 t859, .slice Ao29 t860.length co29] 35 (0, 0)) (by (with_reducible repeat (first | refine kn_ ?_ _ | refine blk_drew ?_ | refine ka_ ?_ _)); refine blk_far ?_ NB863_870.out _; (with_reducible repeat (first | refine kn_ ?_ _ | refine blk_drew ?_ | refine ka_ ?_ _)); refine blk_far ?_ NB863_870.out _; (with_reducible repeat (first | refine kn_ ?_ _ | refine blk_drew ?_ | refine ka_ ?_ _)); refine blk_far ?_ NB863_870.out _; (with_reducible repeat (first | refine kn_ ?_ _ | refine blk_drew ?_ | refine ka_ ?_ _)); exact BK863.out) hb); have n7_ := amk (blk_below (g := gb870) (o := .cells #[.int .i64 t864, .int .i64 t865, .slice Ao36 t866.length co36] 35 (0, 0)) (by (with_reducible repeat (first | refine kn_ ?_ _ | refine blk_drew ?_ | refine ka_ ?_ _)); refine blk_put (cs := #[.int .i64 t864, .int .i64 t865, .slice none 0 0]) ?_ 2 _ rfl; (with_reducible repeat (first | refine kn_ ?_ _ | refine blk_drew ?_ | refine ka_ ?_ _)); refine blk_put (cs := #[.int .i64 t864, .int .i64 0, .slice none 0 0]) ?_ 1 _ rfl; (with_reducible repeat (first | refine kn_ ?_ _ | refine blk_drew ?_ | refine ka_ ?_ _)); refine blk_put (cs := #[.int .i64 0, .int .i64 0, .slice none 0 0]) ?_ 0 _ rfl; (with_reducible repeat (first | refine kn_ ?_ _ | refine blk_drew ?_ | refine ka_ ?_ _)); exact BK870.out) hb); have n8_ := amk (bp_ (by repeat (first | (with_reducible first | exact HB.out | apply ba_ | apply bn_ | apply bd_ | refine bs_ ?_ GE844.out | refine bs_ ?_ GE857.out | refine bs_ ?_ GE863.out | refine bs_ ?_ GE870.out) | exact HB.out)) hb); clear HO850; clear HO855; clear HO862; clear HO868; clear BK844; clear BK857; clear BK863; clear BK870; clear HB; have HO850 := n0_; have HO855 := n1_; have HO862 := n2_; have HO868 := n3_; have BK844 := n4_; have BK857 := n5_; have BK863 := n6_; have BK870 := n7_; have HB := n8_; clear n0_ n1_ n2_ n3_ n4_ n5_ n6_ n7_ n8_; (try clear hb); (try clear hb2); (try clear hk); (try clear hi)))
        go_meet
        case rel => exact ⟨_, ((t869 != t856)), (by first | rfl | (simp; done) | (simp [*]; done)), H', ⟨by first | omega | exact Nat.le_refl _⟩, ⟨by (with_reducible repeat (first | apply Kd.R_alloc | apply Kd.R_drewN | apply Kd.R_drew)); exact Kd.R_mono HO855.out (fun _ hk => ⟨hk.1.2, hk.2⟩)⟩, ⟨by (with_reducible repeat (first | apply Kd.R_alloc | apply Kd.R_drewN | apply Kd.R_drew)); exact Kd.R_mono HO862.out (fun _ hk => ⟨hk.1.2, hk.2⟩)⟩, ⟨by (with_reducible repeat (first | apply Kd.R_alloc | apply Kd.R_drewN | apply Kd.R_drew)); exact Kd.R_mono HO868.out (fun _ hk => ⟨hk.1.2, hk.2⟩)⟩, ⟨by (with_reducible repeat (first | refine kn_ ?_ _ | refine blk_drew ?_ | refine ka_ ?_ _)); exact BK844.out⟩, ⟨by (with_reducible repeat (first | refine kn_ ?_ _ | refine blk_drew ?_ | refine ka_ ?_ _)); exact BK857.out⟩, ⟨by (with_reducible repeat (first | refine kn_ ?_ _ | refine blk_drew ?_ | refine ka_ ?_ _)); exact BK863.out⟩, ⟨by (with_reducible repeat (first | refine kn_ ?_ _ | refine blk_drew ?_ | refine ka_ ?_ _)); exact BK870.out⟩, ⟨by repeat (first | (with_reducible first | exact HB.out | apply ba_ | apply bn_ | apply bd_ | refine bs_ ?_ GE844.out | refine bs_ ?_ GE857.out | refine bs_ ?_ GE863.out | refine bs_ ?_ GE870.out) | exact HB.out)⟩⟩
      · replace c38 := Bool.eq_false_iff.mpr c38
        subst c38
        have H1 : (laws_FnExactHarderPuzzle.j0 k t856 t869 true a0_0 a0_1 l0_2 t851 t852 t853 t858 t859 t860 t864 t865 t866) = some r := by rw [if_neg (show ¬ (false = true) by decide)] at H; exact H
        clear H
        have H := H1
        clear H1
        have H' := amk H
        clear H
        have hnb47 := NB870_844.out
        have hnc47 := NB844_870.out
        have hnb48 := NB870_857.out
        have hnc48 := NB857_870.out
        have hnb49 := NB870_863.out
        have hnc49 := NB863_870.out
        have hcz50_0 : w31.cell? ⟨gb870, 0, none⟩ = some (.int .i64 0) := (blk_cell BK870.out 0).trans rfl
        have hcz50_1 : w31.cell? ⟨gb870, 1, none⟩ = some (.int .i64 0) := (blk_cell BK870.out 1).trans rfl
        have hcz50_2 : w31.cell? ⟨gb870, 2, none⟩ = some (.slice none 0 0) := (blk_cell BK870.out 2).trans rfl
        have hfz50_0 := blk_frozen BK870.out 0
        have hfz50_1 := blk_frozen BK870.out 1
        have hfz50_2 := blk_frozen BK870.out 2
        have hnb51 := NB857_844.out
        have hnc51 := NB844_857.out
        have hnb52 := NB857_863.out
        have hnc52 := NB863_857.out
        have hcz53_0 : w31.cell? ⟨gb857, 0, none⟩ = some (.int .i64 t851) := (blk_cell BK857.out 0).trans rfl
        have hcz53_1 : w31.cell? ⟨gb857, 1, none⟩ = some (.int .i64 t852) := (blk_cell BK857.out 1).trans rfl
        have hcz53_2 : w31.cell? ⟨gb857, 2, none⟩ = some (.slice Ao22 t853.length co22) := (blk_cell BK857.out 2).trans rfl
        have hfz53_0 := blk_frozen BK857.out 0
        have hfz53_1 := blk_frozen BK857.out 1
        have hfz53_2 := blk_frozen BK857.out 2
        go_wp2_with (first | ((with_reducible refine gate_callee (f := 20) rfl ?_); refine goesL_ (some 34) rfl rfl Try.func20 (by kernel_rfl) rfl #[.agg #[.int .i64 t864, .int .i64 t865, .slice Ao36 t866.length co36], .agg #[.int .i64 t851, .int .i64 t852, .slice Ao22 t853.length co22]] rfl (by (try simp only [List.map_toArray, List.map_cons, List.map_nil]); first | done | rfl | (simp only [List.length_drop, List.length_take]; rfl)) ?_; (with_reducible refine (laws_eqPuzzle.calls k t864 t865 _ _ t866 t851 t852 _ _ t853 false _ ?side1 ?side2 ?side3 ?side4 A37.out).mono ?_); (case side1 => refine (Kd.R_reads' (e := 30) (base := w.heap.size) (ok := fun k_ => (((True ∧ some k_ ≠ (.slice Ao17 t848.length co17 : Value).ownBlock) ∧ some k_ ≠ (.slice Ao22 t853.length co22 : Value).ownBlock) ∧ some k_ ≠ (.slice Ao29 t860.length co29 : Value).ownBlock)) (n := t866.length) (c := co36) ?_).2.2; exact (by (with_reducible repeat (first | apply Kd.R_alloc | apply Kd.R_drewN | apply Kd.R_drew)); exact (Kd.R_mono (Kd.R_far (p := ⟨gb870, 2, none⟩) (Kd.R_far (p := ⟨gb870, 1, none⟩) (Kd.R_far (p := ⟨gb870, 0, none⟩) (Kd.R_types HO868.out BK870.out (by decide)) (fun _ hk => hk.2) (.int .i64 t864)) (fun _ hk => hk.2) (.int .i64 t865)) (fun _ hk => hk.2) (.slice Ao36 t866.length co36)) (fun _ h_ => h_.1)))); (case side2 => exact (Kd.R_reads' HO868.out).2.1); (case side3 => refine (Kd.R_reads' (e := 30) (base := w.heap.size) (ok := fun k_ => (((True ∧ some k_ ≠ (.slice Ao17 t848.length co17 : Value).ownBlock) ∧ some k_ ≠ (.slice Ao29 t860.length co29 : Value).ownBlock) ∧ some k_ ≠ (.slice Ao36 t866.length co36 : Value).ownBlock)) (n := t853.length) (c := co22) ?_).2.2; exact (by (with_reducible repeat (first | apply Kd.R_alloc | apply Kd.R_drewN | apply Kd.R_drew)); exact (Kd.R_mono (Kd.R_far (p := ⟨gb870, 2, none⟩) (Kd.R_far (p := ⟨gb870, 1, none⟩) (Kd.R_far (p := ⟨gb870, 0, none⟩) (Kd.R_types HO855.out BK870.out (by decide)) (fun _ hk => hk.2) (.int .i64 t864)) (fun _ hk => hk.2) (.int .i64 t865)) (fun _ hk => hk.2) (.slice Ao36 t866.length co36)) (fun _ h_ => h_.1)))); (case side4 => exact (Kd.R_reads' HO855.out).2.1); rintro e w54 ⟨rfl, hb⟩; refine ⟨_, rfl, ?_⟩; have n0_ := amk (Kd.R_below (by (with_reducible repeat (first | apply Kd.R_alloc | apply Kd.R_drewN | apply Kd.R_drew)); exact (Kd.R_mono (Kd.R_far (p := ⟨gb870, 2, none⟩) (Kd.R_far (p := ⟨gb870, 1, none⟩) (Kd.R_far (p := ⟨gb870, 0, none⟩) (Kd.R_types HO850.out BK870.out (by decide)) (fun _ hk => hk.2) (.int .i64 t864)) (fun _ hk => hk.2) (.int .i64 t865)) (fun _ hk => hk.2) (.slice Ao36 t866.length co36)) (fun _ h_ => h_.1))) hb); have n1_ := amk (Kd.R_below (by (with_reducible repeat (first | apply Kd.R_alloc | apply Kd.R_drewN | apply Kd.R_drew)); exact (Kd.R_mono (Kd.R_far (p := ⟨gb870, 2, none⟩) (Kd.R_far (p := ⟨gb870, 1, none⟩) (Kd.R_far (p := ⟨gb870, 0, none⟩) (Kd.R_types HO855.out BK870.out (by decide)) (fun _ hk => hk.2) (.int .i64 t864)) (fun _ hk => hk.2) (.int .i64 t865)) (fun _ hk => hk.2) (.slice Ao36 t866.length co36)) (fun _ h_ => h_.1))) hb); have n2_ := amk (Kd.R_below (by (with_reducible repeat (first | apply Kd.R_alloc | apply Kd.R_drewN | apply Kd.R_drew)); exact (Kd.R_mono (Kd.R_far (p := ⟨gb870, 2, none⟩) (Kd.R_far (p := ⟨gb870, 1, none⟩) (Kd.R_far (p := ⟨gb870, 0, none⟩) (Kd.R_types HO862.out BK870.out (by decide)) (fun _ hk => hk.2) (.int .i64 t864)) (fun _ hk => hk.2) (.int .i64 t865)) (fun _ hk => hk.2) (.slice Ao36 t866.length co36)) (fun _ h_ => h_.1))) hb); have n3_ := amk (Kd.R_below (by (with_reducible repeat (first | apply Kd.R_alloc | apply Kd.R_drewN | apply Kd.R_drew)); exact (Kd.R_mono (Kd.R_far (p := ⟨gb870, 2, none⟩) (Kd.R_far (p := ⟨gb870, 1, none⟩) (Kd.R_far (p := ⟨gb870, 0, none⟩) (Kd.R_types HO868.out BK870.out (by decide)) (fun _ hk => hk.2) (.int .i64 t864)) (fun _ hk => hk.2) (.int .i64 t865)) (fun _ hk => hk.2) (.slice Ao36 t866.length co36)) (fun _ h_ => h_.1))) hb); have n4_ := amk (blk_below (g := gb844) (o := .cells #[.int .i64 a0_0, .int .i64 a0_1, .slice A0_2 l0_2.length c0_2] 43 (0, 0)) (by (with_reducible repeat (first | refine kn_ ?_ _ | refine blk_drew ?_ | refine ka_ ?_ _)); refine blk_far ?_ NB844_870.out _; (with_reducible repeat (first | refine kn_ ?_ _ | refine blk_drew ?_ | refine ka_ ?_ _)); refine blk_far ?_ NB844_870.out _; (with_reducible repeat (first | refine kn_ ?_ _ | refine blk_drew ?_ | refine ka_ ?_ _)); refine blk_far ?_ NB844_870.out _; (with_reducible repeat (first | refine kn_ ?_ _ | refine blk_drew ?_ | refine ka_ ?_ _)); exact BK844.out) hb); have n5_ := amk (blk_below (g := gb857) (o := .cells #[.int .i64 t851, .int .i64 t852, .slice Ao22 t853.length co22] 35 (0, 0)) (by (with_reducible repeat (first | refine kn_ ?_ _ | refine blk_drew ?_ | refine ka_ ?_ _)); refine blk_far ?_ NB857_870.out _; (with_reducible repeat (first | refine kn_ ?_ _ | refine blk_drew ?_ | refine ka_ ?_ _)); refine blk_far ?_ NB857_870.out _; (with_reducible repeat (first | refine kn_ ?_ _ | refine blk_drew ?_ | refine ka_ ?_ _)); refine blk_far ?_ NB857_870.out _; (with_reducible repeat (first | refine kn_ ?_ _ | refine blk_drew ?_ | refine ka_ ?_ _)); exact BK857.out) hb); have n6_ := amk (blk_below (g := gb863) (o := .cells #[.int .i64 t858, .int .i64 t859, .slice Ao29 t860.length co29] 35 (0, 0)) (by (with_reducible repeat (first | refine kn_ ?_ _ | refine blk_drew ?_ | refine ka_ ?_ _)); refine blk_far ?_ NB863_870.out _; (with_reducible repeat (first | refine kn_ ?_ _ | refine blk_drew ?_ | refine ka_ ?_ _)); refine blk_far ?_ NB863_870.out _; (with_reducible repeat (first | refine kn_ ?_ _ | refine blk_drew ?_ | refine ka_ ?_ _)); refine blk_far ?_ NB863_870.out _; (with_reducible repeat (first | refine kn_ ?_ _ | refine blk_drew ?_ | refine ka_ ?_ _)); exact BK863.out) hb); have n7_ := amk (blk_below (g := gb870) (o := .cells #[.int .i64 t864, .int .i64 t865, .slice Ao36 t866.length co36] 35 (0, 0)) (by (with_reducible repeat (first | refine kn_ ?_ _ | refine blk_drew ?_ | refine ka_ ?_ _)); refine blk_put (cs := #[.int .i64 t864, .int .i64 t865, .slice none 0 0]) ?_ 2 _ rfl; (with_reducible repeat (first | refine kn_ ?_ _ | refine blk_drew ?_ | refine ka_ ?_ _)); refine blk_put (cs := #[.int .i64 t864, .int .i64 0, .slice none 0 0]) ?_ 1 _ rfl; (with_reducible repeat (first | refine kn_ ?_ _ | refine blk_drew ?_ | refine ka_ ?_ _)); refine blk_put (cs := #[.int .i64 0, .int .i64 0, .slice none 0 0]) ?_ 0 _ rfl; (with_reducible repeat (first | refine kn_ ?_ _ | refine blk_drew ?_ | refine ka_ ?_ _)); exact BK870.out) hb); have n8_ := amk (bp_ (by repeat (first | (with_reducible first | exact HB.out | apply ba_ | apply bn_ | apply bd_ | refine bs_ ?_ GE844.out | refine bs_ ?_ GE857.out | refine bs_ ?_ GE863.out | refine bs_ ?_ GE870.out) | exact HB.out)) hb); clear HO850; clear HO855; clear HO862; clear HO868; clear BK844; clear BK857; clear BK863; clear BK870; clear HB; have HO850 := n0_; have HO855 := n1_; have HO862 := n2_; have HO868 := n3_; have BK844 := n4_; have BK857 := n5_; have BK863 := n6_; have BK870 := n7_; have HB := n8_; clear n0_ n1_ n2_ n3_ n4_ n5_ n6_ n7_ n8_; (try clear hb); (try clear hb2); (try clear hk); (try clear hi)))
        go_meet
        case rel => exact ⟨_, (true), (by first | rfl | (simp; done) | (simp [*]; done)), H', ⟨by first | omega | exact Nat.le_refl _⟩, ⟨by (with_reducible repeat (first | apply Kd.R_alloc | apply Kd.R_drewN | apply Kd.R_drew)); exact Kd.R_mono HO855.out (fun _ hk => ⟨hk.1.2, hk.2⟩)⟩, ⟨by (with_reducible repeat (first | apply Kd.R_alloc | apply Kd.R_drewN | apply Kd.R_drew)); exact Kd.R_mono HO862.out (fun _ hk => ⟨hk.1.2, hk.2⟩)⟩, ⟨by (with_reducible repeat (first | apply Kd.R_alloc | apply Kd.R_drewN | apply Kd.R_drew)); exact Kd.R_mono HO868.out (fun _ hk => ⟨hk.1.2, hk.2⟩)⟩, ⟨by (with_reducible repeat (first | refine kn_ ?_ _ | refine blk_drew ?_ | refine ka_ ?_ _)); exact BK844.out⟩, ⟨by (with_reducible repeat (first | refine kn_ ?_ _ | refine blk_drew ?_ | refine ka_ ?_ _)); exact BK857.out⟩, ⟨by (with_reducible repeat (first | refine kn_ ?_ _ | refine blk_drew ?_ | refine ka_ ?_ _)); exact BK863.out⟩, ⟨by (with_reducible repeat (first | refine kn_ ?_ _ | refine blk_drew ?_ | refine ka_ ?_ _)); exact BK870.out⟩, ⟨by repeat (first | (with_reducible first | exact HB.out | apply ba_ | apply bn_ | apply bd_ | refine bs_ ?_ GE844.out | refine bs_ ?_ GE857.out | refine bs_ ?_ GE863.out | refine bs_ ?_ GE870.out) | exact HB.out)⟩⟩
    case rest =>
      clear HC11
      try clear c1; try clear c2; try clear p2; try clear c3; try clear c3b0; try clear c4; try clear c5; try clear c13; try clear c20; try clear c23; try clear c25; try clear c26; try clear c27; try clear c32; try clear c33; try clear c34; try clear c38; try clear c39; try clear c40; try clear c41; try clear c43; try clear c44; try clear c47; try clear c48; try clear c49; try clear c51; try clear c52; try clear hcz13_0; try clear hcz13_1; try clear hcz13_2; try clear hcz15_0; try clear hcz15_1; try clear hcz15_2; try clear hcz21_0; try clear hcz21_1; try clear hcz21_2; try clear hcz23_0; try clear hcz23_1; try clear hcz23_2; try clear hcz28_0; try clear hcz28_1; try clear hcz28_2; try clear hcz35_0; try clear hcz35_1; try clear hcz35_2; try clear hcz42_0; try clear hcz42_1; try clear hcz42_2; try clear hcz45_0; try clear hcz45_1; try clear hcz45_2; try clear hcz50_0; try clear hcz50_1; try clear hcz50_2; try clear hcz53_0; try clear hcz53_1; try clear hcz53_2; try clear hcz5_0; try clear hcz5_1; try clear hcz5_2; try clear hfz13_0; try clear hfz13_1; try clear hfz13_2; try clear hfz15_0; try clear hfz15_1; try clear hfz15_2; try clear hfz21_0; try clear hfz21_1; try clear hfz21_2; try clear hfz23_0; try clear hfz23_1; try clear hfz23_2; try clear hfz28_0; try clear hfz28_1; try clear hfz28_2; try clear hfz35_0; try clear hfz35_1; try clear hfz35_2; try clear hfz42_0; try clear hfz42_1; try clear hfz42_2; try clear hfz45_0; try clear hfz45_1; try clear hfz45_2; try clear hfz50_0; try clear hfz50_1; try clear hfz50_2; try clear hfz53_0; try clear hfz53_1; try clear hfz53_2; try clear hfz5_0; try clear hfz5_1; try clear hfz5_2
      obtain ⟨kq, x40_10, rfl, HA, HJ10, HO_858002, HO_864002, HO_871002, BK844, BK857, BK863, BK870, HB⟩ := hcut
      cases kq with
      | zero => exact absurd HA.out (by simp [laws_FnExactHarderPuzzle.j0])
      | succ kj10 =>
        have H := HA.out
        clear HA
        simp only [laws_FnExactHarderPuzzle.j0] at H
        by_cases c55 : x40_10 = true
        · subst c55
          have H1 : (some false) = some r := by rw [if_pos rfl] at H; exact H
          clear H
          have H := H1
          clear H1
          obtain rfl := Option.some.inj H
          go_wp2
          go_ret
          exact ⟨by first | rfl | (simp [errW_none, errW_some] <;> rfl) | (simp [*, errW_none, errW_some] <;> rfl), by repeat (first | (with_reducible first | exact HB.out | apply ba_ | apply bn_ | apply bd_ | refine bs_ ?_ GE844.out | refine bs_ ?_ GE857.out | refine bs_ ?_ GE863.out | refine bs_ ?_ GE870.out) | exact HB.out)⟩
        · replace c55 := Bool.eq_false_iff.mpr c55
          subst c55
          have H1 : ((laws_toPuzzle.f kj10 a0_0 a0_1 l0_2).bind fun bt872 => ((laws_eqPuzzle.f kj10 t858 t859 t860 bt872.1 bt872.2.1 bt872.2.2).bind fun t877 => (if t877 = true then ((laws_markPuzzle.f kj10 t858 t859 t860 1).bind fun bt878 => (if bt878.1 < 0 then (laws_FnExactHarderPuzzle.j1 kj10 t856 true a0_0 a0_1 l0_2 t851 t852 t853 t864 t865 t866) else ((laws_eqPuzzle.f kj10 t864 t865 t866 t851 t852 t853).bind fun t880 => (if t880 = true then (laws_FnExactHarderPuzzle.j1 kj10 t856 (t869 != t856) a0_0 a0_1 l0_2 t851 t852 t853 t864 t865 t866) else (laws_FnExactHarderPuzzle.j1 kj10 t856 true a0_0 a0_1 l0_2 t851 t852 t853 t864 t865 t866))))) else (some false)))) = some r := by rw [if_neg (show ¬ (false = true) by decide)] at H; exact H
          clear H
          have H := H1
          clear H1
          replace H := Option.bind_eq_some_iff.mp H
          obtain ⟨⟨t872, t873, t874⟩, A560, H⟩ := H
          replace H : ((laws_eqPuzzle.f kj10 t858 t859 t860 t872 t873 t874).bind fun t877 => (if t877 = true then ((laws_markPuzzle.f kj10 t858 t859 t860 1).bind fun bt878 => (if bt878.1 < 0 then (laws_FnExactHarderPuzzle.j1 kj10 t856 true a0_0 a0_1 l0_2 t851 t852 t853 t864 t865 t866) else ((laws_eqPuzzle.f kj10 t864 t865 t866 t851 t852 t853).bind fun t880 => (if t880 = true then (laws_FnExactHarderPuzzle.j1 kj10 t856 (t869 != t856) a0_0 a0_1 l0_2 t851 t852 t853 t864 t865 t866) else (laws_FnExactHarderPuzzle.j1 kj10 t856 true a0_0 a0_1 l0_2 t851 t852 t853 t864 t865 t866))))) else (some false))) = some r := H
          have A56 := amk A560
          clear A560
          replace H := Option.bind_eq_some_iff.mp H
          obtain ⟨t877, A570, H⟩ := H
          replace H : (if t877 = true then ((laws_markPuzzle.f kj10 t858 t859 t860 1).bind fun bt878 => (if bt878.1 < 0 then (laws_FnExactHarderPuzzle.j1 kj10 t856 true a0_0 a0_1 l0_2 t851 t852 t853 t864 t865 t866) else ((laws_eqPuzzle.f kj10 t864 t865 t866 t851 t852 t853).bind fun t880 => (if t880 = true then (laws_FnExactHarderPuzzle.j1 kj10 t856 (t869 != t856) a0_0 a0_1 l0_2 t851 t852 t853 t864 t865 t866) else (laws_FnExactHarderPuzzle.j1 kj10 t856 true a0_0 a0_1 l0_2 t851 t852 t853 t864 t865 t866))))) else (some false)) = some r := H
          have A57 := amk A570
          clear A570
          by_cases c58 : t877 = true
          · subst c58
            have H1 : ((laws_markPuzzle.f kj10 t858 t859 t860 1).bind fun bt878 => (if bt878.1 < 0 then (laws_FnExactHarderPuzzle.j1 kj10 t856 true a0_0 a0_1 l0_2 t851 t852 t853 t864 t865 t866) else ((laws_eqPuzzle.f kj10 t864 t865 t866 t851 t852 t853).bind fun t880 => (if t880 = true then (laws_FnExactHarderPuzzle.j1 kj10 t856 (t869 != t856) a0_0 a0_1 l0_2 t851 t852 t853 t864 t865 t866) else (laws_FnExactHarderPuzzle.j1 kj10 t856 true a0_0 a0_1 l0_2 t851 t852 t853 t864 t865 t866))))) = some r := by rw [if_pos rfl] at H; exact H
            clear H
            have H := H1
            clear H1
            replace H := Option.bind_eq_some_iff.mp H
            obtain ⟨⟨t878, t879⟩, A590, H⟩ := H
            replace H : (if t878 < 0 then (laws_FnExactHarderPuzzle.j1 kj10 t856 true a0_0 a0_1 l0_2 t851 t852 t853 t864 t865 t866) else ((laws_eqPuzzle.f kj10 t864 t865 t866 t851 t852 t853).bind fun t880 => (if t880 = true then (laws_FnExactHarderPuzzle.j1 kj10 t856 (t869 != t856) a0_0 a0_1 l0_2 t851 t852 t853 t864 t865 t866) else (laws_FnExactHarderPuzzle.j1 kj10 t856 true a0_0 a0_1 l0_2 t851 t852 t853 t864 t865 t866)))) = some r := H
            have A59 := amk A590
            clear A590
            have HC60 := amk H
            clear H
            try go_wp2
            have n0_ := amk (Kd.R_drew HO_858002.out)
            have n1_ := amk (Kd.R_drew HO_864002.out)
            have n2_ := amk (Kd.R_drew HO_871002.out)
            have n3_ := amk (blk_drew BK844.out)
            have n4_ := amk (blk_drew BK857.out)
            have n5_ := amk (blk_drew BK863.out)
            have n6_ := amk (blk_drew BK870.out)
            have n7_ := amk (bd_ HB.out)
            clear HO_858002
            clear HO_864002
            clear HO_871002
            clear BK844
            clear BK857
            clear BK863
            clear BK870
            clear HB
            have HO_858002 := n0_
            have HO_864002 := n1_
            have HO_871002 := n2_
            have BK844 := n3_
            have BK857 := n4_
            have BK863 := n5_
            have BK870 := n6_
            have HB := n7_
            clear n0_ n1_ n2_ n3_ n4_ n5_ n6_ n7_
            refine start_ (n := 5) (S := fun w' => w'.cell? ⟨gb863, 0, none⟩ = some (.int .i64 t858) ∧ w'.cell? ⟨gb863, 1, none⟩ = some (.int .i64 t859) ∧ w'.cell? ⟨gb863, 2, none⟩ = some (.slice Ao29 t860.length co29) ∧ w'.cell? ⟨gb844, 0, none⟩ = some (.int .i64 a0_0) ∧ w'.cell? ⟨gb844, 1, none⟩ = some (.int .i64 a0_1) ∧ w'.cell? ⟨gb844, 2, none⟩ = some (.slice A0_2 l0_2.length c0_2)) (ds := []) #[false, false, false, false, false] (by kernel_rfl) rfl rfl ⟨(blk_cell BK863.out 0).trans rfl, (blk_cell BK863.out 1).trans rfl, (blk_cell BK863.out 2).trans rfl, (blk_cell BK844.out 0).trans rfl, (blk_cell BK844.out 1).trans rfl, (blk_cell BK844.out 2).trans rfl⟩ (fun hHeld => ?_)
            generalize wc.drew = w61 at HO_858002 HO_864002 HO_871002 BK844 BK857 BK863 BK870 HB hHeld ⊢
            refine take_ (i := 0) (N := some 41) (v := ?_) (a' := ?_) #[true, false, false, false, false] rfl rfl (by kernel_rfl) (fun _ _ _ h => h) (Or.inl ⟨by rfl, ?_⟩) hHeld ?_ ?_
            rotate_left
            · rintro w' ⟨s0, s1, s2, s3, s4, s5⟩
              go_simp
              with_reducible rfl
            rotate_left
            · simp only [Act.put, List.setIfInBounds_toArray, List.set_cons_zero, List.set_cons_succ, i64_w, i32_w]
              rfl
            refine take_ (i := 1) (N := some 42) (v := ?_) (a' := ?_) #[true, true, false, false, false] rfl rfl (by kernel_rfl) (fun _ _ _ h => h) (Or.inl ⟨by rfl, ?_⟩) hHeld ?_ ?_
            rotate_left
            · rintro w' ⟨s0, s1, s2, s3, s4, s5⟩
              go_simp
              with_reducible rfl
            rotate_left
            · simp only [Act.put, List.setIfInBounds_toArray, List.set_cons_zero, List.set_cons_succ, i64_w, i32_w]
              rfl
            refine one_ (i := 2) (N := some 43) #[true, true, true, false, false] rfl rfl (by kernel_rfl) (by decide) (fun K hK => ?_)
            refine goes_ Try.func25 (by kernel_rfl) rfl #[.agg #[.int .i64 a0_0, .int .i64 a0_1, .slice A0_2 l0_2.length c0_2]] (by rfl) rfl rfl (by (try simp only [List.map_toArray, List.map_cons, List.map_nil]); first | done | rfl | (simp only [List.length_drop, List.length_take]; rfl)) ?_
            with_reducible refine (laws_toPuzzle.calls kj10 a0_0 a0_1 _ _ l0_2 t872 t873 t874 _ ?side1 ?side2 A56.out).mono ?_
            (case side1 => repeat (first | exact (Kd.C_below HR0_2.out HB.out) | (with_reducible refine Kd.C_alloc ?_ _) | (with_reducible refine Kd.C_drewN ?_ _) | (with_reducible refine Kd.C_drew ?_)))
            (case side2 => exact HC0_2.out)
            rintro e w62 ⟨v875, rfl, ho0, hb⟩
            refine ⟨_, rfl, ?_⟩
            have n0_ := amk (Kd.R_elder' (by (with_reducible repeat (first | apply Kd.R_alloc | apply Kd.R_drewN | apply Kd.R_drew)); exact HO_858002.out) (Kd.R_base ho0) hb)
            have n1_ := amk (Kd.R_elder' (by (with_reducible repeat (first | apply Kd.R_alloc | apply Kd.R_drewN | apply Kd.R_drew)); exact HO_864002.out) (Kd.R_base ho0) hb)
            have n2_ := amk (Kd.R_elder' (by (with_reducible repeat (first | apply Kd.R_alloc | apply Kd.R_drewN | apply Kd.R_drew)); exact HO_871002.out) (Kd.R_base ho0) hb)
            have n3_ := amk (Kd.R_lower (Kd.R_new' (Kd.R_new' (Kd.R_new' ho0 (Kd.R_lt (by (with_reducible repeat (first | apply Kd.R_alloc | apply Kd.R_drewN | apply Kd.R_drew)); exact HO_858002.out))) (Kd.R_lt (by (with_reducible repeat (first | apply Kd.R_alloc | apply Kd.R_drewN | apply Kd.R_drew)); exact HO_864002.out))) (Kd.R_lt (by (with_reducible repeat (first | apply Kd.R_alloc | apply Kd.R_drewN | apply Kd.R_drew)); exact HO_871002.out))) (below_size (by repeat (first | (with_reducible first | exact HB.out | apply ba_ | apply bn_ | apply bd_ | refine bs_ ?_ GE844.out | refine bs_ ?_ GE857.out | refine bs_ ?_ GE863.out | refine bs_ ?_ GE870.out) | exact HB.out))))
            have n4_ := amk (blk_below (g := gb844) (o := .cells #[.int .i64 a0_0, .int .i64 a0_1, .slice A0_2 l0_2.length c0_2] 43 (0, 0)) (by (with_reducible repeat (first | refine kn_ ?_ _ | refine blk_drew ?_ | refine ka_ ?_ _)); exact BK844.out) hb)
            have n5_ := amk (blk_below (g := gb857) (o := .cells #[.int .i64 t851, .int .i64 t852, .slice Ao22 t853.length co22] 35 (0, 0)) (by (with_reducible repeat (first | refine kn_ ?_ _ | refine blk_drew ?_ | refine ka_ ?_ _)); exact BK857.out) hb)
            have n6_ := amk (blk_below (g := gb863) (o := .cells #[.int .i64 t858, .int .i64 t859, .slice Ao29 t860.length co29] 35 (0, 0)) (by (with_reducible repeat (first | refine kn_ ?_ _ | refine blk_drew ?_ | refine ka_ ?_ _)); exact BK863.out) hb)
            have n7_ := amk (blk_below (g := gb870) (o := .cells #[.int .i64 t864, .int .i64 t865, .slice Ao36 t866.length co36] 35 (0, 0)) (by (with_reducible repeat (first | refine kn_ ?_ _ | refine blk_drew ?_ | refine ka_ ?_ _)); exact BK870.out) hb)
            have n8_ := amk (bp_ (by repeat (first | (with_reducible first | exact HB.out | apply ba_ | apply bn_ | apply bd_ | refine bs_ ?_ GE844.out | refine bs_ ?_ GE857.out | refine bs_ ?_ GE863.out | refine bs_ ?_ GE870.out) | exact HB.out)) hb)
            clear HO_858002
            clear HO_864002
            clear HO_871002
            clear BK844
            clear BK857
            clear BK863
            clear BK870
            clear HB
            have HO_858002 := n0_
            have HO_864002 := n1_
            have HO_871002 := n2_
            have HO876 := n3_
            have BK844 := n4_
            have BK857 := n5_
            have BK863 := n6_
            have BK870 := n7_
            have HB := n8_
            clear n0_ n1_ n2_ n3_ n4_ n5_ n6_ n7_ n8_
            (try clear hb)
            (try clear hb2)
            (try clear hk)
            (try clear hi)
            (try clear ho0)
            obtain ⟨Ao63, co63, eo63⟩ := Kd.R_slice HO876.out
            (first | subst eo63 | (injection eo63 with f1_ f2_ f3_; have f4_ := f1_.symm; have f5_ := f3_.symm; clear f1_ f2_ f3_; subst f4_; subst f5_))
            refine hK.out _ _ ⟨(blk_cell BK863.out 0).trans rfl, (blk_cell BK863.out 1).trans rfl, (blk_cell BK863.out 2).trans rfl, (blk_cell BK844.out 0).trans rfl, (blk_cell BK844.out 1).trans rfl, (blk_cell BK844.out 2).trans rfl⟩ (fun hHeld => ?_)
            clear hK K
            refine norm_ (a' := ?_) ?_ ?_
            rotate_left
            · show Act.put _ (some 43) _ = _
              simp only [Act.put, List.setIfInBounds_toArray, List.set_cons_zero, List.set_cons_succ, i64_w, i32_w]
              rfl
            refine one_ (i := 3) (N := some 44) #[true, true, true, true, false] rfl rfl (by kernel_rfl) (by decide) (fun K hK => ?_)
            refine goes_ Try.func20 (by kernel_rfl) rfl #[.agg #[.int .i64 t858, .int .i64 t859, .slice Ao29 t860.length co29], .agg #[.int .i64 t872, .int .i64 t873, .slice Ao63 t874.length co63]] (by rfl) rfl rfl (by (try simp only [List.map_toArray, List.map_cons, List.map_nil]); first | done | rfl | (simp only [List.length_drop, List.length_take]; rfl)) ?_
            with_reducible refine (laws_eqPuzzle.calls kj10 t858 t859 _ _ t860 t872 t873 _ _ t874 true _ ?side1 ?side2 ?side3 ?side4 A57.out).mono ?_
            (case side1 => repeat (first | exact (Kd.R_reads' HO_864002.out).2.2 | (with_reducible refine Kd.C_alloc ?_ _) | (with_reducible refine Kd.C_drewN ?_ _) | (with_reducible refine Kd.C_drew ?_)))
            (case side2 => exact (Kd.R_reads' HO_864002.out).2.1)
            (case side3 => repeat (first | exact (Kd.R_reads' HO876.out).2.2 | (with_reducible refine Kd.C_alloc ?_ _) | (with_reducible refine Kd.C_drewN ?_ _) | (with_reducible refine Kd.C_drew ?_)))
            (case side4 => exact (Kd.R_reads' HO876.out).2.1)
            rintro e w64 ⟨rfl, hb⟩
            refine ⟨_, rfl, ?_⟩
            have n0_ := amk (Kd.R_below (by (with_reducible repeat (first | apply Kd.R_alloc | apply Kd.R_drewN | apply Kd.R_drew)); exact HO_858002.out) hb)
            have n1_ := amk (Kd.R_below (by (with_reducible repeat (first | apply Kd.R_alloc | apply Kd.R_drewN | apply Kd.R_drew)); exact HO_864002.out) hb)
            have n2_ := amk (Kd.R_below (by (with_reducible repeat (first | apply Kd.R_alloc | apply Kd.R_drewN | apply Kd.R_drew)); exact HO_871002.out) hb)
            have n3_ := amk (Kd.R_below (by (with_reducible repeat (first | apply Kd.R_alloc | apply Kd.R_drewN | apply Kd.R_drew)); exact HO876.out) hb)
            have n4_ := amk (blk_below (g := gb844) (o := .cells #[.int .i64 a0_0, .int .i64 a0_1, .slice A0_2 l0_2.length c0_2] 43 (0, 0)) (by (with_reducible repeat (first | refine kn_ ?_ _ | refine blk_drew ?_ | refine ka_ ?_ _)); exact BK844.out) hb)
            have n5_ := amk (blk_below (g := gb857) (o := .cells #[.int .i64 t851, .int .i64 t852, .slice Ao22 t853.length co22] 35 (0, 0)) (by (with_reducible repeat (first | refine kn_ ?_ _ | refine blk_drew ?_ | refine ka_ ?_ _)); exact BK857.out) hb)
            have n6_ := amk (blk_below (g := gb863) (o := .cells #[.int .i64 t858, .int .i64 t859, .slice Ao29 t860.length co29] 35 (0, 0)) (by (with_reducible repeat (first | refine kn_ ?_ _ | refine blk_drew ?_ | refine ka_ ?_ _)); exact BK863.out) hb)
            have n7_ := amk (blk_below (g := gb870) (o := .cells #[.int .i64 t864, .int .i64 t865, .slice Ao36 t866.length co36] 35 (0, 0)) (by (with_reducible repeat (first | refine kn_ ?_ _ | refine blk_drew ?_ | refine ka_ ?_ _)); exact BK870.out) hb)
            have n8_ := amk (bp_ (by repeat (first | (with_reducible first | exact HB.out | apply ba_ | apply bn_ | apply bd_ | refine bs_ ?_ GE844.out | refine bs_ ?_ GE857.out | refine bs_ ?_ GE863.out | refine bs_ ?_ GE870.out) | exact HB.out)) hb)
            clear HO_858002
            clear HO_864002
            clear HO_871002
            clear HO876
            clear BK844
            clear BK857
            clear BK863
            clear BK870
            clear HB
            have HO_858002 := n0_
            have HO_864002 := n1_
            have HO_871002 := n2_
            have HO876 := n3_
            have BK844 := n4_
            have BK857 := n5_
            have BK863 := n6_
            have BK870 := n7_
            have HB := n8_
            clear n0_ n1_ n2_ n3_ n4_ n5_ n6_ n7_ n8_
            (try clear hb)
            (try clear hb2)
            (try clear hk)
            (try clear hi)
            refine hK.out _ _ ⟨(blk_cell BK863.out 0).trans rfl, (blk_cell BK863.out 1).trans rfl, (blk_cell BK863.out 2).trans rfl, (blk_cell BK844.out 0).trans rfl, (blk_cell BK844.out 1).trans rfl, (blk_cell BK844.out 2).trans rfl⟩ (fun hHeld => ?_)
            clear hK K
            refine norm_ (a' := ?_) ?_ ?_
            rotate_left
            · show Act.put _ (some 44) _ = _
              simp only [Act.put, List.setIfInBounds_toArray, List.set_cons_zero, List.set_cons_succ, i64_w, i32_w]
              rfl
            refine pure_ (i := 4) (N := some 45) (v := ?_) (a' := ?_) #[true, true, true, true, true] rfl rfl (by kernel_rfl) (fun _ _ _ h => h) (Or.inl ⟨by rfl, ?_⟩) ?_ ?_
            rotate_left
            · intro w'
              go_simp
              with_reducible rfl
            rotate_left
            · simp only [Act.put, List.setIfInBounds_toArray, List.set_cons_zero, List.set_cons_succ, i64_w, i32_w]
              rfl
            refine done_ (by kernel_rfl) ?_
            have hnb65 := NB863_844.out
            have hnc65 := NB844_863.out
            have hnb66 := NB863_857.out
            have hnc66 := NB857_863.out
            have hnb67 := NB863_870.out
            have hnc67 := NB870_863.out
            have hcz68_0 : w64.cell? ⟨gb863, 0, none⟩ = some (.int .i64 t858) := (blk_cell BK863.out 0).trans rfl
            have hcz68_1 : w64.cell? ⟨gb863, 1, none⟩ = some (.int .i64 t859) := (blk_cell BK863.out 1).trans rfl
            have hcz68_2 : w64.cell? ⟨gb863, 2, none⟩ = some (.slice Ao29 t860.length co29) := (blk_cell BK863.out 2).trans rfl
            have hfz68_0 := blk_frozen BK863.out 0
            have hfz68_1 := blk_frozen BK863.out 1
            have hfz68_2 := blk_frozen BK863.out 2
            go_upto_region 14 with (first | ((with_reducible refine gate_callee (f := 21) rfl ?_); refine goesL_ (some 48) rfl rfl Try.func21 (by kernel_rfl) rfl #[.agg #[.int .i64 t858, .int .i64 t859, .slice Ao29 t860.length co29], .int .i64 1] rfl (by (try simp only [List.map_toArray, List.map_cons, List.map_nil]); first | done | rfl | (simp only [List.length_drop, List.length_take]; rfl)) ?_; (with_reducible refine (laws_markPuzzle.calls kj10 t858 t859 (fun k_ => some k_ = (.slice Ao29 t860.length co29 : Value).ownBlock) (.slice Ao29 t860.length co29) t860 1 t878 t879 w _ ?side1 ?side2 A59.out).mono ?_); (case side1 => repeat (first | (with_reducible first | exact HB.out | apply ba_ | apply bn_ | apply bd_ | refine bs_ ?_ GE844.out | refine bs_ ?_ GE857.out | refine bs_ ?_ GE863.out | refine bs_ ?_ GE870.out) | exact HB.out)); (case side2 => exact Kd.R_tight rfl HO_864002.out); rintro e w69 ⟨rfl, hy0, hb, hkp⟩; refine ⟨_, rfl, ?_⟩; have n0_ := amk (Kd.R_mono (ok' := fun k_ => some k_ ≠ (.slice Ao29 t860.length co29 : Value).ownBlock ∧ some k_ ≠ (.slice Ao36 t866.length co36 : Value).ownBlock ∧ some k_ ≠ (.slice Ao63 t874.length co63 : Value).ownBlock) (Kd.R_keptB (HO_858002.out) hkp (fun k_ hk_ hs_ => (hk_.1.1) hs_)) (fun k_ hk_ => ⟨hk_.1.1.1, hk_.1.1.2, hk_.1.2⟩)); have n1_ := amk (Kd.R_reok rfl hy0 (fun k_ e_ => HO_864002.out.1 k_ e_)); have n2_ := amk (Kd.R_mono (ok' := fun k_ => some k_ ≠ (.slice Ao22 t853.length co22 : Value).ownBlock ∧ some k_ ≠ (.slice Ao29 t860.length co29 : Value).ownBlock ∧ some k_ ≠ (.slice Ao63 t874.length co63 : Value).ownBlock) (Kd.R_keptB (HO_871002.out) hkp (fun k_ hk_ hs_ => (hk_.1.2) hs_)) (fun k_ hk_ => ⟨hk_.1.1.1, hk_.1.1.2, hk_.1.2⟩)); have n3_ := amk (blk_kept (by (with_reducible repeat (first | refine kn_ ?_ _ | refine blk_drew ?_ | refine ka_ ?_ _)); exact BK844.out) hkp (fun hs_ => (fun e_ => (Kd.R_ne HO_864002.out BK844.out (by decide)) e_) hs_)); have n4_ := amk (blk_kept (by (with_reducible repeat (first | refine kn_ ?_ _ | refine blk_drew ?_ | refine ka_ ?_ _)); exact BK857.out) hkp (fun hs_ => (fun e_ => (Kd.R_ne HO_864002.out BK857.out (by decide)) e_) hs_)); have n5_ := amk (blk_kept (by (with_reducible repeat (first | refine kn_ ?_ _ | refine blk_drew ?_ | refine ka_ ?_ _)); exact BK863.out) hkp (fun hs_ => (fun e_ => (Kd.R_ne HO_864002.out BK863.out (by decide)) e_) hs_)); have n6_ := amk (blk_kept (by (with_reducible repeat (first | refine kn_ ?_ _ | refine blk_drew ?_ | refine ka_ ?_ _)); exact BK870.out) hkp (fun hs_ => (fun e_ => (Kd.R_ne HO_864002.out BK870.out (by decide)) e_) hs_)); have n7_ := amk (Kd.R_mono (ok' := fun k_ => some k_ ≠ (.slice Ao22 t853.length co22 : Value).ownBlock ∧ some k_ ≠ (.slice Ao29 t860.length co29 : Value).ownBlock ∧ some k_ ≠ (.slice Ao36 t866.length co36 : Value).ownBlock) (Kd.R_keptB (HO876.out) hkp (fun k_ hk_ hs_ => (hk_.1.2) hs_)) (fun k_ hk_ => ⟨hk_.1.1.1.2, hk_.1.1.2, hk_.1.2⟩)); have n8_ := amk (hb); clear HO_858002; clear HO_864002; clear HO_871002; clear BK844; clear BK857; clear BK863; clear BK870; clear HO876; clear HB; have HO_858002 := n0_; have HO_864002 := n1_; have HO_871002 := n2_; have BK844 := n3_; have BK857 := n4_; have BK863 := n5_; have BK870 := n6_; have HO876 := n7_; have HB := n8_; clear n0_ n1_ n2_ n3_ n4_ n5_ n6_ n7_ n8_; (try clear hb); (try clear hkp); (try clear hy0)))
            (try simp only [Act.put, List.setIfInBounds_toArray, List.set_cons_zero, List.set_cons_succ])
            go_cut [61] (fun v61 wc => ∃ (kq : Nat) (x61_59 : Bool), v61 = .bool x61_59 ∧ Aside0 (laws_FnExactHarderPuzzle.j1 kq t856 x61_59 a0_0 a0_1 l0_2 t851 t852 t853 t864 t865 t866 = some r) ∧ Aside0 (kq ≤ kj10) ∧ Aside0 (Kd.R k30 30 wc w.heap.size (fun k_ => some k_ ≠ ((.slice Ao29 t860.length co29) : Value).ownBlock ∧ some k_ ≠ ((.slice Ao36 t866.length co36) : Value).ownBlock) (.slice Ao22 t853.length co22) t853) ∧ Aside0 (Kd.R k30 30 wc w.heap.size (fun k_ => some k_ ≠ ((.slice Ao22 t853.length co22) : Value).ownBlock ∧ some k_ ≠ ((.slice Ao36 t866.length co36) : Value).ownBlock) (.slice Ao29 t860.length co29) t879) ∧ Aside0 (Kd.R k30 30 wc w.heap.size (fun k_ => some k_ ≠ ((.slice Ao22 t853.length co22) : Value).ownBlock ∧ some k_ ≠ ((.slice Ao29 t860.length co29) : Value).ownBlock) (.slice Ao36 t866.length co36) t866) ∧ Aside0 (wc.heap[gb844]? = some (.cells #[.int .i64 a0_0, .int .i64 a0_1, (.slice A0_2 l0_2.length c0_2)] 43 (0, 0))) ∧ Aside0 (wc.heap[gb857]? = some (.cells #[.int .i64 t851, .int .i64 t852, (.slice Ao22 t853.length co22)] 35 (0, 0))) ∧ Aside0 (wc.heap[gb863]? = some (.cells #[.int .i64 t858, .int .i64 t859, (.slice Ao29 t860.length co29)] 35 (0, 0))) ∧ Aside0 (wc.heap[gb870]? = some (.cells #[.int .i64 t864, .int .i64 t865, (.slice Ao36 t866.length co36)] 35 (0, 0))) ∧ Aside0 (Below w.heap.size w wc))
            case first =>
              have H := HC60.out
              clear HC60
              by_cases c70 : t878 < 0
              · rw [if_pos c70] at H
                have c70b0 : decide (t878 < 0) = true := decide_eq_true c70
                clear c70
                (first | rw [c70b0] | (simp only [i64_w, i32_w]; rw [c70b0]) | skip)
                have H' := amk H
                clear H
                go_wp2
                go_meet
                case rel => exact ⟨_, (true), (by first | rfl | (simp; done) | (simp [*]; done)), H', ⟨by have := HJ10.out; first | omega | exact Nat.le_refl _⟩, ⟨by (with_reducible repeat (first | apply Kd.R_alloc | apply Kd.R_drewN | apply Kd.R_drew)); exact Kd.R_mono HO_858002.out (fun _ hk => ⟨hk.1, hk.2.1⟩)⟩, ⟨by (with_reducible repeat (first | apply Kd.R_alloc | apply Kd.R_drewN | apply Kd.R_drew)); exact Kd.R_mono HO_864002.out (fun _ hk => ⟨hk.1.1, hk.1.2⟩)⟩, ⟨by (with_reducible repeat (first | apply Kd.R_alloc | apply Kd.R_drewN | apply Kd.R_drew)); exact Kd.R_mono HO_871002.out (fun _ hk => ⟨hk.1, hk.2.1⟩)⟩, ⟨by (with_reducible repeat (first | refine kn_ ?_ _ | refine blk_drew ?_ | refine ka_ ?_ _)); exact BK844.out⟩, ⟨by (with_reducible repeat (first | refine kn_ ?_ _ | refine blk_drew ?_ | refine ka_ ?_ _)); exact BK857.out⟩, ⟨by (with_reducible repeat (first | refine kn_ ?_ _ | refine blk_drew ?_ | refine ka_ ?_ _)); exact BK863.out⟩, ⟨by (with_reducible repeat (first | refine kn_ ?_ _ | refine blk_drew ?_ | refine ka_ ?_ _)); exact BK870.out⟩, ⟨by repeat (first | (with_reducible first | exact HB.out | apply ba_ | apply bn_ | apply bd_ | refine bs_ ?_ GE844.out | refine bs_ ?_ GE857.out | refine bs_ ?_ GE863.out | refine bs_ ?_ GE870.out) | exact HB.out)⟩⟩
              · rw [if_neg c70] at H
                have c70b0 : decide (t878 < 0) = false := decide_eq_false c70
                clear c70
                (first | rw [c70b0] | (simp only [i64_w, i32_w]; rw [c70b0]) | skip)
                replace H := Option.bind_eq_some_iff.mp H
                obtain ⟨t880, A710, H⟩ := H
                replace H : (if t880 = true then (laws_FnExactHarderPuzzle.j1 kj10 t856 (t869 != t856) a0_0 a0_1 l0_2 t851 t852 t853 t864 t865 t866) else (laws_FnExactHarderPuzzle.j1 kj10 t856 true a0_0 a0_1 l0_2 t851 t852 t853 t864 t865 t866)) = some r := H
                have A71 := amk A710
                clear A710
                by_cases c72 : t880 = true
                · subst c72
                  have H1 : (laws_FnExactHarderPuzzle.j1 kj10 t856 (t869 != t856) a0_0 a0_1 l0_2 t851 t852 t853 t864 t865 t866) = some r := by rw [if_pos rfl] at H; exact H
                  clear H
                  have H := H1
                  clear H1
                  have H' := amk H
                  clear H
                  have hnb73 := NB870_844.out
                  have hnc73 := NB844_870.out
                  have hnb74 := NB870_857.out
                  have hnc74 := NB857_870.out
                  have hnb75 := NB870_863.out
                  have hnc75 := NB863_870.out
                  have hcz76_0 : w69.cell? ⟨gb870, 0, none⟩ = some (.int .i64 t864) := (blk_cell BK870.out 0).trans rfl
                  have hcz76_1 : w69.cell? ⟨gb870, 1, none⟩ = some (.int .i64 t865) := (blk_cell BK870.out 1).trans rfl
                  have hcz76_2 : w69.cell? ⟨gb870, 2, none⟩ = some (.slice Ao36 t866.length co36) := (blk_cell BK870.out 2).trans rfl
                  have hfz76_0 := blk_frozen BK870.out 0
                  have hfz76_1 := blk_frozen BK870.out 1
                  have hfz76_2 := blk_frozen BK870.out 2
                  have hnb77 := NB857_844.out
                  have hnc77 := NB844_857.out
                  have hnb78 := NB857_863.out
                  have hnc78 := NB863_857.out
                  have hcz79_0 : w69.cell? ⟨gb857, 0, none⟩ = some (.int .i64 t851) := (blk_cell BK857.out 0).trans rfl
                  have hcz79_1 : w69.cell? ⟨gb857, 1, none⟩ = some (.int .i64 t852) := (blk_cell BK857.out 1).trans rfl
                  have hcz79_2 : w69.cell? ⟨gb857, 2, none⟩ = some (.slice Ao22 t853.length co22) := (blk_cell BK857.out 2).trans rfl
                  have hfz79_0 := blk_frozen BK857.out 0
                  have hfz79_1 := blk_frozen BK857.out 1
                  have hfz79_2 := blk_frozen BK857.out 2
                  go_wp2_with (first | (go_at_call 20; (with_reducible refine (laws_eqPuzzle.calls kj10 t864 t865 _ _ t866 t851 t852 _ _ t853 true _ ?side1 ?side2 ?side3 ?side4 A71.out).mono ?_); (case side1 => repeat (first | exact (Kd.R_reads' HO_871002.out).2.2 | (with_reducible refine Kd.C_alloc ?_ _) | (with_reducible refine Kd.C_drewN ?_ _) | (with_reducible refine Kd.C_drew ?_))); (case side2 => exact (Kd.R_reads' HO_871002.out).2.1); (case side3 => repeat (first | exact (Kd.R_reads' HO_858002.out).2.2 | (with_reducible refine Kd.C_alloc ?_ _) | (with_reducible refine Kd.C_drewN ?_ _) | (with_reducible refine Kd.C_drew ?_))); (case side4 => exact (Kd.R_reads' HO_858002.out).2.1); rintro e w80 ⟨rfl, hb⟩; have n0_ := amk (Kd.R_below (by (with_reducible repeat (first | apply Kd.R_alloc | apply Kd.R_drewN | apply Kd.R_drew)); exact HO_858002.out) hb); have n1_ := amk (Kd.R_below (by (with_reducible repeat (first | apply Kd.R_alloc | apply Kd.R_drewN | apply Kd.R_drew)); exact HO_864002.out) hb); have n2_ := amk (Kd.R_below (by (with_reducible repeat (first | apply Kd.R_alloc | apply Kd.R_drewN | apply Kd.R_drew)); exact HO_871002.out) hb); have n3_ := amk (Kd.R_below (by (with_reducible repeat (first | apply Kd.R_alloc | apply Kd.R_drewN | apply Kd.R_drew)); exact HO876.out) hb); have n4_ := amk (blk_below (g := gb844) (o := .cells #[.int .i64 a0_0, .int .i64 a0_1, .slice A0_2 l0_2.length c0_2] 43 (0, 0)) (by (with_reducible repeat (first | refine kn_ ?_ _ | refine blk_drew ?_ | refine ka_ ?_ _)); exact BK844.out) hb); have n5_ := amk (blk_below (g := gb857) (o := .cells #[.int .i64 t851, .int .i64 t852, .slice Ao22 t853.length co22] 35 (0, 0)) (by (with_reducible repeat (first | refine kn_ ?_ _ | refine blk_drew ?_ | refine ka_ ?_ _)); exact BK857.out) hb); have n6_ := amk (blk_below (g := gb863) (o := .cells #[.int .i64 t858, .int .i64 t859, .slice Ao29 t860.length co29] 35 (0, 0)) (by (with_reducible repeat (first | refine kn_ ?_ _ | refine blk_drew ?_ | refine ka_ ?_ _)); exact BK863.out) hb); have n7_ := amk (blk_below (g := gb870) (o := .cells #[.int .i64 t864, .int .i64 t865, .slice Ao36 t866.length co36] 35 (0, 0)) (by (with_reducible repeat (first | refine kn_ ?_ _ | refine blk_drew ?_ | refine ka_ ?_ _)); exact BK870.out) hb); have n8_ := amk (bp_ (by repeat (first | (with_reducible first | exact HB.out | apply ba_ | apply bn_ | apply bd_ | refine bs_ ?_ GE844.out | refine bs_ ?_ GE857.out | refine bs_ ?_ GE863.out | refine bs_ ?_ GE870.out) | exact HB.out)) hb); clear HO_858002; clear HO_864002; clear HO_871002; clear HO876; clear BK844; clear BK857; clear BK863; clear BK870; clear HB; have HO_858002 := n0_; have HO_864002 := n1_; have HO_871002 := n2_; have HO876 := n3_; have BK844 := n4_; have BK857 := n5_; have BK863 := n6_; have BK870 := n7_; have HB := n8_; clear n0_ n1_ n2_ n3_ n4_ n5_ n6_ n7_ n8_; (try clear hb); (try clear hb2); (try clear hk); (try clear hi)))
                  go_meet
                  case rel => exact ⟨_, ((t869 != t856)), (by first | rfl | (simp; done) | (simp [*]; done)), H', ⟨by have := HJ10.out; first | omega | exact Nat.le_refl _⟩, ⟨by (with_reducible repeat (first | apply Kd.R_alloc | apply Kd.R_drewN | apply Kd.R_drew)); exact Kd.R_mono HO_858002.out (fun _ hk => ⟨hk.1, hk.2.1⟩)⟩, ⟨by (with_reducible repeat (first | apply Kd.R_alloc | apply Kd.R_drewN | apply Kd.R_drew)); exact Kd.R_mono HO_864002.out (fun _ hk => ⟨hk.1.1, hk.1.2⟩)⟩, ⟨by (with_reducible repeat (first | apply Kd.R_alloc | apply Kd.R_drewN | apply Kd.R_drew)); exact Kd.R_mono HO_871002.out (fun _ hk => ⟨hk.1, hk.2.1⟩)⟩, ⟨by (with_reducible repeat (first | refine kn_ ?_ _ | refine blk_drew ?_ | refine ka_ ?_ _)); exact BK844.out⟩, ⟨by (with_reducible repeat (first | refine kn_ ?_ _ | refine blk_drew ?_ | refine ka_ ?_ _)); exact BK857.out⟩, ⟨by (with_reducible repeat (first | refine kn_ ?_ _ | refine blk_drew ?_ | refine ka_ ?_ _)); exact BK863.out⟩, ⟨by (with_reducible repeat (first | refine kn_ ?_ _ | refine blk_drew ?_ | refine ka_ ?_ _)); exact BK870.out⟩, ⟨by repeat (first | (with_reducible first | exact HB.out | apply ba_ | apply bn_ | apply bd_ | refine bs_ ?_ GE844.out | refine bs_ ?_ GE857.out | refine bs_ ?_ GE863.out | refine bs_ ?_ GE870.out) | exact HB.out)⟩⟩
                · replace c72 := Bool.eq_false_iff.mpr c72
                  subst c72
                  have H1 : (laws_FnExactHarderPuzzle.j1 kj10 t856 true a0_0 a0_1 l0_2 t851 t852 t853 t864 t865 t866) = some r := by rw [if_neg (show ¬ (false = true) by decide)] at H; exact H
                  clear H
                  have H := H1
                  clear H1
                  have H' := amk H
                  clear H
                  have hnb81 := NB870_844.out
                  have hnc81 := NB844_870.out
                  have hnb82 := NB870_857.out
                  have hnc82 := NB857_870.out
                  have hnb83 := NB870_863.out
                  have hnc83 := NB863_870.out
                  have hcz84_0 : w69.cell? ⟨gb870, 0, none⟩ = some (.int .i64 t864) := (blk_cell BK870.out 0).trans rfl
                  have hcz84_1 : w69.cell? ⟨gb870, 1, none⟩ = some (.int .i64 t865) := (blk_cell BK870.out 1).trans rfl
                  have hcz84_2 : w69.cell? ⟨gb870, 2, none⟩ = some (.slice Ao36 t866.length co36) := (blk_cell BK870.out 2).trans rfl
                  have hfz84_0 := blk_frozen BK870.out 0
                  have hfz84_1 := blk_frozen BK870.out 1
                  have hfz84_2 := blk_frozen BK870.out 2
                  have hnb85 := NB857_844.out
                  have hnc85 := NB844_857.out
                  have hnb86 := NB857_863.out
                  have hnc86 := NB863_857.out
                  have hcz87_0 : w69.cell? ⟨gb857, 0, none⟩ = some (.int .i64 t851) := (blk_cell BK857.out 0).trans rfl
                  have hcz87_1 : w69.cell? ⟨gb857, 1, none⟩ = some (.int .i64 t852) := (blk_cell BK857.out 1).trans rfl
                  have hcz87_2 : w69.cell? ⟨gb857, 2, none⟩ = some (.slice Ao22 t853.length co22) := (blk_cell BK857.out 2).trans rfl
                  have hfz87_0 := blk_frozen BK857.out 0
                  have hfz87_1 := blk_frozen BK857.out 1
                  have hfz87_2 := blk_frozen BK857.out 2
                  go_wp2_with (first | (go_at_call 20; (with_reducible refine (laws_eqPuzzle.calls kj10 t864 t865 _ _ t866 t851 t852 _ _ t853 false _ ?side1 ?side2 ?side3 ?side4 A71.out).mono ?_); (case side1 => repeat (first | exact (Kd.R_reads' HO_871002.out).2.2 | (with_reducible refine Kd.C_alloc ?_ _) | (with_reducible refine Kd.C_drewN ?_ _) | (with_reducible refine Kd.C_drew ?_))); (case side2 => exact (Kd.R_reads' HO_871002.out).2.1); (case side3 => repeat (first | exact (Kd.R_reads' HO_858002.out).2.2 | (with_reducible refine Kd.C_alloc ?_ _) | (with_reducible refine Kd.C_drewN ?_ _) | (with_reducible refine Kd.C_drew ?_))); (case side4 => exact (Kd.R_reads' HO_858002.out).2.1); rintro e w88 ⟨rfl, hb⟩; have n0_ := amk (Kd.R_below (by (with_reducible repeat (first | apply Kd.R_alloc | apply Kd.R_drewN | apply Kd.R_drew)); exact HO_858002.out) hb); have n1_ := amk (Kd.R_below (by (with_reducible repeat (first | apply Kd.R_alloc | apply Kd.R_drewN | apply Kd.R_drew)); exact HO_864002.out) hb); have n2_ := amk (Kd.R_below (by (with_reducible repeat (first | apply Kd.R_alloc | apply Kd.R_drewN | apply Kd.R_drew)); exact HO_871002.out) hb); have n3_ := amk (Kd.R_below (by (with_reducible repeat (first | apply Kd.R_alloc | apply Kd.R_drewN | apply Kd.R_drew)); exact HO876.out) hb); have n4_ := amk (blk_below (g := gb844) (o := .cells #[.int .i64 a0_0, .int .i64 a0_1, .slice A0_2 l0_2.length c0_2] 43 (0, 0)) (by (with_reducible repeat (first | refine kn_ ?_ _ | refine blk_drew ?_ | refine ka_ ?_ _)); exact BK844.out) hb); have n5_ := amk (blk_below (g := gb857) (o := .cells #[.int .i64 t851, .int .i64 t852, .slice Ao22 t853.length co22] 35 (0, 0)) (by (with_reducible repeat (first | refine kn_ ?_ _ | refine blk_drew ?_ | refine ka_ ?_ _)); exact BK857.out) hb); have n6_ := amk (blk_below (g := gb863) (o := .cells #[.int .i64 t858, .int .i64 t859, .slice Ao29 t860.length co29] 35 (0, 0)) (by (with_reducible repeat (first | refine kn_ ?_ _ | refine blk_drew ?_ | refine ka_ ?_ _)); exact BK863.out) hb); have n7_ := amk (blk_below (g := gb870) (o := .cells #[.int .i64 t864, .int .i64 t865, .slice Ao36 t866.length co36] 35 (0, 0)) (by (with_reducible repeat (first | refine kn_ ?_ _ | refine blk_drew ?_ | refine ka_ ?_ _)); exact BK870.out) hb); have n8_ := amk (bp_ (by repeat (first | (with_reducible first | exact HB.out | apply ba_ | apply bn_ | apply bd_ | refine bs_ ?_ GE844.out | refine bs_ ?_ GE857.out | refine bs_ ?_ GE863.out | refine bs_ ?_ GE870.out) | exact HB.out)) hb); clear HO_858002; clear HO_864002; clear HO_871002; clear HO876; clear BK844; clear BK857; clear BK863; clear BK870; clear HB; have HO_858002 := n0_; have HO_864002 := n1_; have HO_871002 := n2_; have HO876 := n3_; have BK844 := n4_; have BK857 := n5_; have BK863 := n6_; have BK870 := n7_; have HB := n8_; clear n0_ n1_ n2_ n3_ n4_ n5_ n6_ n7_ n8_; (try clear hb); (try clear hb2); (try clear hk); (try clear hi)))
                  go_meet
                  case rel => exact ⟨_, (true), (by first | rfl | (simp; done) | (simp [*]; done)), H', ⟨by have := HJ10.out; first | omega | exact Nat.le_refl _⟩, ⟨by (with_reducible repeat (first | apply Kd.R_alloc | apply Kd.R_drewN | apply Kd.R_drew)); exact Kd.R_mono HO_858002.out (fun _ hk => ⟨hk.1, hk.2.1⟩)⟩, ⟨by (with_reducible repeat (first | apply Kd.R_alloc | apply Kd.R_drewN | apply Kd.R_drew)); exact Kd.R_mono HO_864002.out (fun _ hk => ⟨hk.1.1, hk.1.2⟩)⟩, ⟨by (with_reducible repeat (first | apply Kd.R_alloc | apply Kd.R_drewN | apply Kd.R_drew)); exact Kd.R_mono HO_871002.out (fun _ hk => ⟨hk.1, hk.2.1⟩)⟩, ⟨by (with_reducible repeat (first | refine kn_ ?_ _ | refine blk_drew ?_ | refine ka_ ?_ _)); exact BK844.out⟩, ⟨by (with_reducible repeat (first | refine kn_ ?_ _ | refine blk_drew ?_ | refine ka_ ?_ _)); exact BK857.out⟩, ⟨by (with_reducible repeat (first | refine kn_ ?_ _ | refine blk_drew ?_ | refine ka_ ?_ _)); exact BK863.out⟩, ⟨by (with_reducible repeat (first | refine kn_ ?_ _ | refine blk_drew ?_ | refine ka_ ?_ _)); exact BK870.out⟩, ⟨by repeat (first | (with_reducible first | exact HB.out | apply ba_ | apply bn_ | apply bd_ | refine bs_ ?_ GE844.out | refine bs_ ?_ GE857.out | refine bs_ ?_ GE863.out | refine bs_ ?_ GE870.out) | exact HB.out)⟩⟩
            case rest =>
              clear HC60
              try clear c1; try clear c2; try clear p2; try clear c3; try clear c3b0; try clear c4; try clear c5; try clear c6; try clear c7; try clear c8; try clear c13; try clear c20; try clear c21; try clear c23; try clear c25; try clear c26; try clear c27; try clear c32; try clear c33; try clear c34; try clear c38; try clear c39; try clear c40; try clear c41; try clear c43; try clear c44; try clear c47; try clear c48; try clear c49; try clear c51; try clear c52; try clear c55; try clear c58; try clear c65; try clear c66; try clear c67; try clear c70; try clear c70b0; try clear c72; try clear c73; try clear c74; try clear c75; try clear c77; try clear c78; try clear c81; try clear c82; try clear c83; try clear c85; try clear c86; try clear hcz13_0; try clear hcz13_1; try clear hcz13_2; try clear hcz15_0; try clear hcz15_1; try clear hcz15_2; try clear hcz21_0; try clear hcz21_1; try clear hcz21_2; try clear hcz23_0; try clear hcz23_1; try clear hcz23_2; try clear hcz28_0; try clear hcz28_1; try clear hcz28_2; try clear hcz35_0; try clear hcz35_1; try clear hcz35_2; try clear hcz42_0; try clear hcz42_1; try clear hcz42_2; try clear hcz45_0; try clear hcz45_1; try clear hcz45_2; try clear hcz50_0; try clear hcz50_1; try clear hcz50_2; try clear hcz53_0; try clear hcz53_1; try clear hcz53_2; try clear hcz5_0; try clear hcz5_1; try clear hcz5_2; try clear hcz68_0; try clear hcz68_1; try clear hcz68_2; try clear hcz76_0; try clear hcz76_1; try clear hcz76_2; try clear hcz79_0; try clear hcz79_1; try clear hcz79_2; try clear hcz84_0; try clear hcz84_1; try clear hcz84_2; try clear hcz87_0; try clear hcz87_1; try clear hcz87_2; try clear hfz13_0; try clear hfz13_1; try clear hfz13_2; try clear hfz15_0; try clear hfz15_1; try clear hfz15_2; try clear hfz21_0; try clear hfz21_1; try clear hfz21_2; try clear hfz23_0; try clear hfz23_1; try clear hfz23_2; try clear hfz28_0; try clear hfz28_1; try clear hfz28_2; try clear hfz35_0; try clear hfz35_1; try clear hfz35_2; try clear hfz42_0; try clear hfz42_1; try clear hfz42_2; try clear hfz45_0; try clear hfz45_1; try clear hfz45_2; try clear hfz50_0; try clear hfz50_1; try clear hfz50_2; try clear hfz53_0; try clear hfz53_1; try clear hfz53_2; try clear hfz5_0; try clear hfz5_1; try clear hfz5_2; try clear hfz68_0; try clear hfz68_1; try clear hfz68_2; try clear hfz76_0; try clear hfz76_1; try clear hfz76_2; try clear hfz79_0; try clear hfz79_1; try clear hfz79_2; try clear hfz84_0; try clear hfz84_1; try clear hfz84_2; try clear hfz87_0; try clear hfz87_1; try clear hfz87_2; try clear p2
              obtain ⟨kq, x61_59, rfl, HA, HJ59, HO_858002, HO_864002, HO_871002, BK844, BK857, BK863, BK870, HB⟩ := hcut
              have hl864002_59 := (Kd.R_reads' HO_864002.out).1
              rw [hl864002_59] at HO_864002
              (try simp only [hl864002_59])
              (try simp only [hl864002_59] at BK844)
              (try simp only [hl864002_59] at BK857)
              (try simp only [hl864002_59] at BK863)
              (try simp only [hl864002_59] at BK870)
              (try simp only [hl864002_59] at HO_858002)
              (try simp only [hl864002_59] at HO_871002)
              cases kq with
              | zero => exact absurd HA.out (by simp [laws_FnExactHarderPuzzle.j1])
              | succ kj59 =>
                have H := HA.out
                clear HA
                simp only [laws_FnExactHarderPuzzle.j1] at H
                by_cases c89 : x61_59 = true
                · subst c89
                  have H1 : (some false) = some r := by rw [if_pos rfl] at H; exact H
                  clear H
                  have H := H1
                  clear H1
                  obtain rfl := Option.some.inj H
                  go_wp2
                  go_ret
                  exact ⟨by first | rfl | (simp [errW_none, errW_some] <;> rfl) | (simp [*, errW_none, errW_some] <;> rfl), by repeat (first | (with_reducible first | exact HB.out | apply ba_ | apply bn_ | apply bd_ | refine bs_ ?_ GE844.out | refine bs_ ?_ GE857.out | refine bs_ ?_ GE863.out | refine bs_ ?_ GE870.out) | exact HB.out)⟩
                · replace c89 := Bool.eq_false_iff.mpr c89
                  subst c89
                  have H1 : ((laws_markPuzzle.f kj59 t864 t865 t866 1).bind fun bt881 => ((laws_heldPuzzle.f kj59 t864 t865 bt881.2 1).bind fun t883 => (if t883 < 0 then (some false) else (if t883 = bt881.1 then ((laws_toPuzzle.f kj59 a0_0 a0_1 l0_2).bind fun bt884 => ((impl_HarderPuzzle.f kj59 bt884.1 bt884.2.1 bt884.2.2).bind fun bt889 => ((laws_eqPuzzle.f kj59 bt889.1 bt889.2.1 bt889.2.2.1 t851 t852 t853).bind fun t896 => (if t896 = true then (laws_FnExactHarderPuzzle.j2 kj59 bt881.1 (bt889.2.2.2 != t856) t864 t865 bt881.2) else (laws_FnExactHarderPuzzle.j2 kj59 bt881.1 true t864 t865 bt881.2))))) else (some false))))) = some r := by rw [if_neg (show ¬ (false = true) by decide)] at H; exact H
                  clear H
                  have H := H1
                  clear H1
                  replace H := Option.bind_eq_some_iff.mp H
                  obtain ⟨⟨t881, t882⟩, A900, H⟩ := H
                  replace H : ((laws_heldPuzzle.f kj59 t864 t865 t882 1).bind fun t883 => (if t883 < 0 then (some false) else (if t883 = t881 then ((laws_toPuzzle.f kj59 a0_0 a0_1 l0_2).bind fun bt884 => ((impl_HarderPuzzle.f kj59 bt884.1 bt884.2.1 bt884.2.2).bind fun bt889 => ((laws_eqPuzzle.f kj59 bt889.1 bt889.2.1 bt889.2.2.1 t851 t852 t853).bind fun t896 => (if t896 = true then (laws_FnExactHarderPuzzle.j2 kj59 t881 (bt889.2.2.2 != t856) t864 t865 t882) else (laws_FnExactHarderPuzzle.j2 kj59 t881 true t864 t865 t882))))) else (some false)))) = some r := H
                  have A90 := amk A900
                  clear A900
                  replace H := Option.bind_eq_some_iff.mp H
                  obtain ⟨t883, A910, H⟩ := H
                  replace H : (if t883 < 0 then (some false) else (if t883 = t881 then ((laws_toPuzzle.f kj59 a0_0 a0_1 l0_2).bind fun bt884 => ((impl_HarderPuzzle.f kj59 bt884.1 bt884.2.1 bt884.2.2).bind fun bt889 => ((laws_eqPuzzle.f kj59 bt889.1 bt889.2.1 bt889.2.2.1 t851 t852 t853).bind fun t896 => (if t896 = true then (laws_FnExactHarderPuzzle.j2 kj59 t881 (bt889.2.2.2 != t856) t864 t865 t882) else (laws_FnExactHarderPuzzle.j2 kj59 t881 true t864 t865 t882))))) else (some false))) = some r := H
                  have A91 := amk A910
                  clear A910
                  by_cases c92 : t883 < 0
                  · rw [if_pos c92] at H
                    have c92b0 : decide (t883 < 0) = true := decide_eq_true c92
                    clear c92
                    obtain rfl := Option.some.inj H
                    have hnb93 := NB870_844.out
                    have hnc93 := NB844_870.out
                    have hnb94 := NB870_857.out
                    have hnc94 := NB857_870.out
                    have hnb95 := NB870_863.out
                    have hnc95 := NB863_870.out
                    have hcz96_0 : wc.cell? ⟨gb870, 0, none⟩ = some (.int .i64 t864) := (blk_cell BK870.out 0).trans rfl
                    have hcz96_1 : wc.cell? ⟨gb870, 1, none⟩ = some (.int .i64 t865) := (blk_cell BK870.out 1).trans rfl
                    have hcz96_2 : wc.cell? ⟨gb870, 2, none⟩ = some (.slice Ao36 t866.length co36) := (blk_cell BK870.out 2).trans rfl
                    have hfz96_0 := blk_frozen BK870.out 0
                    have hfz96_1 := blk_frozen BK870.out 1
                    have hfz96_2 := blk_frozen BK870.out 2
                    go_wp2_with (first | ((with_reducible refine gate_callee (f := 21) rfl ?_); refine goesL_ (some 64) rfl rfl Try.func21 (by kernel_rfl) rfl #[.agg #[.int .i64 t864, .int .i64 t865, .slice Ao36 t866.length co36], .int .i64 1] rfl (by (try simp only [List.map_toArray, List.map_cons, List.map_nil]); first | done | rfl | (simp only [List.length_drop, List.length_take]; rfl)) ?_; (with_reducible refine (laws_markPuzzle.calls kj59 t864 t865 (fun k_ => some k_ = (.slice Ao36 t866.length co36 : Value).ownBlock) (.slice Ao36 t866.length co36) t866 1 t881 t882 w _ ?side1 ?side2 A90.out).mono ?_); (case side1 => repeat (first | (with_reducible first | exact HB.out | apply ba_ | apply bn_ | apply bd_ | refine bs_ ?_ GE844.out | refine bs_ ?_ GE857.out | refine bs_ ?_ GE863.out | refine bs_ ?_ GE870.out) | exact HB.out)); (case side2 => exact Kd.R_tight rfl HO_871002.out); rintro e w97 ⟨rfl, hy0, hb, hkp⟩; refine ⟨_, rfl, ?_⟩; have n0_ := amk (Kd.R_mono (ok' := fun k_ => some k_ ≠ (.slice Ao29 t879.length co29 : Value).ownBlock ∧ some k_ ≠ (.slice Ao36 t866.length co36 : Value).ownBlock) (Kd.R_keptB (HO_858002.out) hkp (fun k_ hk_ hs_ => (hk_.2) hs_)) (fun k_ hk_ => ⟨hk_.1.1, hk_.1.2⟩)); have n1_ := amk (Kd.R_mono (ok' := fun k_ => some k_ ≠ (.slice Ao22 t853.length co22 : Value).ownBlock ∧ some k_ ≠ (.slice Ao36 t866.length co36 : Value).ownBlock) (Kd.R_keptB (HO_864002.out) hkp (fun k_ hk_ hs_ => (hk_.2) hs_)) (fun k_ hk_ => ⟨hk_.1.1, hk_.1.2⟩)); have n2_ := amk (Kd.R_reok rfl hy0 (fun k_ e_ => HO_871002.out.1 k_ e_)); have n3_ := amk (blk_kept (by (with_reducible repeat (first | refine kn_ ?_ _ | refine blk_drew ?_ | refine ka_ ?_ _)); exact BK844.out) hkp (fun hs_ => (fun e_ => (Kd.R_ne HO_871002.out BK844.out (by decide)) e_) hs_)); have n4_ := amk (blk_kept (by (with_reducible repeat (first | refine kn_ ?_ _ | refine blk_drew ?_ | refine ka_ ?_ _)); exact BK857.out) hkp (fun hs_ => (fun e_ => (Kd.R_ne HO_871002.out BK857.out (by decide)) e_) hs_)); have n5_ := amk (blk_kept (by (with_reducible repeat (first | refine kn_ ?_ _ | refine blk_drew ?_ | refine ka_ ?_ _)); exact BK863.out) hkp (fun hs_ => (fun e_ => (Kd.R_ne HO_871002.out BK863.out (by decide)) e_) hs_)); have n6_ := amk (blk_kept (by (with_reducible repeat (first | refine kn_ ?_ _ | refine blk_drew ?_ | refine ka_ ?_ _)); exact BK870.out) hkp (fun hs_ => (fun e_ => (Kd.R_ne HO_871002.out BK870.out (by decide)) e_) hs_)); have n7_ := amk (hb); clear HO_858002; clear HO_864002; clear HO_871002; clear BK844; clear BK857; clear BK863; clear BK870; clear HB; have HO_858002 := n0_; have HO_864002 := n1_; have HO_871002 := n2_; have BK844 := n3_; have BK857 := n4_; have BK863 := n5_; have BK870 := n6_; have HB := n7_; clear n0_ n1_ n2_ n3_ n4_ n5_ n6_ n7_; (try clear hb); (try clear hkp); (try clear hy0); have hcz98_0 : w97.cell? ⟨gb870, 0, none⟩ = some (.int .i64 t864) := (blk_cell BK870.out 0).trans rfl; have hcz98_1 : w97.cell? ⟨gb870, 1, none⟩ = some (.int .i64 t865) := (blk_cell BK870.out 1).trans rfl; have hcz98_2 : w97.cell? ⟨gb870, 2, none⟩ = some (.slice Ao36 t866.length co36) := (blk_cell BK870.out 2).trans rfl; have hfz98_0 := blk_frozen BK870.out 0; have hfz98_1 := blk_frozen BK870.out 1; have hfz98_2 := blk_frozen BK870.out 2) | ((with_reducible refine gate_callee (f := 22) rfl ?_); refine goesL_ (some 67) rfl rfl Try.func22 (by kernel_rfl) rfl #[.agg #[.int .i64 t864, .int .i64 t865, .slice Ao36 t882.length co36], .int .i64 1] rfl (by (try simp only [List.map_toArray, List.map_cons, List.map_nil]); first | done | (rw [show t882.length = t866.length from (Kd.R_reads' HO_871002.out).1.symm] <;> rfl) | rfl | (simp only [List.length_drop, List.length_take]; rfl)) ?_; (with_reducible refine (laws_heldPuzzle.calls kj59 t864 t865 _ _ t882 1 t883 _ ?side1 ?side2 A91.out).mono ?_); (case side1 => repeat (first | exact (Kd.R_reads' HO_871002.out).2.2 | (with_reducible refine Kd.C_alloc ?_ _) | (with_reducible refine Kd.C_drewN ?_ _) | (with_reducible refine Kd.C_drew ?_))); (case side2 => rw [show t882.length = t866.length from (Kd.R_reads' HO_871002.out).1.symm]; exact (Kd.R_reads' HO_871002.out).2.1); rintro e w99 ⟨rfl, hb⟩; refine ⟨_, rfl, ?_⟩; have n0_ := amk (Kd.R_below (by (with_reducible repeat (first | apply Kd.R_alloc | apply Kd.R_drewN | apply Kd.R_drew)); exact HO_858002.out) hb); have n1_ := amk (Kd.R_below (by (with_reducible repeat (first | apply Kd.R_alloc | apply Kd.R_drewN | apply Kd.R_drew)); exact HO_864002.out) hb); have n2_ := amk (Kd.R_below (by (with_reducible repeat (first | apply Kd.R_alloc | apply Kd.R_drewN | apply Kd.R_drew)); exact HO_871002.out) hb); have n3_ := amk (blk_below (g := gb844) (o := .cells #[.int .i64 a0_0, .int .i64 a0_1, .slice A0_2 l0_2.length c0_2] 43 (0, 0)) (by (with_reducible repeat (first | refine kn_ ?_ _ | refine blk_drew ?_ | refine ka_ ?_ _)); exact BK844.out) hb); have n4_ := amk (blk_below (g := gb857) (o := .cells #[.int .i64 t851, .int .i64 t852, .slice Ao22 t853.length co22] 35 (0, 0)) (by (with_reducible repeat (first | refine kn_ ?_ _ | refine blk_drew ?_ | refine ka_ ?_ _)); exact BK857.out) hb); have n5_ := amk (blk_below (g := gb863) (o := .cells #[.int .i64 t858, .int .i64 t859, .slice Ao29 t879.length co29] 35 (0, 0)) (by (with_reducible repeat (first | refine kn_ ?_ _ | refine blk_drew ?_ | refine ka_ ?_ _)); exact BK863.out) hb); have n6_ := amk (blk_below (g := gb870) (o := .cells #[.int .i64 t864, .int .i64 t865, .slice Ao36 t866.length co36] 35 (0, 0)) (by (with_reducible repeat (first | refine kn_ ?_ _ | refine blk_drew ?_ | refine ka_ ?_ _)); exact BK870.out) hb); have n7_ := amk (bp_ (by repeat (first | (with_reducible first | exact HB.out | apply ba_ | apply bn_ | apply bd_ | refine bs_ ?_ GE844.out | refine bs_ ?_ GE857.out | refine bs_ ?_ GE863.out | refine bs_ ?_ GE870.out) | exact HB.out)) hb); clear HO_858002; clear HO_864002; clear HO_871002; clear BK844; clear BK857; clear BK863; clear BK870; clear HB; have HO_858002 := n0_; have HO_864002 := n1_; have HO_871002 := n2_; have BK844 := n3_; have BK857 := n4_; have BK863 := n5_; have BK870 := n6_; have HB := n7_; clear n0_ n1_ n2_ n3_ n4_ n5_ n6_ n7_; (try clear hb); (try clear hb2); (try clear hk); (try clear hi)))
                    go_ret
                    exact ⟨by first | rfl | (simp [errW_none, errW_some] <;> rfl) | (simp [*, errW_none, errW_some] <;> rfl), by repeat (first | (with_reducible first | exact HB.out | apply ba_ | apply bn_ | apply bd_ | refine bs_ ?_ GE844.out | refine bs_ ?_ GE857.out | refine bs_ ?_ GE863.out | refine bs_ ?_ GE870.out) | exact HB.out)⟩
                  · rw [if_neg c92] at H
                    have c92b0 : decide (t883 < 0) = false := decide_eq_false c92
                    clear c92
                    by_cases c100 : t883 = t881
                    · rw [if_pos c100] at H
                      have c100b0 : (t883 == t881) = true := beq_iff_eq.mpr c100
                      have c100b1 : (t883 != t881) = false := bne_eq_false_iff_eq.mpr c100
                      clear c100
                      replace H := Option.bind_eq_some_iff.mp H
                      obtain ⟨⟨t884, t885, t886⟩, A1010, H⟩ := H
                      replace H : ((impl_HarderPuzzle.f kj59 t884 t885 t886).bind fun bt889 => ((laws_eqPuzzle.f kj59 bt889.1 bt889.2.1 bt889.2.2.1 t851 t852 t853).bind fun t896 => (if t896 = true then (laws_FnExactHarderPuzzle.j2 kj59 t881 (bt889.2.2.2 != t856) t864 t865 t882) else (laws_FnExactHarderPuzzle.j2 kj59 t881 true t864 t865 t882)))) = some r := H
                      have A101 := amk A1010
                      clear A1010
                      replace H := Option.bind_eq_some_iff.mp H
                      obtain ⟨⟨t889, t890, t891, t894⟩, A1020, H⟩ := H
                      replace H : ((laws_eqPuzzle.f kj59 t889 t890 t891 t851 t852 t853).bind fun t896 => (if t896 = true then (laws_FnExactHarderPuzzle.j2 kj59 t881 (t894 != t856) t864 t865 t882) else (laws_FnExactHarderPuzzle.j2 kj59 t881 true t864 t865 t882))) = some r := H
                      have A102 := amk A1020
                      clear A1020
                      have HC103 := amk H
                      clear H
                      have hnb104 := NB870_844.out
                      have hnc104 := NB844_870.out
                      have hnb105 := NB870_857.out
                      have hnc105 := NB857_870.out
                      have hnb106 := NB870_863.out
                      have hnc106 := NB863_870.out
                      have hcz107_0 : wc.cell? ⟨gb870, 0, none⟩ = some (.int .i64 t864) := (blk_cell BK870.out 0).trans rfl
                      have hcz107_1 : wc.cell? ⟨gb870, 1, none⟩ = some (.int .i64 t865) := (blk_cell BK870.out 1).trans rfl
                      have hcz107_2 : wc.cell? ⟨gb870, 2, none⟩ = some (.slice Ao36 t866.length co36) := (blk_cell BK870.out 2).trans rfl
                      have hfz107_0 := blk_frozen BK870.out 0
                      have hfz107_1 := blk_frozen BK870.out 1
                      have hfz107_2 := blk_frozen BK870.out 2
                      go_upto_region 25 with (first | ((with_reducible refine gate_callee (f := 21) rfl ?_); refine goesL_ (some 64) rfl rfl Try.func21 (by kernel_rfl) rfl #[.agg #[.int .i64 t864, .int .i64 t865, .slice Ao36 t866.length co36], .int .i64 1] rfl (by (try simp only [List.map_toArray, List.map_cons, List.map_nil]); first | done | rfl | (simp only [List.length_drop, List.length_take]; rfl)) ?_; (with_reducible refine (laws_markPuzzle.calls kj59 t864 t865 (fun k_ => some k_ = (.slice Ao36 t866.length co36 : Value).ownBlock) (.slice Ao36 t866.length co36) t866 1 t881 t882 w _ ?side1 ?side2 A90.out).mono ?_); (case side1 => repeat (first | (with_reducible first | exact HB.out | apply ba_ | apply bn_ | apply bd_ | refine bs_ ?_ GE844.out | refine bs_ ?_ GE857.out | refine bs_ ?_ GE863.out | refine bs_ ?_ GE870.out) | exact HB.out)); (case side2 => exact Kd.R_tight rfl HO_871002.out); rintro e w108 ⟨rfl, hy0, hb, hkp⟩; refine ⟨_, rfl, ?_⟩; have n0_ := amk (Kd.R_mono (ok' := fun k_ => some k_ ≠ (.slice Ao29 t879.length co29 : Value).ownBlock ∧ some k_ ≠ (.slice Ao36 t866.length co36 : Value).ownBlock) (Kd.R_keptB (HO_858002.out) hkp (fun k_ hk_ hs_ => (hk_.2) hs_)) (fun k_ hk_ => ⟨hk_.1.1, hk_.1.2⟩)); have n1_ := amk (Kd.R_mono (ok' := fun k_ => some k_ ≠ (.slice Ao22 t853.length co22 : Value).ownBlock ∧ some k_ ≠ (.slice Ao36 t866.length co36 : Value).ownBlock) (Kd.R_keptB (HO_864002.out) hkp (fun k_ hk_ hs_ => (hk_.2) hs_)) (fun k_ hk_ => ⟨hk_.1.1, hk_.1.2⟩)); have n2_ := amk (Kd.R_reok rfl hy0 (fun k_ e_ => HO_871002.out.1 k_ e_)); have n3_ := amk (blk_kept (by (with_reducible repeat (first | refine kn_ ?_ _ | refine blk_drew ?_ | refine ka_ ?_ _)); exact BK844.out) hkp (fun hs_ => (fun e_ => (Kd.R_ne HO_871002.out BK844.out (by decide)) e_) hs_)); have n4_ := amk (blk_kept (by (with_reducible repeat (first | refine kn_ ?_ _ | refine blk_drew ?_ | refine ka_ ?_ _)); exact BK857.out) hkp (fun hs_ => (fun e_ => (Kd.R_ne HO_871002.out BK857.out (by decide)) e_) hs_)); have n5_ := amk (blk_kept (by (with_reducible repeat (first | refine kn_ ?_ _ | refine blk_drew ?_ | refine ka_ ?_ _)); exact BK863.out) hkp (fun hs_ => (fun e_ => (Kd.R_ne HO_871002.out BK863.out (by decide)) e_) hs_)); have n6_ := amk (blk_kept (by (with_reducible repeat (first | refine kn_ ?_ _ | refine blk_drew ?_ | refine ka_ ?_ _)); exact BK870.out) hkp (fun hs_ => (fun e_ => (Kd.R_ne HO_871002.out BK870.out (by decide)) e_) hs_)); have n7_ := amk (hb); clear HO_858002; clear HO_864002; clear HO_871002; clear BK844; clear BK857; clear BK863; clear BK870; clear HB; have HO_858002 := n0_; have HO_864002 := n1_; have HO_871002 := n2_; have BK844 := n3_; have BK857 := n4_; have BK863 := n5_; have BK870 := n6_; have HB := n7_; clear n0_ n1_ n2_ n3_ n4_ n5_ n6_ n7_; (try clear hb); (try clear hkp); (try clear hy0); have hcz109_0 : w108.cell? ⟨gb870, 0, none⟩ = some (.int .i64 t864) := (blk_cell BK870.out 0).trans rfl; have hcz109_1 : w108.cell? ⟨gb870, 1, none⟩ = some (.int .i64 t865) := (blk_cell BK870.out 1).trans rfl; have hcz109_2 : w108.cell? ⟨gb870, 2, none⟩ = some (.slice Ao36 t866.length co36) := (blk_cell BK870.out 2).trans rfl; have hfz109_0 := blk_frozen BK870.out 0; have hfz109_1 := blk_frozen BK870.out 1; have hfz109_2 := blk_frozen BK870.out 2) | ((with_reducible refine gate_callee (f := 22) rfl ?_); refine goesL_ (some 67) rfl rfl Try.func22 (by kernel_rfl) rfl #[.agg #[.int .i64 t864, .int .i64 t865, .slice Ao36 t882.length co36], .int .i64 1] rfl (by (try simp only [List.map_toArray, List.map_cons, List.map_nil]); first | done | (rw [show t882.length = t866.length from (Kd.R_reads' HO_871002.out).1.symm] <;> rfl) | rfl | (simp only [List.length_drop, List.length_take]; rfl)) ?_; (with_reducible refine (laws_heldPuzzle.calls kj59 t864 t865 _ _ t882 1 t883 _ ?side1 ?side2 A91.out).mono ?_); (case side1 => repeat (first | exact (Kd.R_reads' HO_871002.out).2.2 | (with_reducible refine Kd.C_alloc ?_ _) | (with_reducible refine Kd.C_drewN ?_ _) | (with_reducible refine Kd.C_drew ?_))); (case side2 => rw [show t882.length = t866.length from (Kd.R_reads' HO_871002.out).1.symm]; exact (Kd.R_reads' HO_871002.out).2.1); rintro e w110 ⟨rfl, hb⟩; refine ⟨_, rfl, ?_⟩; have n0_ := amk (Kd.R_below (by (with_reducible repeat (first | apply Kd.R_alloc | apply Kd.R_drewN | apply Kd.R_drew)); exact HO_858002.out) hb); have n1_ := amk (Kd.R_below (by (with_reducible repeat (first | apply Kd.R_alloc | apply Kd.R_drewN | apply Kd.R_drew)); exact HO_864002.out) hb); have n2_ := amk (Kd.R_below (by (with_reducible repeat (first | apply Kd.R_alloc | apply Kd.R_drewN | apply Kd.R_drew)); exact HO_871002.out) hb); have n3_ := amk (blk_below (g := gb844) (o := .cells #[.int .i64 a0_0, .int .i64 a0_1, .slice A0_2 l0_2.length c0_2] 43 (0, 0)) (by (with_reducible repeat (first | refine kn_ ?_ _ | refine blk_drew ?_ | refine ka_ ?_ _)); exact BK844.out) hb); have n4_ := amk (blk_below (g := gb857) (o := .cells #[.int .i64 t851, .int .i64 t852, .slice Ao22 t853.length co22] 35 (0, 0)) (by (with_reducible repeat (first | refine kn_ ?_ _ | refine blk_drew ?_ | refine ka_ ?_ _)); exact BK857.out) hb); have n5_ := amk (blk_below (g := gb863) (o := .cells #[.int .i64 t858, .int .i64 t859, .slice Ao29 t879.length co29] 35 (0, 0)) (by (with_reducible repeat (first | refine kn_ ?_ _ | refine blk_drew ?_ | refine ka_ ?_ _)); exact BK863.out) hb); have n6_ := amk (blk_below (g := gb870) (o := .cells #[.int .i64 t864, .int .i64 t865, .slice Ao36 t866.length co36] 35 (0, 0)) (by (with_reducible repeat (first | refine kn_ ?_ _ | refine blk_drew ?_ | refine ka_ ?_ _)); exact BK870.out) hb); have n7_ := amk (bp_ (by repeat (first | (with_reducible first | exact HB.out | apply ba_ | apply bn_ | apply bd_ | refine bs_ ?_ GE844.out | refine bs_ ?_ GE857.out | refine bs_ ?_ GE863.out | refine bs_ ?_ GE870.out) | exact HB.out)) hb); clear HO_858002; clear HO_864002; clear HO_871002; clear BK844; clear BK857; clear BK863; clear BK870; clear HB; have HO_858002 := n0_; have HO_864002 := n1_; have HO_871002 := n2_; have BK844 := n3_; have BK857 := n4_; have BK863 := n5_; have BK870 := n6_; have HB := n7_; clear n0_ n1_ n2_ n3_ n4_ n5_ n6_ n7_; (try clear hb); (try clear hb2); (try clear hk); (try clear hi); have hnb111 := NB844_857.out; have hnc111 := NB857_844.out; have hnb112 := NB844_863.out; have hnc112 := NB863_844.out; have hcz113_0 : w110.cell? ⟨gb844, 0, none⟩ = some (.int .i64 a0_0) := (blk_cell BK844.out 0).trans rfl; have hcz113_1 : w110.cell? ⟨gb844, 1, none⟩ = some (.int .i64 a0_1) := (blk_cell BK844.out 1).trans rfl; have hcz113_2 : w110.cell? ⟨gb844, 2, none⟩ = some (.slice A0_2 l0_2.length c0_2) := (blk_cell BK844.out 2).trans rfl; have hfz113_0 := blk_frozen BK844.out 0; have hfz113_1 := blk_frozen BK844.out 1; have hfz113_2 := blk_frozen BK844.out 2) | ((with_reducible refine gate_callee (f := 25) rfl ?_); refine goesL_ (some 75) rfl rfl Try.func25 (by kernel_rfl) rfl #[.agg #[.int .i64 a0_0, .int .i64 a0_1, .slice A0_2 l0_2.length c0_2]] rfl (by (try simp only [List.map_toArray, List.map_cons, List.map_nil]); first | done | rfl | (simp only [List.length_drop, List.length_take]; rfl)) ?_; (with_reducible refine (laws_toPuzzle.calls kj59 a0_0 a0_1 _ _ l0_2 t884 t885 t886 _ ?side1 ?side2 A101.out).mono ?_); (case side1 => repeat (first | exact (Kd.C_below HR0_2.out HB.out) | (with_reducible refine Kd.C_alloc ?_ _) | (with_reducible refine Kd.C_drewN ?_ _) | (with_reducible refine Kd.C_drew ?_))); (case side2 => exact HC0_2.out); rintro e w114 ⟨v887, rfl, ho0, hb⟩; refine ⟨_, rfl, ?_⟩; have n0_ := amk (Kd.R_elder' (by (with_reducible repeat (first | apply Kd.R_alloc | apply Kd.R_drewN | apply Kd.R_drew)); exact HO_858002.out) (Kd.R_base ho0) hb); have n1_ := amk (Kd.R_elder' (by (with_reducible repeat (first | apply Kd.R_alloc | apply Kd.R_drewN | apply Kd.R_drew)); exact HO_864002.out) (Kd.R_base ho0) hb); have n2_ := amk (Kd.R_elder' (by (with_reducible repeat (first | apply Kd.R_alloc | apply Kd.R_drewN | apply Kd.R_drew)); exact HO_871002.out) (Kd.R_base ho0) hb); have n3_ := amk (Kd.R_lower (Kd.R_new' (Kd.R_new' (Kd.R_new' ho0 (Kd.R_lt (by (with_reducible repeat (first | apply Kd.R_alloc | apply Kd.R_drewN | apply Kd.R_drew)); exact HO_858002.out))) (Kd.R_lt (by (with_reducible repeat (first | apply Kd.R_alloc | apply Kd.R_drewN | apply Kd.R_drew)); exact HO_864002.out))) (Kd.R_lt (by (with_reducible repeat (first | apply Kd.R_alloc | apply Kd.R_drewN | apply Kd.R_drew)); exact HO_871002.out))) (below_size (by repeat (first | (with_reducible first | exact HB.out | apply ba_ | apply bn_ | apply bd_ | refine bs_ ?_ GE844.out | refine bs_ ?_ GE857.out | refine bs_ ?_ GE863.out | refine bs_ ?_ GE870.out) | exact HB.out)))); have n4_ := amk (blk_below (g := gb844) (o := .cells #[.int .i64 a0_0, .int .i64 a0_1, .slice A0_2 l0_2.length c0_2] 43 (0, 0)) (by (with_reducible repeat (first | refine kn_ ?_ _ | refine blk_drew ?_ | refine ka_ ?_ _)); exact BK844.out) hb); have n5_ := amk (blk_below (g := gb857) (o := .cells #[.int .i64 t851, .int .i64 t852, .slice Ao22 t853.length co22] 35 (0, 0)) (by (with_reducible repeat (first | refine kn_ ?_ _ | refine blk_drew ?_ | refine ka_ ?_ _)); exact BK857.out) hb); have n6_ := amk (blk_below (g := gb863) (o := .cells #[.int .i64 t858, .int .i64 t859, .slice Ao29 t879.length co29] 35 (0, 0)) (by (with_reducible repeat (first | refine kn_ ?_ _ | refine blk_drew ?_ | refine ka_ ?_ _)); exact BK863.out) hb); have n7_ := amk (blk_below (g := gb870) (o := .cells #[.int .i64 t864, .int .i64 t865, .slice Ao36 t866.length co36] 35 (0, 0)) (by (with_reducible repeat (first | refine kn_ ?_ _ | refine blk_drew ?_ | refine ka_ ?_ _)); exact BK870.out) hb); have n8_ := amk (bp_ (by repeat (first | (with_reducible first | exact HB.out | apply ba_ | apply bn_ | apply bd_ | refine bs_ ?_ GE844.out | refine bs_ ?_ GE857.out | refine bs_ ?_ GE863.out | refine bs_ ?_ GE870.out) | exact HB.out)) hb); clear HO_858002; clear HO_864002; clear HO_871002; clear BK844; clear BK857; clear BK863; clear BK870; clear HB; have HO_858002 := n0_; have HO_864002 := n1_; have HO_871002 := n2_; have HO888 := n3_; have BK844 := n4_; have BK857 := n5_; have BK863 := n6_; have BK870 := n7_; have HB := n8_; clear n0_ n1_ n2_ n3_ n4_ n5_ n6_ n7_ n8_; (try clear hb); (try clear hb2); (try clear hk); (try clear hi); (try clear ho0); obtain ⟨Ao115, co115, eo115⟩ := Kd.R_slice HO888.out; subst eo115) | ((with_reducible refine gate_callee (f := 48) rfl ?_); refine goesL_ (some 76) rfl rfl Try.func48 (by kernel_rfl) rfl #[.agg #[.int .i64 t884, .int .i64 t885, .slice Ao115 t886.length co115]] rfl (by (try simp only [List.map_toArray, List.map_cons, List.map_nil]); first | done | rfl | (simp only [List.length_drop, List.length_take]; rfl)) ?_; (with_reducible refine (impl_HarderPuzzle.calls kj59 t884 t885 _ _ t886 t889 t890 t891 t894 _ ?side1 ?side2 A102.out).mono ?_); (case side1 => repeat (first | exact (Kd.R_reads' HO888.out).2.2 | (with_reducible refine Kd.C_alloc ?_ _) | (with_reducible refine Kd.C_drewN ?_ _) | (with_reducible refine Kd.C_drew ?_))); (case side2 => exact (Kd.R_reads' HO888.out).2.1); rintro e w116 ⟨v892, rfl, ho0, hb⟩; refine ⟨_, rfl, ?_⟩; have n0_ := amk (Kd.R_elder' (by (with_reducible repeat (first | apply Kd.R_alloc | apply Kd.R_drewN | apply Kd.R_drew)); exact HO_858002.out) (Kd.R_base ho0) hb); have n1_ := amk (Kd.R_elder' (by (with_reducible repeat (first | apply Kd.R_alloc | apply Kd.R_drewN | apply Kd.R_drew)); exact HO_864002.out) (Kd.R_base ho0) hb); have n2_ := amk (Kd.R_elder' (by (with_reducible repeat (first | apply Kd.R_alloc | apply Kd.R_drewN | apply Kd.R_drew)); exact HO_871002.out) (Kd.R_base ho0) hb); have n3_ := amk (Kd.R_elder' (by (with_reducible repeat (first | apply Kd.R_alloc | apply Kd.R_drewN | apply Kd.R_drew)); exact HO888.out) (Kd.R_base ho0) hb); have n4_ := amk (Kd.R_lower (Kd.R_new' (Kd.R_new' (Kd.R_new' (Kd.R_new' ho0 (Kd.R_lt (by (with_reducible repeat (first | apply Kd.R_alloc | apply Kd.R_drewN | apply Kd.R_drew)); exact HO_858002.out))) (Kd.R_lt (by (with_reducible repeat (first | apply Kd.R_alloc | apply Kd.R_drewN | apply Kd.R_drew)); exact HO_864002.out))) (Kd.R_lt (by (with_reducible repeat (first | apply Kd.R_alloc | apply Kd.R_drewN | apply Kd.R_drew)); exact HO_871002.out))) (Kd.R_lt (by (with_reducible repeat (first | apply Kd.R_alloc | apply Kd.R_drewN | apply Kd.R_drew)); exact HO888.out))) (below_size (by repeat (first | (with_reducible first | exact HB.out | apply ba_ | apply bn_ | apply bd_ | refine bs_ ?_ GE844.out | refine bs_ ?_ GE857.out | refine bs_ ?_ GE863.out | refine bs_ ?_ GE870.out) | exact HB.out)))); have n5_ := amk (blk_below (g := gb844) (o := .cells #[.int .i64 a0_0, .int .i64 a0_1, .slice A0_2 l0_2.length c0_2] 43 (0, 0)) (by (with_reducible repeat (first | refine kn_ ?_ _ | refine blk_drew ?_ | refine ka_ ?_ _)); exact BK844.out) hb); have n6_ := amk (blk_below (g := gb857) (o := .cells #[.int .i64 t851, .int .i64 t852, .slice Ao22 t853.length co22] 35 (0, 0)) (by (with_reducible repeat (first | refine kn_ ?_ _ | refine blk_drew ?_ | refine ka_ ?_ _)); exact BK857.out) hb); have n7_ := amk (blk_below (g := gb863) (o := .cells #[.int .i64 t858, .int .i64 t859, .slice Ao29 t879.length co29] 35 (0, 0)) (by (with_reducible repeat (first | refine kn_ ?_ _ | refine blk_drew ?_ | refine ka_ ?_ _)); exact BK863.out) hb); have n8_ := amk (blk_below (g := gb870) (o := .cells #[.int .i64 t864, .int .i64 t865, .slice Ao36 t866.length co36] 35 (0, 0)) (by (with_reducible repeat (first | refine kn_ ?_ _ | refine blk_drew ?_ | refine ka_ ?_ _)); exact BK870.out) hb); have n9_ := amk (bp_ (by repeat (first | (with_reducible first | exact HB.out | apply ba_ | apply bn_ | apply bd_ | refine bs_ ?_ GE844.out | refine bs_ ?_ GE857.out | refine bs_ ?_ GE863.out | refine bs_ ?_ GE870.out) | exact HB.out)) hb); clear HO_858002; clear HO_864002; clear HO_871002; clear HO888; clear BK844; clear BK857; clear BK863; clear BK870; clear HB; have HO_858002 := n0_; have HO_864002 := n1_; have HO_871002 := n2_; have HO888 := n3_; have HO893 := n4_; have BK844 := n5_; have BK857 := n6_; have BK863 := n7_; have BK870 := n8_; have HB := n9_; clear n0_ n1_ n2_ n3_ n4_ n5_ n6_ n7_ n8_ n9_; (try clear hb); (try clear hb2); (try clear hk); (try clear hi); (try clear ho0)) | ((with_reducible refine gate_dst (N := 12) rfl ?_); refine box_event ?hg (N := 12) ?hd (cs := #[.int .i64 0, .int .i64 0, .slice none 0 0]) (t := 35) ?hr ?_; (case hd => rfl); (case hg => rfl); (case hr => first | (go_simp; done) | (go_simp; rfl)); intro gb895 hg w117 hbox hb; have n0_ := amk (Kd.R_below (by (with_reducible repeat (first | apply Kd.R_alloc | apply Kd.R_drewN | apply Kd.R_drew)); exact HO_858002.out) hb); have n1_ := amk (Kd.R_below (by (with_reducible repeat (first | apply Kd.R_alloc | apply Kd.R_drewN | apply Kd.R_drew)); exact HO_864002.out) hb); have n2_ := amk (Kd.R_below (by (with_reducible repeat (first | apply Kd.R_alloc | apply Kd.R_drewN | apply Kd.R_drew)); exact HO_871002.out) hb); have n3_ := amk (Kd.R_below (by (with_reducible repeat (first | apply Kd.R_alloc | apply Kd.R_drewN | apply Kd.R_drew)); exact HO888.out) hb); have n4_ := amk (Kd.R_below (by (with_reducible repeat (first | apply Kd.R_alloc | apply Kd.R_drewN | apply Kd.R_drew)); exact HO893.out) hb); have n5_ := amk (blk_below (g := gb844) (o := .cells #[.int .i64 a0_0, .int .i64 a0_1, .slice A0_2 l0_2.length c0_2] 43 (0, 0)) (by (with_reducible repeat (first | refine kn_ ?_ _ | refine blk_drew ?_ | refine ka_ ?_ _)); exact BK844.out) hb); have n6_ := amk (blk_below (g := gb857) (o := .cells #[.int .i64 t851, .int .i64 t852, .slice Ao22 t853.length co22] 35 (0, 0)) (by (with_reducible repeat (first | refine kn_ ?_ _ | refine blk_drew ?_ | refine ka_ ?_ _)); exact BK857.out) hb); have n7_ := amk (blk_below (g := gb863) (o := .cells #[.int .i64 t858, .int .i64 t859, .slice Ao29 t879.length co29] 35 (0, 0)) (by (with_reducible repeat (first | refine kn_ ?_ _ | refine blk_drew ?_ | refine ka_ ?_ _)); exact BK863.out) hb); have n8_ := amk (blk_below (g := gb870) (o := .cells #[.int .i64 t864, .int .i64 t865, .slice Ao36 t866.length co36] 35 (0, 0)) (by (with_reducible repeat (first | refine kn_ ?_ _ | refine blk_drew ?_ | refine ka_ ?_ _)); exact BK870.out) hb); have n9_ := amk (bp_ (by repeat (first | (with_reducible first | exact HB.out | apply ba_ | apply bn_ | apply bd_ | refine bs_ ?_ GE844.out | refine bs_ ?_ GE857.out | refine bs_ ?_ GE863.out | refine bs_ ?_ GE870.out) | exact HB.out)) hb); have n10_ := amk (hbox); have n11_ := amk ((by rw [hg]; exact (below_size (by repeat (first | (with_reducible first | exact HB.out | apply ba_ | apply bn_ | apply bd_ | refine bs_ ?_ GE844.out | refine bs_ ?_ GE857.out | refine bs_ ?_ GE863.out | refine bs_ ?_ GE870.out) | exact HB.out))) : w.heap.size ≤ gb895)); have n12_ := amk ((by rw [hg]; exact (below_size (by repeat (first | (with_reducible first | exact HB.out | apply ba_ | apply bn_ | apply bd_ | refine bs_ ?_ GE844.out | refine bs_ ?_ GE857.out | refine bs_ ?_ GE863.out | refine bs_ ?_ GE870.out) | exact HB.out))) : w.heap.size ≤ gb895)); have n13_ := amk ((by rw [hg]; exact Nat.ne_of_lt (blk_lt (g := gb844) (o := .cells #[.int .i64 a0_0, .int .i64 a0_1, .slice A0_2 l0_2.length c0_2] 43 (0, 0)) (by (with_reducible repeat (first | refine kn_ ?_ _ | refine blk_drew ?_ | refine ka_ ?_ _)); exact BK844.out)) : gb844 ≠ gb895)); have n14_ := amk ((by rw [hg]; exact Nat.ne_of_gt (blk_lt (g := gb844) (o := .cells #[.int .i64 a0_0, .int .i64 a0_1, .slice A0_2 l0_2.length c0_2] 43 (0, 0)) (by (with_reducible repeat (first | refine kn_ ?_ _ | refine blk_drew ?_ | refine ka_ ?_ _)); exact BK844.out)) : gb895 ≠ gb844)); have n15_ := amk ((by rw [hg]; exact Nat.ne_of_lt (blk_lt (g := gb857) (o := .cells #[.int .i64 t851, .int .i64 t852, .slice Ao22 t853.length co22] 35 (0, 0)) (by (with_reducible repeat (first | refine kn_ ?_ _ | refine blk_drew ?_ | refine ka_ ?_ _)); exact BK857.out)) : gb857 ≠ gb895)); have n16_ := amk ((by rw [hg]; exact Nat.ne_of_gt (blk_lt (g := gb857) (o := .cells #[.int .i64 t851, .int .i64 t852, .slice Ao22 t853.length co22] 35 (0, 0)) (by (with_reducible repeat (first | refine kn_ ?_ _ | refine blk_drew ?_ | refine ka_ ?_ _)); exact BK857.out)) : gb895 ≠ gb857)); have n17_ := amk ((by rw [hg]; exact Nat.ne_of_lt (blk_lt (g := gb863) (o := .cells #[.int .i64 t858, .int .i64 t859, .slice Ao29 t879.length co29] 35 (0, 0)) (by (with_reducible repeat (first | refine kn_ ?_ _ | refine blk_drew ?_ | refine ka_ ?_ _)); exact BK863.out)) : gb863 ≠ gb895)); have n18_ := amk ((by rw [hg]; exact Nat.ne_of_gt (blk_lt (g := gb863) (o := .cells #[.int .i64 t858, .int .i64 t859, .slice Ao29 t879.length co29] 35 (0, 0)) (by (with_reducible repeat (first | refine kn_ ?_ _ | refine blk_drew ?_ | refine ka_ ?_ _)); exact BK863.out)) : gb895 ≠ gb863)); have n19_ := amk ((by rw [hg]; exact Nat.ne_of_lt (blk_lt (g := gb870) (o := .cells #[.int .i64 t864, .int .i64 t865, .slice Ao36 t866.length co36] 35 (0, 0)) (by (with_reducible repeat (first | refine kn_ ?_ _ | refine blk_drew ?_ | refine ka_ ?_ _)); exact BK870.out)) : gb870 ≠ gb895)); have n20_ := amk ((by rw [hg]; exact Nat.ne_of_gt (blk_lt (g := gb870) (o := .cells #[.int .i64 t864, .int .i64 t865, .slice Ao36 t866.length co36] 35 (0, 0)) (by (with_reducible repeat (first | refine kn_ ?_ _ | refine blk_drew ?_ | refine ka_ ?_ _)); exact BK870.out)) : gb895 ≠ gb870)); clear HO_858002; clear HO_864002; clear HO_871002; clear HO888; clear HO893; clear BK844; clear BK857; clear BK863; clear BK870; clear HB; have HO_858002 := n0_; have HO_864002 := n1_; have HO_871002 := n2_; have HO888 := n3_; have HO893 := n4_; have BK844 := n5_; have BK857 := n6_; have BK863 := n7_; have BK870 := n8_; have HB := n9_; have BK895 := n10_; have GW895 := n11_; have GE895 := n12_; have NB844_895 := n13_; have NB895_844 := n14_; have NB857_895 := n15_; have NB895_857 := n16_; have NB863_895 := n17_; have NB895_863 := n18_; have NB870_895 := n19_; have NB895_870 := n20_; clear n0_ n1_ n2_ n3_ n4_ n5_ n6_ n7_ n8_ n9_ n10_ n11_ n12_ n13_ n14_ n15_ n16_ n17_ n18_ n19_ n20_; clear hb hbox hg; have hnb118 := NB895_844.out; have hnc118 := NB844_895.out; have hnb119 := NB895_857.out; have hnc119 := NB857_895.out; have hnb120 := NB895_863.out; have hnc120 := NB863_895.out; have hnb121 := NB895_870.out; have hnc121 := NB870_895.out; have hcz122_0 : w117.cell? ⟨gb895, 0, none⟩ = some (.int .i64 0) := (blk_cell BK895.out 0).trans rfl; have hcz122_1 : w117.cell? ⟨gb895, 1, none⟩ = some (.int .i64 0) := (blk_cell BK895.out 1).trans rfl; have hcz122_2 : w117.cell? ⟨gb895, 2, none⟩ = some (.slice none 0 0) := (blk_cell BK895.out 2).trans rfl; have hfz122_0 := blk_frozen BK895.out 0; have hfz122_1 := blk_frozen BK895.out 1; have hfz122_2 := blk_frozen BK895.out 2; obtain ⟨Ao123, co123, eo123⟩ := Kd.R_slice HO893.out; subst eo123))
                      (try simp only [Act.put, List.setIfInBounds_toArray, List.set_cons_zero, List.set_cons_succ])
                      go_cut [87] (fun v87 wc => ∃ (kq : Nat) (x87_102 : Bool), v87 = .bool x87_102 ∧ Aside0 (laws_FnExactHarderPuzzle.j2 kq t881 x87_102 t864 t865 t882 = some r) ∧ Aside0 (kq ≤ kj59) ∧ Aside0 (Kd.R k30 30 wc w.heap.size (fun k_ => some k_ ≠ ((.slice Ao29 t879.length co29) : Value).ownBlock ∧ some k_ ≠ ((.slice Ao36 t866.length co36) : Value).ownBlock ∧ some k_ ≠ ((.slice Ao123 t891.length co123) : Value).ownBlock) (.slice Ao22 t853.length co22) t853) ∧ Aside0 (Kd.R k30 30 wc w.heap.size (fun k_ => some k_ ≠ ((.slice Ao22 t853.length co22) : Value).ownBlock ∧ some k_ ≠ ((.slice Ao36 t866.length co36) : Value).ownBlock ∧ some k_ ≠ ((.slice Ao123 t891.length co123) : Value).ownBlock) (.slice Ao29 t879.length co29) t879) ∧ Aside0 (Kd.R k30 30 wc w.heap.size (fun k_ => some k_ ≠ ((.slice Ao22 t853.length co22) : Value).ownBlock ∧ some k_ ≠ ((.slice Ao29 t879.length co29) : Value).ownBlock ∧ some k_ ≠ ((.slice Ao123 t891.length co123) : Value).ownBlock) (.slice Ao36 t866.length co36) t882) ∧ Aside0 (Kd.R k30 30 wc w.heap.size (fun k_ => some k_ ≠ ((.slice Ao22 t853.length co22) : Value).ownBlock ∧ some k_ ≠ ((.slice Ao29 t879.length co29) : Value).ownBlock ∧ some k_ ≠ ((.slice Ao36 t866.length co36) : Value).ownBlock) (.slice Ao123 t891.length co123) t891) ∧ Aside0 (wc.heap[gb844]? = some (.cells #[.int .i64 a0_0, .int .i64 a0_1, (.slice A0_2 l0_2.length c0_2)] 43 (0, 0))) ∧ Aside0 (wc.heap[gb857]? = some (.cells #[.int .i64 t851, .int .i64 t852, (.slice Ao22 t853.length co22)] 35 (0, 0))) ∧ Aside0 (wc.heap[gb863]? = some (.cells #[.int .i64 t858, .int .i64 t859, (.slice Ao29 t879.length co29)] 35 (0, 0))) ∧ Aside0 (wc.heap[gb870]? = some (.cells #[.int .i64 t864, .int .i64 t865, (.slice Ao36 t866.length co36)] 35 (0, 0))) ∧ Aside0 (wc.heap[gb895]? = some (.cells #[.int .i64 t889, .int .i64 t890, (.slice Ao123 t891.length co123)] 35 (0, 0))) ∧ Aside0 (Below w.heap.size w wc))
                      case first =>
                        have H := HC103.out
                        clear HC103
                        replace H := Option.bind_eq_some_iff.mp H
                        obtain ⟨t896, A1240, H⟩ := H
                        replace H : (if t896 = true then (laws_FnExactHarderPuzzle.j2 kj59 t881 (t894 != t856) t864 t865 t882) else (laws_FnExactHarderPuzzle.j2 kj59 t881 true t864 t865 t882)) = some r := H
                        have A124 := amk A1240
                        clear A1240
                        by_cases c125 : t896 = true
                        · subst c125
                          have H1 : (laws_FnExactHarderPuzzle.j2 kj59 t881 (t894 != t856) t864 t865 t882) = some r := by rw [if_pos rfl] at H; exact H
                          clear H
                          have H := H1
                          clear H1
                          have H' := amk H
                          clear H
                          have hnb126 := NB895_844.out
                          have hnc126 := NB844_895.out
                          have hnb127 := NB895_857.out
                          have hnc127 := NB857_895.out
                          have hnb128 := NB895_863.out
                          have hnc128 := NB863_895.out
                          have hnb129 := NB895_870.out
                          have hnc129 := NB870_895.out
                          have hcz130_0 : w117.cell? ⟨gb895, 0, none⟩ = some (.int .i64 0) := (blk_cell BK895.out 0).trans rfl
                          have hcz130_1 : w117.cell? ⟨gb895, 1, none⟩ = some (.int .i64 0) := (blk_cell BK895.out 1).trans rfl
                          have hcz130_2 : w117.cell? ⟨gb895, 2, none⟩ = some (.slice none 0 0) := (blk_cell BK895.out 2).trans rfl
                          have hfz130_0 := blk_frozen BK895.out 0
                          have hfz130_1 := blk_frozen BK895.out 1
                          have hfz130_2 := blk_frozen BK895.out 2
                          have hnb131 := NB857_844.out
                          have hnc131 := NB844_857.out
                          have hnb132 := NB857_863.out
                          have hnc132 := NB863_857.out
                          have hnb133 := NB857_870.out
                          have hnc133 := NB870_857.out
                          have hcz134_0 : w117.cell? ⟨gb857, 0, none⟩ = some (.int .i64 t851) := (blk_cell BK857.out 0).trans rfl
                          have hcz134_1 : w117.cell? ⟨gb857, 1, none⟩ = some (.int .i64 t852) := (blk_cell BK857.out 1).trans rfl
                          have hcz134_2 : w117.cell? ⟨gb857, 2, none⟩ = some (.slice Ao22 t853.length co22) := (blk_cell BK857.out 2).trans rfl
                          have hfz134_0 := blk_frozen BK857.out 0
                          have hfz134_1 := blk_frozen BK857.out 1
                          have hfz134_2 := blk_frozen BK857.out 2
                          go_wp2_with (first | ((with_reducible refine gate_callee (f := 20) rfl ?_); refine goesL_ (some 81) rfl rfl Try.func20 (by kernel_rfl) rfl #[.agg #[.int .i64 t889, .int .i64 t890, .slice Ao123 t891.length co123], .agg #[.int .i64 t851, .int .i64 t852, .slice Ao22 t853.length co22]] rfl (by (try simp only [List.map_toArray, List.map_cons, List.map_nil]); first | done | rfl | (simp only [List.length_drop, List.length_take]; rfl)) ?_; (with_reducible refine (laws_eqPuzzle.calls kj59 t889 t890 _ _ t891 t851 t852 _ _ t853 true _ ?side1 ?side2 ?side3 ?side4 A124.out).mono ?_); (case side1 => refine (Kd.R_reads' (e := 30) (base := w.heap.size) (ok := fun k_ => ((((True ∧ some k_ ≠ (.slice Ao22 t853.length co22 : Value).ownBlock) ∧ some k_ ≠ (.slice Ao29 t879.length co29 : Value).ownBlock) ∧ some k_ ≠ (.slice Ao36 t866.length co36 : Value).ownBlock) ∧ some k_ ≠ (.slice Ao115 t886.length co115 : Value).ownBlock)) (n := t891.length) (c := co123) ?_).2.2; exact (by (with_reducible repeat (first | apply Kd.R_alloc | apply Kd.R_drewN | apply Kd.R_drew)); exact (Kd.R_mono (Kd.R_far (p := ⟨gb895, 2, none⟩) (Kd.R_far (p := ⟨gb895, 1, none⟩) (Kd.R_far (p := ⟨gb895, 0, none⟩) (Kd.R_types HO893.out BK895.out (by decide)) (fun _ hk => hk.2) (.int .i64 t889)) (fun _ hk => hk.2) (.int .i64 t890)) (fun _ hk => hk.2) (.slice Ao123 t891.length co123)) (fun _ h_ => h_.1)))); (case side2 => exact (Kd.R_reads' HO893.out).2.1); (case side3 => refine (Kd.R_reads' (e := 30) (base := w.heap.size) (ok := fun k_ => (((some k_ ≠ (.slice Ao29 t879.length co29 : Value).ownBlock ∧ some k_ ≠ (.slice Ao36 t866.length co36 : Value).ownBlock) ∧ some k_ ≠ (.slice Ao115 t886.length co115 : Value).ownBlock) ∧ some k_ ≠ (.slice Ao123 t891.length co123 : Value).ownBlock)) (n := t853.length) (c := co22) ?_).2.2; exact (by (with_reducible repeat (first | apply Kd.R_alloc | apply Kd.R_drewN | apply Kd.R_drew)); exact (Kd.R_mono (Kd.R_far (p := ⟨gb895, 2, none⟩) (Kd.R_far (p := ⟨gb895, 1, none⟩) (Kd.R_far (p := ⟨gb895, 0, none⟩) (Kd.R_types HO_858002.out BK895.out (by decide)) (fun _ hk => hk.2) (.int .i64 t889)) (fun _ hk => hk.2) (.int .i64 t890)) (fun _ hk => hk.2) (.slice Ao123 t891.length co123)) (fun _ h_ => h_.1)))); (case side4 => exact (Kd.R_reads' HO_858002.out).2.1); rintro e w135 ⟨rfl, hb⟩; refine ⟨_, rfl, ?_⟩; have n0_ := amk (Kd.R_below (by (with_reducible repeat (first | apply Kd.R_alloc | apply Kd.R_drewN | apply Kd.R_drew)); exact (Kd.R_mono (Kd.R_far (p := ⟨gb895, 2, none⟩) (Kd.R_far (p := ⟨gb895, 1, none⟩) (Kd.R_far (p := ⟨gb895, 0, none⟩) (Kd.R_types HO_858002.out BK895.out (by decide)) (fun _ hk => hk.2) (.int .i64 t889)) (fun _ hk => hk.2) (.int .i64 t890)) (fun _ hk => hk.2) (.slice Ao123 t891.length co123)) (fun _ h_ => h_.1))) hb); have n1_ := amk (Kd.R_below (by (with_reducible repeat (first | apply Kd.R_alloc | apply Kd.R_drewN | apply Kd.R_drew)); exact (Kd.R_mono (Kd.R_far (p := ⟨gb895, 2, none⟩) (Kd.R_far (p := ⟨gb895, 1, none⟩) (Kd.R_far (p := ⟨gb895, 0, none⟩) (Kd.R_types HO_864002.out BK895.out (by decide)) (fun _ hk => hk.2) (.int .i64 t889)) (fun _ hk => hk.2) (.int .i64 t890)) (fun _ hk => hk.2) (.slice Ao123 t891.length co123)) (fun _ h_ => h_.1))) hb); have n2_ := amk (Kd.R_below (by (with_reducible repeat (first | apply Kd.R_alloc | apply Kd.R_drewN | apply Kd.R_drew)); exact (Kd.R_mono (Kd.R_far (p := ⟨gb895, 2, none⟩) (Kd.R_far (p := ⟨gb895, 1, none⟩) (Kd.R_far (p := ⟨gb895, 0, none⟩) (Kd.R_types HO_871002.out BK895.out (by decide)) (fun _ hk => hk.2) (.int .i64 t889)) (fun _ hk => hk.2) (.int .i64 t890)) (fun _ hk => hk.2) (.slice Ao123 t891.length co123)) (fun _ h_ => h_.1))) hb); have n3_ := amk (Kd.R_below (by (with_reducible repeat (first | apply Kd.R_alloc | apply Kd.R_drewN | apply Kd.R_drew)); exact (Kd.R_mono (Kd.R_far (p := ⟨gb895, 2, none⟩) (Kd.R_far (p := ⟨gb895, 1, none⟩) (Kd.R_far (p := ⟨gb895, 0, none⟩) (Kd.R_types HO888.out BK895.out (by decide)) (fun _ hk => hk.2) (.int .i64 t889)) (fun _ hk => hk.2) (.int .i64 t890)) (fun _ hk => hk.2) (.slice Ao123 t891.length co123)) (fun _ h_ => h_.1))) hb); have n4_ := amk (Kd.R_below (by (with_reducible repeat (first | apply Kd.R_alloc | apply Kd.R_drewN | apply Kd.R_drew)); exact (Kd.R_mono (Kd.R_far (p := ⟨gb895, 2, none⟩) (Kd.R_far (p := ⟨gb895, 1, none⟩) (Kd.R_far (p := ⟨gb895, 0, none⟩) (Kd.R_types HO893.out BK895.out (by decide)) (fun _ hk => hk.2) (.int .i64 t889)) (fun _ hk => hk.2) (.int .i64 t890)) (fun _ hk => hk.2) (.slice Ao123 t891.length co123)) (fun _ h_ => h_.1))) hb); have n5_ := amk (blk_below (g := gb844) (o := .cells #[.int .i64 a0_0, .int .i64 a0_1, .slice A0_2 l0_2.length c0_2] 43 (0, 0)) (by (with_reducible repeat (first | refine kn_ ?_ _ | refine blk_drew ?_ | refine ka_ ?_ _)); refine blk_far ?_ NB844_895.out _; (with_reducible repeat (first | refine kn_ ?_ _ | refine blk_drew ?_ | refine ka_ ?_ _)); refine blk_far ?_ NB844_895.out _; (with_reducible repeat (first | refine kn_ ?_ _ | refine blk_drew ?_ | refine ka_ ?_ _)); refine blk_far ?_ NB844_895.out _; (with_reducible repeat (first | refine kn_ ?_ _ | refine blk_drew ?_ | refine ka_ ?_ _)); exact BK844.out) hb); have n6_ := amk (blk_below (g := gb857) (o := .cells #[.int .i64 t851, .int .i64 t852, .slice Ao22 t853.length co22] 35 (0, 0)) (by (with_reducible repeat (first | refine kn_ ?_ _ | refine blk_drew ?_ | refine ka_ ?_ _)); refine blk_far ?_ NB857_895.out _; (with_reducible repeat (first | refine kn_ ?_ _ | refine blk_drew ?_ | refine ka_ ?_ _)); refine blk_far ?_ NB857_895.out _; (with_reducible repeat (first | refine kn_ ?_ _ | refine blk_drew ?_ | refine ka_ ?_ _)); refine blk_far ?_ NB857_895.out _; (with_reducible repeat (first | refine kn_ ?_ _ | refine blk_drew ?_ | refine ka_ ?_ _)); exact BK857.out) hb); have n7_ := amk (blk_below (g := gb863) (o := .cells #[.int .i64 t858, .int .i64 t859, .slice Ao29 t879.length co29] 35 (0, 0)) (by (with_reducible repeat (first | refine kn_ ?_ _ | refine blk_drew ?_ | refine ka_ ?_ _)); refine blk_far ?_ NB863_895.out _; (with_reducible repeat (first | refine kn_ ?_ _ | refine blk_drew ?_ | refine ka_ ?_ _)); refine blk_far ?_ NB863_895.out _; (with_reducible repeat (first | refine kn_ ?_ _ | refine blk_drew ?_ | refine ka_ ?_ _)); refine blk_far ?_ NB863_895.out _; (with_reducible repeat (first | refine kn_ ?_ _ | refine blk_drew ?_ | refine ka_ ?_ _)); exact BK863.out) hb); have n8_ := amk (blk_below (g := gb870) (o := .cells #[.int .i64 t864, .int .i64 t865, .slice Ao36 t866.length co36] 35 (0, 0)) (by (with_reducible repeat (first | refine kn_ ?_ _ | refine blk_drew ?_ | refine ka_ ?_ _)); refine blk_far ?_ NB870_895.out _; (with_reducible repeat (first | refine kn_ ?_ _ | refine blk_drew ?_ | refine ka_ ?_ _)); refine blk_far ?_ NB870_895.out _; (with_reducible repeat (first | refine kn_ ?_ _ | refine blk_drew ?_ | refine ka_ ?_ _)); refine blk_far ?_ NB870_895.out _; (with_reducible repeat (first | refine kn_ ?_ _ | refine blk_drew ?_ | refine ka_ ?_ _)); exact BK870.out) hb); have n9_ := amk (blk_below (g := gb895) (o := .cells #[.int .i64 t889, .int .i64 t890, .slice Ao123 t891.length co123] 35 (0, 0)) (by (with_reducible repeat (first | refine kn_ ?_ _ | refine blk_drew ?_ | refine ka_ ?_ _)); refine blk_put (cs := #[.int .i64 t889, .int .i64 t890, .slice none 0 0]) ?_ 2 _ rfl; (with_reducible repeat (first | refine kn_ ?_ _ | refine blk_drew ?_ | refine ka_ ?_ _)); refine blk_put (cs := #[.int .i64 t889, .int .i64 0, .slice none 0 0]) ?_ 1 _ rfl; (with_reducible repeat (first | refine kn_ ?_ _ | refine blk_drew ?_ | refine ka_ ?_ _)); refine blk_put (cs := #[.int .i64 0, .int .i64 0, .slice none 0 0]) ?_ 0 _ rfl; (with_reducible repeat (first | refine kn_ ?_ _ | refine blk_drew ?_ | refine ka_ ?_ _)); exact BK895.out) hb); have n10_ := amk (bp_ (by repeat (first | (with_reducible first | exact HB.out | apply ba_ | apply bn_ | apply bd_ | refine bs_ ?_ GE844.out | refine bs_ ?_ GE857.out | refine bs_ ?_ GE863.out | refine bs_ ?_ GE870.out | refine bs_ ?_ GE895.out) | exact HB.out)) hb); clear HO_858002; clear HO_864002; clear HO_871002; clear HO888; clear HO893; clear BK844; clear BK857; clear BK863; clear BK870; clear BK895; clear HB; have HO_858002 := n0_; have HO_864002 := n1_; have HO_871002 := n2_; have HO888 := n3_; have HO893 := n4_; have BK844 := n5_; have BK857 := n6_; have BK863 := n7_; have BK870 := n8_; have BK895 := n9_; have HB := n10_; clear n0_ n1_ n2_ n3_ n4_ n5_ n6_ n7_ n8_ n9_ n10_; (try clear hb); (try clear hb2); (try clear hk); (try clear hi)))
                          go_meet
                          case rel => exact ⟨_, ((t894 != t856)), (by first | rfl | (simp; done) | (simp [*]; done)), H', ⟨by have := HJ10.out; have := HJ59.out; first | omega | exact Nat.le_refl _⟩, ⟨by (try simp only [hl864002_59]); (with_reducible repeat (first | apply Kd.R_alloc | apply Kd.R_drewN | apply Kd.R_drew)); exact Kd.R_mono HO_858002.out (fun _ hk => ⟨hk.1.1.1, ⟨hk.1.1.2, hk.2⟩⟩)⟩, ⟨by (try simp only [hl864002_59]); (with_reducible repeat (first | apply Kd.R_alloc | apply Kd.R_drewN | apply Kd.R_drew)); exact Kd.R_mono HO_864002.out (fun _ hk => ⟨hk.1.1.1, ⟨hk.1.1.2, hk.2⟩⟩)⟩, ⟨by (try simp only [hl864002_59]); (with_reducible repeat (first | apply Kd.R_alloc | apply Kd.R_drewN | apply Kd.R_drew)); exact Kd.R_mono HO_871002.out (fun _ hk => ⟨hk.1.1.1, ⟨hk.1.1.2, hk.2⟩⟩)⟩, ⟨by (try simp only [hl864002_59]); (with_reducible repeat (first | apply Kd.R_alloc | apply Kd.R_drewN | apply Kd.R_drew)); exact Kd.R_mono HO893.out (fun _ hk => ⟨hk.1.1.1.2, ⟨hk.1.1.2, hk.1.2⟩⟩)⟩, ⟨by (try simp only [hl864002_59]); (with_reducible repeat (first | refine kn_ ?_ _ | refine blk_drew ?_ | refine ka_ ?_ _)); exact BK844.out⟩, ⟨by (try simp only [hl864002_59]); (with_reducible repeat (first | refine kn_ ?_ _ | refine blk_drew ?_ | refine ka_ ?_ _)); exact BK857.out⟩, ⟨by (try simp only [hl864002_59]); (with_reducible repeat (first | refine kn_ ?_ _ | refine blk_drew ?_ | refine ka_ ?_ _)); exact BK863.out⟩, ⟨by (try simp only [hl864002_59]); (with_reducible repeat (first | refine kn_ ?_ _ | refine blk_drew ?_ | refine ka_ ?_ _)); exact BK870.out⟩, ⟨by (try simp only [hl864002_59]); (with_reducible repeat (first | refine kn_ ?_ _ | refine blk_drew ?_ | refine ka_ ?_ _)); exact BK895.out⟩, ⟨by repeat (first | (with_reducible first | exact HB.out | apply ba_ | apply bn_ | apply bd_ | refine bs_ ?_ GE844.out | refine bs_ ?_ GE857.out | refine bs_ ?_ GE863.out | refine bs_ ?_ GE870.out | refine bs_ ?_ GE895.out) | exact HB.out)⟩⟩
                        · replace c125 := Bool.eq_false_iff.mpr c125
                          subst c125
                          have H1 : (laws_FnExactHarderPuzzle.j2 kj59 t881 true t864 t865 t882) = some r := by rw [if_neg (show ¬ (false = true) by decide)] at H; exact H
                          clear H
                          have H := H1
                          clear H1
                          have H' := amk H
                          clear H
                          have hnb136 := NB895_844.out
                          have hnc136 := NB844_895.out
                          have hnb137 := NB895_857.out
                          have hnc137 := NB857_895.out
                          have hnb138 := NB895_863.out
                          have hnc138 := NB863_895.out
                          have hnb139 := NB895_870.out
                          have hnc139 := NB870_895.out
                          have hcz140_0 : w117.cell? ⟨gb895, 0, none⟩ = some (.int .i64 0) := (blk_cell BK895.out 0).trans rfl
                          have hcz140_1 : w117.cell? ⟨gb895, 1, none⟩ = some (.int .i64 0) := (blk_cell BK895.out 1).trans rfl
                          have hcz140_2 : w117.cell? ⟨gb895, 2, none⟩ = some (.slice none 0 0) := (blk_cell BK895.out 2).trans rfl
                          have hfz140_0 := blk_frozen BK895.out 0
                          have hfz140_1 := blk_frozen BK895.out 1
                          have hfz140_2 := blk_frozen BK895.out 2
                          have hnb141 := NB857_844.out
                          have hnc141 := NB844_857.out
                          have hnb142 := NB857_863.out
                          have hnc142 := NB863_857.out
                          have hnb143 := NB857_870.out
                          have hnc143 := NB870_857.out
                          have hcz144_0 : w117.cell? ⟨gb857, 0, none⟩ = some (.int .i64 t851) := (blk_cell BK857.out 0).trans rfl
                          have hcz144_1 : w117.cell? ⟨gb857, 1, none⟩ = some (.int .i64 t852) := (blk_cell BK857.out 1).trans rfl
                          have hcz144_2 : w117.cell? ⟨gb857, 2, none⟩ = some (.slice Ao22 t853.length co22) := (blk_cell BK857.out 2).trans rfl
                          have hfz144_0 := blk_frozen BK857.out 0
                          have hfz144_1 := blk_frozen BK857.out 1
                          have hfz144_2 := blk_frozen BK857.out 2
                          go_wp2_with (first | ((with_reducible refine gate_callee (f := 20) rfl ?_); refine goesL_ (some 81) rfl rfl Try.func20 (by kernel_rfl) rfl #[.agg #[.int .i64 t889, .int .i64 t890, .slice Ao123 t891.length co123], .agg #[.int .i64 t851, .int .i64 t852, .slice Ao22 t853.length co22]] rfl (by (try simp only [List.map_toArray, List.map_cons, List.map_nil]); first | done | rfl | (simp only [List.length_drop, List.length_take]; rfl)) ?_; (with_reducible refine (laws_eqPuzzle.calls kj59 t889 t890 _ _ t891 t851 t852 _ _ t853 false _ ?side1 ?side2 ?side3 ?side4 A124.out).mono ?_); (case side1 => refine (Kd.R_reads' (e := 30) (base := w.heap.size) (ok := fun k_ => ((((True ∧ some k_ ≠ (.slice Ao22 t853.length co22 : Value).ownBlock) ∧ some k_ ≠ (.slice Ao29 t879.length co29 : Value).ownBlock) ∧ some k_ ≠ (.slice Ao36 t866.length co36 : Value).ownBlock) ∧ some k_ ≠ (.slice Ao115 t886.length co115 : Value).ownBlock)) (n := t891.length) (c := co123) ?_).2.2; exact (by (with_reducible repeat (first | apply Kd.R_alloc | apply Kd.R_drewN | apply Kd.R_drew)); exact (Kd.R_mono (Kd.R_far (p := ⟨gb895, 2, none⟩) (Kd.R_far (p := ⟨gb895, 1, none⟩) (Kd.R_far (p := ⟨gb895, 0, none⟩) (Kd.R_types HO893.out BK895.out (by decide)) (fun _ hk => hk.2) (.int .i64 t889)) (fun _ hk => hk.2) (.int .i64 t890)) (fun _ hk => hk.2) (.slice Ao123 t891.length co123)) (fun _ h_ => h_.1)))); (case side2 => exact (Kd.R_reads' HO893.out).2.1); (case side3 => refine (Kd.R_reads' (e := 30) (base := w.heap.size) (ok := fun k_ => (((some k_ ≠ (.slice Ao29 t879.length co29 : Value).ownBlock ∧ some k_ ≠ (.slice Ao36 t866.length co36 : Value).ownBlock) ∧ some k_ ≠ (.slice Ao115 t886.length co115 : Value).ownBlock) ∧ some k_ ≠ (.slice Ao123 t891.length co123 : Value).ownBlock)) (n := t853.length) (c := co22) ?_).2.2; exact (by (with_reducible repeat (first | apply Kd.R_alloc | apply Kd.R_drewN | apply Kd.R_drew)); exact (Kd.R_mono (Kd.R_far (p := ⟨gb895, 2, none⟩) (Kd.R_far (p := ⟨gb895, 1, none⟩) (Kd.R_far (p := ⟨gb895, 0, none⟩) (Kd.R_types HO_858002.out BK895.out (by decide)) (fun _ hk => hk.2) (.int .i64 t889)) (fun _ hk => hk.2) (.int .i64 t890)) (fun _ hk => hk.2) (.slice Ao123 t891.length co123)) (fun _ h_ => h_.1)))); (case side4 => exact (Kd.R_reads' HO_858002.out).2.1); rintro e w145 ⟨rfl, hb⟩; refine ⟨_, rfl, ?_⟩; have n0_ := amk (Kd.R_below (by (with_reducible repeat (first | apply Kd.R_alloc | apply Kd.R_drewN | apply Kd.R_drew)); exact (Kd.R_mono (Kd.R_far (p := ⟨gb895, 2, none⟩) (Kd.R_far (p := ⟨gb895, 1, none⟩) (Kd.R_far (p := ⟨gb895, 0, none⟩) (Kd.R_types HO_858002.out BK895.out (by decide)) (fun _ hk => hk.2) (.int .i64 t889)) (fun _ hk => hk.2) (.int .i64 t890)) (fun _ hk => hk.2) (.slice Ao123 t891.length co123)) (fun _ h_ => h_.1))) hb); have n1_ := amk (Kd.R_below (by (with_reducible repeat (first | apply Kd.R_alloc | apply Kd.R_drewN | apply Kd.R_drew)); exact (Kd.R_mono (Kd.R_far (p := ⟨gb895, 2, none⟩) (Kd.R_far (p := ⟨gb895, 1, none⟩) (Kd.R_far (p := ⟨gb895, 0, none⟩) (Kd.R_types HO_864002.out BK895.out (by decide)) (fun _ hk => hk.2) (.int .i64 t889)) (fun _ hk => hk.2) (.int .i64 t890)) (fun _ hk => hk.2) (.slice Ao123 t891.length co123)) (fun _ h_ => h_.1))) hb); have n2_ := amk (Kd.R_below (by (with_reducible repeat (first | apply Kd.R_alloc | apply Kd.R_drewN | apply Kd.R_drew)); exact (Kd.R_mono (Kd.R_far (p := ⟨gb895, 2, none⟩) (Kd.R_far (p := ⟨gb895, 1, none⟩) (Kd.R_far (p := ⟨gb895, 0, none⟩) (Kd.R_types HO_871002.out BK895.out (by decide)) (fun _ hk => hk.2) (.int .i64 t889)) (fun _ hk => hk.2) (.int .i64 t890)) (fun _ hk => hk.2) (.slice Ao123 t891.length co123)) (fun _ h_ => h_.1))) hb); have n3_ := amk (Kd.R_below (by (with_reducible repeat (first | apply Kd.R_alloc | apply Kd.R_drewN | apply Kd.R_drew)); exact (Kd.R_mono (Kd.R_far (p := ⟨gb895, 2, none⟩) (Kd.R_far (p := ⟨gb895, 1, none⟩) (Kd.R_far (p := ⟨gb895, 0, none⟩) (Kd.R_types HO888.out BK895.out (by decide)) (fun _ hk => hk.2) (.int .i64 t889)) (fun _ hk => hk.2) (.int .i64 t890)) (fun _ hk => hk.2) (.slice Ao123 t891.length co123)) (fun _ h_ => h_.1))) hb); have n4_ := amk (Kd.R_below (by (with_reducible repeat (first | apply Kd.R_alloc | apply Kd.R_drewN | apply Kd.R_drew)); exact (Kd.R_mono (Kd.R_far (p := ⟨gb895, 2, none⟩) (Kd.R_far (p := ⟨gb895, 1, none⟩) (Kd.R_far (p := ⟨gb895, 0, none⟩) (Kd.R_types HO893.out BK895.out (by decide)) (fun _ hk => hk.2) (.int .i64 t889)) (fun _ hk => hk.2) (.int .i64 t890)) (fun _ hk => hk.2) (.slice Ao123 t891.length co123)) (fun _ h_ => h_.1))) hb); have n5_ := amk (blk_below (g := gb844) (o := .cells #[.int .i64 a0_0, .int .i64 a0_1, .slice A0_2 l0_2.length c0_2] 43 (0, 0)) (by (with_reducible repeat (first | refine kn_ ?_ _ | refine blk_drew ?_ | refine ka_ ?_ _)); refine blk_far ?_ NB844_895.out _; (with_reducible repeat (first | refine kn_ ?_ _ | refine blk_drew ?_ | refine ka_ ?_ _)); refine blk_far ?_ NB844_895.out _; (with_reducible repeat (first | refine kn_ ?_ _ | refine blk_drew ?_ | refine ka_ ?_ _)); refine blk_far ?_ NB844_895.out _; (with_reducible repeat (first | refine kn_ ?_ _ | refine blk_drew ?_ | refine ka_ ?_ _)); exact BK844.out) hb); have n6_ := amk (blk_below (g := gb857) (o := .cells #[.int .i64 t851, .int .i64 t852, .slice Ao22 t853.length co22] 35 (0, 0)) (by (with_reducible repeat (first | refine kn_ ?_ _ | refine blk_drew ?_ | refine ka_ ?_ _)); refine blk_far ?_ NB857_895.out _; (with_reducible repeat (first | refine kn_ ?_ _ | refine blk_drew ?_ | refine ka_ ?_ _)); refine blk_far ?_ NB857_895.out _; (with_reducible repeat (first | refine kn_ ?_ _ | refine blk_drew ?_ | refine ka_ ?_ _)); refine blk_far ?_ NB857_895.out _; (with_reducible repeat (first | refine kn_ ?_ _ | refine blk_drew ?_ | refine ka_ ?_ _)); exact BK857.out) hb); have n7_ := amk (blk_below (g := gb863) (o := .cells #[.int .i64 t858, .int .i64 t859, .slice Ao29 t879.length co29] 35 (0, 0)) (by (with_reducible repeat (first | refine kn_ ?_ _ | refine blk_drew ?_ | refine ka_ ?_ _)); refine blk_far ?_ NB863_895.out _; (with_reducible repeat (first | refine kn_ ?_ _ | refine blk_drew ?_ | refine ka_ ?_ _)); refine blk_far ?_ NB863_895.out _; (with_reducible repeat (first | refine kn_ ?_ _ | refine blk_drew ?_ | refine ka_ ?_ _)); refine blk_far ?_ NB863_895.out _; (with_reducible repeat (first | refine kn_ ?_ _ | refine blk_drew ?_ | refine ka_ ?_ _)); exact BK863.out) hb); have n8_ := amk (blk_below (g := gb870) (o := .cells #[.int .i64 t864, .int .i64 t865, .slice Ao36 t866.length co36] 35 (0, 0)) (by (with_reducible repeat (first | refine kn_ ?_ _ | refine blk_drew ?_ | refine ka_ ?_ _)); refine blk_far ?_ NB870_895.out _; (with_reducible repeat (first | refine kn_ ?_ _ | refine blk_drew ?_ | refine ka_ ?_ _)); refine blk_far ?_ NB870_895.out _; (with_reducible repeat (first | refine kn_ ?_ _ | refine blk_drew ?_ | refine ka_ ?_ _)); refine blk_far ?_ NB870_895.out _; (with_reducible repeat (first | refine kn_ ?_ _ | refine blk_drew ?_ | refine ka_ ?_ _)); exact BK870.out) hb); have n9_ := amk (blk_below (g := gb895) (o := .cells #[.int .i64 t889, .int .i64 t890, .slice Ao123 t891.length co123] 35 (0, 0)) (by (with_reducible repeat (first | refine kn_ ?_ _ | refine blk_drew ?_ | refine ka_ ?_ _)); refine blk_put (cs := #[.int .i64 t889, .int .i64 t890, .slice none 0 0]) ?_ 2 _ rfl; (with_reducible repeat (first | refine kn_ ?_ _ | refine blk_drew ?_ | refine ka_ ?_ _)); refine blk_put (cs := #[.int .i64 t889, .int .i64 0, .slice none 0 0]) ?_ 1 _ rfl; (with_reducible repeat (first | refine kn_ ?_ _ | refine blk_drew ?_ | refine ka_ ?_ _)); refine blk_put (cs := #[.int .i64 0, .int .i64 0, .slice none 0 0]) ?_ 0 _ rfl; (with_reducible repeat (first | refine kn_ ?_ _ | refine blk_drew ?_ | refine ka_ ?_ _)); exact BK895.out) hb); have n10_ := amk (bp_ (by repeat (first | (with_reducible first | exact HB.out | apply ba_ | apply bn_ | apply bd_ | refine bs_ ?_ GE844.out | refine bs_ ?_ GE857.out | refine bs_ ?_ GE863.out | refine bs_ ?_ GE870.out | refine bs_ ?_ GE895.out) | exact HB.out)) hb); clear HO_858002; clear HO_864002; clear HO_871002; clear HO888; clear HO893; clear BK844; clear BK857; clear BK863; clear BK870; clear BK895; clear HB; have HO_858002 := n0_; have HO_864002 := n1_; have HO_871002 := n2_; have HO888 := n3_; have HO893 := n4_; have BK844 := n5_; have BK857 := n6_; have BK863 := n7_; have BK870 := n8_; have BK895 := n9_; have HB := n10_; clear n0_ n1_ n2_ n3_ n4_ n5_ n6_ n7_ n8_ n9_ n10_; (try clear hb); (try clear hb2); (try clear hk); (try clear hi)))
                          go_meet
                          case rel => exact ⟨_, (true), (by first | rfl | (simp; done) | (simp [*]; done)), H', ⟨by have := HJ10.out; have := HJ59.out; first | omega | exact Nat.le_refl _⟩, ⟨by (try simp only [hl864002_59]); (with_reducible repeat (first | apply Kd.R_alloc | apply Kd.R_drewN | apply Kd.R_drew)); exact Kd.R_mono HO_858002.out (fun _ hk => ⟨hk.1.1.1, ⟨hk.1.1.2, hk.2⟩⟩)⟩, ⟨by (try simp only [hl864002_59]); (with_reducible repeat (first | apply Kd.R_alloc | apply Kd.R_drewN | apply Kd.R_drew)); exact Kd.R_mono HO_864002.out (fun _ hk => ⟨hk.1.1.1, ⟨hk.1.1.2, hk.2⟩⟩)⟩, ⟨by (try simp only [hl864002_59]); (with_reducible repeat (first | apply Kd.R_alloc | apply Kd.R_drewN | apply Kd.R_drew)); exact Kd.R_mono HO_871002.out (fun _ hk => ⟨hk.1.1.1, ⟨hk.1.1.2, hk.2⟩⟩)⟩, ⟨by (try simp only [hl864002_59]); (with_reducible repeat (first | apply Kd.R_alloc | apply Kd.R_drewN | apply Kd.R_drew)); exact Kd.R_mono HO893.out (fun _ hk => ⟨hk.1.1.1.2, ⟨hk.1.1.2, hk.1.2⟩⟩)⟩, ⟨by (try simp only [hl864002_59]); (with_reducible repeat (first | refine kn_ ?_ _ | refine blk_drew ?_ | refine ka_ ?_ _)); exact BK844.out⟩, ⟨by (try simp only [hl864002_59]); (with_reducible repeat (first | refine kn_ ?_ _ | refine blk_drew ?_ | refine ka_ ?_ _)); exact BK857.out⟩, ⟨by (try simp only [hl864002_59]); (with_reducible repeat (first | refine kn_ ?_ _ | refine blk_drew ?_ | refine ka_ ?_ _)); exact BK863.out⟩, ⟨by (try simp only [hl864002_59]); (with_reducible repeat (first | refine kn_ ?_ _ | refine blk_drew ?_ | refine ka_ ?_ _)); exact BK870.out⟩, ⟨by (try simp only [hl864002_59]); (with_reducible repeat (first | refine kn_ ?_ _ | refine blk_drew ?_ | refine ka_ ?_ _)); exact BK895.out⟩, ⟨by repeat (first | (with_reducible first | exact HB.out | apply ba_ | apply bn_ | apply bd_ | refine bs_ ?_ GE844.out | refine bs_ ?_ GE857.out | refine bs_ ?_ GE863.out | refine bs_ ?_ GE870.out | refine bs_ ?_ GE895.out) | exact HB.out)⟩⟩
                      case rest =>
                        clear HC103
                        try clear c1; try clear c2; try clear p2; try clear c3; try clear c3b0; try clear c4; try clear c5; try clear c6; try clear c7; try clear c8; try clear c9; try clear c10; try clear c11; try clear c12; try clear c13; try clear c14; try clear c20; try clear c21; try clear c22; try clear c23; try clear c25; try clear c26; try clear c27; try clear c32; try clear c33; try clear c34; try clear c38; try clear c39; try clear c40; try clear c41; try clear c43; try clear c44; try clear c47; try clear c48; try clear c49; try clear c51; try clear c52; try clear c55; try clear c58; try clear c65; try clear c66; try clear c67; try clear c70; try clear c70b0; try clear c72; try clear c73; try clear c74; try clear c75; try clear c77; try clear c78; try clear c81; try clear c82; try clear c83; try clear c85; try clear c86; try clear c89; try clear c92; try clear c92b0; try clear c93; try clear c94; try clear c95; try clear c100; try clear c100b0; try clear c100b1; try clear c104; try clear c105; try clear c106; try clear c111; try clear c112; try clear c118; try clear c119; try clear c120; try clear c121; try clear c125; try clear c126; try clear c127; try clear c128; try clear c129; try clear c131; try clear c132; try clear c133; try clear c136; try clear c137; try clear c138; try clear c139; try clear c141; try clear c142; try clear c143; try clear hcz107_0; try clear hcz107_1; try clear hcz107_2; try clear hcz109_0; try clear hcz109_1; try clear hcz109_2; try clear hcz113_0; try clear hcz113_1; try clear hcz113_2; try clear hcz122_0; try clear hcz122_1; try clear hcz122_2; try clear hcz130_0; try clear hcz130_1; try clear hcz130_2; try clear hcz134_0; try clear hcz134_1; try clear hcz134_2; try clear hcz13_0; try clear hcz13_1; try clear hcz13_2; try clear hcz140_0; try clear hcz140_1; try clear hcz140_2; try clear hcz144_0; try clear hcz144_1; try clear hcz144_2; try clear hcz15_0; try clear hcz15_1; try clear hcz15_2; try clear hcz21_0; try clear hcz21_1; try clear hcz21_2; try clear hcz23_0; try clear hcz23_1; try clear hcz23_2; try clear hcz28_0; try clear hcz28_1; try clear hcz28_2; try clear hcz35_0; try clear hcz35_1; try clear hcz35_2; try clear hcz42_0; try clear hcz42_1; try clear hcz42_2; try clear hcz45_0; try clear hcz45_1; try clear hcz45_2; try clear hcz50_0; try clear hcz50_1; try clear hcz50_2; try clear hcz53_0; try clear hcz53_1; try clear hcz53_2; try clear hcz5_0; try clear hcz5_1; try clear hcz5_2; try clear hcz68_0; try clear hcz68_1; try clear hcz68_2; try clear hcz76_0; try clear hcz76_1; try clear hcz76_2; try clear hcz79_0; try clear hcz79_1; try clear hcz79_2; try clear hcz84_0; try clear hcz84_1; try clear hcz84_2; try clear hcz87_0; try clear hcz87_1; try clear hcz87_2; try clear hcz96_0; try clear hcz96_1; try clear hcz96_2; try clear hcz98_0; try clear hcz98_1; try clear hcz98_2; try clear hfz107_0; try clear hfz107_1; try clear hfz107_2; try clear hfz109_0; try clear hfz109_1; try clear hfz109_2; try clear hfz113_0; try clear hfz113_1; try clear hfz113_2; try clear hfz122_0; try clear hfz122_1; try clear hfz122_2; try clear hfz130_0; try clear hfz130_1; try clear hfz130_2; try clear hfz134_0; try clear hfz134_1; try clear hfz134_2; try clear hfz13_0; try clear hfz13_1; try clear hfz13_2; try clear hfz140_0; try clear hfz140_1; try clear hfz140_2; try clear hfz144_0; try clear hfz144_1; try clear hfz144_2; try clear hfz15_0; try clear hfz15_1; try clear hfz15_2; try clear hfz21_0; try clear hfz21_1; try clear hfz21_2; try clear hfz23_0; try clear hfz23_1; try clear hfz23_2; try clear hfz28_0; try clear hfz28_1; try clear hfz28_2; try clear hfz35_0; try clear hfz35_1; try clear hfz35_2; try clear hfz42_0; try clear hfz42_1; try clear hfz42_2; try clear hfz45_0; try clear hfz45_1; try clear hfz45_2; try clear hfz50_0; try clear hfz50_1; try clear hfz50_2; try clear hfz53_0; try clear hfz53_1; try clear hfz53_2; try clear hfz5_0; try clear hfz5_1; try clear hfz5_2; try clear hfz68_0; try clear hfz68_1; try clear hfz68_2; try clear hfz76_0; try clear hfz76_1; try clear hfz76_2; try clear hfz79_0; try clear hfz79_1; try clear hfz79_2; try clear hfz84_0; try clear hfz84_1; try clear hfz84_2; try clear hfz87_0; try clear hfz87_1; try clear hfz87_2; try clear hfz96_0; try clear hfz96_1; try clear hfz96_2; try clear hfz98_0; try clear hfz98_1; try clear hfz98_2; try clear p2
                        obtain ⟨kq, x87_102, rfl, HA, HJ102, HO_858002, HO_864002, HO_871002, HO_896002, BK844, BK857, BK863, BK870, BK895, HB⟩ := hcut
                        have hl871002_102 := (Kd.R_reads' HO_871002.out).1
                        rw [hl871002_102] at HO_871002
                        (try simp only [hl871002_102])
                        (try simp only [hl871002_102] at BK844)
                        (try simp only [hl871002_102] at BK857)
                        (try simp only [hl871002_102] at BK863)
                        (try simp only [hl871002_102] at BK870)
                        (try simp only [hl871002_102] at BK895)
                        (try simp only [hl871002_102] at HO_858002)
                        (try simp only [hl871002_102] at HO_864002)
                        (try simp only [hl871002_102] at HO_896002)
                        cases kq with
                        | zero => exact absurd HA.out (by simp [laws_FnExactHarderPuzzle.j2])
                        | succ kj102 =>
                          have H := HA.out
                          clear HA
                          simp only [laws_FnExactHarderPuzzle.j2] at H
                          by_cases c146 : x87_102 = true
                          · subst c146
                            have H1 : (some false) = some r := by rw [if_pos rfl] at H; exact H
                            clear H
                            have H := H1
                            clear H1
                            obtain rfl := Option.some.inj H
                            go_wp2
                            go_ret
                            exact ⟨by first | rfl | (simp [errW_none, errW_some] <;> rfl) | (simp [*, errW_none, errW_some] <;> rfl), by repeat (first | (with_reducible first | exact HB.out | apply ba_ | apply bn_ | apply bd_ | refine bs_ ?_ GE844.out | refine bs_ ?_ GE857.out | refine bs_ ?_ GE863.out | refine bs_ ?_ GE870.out | refine bs_ ?_ GE895.out) | exact HB.out)⟩
                          · replace c146 := Bool.eq_false_iff.mpr c146
                            subst c146
                            have H1 : ((laws_heldPuzzle.f kj102 t864 t865 t882 1).bind fun t897 => (if t897 < 0 then (some false) else (if t897 = t881 then (some true) else (some false)))) = some r := by rw [if_neg (show ¬ (false = true) by decide)] at H; exact H
                            clear H
                            have H := H1
                            clear H1
                            replace H := Option.bind_eq_some_iff.mp H
                            obtain ⟨t897, A1470, H⟩ := H
                            replace H : (if t897 < 0 then (some false) else (if t897 = t881 then (some true) else (some false))) = some r := H
                            have A147 := amk A1470
                            clear A1470
                            by_cases c148 : t897 < 0
                            · rw [if_pos c148] at H
                              have c148b0 : decide (t897 < 0) = true := decide_eq_true c148
                              clear c148
                              obtain rfl := Option.some.inj H
                              have hnb149 := NB870_844.out
                              have hnc149 := NB844_870.out
                              have hnb150 := NB870_857.out
                              have hnc150 := NB857_870.out
                              have hnb151 := NB870_863.out
                              have hnc151 := NB863_870.out
                              have hnb152 := NB870_895.out
                              have hnc152 := NB895_870.out
                              have hcz153_0 : wc.cell? ⟨gb870, 0, none⟩ = some (.int .i64 t864) := (blk_cell BK870.out 0).trans rfl
                              have hcz153_1 : wc.cell? ⟨gb870, 1, none⟩ = some (.int .i64 t865) := (blk_cell BK870.out 1).trans rfl
                              have hcz153_2 : wc.cell? ⟨gb870, 2, none⟩ = some (.slice Ao36 t882.length co36) := (blk_cell BK870.out 2).trans rfl
                              have hfz153_0 := blk_frozen BK870.out 0
                              have hfz153_1 := blk_frozen BK870.out 1
                              have hfz153_2 := blk_frozen BK870.out 2
                              go_wp2_with (first | ((with_reducible refine gate_callee (f := 22) rfl ?_); refine goesL_ (some 90) rfl rfl Try.func22 (by kernel_rfl) rfl #[.agg #[.int .i64 t864, .int .i64 t865, .slice Ao36 t882.length co36], .int .i64 1] rfl (by (try simp only [List.map_toArray, List.map_cons, List.map_nil]); first | done | rfl | (simp only [List.length_drop, List.length_take]; rfl)) ?_; (with_reducible refine (laws_heldPuzzle.calls kj102 t864 t865 _ _ t882 1 t897 _ ?side1 ?side2 A147.out).mono ?_); (case side1 => repeat (first | exact (Kd.R_reads' HO_871002.out).2.2 | (with_reducible refine Kd.C_alloc ?_ _) | (with_reducible refine Kd.C_drewN ?_ _) | (with_reducible refine Kd.C_drew ?_))); (case side2 => exact (Kd.R_reads' HO_871002.out).2.1); rintro e w154 ⟨rfl, hb⟩; refine ⟨_, rfl, ?_⟩; have n0_ := amk (Kd.R_below (by (with_reducible repeat (first | apply Kd.R_alloc | apply Kd.R_drewN | apply Kd.R_drew)); exact HO_858002.out) hb); have n1_ := amk (Kd.R_below (by (with_reducible repeat (first | apply Kd.R_alloc | apply Kd.R_drewN | apply Kd.R_drew)); exact HO_864002.out) hb); have n2_ := amk (Kd.R_below (by (with_reducible repeat (first | apply Kd.R_alloc | apply Kd.R_drewN | apply Kd.R_drew)); exact HO_871002.out) hb); have n3_ := amk (Kd.R_below (by (with_reducible repeat (first | apply Kd.R_alloc | apply Kd.R_drewN | apply Kd.R_drew)); exact HO_896002.out) hb); have n4_ := amk (blk_below (g := gb844) (o := .cells #[.int .i64 a0_0, .int .i64 a0_1, .slice A0_2 l0_2.length c0_2] 43 (0, 0)) (by (with_reducible repeat (first | refine kn_ ?_ _ | refine blk_drew ?_ | refine ka_ ?_ _)); exact BK844.out) hb); have n5_ := amk (blk_below (g := gb857) (o := .cells #[.int .i64 t851, .int .i64 t852, .slice Ao22 t853.length co22] 35 (0, 0)) (by (with_reducible repeat (first | refine kn_ ?_ _ | refine blk_drew ?_ | refine ka_ ?_ _)); exact BK857.out) hb); have n6_ := amk (blk_below (g := gb863) (o := .cells #[.int .i64 t858, .int .i64 t859, .slice Ao29 t879.length co29] 35 (0, 0)) (by (with_reducible repeat (first | refine kn_ ?_ _ | refine blk_drew ?_ | refine ka_ ?_ _)); exact BK863.out) hb); have n7_ := amk (blk_below (g := gb870) (o := .cells #[.int .i64 t864, .int .i64 t865, .slice Ao36 t882.length co36] 35 (0, 0)) (by (with_reducible repeat (first | refine kn_ ?_ _ | refine blk_drew ?_ | refine ka_ ?_ _)); exact BK870.out) hb); have n8_ := amk (blk_below (g := gb895) (o := .cells #[.int .i64 t889, .int .i64 t890, .slice Ao123 t891.length co123] 35 (0, 0)) (by (with_reducible repeat (first | refine kn_ ?_ _ | refine blk_drew ?_ | refine ka_ ?_ _)); exact BK895.out) hb); have n9_ := amk (bp_ (by repeat (first | (with_reducible first | exact HB.out | apply ba_ | apply bn_ | apply bd_ | refine bs_ ?_ GE844.out | refine bs_ ?_ GE857.out | refine bs_ ?_ GE863.out | refine bs_ ?_ GE870.out | refine bs_ ?_ GE895.out) | exact HB.out)) hb); clear HO_858002; clear HO_864002; clear HO_871002; clear HO_896002; clear BK844; clear BK857; clear BK863; clear BK870; clear BK895; clear HB; have HO_858002 := n0_; have HO_864002 := n1_; have HO_871002 := n2_; have HO_896002 := n3_; have BK844 := n4_; have BK857 := n5_; have BK863 := n6_; have BK870 := n7_; have BK895 := n8_; have HB := n9_; clear n0_ n1_ n2_ n3_ n4_ n5_ n6_ n7_ n8_ n9_; (try clear hb); (try clear hb2); (try clear hk); (try clear hi)))
                              go_ret
                              exact ⟨by first | rfl | (simp [errW_none, errW_some] <;> rfl) | (simp [*, errW_none, errW_some] <;> rfl), by repeat (first | (with_reducible first | exact HB.out | apply ba_ | apply bn_ | apply bd_ | refine bs_ ?_ GE844.out | refine bs_ ?_ GE857.out | refine bs_ ?_ GE863.out | refine bs_ ?_ GE870.out | refine bs_ ?_ GE895.out) | exact HB.out)⟩
                            · rw [if_neg c148] at H
                              have c148b0 : decide (t897 < 0) = false := decide_eq_false c148
                              clear c148
                              by_cases c155 : t897 = t881
                              · rw [if_pos c155] at H
                                have c155b0 : (t897 == t881) = true := beq_iff_eq.mpr c155
                                have c155b1 : (t897 != t881) = false := bne_eq_false_iff_eq.mpr c155
                                clear c155
                                obtain rfl := Option.some.inj H
                                have hnb156 := NB870_844.out
                                have hnc156 := NB844_870.out
                                have hnb157 := NB870_857.out
                                have hnc157 := NB857_870.out
                                have hnb158 := NB870_863.out
                                have hnc158 := NB863_870.out
                                have hnb159 := NB870_895.out
                                have hnc159 := NB895_870.out
                                have hcz160_0 : wc.cell? ⟨gb870, 0, none⟩ = some (.int .i64 t864) := (blk_cell BK870.out 0).trans rfl
                                have hcz160_1 : wc.cell? ⟨gb870, 1, none⟩ = some (.int .i64 t865) := (blk_cell BK870.out 1).trans rfl
                                have hcz160_2 : wc.cell? ⟨gb870, 2, none⟩ = some (.slice Ao36 t882.length co36) := (blk_cell BK870.out 2).trans rfl
                                have hfz160_0 := blk_frozen BK870.out 0
                                have hfz160_1 := blk_frozen BK870.out 1
                                have hfz160_2 := blk_frozen BK870.out 2
                                go_wp2_with (first | ((with_reducible refine gate_callee (f := 22) rfl ?_); refine goesL_ (some 90) rfl rfl Try.func22 (by kernel_rfl) rfl #[.agg #[.int .i64 t864, .int .i64 t865, .slice Ao36 t882.length co36], .int .i64 1] rfl (by (try simp only [List.map_toArray, List.map_cons, List.map_nil]); first | done | rfl | (simp only [List.length_drop, List.length_take]; rfl)) ?_; (with_reducible refine (laws_heldPuzzle.calls kj102 t864 t865 _ _ t882 1 t897 _ ?side1 ?side2 A147.out).mono ?_); (case side1 => repeat (first | exact (Kd.R_reads' HO_871002.out).2.2 | (with_reducible refine Kd.C_alloc ?_ _) | (with_reducible refine Kd.C_drewN ?_ _) | (with_reducible refine Kd.C_drew ?_))); (case side2 => exact (Kd.R_reads' HO_871002.out).2.1); rintro e w161 ⟨rfl, hb⟩; refine ⟨_, rfl, ?_⟩; have n0_ := amk (Kd.R_below (by (with_reducible repeat (first | apply Kd.R_alloc | apply Kd.R_drewN | apply Kd.R_drew)); exact HO_858002.out) hb); have n1_ := amk (Kd.R_below (by (with_reducible repeat (first | apply Kd.R_alloc | apply Kd.R_drewN | apply Kd.R_drew)); exact HO_864002.out) hb); have n2_ := amk (Kd.R_below (by (with_reducible repeat (first | apply Kd.R_alloc | apply Kd.R_drewN | apply Kd.R_drew)); exact HO_871002.out) hb); have n3_ := amk (Kd.R_below (by (with_reducible repeat (first | apply Kd.R_alloc | apply Kd.R_drewN | apply Kd.R_drew)); exact HO_896002.out) hb); have n4_ := amk (blk_below (g := gb844) (o := .cells #[.int .i64 a0_0, .int .i64 a0_1, .slice A0_2 l0_2.length c0_2] 43 (0, 0)) (by (with_reducible repeat (first | refine kn_ ?_ _ | refine blk_drew ?_ | refine ka_ ?_ _)); exact BK844.out) hb); have n5_ := amk (blk_below (g := gb857) (o := .cells #[.int .i64 t851, .int .i64 t852, .slice Ao22 t853.length co22] 35 (0, 0)) (by (with_reducible repeat (first | refine kn_ ?_ _ | refine blk_drew ?_ | refine ka_ ?_ _)); exact BK857.out) hb); have n6_ := amk (blk_below (g := gb863) (o := .cells #[.int .i64 t858, .int .i64 t859, .slice Ao29 t879.length co29] 35 (0, 0)) (by (with_reducible repeat (first | refine kn_ ?_ _ | refine blk_drew ?_ | refine ka_ ?_ _)); exact BK863.out) hb); have n7_ := amk (blk_below (g := gb870) (o := .cells #[.int .i64 t864, .int .i64 t865, .slice Ao36 t882.length co36] 35 (0, 0)) (by (with_reducible repeat (first | refine kn_ ?_ _ | refine blk_drew ?_ | refine ka_ ?_ _)); exact BK870.out) hb); have n8_ := amk (blk_below (g := gb895) (o := .cells #[.int .i64 t889, .int .i64 t890, .slice Ao123 t891.length co123] 35 (0, 0)) (by (with_reducible repeat (first | refine kn_ ?_ _ | refine blk_drew ?_ | refine ka_ ?_ _)); exact BK895.out) hb); have n9_ := amk (bp_ (by repeat (first | (with_reducible first | exact HB.out | apply ba_ | apply bn_ | apply bd_ | refine bs_ ?_ GE844.out | refine bs_ ?_ GE857.out | refine bs_ ?_ GE863.out | refine bs_ ?_ GE870.out | refine bs_ ?_ GE895.out) | exact HB.out)) hb); clear HO_858002; clear HO_864002; clear HO_871002; clear HO_896002; clear BK844; clear BK857; clear BK863; clear BK870; clear BK895; clear HB; have HO_858002 := n0_; have HO_864002 := n1_; have HO_871002 := n2_; have HO_896002 := n3_; have BK844 := n4_; have BK857 := n5_; have BK863 := n6_; have BK870 := n7_; have BK895 := n8_; have HB := n9_; clear n0_ n1_ n2_ n3_ n4_ n5_ n6_ n7_ n8_ n9_; (try clear hb); (try clear hb2); (try clear hk); (try clear hi)))
                                go_ret
                                exact ⟨by first | rfl | (simp [errW_none, errW_some] <;> rfl) | (simp [*, errW_none, errW_some] <;> rfl), by repeat (first | (with_reducible first | exact HB.out | apply ba_ | apply bn_ | apply bd_ | refine bs_ ?_ GE844.out | refine bs_ ?_ GE857.out | refine bs_ ?_ GE863.out | refine bs_ ?_ GE870.out | refine bs_ ?_ GE895.out) | exact HB.out)⟩
                              · rw [if_neg c155] at H
                                have c155b0 : (t897 == t881) = false := beq_eq_false_iff_ne.mpr c155
                                have c155b1 : (t897 != t881) = true := bne_iff_ne.mpr c155
                                obtain rfl := Option.some.inj H
                                have hnb162 := NB870_844.out
                                have hnc162 := NB844_870.out
                                have hnb163 := NB870_857.out
                                have hnc163 := NB857_870.out
                                have hnb164 := NB870_863.out
                                have hnc164 := NB863_870.out
                                have hnb165 := NB870_895.out
                                have hnc165 := NB895_870.out
                                have hcz166_0 : wc.cell? ⟨gb870, 0, none⟩ = some (.int .i64 t864) := (blk_cell BK870.out 0).trans rfl
                                have hcz166_1 : wc.cell? ⟨gb870, 1, none⟩ = some (.int .i64 t865) := (blk_cell BK870.out 1).trans rfl
                                have hcz166_2 : wc.cell? ⟨gb870, 2, none⟩ = some (.slice Ao36 t882.length co36) := (blk_cell BK870.out 2).trans rfl
                                have hfz166_0 := blk_frozen BK870.out 0
                                have hfz166_1 := blk_frozen BK870.out 1
                                have hfz166_2 := blk_frozen BK870.out 2
                                go_wp2_with (first | ((with_reducible refine gate_callee (f := 22) rfl ?_); refine goesL_ (some 90) rfl rfl Try.func22 (by kernel_rfl) rfl #[.agg #[.int .i64 t864, .int .i64 t865, .slice Ao36 t882.length co36], .int .i64 1] rfl (by (try simp only [List.map_toArray, List.map_cons, List.map_nil]); first | done | rfl | (simp only [List.length_drop, List.length_take]; rfl)) ?_; (with_reducible refine (laws_heldPuzzle.calls kj102 t864 t865 _ _ t882 1 t897 _ ?side1 ?side2 A147.out).mono ?_); (case side1 => repeat (first | exact (Kd.R_reads' HO_871002.out).2.2 | (with_reducible refine Kd.C_alloc ?_ _) | (with_reducible refine Kd.C_drewN ?_ _) | (with_reducible refine Kd.C_drew ?_))); (case side2 => exact (Kd.R_reads' HO_871002.out).2.1); rintro e w167 ⟨rfl, hb⟩; refine ⟨_, rfl, ?_⟩; have n0_ := amk (Kd.R_below (by (with_reducible repeat (first | apply Kd.R_alloc | apply Kd.R_drewN | apply Kd.R_drew)); exact HO_858002.out) hb); have n1_ := amk (Kd.R_below (by (with_reducible repeat (first | apply Kd.R_alloc | apply Kd.R_drewN | apply Kd.R_drew)); exact HO_864002.out) hb); have n2_ := amk (Kd.R_below (by (with_reducible repeat (first | apply Kd.R_alloc | apply Kd.R_drewN | apply Kd.R_drew)); exact HO_871002.out) hb); have n3_ := amk (Kd.R_below (by (with_reducible repeat (first | apply Kd.R_alloc | apply Kd.R_drewN | apply Kd.R_drew)); exact HO_896002.out) hb); have n4_ := amk (blk_below (g := gb844) (o := .cells #[.int .i64 a0_0, .int .i64 a0_1, .slice A0_2 l0_2.length c0_2] 43 (0, 0)) (by (with_reducible repeat (first | refine kn_ ?_ _ | refine blk_drew ?_ | refine ka_ ?_ _)); exact BK844.out) hb); have n5_ := amk (blk_below (g := gb857) (o := .cells #[.int .i64 t851, .int .i64 t852, .slice Ao22 t853.length co22] 35 (0, 0)) (by (with_reducible repeat (first | refine kn_ ?_ _ | refine blk_drew ?_ | refine ka_ ?_ _)); exact BK857.out) hb); have n6_ := amk (blk_below (g := gb863) (o := .cells #[.int .i64 t858, .int .i64 t859, .slice Ao29 t879.length co29] 35 (0, 0)) (by (with_reducible repeat (first | refine kn_ ?_ _ | refine blk_drew ?_ | refine ka_ ?_ _)); exact BK863.out) hb); have n7_ := amk (blk_below (g := gb870) (o := .cells #[.int .i64 t864, .int .i64 t865, .slice Ao36 t882.length co36] 35 (0, 0)) (by (with_reducible repeat (first | refine kn_ ?_ _ | refine blk_drew ?_ | refine ka_ ?_ _)); exact BK870.out) hb); have n8_ := amk (blk_below (g := gb895) (o := .cells #[.int .i64 t889, .int .i64 t890, .slice Ao123 t891.length co123] 35 (0, 0)) (by (with_reducible repeat (first | refine kn_ ?_ _ | refine blk_drew ?_ | refine ka_ ?_ _)); exact BK895.out) hb); have n9_ := amk (bp_ (by repeat (first | (with_reducible first | exact HB.out | apply ba_ | apply bn_ | apply bd_ | refine bs_ ?_ GE844.out | refine bs_ ?_ GE857.out | refine bs_ ?_ GE863.out | refine bs_ ?_ GE870.out | refine bs_ ?_ GE895.out) | exact HB.out)) hb); clear HO_858002; clear HO_864002; clear HO_871002; clear HO_896002; clear BK844; clear BK857; clear BK863; clear BK870; clear BK895; clear HB; have HO_858002 := n0_; have HO_864002 := n1_; have HO_871002 := n2_; have HO_896002 := n3_; have BK844 := n4_; have BK857 := n5_; have BK863 := n6_; have BK870 := n7_; have BK895 := n8_; have HB := n9_; clear n0_ n1_ n2_ n3_ n4_ n5_ n6_ n7_ n8_ n9_; (try clear hb); (try clear hb2); (try clear hk); (try clear hi)))
                                go_ret
                                exact ⟨by first | rfl | (simp [errW_none, errW_some] <;> rfl) | (simp [*, errW_none, errW_some] <;> rfl), by repeat (first | (with_reducible first | exact HB.out | apply ba_ | apply bn_ | apply bd_ | refine bs_ ?_ GE844.out | refine bs_ ?_ GE857.out | refine bs_ ?_ GE863.out | refine bs_ ?_ GE870.out | refine bs_ ?_ GE895.out) | exact HB.out)⟩
                    · rw [if_neg c100] at H
                      have c100b0 : (t883 == t881) = false := beq_eq_false_iff_ne.mpr c100
                      have c100b1 : (t883 != t881) = true := bne_iff_ne.mpr c100
                      obtain rfl := Option.some.inj H
                      have hnb168 := NB870_844.out
                      have hnc168 := NB844_870.out
                      have hnb169 := NB870_857.out
                      have hnc169 := NB857_870.out
                      have hnb170 := NB870_863.out
                      have hnc170 := NB863_870.out
                      have hcz171_0 : wc.cell? ⟨gb870, 0, none⟩ = some (.int .i64 t864) := (blk_cell BK870.out 0).trans rfl
                      have hcz171_1 : wc.cell? ⟨gb870, 1, none⟩ = some (.int .i64 t865) := (blk_cell BK870.out 1).trans rfl
                      have hcz171_2 : wc.cell? ⟨gb870, 2, none⟩ = some (.slice Ao36 t866.length co36) := (blk_cell BK870.out 2).trans rfl
                      have hfz171_0 := blk_frozen BK870.out 0
                      have hfz171_1 := blk_frozen BK870.out 1
                      have hfz171_2 := blk_frozen BK870.out 2
                      go_wp2_with (first | ((with_reducible refine gate_callee (f := 21) rfl ?_); refine goesL_ (some 64) rfl rfl Try.func21 (by kernel_rfl) rfl #[.agg #[.int .i64 t864, .int .i64 t865, .slice Ao36 t866.length co36], .int .i64 1] rfl (by (try simp only [List.map_toArray, List.map_cons, List.map_nil]); first | done | rfl | (simp only [List.length_drop, List.length_take]; rfl)) ?_; (with_reducible refine (laws_markPuzzle.calls kj59 t864 t865 (fun k_ => some k_ = (.slice Ao36 t866.length co36 : Value).ownBlock) (.slice Ao36 t866.length co36) t866 1 t881 t882 w _ ?side1 ?side2 A90.out).mono ?_); (case side1 => repeat (first | (with_reducible first | exact HB.out | apply ba_ | apply bn_ | apply bd_ | refine bs_ ?_ GE844.out | refine bs_ ?_ GE857.out | refine bs_ ?_ GE863.out | refine bs_ ?_ GE870.out) | exact HB.out)); (case side2 => exact Kd.R_tight rfl HO_871002.out); rintro e w172 ⟨rfl, hy0, hb, hkp⟩; refine ⟨_, rfl, ?_⟩; have n0_ := amk (Kd.R_mono (ok' := fun k_ => some k_ ≠ (.slice Ao29 t879.length co29 : Value).ownBlock ∧ some k_ ≠ (.slice Ao36 t866.length co36 : Value).ownBlock) (Kd.R_keptB (HO_858002.out) hkp (fun k_ hk_ hs_ => (hk_.2) hs_)) (fun k_ hk_ => ⟨hk_.1.1, hk_.1.2⟩)); have n1_ := amk (Kd.R_mono (ok' := fun k_ => some k_ ≠ (.slice Ao22 t853.length co22 : Value).ownBlock ∧ some k_ ≠ (.slice Ao36 t866.length co36 : Value).ownBlock) (Kd.R_keptB (HO_864002.out) hkp (fun k_ hk_ hs_ => (hk_.2) hs_)) (fun k_ hk_ => ⟨hk_.1.1, hk_.1.2⟩)); have n2_ := amk (Kd.R_reok rfl hy0 (fun k_ e_ => HO_871002.out.1 k_ e_)); have n3_ := amk (blk_kept (by (with_reducible repeat (first | refine kn_ ?_ _ | refine blk_drew ?_ | refine ka_ ?_ _)); exact BK844.out) hkp (fun hs_ => (fun e_ => (Kd.R_ne HO_871002.out BK844.out (by decide)) e_) hs_)); have n4_ := amk (blk_kept (by (with_reducible repeat (first | refine kn_ ?_ _ | refine blk_drew ?_ | refine ka_ ?_ _)); exact BK857.out) hkp (fun hs_ => (fun e_ => (Kd.R_ne HO_871002.out BK857.out (by decide)) e_) hs_)); have n5_ := amk (blk_kept (by (with_reducible repeat (first | refine kn_ ?_ _ | refine blk_drew ?_ | refine ka_ ?_ _)); exact BK863.out) hkp (fun hs_ => (fun e_ => (Kd.R_ne HO_871002.out BK863.out (by decide)) e_) hs_)); have n6_ := amk (blk_kept (by (with_reducible repeat (first | refine kn_ ?_ _ | refine blk_drew ?_ | refine ka_ ?_ _)); exact BK870.out) hkp (fun hs_ => (fun e_ => (Kd.R_ne HO_871002.out BK870.out (by decide)) e_) hs_)); have n7_ := amk (hb); clear HO_858002; clear HO_864002; clear HO_871002; clear BK844; clear BK857; clear BK863; clear BK870; clear HB; have HO_858002 := n0_; have HO_864002 := n1_; have HO_871002 := n2_; have BK844 := n3_; have BK857 := n4_; have BK863 := n5_; have BK870 := n6_; have HB := n7_; clear n0_ n1_ n2_ n3_ n4_ n5_ n6_ n7_; (try clear hb); (try clear hkp); (try clear hy0); have hcz173_0 : w172.cell? ⟨gb870, 0, none⟩ = some (.int .i64 t864) := (blk_cell BK870.out 0).trans rfl; have hcz173_1 : w172.cell? ⟨gb870, 1, none⟩ = some (.int .i64 t865) := (blk_cell BK870.out 1).trans rfl; have hcz173_2 : w172.cell? ⟨gb870, 2, none⟩ = some (.slice Ao36 t866.length co36) := (blk_cell BK870.out 2).trans rfl; have hfz173_0 := blk_frozen BK870.out 0; have hfz173_1 := blk_frozen BK870.out 1; have hfz173_2 := blk_frozen BK870.out 2) | ((with_reducible refine gate_callee (f := 22) rfl ?_); refine goesL_ (some 67) rfl rfl Try.func22 (by kernel_rfl) rfl #[.agg #[.int .i64 t864, .int .i64 t865, .slice Ao36 t882.length co36], .int .i64 1] rfl (by (try simp only [List.map_toArray, List.map_cons, List.map_nil]); first | done | (rw [show t882.length = t866.length from (Kd.R_reads' HO_871002.out).1.symm] <;> rfl) | rfl | (simp only [List.length_drop, List.length_take]; rfl)) ?_; (with_reducible refine (laws_heldPuzzle.calls kj59 t864 t865 _ _ t882 1 t883 _ ?side1 ?side2 A91.out).mono ?_); (case side1 => repeat (first | exact (Kd.R_reads' HO_871002.out).2.2 | (with_reducible refine Kd.C_alloc ?_ _) | (with_reducible refine Kd.C_drewN ?_ _) | (with_reducible refine Kd.C_drew ?_))); (case side2 => rw [show t882.length = t866.length from (Kd.R_reads' HO_871002.out).1.symm]; exact (Kd.R_reads' HO_871002.out).2.1); rintro e w174 ⟨rfl, hb⟩; refine ⟨_, rfl, ?_⟩; have n0_ := amk (Kd.R_below (by (with_reducible repeat (first | apply Kd.R_alloc | apply Kd.R_drewN | apply Kd.R_drew)); exact HO_858002.out) hb); have n1_ := amk (Kd.R_below (by (with_reducible repeat (first | apply Kd.R_alloc | apply Kd.R_drewN | apply Kd.R_drew)); exact HO_864002.out) hb); have n2_ := amk (Kd.R_below (by (with_reducible repeat (first | apply Kd.R_alloc | apply Kd.R_drewN | apply Kd.R_drew)); exact HO_871002.out) hb); have n3_ := amk (blk_below (g := gb844) (o := .cells #[.int .i64 a0_0, .int .i64 a0_1, .slice A0_2 l0_2.length c0_2] 43 (0, 0)) (by (with_reducible repeat (first | refine kn_ ?_ _ | refine blk_drew ?_ | refine ka_ ?_ _)); exact BK844.out) hb); have n4_ := amk (blk_below (g := gb857) (o := .cells #[.int .i64 t851, .int .i64 t852, .slice Ao22 t853.length co22] 35 (0, 0)) (by (with_reducible repeat (first | refine kn_ ?_ _ | refine blk_drew ?_ | refine ka_ ?_ _)); exact BK857.out) hb); have n5_ := amk (blk_below (g := gb863) (o := .cells #[.int .i64 t858, .int .i64 t859, .slice Ao29 t879.length co29] 35 (0, 0)) (by (with_reducible repeat (first | refine kn_ ?_ _ | refine blk_drew ?_ | refine ka_ ?_ _)); exact BK863.out) hb); have n6_ := amk (blk_below (g := gb870) (o := .cells #[.int .i64 t864, .int .i64 t865, .slice Ao36 t866.length co36] 35 (0, 0)) (by (with_reducible repeat (first | refine kn_ ?_ _ | refine blk_drew ?_ | refine ka_ ?_ _)); exact BK870.out) hb); have n7_ := amk (bp_ (by repeat (first | (with_reducible first | exact HB.out | apply ba_ | apply bn_ | apply bd_ | refine bs_ ?_ GE844.out | refine bs_ ?_ GE857.out | refine bs_ ?_ GE863.out | refine bs_ ?_ GE870.out) | exact HB.out)) hb); clear HO_858002; clear HO_864002; clear HO_871002; clear BK844; clear BK857; clear BK863; clear BK870; clear HB; have HO_858002 := n0_; have HO_864002 := n1_; have HO_871002 := n2_; have BK844 := n3_; have BK857 := n4_; have BK863 := n5_; have BK870 := n6_; have HB := n7_; clear n0_ n1_ n2_ n3_ n4_ n5_ n6_ n7_; (try clear hb); (try clear hb2); (try clear hk); (try clear hi)))
                      go_ret
                      exact ⟨by first | rfl | (simp [errW_none, errW_some] <;> rfl) | (simp [*, errW_none, errW_some] <;> rfl), by repeat (first | (with_reducible first | exact HB.out | apply ba_ | apply bn_ | apply bd_ | refine bs_ ?_ GE844.out | refine bs_ ?_ GE857.out | refine bs_ ?_ GE863.out | refine bs_ ?_ GE870.out) | exact HB.out)⟩
          · replace c58 := Bool.eq_false_iff.mpr c58
            subst c58
            have H1 : (some false) = some r := by rw [if_neg (show ¬ (false = true) by decide)] at H; exact H
            clear H
            have H := H1
            clear H1
            obtain rfl := Option.some.inj H
            try go_wp2
            have n0_ := amk (Kd.R_drew HO_858002.out)
            have n1_ := amk (Kd.R_drew HO_864002.out)
            have n2_ := amk (Kd.R_drew HO_871002.out)
            have n3_ := amk (blk_drew BK844.out)
            have n4_ := amk (blk_drew BK857.out)
            have n5_ := amk (blk_drew BK863.out)
            have n6_ := amk (blk_drew BK870.out)
            have n7_ := amk (bd_ HB.out)
            clear HO_858002
            clear HO_864002
            clear HO_871002
            clear BK844
            clear BK857
            clear BK863
            clear BK870
            clear HB
            have HO_858002 := n0_
            have HO_864002 := n1_
            have HO_871002 := n2_
            have BK844 := n3_
            have BK857 := n4_
            have BK863 := n5_
            have BK870 := n6_
            have HB := n7_
            clear n0_ n1_ n2_ n3_ n4_ n5_ n6_ n7_
            refine start_ (n := 5) (S := fun w' => w'.cell? ⟨gb863, 0, none⟩ = some (.int .i64 t858) ∧ w'.cell? ⟨gb863, 1, none⟩ = some (.int .i64 t859) ∧ w'.cell? ⟨gb863, 2, none⟩ = some (.slice Ao29 t860.length co29) ∧ w'.cell? ⟨gb844, 0, none⟩ = some (.int .i64 a0_0) ∧ w'.cell? ⟨gb844, 1, none⟩ = some (.int .i64 a0_1) ∧ w'.cell? ⟨gb844, 2, none⟩ = some (.slice A0_2 l0_2.length c0_2)) (ds := []) #[false, false, false, false, false] (by kernel_rfl) rfl rfl ⟨(blk_cell BK863.out 0).trans rfl, (blk_cell BK863.out 1).trans rfl, (blk_cell BK863.out 2).trans rfl, (blk_cell BK844.out 0).trans rfl, (blk_cell BK844.out 1).trans rfl, (blk_cell BK844.out 2).trans rfl⟩ (fun hHeld => ?_)
            generalize wc.drew = w175 at HO_858002 HO_864002 HO_871002 BK844 BK857 BK863 BK870 HB hHeld ⊢
            refine take_ (i := 0) (N := some 41) (v := ?_) (a' := ?_) #[true, false, false, false, false] rfl rfl (by kernel_rfl) (fun _ _ _ h => h) (Or.inl ⟨by rfl, ?_⟩) hHeld ?_ ?_
            rotate_left
            · rintro w' ⟨s0, s1, s2, s3, s4, s5⟩
              go_simp
              with_reducible rfl
            rotate_left
            · simp only [Act.put, List.setIfInBounds_toArray, List.set_cons_zero, List.set_cons_succ, i64_w, i32_w]
              rfl
            refine take_ (i := 1) (N := some 42) (v := ?_) (a' := ?_) #[true, true, false, false, false] rfl rfl (by kernel_rfl) (fun _ _ _ h => h) (Or.inl ⟨by rfl, ?_⟩) hHeld ?_ ?_
            rotate_left
            · rintro w' ⟨s0, s1, s2, s3, s4, s5⟩
              go_simp
              with_reducible rfl
            rotate_left
            · simp only [Act.put, List.setIfInBounds_toArray, List.set_cons_zero, List.set_cons_succ, i64_w, i32_w]
              rfl
            refine one_ (i := 2) (N := some 43) #[true, true, true, false, false] rfl rfl (by kernel_rfl) (by decide) (fun K hK => ?_)
            refine goes_ Try.func25 (by kernel_rfl) rfl #[.agg #[.int .i64 a0_0, .int .i64 a0_1, .slice A0_2 l0_2.length c0_2]] (by rfl) rfl rfl (by (try simp only [List.map_toArray, List.map_cons, List.map_nil]); first | done | rfl | (simp only [List.length_drop, List.length_take]; rfl)) ?_
            with_reducible refine (laws_toPuzzle.calls kj10 a0_0 a0_1 _ _ l0_2 t872 t873 t874 _ ?side1 ?side2 A56.out).mono ?_
            (case side1 => repeat (first | exact (Kd.C_below HR0_2.out HB.out) | (with_reducible refine Kd.C_alloc ?_ _) | (with_reducible refine Kd.C_drewN ?_ _) | (with_reducible refine Kd.C_drew ?_)))
            (case side2 => exact HC0_2.out)
            rintro e w176 ⟨v875, rfl, ho0, hb⟩
            refine ⟨_, rfl, ?_⟩
            have n0_ := amk (Kd.R_elder' (by (with_reducible repeat (first | apply Kd.R_alloc | apply Kd.R_drewN | apply Kd.R_drew)); exact HO_858002.out) (Kd.R_base ho0) hb)
            have n1_ := amk (Kd.R_elder' (by (with_reducible repeat (first | apply Kd.R_alloc | apply Kd.R_drewN | apply Kd.R_drew)); exact HO_864002.out) (Kd.R_base ho0) hb)
            have n2_ := amk (Kd.R_elder' (by (with_reducible repeat (first | apply Kd.R_alloc | apply Kd.R_drewN | apply Kd.R_drew)); exact HO_871002.out) (Kd.R_base ho0) hb)
            have n3_ := amk (Kd.R_lower (Kd.R_new' (Kd.R_new' (Kd.R_new' ho0 (Kd.R_lt (by (with_reducible repeat (first | apply Kd.R_alloc | apply Kd.R_drewN | apply Kd.R_drew)); exact HO_858002.out))) (Kd.R_lt (by (with_reducible repeat (first | apply Kd.R_alloc | apply Kd.R_drewN | apply Kd.R_drew)); exact HO_864002.out))) (Kd.R_lt (by (with_reducible repeat (first | apply Kd.R_alloc | apply Kd.R_drewN | apply Kd.R_drew)); exact HO_871002.out))) (below_size (by repeat (first | (with_reducible first | exact HB.out | apply ba_ | apply bn_ | apply bd_ | refine bs_ ?_ GE844.out | refine bs_ ?_ GE857.out | refine bs_ ?_ GE863.out | refine bs_ ?_ GE870.out) | exact HB.out))))
            have n4_ := amk (blk_below (g := gb844) (o := .cells #[.int .i64 a0_0, .int .i64 a0_1, .slice A0_2 l0_2.length c0_2] 43 (0, 0)) (by (with_reducible repeat (first | refine kn_ ?_ _ | refine blk_drew ?_ | refine ka_ ?_ _)); exact BK844.out) hb)
            have n5_ := amk (blk_below (g := gb857) (o := .cells #[.int .i64 t851, .int .i64 t852, .slice Ao22 t853.length co22] 35 (0, 0)) (by (with_reducible repeat (first | refine kn_ ?_ _ | refine blk_drew ?_ | refine ka_ ?_ _)); exact BK857.out) hb)
            have n6_ := amk (blk_below (g := gb863) (o := .cells #[.int .i64 t858, .int .i64 t859, .slice Ao29 t860.length co29] 35 (0, 0)) (by (with_reducible repeat (first | refine kn_ ?_ _ | refine blk_drew ?_ | refine ka_ ?_ _)); exact BK863.out) hb)
            have n7_ := amk (blk_below (g := gb870) (o := .cells #[.int .i64 t864, .int .i64 t865, .slice Ao36 t866.length co36] 35 (0, 0)) (by (with_reducible repeat (first | refine kn_ ?_ _ | refine blk_drew ?_ | refine ka_ ?_ _)); exact BK870.out) hb)
            have n8_ := amk (bp_ (by repeat (first | (with_reducible first | exact HB.out | apply ba_ | apply bn_ | apply bd_ | refine bs_ ?_ GE844.out | refine bs_ ?_ GE857.out | refine bs_ ?_ GE863.out | refine bs_ ?_ GE870.out) | exact HB.out)) hb)
            clear HO_858002
            clear HO_864002
            clear HO_871002
            clear BK844
            clear BK857
            clear BK863
            clear BK870
            clear HB
            have HO_858002 := n0_
            have HO_864002 := n1_
            have HO_871002 := n2_
            have HO876 := n3_
            have BK844 := n4_
            have BK857 := n5_
            have BK863 := n6_
            have BK870 := n7_
            have HB := n8_
            clear n0_ n1_ n2_ n3_ n4_ n5_ n6_ n7_ n8_
            (try clear hb)
            (try clear hb2)
            (try clear hk)
            (try clear hi)
            (try clear ho0)
            obtain ⟨Ao177, co177, eo177⟩ := Kd.R_slice HO876.out
            (first | subst eo177 | (injection eo177 with f1_ f2_ f3_; have f4_ := f1_.symm; have f5_ := f3_.symm; clear f1_ f2_ f3_; subst f4_; subst f5_))
            refine hK.out _ _ ⟨(blk_cell BK863.out 0).trans rfl, (blk_cell BK863.out 1).trans rfl, (blk_cell BK863.out 2).trans rfl, (blk_cell BK844.out 0).trans rfl, (blk_cell BK844.out 1).trans rfl, (blk_cell BK844.out 2).trans rfl⟩ (fun hHeld => ?_)
            clear hK K
            refine norm_ (a' := ?_) ?_ ?_
            rotate_left
            · show Act.put _ (some 43) _ = _
              simp only [Act.put, List.setIfInBounds_toArray, List.set_cons_zero, List.set_cons_succ, i64_w, i32_w]
              rfl
            refine one_ (i := 3) (N := some 44) #[true, true, true, true, false] rfl rfl (by kernel_rfl) (by decide) (fun K hK => ?_)
            refine goes_ Try.func20 (by kernel_rfl) rfl #[.agg #[.int .i64 t858, .int .i64 t859, .slice Ao29 t860.length co29], .agg #[.int .i64 t872, .int .i64 t873, .slice Ao177 t874.length co177]] (by rfl) rfl rfl (by (try simp only [List.map_toArray, List.map_cons, List.map_nil]); first | done | rfl | (simp only [List.length_drop, List.length_take]; rfl)) ?_
            with_reducible refine (laws_eqPuzzle.calls kj10 t858 t859 _ _ t860 t872 t873 _ _ t874 false _ ?side1 ?side2 ?side3 ?side4 A57.out).mono ?_
            (case side1 => repeat (first | exact (Kd.R_reads' HO_864002.out).2.2 | (with_reducible refine Kd.C_alloc ?_ _) | (with_reducible refine Kd.C_drewN ?_ _) | (with_reducible refine Kd.C_drew ?_)))
            (case side2 => exact (Kd.R_reads' HO_864002.out).2.1)
            (case side3 => repeat (first | exact (Kd.R_reads' HO876.out).2.2 | (with_reducible refine Kd.C_alloc ?_ _) | (with_reducible refine Kd.C_drewN ?_ _) | (with_reducible refine Kd.C_drew ?_)))
            (case side4 => exact (Kd.R_reads' HO876.out).2.1)
            rintro e w178 ⟨rfl, hb⟩
            refine ⟨_, rfl, ?_⟩
            have n0_ := amk (Kd.R_below (by (with_reducible repeat (first | apply Kd.R_alloc | apply Kd.R_drewN | apply Kd.R_drew)); exact HO_858002.out) hb)
            have n1_ := amk (Kd.R_below (by (with_reducible repeat (first | apply Kd.R_alloc | apply Kd.R_drewN | apply Kd.R_drew)); exact HO_864002.out) hb)
            have n2_ := amk (Kd.R_below (by (with_reducible repeat (first | apply Kd.R_alloc | apply Kd.R_drewN | apply Kd.R_drew)); exact HO_871002.out) hb)
            have n3_ := amk (Kd.R_below (by (with_reducible repeat (first | apply Kd.R_alloc | apply Kd.R_drewN | apply Kd.R_drew)); exact HO876.out) hb)
            have n4_ := amk (blk_below (g := gb844) (o := .cells #[.int .i64 a0_0, .int .i64 a0_1, .slice A0_2 l0_2.length c0_2] 43 (0, 0)) (by (with_reducible repeat (first | refine kn_ ?_ _ | refine blk_drew ?_ | refine ka_ ?_ _)); exact BK844.out) hb)
            have n5_ := amk (blk_below (g := gb857) (o := .cells #[.int .i64 t851, .int .i64 t852, .slice Ao22 t853.length co22] 35 (0, 0)) (by (with_reducible repeat (first | refine kn_ ?_ _ | refine blk_drew ?_ | refine ka_ ?_ _)); exact BK857.out) hb)
            have n6_ := amk (blk_below (g := gb863) (o := .cells #[.int .i64 t858, .int .i64 t859, .slice Ao29 t860.length co29] 35 (0, 0)) (by (with_reducible repeat (first | refine kn_ ?_ _ | refine blk_drew ?_ | refine ka_ ?_ _)); exact BK863.out) hb)
            have n7_ := amk (blk_below (g := gb870) (o := .cells #[.int .i64 t864, .int .i64 t865, .slice Ao36 t866.length co36] 35 (0, 0)) (by (with_reducible repeat (first | refine kn_ ?_ _ | refine blk_drew ?_ | refine ka_ ?_ _)); exact BK870.out) hb)
            have n8_ := amk (bp_ (by repeat (first | (with_reducible first | exact HB.out | apply ba_ | apply bn_ | apply bd_ | refine bs_ ?_ GE844.out | refine bs_ ?_ GE857.out | refine bs_ ?_ GE863.out | refine bs_ ?_ GE870.out) | exact HB.out)) hb)
            clear HO_858002
            clear HO_864002
            clear HO_871002
            clear HO876
            clear BK844
            clear BK857
            clear BK863
            clear BK870
            clear HB
            have HO_858002 := n0_
            have HO_864002 := n1_
            have HO_871002 := n2_
            have HO876 := n3_
            have BK844 := n4_
            have BK857 := n5_
            have BK863 := n6_
            have BK870 := n7_
            have HB := n8_
            clear n0_ n1_ n2_ n3_ n4_ n5_ n6_ n7_ n8_
            (try clear hb)
            (try clear hb2)
            (try clear hk)
            (try clear hi)
            refine hK.out _ _ ⟨(blk_cell BK863.out 0).trans rfl, (blk_cell BK863.out 1).trans rfl, (blk_cell BK863.out 2).trans rfl, (blk_cell BK844.out 0).trans rfl, (blk_cell BK844.out 1).trans rfl, (blk_cell BK844.out 2).trans rfl⟩ (fun hHeld => ?_)
            clear hK K
            refine norm_ (a' := ?_) ?_ ?_
            rotate_left
            · show Act.put _ (some 44) _ = _
              simp only [Act.put, List.setIfInBounds_toArray, List.set_cons_zero, List.set_cons_succ, i64_w, i32_w]
              rfl
            refine pure_ (i := 4) (N := some 45) (v := ?_) (a' := ?_) #[true, true, true, true, true] rfl rfl (by kernel_rfl) (fun _ _ _ h => h) (Or.inl ⟨by rfl, ?_⟩) ?_ ?_
            rotate_left
            · intro w'
              go_simp
              with_reducible rfl
            rotate_left
            · simp only [Act.put, List.setIfInBounds_toArray, List.set_cons_zero, List.set_cons_succ, i64_w, i32_w]
              rfl
            refine done_ (by kernel_rfl) ?_
            try go_wp2
            go_ret
            exact ⟨by first | rfl | (simp [errW_none, errW_some] <;> rfl) | (simp [*, errW_none, errW_some] <;> rfl), by repeat (first | (with_reducible first | exact HB.out | apply ba_ | apply bn_ | apply bd_ | refine bs_ ?_ GE844.out | refine bs_ ?_ GE857.out | refine bs_ ?_ GE863.out | refine bs_ ?_ GE870.out) | exact HB.out)⟩
/-! Codes of a lock as texts, their digits, what clues tell of them. -/
def codeS (w d : Int) (s : ByteArray) : Prop := s.size = w.toNat ∧ ∀ i < s.size, 48 ≤ bt s (i : Nat) ∧ bt s (i : Nat) < 48 + d
def dg (s : ByteArray) : List Int := (List.range s.size).map fun i => bt s (i : Nat) - 48
theorem dg_length (s : ByteArray) : (dg s).length = s.size := by simp [dg]
theorem dg_at {s : ByteArray} {i : Nat} (h : i < s.size) : rd (dg s) (i : Nat) = bt s (i : Nat) - 48 := by
  rw [rd_at (by simpa [dg] using h)]; simp [dg]
theorem bt_textB {D : List Int} (h : ∀ x ∈ D, 0 ≤ x ∧ x < 10) {i : Nat} (hi : i < D.length) : bt (textB D) (i : Nat) = 48 + D[i] := by
  have hx := h D[i] (List.getElem_mem hi)
  have hs : (textB D).size = D.length := by unfold textB; rw [strOfNums_size, List.length_map]
  unfold bt
  rw [dif_pos (by rw [hs]; simpa using hi)]
  have e1 : ((textB D)[(i : Int).toNat]'(by rw [hs]; simpa using hi)) = UInt8.ofNat (wrap64 (48 + D[i]) % 256).toNat := by
    show (textB D).data[(i : Int).toNat]'_ = _
    have : (textB D).data = ((D.map fun x => wrap64 (48 + x) % 256).map fun n => UInt8.ofNat n.toNat).toArray := rfl
    simp [this]
  rw [e1, w64 (by omega) (by omega)]
  simp
  omega
theorem codeB_code {w d a : Int} (hl : lockB w d = true) : codeS w d (codeB w d a) := by
  obtain ⟨w1, w2, d1, d2⟩ := lockB_iff.mp hl
  have hs : (codeB w d a).size = w.toNat := by unfold codeB textB; rw [strOfNums_size, List.length_map, digs_length]
  refine ⟨hs, fun i hi => ?_⟩
  have hr := digs_range (d := d) (by omega) w.toNat a
  unfold codeB
  rw [bt_textB (fun x hx => by have := hr x hx; omega) (by rw [digs_length, ← hs]; exact hi)]
  have := hr _ (List.getElem_mem (by rw [digs_length, ← hs]; exact hi) : (digs d w.toNat a)[i]'(by rw [digs_length, ← hs]; exact hi) ∈ _)
  omega
def sumF : Int → List Int → Int
  | acc, [] => acc
  | acc, x :: xs => sumF (wrap64 (acc + x)) xs
def numF (d : Int) : Int → List Int → Int
  | acc, [] => acc
  | acc, x :: xs => numF d (wrap64 (wrap64 (acc * d) + x)) xs
def turnV (d x y : Int) : Int := Int.tmod (wrap64 (Int.tmod (wrap64 (y - x)) d + d)) d
def nearV (d x y : Int) : Int := lst (turnV d x y) (Int.tmod (wrap64 (d - turnV d x y)) d)
def distF (d : Int) (s t : ByteArray) : Nat → Int
  | 0 => 0
  | i + 1 => wrap64 (distF d s t i + nearV d (bt s (i : Nat)) (bt t (i : Nat)))
def valV (w d k a : Int) (s : ByteArray) : Int :=
  if k = 0 then bt s a - 48 else if k = 1 then sumF 0 (dg s) else if k = 2 then plN (codeB w d a) s w.toNat
  else if k = 3 then distF d (codeB w d a) s w.toNat else Int.tmod (numF d 0 (dg s)) a
def fitV (w d : Int) (c : Int × Int × Int) (s : ByteArray) : Bool := if c.1 = 1 then decide (valV w d 1 0 s = c.2.1) else decide (valV w d c.1 c.2.1 s = c.2.2)
theorem codeS_hint {w d : Int} {s t : ByteArray} (hl : lockB w d = true) (hs : codeS w d s) (ht : codeS w d t) : hintB s t = true := by
  obtain ⟨w1, w2, d1, d2⟩ := lockB_iff.mp hl
  have h1 := hs.1
  have h2 := ht.1
  refine hintB_iff.mpr ⟨by omega, by omega, by omega, fun i hi => ?_, fun i hi => ?_⟩
  · have := hs.2 i hi; omega
  · have := ht.2 i hi; omega
/-! The statements' own helpers on clues and puzzles: what they come to. -/
def clueOf (x : S25) : S30 := ⟨x.f0, x.f1, x.f2⟩
theorem laws_szClueS.is (l : List S25) (a : Int) (h0 : 0 ≤ a) (h1 : a ≤ 1048576) (hl : l.length ≤ 9223372036854775807) : laws_szClueS.f l a = some (if (l.length : Int) ≤ a then a - l.length else -1) := by
  unfold laws_szClueS.f
  rw [w64 (x := a - (l.length : Int)) (by omega) (by omega)]
  by_cases h : (l.length : Int) ≤ a
  · rw [if_neg (by omega), if_pos h]
  · rw [if_pos (by omega), if_neg h]
theorem laws_szPuzzle.is (w d : Int) (l : List S25) (hl : l.length ≤ 9223372036854775807) : laws_szPuzzle.f w d l 1048576 = some (if (l.length : Int) ≤ 1048576 then (1048576 : Int) - (l.length : Int) else (-1 : Int)) := by
  unfold laws_szPuzzle.f
  rw [laws_szClueS.is l 1048576 (by omega) (by omega) hl]
  simp only [Option.bind_some]
  by_cases h : (l.length : Int) ≤ 1048576
  · rw [if_pos h, if_neg (by omega)]
  · rw [if_neg h, if_pos (by omega)]
theorem rd_laws_clue {xs : List S25} {i : Int} (h : i.toNat < xs.length) : rd_T25 xs i = xs[i.toNat] := by unfold rd_T25; exact getD_at h
theorem rd_clue {xs : List S30} {i : Int} (h : i.toNat < xs.length) : rd_T30 xs i = xs[i.toNat] := by unfold rd_T30; exact getD_at h
theorem laws_toClueS.lev (l : List S25) (hl : l.length ≤ 1048576) : ∀ (j : Nat) (i : Int), 0 ≤ i → i ≤ l.length → (l.length : Int) - i = j →
    Ev (fun k => laws_toClueS.l0 k l ((l.take i.toNat).map clueOf ++ List.replicate (l.length - i.toNat) z30) i) (l.map clueOf) := by
  intro j
  induction j with
  | zero =>
    intro i h0 hi hj
    obtain rfl : i = (l.length : Int) := by omega
    exact Ev.step (fun k => rfl) (Ev.no (by omega) (Ev.id (by simp)))
  | succ j ih =>
    intro i h0 hi hj
    have hlt : i.toNat < l.length := by omega
    refine Ev.step (fun k => rfl) (Ev.yes (by omega) (Ev.yes h0 ?_))
    simp only [laws_toClue.f, Option.bind_some, rd_laws_clue hlt]
    refine Ev.yes (by simp; omega) ?_
    have := fill_step clueOf l z30 i.toNat hlt
    unfold clueOf at this ⊢
    rw [this, w64 (x := i + 1) (by omega) (by omega), ← toNat_succ h0]
    exact ih (i + 1) (by omega) (by omega) (by omega)
theorem laws_toClueS.ev (l : List S25) (hl : l.length ≤ 1048576) : Ev (fun k => laws_toClueS.f k l) (l.map clueOf) := by
  unfold laws_toClueS.f
  refine Ev.yes (by omega) (Ev.yes (by omega) ?_)
  have := laws_toClueS.lev l hl l.length 0 (by omega) (by omega) (by omega)
  simpa using this
theorem laws_toPuzzle.ev (w d : Int) (l : List S25) (hl : l.length ≤ 1048576) : Ev (fun k => laws_toPuzzle.f k w d l) (w, d, l.map clueOf) := by
  unfold laws_toPuzzle.f
  simp only [laws_toLock.f, Option.bind_some]
  exact Ev.bind (laws_toClueS.ev l hl) (Ev.now _)
theorem laws_eqClueS.lev (l : List S30) (hl : l.length ≤ 9223372036854775807) : ∀ (j : Nat) (i : Int), 0 ≤ i → i ≤ l.length → (l.length : Int) - i = j → Ev (fun k => laws_eqClueS.l0 k l l i) true := by
  intro j
  induction j with
  | zero =>
    intro i h0 hi hj
    exact Ev.step (fun k => rfl) (Ev.no (by omega) (Ev.now _))
  | succ j ih =>
    intro i h0 hi hj
    refine Ev.step (fun k => rfl) (Ev.yes (by omega) (Ev.yes h0 (Ev.yes (by omega) ?_)))
    simp only [laws_eqClue.f, if_true, Option.bind_some]
    rw [w64 (x := i + 1) (by omega) (by omega)]
    exact ih (i + 1) (by omega) (by omega) (by omega)
theorem laws_eqClueS.ev (l : List S30) (hl : l.length ≤ 9223372036854775807) : Ev (fun k => laws_eqClueS.f k l l) true := by
  unfold laws_eqClueS.f
  exact Ev.yes rfl (laws_eqClueS.lev l hl l.length 0 (by omega) (by omega) (by omega))
theorem laws_eqPuzzle.ev (w d : Int) (l : List S30) (hl : l.length ≤ 9223372036854775807) : Ev (fun k => laws_eqPuzzle.f k w d l w d l) true := by
  unfold laws_eqPuzzle.f
  simp only [laws_eqLock.f, if_true, Option.bind_some]
  exact Ev.bind (laws_eqClueS.ev l hl) (Ev.yes rfl (Ev.now _))
/-! spec's functions on locks and clues: what they come to. -/
theorem spec_l1In.is (a b c : Int) : spec_l1In.f a b c = some (decide (b ≤ a ∧ a ≤ c)) := by
  unfold spec_l1In.f
  by_cases h : a ≥ b
  · rw [if_pos h]; have h' : b ≤ a := h; congr 1; simp [h']
  · rw [if_neg h]; have h' : ¬ b ≤ a := h; congr 1; simp [h']
theorem spec_whGood.is (w d : Int) : spec_whGood.f w d = some (lockB w d) := by
  unfold spec_whGood.f lockB
  simp only [spec_l1In.is, Option.bind_some]
  by_cases h : 1 ≤ w ∧ w ≤ 6 <;> simp [h]
theorem spec_whCount.lev (w d : Int) (h1 : 1 ≤ d) (h2 : d ≤ 10) (hn : w ≤ 6) : ∀ (j : Nat) (i : Int), 0 ≤ i → i ≤ w → i = j → Ev (fun k => spec_whCount.l0 k (d ^ (w - i).toNat) i w d) (d ^ w.toNat) := by
  intro j
  induction j with
  | zero =>
    intro i h0 hi hj
    obtain rfl : i = 0 := by omega
    exact Ev.step (fun k => rfl) (Ev.no (by omega) (Ev.id (by simp)))
  | succ j ih =>
    intro i h0 hi hj
    refine Ev.step (fun k => rfl) (Ev.yes (by omega) ?_)
    have hb := pow_bound h1 h2 (n := (w - i).toNat) (by omega)
    have hm : d ^ (w - i).toNat * d = d ^ (w - (i - 1)).toNat := by rw [show (w - (i - 1)).toNat = (w - i).toNat + 1 by omega, Int.pow_succ]
    have hb' := pow_bound h1 h2 (n := (w - (i - 1)).toNat) (by omega)
    rw [w64 (x := i - 1) (by omega) (by omega), hm, w64 (x := d ^ (w - (i - 1)).toNat) (by omega) (by omega)]
    exact ih (i - 1) (by omega) (by omega) (by omega)
theorem spec_whCount.ev {w d : Int} (h : lockB w d = true) : Ev (fun k => spec_whCount.f k w d) (d ^ w.toNat) := by
  obtain ⟨a, b, c, e⟩ := lockB_iff.mp h
  have := spec_whCount.lev w d (by omega) e b w.toNat w (by omega) (by omega) (by omega)
  unfold spec_whCount.f
  simpa using this
theorem spec_hiLock.ev (w d m : Int) : Ev (fun k => spec_hiLock.f k w d m) (smallB w d m) := by
  unfold spec_hiLock.f smallB
  refine Ev.bindc (spec_whGood.is w d) ?_
  cases h : lockB w d with
  | true => exact Ev.yes rfl (Ev.bind (spec_whCount.ev h) (Ev.id (by simp)))
  | false => exact Ev.no (by simp) (Ev.id (by simp))
/-! What clues tell of codes: impl's and spec's agree. -/
theorem spec_whDigits.ev {s : ByteArray} (h6 : s.size ≤ 6) (h : ∀ i < s.size, 48 ≤ bt s (i : Nat) ∧ bt s (i : Nat) ≤ 57) : Ev (fun k => spec_whDigits.f k s) (dg s) := by
  have : ∀ m i : Nat, i + m = s.size → ∀ xs : List Int, xs.length = i → Ev (fun k => spec_whDigits.l0 k s xs (i : Nat)) (xs ++ (List.range' i m).map fun i => bt s (i : Nat) - 48) := by
    intro m
    induction m with
    | zero =>
      intro i hi xs hx
      refine Ev.step (fun k => rfl) ?_
      refine Ev.no (by omega) ?_
      exact Ev.id (by simp)
    | succ m ih =>
      intro i hi xs hx
      refine Ev.step (fun k => rfl) ?_
      refine Ev.yes (by omega) (Ev.yes (by omega) (Ev.yes (by omega) ?_))
      have := ih (i + 1) (by omega) (xs ++ [bt s (i : Nat) - 48]) (by simp [hx])
      have hb := h i (by omega)
      rw [show ((bt s (i : Nat)) - 48) % 256 = bt s (i : Nat) - 48 by omega, show wrap64 ((i : Int) + 1) = ((i + 1 : Nat) : Int) from w64 (by omega) (by omega)]
      refine Ev.eq this ?_
      rw [List.range'_succ]
      simp
  have := this s.size 0 (by omega) [] rfl
  refine Ev.eq this ?_
  simp [dg, List.range_eq_range']
theorem impl_digits.ev {w d : Int} {s : ByteArray} (hl : lockB w d = true) (hs : codeS w d s) : Ev (fun k => impl_digits.f k s) (dg s) := by
  obtain ⟨w1, w2, d1, d2⟩ := lockB_iff.mp hl
  have h1 := hs.1
  exact impl_digits_of (by omega) (fun i hi => by have := hs.2 i hi; omega)
theorem spec_whDigits.evc {w d : Int} {s : ByteArray} (hl : lockB w d = true) (hs : codeS w d s) : Ev (fun k => spec_whDigits.f k s) (dg s) := by
  obtain ⟨w1, w2, d1, d2⟩ := lockB_iff.mp hl
  have h1 := hs.1
  exact spec_whDigits.ev (by omega) (fun i hi => by have := hs.2 i hi; omega)
theorem impl_Lock_number.lev (w d : Int) (D : List Int) (hD : D.length ≤ 6) : ∀ (m i : Nat), i + m = D.length → ∀ acc, Ev (fun k => impl_Lock_number.l0 k acc D (D.length : Int) (i : Nat) w d) (numF d acc (D.drop i)) := by
  intro m
  induction m with
  | zero =>
    intro i hi acc
    refine Ev.step (fun k => rfl) (Ev.no (by omega) (Ev.id ?_))
    rw [List.drop_eq_nil_of_le (by omega)]; rfl
  | succ m ih =>
    intro i hi acc
    refine Ev.step (fun k => rfl) (Ev.yes (by omega) (Ev.yes (by omega) (Ev.yes (by omega) ?_)))
    have hlt : i < D.length := by omega
    rw [show wrap64 ((i : Int) + 1) = ((i + 1 : Nat) : Int) from w64 (by omega) (by omega), List.drop_eq_getElem_cons hlt, rd_at (by simpa using hlt)]
    exact ih (i + 1) (by omega) _
theorem spec_whNumber.lev (w d : Int) (D : List Int) (hD : D.length ≤ 6) : ∀ (m i : Nat), i + m = D.length → ∀ acc, Ev (fun k => spec_whNumber.l0 k acc D (D.length : Int) (i : Nat) w d) (numF d acc (D.drop i)) := by
  intro m
  induction m with
  | zero =>
    intro i hi acc
    refine Ev.step (fun k => rfl) (Ev.no (by omega) (Ev.id ?_))
    rw [List.drop_eq_nil_of_le (by omega)]; rfl
  | succ m ih =>
    intro i hi acc
    refine Ev.step (fun k => rfl) (Ev.yes (by omega) (Ev.yes (by omega) (Ev.yes (by omega) ?_)))
    have hlt : i < D.length := by omega
    rw [show wrap64 ((i : Int) + 1) = ((i + 1 : Nat) : Int) from w64 (by omega) (by omega), List.drop_eq_getElem_cons hlt, rd_at (by simpa using hlt)]
    exact ih (i + 1) (by omega) _
theorem spec_pzValue.lev (D : List Int) (hD : D.length ≤ 6) : ∀ (m i : Nat), i + m = D.length → ∀ acc, Ev (fun k => spec_pzValue.l0 k acc D (D.length : Int) (i : Nat)) (sumF acc (D.drop i)) := by
  intro m
  induction m with
  | zero =>
    intro i hi acc
    refine Ev.step (fun k => rfl) (Ev.no (by omega) (Ev.id ?_))
    rw [List.drop_eq_nil_of_le (by omega)]; rfl
  | succ m ih =>
    intro i hi acc
    refine Ev.step (fun k => rfl) (Ev.yes (by omega) (Ev.yes (by omega) (Ev.yes (by omega) ?_)))
    have hlt : i < D.length := by omega
    rw [show wrap64 ((i : Int) + 1) = ((i + 1 : Nat) : Int) from w64 (by omega) (by omega), List.drop_eq_getElem_cons hlt, rd_at (by simpa using hlt)]
    exact ih (i + 1) (by omega) _
theorem impl_Lock_told.lev (D : List Int) (hD : D.length ≤ 6) : ∀ (m i : Nat), i + m = D.length → ∀ acc, Ev (fun k => impl_Lock_told.l0 k acc D (D.length : Int) (i : Nat)) (1, sumF acc (D.drop i), 0) := by
  intro m
  induction m with
  | zero =>
    intro i hi acc
    refine Ev.step (fun k => rfl) (Ev.no (by omega) (Ev.id ?_))
    rw [List.drop_eq_nil_of_le (by omega)]; rfl
  | succ m ih =>
    intro i hi acc
    refine Ev.step (fun k => rfl) (Ev.yes (by omega) (Ev.yes (by omega) (Ev.yes (by omega) ?_)))
    have hlt : i < D.length := by omega
    rw [show wrap64 ((i : Int) + 1) = ((i + 1 : Nat) : Int) from w64 (by omega) (by omega), List.drop_eq_getElem_cons hlt, rd_at (by simpa using hlt)]
    exact ih (i + 1) (by omega) _
theorem impl_Lock_number.ev {w d : Int} {s : ByteArray} (hl : lockB w d = true) (hs : codeS w d s) : Ev (fun k => impl_Lock_number.f k w d s) (numF d 0 (dg s)) := by
  have h6 : (dg s).length ≤ 6 := by rw [dg_length, hs.1]; have := lockB_iff.mp hl; omega
  unfold impl_Lock_number.f
  exact Ev.bind (impl_digits.ev hl hs) (impl_Lock_number.lev w d _ h6 (dg s).length 0 (by omega) 0)
theorem spec_whNumber.ev {w d : Int} {s : ByteArray} (hl : lockB w d = true) (hs : codeS w d s) : Ev (fun k => spec_whNumber.f k w d s) (numF d 0 (dg s)) := by
  have h6 : (dg s).length ≤ 6 := by rw [dg_length, hs.1]; have := lockB_iff.mp hl; omega
  unfold spec_whNumber.f
  exact Ev.bind (spec_whDigits.evc hl hs) (spec_whNumber.lev w d _ h6 (dg s).length 0 (by omega) 0)
/-! spec's texts of codes, distances: what they come to. -/
theorem strOfNums_app (a b : List Int) : strOfNums (a ++ b) = strOfNums a ++ strOfNums b := by
  apply ByteArray.ext
  simp [strOfNums, ByteArray.data_append]
theorem textB_app (a : List Int) (x : Int) : textB (a ++ [x]) = textB a ++ strOfNums [wrap64 (48 + x) % 256] := by
  unfold textB; rw [List.map_append, strOfNums_app]; rfl
theorem spec_l1Num.one {x : Int} (h : x < 10) : Ev (fun k => spec_l1Num.f k x) (strOfNums [wrap64 (48 + x) % 256]) :=
  Ev.step (fun k => rfl) (Ev.yes h (Ev.now _))
theorem textB_size (l : List Int) : (textB l).size = l.length := by unfold textB; rw [strOfNums_size, List.length_map]
theorem spec_whText.lev (D : List Int) (hD : D.length ≤ 6) (h : ∀ x ∈ D, 0 ≤ x ∧ x < 10) : ∀ (m i : Nat), i + m = D.length → Ev (fun k => spec_whText.l0 k (textB (D.take i)) D (D.length : Int) (i : Nat)) (textB D) := by
  intro m
  induction m with
  | zero =>
    intro i hi
    refine Ev.step (fun k => rfl) (Ev.no (by omega) (Ev.id ?_))
    rw [List.take_of_length_le (by omega)]
  | succ m ih =>
    intro i hi
    have hlt : i < D.length := by omega
    have hx := h D[i] (List.getElem_mem hlt)
    refine Ev.step (fun k => rfl) (Ev.yes (by omega) (Ev.yes (by omega) (Ev.yes (by omega) ?_)))
    rw [rd_at (by simpa using hlt)]
    refine Ev.bind (spec_l1Num.one (by simpa using hx.2)) ?_
    refine Ev.yes (by rw [textB_size, strOfNums_size, List.length_take]; simp; omega) ?_
    rw [show wrap64 ((i : Int) + 1) = ((i + 1 : Nat) : Int) from w64 (by omega) (by omega)]
    have := ih (i + 1) (by omega)
    rw [List.take_succ_eq_append_getElem hlt, textB_app] at this
    exact this
theorem spec_whText.ev (D : List Int) (hD : D.length ≤ 6) (h : ∀ x ∈ D, 0 ≤ x ∧ x < 10) : Ev (fun k => spec_whText.f k D) (textB D) := by
  unfold spec_whText.f
  exact spec_whText.lev D hD h D.length 0 (by omega)
theorem spec_whOf.lev {w d : Int} (hl : lockB w d = true) (D : List Int) (hD : D.length = w.toNat) (h : ∀ x ∈ D, 0 ≤ x ∧ x < 10) : ∀ (m : Nat) (n : Int) (T : List Int), 0 ≤ n → n ≤ 9223372036854775807 → digs d m n ++ T = D → Ev (fun k => spec_whOf.l0 k n (List.replicate m 0 ++ T) ((m : Int) - 1) w d) (textB D) := by
  obtain ⟨w1, w2, d1, d2⟩ := lockB_iff.mp hl
  intro m
  induction m with
  | zero =>
    intro n T h0 h1 hT
    refine Ev.step (fun k => rfl) (Ev.no (by omega) ?_)
    have : List.replicate 0 (0 : Int) ++ T = D := hT
    rw [this]
    exact Ev.bind (spec_whText.ev D (by omega) h) (Ev.now _)
  | succ m ih =>
    intro n T h0 h1 hT
    have hlen : m + 1 + T.length = D.length := by rw [← hT, List.length_append, digs_length]
    refine Ev.step (fun k => rfl) (Ev.yes (by omega) (Ev.no (by omega) (Ev.yes (by omega) (Ev.yes (by rw [List.length_append, List.length_replicate]; omega) ?_))))
    rw [show ((m + 1 : Nat) : Int) - 1 = (m : Nat) by omega, Int.toNat_natCast, rep_set, Int.tmod_eq_emod_of_nonneg h0, Int.tdiv_eq_ediv_of_nonneg h0]
    have r3 : 0 ≤ n / d := Int.ediv_nonneg h0 (by omega)
    have r4 : n / d ≤ n := Int.ediv_le_self _ h0
    rw [w64 (x := n / d) (by omega) (by omega), w64 (x := (m : Int) - 1) (by omega) (by omega)]
    refine ih (n / d) (n % d :: T) r3 (by omega) ?_
    rw [digs, List.append_assoc] at hT
    exact hT
theorem spec_whOf.ev {w d a : Int} (hl : lockB w d = true) (h0 : 0 ≤ a) (h1 : a ≤ 9223372036854775807) : Ev (fun k => spec_whOf.f k w d a) (codeB w d a) := by
  obtain ⟨w1, w2, d1, d2⟩ := lockB_iff.mp hl
  unfold spec_whOf.f
  refine Ev.yes (by omega) (Ev.yes (by omega) ?_)
  rw [w64 (x := w - 1) (by omega) (by omega)]
  have := spec_whOf.lev hl (digs d w.toNat a) (by rw [digs_length]) (fun x hx => by have := digs_range (d := d) (by omega) w.toNat a x hx; omega) w.toNat a [] h0 h1 (by rw [List.append_nil])
  rw [List.append_nil, show ((w.toNat : Nat) : Int) - 1 = w - 1 by omega] at this
  exact this
theorem spec_l1Least.is (a b : Int) : spec_l1Least.f a b = some (lst a b) := by unfold spec_l1Least.f lst; split <;> rfl
theorem turnV_range {d x y : Int} (hd : 2 ≤ d) (hd2 : d ≤ 10) (hx : -300 ≤ x ∧ x ≤ 300) (hy : -300 ≤ y ∧ y ≤ 300) : 0 ≤ turnV d x y ∧ turnV d x y < d := by
  unfold turnV
  have e1 : wrap64 (y - x) = y - x := w64 (by omega) (by omega)
  have h1 : -d < Int.tmod (y - x) d := Int.lt_tmod_of_pos _ (by omega)
  have h2 : Int.tmod (y - x) d < d := Int.tmod_lt_of_pos _ (by omega)
  rw [e1, w64 (by omega) (by omega), Int.tmod_eq_emod_of_nonneg (by omega)]
  exact ⟨Int.emod_nonneg _ (by omega), Int.emod_lt_of_pos _ (by omega)⟩
theorem spec_whDistance.lev {w d : Int} (hl : lockB w d = true) {s t : ByteArray} (hs : codeS w d s) (ht : codeS w d t) : ∀ (m i : Nat), i + m = s.size → Ev (fun k => spec_whDistance.l0 k (dg s) (dg t) (distF d s t i) ((dg s).length : Int) (i : Nat) w d) (distF d s t s.size) := by
  obtain ⟨w1, w2, d1, d2⟩ := lockB_iff.mp hl
  have hsz := hs.1
  have htz := ht.1
  intro m
  induction m with
  | zero =>
    intro i hi
    refine Ev.step (fun k => rfl) (Ev.no (by rw [dg_length]; omega) (Ev.id ?_))
    rw [show i = s.size by omega]
  | succ m ih =>
    intro i hi
    have a1 := hs.2 i (by omega)
    have a2 := ht.2 i (by omega)
    refine Ev.step (fun k => rfl) (Ev.yes (by rw [dg_length]; omega) (Ev.yes (by omega) (Ev.yes (by rw [dg_length]; omega) (Ev.yes (by rw [dg_length]; omega) ?_))))
    rw [dg_at (by omega), dg_at (by omega)]
    have hf : spec_whFar.f w d (bt s (i : Nat) - 48) (bt t (i : Nat) - 48) = some (turnV d (bt s (i : Nat)) (bt t (i : Nat)), Int.tmod (wrap64 (d - turnV d (bt s (i : Nat)) (bt t (i : Nat)))) d) := by
      unfold spec_whFar.f spec_l1Mod.f turnV
      rw [if_neg (by omega), show bt t (i : Nat) - 48 - (bt s (i : Nat) - 48) = bt t (i : Nat) - bt s (i : Nat) by omega]
      simp only [Option.bind_some]
      rw [if_neg (by omega)]
    refine Ev.bindc hf (Ev.bindc (spec_l1Least.is _ _) ?_)
    rw [show wrap64 ((i : Int) + 1) = ((i + 1 : Nat) : Int) from w64 (by omega) (by omega)]
    exact ih (i + 1) (by omega)
theorem impl_Lock_distance.lev {w d : Int} (hl : lockB w d = true) {s t : ByteArray} (hs : codeS w d s) (ht : codeS w d t) : ∀ (m i : Nat), i + m = s.size → Ev (fun k => impl_Lock_distance.l0 k s t (distF d s t i) (s.size : Int) (i : Nat) w d) (distF d s t s.size) := by
  obtain ⟨w1, w2, d1, d2⟩ := lockB_iff.mp hl
  have hsz := hs.1
  have htz := ht.1
  intro m
  induction m with
  | zero =>
    intro i hi
    refine Ev.step (fun k => rfl) (Ev.no (by omega) (Ev.id ?_))
    rw [show i = s.size by omega]
  | succ m ih =>
    intro i hi
    have a1 := hs.2 i (by omega)
    have a2 := ht.2 i (by omega)
    refine Ev.step (fun k => rfl) (Ev.yes (by omega) (Ev.yes (by omega) (Ev.yes (by omega) (Ev.yes (by omega) ?_))))
    have hr := turnV_range (d := d) (x := bt s (i : Nat)) (y := bt t (i : Nat)) d1 d2 (by omega) (by omega)
    have hf : impl_Lock_near.f w d (wrap64 (bt s (i : Nat))) (wrap64 (bt t (i : Nat))) = some (nearV d (bt s (i : Nat)) (bt t (i : Nat))) := by
      unfold impl_Lock_near.f impl_Lock_gap.f impl_around.f
      rw [if_neg (by omega), w64 (x := bt s (i : Nat)) (by omega) (by omega), w64 (x := bt t (i : Nat)) (by omega) (by omega)]
      simp only [Option.bind_some]
      show some (mn (turnV d (bt s (i : Nat)) (bt t (i : Nat))) (wrap64 (d - turnV d (bt s (i : Nat)) (bt t (i : Nat))))) = _
      unfold nearV
      generalize turnV d (bt s (i : Nat)) (bt t (i : Nat)) = q at hr
      rw [w64 (x := d - q) (by omega) (by omega)]
      congr 1
      by_cases hq : q = 0
      · subst hq
        rw [Int.sub_zero, Int.tmod_self]
        unfold mn lst
        simp
        omega
      · rw [Int.tmod_eq_of_lt (by omega) (by omega)]
        unfold mn lst
        by_cases e : q < d - q
        · simp [e]; omega
        · simp [e]; omega
    refine Ev.bindc hf ?_
    rw [show wrap64 ((i : Int) + 1) = ((i + 1 : Nat) : Int) from w64 (by omega) (by omega)]
    exact ih (i + 1) (by omega)
theorem spec_whDistance.ev {w d : Int} (hl : lockB w d = true) {s t : ByteArray} (hs : codeS w d s) (ht : codeS w d t) : Ev (fun k => spec_whDistance.f k w d s t) (distF d s t w.toNat) := by
  unfold spec_whDistance.f
  rw [← hs.1]
  exact Ev.bind (spec_whDigits.evc hl hs) (Ev.bind (spec_whDigits.evc hl ht) (spec_whDistance.lev hl hs ht s.size 0 (by omega)))
theorem impl_Lock_distance.ev {w d : Int} (hl : lockB w d = true) {s t : ByteArray} (hs : codeS w d s) (ht : codeS w d t) : Ev (fun k => impl_Lock_distance.f k w d s t) (distF d s t w.toNat) := by
  unfold impl_Lock_distance.f
  rw [← hs.1]
  exact impl_Lock_distance.lev hl hs ht s.size 0 (by omega)
/-! Whether codes fit clues; all solutions: what both sides come to. -/
theorem clueB_cases {w d a b c : Int} (h : clueB w d a b c = true) : (a = 0 ∧ 0 ≤ b ∧ b ≤ w - 1) ∨ (a = 1 ∧ c = 0) ∨ (a = 2 ∧ 0 ≤ b ∧ b ≤ d ^ w.toNat - 1) ∨ (a = 3 ∧ 0 ≤ b ∧ b ≤ d ^ w.toNat - 1) ∨ (a = 4 ∧ 2 ≤ b ∧ b ≤ 9) := by
  unfold clueB at h
  by_cases h0 : a = 0
  · rw [if_pos h0] at h; simp at h; omega
  rw [if_neg h0] at h
  by_cases h1 : a = 1
  · rw [if_pos h1] at h; simp at h; omega
  rw [if_neg h1] at h
  by_cases h2 : a = 2
  · rw [if_pos h2] at h; simp at h; omega
  rw [if_neg h2] at h
  by_cases h3 : a = 3
  · rw [if_pos h3] at h; simp at h; omega
  rw [if_neg h3] at h
  by_cases h4 : a = 4
  · rw [if_pos h4] at h; simp at h; omega
  rw [if_neg h4] at h; cases h
theorem spec_hiOf.is {a b : ByteArray} (h : hintB a b = true) : spec_hiOf.f a b = some (plN a b a.size, cmN a b a.size 10 - plN a b a.size) := by unfold spec_hiOf.f; rw [if_pos h]
theorem impl_hint.is {a b : ByteArray} (h : hintB a b = true) : impl_hint.f a b = some (plN a b a.size, cmN a b a.size 10 - plN a b a.size) := by unfold impl_hint.f; rw [if_pos h]
theorem spec_pzValue.ev {w d a b : Int} (hl : lockB w d = true) {s : ByteArray} (hs : codeS w d s) (h : (a = 0 ∧ 0 ≤ b ∧ b ≤ w - 1) ∨ a = 1 ∨ (a = 2 ∧ 0 ≤ b ∧ b ≤ d ^ w.toNat - 1) ∨ (a = 3 ∧ 0 ≤ b ∧ b ≤ d ^ w.toNat - 1) ∨ (a = 4 ∧ 2 ≤ b ∧ b ≤ 9)) :
    Ev (fun k => spec_pzValue.f k w d a b s) (valV w d a b s) := by
  obtain ⟨w1, w2, d1, d2⟩ := lockB_iff.mp hl
  have hsz := hs.1
  have hcb := count_bound hl
  have h6 : (dg s).length ≤ 6 := by rw [dg_length]; omega
  unfold spec_pzValue.f
  rcases h with ⟨rfl, h1, h2⟩ | rfl | ⟨rfl, h1, h2⟩ | ⟨rfl, h1, h2⟩ | ⟨rfl, h1, h2⟩
  · rw [show valV w d 0 b s = bt s b - 48 by simp [valV]]
    have hb := hs.2 b.toNat (by omega)
    rw [show ((b.toNat : Nat) : Int) = b by omega] at hb
    refine Ev.yes rfl (Ev.yes h1 (Ev.yes (by omega) (Ev.id (by omega))))
  · rw [show valV w d 1 b s = sumF 0 (dg s) by simp [valV]]
    exact Ev.no (by omega) (Ev.yes rfl (Ev.bind (spec_whDigits.evc hl hs) (spec_pzValue.lev _ h6 (dg s).length 0 (by omega) 0)))
  · rw [show valV w d 2 b s = plN (codeB w d b) s w.toNat by simp [valV]]
    have hc := codeB_code (a := b) hl
    refine Ev.no (by omega) (Ev.no (by omega) (Ev.yes rfl (Ev.bind (spec_whOf.ev hl h1 (by omega)) (Ev.bindc (spec_hiOf.is (codeS_hint hl hc hs)) (Ev.id ?_)))))
    rw [hc.1]
  · rw [show valV w d 3 b s = distF d (codeB w d b) s w.toNat by simp [valV]]
    have hc := codeB_code (a := b) hl
    exact Ev.no (by omega) (Ev.no (by omega) (Ev.no (by omega) (Ev.yes rfl (Ev.bind (spec_whOf.ev hl h1 (by omega)) (Ev.bind (spec_whDistance.ev hl hc hs) (Ev.now _))))))
  · rw [show valV w d 4 b s = Int.tmod (numF d 0 (dg s)) b by simp [valV]]
    exact Ev.no (by omega) (Ev.no (by omega) (Ev.no (by omega) (Ev.no (by omega) (Ev.bind (spec_whNumber.ev hl hs) (Ev.no (by omega) (Ev.now _))))))
theorem impl_Lock_told.ev {w d a b c : Int} (hl : lockB w d = true) {s : ByteArray} (hs : codeS w d s) (h : clueB w d a b c = true) :
    Ev (fun k => impl_Lock_told.f k w d a b s) (if a = 1 then (1, valV w d 1 0 s, 0) else (a, b, valV w d a b s)) := by
  obtain ⟨w1, w2, d1, d2⟩ := lockB_iff.mp hl
  have hsz := hs.1
  have hcb := count_bound hl
  have h6 : (dg s).length ≤ 6 := by rw [dg_length]; omega
  unfold impl_Lock_told.f
  rcases clueB_cases h with ⟨rfl, h1, h2⟩ | ⟨rfl, h1⟩ | ⟨rfl, h1, h2⟩ | ⟨rfl, h1, h2⟩ | ⟨rfl, h1, h2⟩
  · rw [if_neg (show ¬ (0 : Int) = 1 by omega), show valV w d 0 b s = bt s b - 48 by simp [valV]]
    refine Ev.yes rfl (Ev.bind (impl_digits.ev hl hs) (Ev.yes h1 (Ev.yes (by rw [dg_length]; omega) (Ev.id ?_))))
    have := dg_at (s := s) (i := b.toNat) (by omega)
    rw [show ((b.toNat : Nat) : Int) = b by omega] at this
    rw [this]
  · rw [if_pos rfl, show valV w d 1 0 s = sumF 0 (dg s) by simp [valV]]
    exact Ev.no (by omega) (Ev.yes rfl (Ev.bind (impl_digits.ev hl hs) (impl_Lock_told.lev _ h6 (dg s).length 0 (by omega) 0)))
  · rw [if_neg (show ¬ (2 : Int) = 1 by omega), show valV w d 2 b s = plN (codeB w d b) s w.toNat by simp [valV]]
    have hc := codeB_code (a := b) hl
    refine Ev.no (by omega) (Ev.no (by omega) (Ev.yes rfl (Ev.bindc (impl_Lock_code.is hl h1 (by omega)) (Ev.bindc (impl_hint.is (codeS_hint hl hc hs)) (Ev.id ?_)))))
    rw [hc.1]
  · rw [if_neg (show ¬ (3 : Int) = 1 by omega), show valV w d 3 b s = distF d (codeB w d b) s w.toNat by simp [valV]]
    have hc := codeB_code (a := b) hl
    exact Ev.no (by omega) (Ev.no (by omega) (Ev.no (by omega) (Ev.yes rfl (Ev.bindc (impl_Lock_code.is hl h1 (by omega)) (Ev.bind (impl_Lock_distance.ev hl hc hs) (Ev.now _))))))
  · rw [if_neg (show ¬ (4 : Int) = 1 by omega), show valV w d 4 b s = Int.tmod (numF d 0 (dg s)) b by simp [valV]]
    exact Ev.no (by omega) (Ev.no (by omega) (Ev.no (by omega) (Ev.no (by omega) (Ev.bind (impl_Lock_number.ev hl hs) (Ev.no (by omega) (Ev.now _))))))
theorem spec_pzFits.ev {w d a b c : Int} (hl : lockB w d = true) {s : ByteArray} (hs : codeS w d s) (h : clueB w d a b c = true) : Ev (fun k => spec_pzFits.f k w d a b c s) (fitV w d (a, b, c) s) := by
  unfold spec_pzFits.f fitV
  by_cases h1 : a = 1
  · rw [if_pos h1]
    exact Ev.yes h1 (Ev.bind (spec_pzValue.ev hl hs (Or.inr (Or.inl rfl))) (Ev.id (beq_of _ _)))
  · rw [if_neg h1]
    refine Ev.no h1 (Ev.bind (spec_pzValue.ev hl hs ?_) (Ev.id (beq_of _ _)))
    rcases clueB_cases h with h | h | h | h | h
    · exact Or.inl h
    · exact absurd h.1 h1
    · exact Or.inr (Or.inr (Or.inl h))
    · exact Or.inr (Or.inr (Or.inr (Or.inl h)))
    · exact Or.inr (Or.inr (Or.inr (Or.inr h)))
theorem told_fit {w d a b c : Int} {s : ByteArray} (h : clueB w d a b c = true) : decide ((if a = 1 then (1, valV w d 1 0 s, 0) else (a, b, valV w d a b s)) = (a, b, c)) = fitV w d (a, b, c) s := by
  unfold fitV
  by_cases h1 : a = 1
  · rw [if_pos h1, if_pos h1]
    rcases clueB_cases h with h | h | h | h | h
    · omega
    · subst h1; rw [h.2]; simp
    · omega
    · omega
    · omega
  · rw [if_neg h1, if_neg h1]; simp
def fitA (w d : Int) (l : List S30) (s : ByteArray) : Bool := l.all fun c => fitV w d (c.f0, c.f1, c.f2) s
theorem impl_Lock_fit.ev {w d : Int} (hl : lockB w d = true) {s : ByteArray} (hs : codeS w d s) (l : List S30) (h : ∀ c ∈ l, clueB w d c.f0 c.f1 c.f2 = true) : Ev (fun k => impl_Lock_fit.f k w d l s) (fitA w d l s) := by
  obtain ⟨K, hK⟩ : ∃ K, ∀ k ≥ K, ∀ c ∈ l, impl_Lock_told.f k w d c.f0 c.f1 s = some (if c.f0 = 1 then (1, valV w d 1 0 s, 0) else (c.f0, c.f1, valV w d c.f0 c.f1 s)) := by
    induction l with
    | nil => exact ⟨0, fun _ _ c hc => by cases hc⟩
    | cons x xs ih =>
      obtain ⟨K1, h1⟩ := ih (fun c hc => h c (List.mem_cons_of_mem _ hc))
      obtain ⟨K2, h2⟩ := impl_Lock_told.ev hl hs (h x (List.mem_cons_self ..))
      refine ⟨max K1 K2, fun k hk c hc => ?_⟩
      rcases List.mem_cons.mp hc with rfl | hc
      · exact h2 k (by omega)
      · exact h1 k (by omega) c hc
  refine ⟨K, fun k hk => ?_⟩
  have hk := hK k hk
  show impl_Lock_fit.f k w d l s = _
  unfold impl_Lock_fit.f
  rw [if_pos (List.all_eq_true.mpr fun c hc => by rw [hk c hc]; rfl)]
  congr 1
  unfold fitA
  rw [Bool.eq_iff_iff, List.all_eq_true, List.all_eq_true]
  have e : ∀ c ∈ l, decide (impl_Lock_told.f k w d c.f0 c.f1 s = some (c.f0, c.f1, c.f2)) = fitV w d (c.f0, c.f1, c.f2) s := by
    intro c hc
    rw [hk c hc, ← told_fit (h c hc)]
    simp
  exact ⟨fun h c hc => by rw [← e c hc]; exact h c hc, fun h c hc => by rw [e c hc]; exact h c hc⟩
def solA (w d : Int) (l : List S30) : Nat → List ByteArray
  | 0 => []
  | n + 1 => solA w d l n ++ if fitA w d l (codeB w d (n : Nat)) = true then [codeB w d (n : Nat)] else []
theorem solA_len (w d : Int) (l : List S30) : ∀ n, (solA w d l n).length ≤ n
  | 0 => by simp [solA]
  | n + 1 => by
    have := solA_len w d l n
    simp only [solA, List.length_append]
    split <;> simp <;> omega
theorem impl_Lock_solutions.lev {w d : Int} (hl : lockB w d = true) (l : List S30) (h : ∀ c ∈ l, clueB w d c.f0 c.f1 c.f2 = true) (N : Nat) (hN : (N : Int) ≤ 1000000) : ∀ (m i : Nat), i + m = N → Ev (fun k => impl_Lock_solutions.l0 k l (solA w d l i) (N : Int) (i : Nat) w d) (solA w d l N) := by
  intro m
  induction m with
  | zero =>
    intro i hi
    refine Ev.step (fun k => rfl) (Ev.no (by omega) (Ev.id ?_))
    rw [show i = N by omega]
  | succ m ih =>
    intro i hi
    have hx := solA_len w d l i
    refine Ev.step (fun k => rfl) (Ev.yes (by omega) (Ev.bindc (impl_Lock_code.is hl (by omega) (by omega)) (Ev.bind (impl_Lock_fit.ev hl (codeB_code hl) l h) ?_)))
    rw [show wrap64 ((i : Int) + 1) = ((i + 1 : Nat) : Int) from w64 (by omega) (by omega)]
    have hh := ih (i + 1) (by omega)
    rw [solA] at hh
    cases hf : fitA w d l (codeB w d (i : Nat)) with
    | true =>
      rw [hf, if_pos rfl] at hh
      exact Ev.yes rfl (Ev.yes (by omega) hh)
    | false =>
      rw [hf, if_neg (by simp), List.append_nil] at hh
      exact Ev.no (by simp) hh
theorem impl_Lock_solutions.ev {w d : Int} (hl : lockB w d = true) (l : List S30) (h : ∀ c ∈ l, clueB w d c.f0 c.f1 c.f2 = true) : Ev (fun k => impl_Lock_solutions.f k w d l) (solA w d l (d ^ w.toNat).toNat) := by
  have hcb := count_bound hl
  unfold impl_Lock_solutions.f
  refine Ev.bind (impl_Lock_count.ev hl) ?_
  have := impl_Lock_solutions.lev hl l h (d ^ w.toNat).toNat (by omega) (d ^ w.toNat).toNat 0 (by omega)
  rw [show (((d ^ w.toNat).toNat : Nat) : Int) = d ^ w.toNat by omega] at this
  exact this
def allC (w d : Int) (n : Nat) : List ByteArray := (List.range n).map fun i => codeB w d (i : Nat)
theorem spec_hiAll.lev {w d : Int} (hl : lockB w d = true) (N : Nat) (hN : (N : Int) = d ^ w.toNat) : ∀ (m i : Nat), i + m = N → Ev (fun k => spec_hiAll.l0 k (allC w d i) (i : Nat) w d) (allC w d N) := by
  have hcb := count_bound hl
  intro m
  induction m with
  | zero =>
    intro i hi
    refine Ev.step (fun k => rfl) (Ev.bind (spec_whCount.ev hl) (Ev.no (by omega) (Ev.id ?_)))
    rw [show i = N by omega]
  | succ m ih =>
    intro i hi
    refine Ev.step (fun k => rfl) (Ev.bind (spec_whCount.ev hl) (Ev.yes (by omega) (Ev.bind (spec_whOf.ev hl (by omega) (by omega)) (Ev.yes (by simp [allC]; omega) ?_))))
    rw [show wrap64 ((i : Int) + 1) = ((i + 1 : Nat) : Int) from w64 (by omega) (by omega)]
    have hh := ih (i + 1) (by omega)
    rw [show allC w d (i + 1) = allC w d i ++ [codeB w d (i : Nat)] by simp [allC, List.range_succ]] at hh
    exact hh
theorem spec_hiAll.ev {w d : Int} (hl : lockB w d = true) : Ev (fun k => spec_hiAll.f k w d) (allC w d (d ^ w.toNat).toNat) := by
  have hcb := count_bound hl
  unfold spec_hiAll.f
  exact spec_hiAll.lev hl (d ^ w.toNat).toNat (by omega) (d ^ w.toNat).toNat 0 (by omega)
theorem spec_pzAll.lev1 {w d : Int} (hl : lockB w d = true) (l : List S30) (hln : l.length ≤ 6) (h : ∀ c ∈ l, clueB w d c.f0 c.f1 c.f2 = true) {s : ByteArray} (hs : codeS w d s) (N i : Nat) (xs : List ByteArray) (r : List ByteArray) (C : List ByteArray)
    (hr : Ev (fun k => if fitA w d l s = true then (if xs.length < 8796093022208 then (spec_pzAll.l0 k l (xs ++ [s]) C (N : Int) (wrap64 ((i : Int) + 1)) w d) else none) else (spec_pzAll.l0 k l xs C (N : Int) (wrap64 ((i : Int) + 1)) w d)) r) : ∀ (m j : Nat) (b : Bool), j + m = l.length → b = (l.take j).all (fun c => fitV w d (c.f0, c.f1, c.f2) s) →
    Ev (fun k => spec_pzAll.l1 k l xs s b C (N : Int) (i : Int) l (l.length : Int) (j : Nat) w d) r := by
  intro m
  induction m with
  | zero =>
    intro j b hj hb
    refine Ev.step (fun k => rfl) (Ev.no (by omega) ?_)
    rw [List.take_of_length_le (by omega)] at hb
    have : b = fitA w d l s := hb
    rw [this]; exact hr
  | succ m ih =>
    intro j b hj hb
    have hlt : j < l.length := by omega
    refine Ev.step (fun k => rfl) (Ev.yes (by omega) (Ev.yes (by omega) (Ev.yes (by omega) ?_)))
    rw [show wrap64 ((j : Int) + 1) = ((j + 1 : Nat) : Int) from w64 (by omega) (by omega), rd_clue (i := (j : Int)) (by simpa using hlt)]
    have ht : (l.take (j + 1)).all (fun c => fitV w d (c.f0, c.f1, c.f2) s) = (b && fitV w d (l[j].f0, l[j].f1, l[j].f2) s) := by
      rw [List.take_succ_eq_append_getElem hlt, List.all_append, ← hb]; simp
    cases hbb : b with
    | true =>
      rw [hbb, Bool.true_and] at ht
      exact Ev.yes rfl (Ev.bind (spec_pzFits.ev hl hs (h _ (List.getElem_mem hlt))) (ih (j + 1) _ (by omega) ht.symm))
    | false =>
      rw [hbb, Bool.false_and] at ht
      exact Ev.no (by simp) (ih (j + 1) _ (by omega) ht.symm)
theorem spec_pzAll.lev {w d : Int} (hl : lockB w d = true) (l : List S30) (hln : l.length ≤ 6) (h : ∀ c ∈ l, clueB w d c.f0 c.f1 c.f2 = true) (N : Nat) (hN : (N : Int) ≤ 1000000) : ∀ (m i : Nat), i + m = N → Ev (fun k => spec_pzAll.l0 k l (solA w d l i) (allC w d N) (N : Int) (i : Nat) w d) (solA w d l N) := by
  intro m
  induction m with
  | zero =>
    intro i hi
    refine Ev.step (fun k => rfl) (Ev.no (by omega) (Ev.id ?_))
    rw [show i = N by omega]
  | succ m ih =>
    intro i hi
    have hx := solA_len w d l i
    have hcl : (allC w d N).length = N := by simp [allC]
    refine Ev.step (fun k => rfl) (Ev.yes (by omega) (Ev.yes (by omega) (Ev.yes (by omega) ?_)))
    have hrd : rdOf ByteArray.empty (allC w d N) (i : Int) = codeB w d (i : Nat) := by
      rw [rdOf_at (by rw [hcl]; omega)]; simp [allC]
    rw [hrd]
    refine spec_pzAll.lev1 hl l hln h (codeB_code hl) N i (solA w d l i) _ (allC w d N) ?_ l.length 0 true (by omega) (by simp)
    rw [show wrap64 ((i : Int) + 1) = ((i + 1 : Nat) : Int) from w64 (by omega) (by omega)]
    have hh := ih (i + 1) (by omega)
    rw [solA] at hh
    cases hf : fitA w d l (codeB w d (i : Nat)) with
    | true =>
      rw [hf, if_pos rfl] at hh
      exact Ev.yes rfl (Ev.yes (by omega) hh)
    | false =>
      rw [hf, if_neg (by simp), List.append_nil] at hh
      exact Ev.no (by simp) hh
theorem spec_pzAll.ev {w d : Int} (hl : lockB w d = true) (l : List S30) (hln : l.length ≤ 6) (h : ∀ c ∈ l, clueB w d c.f0 c.f1 c.f2 = true) : Ev (fun k => spec_pzAll.f k w d l) (solA w d l (d ^ w.toNat).toNat) := by
  have hcb := count_bound hl
  unfold spec_pzAll.f
  refine Ev.bind (spec_hiAll.ev hl) ?_
  have := spec_pzAll.lev hl l hln h (d ^ w.toNat).toNat (by omega) (d ^ w.toNat).toNat 0 (by omega)
  rw [show ((allC w d (d ^ w.toNat).toNat).length : Int) = (((d ^ w.toNat).toNat : Nat) : Int) by simp [allC]]
  exact this
theorem puzzleB_parts {w d : Int} {l : List S30} (h : puzzleB w d l = true) : lockB w d = true ∧ l.length ≤ 6 ∧ ∀ c ∈ l, clueB w d c.f0 c.f1 c.f2 = true := by
  unfold puzzleB at h
  rw [Bool.and_eq_true, Bool.and_eq_true] at h
  exact ⟨smallB_lock h.1.1, of_decide_eq_true h.1.2, fun c hc => List.all_eq_true.mp h.2 c hc⟩
theorem impl_Solutions.ev (w d : Int) (l : List S30) : Ev (fun k => impl_Solutions.f k w d l) (if puzzleB w d l = true then (solA w d l (d ^ w.toNat).toNat, true) else ([], false)) := by
  unfold impl_Solutions.f
  refine Ev.bindc (show impl_IsPuzzle.f w d l = some (puzzleB w d l) from rfl) ?_
  cases h : puzzleB w d l with
  | true =>
    obtain ⟨h1, h2, h3⟩ := puzzleB_parts h
    rw [if_pos rfl]
    exact Ev.yes rfl (Ev.bind (impl_Lock_solutions.ev h1 l h3) (Ev.now _))
  | false =>
    rw [if_neg (by simp)]
    exact Ev.no (by simp) (Ev.now _)
/-! spec's clues: what they come to. -/
theorem spec_pzLock.ev (w d : Int) : Ev (fun k => spec_pzLock.f k w d) (smallB w d 125) := by
  unfold spec_pzLock.f
  exact Ev.bind (spec_hiLock.ev w d 125) (Ev.now _)
theorem spec_pzClue.ev (w d a b c : Int) (hl : lockB w d = true) : Ev (fun k => spec_pzClue.f k w d a b c) (clueB w d a b c) := by
  unfold spec_pzClue.f clueB
  obtain ⟨w1, w2, d1, d2⟩ := lockB_iff.mp hl
  have hc := count_bound hl
  simp only [spec_l1In.is, Option.bind_some, w64 (x := w - 1) (by omega) (by omega), w64 (x := d - 1) (by omega) (by omega)]
  refine Ev.both (fun e => ?_) (fun e => ?_)
  · rw [if_pos e]
    exact Ev.both (fun h => Ev.id (by simp [of_decide_eq_true h])) (fun h => Ev.id (by have := decide_eq_false_iff_not.mp (Bool.eq_false_iff.mpr h); simp [this]))
  rw [if_neg e]
  refine Ev.both (fun e => ?_) (fun e => ?_)
  · rw [if_pos e]
    exact Ev.both (fun h => Ev.id (by simp [of_decide_eq_true h])) (fun h => Ev.id (by have := decide_eq_false_iff_not.mp (Bool.eq_false_iff.mpr h); simp [this]))
  rw [if_neg e]
  refine Ev.both (fun e => ?_) (fun e => ?_)
  · rw [if_pos e]
    refine Ev.bind (spec_whCount.ev hl) ?_
    rw [w64 (x := d ^ w.toNat - 1) (by omega) (by omega)]
    exact Ev.both (fun h => Ev.id (by simp [of_decide_eq_true h])) (fun h => Ev.id (by have := decide_eq_false_iff_not.mp (Bool.eq_false_iff.mpr h); simp [this]))
  rw [if_neg e]
  refine Ev.both (fun e => ?_) (fun e => ?_)
  · rw [if_pos e]
    refine Ev.bind (spec_whCount.ev hl) ?_
    rw [w64 (x := d ^ w.toNat - 1) (by omega) (by omega)]
    exact Ev.both (fun h => Ev.id (by simp [of_decide_eq_true h])) (fun h => Ev.id (by have := decide_eq_false_iff_not.mp (Bool.eq_false_iff.mpr h); simp [this]))
  rw [if_neg e]
  refine Ev.both (fun e => ?_) (fun e => ?_)
  · rw [if_pos e]
    refine Ev.both (fun h => ?_) (fun h => Ev.id (by have := decide_eq_false_iff_not.mp (Bool.eq_false_iff.mpr h); simp [this]))
    have h' := of_decide_eq_true h
    rw [w64 (x := b - 1) (by omega) (by omega)]
    exact Ev.id (by simp [h'])
  rw [if_neg e]
  exact Ev.id (by simp)
/-! spec's puzzles: what they come to. -/
theorem spec_pzGood.lev (w d : Int) (hl : lockB w d = true) (l : List S30) (hn : l.length ≤ 9223372036854775807) : ∀ (j : Nat) (i : Int), 0 ≤ i → i ≤ l.length → (l.length : Int) - i = j →
    Ev (fun k => spec_pzGood.l0 k l (l.length : Int) i w d l) ((l.drop i.toNat).all fun c => clueB w d c.f0 c.f1 c.f2) := by
  intro j
  induction j with
  | zero =>
    intro i h0 hi hj
    refine Ev.step (fun k => rfl) (Ev.no (by omega) (Ev.id ?_))
    rw [List.drop_eq_nil_of_le (by omega)]; rfl
  | succ j ih =>
    intro i h0 hi hj
    have hlt : i.toNat < l.length := by omega
    refine Ev.step (fun k => rfl) (Ev.yes (by omega) (Ev.yes h0 (Ev.yes (by omega) ?_)))
    refine Ev.bind (spec_pzClue.ev w d _ _ _ hl) ?_
    rw [List.drop_eq_getElem_cons hlt, List.all_cons, ← rd_clue hlt]
    cases clueB w d (rd_T30 l i).f0 (rd_T30 l i).f1 (rd_T30 l i).f2 with
    | false => exact Ev.no (by simp) (Ev.id (by simp))
    | true =>
      refine Ev.yes rfl ?_
      rw [w64 (x := i + 1) (by omega) (by omega), Bool.true_and, ← toNat_succ h0]
      exact ih (i + 1) (by omega) (by omega) (by omega)
theorem spec_pzGood.ev (w d : Int) (l : List S30) (hn : l.length ≤ 9223372036854775807) : Ev (fun k => spec_pzGood.f k w d l) (puzzleB w d l) := by
  unfold spec_pzGood.f puzzleB
  refine Ev.bind (spec_pzLock.ev w d) ?_
  cases h : smallB w d 125 with
  | false =>
    refine Ev.no (by simp) (Ev.step (fun k => rfl) ?_)
    simp only [spec_pzGood.j0]
    exact Ev.id (by simp)
  | true =>
    refine Ev.yes rfl (Ev.step (fun k => rfl) ?_)
    simp only [spec_pzGood.j0]
    by_cases h6 : l.length ≤ 6
    · refine Ev.no (by simp; omega) ?_
      have := spec_pzGood.lev w d (smallB_lock h) l hn l.length 0 (by omega) (by omega) (by omega)
      simpa [h6] using this
    · exact Ev.yes (by simp; omega) (Ev.id (by simp [h6]))
/-! Marks on clues, and that they are held. -/
theorem laws_markClueS.lev : ∀ (j : Nat) (l : List S30) (a i : Int), 0 ≤ i → i ≤ l.length → (l.length : Int) - i = j → l.length ≤ 9223372036854775807 → 0 ≤ a → a + 3 * j ≤ 4611686018427387904 →
    ∃ l' : List S30, l'.length = l.length ∧ (∀ m : Nat, (m : Int) < i → l'[m]? = l[m]?) ∧ Ev (fun k => laws_markClueS.l0 k l a i) (a + 3 * j, l') ∧ Ev (fun k => laws_heldClueS.l0 k l' a i) (a + 3 * j) := by
  intro j
  induction j with
  | zero =>
    intro l a i h0 hi hj hn ha hb
    exact ⟨l, rfl, fun _ _ => rfl, Ev.step (fun k => rfl) (Ev.no (by omega) (Ev.id (by simp))), Ev.step (fun k => rfl) (Ev.no (by omega) (Ev.id (by simp)))⟩
  | succ j ih =>
    intro l a i h0 hi hj hn ha hb
    have hlt : i.toNat < l.length := by omega
    have e1 : wrap64 (a + 1) = a + 1 := w64 (by omega) (by omega)
    have e2 : wrap64 (a + 1 + 1) = a + 2 := by rw [w64 (by omega) (by omega)]; omega
    have e3 : wrap64 (a + 2 + 1) = a + 3 := by rw [w64 (by omega) (by omega)]; omega
    have e4 : wrap64 (i + 1) = i + 1 := w64 (by omega) (by omega)
    obtain ⟨l', hl, hk, hm, hh⟩ := ih (l.set i.toNat ⟨a, a + 1, a + 2⟩) (a + 3) (i + 1) (by omega) (by simp; omega) (by simp; omega) (by simpa using hn) (by omega) (by omega)
    rw [List.length_set] at hl
    have hat : l'[i.toNat]? = some ⟨a, a + 1, a + 2⟩ := by
      rw [hk i.toNat (by omega)]
      simp [hlt]
    have hat' : rd_T30 l' i = ⟨a, a + 1, a + 2⟩ := by
      unfold rd_T30
      simp [List.getD, hat]
    refine ⟨l', hl, fun m hmi => ?_, ?_, ?_⟩
    · rw [hk m (by omega), List.getElem?_set_ne (by omega)]
    · refine Ev.step (fun k => rfl) (Ev.yes (by omega) (Ev.yes h0 ?_))
      simp only [Option.bind_some, e1, e2, e3, e4]
      have r1 : ∀ x : S30, rd_T30 (l.set i.toNat x) i = x := fun x => by rw [rd_clue (by simpa using hlt)]; simp
      simp only [r1, List.set_set]
      exact Ev.eq hm (by rw [Prod.mk.injEq]; exact ⟨by omega, rfl⟩)
    · refine Ev.step (fun k => rfl) (Ev.yes (by omega) (Ev.yes h0 ?_))
      simp only [e1, e2, e3, e4, hat']
      exact Ev.yes trivial (Ev.yes trivial (Ev.yes trivial (Ev.eq hh (by omega))))
theorem laws_markPuzzle.ev (w d : Int) (l : List S30) (a : Int) (ha : 0 ≤ a) (hb : a + 3 * l.length ≤ 4611686018427387904) :
    ∃ l' : List S30, Ev (fun k => laws_markPuzzle.f k w d l a) (a + 3 * l.length, l') ∧ Ev (fun k => laws_heldPuzzle.f k w d l' a) (a + 3 * l.length) := by
  obtain ⟨l', _, _, hm, hh⟩ := laws_markClueS.lev l.length l a 0 (by omega) (by omega) (by omega) (by omega) ha hb
  refine ⟨l', ?_, ?_⟩
  · unfold laws_markPuzzle.f laws_markClueS.f
    exact Ev.bind hm (Ev.now _)
  · unfold laws_heldPuzzle.f laws_heldClueS.f
    exact Ev.bind hh (Ev.no (by omega) (Ev.now _))
section
/-! What a readable argument holds, told by kinds: the bridge from a statement's reading to the print's words. -/
open Go.WideShapes in
def Opens {α : Type} (P : Program) (t : TypeId) (d : Kd α) (V : α → Prop) : Prop :=
  ∀ (H : Type) (enc : TypeId × Value → H) (w : World) (base : Nat) (spare : Nat → Bool) (held : Bool) (fuel : Nat) (cs : List Value) (x : DataW H × List MemPlace),
    DataW.trod enc P w base spare held fuel t cs = some x → ∃ a : α, d.K w a cs ∧ V a
def IntV (a : Int) : Prop := -9223372036854775808 ≤ a ∧ a ≤ 9223372036854775807
def ListV {α : Type} (V : α → Prop) (l : List α) : Prop := l.length ≤ 9223372036854775807 ∧ ∀ x ∈ l, V x
theorem opens_int {P : Program} {t : TypeId} (ht : P.underlying t = some (.int .i64)) : Opens P t (Kd.int .i64) IntV := by
  intro H enc w base spare held fuel cs x h
  obtain ⟨n, rfl, _, hw⟩ := DataW.trod_int ht h
  refine ⟨n, rfl, ?_⟩
  have hb : (IntKind.i64.min ≤ n ∧ n ≤ IntKind.i64.max) := by simpa [Lit.wf] using hw
  have e1 : IntKind.i64.min = -9223372036854775808 := rfl
  have e2 : IntKind.i64.max = 9223372036854775807 := rfl
  rw [e1, e2] at hb
  unfold IntV
  omega
theorem cells_list {w : World} {base : Nat} {a : Addr} {n : Nat} {cs : List Value} (h : w.cells? base a n = some cs) : cs.length = n ∧ ∀ i u, cs[i]? = some u → w.cell? (a.add i) = some u := by
  unfold World.cells? at h
  split at h
  · have hl := mapM_some_length h
    refine ⟨by simpa using hl, fun i u hu => ?_⟩
    have hi : i < n := by
      have := (List.getElem?_eq_some_iff.1 hu).1
      rw [hl] at this; simpa using this
    have := mapM_some_get h i i (by simp [hi])
    rw [hu] at this
    exact this
  · cases h
theorem opens_slice {α : Type} {P : Program} {t e : TypeId} {d : Kd α} {V : α → Prop} (ht : P.underlying t = some (.slice e)) (hd : Opens P e d V) (hsz : P.cellsOf e = d.sz) : Opens P t (Kd.slice e d) (ListV V) := by
  intro H enc w base spare held fuel cs x h
  rcases Go.Deep.open_slice ht h with ⟨rfl, _⟩ | ⟨a, len, cap, m, n, D, Pl, rfl, _, hl, hm, hmm, _, hel⟩
  · exact ⟨[], ⟨none, 0, rfl, Nat.le_refl _, ⟨rfl, by simp, fun h0 => absurd h0 (by simp)⟩⟩, ⟨by simp, fun x hx => by simp at hx⟩⟩
  · have hle : len ≤ m := by rw [hmm]; split <;> omega
    have each : ∀ i : Nat, ∃ a' : Option α, i < len → ∃ z cs', a' = some z ∧ V z ∧ d.K w z cs' ∧ ∀ j u, cs'[j]? = some u → w.cell? (a.add (i * d.sz + j)) = some u := by
      intro i
      by_cases hi : i < len
      · obtain ⟨cs', h1, h2⟩ := hel i (by omega)
        obtain ⟨z, hK, hV⟩ := hd H enc w base spare held n cs' _ h2
        refine ⟨some z, fun _ => ⟨z, cs', rfl, hV, hK, fun j u hu => ?_⟩⟩
        obtain ⟨_, hc⟩ := cells_list h1
        have := hc j u hu
        rw [Go.Deep.add_add, hsz] at this
        exact this
      · exact ⟨none, fun h0 => absurd h0 hi⟩
    have ⟨f, hf⟩ := Classical.axiomOfChoice each
    have hz : ∀ i, i < len → ∃ z, f i = some z ∧ V z ∧ ∃ cs', d.K w z cs' ∧ ∀ j u, cs'[j]? = some u → w.cell? (a.add (i * d.sz + j)) = some u := by
      intro i hi
      obtain ⟨z, cs', h1, h2, h3, h4⟩ := hf i hi
      exact ⟨z, h1, h2, cs', h3, h4⟩
    have hlist : ∃ l : List α, l.length = len ∧ ∀ i, i < len → f i = l[i]? := by
      clear hf each hel hmm hle
      have : ∀ n, n ≤ len → ∃ l : List α, l.length = n ∧ ∀ i, i < n → f i = l[i]? := by
        intro n
        induction n with
        | zero => intro _; exact ⟨[], rfl, fun i hi => by omega⟩
        | succ n ih =>
          intro hn
          obtain ⟨l, hl1, hl2⟩ := ih (by omega)
          obtain ⟨z, h1, _⟩ := hz n (by omega)
          refine ⟨l ++ [z], by simp [hl1], fun i hi => ?_⟩
          by_cases e : i < n
          · rw [List.getElem?_append_left (by omega)]; exact hl2 i e
          · obtain rfl : i = n := by omega
            rw [h1, ← hl1]; simp
      exact this len (Nat.le_refl _)
    obtain ⟨l, hlen, hget⟩ := hlist
    have hV : ∀ x ∈ l, V x := by
      intro x hx
      obtain ⟨i, hi, rfl⟩ := List.getElem_of_mem hx
      obtain ⟨z, h1, h2, _⟩ := hz i (by omega)
      have h3 := hget i (by omega)
      rw [h1, List.getElem?_eq_getElem hi] at h3
      injection h3 with h3
      rw [← h3]; exact h2
    unfold maxLen at hm
    subst hlen
    refine ⟨l, ⟨some a, cap, rfl, hl, ⟨rfl, by omega, fun _ => ⟨a, rfl, fun j p hp => ?_⟩⟩⟩, ⟨by omega, hV⟩⟩
    have hj : j < l.length := (List.getElem?_eq_some_iff.1 hp).1
    obtain ⟨z, h1, _, cs', h3, h4⟩ := hz j hj
    have h5 := hget j hj
    rw [h1, hp] at h5
    injection h5 with h5
    subst h5
    exact ⟨cs', d.K_len h3, h3, h4⟩
theorem opens_pair {α β : Type} {P : Program} {t : TypeId} {f0 f1 : Field} {d0 : Kd α} {d1 : Kd β} {V0 : α → Prop} {V1 : β → Prop} (ht : P.underlying t = some (.struct #[f0, f1]))
    (h0 : Opens P f0.type d0 V0) (h1 : Opens P f1.type d1 V1) (o0 : f0.offset = 0) (o1 : f1.offset = d0.sz) (z0 : P.cellsOf f0.type = d0.sz) (z1 : P.cellsOf f1.type = d1.sz) (zt : P.cellsOf t = d0.sz + d1.sz) :
    Opens P t (Kd.pair d0 d1) (fun x => V0 x.1 ∧ V1 x.2) := by
  intro H enc w base spare held fuel cs x h
  obtain ⟨y0, y1, n, _, hl, g0, g1⟩ := ChangeShapes.trod_struct2 ht h
  rw [o0, z0, List.drop_zero] at g0
  rw [o1, z1] at g1
  obtain ⟨a, ka, va⟩ := h0 H enc w base spare held n _ _ g0
  obtain ⟨b, kb, vb⟩ := h1 H enc w base spare held n _ _ g1
  refine ⟨(a, b), ⟨_, _, ?_, ka, kb⟩, va, vb⟩
  rw [List.take_of_length_le (l := cs.drop d0.sz) (by rw [List.length_drop, hl, zt]; omega), List.take_append_drop]
theorem opens_trip {α β γ : Type} {P : Program} {t : TypeId} {f0 f1 f2 : Field} {d0 : Kd α} {d1 : Kd β} {d2 : Kd γ} {V0 : α → Prop} {V1 : β → Prop} {V2 : γ → Prop} (ht : P.underlying t = some (.struct #[f0, f1, f2]))
    (h0 : Opens P f0.type d0 V0) (h1 : Opens P f1.type d1 V1) (h2 : Opens P f2.type d2 V2) (o0 : f0.offset = 0) (o1 : f1.offset = d0.sz) (o2 : f2.offset = d0.sz + d1.sz)
    (z0 : P.cellsOf f0.type = d0.sz) (z1 : P.cellsOf f1.type = d1.sz) (z2 : P.cellsOf f2.type = d2.sz) (zt : P.cellsOf t = d0.sz + d1.sz + d2.sz) :
    Opens P t (Kd.pair d0 (Kd.pair d1 d2)) (fun x => V0 x.1 ∧ V1 x.2.1 ∧ V2 x.2.2) := by
  intro H enc w base spare held fuel cs x h
  obtain ⟨xs, n, _, _, hl, hxl, hf⟩ := DataW.trod_struct ht h
  match xs, hxl with
  | [y0, y1, y2], _ =>
    have g0 := hf 0 f0 rfl
    have g1 := hf 1 f1 rfl
    have g2 := hf 2 f2 rfl
    rw [o0, z0, List.drop_zero] at g0
    rw [o1, z1] at g1
    rw [o2, z2] at g2
    obtain ⟨a, ka, va⟩ := h0 H enc w base spare held n _ _ g0
    obtain ⟨b, kb, vb⟩ := h1 H enc w base spare held n _ _ g1
    obtain ⟨c, kc, vc⟩ := h2 H enc w base spare held n _ _ g2
    refine ⟨(a, b, c), ⟨_, _, ?_, ka, ⟨_, _, rfl, kb, kc⟩⟩, va, vb, vc⟩
    rw [List.take_of_length_le (l := cs.drop (d0.sz + d1.sz)) (by rw [List.length_drop, hl, zt]; omega)]
    rw [← List.drop_drop, List.take_append_drop, List.take_append_drop]
theorem opens_iso {α β : Type} {P : Program} {t : TypeId} {d : Kd α} {V : α → Prop} (h : Opens P t d V) (f : β → α) (g : α → β) (e : ∀ a, f (g a) = a) : Opens P t (Kd.iso d f) (fun x => V (f x)) := by
  intro H enc w base spare held fuel cs x hx
  obtain ⟨a, ka, va⟩ := h H enc w base spare held fuel cs x hx
  exact ⟨g a, by show d.K w (f (g a)) cs; rw [e]; exact ka, by show V (f (g a)); rw [e]; exact va⟩
section
variable {H : Type} {enc : TypeId × Value → H} {P : Program} {w : World} {base : Nat} {spare : Nat → Bool} {held : Bool} {r : Reach} {b0 : Nat} {t : TypeId} {v : Value} {x : DataW H} {p : List MemPlace}
theorem arg_struct {α : Type} {d : Kd α} {V : α → Prop} (ho : Opens P t d V) {fs : Array Field} (hs : P.underlying t = some (.struct fs)) (hv : Value.okWide P w r b0 t v) (h : DataW.Trod enc P w base spare held t v x p) :
    ∃ a cs, v = .agg (List.toArray cs) ∧ d.K w a cs ∧ V a := by
  obtain ⟨cs, rfl, _⟩ := WideShapes.okWide_struct hs hv
  obtain ⟨fuel, hf⟩ := h
  obtain ⟨a, hk, hV⟩ := ho H enc w base spare held fuel _ _ hf
  exact ⟨a, cs.toList, by simp, by simpa [Value.cells] using hk, hV⟩
theorem arg_lt (h : DataW.Trod enc P w base spare held t v x p) : ∀ y ∈ p, y.block < w.heap.size := by
  obtain ⟨m, hm⟩ := h
  exact DataW.trod_lt m _ _ _ hm
end
end
theorem opens_t3 : Opens Try.prog 3 (Kd.int .i64) IntV := opens_int Try.underlying3
def V23 (x : S23) : Prop := IntV x.f0 ∧ IntV x.f1
theorem opens_t23 : Opens Try.prog 23 k23 V23 := opens_iso (opens_pair Try.underlying23 opens_t3 opens_t3 (by kernel_rfl) (by kernel_rfl) (by kernel_rfl) (by kernel_rfl) (by kernel_rfl)) (fun x : S23 => (x.f0, x.f1)) (fun p => ⟨p.1, p.2⟩) (fun _ => rfl)
def V25 (x : S25) : Prop := IntV x.f0 ∧ IntV x.f1 ∧ IntV x.f2
theorem opens_t25 : Opens Try.prog 25 k25 V25 := opens_iso (opens_trip Try.underlying25 opens_t3 opens_t3 opens_t3 (by kernel_rfl) (by kernel_rfl) (by kernel_rfl) (by kernel_rfl) (by kernel_rfl) (by kernel_rfl) (by kernel_rfl)) (fun x : S25 => (x.f0, x.f1, x.f2)) (fun p => ⟨p.1, p.2.1, p.2.2⟩) (fun _ => rfl)
theorem opens_t41 : Opens Try.prog 41 (Kd.slice 25 k25) (ListV V25) := opens_slice Try.underlying41 opens_t25 (by kernel_rfl)
def V43 (x : S43) : Prop := V23 x.f0 ∧ (ListV V25) x.f1
theorem opens_t43 : Opens Try.prog 43 k43 V43 := opens_iso (opens_pair Try.underlying43 opens_t23 opens_t41 (by kernel_rfl) (by kernel_rfl) (by kernel_rfl) (by kernel_rfl) (by kernel_rfl)) (fun x : S43 => (x.f0, x.f1)) (fun p => ⟨p.1, p.2⟩) (fun _ => rfl)
/-! The law FnExactHarderPuzzle, over numbers and lists alone. -/
def hardV (w d : Int) : Nat → List S30 → Nat → List S30
  | 0, l, _ => l
  | m + 1, l, i => if (solA w d (l.eraseIdx i) (d ^ w.toNat).toNat).length = 1 then hardV w d m (l.eraseIdx i) i else hardV w d m l (i + 1)
theorem hardV_len (w d : Int) : ∀ (m : Nat) (l : List S30) (i : Nat), (hardV w d m l i).length ≤ l.length
  | 0, l, _ => Nat.le_refl _
  | m + 1, l, i => by
    unfold hardV
    by_cases e : (solA w d (l.eraseIdx i) (d ^ w.toNat).toNat).length = 1
    · rw [if_pos e]; exact Nat.le_trans (hardV_len w d m _ i) (List.length_eraseIdx_le l i)
    · rw [if_neg e]; exact hardV_len w d m l (i + 1)
theorem eraseH_ok {w d : Int} {l : List S30} (h : ∀ c ∈ l, clueB w d c.f0 c.f1 c.f2 = true) (i : Nat) : ∀ c ∈ l.eraseIdx i, clueB w d c.f0 c.f1 c.f2 = true := fun c hc => h c (List.mem_of_mem_eraseIdx hc)
theorem spec_pzWithout.oneH {l : List S30} {i : Nat} (h6 : l.length ≤ 6) (hi : i < l.length) : spec_pzWithout.f l (i : Nat) = some (l.eraseIdx i) := by
  unfold spec_pzWithout.f
  have hw : wrap64 ((i : Int) + 1) = ((i + 1 : Nat) : Int) := w64 (by omega) (by omega)
  simp only [Option.bind_some, hw, Int.toNat_natCast, List.nil_append]
  rw [if_pos (by omega), if_pos (by omega), if_pos (by simp; omega), if_pos (by omega), if_pos (by omega), if_pos (by simp; omega), List.eraseIdx_eq_take_drop_succ]
theorem spec_pzSolved.ev {w d : Int} (hl : lockB w d = true) (l : List S30) (hln : l.length ≤ 6) (h : ∀ c ∈ l, clueB w d c.f0 c.f1 c.f2 = true) : Ev (fun k => spec_pzSolved.f k w d l) (((solA w d l (d ^ w.toNat).toNat).length : Int) == 1) := by
  unfold spec_pzSolved.f
  exact Ev.bind (spec_pzAll.ev hl l hln h) (Ev.now _)
theorem spec_HarderPuzzle.lev {w d : Int} (hl : lockB w d = true) (p : List S30) : ∀ (m : Nat) (l : List S30) (i : Nat), i + m = l.length → l.length ≤ 6 → (∀ c ∈ l, clueB w d c.f0 c.f1 c.f2 = true) → Ev (fun k => spec_HarderPuzzle.l0 k l (i : Nat) w d p) (w, d, hardV w d m l i, true) := by
  intro m
  induction m with
  | zero => intro l i hi h6 h; exact Ev.step (fun k => rfl) (Ev.no (by omega) (Ev.now _))
  | succ m ih =>
    intro l i hi h6 h
    have he : (l.eraseIdx i).length + 1 = l.length := by rw [List.length_eraseIdx_of_lt (by omega)]; omega
    refine Ev.step (fun k => rfl) (Ev.yes (by omega) (Ev.bindc (spec_pzWithout.oneH h6 (by omega)) (Ev.bind (spec_pzSolved.ev hl _ (by omega) (eraseH_ok h i)) ?_)))
    unfold hardV
    by_cases e : (solA w d (l.eraseIdx i) (d ^ w.toNat).toNat).length = 1
    · rw [if_pos e]
      exact Ev.yes (by simp [e]) (ih _ i (by omega) (by omega) (eraseH_ok h i))
    · rw [if_neg e, show wrap64 ((i : Int) + 1) = ((i + 1 : Nat) : Int) from w64 (by omega) (by omega)]
      exact Ev.no (by simp; omega) (ih l (i + 1) (by omega) h6 h)
theorem impl_HarderPuzzle.lev {w d : Int} (hl : lockB w d = true) (p : List S30) : ∀ (m : Nat) (l : List S30) (i : Nat), i + m = l.length → l.length ≤ 6 → (∀ c ∈ l, clueB w d c.f0 c.f1 c.f2 = true) → Ev (fun k => impl_HarderPuzzle.l0 k l (i : Nat) w d p) (w, d, hardV w d m l i, true) := by
  intro m
  induction m with
  | zero => intro l i hi h6 h; exact Ev.step (fun k => rfl) (Ev.no (by omega) (Ev.now _))
  | succ m ih =>
    intro l i hi h6 h
    have he : (l.eraseIdx i).length + 1 = l.length := by rw [List.length_eraseIdx_of_lt (by omega)]; omega
    have hb : impl_but.f l (i : Nat) = some (l.eraseIdx i) := by
      unfold impl_but.f
      rw [if_pos ⟨by omega, by omega, by omega⟩, Int.toNat_natCast]
    refine Ev.step (fun k => rfl) (Ev.yes (by omega) (Ev.bindc hb (Ev.bind (impl_Lock_solutions.ev hl _ (eraseH_ok h i)) ?_)))
    unfold hardV
    by_cases e : (solA w d (l.eraseIdx i) (d ^ w.toNat).toNat).length = 1
    · rw [if_pos e]
      exact Ev.yes (by omega) (ih _ i (by omega) (by omega) (eraseH_ok h i))
    · rw [if_neg e, show wrap64 ((i : Int) + 1) = ((i + 1 : Nat) : Int) from w64 (by omega) (by omega)]
      exact Ev.no (by omega) (ih l (i + 1) (by omega) h6 h)
def hardR (w d : Int) (l : List S30) : Int × Int × List S30 × Bool :=
  if puzzleB w d l = true ∧ (solA w d l (d ^ w.toNat).toNat).length = 1 then (w, d, hardV w d l.length l 0, true) else (0, 0, [], false)
theorem hardR_len (w d : Int) (l : List S30) : (hardR w d l).2.2.1.length ≤ 6 := by
  unfold hardR
  by_cases e : puzzleB w d l = true ∧ (solA w d l (d ^ w.toNat).toNat).length = 1
  · rw [if_pos e]
    obtain ⟨_, h2, _⟩ := puzzleB_parts e.1
    exact Nat.le_trans (hardV_len w d _ l 0) h2
  · rw [if_neg e]; exact Nat.zero_le _
theorem hardR_yes {w d : Int} {l : List S30} (h : puzzleB w d l = true) (e : (solA w d l (d ^ w.toNat).toNat).length = 1) : hardR w d l = (w, d, hardV w d l.length l 0, true) := by unfold hardR; exact if_pos ⟨h, e⟩
theorem hardR_no {w d : Int} {l : List S30} (h : ¬ (puzzleB w d l = true ∧ (solA w d l (d ^ w.toNat).toNat).length = 1)) : hardR w d l = (0, 0, [], false) := by unfold hardR; exact if_neg h
theorem spec_HarderPuzzle.ev (w d : Int) (l : List S30) (hn : l.length ≤ 9223372036854775807) : Ev (fun k => spec_HarderPuzzle.f k w d l) (hardR w d l) := by
  unfold spec_HarderPuzzle.f
  refine Ev.bind (spec_pzGood.ev w d l hn) ?_
  cases h : puzzleB w d l with
  | true =>
    obtain ⟨h1, h2, h3⟩ := puzzleB_parts h
    refine Ev.yes rfl (Ev.bind (spec_pzSolved.ev h1 l h2 h3) (Ev.step (fun k => rfl) ?_))
    simp only [spec_HarderPuzzle.j0]
    by_cases e : (solA w d l (d ^ w.toNat).toNat).length = 1
    · rw [hardR_yes h e]
      refine Ev.no (by simp [e]) ?_
      simp only [Option.bind_some, List.nil_append]
      exact Ev.yes (by simp; omega) (spec_HarderPuzzle.lev h1 l l.length l 0 (by omega) h2 h3)
    · rw [hardR_no (fun hh => e hh.2)]
      exact Ev.yes (by simp; omega) (Ev.now _)
  | false =>
    rw [hardR_no (fun hh => by rw [h] at hh; cases hh.1)]
    refine Ev.no (by simp) (Ev.step (fun k => rfl) ?_)
    simp only [spec_HarderPuzzle.j0]
    exact Ev.yes trivial (Ev.now _)
theorem impl_IsSolved.evH (w d : Int) (l : List S30) : Ev (fun k => impl_IsSolved.f k w d l) (if puzzleB w d l = true then (((solA w d l (d ^ w.toNat).toNat).length : Int) == 1, true) else (false, false)) := by
  unfold impl_IsSolved.f
  refine Ev.bind (impl_Solutions.ev w d l) (Ev.id ?_)
  cases h : puzzleB w d l <;> simp
theorem impl_HarderPuzzle.ev (w d : Int) (l : List S30) : Ev (fun k => impl_HarderPuzzle.f k w d l) (hardR w d l) := by
  unfold impl_HarderPuzzle.f
  refine Ev.bind (impl_IsSolved.evH w d l) ?_
  cases h : puzzleB w d l with
  | true =>
    obtain ⟨h1, h2, h3⟩ := puzzleB_parts h
    by_cases e : (solA w d l (d ^ w.toNat).toNat).length = 1
    · rw [hardR_yes h e]
      refine Ev.yes (by simp [e]) (Ev.bindc (slices_Clone_impl_Clue_impl_Clue.is (by omega)) ?_)
      exact impl_HarderPuzzle.lev h1 l l.length l 0 (by omega) h2 h3
    · rw [hardR_no (fun hh => e hh.2)]
      exact Ev.no (by simp; omega) (Ev.now _)
  | false =>
    rw [hardR_no (fun hh => by rw [h] at hh; cases hh.1)]
    exact Ev.no (by simp) (Ev.now _)
theorem pure_FnExactHarderPuzzle (p : S43) (hp : V43 p) : ∃ k, laws_FnExactHarderPuzzle.f k p.f0.f0 p.f0.f1 p.f1 = some true := by
  refine Ev.rounds ?_
  obtain ⟨_, hn, _⟩ := hp
  unfold laws_FnExactHarderPuzzle.f
  refine Ev.bindc (laws_szPuzzle.is _ _ _ hn) ?_
  by_cases hl : (p.f1.length : Int) ≤ 1048576
  · rw [if_pos hl]
    have hto := laws_toPuzzle.ev p.f0.f0 p.f0.f1 p.f1 (by omega)
    have hlen := hardR_len p.f0.f0 p.f0.f1 (p.f1.map clueOf)
    have him := impl_HarderPuzzle.ev p.f0.f0 p.f0.f1 (p.f1.map clueOf)
    have heq := laws_eqPuzzle.ev (hardR p.f0.f0 p.f0.f1 (p.f1.map clueOf)).1 (hardR p.f0.f0 p.f0.f1 (p.f1.map clueOf)).2.1 (hardR p.f0.f0 p.f0.f1 (p.f1.map clueOf)).2.2.1 (by omega)
    have hpz := laws_eqPuzzle.ev p.f0.f0 p.f0.f1 (p.f1.map clueOf) (by simpa using hn)
    refine Ev.no (by omega) ?_
    refine Ev.bind hto (Ev.bind (spec_HarderPuzzle.ev _ _ _ (by simpa using hn)) (Ev.bind hto (Ev.bind him (Ev.bind heq (Ev.yes rfl ?_)))))
    refine Ev.step (fun k => rfl) ?_
    simp only [laws_FnExactHarderPuzzle.j0]
    refine Ev.no (by simp) (Ev.bind hto (Ev.bind hpz (Ev.yes rfl ?_)))
    obtain ⟨x', hx1, hx2⟩ := laws_markPuzzle.ev p.f0.f0 p.f0.f1 (p.f1.map clueOf) 1 (by omega) (by simp; omega)
    refine Ev.bind hx1 (Ev.no (by simp; omega) (Ev.bind heq (Ev.yes rfl ?_)))
    refine Ev.step (fun k => rfl) ?_
    simp only [laws_FnExactHarderPuzzle.j1]
    obtain ⟨g', hg1, hg2⟩ := laws_markPuzzle.ev (hardR p.f0.f0 p.f0.f1 (p.f1.map clueOf)).1 (hardR p.f0.f0 p.f0.f1 (p.f1.map clueOf)).2.1 (hardR p.f0.f0 p.f0.f1 (p.f1.map clueOf)).2.2.1 1 (by omega) (by omega)
    refine Ev.no (by simp) (Ev.bind hg1 (Ev.bind hg2 (Ev.no (by omega) (Ev.yes rfl ?_))))
    refine Ev.bind hto (Ev.bind him (Ev.bind heq (Ev.yes rfl ?_)))
    refine Ev.step (fun k => rfl) ?_
    simp only [laws_FnExactHarderPuzzle.j2]
    exact Ev.no (by simp) (Ev.bind hg2 (Ev.no (by omega) (Ev.yes rfl (Ev.now _))))
  · rw [if_neg hl]
    exact Ev.yes (by omega) (Ev.now _)
end Go.Proofs.Ytagiekcfnmhgjaa.P