import Derived.Test.YtcgpdnlpbmnblaaKFnExactDropKnobA0
import Derived.Lib.SliceRun
import Derived.Deep.RegionLaw
import Derived.Deep.RegionHeld3
import Derived.ProofKit
import Derived.Lib.SmallJoins
import Derived.Deep.Slices
namespace Go.Proofs.Ytcgpdnlpbmnblaa.P
open Go.RowKit Go.Proofs.YtcgpdnlpbmnblaaW.PrintWords Go.Proofs.YtcgpdnlpbmnblaaW.PrintLast Go.Proofs.YtcgpdnlpbmnblaaW.PrintMore
attribute [local go_sem] max2_int min2_int max_two min_two max_three min_three max_four min_four
set_option linter.unusedVariables false
set_option linter.unusedSimpArgs false
/-! ### spec_joWithout: function 20 -/
def spec_joWithout.l0 : Nat → Int → List (List Int) → Int → Int → Int → Int → List (List Int) → Option (Int × Int × (List (List Int)))
  | 0, _, _, _, _, _, _, _ => none
  | k + 1, x1, x12, x13, x14, x128000, x128001, x128002 => if x14 < x13 then (if 0 ≤ x14 then (if x14 < (x12.length : Int) then (if x14 = x1 then (spec_joWithout.l0 k x1 x12 x13 (wrap64 (x14 + 1)) x128000 x128001 x128002) else ((spec_l1Own.f (rd_L2 x12 x14)).bind fun t129 => (if x128002.length < 5864062014805 then (spec_joWithout.l0 k x1 x12 x13 (wrap64 (x14 + 1)) x128000 x128001 (x128002 ++ [t129])) else (none)))) else (none)) else (none)) else (some (x128000, x128001, x128002))
def spec_joWithout.f (k : Nat) (a0_0 : Int) (a0_1 : Int) (l0_2 : List (List Int)) (a1 : Int) : Option (Int × Int × (List (List Int))) := spec_joWithout.l0 k a1 l0_2 (l0_2.length : Int) 0 a0_0 a0_1 ([] : List (List Int))
def spec_joWithout.T6 : Bool × List (List Nat × List Nat) := (true, [([], []), ([0], [0]), ([], []), ([2], [2]), ([3], [3]), ([1, 4, 3], [1, 4]), ([0, 1, 2, 3, 4, 5], []), ([6, 5, 5, 0, 1, 2, 3, 4, 5], [5, 6])])
def spec_joWithout.B6 : List Nat := [0, 1, 0, 4, 12, 31, 63, 127]
theorem spec_joWithout.tab6 : rtab .any (opsOf Try.f20 6) = spec_joWithout.T6 := by kernel_rfl
theorem spec_joWithout.bits6 : waitsOk spec_joWithout.T6.2 spec_joWithout.B6 = true := by kernel_rfl
set_option maxHeartbeats 8000000 in
set_option maxRecDepth 100000 in
theorem spec_joWithout.calls (k : Nat) (a0_0 : Int) (a0_1 : Int) (A0_2 : Option Addr) (c0_2 : Nat) (l0_2 : List (List Int)) (a1 : Int) (r1 : Int) (r2 : Int) (r3 : List (List Int)) (w : World) (hr0_2 : Kd.C (Kd.slice 3 (Kd.int .i64)) w A0_2 l0_2.length l0_2) (hc0_2 : l0_2.length ≤ c0_2) (h : spec_joWithout.f k a0_0 a0_1 l0_2 a1 = some (r1, r2, r3)) :
    Calls Try.prog 20 #[.agg #[.int .i64 a0_0, .int .i64 a0_1, .slice A0_2 l0_2.length c0_2], .int .i64 a1] w fun e w' => ∃ v2_ : Value, e = .returned (.agg #[.int .i64 r1, .int .i64 r2, v2_]) ∧ Kd.S (Kd.slice 3 (Kd.int .i64)) 27 w' w.heap.size (fun _ => True) v2_ r3 ∧ Below w.heap.size w w' := by
  have hu31 := Try.underlying31
  have hu29 := Try.underlying29
  have HR0_2 := amk hr0_2
  have HC0_2 := amk hc0_2
  clear hr0_2 hc0_2
  have HB := amk (Below.refl w.heap.size w)
  have H : (spec_joWithout.l0 k a1 l0_2 (l0_2.length : Int) 0 a0_0 a0_1 ([] : List (List Int))) = some (r1, r2, r3) := h
  clear h
  have H' := amk H
  clear H
  go_enter Try.func20, Try.ntmps20
  go_wp2_with (first | ((with_reducible refine gate_dst (N := 2) rfl ?_); refine box_event ?hg (N := 2) ?hd (cs := #[.int .i64 a0_0, .int .i64 a0_1, .slice A0_2 l0_2.length c0_2]) (t := 31) ?hr ?_; (case hd => rfl); (case hg => rfl); (case hr => first | (go_simp; done) | (go_simp; rfl)); intro gb125 hg w3 hbox hb; have n0_ := amk (bp_ (by repeat (first | (with_reducible first | exact HB.out | apply ba_ | apply bn_ | apply bd_) | exact HB.out)) hb); have n1_ := amk (hbox); have n2_ := amk ((by rw [hg]; exact (below_size (by repeat (first | (with_reducible first | exact HB.out | apply ba_ | apply bn_ | apply bd_) | exact HB.out))) : w.heap.size ≤ gb125)); have n3_ := amk ((by rw [hg]; exact (below_size (by repeat (first | (with_reducible first | exact HB.out | apply ba_ | apply bn_ | apply bd_) | exact HB.out))) : w.heap.size ≤ gb125)); clear HB; have HB := n0_; have BK125 := n1_; have GW125 := n2_; have GE125 := n3_; clear n0_ n1_ n2_ n3_; clear hb hbox hg) | ((with_reducible refine gate_dst (N := 4) rfl ?_); refine box_event ?hg (N := 4) ?hd (cs := #[.int .i64 0, .int .i64 0, .slice none 0 0]) (t := 31) ?hr ?_; (case hd => rfl); (case hg => rfl); (case hr => first | (go_simp; done) | (go_simp; rfl)); intro gb126 hg w4 hbox hb; have n0_ := amk (blk_below (g := gb125) (o := .cells #[.int .i64 a0_0, .int .i64 a0_1, .slice A0_2 l0_2.length c0_2] 31 (0, 0)) (by (with_reducible repeat (first | refine kn_ ?_ _ | refine blk_drew ?_ | refine ka_ ?_ _)); exact BK125.out) hb); have n1_ := amk (bp_ (by repeat (first | (with_reducible first | exact HB.out | apply ba_ | apply bn_ | apply bd_ | refine bs_ ?_ GE125.out) | exact HB.out)) hb); have n2_ := amk (hbox); have n3_ := amk ((by rw [hg]; exact (below_size (by repeat (first | (with_reducible first | exact HB.out | apply ba_ | apply bn_ | apply bd_ | refine bs_ ?_ GE125.out) | exact HB.out))) : w.heap.size ≤ gb126)); have n4_ := amk ((by rw [hg]; exact (below_size (by repeat (first | (with_reducible first | exact HB.out | apply ba_ | apply bn_ | apply bd_ | refine bs_ ?_ GE125.out) | exact HB.out))) : w.heap.size ≤ gb126)); have n5_ := amk ((by rw [hg]; exact Nat.ne_of_lt (blk_lt (g := gb125) (o := .cells #[.int .i64 a0_0, .int .i64 a0_1, .slice A0_2 l0_2.length c0_2] 31 (0, 0)) (by (with_reducible repeat (first | refine kn_ ?_ _ | refine blk_drew ?_ | refine ka_ ?_ _)); exact BK125.out)) : gb125 ≠ gb126)); have n6_ := amk ((by rw [hg]; exact Nat.ne_of_gt (blk_lt (g := gb125) (o := .cells #[.int .i64 a0_0, .int .i64 a0_1, .slice A0_2 l0_2.length c0_2] 31 (0, 0)) (by (with_reducible repeat (first | refine kn_ ?_ _ | refine blk_drew ?_ | refine ka_ ?_ _)); exact BK125.out)) : gb126 ≠ gb125)); clear BK125; clear HB; have BK125 := n0_; have HB := n1_; have BK126 := n2_; have GW126 := n3_; have GE126 := n4_; have NB125_126 := n5_; have NB126_125 := n6_; clear n0_ n1_ n2_ n3_ n4_ n5_ n6_; clear hb hbox hg; have hnb5 := NB125_126.out; have hnc5 := NB126_125.out; have hcz6_0 : w4.cell? ⟨gb125, 0, none⟩ = some (.int .i64 a0_0) := (blk_cell BK125.out 0).trans rfl; have hcz6_1 : w4.cell? ⟨gb125, 1, none⟩ = some (.int .i64 a0_1) := (blk_cell BK125.out 1).trans rfl; have hcz6_2 : w4.cell? ⟨gb125, 2, none⟩ = some (.slice A0_2 l0_2.length c0_2) := (blk_cell BK125.out 2).trans rfl; have hfz6_0 := blk_frozen BK125.out 0; have hfz6_1 := blk_frozen BK125.out 1; have hfz6_2 := blk_frozen BK125.out 2) | ((with_reducible refine gate_dst (N := 5) rfl ?_); refine box_event ?hg (N := 5) ?hd (cs := #[.int .i64 0, .int .i64 0, .slice none 0 0]) (t := 31) ?hr ?_; (case hd => rfl); (case hg => rfl); (case hr => first | (go_simp; done) | (go_simp; rfl)); intro gb127 hg w7 hbox hb; have n0_ := amk (blk_below (g := gb125) (o := .cells #[.int .i64 a0_0, .int .i64 a0_1, .slice A0_2 l0_2.length c0_2] 31 (0, 0)) (by (with_reducible repeat (first | refine kn_ ?_ _ | refine blk_drew ?_ | refine ka_ ?_ _)); exact BK125.out) hb); have n1_ := amk (blk_below (g := gb126) (o := .cells #[.int .i64 0, .int .i64 0, .slice none 0 0] 31 (0, 0)) (by (with_reducible repeat (first | refine kn_ ?_ _ | refine blk_drew ?_ | refine ka_ ?_ _)); exact BK126.out) hb); have n2_ := amk (bp_ (by repeat (first | (with_reducible first | exact HB.out | apply ba_ | apply bn_ | apply bd_ | refine bs_ ?_ GE125.out | refine bs_ ?_ GE126.out) | exact HB.out)) hb); have n3_ := amk (hbox); have n4_ := amk ((by rw [hg]; exact (below_size (by repeat (first | (with_reducible first | exact HB.out | apply ba_ | apply bn_ | apply bd_ | refine bs_ ?_ GE125.out | refine bs_ ?_ GE126.out) | exact HB.out))) : w.heap.size ≤ gb127)); have n5_ := amk ((by rw [hg]; exact (below_size (by repeat (first | (with_reducible first | exact HB.out | apply ba_ | apply bn_ | apply bd_ | refine bs_ ?_ GE125.out | refine bs_ ?_ GE126.out) | exact HB.out))) : w.heap.size ≤ gb127)); have n6_ := amk ((by rw [hg]; exact Nat.ne_of_lt (blk_lt (g := gb125) (o := .cells #[.int .i64 a0_0, .int .i64 a0_1, .slice A0_2 l0_2.length c0_2] 31 (0, 0)) (by (with_reducible repeat (first | refine kn_ ?_ _ | refine blk_drew ?_ | refine ka_ ?_ _)); exact BK125.out)) : gb125 ≠ gb127)); have n7_ := amk ((by rw [hg]; exact Nat.ne_of_gt (blk_lt (g := gb125) (o := .cells #[.int .i64 a0_0, .int .i64 a0_1, .slice A0_2 l0_2.length c0_2] 31 (0, 0)) (by (with_reducible repeat (first | refine kn_ ?_ _ | refine blk_drew ?_ | refine ka_ ?_ _)); exact BK125.out)) : gb127 ≠ gb125)); have n8_ := amk ((by rw [hg]; exact Nat.ne_of_lt (blk_lt (g := gb126) (o := .cells #[.int .i64 0, .int .i64 0, .slice none 0 0] 31 (0, 0)) (by (with_reducible repeat (first | refine kn_ ?_ _ | refine blk_drew ?_ | refine ka_ ?_ _)); exact BK126.out)) : gb126 ≠ gb127)); have n9_ := amk ((by rw [hg]; exact Nat.ne_of_gt (blk_lt (g := gb126) (o := .cells #[.int .i64 0, .int .i64 0, .slice none 0 0] 31 (0, 0)) (by (with_reducible repeat (first | refine kn_ ?_ _ | refine blk_drew ?_ | refine ka_ ?_ _)); exact BK126.out)) : gb127 ≠ gb126)); clear BK125; clear BK126; clear HB; have BK125 := n0_; have BK126 := n1_; have HB := n2_; have BK127 := n3_; have GW127 := n4_; have GE127 := n5_; have NB125_127 := n6_; have NB127_125 := n7_; have NB126_127 := n8_; have NB127_126 := n9_; clear n0_ n1_ n2_ n3_ n4_ n5_ n6_ n7_ n8_ n9_; clear hb hbox hg; have hnb8 := NB127_125.out; have hnc8 := NB125_127.out; have hnb9 := NB127_126.out; have hnc9 := NB126_127.out; have hcz10_0 : w7.cell? ⟨gb127, 0, none⟩ = some (.int .i64 0) := (blk_cell BK127.out 0).trans rfl; have hcz10_1 : w7.cell? ⟨gb127, 1, none⟩ = some (.int .i64 0) := (blk_cell BK127.out 1).trans rfl; have hcz10_2 : w7.cell? ⟨gb127, 2, none⟩ = some (.slice none 0 0) := (blk_cell BK127.out 2).trans rfl; have hfz10_0 := blk_frozen BK127.out 0; have hfz10_1 := blk_frozen BK127.out 1; have hfz10_2 := blk_frozen BK127.out 2; have hcz11_0 : w7.cell? ⟨gb125, 0, none⟩ = some (.int .i64 a0_0) := (blk_cell BK125.out 0).trans rfl; have hcz11_1 : w7.cell? ⟨gb125, 1, none⟩ = some (.int .i64 a0_1) := (blk_cell BK125.out 1).trans rfl; have hcz11_2 : w7.cell? ⟨gb125, 2, none⟩ = some (.slice A0_2 l0_2.length c0_2) := (blk_cell BK125.out 2).trans rfl; have hfz11_0 := blk_frozen BK125.out 0; have hfz11_1 := blk_frozen BK125.out 1; have hfz11_2 := blk_frozen BK125.out 2))
  go_loopg [14] k (fun kq v14 w' => ∃ (x14_1 : Int) (x128002_1 : List (List Int)) (u128002 : Value), v14 = .int .i64 x14_1 ∧ Aside0 (spec_joWithout.l0 kq a1 l0_2 (l0_2.length : Int) x14_1 a0_0 a0_1 x128002_1 = some (r1, r2, r3)) ∧ Aside0 (kq ≤ k) ∧ Aside0 (Kd.S (Kd.slice 3 (Kd.int .i64)) 27 w' w.heap.size (fun _ => True) u128002 x128002_1) ∧ Aside0 (w'.heap[gb125]? = some (.cells #[.int .i64 a0_0, .int .i64 a0_1, (.slice A0_2 l0_2.length c0_2)] 31 (0, 0))) ∧ Aside0 (w'.heap[gb126]? = some (.cells #[.int .i64 0, .int .i64 0, (.slice none 0 0)] 31 (0, 0))) ∧ Aside0 (w'.heap[gb127]? = some (.cells #[.int .i64 a0_0, .int .i64 a0_1, u128002] 31 (0, 0))) ∧ Aside0 (Below w.heap.size w w'))
  case atStart => exact ⟨(0), (([] : List (List Int))), (.slice none 0 0), (by first | rfl | (simp; done) | (simp [*]; done)), H', ⟨Nat.le_refl _⟩, ⟨by first | exact Kd.S_nil _ _ _ _ _ | exact Kd.N_nil _ _ _ _ _ | exact Kd.V_nil _ _ _ _ _ | exact Kd.Q_nil _ _ _ _ _ | exact Kd.R_nil _ _ _ _ _⟩, ⟨by (with_reducible repeat (first | refine kn_ ?_ _ | refine blk_drew ?_ | refine ka_ ?_ _)); refine blk_far ?_ NB125_127.out _; (with_reducible repeat (first | refine kn_ ?_ _ | refine blk_drew ?_ | refine ka_ ?_ _)); refine blk_far ?_ NB125_127.out _; (with_reducible repeat (first | refine kn_ ?_ _ | refine blk_drew ?_ | refine ka_ ?_ _)); refine blk_far ?_ NB125_127.out _; (with_reducible repeat (first | refine kn_ ?_ _ | refine blk_drew ?_ | refine ka_ ?_ _)); exact BK125.out⟩, ⟨by (with_reducible repeat (first | refine kn_ ?_ _ | refine blk_drew ?_ | refine ka_ ?_ _)); refine blk_far ?_ NB126_127.out _; (with_reducible repeat (first | refine kn_ ?_ _ | refine blk_drew ?_ | refine ka_ ?_ _)); refine blk_far ?_ NB126_127.out _; (with_reducible repeat (first | refine kn_ ?_ _ | refine blk_drew ?_ | refine ka_ ?_ _)); refine blk_far ?_ NB126_127.out _; (with_reducible repeat (first | refine kn_ ?_ _ | refine blk_drew ?_ | refine ka_ ?_ _)); exact BK126.out⟩, ⟨by (with_reducible repeat (first | refine kn_ ?_ _ | refine blk_drew ?_ | refine ka_ ?_ _)); refine blk_put (cs := #[.int .i64 a0_0, .int .i64 a0_1, .slice none 0 0]) ?_ 2 _ rfl; (with_reducible repeat (first | refine kn_ ?_ _ | refine blk_drew ?_ | refine ka_ ?_ _)); refine blk_put (cs := #[.int .i64 a0_0, .int .i64 0, .slice none 0 0]) ?_ 1 _ rfl; (with_reducible repeat (first | refine kn_ ?_ _ | refine blk_drew ?_ | refine ka_ ?_ _)); refine blk_put (cs := #[.int .i64 0, .int .i64 0, .slice none 0 0]) ?_ 0 _ rfl; (with_reducible repeat (first | refine kn_ ?_ _ | refine blk_drew ?_ | refine ka_ ?_ _)); exact BK127.out⟩, ⟨by repeat (first | (with_reducible first | exact HB.out | apply ba_ | apply bn_ | apply bd_ | refine bs_ ?_ GE125.out | refine bs_ ?_ GE126.out | refine bs_ ?_ GE127.out) | exact HB.out)⟩⟩
  case round =>
    clear H'
    try clear c2; try clear p2; try clear c5; try clear c8; try clear c9; try clear hcz10_0; try clear hcz10_1; try clear hcz10_2; try clear hcz11_0; try clear hcz11_1; try clear hcz11_2; try clear hcz6_0; try clear hcz6_1; try clear hcz6_2; try clear hfz10_0; try clear hfz10_1; try clear hfz10_2; try clear hfz11_0; try clear hfz11_1; try clear hfz11_2; try clear hfz6_0; try clear hfz6_1; try clear hfz6_2
    obtain ⟨x14_1, x128002_1, u128002, rfl, HA, HK1, HO_128002, BK125, BK126, BK127, HB⟩ := hrel
    cases gk with
    | zero => exact absurd HA.out (by simp [spec_joWithout.l0])
    | succ k1 =>
      have H := HA.out
      clear HA
      simp only [spec_joWithout.l0] at H
      by_cases c12 : x14_1 < (l0_2.length : Int)
      · rw [if_pos c12] at H
        have c12b0 : decide (x14_1 < (l0_2.length : Int)) = true := decide_eq_true c12
        clear c12
        by_cases c13 : 0 ≤ x14_1
        · rw [if_pos c13] at H
          have c13b0 : decide (0 ≤ x14_1) = true := decide_eq_true c13
          clear c13
          by_cases c14 : x14_1 < (l0_2.length : Int)
          · rw [if_pos c14] at H
            have c14b0 : decide (x14_1 < (l0_2.length : Int)) = true := decide_eq_true c14
            clear c14
            by_cases c15 : x14_1 = a1
            · rw [if_pos c15] at H
              have c15b0 : (x14_1 == a1) = true := beq_iff_eq.mpr c15
              have c15b1 : (x14_1 != a1) = false := bne_eq_false_iff_eq.mpr c15
              clear c15
              have H' := amk H
              clear H
              have p128 : 0 ≤ (x14_1 : Int) := of_decide_eq_true (by first | (with_reducible assumption) | assumption)
              have q128 : x14_1 < (l0_2.length : Int) := of_decide_eq_true (by first | (with_reducible assumption) | assumption)
              obtain ⟨ad128, A128_0, c128_0, e128, hx128_0, hl128_0, hi128_0⟩ := at_L2 HR0_2.out x14_1 p128 q128
              cases e128
              replace hx128_0 := (HB.out.cell (World.block_lt_of_cell? w _ hx128_0)).trans hx128_0
              have HR128_0 := amk hi128_0
              have HC128_0 := amk hl128_0
              clear hi128_0 hl128_0
              replace p128 := eq_true p128
              replace q128 := eq_true q128
              go_wp2
              go_roundg k1
              case measure => have := HK1.out; omega
              case rel => exact ⟨(wrap64 (x14_1 + 1)), (x128002_1), (u128002), (by first | rfl | (simp; done) | (simp [*]; done)), H', ⟨by have := HK1.out; omega⟩, ⟨by (with_reducible repeat (first | apply Kd.S_alloc | apply Kd.S_drewN | apply Kd.S_drew)); exact HO_128002.out⟩, ⟨by (with_reducible repeat (first | refine kn_ ?_ _ | refine blk_drew ?_ | refine ka_ ?_ _)); exact BK125.out⟩, ⟨by (with_reducible repeat (first | refine kn_ ?_ _ | refine blk_drew ?_ | refine ka_ ?_ _)); exact BK126.out⟩, ⟨by (with_reducible repeat (first | refine kn_ ?_ _ | refine blk_drew ?_ | refine ka_ ?_ _)); exact BK127.out⟩, ⟨by repeat (first | (with_reducible first | exact HB.out | apply ba_ | apply bn_ | apply bd_ | refine bs_ ?_ GE125.out | refine bs_ ?_ GE126.out | refine bs_ ?_ GE127.out) | exact HB.out)⟩⟩
            · rw [if_neg c15] at H
              have c15b0 : (x14_1 == a1) = false := beq_eq_false_iff_ne.mpr c15
              have c15b1 : (x14_1 != a1) = true := bne_iff_ne.mpr c15
              replace H := Option.bind_eq_some_iff.mp H
              obtain ⟨t129, A160, H⟩ := H
              replace H : (if x128002_1.length < 5864062014805 then (spec_joWithout.l0 k1 a1 l0_2 (l0_2.length : Int) (wrap64 (x14_1 + 1)) a0_0 a0_1 (x128002_1 ++ [t129])) else (none)) = some (r1, r2, r3) := H
              have A16 := amk A160
              clear A160
              by_cases c17 : x128002_1.length < 5864062014805
              · rw [if_pos c17] at H
                have LMc17 := amk c17
                clear c17
                obtain ⟨y132, hy132⟩ : ∃ y_ : List (List Int), y_ = (x128002_1 ++ [t129]) := ⟨_, rfl⟩
                replace H : (spec_joWithout.l0 k1 a1 l0_2 (l0_2.length : Int) (wrap64 (x14_1 + 1)) a0_0 a0_1 y132) = some (r1, r2, r3) := by first | (rw [hy132]; with_reducible exact H) | (have H2_ := (Option.bind_some _ _).symm.trans H; rw [hy132]; with_reducible exact H2_) | (have H2_ := (Option.bind_some _ _).symm.trans H; with_reducible exact H2_) | with_reducible exact H | (rw [hy132]; exact H) | exact H
                have Ny132 := amk hy132
                clear hy132
                have H' := amk H
                clear H
                have p128 : 0 ≤ (x14_1 : Int) := of_decide_eq_true (by first | (with_reducible assumption) | assumption)
                have q128 : x14_1 < (l0_2.length : Int) := of_decide_eq_true (by first | (with_reducible assumption) | assumption)
                obtain ⟨ad128, A128_0, c128_0, e128, hx128_0, hl128_0, hi128_0⟩ := at_L2 HR0_2.out x14_1 p128 q128
                cases e128
                replace hx128_0 := (HB.out.cell (World.block_lt_of_cell? w _ hx128_0)).trans hx128_0
                have HR128_0 := amk hi128_0
                have HC128_0 := amk hl128_0
                clear hi128_0 hl128_0
                replace p128 := eq_true p128
                replace q128 := eq_true q128
                try go_wp2
                have n0_ := amk (Kd.S_drew HO_128002.out)
                have n1_ := amk (blk_drew BK125.out)
                have n2_ := amk (blk_drew BK126.out)
                have n3_ := amk (blk_drew BK127.out)
                have n4_ := amk (bd_ HB.out)
                clear HO_128002
                clear BK125
                clear BK126
                clear BK127
                clear HB
                have HO_128002 := n0_
                have BK125 := n1_
                have BK126 := n2_
                have BK127 := n3_
                have HB := n4_
                clear n0_ n1_ n2_ n3_ n4_
                refine start_ (n := 8) (S := fun w' => w'.cell? ⟨gb127, 0, none⟩ = some (.int .i64 a0_0) ∧ w'.cell? ⟨gb127, 1, none⟩ = some (.int .i64 a0_1) ∧ w'.cell? ⟨gb127, 2, none⟩ = some (u128002)) (ds := [7]) #[false, false, false, false, false, false, false, false] (by kernel_rfl) rfl rfl ⟨(blk_cell BK127.out 0).trans rfl, (blk_cell BK127.out 1).trans rfl, (blk_cell BK127.out 2).trans rfl⟩ (fun hHeld => ?_); refine with_tabW spec_joWithout.tab6 spec_joWithout.bits6 (fun HT_ HW_ => ?_)
                generalize wr.drew = w18 at HO_128002 BK125 BK126 BK127 HB hHeld ⊢
                refine pure_ (i := 0) (N := some 22) (v := ?_) (a' := ?_) #[true, false, false, false, false, false, false, false] rfl rfl (any_of HT_.out (by kernel_rfl)) (fun _ _ _ h => h) (Or.inl ⟨by rfl, ?_⟩) ?_ ?_
                rotate_left
                · intro w'
                  go_simp
                  with_reducible rfl
                rotate_left
                · simp only [Act.put, List.setIfInBounds_toArray, List.set_cons_zero, List.set_cons_succ, i64_w, i32_w]
                  rfl
                refine pure_ (i := 2) (N := some 24) (v := ?_) (a' := ?_) #[true, false, true, false, false, false, false, false] rfl rfl (any_of HT_.out (by kernel_rfl)) (fun _ _ _ h => h) (Or.inl ⟨by rfl, ?_⟩) ?_ ?_
                rotate_left
                · intro w'
                  go_simp
                  with_reducible rfl
                rotate_left
                · simp only [Act.put, List.setIfInBounds_toArray, List.set_cons_zero, List.set_cons_succ, i64_w, i32_w]
                  rfl
                refine take_ (i := 1) (N := some 23) (v := ?_) (a' := ?_) #[true, true, true, false, false, false, false, false] rfl rfl (take_ofW HT_.out HW_.out (by kernel_rfl)) (fun _ _ _ h => h) (Or.inl ⟨by rfl, ?_⟩) hHeld ?_ ?_
                rotate_left
                · rintro w' ⟨s0, s1, s2⟩
                  go_simp
                  with_reducible rfl
                rotate_left
                · simp only [Act.put, List.setIfInBounds_toArray, List.set_cons_zero, List.set_cons_succ, i64_w, i32_w]
                  rfl
                refine one_ (i := 3) (N := some 25) #[true, true, true, true, false, false, false, false] rfl rfl (one_of HT_.out (by kernel_rfl)) (by decide) (fun K hK => ?_)
                refine goes_ Try.func21 (by kernel_rfl) rfl #[.slice A128_0 (rd_L2 l0_2 x14_1).length c128_0] (by rfl) rfl rfl (by (try simp only [List.map_toArray, List.map_cons, List.map_nil]); first | done | rfl | (simp only [List.length_drop, List.length_take]; rfl)) ?_
                with_reducible refine (spec_l1Own.calls _ _ (rd_L2 l0_2 x14_1) t129 _ ?side1 ?side2 A16.out).mono ?_
                (case side1 => repeat (first | exact (Kd.C_below HR128_0.out HB.out) | (with_reducible refine Kd.C_alloc ?_ _) | (with_reducible refine Kd.C_drewN ?_ _) | (with_reducible refine Kd.C_drew ?_)))
                (case side2 => exact HC128_0.out)
                rintro e w19 ⟨v130, rfl, ho0, hb⟩
                refine ⟨_, rfl, ?_⟩
                have n0_ := amk (Kd.S_elder' (by (with_reducible repeat (first | apply Kd.S_alloc | apply Kd.S_drewN | apply Kd.S_drew)); exact HO_128002.out) (Kd.R_base ho0) hb)
                have n1_ := amk (Kd.R_lower ho0 (below_size (by repeat (first | (with_reducible first | exact HB.out | apply ba_ | apply bn_ | apply bd_ | refine bs_ ?_ GE125.out | refine bs_ ?_ GE126.out | refine bs_ ?_ GE127.out) | exact HB.out))))
                have n2_ := amk (blk_below (g := gb125) (o := .cells #[.int .i64 a0_0, .int .i64 a0_1, .slice (some ad128) l0_2.length c0_2] 31 (0, 0)) (by (with_reducible repeat (first | refine kn_ ?_ _ | refine blk_drew ?_ | refine ka_ ?_ _)); exact BK125.out) hb)
                have n3_ := amk (blk_below (g := gb126) (o := .cells #[.int .i64 0, .int .i64 0, .slice none 0 0] 31 (0, 0)) (by (with_reducible repeat (first | refine kn_ ?_ _ | refine blk_drew ?_ | refine ka_ ?_ _)); exact BK126.out) hb)
                have n4_ := amk (blk_below (g := gb127) (o := .cells #[.int .i64 a0_0, .int .i64 a0_1, u128002] 31 (0, 0)) (by (with_reducible repeat (first | refine kn_ ?_ _ | refine blk_drew ?_ | refine ka_ ?_ _)); exact BK127.out) hb)
                have n5_ := amk (bp_ (by repeat (first | (with_reducible first | exact HB.out | apply ba_ | apply bn_ | apply bd_ | refine bs_ ?_ GE125.out | refine bs_ ?_ GE126.out | refine bs_ ?_ GE127.out) | exact HB.out)) hb)
                clear HO_128002
                clear BK125
                clear BK126
                clear BK127
                clear HB
                have HO_128002 := n0_
                have HO131 := n1_
                have BK125 := n2_
                have BK126 := n3_
                have BK127 := n4_
                have HB := n5_
                clear n0_ n1_ n2_ n3_ n4_ n5_
                (try clear hb)
                (try clear hb2)
                (try clear hk)
                (try clear hi)
                (try clear ho0)
                obtain ⟨Ao21, co21, eo21⟩ := Kd.R_slice HO131.out
                (first | subst eo21 | (injection eo21 with f1_ f2_ f3_; have f4_ := f1_.symm; have f5_ := f3_.symm; clear f1_ f2_ f3_; subst f4_; subst f5_))
                refine hK.out _ _ ⟨(blk_cell BK127.out 0).trans rfl, (blk_cell BK127.out 1).trans rfl, (blk_cell BK127.out 2).trans rfl⟩ (fun hHeld => ?_)
                clear hK K
                refine norm_ (a' := ?_) ?_ ?_
                rotate_left
                · show Act.put _ (some 25) _ = _
                  simp only [Act.put, List.setIfInBounds_toArray, List.set_cons_zero, List.set_cons_succ, i64_w, i32_w]
                  rfl
                refine one_ (i := 4) (N := some 26) #[true, true, true, true, true, false, false, false] rfl rfl (one_of HT_.out (by kernel_rfl)) (by decide) (fun K hK => ?_)
                refine value_ (w1 := ?_) (v := ?_) (by rfl) rfl ?_ ?_
                rotate_left 2
                · go_simp
                  constructor
                  · rfl
                  · rfl
                refine hK.out _ _ ⟨(blk_cell (ka_ BK127.out _) 0).trans rfl, (blk_cell (ka_ BK127.out _) 1).trans rfl, (blk_cell (ka_ BK127.out _) 2).trans rfl⟩ (fun hHeld => ?_)
                clear hK K
                refine norm_ (a' := ?_) ?_ ?_
                rotate_left
                · show Act.put _ (some 26) _ = _
                  simp only [Act.put, List.setIfInBounds_toArray, List.set_cons_zero, List.set_cons_succ, i64_w, i32_w]
                  rfl
                refine one_ (i := 5) (N := some 27) #[true, true, true, true, true, true, false, false] rfl rfl (one_of HT_.out (by kernel_rfl)) (by decide) (fun K hK => ?_)
                refine Kd.S_append_step (Kd.slice 3 (Kd.int .i64)) (w0 := w) w.heap.size (by rfl) (.tmp 23) (.tmp 26) 24 27 (.slice none 0 0) 24 rfl Try.underlying24 info27 rfl (by decide) (by omega) u128002 x128002_1 t129 [.slice Ao21 t129.length co21] (fun _ => True) (fun k_ => some k_ = (.slice Ao21 t129.length co21 : Value).ownBlock) rfl rfl ?aP (fun k_ hk_ => ((Kd.R_mono (ok' := fun k_ => ((fun _ => True)) k_ ∧ some k_ ≠ (u128002 : Value).ownBlock) (Kd.R_apart' (HO131.out) (Kd.S_typed HO_128002.out) (by decide)) (fun k_ hk => ⟨trivial, hk.2⟩))).1 k_ hk_.symm) ?aF ?aO ?aB ?aS ?aL ?_
                (case aP => exact Kd.M_row (Kd.R_mono (Kd.R_tight rfl (Kd.R_mono (ok' := fun k_ => ((fun _ => True)) k_ ∧ some k_ ≠ (u128002 : Value).ownBlock) (Kd.R_apart' (HO131.out) (Kd.S_typed HO_128002.out) (by decide)) (fun k_ hk => ⟨trivial, hk.2⟩))) (fun _ h_ => h_)))
                (case aB => exact (by repeat (first | (with_reducible first | exact HB.out | apply ba_ | apply bn_ | apply bd_ | refine bs_ ?_ GE125.out | refine bs_ ?_ GE126.out | refine bs_ ?_ GE127.out) | exact HB.out)))
                (case aF => exact (fun _ _ => trivial))
                (case aO => exact (by (with_reducible repeat (first | apply Kd.S_alloc | apply Kd.S_drewN | apply Kd.S_drew)); exact Kd.S_mono HO_128002.out (fun k_ hk => ⟨trivial, fun e_ => hk.2 e_⟩)))
                (case aS => exact (below_size (by repeat (first | (with_reducible first | exact HB.out | apply ba_ | apply bn_ | apply bd_ | refine bs_ ?_ GE125.out | refine bs_ ?_ GE126.out | refine bs_ ?_ GE127.out) | exact HB.out))))
                (case aL => have := LMc17.out; omega)
                intro v133 w20 ho hb hg hat
                rw [← Ny132.out] at ho
                have n0_ := amk (blk_grown (g := gb125) (o := .cells #[.int .i64 a0_0, .int .i64 a0_1, .slice (some ad128) l0_2.length c0_2] 31 (0, 0)) (by (with_reducible repeat (first | refine kn_ ?_ _ | refine blk_drew ?_ | refine ka_ ?_ _)); exact BK125.out) hg (Kd.S_ne HO_128002.out BK125.out (by decide)))
                have n1_ := amk (blk_grown (g := gb126) (o := .cells #[.int .i64 0, .int .i64 0, .slice none 0 0] 31 (0, 0)) (by (with_reducible repeat (first | refine kn_ ?_ _ | refine blk_drew ?_ | refine ka_ ?_ _)); exact BK126.out) hg (Kd.S_ne HO_128002.out BK126.out (by decide)))
                have n2_ := amk (blk_grown (g := gb127) (o := .cells #[.int .i64 a0_0, .int .i64 a0_1, u128002] 31 (0, 0)) (by (with_reducible repeat (first | refine kn_ ?_ _ | refine blk_drew ?_ | refine ka_ ?_ _)); exact BK127.out) hg (Kd.S_ne HO_128002.out BK127.out (by decide)))
                have n3_ := amk (hb)
                have n4_ := amk (ho)
                clear BK125
                clear BK126
                clear BK127
                clear HB
                clear HO_128002
                clear HO131
                have BK125 := n0_
                have BK126 := n1_
                have BK127 := n2_
                have HB := n3_
                have HO134 := n4_
                clear n0_ n1_ n2_ n3_ n4_
                clear ho hb hg hat
                obtain ⟨Ao22, co22, eo22⟩ := Kd.S_slice HO134.out
                (first | subst eo22 | (injection eo22 with f1_ f2_ f3_; have f4_ := f1_.symm; have f5_ := f3_.symm; clear f1_ f2_ f3_; subst f4_; subst f5_))
                refine hK.out _ _ ⟨(blk_cell BK127.out 0).trans rfl, (blk_cell BK127.out 1).trans rfl, (blk_cell BK127.out 2).trans rfl⟩ (fun hHeld => ?_)
                clear hK K
                refine norm_ (a' := ?_) ?_ ?_
                rotate_left
                · show Act.put _ (some 27) _ = _
                  simp only [Act.put, List.setIfInBounds_toArray, List.set_cons_zero, List.set_cons_succ, i64_w, i32_w]
                  rfl
                refine pure_ (i := 6) (N := some 28) (v := ?_) (a' := ?_) #[true, true, true, true, true, true, true, false] rfl rfl (any_of HT_.out (by kernel_rfl)) (fun _ _ _ h => h) (Or.inl ⟨by rfl, ?_⟩) ?_ ?_
                rotate_left
                · intro w'
                  go_simp
                  with_reducible rfl
                rotate_left
                · simp only [Act.put, List.setIfInBounds_toArray, List.set_cons_zero, List.set_cons_succ, i64_w, i32_w]
                  rfl
                refine last_ (i := 7) (N := none) #[true, true, true, true, true, true, true, true] rfl rfl (one_of HT_.out (by kernel_rfl)) (by decide) (fun K hK => ?_)
                have hs23 : w20.cell? ⟨gb127, 2, none⟩ = some (u128002) := (blk_cell BK127.out 2).trans rfl
                have hfs23 := blk_frozen BK127.out 2
                have hns23_0 := NB125_127.out
                have hns23_1 := NB126_127.out
                have hms23_0 := NB127_125.out
                have hms23_1 := NB127_126.out
                refine skip_ (w1 := ?_) (by rfl) rfl ?_ ?_
                rotate_left
                · go_simp
                  rfl
                refine hK.out _ _ ?_
                clear hK K
                refine done_ (done_of HT_.out (by kernel_rfl)) ?_
                try go_wp2
                go_roundg k1
                case measure => have := HK1.out; omega
                case rel => exact ⟨(wrap64 (x14_1 + 1)), (y132), (.slice Ao22 y132.length co22), (by first | rfl | (simp; done) | (simp [*]; done)), H', ⟨by have := HK1.out; omega⟩, ⟨by (with_reducible repeat (first | apply Kd.S_alloc | apply Kd.S_drewN | apply Kd.S_drew)); exact Kd.S_mono (Kd.S_far (p := ⟨gb127, 2, none⟩) (Kd.S_types HO134.out BK127.out (by decide)) (fun _ hk => hk.2) (.slice Ao22 y132.length co22)) (fun _ hk => trivial)⟩, ⟨by (with_reducible repeat (first | refine kn_ ?_ _ | refine blk_drew ?_ | refine ka_ ?_ _)); refine blk_far ?_ NB125_127.out _; (with_reducible repeat (first | refine kn_ ?_ _ | refine blk_drew ?_ | refine ka_ ?_ _)); exact BK125.out⟩, ⟨by (with_reducible repeat (first | refine kn_ ?_ _ | refine blk_drew ?_ | refine ka_ ?_ _)); refine blk_far ?_ NB126_127.out _; (with_reducible repeat (first | refine kn_ ?_ _ | refine blk_drew ?_ | refine ka_ ?_ _)); exact BK126.out⟩, ⟨by (with_reducible repeat (first | refine kn_ ?_ _ | refine blk_drew ?_ | refine ka_ ?_ _)); refine blk_put (cs := #[.int .i64 a0_0, .int .i64 a0_1, u128002]) ?_ 2 _ rfl; (with_reducible repeat (first | refine kn_ ?_ _ | refine blk_drew ?_ | refine ka_ ?_ _)); exact BK127.out⟩, ⟨by repeat (first | (with_reducible first | exact HB.out | apply ba_ | apply bn_ | apply bd_ | refine bs_ ?_ GE125.out | refine bs_ ?_ GE126.out | refine bs_ ?_ GE127.out) | exact HB.out)⟩⟩
              · rw [if_neg c17] at H
                exact absurd H (by simp)
          · rw [if_neg c14] at H
            exact absurd H (by simp)
        · rw [if_neg c13] at H
          exact absurd H (by simp)
      · rw [if_neg c12] at H
        have c12b0 : decide (x14_1 < (l0_2.length : Int)) = false := decide_eq_false c12
        clear c12
        simp only [Option.some.injEq, Prod.mk.injEq] at H
        obtain ⟨rfl, rfl, rfl⟩ := H
        have hnb24 := NB127_125.out
        have hnc24 := NB125_127.out
        have hnb25 := NB127_126.out
        have hnc25 := NB126_127.out
        have hcz26_0 : wr.cell? ⟨gb127, 0, none⟩ = some (.int .i64 a0_0) := (blk_cell BK127.out 0).trans rfl
        have hcz26_1 : wr.cell? ⟨gb127, 1, none⟩ = some (.int .i64 a0_1) := (blk_cell BK127.out 1).trans rfl
        have hcz26_2 : wr.cell? ⟨gb127, 2, none⟩ = some (u128002) := (blk_cell BK127.out 2).trans rfl
        have hfz26_0 := blk_frozen BK127.out 0
        have hfz26_1 := blk_frozen BK127.out 1
        have hfz26_2 := blk_frozen BK127.out 2
        have hnb27 := NB126_125.out
        have hnc27 := NB125_126.out
        have hcz28_0 : wr.cell? ⟨gb126, 0, none⟩ = some (.int .i64 0) := (blk_cell BK126.out 0).trans rfl
        have hcz28_1 : wr.cell? ⟨gb126, 1, none⟩ = some (.int .i64 0) := (blk_cell BK126.out 1).trans rfl
        have hcz28_2 : wr.cell? ⟨gb126, 2, none⟩ = some (.slice none 0 0) := (blk_cell BK126.out 2).trans rfl
        have hfz28_0 := blk_frozen BK126.out 0
        have hfz28_1 := blk_frozen BK126.out 1
        have hfz28_2 := blk_frozen BK126.out 2
        obtain ⟨Ao29, co29, eo29⟩ := Kd.S_slice HO_128002.out
        subst eo29
        go_wp2
        refine bodyPost_ret (results_cell_row rfl _ _ gb126 31 #[.int .i64 a0_0, .int .i64 a0_1, .slice Ao29 x128002_1.length co29] (0, 0) _ rfl (by (with_reducible repeat (first | refine kn_ ?_ _ | refine blk_drew ?_ | refine ka_ ?_ _)); refine blk_put (cs := #[.int .i64 a0_0, .int .i64 a0_1, .slice none 0 0]) ?_ 2 _ rfl; (with_reducible repeat (first | refine kn_ ?_ _ | refine blk_drew ?_ | refine ka_ ?_ _)); refine blk_put (cs := #[.int .i64 a0_0, .int .i64 0, .slice none 0 0]) ?_ 1 _ rfl; (with_reducible repeat (first | refine kn_ ?_ _ | refine blk_drew ?_ | refine ka_ ?_ _)); refine blk_put (cs := #[.int .i64 0, .int .i64 0, .slice none 0 0]) ?_ 0 _ rfl; (with_reducible repeat (first | refine kn_ ?_ _ | refine blk_drew ?_ | refine ka_ ?_ _)); exact BK126.out) Try.underlying31 rfl (by kernel_rfl)) rfl ?_
        exact ⟨_, by first | rfl | (simp [errW_none, errW_some] <;> rfl) | (simp [*, errW_none, errW_some] <;> rfl), by (with_reducible repeat (first | apply Kd.S_alloc | apply Kd.S_drewN | apply Kd.S_drew)); exact Kd.S_mono (Kd.S_far (p := ⟨gb126, 2, none⟩) (Kd.S_far (p := ⟨gb126, 1, none⟩) (Kd.S_far (p := ⟨gb126, 0, none⟩) (Kd.S_types HO_128002.out BK126.out (by decide)) (fun _ hk => hk.2) (.int .i64 a0_0)) (fun _ hk => hk.2) (.int .i64 a0_1)) (fun _ hk => hk.2) (.slice Ao29 x128002_1.length co29)) (fun _ hk => trivial), by repeat (first | (with_reducible first | exact HB.out | apply ba_ | apply bn_ | apply bd_ | refine bs_ ?_ GE125.out | refine bs_ ?_ GE126.out | refine bs_ ?_ GE127.out) | exact HB.out)⟩
/-! spec.DropKnob, by hand. -/
def spec_DropKnob.f (k : Nat) (n d : Int) (L : List (List Int)) (q : Int) : Option (Int × Int × List (List Int) × Bool) :=
  (spec_joGood.f k n d L).bind fun t => if t = true then (spec_l1In.f q 0 (wrap64 ((L.length : Int) - 1))).bind fun b => if b = true then (if L.length = 1 then some (0, 0, [], false) else (spec_joWithout.f k n d L q).bind fun r => some (r.1, r.2.1, r.2.2, true)) else some (0, 0, [], false) else some (0, 0, [], false)
theorem three_cellsD {w : World} {g t : Nat} {a b c : Value} (h : w.heap[g]? = some (.cells #[a, b, c] t (0, 0))) : w.cell? ⟨g, 0, none⟩ = some a ∧ w.cell? ⟨g, 1, none⟩ = some b ∧ w.cell? ⟨g, 2, none⟩ = some c ∧ w.frozen? ⟨g, 0, none⟩ = false ∧ w.frozen? ⟨g, 1, none⟩ = false ∧ w.frozen? ⟨g, 2, none⟩ = false ∧ g < w.heap.size := ⟨by simp [World.cell?, h], by simp [World.cell?, h], by simp [World.cell?, h], by simp [World.frozen?, h], by simp [World.frozen?, h], by simp [World.frozen?, h], (Array.getElem?_eq_some_iff.mp h).1⟩
theorem three_set {w : World} {g t : Nat} {a b c : Value} (h : w.heap[g]? = some (.cells #[a, b, c] t (0, 0))) (x y z : Value) : (((w.setCell ⟨g, 0, none⟩ x).setCell ⟨g, 1, none⟩ y).setCell ⟨g, 2, none⟩ z).heap[g]? = some (.cells #[x, y, z] t (0, 0)) := by
  have h1 := heap_setCell_same w g 0 #[a, b, c] t x h
  have h2 := heap_setCell_same (w.setCell ⟨g, 0, none⟩ x) g 1 _ t y h1
  have h3 := heap_setCell_same ((w.setCell ⟨g, 0, none⟩ x).setCell ⟨g, 1, none⟩ y) g 2 _ t z h2
  rw [h3]
  rfl
def GP (w : World) (n d : Int) (A : Option Addr) (m c : Nat) (W : World) : Prop := Below w.heap.size w W ∧ W.heap[w.heap.size]? = some (.cells #[.int .i64 n, .int .i64 d, .slice A m c] 31 (0, 0)) ∧ W.heap[w.heap.size + 1]? = some (.cells #[.int .i64 0, .int .i64 0, .slice none 0 0] 31 (0, 0))
theorem GP_below {w W W2 : World} {n d : Int} {A : Option Addr} {m c : Nat} (h : GP w n d A m c W) (hb : Below W.heap.size W W2) : GP w n d A m c W2 := ⟨h.1.trans (hb.mono h.1.size), (hb.block _ (three_cellsD h.2.1).2.2.2.2.2.2).trans h.2.1, (hb.block _ (three_cellsD h.2.2).2.2.2.2.2.2).trans h.2.2⟩
theorem GP_new (w : World) (n d : Int) (A : Option Addr) (m c : Nat) : GP w n d A m c ((w.alloc (.cells #[.int .i64 n, .int .i64 d, .slice A m c] 31 (0, 0))).alloc (.cells #[.int .i64 0, .int .i64 0, .slice none 0 0] 31 (0, 0))) := ⟨((Below.refl w.heap.size w).alloc (Nat.le_refl _) _).alloc (by simp) _, (((Below.refl _ _).alloc (Nat.le_refl _) _).block _ (by simp)).trans (blk_new _ _), by simpa using blk_new (w.alloc (.cells #[.int .i64 n, .int .i64 d, .slice A m c] 31 (0, 0))) (.cells #[.int .i64 0, .int .i64 0, .slice none 0 0] 31 (0, 0))⟩
theorem GP_done {w W : World} {n d : Int} {A : Option Addr} {m c : Nat} (h : GP w n d A m c W) (x y z : Value) : Below w.heap.size w (((W.setCell ⟨w.heap.size + 1, 0, none⟩ x).setCell ⟨w.heap.size + 1, 1, none⟩ y).setCell ⟨w.heap.size + 1, 2, none⟩ z) :=
  ((h.1.setCell (p := ⟨w.heap.size + 1, 0, none⟩) (by show w.heap.size ≤ w.heap.size + 1; omega) _).setCell (p := ⟨w.heap.size + 1, 1, none⟩) (by show w.heap.size ≤ w.heap.size + 1; omega) _).setCell (p := ⟨w.heap.size + 1, 2, none⟩) (by show w.heap.size ≤ w.heap.size + 1; omega) _
set_option maxHeartbeats 4000000 in
set_option maxRecDepth 100000 in
theorem spec_DropKnob.calls (k : Nat) (n d : Int) (A : Option Addr) (c : Nat) (L : List (List Int)) (q : Int) (r1 r2 : Int) (r3 : List (List Int)) (r4 : Bool) (w : World) (h0 : Kd.C (Kd.slice 3 (Kd.int .i64)) w A L.length L) (i0 : L.length ≤ c) (h : spec_DropKnob.f k n d L q = some (r1, r2, r3, r4)) :
    Calls Try.prog 15 #[.agg #[.int .i64 n, .int .i64 d, .slice A L.length c], .int .i64 q] w fun e w' => ∃ v2_ : Value, e = .returned (.tuple #[.agg #[.int .i64 r1, .int .i64 r2, v2_], .bool r4]) ∧ Kd.S (Kd.slice 3 (Kd.int .i64)) 27 w' w.heap.size (fun _ => True) v2_ r3 ∧ Below w.heap.size w w' := by
  have hu31 := Try.underlying31
  have hu24 := Try.underlying24
  unfold spec_DropKnob.f at h
  obtain ⟨t, ht, h⟩ := Option.bind_eq_some_iff.mp h
  have HT := amk ht
  have H0 := amk h0
  have I0 := amk i0
  have G2 := amk (GP_new w n d A L.length c)
  have hbig := h0.2.1
  have hty : ∀ q, q ∈ 27 :: (Kd.slice 3 (Kd.int .i64)).E → q ≠ 31 := by intro q hq; simp [Kd.slice, Kd.int, Kd.scalar] at hq; omega
  have HTY := amk hty
  clear ht i0 hty h0
  cases t with
  | false =>
    simp only [Bool.false_eq_true, if_false, Option.some.injEq, Prod.mk.injEq] at h
    obtain ⟨rfl, rfl, rfl, rfl⟩ := h
    go_enter Try.func15, Try.ntmps15
    go_wp2_with (go_at_call 18; refine Calls.mono (spec_joGood.calls k _ _ _ _ _ _ _ (Kd.C_below H0.out G2.out.1) I0.out HT.out) ?_; rintro e w3 ⟨rfl, hb⟩; have G3 := amk (GP_below G2.out hb); obtain ⟨hp0, hp1, hp2, hp3, hp4, hp5, _⟩ := three_cellsD G3.out.2.2; clear hb)
    (try simp only [Exit.inBlock, Exit.then])
    refine bodyPost_ret (results_ct rfl _ _ (w.heap.size + 1) 31 #[.int .i64 0, .int .i64 0, .slice none 0 0] (0, 0) _ rfl (three_set G3.out.2.2 _ _ _) Try.underlying31 rfl (by kernel_rfl)) rfl ?_
    exact ⟨_, rfl, Kd.S_nil _ _ _ _ _, GP_done G3.out _ _ _⟩
  | true =>
    rw [if_pos rfl] at h
    obtain ⟨b, hb, h⟩ := Option.bind_eq_some_iff.mp h
    have HIN := amk hb
    have HIN2 := amk (show spec_l1In.f q 0 ((L.length : Int) - 1) = some b by rw [← w64 (x := (L.length : Int) - 1) (by omega) (by omega)]; exact hb)
    clear hb
    cases b with
    | false =>
      simp only [Bool.false_eq_true, if_false, Option.some.injEq, Prod.mk.injEq] at h
      obtain ⟨rfl, rfl, rfl, rfl⟩ := h
      go_enter Try.func15, Try.ntmps15
      go_wp2_with (first | (go_at_call 18; refine Calls.mono (spec_joGood.calls k _ _ _ _ _ _ _ (Kd.C_below H0.out G2.out.1) I0.out HT.out) ?_; rintro e w3 ⟨rfl, hb⟩; have G3 := amk (GP_below G2.out hb); obtain ⟨hq0, hq1, hq2, _, _, _, _⟩ := three_cellsD G3.out.2.1; clear hb) | (go_at_call 31; refine Calls.mono (spec_l1In.calls _ _ _ _ _ (by first | exact HIN.out | exact HIN2.out)) ?_; rintro e w4 ⟨rfl, hb⟩; have G4 := amk (GP_below G3.out hb.below); clear hq0 hq1 hq2; obtain ⟨hp0, hp1, hp2, hp3, hp4, hp5, _⟩ := three_cellsD G4.out.2.2; clear hb))
      (try simp only [Exit.inBlock, Exit.then])
      refine bodyPost_ret (results_ct rfl _ _ (w.heap.size + 1) 31 #[.int .i64 0, .int .i64 0, .slice none 0 0] (0, 0) _ rfl (three_set G4.out.2.2 _ _ _) Try.underlying31 rfl (by kernel_rfl)) rfl ?_
      exact ⟨_, rfl, Kd.S_nil _ _ _ _ _, GP_done G4.out _ _ _⟩
    | true =>
      rw [if_pos rfl] at h
      by_cases p1 : L.length = 1
      · rw [if_pos p1] at h
        simp only [Option.some.injEq, Prod.mk.injEq] at h
        obtain ⟨rfl, rfl, rfl, rfl⟩ := h
        have hd1 : ((L.length : Int) == 1) = true := beq_iff_eq.mpr (by omega)
        have hd2 : decide ((L.length : Int) = 1) = true := decide_eq_true (by omega)
        clear p1
        go_enter Try.func15, Try.ntmps15
        go_wp2_with (first | (go_at_call 18; refine Calls.mono (spec_joGood.calls k _ _ _ _ _ _ _ (Kd.C_below H0.out G2.out.1) I0.out HT.out) ?_; rintro e w3 ⟨rfl, hb⟩; have G3 := amk (GP_below G2.out hb); obtain ⟨hq0, hq1, hq2, _, _, _, _⟩ := three_cellsD G3.out.2.1; clear hb) | (go_at_call 31; refine Calls.mono (spec_l1In.calls _ _ _ _ _ (by first | exact HIN.out | exact HIN2.out)) ?_; rintro e w4 ⟨rfl, hb⟩; have G4 := amk (GP_below G3.out hb.below); clear hq0 hq1 hq2; obtain ⟨hq0, hq1, hq2, _, _, _, _⟩ := three_cellsD G4.out.2.1; obtain ⟨hp0, hp1, hp2, hp3, hp4, hp5, _⟩ := three_cellsD G4.out.2.2; clear hb))
        (try simp only [Exit.inBlock, Exit.then])
        refine bodyPost_ret (results_ct rfl _ _ (w.heap.size + 1) 31 #[.int .i64 0, .int .i64 0, .slice none 0 0] (0, 0) _ rfl (three_set G4.out.2.2 _ _ _) Try.underlying31 rfl (by kernel_rfl)) rfl ?_
        exact ⟨_, rfl, Kd.S_nil _ _ _ _ _, GP_done G4.out _ _ _⟩
      · rw [if_neg p1] at h
        obtain ⟨⟨u1, u2, u3⟩, hu, h⟩ := Option.bind_eq_some_iff.mp h
        simp only [Option.some.injEq, Prod.mk.injEq] at h
        obtain ⟨rfl, rfl, rfl, rfl⟩ := h
        have HU := amk hu
        clear hu
        have hd1 : ((L.length : Int) == 1) = false := beq_eq_false_iff_ne.mpr (by omega)
        have hd2 : decide ((L.length : Int) = 1) = false := decide_eq_false (by omega)
        go_enter Try.func15, Try.ntmps15
        go_wp2_with (first | (go_at_call 18; refine Calls.mono (spec_joGood.calls k _ _ _ _ _ _ _ (Kd.C_below H0.out G2.out.1) I0.out HT.out) ?_; rintro e w3 ⟨rfl, hb⟩; have G3 := amk (GP_below G2.out hb); obtain ⟨hq0, hq1, hq2, _, _, _, _⟩ := three_cellsD G3.out.2.1; clear hb) | (go_at_call 31; refine Calls.mono (spec_l1In.calls _ _ _ _ _ (by first | exact HIN.out | exact HIN2.out)) ?_; rintro e w4 ⟨rfl, hb⟩; have G4 := amk (GP_below G3.out hb.below); clear hq0 hq1 hq2; obtain ⟨hq0, hq1, hq2, _, _, _, _⟩ := three_cellsD G4.out.2.1; clear hb) | (go_at_call 20; refine Calls.mono (spec_joWithout.calls k n d _ _ L q u1 u2 u3 _ (Kd.C_below H0.out G4.out.1) I0.out HU.out) ?_; rintro e w5 ⟨v5, rfl, hs, hb⟩; obtain ⟨A5, c5, rfl⟩ := Kd.S_slice hs; have G5 := amk (GP_below G4.out hb); have S5 := amk (Kd.S_lower hs G4.out.1.size); clear hq0 hq1 hq2; obtain ⟨hp0, hp1, hp2, hp3, hp4, hp5, _⟩ := three_cellsD G5.out.2.2; clear hs hb))
        (try simp only [Exit.inBlock, Exit.then])
        refine bodyPost_ret (results_ct rfl _ _ (w.heap.size + 1) 31 #[.int .i64 u1, .int .i64 u2, .slice A5 u3.length c5] (0, 0) _ rfl (three_set G5.out.2.2 _ _ _) Try.underlying31 rfl (by kernel_rfl)) rfl ?_
        refine ⟨_, rfl, Kd.S_set (Kd.S_set (Kd.S_set S5.out G5.out.2.2 HTY.out 0 _) (heap_setCell_same _ _ 0 _ _ _ G5.out.2.2) HTY.out 1 _) (heap_setCell_same _ _ 1 _ _ _ (heap_setCell_same _ _ 0 _ _ _ G5.out.2.2)) HTY.out 2 _, GP_done G5.out _ _ _⟩
/-! slices.Clone at []int, by hand: a row of its own with the same elements. -/
def slices_Clone_int_int.f (l : List Int) : Option (List Int) := if l.length < 17592186044416 then some l else none
set_option maxHeartbeats 2000000 in
set_option maxRecDepth 100000 in
theorem slices_Clone_int_int.calls (A0 : Option Addr) (c0 : Nat) (l0 : List Int) (r : List Int) (w : World) (hr0 : Kd.C (Kd.int .i64) w A0 l0.length l0) (hc0 : l0.length ≤ c0) (h : slices_Clone_int_int.f l0 = some r) :
    Calls Try.prog 26 #[.slice A0 l0.length c0] w fun e w' => ∃ v0_ : Value, e = .returned v0_ ∧ Kd.R (Kd.int .i64) 3 w' w.heap.size (fun _ => True) v0_ r ∧ Below w.heap.size w w' := by
  unfold slices_Clone_int_int.f at h
  by_cases hl : l0.length < 17592186044416
  · rw [if_pos hl] at h
    obtain rfl := Option.some.inj h
    clear h
    have hinfo : (Try.prog.info? 3).map (fun i => (i.zero, i.size, i.bytes)) = some (some (.int .i64 0), 1, 8) := by kernel_rfl
    have HI := amk hinfo
    clear hinfo
    have HR := amk hr0
    have HL := amk hl
    clear hl
    cases A0 with
    | none =>
      have hz : l0 = [] := by
        rcases Nat.eq_zero_or_pos l0.length with h0 | h0
        · exact List.length_eq_zero_iff.1 h0
        · obtain ⟨ad, e, _⟩ := HR.out.2.2 h0
          cases e
      have HZ := amk hz
      clear hz hr0
      have hnil := fun (w : World) (n c : Nat) => Lib.run_eql_slice_nil (P := Try.prog) w 27 3 none n c 0 0 Try.underlying27
      generalize l0.length = n at *
      go_enter Try.func26, Try.ntmps26
      go_wp2
      go_ret
      refine ⟨.slice none 0 0, rfl, ?_, Below.refl _ _⟩
      rw [HZ.out]
      exact Kd.R_nil _ _ _ _ _
    | some ad =>
      clear hr0
      have hnil := fun (w : World) (n c : Nat) => Lib.run_eql_slice_nil (P := Try.prog) w 27 3 (some ad) n c 0 0 Try.underlying27
      have hu := Try.underlying27
      go_enter Try.func26, Try.ntmps26
      go_wp2_with (first | ((with_reducible refine gate_dst (N := 5) rfl ?_); refine Kd.R_lit (Kd.int .i64) (w0 := w) w.heap.size 3 ?hg (N := 5) ?hd (xs := ([] : List Int)) (inner := []) (ok := fun _ => True) (okp := fun _ => True) ?hr ?hp (fun _ hk => hk) trivial (Below.refl _ _) (Nat.le_refl _) (by simp) ?_; (case hd => rfl); (case hg => rfl); (case hr => first | (go_simp; done) | (go_simp; rfl)); (case hp => exact (Reps.none _ _)); intro v1 w1 ho hb hg_ hnew_; have HO := amk ho; have HB := amk hb; clear ho hb hg_ hnew_) | ((with_reducible refine gate_dst (N := 7) rfl ?_); refine Kd.R_append_rows (Kd.int .i64) (w0 := w) w.heap.size (by rfl) (.tmp 5) (.tmp 6) 27 3 (.int .i64 0) 8 rfl Try.underlying27 HI.out rfl (by decide) (by omega) v1 ([] : List Int) l0 _ _ _ (fun _ => True) (fun _ => False) rfl rfl ?aO ?aR (fun _ _ h => h) (fun _ h => h.elim) ?aF ?aB ?aS ?aL ?_; (case aR => exact (Kd.C_below HR.out HB.out)); (case aB => exact HB.out); (case aF => exact (fun _ _ => trivial)); (case aO => exact HO.out); (case aS => exact HB.out.size); (case aL => have := HL.out; simp only [List.length_nil]; omega); intro v2 w2 ho2 hb2 hg2 hat2; have HO2 := amk ho2; have HB2 := amk hb2; clear ho2 hb2 hg2 hat2))
      go_ret
      exact ⟨v2, rfl, by have := HO2.out; rwa [List.nil_append] at this, HB2.out⟩
  · rw [if_neg hl] at h
    cases h
theorem slices_Clone_int_int.is {l : List Int} (h : l.length < 17592186044416) : slices_Clone_int_int.f l = some l := by unfold slices_Clone_int_int.f; rw [if_pos h]
/-! ### impl_Gears_copied: function 25 -/
def impl_Gears_copied.l0 : Nat → List (List Int) → Int → Int → Int → Int → List (List Int) → Option (Int × Int × (List (List Int)))
  | 0, _, _, _, _, _, _ => none
  | k + 1, x10, x11, x12, x192000, x192001, x192002 => if x12 < x11 then (if 0 ≤ x12 then (if x12 < (x10.length : Int) then ((slices_Clone_int_int.f (rd_L2 x10 x12)).bind fun t193 => (if x192002.length < 5864062014805 then (impl_Gears_copied.l0 k x10 x11 (wrap64 (x12 + 1)) x192000 x192001 (x192002 ++ [t193])) else (none))) else (none)) else (none)) else (some (x192000, x192001, x192002))
def impl_Gears_copied.f (k : Nat) (a0_0 : Int) (a0_1 : Int) (l0_2 : List (List Int)) : Option (Int × Int × (List (List Int))) := impl_Gears_copied.l0 k l0_2 (l0_2.length : Int) 0 a0_0 a0_1 ([] : List (List Int))
def impl_Gears_copied.T5 : Bool × List (List Nat × List Nat) := (true, [([], []), ([0], [0]), ([], []), ([2], [2]), ([3], [3]), ([1, 4, 3], [1, 4]), ([0, 1, 2, 3, 4, 5], []), ([6, 5, 5, 0, 1, 2, 3, 4, 5], [5, 6])])
def impl_Gears_copied.B5 : List Nat := [0, 1, 0, 4, 12, 31, 63, 127]
theorem impl_Gears_copied.tab5 : rtab .any (opsOf Try.f25 5) = impl_Gears_copied.T5 := by kernel_rfl
theorem impl_Gears_copied.bits5 : waitsOk impl_Gears_copied.T5.2 impl_Gears_copied.B5 = true := by kernel_rfl
set_option maxHeartbeats 8000000 in
set_option maxRecDepth 100000 in
theorem impl_Gears_copied.calls (k : Nat) (a0_0 : Int) (a0_1 : Int) (A0_2 : Option Addr) (c0_2 : Nat) (l0_2 : List (List Int)) (r1 : Int) (r2 : Int) (r3 : List (List Int)) (w : World) (hr0_2 : Kd.C (Kd.slice 3 (Kd.int .i64)) w A0_2 l0_2.length l0_2) (hc0_2 : l0_2.length ≤ c0_2) (h : impl_Gears_copied.f k a0_0 a0_1 l0_2 = some (r1, r2, r3)) :
    Calls Try.prog 25 #[.agg #[.int .i64 a0_0, .int .i64 a0_1, .slice A0_2 l0_2.length c0_2]] w fun e w' => ∃ v2_ : Value, e = .returned (.agg #[.int .i64 r1, .int .i64 r2, v2_]) ∧ Kd.S (Kd.slice 3 (Kd.int .i64)) 27 w' w.heap.size (fun _ => True) v2_ r3 ∧ Below w.heap.size w w' := by
  have hu31 := Try.underlying31
  have hu29 := Try.underlying29
  have HR0_2 := amk hr0_2
  have HC0_2 := amk hc0_2
  clear hr0_2 hc0_2
  have HB := amk (Below.refl w.heap.size w)
  have H : (impl_Gears_copied.l0 k l0_2 (l0_2.length : Int) 0 a0_0 a0_1 ([] : List (List Int))) = some (r1, r2, r3) := h
  clear h
  have H' := amk H
  clear H
  go_enter Try.func25, Try.ntmps25
  go_wp2_with (first | ((with_reducible refine gate_dst (N := 1) rfl ?_); refine box_event ?hg (N := 1) ?hd (cs := #[.int .i64 a0_0, .int .i64 a0_1, .slice A0_2 l0_2.length c0_2]) (t := 31) ?hr ?_; (case hd => rfl); (case hg => rfl); (case hr => first | (go_simp; done) | (go_simp; rfl)); intro gb189 hg w2 hbox hb; have n0_ := amk (bp_ (by repeat (first | (with_reducible first | exact HB.out | apply ba_ | apply bn_ | apply bd_) | exact HB.out)) hb); have n1_ := amk (hbox); have n2_ := amk ((by rw [hg]; exact (below_size (by repeat (first | (with_reducible first | exact HB.out | apply ba_ | apply bn_ | apply bd_) | exact HB.out))) : w.heap.size ≤ gb189)); have n3_ := amk ((by rw [hg]; exact (below_size (by repeat (first | (with_reducible first | exact HB.out | apply ba_ | apply bn_ | apply bd_) | exact HB.out))) : w.heap.size ≤ gb189)); clear HB; have HB := n0_; have BK189 := n1_; have GW189 := n2_; have GE189 := n3_; clear n0_ n1_ n2_ n3_; clear hb hbox hg) | ((with_reducible refine gate_dst (N := 2) rfl ?_); refine box_event ?hg (N := 2) ?hd (cs := #[.int .i64 0, .int .i64 0, .slice none 0 0]) (t := 31) ?hr ?_; (case hd => rfl); (case hg => rfl); (case hr => first | (go_simp; done) | (go_simp; rfl)); intro gb190 hg w3 hbox hb; have n0_ := amk (blk_below (g := gb189) (o := .cells #[.int .i64 a0_0, .int .i64 a0_1, .slice A0_2 l0_2.length c0_2] 31 (0, 0)) (by (with_reducible repeat (first | refine kn_ ?_ _ | refine blk_drew ?_ | refine ka_ ?_ _)); exact BK189.out) hb); have n1_ := amk (bp_ (by repeat (first | (with_reducible first | exact HB.out | apply ba_ | apply bn_ | apply bd_ | refine bs_ ?_ GE189.out) | exact HB.out)) hb); have n2_ := amk (hbox); have n3_ := amk ((by rw [hg]; exact (below_size (by repeat (first | (with_reducible first | exact HB.out | apply ba_ | apply bn_ | apply bd_ | refine bs_ ?_ GE189.out) | exact HB.out))) : w.heap.size ≤ gb190)); have n4_ := amk ((by rw [hg]; exact (below_size (by repeat (first | (with_reducible first | exact HB.out | apply ba_ | apply bn_ | apply bd_ | refine bs_ ?_ GE189.out) | exact HB.out))) : w.heap.size ≤ gb190)); have n5_ := amk ((by rw [hg]; exact Nat.ne_of_lt (blk_lt (g := gb189) (o := .cells #[.int .i64 a0_0, .int .i64 a0_1, .slice A0_2 l0_2.length c0_2] 31 (0, 0)) (by (with_reducible repeat (first | refine kn_ ?_ _ | refine blk_drew ?_ | refine ka_ ?_ _)); exact BK189.out)) : gb189 ≠ gb190)); have n6_ := amk ((by rw [hg]; exact Nat.ne_of_gt (blk_lt (g := gb189) (o := .cells #[.int .i64 a0_0, .int .i64 a0_1, .slice A0_2 l0_2.length c0_2] 31 (0, 0)) (by (with_reducible repeat (first | refine kn_ ?_ _ | refine blk_drew ?_ | refine ka_ ?_ _)); exact BK189.out)) : gb190 ≠ gb189)); clear BK189; clear HB; have BK189 := n0_; have HB := n1_; have BK190 := n2_; have GW190 := n3_; have GE190 := n4_; have NB189_190 := n5_; have NB190_189 := n6_; clear n0_ n1_ n2_ n3_ n4_ n5_ n6_; clear hb hbox hg; have hnb4 := NB189_190.out; have hnc4 := NB190_189.out; have hcz5_0 : w3.cell? ⟨gb189, 0, none⟩ = some (.int .i64 a0_0) := (blk_cell BK189.out 0).trans rfl; have hcz5_1 : w3.cell? ⟨gb189, 1, none⟩ = some (.int .i64 a0_1) := (blk_cell BK189.out 1).trans rfl; have hcz5_2 : w3.cell? ⟨gb189, 2, none⟩ = some (.slice A0_2 l0_2.length c0_2) := (blk_cell BK189.out 2).trans rfl; have hfz5_0 := blk_frozen BK189.out 0; have hfz5_1 := blk_frozen BK189.out 1; have hfz5_2 := blk_frozen BK189.out 2) | ((with_reducible refine gate_dst (N := 3) rfl ?_); refine box_event ?hg (N := 3) ?hd (cs := #[.int .i64 0, .int .i64 0, .slice none 0 0]) (t := 31) ?hr ?_; (case hd => rfl); (case hg => rfl); (case hr => first | (go_simp; done) | (go_simp; rfl)); intro gb191 hg w6 hbox hb; have n0_ := amk (blk_below (g := gb189) (o := .cells #[.int .i64 a0_0, .int .i64 a0_1, .slice A0_2 l0_2.length c0_2] 31 (0, 0)) (by (with_reducible repeat (first | refine kn_ ?_ _ | refine blk_drew ?_ | refine ka_ ?_ _)); exact BK189.out) hb); have n1_ := amk (blk_below (g := gb190) (o := .cells #[.int .i64 0, .int .i64 0, .slice none 0 0] 31 (0, 0)) (by (with_reducible repeat (first | refine kn_ ?_ _ | refine blk_drew ?_ | refine ka_ ?_ _)); exact BK190.out) hb); have n2_ := amk (bp_ (by repeat (first | (with_reducible first | exact HB.out | apply ba_ | apply bn_ | apply bd_ | refine bs_ ?_ GE189.out | refine bs_ ?_ GE190.out) | exact HB.out)) hb); have n3_ := amk (hbox); have n4_ := amk ((by rw [hg]; exact (below_size (by repeat (first | (with_reducible first | exact HB.out | apply ba_ | apply bn_ | apply bd_ | refine bs_ ?_ GE189.out | refine bs_ ?_ GE190.out) | exact HB.out))) : w.heap.size ≤ gb191)); have n5_ := amk ((by rw [hg]; exact (below_size (by repeat (first | (with_reducible first | exact HB.out | apply ba_ | apply bn_ | apply bd_ | refine bs_ ?_ GE189.out | refine bs_ ?_ GE190.out) | exact HB.out))) : w.heap.size ≤ gb191)); have n6_ := amk ((by rw [hg]; exact Nat.ne_of_lt (blk_lt (g := gb189) (o := .cells #[.int .i64 a0_0, .int .i64 a0_1, .slice A0_2 l0_2.length c0_2] 31 (0, 0)) (by (with_reducible repeat (first | refine kn_ ?_ _ | refine blk_drew ?_ | refine ka_ ?_ _)); exact BK189.out)) : gb189 ≠ gb191)); have n7_ := amk ((by rw [hg]; exact Nat.ne_of_gt (blk_lt (g := gb189) (o := .cells #[.int .i64 a0_0, .int .i64 a0_1, .slice A0_2 l0_2.length c0_2] 31 (0, 0)) (by (with_reducible repeat (first | refine kn_ ?_ _ | refine blk_drew ?_ | refine ka_ ?_ _)); exact BK189.out)) : gb191 ≠ gb189)); have n8_ := amk ((by rw [hg]; exact Nat.ne_of_lt (blk_lt (g := gb190) (o := .cells #[.int .i64 0, .int .i64 0, .slice none 0 0] 31 (0, 0)) (by (with_reducible repeat (first | refine kn_ ?_ _ | refine blk_drew ?_ | refine ka_ ?_ _)); exact BK190.out)) : gb190 ≠ gb191)); have n9_ := amk ((by rw [hg]; exact Nat.ne_of_gt (blk_lt (g := gb190) (o := .cells #[.int .i64 0, .int .i64 0, .slice none 0 0] 31 (0, 0)) (by (with_reducible repeat (first | refine kn_ ?_ _ | refine blk_drew ?_ | refine ka_ ?_ _)); exact BK190.out)) : gb191 ≠ gb190)); clear BK189; clear BK190; clear HB; have BK189 := n0_; have BK190 := n1_; have HB := n2_; have BK191 := n3_; have GW191 := n4_; have GE191 := n5_; have NB189_191 := n6_; have NB191_189 := n7_; have NB190_191 := n8_; have NB191_190 := n9_; clear n0_ n1_ n2_ n3_ n4_ n5_ n6_ n7_ n8_ n9_; clear hb hbox hg; have hnb7 := NB191_189.out; have hnc7 := NB189_191.out; have hnb8 := NB191_190.out; have hnc8 := NB190_191.out; have hcz9_0 : w6.cell? ⟨gb191, 0, none⟩ = some (.int .i64 0) := (blk_cell BK191.out 0).trans rfl; have hcz9_1 : w6.cell? ⟨gb191, 1, none⟩ = some (.int .i64 0) := (blk_cell BK191.out 1).trans rfl; have hcz9_2 : w6.cell? ⟨gb191, 2, none⟩ = some (.slice none 0 0) := (blk_cell BK191.out 2).trans rfl; have hfz9_0 := blk_frozen BK191.out 0; have hfz9_1 := blk_frozen BK191.out 1; have hfz9_2 := blk_frozen BK191.out 2; have hcz10_0 : w6.cell? ⟨gb189, 0, none⟩ = some (.int .i64 a0_0) := (blk_cell BK189.out 0).trans rfl; have hcz10_1 : w6.cell? ⟨gb189, 1, none⟩ = some (.int .i64 a0_1) := (blk_cell BK189.out 1).trans rfl; have hcz10_2 : w6.cell? ⟨gb189, 2, none⟩ = some (.slice A0_2 l0_2.length c0_2) := (blk_cell BK189.out 2).trans rfl; have hfz10_0 := blk_frozen BK189.out 0; have hfz10_1 := blk_frozen BK189.out 1; have hfz10_2 := blk_frozen BK189.out 2))
  go_loopg [12] k (fun kq v12 w' => ∃ (x12_1 : Int) (x192002_1 : List (List Int)) (u192002 : Value), v12 = .int .i64 x12_1 ∧ Aside0 (impl_Gears_copied.l0 kq l0_2 (l0_2.length : Int) x12_1 a0_0 a0_1 x192002_1 = some (r1, r2, r3)) ∧ Aside0 (kq ≤ k) ∧ Aside0 (Kd.S (Kd.slice 3 (Kd.int .i64)) 27 w' w.heap.size (fun _ => True) u192002 x192002_1) ∧ Aside0 (w'.heap[gb189]? = some (.cells #[.int .i64 a0_0, .int .i64 a0_1, (.slice A0_2 l0_2.length c0_2)] 31 (0, 0))) ∧ Aside0 (w'.heap[gb190]? = some (.cells #[.int .i64 0, .int .i64 0, (.slice none 0 0)] 31 (0, 0))) ∧ Aside0 (w'.heap[gb191]? = some (.cells #[.int .i64 a0_0, .int .i64 a0_1, u192002] 31 (0, 0))) ∧ Aside0 (Below w.heap.size w w'))
  case atStart => exact ⟨(0), (([] : List (List Int))), (.slice none 0 0), (by first | rfl | (simp; done) | (simp [*]; done)), H', ⟨Nat.le_refl _⟩, ⟨by first | exact Kd.S_nil _ _ _ _ _ | exact Kd.N_nil _ _ _ _ _ | exact Kd.V_nil _ _ _ _ _ | exact Kd.Q_nil _ _ _ _ _ | exact Kd.R_nil _ _ _ _ _⟩, ⟨by (with_reducible repeat (first | refine kn_ ?_ _ | refine blk_drew ?_ | refine ka_ ?_ _)); refine blk_far ?_ NB189_191.out _; (with_reducible repeat (first | refine kn_ ?_ _ | refine blk_drew ?_ | refine ka_ ?_ _)); refine blk_far ?_ NB189_191.out _; (with_reducible repeat (first | refine kn_ ?_ _ | refine blk_drew ?_ | refine ka_ ?_ _)); refine blk_far ?_ NB189_191.out _; (with_reducible repeat (first | refine kn_ ?_ _ | refine blk_drew ?_ | refine ka_ ?_ _)); exact BK189.out⟩, ⟨by (with_reducible repeat (first | refine kn_ ?_ _ | refine blk_drew ?_ | refine ka_ ?_ _)); refine blk_far ?_ NB190_191.out _; (with_reducible repeat (first | refine kn_ ?_ _ | refine blk_drew ?_ | refine ka_ ?_ _)); refine blk_far ?_ NB190_191.out _; (with_reducible repeat (first | refine kn_ ?_ _ | refine blk_drew ?_ | refine ka_ ?_ _)); refine blk_far ?_ NB190_191.out _; (with_reducible repeat (first | refine kn_ ?_ _ | refine blk_drew ?_ | refine ka_ ?_ _)); exact BK190.out⟩, ⟨by (with_reducible repeat (first | refine kn_ ?_ _ | refine blk_drew ?_ | refine ka_ ?_ _)); refine blk_put (cs := #[.int .i64 a0_0, .int .i64 a0_1, .slice none 0 0]) ?_ 2 _ rfl; (with_reducible repeat (first | refine kn_ ?_ _ | refine blk_drew ?_ | refine ka_ ?_ _)); refine blk_put (cs := #[.int .i64 a0_0, .int .i64 0, .slice none 0 0]) ?_ 1 _ rfl; (with_reducible repeat (first | refine kn_ ?_ _ | refine blk_drew ?_ | refine ka_ ?_ _)); refine blk_put (cs := #[.int .i64 0, .int .i64 0, .slice none 0 0]) ?_ 0 _ rfl; (with_reducible repeat (first | refine kn_ ?_ _ | refine blk_drew ?_ | refine ka_ ?_ _)); exact BK191.out⟩, ⟨by repeat (first | (with_reducible first | exact HB.out | apply ba_ | apply bn_ | apply bd_ | refine bs_ ?_ GE189.out | refine bs_ ?_ GE190.out | refine bs_ ?_ GE191.out) | exact HB.out)⟩⟩
  case round =>
    clear H'
    try clear c2; try clear p2; try clear c4; try clear c7; try clear c8; try clear hcz10_0; try clear hcz10_1; try clear hcz10_2; try clear hcz5_0; try clear hcz5_1; try clear hcz5_2; try clear hcz9_0; try clear hcz9_1; try clear hcz9_2; try clear hfz10_0; try clear hfz10_1; try clear hfz10_2; try clear hfz5_0; try clear hfz5_1; try clear hfz5_2; try clear hfz9_0; try clear hfz9_1; try clear hfz9_2
    obtain ⟨x12_1, x192002_1, u192002, rfl, HA, HK1, HO_192002, BK189, BK190, BK191, HB⟩ := hrel
    cases gk with
    | zero => exact absurd HA.out (by simp [impl_Gears_copied.l0])
    | succ k1 =>
      have H := HA.out
      clear HA
      simp only [impl_Gears_copied.l0] at H
      by_cases c11 : x12_1 < (l0_2.length : Int)
      · rw [if_pos c11] at H
        have c11b0 : decide (x12_1 < (l0_2.length : Int)) = true := decide_eq_true c11
        clear c11
        by_cases c12 : 0 ≤ x12_1
        · rw [if_pos c12] at H
          have c12b0 : decide (0 ≤ x12_1) = true := decide_eq_true c12
          clear c12
          by_cases c13 : x12_1 < (l0_2.length : Int)
          · rw [if_pos c13] at H
            have c13b0 : decide (x12_1 < (l0_2.length : Int)) = true := decide_eq_true c13
            clear c13
            replace H := Option.bind_eq_some_iff.mp H
            obtain ⟨t193, A140, H⟩ := H
            replace H : (if x192002_1.length < 5864062014805 then (impl_Gears_copied.l0 k1 l0_2 (l0_2.length : Int) (wrap64 (x12_1 + 1)) a0_0 a0_1 (x192002_1 ++ [t193])) else (none)) = some (r1, r2, r3) := H
            have A14 := amk A140
            clear A140
            by_cases c15 : x192002_1.length < 5864062014805
            · rw [if_pos c15] at H
              have LMc15 := amk c15
              clear c15
              obtain ⟨y196, hy196⟩ : ∃ y_ : List (List Int), y_ = (x192002_1 ++ [t193]) := ⟨_, rfl⟩
              replace H : (impl_Gears_copied.l0 k1 l0_2 (l0_2.length : Int) (wrap64 (x12_1 + 1)) a0_0 a0_1 y196) = some (r1, r2, r3) := by first | (rw [hy196]; with_reducible exact H) | (have H2_ := (Option.bind_some _ _).symm.trans H; rw [hy196]; with_reducible exact H2_) | (have H2_ := (Option.bind_some _ _).symm.trans H; with_reducible exact H2_) | with_reducible exact H | (rw [hy196]; exact H) | exact H
              have Ny196 := amk hy196
              clear hy196
              have H' := amk H
              clear H
              have p192 : 0 ≤ (x12_1 : Int) := of_decide_eq_true (by first | (with_reducible assumption) | assumption)
              have q192 : x12_1 < (l0_2.length : Int) := of_decide_eq_true (by first | (with_reducible assumption) | assumption)
              obtain ⟨ad192, A192_0, c192_0, e192, hx192_0, hl192_0, hi192_0⟩ := at_L2 HR0_2.out x12_1 p192 q192
              cases e192
              replace hx192_0 := (HB.out.cell (World.block_lt_of_cell? w _ hx192_0)).trans hx192_0
              have HR192_0 := amk hi192_0
              have HC192_0 := amk hl192_0
              clear hi192_0 hl192_0
              replace p192 := eq_true p192
              replace q192 := eq_true q192
              try go_wp2
              have n0_ := amk (Kd.S_drew HO_192002.out)
              have n1_ := amk (blk_drew BK189.out)
              have n2_ := amk (blk_drew BK190.out)
              have n3_ := amk (blk_drew BK191.out)
              have n4_ := amk (bd_ HB.out)
              clear HO_192002
              clear BK189
              clear BK190
              clear BK191
              clear HB
              have HO_192002 := n0_
              have BK189 := n1_
              have BK190 := n2_
              have BK191 := n3_
              have HB := n4_
              clear n0_ n1_ n2_ n3_ n4_
              refine start_ (n := 8) (S := fun w' => w'.cell? ⟨gb191, 0, none⟩ = some (.int .i64 a0_0) ∧ w'.cell? ⟨gb191, 1, none⟩ = some (.int .i64 a0_1) ∧ w'.cell? ⟨gb191, 2, none⟩ = some (u192002)) (ds := [7]) #[false, false, false, false, false, false, false, false] (by kernel_rfl) rfl rfl ⟨(blk_cell BK191.out 0).trans rfl, (blk_cell BK191.out 1).trans rfl, (blk_cell BK191.out 2).trans rfl⟩ (fun hHeld => ?_); refine with_tabW impl_Gears_copied.tab5 impl_Gears_copied.bits5 (fun HT_ HW_ => ?_)
              generalize wr.drew = w16 at HO_192002 BK189 BK190 BK191 HB hHeld ⊢
              refine pure_ (i := 0) (N := some 16) (v := ?_) (a' := ?_) #[true, false, false, false, false, false, false, false] rfl rfl (any_of HT_.out (by kernel_rfl)) (fun _ _ _ h => h) (Or.inl ⟨by rfl, ?_⟩) ?_ ?_
              rotate_left
              · intro w'
                go_simp
                with_reducible rfl
              rotate_left
              · simp only [Act.put, List.setIfInBounds_toArray, List.set_cons_zero, List.set_cons_succ, i64_w, i32_w]
                rfl
              refine pure_ (i := 2) (N := some 18) (v := ?_) (a' := ?_) #[true, false, true, false, false, false, false, false] rfl rfl (any_of HT_.out (by kernel_rfl)) (fun _ _ _ h => h) (Or.inl ⟨by rfl, ?_⟩) ?_ ?_
              rotate_left
              · intro w'
                go_simp
                with_reducible rfl
              rotate_left
              · simp only [Act.put, List.setIfInBounds_toArray, List.set_cons_zero, List.set_cons_succ, i64_w, i32_w]
                rfl
              refine take_ (i := 1) (N := some 17) (v := ?_) (a' := ?_) #[true, true, true, false, false, false, false, false] rfl rfl (take_ofW HT_.out HW_.out (by kernel_rfl)) (fun _ _ _ h => h) (Or.inl ⟨by rfl, ?_⟩) hHeld ?_ ?_
              rotate_left
              · rintro w' ⟨s0, s1, s2⟩
                go_simp
                with_reducible rfl
              rotate_left
              · simp only [Act.put, List.setIfInBounds_toArray, List.set_cons_zero, List.set_cons_succ, i64_w, i32_w]
                rfl
              refine one_ (i := 3) (N := some 19) #[true, true, true, true, false, false, false, false] rfl rfl (one_of HT_.out (by kernel_rfl)) (by decide) (fun K hK => ?_)
              refine goes_ Try.func26 (by kernel_rfl) rfl #[.slice A192_0 (rd_L2 l0_2 x12_1).length c192_0] (by rfl) rfl rfl (by (try simp only [List.map_toArray, List.map_cons, List.map_nil]); first | done | rfl | (simp only [List.length_drop, List.length_take]; rfl)) ?_
              with_reducible refine (slices_Clone_int_int.calls _ _ (rd_L2 l0_2 x12_1) t193 _ ?side1 ?side2 A14.out).mono ?_
              (case side1 => repeat (first | exact (Kd.C_below HR192_0.out HB.out) | (with_reducible refine Kd.C_alloc ?_ _) | (with_reducible refine Kd.C_drewN ?_ _) | (with_reducible refine Kd.C_drew ?_)))
              (case side2 => exact HC192_0.out)
              rintro e w17 ⟨v194, rfl, ho0, hb⟩
              refine ⟨_, rfl, ?_⟩
              have n0_ := amk (Kd.S_elder' (by (with_reducible repeat (first | apply Kd.S_alloc | apply Kd.S_drewN | apply Kd.S_drew)); exact HO_192002.out) (Kd.R_base ho0) hb)
              have n1_ := amk (Kd.R_lower ho0 (below_size (by repeat (first | (with_reducible first | exact HB.out | apply ba_ | apply bn_ | apply bd_ | refine bs_ ?_ GE189.out | refine bs_ ?_ GE190.out | refine bs_ ?_ GE191.out) | exact HB.out))))
              have n2_ := amk (blk_below (g := gb189) (o := .cells #[.int .i64 a0_0, .int .i64 a0_1, .slice (some ad192) l0_2.length c0_2] 31 (0, 0)) (by (with_reducible repeat (first | refine kn_ ?_ _ | refine blk_drew ?_ | refine ka_ ?_ _)); exact BK189.out) hb)
              have n3_ := amk (blk_below (g := gb190) (o := .cells #[.int .i64 0, .int .i64 0, .slice none 0 0] 31 (0, 0)) (by (with_reducible repeat (first | refine kn_ ?_ _ | refine blk_drew ?_ | refine ka_ ?_ _)); exact BK190.out) hb)
              have n4_ := amk (blk_below (g := gb191) (o := .cells #[.int .i64 a0_0, .int .i64 a0_1, u192002] 31 (0, 0)) (by (with_reducible repeat (first | refine kn_ ?_ _ | refine blk_drew ?_ | refine ka_ ?_ _)); exact BK191.out) hb)
              have n5_ := amk (bp_ (by repeat (first | (with_reducible first | exact HB.out | apply ba_ | apply bn_ | apply bd_ | refine bs_ ?_ GE189.out | refine bs_ ?_ GE190.out | refine bs_ ?_ GE191.out) | exact HB.out)) hb)
              clear HO_192002
              clear BK189
              clear BK190
              clear BK191
              clear HB
              have HO_192002 := n0_
              have HO195 := n1_
              have BK189 := n2_
              have BK190 := n3_
              have BK191 := n4_
              have HB := n5_
              clear n0_ n1_ n2_ n3_ n4_ n5_
              (try clear hb)
              (try clear hb2)
              (try clear hk)
              (try clear hi)
              (try clear ho0)
              obtain ⟨Ao19, co19, eo19⟩ := Kd.R_slice HO195.out
              (first | subst eo19 | (injection eo19 with f1_ f2_ f3_; have f4_ := f1_.symm; have f5_ := f3_.symm; clear f1_ f2_ f3_; subst f4_; subst f5_))
              refine hK.out _ _ ⟨(blk_cell BK191.out 0).trans rfl, (blk_cell BK191.out 1).trans rfl, (blk_cell BK191.out 2).trans rfl⟩ (fun hHeld => ?_)
              clear hK K
              refine norm_ (a' := ?_) ?_ ?_
              rotate_left
              · show Act.put _ (some 19) _ = _
                simp only [Act.put, List.setIfInBounds_toArray, List.set_cons_zero, List.set_cons_succ, i64_w, i32_w]
                rfl
              refine one_ (i := 4) (N := some 20) #[true, true, true, true, true, false, false, false] rfl rfl (one_of HT_.out (by kernel_rfl)) (by decide) (fun K hK => ?_)
              refine value_ (w1 := ?_) (v := ?_) (by rfl) rfl ?_ ?_
              rotate_left 2
              · go_simp
                constructor
                · rfl
                · rfl
              refine hK.out _ _ ⟨(blk_cell (ka_ BK191.out _) 0).trans rfl, (blk_cell (ka_ BK191.out _) 1).trans rfl, (blk_cell (ka_ BK191.out _) 2).trans rfl⟩ (fun hHeld => ?_)
              clear hK K
              refine norm_ (a' := ?_) ?_ ?_
              rotate_left
              · show Act.put _ (some 20) _ = _
                simp only [Act.put, List.setIfInBounds_toArray, List.set_cons_zero, List.set_cons_succ, i64_w, i32_w]
                rfl
              refine one_ (i := 5) (N := some 21) #[true, true, true, true, true, true, false, false] rfl rfl (one_of HT_.out (by kernel_rfl)) (by decide) (fun K hK => ?_)
              refine Kd.S_append_step (Kd.slice 3 (Kd.int .i64)) (w0 := w) w.heap.size (by rfl) (.tmp 17) (.tmp 20) 24 27 (.slice none 0 0) 24 rfl Try.underlying24 info27 rfl (by decide) (by omega) u192002 x192002_1 t193 [.slice Ao19 t193.length co19] (fun _ => True) (fun k_ => some k_ = (.slice Ao19 t193.length co19 : Value).ownBlock) rfl rfl ?aP (fun k_ hk_ => ((Kd.R_mono (ok' := fun k_ => ((fun _ => True)) k_ ∧ some k_ ≠ (u192002 : Value).ownBlock) (Kd.R_apart' (HO195.out) (Kd.S_typed HO_192002.out) (by decide)) (fun k_ hk => ⟨trivial, hk.2⟩))).1 k_ hk_.symm) ?aF ?aO ?aB ?aS ?aL ?_
              (case aP => exact Kd.M_row (Kd.R_mono (Kd.R_tight rfl (Kd.R_mono (ok' := fun k_ => ((fun _ => True)) k_ ∧ some k_ ≠ (u192002 : Value).ownBlock) (Kd.R_apart' (HO195.out) (Kd.S_typed HO_192002.out) (by decide)) (fun k_ hk => ⟨trivial, hk.2⟩))) (fun _ h_ => h_)))
              (case aB => exact (by repeat (first | (with_reducible first | exact HB.out | apply ba_ | apply bn_ | apply bd_ | refine bs_ ?_ GE189.out | refine bs_ ?_ GE190.out | refine bs_ ?_ GE191.out) | exact HB.out)))
              (case aF => exact (fun _ _ => trivial))
              (case aO => exact (by (with_reducible repeat (first | apply Kd.S_alloc | apply Kd.S_drewN | apply Kd.S_drew)); exact Kd.S_mono HO_192002.out (fun k_ hk => ⟨trivial, fun e_ => hk.2 e_⟩)))
              (case aS => exact (below_size (by repeat (first | (with_reducible first | exact HB.out | apply ba_ | apply bn_ | apply bd_ | refine bs_ ?_ GE189.out | refine bs_ ?_ GE190.out | refine bs_ ?_ GE191.out) | exact HB.out))))
              (case aL => have := LMc15.out; omega)
              intro v197 w18 ho hb hg hat
              rw [← Ny196.out] at ho
              have n0_ := amk (blk_grown (g := gb189) (o := .cells #[.int .i64 a0_0, .int .i64 a0_1, .slice (some ad192) l0_2.length c0_2] 31 (0, 0)) (by (with_reducible repeat (first | refine kn_ ?_ _ | refine blk_drew ?_ | refine ka_ ?_ _)); exact BK189.out) hg (Kd.S_ne HO_192002.out BK189.out (by decide)))
              have n1_ := amk (blk_grown (g := gb190) (o := .cells #[.int .i64 0, .int .i64 0, .slice none 0 0] 31 (0, 0)) (by (with_reducible repeat (first | refine kn_ ?_ _ | refine blk_drew ?_ | refine ka_ ?_ _)); exact BK190.out) hg (Kd.S_ne HO_192002.out BK190.out (by decide)))
              have n2_ := amk (blk_grown (g := gb191) (o := .cells #[.int .i64 a0_0, .int .i64 a0_1, u192002] 31 (0, 0)) (by (with_reducible repeat (first | refine kn_ ?_ _ | refine blk_drew ?_ | refine ka_ ?_ _)); exact BK191.out) hg (Kd.S_ne HO_192002.out BK191.out (by decide)))
              have n3_ := amk (hb)
              have n4_ := amk (ho)
              clear BK189
              clear BK190
              clear BK191
              clear HB
              clear HO_192002
              clear HO195
              have BK189 := n0_
              have BK190 := n1_
              have BK191 := n2_
              have HB := n3_
              have HO198 := n4_
              clear n0_ n1_ n2_ n3_ n4_
              clear ho hb hg hat
              obtain ⟨Ao20, co20, eo20⟩ := Kd.S_slice HO198.out
              (first | subst eo20 | (injection eo20 with f1_ f2_ f3_; have f4_ := f1_.symm; have f5_ := f3_.symm; clear f1_ f2_ f3_; subst f4_; subst f5_))
              refine hK.out _ _ ⟨(blk_cell BK191.out 0).trans rfl, (blk_cell BK191.out 1).trans rfl, (blk_cell BK191.out 2).trans rfl⟩ (fun hHeld => ?_)
              clear hK K
              refine norm_ (a' := ?_) ?_ ?_
              rotate_left
              · show Act.put _ (some 21) _ = _
                simp only [Act.put, List.setIfInBounds_toArray, List.set_cons_zero, List.set_cons_succ, i64_w, i32_w]
                rfl
              refine pure_ (i := 6) (N := some 22) (v := ?_) (a' := ?_) #[true, true, true, true, true, true, true, false] rfl rfl (any_of HT_.out (by kernel_rfl)) (fun _ _ _ h => h) (Or.inl ⟨by rfl, ?_⟩) ?_ ?_
              rotate_left
              · intro w'
                go_simp
                with_reducible rfl
              rotate_left
              · simp only [Act.put, List.setIfInBounds_toArray, List.set_cons_zero, List.set_cons_succ, i64_w, i32_w]
                rfl
              refine last_ (i := 7) (N := none) #[true, true, true, true, true, true, true, true] rfl rfl (one_of HT_.out (by kernel_rfl)) (by decide) (fun K hK => ?_)
              have hs21 : w18.cell? ⟨gb191, 2, none⟩ = some (u192002) := (blk_cell BK191.out 2).trans rfl
              have hfs21 := blk_frozen BK191.out 2
              have hns21_0 := NB189_191.out
              have hns21_1 := NB190_191.out
              have hms21_0 := NB191_189.out
              have hms21_1 := NB191_190.out
              refine skip_ (w1 := ?_) (by rfl) rfl ?_ ?_
              rotate_left
              · go_simp
                rfl
              refine hK.out _ _ ?_
              clear hK K
              refine done_ (done_of HT_.out (by kernel_rfl)) ?_
              try go_wp2
              go_roundg k1
              case measure => have := HK1.out; omega
              case rel => exact ⟨(wrap64 (x12_1 + 1)), (y196), (.slice Ao20 y196.length co20), (by first | rfl | (simp; done) | (simp [*]; done)), H', ⟨by have := HK1.out; omega⟩, ⟨by (with_reducible repeat (first | apply Kd.S_alloc | apply Kd.S_drewN | apply Kd.S_drew)); exact Kd.S_mono (Kd.S_far (p := ⟨gb191, 2, none⟩) (Kd.S_types HO198.out BK191.out (by decide)) (fun _ hk => hk.2) (.slice Ao20 y196.length co20)) (fun _ hk => trivial)⟩, ⟨by (with_reducible repeat (first | refine kn_ ?_ _ | refine blk_drew ?_ | refine ka_ ?_ _)); refine blk_far ?_ NB189_191.out _; (with_reducible repeat (first | refine kn_ ?_ _ | refine blk_drew ?_ | refine ka_ ?_ _)); exact BK189.out⟩, ⟨by (with_reducible repeat (first | refine kn_ ?_ _ | refine blk_drew ?_ | refine ka_ ?_ _)); refine blk_far ?_ NB190_191.out _; (with_reducible repeat (first | refine kn_ ?_ _ | refine blk_drew ?_ | refine ka_ ?_ _)); exact BK190.out⟩, ⟨by (with_reducible repeat (first | refine kn_ ?_ _ | refine blk_drew ?_ | refine ka_ ?_ _)); refine blk_put (cs := #[.int .i64 a0_0, .int .i64 a0_1, u192002]) ?_ 2 _ rfl; (with_reducible repeat (first | refine kn_ ?_ _ | refine blk_drew ?_ | refine ka_ ?_ _)); exact BK191.out⟩, ⟨by repeat (first | (with_reducible first | exact HB.out | apply ba_ | apply bn_ | apply bd_ | refine bs_ ?_ GE189.out | refine bs_ ?_ GE190.out | refine bs_ ?_ GE191.out) | exact HB.out)⟩⟩
            · rw [if_neg c15] at H
              exact absurd H (by simp)
          · rw [if_neg c13] at H
            exact absurd H (by simp)
        · rw [if_neg c12] at H
          exact absurd H (by simp)
      · rw [if_neg c11] at H
        have c11b0 : decide (x12_1 < (l0_2.length : Int)) = false := decide_eq_false c11
        clear c11
        simp only [Option.some.injEq, Prod.mk.injEq] at H
        obtain ⟨rfl, rfl, rfl⟩ := H
        have hnb22 := NB191_189.out
        have hnc22 := NB189_191.out
        have hnb23 := NB191_190.out
        have hnc23 := NB190_191.out
        have hcz24_0 : wr.cell? ⟨gb191, 0, none⟩ = some (.int .i64 a0_0) := (blk_cell BK191.out 0).trans rfl
        have hcz24_1 : wr.cell? ⟨gb191, 1, none⟩ = some (.int .i64 a0_1) := (blk_cell BK191.out 1).trans rfl
        have hcz24_2 : wr.cell? ⟨gb191, 2, none⟩ = some (u192002) := (blk_cell BK191.out 2).trans rfl
        have hfz24_0 := blk_frozen BK191.out 0
        have hfz24_1 := blk_frozen BK191.out 1
        have hfz24_2 := blk_frozen BK191.out 2
        have hnb25 := NB190_189.out
        have hnc25 := NB189_190.out
        have hcz26_0 : wr.cell? ⟨gb190, 0, none⟩ = some (.int .i64 0) := (blk_cell BK190.out 0).trans rfl
        have hcz26_1 : wr.cell? ⟨gb190, 1, none⟩ = some (.int .i64 0) := (blk_cell BK190.out 1).trans rfl
        have hcz26_2 : wr.cell? ⟨gb190, 2, none⟩ = some (.slice none 0 0) := (blk_cell BK190.out 2).trans rfl
        have hfz26_0 := blk_frozen BK190.out 0
        have hfz26_1 := blk_frozen BK190.out 1
        have hfz26_2 := blk_frozen BK190.out 2
        obtain ⟨Ao27, co27, eo27⟩ := Kd.S_slice HO_192002.out
        subst eo27
        go_wp2
        refine bodyPost_ret (results_cell_row rfl _ _ gb190 31 #[.int .i64 a0_0, .int .i64 a0_1, .slice Ao27 x192002_1.length co27] (0, 0) _ rfl (by (with_reducible repeat (first | refine kn_ ?_ _ | refine blk_drew ?_ | refine ka_ ?_ _)); refine blk_put (cs := #[.int .i64 a0_0, .int .i64 a0_1, .slice none 0 0]) ?_ 2 _ rfl; (with_reducible repeat (first | refine kn_ ?_ _ | refine blk_drew ?_ | refine ka_ ?_ _)); refine blk_put (cs := #[.int .i64 a0_0, .int .i64 0, .slice none 0 0]) ?_ 1 _ rfl; (with_reducible repeat (first | refine kn_ ?_ _ | refine blk_drew ?_ | refine ka_ ?_ _)); refine blk_put (cs := #[.int .i64 0, .int .i64 0, .slice none 0 0]) ?_ 0 _ rfl; (with_reducible repeat (first | refine kn_ ?_ _ | refine blk_drew ?_ | refine ka_ ?_ _)); exact BK190.out) Try.underlying31 rfl (by kernel_rfl)) rfl ?_
        exact ⟨_, by first | rfl | (simp [errW_none, errW_some] <;> rfl) | (simp [*, errW_none, errW_some] <;> rfl), by (with_reducible repeat (first | apply Kd.S_alloc | apply Kd.S_drewN | apply Kd.S_drew)); exact Kd.S_mono (Kd.S_far (p := ⟨gb190, 2, none⟩) (Kd.S_far (p := ⟨gb190, 1, none⟩) (Kd.S_far (p := ⟨gb190, 0, none⟩) (Kd.S_types HO_192002.out BK190.out (by decide)) (fun _ hk => hk.2) (.int .i64 a0_0)) (fun _ hk => hk.2) (.int .i64 a0_1)) (fun _ hk => hk.2) (.slice Ao27 x192002_1.length co27)) (fun _ hk => trivial), by repeat (first | (with_reducible first | exact HB.out | apply ba_ | apply bn_ | apply bd_ | refine bs_ ?_ GE189.out | refine bs_ ?_ GE190.out | refine bs_ ?_ GE191.out) | exact HB.out)⟩
/-! Behind a row's end: what is stored there turns nothing of the row; 'clear' at one element of several cells. -/
theorem R_spare {α : Type} {d : Kd α} {e : Nat} {w : World} {base g n cap : Nat} {ok : Nat → Prop} {xs : List α} (h : d.R e w base ok (.slice (some ⟨g, 0, none⟩) n cap) xs)
    (zs : List Value) (o : Nat) (ho : xs.length * d.sz ≤ o) (hz : o + zs.length ≤ cap * d.sz) : d.R e (w.setCells g o zs) base ok (.slice (some ⟨g, 0, none⟩) n cap) xs := by
  obtain ⟨h0, inner, hown, hr⟩ := h
  refine ⟨h0, inner, ⟨hown.1, ?_⟩, hr.imp_ (fun p c hp => d.M_move (fun k hk => ?_) hp)⟩
  · rcases hown.2 with ⟨hv, _⟩ | ⟨g', cap', cur, hv, hb, hh, hn, hcm, hcs, htake⟩
    · cases hv
    · injection hv with ha hn' hc
      injection ha with ha
      injection ha with hg
      subst hg hc
      obtain ⟨cur', h1, h2, h3⟩ := setCells_row zs o w cur hh (by omega)
      refine .inr ⟨g, cap, cur', by rw [hn'], hb, h1, hn, hcm, by omega, ?_⟩
      have hcl : cur.toList.length = cap * d.sz := by simpa using hcs
      have hle : xs.length * d.sz ≤ (List.take o cur.toList).length := by
        rw [List.length_take]
        exact Nat.le_min.mpr ⟨ho, by omega⟩
      rw [h3, List.append_assoc, List.take_append_of_le_length hle, List.take_take, Nat.min_eq_left ho, htake]
  · refine setCells_far zs o k (fun e => hk.2 ?_)
    subst e; rfl
theorem S_spare {α : Type} {d : Kd α} {e : Nat} {w : World} {base g n cap : Nat} {ok : Nat → Prop} {xs : List α} (h : Kd.S d e w base ok (.slice (some ⟨g, 0, none⟩) n cap) xs)
    (zs : List Value) (o : Nat) (ho : xs.length * d.sz ≤ o) (hz : o + zs.length ≤ cap * d.sz) : Kd.S d e (w.setCells g o zs) base ok (.slice (some ⟨g, 0, none⟩) n cap) xs := by
  obtain ⟨f, hr⟩ := h
  exact ⟨f, R_spare hr zs o (by rw [List.length_zipIdx]; exact ho) hz⟩
theorem run_clear_one {P : Program} (w : World) (t e ty : TypeId) (z : Value) (zs : List Value) (ht : P.underlying t = some (.slice e)) (hv : ∀ w, (zeroValue e).run P w = .ok z w) (hz : z.cells.toList = zs) (h1 : ∀ u ∈ zs, u.oneCell' = true) (b o c : Nat)
    (hc : ∀ j, j < zs.length → (w.cell? ⟨b, o + j, none⟩).isSome = true) (hf : ∀ j, j < zs.length → w.frozen? ⟨b, o + j, none⟩ = false) :
    (Builtin.clear_ #[t] ty #[.slice (some ⟨b, o, none⟩) 1 c]).run P w = .ok (.tuple #[]) (w.setCells b o zs) := by
  have hzc : (Builtin.zeroCells z.cells 1).toList = zs := by
    rw [← hz]
    simp only [Builtin.zeroCells, Nat.one_mul, Array.toList_map, Array.toList_range]
    apply List.ext_getElem
    · simp
    · intro i h1 h2
      have h2' : i < z.cells.size := by simpa using h2
      simp [Nat.mod_eq_of_lt h2', h2']
  have hst := run_storeCells_cells (P := P) b o zs 0 w (by simpa using hc) (by simpa using hf) h1
  simp only [Nat.add_zero] at hst
  simp [Builtin.clear_, run_underlying ht, hv, hzc, hst]
theorem row_cells {α : Type} {d : Kd α} {e : Nat} {w : World} {base g n cap : Nat} {ok : Nat → Prop} {xs : List α} (h : d.R e w base ok (.slice (some ⟨g, 0, none⟩) n cap) xs) :
    base ≤ g ∧ n = xs.length ∧ n ≤ cap ∧ cap ≤ 9223372036854775807 ∧ ∀ j, j < cap * d.sz → (w.cell? ⟨g, j, none⟩).isSome = true ∧ w.frozen? ⟨g, j, none⟩ = false := by
  obtain ⟨h0, inner, hown, hr⟩ := h
  rcases hown.2 with ⟨hv, _⟩ | ⟨g', cap', cur, hv, hb, hh, hn, hcm, hcs, htake⟩
  · cases hv
  · injection hv with ha hn' hc
    injection ha with ha
    injection ha with hg
    subst hg hc
    refine ⟨hb, hn', by omega, by unfold maxLen at hcm; exact hcm, fun j hj => ⟨?_, ?_⟩⟩
    · rw [blk_cell hh j]; rw [Array.getElem?_eq_getElem (by omega)]; rfl
    · exact blk_frozen hh j
theorem below_cells {B g : Nat} {w0 : World} (hg : B ≤ g) : ∀ (vs : List Value) (o : Nat) (w : World), Below B w0 w → Below B w0 (w.setCells g o vs)
  | [], _, _, h => h
  | v :: r, o, w, h => below_cells hg r (o + 1) _ (h.setCell (p := ⟨g, o, none⟩) hg v)
/-! slices.Delete at [][]int, of one element of a row of the call's own: taken out in place. -/
theorem kept_cellsRows {w : World} {g : Nat} : ∀ (vs : List Value) (o : Nat) (W : World), Kept w W (fun j => j = g) → Kept w (W.setCells g o vs) (fun j => j = g)
  | [], _, _, h => h
  | v :: r, o, W, h => kept_cellsRows r (o + 1) _ (h.setCell (p := ⟨g, o, none⟩) (.inl rfl) v)
set_option maxHeartbeats 4000000 in
set_option maxRecDepth 1000000 in
theorem slices_Delete_rows_ownK (w0 w : World) (base g cap k n : Nat) (ok : Nat → Prop) (xs : List (List Int)) (hn : xs.length = n + 1) (hk : k < n + 1) (HO : Kd.S (Kd.slice 3 (Kd.int .i64)) 27 w base ok (.slice (some ⟨g, 0, none⟩) (n + 1) cap) xs) (HB : Below base w0 w) (hbase : base ≤ w.heap.size) :
    Calls Try.prog 41 #[.slice (some ⟨g, 0, none⟩) (n + 1) cap, .int .i64 (k : Nat), .int .i64 ((k : Int) + 1)] w fun e w' => e = .returned (.slice (some ⟨g, 0, none⟩) n cap) ∧
      Kd.S (Kd.slice 3 (Kd.int .i64)) 27 w' base ok (.slice (some ⟨g, 0, none⟩) n cap) (xs.eraseIdx k) ∧ Below base w0 w' ∧ Kept w w' (fun j => j = g) := by
  have hu := Try.underlying24
  have hinfo : (Try.prog.info? 27).map (·.size) = some 1 := by kernel_rfl
  have hzv : ∀ w, (zeroValue 27).run Try.prog w = .ok (.slice none 0 0) w := fun _ => by kernel_rfl
  have HI := amk hinfo
  have HZ := amk hzv
  clear hinfo hzv
  obtain ⟨hbg, hz1, hnc, hcm, hz2⟩ := row_cells (Kd.S_R HO)
  clear hz1 hz2
  have hne : ((k : Int) == (k : Int) + 1) = false := by simp; omega
  have HK := amk hk
  have HN := amk hn
  have HOA := amk HO
  have HBA := amk HB
  have HBS := amk hbase
  have HBG := amk hbg
  clear HO HB hbase hn hbg
  have hk1 : k ≤ cap := by omega
  have hk2 : k + 1 ≤ cap := by omega
  have hk3 : k + 1 ≤ n + 1 := by omega
  have hk4 : (k : Int) ≤ (cap : Int) := by omega
  have hk5 : (k : Int) + 1 ≤ (cap : Int) := by omega
  have hk7 : 0 ≤ (k : Int) + 1 := by omega
  have hk6 : (k : Int) + 1 ≤ (n : Int) + 1 := by omega
  go_enter Try.func41, Try.ntmps41
  go_wp2_with fail
  have HA : Aside0 ((if cap = k + 1 then some (⟨g, 0, none⟩ : Addr) else some ⟨g, (k + 1) * 1, none⟩) = if cap = k + 1 then some ⟨g, 0, none⟩ else (some (⟨g, 0, none⟩ : Addr)).map (·.add ((k + 1) * 1))) := ⟨by
    split
    · rfl
    · simp [Addr.add]⟩
  have HR1 : Aside0 (Kd.S (Kd.slice 3 (Kd.int .i64)) 27 w.drew base ok (.slice (some ⟨g, 0, none⟩) (n + 1) cap) xs) := ⟨Kd.S_drew HOA.out⟩
  have HB1 : Aside0 (Below base w0 w.drew) := ⟨bd_ HBA.out⟩
  have HM : Aside0 (n - k = n + 1 - (k + 1)) := ⟨by omega⟩
  go_region_law (refine Kd.S_delete_step (Kd.slice 3 (Kd.int .i64)) (w0 := w0) base rfl (.tmp 22) (.tmp 25) 24 27 rfl Try.underlying24 HI.out (g := g) (n := n + 1) (c := cap) (k := k) (m := n - k) (c2 := cap - (k + 1)) (xs := xs) (ok := ok) (by simp [Act.eval, Act.put]) (by simp [Act.eval, Act.put]) HA.out HM.out HR1.out HK.out HB1.out HBS.out ?_; intro w1 hr1 hb1 hg1)
  have HGK := amk (Kept.of_grown (S := fun j => j = g) hg1 ((Kept.refl w (fun j => j = g)).drew) (fun q hq => .inl (by injection hq with hq; exact hq.symm)))
  clear hg1
  have HR2 := amk hr1
  have HB2 := amk hb1
  obtain ⟨_, _, hnc1, _, hcells⟩ := row_cells (Kd.S_R hr1)
  have hcl : ∀ ty, (Builtin.clear_ #[24] ty #[.slice (some ⟨g, n * 1, none⟩) 1 (cap - n)]).run Try.prog w1 = .ok (.tuple #[]) (w1.setCells g (n * 1) [.slice none 0 0]) := fun ty =>
    run_clear_one w1 24 27 ty (.slice none 0 0) [.slice none 0 0] Try.underlying24 HZ.out rfl (by intro u hu; simp at hu; simp [hu, Value.oneCell']) g (n * 1) _
      (fun j hj => (hcells _ (by show _ < cap * 1; simp at hj; omega)).1) (fun j hj => (hcells _ (by show _ < cap * 1; simp at hj; omega)).2)
  (try simp only [Nat.mul_one] at hcl)
  clear hr1 hb1 hcells
  have hn1 : n ≤ cap := by omega
  have hn2 : n + 1 ≤ cap := by omega
  have hn3 : (n : Int) ≤ (cap : Int) := by omega
  have hn4 : (n : Int) + 1 ≤ (cap : Int) := by omega
  clear hk1 hk2 hk3 hk4 hk5 hk6 hk7 hne
  go_wp2
  all_goals
    go_ret
    have hl := List.length_eraseIdx_of_lt (l := xs) (i := k) (by have := HK.out; have := HN.out; omega)
    have hr := S_spare HR2.out [.slice none 0 0] (n * 1) (by rw [hl, HN.out]; exact Nat.le_refl _) (by show n * 1 + 1 ≤ cap * 1; omega)
    rw [Nat.add_sub_cancel] at hr
    (try simp only [Nat.mul_one] at hr)
    refine ⟨rfl, ?_, below_cells HBG.out _ _ _ HB2.out, kept_cellsRows _ _ _ HGK.out⟩
    (try simp only [Nat.mul_one])
    first | exact hr | (have h_ : cap = k + 1 := by assumption
                        rw [h_] at hr; exact hr)
/-! impl.without, by hand: gears' copy without a knob. -/
def impl_Gears_without.f (k : Nat) (n d : Int) (L : List (List Int)) (q : Int) : Option (Int × Int × List (List Int)) := (impl_Gears_copied.f k n d L).bind fun r => if 0 ≤ q ∧ q < (r.2.2.length : Int) ∧ r.2.2.length ≤ 1000 then some (r.1, r.2.1, r.2.2.eraseIdx q.toNat) else none
set_option maxHeartbeats 4000000 in
set_option maxRecDepth 100000 in
theorem impl_Gears_without.calls (k : Nat) (n d : Int) (A : Option Addr) (c : Nat) (L : List (List Int)) (q : Int) (r1 r2 : Int) (r3 : List (List Int)) (w : World) (h0 : Kd.C (Kd.slice 3 (Kd.int .i64)) w A L.length L) (i0 : L.length ≤ c) (h : impl_Gears_without.f k n d L q = some (r1, r2, r3)) :
    Calls Try.prog 33 #[.agg #[.int .i64 n, .int .i64 d, .slice A L.length c], .int .i64 q] w fun e w' => ∃ v2_ : Value, e = .returned (.agg #[.int .i64 r1, .int .i64 r2, v2_]) ∧ Kd.S (Kd.slice 3 (Kd.int .i64)) 27 w' w.heap.size (fun _ => True) v2_ r3 ∧ Below w.heap.size w w' := by
  have hu31 := Try.underlying31
  have hu24 := Try.underlying24
  unfold impl_Gears_without.f at h
  obtain ⟨⟨u1, u2, J⟩, hu, h⟩ := Option.bind_eq_some_iff.mp h
  simp only [] at h
  by_cases p1 : 0 ≤ q ∧ q < (J.length : Int) ∧ J.length ≤ 1000
  · rw [if_pos p1] at h
    simp only [Option.some.injEq, Prod.mk.injEq] at h
    obtain ⟨rfl, rfl, rfl⟩ := h
    obtain ⟨i, rfl⟩ := Int.eq_ofNat_of_zero_le p1.1
    obtain ⟨m, hm⟩ : ∃ m, J.length = m + 1 := ⟨J.length - 1, by omega⟩
    have HM := amk hm
    have HI := amk (show i < m + 1 by omega)
    have hq9 : (i : Int) + 1 ≤ 9223372036854775807 := by omega
    have HU := amk hu
    have H0 := amk h0
    have I0 := amk i0
    have G2 := amk (GP_new w n d A L.length c)
    have HL : Aside0 ((J.eraseIdx i).length = m) := ⟨by rw [List.length_eraseIdx_of_lt (by omega)]; omega⟩
    have hty : ∀ q, q ∈ 27 :: (Kd.slice 3 (Kd.int .i64)).E → q ≠ 31 := by intro q hq; simp [Kd.slice, Kd.int, Kd.scalar] at hq; omega
    have HTY := amk hty
    clear hu h0 i0 hty p1 hm
    go_enter Try.func33, Try.ntmps33
    go_wp2_with (first | (go_at_call 25; refine Calls.mono (impl_Gears_copied.calls k n d _ _ L u1 u2 J _ (Kd.C_below H0.out G2.out.1) I0.out HU.out) ?_; rintro e w5 ⟨v5, rfl, hs, hb⟩; obtain ⟨g5, c5, hv, hg5, hg5b, _⟩ := Kd.S_form hs (by have := HM.out; omega); rw [HM.out] at hv; subst hv; have G5 := amk (GP_below (GP_below G2.out hb) ((Below.refl _ w5).alloc (Nat.le_refl _) (.cells #[.int .i64 u1, .int .i64 u2, .slice (some ⟨g5, 0, none⟩) (m + 1) c5] 31 (0, 0)))); have S5 := amk (Kd.S_alloc (Kd.S_lower hs G2.out.1.size) (.cells #[.int .i64 u1, .int .i64 u2, .slice (some ⟨g5, 0, none⟩) (m + 1) c5] 31 (0, 0))); have BO := amk (blk_new w5 (.cells #[.int .i64 u1, .int .i64 u2, .slice (some ⟨g5, 0, none⟩) (m + 1) c5] 31 (0, 0))); have GG := amk (And.intro hg5 hg5b); clear hs hb hg5 hg5b) | (go_at_call 41; refine Calls.mono (slices_Delete_rows_ownK w _ w.heap.size g5 c5 i m (fun _ => True) J HM.out HI.out S5.out G5.out.1 G5.out.1.size) ?_; rintro e w6 ⟨rfl, hs, hb, hk⟩; have S6 := amk hs; have BO6 := amk (blk_kept BO.out hk (by have := GG.out.2; omega)); have G6 := amk (show GP w n d A L.length c w6 from ⟨hb, blk_kept G5.out.2.1 hk (by have := GG.out.1; simp at this; omega), blk_kept G5.out.2.2 hk (by have := GG.out.1; simp at this; omega)⟩); obtain ⟨hq0, hq1, hq2, hf0, hf1, hf2, _⟩ := three_cellsD BO6.out; obtain ⟨hp0, hp1, hp2, hp3, hp4, hp5, _⟩ := three_cellsD G6.out.2.2; have hne1 : w5.heap.size ≠ w.heap.size + 1 := (by have h1 := GG.out.1; have h2 := GG.out.2; simp at h1; omega); have hne2 : w.heap.size + 1 ≠ w5.heap.size := Ne.symm hne1; clear hs hb hk))
    (try simp only [Exit.inBlock, Exit.then])
    have BK := amk (show (w6.setCell ⟨w5.heap.size, 2, none⟩ (.slice (some ⟨g5, 0, none⟩) m c5)).heap[w.heap.size + 1]? = some (.cells #[.int .i64 0, .int .i64 0, .slice none 0 0] 31 (0, 0)) from (Below.heap_setCell _ _ _ _ (show w.heap.size + 1 ≠ w5.heap.size from hne2)).trans G6.out.2.2)
    have hS7 := Kd.S_set S6.out BO6.out HTY.out 2 (.slice (some ⟨g5, 0, none⟩) m c5)
    have hB7 := G6.out.1.setCell (p := ⟨w5.heap.size, 2, none⟩) (by have h1 := GG.out.1; have h2 := GG.out.2; simp at h1; show w.heap.size ≤ w5.heap.size; omega) (.slice (some ⟨g5, 0, none⟩) m c5)
    refine bodyPost_ret (results_single rfl (.cell (w.heap.size + 1) 31 #[.int .i64 u1, .int .i64 u2, .slice (some ⟨g5, 0, none⟩) m c5] (0, 0) _ rfl (three_set BK.out _ _ _) Try.underlying31 rfl (by kernel_rfl) .nil)) rfl ?_
    refine ⟨_, rfl, Kd.S_set (Kd.S_set (Kd.S_set hS7 BK.out HTY.out 0 _) (heap_setCell_same _ _ 0 _ _ _ BK.out) HTY.out 1 _) (heap_setCell_same _ _ 1 _ _ _ (heap_setCell_same _ _ 0 _ _ _ BK.out)) HTY.out 2 _, ?_⟩
    exact ((hB7.setCell (p := ⟨w.heap.size + 1, 0, none⟩) (by show w.heap.size ≤ w.heap.size + 1; omega) _).setCell (p := ⟨w.heap.size + 1, 1, none⟩) (by show w.heap.size ≤ w.heap.size + 1; omega) _).setCell (p := ⟨w.heap.size + 1, 2, none⟩) (by show w.heap.size ≤ w.heap.size + 1; omega) _
  · rw [if_neg p1] at h; cases h
/-! impl.DropKnob, by hand. -/
def impl_DropKnob.f (k : Nat) (n d : Int) (L : List (List Int)) (q : Int) : Option (Int × Int × List (List Int) × Bool) :=
  (impl_hasKnob.f k n d L q).bind fun t => if t = true then (if L.length = 1 then some (0, 0, [], false) else (impl_Gears_without.f k n d L q).bind fun r => some (r.1, r.2.1, r.2.2, true)) else some (0, 0, [], false)
set_option maxHeartbeats 4000000 in
set_option maxRecDepth 100000 in
theorem impl_DropKnob.calls (k : Nat) (n d : Int) (A : Option Addr) (c : Nat) (L : List (List Int)) (q : Int) (r1 r2 : Int) (r3 : List (List Int)) (r4 : Bool) (w : World) (h0 : Kd.C (Kd.slice 3 (Kd.int .i64)) w A L.length L) (i0 : L.length ≤ c) (h : impl_DropKnob.f k n d L q = some (r1, r2, r3, r4)) :
    Calls Try.prog 16 #[.agg #[.int .i64 n, .int .i64 d, .slice A L.length c], .int .i64 q] w fun e w' => ∃ v2_ : Value, e = .returned (.tuple #[.agg #[.int .i64 r1, .int .i64 r2, v2_], .bool r4]) ∧ Kd.S (Kd.slice 3 (Kd.int .i64)) 27 w' w.heap.size (fun _ => True) v2_ r3 ∧ Below w.heap.size w w' := by
  have hu31 := Try.underlying31
  have hu24 := Try.underlying24
  unfold impl_DropKnob.f at h
  obtain ⟨t, ht, h⟩ := Option.bind_eq_some_iff.mp h
  have HT := amk ht
  have H0 := amk h0
  have I0 := amk i0
  have G2 := amk (GP_new w n d A L.length c)
  have hbig := h0.2.1
  have hty : ∀ q, q ∈ 27 :: (Kd.slice 3 (Kd.int .i64)).E → q ≠ 31 := by intro q hq; simp [Kd.slice, Kd.int, Kd.scalar] at hq; omega
  have HTY := amk hty
  clear ht i0 hty h0
  cases t with
  | false =>
    simp only [Bool.false_eq_true, if_false, Option.some.injEq, Prod.mk.injEq] at h
    obtain ⟨rfl, rfl, rfl, rfl⟩ := h
    go_enter Try.func16, Try.ntmps16
    go_wp2_with (go_at_call 32; refine Calls.mono (impl_hasKnob.calls k _ _ _ _ _ _ _ _ (Kd.C_below H0.out G2.out.1) I0.out HT.out) ?_; rintro e w3 ⟨rfl, hb⟩; have G3 := amk (GP_below G2.out hb); obtain ⟨hp0, hp1, hp2, hp3, hp4, hp5, _⟩ := three_cellsD G3.out.2.2; clear hb)
    (try simp only [Exit.inBlock, Exit.then])
    refine bodyPost_ret (results_ct rfl _ _ (w.heap.size + 1) 31 #[.int .i64 0, .int .i64 0, .slice none 0 0] (0, 0) _ rfl (three_set G3.out.2.2 _ _ _) Try.underlying31 rfl (by kernel_rfl)) rfl ?_
    exact ⟨_, rfl, Kd.S_nil _ _ _ _ _, GP_done G3.out _ _ _⟩
  | true =>
    rw [if_pos rfl] at h
    by_cases p1 : L.length = 1
    · rw [if_pos p1] at h
      simp only [Option.some.injEq, Prod.mk.injEq] at h
      obtain ⟨rfl, rfl, rfl, rfl⟩ := h
      have hd1 : ((L.length : Int) == 1) = true := beq_iff_eq.mpr (by omega)
      have hd2 : decide ((L.length : Int) = 1) = true := decide_eq_true (by omega)
      clear p1
      go_enter Try.func16, Try.ntmps16
      go_wp2_with (first | (go_at_call 32; refine Calls.mono (impl_hasKnob.calls k _ _ _ _ _ _ _ _ (Kd.C_below H0.out G2.out.1) I0.out HT.out) ?_; rintro e w3 ⟨rfl, hb⟩; have G3 := amk (GP_below G2.out hb); obtain ⟨hq0, hq1, hq2, _, _, _, _⟩ := three_cellsD G3.out.2.1; obtain ⟨hp0, hp1, hp2, hp3, hp4, hp5, _⟩ := three_cellsD G3.out.2.2; clear hb))
      (try simp only [Exit.inBlock, Exit.then])
      refine bodyPost_ret (results_ct rfl _ _ (w.heap.size + 1) 31 #[.int .i64 0, .int .i64 0, .slice none 0 0] (0, 0) _ rfl (three_set G3.out.2.2 _ _ _) Try.underlying31 rfl (by kernel_rfl)) rfl ?_
      exact ⟨_, rfl, Kd.S_nil _ _ _ _ _, GP_done G3.out _ _ _⟩
    · rw [if_neg p1] at h
      obtain ⟨⟨u1, u2, u3⟩, hu, h⟩ := Option.bind_eq_some_iff.mp h
      simp only [Option.some.injEq, Prod.mk.injEq] at h
      obtain ⟨rfl, rfl, rfl, rfl⟩ := h
      have HU := amk hu
      clear hu
      have hd1 : ((L.length : Int) == 1) = false := beq_eq_false_iff_ne.mpr (by omega)
      have hd2 : decide ((L.length : Int) = 1) = false := decide_eq_false (by omega)
      go_enter Try.func16, Try.ntmps16
      go_wp2_with (first | (go_at_call 32; refine Calls.mono (impl_hasKnob.calls k _ _ _ _ _ _ _ _ (Kd.C_below H0.out G2.out.1) I0.out HT.out) ?_; rintro e w3 ⟨rfl, hb⟩; have G3 := amk (GP_below G2.out hb); obtain ⟨hq0, hq1, hq2, _, _, _, _⟩ := three_cellsD G3.out.2.1; obtain ⟨hp0, hp1, hp2, hp3, hp4, hp5, _⟩ := three_cellsD G3.out.2.2; clear hb) | (go_at_call 33; refine Calls.mono (impl_Gears_without.calls k n d _ _ L q u1 u2 u3 _ (Kd.C_below H0.out G3.out.1) I0.out HU.out) ?_; rintro e w5 ⟨v5, rfl, hs, hb⟩; obtain ⟨A5, c5, rfl⟩ := Kd.S_slice hs; have G5 := amk (GP_below G3.out hb); have S5 := amk (Kd.S_lower hs G3.out.1.size); clear hq0 hq1 hq2 hp0 hp1 hp2 hp3 hp4 hp5; obtain ⟨hp0, hp1, hp2, hp3, hp4, hp5, _⟩ := three_cellsD G5.out.2.2; clear hs hb))
      (try simp only [Exit.inBlock, Exit.then])
      refine bodyPost_ret (results_ct rfl _ _ (w.heap.size + 1) 31 #[.int .i64 u1, .int .i64 u2, .slice A5 u3.length c5] (0, 0) _ rfl (three_set G5.out.2.2 _ _ _) Try.underlying31 rfl (by kernel_rfl)) rfl ?_
      refine ⟨_, rfl, Kd.S_set (Kd.S_set (Kd.S_set S5.out G5.out.2.2 HTY.out 0 _) (heap_setCell_same _ _ 0 _ _ _ G5.out.2.2) HTY.out 1 _) (heap_setCell_same _ _ 1 _ _ _ (heap_setCell_same _ _ 0 _ _ _ G5.out.2.2)) HTY.out 2 _, GP_done G5.out _ _ _⟩
/-! ### laws_markIntS: function 13 -/
def laws_markIntS.l0 : Nat → List Int → Int → Int → Option (Int × List Int)
  | 0, _, _, _ => none
  | k + 1, x0, x1, x5 => if x5 < (x0.length : Int) then (if 0 ≤ x5 then (laws_markIntS.l0 k (x0.set (x5 : Int).toNat x1) (wrap64 (x1 + 1)) (wrap64 (x5 + 1))) else (none)) else (some (x1, x0))
def laws_markIntS.f (k : Nat) (l0 : List Int) (a1 : Int) : Option (Int × List Int) := laws_markIntS.l0 k l0 a1 0
set_option maxHeartbeats 8000000 in
set_option maxRecDepth 100000 in
theorem laws_markIntS.calls (k : Nat) (P0_ : Nat → Prop) (u9000_ : Value) (l0 : List Int) (a1 : Int) (r1 : Int) (r2 : List Int) (w0 w : World) (hB : Below w0.heap.size w0 w) (ho0 : Kd.R (Kd.int .i64) 3 w w0.heap.size P0_ u9000_ l0) (h : laws_markIntS.f k l0 a1 = some (r1, r2)) :
    Calls Try.prog 13 #[u9000_, .int .i64 a1] w fun e w' => e = .returned (.int .i64 r1) ∧ Kd.R (Kd.int .i64) 3 w' w0.heap.size (fun k_ => (P0_ k_ ∨ w.heap.size ≤ k_)) u9000_ r2 ∧ Below w0.heap.size w0 w' ∧ Kept w w' (fun k_ => P0_ k_) := by
  have HO0 := amk (show Kd.R (Kd.int .i64) 3 w w0.heap.size (fun k_ => (P0_ k_ ∨ w.heap.size ≤ k_)) u9000_ l0 from Kd.R_mono ho0 (fun k_ hk => (.inl hk)))
  have HK := amk (Kept.refl w (fun k_ => P0_ k_))
  have HW0 := amk hB.size
  have HB := amk hB
  clear hB
  have H : (laws_markIntS.l0 k l0 a1 0) = some (r1, r2) := h
  clear h
  have H' := amk H
  clear H
  go_enter Try.func13, Try.ntmps13
  go_wp2
  go_loopg [1, 5] k (fun kq v1 v5 w' => ∃ (x0_1 : List Int) (x1_1 : Int) (x5_1 : Int), v1 = .int .i64 x1_1 ∧ v5 = .int .i64 x5_1 ∧ Aside0 (laws_markIntS.l0 kq x0_1 x1_1 x5_1 = some (r1, r2)) ∧ Aside0 (kq ≤ k) ∧ Aside0 (Kd.R (Kd.int .i64) 3 w' w0.heap.size (fun k_ => (P0_ k_ ∨ w.heap.size ≤ k_)) u9000_ x0_1) ∧ Aside0 (Kept w w' (fun k_ => P0_ k_)) ∧ Aside0 (Below w0.heap.size w0 w'))
  case atStart => exact ⟨(l0), (a1), (0), (by first | rfl | (simp; done) | (simp [*]; done)), (by first | rfl | (simp; done) | (simp [*]; done)), H', ⟨Nat.le_refl _⟩, ⟨by (with_reducible repeat (first | apply Kd.R_alloc | apply Kd.R_drewN | apply Kd.R_drew)); exact HO0.out⟩, ⟨by repeat (first | (with_reducible first | exact HK.out | apply Kept.alloc | apply Kept.drewN | apply Kept.drew) | exact HK.out)⟩, ⟨by repeat (first | (with_reducible first | exact HB.out | apply ba_ | apply bn_ | apply bd_) | exact HB.out)⟩⟩
  case round =>
    clear H'
    try clear c1; try clear p2
    obtain ⟨x0_1, x1_1, x5_1, rfl, rfl, HA, HK1, HO_0, HK, HB⟩ := hrel
    cases gk with
    | zero => exact absurd HA.out (by simp [laws_markIntS.l0])
    | succ k1 =>
      have H := HA.out
      clear HA
      simp only [laws_markIntS.l0] at H
      by_cases c3 : x5_1 < (x0_1.length : Int)
      · rw [if_pos c3] at H
        have c3b0 : decide (x5_1 < (x0_1.length : Int)) = true := decide_eq_true c3
        clear c3
        by_cases c4 : 0 ≤ x5_1
        · rw [if_pos c4] at H
          have c4b0 : decide (0 ≤ x5_1) = true := decide_eq_true c4
          clear c4
          obtain ⟨y226, hy226⟩ : ∃ y_ : List Int, y_ = (x0_1.set (x5_1 : Int).toNat x1_1) := ⟨_, rfl⟩
          replace H : (laws_markIntS.l0 k1 y226 (wrap64 (x1_1 + 1)) (wrap64 (x5_1 + 1))) = some (r1, r2) := by first | (rw [hy226]; with_reducible exact H) | (have H2_ := (Option.bind_some _ _).symm.trans H; rw [hy226]; with_reducible exact H2_) | (have H2_ := (Option.bind_some _ _).symm.trans H; with_reducible exact H2_) | with_reducible exact H | (rw [hy226]; exact H) | exact H
          have Ny226 := amk hy226
          clear hy226
          have H' := amk H
          clear H
          obtain ⟨Ao6, co6, eo6⟩ := Kd.R_slice HO_0.out
          subst eo6
          have p5 : 0 ≤ (x5_1 : Int) := of_decide_eq_true (by first | (with_reducible assumption) | assumption)
          have q5 : (x5_1 : Int) < ((x0_1.length : Int) : Int) := of_decide_eq_true (by first | (with_reducible assumption) | assumption)
          obtain ⟨go5, co5, eo5, gb5, gl5, cl5, HG5⟩ := Kd.R_form HO_0.out (by omega)
          (first | cases eo5 | (injection eo5 with ea_ en_ ec_; (first | subst ea_ | (injection ea_ with ea_; subst ea_)); subst ec_; clear en_))
          have GB5 := amk gb5
          have GG5 := amk HG5
          clear gb5 gl5 HG5
          have HMgo5 := amk (show (P0_ go5 ∨ w.heap.size ≤ go5) from (HO_0.out.1 _ rfl))
          obtain ⟨hx5_0, hf5_0⟩ := Kd.R_celln 0 HO_0.out (x5_1 : Int) p5 q5
          replace p5 := eq_true p5
          replace q5 := eq_true q5
          have HP7 := Kd.R_putg HO_0.out (x5_1 : Int) x1_1
          go_wp2_with (first | ((with_reducible refine gate_store (t := 3) (p := 15) rfl ?_); refine store_event (t := 3) (p := 15) (v := ?vo_w8) (w1 := (wr.setCell ⟨go5, (x5_1 : Int).toNat, none⟩ (.int .i64 x1_1))) ?hg ?ho ?hn ?hr ?_; (case ho => rfl); (case hg => rfl); (case hn => rfl); (case hr => first | (go_simp; done) | (go_simp; rfl)); intro w8 hw; have hg : wr.grownBy w8 (some go5) := (by rw [hw]; exact HP7.2); have hp_ : Kd.R (Kd.int .i64) 3 w8 w0.heap.size (fun k_ => (P0_ k_ ∨ w.heap.size ≤ k_)) (.slice (some ⟨go5, 0, none⟩) x0_1.length co6) y226 := (by rw [hw, Ny226.out]; exact HP7.1); clear HP7; have n0_ := amk (hp_); have n1_ := amk ((by rw [hw]; exact bs_ (HB.out) GB5.out : Below w0.heap.size w0 w8)); have n2_ := amk (Kept.of_grown (S := (fun k_ => P0_ k_)) hg (by repeat (first | (with_reducible first | exact HK.out | apply Kept.alloc | apply Kept.drewN | apply Kept.drew) | exact HK.out)) (fun k_ e_ => (HO_0.out.1 k_ e_))); clear HO_0; clear HB; clear HK; have HO_0 := n0_; have HB := n1_; have HK := n2_; clear n0_ n1_ n2_; clear hg hw hp_))
          go_roundg k1
          case measure => have := HK1.out; omega
          case rel => exact ⟨(y226), (wrap64 (x1_1 + 1)), (wrap64 (x5_1 + 1)), (by first | rfl | (simp; done) | (simp [*]; done)), (by first | rfl | (simp; done) | (simp [*]; done)), H', ⟨by have := HK1.out; omega⟩, ⟨by (with_reducible repeat (first | apply Kd.R_alloc | apply Kd.R_drewN | apply Kd.R_drew)); exact HO_0.out⟩, ⟨by repeat (first | (with_reducible first | exact HK.out | apply Kept.alloc | apply Kept.drewN | apply Kept.drew) | exact HK.out)⟩, ⟨by repeat (first | (with_reducible first | exact HB.out | apply ba_ | apply bn_ | apply bd_) | exact HB.out)⟩⟩
        · rw [if_neg c4] at H
          exact absurd H (by simp)
      · rw [if_neg c3] at H
        have c3b0 : decide (x5_1 < (x0_1.length : Int)) = false := decide_eq_false c3
        clear c3
        simp only [Option.some.injEq, Prod.mk.injEq] at H
        obtain ⟨rfl, rfl⟩ := H
        obtain ⟨Ao9, co9, eo9⟩ := Kd.R_slice HO_0.out
        subst eo9
        go_wp2
        go_ret
        exact ⟨by first | rfl | (simp [errW_none, errW_some] <;> rfl) | (simp [*, errW_none, errW_some] <;> rfl), by (with_reducible repeat (first | apply Kd.R_alloc | apply Kd.R_drewN | apply Kd.R_drew)); exact HO_0.out, by repeat (first | (with_reducible first | exact HB.out | apply ba_ | apply bn_ | apply bd_) | exact HB.out), by repeat (first | (with_reducible first | exact HK.out | apply Kept.alloc | apply Kept.drewN | apply Kept.drew) | exact HK.out)⟩
/-! laws.markIntSS, by hand: each row is lent, written, and given back. -/
def markRows (k : Nat) : List (List Int) → Int → Option (Int × List (List Int))
  | [], a => some (a, [])
  | x :: t, a => (laws_markIntS.f k x a).bind fun p => (markRows k t p.1).bind fun q => some (q.1, p.2 :: q.2)
def laws_markIntSS.f (k : Nat) (l : List (List Int)) (a : Int) : Option (Int × List (List Int)) := markRows k l a
theorem laws_markIntSS.empty (u : Value) (a1 : Int) (w : World) (A : Option Addr) (c : Nat) (hu : u = .slice A 0 c) : Calls Try.prog 29 #[u, .int .i64 a1] w fun e w' => e = .returned (.int .i64 a1) ∧ w' = w := by
  subst hu
  have hu35 := Try.underlying24
  go_enter Try.func29, Try.ntmps29
  go_wp2
  go_loopg [1, 5] 0 (fun gg s1 s5 wr => s1 = .int .i64 a1 ∧ s5 = .int .i64 0 ∧ wr = w)
  case atStart => exact ⟨rfl, rfl, rfl⟩
  case round =>
    obtain ⟨rfl, rfl, rfl⟩ := hrel
    go_wp2
    go_ret
    exact ⟨rfl, rfl⟩
set_option maxHeartbeats 4000000 in
set_option maxRecDepth 100000 in
theorem laws_markIntSS.calls (k : Nat) (P0_ : Nat → Prop) (u9000_ : Value) (l0 : List (List Int)) (a1 : Int) (r1 : Int) (r2 : List (List Int)) (w0 w : World) (hB : Below w0.heap.size w0 w) (ho0 : Kd.S (Kd.slice 3 (Kd.int .i64)) 27 w w0.heap.size P0_ u9000_ l0) (h : laws_markIntSS.f k l0 a1 = some (r1, r2)) :
    Calls Try.prog 29 #[u9000_, .int .i64 a1] w fun e w' => e = .returned (.int .i64 r1) ∧ Kd.S (Kd.slice 3 (Kd.int .i64)) 27 w' w0.heap.size P0_ u9000_ r2 ∧ Below w0.heap.size w0 w' ∧ Kept w w' P0_ := by
  by_cases hpos : 0 < l0.length
  · obtain ⟨g, cap, rfl, hg1, hg2, _⟩ := Kd.S_form ho0 hpos
    have hbig := (Kd.S_reads' ho0).2.2.2.1
    have hu35 := Try.underlying24
    unfold laws_markIntSS.f at h
    have HO := amk ho0
    have H := amk h
    have HB := amk hB
    clear ho0 h hB hg1 hg2 hpos
    generalize hn : l0.length = n at hbig
    have HN := amk hn
    clear hn
    go_enter Try.func29, Try.ntmps29
    go_wp2
    go_loopg [1, 5] n (fun gg s1 s5 wr => ∃ (i : Nat) (a : Int) (D R' : List (List Int)), s1 = .int .i64 a ∧ s5 = .int .i64 (i : Int) ∧ Aside0 (i ≤ n) ∧ Aside0 (n - i ≤ gg) ∧ Aside0 (D.length = i) ∧ Aside0 (markRows k (l0.drop i) a = some (r1, R')) ∧ Aside0 (r2 = D ++ R') ∧ Aside0 (Kd.S (Kd.slice 3 (Kd.int .i64)) 27 wr w0.heap.size P0_ (.slice (some ⟨g, 0, none⟩) n cap) (D ++ l0.drop i)) ∧ Aside0 (Below w0.heap.size w0 wr) ∧ Aside0 (Kept w wr P0_))
    case atStart => exact ⟨0, a1, [], r2, rfl, rfl, ⟨by omega⟩, ⟨by omega⟩, ⟨rfl⟩, H, ⟨rfl⟩, ⟨by have := HO.out; rw [HN.out] at this; exact this⟩, HB, ⟨Kept.refl _ _⟩⟩
    case round =>
      obtain ⟨i, a, D, R', rfl, rfl, HI, HG, HD, HM, HR2, HS, HBB, HK⟩ := hrel
      by_cases hlt : i < n
      · have hlw : decide ((i : Int) < (n : Int)) = true := decide_eq_true (by omega)
        have hlwn : decide (i < n) = true := decide_eq_true hlt
        have hiz : ((0 : Int) ≤ (i : Int)) = True := eq_true (by omega)
        have hlz2 : ((i : Int) < (n : Int)) = True := eq_true (by omega)
        have hnl := HN.out
        have hdr : l0.drop i = l0[i] :: l0.drop (i + 1) := List.drop_eq_getElem_cons (by omega)
        have hm := HM.out
        rw [hdr] at hm
        unfold markRows at hm
        obtain ⟨p, hp, hm⟩ := Option.bind_eq_some_iff.mp hm
        obtain ⟨q, hq, hm⟩ := Option.bind_eq_some_iff.mp hm
        obtain ⟨pa, px⟩ := p
        obtain ⟨qa, qx⟩ := q
        injection hm with hm
        injection hm with e1 e2
        subst e1
        obtain ⟨oki, cs, hcl, hMx, hcc, hoki, hH⟩ := Kd.S_lend HS.out [] (i : Int) (by omega) (by omega)
        have hx : (D ++ l0.drop i).getD (i : Int).toNat [] = l0[i] := by
          have hd := HD.out
          rw [Int.toNat_natCast, hdr, List.getD_eq_getElem?_getD, List.getElem?_append_right (by omega), hd, Nat.sub_self]
          rfl
        rw [hx] at hMx
        obtain ⟨v, rfl, hRv⟩ := hMx
        have hcell := hcc 0 v rfl
        simp only [Int.toNat_natCast] at hcell
        rw [show i * (Kd.slice 3 (Kd.int .i64)).sz + 0 = i from Nat.mul_one i] at hcell
        have HV := amk hRv
        have HH := amk hH
        have HP := amk hp
        have HQ := amk hq
        have HE2 := amk e2
        have HOK := amk hoki
        have HDR := amk hdr
        have hw1 : wrap64 ((i : Int) + 1) = ((i + 1 : Nat) : Int) := by unfold wrap64; omega
        clear hRv hH hp hq hm e2 hcc hcl hx hdr hoki
        have HLT := amk hlt
        go_wp2_with (go_at_call 13; refine (laws_markIntS.calls k oki _ _ _ _ _ w0 _ HBB.out HV.out HP.out).mono ?_; rintro e w9 ⟨rfl, hr9, hb9, hk9⟩)
        go_roundg (n - (i + 1))
        case measure => have := HG.out; have := HLT.out; omega
        case rel =>
          have hd := HD.out
          have hR9 : (Kd.int .i64).R 3 w9 w0.heap.size oki v px := Kd.R_reok rfl hr9 (fun k_ e_ => HV.out.1 k_ e_)
          have hM9 : (Kd.slice 3 (Kd.int .i64)).M w9 w0.heap.size oki px [v] := ⟨v, rfl, hR9⟩
          have hH9 := Kd.H_kept HH.out hk9 (fun k_ _ hn => hn)
          have hS9 := Kd.H_back hH9 hM9 (fun _ h => h)
          have hset : (D ++ l0.drop i).set (i : Int).toNat px = (D ++ [px]) ++ l0.drop (i + 1) := by
            rw [Int.toNat_natCast, HDR.out, List.set_append_right _ _ (by omega), hd, Nat.sub_self, List.set_cons_zero, List.append_assoc]
            rfl
          rw [hset] at hS9
          refine ⟨i + 1, pa, D ++ [px], qx, rfl, rfl, ⟨by have := HLT.out; omega⟩, ⟨by omega⟩, ⟨by rw [List.length_append, hd]; rfl⟩, HQ, ⟨by rw [HR2.out, ← HE2.out, List.append_assoc]; rfl⟩, ⟨hS9⟩, ⟨hb9⟩, ⟨HK.out.then_ hk9 (fun k_ hk => .inl (HOK.out k_ hk).1)⟩⟩
      · have hlw : decide ((i : Int) < (n : Int)) = false := decide_eq_false (by omega)
        have hlwn : decide (i < n) = false := decide_eq_false hlt
        have hin : i = n := by have := HI.out; omega
        have hm := HM.out
        rw [List.drop_eq_nil_of_le (by rw [HN.out]; omega)] at hm
        unfold markRows at hm
        injection hm with hm
        injection hm with e1 e2
        subst e1
        have HSX := HS.out
        rw [List.drop_eq_nil_of_le (by rw [HN.out]; omega), e2, ← HR2.out] at HSX
        have HSXX := amk HSX
        clear HSX hin hlt e2
        go_wp2
        go_ret
        exact ⟨rfl, HSXX.out, HBB.out, HK.out⟩
  · obtain rfl : l0 = [] := List.length_eq_zero_iff.mp (by omega)
    obtain ⟨A, c, he⟩ := Kd.S_slice ho0
    unfold laws_markIntSS.f markRows at h
    injection h with h
    injection h with e1 e2
    subst e1 e2
    refine (laws_markIntSS.empty u9000_ a1 w A c he).mono ?_
    rintro e w' ⟨rfl, rfl⟩
    exact ⟨rfl, ho0, hB, Kept.refl _ _⟩
/-! laws.markGears, by hand. -/
def laws_markGears.f (k : Nat) (n d : Int) (l : List (List Int)) (a : Int) : Option (Int × List (List Int)) := laws_markIntSS.f k l a
set_option maxRecDepth 100000 in
theorem laws_markGears.calls (k : Nat) (P0_ : Nat → Prop) (n d : Int) (A : Option Addr) (m c : Nat) (l0 : List (List Int)) (a1 : Int) (r1 : Int) (r2 : List (List Int)) (w0 w : World) (hB : Below w0.heap.size w0 w) (hP : ∀ j, P0_ j → j < w.heap.size) (ho0 : Kd.S (Kd.slice 3 (Kd.int .i64)) 27 w w0.heap.size P0_ (.slice A m c) l0) (h : laws_markGears.f k n d l0 a1 = some (r1, r2)) :
    Calls Try.prog 12 #[.agg #[.int .i64 n, .int .i64 d, .slice A m c], .int .i64 a1] w fun e w' => e = .returned (.int .i64 r1) ∧ Kd.S (Kd.slice 3 (Kd.int .i64)) 27 w' w0.heap.size P0_ (.slice A m c) r2 ∧ Below w0.heap.size w0 w' ∧ Kept w w' P0_ := by
  have hu41 := Try.underlying31
  have hu35 := Try.underlying24
  have HO := amk (Kd.S_alloc ho0 (.cells #[.int .i64 n, .int .i64 d, .slice A m c] 31 (0, 0)))
  have H := amk h
  have HB := amk (hB.alloc hB.size (.cells #[.int .i64 n, .int .i64 d, .slice A m c] 31 (0, 0)))
  clear ho0 h hB
  go_enter Try.func12, Try.ntmps12
  go_wp2_with (go_at_call 29; refine (laws_markIntSS.calls k P0_ _ _ _ _ _ w0 _ HB.out HO.out H.out).mono ?_; rintro e w9 ⟨rfl, hs9, hb9, hk9⟩)
  go_ret
  exact ⟨rfl, hs9, hb9, ⟨by have := hk9.1; simp at this; omega, fun i hi hn => (hk9.2 i (by simp; omega) hn).trans (((Below.refl _ w).alloc (Nat.le_refl _) _).block i hi)⟩⟩
/-! laws.FnExactDropKnob, by hand: the argument's rows are marked. (Printed by gendg.py) -/
def Q1d (w : World) (n d : Int) (A : Option Addr) (l c : Nat) (W : World) : Prop := Below w.heap.size w W ∧ W.heap[w.heap.size]? = some (.cells #[.int .i64 n, .int .i64 d, .slice A l c] 26 (0, 0))
def T1d (w : World) (n d : Int) (A : Option Addr) (c : Nat) (L : List (List Int)) (rn rm : Int) (R : List (List Int)) (aw bw : Nat) (Aw : Option Addr) (cw : Nat) (W : World) : Prop := Q1d w n d A L.length c W ∧ W.heap[bw]? = some (.cells #[.int .i64 rn, .int .i64 rm, .slice Aw R.length cw] 31 (0, 0)) ∧ Kd.S (Kd.slice 3 (Kd.int .i64)) 27 W w.heap.size (fun j => aw ≤ j ∧ j < bw) (.slice Aw R.length cw) R ∧ (w.heap.size + 1 ≤ aw ∧ aw ≤ bw ∧ bw < W.heap.size)
def T2d (w : World) (n d : Int) (A : Option Addr) (c : Nat) (L : List (List Int)) (rn rm : Int) (R : List (List Int)) (aw bw : Nat) (Aw : Option Addr) (cw : Nat) (bx : Nat) (Ax : Option Addr) (cx : Nat) (X : List (List Int)) (W : World) : Prop := T1d w n d A c L rn rm R aw bw Aw cw W ∧ W.heap[bx]? = some (.cells #[.int .i64 n, .int .i64 d, .slice Ax L.length cx] 31 (0, 0)) ∧ Kd.S (Kd.slice 3 (Kd.int .i64)) 27 W w.heap.size (fun j => bw + 1 ≤ j ∧ j < bx) (.slice Ax L.length cx) X ∧ (bw + 1 ≤ bx ∧ bx < W.heap.size)
def TKd (w : World) (n d : Int) (A : Option Addr) (c : Nat) (L : List (List Int)) (rn rm : Int) (R : List (List Int)) (aw bw : Nat) (Aw : Option Addr) (cw : Nat) (bx : Nat) (Ax : Option Addr) (cx : Nat) (X : List (List Int)) (bg : Nat) (Ag : Option Addr) (cg : Nat) (G : List (List Int)) (W : World) : Prop := T2d w n d A c L rn rm R aw bw Aw cw bx Ax cx X W ∧ W.heap[bg]? = some (.cells #[.int .i64 rn, .int .i64 rm, .slice Ag R.length cg] 31 (0, 0)) ∧ Kd.S (Kd.slice 3 (Kd.int .i64)) 27 W w.heap.size (fun j => bx + 1 ≤ j ∧ j < bg) (.slice Ag R.length cg) G ∧ (bx + 1 ≤ bg ∧ bg < W.heap.size)
theorem S_ivGd {α : Type} {d : Kd α} {e : Nat} {w : World} {base : Nat} {ok : Nat → Prop} {v : Value} {xs : List α} (h : Kd.S d e w base ok v xs) : Kd.S d e w base (fun j => base ≤ j ∧ j < w.heap.size) v xs := Kd.S_mono (Kd.S_bound h) (fun _ hk => ⟨hk.2.1, hk.2.2.1⟩)
section
variable {w : World} {n d : Int} {A : Option Addr} {c : Nat} {L : List (List Int)} {rn rm : Int} {R : List (List Int)} {aw bw : Nat} {Aw : Option Addr} {cw : Nat} {bx : Nat} {Ax : Option Addr} {cx : Nat} {X : List (List Int)} {bg : Nat} {Ag : Option Addr} {cg : Nat} {G : List (List Int)} {W W2 : World} {X' G' : List (List Int)} {l : Nat}
theorem Q1d_below (h : Q1d w n d A l c W) (hb : Below W.heap.size W W2) : Q1d w n d A l c W2 := ⟨h.1.trans (hb.mono h.1.size), (hb.block _ (three_cellsD h.2).2.2.2.2.2.2).trans h.2⟩
theorem T1d_below (h : T1d w n d A c L rn rm R aw bw Aw cw W) (hb : Below W.heap.size W W2) : T1d w n d A c L rn rm R aw bw Aw cw W2 := by
  obtain ⟨h1, h2, h3, h4⟩ := h
  have hs := hb.size
  exact ⟨Q1d_below h1 hb, (hb.block _ (by omega)).trans h2, Kd.S_below h3 hb, by omega⟩
theorem T2d_below (h : T2d w n d A c L rn rm R aw bw Aw cw bx Ax cx X W) (hb : Below W.heap.size W W2) : T2d w n d A c L rn rm R aw bw Aw cw bx Ax cx X W2 := by
  obtain ⟨h1, h2, h3, h4⟩ := h
  have hs := hb.size
  exact ⟨T1d_below h1 hb, (hb.block _ (by omega)).trans h2, Kd.S_below h3 hb, by omega⟩
theorem TKd_below (h : TKd w n d A c L rn rm R aw bw Aw cw bx Ax cx X bg Ag cg G W) (hb : Below W.heap.size W W2) : TKd w n d A c L rn rm R aw bw Aw cw bx Ax cx X bg Ag cg G W2 := by
  obtain ⟨h1, h2, h3, h4⟩ := h
  have hs := hb.size
  exact ⟨T2d_below h1 hb, (hb.block _ (by omega)).trans h2, Kd.S_below h3 hb, by omega⟩
theorem T1d_make (h : Q1d w n d A L.length c W) (hs : Kd.S (Kd.slice 3 (Kd.int .i64)) 27 W aw (fun j => aw ≤ j ∧ j < W.heap.size) (.slice Aw R.length cw) R) (h1 : w.heap.size + 1 ≤ aw) (h2 : aw ≤ W.heap.size) : T1d w n d A c L rn rm R aw W.heap.size Aw cw (W.alloc (.cells #[.int .i64 rn, .int .i64 rm, .slice Aw R.length cw] 31 (0, 0))) :=
  ⟨Q1d_below h ((Below.refl _ W).alloc (Nat.le_refl _) _), blk_new _ _, Kd.S_alloc (Kd.S_lower hs (by omega)) _, by simp; omega⟩
theorem T2d_make (h : T1d w n d A c L rn rm R aw bw Aw cw W) (hz : W.heap.size = bw + 1) (hb : Below W.heap.size W W2) (hs : Kd.S (Kd.slice 3 (Kd.int .i64)) 27 W2 W.heap.size (fun _ => True) (.slice Ax L.length cx) X) : T2d w n d A c L rn rm R aw bw Aw cw W2.heap.size Ax cx X (W2.alloc (.cells #[.int .i64 n, .int .i64 d, .slice Ax L.length cx] 31 (0, 0))) := by
  have hz2 := hb.size
  have h0 := h.2.2.2
  have hi := S_ivGd hs
  rw [hz] at hi
  exact ⟨T1d_below (T1d_below h hb) ((Below.refl _ W2).alloc (Nat.le_refl _) _), blk_new _ _, Kd.S_alloc (Kd.S_lower hi (by omega)) _, by simp; omega⟩
theorem TKd_make (h : T2d w n d A c L rn rm R aw bw Aw cw bx Ax cx X W) (hz : W.heap.size = bx + 1) (hb : Below W.heap.size W W2) (hs : Kd.S (Kd.slice 3 (Kd.int .i64)) 27 W2 W.heap.size (fun _ => True) (.slice Ag R.length cg) G) : TKd w n d A c L rn rm R aw bw Aw cw bx Ax cx X W2.heap.size Ag cg G (W2.alloc (.cells #[.int .i64 rn, .int .i64 rm, .slice Ag R.length cg] 31 (0, 0))) := by
  have hz2 := hb.size
  have h0 := h.2.2.2
  have h00 := h.1.2.2.2
  have hi := S_ivGd hs
  rw [hz] at hi
  exact ⟨T2d_below (T2d_below h hb) ((Below.refl _ W2).alloc (Nat.le_refl _) _), blk_new _ _, Kd.S_alloc (Kd.S_lower hi (by omega)) _, by simp; omega⟩
theorem TKd_markX (h : TKd w n d A c L rn rm R aw bw Aw cw bx Ax cx X bg Ag cg G W) (hk : Kept W W2 (fun j => bw + 1 ≤ j ∧ j < bx)) (hb : Below w.heap.size w W2) (hs : Kd.S (Kd.slice 3 (Kd.int .i64)) 27 W2 w.heap.size (fun j => bw + 1 ≤ j ∧ j < bx) (.slice Ax L.length cx) X') : TKd w n d A c L rn rm R aw bw Aw cw bx Ax cx X' bg Ag cg G W2 := by
  obtain ⟨⟨⟨⟨a1, a2⟩, b2, b3, b4⟩, c2, c3, c4⟩, d2, d3, d4⟩ := h
  have hz := hk.1
  exact ⟨⟨⟨⟨hb, (hk.2 _ (by omega) (by omega)).trans a2⟩, (hk.2 _ (by omega) (by omega)).trans b2, Kd.S_kept b3 hk (fun j h1 h2 => by omega), by omega⟩, (hk.2 _ (by omega) (by omega)).trans c2, hs, by omega⟩, (hk.2 _ (by omega) (by omega)).trans d2, Kd.S_kept d3 hk (fun j h1 h2 => by omega), by omega⟩
theorem TKd_markG (h : TKd w n d A c L rn rm R aw bw Aw cw bx Ax cx X bg Ag cg G W) (hk : Kept W W2 (fun j => bx + 1 ≤ j ∧ j < bg)) (hb : Below w.heap.size w W2) (hs : Kd.S (Kd.slice 3 (Kd.int .i64)) 27 W2 w.heap.size (fun j => bx + 1 ≤ j ∧ j < bg) (.slice Ag R.length cg) G') : TKd w n d A c L rn rm R aw bw Aw cw bx Ax cx X bg Ag cg G' W2 := by
  obtain ⟨⟨⟨⟨a1, a2⟩, b2, b3, b4⟩, c2, c3, c4⟩, d2, d3, d4⟩ := h
  have hz := hk.1
  exact ⟨⟨⟨⟨hb, (hk.2 _ (by omega) (by omega)).trans a2⟩, (hk.2 _ (by omega) (by omega)).trans b2, Kd.S_kept b3 hk (fun j h1 h2 => by omega), by omega⟩, (hk.2 _ (by omega) (by omega)).trans c2, Kd.S_kept c3 hk (fun j h1 h2 => by omega), by omega⟩, (hk.2 _ (by omega) (by omega)).trans d2, hs, by omega⟩
end
def laws_FnExactDropKnob.f (n d : Int) (l : List (List Int)) (q : Int) : Option Bool := some true
set_option maxHeartbeats 16000000 in
set_option maxRecDepth 100000 in
theorem laws_FnExactDropKnob.walk (k : Nat) (n d : Int) (L : List (List Int)) (q : Int) (rn rm : Int) (R R' X' : List (List Int)) (ok : Bool) (r0 m1 m : Int) (A : Option Addr) (c : Nat) (w : World) (hr : Kd.C (Kd.slice 3 (Kd.int .i64)) w A L.length L) (hc : L.length ≤ c)
    (e1 : laws_szGears.f k n d L 1048576 = some r0) (h0 : 0 ≤ r0) (e2 : laws_toGears.f k n d L = some (n, d, L)) (e3 : spec_DropKnob.f k n d L q = some (rn, rm, R, ok)) (e4 : impl_DropKnob.f k n d L q = some (rn, rm, R, ok)) (e5 : laws_eqGears.f k rn rm R rn rm R = some true) (e6 : laws_eqGears.f k n d L n d L = some true) (e7 : laws_markGears.f k n d L 1 = some (m1, X')) (h7 : 0 ≤ m1) (e8 : laws_markGears.f k rn rm R 1 = some (m, R')) (h8 : 0 ≤ m) (e9 : laws_heldGears.f k rn rm R' 1 = some m) :
    Calls Try.prog 4 #[.agg #[.int .i64 n, .int .i64 d, .slice A L.length c], .int .i64 q] w fun e w' => e = .returned (.bool true) ∧ Below w.heap.size w w' := by
  have hu26 := Try.underlying26
  have hu31 := Try.underlying31
  have hu24 := Try.underlying24
  have hd0 : decide (r0 < 0) = false := decide_eq_false (by omega)
  have hd7 : decide (m1 < 0) = false := decide_eq_false (by omega)
  have hd8 : decide (m < 0) = false := decide_eq_false (by omega)
  have hok : (ok != ok) = false := by cases ok <;> rfl
  have hmm : (m != m) = false := by simp
  have E1 := amk e1
  have E2 := amk e2
  have E3 := amk e3
  have E4 := amk e4
  have E5 := amk e5
  have E6 := amk e6
  have E7 := amk e7
  have E8 := amk e8
  have E9 := amk e9
  have HC := amk hc
  have HR := amk hr
  have QA : Aside0 (Q1d w n d A L.length c (w.alloc (.cells #[.int .i64 n, .int .i64 d, .slice A L.length c] 26 (0, 0)))) := ⟨(Below.refl w.heap.size w).alloc (Nat.le_refl _) _, blk_new _ _⟩
  clear e1 e2 e3 e4 e5 e6 e7 e8 e9 hc hr h0 h7 h8
  go_enter Try.func4, Try.ntmps4
  go_wp2_with (go_at_call 5; refine Calls.mono (laws_szGears.calls k n d _ _ L _ r0 _ (Kd.C_below HR.out QA.out.1) HC.out E1.out) ?_; rintro e w2 ⟨rfl, hb⟩; have Q2 := amk (Q1d_below QA.out hb); have hq0 := (three_cellsD Q2.out.2).1; have hq1 := (three_cellsD Q2.out.2).2.1; have hq2 := (three_cellsD Q2.out.2).2.2.1; clear hb)
  go_wp2_with (go_at_call 7; refine Calls.mono (laws_toGears.calls k n d _ _ L n d L _ (Kd.C_below HR.out Q2.out.1) HC.out E2.out) ?_; rintro e w3 ⟨v3, rfl, hs, hb⟩; have Q3 := amk (Q1d_below Q2.out hb); obtain ⟨A3, c3, rfl⟩ := Kd.S_slice hs; have S3 := amk hs; clear hq0 hq1 hq2; have hq0 := (three_cellsD Q3.out.2).1; have hq1 := (three_cellsD Q3.out.2).2.1; have hq2 := (three_cellsD Q3.out.2).2.2.1; clear hs hb)
  go_wp2_with (go_at_call 15; refine Calls.mono (spec_DropKnob.calls k n d _ _ L q rn rm R ok _ (Kd.S_reads' S3.out).2.2 (Kd.S_reads' S3.out).2.1 E3.out) ?_; rintro e w4 ⟨v4, rfl, hs, hb⟩; obtain ⟨A4, c4, rfl⟩ := Kd.S_slice hs; have TA := amk (T1d_make (rn := rn) (rm := rm) (Q1d_below Q3.out hb) (S_ivGd hs) (three_cellsD Q3.out.2).2.2.2.2.2.2 hb.size); clear hq0 hq1 hq2; have hq0 := (three_cellsD TA.out.1.2).1; have hq1 := (three_cellsD TA.out.1.2).2.1; have hq2 := (three_cellsD TA.out.1.2).2.2.1; have hw0 := (three_cellsD TA.out.2.1).1; have hw1 := (three_cellsD TA.out.2.1).2.1; have hw2 := (three_cellsD TA.out.2.1).2.2.1; clear hs hb)
  go_wp2_with (go_at_call 7; refine Calls.mono (laws_toGears.calls k n d _ _ L n d L _ (Kd.C_below HR.out TA.out.1.1) HC.out E2.out) ?_; rintro e w5 ⟨v5, rfl, hs, hb⟩; obtain ⟨A5, c5, rfl⟩ := Kd.S_slice hs; have S5 := amk hs; have TB := amk (T2d_make TA.out (by simp) hb hs); clear hq0 hq1 hq2 hw0 hw1 hw2; have hq0 := (three_cellsD TB.out.1.1.2).1; have hq1 := (three_cellsD TB.out.1.1.2).2.1; have hq2 := (three_cellsD TB.out.1.1.2).2.2.1; have hw0 := (three_cellsD TB.out.1.2.1).1; have hw1 := (three_cellsD TB.out.1.2.1).2.1; have hw2 := (three_cellsD TB.out.1.2.1).2.2.1; have hx0 := (three_cellsD TB.out.2.1).1; have hx1 := (three_cellsD TB.out.2.1).2.1; have hx2 := (three_cellsD TB.out.2.1).2.2.1; clear hs hb)
  go_wp2_with (go_at_call 16; refine Calls.mono (impl_DropKnob.calls k n d _ _ L q rn rm R ok _ (Kd.C_alloc (Kd.S_reads' S5.out).2.2 _) (Kd.S_reads' S5.out).2.1 E4.out) ?_; rintro e w6 ⟨v6, rfl, hs, hb⟩; obtain ⟨A6, c6, rfl⟩ := Kd.S_slice hs; have ST7 := amk (TKd_make TB.out (by simp) hb hs); clear hq0 hq1 hq2 hw0 hw1 hw2 hx0 hx1 hx2; have hq0 := (three_cellsD ST7.out.1.1.1.2).1; have hq1 := (three_cellsD ST7.out.1.1.1.2).2.1; have hq2 := (three_cellsD ST7.out.1.1.1.2).2.2.1; have hw0 := (three_cellsD ST7.out.1.1.2.1).1; have hw1 := (three_cellsD ST7.out.1.1.2.1).2.1; have hw2 := (three_cellsD ST7.out.1.1.2.1).2.2.1; have hx0 := (three_cellsD ST7.out.1.2.1).1; have hx1 := (three_cellsD ST7.out.1.2.1).2.1; have hx2 := (three_cellsD ST7.out.1.2.1).2.2.1; have hg0 := (three_cellsD ST7.out.2.1).1; have hg1 := (three_cellsD ST7.out.2.1).2.1; have hg2 := (three_cellsD ST7.out.2.1).2.2.1; clear hs hb)
  go_wp2_with (go_at_call 10; refine Calls.mono (laws_eqGears.calls k rn rm _ _ R rn rm _ _ R true _ (Kd.S_reads' ST7.out.2.2.1).2.2 (Kd.S_reads' ST7.out.2.2.1).2.1 (Kd.S_reads' ST7.out.1.1.2.2.1).2.2 (Kd.S_reads' ST7.out.1.1.2.2.1).2.1 E5.out) ?_; rintro e w8 ⟨rfl, hb⟩; have ST8 := amk (TKd_below ST7.out hb); clear hq0 hq1 hq2 hw0 hw1 hw2 hx0 hx1 hx2 hg0 hg1 hg2; have hq0 := (three_cellsD ST8.out.1.1.1.2).1; have hq1 := (three_cellsD ST8.out.1.1.1.2).2.1; have hq2 := (three_cellsD ST8.out.1.1.1.2).2.2.1; have hw0 := (three_cellsD ST8.out.1.1.2.1).1; have hw1 := (three_cellsD ST8.out.1.1.2.1).2.1; have hw2 := (three_cellsD ST8.out.1.1.2.1).2.2.1; have hx0 := (three_cellsD ST8.out.1.2.1).1; have hx1 := (three_cellsD ST8.out.1.2.1).2.1; have hx2 := (three_cellsD ST8.out.1.2.1).2.2.1; have hg0 := (three_cellsD ST8.out.2.1).1; have hg1 := (three_cellsD ST8.out.2.1).2.1; have hg2 := (three_cellsD ST8.out.2.1).2.2.1; clear hb)
  have ST8d := amk (TKd_below ST8.out (Below.refl _ w8).drew)
  have HS : Aside0 (w8.drew.cell? ⟨w5.heap.size, 0, none⟩ = some (.int .i64 n) ∧ w8.drew.cell? ⟨w5.heap.size, 1, none⟩ = some (.int .i64 d) ∧ w8.drew.cell? ⟨w5.heap.size, 2, none⟩ = some (.slice A5 L.length c5) ∧ w8.drew.cell? ⟨w.heap.size, 0, none⟩ = some (.int .i64 n) ∧ w8.drew.cell? ⟨w.heap.size, 1, none⟩ = some (.int .i64 d) ∧ w8.drew.cell? ⟨w.heap.size, 2, none⟩ = some (.slice A L.length c)) := ⟨⟨(three_cellsD ST8d.out.1.2.1).1, (three_cellsD ST8d.out.1.2.1).2.1, (three_cellsD ST8d.out.1.2.1).2.2.1, (three_cellsD ST8d.out.1.1.1.2).1, (three_cellsD ST8d.out.1.1.1.2).2.1, (three_cellsD ST8d.out.1.1.1.2).2.2.1⟩⟩
  go_region_held3 (fun w' => w'.cell? ⟨w5.heap.size, 0, none⟩ = some (.int .i64 n) ∧ w'.cell? ⟨w5.heap.size, 1, none⟩ = some (.int .i64 d) ∧ w'.cell? ⟨w5.heap.size, 2, none⟩ = some (.slice A5 L.length c5) ∧ w'.cell? ⟨w.heap.size, 0, none⟩ = some (.int .i64 n) ∧ w'.cell? ⟨w.heap.size, 1, none⟩ = some (.int .i64 d) ∧ w'.cell? ⟨w.heap.size, 2, none⟩ = some (.slice A L.length c)) (first | exact ⟨(three_cellsD ST10.out.1.2.1).1, (three_cellsD ST10.out.1.2.1).2.1, (three_cellsD ST10.out.1.2.1).2.2.1, (three_cellsD ST10.out.1.1.1.2).1, (three_cellsD ST10.out.1.1.1.2).2.1, (three_cellsD ST10.out.1.1.1.2).2.2.1⟩ | exact ⟨(three_cellsD ST9.out.1.2.1).1, (three_cellsD ST9.out.1.2.1).2.1, (three_cellsD ST9.out.1.2.1).2.2.1, (three_cellsD ST9.out.1.1.1.2).1, (three_cellsD ST9.out.1.1.1.2).2.1, (three_cellsD ST9.out.1.1.1.2).2.2.1⟩ | exact HS.out) ((first | (go_at_call 7; refine Calls.mono (laws_toGears.calls k n d _ _ L n d L _ (Kd.C_below HR.out ST8d.out.1.1.1.1) HC.out E2.out) ?_; rintro e w9 ⟨v9, rfl, hs, hb⟩; have ST9 := amk (TKd_below ST8d.out hb); obtain ⟨A9, c9, rfl⟩ := Kd.S_slice hs; have S9 := amk hs; clear hs hb) | (go_at_call 10; refine Calls.mono (laws_eqGears.calls k n d _ _ L n d _ _ L true _ (Kd.S_reads' ST9.out.1.2.2.1).2.2 (Kd.S_reads' ST9.out.1.2.2.1).2.1 (Kd.S_reads' S9.out).2.2 (Kd.S_reads' S9.out).2.1 E6.out) ?_; rintro e w10 ⟨rfl, hb⟩; have ST10 := amk (TKd_below ST9.out hb); clear hb)))
  clear hq0 hq1 hq2 hw0 hw1 hw2 hx0 hx1 hx2 hg0 hg1 hg2
  have hq0 := (three_cellsD ST10.out.1.1.1.2).1
  have hq1 := (three_cellsD ST10.out.1.1.1.2).2.1
  have hq2 := (three_cellsD ST10.out.1.1.1.2).2.2.1
  have hw0 := (three_cellsD ST10.out.1.1.2.1).1
  have hw1 := (three_cellsD ST10.out.1.1.2.1).2.1
  have hw2 := (three_cellsD ST10.out.1.1.2.1).2.2.1
  have hx0 := (three_cellsD ST10.out.1.2.1).1
  have hx1 := (three_cellsD ST10.out.1.2.1).2.1
  have hx2 := (three_cellsD ST10.out.1.2.1).2.2.1
  have hg0 := (three_cellsD ST10.out.2.1).1
  have hg1 := (three_cellsD ST10.out.2.1).2.1
  have hg2 := (three_cellsD ST10.out.2.1).2.2.1;
  go_wp2_with (go_at_call_of 12 (Value.agg #[Value.int .i64 n, Value.int .i64 d, Value.slice A5 L.length c5]); refine Calls.mono (laws_markGears.calls k (fun j => w4.heap.size + 1 ≤ j ∧ j < w5.heap.size) n d _ _ _ L 1 m1 X' w _ ST10.out.1.1.1.1 (fun j hj => by have h1 := ST10.out.1.1.2.2.2; have h2 := ST10.out.1.2.2.2; have h3 := ST10.out.2.2.2; omega) ST10.out.1.2.2.1 E7.out) ?_; rintro e w13 ⟨rfl, hs, hb, hk⟩; have ST13 := amk (TKd_markX ST10.out hk hb hs); clear hq0 hq1 hq2 hw0 hw1 hw2 hx0 hx1 hx2 hg0 hg1 hg2; have hq0 := (three_cellsD ST13.out.1.1.1.2).1; have hq1 := (three_cellsD ST13.out.1.1.1.2).2.1; have hq2 := (three_cellsD ST13.out.1.1.1.2).2.2.1; have hw0 := (three_cellsD ST13.out.1.1.2.1).1; have hw1 := (three_cellsD ST13.out.1.1.2.1).2.1; have hw2 := (three_cellsD ST13.out.1.1.2.1).2.2.1; have hx0 := (three_cellsD ST13.out.1.2.1).1; have hx1 := (three_cellsD ST13.out.1.2.1).2.1; have hx2 := (three_cellsD ST13.out.1.2.1).2.2.1; have hg0 := (three_cellsD ST13.out.2.1).1; have hg1 := (three_cellsD ST13.out.2.1).2.1; have hg2 := (three_cellsD ST13.out.2.1).2.2.1; clear hs hb hk)
  go_wp2_with (go_at_call 10; refine Calls.mono (laws_eqGears.calls k rn rm _ _ R rn rm _ _ R true _ (Kd.S_reads' ST13.out.2.2.1).2.2 (Kd.S_reads' ST13.out.2.2.1).2.1 (Kd.S_reads' ST13.out.1.1.2.2.1).2.2 (Kd.S_reads' ST13.out.1.1.2.2.1).2.1 E5.out) ?_; rintro e w14 ⟨rfl, hb⟩; have ST14 := amk (TKd_below ST13.out hb); clear hq0 hq1 hq2 hw0 hw1 hw2 hx0 hx1 hx2 hg0 hg1 hg2; have hq0 := (three_cellsD ST14.out.1.1.1.2).1; have hq1 := (three_cellsD ST14.out.1.1.1.2).2.1; have hq2 := (three_cellsD ST14.out.1.1.1.2).2.2.1; have hw0 := (three_cellsD ST14.out.1.1.2.1).1; have hw1 := (three_cellsD ST14.out.1.1.2.1).2.1; have hw2 := (three_cellsD ST14.out.1.1.2.1).2.2.1; have hx0 := (three_cellsD ST14.out.1.2.1).1; have hx1 := (three_cellsD ST14.out.1.2.1).2.1; have hx2 := (three_cellsD ST14.out.1.2.1).2.2.1; have hg0 := (three_cellsD ST14.out.2.1).1; have hg1 := (three_cellsD ST14.out.2.1).2.1; have hg2 := (three_cellsD ST14.out.2.1).2.2.1; clear hb)
  go_wp2_with (go_at_call_of 12 (Value.agg #[Value.int .i64 rn, Value.int .i64 rm, Value.slice A6 R.length c6]); refine Calls.mono (laws_markGears.calls k (fun j => w5.heap.size + 1 ≤ j ∧ j < w6.heap.size) rn rm _ _ _ R 1 m R' w _ ST14.out.1.1.1.1 (fun j hj => by have h1 := ST14.out.1.1.2.2.2; have h2 := ST14.out.1.2.2.2; have h3 := ST14.out.2.2.2; omega) ST14.out.2.2.1 E8.out) ?_; rintro e w17 ⟨rfl, hs, hb, hk⟩; have ST17 := amk (TKd_markG ST14.out hk hb hs); clear hq0 hq1 hq2 hw0 hw1 hw2 hx0 hx1 hx2 hg0 hg1 hg2; have hq0 := (three_cellsD ST17.out.1.1.1.2).1; have hq1 := (three_cellsD ST17.out.1.1.1.2).2.1; have hq2 := (three_cellsD ST17.out.1.1.1.2).2.2.1; have hw0 := (three_cellsD ST17.out.1.1.2.1).1; have hw1 := (three_cellsD ST17.out.1.1.2.1).2.1; have hw2 := (three_cellsD ST17.out.1.1.2.1).2.2.1; have hx0 := (three_cellsD ST17.out.1.2.1).1; have hx1 := (three_cellsD ST17.out.1.2.1).2.1; have hx2 := (three_cellsD ST17.out.1.2.1).2.2.1; have hg0 := (three_cellsD ST17.out.2.1).1; have hg1 := (three_cellsD ST17.out.2.1).2.1; have hg2 := (three_cellsD ST17.out.2.1).2.2.1; clear hs hb hk)
  have hlen : R'.length = R.length := (Kd.S_reads' ST17.out.2.2.1).1.symm
  have HH : ∀ W, Kd.C (Kd.slice 3 (Kd.int .i64)) W A6 R'.length R' → Calls Try.prog 14 #[.agg #[.int .i64 rn, .int .i64 rm, .slice A6 R.length c6], .int .i64 1] W fun e w' => e = .returned (.int .i64 m) ∧ Below W.heap.size W w' := fun W hC => by
    have := laws_heldGears.calls k rn rm A6 c6 R' 1 m W hC (by have := (Kd.S_reads' ST17.out.2.2.1).2.1; omega) E9.out
    rw [hlen] at this
    exact this
  have HHA := amk HH
  have HLN := amk hlen
  clear HH hlen
  go_wp2_with (go_at_call 14; refine Calls.mono (HHA.out _ (Kd.S_reads' ST17.out.2.2.1).2.2) ?_; rintro e w19 ⟨rfl, hb⟩; have ST19 := amk (TKd_below ST17.out hb); clear hq0 hq1 hq2 hw0 hw1 hw2 hx0 hx1 hx2 hg0 hg1 hg2; have hq0 := (three_cellsD ST19.out.1.1.1.2).1; have hq1 := (three_cellsD ST19.out.1.1.1.2).2.1; have hq2 := (three_cellsD ST19.out.1.1.1.2).2.2.1; have hw0 := (three_cellsD ST19.out.1.1.2.1).1; have hw1 := (three_cellsD ST19.out.1.1.2.1).2.1; have hw2 := (three_cellsD ST19.out.1.1.2.1).2.2.1; have hx0 := (three_cellsD ST19.out.1.2.1).1; have hx1 := (three_cellsD ST19.out.1.2.1).2.1; have hx2 := (three_cellsD ST19.out.1.2.1).2.2.1; have hg0 := (three_cellsD ST19.out.2.1).1; have hg1 := (three_cellsD ST19.out.2.1).2.1; have hg2 := (three_cellsD ST19.out.2.1).2.2.1; clear hb)
  go_wp2_with (go_at_call 7; refine Calls.mono (laws_toGears.calls k n d _ _ L n d L _ (Kd.C_below HR.out ST19.out.1.1.1.1) HC.out E2.out) ?_; rintro e w24 ⟨v24, rfl, hs, hb⟩; have ST24 := amk (TKd_below ST19.out hb); obtain ⟨A24, c24, rfl⟩ := Kd.S_slice hs; have S24 := amk hs; clear hq0 hq1 hq2 hw0 hw1 hw2 hx0 hx1 hx2 hg0 hg1 hg2; have hq0 := (three_cellsD ST24.out.1.1.1.2).1; have hq1 := (three_cellsD ST24.out.1.1.1.2).2.1; have hq2 := (three_cellsD ST24.out.1.1.1.2).2.2.1; have hw0 := (three_cellsD ST24.out.1.1.2.1).1; have hw1 := (three_cellsD ST24.out.1.1.2.1).2.1; have hw2 := (three_cellsD ST24.out.1.1.2.1).2.2.1; have hx0 := (three_cellsD ST24.out.1.2.1).1; have hx1 := (three_cellsD ST24.out.1.2.1).2.1; have hx2 := (three_cellsD ST24.out.1.2.1).2.2.1; have hg0 := (three_cellsD ST24.out.2.1).1; have hg1 := (three_cellsD ST24.out.2.1).2.1; have hg2 := (three_cellsD ST24.out.2.1).2.2.1; clear hs hb)
  go_wp2_with (go_at_call 16; refine Calls.mono (impl_DropKnob.calls k n d _ _ L q rn rm R ok _ (Kd.S_reads' S24.out).2.2 (Kd.S_reads' S24.out).2.1 E4.out) ?_; rintro e w25 ⟨v25, rfl, hs, hb⟩; obtain ⟨A25, c25, rfl⟩ := Kd.S_slice hs; have ST25 := amk (TKd_below (TKd_below ST24.out hb) ((Below.refl _ w25).alloc (Nat.le_refl _) (.cells #[.int .i64 rn, .int .i64 rm, .slice A25 R.length c25] 31 (0, 0)))); have S25 := amk (Kd.S_alloc hs (.cells #[.int .i64 rn, .int .i64 rm, .slice A25 R.length c25] 31 (0, 0))); clear hq0 hq1 hq2 hw0 hw1 hw2 hx0 hx1 hx2 hg0 hg1 hg2; have hq0 := (three_cellsD ST25.out.1.1.1.2).1; have hq1 := (three_cellsD ST25.out.1.1.1.2).2.1; have hq2 := (three_cellsD ST25.out.1.1.1.2).2.2.1; have hw0 := (three_cellsD ST25.out.1.1.2.1).1; have hw1 := (three_cellsD ST25.out.1.1.2.1).2.1; have hw2 := (three_cellsD ST25.out.1.1.2.1).2.2.1; have hx0 := (three_cellsD ST25.out.1.2.1).1; have hx1 := (three_cellsD ST25.out.1.2.1).2.1; have hx2 := (three_cellsD ST25.out.1.2.1).2.2.1; have hg0 := (three_cellsD ST25.out.2.1).1; have hg1 := (three_cellsD ST25.out.2.1).2.1; have hg2 := (three_cellsD ST25.out.2.1).2.2.1; clear hs hb)
  go_wp2_with (go_at_call 10; refine Calls.mono (laws_eqGears.calls k rn rm _ _ R rn rm _ _ R true _ (Kd.S_reads' S25.out).2.2 (Kd.S_reads' S25.out).2.1 (Kd.S_reads' ST25.out.1.1.2.2.1).2.2 (Kd.S_reads' ST25.out.1.1.2.2.1).2.1 E5.out) ?_; rintro e w26 ⟨rfl, hb⟩; have ST26 := amk (TKd_below ST25.out hb); clear hq0 hq1 hq2 hw0 hw1 hw2 hx0 hx1 hx2 hg0 hg1 hg2; have hq0 := (three_cellsD ST26.out.1.1.1.2).1; have hq1 := (three_cellsD ST26.out.1.1.1.2).2.1; have hq2 := (three_cellsD ST26.out.1.1.1.2).2.2.1; have hw0 := (three_cellsD ST26.out.1.1.2.1).1; have hw1 := (three_cellsD ST26.out.1.1.2.1).2.1; have hw2 := (three_cellsD ST26.out.1.1.2.1).2.2.1; have hx0 := (three_cellsD ST26.out.1.2.1).1; have hx1 := (three_cellsD ST26.out.1.2.1).2.1; have hx2 := (three_cellsD ST26.out.1.2.1).2.2.1; have hg0 := (three_cellsD ST26.out.2.1).1; have hg1 := (three_cellsD ST26.out.2.1).2.1; have hg2 := (three_cellsD ST26.out.2.1).2.2.1; clear hb)
  go_wp2_with (go_at_call 14; refine Calls.mono (HHA.out _ (Kd.S_reads' ST26.out.2.2.1).2.2) ?_; rintro e w28 ⟨rfl, hb⟩; have ST28 := amk (TKd_below ST26.out hb); clear hq0 hq1 hq2 hw0 hw1 hw2 hx0 hx1 hx2 hg0 hg1 hg2; have hq0 := (three_cellsD ST28.out.1.1.1.2).1; have hq1 := (three_cellsD ST28.out.1.1.1.2).2.1; have hq2 := (three_cellsD ST28.out.1.1.1.2).2.2.1; have hw0 := (three_cellsD ST28.out.1.1.2.1).1; have hw1 := (three_cellsD ST28.out.1.1.2.1).2.1; have hw2 := (three_cellsD ST28.out.1.1.2.1).2.2.1; have hx0 := (three_cellsD ST28.out.1.2.1).1; have hx1 := (three_cellsD ST28.out.1.2.1).2.1; have hx2 := (three_cellsD ST28.out.1.2.1).2.2.1; have hg0 := (three_cellsD ST28.out.2.1).1; have hg1 := (three_cellsD ST28.out.2.1).2.1; have hg2 := (three_cellsD ST28.out.2.1).2.2.1; clear hb)
  go_ret
  exact ⟨rfl, ST28.out.1.1.1.1⟩
section
/-! What a readable argument holds, told by kinds: the bridge from a statement's reading to the print's words. -/
open Go.WideShapes in
def Opens {α : Type} (P : Program) (t : TypeId) (d : Kd α) (V : α → Prop) : Prop :=
  ∀ (H : Type) (enc : TypeId × Value → H) (w : World) (base : Nat) (spare : Nat → Bool) (held : Bool) (fuel : Nat) (cs : List Value) (x : DataW H × List MemPlace),
    DataW.trod enc P w base spare held fuel t cs = some x → ∃ a : α, d.K w a cs ∧ V a
def IntV (a : Int) : Prop := -9223372036854775808 ≤ a ∧ a ≤ 9223372036854775807
def ListV {α : Type} (V : α → Prop) (l : List α) : Prop := l.length ≤ 9223372036854775807 ∧ ∀ x ∈ l, V x
theorem opens_int {P : Program} {t : TypeId} (ht : P.underlying t = some (.int .i64)) : Opens P t (Kd.int .i64) IntV := by
  intro H enc w base spare held fuel cs x h
  obtain ⟨n, rfl, _, hw⟩ := DataW.trod_int ht h
  refine ⟨n, rfl, ?_⟩
  have hb : (IntKind.i64.min ≤ n ∧ n ≤ IntKind.i64.max) := by simpa [Lit.wf] using hw
  have e1 : IntKind.i64.min = -9223372036854775808 := rfl
  have e2 : IntKind.i64.max = 9223372036854775807 := rfl
  rw [e1, e2] at hb
  unfold IntV
  omega
theorem cells_list {w : World} {base : Nat} {a : Addr} {n : Nat} {cs : List Value} (h : w.cells? base a n = some cs) : cs.length = n ∧ ∀ i u, cs[i]? = some u → w.cell? (a.add i) = some u := by
  unfold World.cells? at h
  split at h
  · have hl := mapM_some_length h
    refine ⟨by simpa using hl, fun i u hu => ?_⟩
    have hi : i < n := by
      have := (List.getElem?_eq_some_iff.1 hu).1
      rw [hl] at this; simpa using this
    have := mapM_some_get h i i (by simp [hi])
    rw [hu] at this
    exact this
  · cases h
theorem opens_slice {α : Type} {P : Program} {t e : TypeId} {d : Kd α} {V : α → Prop} (ht : P.underlying t = some (.slice e)) (hd : Opens P e d V) (hsz : P.cellsOf e = d.sz) : Opens P t (Kd.slice e d) (ListV V) := by
  intro H enc w base spare held fuel cs x h
  rcases Go.Deep.open_slice ht h with ⟨rfl, _⟩ | ⟨a, len, cap, m, n, D, Pl, rfl, _, hl, hm, hmm, _, hel⟩
  · exact ⟨[], ⟨none, 0, rfl, Nat.le_refl _, ⟨rfl, by simp, fun h0 => absurd h0 (by simp)⟩⟩, ⟨by simp, fun x hx => by simp at hx⟩⟩
  · have hle : len ≤ m := by rw [hmm]; split <;> omega
    have each : ∀ i : Nat, ∃ a' : Option α, i < len → ∃ z cs', a' = some z ∧ V z ∧ d.K w z cs' ∧ ∀ j u, cs'[j]? = some u → w.cell? (a.add (i * d.sz + j)) = some u := by
      intro i
      by_cases hi : i < len
      · obtain ⟨cs', h1, h2⟩ := hel i (by omega)
        obtain ⟨z, hK, hV⟩ := hd H enc w base spare held n cs' _ h2
        refine ⟨some z, fun _ => ⟨z, cs', rfl, hV, hK, fun j u hu => ?_⟩⟩
        obtain ⟨_, hc⟩ := cells_list h1
        have := hc j u hu
        rw [Go.Deep.add_add, hsz] at this
        exact this
      · exact ⟨none, fun h0 => absurd h0 hi⟩
    have ⟨f, hf⟩ := Classical.axiomOfChoice each
    have hz : ∀ i, i < len → ∃ z, f i = some z ∧ V z ∧ ∃ cs', d.K w z cs' ∧ ∀ j u, cs'[j]? = some u → w.cell? (a.add (i * d.sz + j)) = some u := by
      intro i hi
      obtain ⟨z, cs', h1, h2, h3, h4⟩ := hf i hi
      exact ⟨z, h1, h2, cs', h3, h4⟩
    have hlist : ∃ l : List α, l.length = len ∧ ∀ i, i < len → f i = l[i]? := by
      clear hf each hel hmm hle
      have : ∀ n, n ≤ len → ∃ l : List α, l.length = n ∧ ∀ i, i < n → f i = l[i]? := by
        intro n
        induction n with
        | zero => intro _; exact ⟨[], rfl, fun i hi => by omega⟩
        | succ n ih =>
          intro hn
          obtain ⟨l, hl1, hl2⟩ := ih (by omega)
          obtain ⟨z, h1, _⟩ := hz n (by omega)
          refine ⟨l ++ [z], by simp [hl1], fun i hi => ?_⟩
          by_cases e : i < n
          · rw [List.getElem?_append_left (by omega)]; exact hl2 i e
          · obtain rfl : i = n := by omega
            rw [h1, ← hl1]; simp
      exact this len (Nat.le_refl _)
    obtain ⟨l, hlen, hget⟩ := hlist
    have hV : ∀ x ∈ l, V x := by
      intro x hx
      obtain ⟨i, hi, rfl⟩ := List.getElem_of_mem hx
      obtain ⟨z, h1, h2, _⟩ := hz i (by omega)
      have h3 := hget i (by omega)
      rw [h1, List.getElem?_eq_getElem hi] at h3
      injection h3 with h3
      rw [← h3]; exact h2
    unfold maxLen at hm
    subst hlen
    refine ⟨l, ⟨some a, cap, rfl, hl, ⟨rfl, by omega, fun _ => ⟨a, rfl, fun j p hp => ?_⟩⟩⟩, ⟨by omega, hV⟩⟩
    have hj : j < l.length := (List.getElem?_eq_some_iff.1 hp).1
    obtain ⟨z, h1, _, cs', h3, h4⟩ := hz j hj
    have h5 := hget j hj
    rw [h1, hp] at h5
    injection h5 with h5
    subst h5
    exact ⟨cs', d.K_len h3, h3, h4⟩
theorem opens_pair {α β : Type} {P : Program} {t : TypeId} {f0 f1 : Field} {d0 : Kd α} {d1 : Kd β} {V0 : α → Prop} {V1 : β → Prop} (ht : P.underlying t = some (.struct #[f0, f1]))
    (h0 : Opens P f0.type d0 V0) (h1 : Opens P f1.type d1 V1) (o0 : f0.offset = 0) (o1 : f1.offset = d0.sz) (z0 : P.cellsOf f0.type = d0.sz) (z1 : P.cellsOf f1.type = d1.sz) (zt : P.cellsOf t = d0.sz + d1.sz) :
    Opens P t (Kd.pair d0 d1) (fun x => V0 x.1 ∧ V1 x.2) := by
  intro H enc w base spare held fuel cs x h
  obtain ⟨y0, y1, n, _, hl, g0, g1⟩ := ChangeShapes.trod_struct2 ht h
  rw [o0, z0, List.drop_zero] at g0
  rw [o1, z1] at g1
  obtain ⟨a, ka, va⟩ := h0 H enc w base spare held n _ _ g0
  obtain ⟨b, kb, vb⟩ := h1 H enc w base spare held n _ _ g1
  refine ⟨(a, b), ⟨_, _, ?_, ka, kb⟩, va, vb⟩
  rw [List.take_of_length_le (l := cs.drop d0.sz) (by rw [List.length_drop, hl, zt]; omega), List.take_append_drop]
theorem opens_iso {α β : Type} {P : Program} {t : TypeId} {d : Kd α} {V : α → Prop} (h : Opens P t d V) (f : β → α) (g : α → β) (e : ∀ a, f (g a) = a) : Opens P t (Kd.iso d f) (fun x => V (f x)) := by
  intro H enc w base spare held fuel cs x hx
  obtain ⟨a, ka, va⟩ := h H enc w base spare held fuel cs x hx
  exact ⟨g a, by show d.K w (f (g a)) cs; rw [e]; exact ka, by show V (f (g a)); rw [e]; exact va⟩
section
variable {H : Type} {enc : TypeId × Value → H} {P : Program} {w : World} {base : Nat} {spare : Nat → Bool} {held : Bool} {r : Reach} {b0 : Nat} {t : TypeId} {v : Value} {x : DataW H} {p : List MemPlace}
theorem arg_struct {α : Type} {d : Kd α} {V : α → Prop} (ho : Opens P t d V) {fs : Array Field} (hs : P.underlying t = some (.struct fs)) (hv : Value.okWide P w r b0 t v) (h : DataW.Trod enc P w base spare held t v x p) :
    ∃ a cs, v = .agg (List.toArray cs) ∧ d.K w a cs ∧ V a := by
  obtain ⟨cs, rfl, _⟩ := WideShapes.okWide_struct hs hv
  obtain ⟨fuel, hf⟩ := h
  obtain ⟨a, hk, hV⟩ := ho H enc w base spare held fuel _ _ hf
  exact ⟨a, cs.toList, by simp, by simpa [Value.cells] using hk, hV⟩
theorem arg_int (ht : P.underlying t = some (.int .i64)) (hv : Value.okWide P w r b0 t v) (h : DataW.Trod enc P w base spare held t v x p) : ∃ a, v = .int .i64 a ∧ IntV a := by
  obtain ⟨a, rfl, _, _, hw⟩ := ChangeShapes.open_int ht hv h
  have hb : (IntKind.i64.min ≤ a ∧ a ≤ IntKind.i64.max) := by simpa [Lit.wf] using hw
  exact ⟨a, rfl, hb.1, hb.2⟩
theorem arg_lt (h : DataW.Trod enc P w base spare held t v x p) : ∀ y ∈ p, y.block < w.heap.size := by
  obtain ⟨m, hm⟩ := h
  exact DataW.trod_lt m _ _ _ hm
end
end
/-! Locks: which numbers are one, how many codes there are. -/
def lockB (w d : Int) : Bool := decide (1 ≤ w) && decide (w ≤ 6) && decide (2 ≤ d) && decide (d ≤ 10)
def smallB (w d m : Int) : Bool := lockB w d && decide (d ^ w.toNat ≤ m)
theorem lockB_iff {w d : Int} : lockB w d = true ↔ 1 ≤ w ∧ w ≤ 6 ∧ 2 ≤ d ∧ d ≤ 10 := by
  unfold lockB; simp only [Bool.and_eq_true, decide_eq_true_eq]; constructor
  · rintro ⟨⟨⟨a, b⟩, c⟩, e⟩; exact ⟨a, b, c, e⟩
  · rintro ⟨a, b, c, e⟩; exact ⟨⟨⟨a, b⟩, c⟩, e⟩
theorem smallB_iff {w d m : Int} : smallB w d m = true ↔ (1 ≤ w ∧ w ≤ 6 ∧ 2 ≤ d ∧ d ≤ 10) ∧ d ^ w.toNat ≤ m := by
  unfold smallB; rw [Bool.and_eq_true, lockB_iff, decide_eq_true_eq]
theorem pow_one_le {d : Int} (h : 1 ≤ d) : ∀ n : Nat, 1 ≤ d ^ n
  | 0 => by simp
  | n + 1 => by
    have ih := pow_one_le h n
    rw [Int.pow_succ]
    calc (1 : Int) ≤ d ^ n := ih
      _ = d ^ n * 1 := by omega
      _ ≤ d ^ n * d := Int.mul_le_mul_of_nonneg_left h (by omega)
theorem pow_mono {d : Int} (h : 1 ≤ d) {m n : Nat} (hmn : m ≤ n) : d ^ m ≤ d ^ n := by
  obtain ⟨k, rfl⟩ : ∃ k, n = m + k := ⟨n - m, by omega⟩
  have h1 := pow_one_le h k
  have h2 := pow_one_le h m
  rw [Int.pow_add]
  calc d ^ m = d ^ m * 1 := by omega
    _ ≤ d ^ m * d ^ k := Int.mul_le_mul_of_nonneg_left h1 (by omega)
theorem pow_base {d e : Int} (h0 : 0 ≤ d) (h : d ≤ e) : ∀ n : Nat, d ^ n ≤ e ^ n
  | 0 => by simp
  | n + 1 => by
    have ih := pow_base h0 h n
    rw [Int.pow_succ, Int.pow_succ]
    have hn : 0 ≤ d ^ n := Int.pow_nonneg h0
    have hn' : 0 ≤ e ^ n := Int.pow_nonneg (by omega)
    exact Int.mul_le_mul ih h h0 hn'
theorem pow_bound {d : Int} {n : Nat} (h1 : 1 ≤ d) (h2 : d ≤ 10) (hn : n ≤ 6) : 1 ≤ d ^ n ∧ d ^ n ≤ 1000000 := by
  refine ⟨pow_one_le h1 n, ?_⟩
  have a := pow_base (by omega) h2 n
  have b : (10 : Int) ^ n ≤ 10 ^ 6 := pow_mono (by omega) hn
  have c : (10 : Int) ^ 6 = 1000000 := by decide
  omega
/-! impl's functions on locks: what they come to. -/
theorem impl_within.is (a b c : Int) : impl_within.f a b c = some (decide (b ≤ a ∧ a ≤ c)) := by
  unfold impl_within.f
  by_cases h : b ≤ a
  · rw [if_pos h]; congr 1; simp [h]
  · rw [if_neg h]; congr 1; simp [h]
theorem impl_IsLock.is (w d : Int) : impl_IsLock.f w d = some (lockB w d) := by
  unfold impl_IsLock.f lockB
  simp only [impl_within.is, Option.bind_some]
  by_cases h : 1 ≤ w ∧ w ≤ 6 <;> simp [h]
theorem impl_power.lev (d : Int) (h1 : 1 ≤ d) (h2 : d ≤ 10) (n : Int) (hn : n ≤ 6) : ∀ (j : Nat) (i : Int), 0 ≤ i → i ≤ n → n - i = j → Ev (fun k => impl_power.l0 k d (d ^ i.toNat) n i) (d ^ n.toNat) := by
  intro j
  induction j with
  | zero =>
    intro i h0 hi hj
    obtain rfl : i = n := by omega
    exact Ev.step (fun k => rfl) (Ev.no (by omega) (Ev.now _))
  | succ j ih =>
    intro i h0 hi hj
    refine Ev.step (fun k => rfl) (Ev.yes (by omega) ?_)
    have hb := pow_bound h1 h2 (n := i.toNat) (by omega)
    have hm : d ^ i.toNat * d = d ^ (i + 1).toNat := by rw [show (i + 1).toNat = i.toNat + 1 by omega, Int.pow_succ]
    have hb' := pow_bound h1 h2 (n := (i + 1).toNat) (by omega)
    rw [w64 (x := i + 1) (by omega) (by omega), hm, w64 (x := d ^ (i + 1).toNat) (by omega) (by omega)]
    exact ih (i + 1) (by omega) (by omega) (by omega)
theorem impl_power.ev {d n : Int} (h1 : 1 ≤ d) (h2 : d ≤ 10) (h0 : 0 ≤ n) (hn : n ≤ 6) : Ev (fun k => impl_power.f k d n) (d ^ n.toNat) := by
  have := impl_power.lev d h1 h2 n hn n.toNat 0 (by omega) (by omega) (by omega)
  unfold impl_power.f
  simpa using this
theorem impl_Lock_count.ev {w d : Int} (h : lockB w d = true) : Ev (fun k => impl_Lock_count.f k w d) (d ^ w.toNat) := by
  obtain ⟨a, b, c, e⟩ := lockB_iff.mp h
  unfold impl_Lock_count.f
  exact Ev.bind (impl_power.ev (by omega) e (by omega) b) (Ev.now _)
theorem impl_isSmall.ev (w d m : Int) : Ev (fun k => impl_isSmall.f k w d m) (smallB w d m) := by
  unfold impl_isSmall.f smallB
  refine Ev.bindc (impl_IsLock.is w d) ?_
  cases h : lockB w d with
  | true => exact Ev.yes rfl (Ev.bind (impl_Lock_count.ev h) (Ev.id (by simp)))
  | false => exact Ev.no (by simp) (Ev.id (by simp))
/-! spec's functions on locks and clues: what they come to. -/
theorem spec_l1In.is (a b c : Int) : spec_l1In.f a b c = some (decide (b ≤ a ∧ a ≤ c)) := by
  unfold spec_l1In.f
  by_cases h : a ≥ b
  · rw [if_pos h]; have h' : b ≤ a := h; congr 1; simp [h']
  · rw [if_neg h]; have h' : ¬ b ≤ a := h; congr 1; simp [h']
theorem spec_whGood.is (w d : Int) : spec_whGood.f w d = some (lockB w d) := by
  unfold spec_whGood.f lockB
  simp only [spec_l1In.is, Option.bind_some]
  by_cases h : 1 ≤ w ∧ w ≤ 6 <;> simp [h]
theorem spec_whCount.lev (w d : Int) (h1 : 1 ≤ d) (h2 : d ≤ 10) (hn : w ≤ 6) : ∀ (j : Nat) (i : Int), 0 ≤ i → i ≤ w → i = j → Ev (fun k => spec_whCount.l0 k (d ^ (w - i).toNat) i w d) (d ^ w.toNat) := by
  intro j
  induction j with
  | zero =>
    intro i h0 hi hj
    obtain rfl : i = 0 := by omega
    exact Ev.step (fun k => rfl) (Ev.no (by omega) (Ev.id (by simp)))
  | succ j ih =>
    intro i h0 hi hj
    refine Ev.step (fun k => rfl) (Ev.yes (by omega) ?_)
    have hb := pow_bound h1 h2 (n := (w - i).toNat) (by omega)
    have hm : d ^ (w - i).toNat * d = d ^ (w - (i - 1)).toNat := by rw [show (w - (i - 1)).toNat = (w - i).toNat + 1 by omega, Int.pow_succ]
    have hb' := pow_bound h1 h2 (n := (w - (i - 1)).toNat) (by omega)
    rw [w64 (x := i - 1) (by omega) (by omega), hm, w64 (x := d ^ (w - (i - 1)).toNat) (by omega) (by omega)]
    exact ih (i - 1) (by omega) (by omega) (by omega)
theorem spec_whCount.ev {w d : Int} (h : lockB w d = true) : Ev (fun k => spec_whCount.f k w d) (d ^ w.toNat) := by
  obtain ⟨a, b, c, e⟩ := lockB_iff.mp h
  have := spec_whCount.lev w d (by omega) e b w.toNat w (by omega) (by omega) (by omega)
  unfold spec_whCount.f
  simpa using this
/-! Plain laws on lists: filling one in place, reading. -/
theorem fill_step {α β : Type} (f : α → β) (l : List α) (z : β) (i : Nat) (hi : i < l.length) :
    ((l.take i).map f ++ List.replicate (l.length - i) z).set i (f l[i]) = (l.take (i + 1)).map f ++ List.replicate (l.length - (i + 1)) z := by
  have h1 : ((l.take i).map f).length = i := by rw [List.length_map, List.length_take]; omega
  rw [List.set_append_right _ _ (by omega), h1, Nat.sub_self]
  obtain ⟨m, hm⟩ : ∃ m, l.length - i = m + 1 := ⟨l.length - i - 1, by omega⟩
  rw [hm, List.replicate_succ, List.set_cons_zero, show l.length - (i + 1) = m by omega, List.take_succ_eq_append_getElem hi, List.map_append]
  simp
theorem rd_at {xs : List Int} {i : Int} (h : i.toNat < xs.length) : rd xs i = xs[i.toNat] := by unfold rd; simp [List.getD, h]
theorem getD_at {α : Type} {d : α} {xs : List α} {i : Nat} (h : i < xs.length) : xs.getD i d = xs[i] := by simp [List.getD, h]
/-! Marks on numbers, that they are held, lists of numbers compared. -/
theorem laws_markIntS.lev : ∀ (j : Nat) (l : List Int) (a : Int) (i : Nat), i + j = l.length → l.length ≤ 1048576 → 0 ≤ a → a + j ≤ 2000000 →
    ∃ l' : List Int, l'.length = l.length ∧ (∀ m : Nat, m < i → l'[m]? = l[m]?) ∧ Ev (fun k => laws_markIntS.l0 k l a (i : Nat)) (a + j, l') ∧ Ev (fun k => laws_heldIntS.l0 k l' a (i : Nat)) (a + j) := by
  intro j
  induction j with
  | zero =>
    intro l a i hi hn ha hb
    exact ⟨l, rfl, fun _ _ => rfl, Ev.step (fun k => rfl) (Ev.no (by omega) (Ev.id (by simp))), Ev.step (fun k => rfl) (Ev.no (by omega) (Ev.id (by simp)))⟩
  | succ j ih =>
    intro l a i hi hn ha hb
    have hlt : i < l.length := by omega
    have e1 : wrap64 (a + 1) = a + 1 := w64 (by omega) (by omega)
    have e4 : wrap64 ((i : Int) + 1) = ((i + 1 : Nat) : Int) := w64 (by omega) (by omega)
    obtain ⟨l', hl, hk, hm, hh⟩ := ih (l.set i a) (a + 1) (i + 1) (by simp; omega) (by simpa using hn) (by omega) (by omega)
    rw [List.length_set] at hl
    have hat : l'[i]? = some a := by
      rw [hk i (by omega)]
      simp [hlt]
    have hat' : rd l' (i : Nat) = a := by
      unfold rd
      simp [List.getD, hat]
    refine ⟨l', hl, fun m hmi => ?_, ?_, ?_⟩
    · rw [hk m (by omega), List.getElem?_set_ne (by omega)]
    · refine Ev.step (fun k => rfl) (Ev.yes (by omega) (Ev.yes (by omega) ?_))
      rw [e1, e4, Int.toNat_natCast]
      exact Ev.eq hm (by rw [Prod.mk.injEq]; exact ⟨by omega, rfl⟩)
    · refine Ev.step (fun k => rfl) (Ev.yes (by omega) (Ev.yes (by omega) ?_))
      rw [e1, e4]
      exact Ev.yes hat' (Ev.eq hh (by omega))
/-! Gears' rows: sizes, copies, comparison, marks. -/
theorem wr_bigG {c : Nat} (h : c ≤ 9223372036854775806) : wrap64 ((c : Int) + 1) = ((c + 1 : Nat) : Int) := by rw [w64 (by omega) (by omega)]; omega
theorem rd_rowG {xs : List (List Int)} {i : Nat} (h : i < xs.length) : rd_L2 xs (i : Nat) = xs[i] := by unfold rd_L2; simp [List.getD, h]
theorem rd_intG {xs : List Int} {i : Nat} (h : i < xs.length) : rd xs (i : Nat) = xs[i] := by rw [rd_at (by simpa using h)]; simp
def RowsVG (x : List (List Int)) : Prop := x.length ≤ 9223372036854775807 ∧ ∀ r ∈ x, r.length ≤ 9223372036854775807
def RowsMG (x : List (List Int)) : Prop := x.length ≤ 1048576 ∧ ∀ r ∈ x, r.length ≤ 1048576
theorem RowsMG.v {x : List (List Int)} (h : RowsMG x) : RowsVG x := ⟨by have := h.1; omega, fun r hr => by have := h.2 r hr; omega⟩
theorem laws_szIntS.isG (l : List Int) (a : Int) (h0 : 0 ≤ a) (h1 : a ≤ 1048576) (hl : l.length ≤ 9223372036854775807) : laws_szIntS.f l a = some (if (l.length : Int) ≤ a then a - l.length else -1) := by
  unfold laws_szIntS.f
  rw [w64 (x := a - (l.length : Int)) (by omega) (by omega)]
  by_cases h : (l.length : Int) ≤ a
  · rw [if_neg (by omega), if_pos h]
  · rw [if_pos (by omega), if_neg h]
theorem laws_szIntSS.levG (l : List (List Int)) (hl : RowsVG l) : ∀ (m i : Nat) (a : Int), i + m = l.length → 0 ≤ a → a ≤ 1048576 → ∃ r, r ≤ a ∧ Ev (fun k => laws_szIntSS.l0 k l a (i : Nat)) r ∧ (0 ≤ r → ∀ x ∈ l.drop i, (x.length : Int) ≤ 1048576) := by
  have hl1 := hl.1
  intro m
  induction m with
  | zero =>
    intro i a hi h0 h1
    refine ⟨a, Int.le_refl _, Ev.step (fun k => rfl) (Ev.no (by omega) (Ev.now _)), fun _ x hx => ?_⟩
    rw [List.drop_eq_nil_of_le (by omega)] at hx
    simp at hx
  | succ m ih =>
    intro i a hi h0 h1
    have hlt : i < l.length := by omega
    have hx := hl.2 l[i] (List.getElem_mem hlt)
    by_cases h : (l[i].length : Int) ≤ a
    · obtain ⟨r, hr, he, hf⟩ := ih (i + 1) (a - l[i].length) (by omega) (by omega) (by omega)
      refine ⟨r, by omega, Ev.step (fun k => rfl) (Ev.yes (by omega) (Ev.yes (by omega) ?_)), fun hr0 x hx => ?_⟩
      · rw [rd_rowG hlt]
        refine Ev.bindc (laws_szIntS.isG _ _ h0 h1 hx) ?_
        rw [if_pos h, w64 (x := (i : Int) + 1) (by omega) (by omega)]
        exact Ev.no (by omega) he
      · rw [List.drop_eq_getElem_cons hlt] at hx
        rcases List.mem_cons.mp hx with rfl | hx
        · omega
        · exact hf hr0 x hx
    · refine ⟨-1, by omega, Ev.step (fun k => rfl) (Ev.yes (by omega) (Ev.yes (by omega) ?_)), fun hr0 => by omega⟩
      rw [rd_rowG hlt]
      refine Ev.bindc (laws_szIntS.isG _ _ h0 h1 hx) ?_
      rw [if_neg h]
      exact Ev.yes (by omega) (Ev.now _)
theorem laws_szIntSS.evG (l : List (List Int)) (hl : RowsVG l) (a : Int) (h0 : 0 ≤ a) (h1 : a ≤ 1048576) : ∃ r, r ≤ a ∧ Ev (fun k => laws_szIntSS.f k l a) r ∧ (0 ≤ r → RowsMG l) := by
  have hl1 := hl.1
  unfold laws_szIntSS.f
  rw [w64 (x := a - (l.length : Int)) (by omega) (by omega)]
  by_cases h : (l.length : Int) ≤ a
  · obtain ⟨r, hr, he, hf⟩ := laws_szIntSS.levG l hl l.length 0 (a - l.length) (by omega) (by omega) (by omega)
    refine ⟨r, by omega, Ev.no (by omega) he, fun hr0 => ⟨by omega, fun x hx => ?_⟩⟩
    have := hf hr0 x (by simpa using hx)
    omega
  · exact ⟨-1, by omega, Ev.yes (by omega) (Ev.now _), fun hr0 => by omega⟩
theorem laws_szGears.evG (n d : Int) (l : List (List Int)) (hl : RowsVG l) (a : Int) (h0 : 0 ≤ a) (h1 : a ≤ 1048576) : ∃ r, r ≤ a ∧ Ev (fun k => laws_szGears.f k n d l a) r ∧ (0 ≤ r → RowsMG l) := by
  obtain ⟨r, hr, he, hf⟩ := laws_szIntSS.evG l hl a h0 h1
  by_cases h : 0 ≤ r
  · exact ⟨r, hr, Ev.bind he (Ev.no (by omega) (Ev.now _)), hf⟩
  · exact ⟨-1, by omega, Ev.bind he (Ev.yes (by omega) (Ev.now _)), fun hr0 => by omega⟩
theorem laws_toIntS.levG (l : List Int) (hl : l.length ≤ 1048576) : ∀ (m i : Nat), i + m = l.length → Ev (fun k => laws_toIntS.l0 k l ((l.take i).map id ++ List.replicate (l.length - i) 0) (i : Nat)) l := by
  intro m
  induction m with
  | zero => intro i hi; exact Ev.step (fun k => rfl) (Ev.no (by omega) (Ev.id (by rw [show i = l.length by omega]; simp)))
  | succ m ih =>
    intro i hi
    have hlt : i < l.length := by omega
    refine Ev.step (fun k => rfl) (Ev.yes (by omega) (Ev.yes (by omega) (Ev.yes (by simp; omega) ?_)))
    rw [rd_intG hlt, Int.toNat_natCast]
    have this : ((l.take i).map id ++ List.replicate (l.length - i) 0).set i l[i] = (l.take (i + 1)).map id ++ List.replicate (l.length - (i + 1)) 0 := fill_step id l 0 i hlt
    rw [this, w64 (x := (i : Int) + 1) (by omega) (by omega)]
    exact ih (i + 1) (by omega)
theorem laws_toIntS.evG (l : List Int) (hl : l.length ≤ 1048576) : Ev (fun k => laws_toIntS.f k l) l := by
  unfold laws_toIntS.f
  refine Ev.yes (by omega) (Ev.yes (by simp; omega) ?_)
  have := laws_toIntS.levG l hl l.length 0 (by omega)
  simpa using this
theorem laws_toIntSS.levG (l : List (List Int)) (hl : RowsMG l) : ∀ (m i : Nat), i + m = l.length → Ev (fun k => laws_toIntSS.l0 k l ((l.take i).map id ++ List.replicate (l.length - i) []) (i : Nat)) l := by
  have hl1 := hl.1
  intro m
  induction m with
  | zero => intro i hi; exact Ev.step (fun k => rfl) (Ev.no (by omega) (Ev.id (by rw [show i = l.length by omega]; simp)))
  | succ m ih =>
    intro i hi
    have hlt : i < l.length := by omega
    refine Ev.step (fun k => rfl) (Ev.yes (by omega) (Ev.yes (by omega) ?_))
    rw [rd_rowG hlt]
    refine Ev.bind (laws_toIntS.evG _ (hl.2 _ (List.getElem_mem hlt))) (Ev.yes (by simp; omega) ?_)
    rw [Int.toNat_natCast]
    have this : ((l.take i).map id ++ List.replicate (l.length - i) []).set i l[i] = (l.take (i + 1)).map id ++ List.replicate (l.length - (i + 1)) [] := fill_step id l [] i hlt
    rw [this, w64 (x := (i : Int) + 1) (by omega) (by omega)]
    exact ih (i + 1) (by omega)
theorem laws_toIntSS.evG (l : List (List Int)) (hl : RowsMG l) : Ev (fun k => laws_toIntSS.f k l) l := by
  have hl1 := hl.1
  unfold laws_toIntSS.f
  refine Ev.yes (by omega) (Ev.yes (by simp; omega) ?_)
  have := laws_toIntSS.levG l hl l.length 0 (by omega)
  simpa using this
theorem laws_toGears.evG (n d : Int) (l : List (List Int)) (hl : RowsMG l) : Ev (fun k => laws_toGears.f k n d l) (n, d, l) := by
  unfold laws_toGears.f laws_toLock.f
  exact Ev.bindc rfl (Ev.bind (laws_toIntSS.evG l hl) (Ev.now _))
theorem laws_eqIntS.levBG (l : List Int) (hn : l.length ≤ 9223372036854775807) : ∀ (m i : Nat), i + m = l.length → Ev (fun k => laws_eqIntS.l0 k l l (i : Nat)) true := by
  intro m
  induction m with
  | zero => intro i hi; exact Ev.step (fun k => rfl) (Ev.no (by omega) (Ev.now _))
  | succ m ih =>
    intro i hi
    refine Ev.step (fun k => rfl) (Ev.yes (by omega) (Ev.yes (by omega) (Ev.yes (by omega) (Ev.yes rfl ?_))))
    rw [w64 (x := (i : Int) + 1) (by omega) (by omega)]
    exact ih (i + 1) (by omega)
theorem laws_eqIntS.evBG (l : List Int) (hn : l.length ≤ 9223372036854775807) : Ev (fun k => laws_eqIntS.f k l l) true := by
  unfold laws_eqIntS.f
  exact Ev.yes rfl (laws_eqIntS.levBG l hn l.length 0 (by omega))
theorem laws_eqIntSS.levG (l : List (List Int)) (hl : RowsVG l) : ∀ (m i : Nat), i + m = l.length → Ev (fun k => laws_eqIntSS.l0 k l l (i : Nat)) true := by
  have hl1 := hl.1
  intro m
  induction m with
  | zero => intro i hi; exact Ev.step (fun k => rfl) (Ev.no (by omega) (Ev.now _))
  | succ m ih =>
    intro i hi
    have hlt : i < l.length := by omega
    refine Ev.step (fun k => rfl) (Ev.yes (by omega) (Ev.yes (by omega) (Ev.yes (by omega) ?_)))
    rw [rd_rowG hlt]
    refine Ev.bind (laws_eqIntS.evBG _ (hl.2 _ (List.getElem_mem hlt))) (Ev.yes rfl ?_)
    rw [w64 (x := (i : Int) + 1) (by omega) (by omega)]
    exact ih (i + 1) (by omega)
theorem laws_eqIntSS.evG (l : List (List Int)) (hl : RowsVG l) : Ev (fun k => laws_eqIntSS.f k l l) true := by
  unfold laws_eqIntSS.f
  exact Ev.yes rfl (laws_eqIntSS.levG l hl l.length 0 (by omega))
theorem laws_eqGears.evG (n d : Int) (l : List (List Int)) (hl : RowsVG l) : Ev (fun k => laws_eqGears.f k n d l n d l) true := by
  unfold laws_eqGears.f laws_eqLock.f
  rw [if_pos rfl, if_pos rfl]
  exact Ev.bindc rfl (Ev.yes rfl (Ev.bind (laws_eqIntSS.evG l hl) (Ev.yes rfl (Ev.now _))))
def totLG (l : List (List Int)) : Nat := l.foldr (fun r n => r.length + n) 0
theorem markRows_evG : ∀ (l : List (List Int)) (a : Int), 0 ≤ a → a + (totLG l : Int) ≤ 2000000 → totLG l ≤ 1048576 → ∃ l', Ev (fun k => markRows k l a) (a + (totLG l : Int), l') := by
  intro l
  induction l with
  | nil => intro a h0 _ _; exact ⟨[], Ev.id (by rw [Prod.mk.injEq]; exact ⟨by show a = a + 0; omega, rfl⟩)⟩
  | cons x t ih =>
    intro a h0 h1 h2
    have ht : totLG (x :: t) = x.length + totLG t := rfl
    rw [ht] at h1 h2 ⊢
    obtain ⟨x', _, _, hm, _⟩ := laws_markIntS.lev x.length x a 0 (by omega) (by omega) h0 (by omega)
    obtain ⟨t', ht'⟩ := ih (a + x.length) (by omega) (by omega) (by omega)
    refine ⟨x' :: t', Ev.bind hm (Ev.bind ht' (Ev.id ?_))⟩
    rw [Prod.mk.injEq]
    exact ⟨by omega, rfl⟩
theorem C_rowsVG {w : World} {A : Option Addr} {l : List (List Int)} (h : Kd.C (Kd.slice 3 (Kd.int .i64)) w A l.length l) : RowsVG l := by
  refine ⟨h.2.1, fun r hr => ?_⟩
  obtain ⟨i, hi, rfl⟩ := List.getElem_of_mem hr
  obtain ⟨ad, cs, e, _, hK, _⟩ := Kd.C_get h ([] : List Int) (i : Int) (by omega) (by omega)
  obtain ⟨A0, c0, _, l0, g0⟩ := hK
  rw [Int.toNat_natCast, getD_at hi] at g0
  exact g0.2.1
theorem laws_szGears.evAG (n d : Int) (l : List (List Int)) (hl : RowsVG l) (a : Int) (h0 : 0 ≤ a) (h1 : a ≤ 1048576) : ∃ r, Ev (fun k => laws_szGears.f k n d l a) r ∧ (0 ≤ r → (totLG l : Int) + r ≤ a ∧ RowsMG l) := by
  have hl1 := hl.1
  have hlev : ∀ (m i : Nat) (a : Int), i + m = l.length → 0 ≤ a → a ≤ 1048576 → ∃ r, r ≤ a ∧ Ev (fun k => laws_szIntSS.l0 k l a (i : Nat)) r ∧ (0 ≤ r → (totLG (l.drop i) : Int) + r ≤ a) := by
    intro m
    induction m with
    | zero =>
      intro i a hi h0 h1
      refine ⟨a, Int.le_refl _, Ev.step (fun k => rfl) (Ev.no (by omega) (Ev.now _)), fun _ => ?_⟩
      rw [List.drop_eq_nil_of_le (by omega)]
      show ((0 : Nat) : Int) + a ≤ a
      omega
    | succ m ih =>
      intro i a hi h0 h1
      have hlt : i < l.length := by omega
      have hx := hl.2 l[i] (List.getElem_mem hlt)
      by_cases h : (l[i].length : Int) ≤ a
      · obtain ⟨r, hr, he, hf⟩ := ih (i + 1) (a - l[i].length) (by omega) (by omega) (by omega)
        refine ⟨r, by omega, Ev.step (fun k => rfl) (Ev.yes (by omega) (Ev.yes (by omega) ?_)), fun hr0 => ?_⟩
        · rw [rd_rowG hlt]
          refine Ev.bindc (laws_szIntS.isG _ _ h0 h1 hx) ?_
          rw [if_pos h, w64 (x := (i : Int) + 1) (by omega) (by omega)]
          exact Ev.no (by omega) he
        · rw [List.drop_eq_getElem_cons hlt]
          have := hf hr0
          show ((l[i].length + totLG (l.drop (i + 1)) : Nat) : Int) + r ≤ a
          omega
      · refine ⟨-1, by omega, Ev.step (fun k => rfl) (Ev.yes (by omega) (Ev.yes (by omega) ?_)), fun hr0 => by omega⟩
        rw [rd_rowG hlt]
        refine Ev.bindc (laws_szIntS.isG _ _ h0 h1 hx) ?_
        rw [if_neg h]
        exact Ev.yes (by omega) (Ev.now _)
  obtain ⟨q, _, hq, hqf⟩ := laws_szGears.evG n d l hl a h0 h1
  unfold laws_szGears.f laws_szIntSS.f at hq ⊢
  rw [w64 (x := a - (l.length : Int)) (by omega) (by omega)] at hq ⊢
  by_cases h : (l.length : Int) ≤ a
  · obtain ⟨r, hr, he, hf⟩ := hlev l.length 0 (a - l.length) (by omega) (by omega) (by omega)
    by_cases h2 : 0 ≤ r
    · have hx : Ev (fun k => ((if a - (l.length : Int) < 0 then some (-1) else laws_szIntSS.l0 k l (a - (l.length : Int)) 0).bind fun t => if t < 0 then some (-1) else some t)) r := Ev.bind (Ev.no (by omega) he) (Ev.no (by omega) (Ev.now _))
      have hqr : q = r := Ev.un hq hx
      refine ⟨r, hx, fun hr0 => ⟨?_, hqf (by omega)⟩⟩
      have := hf hr0
      rw [List.drop_zero] at this
      omega
    · exact ⟨-1, Ev.bind (Ev.no (by omega) he) (Ev.yes (by omega) (Ev.now _)), fun hr0 => by omega⟩
  · exact ⟨-1, Ev.bind (Ev.yes (by omega) (Ev.now _)) (Ev.yes (by omega) (Ev.now _)), fun hr0 => by omega⟩
theorem markRows_heldG : ∀ (l : List (List Int)) (a : Int), 0 ≤ a → a + (totLG l : Int) ≤ 2000000 → totLG l ≤ 1048576 → l.length ≤ 1048576 → ∃ l' : List (List Int), l'.length = l.length ∧ Ev (fun k => markRows k l a) (a + (totLG l : Int), l') ∧ ∀ D : List (List Int), D.length + l.length ≤ 1048576 → Ev (fun k => laws_heldIntSS.l0 k (D ++ l') a (D.length : Int)) (a + (totLG l : Int)) := by
  intro l
  induction l with
  | nil =>
    intro a h0 _ _ _
    refine ⟨[], rfl, Ev.id (by rw [Prod.mk.injEq]; exact ⟨by show a = a + 0; omega, rfl⟩), fun D hD => Ev.step (fun k => rfl) (Ev.no (by simp) (Ev.id (by show a = a + 0; omega)))⟩
  | cons x t ih =>
    intro a h0 h1 h2 h3
    have ht : totLG (x :: t) = x.length + totLG t := rfl
    rw [ht] at h1 h2 ⊢
    rw [List.length_cons] at h3
    obtain ⟨x', hx1, _, hm, hh⟩ := laws_markIntS.lev x.length x a 0 (by omega) (by omega) h0 (by omega)
    obtain ⟨t', ht1, ht2, ht3⟩ := ih (a + x.length) (by omega) (by omega) (by omega) (by omega)
    refine ⟨x' :: t', by rw [List.length_cons, List.length_cons, ht1], Ev.bind hm (Ev.bind ht2 (Ev.id ?_)), fun D hD => ?_⟩
    · rw [Prod.mk.injEq]
      exact ⟨by omega, rfl⟩
    · have hlt : D.length < (D ++ x' :: t').length := by rw [List.length_append, List.length_cons]; omega
      have hget : (D ++ x' :: t')[D.length] = x' := by rw [List.getElem_append_right (Nat.le_refl _)]; simp
      rw [List.length_cons] at hD
      have hw := amk (wr_bigG (c := D.length) (by omega))
      have hgo := ht3 (D ++ [x']) (by rw [List.length_append, List.length_singleton]; omega)
      rw [List.append_assoc, List.length_append, List.length_singleton] at hgo
      refine Ev.step (fun k => rfl) (Ev.yes (by omega) (Ev.yes (by omega) ?_))
      rw [rd_rowG hlt, hget, hw.out]
      refine Ev.bind (a := a + x.length) hh (Ev.no (by omega) ?_)
      exact Ev.eq hgo (by omega)
theorem laws_markGears.evHG (n d : Int) (l : List (List Int)) (h2 : totLG l ≤ 1048576) (h3 : l.length ≤ 1048576) : ∃ l', Ev (fun k => laws_markGears.f k n d l 1) (1 + (totLG l : Int), l') ∧ Ev (fun k => laws_heldGears.f k n d l' 1) (1 + (totLG l : Int)) := by
  obtain ⟨l', hl, hm, hh⟩ := markRows_heldG l 1 (by omega) (by omega) h2 h3
  refine ⟨l', hm, ?_⟩
  have := hh [] (by show 0 + l.length ≤ 1048576; omega)
  unfold laws_heldGears.f laws_heldIntSS.f
  exact Ev.bind this (Ev.no (by omega) (Ev.now _))
/-! Gears: which are some; copies of them. -/
def knobB (w d : Int) (r : List Int) : Bool := decide ((r.length : Int) = w) && r.all fun x => decide (0 ≤ x ∧ x ≤ d - 1)
def gearsB (w d : Int) (l : List (List Int)) : Bool := smallB w d 1000 && (decide (1 ≤ (l.length : Int) ∧ (l.length : Int) ≤ 5) && l.all (knobB w d))
theorem gearsB_parts {w d : Int} {l : List (List Int)} (h : gearsB w d l = true) : ((1 ≤ w ∧ w ≤ 6) ∧ 2 ≤ d ∧ d ≤ 10) ∧ (1 ≤ l.length ∧ l.length ≤ 5) ∧ ∀ r ∈ l, knobB w d r = true := by
  unfold gearsB at h
  rw [Bool.and_eq_true, Bool.and_eq_true, decide_eq_true_eq, List.all_eq_true] at h
  have h1 := (smallB_iff.mp h.1).1
  exact ⟨⟨⟨h1.1, h1.2.1⟩, h1.2.2⟩, ⟨by omega, by omega⟩, h.2.2⟩
theorem knobB_len {w d : Int} {r : List Int} (h : knobB w d r = true) : (r.length : Int) = w := by
  unfold knobB at h
  rw [Bool.and_eq_true, decide_eq_true_eq] at h
  exact h.1
theorem spec_l1All.levG (a b : Int) (l : List Int) (hl : l.length ≤ 1048576) : ∀ (m i : Nat), i + m = l.length → Ev (fun k => spec_l1All.l0 k a b l (l.length : Int) (i : Nat)) ((l.drop i).all fun x => decide (a ≤ x ∧ x ≤ b)) := by
  intro m
  induction m with
  | zero =>
    intro i hi
    refine Ev.step (fun k => rfl) (Ev.no (by omega) (Ev.id ?_))
    rw [List.drop_eq_nil_of_le (by omega)]; rfl
  | succ m ih =>
    intro i hi
    have hlt : i < l.length := by omega
    refine Ev.step (fun k => rfl) (Ev.yes (by omega) (Ev.yes (by omega) (Ev.yes (by omega) (Ev.bindc (spec_l1In.is _ _ _) ?_))))
    rw [rd_intG hlt, List.drop_eq_getElem_cons hlt, List.all_cons, w64 (x := (i : Int) + 1) (by omega) (by omega)]
    by_cases h : a ≤ l[i] ∧ l[i] ≤ b
    · rw [decide_eq_true h, Bool.true_and]
      exact Ev.yes rfl (ih (i + 1) (by omega))
    · rw [decide_eq_false h, Bool.false_and]
      exact Ev.no (by simp) (Ev.now _)
theorem spec_joKnob.ev (w d : Int) (hd : 2 ≤ d ∧ d ≤ 10) (r : List Int) (hr : r.length ≤ 1048576) : Ev (fun k => spec_joKnob.f k w d r) (knobB w d r) := by
  unfold spec_joKnob.f knobB
  rw [w64 (x := d - 1) (by omega) (by omega)]
  by_cases h : (r.length : Int) = w
  · rw [decide_eq_true h, Bool.true_and]
    have := spec_l1All.levG 0 (d - 1) r hr r.length 0 (by omega)
    rw [List.drop_zero] at this
    exact Ev.yes h (Ev.bind this (Ev.now _))
  · rw [decide_eq_false h, Bool.false_and]
    exact Ev.no h (Ev.now _)
theorem spec_joGood.lev (w d : Int) (hd : 2 ≤ d ∧ d ≤ 10) (l : List (List Int)) (hl : RowsMG l) : ∀ (m i : Nat), i + m = l.length → Ev (fun k => spec_joGood.l0 k l (l.length : Int) (i : Nat) w d l) ((l.drop i).all (knobB w d)) := by
  have hl1 := hl.1
  intro m
  induction m with
  | zero =>
    intro i hi
    refine Ev.step (fun k => rfl) (Ev.no (by omega) (Ev.id ?_))
    rw [List.drop_eq_nil_of_le (by omega)]; rfl
  | succ m ih =>
    intro i hi
    have hlt : i < l.length := by omega
    refine Ev.step (fun k => rfl) (Ev.yes (by omega) (Ev.yes (by omega) (Ev.yes (by omega) ?_)))
    rw [rd_rowG hlt, List.drop_eq_getElem_cons hlt, List.all_cons, w64 (x := (i : Int) + 1) (by omega) (by omega)]
    refine Ev.bind (spec_joKnob.ev w d hd l[i] (hl.2 _ (List.getElem_mem hlt))) ?_
    cases e : knobB w d l[i] with
    | true => exact Ev.yes rfl (ih (i + 1) (by omega))
    | false => exact Ev.no (by simp) (Ev.now _)
theorem spec_joGood.no_ev (w d : Int) (l : List (List Int)) : Ev (fun k => spec_joGood.j0 k true w d l) false := by
  refine Ev.step (fun k => rfl) ?_
  simp only [spec_joGood.j0]
  first | exact Ev.yes rfl (Ev.now _) | exact Ev.yes trivial (Ev.now _) | exact Ev.now _
theorem spec_joGood.ev (w d : Int) (l : List (List Int)) (hl : RowsMG l) : Ev (fun k => spec_joGood.f k w d l) (gearsB w d l) := by
  unfold spec_joGood.f gearsB smallB
  refine Ev.bindc (spec_whGood.is w d) ?_
  cases h : lockB w d with
  | false => exact Ev.no (by simp) (by simpa using spec_joGood.no_ev w d l)
  | true =>
    have hb := lockB_iff.mp h
    refine Ev.yes rfl (Ev.bind (spec_whCount.ev h) ?_)
    by_cases h2 : d ^ w.toNat ≤ 1000
    · refine Ev.no (by omega) (Ev.bindc (spec_l1In.is _ _ _) ?_)
      rw [decide_eq_true h2]
      by_cases h3 : 1 ≤ (l.length : Int) ∧ (l.length : Int) ≤ 5
      · rw [decide_eq_true h3]
        refine Ev.step (fun k => rfl) ?_
        simp only [spec_joGood.j0]
        refine Ev.no (by simp) ?_
        have := spec_joGood.lev w d ⟨hb.2.2.1, hb.2.2.2⟩ l hl l.length 0 (by omega)
        simpa using this
      · rw [decide_eq_false h3]
        simpa using spec_joGood.no_ev w d l
    · rw [decide_eq_false h2]
      exact Ev.yes (by omega) (by simpa using spec_joGood.no_ev w d l)
theorem impl_AreGears.lev1 (w d : Int) (hd : 2 ≤ d ∧ d ≤ 10) (l : List (List Int)) (ll li : Int) (r : List Int) (hr : r.length ≤ 1048576) (o : Bool) (hgo : Ev (fun k => impl_AreGears.l0 k l ll (wrap64 (li + 1)) w d l) o) : ∀ (m i : Nat), i + m = r.length → Ev (fun k => impl_AreGears.l1 k l ll li r (r.length : Int) (i : Nat) w d l) (if (r.drop i).all (fun x => decide (0 ≤ x ∧ x ≤ d - 1)) = true then o else false) := by
  intro m
  induction m with
  | zero =>
    intro i hi
    rw [List.drop_eq_nil_of_le (by omega)]
    exact Ev.step (fun k => rfl) (Ev.no (by omega) (by simpa using hgo))
  | succ m ih =>
    intro i hi
    have hlt : i < r.length := by omega
    refine Ev.step (fun k => rfl) (Ev.yes (by omega) (Ev.yes (by omega) (Ev.yes (by omega) (Ev.bindc (impl_within.is _ _ _) ?_))))
    rw [rd_intG hlt, List.drop_eq_getElem_cons hlt, List.all_cons, w64 (x := (i : Int) + 1) (by omega) (by omega), w64 (x := d - 1) (by omega) (by omega)]
    by_cases h : 0 ≤ r[i] ∧ r[i] ≤ d - 1
    · rw [decide_eq_true h, Bool.true_and]
      exact Ev.yes rfl (ih (i + 1) (by omega))
    · rw [decide_eq_false h, Bool.false_and]
      exact Ev.no (by simp) (Ev.id (by simp))
theorem impl_AreGears.lev (w d : Int) (hd : 2 ≤ d ∧ d ≤ 10) (l : List (List Int)) (hl : RowsMG l) : ∀ (m i : Nat), i + m = l.length → Ev (fun k => impl_AreGears.l0 k l (l.length : Int) (i : Nat) w d l) ((l.drop i).all (knobB w d)) := by
  have hl1 := hl.1
  intro m
  induction m with
  | zero =>
    intro i hi
    refine Ev.step (fun k => rfl) (Ev.no (by omega) (Ev.id ?_))
    rw [List.drop_eq_nil_of_le (by omega)]; rfl
  | succ m ih =>
    intro i hi
    have hlt : i < l.length := by omega
    have hr := hl.2 l[i] (List.getElem_mem hlt)
    refine Ev.step (fun k => rfl) (Ev.yes (by omega) (Ev.yes (by omega) (Ev.yes (by omega) ?_)))
    rw [rd_rowG hlt, List.drop_eq_getElem_cons hlt, List.all_cons]
    have hgo := ih (i + 1) (by omega)
    have h1 := impl_AreGears.lev1 w d hd l (l.length : Int) (i : Int) l[i] hr _ (by rw [w64 (x := (i : Int) + 1) (by omega) (by omega)]; exact hgo) l[i].length 0 (by omega)
    rw [List.drop_zero] at h1
    unfold knobB at *
    by_cases h : (l[i].length : Int) = w
    · refine Ev.yes h (Ev.eq h1 ?_)
      rw [decide_eq_true h, Bool.true_and]
      cases l[i].all fun x => decide (0 ≤ x ∧ x ≤ d - 1) <;> simp
    · rw [decide_eq_false h]
      exact Ev.no h (Ev.id (by simp))
theorem impl_AreGears.no_ev (w d : Int) (l : List (List Int)) : Ev (fun k => impl_AreGears.j0 k true w d l) false := by
  refine Ev.step (fun k => rfl) ?_
  simp only [impl_AreGears.j0]
  first | exact Ev.yes rfl (Ev.now _) | exact Ev.yes trivial (Ev.now _) | exact Ev.now _
theorem impl_AreGears.ev (w d : Int) (l : List (List Int)) (hl : RowsMG l) : Ev (fun k => impl_AreGears.f k w d l) (gearsB w d l) := by
  unfold impl_AreGears.f gearsB
  refine Ev.bind (impl_isSmall.ev w d 1000) ?_
  cases h : smallB w d 1000 with
  | false => exact Ev.no (by simp) (by simpa using impl_AreGears.no_ev w d l)
  | true =>
    have hb := (smallB_iff.mp h).1
    refine Ev.yes rfl (Ev.bindc (impl_within.is _ _ _) ?_)
    by_cases h3 : 1 ≤ (l.length : Int) ∧ (l.length : Int) ≤ 5
    · rw [decide_eq_true h3]
      refine Ev.step (fun k => rfl) ?_
      simp only [impl_AreGears.j0]
      refine Ev.no (by simp) ?_
      have := impl_AreGears.lev w d ⟨hb.2.2.1, hb.2.2.2⟩ l hl l.length 0 (by omega)
      simpa using this
    · rw [decide_eq_false h3]
      simpa using impl_AreGears.no_ev w d l
theorem impl_copied.lev (w d : Int) (l : List (List Int)) (hl : l.length ≤ 5) (hr : ∀ r ∈ l, r.length ≤ 1048576) : ∀ (m i : Nat) (acc : List (List Int)), i + m = l.length → acc.length ≤ i → Ev (fun k => impl_Gears_copied.l0 k l (l.length : Int) (i : Nat) w d acc) (w, d, acc ++ l.drop i) := by
  intro m
  induction m with
  | zero =>
    intro i acc hi _
    refine Ev.step (fun k => rfl) (Ev.no (by omega) (Ev.id ?_))
    rw [List.drop_eq_nil_of_le (by omega), List.append_nil]
  | succ m ih =>
    intro i acc hi ha
    have hlt : i < l.length := by omega
    have hx := hr l[i] (List.getElem_mem hlt)
    refine Ev.step (fun k => rfl) (Ev.yes (by omega) (Ev.yes (by omega) (Ev.yes (by omega) ?_)))
    rw [rd_rowG hlt, w64 (x := (i : Int) + 1) (by omega) (by omega)]
    refine Ev.bindc (slices_Clone_int_int.is (by omega)) (Ev.yes (by omega) ?_)
    have := ih (i + 1) (acc ++ [l[i]]) (by omega) (by simp; omega)
    rw [List.drop_eq_getElem_cons hlt]
    rw [List.append_assoc] at this
    exact this
theorem spec_l1Own.isG {r : List Int} (h : r.length ≤ 1048576) : spec_l1Own.f r = some r := by
  unfold spec_l1Own.f
  rw [Option.bind_some, if_pos (by simp; omega), List.nil_append]
theorem opens_t3 : Opens Try.prog 3 (Kd.int .i64) IntV := opens_int Try.underlying3
def V23 (x : S23) : Prop := IntV x.f0 ∧ IntV x.f1
theorem opens_t23 : Opens Try.prog 23 k23 V23 := opens_iso (opens_pair Try.underlying23 opens_t3 opens_t3 (by kernel_rfl) (by kernel_rfl) (by kernel_rfl) (by kernel_rfl) (by kernel_rfl)) (fun x : S23 => (x.f0, x.f1)) (fun p => ⟨p.1, p.2⟩) (fun _ => rfl)
theorem opens_t27 : Opens Try.prog 27 (Kd.slice 3 (Kd.int .i64)) (ListV IntV) := opens_slice Try.underlying27 opens_t3 (by kernel_rfl)
theorem opens_t24 : Opens Try.prog 24 (Kd.slice 27 (Kd.slice 3 (Kd.int .i64))) (ListV (ListV IntV)) := opens_slice Try.underlying24 opens_t27 (by kernel_rfl)
def V26 (x : S26) : Prop := V23 x.f0 ∧ (ListV (ListV IntV)) x.f1
theorem opens_t26 : Opens Try.prog 26 k26 V26 := opens_iso (opens_pair Try.underlying26 opens_t23 opens_t24 (by kernel_rfl) (by kernel_rfl) (by kernel_rfl) (by kernel_rfl) (by kernel_rfl)) (fun x : S26 => (x.f0, x.f1)) (fun p => ⟨p.1, p.2⟩) (fun _ => rfl)
/-! The law FnExactDropKnob: its calls, all told. -/
def dkB (w d : Int) (L : List (List Int)) (q : Int) : Bool := gearsB w d L && (decide (0 ≤ q ∧ q ≤ (L.length : Int) - 1) && !(L.length == 1))
def dkV (w d : Int) (L : List (List Int)) (q : Int) : Int × Int × List (List Int) × Bool := if dkB w d L q = true then (w, d, L.eraseIdx q.toNat, true) else (0, 0, [], false)
theorem spec_joWithout.levQ (w d : Int) (q : Nat) (l : List (List Int)) (hl : l.length ≤ 5) (hr : ∀ r ∈ l, r.length ≤ 1048576) : ∀ (m i : Nat) (acc : List (List Int)), i + m = l.length → acc.length ≤ i → Ev (fun k => spec_joWithout.l0 k (q : Int) l (l.length : Int) (i : Nat) w d acc) (w, d, acc ++ (if i ≤ q then (l.drop i).eraseIdx (q - i) else l.drop i)) := by
  intro m
  induction m with
  | zero =>
    intro i acc hi _
    refine Ev.step (fun k => rfl) (Ev.no (by omega) (Ev.id ?_))
    rw [List.drop_eq_nil_of_le (by omega)]
    simp
  | succ m ih =>
    intro i acc hi ha
    have hlt : i < l.length := by omega
    have hx := hr l[i] (List.getElem_mem hlt)
    refine Ev.step (fun k => rfl) (Ev.yes (by omega) (Ev.yes (by omega) (Ev.yes (by omega) ?_)))
    rw [rd_rowG hlt, w64 (x := (i : Int) + 1) (by omega) (by omega), List.drop_eq_getElem_cons hlt]
    by_cases e : i = q
    · subst e
      have := ih (i + 1) acc (by omega) (by omega)
      rw [if_neg (by omega)] at this
      rw [if_pos (Nat.le_refl i), Nat.sub_self, List.eraseIdx_cons_zero]
      exact Ev.yes rfl this
    · have := ih (i + 1) (acc ++ [l[i]]) (by omega) (by simp; omega)
      rw [List.append_assoc] at this
      refine Ev.no (by omega) (Ev.bindc (spec_l1Own.isG hx) (Ev.yes (by omega) (Ev.eq this ?_)))
      by_cases h : i ≤ q
      · rw [if_pos h, if_pos (by omega), show q - i = (q - (i + 1)) + 1 by omega, List.eraseIdx_cons_succ]
        rfl
      · rw [if_neg h, if_neg (by omega)]
        rfl
theorem spec_DropKnob.ev (w d : Int) (L : List (List Int)) (q : Int) (hL : RowsMG L) : Ev (fun k => spec_DropKnob.f k w d L q) (dkV w d L q) := by
  have hl1 := hL.1
  unfold spec_DropKnob.f dkV dkB
  refine Ev.bind (spec_joGood.ev w d L hL) ?_
  cases h1 : gearsB w d L with
  | false => exact Ev.no (by simp) (Ev.id (by simp))
  | true =>
    obtain ⟨⟨a1, a2⟩, a3, a4⟩ := gearsB_parts h1
    refine Ev.yes rfl (Ev.bindc (by rw [w64 (x := (L.length : Int) - 1) (by omega) (by omega)]; exact spec_l1In.is _ _ _) ?_)
    by_cases h2 : 0 ≤ q ∧ q ≤ (L.length : Int) - 1
    · rw [decide_eq_true h2]
      obtain ⟨i, rfl⟩ := Int.eq_ofNat_of_zero_le h2.1
      refine Ev.yes rfl ?_
      by_cases h3 : L.length = 1
      · rw [show (L.length == 1) = true from beq_iff_eq.mpr h3]
        exact Ev.yes h3 (Ev.id (by simp))
      · rw [show (L.length == 1) = false from beq_eq_false_iff_ne.mpr h3]
        have hw := spec_joWithout.levQ w d i L a3.2 hL.2 L.length 0 [] (by omega) (Nat.le_refl _)
        rw [if_pos (Nat.zero_le i), List.drop_zero, List.nil_append, Nat.sub_zero] at hw
        exact Ev.no h3 (Ev.bind (by unfold spec_joWithout.f; exact hw) (Ev.id (by simp)))
    · rw [decide_eq_false h2]
      exact Ev.no (by simp) (Ev.id (by simp))
theorem impl_DropKnob.ev (w d : Int) (L : List (List Int)) (q : Int) (hL : RowsMG L) : Ev (fun k => impl_DropKnob.f k w d L q) (dkV w d L q) := by
  have hl1 := hL.1
  have hk : Ev (fun k => impl_hasKnob.f k w d L q) (gearsB w d L && decide (0 ≤ q ∧ q ≤ (L.length : Int) - 1)) := by
    unfold impl_hasKnob.f
    refine Ev.bind (impl_AreGears.ev w d L hL) ?_
    cases h1 : gearsB w d L with
    | false => exact Ev.no (by simp) (Ev.id (by simp))
    | true => exact Ev.yes rfl (Ev.bindc (by rw [w64 (x := (L.length : Int) - 1) (by omega) (by omega)]; exact impl_within.is _ _ _) (Ev.id (by simp)))
  unfold impl_DropKnob.f dkV dkB
  refine Ev.bind hk ?_
  cases h1 : gearsB w d L with
  | false => exact Ev.no (by simp) (Ev.id (by simp))
  | true =>
    obtain ⟨⟨a1, a2⟩, a3, a4⟩ := gearsB_parts h1
    by_cases h2 : 0 ≤ q ∧ q ≤ (L.length : Int) - 1
    · rw [decide_eq_true h2]
      obtain ⟨i, rfl⟩ := Int.eq_ofNat_of_zero_le h2.1
      refine Ev.yes rfl ?_
      by_cases h3 : L.length = 1
      · rw [show (L.length == 1) = true from beq_iff_eq.mpr h3]
        exact Ev.yes h3 (Ev.id (by simp))
      · rw [show (L.length == 1) = false from beq_eq_false_iff_ne.mpr h3]
        have hc := impl_copied.lev w d L a3.2 hL.2 L.length 0 [] (by omega) (Nat.le_refl _)
        rw [List.drop_zero, List.nil_append] at hc
        have hw : Ev (fun k => impl_Gears_without.f k w d L (i : Int)) (w, d, L.eraseIdx i) := by
          unfold impl_Gears_without.f
          exact Ev.bind (by unfold impl_Gears_copied.f; exact hc) (Ev.yes ⟨by omega, by show (i : Int) < (L.length : Int); omega, by show L.length ≤ 1000; omega⟩ (Ev.id (by simp)))
        exact Ev.no h3 (Ev.bind hw (Ev.id (by simp)))
    · rw [decide_eq_false h2]
      exact Ev.no (by simp) (Ev.id (by simp))
theorem totLG_leD (c : Nat) : ∀ l : List (List Int), (∀ r ∈ l, r.length ≤ c) → totLG l ≤ l.length * c := by
  intro l
  induction l with
  | nil => intro _; exact Nat.zero_le _
  | cons r t ih =>
    intro h
    have h1 := ih (fun q hq => h q (List.mem_cons_of_mem _ hq))
    have h2 := h r List.mem_cons_self
    show r.length + totLG t ≤ (t.length + 1) * c
    rw [Nat.succ_mul]
    omega
theorem dkV_small (w d : Int) (L : List (List Int)) (q : Int) : (dkV w d L q).2.2.1.length ≤ 6 ∧ totLG (dkV w d L q).2.2.1 ≤ 36 ∧ RowsVG (dkV w d L q).2.2.1 := by
  unfold dkV
  by_cases h : dkB w d L q = true
  · rw [if_pos h]
    unfold dkB at h
    rw [Bool.and_eq_true] at h
    obtain ⟨⟨a1, a2⟩, a3, a4⟩ := gearsB_parts h.1
    have hr : ∀ r ∈ L.eraseIdx q.toNat, r.length ≤ 6 := by
      intro r hr
      have := knobB_len (a4 r (List.mem_of_mem_eraseIdx hr)); omega
    have hl : (L.eraseIdx q.toNat).length ≤ 6 := Nat.le_trans (List.length_eraseIdx_le _ _) (by omega)
    exact ⟨hl, Nat.le_trans (totLG_leD 6 _ hr) (Nat.mul_le_mul_right 6 hl), Nat.le_trans hl (by decide), fun r h2 => by have := hr r h2; omega⟩
  · rw [if_neg h]
    exact ⟨by decide, by decide, ⟨by decide, fun r hr => by cases hr⟩⟩
set_option maxRecDepth 100000 in
theorem laws_FnExactDropKnob.walk0 (k : Nat) (n d : Int) (L : List (List Int)) (q : Int) (r0 : Int) (A : Option Addr) (c : Nat) (w : World) (hr : Kd.C (Kd.slice 3 (Kd.int .i64)) w A L.length L) (hc : L.length ≤ c) (e1 : laws_szGears.f k n d L 1048576 = some r0) (h0 : r0 < 0) :
    Calls Try.prog 4 #[.agg #[.int .i64 n, .int .i64 d, .slice A L.length c], .int .i64 q] w fun e w' => e = .returned (.bool true) ∧ Below w.heap.size w w' := by
  have hu26 := Try.underlying26
  have hu24 := Try.underlying24
  have hd0 : decide (r0 < 0) = true := decide_eq_true h0
  have E1 := amk e1
  have HC := amk hc
  have HR := amk (Kd.C_alloc hr (.cells #[.int .i64 n, .int .i64 d, .slice A L.length c] 26 (0, 0)))
  have HB := amk ((Below.refl w.heap.size w).alloc (Nat.le_refl _) (.cells #[.int .i64 n, .int .i64 d, .slice A L.length c] 26 (0, 0)))
  clear e1 hc hr h0
  go_enter Try.func4, Try.ntmps4
  go_wp2_with (go_at_call 5; refine Calls.mono (laws_szGears.calls k n d _ _ L _ r0 _ HR.out HC.out E1.out) ?_; rintro e w2 ⟨rfl, hb⟩; have HB2 := amk (HB.out.trans (hb.mono HB.out.size)); clear hb)
  go_ret
  exact ⟨rfl, HB2.out⟩
theorem laws_FnExactDropKnob.calls (a0_0 : Int) (a0_1 : Int) (A0_2 : Option Addr) (c0_2 : Nat) (l0_2 : List (List Int)) (a1 : Int) (r : Bool) (w : World) (hr0_2 : Kd.C (Kd.slice 3 (Kd.int .i64)) w A0_2 l0_2.length l0_2) (hc0_2 : l0_2.length ≤ c0_2) (h : laws_FnExactDropKnob.f a0_0 a0_1 l0_2 a1 = some r) :
    Calls Try.prog 4 #[.agg #[.int .i64 a0_0, .int .i64 a0_1, .slice A0_2 l0_2.length c0_2], .int .i64 a1] w fun e w' => e = .returned (.bool r) ∧ Below w.heap.size w w' := by
  obtain rfl := Option.some.inj h
  have hV := C_rowsVG hr0_2
  obtain ⟨r0, he0, hf0⟩ := laws_szGears.evAG a0_0 a0_1 l0_2 hV 1048576 (by omega) (by omega)
  by_cases h0 : 0 ≤ r0
  · obtain ⟨ht0, hM0⟩ := hf0 h0
    obtain ⟨hs1, hs2, hs3⟩ := dkV_small a0_0 a0_1 l0_2 a1
    obtain ⟨k1, e1⟩ := he0
    obtain ⟨k2, e2⟩ := laws_toGears.evG a0_0 a0_1 l0_2 hM0
    obtain ⟨k3, e3⟩ := spec_DropKnob.ev a0_0 a0_1 l0_2 a1 hM0
    obtain ⟨k4, e4⟩ := impl_DropKnob.ev a0_0 a0_1 l0_2 a1 hM0
    obtain ⟨k5, e5⟩ := laws_eqGears.evG (dkV a0_0 a0_1 l0_2 a1).1 (dkV a0_0 a0_1 l0_2 a1).2.1 (dkV a0_0 a0_1 l0_2 a1).2.2.1 hs3
    obtain ⟨k6, e6⟩ := laws_eqGears.evG a0_0 a0_1 l0_2 hV
    obtain ⟨X', k7, e7⟩ := markRows_evG l0_2 1 (by omega) (by omega) (by omega)
    obtain ⟨R', ⟨k8, e8⟩, k9, e9⟩ := laws_markGears.evHG (dkV a0_0 a0_1 l0_2 a1).1 (dkV a0_0 a0_1 l0_2 a1).2.1 (dkV a0_0 a0_1 l0_2 a1).2.2.1 (by omega) (by omega)
    have hk : ∃ k, (k1 ≤ k ∧ k2 ≤ k ∧ k3 ≤ k ∧ k4 ≤ k ∧ k5 ≤ k) ∧ k6 ≤ k ∧ k7 ≤ k ∧ k8 ≤ k ∧ k9 ≤ k := ⟨k1 + k2 + k3 + k4 + k5 + k6 + k7 + k8 + k9, by omega⟩
    obtain ⟨k, ⟨i1, i2, i3, i4, i5⟩, i6, i7, i8, i9⟩ := hk
    exact laws_FnExactDropKnob.walk k a0_0 a0_1 l0_2 a1 (dkV a0_0 a0_1 l0_2 a1).1 (dkV a0_0 a0_1 l0_2 a1).2.1 (dkV a0_0 a0_1 l0_2 a1).2.2.1 R' X' (dkV a0_0 a0_1 l0_2 a1).2.2.2 r0 _ _ A0_2 c0_2 w hr0_2 hc0_2 (e1 k i1) h0 (e2 k i2) (e3 k i3) (e4 k i4) (e5 k i5) (e6 k i6) (e7 k i7) (by omega) (e8 k i8) (by omega) (e9 k i9)
  · obtain ⟨k1, e1⟩ := he0
    exact laws_FnExactDropKnob.walk0 k1 a0_0 a0_1 l0_2 a1 r0 A0_2 c0_2 w hr0_2 hc0_2 (e1 k1 (Nat.le_refl _)) (by omega)
theorem pure_FnExactDropKnob (p : S26) (_ : V26 p) (q : Int) (_ : IntV q) : laws_FnExactDropKnob.f p.f0.f0 p.f0.f1 p.f1 q = some true := rfl
end Go.Proofs.Ytcgpdnlpbmnblaa.P