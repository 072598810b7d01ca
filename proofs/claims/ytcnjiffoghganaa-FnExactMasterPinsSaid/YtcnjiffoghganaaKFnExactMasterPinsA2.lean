import Derived.Test.YtcnjiffoghganaaKFnExactMasterPinsA0
import Derived.Test.YtcnjiffoghganaaKFnExactMasterPinsA1
import Derived.Shelf.Abstract
import Derived.BigQuiet
import Derived.Deep.RegionHeld3
import Derived.ProofKit
import Derived.Lib.SmallJoins
import Derived.Deep.Slices
namespace Go.Proofs.Ytcnjiffoghganaa.P
open Go.RowKit Go.Proofs.YtcnjiffoghganaaW.PrintWords Go.Proofs.YtcnjiffoghganaaW.PrintLast Go.Proofs.YtcnjiffoghganaaW.PrintMore
attribute [local go_sem] max2_int min2_int max_two min_two max_three min_three max_four min_four
set_option linter.unusedVariables false
set_option linter.unusedSimpArgs false
/-! ### impl_joined: function 101 -/
mutual
def impl_joined.l0 : Nat → List (S41) → Int → Int → Int → Int → List (List Int) → Option (Int × (List (List Int)))
  | 0, _, _, _, _, _, _ => none
  | k + 1, x0, x1, x21, x22, x355000, x355001 => if x22 < x21 then (impl_joined.l1 k x0 x1 x22 (([] : List Int)) x21 x22 x355000 0 x355000 x355001) else (some (x355000, x355001))
def impl_joined.l1 : Nat → List (S41) → Int → Int → List Int → Int → Int → Int → Int → Int → List (List Int) → Option (Int × (List (List Int)))
  | 0, _, _, _, _, _, _, _, _, _, _ => none
  | k + 1, x0, x1, x6, x7, x21, x22, x27, x28, x355000, x355001 => if x28 < x27 then (impl_joined.l2 k x0 x1 x6 x7 x28 0 x21 x22 x27 x28 x0 (x0.length : Int) 0 x355000 x355001) else (if x355001.length < 5864062014805 then (impl_joined.l0 k x0 x1 x21 (wrap64 (x22 + 1)) x355000 (x355001 ++ [x7])) else (none))
def impl_joined.l2 : Nat → List (S41) → Int → Int → List Int → Int → Int → Int → Int → Int → Int → List (S41) → Int → Int → Int → List (List Int) → Option (Int × (List (List Int)))
  | 0, _, _, _, _, _, _, _, _, _, _, _, _, _, _, _ => none
  | k + 1, x0, x1, x6, x7, x8, x9, x21, x22, x27, x28, x31, x32, x33, x355000, x355001 => if x33 < x32 then (if 0 ≤ x33 then (if x33 < (x31.length : Int) then (if 0 ≤ x6 then (if x6 < (((rd_T41 x31 x33).f1).length : Int) then ((slices_Contains_int_int.f k (rd_L5 ((rd_T41 x31 x33).f1) x6) x8).bind fun t365 => (if t365 = true then (impl_joined.l2 k x0 x1 x6 x7 x8 (wrap64 (x9 + 1)) x21 x22 x27 x28 x31 x32 (wrap64 (x33 + 1)) x355000 x355001) else (impl_joined.l2 k x0 x1 x6 x7 x8 x9 x21 x22 x27 x28 x31 x32 (wrap64 (x33 + 1)) x355000 x355001))) else (none)) else (none)) else (none)) else (none)) else (if x9 ≥ x1 then (if x7.length < 17592186044416 then (impl_joined.l1 k x0 x1 x6 (x7 ++ [x8]) x21 x22 x27 (wrap64 (x28 + 1)) x355000 x355001) else (none)) else (impl_joined.l1 k x0 x1 x6 x7 x21 x22 x27 (wrap64 (x28 + 1)) x355000 x355001))
end
def impl_joined.f (k : Nat) (l0 : List (S41)) (a1 : Int) : Option (Int × (List (List Int))) := if 0 < (l0.length : Int) then (impl_joined.l0 k l0 a1 (((rd_T41 l0 0).f1).length : Int) 0 ((rd_T41 l0 0).f0) ([] : List (List Int))) else (none)
set_option maxHeartbeats 8000000 in
set_option maxRecDepth 100000 in
theorem impl_joined.calls (k : Nat) (A0 : Option Addr) (c0 : Nat) (l0 : List (S41)) (a1 : Int) (r1 : Int) (r2 : List (List Int)) (w : World) (hr0 : Kd.C k41 w A0 l0.length l0) (hc0 : l0.length ≤ c0) (h : impl_joined.f k l0 a1 = some (r1, r2)) :
    Calls Try.prog 101 #[.slice A0 l0.length c0, .int .i64 a1] w fun e w' => ∃ v1_ : Value, e = .returned (.agg #[.int .i64 r1, v1_]) ∧ Kd.S (Kd.slice 3 (Kd.int .i64)) 86 w' w.heap.size (fun _ => True) v1_ r2 ∧ Below w.heap.size w w' := by
  have hu41 := Try.underlying41
  have HR0 := amk hr0
  have HC0 := amk hc0
  clear hr0 hc0
  have HB := amk (Below.refl w.heap.size w)
  have H : (if 0 < (l0.length : Int) then (impl_joined.l0 k l0 a1 (((rd_T41 l0 0).f1).length : Int) 0 ((rd_T41 l0 0).f0) ([] : List (List Int))) else (none)) = some (r1, r2) := h
  clear h
  by_cases c3 : 0 < (l0.length : Int)
  · rw [if_pos c3] at H
    have c3b0 : decide (0 < (l0.length : Int)) = true := decide_eq_true c3
    have c3b1 : decide (0 < l0.length) = true := decide_eq_true (by omega)
    clear c3
    have H' := amk H
    clear H
    go_enter Try.func101, Try.ntmps101
    go_wp2_with (first | ((with_reducible refine gate_dst (N := 4) rfl ?_); refine box_event ?hg (N := 4) ?hd (cs := #[.int .i64 0, .slice none 0 0]) (t := 41) ?hr ?_; (case hd => rfl); (case hg => rfl); (case hr => first | (go_simp; done) | (go_simp; rfl)); intro gb352 hg w4 hbox hb; have n0_ := amk (bp_ (by repeat (first | (with_reducible first | exact HB.out | apply ba_ | apply bn_ | apply bd_) | exact HB.out)) hb); have n1_ := amk (hbox); have n2_ := amk ((by rw [hg]; exact (below_size (by repeat (first | (with_reducible first | exact HB.out | apply ba_ | apply bn_ | apply bd_) | exact HB.out))) : w.heap.size ≤ gb352)); have n3_ := amk ((by rw [hg]; exact (below_size (by repeat (first | (with_reducible first | exact HB.out | apply ba_ | apply bn_ | apply bd_) | exact HB.out))) : w.heap.size ≤ gb352)); clear HB; have HB := n0_; have BK352 := n1_; have GW352 := n2_; have GE352 := n3_; clear n0_ n1_ n2_ n3_; clear hb hbox hg; have p353 : 0 ≤ (0 : Int) := (by omega); have q353 : 0 < (l0.length : Int) := of_decide_eq_true (by first | (with_reducible assumption) | assumption); obtain ⟨ad353, A353_1, c353_1, e353, hx353_0, hx353_1, hl353_1, hi353_1⟩ := at_T41 HR0.out 0 p353 q353; cases e353; have qi353 : (0 < l0.length) = True := eq_true (by omega); (try rw [show ((0 : Int)).toNat = 0 from rfl] at hx353_0); (try rw [show 0 * 2 = 0 from rfl] at hx353_0); (try rw [Addr.add_zero'] at hx353_0); (try rw [show ((0 : Int)).toNat = 0 from rfl] at hx353_1); (try rw [show 0 * 2 = 0 from rfl] at hx353_1); (try rw [Addr.add_zero'] at hx353_1); replace hx353_0 := (HB.out.cell (World.block_lt_of_cell? w _ hx353_0)).trans hx353_0; replace hx353_1 := (HB.out.cell (World.block_lt_of_cell? w _ hx353_1)).trans hx353_1; have HR353_1 := amk hi353_1; have HC353_1 := amk hl353_1; clear hi353_1 hl353_1; replace p353 := eq_true p353; replace q353 := eq_true q353) | ((with_reducible refine gate_dst (N := 5) rfl ?_); refine box_event ?hg (N := 5) ?hd (cs := #[.int .i64 0, .slice none 0 0]) (t := 41) ?hr ?_; (case hd => rfl); (case hg => rfl); (case hr => first | (go_simp; done) | (go_simp; rfl)); intro gb354 hg w5 hbox hb; have n0_ := amk (blk_below (g := gb352) (o := .cells #[.int .i64 0, .slice none 0 0] 41 (0, 0)) (by (with_reducible repeat (first | refine kn_ ?_ _ | refine blk_drew ?_ | refine ka_ ?_ _)); exact BK352.out) hb); have n1_ := amk (bp_ (by repeat (first | (with_reducible first | exact HB.out | apply ba_ | apply bn_ | apply bd_ | refine bs_ ?_ GE352.out) | exact HB.out)) hb); have n2_ := amk (hbox); have n3_ := amk ((by rw [hg]; exact (below_size (by repeat (first | (with_reducible first | exact HB.out | apply ba_ | apply bn_ | apply bd_ | refine bs_ ?_ GE352.out) | exact HB.out))) : w.heap.size ≤ gb354)); have n4_ := amk ((by rw [hg]; exact (below_size (by repeat (first | (with_reducible first | exact HB.out | apply ba_ | apply bn_ | apply bd_ | refine bs_ ?_ GE352.out) | exact HB.out))) : w.heap.size ≤ gb354)); have n5_ := amk ((by rw [hg]; exact Nat.ne_of_lt (blk_lt (g := gb352) (o := .cells #[.int .i64 0, .slice none 0 0] 41 (0, 0)) (by (with_reducible repeat (first | refine kn_ ?_ _ | refine blk_drew ?_ | refine ka_ ?_ _)); exact BK352.out)) : gb352 ≠ gb354)); have n6_ := amk ((by rw [hg]; exact Nat.ne_of_gt (blk_lt (g := gb352) (o := .cells #[.int .i64 0, .slice none 0 0] 41 (0, 0)) (by (with_reducible repeat (first | refine kn_ ?_ _ | refine blk_drew ?_ | refine ka_ ?_ _)); exact BK352.out)) : gb354 ≠ gb352)); clear BK352; clear HB; have BK352 := n0_; have HB := n1_; have BK354 := n2_; have GW354 := n3_; have GE354 := n4_; have NB352_354 := n5_; have NB354_352 := n6_; clear n0_ n1_ n2_ n3_ n4_ n5_ n6_; clear hb hbox hg; have hnb6 := NB354_352.out; have hnc6 := NB352_354.out; have hcz7_0 : w5.cell? ⟨gb354, 0, none⟩ = some (.int .i64 0) := (blk_cell BK354.out 0).trans rfl; have hcz7_1 : w5.cell? ⟨gb354, 1, none⟩ = some (.slice none 0 0) := (blk_cell BK354.out 1).trans rfl; have hfz7_0 := blk_frozen BK354.out 0; have hfz7_1 := blk_frozen BK354.out 1; have p355 : 0 ≤ (0 : Int) := (by omega); have q355 : 0 < (l0.length : Int) := of_decide_eq_true (by first | (with_reducible assumption) | assumption); obtain ⟨ad355, A355_1, c355_1, e355, hx355_0, hx355_1, hl355_1, hi355_1⟩ := at_T41 HR0.out 0 p355 q355; obtain rfl : ad353 = ad355 := (by injection e355); have qi355 : (0 < l0.length) = True := eq_true (by omega); (try rw [show ((0 : Int)).toNat = 0 from rfl] at hx355_0); (try rw [show 0 * 2 = 0 from rfl] at hx355_0); (try rw [Addr.add_zero'] at hx355_0); (try rw [show ((0 : Int)).toNat = 0 from rfl] at hx355_1); (try rw [show 0 * 2 = 0 from rfl] at hx355_1); (try rw [Addr.add_zero'] at hx355_1); have hn355_0 : ad353.block ≠ gb354 := Nat.ne_of_lt (Nat.lt_of_lt_of_le (by have := World.block_lt_of_cell? _ _ hx355_0; first | rwa [add_block] at this | exact this) GW354.out); have hn355_1 : ad353.block ≠ gb354 := Nat.ne_of_lt (Nat.lt_of_lt_of_le (by have := World.block_lt_of_cell? _ _ hx355_0; first | rwa [add_block] at this | exact this) GW354.out); replace hx355_0 := (HB.out.cell (World.block_lt_of_cell? w _ hx355_0)).trans hx355_0; replace hx355_1 := (HB.out.cell (World.block_lt_of_cell? w _ hx355_1)).trans hx355_1; have HR355_1 := amk hi355_1; have HC355_1 := amk hl355_1; clear hi355_1 hl355_1; replace hx355_0 := (cell_far (p := ⟨gb354, 0, none⟩) (by first | (rw [add_block]; exact hn355_0) | (show (Addr.add _ _).block ≠ _; rw [add_block]; exact hn355_0) | exact hn355_0) (.int .i64 ((rd_T41 l0 0).f0))).trans hx355_0; replace hx355_1 := (cell_far (p := ⟨gb354, 0, none⟩) (by first | (rw [add_block]; exact hn355_0) | (show (Addr.add _ _).block ≠ _; rw [add_block]; exact hn355_0) | exact hn355_0) (.int .i64 ((rd_T41 l0 0).f0))).trans hx355_1; replace hx355_0 := (cell_far (p := ⟨gb354, 1, none⟩) (by first | (rw [add_block]; exact hn355_1) | (show (Addr.add _ _).block ≠ _; rw [add_block]; exact hn355_1) | exact hn355_1) (.slice none 0 0)).trans hx355_0; replace hx355_1 := (cell_far (p := ⟨gb354, 1, none⟩) (by first | (rw [add_block]; exact hn355_1) | (show (Addr.add _ _).block ≠ _; rw [add_block]; exact hn355_1) | exact hn355_1) (.slice none 0 0)).trans hx355_1; clear hn355_0; clear hn355_1; replace p355 := eq_true p355; replace q355 := eq_true q355))
    go_loopg [22] k (fun kq v22 w' => ∃ (x22_1 : Int) (x355001_1 : List (List Int)) (u355001 : Value), v22 = .int .i64 x22_1 ∧ Aside0 (impl_joined.l0 kq l0 a1 (((rd_T41 l0 0).f1).length : Int) x22_1 ((rd_T41 l0 0).f0) x355001_1 = some (r1, r2)) ∧ Aside0 (kq ≤ k) ∧ Aside0 (Kd.S (Kd.slice 3 (Kd.int .i64)) 86 w' w.heap.size (fun _ => True) u355001 x355001_1) ∧ Aside0 (w'.heap[gb352]? = some (.cells #[.int .i64 0, (.slice none 0 0)] 41 (0, 0))) ∧ Aside0 (w'.heap[gb354]? = some (.cells #[.int .i64 ((rd_T41 l0 0).f0), u355001] 41 (0, 0))) ∧ Aside0 (Below w.heap.size w w'))
    case atStart => exact ⟨(0), (([] : List (List Int))), (.slice none 0 0), (by first | rfl | (simp; done) | (simp [*]; done)), H', ⟨Nat.le_refl _⟩, ⟨by first | exact Kd.S_nil _ _ _ _ _ | exact Kd.N_nil _ _ _ _ _ | exact Kd.V_nil _ _ _ _ _ | exact Kd.Q_nil _ _ _ _ _ | exact Kd.R_nil _ _ _ _ _⟩, ⟨by (with_reducible repeat (first | refine kn_ ?_ _ | refine blk_drew ?_ | refine ka_ ?_ _)); refine blk_far ?_ NB352_354.out _; (with_reducible repeat (first | refine kn_ ?_ _ | refine blk_drew ?_ | refine ka_ ?_ _)); refine blk_far ?_ NB352_354.out _; (with_reducible repeat (first | refine kn_ ?_ _ | refine blk_drew ?_ | refine ka_ ?_ _)); exact BK352.out⟩, ⟨by (with_reducible repeat (first | refine kn_ ?_ _ | refine blk_drew ?_ | refine ka_ ?_ _)); refine blk_put (cs := #[.int .i64 ((rd_T41 l0 0).f0), .slice none 0 0]) ?_ 1 _ rfl; (with_reducible repeat (first | refine kn_ ?_ _ | refine blk_drew ?_ | refine ka_ ?_ _)); refine blk_put (cs := #[.int .i64 0, .slice none 0 0]) ?_ 0 _ rfl; (with_reducible repeat (first | refine kn_ ?_ _ | refine blk_drew ?_ | refine ka_ ?_ _)); exact BK354.out⟩, ⟨by repeat (first | (with_reducible first | exact HB.out | apply ba_ | apply bn_ | apply bd_ | refine bs_ ?_ GE352.out | refine bs_ ?_ GE354.out) | exact HB.out)⟩⟩
    case round =>
      clear H'
      try clear c1; try clear p2; try clear c3; try clear c3b0; try clear c3b1; try clear p3; try clear q3; try clear hx3; try clear qi3; try clear c6; try clear hcz7_0; try clear hcz7_1; try clear hfz7_0; try clear hfz7_1; try clear hx353_0; try clear hx353_1; try clear hx355_0; try clear hx355_1; try clear p353; try clear p355; try clear q353; try clear q355
      obtain ⟨x22_1, x355001_1, u355001, rfl, HA, HK1, HO_355001, BK352, BK354, HB⟩ := hrel
      cases gk with
      | zero => exact absurd HA.out (by simp [impl_joined.l0])
      | succ k1 =>
        have H := HA.out
        clear HA
        simp only [impl_joined.l0] at H
        by_cases c8 : x22_1 < (((rd_T41 l0 0).f1).length : Int)
        · rw [if_pos c8] at H
          have c8b0 : decide (x22_1 < (((rd_T41 l0 0).f1).length : Int)) = true := decide_eq_true c8
          clear c8
          obtain ⟨y356, hy356⟩ : ∃ y_ : List Int, y_ = (([] : List Int)) := ⟨_, rfl⟩
          replace H : (impl_joined.l1 k1 l0 a1 x22_1 y356 (((rd_T41 l0 0).f1).length : Int) x22_1 ((rd_T41 l0 0).f0) 0 ((rd_T41 l0 0).f0) x355001_1) = some (r1, r2) := by first | (rw [hy356]; with_reducible exact H) | (have H2_ := (Option.bind_some _ _).symm.trans H; rw [hy356]; with_reducible exact H2_) | (have H2_ := (Option.bind_some _ _).symm.trans H; with_reducible exact H2_) | with_reducible exact H | (rw [hy356]; exact H) | exact H
          have Ny356 := amk hy356
          clear hy356
          have H' := amk H
          clear H
          go_wp2_with (first | ((with_reducible refine gate_dst (N := 25) rfl ?_); refine Kd.R_lit (Kd.int .i64) _ 3 ?hg (N := 25) ?hd (xs := ([] : List Int)) (inner := []) (ok := fun _ => True) (okp := fun _ => True) ?hr ?hp (fun _ hk => hk) trivial (Below.refl _ _) (Nat.le_refl _) (by simp) ?_; (case hd => rfl); (case hg => rfl); (case hr => first | (go_simp; done) | (go_simp; rfl)); (case hp => exact (Reps.none _ _)); intro v357 w9 ho10 hb hg_ hnew_; clear hg_ hnew_; (first | rw [← Ny356.out] at ho10 | (simp only [Int.reduceToNat] at ho10; rw [← Ny356.out] at ho10)); have n0_ := amk (Kd.S_elder' (by (with_reducible repeat (first | apply Kd.S_alloc | apply Kd.S_drewN | apply Kd.S_drew)); exact HO_355001.out) (Kd.R_base ho10) hb); have n1_ := amk (Kd.R_lower ho10 (below_size (by repeat (first | (with_reducible first | exact HB.out | apply ba_ | apply bn_ | apply bd_ | refine bs_ ?_ GE352.out | refine bs_ ?_ GE354.out) | exact HB.out)))); have n2_ := amk (blk_below (g := gb352) (o := .cells #[.int .i64 0, .slice none 0 0] 41 (0, 0)) (by (with_reducible repeat (first | refine kn_ ?_ _ | refine blk_drew ?_ | refine ka_ ?_ _)); exact BK352.out) hb); have n3_ := amk (blk_below (g := gb354) (o := .cells #[.int .i64 ((rd_T41 l0 0).f0), u355001] 41 (0, 0)) (by (with_reducible repeat (first | refine kn_ ?_ _ | refine blk_drew ?_ | refine ka_ ?_ _)); exact BK354.out) hb); have n4_ := amk (bp_ (by repeat (first | (with_reducible first | exact HB.out | apply ba_ | apply bn_ | apply bd_ | refine bs_ ?_ GE352.out | refine bs_ ?_ GE354.out) | exact HB.out)) hb); clear HO_355001; clear BK352; clear BK354; clear HB; have HO_355001 := n0_; have HO358 := n1_; have BK352 := n2_; have BK354 := n3_; have HB := n4_; clear n0_ n1_ n2_ n3_ n4_; clear hb ho10; have hnb11 := NB354_352.out; have hnc11 := NB352_354.out; have hcz12_0 : w9.cell? ⟨gb354, 0, none⟩ = some (.int .i64 ((rd_T41 l0 0).f0)) := (blk_cell BK354.out 0).trans rfl; have hcz12_1 : w9.cell? ⟨gb354, 1, none⟩ = some (u355001) := (blk_cell BK354.out 1).trans rfl; have hfz12_0 := blk_frozen BK354.out 0; have hfz12_1 := blk_frozen BK354.out 1))
          go_loopg [7, 28] k1 (fun kq v7 v28 w' => ∃ (x7_2 : List Int) (x28_2 : Int), v28 = .int .i64 x28_2 ∧ Aside0 (impl_joined.l1 kq l0 a1 x22_1 x7_2 (((rd_T41 l0 0).f1).length : Int) x22_1 ((rd_T41 l0 0).f0) x28_2 ((rd_T41 l0 0).f0) x355001_1 = some (r1, r2)) ∧ Aside0 (kq ≤ k1) ∧ Aside0 (Kd.R (Kd.int .i64) 3 w' w.heap.size (fun _ => True) v7 x7_2) ∧ Aside0 (Kd.S (Kd.slice 3 (Kd.int .i64)) 86 w' w.heap.size (fun k_ => some k_ ≠ (v7 : Value).ownBlock) u355001 x355001_1) ∧ Aside0 (w'.heap[gb352]? = some (.cells #[.int .i64 0, (.slice none 0 0)] 41 (0, 0))) ∧ Aside0 (w'.heap[gb354]? = some (.cells #[.int .i64 ((rd_T41 l0 0).f0), u355001] 41 (0, 0))) ∧ Aside0 (Below w.heap.size w w'))
          case atStart => exact ⟨(y356), (0), (by first | rfl | (simp; done) | (simp [*]; done)), H', ⟨Nat.le_refl _⟩, ⟨by (with_reducible repeat (first | apply Kd.R_alloc | apply Kd.R_drewN | apply Kd.R_drew)); exact HO358.out⟩, ⟨by (with_reducible repeat (first | apply Kd.S_alloc | apply Kd.S_drewN | apply Kd.S_drew)); exact Kd.S_mono HO_355001.out (fun _ hk => hk.2)⟩, ⟨by (with_reducible repeat (first | refine kn_ ?_ _ | refine blk_drew ?_ | refine ka_ ?_ _)); exact BK352.out⟩, ⟨by (with_reducible repeat (first | refine kn_ ?_ _ | refine blk_drew ?_ | refine ka_ ?_ _)); exact BK354.out⟩, ⟨by repeat (first | (with_reducible first | exact HB.out | apply ba_ | apply bn_ | apply bd_ | refine bs_ ?_ GE352.out | refine bs_ ?_ GE354.out) | exact HB.out)⟩⟩
          case round =>
            clear H'
            try clear c1; try clear p2; try clear c3; try clear c3b0; try clear c3b1; try clear p3; try clear q3; try clear hx3; try clear qi3; try clear c6; try clear c8; try clear c8b0; try clear c10; try clear c11; try clear hcz12_0; try clear hcz12_1; try clear hcz7_0; try clear hcz7_1; try clear hfz12_0; try clear hfz12_1; try clear hfz7_0; try clear hfz7_1; try clear hx353_0; try clear hx353_1; try clear hx355_0; try clear hx355_1; try clear p2; try clear p3; try clear p353; try clear p355; try clear q3; try clear q353; try clear q355
            obtain ⟨x7_2, x28_2, rfl, HA, HK2, HO_7, HO_355001, BK352, BK354, HB⟩ := hrel
            cases gk with
            | zero => exact absurd HA.out (by simp [impl_joined.l1])
            | succ k2 =>
              have H := HA.out
              clear HA
              simp only [impl_joined.l1] at H
              by_cases c13 : x28_2 < ((rd_T41 l0 0).f0)
              · rw [if_pos c13] at H
                have c13b0 : decide (x28_2 < ((rd_T41 l0 0).f0)) = true := decide_eq_true c13
                clear c13
                have H' := amk H
                clear H
                go_wp2
                go_loopg [9, 33] k2 (fun kq v9 v33 w' => ∃ (x9_3 : Int) (x33_3 : Int), v9 = .int .i64 x9_3 ∧ v33 = .int .i64 x33_3 ∧ Aside0 (impl_joined.l2 kq l0 a1 x22_1 x7_2 x28_2 x9_3 (((rd_T41 l0 0).f1).length : Int) x22_1 ((rd_T41 l0 0).f0) x28_2 l0 (l0.length : Int) x33_3 ((rd_T41 l0 0).f0) x355001_1 = some (r1, r2)) ∧ Aside0 (kq ≤ k2) ∧ Aside0 (Kd.R (Kd.int .i64) 3 w' w.heap.size (fun _ => True) u7 x7_2) ∧ Aside0 (Kd.S (Kd.slice 3 (Kd.int .i64)) 86 w' w.heap.size (fun k_ => some k_ ≠ (u7 : Value).ownBlock) u355001 x355001_1) ∧ Aside0 (w'.heap[gb352]? = some (.cells #[.int .i64 0, (.slice none 0 0)] 41 (0, 0))) ∧ Aside0 (w'.heap[gb354]? = some (.cells #[.int .i64 ((rd_T41 l0 0).f0), u355001] 41 (0, 0))) ∧ Aside0 (Below w.heap.size w w'))
                case atStart => exact ⟨(0), (0), (by first | rfl | (simp; done) | (simp [*]; done)), (by first | rfl | (simp; done) | (simp [*]; done)), H', ⟨Nat.le_refl _⟩, ⟨by (with_reducible repeat (first | apply Kd.R_alloc | apply Kd.R_drewN | apply Kd.R_drew)); exact HO_7.out⟩, ⟨by (with_reducible repeat (first | apply Kd.S_alloc | apply Kd.S_drewN | apply Kd.S_drew)); exact HO_355001.out⟩, ⟨by (with_reducible repeat (first | refine kn_ ?_ _ | refine blk_drew ?_ | refine ka_ ?_ _)); exact BK352.out⟩, ⟨by (with_reducible repeat (first | refine kn_ ?_ _ | refine blk_drew ?_ | refine ka_ ?_ _)); exact BK354.out⟩, ⟨by repeat (first | (with_reducible first | exact HB.out | apply ba_ | apply bn_ | apply bd_ | refine bs_ ?_ GE352.out | refine bs_ ?_ GE354.out) | exact HB.out)⟩⟩
                case round =>
                  clear H'
                  try clear c1; try clear p2; try clear c3; try clear c3b0; try clear c3b1; try clear p3; try clear q3; try clear hx3; try clear qi3; try clear c6; try clear c8; try clear c8b0; try clear c10; try clear c11; try clear c13; try clear c13b0; try clear hcz12_0; try clear hcz12_1; try clear hcz7_0; try clear hcz7_1; try clear hfz12_0; try clear hfz12_1; try clear hfz7_0; try clear hfz7_1; try clear hx353_0; try clear hx353_1; try clear hx355_0; try clear hx355_1; try clear p2; try clear p3; try clear p353; try clear p355; try clear q3; try clear q353; try clear q355
                  obtain ⟨x9_3, x33_3, rfl, rfl, HA, HK3, HO_7, HO_355001, BK352, BK354, HB⟩ := hrel
                  cases gk with
                  | zero => exact absurd HA.out (by simp [impl_joined.l2])
                  | succ k3 =>
                    have H := HA.out
                    clear HA
                    simp only [impl_joined.l2] at H
                    by_cases c14 : x33_3 < (l0.length : Int)
                    · rw [if_pos c14] at H
                      have c14b0 : decide (x33_3 < (l0.length : Int)) = true := decide_eq_true c14
                      clear c14
                      by_cases c15 : 0 ≤ x33_3
                      · rw [if_pos c15] at H
                        have c15b0 : decide (0 ≤ x33_3) = true := decide_eq_true c15
                        clear c15
                        by_cases c16 : x33_3 < (l0.length : Int)
                        · rw [if_pos c16] at H
                          have c16b0 : decide (x33_3 < (l0.length : Int)) = true := decide_eq_true c16
                          clear c16
                          by_cases c17 : 0 ≤ x22_1
                          · rw [if_pos c17] at H
                            have c17b0 : decide (0 ≤ x22_1) = true := decide_eq_true c17
                            clear c17
                            by_cases c18 : x22_1 < (((rd_T41 l0 x33_3).f1).length : Int)
                            · rw [if_pos c18] at H
                              have c18b0 : decide (x22_1 < (((rd_T41 l0 x33_3).f1).length : Int)) = true := decide_eq_true c18
                              clear c18
                              replace H := Option.bind_eq_some_iff.mp H
                              obtain ⟨t365, A190, H⟩ := H
                              replace H : (if t365 = true then (impl_joined.l2 k3 l0 a1 x22_1 x7_2 x28_2 (wrap64 (x9_3 + 1)) (((rd_T41 l0 0).f1).length : Int) x22_1 ((rd_T41 l0 0).f0) x28_2 l0 (l0.length : Int) (wrap64 (x33_3 + 1)) ((rd_T41 l0 0).f0) x355001_1) else (impl_joined.l2 k3 l0 a1 x22_1 x7_2 x28_2 x9_3 (((rd_T41 l0 0).f1).length : Int) x22_1 ((rd_T41 l0 0).f0) x28_2 l0 (l0.length : Int) (wrap64 (x33_3 + 1)) ((rd_T41 l0 0).f0) x355001_1)) = some (r1, r2) := H
                              have A19 := amk A190
                              clear A190
                              by_cases c20 : t365 = true
                              · subst c20
                                have H1 : (impl_joined.l2 k3 l0 a1 x22_1 x7_2 x28_2 (wrap64 (x9_3 + 1)) (((rd_T41 l0 0).f1).length : Int) x22_1 ((rd_T41 l0 0).f0) x28_2 l0 (l0.length : Int) (wrap64 (x33_3 + 1)) ((rd_T41 l0 0).f0) x355001_1) = some (r1, r2) := by rw [if_pos rfl] at H; exact H
                                clear H
                                have H := H1
                                clear H1
                                have H' := amk H
                                clear H
                                have p362 : 0 ≤ (x33_3 : Int) := of_decide_eq_true (by first | (with_reducible assumption) | assumption)
                                have q362 : x33_3 < (l0.length : Int) := of_decide_eq_true (by first | (with_reducible assumption) | assumption)
                                obtain ⟨ad362, A362_1, c362_1, e362, hx362_0, hx362_1, hl362_1, hi362_1⟩ := at_T41 HR0.out x33_3 p362 q362
                                obtain rfl : ad353 = ad362 := (by injection e362)
                                replace hx362_0 := (HB.out.cell (World.block_lt_of_cell? w _ hx362_0)).trans hx362_0
                                replace hx362_1 := (HB.out.cell (World.block_lt_of_cell? w _ hx362_1)).trans hx362_1
                                have HR362_1 := amk hi362_1
                                have HC362_1 := amk hl362_1
                                clear hi362_1 hl362_1
                                replace p362 := eq_true p362
                                replace q362 := eq_true q362
                                go_wp2_with (first | ((with_reducible refine gate_dst (N := 11) rfl ?_); refine box_event ?hg (N := 11) ?hd (cs := #[.int .i64 0, .slice none 0 0]) (t := 41) ?hr ?_; (case hd => rfl); (case hg => rfl); (case hr => first | (go_simp; done) | (go_simp; rfl)); intro gb363 hg w21 hbox hb; have n0_ := amk (Kd.R_below (by (with_reducible repeat (first | apply Kd.R_alloc | apply Kd.R_drewN | apply Kd.R_drew)); exact HO_7.out) hb); have n1_ := amk (Kd.S_below (by (with_reducible repeat (first | apply Kd.S_alloc | apply Kd.S_drewN | apply Kd.S_drew)); exact HO_355001.out) hb); have n2_ := amk (blk_below (g := gb352) (o := .cells #[.int .i64 0, .slice none 0 0] 41 (0, 0)) (by (with_reducible repeat (first | refine kn_ ?_ _ | refine blk_drew ?_ | refine ka_ ?_ _)); exact BK352.out) hb); have n3_ := amk (blk_below (g := gb354) (o := .cells #[.int .i64 ((rd_T41 l0 0).f0), u355001] 41 (0, 0)) (by (with_reducible repeat (first | refine kn_ ?_ _ | refine blk_drew ?_ | refine ka_ ?_ _)); exact BK354.out) hb); have n4_ := amk (bp_ (by repeat (first | (with_reducible first | exact HB.out | apply ba_ | apply bn_ | apply bd_ | refine bs_ ?_ GE352.out | refine bs_ ?_ GE354.out) | exact HB.out)) hb); have n5_ := amk (hbox); have n6_ := amk ((by rw [hg]; exact (below_size (by repeat (first | (with_reducible first | exact HB.out | apply ba_ | apply bn_ | apply bd_ | refine bs_ ?_ GE352.out | refine bs_ ?_ GE354.out) | exact HB.out))) : w.heap.size ≤ gb363)); have n7_ := amk ((by rw [hg]; exact (below_size (by repeat (first | (with_reducible first | exact HB.out | apply ba_ | apply bn_ | apply bd_ | refine bs_ ?_ GE352.out | refine bs_ ?_ GE354.out) | exact HB.out))) : w.heap.size ≤ gb363)); have n8_ := amk ((by rw [hg]; exact Nat.ne_of_lt (blk_lt (g := gb352) (o := .cells #[.int .i64 0, .slice none 0 0] 41 (0, 0)) (by (with_reducible repeat (first | refine kn_ ?_ _ | refine blk_drew ?_ | refine ka_ ?_ _)); exact BK352.out)) : gb352 ≠ gb363)); have n9_ := amk ((by rw [hg]; exact Nat.ne_of_gt (blk_lt (g := gb352) (o := .cells #[.int .i64 0, .slice none 0 0] 41 (0, 0)) (by (with_reducible repeat (first | refine kn_ ?_ _ | refine blk_drew ?_ | refine ka_ ?_ _)); exact BK352.out)) : gb363 ≠ gb352)); have n10_ := amk ((by rw [hg]; exact Nat.ne_of_lt (blk_lt (g := gb354) (o := .cells #[.int .i64 ((rd_T41 l0 0).f0), u355001] 41 (0, 0)) (by (with_reducible repeat (first | refine kn_ ?_ _ | refine blk_drew ?_ | refine ka_ ?_ _)); exact BK354.out)) : gb354 ≠ gb363)); have n11_ := amk ((by rw [hg]; exact Nat.ne_of_gt (blk_lt (g := gb354) (o := .cells #[.int .i64 ((rd_T41 l0 0).f0), u355001] 41 (0, 0)) (by (with_reducible repeat (first | refine kn_ ?_ _ | refine blk_drew ?_ | refine ka_ ?_ _)); exact BK354.out)) : gb363 ≠ gb354)); clear HO_7; clear HO_355001; clear BK352; clear BK354; clear HB; have HO_7 := n0_; have HO_355001 := n1_; have BK352 := n2_; have BK354 := n3_; have HB := n4_; have BK363 := n5_; have GW363 := n6_; have GE363 := n7_; have NB352_363 := n8_; have NB363_352 := n9_; have NB354_363 := n10_; have NB363_354 := n11_; clear n0_ n1_ n2_ n3_ n4_ n5_ n6_ n7_ n8_ n9_ n10_ n11_; clear hb hbox hg; have hnb22 := NB363_352.out; have hnc22 := NB352_363.out; have hnb23 := NB363_354.out; have hnc23 := NB354_363.out; have hcz24_0 : w21.cell? ⟨gb363, 0, none⟩ = some (.int .i64 0) := (blk_cell BK363.out 0).trans rfl; have hcz24_1 : w21.cell? ⟨gb363, 1, none⟩ = some (.slice none 0 0) := (blk_cell BK363.out 1).trans rfl; have hfz24_0 := blk_frozen BK363.out 0; have hfz24_1 := blk_frozen BK363.out 1; have p364 : 0 ≤ (x22_1 : Int) := of_decide_eq_true (by first | (with_reducible assumption) | assumption); have q364 : x22_1 < (((rd_T41 l0 x33_3).f1).length : Int) := of_decide_eq_true (by first | (with_reducible assumption) | assumption); obtain ⟨ad364, A364_0, c364_0, e364, hx364_0, hl364_0, hi364_0⟩ := at_L5 HR362_1.out x22_1 p364 q364; cases e364; have hn364_0 : ad364.block ≠ gb363 := Nat.ne_of_lt (Nat.lt_of_lt_of_le (by have := World.block_lt_of_cell? _ _ hx364_0; first | rwa [add_block] at this | exact this) GW363.out); have hn364_1 : ad364.block ≠ gb363 := Nat.ne_of_lt (Nat.lt_of_lt_of_le (by have := World.block_lt_of_cell? _ _ hx364_0; first | rwa [add_block] at this | exact this) GW363.out); replace hx364_0 := (HB.out.cell (World.block_lt_of_cell? w _ hx364_0)).trans hx364_0; have HR364_0 := amk hi364_0; have HC364_0 := amk hl364_0; clear hi364_0 hl364_0; replace hx364_0 := (cell_far (p := ⟨gb363, 0, none⟩) (by first | (rw [add_block]; exact hn364_0) | (show (Addr.add _ _).block ≠ _; rw [add_block]; exact hn364_0) | exact hn364_0) (.int .i64 ((rd_T41 l0 x33_3).f0))).trans hx364_0; replace hx364_0 := (cell_far (p := ⟨gb363, 1, none⟩) (by first | (rw [add_block]; exact hn364_1) | (show (Addr.add _ _).block ≠ _; rw [add_block]; exact hn364_1) | exact hn364_1) (.slice (some ad364) ((rd_T41 l0 x33_3).f1).length c362_1)).trans hx364_0; clear hn364_0; clear hn364_1; replace p364 := eq_true p364; replace q364 := eq_true q364) | ((with_reducible refine gate_callee (f := 104) rfl ?_); refine goesL_ (some 43) rfl rfl Try.func104 (by kernel_rfl) rfl #[.slice A364_0 (rd_L5 ((rd_T41 l0 x33_3).f1) x22_1).length c364_0, .int .i64 x28_2] rfl (by (try simp only [List.map_toArray, List.map_cons, List.map_nil]); first | done | rfl | (simp only [List.length_drop, List.length_take]; rfl)) ?_; (with_reducible refine (slices_Contains_int_int.calls k3 _ _ (rd_L5 ((rd_T41 l0 x33_3).f1) x22_1) x28_2 true _ ?side1 ?side2 A19.out).mono ?_); (case side1 => exact Kd.C_below HR364_0.out (by repeat (first | (with_reducible first | exact HB.out | apply ba_ | apply bn_ | apply bd_ | refine bs_ ?_ GE352.out | refine bs_ ?_ GE354.out | refine bs_ ?_ GE363.out) | exact HB.out))); (case side2 => exact HC364_0.out); rintro e w' ⟨rfl, ⟨nd, rfl⟩⟩; refine ⟨_, rfl, ?_⟩))
                                go_roundg k3
                                case measure => have := HK1.out; have := HK2.out; have := HK3.out; omega
                                case rel => exact ⟨(wrap64 (x9_3 + 1)), (wrap64 (x33_3 + 1)), (by first | rfl | (simp; done) | (simp [*]; done)), (by first | rfl | (simp; done) | (simp [*]; done)), H', ⟨by have := HK1.out; have := HK2.out; have := HK3.out; omega⟩, ⟨by (with_reducible repeat (first | apply Kd.R_alloc | apply Kd.R_drewN | apply Kd.R_drew)); exact Kd.R_mono (Kd.R_far (p := ⟨gb363, 1, none⟩) (Kd.R_far (p := ⟨gb363, 0, none⟩) (Kd.R_types HO_7.out BK363.out (by decide)) (fun _ hk => hk.2) (.int .i64 ((rd_T41 l0 x33_3).f0))) (fun _ hk => hk.2) (.slice (some ad364) ((rd_T41 l0 x33_3).f1).length c362_1)) (fun _ hk => trivial)⟩, ⟨by (with_reducible repeat (first | apply Kd.S_alloc | apply Kd.S_drewN | apply Kd.S_drew)); exact Kd.S_mono (Kd.S_far (p := ⟨gb363, 1, none⟩) (Kd.S_far (p := ⟨gb363, 0, none⟩) (Kd.S_types HO_355001.out BK363.out (by decide)) (fun _ hk => hk.2) (.int .i64 ((rd_T41 l0 x33_3).f0))) (fun _ hk => hk.2) (.slice (some ad364) ((rd_T41 l0 x33_3).f1).length c362_1)) (fun _ hk => hk.1)⟩, ⟨by (with_reducible repeat (first | refine kn_ ?_ _ | refine blk_drew ?_ | refine ka_ ?_ _)); refine blk_far ?_ NB352_363.out _; (with_reducible repeat (first | refine kn_ ?_ _ | refine blk_drew ?_ | refine ka_ ?_ _)); refine blk_far ?_ NB352_363.out _; (with_reducible repeat (first | refine kn_ ?_ _ | refine blk_drew ?_ | refine ka_ ?_ _)); exact BK352.out⟩, ⟨by (with_reducible repeat (first | refine kn_ ?_ _ | refine blk_drew ?_ | refine ka_ ?_ _)); refine blk_far ?_ NB354_363.out _; (with_reducible repeat (first | refine kn_ ?_ _ | refine blk_drew ?_ | refine ka_ ?_ _)); refine blk_far ?_ NB354_363.out _; (with_reducible repeat (first | refine kn_ ?_ _ | refine blk_drew ?_ | refine ka_ ?_ _)); exact BK354.out⟩, ⟨by repeat (first | (with_reducible first | exact HB.out | apply ba_ | apply bn_ | apply bd_ | refine bs_ ?_ GE352.out | refine bs_ ?_ GE354.out | refine bs_ ?_ GE363.out) | exact HB.out)⟩⟩
                              · replace c20 := Bool.eq_false_iff.mpr c20
                                subst c20
                                have H1 : (impl_joined.l2 k3 l0 a1 x22_1 x7_2 x28_2 x9_3 (((rd_T41 l0 0).f1).length : Int) x22_1 ((rd_T41 l0 0).f0) x28_2 l0 (l0.length : Int) (wrap64 (x33_3 + 1)) ((rd_T41 l0 0).f0) x355001_1) = some (r1, r2) := by rw [if_neg (show ¬ (false = true) by decide)] at H; exact H
                                clear H
                                have H := H1
                                clear H1
                                have H' := amk H
                                clear H
                                have p362 : 0 ≤ (x33_3 : Int) := of_decide_eq_true (by first | (with_reducible assumption) | assumption)
                                have q362 : x33_3 < (l0.length : Int) := of_decide_eq_true (by first | (with_reducible assumption) | assumption)
                                obtain ⟨ad362, A362_1, c362_1, e362, hx362_0, hx362_1, hl362_1, hi362_1⟩ := at_T41 HR0.out x33_3 p362 q362
                                obtain rfl : ad353 = ad362 := (by injection e362)
                                replace hx362_0 := (HB.out.cell (World.block_lt_of_cell? w _ hx362_0)).trans hx362_0
                                replace hx362_1 := (HB.out.cell (World.block_lt_of_cell? w _ hx362_1)).trans hx362_1
                                have HR362_1 := amk hi362_1
                                have HC362_1 := amk hl362_1
                                clear hi362_1 hl362_1
                                replace p362 := eq_true p362
                                replace q362 := eq_true q362
                                go_wp2_with (first | ((with_reducible refine gate_dst (N := 11) rfl ?_); refine box_event ?hg (N := 11) ?hd (cs := #[.int .i64 0, .slice none 0 0]) (t := 41) ?hr ?_; (case hd => rfl); (case hg => rfl); (case hr => first | (go_simp; done) | (go_simp; rfl)); intro gb363 hg w25 hbox hb; have n0_ := amk (Kd.R_below (by (with_reducible repeat (first | apply Kd.R_alloc | apply Kd.R_drewN | apply Kd.R_drew)); exact HO_7.out) hb); have n1_ := amk (Kd.S_below (by (with_reducible repeat (first | apply Kd.S_alloc | apply Kd.S_drewN | apply Kd.S_drew)); exact HO_355001.out) hb); have n2_ := amk (blk_below (g := gb352) (o := .cells #[.int .i64 0, .slice none 0 0] 41 (0, 0)) (by (with_reducible repeat (first | refine kn_ ?_ _ | refine blk_drew ?_ | refine ka_ ?_ _)); exact BK352.out) hb); have n3_ := amk (blk_below (g := gb354) (o := .cells #[.int .i64 ((rd_T41 l0 0).f0), u355001] 41 (0, 0)) (by (with_reducible repeat (first | refine kn_ ?_ _ | refine blk_drew ?_ | refine ka_ ?_ _)); exact BK354.out) hb); have n4_ := amk (bp_ (by repeat (first | (with_reducible first | exact HB.out | apply ba_ | apply bn_ | apply bd_ | refine bs_ ?_ GE352.out | refine bs_ ?_ GE354.out) | exact HB.out)) hb); have n5_ := amk (hbox); have n6_ := amk ((by rw [hg]; exact (below_size (by repeat (first | (with_reducible first | exact HB.out | apply ba_ | apply bn_ | apply bd_ | refine bs_ ?_ GE352.out | refine bs_ ?_ GE354.out) | exact HB.out))) : w.heap.size ≤ gb363)); have n7_ := amk ((by rw [hg]; exact (below_size (by repeat (first | (with_reducible first | exact HB.out | apply ba_ | apply bn_ | apply bd_ | refine bs_ ?_ GE352.out | refine bs_ ?_ GE354.out) | exact HB.out))) : w.heap.size ≤ gb363)); have n8_ := amk ((by rw [hg]; exact Nat.ne_of_lt (blk_lt (g := gb352) (o := .cells #[.int .i64 0, .slice none 0 0] 41 (0, 0)) (by (with_reducible repeat (first | refine kn_ ?_ _ | refine blk_drew ?_ | refine ka_ ?_ _)); exact BK352.out)) : gb352 ≠ gb363)); have n9_ := amk ((by rw [hg]; exact Nat.ne_of_gt (blk_lt (g := gb352) (o := .cells #[.int .i64 0, .slice none 0 0] 41 (0, 0)) (by (with_reducible repeat (first | refine kn_ ?_ _ | refine blk_drew ?_ | refine ka_ ?_ _)); exact BK352.out)) : gb363 ≠ gb352)); have n10_ := amk ((by rw [hg]; exact Nat.ne_of_lt (blk_lt (g := gb354) (o := .cells #[.int .i64 ((rd_T41 l0 0).f0), u355001] 41 (0, 0)) (by (with_reducible repeat (first | refine kn_ ?_ _ | refine blk_drew ?_ | refine ka_ ?_ _)); exact BK354.out)) : gb354 ≠ gb363)); have n11_ := amk ((by rw [hg]; exact Nat.ne_of_gt (blk_lt (g := gb354) (o := .cells #[.int .i64 ((rd_T41 l0 0).f0), u355001] 41 (0, 0)) (by (with_reducible repeat (first | refine kn_ ?_ _ | refine blk_drew ?_ | refine ka_ ?_ _)); exact BK354.out)) : gb363 ≠ gb354)); clear HO_7; clear HO_355001; clear BK352; clear BK354; clear HB; have HO_7 := n0_; have HO_355001 := n1_; have BK352 := n2_; have BK354 := n3_; have HB := n4_; have BK363 := n5_; have GW363 := n6_; have GE363 := n7_; have NB352_363 := n8_; have NB363_352 := n9_; have NB354_363 := n10_; have NB363_354 := n11_; clear n0_ n1_ n2_ n3_ n4_ n5_ n6_ n7_ n8_ n9_ n10_ n11_; clear hb hbox hg; have hnb26 := NB363_352.out; have hnc26 := NB352_363.out; have hnb27 := NB363_354.out; have hnc27 := NB354_363.out; have hcz28_0 : w25.cell? ⟨gb363, 0, none⟩ = some (.int .i64 0) := (blk_cell BK363.out 0).trans rfl; have hcz28_1 : w25.cell? ⟨gb363, 1, none⟩ = some (.slice none 0 0) := (blk_cell BK363.out 1).trans rfl; have hfz28_0 := blk_frozen BK363.out 0; have hfz28_1 := blk_frozen BK363.out 1; have p364 : 0 ≤ (x22_1 : Int) := of_decide_eq_true (by first | (with_reducible assumption) | assumption); have q364 : x22_1 < (((rd_T41 l0 x33_3).f1).length : Int) := of_decide_eq_true (by first | (with_reducible assumption) | assumption); obtain ⟨ad364, A364_0, c364_0, e364, hx364_0, hl364_0, hi364_0⟩ := at_L5 HR362_1.out x22_1 p364 q364; cases e364; have hn364_0 : ad364.block ≠ gb363 := Nat.ne_of_lt (Nat.lt_of_lt_of_le (by have := World.block_lt_of_cell? _ _ hx364_0; first | rwa [add_block] at this | exact this) GW363.out); have hn364_1 : ad364.block ≠ gb363 := Nat.ne_of_lt (Nat.lt_of_lt_of_le (by have := World.block_lt_of_cell? _ _ hx364_0; first | rwa [add_block] at this | exact this) GW363.out); replace hx364_0 := (HB.out.cell (World.block_lt_of_cell? w _ hx364_0)).trans hx364_0; have HR364_0 := amk hi364_0; have HC364_0 := amk hl364_0; clear hi364_0 hl364_0; replace hx364_0 := (cell_far (p := ⟨gb363, 0, none⟩) (by first | (rw [add_block]; exact hn364_0) | (show (Addr.add _ _).block ≠ _; rw [add_block]; exact hn364_0) | exact hn364_0) (.int .i64 ((rd_T41 l0 x33_3).f0))).trans hx364_0; replace hx364_0 := (cell_far (p := ⟨gb363, 1, none⟩) (by first | (rw [add_block]; exact hn364_1) | (show (Addr.add _ _).block ≠ _; rw [add_block]; exact hn364_1) | exact hn364_1) (.slice (some ad364) ((rd_T41 l0 x33_3).f1).length c362_1)).trans hx364_0; clear hn364_0; clear hn364_1; replace p364 := eq_true p364; replace q364 := eq_true q364) | ((with_reducible refine gate_callee (f := 104) rfl ?_); refine goesL_ (some 43) rfl rfl Try.func104 (by kernel_rfl) rfl #[.slice A364_0 (rd_L5 ((rd_T41 l0 x33_3).f1) x22_1).length c364_0, .int .i64 x28_2] rfl (by (try simp only [List.map_toArray, List.map_cons, List.map_nil]); first | done | rfl | (simp only [List.length_drop, List.length_take]; rfl)) ?_; (with_reducible refine (slices_Contains_int_int.calls k3 _ _ (rd_L5 ((rd_T41 l0 x33_3).f1) x22_1) x28_2 false _ ?side1 ?side2 A19.out).mono ?_); (case side1 => exact Kd.C_below HR364_0.out (by repeat (first | (with_reducible first | exact HB.out | apply ba_ | apply bn_ | apply bd_ | refine bs_ ?_ GE352.out | refine bs_ ?_ GE354.out | refine bs_ ?_ GE363.out) | exact HB.out))); (case side2 => exact HC364_0.out); rintro e w' ⟨rfl, ⟨nd, rfl⟩⟩; refine ⟨_, rfl, ?_⟩))
                                go_roundg k3
                                case measure => have := HK1.out; have := HK2.out; have := HK3.out; omega
                                case rel => exact ⟨(x9_3), (wrap64 (x33_3 + 1)), (by first | rfl | (simp; done) | (simp [*]; done)), (by first | rfl | (simp; done) | (simp [*]; done)), H', ⟨by have := HK1.out; have := HK2.out; have := HK3.out; omega⟩, ⟨by (with_reducible repeat (first | apply Kd.R_alloc | apply Kd.R_drewN | apply Kd.R_drew)); exact Kd.R_mono (Kd.R_far (p := ⟨gb363, 1, none⟩) (Kd.R_far (p := ⟨gb363, 0, none⟩) (Kd.R_types HO_7.out BK363.out (by decide)) (fun _ hk => hk.2) (.int .i64 ((rd_T41 l0 x33_3).f0))) (fun _ hk => hk.2) (.slice (some ad364) ((rd_T41 l0 x33_3).f1).length c362_1)) (fun _ hk => trivial)⟩, ⟨by (with_reducible repeat (first | apply Kd.S_alloc | apply Kd.S_drewN | apply Kd.S_drew)); exact Kd.S_mono (Kd.S_far (p := ⟨gb363, 1, none⟩) (Kd.S_far (p := ⟨gb363, 0, none⟩) (Kd.S_types HO_355001.out BK363.out (by decide)) (fun _ hk => hk.2) (.int .i64 ((rd_T41 l0 x33_3).f0))) (fun _ hk => hk.2) (.slice (some ad364) ((rd_T41 l0 x33_3).f1).length c362_1)) (fun _ hk => hk.1)⟩, ⟨by (with_reducible repeat (first | refine kn_ ?_ _ | refine blk_drew ?_ | refine ka_ ?_ _)); refine blk_far ?_ NB352_363.out _; (with_reducible repeat (first | refine kn_ ?_ _ | refine blk_drew ?_ | refine ka_ ?_ _)); refine blk_far ?_ NB352_363.out _; (with_reducible repeat (first | refine kn_ ?_ _ | refine blk_drew ?_ | refine ka_ ?_ _)); exact BK352.out⟩, ⟨by (with_reducible repeat (first | refine kn_ ?_ _ | refine blk_drew ?_ | refine ka_ ?_ _)); refine blk_far ?_ NB354_363.out _; (with_reducible repeat (first | refine kn_ ?_ _ | refine blk_drew ?_ | refine ka_ ?_ _)); refine blk_far ?_ NB354_363.out _; (with_reducible repeat (first | refine kn_ ?_ _ | refine blk_drew ?_ | refine ka_ ?_ _)); exact BK354.out⟩, ⟨by repeat (first | (with_reducible first | exact HB.out | apply ba_ | apply bn_ | apply bd_ | refine bs_ ?_ GE352.out | refine bs_ ?_ GE354.out | refine bs_ ?_ GE363.out) | exact HB.out)⟩⟩
                            · rw [if_neg c18] at H
                              exact absurd H (by simp)
                          · rw [if_neg c17] at H
                            exact absurd H (by simp)
                        · rw [if_neg c16] at H
                          exact absurd H (by simp)
                      · rw [if_neg c15] at H
                        exact absurd H (by simp)
                    · rw [if_neg c14] at H
                      have c14b0 : decide (x33_3 < (l0.length : Int)) = false := decide_eq_false c14
                      clear c14
                      by_cases c29 : x9_3 ≥ a1
                      · rw [if_pos c29] at H
                        have c29b0 : decide (a1 ≤ x9_3) = true := decide_eq_true c29
                        clear c29
                        by_cases c30 : x7_2.length < 17592186044416
                        · rw [if_pos c30] at H
                          have LMc30 := amk c30
                          clear c30
                          obtain ⟨y366, hy366⟩ : ∃ y_ : List Int, y_ = (x7_2 ++ [x28_2]) := ⟨_, rfl⟩
                          replace H : (impl_joined.l1 k3 l0 a1 x22_1 y366 (((rd_T41 l0 0).f1).length : Int) x22_1 ((rd_T41 l0 0).f0) (wrap64 (x28_2 + 1)) ((rd_T41 l0 0).f0) x355001_1) = some (r1, r2) := by first | (rw [hy366]; with_reducible exact H) | (have H2_ := (Option.bind_some _ _).symm.trans H; rw [hy366]; with_reducible exact H2_) | (have H2_ := (Option.bind_some _ _).symm.trans H; with_reducible exact H2_) | with_reducible exact H | (rw [hy366]; exact H) | exact H
                          have Ny366 := amk hy366
                          clear hy366
                          have H' := amk H
                          clear H
                          go_wp2_with (first | ((with_reducible refine gate_builtin (b := .append) (xs := #[.tmp 50, .tmp 52]) rfl ?_); at_builtin; refine Kd.R_append (Kd.int .i64) (w0 := w) w.heap.size rfl (.tmp 50) (.tmp 52) 86 3 (.int .i64 0) 8 rfl Try.underlying86 info3 rfl (by decide) (by omega) u7 x7_2 x28_2 [.int .i64 x28_2] (fun _ => True) (fun _ => False) rfl rfl ?aP (fun _ hk => hk.elim) ?aF ?aO ?aB ?aS ?aL ?_; (case aP => exact rfl); (case aB => exact (by repeat (first | (with_reducible first | exact HB.out | apply ba_ | apply bn_ | apply bd_ | refine bs_ ?_ GE352.out | refine bs_ ?_ GE354.out) | exact HB.out))); (case aF => exact (fun _ _ => trivial)); (case aO => exact (by (with_reducible repeat (first | apply Kd.R_alloc | apply Kd.R_drewN | apply Kd.R_drew)); exact HO_7.out)); (case aS => exact (below_size (by repeat (first | (with_reducible first | exact HB.out | apply ba_ | apply bn_ | apply bd_ | refine bs_ ?_ GE352.out | refine bs_ ?_ GE354.out) | exact HB.out)))); (case aL => have := LMc30.out; omega); intro v367 w31 ho hb hg hat; rw [← Ny366.out] at ho; have n0_ := amk (Kd.S_after (ok := (fun _ => True)) (by (with_reducible repeat (first | apply Kd.S_alloc | apply Kd.S_drewN | apply Kd.S_drew)); exact Kd.S_mono HO_355001.out (fun _ hk => ⟨trivial, hk⟩)) hg hat); have n1_ := amk (blk_grown (g := gb352) (o := .cells #[.int .i64 0, .slice none 0 0] 41 (0, 0)) (by (with_reducible repeat (first | refine kn_ ?_ _ | refine blk_drew ?_ | refine ka_ ?_ _)); exact BK352.out) hg (Kd.R_ne HO_7.out BK352.out (by decide))); have n2_ := amk (blk_grown (g := gb354) (o := .cells #[.int .i64 ((rd_T41 l0 0).f0), u355001] 41 (0, 0)) (by (with_reducible repeat (first | refine kn_ ?_ _ | refine blk_drew ?_ | refine ka_ ?_ _)); exact BK354.out) hg (Kd.R_ne HO_7.out BK354.out (by decide))); have n3_ := amk (hb); have n4_ := amk (ho); clear HO_355001; clear BK352; clear BK354; clear HB; clear HO_7; have HO_355001 := n0_; have BK352 := n1_; have BK354 := n2_; have HB := n3_; have HO368 := n4_; clear n0_ n1_ n2_ n3_ n4_; clear ho hb hg hat))
                          go_roundg k3
                          case measure => have := HK1.out; have := HK2.out; have := HK3.out; omega
                          case rel => exact ⟨(y366), (wrap64 (x28_2 + 1)), (by first | rfl | (simp; done) | (simp [*]; done)), H', ⟨by have := HK1.out; have := HK2.out; have := HK3.out; omega⟩, ⟨by (with_reducible repeat (first | apply Kd.R_alloc | apply Kd.R_drewN | apply Kd.R_drew)); exact HO368.out⟩, ⟨by (with_reducible repeat (first | apply Kd.S_alloc | apply Kd.S_drewN | apply Kd.S_drew)); exact Kd.S_mono HO_355001.out (fun _ hk => hk.2)⟩, ⟨by (with_reducible repeat (first | refine kn_ ?_ _ | refine blk_drew ?_ | refine ka_ ?_ _)); exact BK352.out⟩, ⟨by (with_reducible repeat (first | refine kn_ ?_ _ | refine blk_drew ?_ | refine ka_ ?_ _)); exact BK354.out⟩, ⟨by repeat (first | (with_reducible first | exact HB.out | apply ba_ | apply bn_ | apply bd_ | refine bs_ ?_ GE352.out | refine bs_ ?_ GE354.out) | exact HB.out)⟩⟩
                        · rw [if_neg c30] at H
                          exact absurd H (by simp)
                      · rw [if_neg c29] at H
                        have c29b0 : decide (a1 ≤ x9_3) = false := decide_eq_false c29
                        clear c29
                        have H' := amk H
                        clear H
                        go_wp2
                        go_roundg k3
                        case measure => have := HK1.out; have := HK2.out; have := HK3.out; omega
                        case rel => exact ⟨(x7_2), (wrap64 (x28_2 + 1)), (by first | rfl | (simp; done) | (simp [*]; done)), H', ⟨by have := HK1.out; have := HK2.out; have := HK3.out; omega⟩, ⟨by (with_reducible repeat (first | apply Kd.R_alloc | apply Kd.R_drewN | apply Kd.R_drew)); exact HO_7.out⟩, ⟨by (with_reducible repeat (first | apply Kd.S_alloc | apply Kd.S_drewN | apply Kd.S_drew)); exact HO_355001.out⟩, ⟨by (with_reducible repeat (first | refine kn_ ?_ _ | refine blk_drew ?_ | refine ka_ ?_ _)); exact BK352.out⟩, ⟨by (with_reducible repeat (first | refine kn_ ?_ _ | refine blk_drew ?_ | refine ka_ ?_ _)); exact BK354.out⟩, ⟨by repeat (first | (with_reducible first | exact HB.out | apply ba_ | apply bn_ | apply bd_ | refine bs_ ?_ GE352.out | refine bs_ ?_ GE354.out) | exact HB.out)⟩⟩
              · rw [if_neg c13] at H
                have c13b0 : decide (x28_2 < ((rd_T41 l0 0).f0)) = false := decide_eq_false c13
                clear c13
                by_cases c32 : x355001_1.length < 5864062014805
                · rw [if_pos c32] at H
                  have LMc32 := amk c32
                  clear c32
                  obtain ⟨y359, hy359⟩ : ∃ y_ : List (List Int), y_ = (x355001_1 ++ [x7_2]) := ⟨_, rfl⟩
                  replace H : (impl_joined.l0 k2 l0 a1 (((rd_T41 l0 0).f1).length : Int) (wrap64 (x22_1 + 1)) ((rd_T41 l0 0).f0) y359) = some (r1, r2) := by first | (rw [hy359]; with_reducible exact H) | (have H2_ := (Option.bind_some _ _).symm.trans H; rw [hy359]; with_reducible exact H2_) | (have H2_ := (Option.bind_some _ _).symm.trans H; with_reducible exact H2_) | with_reducible exact H | (rw [hy359]; exact H) | exact H
                  have Ny359 := amk hy359
                  clear hy359
                  have H' := amk H
                  clear H
                  have hnb33 := NB354_352.out
                  have hnc33 := NB352_354.out
                  have hcz34_0 : wr.cell? ⟨gb354, 0, none⟩ = some (.int .i64 ((rd_T41 l0 0).f0)) := (blk_cell BK354.out 0).trans rfl
                  have hcz34_1 : wr.cell? ⟨gb354, 1, none⟩ = some (u355001) := (blk_cell BK354.out 1).trans rfl
                  have hfz34_0 := blk_frozen BK354.out 0
                  have hfz34_1 := blk_frozen BK354.out 1
                  obtain ⟨Ao36, co36, eo36⟩ := Kd.R_slice HO_7.out
                  subst eo36
                  go_wp2_with (first | ((with_reducible refine gate_builtin (b := .append) (xs := #[.tmp 56, .tmp 58]) rfl ?_); at_builtin; refine Kd.S_append (Kd.slice 3 (Kd.int .i64)) (w0 := w) w.heap.size rfl (.tmp 56) (.tmp 58) 35 86 (.slice none 0 0) 24 rfl Try.underlying35 info86 rfl (by decide) (by omega) u355001 x355001_1 x7_2 [.slice Ao36 x7_2.length co36] (fun _ => True) (fun k_ => some k_ = (.slice Ao36 x7_2.length co36 : Value).ownBlock) rfl rfl ?aP (fun k_ hk_ => ((Kd.R_mono (ok' := fun k_ => ((fun _ => True)) k_ ∧ some k_ ≠ (u355001 : Value).ownBlock) (Kd.R_apart' (HO_7.out) (Kd.S_typed HO_355001.out) (by decide)) (fun k_ hk => ⟨trivial, hk.2⟩))).1 k_ hk_.symm) ?aF ?aO ?aB ?aS ?aL ?_; (case aP => exact Kd.M_row (Kd.R_mono (Kd.R_tight rfl (Kd.R_mono (ok' := fun k_ => ((fun _ => True)) k_ ∧ some k_ ≠ (u355001 : Value).ownBlock) (Kd.R_apart' (HO_7.out) (Kd.S_typed HO_355001.out) (by decide)) (fun k_ hk => ⟨trivial, hk.2⟩))) (fun _ h_ => h_))); (case aB => exact (by repeat (first | (with_reducible first | exact HB.out | apply ba_ | apply bn_ | apply bd_ | refine bs_ ?_ GE352.out | refine bs_ ?_ GE354.out) | exact HB.out))); (case aF => exact (fun _ _ => trivial)); (case aO => exact (by (with_reducible repeat (first | apply Kd.S_alloc | apply Kd.S_drewN | apply Kd.S_drew)); exact Kd.S_mono HO_355001.out (fun k_ hk => ⟨trivial, fun e_ => hk e_⟩))); (case aS => exact (below_size (by repeat (first | (with_reducible first | exact HB.out | apply ba_ | apply bn_ | apply bd_ | refine bs_ ?_ GE352.out | refine bs_ ?_ GE354.out) | exact HB.out)))); (case aL => have := LMc32.out; omega); intro v360 w35 ho hb hg hat; rw [← Ny359.out] at ho; have n0_ := amk (blk_grown (g := gb352) (o := .cells #[.int .i64 0, .slice none 0 0] 41 (0, 0)) (by (with_reducible repeat (first | refine kn_ ?_ _ | refine blk_drew ?_ | refine ka_ ?_ _)); exact BK352.out) hg (Kd.S_ne HO_355001.out BK352.out (by decide))); have n1_ := amk (blk_grown (g := gb354) (o := .cells #[.int .i64 ((rd_T41 l0 0).f0), u355001] 41 (0, 0)) (by (with_reducible repeat (first | refine kn_ ?_ _ | refine blk_drew ?_ | refine ka_ ?_ _)); exact BK354.out) hg (Kd.S_ne HO_355001.out BK354.out (by decide))); have n2_ := amk (hb); have n3_ := amk (ho); clear BK352; clear BK354; clear HB; clear HO_355001; clear HO_7; have BK352 := n0_; have BK354 := n1_; have HB := n2_; have HO361 := n3_; clear n0_ n1_ n2_ n3_; clear ho hb hg hat; obtain ⟨Ao37, co37, eo37⟩ := Kd.S_slice HO361.out; subst eo37; have hcz38_0 : w35.cell? ⟨gb354, 0, none⟩ = some (.int .i64 ((rd_T41 l0 0).f0)) := (blk_cell BK354.out 0).trans rfl; have hcz38_1 : w35.cell? ⟨gb354, 1, none⟩ = some (u355001) := (blk_cell BK354.out 1).trans rfl; have hfz38_0 := blk_frozen BK354.out 0; have hfz38_1 := blk_frozen BK354.out 1))
                  go_roundg k2
                  case measure => have := HK1.out; have := HK2.out; omega
                  case rel => exact ⟨(wrap64 (x22_1 + 1)), (y359), (.slice Ao37 y359.length co37), (by first | rfl | (simp; done) | (simp [*]; done)), H', ⟨by have := HK1.out; have := HK2.out; omega⟩, ⟨by (with_reducible repeat (first | apply Kd.S_alloc | apply Kd.S_drewN | apply Kd.S_drew)); exact Kd.S_mono (Kd.S_far (p := ⟨gb354, 1, none⟩) (Kd.S_types HO361.out BK354.out (by decide)) (fun _ hk => hk.2) (.slice Ao37 y359.length co37)) (fun _ hk => trivial)⟩, ⟨by (with_reducible repeat (first | refine kn_ ?_ _ | refine blk_drew ?_ | refine ka_ ?_ _)); refine blk_far ?_ NB352_354.out _; (with_reducible repeat (first | refine kn_ ?_ _ | refine blk_drew ?_ | refine ka_ ?_ _)); exact BK352.out⟩, ⟨by (with_reducible repeat (first | refine kn_ ?_ _ | refine blk_drew ?_ | refine ka_ ?_ _)); refine blk_put (cs := #[.int .i64 ((rd_T41 l0 0).f0), u355001]) ?_ 1 _ rfl; (with_reducible repeat (first | refine kn_ ?_ _ | refine blk_drew ?_ | refine ka_ ?_ _)); exact BK354.out⟩, ⟨by repeat (first | (with_reducible first | exact HB.out | apply ba_ | apply bn_ | apply bd_ | refine bs_ ?_ GE352.out | refine bs_ ?_ GE354.out) | exact HB.out)⟩⟩
                · rw [if_neg c32] at H
                  exact absurd H (by simp)
        · rw [if_neg c8] at H
          have c8b0 : decide (x22_1 < (((rd_T41 l0 0).f1).length : Int)) = false := decide_eq_false c8
          clear c8
          simp only [Option.some.injEq, Prod.mk.injEq] at H
          obtain ⟨rfl, rfl⟩ := H
          have hnb39 := NB354_352.out
          have hnc39 := NB352_354.out
          have hcz40_0 : wr.cell? ⟨gb354, 0, none⟩ = some (.int .i64 ((rd_T41 l0 0).f0)) := (blk_cell BK354.out 0).trans rfl
          have hcz40_1 : wr.cell? ⟨gb354, 1, none⟩ = some (u355001) := (blk_cell BK354.out 1).trans rfl
          have hfz40_0 := blk_frozen BK354.out 0
          have hfz40_1 := blk_frozen BK354.out 1
          have hcz41_0 : wr.cell? ⟨gb352, 0, none⟩ = some (.int .i64 0) := (blk_cell BK352.out 0).trans rfl
          have hcz41_1 : wr.cell? ⟨gb352, 1, none⟩ = some (.slice none 0 0) := (blk_cell BK352.out 1).trans rfl
          have hfz41_0 := blk_frozen BK352.out 0
          have hfz41_1 := blk_frozen BK352.out 1
          obtain ⟨Ao42, co42, eo42⟩ := Kd.S_slice HO_355001.out
          subst eo42
          go_wp2
          refine bodyPost_ret (results_cell_row rfl _ _ gb352 41 #[.int .i64 ((rd_T41 l0 0).f0), .slice Ao42 x355001_1.length co42] (0, 0) _ rfl (by (with_reducible repeat (first | refine kn_ ?_ _ | refine blk_drew ?_ | refine ka_ ?_ _)); refine blk_put (cs := #[.int .i64 ((rd_T41 l0 0).f0), .slice none 0 0]) ?_ 1 _ rfl; (with_reducible repeat (first | refine kn_ ?_ _ | refine blk_drew ?_ | refine ka_ ?_ _)); refine blk_put (cs := #[.int .i64 0, .slice none 0 0]) ?_ 0 _ rfl; (with_reducible repeat (first | refine kn_ ?_ _ | refine blk_drew ?_ | refine ka_ ?_ _)); exact BK352.out) Try.underlying41 rfl (by kernel_rfl)) rfl ?_
          exact ⟨_, by first | rfl | (simp [errW_none, errW_some] <;> rfl) | (simp [*, errW_none, errW_some] <;> rfl), by (with_reducible repeat (first | apply Kd.S_alloc | apply Kd.S_drewN | apply Kd.S_drew)); exact Kd.S_mono (Kd.S_far (p := ⟨gb352, 1, none⟩) (Kd.S_far (p := ⟨gb352, 0, none⟩) (Kd.S_types HO_355001.out BK352.out (by decide)) (fun _ hk => hk.2) (.int .i64 ((rd_T41 l0 0).f0))) (fun _ hk => hk.2) (.slice Ao42 x355001_1.length co42)) (fun _ hk => trivial), by repeat (first | (with_reducible first | exact HB.out | apply ba_ | apply bn_ | apply bd_ | refine bs_ ?_ GE352.out | refine bs_ ?_ GE354.out) | exact HB.out)⟩
  · rw [if_neg c3] at H
    exact absurd H (by simp)
/-! Pins: which rows of numbers are some. -/
def risF (n : Int) : Int → List Int → Bool
  | _, [] => true
  | q, x :: l => decide (q < x) && decide (x ≤ n - 1) && risF n x l
def rowB (n : Int) (l : List Int) : Bool := !l.isEmpty && risF n (-1) l
def pinsB (n : Int) (l : List (List Int)) : Bool := decide (1 ≤ n ∧ n ≤ 9) && decide (1 ≤ (l.length : Int) ∧ (l.length : Int) ≤ 7) && l.all (rowB n)
theorem pinsB_parts {n : Int} {l : List (List Int)} (h : pinsB n l = true) : (1 ≤ n ∧ n ≤ 9) ∧ (1 ≤ l.length ∧ l.length ≤ 7) ∧ ∀ x ∈ l, rowB n x = true := by
  unfold pinsB at h
  rw [Bool.and_eq_true, Bool.and_eq_true, decide_eq_true_eq, decide_eq_true_eq, List.all_eq_true] at h
  exact ⟨h.1.1, ⟨by omega, by omega⟩, h.2⟩
/-- The last number so far, -1 at the start. -/
def lastI (l : List Int) : Nat → Int
  | 0 => -1
  | i + 1 => l.getD i 0
theorem lastI_at {l : List Int} {i : Nat} (h : i < l.length) : lastI l (i + 1) = l[i] := by unfold lastI; simp [List.getD, h]
/-! Lists of pins: which are of one kind, what is joined. -/
def kindB (l : List S41) : Bool :=
  decide (1 ≤ (l.length : Int) ∧ (l.length : Int) ≤ 6) && l.all fun p => pinsB p.f0 p.f1 && (p.f0 == (rd_T41 l 0).f0) && (p.f1.length == (rd_T41 l 0).f1.length)
/-! Small laws on 'from some number of rounds on'. -/
theorem Ev.yes {α : Type} {c : Prop} [Decidable c] {f g : Nat → Option α} {r : α} (h : c) (k : Ev f r) : Ev (fun n => if c then f n else g n) r := by
  simp only [if_pos h]; exact k
theorem Ev.no {α : Type} {c : Prop} [Decidable c] {f g : Nat → Option α} {r : α} (h : ¬ c) (k : Ev g r) : Ev (fun n => if c then f n else g n) r := by
  simp only [if_neg h]; exact k
theorem Ev.bindc {α β : Type} {o : Option α} {f : Nat → α → Option β} {a : α} {r : β} (h : o = some a) (k : Ev (fun n => f n a) r) : Ev (fun n => o.bind (f n)) r := by
  subst h; exact k
theorem Ev.id {α : Type} {r s : α} (h : s = r) : Ev (fun _ => some s) r := by subst h; exact Ev.now s
theorem Ev.eq {α : Type} {g : Nat → Option α} {r s : α} (h : Ev g r) (e : r = s) : Ev g s := by subst e; exact h
theorem Ev.both {α : Type} {c : Prop} [Decidable c] {f g : Nat → Option α} {r : α} (h : c → Ev f r) (k : ¬ c → Ev g r) : Ev (fun n => if c then f n else g n) r := by
  by_cases e : c
  · exact Ev.yes e (h e)
  · exact Ev.no e (k e)
theorem Ev.un {α : Type} {g : Nat → Option α} {r s : α} (h : Ev g r) (k : Ev g s) : r = s := by
  obtain ⟨K, h⟩ := h; obtain ⟨K', k⟩ := k
  have a := h (max K K') (by omega); have b := k (max K K') (by omega)
  rw [a] at b; exact Option.some.inj b
theorem w64 {x : Int} (h : -9223372036854775808 ≤ x) (h' : x ≤ 9223372036854775807) : wrap64 x = x := by unfold wrap64; omega
/-! Plain laws on lists: filling one in place, reading. -/
theorem fill_step {α β : Type} (f : α → β) (l : List α) (z : β) (i : Nat) (hi : i < l.length) :
    ((l.take i).map f ++ List.replicate (l.length - i) z).set i (f l[i]) = (l.take (i + 1)).map f ++ List.replicate (l.length - (i + 1)) z := by
  have h1 : ((l.take i).map f).length = i := by rw [List.length_map, List.length_take]; omega
  rw [List.set_append_right _ _ (by omega), h1, Nat.sub_self]
  obtain ⟨m, hm⟩ : ∃ m, l.length - i = m + 1 := ⟨l.length - i - 1, by omega⟩
  rw [hm, List.replicate_succ, List.set_cons_zero, show l.length - (i + 1) = m by omega, List.take_succ_eq_append_getElem hi, List.map_append]
  simp
theorem rd_at {xs : List Int} {i : Int} (h : i.toNat < xs.length) : rd xs i = xs[i.toNat] := by unfold rd; simp [List.getD, h]
theorem getD_at {α : Type} {d : α} {xs : List α} {i : Nat} (h : i < xs.length) : xs.getD i d = xs[i] := by simp [List.getD, h]
/-! ### impl_within: function 107 -/
def impl_within.f (a0 : Int) (a1 : Int) (a2 : Int) : Option (Bool) := if a1 ≤ a0 then (some (decide (a0 ≤ a2))) else (some false)
set_option maxHeartbeats 8000000 in
set_option maxRecDepth 100000 in
theorem impl_within.calls (a0 : Int) (a1 : Int) (a2 : Int) (r : Bool) (w : World) (h : impl_within.f a0 a1 a2 = some r) :
    Calls Try.prog 107 #[.int .i64 a0, .int .i64 a1, .int .i64 a2] w fun e w' => e = .returned (.bool r) ∧ Drawn0 w w' := by
  have H : (if a1 ≤ a0 then (some (decide (a0 ≤ a2))) else (some false)) = some r := h
  clear h
  by_cases c4 : a1 ≤ a0
  · rw [if_pos c4] at H
    have c4b0 : decide (a1 ≤ a0) = true := decide_eq_true c4
    clear c4
    obtain rfl := Option.some.inj H
    go_enter Try.func107, Try.ntmps107
    go_wp2
    go_ret
    exact ⟨by first | rfl | (simp; done) | (simp [*]; done), by repeat (first | exact Drawn0.refl _ | apply Drawn0.step)⟩
  · rw [if_neg c4] at H
    have c4b0 : decide (a1 ≤ a0) = false := decide_eq_false c4
    clear c4
    obtain rfl := Option.some.inj H
    go_enter Try.func107, Try.ntmps107
    go_wp2
    go_ret
    exact ⟨by first | rfl | (simp; done) | (simp [*]; done), by repeat (first | exact Drawn0.refl _ | apply Drawn0.step)⟩
/-! ### impl_areDepths: function 110 -/
def impl_areDepths.l0 : Nat → Int → List Int → List Int → Int → Int → Option (Bool)
  | 0, _, _, _, _, _ => none
  | k + 1, x0, x1, x7, x8, x9 => if x9 < x8 then (if 0 ≤ x9 then (if x9 < (x7.length : Int) then ((impl_within.f (rd x7 x9) 0 (wrap64 (x0 - 1))).bind fun t102 => (if t102 = true then (if x9 > 0 then (if 0 ≤ (wrap64 (x9 - 1)) then (if (wrap64 (x9 - 1)) < (x1.length : Int) then (if (rd x7 x9) ≤ (rd x1 (wrap64 (x9 - 1))) then (some false) else (impl_areDepths.l0 k x0 x1 x7 x8 (wrap64 (x9 + 1)))) else (none)) else (none)) else (impl_areDepths.l0 k x0 x1 x7 x8 (wrap64 (x9 + 1)))) else (some false))) else (none)) else (none)) else (some (decide ((x1.length : Int) > 0)))
def impl_areDepths.f (k : Nat) (a0 : Int) (l1 : List Int) : Option (Bool) := impl_areDepths.l0 k a0 l1 l1 (l1.length : Int) 0
set_option maxHeartbeats 8000000 in
set_option maxRecDepth 100000 in
theorem impl_areDepths.calls (k : Nat) (a0 : Int) (A1 : Option Addr) (c1 : Nat) (l1 : List Int) (r : Bool) (w : World) (hr1 : Kd.C (Kd.int .i64) w A1 l1.length l1) (hc1 : l1.length ≤ c1) (h : impl_areDepths.f k a0 l1 = some r) :
    Calls Try.prog 110 #[.int .i64 a0, .slice A1 l1.length c1] w fun e w' => e = .returned (.bool r) ∧ Drawn0 w w' := by
  have HR1 := amk hr1
  have HC1 := amk hc1
  clear hr1 hc1
  have H : (impl_areDepths.l0 k a0 l1 l1 (l1.length : Int) 0) = some r := h
  clear h
  have H' := amk H
  clear H
  go_enter Try.func110, Try.ntmps110
  go_wp2
  go_loopg [9] k (fun kq v9 w' => ∃ (x9_1 : Int), v9 = .int .i64 x9_1 ∧ Aside0 (impl_areDepths.l0 kq a0 l1 l1 (l1.length : Int) x9_1 = some r) ∧ Aside0 (kq ≤ k) ∧ Drawn0 w w')
  case atStart => exact ⟨(0), (by first | rfl | (simp; done) | (simp [*]; done)), H', ⟨Nat.le_refl _⟩, by repeat (first | exact Drawn0.refl _ | apply Drawn0.step)⟩
  case round =>
    clear H'
    try clear c1; try clear p2
    obtain ⟨x9_1, rfl, HA, HK1, ⟨m1, rfl⟩⟩ := hrel
    cases gk with
    | zero => exact absurd HA.out (by simp [impl_areDepths.l0])
    | succ k1 =>
      have H := HA.out
      clear HA
      simp only [impl_areDepths.l0] at H
      by_cases c3 : x9_1 < (l1.length : Int)
      · rw [if_pos c3] at H
        have c3b0 : decide (x9_1 < (l1.length : Int)) = true := decide_eq_true c3
        clear c3
        by_cases c4 : 0 ≤ x9_1
        · rw [if_pos c4] at H
          have c4b0 : decide (0 ≤ x9_1) = true := decide_eq_true c4
          clear c4
          by_cases c5 : x9_1 < (l1.length : Int)
          · rw [if_pos c5] at H
            have c5b0 : decide (x9_1 < (l1.length : Int)) = true := decide_eq_true c5
            clear c5
            replace H := Option.bind_eq_some_iff.mp H
            obtain ⟨t102, A60, H⟩ := H
            replace H : (if t102 = true then (if x9_1 > 0 then (if 0 ≤ (wrap64 (x9_1 - 1)) then (if (wrap64 (x9_1 - 1)) < (l1.length : Int) then (if (rd l1 x9_1) ≤ (rd l1 (wrap64 (x9_1 - 1))) then (some false) else (impl_areDepths.l0 k1 a0 l1 l1 (l1.length : Int) (wrap64 (x9_1 + 1)))) else (none)) else (none)) else (impl_areDepths.l0 k1 a0 l1 l1 (l1.length : Int) (wrap64 (x9_1 + 1)))) else (some false)) = some r := H
            have A6 := amk A60
            clear A60
            by_cases c7 : t102 = true
            · subst c7
              have H1 : (if x9_1 > 0 then (if 0 ≤ (wrap64 (x9_1 - 1)) then (if (wrap64 (x9_1 - 1)) < (l1.length : Int) then (if (rd l1 x9_1) ≤ (rd l1 (wrap64 (x9_1 - 1))) then (some false) else (impl_areDepths.l0 k1 a0 l1 l1 (l1.length : Int) (wrap64 (x9_1 + 1)))) else (none)) else (none)) else (impl_areDepths.l0 k1 a0 l1 l1 (l1.length : Int) (wrap64 (x9_1 + 1)))) = some r := by rw [if_pos rfl] at H; exact H
              clear H
              have H := H1
              clear H1
              by_cases c8 : x9_1 > 0
              · rw [if_pos c8] at H
                have c8b0 : decide (0 < x9_1) = true := decide_eq_true c8
                clear c8
                obtain ⟨ji9, hji9⟩ : ∃ j_ : Int, (wrap64 (x9_1 - 1)) = j_ := ⟨_, rfl⟩
                replace H : (if 0 ≤ (ji9) then (if (ji9) < (l1.length : Int) then (if (rd l1 x9_1) ≤ (rd l1 (ji9)) then (some false) else (impl_areDepths.l0 k1 a0 l1 l1 (l1.length : Int) (wrap64 (x9_1 + 1)))) else (none)) else (none)) = some r := by first | (rw [hji9] at H; exact H) | (simp only [hji9] at H ⊢; exact H)
                (try rw [hji9] at A6)
                have hji9w : (IntKind.i64.wrap (x9_1 - 1)) = ji9 := (i64_w _).trans hji9
                by_cases c10 : 0 ≤ (ji9)
                · rw [if_pos c10] at H
                  have c10b0 : decide (0 ≤ (ji9)) = true := decide_eq_true c10
                  clear c10
                  by_cases c11 : (ji9) < (l1.length : Int)
                  · rw [if_pos c11] at H
                    have c11b0 : decide ((ji9) < (l1.length : Int)) = true := decide_eq_true c11
                    clear c11
                    by_cases c12 : (rd l1 x9_1) ≤ (rd l1 (ji9))
                    · rw [if_pos c12] at H
                      have c12b0 : decide ((rd l1 x9_1) ≤ (rd l1 (ji9))) = true := decide_eq_true c12
                      clear c12
                      obtain rfl := Option.some.inj H
                      have p101 : 0 ≤ (x9_1 : Int) := of_decide_eq_true (by first | (with_reducible assumption) | assumption)
                      have q101 : x9_1 < (l1.length : Int) := of_decide_eq_true (by first | (with_reducible assumption) | assumption)
                      obtain ⟨ad101, e101, hx101_0⟩ := Kd.at_int HR1.out x9_1 p101 q101
                      cases e101
                      replace p101 := eq_true p101
                      replace q101 := eq_true q101
                      go_wp2_with (first | ((with_reducible refine gate_callee (f := 107) rfl ?_); refine goesL_ (some 17) rfl rfl Try.func107 (by kernel_rfl) rfl #[.int .i64 (rd l1 x9_1), .int .i64 0, .int .i64 (wrap64 (a0 - 1))] rfl (by (try simp only [List.map_toArray, List.map_cons, List.map_nil]); first | done | rfl | (simp only [List.length_drop, List.length_take]; rfl)) ?_; (with_reducible refine (impl_within.calls (rd l1 x9_1) 0 (wrap64 (a0 - 1)) true _ A6.out).mono ?_); rintro e w' ⟨rfl, ⟨nd, rfl⟩⟩; refine ⟨_, rfl, ?_⟩; have p103 : 0 ≤ ((ji9) : Int) := of_decide_eq_true (by first | (with_reducible assumption) | assumption); have q103 : (ji9) < (l1.length : Int) := of_decide_eq_true (by first | (with_reducible assumption) | assumption); obtain ⟨ad103, e103, hx103_0⟩ := Kd.at_int HR1.out (ji9) p103 q103; obtain rfl : ad101 = ad103 := (by injection e103); replace p103 := eq_true p103; replace q103 := eq_true q103))
                      go_ret
                      exact ⟨by first | rfl | (simp; done) | (simp only [← hji9] <;> (first | rfl | simp)) | (simp [*]; done), by repeat (first | exact Drawn0.refl _ | apply Drawn0.step)⟩
                    · rw [if_neg c12] at H
                      have c12b0 : decide ((rd l1 x9_1) ≤ (rd l1 (ji9))) = false := decide_eq_false c12
                      clear c12
                      have H' := amk H
                      clear H
                      have p101 : 0 ≤ (x9_1 : Int) := of_decide_eq_true (by first | (with_reducible assumption) | assumption)
                      have q101 : x9_1 < (l1.length : Int) := of_decide_eq_true (by first | (with_reducible assumption) | assumption)
                      obtain ⟨ad101, e101, hx101_0⟩ := Kd.at_int HR1.out x9_1 p101 q101
                      cases e101
                      replace p101 := eq_true p101
                      replace q101 := eq_true q101
                      go_wp2_with (first | ((with_reducible refine gate_callee (f := 107) rfl ?_); refine goesL_ (some 17) rfl rfl Try.func107 (by kernel_rfl) rfl #[.int .i64 (rd l1 x9_1), .int .i64 0, .int .i64 (wrap64 (a0 - 1))] rfl (by (try simp only [List.map_toArray, List.map_cons, List.map_nil]); first | done | rfl | (simp only [List.length_drop, List.length_take]; rfl)) ?_; (with_reducible refine (impl_within.calls (rd l1 x9_1) 0 (wrap64 (a0 - 1)) true _ A6.out).mono ?_); rintro e w' ⟨rfl, ⟨nd, rfl⟩⟩; refine ⟨_, rfl, ?_⟩; have p103 : 0 ≤ ((ji9) : Int) := of_decide_eq_true (by first | (with_reducible assumption) | assumption); have q103 : (ji9) < (l1.length : Int) := of_decide_eq_true (by first | (with_reducible assumption) | assumption); obtain ⟨ad103, e103, hx103_0⟩ := Kd.at_int HR1.out (ji9) p103 q103; obtain rfl : ad101 = ad103 := (by injection e103); replace p103 := eq_true p103; replace q103 := eq_true q103))
                      go_roundg k1
                      case measure => have := HK1.out; omega
                      case rel => exact ⟨(wrap64 (x9_1 + 1)), (by first | rfl | (simp; done) | (simp [*]; done)), H', ⟨by have := HK1.out; omega⟩, by repeat (first | exact Drawn0.refl _ | apply Drawn0.step)⟩
                  · rw [if_neg c11] at H
                    exact absurd H (by simp)
                · rw [if_neg c10] at H
                  exact absurd H (by simp)
              · rw [if_neg c8] at H
                have c8b0 : decide (0 < x9_1) = false := decide_eq_false c8
                clear c8
                have H' := amk H
                clear H
                have p101 : 0 ≤ (x9_1 : Int) := of_decide_eq_true (by first | (with_reducible assumption) | assumption)
                have q101 : x9_1 < (l1.length : Int) := of_decide_eq_true (by first | (with_reducible assumption) | assumption)
                obtain ⟨ad101, e101, hx101_0⟩ := Kd.at_int HR1.out x9_1 p101 q101
                cases e101
                replace p101 := eq_true p101
                replace q101 := eq_true q101
                go_wp2_with (first | ((with_reducible refine gate_callee (f := 107) rfl ?_); refine goesL_ (some 17) rfl rfl Try.func107 (by kernel_rfl) rfl #[.int .i64 (rd l1 x9_1), .int .i64 0, .int .i64 (wrap64 (a0 - 1))] rfl (by (try simp only [List.map_toArray, List.map_cons, List.map_nil]); first | done | rfl | (simp only [List.length_drop, List.length_take]; rfl)) ?_; (with_reducible refine (impl_within.calls (rd l1 x9_1) 0 (wrap64 (a0 - 1)) true _ A6.out).mono ?_); rintro e w' ⟨rfl, ⟨nd, rfl⟩⟩; refine ⟨_, rfl, ?_⟩))
                go_roundg k1
                case measure => have := HK1.out; omega
                case rel => exact ⟨(wrap64 (x9_1 + 1)), (by first | rfl | (simp; done) | (simp [*]; done)), H', ⟨by have := HK1.out; omega⟩, by repeat (first | exact Drawn0.refl _ | apply Drawn0.step)⟩
            · replace c7 := Bool.eq_false_iff.mpr c7
              subst c7
              have H1 : (some false) = some r := by rw [if_neg (show ¬ (false = true) by decide)] at H; exact H
              clear H
              have H := H1
              clear H1
              obtain rfl := Option.some.inj H
              have p101 : 0 ≤ (x9_1 : Int) := of_decide_eq_true (by first | (with_reducible assumption) | assumption)
              have q101 : x9_1 < (l1.length : Int) := of_decide_eq_true (by first | (with_reducible assumption) | assumption)
              obtain ⟨ad101, e101, hx101_0⟩ := Kd.at_int HR1.out x9_1 p101 q101
              cases e101
              replace p101 := eq_true p101
              replace q101 := eq_true q101
              go_wp2_with (first | ((with_reducible refine gate_callee (f := 107) rfl ?_); refine goesL_ (some 17) rfl rfl Try.func107 (by kernel_rfl) rfl #[.int .i64 (rd l1 x9_1), .int .i64 0, .int .i64 (wrap64 (a0 - 1))] rfl (by (try simp only [List.map_toArray, List.map_cons, List.map_nil]); first | done | rfl | (simp only [List.length_drop, List.length_take]; rfl)) ?_; (with_reducible refine (impl_within.calls (rd l1 x9_1) 0 (wrap64 (a0 - 1)) false _ A6.out).mono ?_); rintro e w' ⟨rfl, ⟨nd, rfl⟩⟩; refine ⟨_, rfl, ?_⟩))
              go_ret
              exact ⟨by first | rfl | (simp; done) | (simp [*]; done), by repeat (first | exact Drawn0.refl _ | apply Drawn0.step)⟩
          · rw [if_neg c5] at H
            exact absurd H (by simp)
        · rw [if_neg c4] at H
          exact absurd H (by simp)
      · rw [if_neg c3] at H
        have c3b0 : decide (x9_1 < (l1.length : Int)) = false := decide_eq_false c3
        clear c3
        obtain rfl := Option.some.inj H
        go_wp2
        go_ret
        exact ⟨by first | rfl | (simp; done) | (simp [*]; done), by repeat (first | exact Drawn0.refl _ | apply Drawn0.step)⟩
/-! impl's areDepths and spec's l1Rising: what they come to. -/
theorem impl_within.bs (a b c : Int) : impl_within.f a b c = some (decide (b ≤ a ∧ a ≤ c)) := by
  unfold impl_within.f
  by_cases h : b ≤ a
  · rw [if_pos h]; simp [h]
  · rw [if_neg h]; simp [h]
theorem spec_l1In.bs (a b c : Int) : spec_l1In.f a b c = some (decide (b ≤ a ∧ a ≤ c)) := by
  unfold spec_l1In.f
  by_cases h : b ≤ a
  · rw [if_pos h]; simp [h]
  · rw [if_neg h]; simp [h]
theorem impl_areDepths.lev (n : Int) (hn : 1 ≤ n ∧ n ≤ 9) (l : List Int) (hl : l.length ≤ 9223372036854775807) : ∀ (m i : Nat), i + m = l.length → (-1 ≤ lastI l i) → Ev (fun k => impl_areDepths.l0 k n l l (l.length : Int) (i : Nat)) (decide (0 < l.length) && risF n (lastI l i) (l.drop i)) := by
  intro m
  induction m with
  | zero =>
    intro i hi _
    refine Ev.step (fun k => rfl) (Ev.no (by omega) (Ev.id ?_))
    rw [List.drop_eq_nil_of_le (by omega)]
    by_cases h : 0 < l.length
    · simp [risF, h]
    · simp [risF, h]
  | succ m ih =>
    intro i hi hq
    have hlt : i < l.length := by omega
    have hr : rd l (i : Nat) = l[i] := by rw [rd_at (by simpa using hlt)]; simp
    refine Ev.step (fun k => rfl) (Ev.yes (by omega) (Ev.yes (by omega) (Ev.yes (by omega) (Ev.bindc (impl_within.bs _ _ _) ?_))))
    rw [w64 (x := n - 1) (by omega) (by omega), hr]
    rw [List.drop_eq_getElem_cons hlt]
    have hd : decide (0 < l.length) = true := decide_eq_true (by omega)
    rw [hd, Bool.true_and]
    unfold risF
    have hw : wrap64 ((i : Int) + 1) = ((i + 1 : Nat) : Int) := w64 (by omega) (by omega)
    have hla : lastI l (i + 1) = l[i] := lastI_at hlt
    have hlt0 := hlt
    by_cases h1 : 0 ≤ l[i] ∧ l[i] ≤ n - 1
    · refine Ev.yes (decide_eq_true h1) ?_
      have hgo := ih (i + 1) (by omega) (by rw [hla]; omega)
      rw [hla, hd, Bool.true_and] at hgo
      cases i with
      | zero =>
        refine Ev.no (by omega) ?_
        rw [hw]
        refine Ev.eq hgo ?_
        have h2 : decide (lastI l 0 < l[0]) = true := decide_eq_true (show (-1 : Int) < l[0] by omega)
        have h3 : decide (l[0] ≤ n - 1) = true := decide_eq_true h1.2
        rw [h2, h3]; rfl
      | succ i =>
        have hp : wrap64 (((i + 1 : Nat) : Int) - 1) = (i : Nat) := by rw [w64 (by omega) (by omega)]; omega
        have hr1 : rd l (i : Nat) = l[i] := by rw [rd_at (by simp; omega)]; simp
        have hlb : lastI l (i + 1) = l[i] := lastI_at (by omega)
        refine Ev.yes (by omega) ?_
        rw [hp, hr1, hlb]
        refine Ev.yes (by omega) (Ev.yes (by omega) ?_)
        by_cases h2 : l[i + 1] ≤ l[i]
        · refine Ev.yes h2 (Ev.id ?_)
          rw [decide_eq_false (by omega : ¬ l[i] < l[i + 1])]; rfl
        · refine Ev.no h2 ?_
          rw [hw]
          refine Ev.eq hgo ?_
          rw [decide_eq_true (by omega : l[i] < l[i + 1]), decide_eq_true h1.2]; rfl
    · refine Ev.no (by rw [decide_eq_false h1]; simp) (Ev.id ?_)
      by_cases h2 : lastI l i < l[i]
      · have h3 : ¬ l[i] ≤ n - 1 := fun h => h1 ⟨by omega, h⟩
        rw [decide_eq_false h3]; simp
      · rw [decide_eq_false h2]; rfl
theorem impl_areDepths.ev (n : Int) (hn : 1 ≤ n ∧ n ≤ 9) (l : List Int) (hl : l.length ≤ 9223372036854775807) : Ev (fun k => impl_areDepths.f k n l) (rowB n l) := by
  unfold impl_areDepths.f
  refine Ev.eq (impl_areDepths.lev n hn l hl l.length 0 (by omega) (show (-1 : Int) ≤ -1 by omega)) ?_
  unfold rowB
  cases l <;> simp [lastI]
/-! the first place where a test holds. -/
def idxOf {α : Type} (p : α → Bool) (xs : List α) : Int := if xs.any p then (xs.findIdx p : Int) else -1
theorem idxOf_hit {α : Type} {p : α → Bool} {xs : List α} {i : Nat} {y : α} (hi : xs[i]? = some y) (h : p y = true) (hb : ∀ (j : Nat) z, j < i → xs[j]? = some z → p z = false) : idxOf p xs = i := by
  obtain ⟨hl, rfl⟩ := List.getElem?_eq_some_iff.1 hi
  unfold idxOf
  rw [if_pos (List.any_eq_true.mpr ⟨xs[i], List.getElem_mem hl, h⟩)]
  congr 1
  exact (List.findIdx_eq hl).mpr ⟨h, fun j hj => hb j _ hj (List.getElem?_eq_getElem (by omega))⟩
theorem idxOf_miss {α : Type} {p : α → Bool} {xs : List α} (hb : ∀ (j : Nat) z, xs[j]? = some z → p z = false) : idxOf p xs = -1 := by
  unfold idxOf
  rw [if_neg]
  rw [Bool.not_eq_true, List.any_eq_false]
  intro x hx
  obtain ⟨j, hj, rfl⟩ := List.getElem_of_mem hx
  simp [hb j _ (List.getElem?_eq_getElem hj)]
theorem idxOf_nonneg {α : Type} (p : α → Bool) (xs : List α) : decide (0 ≤ idxOf p xs) = xs.any p := by
  unfold idxOf
  split
  · rename_i h; rw [h]; simp
  · rename_i h; rw [Bool.eq_false_iff.mpr h]; simp
/-! slices.IndexFunc and slices.ContainsFunc at rows of numbers, under any predicate that makes nothing but new memory. -/
def PredRow (g : Nat) (cap : Array Value) (p : List Int → Bool) (xs : List (List Int)) (w : World) : Prop :=
  ∀ x, x ∈ xs → ∀ (W : World) (A0 : Option Addr) (c0 : Nat), Below w.heap.size w W → x.length ≤ c0 → (Kd.int .i64).C W A0 x.length x → Calls Try.prog g (#[.slice A0 x.length c0] ++ cap) W fun e w' => e = .returned (.bool (p x)) ∧ Below w.heap.size w w'
set_option maxHeartbeats 2000000 in
set_option maxRecDepth 100000 in
theorem idx_Row (g : Nat) (cap : Array Value) (p : List Int → Bool) (A : Option Addr) (c : Nat) (xs : List (List Int)) (w : World) (eg : ∀ args w, (callFunc g args).run Try.prog w = .ok (.enter g args) w)
    (hr : Kd.C (Kd.slice 3 (Kd.int .i64)) w A xs.length xs) (hp : PredRow g cap p xs w) :
    Calls Try.prog 142 #[.slice A xs.length c, .func (.func g) #[] cap] w fun e w' => e = .returned (.int .i64 (idxOf p xs)) ∧ Below w.heap.size w w' := by
  have hbig := hr.2.1
  have HR := amk hr
  have HP := amk hp
  clear hr hp
  go_enter Try.func142, Try.ntmps142
  go_wp2
  go_loopg [5, 8] xs.length (fun gg _ s8 wr => ∃ i : Int, s8 = .int .i64 i ∧ Aside0 (0 ≤ i) ∧ Aside0 (i ≤ xs.length) ∧ Aside0 ((xs.length : Int) - i ≤ gg) ∧ Aside0 (Below w.heap.size w wr) ∧ Aside0 (∀ (j : Nat) z, (j : Int) < i → xs[j]? = some z → p z = false))
  case atStart => exact ⟨0, rfl, ⟨by omega⟩, ⟨by omega⟩, ⟨by omega⟩, ⟨Below.refl _ w⟩, ⟨fun j hj => by omega⟩⟩
  case round =>
    obtain ⟨i, rfl, I0, I1, IG, BW, AA⟩ := hrel
    by_cases hlt : i < (xs.length : Int)
    · have hlw : decide (i < (xs.length : Int)) = true := decide_eq_true hlt
      have i0 : 0 ≤ i := I0.out
      obtain ⟨ad, cs, e, _, hK, hc0⟩ := Kd.C_get HR.out ([] : List Int) i i0 hlt
      cases e
      have hc : ∀ j u, cs[j]? = some u → w.cell? (ad.add (i.toNat * 1 + j)) = some u := hc0
      obtain ⟨A0, c0, rfl, l0, g0⟩ := hK
      have hx0 := hc 0 _ rfl
      rw [Nat.mul_one, Nat.add_zero] at hx0
      clear hc hc0
      replace hx0 := (BW.out.cell (World.block_lt_of_cell? w _ hx0)).trans hx0
      replace g0 := Kd.C_below g0 BW.out
      have HY : Aside0 (xs[i.toNat]? = some (xs.getD i.toNat [])) := ⟨by
        have hin : i.toNat < xs.length := by omega
        simp [List.getD, hin]⟩
      generalize xs.getD i.toNat [] = y at hx0 l0 g0 HY
      have hcall := HP.out y (List.mem_of_getElem? HY.out) wr A0 c0 BW.out l0 g0
      have L0 := amk l0
      have G0 := amk g0
      clear l0 g0
      have HLT := amk hlt
      replace hlt := eq_true hlt
      replace i0 := eq_true i0
      cases hq : p y with
      | true =>
        rw [hq] at hcall
        have HQ := amk hq
        clear hq
        go_wp2_with (go_at_fn g; refine hcall.mono ?_; rintro e w' ⟨rfl, hb'⟩)
        go_ret
        refine ⟨?_, hb'⟩
        have h1 := idxOf_hit (p := p) HY.out HQ.out (fun j z hj hz => AA.out j z (by omega) hz)
        rw [h1]
        have := I0.out
        show Ending.returned (.int .i64 i) = Ending.returned (.int .i64 ((i.toNat : Nat) : Int))
        rw [Int.toNat_of_nonneg this]
      | false =>
        rw [hq] at hcall
        have HQ := amk hq
        clear hq
        go_wp2_with (go_at_fn g; refine hcall.mono ?_; rintro e w' ⟨rfl, hb'⟩)
        have hw1 : wrap64 (i + 1) = i + 1 := by
          have := I0.out
          have := HLT.out
          unfold wrap64; omega
        go_roundg (xs.length - (i.toNat + 1))
        case measure => have := I0.out; have := HLT.out; have := IG.out; omega
        case rel =>
          have a1 := I0.out
          have a2 := HLT.out
          refine ⟨i + 1, by rw [hw1], ⟨by omega⟩, ⟨by omega⟩, ⟨by omega⟩, ⟨hb'⟩, ⟨fun j z hj hz => ?_⟩⟩
          by_cases e : j = i.toNat
          · subst e
            rw [HY.out] at hz
            injection hz with hz
            rw [← hz]; exact HQ.out
          · exact AA.out j z (by omega) hz
    · have hlw : decide (i < (xs.length : Int)) = false := decide_eq_false hlt
      have HK := amk hlt
      clear hlt
      go_wp2
      go_ret
      refine ⟨?_, BW.out⟩
      rw [idxOf_miss (fun j z hz => AA.out j z (by have := HK.out; have := (List.getElem?_eq_some_iff.1 hz).1; omega) hz)]
      rfl
theorem contains_Row (g : Nat) (cap : Array Value) (p : List Int → Bool) (A : Option Addr) (c : Nat) (xs : List (List Int)) (w : World) (eg : ∀ args w, (callFunc g args).run Try.prog w = .ok (.enter g args) w)
    (hr : Kd.C (Kd.slice 3 (Kd.int .i64)) w A xs.length xs) (hp : PredRow g cap p xs w) :
    Calls Try.prog 108 #[.slice A xs.length c, .func (.func g) #[] cap] w fun e w' => e = .returned (.bool (xs.any p)) ∧ Below w.heap.size w w' := by
  rw [← idxOf_nonneg p xs]
  have HC := amk (idx_Row g cap p A c xs w eg hr hp)
  clear hr hp
  go_enter Try.func108, Try.ntmps108
  go_wp2_with (go_at_call 142; refine HC.out.mono ?_; rintro e w' ⟨rfl, hb'⟩)
  go_ret
  exact ⟨rfl, hb'⟩
/-! impl.within and spec.l1In, by hand: the world stays. -/
def winB (a b c : Int) : Bool := decide (b ≤ a ∧ a ≤ c)
theorem winB_yes {a b c : Int} (h : b ≤ a ∧ a ≤ c) : winB a b c = true := by unfold winB; simp [h]
theorem winB_no {a b c : Int} (h : ¬ (b ≤ a ∧ a ≤ c)) : winB a b c = false := by unfold winB; simp [h]
theorem within_same (a b c : Int) (w : World) : Calls Try.prog 107 #[.int .i64 a, .int .i64 b, .int .i64 c] w fun e w' => e = .returned (.bool (winB a b c)) ∧ w = w' := by
  by_cases h1 : b ≤ a
  · by_cases h2 : a ≤ c
    · rw [winB_yes ⟨h1, h2⟩]
      go_enter Try.func107, Try.ntmps107
      go_wp2
      go_ret
      exact ⟨rfl, rfl⟩
    · rw [winB_no (fun h => h2 h.2)]
      go_enter Try.func107, Try.ntmps107
      go_wp2
      go_ret
      exact ⟨rfl, rfl⟩
  · rw [winB_no (fun h => h1 h.1)]
    go_enter Try.func107, Try.ntmps107
    go_wp2
    go_ret
    exact ⟨rfl, rfl⟩
/-! impl.ArePins, by hand: it asks its rows through slices.ContainsFunc and a closure. -/
theorem arePins_closure (n : Int) (hn : 1 ≤ n ∧ n ≤ 9) (gb : Nat) (W : World) (h0 : W.cell? ⟨gb, 0, none⟩ = some (.int .i64 n)) (x : List Int) (A0 : Option Addr) (c0 : Nat) (hc0 : x.length ≤ c0) (hr0 : (Kd.int .i64).C W A0 x.length x) :
    Calls Try.prog 109 #[.slice A0 x.length c0, .pointer (some ⟨gb, 0, none⟩)] W fun e w' => e = .returned (.bool (!rowB n x)) ∧ Below W.heap.size W w' := by
  obtain ⟨k, hk⟩ := (impl_areDepths.ev n hn x hr0.2.1).rounds
  have hu41 := Try.underlying41
  have HK := amk hk
  have HR := amk hr0
  have HC := amk hc0
  clear hk hn hr0 hc0
  generalize rowB n x = b at HK ⊢
  go_enter Try.func109, Try.ntmps109
  go_wp2_with (go_at_call 110; refine (impl_areDepths.calls k _ _ _ _ _ _ HR.out HC.out HK.out).mono ?_; rintro e w' ⟨rfl, hb⟩)
  go_ret
  exact ⟨rfl, hb.below⟩
def impl_ArePins.f (a : Int) (l : List (List Int)) : Option Bool := some (pinsB a l)
set_option maxHeartbeats 2000000 in
set_option maxRecDepth 100000 in
theorem impl_ArePins.calls (a0_0 : Int) (A0_1 : Option Addr) (c0_1 : Nat) (l0_1 : List (List Int)) (r : Bool) (w : World) (hr0_1 : Kd.C (Kd.slice 3 (Kd.int .i64)) w A0_1 l0_1.length l0_1) (hc0_1 : l0_1.length ≤ c0_1) (h : impl_ArePins.f a0_0 l0_1 = some r) :
    Calls Try.prog 55 #[.agg #[.int .i64 a0_0, .slice A0_1 l0_1.length c0_1]] w fun e w' => e = .returned (.bool r) ∧ Below w.heap.size w w' := by
  obtain rfl := Option.some.inj h
  clear h
  have hu41 := Try.underlying41
  have hu35 := Try.underlying35
  have eg : ∀ args w, (callFunc 109 args).run Try.prog w = .ok (.enter 109 args) w := enters_of Try.func109 (by kernel_rfl) rfl
  have HE := amk eg
  clear eg
  have HR := amk hr0_1
  clear hr0_1
  unfold pinsB
  by_cases h1 : 1 ≤ a0_0 ∧ a0_0 ≤ 9
  · by_cases h2 : 1 ≤ (l0_1.length : Int) ∧ (l0_1.length : Int) ≤ 7
    · rw [decide_eq_true h1, decide_eq_true h2, show (l0_1.all (rowB a0_0)) = !(l0_1.any fun c => !rowB a0_0 c) by simp [List.all_eq_not_any_not]]
      have hw1 := winB_yes h1
      have hw2 := winB_yes h2
      generalize hz : (l0_1.any fun c => !rowB a0_0 c) = z
      have HZ := amk hz
      have H1 := amk h1
      clear hz h1 h2
      go_enter Try.func55, Try.ntmps55
      go_wp2_with (first | (go_at_call 108; refine (contains_Row 109 #[.pointer (some ⟨w.heap.size, 0, none⟩)] (fun c => !rowB a0_0 c) A0_1 c0_1 l0_1 _ HE.out (Kd.C_alloc HR.out _) (fun x _ W A0 c0 hW hc hr => (arePins_closure a0_0 H1.out w.heap.size W ((hW.cell (p := ⟨w.heap.size, 0, none⟩) (by simp)).trans (by simp)) x A0 c0 hc hr).mono (fun e w' ⟨h1, h2⟩ => ⟨h1, hW.trans (h2.mono hW.size)⟩))).mono ?_; rintro e w2 ⟨rfl, hb2⟩) | (go_at_call 107; refine (within_same _ _ _ _).mono ?_; rintro e w' ⟨rfl, rfl⟩))
      go_ret
      exact ⟨by rw [HZ.out]; rfl, ((Below.refl _ w).alloc (Nat.le_refl _) _).trans (hb2.mono (by simp))⟩
    · rw [decide_eq_false h2]
      have hw1 := winB_yes h1
      have hw2 := winB_no h2
      clear h1 h2
      go_enter Try.func55, Try.ntmps55
      go_wp2_with (first | (go_at_call 107; refine (within_same _ _ _ _).mono ?_; rintro e w' ⟨rfl, rfl⟩))
      go_ret
      exact ⟨by simp, (Below.refl _ w).alloc (Nat.le_refl _) _⟩
  · rw [decide_eq_false h1]
    have hw1 := winB_no h1
    clear h1
    go_enter Try.func55, Try.ntmps55
    go_wp2_with (go_at_call 107; refine (within_same _ _ _ _).mono ?_; rintro e w' ⟨rfl, rfl⟩)
    go_ret
    exact ⟨by simp, (Below.refl _ w).alloc (Nat.le_refl _) _⟩
/-! slices.IndexFunc and slices.ContainsFunc at pins, under any predicate that makes nothing but new memory. -/
def PredPins (g : Nat) (cap : Array Value) (p : S41 → Bool) (xs : List S41) (w : World) : Prop :=
  ∀ x, x ∈ xs → ∀ (W : World) (A0 : Option Addr) (c0 : Nat), Below w.heap.size w W → x.f1.length ≤ c0 → (Kd.slice 3 (Kd.int .i64)).C W A0 x.f1.length x.f1 → Calls Try.prog g (#[.agg #[.int .i64 x.f0, .slice A0 x.f1.length c0]] ++ cap) W fun e w' => e = .returned (.bool (p x)) ∧ Below w.heap.size w w'
set_option maxHeartbeats 2000000 in
set_option maxRecDepth 100000 in
theorem idx_Pins (g : Nat) (cap : Array Value) (p : S41 → Bool) (A : Option Addr) (c : Nat) (xs : List S41) (w : World) (eg : ∀ args w, (callFunc g args).run Try.prog w = .ok (.enter g args) w)
    (hr : Kd.C k41 w A xs.length xs) (hp : PredPins g cap p xs w) :
    Calls Try.prog 160 #[.slice A xs.length c, .func (.func g) #[] cap] w fun e w' => e = .returned (.int .i64 (idxOf p xs)) ∧ Below w.heap.size w w' := by
  have hbig := hr.2.1
  have HR := amk hr
  have HP := amk hp
  have hu := Try.underlying41
  clear hr hp
  go_enter Try.func160, Try.ntmps160
  go_wp2
  go_loopg [5, 8] xs.length (fun gg _ s8 wr => ∃ i : Int, s8 = .int .i64 i ∧ Aside0 (0 ≤ i) ∧ Aside0 (i ≤ xs.length) ∧ Aside0 ((xs.length : Int) - i ≤ gg) ∧ Aside0 (Below w.heap.size w wr) ∧ Aside0 (∀ (j : Nat) z, (j : Int) < i → xs[j]? = some z → p z = false))
  case atStart => exact ⟨0, rfl, ⟨by omega⟩, ⟨by omega⟩, ⟨by omega⟩, ⟨Below.refl _ w⟩, ⟨fun j hj => by omega⟩⟩
  case round =>
    obtain ⟨i, rfl, I0, I1, IG, BW, AA⟩ := hrel
    by_cases hlt : i < (xs.length : Int)
    · have hlw : decide (i < (xs.length : Int)) = true := decide_eq_true hlt
      have i0 : 0 ≤ i := I0.out
      obtain ⟨ad, A0, c0, e, hx0, hx1, l0, g0⟩ := at_T41 HR.out i i0 hlt
      cases e
      replace hx0 := (BW.out.cell (World.block_lt_of_cell? w _ hx0)).trans hx0
      replace hx1 := (BW.out.cell (World.block_lt_of_cell? w _ hx1)).trans hx1
      replace g0 := Kd.C_below g0 BW.out
      have HY : Aside0 (xs[i.toNat]? = some (rd_T41 xs i)) := ⟨by
        have hin : i.toNat < xs.length := by omega
        unfold rd_T41; simp [List.getD, hin]⟩
      generalize rd_T41 xs i = y at hx0 hx1 l0 g0 HY
      have hcall := HP.out y (List.mem_of_getElem? HY.out) wr A0 c0 BW.out l0 g0
      have L0 := amk l0
      have G0 := amk g0
      clear l0 g0
      have HLT := amk hlt
      replace hlt := eq_true hlt
      replace i0 := eq_true i0
      cases hq : p y with
      | true =>
        rw [hq] at hcall
        have HQ := amk hq
        clear hq
        go_wp2_with (go_at_fn g; refine hcall.mono ?_; rintro e w' ⟨rfl, hb'⟩)
        go_ret
        refine ⟨?_, hb'⟩
        have h1 := idxOf_hit (p := p) HY.out HQ.out (fun j z hj hz => AA.out j z (by omega) hz)
        rw [h1]
        have := I0.out
        show Ending.returned (.int .i64 i) = Ending.returned (.int .i64 ((i.toNat : Nat) : Int))
        rw [Int.toNat_of_nonneg this]
      | false =>
        rw [hq] at hcall
        have HQ := amk hq
        clear hq
        go_wp2_with (go_at_fn g; refine hcall.mono ?_; rintro e w' ⟨rfl, hb'⟩)
        have hw1 : wrap64 (i + 1) = i + 1 := by
          have := I0.out
          have := HLT.out
          unfold wrap64; omega
        go_roundg (xs.length - (i.toNat + 1))
        case measure => have := I0.out; have := HLT.out; have := IG.out; omega
        case rel =>
          have a1 := I0.out
          have a2 := HLT.out
          refine ⟨i + 1, by rw [hw1], ⟨by omega⟩, ⟨by omega⟩, ⟨by omega⟩, ⟨hb'⟩, ⟨fun j z hj hz => ?_⟩⟩
          by_cases e : j = i.toNat
          · subst e
            rw [HY.out] at hz
            injection hz with hz
            rw [← hz]; exact HQ.out
          · exact AA.out j z (by omega) hz
    · have hlw : decide (i < (xs.length : Int)) = false := decide_eq_false hlt
      have HK := amk hlt
      clear hlt
      go_wp2
      go_ret
      refine ⟨?_, BW.out⟩
      rw [idxOf_miss (fun j z hz => AA.out j z (by have := HK.out; have := (List.getElem?_eq_some_iff.1 hz).1; omega) hz)]
      rfl
theorem contains_Pins (g : Nat) (cap : Array Value) (p : S41 → Bool) (A : Option Addr) (c : Nat) (xs : List S41) (w : World) (eg : ∀ args w, (callFunc g args).run Try.prog w = .ok (.enter g args) w)
    (hr : Kd.C k41 w A xs.length xs) (hp : PredPins g cap p xs w) :
    Calls Try.prog 137 #[.slice A xs.length c, .func (.func g) #[] cap] w fun e w' => e = .returned (.bool (xs.any p)) ∧ Below w.heap.size w w' := by
  rw [← idxOf_nonneg p xs]
  have HC := amk (idx_Pins g cap p A c xs w eg hr hp)
  clear hr hp
  go_enter Try.func137, Try.ntmps137
  go_wp2_with (go_at_call 160; refine HC.out.mono ?_; rintro e w' ⟨rfl, hb'⟩)
  go_ret
  exact ⟨rfl, hb'⟩
/-! impl.ofKind, by hand: it asks its pins through slices.ContainsFunc and a closure over the list. -/
def badB (l : List S41) (p : S41) : Bool := !pinsB p.f0 p.f1 || !(p.f0 == (rd_T41 l 0).f0) || !(p.f1.length == (rd_T41 l 0).f1.length)
def KindS (W : World) (gb : Nat) (ad : Addr) (n c : Nat) (y0 : Int) (y1 : Nat) (A1 : Option Addr) (c1 : Nat) (x0 : Int) (x1 : Nat) (A0 : Option Addr) (c0 : Nat) (w' : World) : Prop :=
  w'.cell? ⟨gb, 0, none⟩ = some (.slice (some ad) n c) ∧ w'.cell? ad = some (.int .i64 y0) ∧ w'.cell? ⟨ad.block, ad.off + 1, none⟩ = some (.slice A1 y1 c1) ∧ w'.cell? ⟨W.heap.size, 0, none⟩ = some (.int .i64 x0) ∧ w'.cell? ⟨W.heap.size, 1, none⟩ = some (.slice A0 x1 c0) ∧ Below W.heap.size W w' ∧ W.heap.size < w'.heap.size
theorem KindS_on {W : World} {gb : Nat} {ad : Addr} {n c : Nat} {y0 : Int} {y1 : Nat} {A1 : Option Addr} {c1 : Nat} {x0 : Int} {x1 : Nat} {A0 : Option Addr} {c0 : Nat} {w' w2 : World} (hB : gb < W.heap.size) (hA : ad.block < W.heap.size) (h : KindS W gb ad n c y0 y1 A1 c1 x0 x1 A0 c0 w') (hb : Below w'.heap.size w' w2) : KindS W gb ad n c y0 y1 A1 c1 x0 x1 A0 c0 w2 := by
  obtain ⟨h1, h2, h3, h4, h5, h6, h7⟩ := h
  have := hb.size
  exact ⟨(hb.cell (p := ⟨gb, 0, none⟩) (by show gb < _; omega)).trans h1, (hb.cell (by omega)).trans h2, (hb.cell (p := ⟨ad.block, ad.off + 1, none⟩) (by show ad.block < _; omega)).trans h3, (hb.cell (p := ⟨W.heap.size, 0, none⟩) h7).trans h4, (hb.cell (p := ⟨W.heap.size, 1, none⟩) h7).trans h5, h6.trans (hb.mono h6.size), by omega⟩
set_option maxHeartbeats 4000000 in
set_option maxRecDepth 100000 in
theorem ofKind_closure (l : List S41) (hl : 0 < l.length) (A : Option Addr) (c gb : Nat) (W : World) (hB : gb < W.heap.size) (h0 : W.cell? ⟨gb, 0, none⟩ = some (.slice A l.length c)) (hr : Kd.C k41 W A l.length l) (x : S41) (A0 : Option Addr) (c0 : Nat) (hc0 : x.f1.length ≤ c0) (hr0 : (Kd.slice 3 (Kd.int .i64)).C W A0 x.f1.length x.f1) :
    Calls Try.prog 138 #[.agg #[.int .i64 x.f0, .slice A0 x.f1.length c0], .pointer (some ⟨gb, 0, none⟩)] W fun e w' => e = .returned (.bool (badB l x)) ∧ Below W.heap.size W w' := by
  have hbx := hr0.2.1
  obtain ⟨ad, A1, c1, e, hq0, hq1, l1, g1⟩ := at_T41 hr 0 (by omega) (by omega)
  cases e
  have hby := g1.2.1
  have hll : decide (0 < (l.length : Int)) = true := decide_eq_true (by omega)
  have hu41 := Try.underlying41
  have hu35 := Try.underlying35
  have hu57 := Try.underlying57
  have HX := amk hr0
  have HC := amk hc0
  simp only [Int.toNat_zero, Nat.zero_mul] at hq0 hq1
  replace hq0 : W.cell? ad = _ := hq0
  replace hq1 : W.cell? ⟨ad.block, ad.off + 1, none⟩ = _ := hq1
  have hlz : (0 < l.length) = True := eq_true (by omega)
  clear hr hr0 hc0 g1 l1
  unfold badB
  generalize rd_T41 l 0 = y at hq0 hq1 hby ⊢
  have hab : ad.block < W.heap.size := World.block_lt_of_cell? W _ hq0
  have B1 : Below W.heap.size W (W.alloc (.cells #[.int .i64 x.f0, .slice A0 x.f1.length c0] 41)).drew := (ba_ (Below.refl _ W) _).drew
  have HS1 : Aside0 (KindS W gb ad l.length c y.f0 y.f1.length A1 c1 x.f0 x.f1.length A0 c0 (W.alloc (.cells #[.int .i64 x.f0, .slice A0 x.f1.length c0] 41)).drew) := ⟨(B1.cell (p := ⟨gb, 0, none⟩) hB).trans h0, (B1.cell hab).trans hq0, (B1.cell (p := ⟨ad.block, ad.off + 1, none⟩) hab).trans hq1, by simp, by simp, B1, by simp⟩
  have HLT := amk (And.intro hB hab)
  clear B1 hB hab hq0 hq1 h0
  cases hp : pinsB x.f0 x.f1 with
  | false =>
    have HP := amk (show impl_ArePins.f x.f0 x.f1 = some false by unfold impl_ArePins.f; rw [hp])
    clear hp
    show Calls Try.prog _ _ W fun e w' => e = .returned (.bool true) ∧ _
    go_enter Try.func138, Try.ntmps138
    go_wp2
    refine wp_region_quiet (C := KindS W gb ad l.length c y.f0 y.f1.length A1 c1 x.f0 x.f1.length A0 c0) (by kernel_rfl) (by kernel_rfl) HS1.out ?_
    simp only []
    repeat (first | go_big_quiet_skip | (go_big_quiet_want; unfold Oper.quiet; apply Exists.intro; refine ⟨fun w' hS => ?_, ?_⟩; (focus (have HSS := amk hS; obtain ⟨q1, q2, q3, q4, q5, q6, q7⟩ := hS; unfold Oper.quietAt; go_simp; first | done | exact ⟨rfl, rfl⟩ | exact rfl | (go_at_call 55; refine (impl_ArePins.calls _ _ _ _ _ _ (Kd.C_below HX.out q6) HC.out HP.out).mono ?_; rintro e w9 ⟨rfl, hb9⟩; exact ⟨rfl, KindS_on HLT.out.1 HLT.out.2 HSS.out hb9⟩))); simp only [Act.put, List.setIfInBounds_toArray, List.set_cons_zero, List.set_cons_succ]; go_big_quiet_on))
    refine wpQuiet_nil ?_
    intro w2 hS2
    obtain ⟨q1, q2, q3, q4, q5, q6, q7⟩ := hS2
    go_wp2
    go_ret
    exact ⟨rfl, q6⟩
  | true =>
    have HP := amk (show impl_ArePins.f x.f0 x.f1 = some true by unfold impl_ArePins.f; rw [hp])
    clear hp
    cases h1 : (x.f0 == y.f0) with
    | false =>
      show Calls Try.prog _ _ W fun e w' => e = .returned (.bool true) ∧ _
      have h1n : (x.f0 != y.f0) = true := by rw [bne, h1]; rfl
      go_enter Try.func138, Try.ntmps138
      go_wp2
      refine wp_region_quiet (C := KindS W gb ad l.length c y.f0 y.f1.length A1 c1 x.f0 x.f1.length A0 c0) (by kernel_rfl) (by kernel_rfl) HS1.out ?_
      simp only []
      repeat (first | go_big_quiet_skip | (go_big_quiet_want; unfold Oper.quiet; apply Exists.intro; refine ⟨fun w' hS => ?_, ?_⟩; (focus (have HSS := amk hS; obtain ⟨q1, q2, q3, q4, q5, q6, q7⟩ := hS; unfold Oper.quietAt; go_simp; first | done | exact ⟨rfl, rfl⟩ | exact rfl | (go_at_call 55; refine (impl_ArePins.calls _ _ _ _ _ _ (Kd.C_below HX.out q6) HC.out HP.out).mono ?_; rintro e w9 ⟨rfl, hb9⟩; exact ⟨rfl, KindS_on HLT.out.1 HLT.out.2 HSS.out hb9⟩))); simp only [Act.put, List.setIfInBounds_toArray, List.set_cons_zero, List.set_cons_succ]; go_big_quiet_on))
      refine wpQuiet_nil ?_
      intro w2 hS2
      obtain ⟨q1, q2, q3, q4, q5, q6, q7⟩ := hS2
      go_wp2
      go_ret
      exact ⟨rfl, q6⟩
    | true =>
      have h1n : (x.f0 != y.f0) = false := by rw [bne, h1]; rfl
      cases h2 : (x.f1.length == y.f1.length) with
      | false =>
        show Calls Try.prog _ _ W fun e w' => e = .returned (.bool true) ∧ _
        have h2n : ((x.f1.length : Int) != (y.f1.length : Int)) = true := by
          have := beq_eq_false_iff_ne.mp h2
          exact bne_iff_ne.mpr (by omega)
        go_enter Try.func138, Try.ntmps138
        go_wp2
        refine wp_region_quiet (C := KindS W gb ad l.length c y.f0 y.f1.length A1 c1 x.f0 x.f1.length A0 c0) (by kernel_rfl) (by kernel_rfl) HS1.out ?_
        simp only []
        repeat (first | go_big_quiet_skip | (go_big_quiet_want; unfold Oper.quiet; apply Exists.intro; refine ⟨fun w' hS => ?_, ?_⟩; (focus (have HSS := amk hS; obtain ⟨q1, q2, q3, q4, q5, q6, q7⟩ := hS; unfold Oper.quietAt; go_simp; first | done | exact ⟨rfl, rfl⟩ | exact rfl | (go_at_call 55; refine (impl_ArePins.calls _ _ _ _ _ _ (Kd.C_below HX.out q6) HC.out HP.out).mono ?_; rintro e w9 ⟨rfl, hb9⟩; exact ⟨rfl, KindS_on HLT.out.1 HLT.out.2 HSS.out hb9⟩))); simp only [Act.put, List.setIfInBounds_toArray, List.set_cons_zero, List.set_cons_succ]; go_big_quiet_on))
        refine wpQuiet_nil ?_
        intro w2 hS2
        obtain ⟨q1, q2, q3, q4, q5, q6, q7⟩ := hS2
        go_wp2
        go_ret
        exact ⟨rfl, q6⟩
      | true =>
        show Calls Try.prog _ _ W fun e w' => e = .returned (.bool false) ∧ _
        have h2n : ((x.f1.length : Int) != (y.f1.length : Int)) = false := by
          have := beq_iff_eq.mp h2
          simp only [this, bne_self_eq_false]
        go_enter Try.func138, Try.ntmps138
        go_wp2
        refine wp_region_quiet (C := KindS W gb ad l.length c y.f0 y.f1.length A1 c1 x.f0 x.f1.length A0 c0) (by kernel_rfl) (by kernel_rfl) HS1.out ?_
        simp only []
        repeat (first | go_big_quiet_skip | (go_big_quiet_want; unfold Oper.quiet; apply Exists.intro; refine ⟨fun w' hS => ?_, ?_⟩; (focus (have HSS := amk hS; obtain ⟨q1, q2, q3, q4, q5, q6, q7⟩ := hS; unfold Oper.quietAt; go_simp; first | done | exact ⟨rfl, rfl⟩ | exact rfl | (go_at_call 55; refine (impl_ArePins.calls _ _ _ _ _ _ (Kd.C_below HX.out q6) HC.out HP.out).mono ?_; rintro e w9 ⟨rfl, hb9⟩; exact ⟨rfl, KindS_on HLT.out.1 HLT.out.2 HSS.out hb9⟩))); simp only [Act.put, List.setIfInBounds_toArray, List.set_cons_zero, List.set_cons_succ]; go_big_quiet_on))
        refine wpQuiet_nil ?_
        intro w2 hS2
        obtain ⟨q1, q2, q3, q4, q5, q6, q7⟩ := hS2
        go_wp2
        go_ret
        exact ⟨rfl, q6⟩
def impl_ofKind.f (l : List S41) : Option Bool := some (kindB l)
set_option maxHeartbeats 2000000 in
set_option maxRecDepth 100000 in
theorem impl_ofKind.calls (A0 : Option Addr) (c0 : Nat) (l0 : List S41) (r : Bool) (w : World) (hr0 : Kd.C k41 w A0 l0.length l0) (hc0 : l0.length ≤ c0) (h : impl_ofKind.f l0 = some r) :
    Calls Try.prog 90 #[.slice A0 l0.length c0] w fun e w' => e = .returned (.bool r) ∧ Below w.heap.size w w' := by
  obtain rfl := Option.some.inj h
  clear h
  have hu57 := Try.underlying57
  have eg : ∀ args w, (callFunc 138 args).run Try.prog w = .ok (.enter 138 args) w := enters_of Try.func138 (by kernel_rfl) rfl
  have HE := amk eg
  clear eg
  have HR := amk hr0
  clear hr0
  unfold kindB
  by_cases h1 : 1 ≤ (l0.length : Int) ∧ (l0.length : Int) ≤ 6
  · rw [decide_eq_true h1, show (l0.all fun p => pinsB p.f0 p.f1 && (p.f0 == (rd_T41 l0 0).f0) && (p.f1.length == (rd_T41 l0 0).f1.length)) = !(l0.any (badB l0)) by rw [List.all_eq_not_any_not]; congr 2; funext p; simp [badB, Bool.not_and]]
    have hw1 := winB_yes h1
    generalize hz : (l0.any (badB l0)) = z
    have HZ := amk hz
    have H1 := amk h1
    clear hz h1
    go_enter Try.func90, Try.ntmps90
    go_wp2_with (first | (go_at_call 137; refine (contains_Pins 138 #[.pointer (some ⟨w.heap.size, 0, none⟩)] (badB l0) A0 c0 l0 _ HE.out (Kd.C_alloc HR.out _) (fun x _ W A1 c1 hW hc hr => (ofKind_closure l0 (by have := H1.out; omega) A0 c0 w.heap.size W (Nat.lt_of_lt_of_le (by simp) hW.size) ((hW.cell (p := ⟨w.heap.size, 0, none⟩) (by simp)).trans (by simp)) (Kd.C_below (Kd.C_alloc HR.out _) hW) x A1 c1 hc hr).mono (fun e w' ⟨h1, h2⟩ => ⟨h1, hW.trans (h2.mono hW.size)⟩))).mono ?_; rintro e w2 ⟨rfl, hb2⟩) | (go_at_call 107; refine (within_same _ _ _ _).mono ?_; rintro e w' ⟨rfl, rfl⟩))
    go_ret
    exact ⟨by rw [HZ.out]; rfl, ((Below.refl _ w).alloc (Nat.le_refl _) _).trans (hb2.mono (by simp))⟩
  · rw [decide_eq_false h1]
    have hw1 := winB_no h1
    clear h1
    go_enter Try.func90, Try.ntmps90
    go_wp2_with (go_at_call 107; refine (within_same _ _ _ _).mono ?_; rintro e w' ⟨rfl, rfl⟩)
    go_ret
    exact ⟨by simp, (Below.refl _ w).alloc (Nat.le_refl _) _⟩
/-! ### impl_MasterOf: function 44 -/
def impl_MasterOf.f (k : Nat) (l0 : List (S41)) : Option (Int × (List (List Int)) × Bool) := (impl_ofKind.f l0).bind fun t370 => (if t370 = true then ((impl_joined.f k l0 1).bind fun bt371 => (some (bt371.1, bt371.2, true))) else (some (0, ([] : List (List Int)), false)))
set_option maxHeartbeats 8000000 in
set_option maxRecDepth 100000 in
theorem impl_MasterOf.calls (k : Nat) (A0 : Option Addr) (c0 : Nat) (l0 : List (S41)) (r1 : Int) (r2 : List (List Int)) (r3 : Bool) (w : World) (hr0 : Kd.C k41 w A0 l0.length l0) (hc0 : l0.length ≤ c0) (h : impl_MasterOf.f k l0 = some (r1, r2, r3)) :
    Calls Try.prog 44 #[.slice A0 l0.length c0] w fun e w' => ∃ v1_ : Value, e = .returned (.tuple #[.agg #[.int .i64 r1, v1_], .bool r3]) ∧ Kd.S (Kd.slice 3 (Kd.int .i64)) 86 w' w.heap.size (fun _ => True) v1_ r2 ∧ Below w.heap.size w w' := by
  have hu41 := Try.underlying41
  have HR0 := amk hr0
  have HC0 := amk hc0
  clear hr0 hc0
  have HB := amk (Below.refl w.heap.size w)
  have H : ((impl_ofKind.f l0).bind fun t370 => (if t370 = true then ((impl_joined.f k l0 1).bind fun bt371 => (some (bt371.1, bt371.2, true))) else (some (0, ([] : List (List Int)), false)))) = some (r1, r2, r3) := h
  clear h
  replace H := Option.bind_eq_some_iff.mp H
  obtain ⟨t370, A20, H⟩ := H
  replace H : (if t370 = true then ((impl_joined.f k l0 1).bind fun bt371 => (some (bt371.1, bt371.2, true))) else (some (0, ([] : List (List Int)), false))) = some (r1, r2, r3) := H
  have A2 := amk A20
  clear A20
  by_cases c3 : t370 = true
  · subst c3
    have H1 : ((impl_joined.f k l0 1).bind fun bt371 => (some (bt371.1, bt371.2, true))) = some (r1, r2, r3) := by rw [if_pos rfl] at H; exact H
    clear H
    have H := H1
    clear H1
    replace H := Option.bind_eq_some_iff.mp H
    obtain ⟨⟨t371, t372⟩, A40, H⟩ := H
    replace H : (some (t371, t372, true)) = some (r1, r2, r3) := H
    have A4 := amk A40
    clear A40
    simp only [Option.some.injEq, Prod.mk.injEq] at H
    obtain ⟨rfl, rfl, rfl⟩ := H
    go_enter Try.func44, Try.ntmps44
    go_wp2_with (first | ((with_reducible refine gate_dst (N := 2) rfl ?_); refine box_event ?hg (N := 2) ?hd (cs := #[.int .i64 0, .slice none 0 0]) (t := 41) ?hr ?_; (case hd => rfl); (case hg => rfl); (case hr => first | (go_simp; done) | (go_simp; rfl)); intro gb369 hg w5 hbox hb; have n0_ := amk (bp_ (by repeat (first | (with_reducible first | exact HB.out | apply ba_ | apply bn_ | apply bd_) | exact HB.out)) hb); have n1_ := amk (hbox); have n2_ := amk ((by rw [hg]; exact (below_size (by repeat (first | (with_reducible first | exact HB.out | apply ba_ | apply bn_ | apply bd_) | exact HB.out))) : w.heap.size ≤ gb369)); have n3_ := amk ((by rw [hg]; exact (below_size (by repeat (first | (with_reducible first | exact HB.out | apply ba_ | apply bn_ | apply bd_) | exact HB.out))) : w.heap.size ≤ gb369)); clear HB; have HB := n0_; have BK369 := n1_; have GW369 := n2_; have GE369 := n3_; clear n0_ n1_ n2_ n3_; clear hb hbox hg) | ((with_reducible refine gate_callee (f := 90) rfl ?_); refine goesL_ (some 5) rfl rfl Try.func90 (by kernel_rfl) rfl #[.slice A0 l0.length c0] rfl (by (try simp only [List.map_toArray, List.map_cons, List.map_nil]); first | done | rfl | (simp only [List.length_drop, List.length_take]; rfl)) ?_; (with_reducible refine (impl_ofKind.calls _ _ l0 true _ ?side1 ?side2 A2.out).mono ?_); (case side1 => repeat (first | exact (Kd.C_below HR0.out HB.out) | (with_reducible refine Kd.C_alloc ?_ _) | (with_reducible refine Kd.C_drewN ?_ _) | (with_reducible refine Kd.C_drew ?_))); (case side2 => exact HC0.out); rintro e w6 ⟨rfl, hb⟩; refine ⟨_, rfl, ?_⟩; have n0_ := amk (blk_below (g := gb369) (o := .cells #[.int .i64 0, .slice none 0 0] 41 (0, 0)) (by (with_reducible repeat (first | refine kn_ ?_ _ | refine blk_drew ?_ | refine ka_ ?_ _)); exact BK369.out) hb); have n1_ := amk (bp_ (by repeat (first | (with_reducible first | exact HB.out | apply ba_ | apply bn_ | apply bd_ | refine bs_ ?_ GE369.out) | exact HB.out)) hb); clear BK369; clear HB; have BK369 := n0_; have HB := n1_; clear n0_ n1_; (try clear hb); (try clear hb2); (try clear hk); (try clear hi)) | ((with_reducible refine gate_callee (f := 101) rfl ?_); refine goesL_ (some 9) rfl rfl Try.func101 (by kernel_rfl) rfl #[.slice A0 l0.length c0, .int .i64 1] rfl (by (try simp only [List.map_toArray, List.map_cons, List.map_nil]); first | done | rfl | (simp only [List.length_drop, List.length_take]; rfl)) ?_; (with_reducible refine (impl_joined.calls k _ _ l0 1 t371 t372 _ ?side1 ?side2 A4.out).mono ?_); (case side1 => repeat (first | exact (Kd.C_below HR0.out HB.out) | (with_reducible refine Kd.C_alloc ?_ _) | (with_reducible refine Kd.C_drewN ?_ _) | (with_reducible refine Kd.C_drew ?_))); (case side2 => exact HC0.out); rintro e w7 ⟨v373, rfl, ho0, hb⟩; refine ⟨_, rfl, ?_⟩; have n0_ := amk (Kd.S_lower ho0 (below_size (by repeat (first | (with_reducible first | exact HB.out | apply ba_ | apply bn_ | apply bd_ | refine bs_ ?_ GE369.out) | exact HB.out)))); have n1_ := amk (blk_below (g := gb369) (o := .cells #[.int .i64 0, .slice none 0 0] 41 (0, 0)) (by (with_reducible repeat (first | refine kn_ ?_ _ | refine blk_drew ?_ | refine ka_ ?_ _)); exact BK369.out) hb); have n2_ := amk (bp_ (by repeat (first | (with_reducible first | exact HB.out | apply ba_ | apply bn_ | apply bd_ | refine bs_ ?_ GE369.out) | exact HB.out)) hb); clear BK369; clear HB; have HO374 := n0_; have BK369 := n1_; have HB := n2_; clear n0_ n1_ n2_; (try clear hb); (try clear hb2); (try clear hk); (try clear hi); (try clear ho0); have hcz8_0 : w7.cell? ⟨gb369, 0, none⟩ = some (.int .i64 0) := (blk_cell BK369.out 0).trans rfl; have hcz8_1 : w7.cell? ⟨gb369, 1, none⟩ = some (.slice none 0 0) := (blk_cell BK369.out 1).trans rfl; have hfz8_0 := blk_frozen BK369.out 0; have hfz8_1 := blk_frozen BK369.out 1; obtain ⟨Ao9, co9, eo9⟩ := Kd.S_slice HO374.out; subst eo9))
    refine bodyPost_ret (results_ct rfl _ _ gb369 41 #[.int .i64 t371, .slice Ao9 t372.length co9] (0, 0) _ rfl (by (with_reducible repeat (first | refine kn_ ?_ _ | refine blk_drew ?_ | refine ka_ ?_ _)); refine blk_put (cs := #[.int .i64 t371, .slice none 0 0]) ?_ 1 _ rfl; (with_reducible repeat (first | refine kn_ ?_ _ | refine blk_drew ?_ | refine ka_ ?_ _)); refine blk_put (cs := #[.int .i64 0, .slice none 0 0]) ?_ 0 _ rfl; (with_reducible repeat (first | refine kn_ ?_ _ | refine blk_drew ?_ | refine ka_ ?_ _)); exact BK369.out) Try.underlying41 rfl (by kernel_rfl)) rfl ?_
    exact ⟨_, by first | rfl | (simp [errW_none, errW_some] <;> rfl) | (simp [*, errW_none, errW_some] <;> rfl), by (with_reducible repeat (first | apply Kd.S_alloc | apply Kd.S_drewN | apply Kd.S_drew)); exact Kd.S_mono (Kd.S_far (p := ⟨gb369, 1, none⟩) (Kd.S_far (p := ⟨gb369, 0, none⟩) (Kd.S_types HO374.out BK369.out (by decide)) (fun _ hk => hk.2) (.int .i64 t371)) (fun _ hk => hk.2) (.slice Ao9 t372.length co9)) (fun _ hk => trivial), by repeat (first | (with_reducible first | exact HB.out | apply ba_ | apply bn_ | apply bd_ | refine bs_ ?_ GE369.out) | exact HB.out)⟩
  · replace c3 := Bool.eq_false_iff.mpr c3
    subst c3
    have H1 : (some (0, ([] : List (List Int)), false)) = some (r1, r2, r3) := by rw [if_neg (show ¬ (false = true) by decide)] at H; exact H
    clear H
    have H := H1
    clear H1
    simp only [Option.some.injEq, Prod.mk.injEq] at H
    obtain ⟨rfl, rfl, rfl⟩ := H
    go_enter Try.func44, Try.ntmps44
    go_wp2_with (first | ((with_reducible refine gate_dst (N := 2) rfl ?_); refine box_event ?hg (N := 2) ?hd (cs := #[.int .i64 0, .slice none 0 0]) (t := 41) ?hr ?_; (case hd => rfl); (case hg => rfl); (case hr => first | (go_simp; done) | (go_simp; rfl)); intro gb369 hg w10 hbox hb; have n0_ := amk (bp_ (by repeat (first | (with_reducible first | exact HB.out | apply ba_ | apply bn_ | apply bd_) | exact HB.out)) hb); have n1_ := amk (hbox); have n2_ := amk ((by rw [hg]; exact (below_size (by repeat (first | (with_reducible first | exact HB.out | apply ba_ | apply bn_ | apply bd_) | exact HB.out))) : w.heap.size ≤ gb369)); have n3_ := amk ((by rw [hg]; exact (below_size (by repeat (first | (with_reducible first | exact HB.out | apply ba_ | apply bn_ | apply bd_) | exact HB.out))) : w.heap.size ≤ gb369)); clear HB; have HB := n0_; have BK369 := n1_; have GW369 := n2_; have GE369 := n3_; clear n0_ n1_ n2_ n3_; clear hb hbox hg) | ((with_reducible refine gate_callee (f := 90) rfl ?_); refine goesL_ (some 5) rfl rfl Try.func90 (by kernel_rfl) rfl #[.slice A0 l0.length c0] rfl (by (try simp only [List.map_toArray, List.map_cons, List.map_nil]); first | done | rfl | (simp only [List.length_drop, List.length_take]; rfl)) ?_; (with_reducible refine (impl_ofKind.calls _ _ l0 false _ ?side1 ?side2 A2.out).mono ?_); (case side1 => repeat (first | exact (Kd.C_below HR0.out HB.out) | (with_reducible refine Kd.C_alloc ?_ _) | (with_reducible refine Kd.C_drewN ?_ _) | (with_reducible refine Kd.C_drew ?_))); (case side2 => exact HC0.out); rintro e w11 ⟨rfl, hb⟩; refine ⟨_, rfl, ?_⟩; have n0_ := amk (blk_below (g := gb369) (o := .cells #[.int .i64 0, .slice none 0 0] 41 (0, 0)) (by (with_reducible repeat (first | refine kn_ ?_ _ | refine blk_drew ?_ | refine ka_ ?_ _)); exact BK369.out) hb); have n1_ := amk (bp_ (by repeat (first | (with_reducible first | exact HB.out | apply ba_ | apply bn_ | apply bd_ | refine bs_ ?_ GE369.out) | exact HB.out)) hb); clear BK369; clear HB; have BK369 := n0_; have HB := n1_; clear n0_ n1_; (try clear hb); (try clear hb2); (try clear hk); (try clear hi); have hcz12_0 : w11.cell? ⟨gb369, 0, none⟩ = some (.int .i64 0) := (blk_cell BK369.out 0).trans rfl; have hcz12_1 : w11.cell? ⟨gb369, 1, none⟩ = some (.slice none 0 0) := (blk_cell BK369.out 1).trans rfl; have hfz12_0 := blk_frozen BK369.out 0; have hfz12_1 := blk_frozen BK369.out 1))
    refine bodyPost_ret (results_ct rfl _ _ gb369 41 #[.int .i64 0, .slice none 0 0] (0, 0) _ rfl (by (with_reducible repeat (first | refine kn_ ?_ _ | refine blk_drew ?_ | refine ka_ ?_ _)); refine blk_put (cs := #[.int .i64 0, .slice none 0 0]) ?_ 1 _ rfl; (with_reducible repeat (first | refine kn_ ?_ _ | refine blk_drew ?_ | refine ka_ ?_ _)); refine blk_put (cs := #[.int .i64 0, .slice none 0 0]) ?_ 0 _ rfl; (with_reducible repeat (first | refine kn_ ?_ _ | refine blk_drew ?_ | refine ka_ ?_ _)); exact BK369.out) Try.underlying41 rfl (by kernel_rfl)) rfl ?_
    exact ⟨_, by first | rfl | (simp [errW_none, errW_some] <;> rfl) | (simp [*, errW_none, errW_some] <;> rfl), by first | exact Kd.S_nil _ _ _ _ _ | exact Kd.N_nil _ _ _ _ _ | exact Kd.V_nil _ _ _ _ _ | exact Kd.Q_nil _ _ _ _ _ | exact Kd.R_nil _ _ _ _ _, by repeat (first | (with_reducible first | exact HB.out | apply ba_ | apply bn_ | apply bd_ | refine bs_ ?_ GE369.out) | exact HB.out)⟩
/-! impl.MasterPins, by hand: it builds a list of the two. -/
theorem two_pins {W : World} {g : Nat} {a0 a1 : Int} {A0 A1 : Option Addr} {c0 c1 : Nat} {l0 l1 : List (List Int)} (hg : W.heap[g]? = some (.cells #[.int .i64 a0, .slice A0 l0.length c0, .int .i64 a1, .slice A1 l1.length c1] 41 (0, 0)))
    (h0 : Kd.C (Kd.slice 3 (Kd.int .i64)) W A0 l0.length l0) (i0 : l0.length ≤ c0) (h1 : Kd.C (Kd.slice 3 (Kd.int .i64)) W A1 l1.length l1) (i1 : l1.length ≤ c1) : Kd.C k41 W (some ⟨g, 0, none⟩) 2 [(⟨a0, l0⟩ : S41), (⟨a1, l1⟩ : S41)] := by
  have q0 : W.cell? ⟨g, 0, none⟩ = some (.int .i64 a0) := by simp [World.cell?, hg]
  have q1 : W.cell? ⟨g, 1, none⟩ = some (.slice A0 l0.length c0) := by simp [World.cell?, hg]
  have q2 : W.cell? ⟨g, 2, none⟩ = some (.int .i64 a1) := by simp [World.cell?, hg]
  have q3 : W.cell? ⟨g, 3, none⟩ = some (.slice A1 l1.length c1) := by simp [World.cell?, hg]
  refine ⟨rfl, by omega, fun _ => ⟨_, rfl, fun j p hj => ?_⟩⟩
  match j, hj with
  | 0, hj =>
    injection hj with hj
    subst hj
    refine ⟨[.int .i64 a0, .slice A0 l0.length c0], rfl, k41_mk W ⟨a0, l0⟩ i0 h0, fun i u hi => ?_⟩
    match i, hi with
    | 0, hi => injection hi with hi; subst hi; exact q0
    | 1, hi => injection hi with hi; subst hi; exact q1
  | 1, hj =>
    injection hj with hj
    subst hj
    refine ⟨[.int .i64 a1, .slice A1 l1.length c1], rfl, k41_mk W ⟨a1, l1⟩ i1 h1, fun i u hi => ?_⟩
    match i, hi with
    | 0, hi => injection hi with hi; subst hi; exact q2
    | 1, hi => injection hi with hi; subst hi; exact q3
def impl_MasterPins.f (k : Nat) (a0 : Int) (l0 : List (List Int)) (a1 : Int) (l1 : List (List Int)) : Option (Int × List (List Int) × Bool) := impl_MasterOf.f k [(⟨a0, l0⟩ : S41), (⟨a1, l1⟩ : S41)]
set_option maxHeartbeats 4000000 in
set_option maxRecDepth 100000 in
theorem impl_MasterPins.calls (k : Nat) (a0 : Int) (A0 : Option Addr) (c0 : Nat) (l0 : List (List Int)) (a1 : Int) (A1 : Option Addr) (c1 : Nat) (l1 : List (List Int)) (r1 : Int) (r2 : List (List Int)) (r3 : Bool) (w : World) (h0 : Kd.C (Kd.slice 3 (Kd.int .i64)) w A0 l0.length l0) (i0 : l0.length ≤ c0) (h1 : Kd.C (Kd.slice 3 (Kd.int .i64)) w A1 l1.length l1) (i1 : l1.length ≤ c1) (h : impl_MasterPins.f k a0 l0 a1 l1 = some (r1, r2, r3)) :
    Calls Try.prog 26 #[.agg #[.int .i64 a0, .slice A0 l0.length c0], .agg #[.int .i64 a1, .slice A1 l1.length c1]] w fun e w' => ∃ v1_ : Value, e = .returned (.tuple #[.agg #[.int .i64 r1, v1_], .bool r3]) ∧ Kd.S (Kd.slice 3 (Kd.int .i64)) 86 w' w.heap.size (fun _ => True) v1_ r2 ∧ Below w.heap.size w w' := by
  have hu41 := Try.underlying41
  have hu35 := Try.underlying35
  have hu57 := Try.underlying57
  unfold impl_MasterPins.f at h
  have H := amk h
  have H0 := amk h0
  have H1 := amk h1
  have I0 := amk i0
  have I1 := amk i1
  clear h h0 h1 i0 i1
  have HB3 := amk ((((Below.refl w.heap.size w).alloc (Nat.le_refl _) (.cells #[.int .i64 a0, .slice A0 l0.length c0] 41 (0, 0))).alloc (by simp) (.cells #[.int .i64 a1, .slice A1 l1.length c1] 41 (0, 0))).alloc (by simp <;> omega) (.cells #[.int .i64 0, .slice none 0 0] 41 (0, 0)))
  have HB4 := amk (HB3.out.alloc HB3.out.size (.cells #[.int .i64 a0, .slice A0 l0.length c0, .int .i64 a1, .slice A1 l1.length c1] 41 (0, 0)))
  have N3 := amk (blk_new ((w.alloc (.cells #[.int .i64 a0, .slice A0 l0.length c0] 41 (0, 0))).alloc (.cells #[.int .i64 a1, .slice A1 l1.length c1] 41 (0, 0))) (.cells #[.int .i64 0, .slice none 0 0] 41 (0, 0)))
  have N4 := amk (blk_new (((w.alloc (.cells #[.int .i64 a0, .slice A0 l0.length c0] 41 (0, 0))).alloc (.cells #[.int .i64 a1, .slice A1 l1.length c1] 41 (0, 0))).alloc (.cells #[.int .i64 0, .slice none 0 0] 41 (0, 0))) (.cells #[.int .i64 a0, .slice A0 l0.length c0, .int .i64 a1, .slice A1 l1.length c1] 41 (0, 0)))
  go_enter Try.func26, Try.ntmps26
  go_wp2_with (go_at_call 44; refine (impl_MasterOf.calls k _ 2 [(⟨a0, l0⟩ : S41), (⟨a1, l1⟩ : S41)] r1 r2 r3 _ (two_pins (g := w.heap.size + 1 + 1 + 1) (by simpa using N4.out) (Kd.C_below H0.out HB4.out) I0.out (Kd.C_below H1.out HB4.out) I1.out) (Nat.le_refl _) H.out).mono ?_; rintro e w9 ⟨v9, rfl, hs9, hb9⟩; have BK := amk (show w9.heap[w.heap.size + 1 + 1]? = some (.cells #[.int .i64 0, .slice none 0 0] 41 (0, 0)) from (hb9.block _ (by simp)).trans ((((Below.refl _ _).alloc (Nat.le_refl _) _).block _ (by simp)).trans (by simpa using N3.out))); obtain ⟨hq0, hq1, hq2, hq3, _⟩ := two_cells BK.out; obtain ⟨A9, c9, rfl⟩ := Kd.S_slice hs9; have S9 := amk (Kd.S_lower hs9 HB4.out.size); have HB9 := amk (HB4.out.trans (hb9.mono HB4.out.size)); clear hs9 hb9)
  (try simp only [Exit.inBlock, Exit.then])
  refine bodyPost_ret (results_ct rfl _ _ (w.heap.size + 1 + 1) 41 #[.int .i64 r1, .slice A9 r2.length c9] (0, 0) _ rfl (two_set BK.out _ _) Try.underlying41 rfl (by kernel_rfl)) rfl ?_
  have hty : ∀ q, q ∈ 86 :: (Kd.slice 3 (Kd.int .i64)).E → q ≠ 41 := by intro q hq; simp [Kd.slice, Kd.int, Kd.scalar] at hq; omega
  refine ⟨_, rfl, Kd.S_set (Kd.S_set S9.out BK.out hty 0 _) (heap_setCell_same _ _ 0 _ _ _ BK.out) hty 1 _, ?_⟩
  exact (HB9.out.setCell (p := ⟨w.heap.size + 1 + 1, 0, none⟩) (by show w.heap.size ≤ w.heap.size + 1 + 1; omega) _).setCell (p := ⟨w.heap.size + 1 + 1, 1, none⟩) (by show w.heap.size ≤ w.heap.size + 1 + 1; omega) _
/-! laws.FnExactMasterPins, by hand: the arguments' rows are marked. -/
theorem cell_st {W : World} {p q : Addr} {u v : Value} (h : W.cell? q = some v) (hne : p.block ≠ q.block) : (W.setCell p u).cell? q = some v := (World.cell?_setCell_far W p q u hne).trans h
def MR (w : World) (n0 : Int) (A0 : Option Addr) (l0 c0 : Nat) (n1 : Int) (A1 : Option Addr) (l1 c1 : Nat) (W : World) : Prop := Below w.heap.size w W ∧ W.heap[w.heap.size]? = some (.cells #[.int .i64 n0, .slice A0 l0 c0] 37 (0, 0)) ∧ W.heap[w.heap.size + 1]? = some (.cells #[.int .i64 n1, .slice A1 l1 c1] 37 (0, 0))
section
variable {w W W2 : World} {n0 : Int} {A0 : Option Addr} {l0 c0 : Nat} {n1 : Int} {A1 : Option Addr} {l1 c1 : Nat}
theorem MR_below (h : MR w n0 A0 l0 c0 n1 A1 l1 c1 W) (hb : Below W.heap.size W W2) : MR w n0 A0 l0 c0 n1 A1 l1 c1 W2 := ⟨bp_ h.1 hb, (hb.block _ (two_cells h.2.1).2.2.2.2).trans h.2.1, (hb.block _ (two_cells h.2.2).2.2.2.2).trans h.2.2⟩
theorem MR_belowE (w : World) (n0 : Int) (A0 : Option Addr) (l0 c0 : Nat) (n1 : Int) (A1 : Option Addr) (l1 c1 : Nat) (h : MR w n0 A0 l0 c0 n1 A1 l1 c1 W) (hb : Below W.heap.size W W2) : MR w n0 A0 l0 c0 n1 A1 l1 c1 W2 := MR_below h hb
theorem MR_C (w : World) (n0 : Int) (A0 : Option Addr) (l0 c0 : Nat) (n1 : Int) (A1 : Option Addr) (l1 c1 : Nat) {α : Type} {d : Kd α} {A : Option Addr} {n : Nat} {L : List α} (hc : Kd.C d w A n L) (h : MR w n0 A0 l0 c0 n1 A1 l1 c1 W) : Kd.C d W A n L := Kd.C_below hc h.1
theorem MR_alloc (h : MR w n0 A0 l0 c0 n1 A1 l1 c1 W) (o : Obj) : MR w n0 A0 l0 c0 n1 A1 l1 c1 (W.alloc o) := MR_below h ((Below.refl _ W).alloc (Nat.le_refl _) o)
theorem MR_drew (h : MR w n0 A0 l0 c0 n1 A1 l1 c1 W) : MR w n0 A0 l0 c0 n1 A1 l1 c1 W.drew := MR_below h (Below.refl _ W).drew
theorem MR_cells (h : MR w n0 A0 l0 c0 n1 A1 l1 c1 W) : W.cell? ⟨w.heap.size, 0, none⟩ = some (.int .i64 n0) ∧ W.cell? ⟨w.heap.size, 1, none⟩ = some (.slice A0 l0 c0) ∧ W.cell? ⟨w.heap.size + 1, 0, none⟩ = some (.int .i64 n1) ∧ W.cell? ⟨w.heap.size + 1, 1, none⟩ = some (.slice A1 l1 c1) := ⟨(two_cells h.2.1).1, (two_cells h.2.1).2.1, (two_cells h.2.2).1, (two_cells h.2.2).2.1⟩
theorem MR_sts (h : MR w n0 A0 l0 c0 n1 A1 l1 c1 W) {p q : Addr} {u v : Value} (hp : w.heap.size + 1 < p.block) (hq : w.heap.size + 1 < q.block) : ((W.setCell p u).setCell q v).cell? ⟨w.heap.size, 0, none⟩ = some (.int .i64 n0) ∧ ((W.setCell p u).setCell q v).cell? ⟨w.heap.size, 1, none⟩ = some (.slice A0 l0 c0) ∧ ((W.setCell p u).setCell q v).cell? ⟨w.heap.size + 1, 0, none⟩ = some (.int .i64 n1) ∧ ((W.setCell p u).setCell q v).cell? ⟨w.heap.size + 1, 1, none⟩ = some (.slice A1 l1 c1) := ⟨cell_st (cell_st (MR_cells h).1 (by show p.block ≠ w.heap.size; omega)) (by show q.block ≠ w.heap.size; omega), cell_st (cell_st (MR_cells h).2.1 (by show p.block ≠ w.heap.size; omega)) (by show q.block ≠ w.heap.size; omega), cell_st (cell_st (MR_cells h).2.2.1 (by show p.block ≠ w.heap.size + 1; omega)) (by show q.block ≠ w.heap.size + 1; omega), cell_st (cell_st (MR_cells h).2.2.2 (by show p.block ≠ w.heap.size + 1; omega)) (by show q.block ≠ w.heap.size + 1; omega)⟩
def AL (W : World) (b : Nat) : Prop := W.heap[b]? = some (.cells #[.int .i64 0, .slice none 0 0] 41 (0, 0))
theorem AL_below {b : Nat} (h : AL W b) (hb : Below W.heap.size W W2) : AL W2 b := (hb.block _ (two_cells h).2.2.2.2).trans h
theorem AL_new (W : World) : AL (W.alloc (.cells #[.int .i64 0, .slice none 0 0] 41 (0, 0))) W.heap.size := blk_new W _
theorem AL_drew {b : Nat} (h : AL W b) : AL W.drew b := h
end
def MPst (w W : World) (n0 : Int) (A0 : Option Addr) (c0 : Nat) (L0 : List (List Int)) (n1 : Int) (A1 : Option Addr) (c1 : Nat) (L1 : List (List Int)) (rn : Int) (R : List (List Int)) (c8 aw ew bw : Nat) (Aw : Option Addr) (cw : Nat) (ax bx : Nat) (Ax : Option Addr) (cx : Nat) (X : List (List Int)) (ay yb : Nat) (Ay : Option Addr) (cy : Nat) (Y : List (List Int)) (ag eg bg : Nat) (Ag : Option Addr) (cg : Nat) (G : List (List Int)) : Prop :=
  Below w.heap.size w W ∧ W.heap[w.heap.size]? = some (.cells #[.int .i64 n0, .slice A0 L0.length c0] 37 (0, 0)) ∧ W.heap[w.heap.size + 1]? = some (.cells #[.int .i64 n1, .slice A1 L1.length c1] 37 (0, 0)) ∧ W.heap[bw]? = some (.cells #[.int .i64 rn, .slice Aw R.length cw] 41 (0, 0)) ∧ Kd.S (Kd.slice 3 (Kd.int .i64)) 86 W w.heap.size (fun j => aw ≤ j ∧ j < ew) (.slice Aw R.length cw) R ∧ W.heap[bx]? = some (.cells #[.int .i64 n0, .slice Ax L0.length cx] 41 (0, 0)) ∧ Kd.S (Kd.slice 3 (Kd.int .i64)) 86 W w.heap.size (fun j => ax ≤ j ∧ j < bx) (.slice Ax L0.length cx) X ∧ W.heap[yb]? = some (.cells #[.int .i64 n1, .slice Ay L1.length cy] 41 (0, 0)) ∧ Kd.S (Kd.slice 3 (Kd.int .i64)) 86 W w.heap.size (fun j => ay ≤ j ∧ j < yb) (.slice Ay L1.length cy) Y ∧ W.heap[bg]? = some (.cells #[.int .i64 rn, .slice Ag R.length cg] 41 (0, 0)) ∧ Kd.S (Kd.slice 3 (Kd.int .i64)) 86 W w.heap.size (fun j => ag ≤ j ∧ j < eg) (.slice Ag R.length cg) G ∧ (w.heap.size + 2 ≤ aw ∧ aw ≤ ew ∧ ew ≤ c8 ∧ (bw < aw ∨ ew ≤ bw) ∧ w.heap.size + 2 ≤ bw ∧ bw < c8 ∧ c8 ≤ ax ∧ ax ≤ bx ∧ bx < ay ∧ ay ≤ yb ∧ yb < ag ∧ ag ≤ eg ∧ eg ≤ bg ∧ bg < W.heap.size)
section
variable {w W : World} {n0 : Int} {A0 : Option Addr} {c0 : Nat} {L0 : List (List Int)} {n1 : Int} {A1 : Option Addr} {c1 : Nat} {L1 : List (List Int)} {rn : Int} {R : List (List Int)} {c8 aw ew bw : Nat} {Aw : Option Addr} {cw : Nat} {ax bx : Nat} {Ax : Option Addr} {cx : Nat} {X : List (List Int)} {ay yb : Nat} {Ay : Option Addr} {cy : Nat} {Y : List (List Int)} {ag eg bg : Nat} {Ag : Option Addr} {cg : Nat} {G : List (List Int)} {W2 : World} {X' Y' G' : List (List Int)}
theorem MPst_below (h : MPst w W n0 A0 c0 L0 n1 A1 c1 L1 rn R c8 aw ew bw Aw cw ax bx Ax cx X ay yb Ay cy Y ag eg bg Ag cg G) (hb : Below W.heap.size W W2) : MPst w W2 n0 A0 c0 L0 n1 A1 c1 L1 rn R c8 aw ew bw Aw cw ax bx Ax cx X ay yb Ay cy Y ag eg bg Ag cg G := by
  obtain ⟨h1, h2, h3, h4, h5, h6, h7, h8, h9, h10, h11, h12⟩ := h
  have hs := hb.size
  exact ⟨h1.trans (hb.mono h1.size), (hb.block _ (by omega)).trans h2, (hb.block _ (by omega)).trans h3, (hb.block _ (by omega)).trans h4, Kd.S_below h5 hb, (hb.block _ (by omega)).trans h6, Kd.S_below h7 hb, (hb.block _ (by omega)).trans h8, Kd.S_below h9 hb, (hb.block _ (by omega)).trans h10, Kd.S_below h11 hb, by omega⟩
theorem MPst_markX (h : MPst w W n0 A0 c0 L0 n1 A1 c1 L1 rn R c8 aw ew bw Aw cw ax bx Ax cx X ay yb Ay cy Y ag eg bg Ag cg G) (hk : Kept W W2 (fun j => ax ≤ j ∧ j < bx)) (hb : Below w.heap.size w W2) (hs : Kd.S (Kd.slice 3 (Kd.int .i64)) 86 W2 w.heap.size (fun j => ax ≤ j ∧ j < bx) (.slice Ax L0.length cx) X') : MPst w W2 n0 A0 c0 L0 n1 A1 c1 L1 rn R c8 aw ew bw Aw cw ax bx Ax cx X' ay yb Ay cy Y ag eg bg Ag cg G := by
  obtain ⟨h1, h2, h3, h4, h5, h6, h7, h8, h9, h10, h11, h12⟩ := h
  have hz := hk.1
  exact ⟨hb, (hk.2 _ (by omega) (by omega)).trans h2, (hk.2 _ (by omega) (by omega)).trans h3, (hk.2 _ (by omega) (by omega)).trans h4, Kd.S_kept h5 hk (fun j h1 h2 => by omega), (hk.2 _ (by omega) (by omega)).trans h6, hs, (hk.2 _ (by omega) (by omega)).trans h8, Kd.S_kept h9 hk (fun j h1 h2 => by omega), (hk.2 _ (by omega) (by omega)).trans h10, Kd.S_kept h11 hk (fun j h1 h2 => by omega), by omega⟩
theorem MPst_markY (h : MPst w W n0 A0 c0 L0 n1 A1 c1 L1 rn R c8 aw ew bw Aw cw ax bx Ax cx X ay yb Ay cy Y ag eg bg Ag cg G) (hk : Kept W W2 (fun j => ay ≤ j ∧ j < yb)) (hb : Below w.heap.size w W2) (hs : Kd.S (Kd.slice 3 (Kd.int .i64)) 86 W2 w.heap.size (fun j => ay ≤ j ∧ j < yb) (.slice Ay L1.length cy) Y') : MPst w W2 n0 A0 c0 L0 n1 A1 c1 L1 rn R c8 aw ew bw Aw cw ax bx Ax cx X ay yb Ay cy Y' ag eg bg Ag cg G := by
  obtain ⟨h1, h2, h3, h4, h5, h6, h7, h8, h9, h10, h11, h12⟩ := h
  have hz := hk.1
  exact ⟨hb, (hk.2 _ (by omega) (by omega)).trans h2, (hk.2 _ (by omega) (by omega)).trans h3, (hk.2 _ (by omega) (by omega)).trans h4, Kd.S_kept h5 hk (fun j h1 h2 => by omega), (hk.2 _ (by omega) (by omega)).trans h6, Kd.S_kept h7 hk (fun j h1 h2 => by omega), (hk.2 _ (by omega) (by omega)).trans h8, hs, (hk.2 _ (by omega) (by omega)).trans h10, Kd.S_kept h11 hk (fun j h1 h2 => by omega), by omega⟩
theorem MPst_markG (h : MPst w W n0 A0 c0 L0 n1 A1 c1 L1 rn R c8 aw ew bw Aw cw ax bx Ax cx X ay yb Ay cy Y ag eg bg Ag cg G) (hk : Kept W W2 (fun j => ag ≤ j ∧ j < eg)) (hb : Below w.heap.size w W2) (hs : Kd.S (Kd.slice 3 (Kd.int .i64)) 86 W2 w.heap.size (fun j => ag ≤ j ∧ j < eg) (.slice Ag R.length cg) G') : MPst w W2 n0 A0 c0 L0 n1 A1 c1 L1 rn R c8 aw ew bw Aw cw ax bx Ax cx X ay yb Ay cy Y ag eg bg Ag cg G' := by
  obtain ⟨h1, h2, h3, h4, h5, h6, h7, h8, h9, h10, h11, h12⟩ := h
  have hz := hk.1
  exact ⟨hb, (hk.2 _ (by omega) (by omega)).trans h2, (hk.2 _ (by omega) (by omega)).trans h3, (hk.2 _ (by omega) (by omega)).trans h4, Kd.S_kept h5 hk (fun j h1 h2 => by omega), (hk.2 _ (by omega) (by omega)).trans h6, Kd.S_kept h7 hk (fun j h1 h2 => by omega), (hk.2 _ (by omega) (by omega)).trans h8, Kd.S_kept h9 hk (fun j h1 h2 => by omega), (hk.2 _ (by omega) (by omega)).trans h10, hs, by omega⟩
end
theorem S_ivM {α : Type} {d : Kd α} {e : Nat} {w : World} {base : Nat} {ok : Nat → Prop} {v : Value} {xs : List α} (h : Kd.S d e w base ok v xs) : Kd.S d e w base (fun j => base ≤ j ∧ j < w.heap.size) v xs := Kd.S_mono (Kd.S_bound h) (fun _ hk => ⟨hk.2.1, hk.2.2.1⟩)
def MV (w : World) (n0 : Int) (A0 : Option Addr) (l0 c0 : Nat) (n1 : Int) (A1 : Option Addr) (l1 c1 : Nat) (rn : Int) (R : List (List Int)) (A6 : Option Addr) (c6 b aw ew c8 : Nat) (W : World) : Prop := MR w n0 A0 l0 c0 n1 A1 l1 c1 W ∧ W.heap[b]? = some (.cells #[.int .i64 rn, .slice A6 R.length c6] 41 (0, 0)) ∧ Kd.S (Kd.slice 3 (Kd.int .i64)) 86 W w.heap.size (fun j => aw ≤ j ∧ j < ew) (.slice A6 R.length c6) R ∧ (w.heap.size + 2 ≤ aw ∧ aw ≤ ew ∧ ew ≤ c8 ∧ (b < aw ∨ ew ≤ b) ∧ w.heap.size + 2 ≤ b ∧ b < c8 ∧ c8 ≤ W.heap.size)
section
variable {w W W2 : World} {n0 : Int} {A0 : Option Addr} {L0 : List (List Int)} {c0 : Nat} {n1 : Int} {A1 : Option Addr} {L1 : List (List Int)} {c1 : Nat} {rn : Int} {R : List (List Int)} {A6 : Option Addr} {c6 b aw ew c8 : Nat}
theorem MV_below (h : MV w n0 A0 L0.length c0 n1 A1 L1.length c1 rn R A6 c6 b aw ew c8 W) (hb : Below W.heap.size W W2) : MV w n0 A0 L0.length c0 n1 A1 L1.length c1 rn R A6 c6 b aw ew c8 W2 := by
  obtain ⟨h1, h2, h3, h4⟩ := h
  have hs := hb.size
  exact ⟨MR_below h1 hb, (hb.block _ (two_cells h2).2.2.2.2).trans h2, Kd.S_below h3 hb, by omega⟩
theorem MV_last {base : Nat} (h : MR w n0 A0 L0.length c0 n1 A1 L1.length c1 W) (hs : Kd.S (Kd.slice 3 (Kd.int .i64)) 86 W base (fun j => base ≤ j ∧ j < W.heap.size) (.slice A6 R.length c6) R) (hb : w.heap.size + 1 < base) (h2 : base ≤ W.heap.size) : MV w n0 A0 L0.length c0 n1 A1 L1.length c1 rn R A6 c6 W.heap.size base W.heap.size (W.alloc (.cells #[.int .i64 rn, .slice A6 R.length c6] 41 (0, 0))).heap.size (W.alloc (.cells #[.int .i64 rn, .slice A6 R.length c6] 41 (0, 0))) :=
  ⟨MR_alloc h _, blk_new _ _, Kd.S_alloc (Kd.S_lower hs (by omega)) _, by simp; omega⟩
theorem MV_set {base : Nat} (h : MR w n0 A0 L0.length c0 n1 A1 L1.length c1 W) (hal : AL W b) (hs : Kd.S (Kd.slice 3 (Kd.int .i64)) 86 W base (fun j => base ≤ j ∧ j < W.heap.size) (.slice A6 R.length c6) R) (hb : w.heap.size + 1 < b) (hb2 : b < base) (h2 : base ≤ W.heap.size) : MV w n0 A0 L0.length c0 n1 A1 L1.length c1 rn R A6 c6 b base W.heap.size ((W.setCell ⟨b, 0, none⟩ (.int .i64 rn)).setCell ⟨b, 1, none⟩ (.slice A6 R.length c6)).heap.size ((W.setCell ⟨b, 0, none⟩ (.int .i64 rn)).setCell ⟨b, 1, none⟩ (.slice A6 R.length c6)) := by
  have hk : Kept W ((W.setCell ⟨b, 0, none⟩ (.int .i64 rn)).setCell ⟨b, 1, none⟩ (.slice A6 R.length c6)) (fun j => j = b) := ((Kept.refl W (fun j => j = b)).setCell (p := ⟨b, 0, none⟩) (.inl rfl) _).setCell (p := ⟨b, 1, none⟩) (.inl rfl) _
  have hz := hk.1
  have hB := (h.1.setCell (p := ⟨b, 0, none⟩) (by show w.heap.size ≤ b; omega) (.int .i64 rn)).setCell (p := ⟨b, 1, none⟩) (by show w.heap.size ≤ b; omega) (.slice A6 R.length c6)
  exact ⟨⟨hB, blk_kept h.2.1 hk (by omega), blk_kept h.2.2 hk (by omega)⟩, two_set hal _ _, Kd.S_kept (Kd.S_lower hs (by omega)) hk (fun k hk he => by omega), by omega⟩
theorem MP_make {A9 A10 A11 : Option Addr} {c9 c10 c11 bx b9 : Nat} {w10 w11 : World} (hT : MV w n0 A0 L0.length c0 n1 A1 L1.length c1 rn R A6 c6 b aw ew c8 w10) (hB9 : w10.heap[bx]? = some (.cells #[.int .i64 n0, .slice A9 L0.length c9] 41 (0, 0))) (hX : Kd.S (Kd.slice 3 (Kd.int .i64)) 86 w10 b9 (fun j => b9 ≤ j ∧ j < bx) (.slice A9 L0.length c9) L0) (h9 : c8 ≤ b9) (hbx : b9 ≤ bx) (hY : Kd.S (Kd.slice 3 (Kd.int .i64)) 86 w10 (bx + 1) (fun j => bx + 1 ≤ j ∧ j < w10.heap.size) (.slice A10 L1.length c10) L1) (hyb : bx + 1 ≤ w10.heap.size) (hb : Below (w10.alloc (.cells #[.int .i64 n1, .slice A10 L1.length c10] 41 (0, 0))).heap.size (w10.alloc (.cells #[.int .i64 n1, .slice A10 L1.length c10] 41 (0, 0))) w11) (hG : Kd.S (Kd.slice 3 (Kd.int .i64)) 86 w11 (w10.heap.size + 1) (fun j => w10.heap.size + 1 ≤ j ∧ j < w11.heap.size) (.slice A11 R.length c11) R) : MPst w (w11.alloc (.cells #[.int .i64 rn, .slice A11 R.length c11] 41 (0, 0))) n0 A0 c0 L0 n1 A1 c1 L1 rn R c8 aw ew b A6 c6 b9 bx A9 c9 L0 (bx + 1) w10.heap.size A10 c10 L1 (w10.heap.size + 1) w11.heap.size w11.heap.size A11 c11 R := by
  have hs := hb.size
  simp only [World.alloc, Array.size_push] at hs
  have hbA := ((Below.refl w10.heap.size w10).alloc (Nat.le_refl _) (.cells #[.int .i64 n1, .slice A10 L1.length c10] 41 (0, 0))).trans (hb.mono (by simp))
  have hbB := hbA.alloc (by omega) (.cells #[.int .i64 rn, .slice A11 R.length c11] 41 (0, 0))
  obtain ⟨h1, h2, h3, h4⟩ := hT
  have hsz : (w11.alloc (.cells #[.int .i64 rn, .slice A11 R.length c11] 41 (0, 0))).heap.size = w11.heap.size + 1 := by simp
  have hm := MR_below h1 hbB
  exact ⟨hm.1, hm.2.1, hm.2.2, (hbB.block _ (two_cells h2).2.2.2.2).trans h2, Kd.S_below h3 hbB, (hbB.block _ (two_cells hB9).2.2.2.2).trans hB9, Kd.S_lower (Kd.S_below hX hbB) (by omega), (((Below.refl _ w11).alloc (Nat.le_refl _) _).block w10.heap.size (by omega)).trans ((hb.block w10.heap.size (by simp)).trans (blk_new w10 _)), Kd.S_lower (Kd.S_below hY hbB) (by omega), blk_new w11 _, Kd.S_lower (Kd.S_alloc hG _) (by omega), by omega⟩
theorem MPst_R {X Y G : List (List Int)} {b9 bx c9 ay yb c10 ag eg bg c11 : Nat} {A9 A10 A11 : Option Addr} (h : MPst w W n0 A0 c0 L0 n1 A1 c1 L1 rn R c8 aw ew b A6 c6 b9 bx A9 c9 X ay yb A10 c10 Y ag eg bg A11 c11 G) : MR w n0 A0 L0.length c0 n1 A1 L1.length c1 W := ⟨h.1, h.2.1, h.2.2.1⟩
end
def MQ (w0 w : World) (n0 : Int) (A0 : Option Addr) (l0 c0 : Nat) (n1 : Int) (A1 : Option Addr) (l1 c1 : Nat) (W : World) : Prop := MR w n0 A0 l0 c0 n1 A1 l1 c1 W ∧ Below w0.heap.size w0 W
section
variable {w0 w W W2 : World} {n0 : Int} {A0 : Option Addr} {l0 c0 : Nat} {n1 : Int} {A1 : Option Addr} {l1 c1 : Nat}
theorem MQ_belowE (w0 w : World) (n0 : Int) (A0 : Option Addr) (l0 c0 : Nat) (n1 : Int) (A1 : Option Addr) (l1 c1 : Nat) (h : MQ w0 w n0 A0 l0 c0 n1 A1 l1 c1 W) (hb : Below W.heap.size W W2) : MQ w0 w n0 A0 l0 c0 n1 A1 l1 c1 W2 := ⟨MR_below h.1 hb, h.2.trans (hb.mono h.2.size)⟩
theorem MQ_C (w0 w : World) (n0 : Int) (A0 : Option Addr) (l0 c0 : Nat) (n1 : Int) (A1 : Option Addr) (l1 c1 : Nat) {α : Type} {d : Kd α} {A : Option Addr} {n : Nat} {L : List α} (hc : Kd.C d w A n L) (h : MQ w0 w n0 A0 l0 c0 n1 A1 l1 c1 W) : Kd.C d W A n L := Kd.C_below hc h.1.1
theorem MQ_alloc (h : MQ w0 w n0 A0 l0 c0 n1 A1 l1 c1 W) (o : Obj) : MQ w0 w n0 A0 l0 c0 n1 A1 l1 c1 (W.alloc o) := ⟨MR_alloc h.1 o, h.2.alloc h.2.size o⟩
theorem MQ_drew (h : MQ w0 w n0 A0 l0 c0 n1 A1 l1 c1 W) : MQ w0 w n0 A0 l0 c0 n1 A1 l1 c1 W.drew := ⟨MR_drew h.1, h.2.trans ((Below.refl _ W).drew.mono h.2.size)⟩
theorem MQ_cells (h : MQ w0 w n0 A0 l0 c0 n1 A1 l1 c1 W) : W.cell? ⟨w.heap.size, 0, none⟩ = some (.int .i64 n0) ∧ W.cell? ⟨w.heap.size, 1, none⟩ = some (.slice A0 l0 c0) ∧ W.cell? ⟨w.heap.size + 1, 0, none⟩ = some (.int .i64 n1) ∧ W.cell? ⟨w.heap.size + 1, 1, none⟩ = some (.slice A1 l1 c1) := MR_cells h.1
theorem MQ_sts (h : MQ w0 w n0 A0 l0 c0 n1 A1 l1 c1 W) {p q : Addr} {u v : Value} (hp : w.heap.size + 1 < p.block) (hq : w.heap.size + 1 < q.block) : ((W.setCell p u).setCell q v).cell? ⟨w.heap.size, 0, none⟩ = some (.int .i64 n0) ∧ ((W.setCell p u).setCell q v).cell? ⟨w.heap.size, 1, none⟩ = some (.slice A0 l0 c0) ∧ ((W.setCell p u).setCell q v).cell? ⟨w.heap.size + 1, 0, none⟩ = some (.int .i64 n1) ∧ ((W.setCell p u).setCell q v).cell? ⟨w.heap.size + 1, 1, none⟩ = some (.slice A1 l1 c1) := MR_sts h.1 hp hq
theorem MQ_set (h : MQ w0 w n0 A0 l0 c0 n1 A1 l1 c1 W) {b : Nat} (hb : w0.heap.size ≤ b) (u v : Value) : Below w0.heap.size w0 ((W.setCell ⟨b, 0, none⟩ u).setCell ⟨b, 1, none⟩ v) := (h.2.setCell (p := ⟨b, 0, none⟩) hb u).setCell (p := ⟨b, 1, none⟩) hb v
end
theorem cut8 {G : Prop} (F : World → Nat → Option Addr → Nat → Option Addr → Nat → Option Addr → Nat → Prop) {P : World → Nat → Option Addr → Nat → Option Addr → Nat → Option Addr → Nat → Prop} (main : Aside0 (∀ W b A4 c4 A5 c5 A6 c6, F W b A4 c4 A5 c5 A6 c6 → P W b A4 c4 A5 c5 A6 c6) → G) (key : ∀ W b A4 c4 A5 c5 A6 c6, F W b A4 c4 A5 c5 A6 c6 → P W b A4 c4 A5 c5 A6 c6) : G := main ⟨key⟩
def laws_FnExactMasterPins.f (n0 : Int) (l0 : List (List Int)) (n1 : Int) (l1 : List (List Int)) : Option Bool := some true
set_option maxHeartbeats 16000000 in
set_option maxRecDepth 100000 in
theorem laws_FnExactMasterPins.walk (k : Nat) (n0 : Int) (L0 : List (List Int)) (n1 : Int) (L1 : List (List Int)) (rn : Int) (R R' X' Y' : List (List Int)) (ok : Bool) (r0 r1 m1 m2 m : Int) (A0 : Option Addr) (c0 : Nat) (A1 : Option Addr) (c1 : Nat) (w : World) (hr0 : Kd.C (Kd.slice 3 (Kd.int .i64)) w A0 L0.length L0) (hc0 : L0.length ≤ c0) (hr1 : Kd.C (Kd.slice 3 (Kd.int .i64)) w A1 L1.length L1) (hc1 : L1.length ≤ c1)
    (e1 : laws_szPins.f k n0 L0 1048576 = some r0) (h0 : 0 ≤ r0) (f1 : laws_szPins.f k n1 L1 r0 = some r1) (h1 : 0 ≤ r1) (e2 : laws_toPins.f k n0 L0 = some (n0, L0)) (f2 : laws_toPins.f k n1 L1 = some (n1, L1)) (e3 : spec_MasterPins.f k n0 L0 n1 L1 = some (rn, R, ok)) (e4 : impl_MasterPins.f k n0 L0 n1 L1 = some (rn, R, ok)) (e5 : laws_eqPins.f k rn R rn R = some true) (e6 : laws_eqPins.f k n0 L0 n0 L0 = some true) (f6 : laws_eqPins.f k n1 L1 n1 L1 = some true) (e7 : laws_markPins.f k n0 L0 1 = some (m1, X')) (f7 : laws_markPins.f k n1 L1 m1 = some (m2, Y')) (h7 : 0 ≤ m2) (e8 : laws_markPins.f k rn R 1 = some (m, R')) (h8 : 0 ≤ m) (e9 : laws_heldPins.f k rn R' 1 = some m) :
    Calls Try.prog 5 #[.agg #[.int .i64 n0, .slice A0 L0.length c0], .agg #[.int .i64 n1, .slice A1 L1.length c1]] w fun e w' => e = .returned (.bool true) ∧ Below w.heap.size w w' := by
  have hu37 := Try.underlying37
  have hu41 := Try.underlying41
  have hu35 := Try.underlying35
  have hd0 : decide (r0 < 0) = false := decide_eq_false (by omega)
  have hd1 : decide (r1 < 0) = false := decide_eq_false (by omega)
  have hd7 : decide (m2 < 0) = false := decide_eq_false (by omega)
  have hd8 : decide (m < 0) = false := decide_eq_false (by omega)
  have hok : (ok != ok) = false := by cases ok <;> rfl
  have hmm : (m != m) = false := by simp
  have E1 := amk e1
  have F1 := amk f1
  have E2 := amk e2
  have F2 := amk f2
  have E3 := amk e3
  have E4 := amk e4
  have E5 := amk e5
  have E6 := amk e6
  have F6 := amk f6
  have E7 := amk e7
  have F7 := amk f7
  have E8 := amk e8
  have E9 := amk e9
  have HC0 := amk hc0
  have HC1 := amk hc1
  have HR0 := amk hr0
  have HR1 := amk hr1
  have HB := amk (((Below.refl w.heap.size w).alloc (Nat.le_refl _) (.cells #[.int .i64 n0, .slice A0 L0.length c0] 37 (0, 0))).alloc (by simp) (.cells #[.int .i64 n1, .slice A1 L1.length c1] 37 (0, 0)))
  have BB : Aside0 (((w.alloc (.cells #[.int .i64 n0, .slice A0 L0.length c0] 37 (0, 0))).alloc (.cells #[.int .i64 n1, .slice A1 L1.length c1] 37 (0, 0))).heap[w.heap.size]? = some (.cells #[.int .i64 n0, .slice A0 L0.length c0] 37 (0, 0)) ∧ ((w.alloc (.cells #[.int .i64 n0, .slice A0 L0.length c0] 37 (0, 0))).alloc (.cells #[.int .i64 n1, .slice A1 L1.length c1] 37 (0, 0))).heap[w.heap.size + 1]? = some (.cells #[.int .i64 n1, .slice A1 L1.length c1] 37 (0, 0))) := ⟨(((Below.refl _ _).alloc (Nat.le_refl _) _).block _ (by simp)).trans (blk_new _ _), by simpa using blk_new (w.alloc (.cells #[.int .i64 n0, .slice A0 L0.length c0] 37 (0, 0))) (.cells #[.int .i64 n1, .slice A1 L1.length c1] 37 (0, 0))⟩
  clear e1 f1 e2 f2 e3 e4 e5 e6 f6 e7 f7 e8 e9 hc0 hc1 hr0 hr1 h0 h1 h7 h8
  go_enter Try.func5, Try.ntmps5
  go_wp2_with (go_at_call_of 20 (Value.int .i64 1048576); refine (laws_szPins.calls k n0 _ _ L0 _ r0 _ (Kd.C_below HR0.out HB.out) HC0.out E1.out).mono ?_; rintro e w2 ⟨rfl, hb⟩; have HB2 := amk (HB.out.trans (hb.mono HB.out.size)); have BB2 := amk (And.intro ((hb.block _ (two_cells BB.out.1).2.2.2.2).trans BB.out.1) ((hb.block _ (two_cells BB.out.2).2.2.2.2).trans BB.out.2)); obtain ⟨hq0, hq1, _, _, _⟩ := two_cells BB2.out.1; obtain ⟨hp0, hp1, _, _, _⟩ := two_cells BB2.out.2; clear hb)
  go_wp2_with (go_at_call 20; refine (laws_szPins.calls k n1 _ _ L1 _ r1 _ (Kd.C_below HR1.out HB2.out) HC1.out F1.out).mono ?_; rintro e w3 ⟨rfl, hb⟩; have HB3 := amk (HB2.out.trans (hb.mono HB2.out.size)); have BB3 := amk (And.intro ((hb.block _ (two_cells BB2.out.1).2.2.2.2).trans BB2.out.1) ((hb.block _ (two_cells BB2.out.2).2.2.2.2).trans BB2.out.2)); clear hq0 hq1 hp0 hp1; obtain ⟨hq0, hq1, _, _, _⟩ := two_cells BB3.out.1; obtain ⟨hp0, hp1, _, _, _⟩ := two_cells BB3.out.2; clear hb)
  have MH3 : Aside0 (MR w n0 A0 L0.length c0 n1 A1 L1.length c1 w3) := ⟨⟨HB3.out, BB3.out.1, BB3.out.2⟩⟩
  have MH3d := amk (MR_drew MH3.out)
  apply cut8 (fun W b A4 c4 A5 c5 A6 c6 => ∃ aw ew, MV w n0 A0 L0.length c0 n1 A1 L1.length c1 rn R A6 c6 b aw ew W.heap.size W)
  case main =>
    intro KEY
    go_region_held3 (fun w' => w'.cell? ⟨w.heap.size, 0, none⟩ = some (.int .i64 n0) ∧ w'.cell? ⟨w.heap.size, 1, none⟩ = some (.slice A0 L0.length c0) ∧ w'.cell? ⟨w.heap.size + 1, 0, none⟩ = some (.int .i64 n1) ∧ w'.cell? ⟨w.heap.size + 1, 1, none⟩ = some (.slice A1 L1.length c1)) (first | exact MR_cells MH3d.out | exact MR_cells MH6.out | exact MR_cells MH5.out | exact MR_cells MH4.out | exact MR_cells (MR_alloc MH6.out _) | exact MR_cells (MR_alloc MH5.out _) | exact MR_cells (MR_alloc MH4.out _) | exact MR_cells (MR_alloc MH3d.out _) | exact MR_sts MH6.out (by have q3 := MH3.out.2.2; have q4 := MH4.out; have q5 := MH5.out; have z3 := (two_cells MH3.out.2.2).2.2.2.2; have z4 := (two_cells MH4.out.2.2).2.2.2.2; have z5 := (two_cells MH5.out.2.2).2.2.2.2; first | (show w.heap.size + 1 < w3.heap.size; omega) | (show w.heap.size + 1 < w4.heap.size; omega) | (show w.heap.size + 1 < w5.heap.size; omega)) (by have q3 := MH3.out.2.2; have q4 := MH4.out; have q5 := MH5.out; have z3 := (two_cells MH3.out.2.2).2.2.2.2; have z4 := (two_cells MH4.out.2.2).2.2.2.2; have z5 := (two_cells MH5.out.2.2).2.2.2.2; first | (show w.heap.size + 1 < w3.heap.size; omega) | (show w.heap.size + 1 < w4.heap.size; omega) | (show w.heap.size + 1 < w5.heap.size; omega)) | go_keep) ((first | (go_at_call_of 22 (Value.agg #[Value.int .i64 n0, Value.slice A0 L0.length c0]); refine Calls.mono (laws_toPins.calls k n0 _ _ L0 n0 L0 _ (MR_C w n0 A0 L0.length c0 n1 A1 L1.length c1 HR0.out (by repeat (first | with_reducible refine MR_alloc ?_ _ | with_reducible refine MR_drew ?_ | exact MH3.out))) HC0.out E2.out) ?_; rintro e w4 ⟨v4, rfl, hs, hb⟩; have MH4 := amk (MR_belowE w n0 A0 L0.length c0 n1 A1 L1.length c1 (by repeat (first | with_reducible refine MR_alloc ?_ _ | with_reducible refine MR_drew ?_ | exact MH3.out)) hb); (first | (have AL4 := amk (AL_below (AL_new _) hb)) | (have AL4 := amk (AL_below (AL_drew (AL_new _)) hb)) | skip);  obtain ⟨A4, c4, rfl⟩ := Kd.S_slice hs; have S4 := amk hs;  clear hs hb) | (go_at_call_of 22 (Value.agg #[Value.int .i64 n1, Value.slice A1 L1.length c1]); refine Calls.mono (laws_toPins.calls k n1 _ _ L1 n1 L1 _ (MR_C w n0 A0 L0.length c0 n1 A1 L1.length c1 HR1.out (by repeat (first | with_reducible refine MR_alloc ?_ _ | with_reducible refine MR_drew ?_ | exact MH4.out))) HC1.out F2.out) ?_; rintro e w5 ⟨v5, rfl, hs, hb⟩; have MH5 := amk (MR_belowE w n0 A0 L0.length c0 n1 A1 L1.length c1 (by repeat (first | with_reducible refine MR_alloc ?_ _ | with_reducible refine MR_drew ?_ | exact MH4.out)) hb); (first | (have AL5 := amk (AL_below (AL_new _) hb)) | (have AL5 := amk (AL_below (AL_drew (AL_new _)) hb)) | (have AL5 := amk (AL_below AL4.out hb)) | skip);  obtain ⟨A5, c5, rfl⟩ := Kd.S_slice hs; have S5 := amk hs; (first | (with_reducible have S45 := amk (Kd.S_below S4.out hb)) | (with_reducible have S45 := amk (Kd.S_below (Kd.S_alloc S4.out _) hb))); clear hs hb) | (go_at_call 25; refine Calls.mono (spec_MasterPins.calls k n0 _ _ L0 n1 _ _ L1 rn R ok _ (Kd.C_below (Kd.S_reads' S45.out).2.2 (by repeat (first | with_reducible exact Below.refl _ _ | with_reducible refine (ba_ ?_ _)))) (Kd.S_reads' S45.out).2.1 (Kd.C_below (Kd.S_reads' S5.out).2.2 (by repeat (first | with_reducible exact Below.refl _ _ | with_reducible refine (ba_ ?_ _)))) (Kd.S_reads' S5.out).2.1 E3.out) ?_; rintro e w6 ⟨v6, rfl, hs, hb⟩; have MH6 := amk (MR_belowE w n0 A0 L0.length c0 n1 A1 L1.length c1 (by repeat (first | with_reducible refine MR_alloc ?_ _ | with_reducible refine MR_drew ?_ | exact MH5.out)) hb); (first | (have AL6 := amk (AL_below (AL_new _) hb)) | (have AL6 := amk (AL_below (AL_drew (AL_new _)) hb)) | (have AL6 := amk (AL_below AL5.out hb)) | skip);  (first | (have hz0 := (two_cells AL6.out).1; have hz1 := (two_cells AL6.out).2.1; have hz2 := (two_cells AL6.out).2.2.1; have hz3 := (two_cells AL6.out).2.2.2.1) | skip); obtain ⟨A6, c6, rfl⟩ := Kd.S_slice hs; have S6 := amk (S_ivM hs); have Z6 := amk hb.size; clear hs hb)))
    · have FIN := MV_last (rn := rn) MH6.out S6.out (two_cells MH5.out.2.2).2.2.2.2 Z6.out
      generalize w6.alloc _ = W8 at FIN ⊢
      generalize w6.heap.size = b8 at FIN ⊢
      exact KEY.out W8 b8 A4 c4 A5 c5 A6 c6 ⟨_, _, FIN⟩
    · exact KEY.out _ _ A4 c4 A5 c5 A6 c6 ⟨_, _, MV_set MH6.out AL6.out S6.out (two_cells MH5.out.2.2).2.2.2.2 (by simp) Z6.out⟩
    · exact KEY.out _ _ A4 c4 A5 c5 A6 c6 ⟨_, _, MV_set MH6.out AL6.out S6.out (two_cells MH4.out.2.2).2.2.2.2 (two_cells AL5.out).2.2.2.2 Z6.out⟩
    · exact KEY.out _ _ A4 c4 A5 c5 A6 c6 ⟨_, _, MV_set MH6.out AL6.out S6.out (two_cells MH3.out.2.2).2.2.2.2 (two_cells AL5.out).2.2.2.2 Z6.out⟩
  case key =>
    intro W8 b8 A4 c4 A5 c5 A6 c6 hF
    obtain ⟨aw, ew, hT⟩ := hF
    have T8 := amk hT
    clear hT
    have hq0 := (two_cells T8.out.1.2.1).1
    have hq1 := (two_cells T8.out.1.2.1).2.1
    have hp0 := (two_cells T8.out.1.2.2).1
    have hp1 := (two_cells T8.out.1.2.2).2.1
    have hw0 := (two_cells T8.out.2.1).1
    have hw1 := (two_cells T8.out.2.1).2.1;
    go_wp2_with (go_at_call_of 22 (Value.agg #[Value.int .i64 n0, Value.slice A0 L0.length c0]); refine Calls.mono (laws_toPins.calls k n0 _ _ L0 n0 L0 _ (MR_C w n0 A0 L0.length c0 n1 A1 L1.length c1 HR0.out T8.out.1) HC0.out E2.out) ?_; rintro e w9 ⟨v9, rfl, hs, hb⟩; have T9 := amk (MV_below T8.out hb); obtain ⟨A9, c9, rfl⟩ := Kd.S_slice hs; have S9 := amk (S_ivM hs); have Z9 := amk hb.size; have T9a := amk (MV_below T9.out ((Below.refl _ w9).alloc (Nat.le_refl _) (.cells #[.int .i64 n0, .slice A9 L0.length c9] 41 (0, 0)))); clear hq0 hq1 hp0 hp1 hw0 hw1; have hq0 := (two_cells T9a.out.1.2.1).1; have hq1 := (two_cells T9a.out.1.2.1).2.1; have hp0 := (two_cells T9a.out.1.2.2).1; have hp1 := (two_cells T9a.out.1.2.2).2.1; have hw0 := (two_cells T9a.out.2.1).1; have hw1 := (two_cells T9a.out.2.1).2.1; clear hs hb)
    go_wp2_with (go_at_call_of 22 (Value.agg #[Value.int .i64 n1, Value.slice A1 L1.length c1]); refine Calls.mono (laws_toPins.calls k n1 _ _ L1 n1 L1 _ (MR_C w n0 A0 L0.length c0 n1 A1 L1.length c1 HR1.out (MR_alloc T9.out.1 _)) HC1.out F2.out) ?_; rintro e w10 ⟨v10, rfl, hs, hb⟩; have T10 := amk (MV_below T9a.out hb); have B9 := amk ((hb.block w9.heap.size (by simp)).trans (blk_new w9 _)); obtain ⟨A10, c10, rfl⟩ := Kd.S_slice hs; have S10 := amk (S_ivM hs); have S9b := amk (Kd.S_below (Kd.S_alloc S9.out _) hb); have Z10 := amk hb.size; have T10a := amk (MV_below T10.out ((Below.refl _ w10).alloc (Nat.le_refl _) (.cells #[.int .i64 n1, .slice A10 L1.length c10] 41 (0, 0)))); have B9a := amk ((((Below.refl _ w10).alloc (Nat.le_refl _) (.cells #[.int .i64 n1, .slice A10 L1.length c10] 41 (0, 0))).block _ (two_cells B9.out).2.2.2.2).trans B9.out); have B10a := amk (blk_new w10 (.cells #[.int .i64 n1, .slice A10 L1.length c10] 41 (0, 0))); clear hq0 hq1 hp0 hp1 hw0 hw1; have hq0 := (two_cells T10a.out.1.2.1).1; have hq1 := (two_cells T10a.out.1.2.1).2.1; have hp0 := (two_cells T10a.out.1.2.2).1; have hp1 := (two_cells T10a.out.1.2.2).2.1; have hw0 := (two_cells T10a.out.2.1).1; have hw1 := (two_cells T10a.out.2.1).2.1; have hx0 := (two_cells B9a.out).1; have hx1 := (two_cells B9a.out).2.1; have hy0 := (two_cells B10a.out).1; have hy1 := (two_cells B10a.out).2.1; clear hs hb)
    go_wp2_with (go_at_call 26; refine Calls.mono (impl_MasterPins.calls k n0 _ _ L0 n1 _ _ L1 rn R ok _ (Kd.C_alloc (Kd.S_reads' S9b.out).2.2 _) (Kd.S_reads' S9b.out).2.1 (Kd.C_alloc (Kd.S_reads' S10.out).2.2 _) (Kd.S_reads' S10.out).2.1 E4.out) ?_; rintro e w11 ⟨v11, rfl, hs, hb⟩; obtain ⟨A11, c11, rfl⟩ := Kd.S_slice hs; have ST := amk (MP_make T10.out B9.out S9b.out (Nat.le_refl _) Z9.out (by have := S10.out; simpa using this) (by have := Z10.out; simpa using this) hb (by have := S_ivM hs; simpa using this)); clear hq0 hq1 hp0 hp1 hw0 hw1 hx0 hx1 hy0 hy1; have hq0 := (two_cells ST.out.2.1).1; have hq1 := (two_cells ST.out.2.1).2.1; have hp0 := (two_cells ST.out.2.2.1).1; have hp1 := (two_cells ST.out.2.2.1).2.1; have hw0 := (two_cells ST.out.2.2.2.1).1; have hw1 := (two_cells ST.out.2.2.2.1).2.1; have hx0 := (two_cells ST.out.2.2.2.2.2.1).1; have hx1 := (two_cells ST.out.2.2.2.2.2.1).2.1; have hy0 := (two_cells ST.out.2.2.2.2.2.2.2.1).1; have hy1 := (two_cells ST.out.2.2.2.2.2.2.2.1).2.1; have hg0 := (two_cells ST.out.2.2.2.2.2.2.2.2.2.1).1; have hg1 := (two_cells ST.out.2.2.2.2.2.2.2.2.2.1).2.1; clear hs hb)
    go_wp2_with (go_at_call 24; refine Calls.mono (laws_eqPins.calls k rn _ _ R rn _ _ R true _ (Kd.S_reads' ST.out.2.2.2.2.2.2.2.2.2.2.1).2.2 (Kd.S_reads' ST.out.2.2.2.2.2.2.2.2.2.2.1).2.1 (Kd.S_reads' ST.out.2.2.2.2.1).2.2 (Kd.S_reads' ST.out.2.2.2.2.1).2.1 E5.out) ?_; rintro e w12 ⟨rfl, hb⟩; have ST12 := amk (MPst_below ST.out hb); clear hq0 hq1 hp0 hp1 hw0 hw1 hx0 hx1 hy0 hy1 hg0 hg1; have hq0 := (two_cells ST12.out.2.1).1; have hq1 := (two_cells ST12.out.2.1).2.1; have hp0 := (two_cells ST12.out.2.2.1).1; have hp1 := (two_cells ST12.out.2.2.1).2.1; have hw0 := (two_cells ST12.out.2.2.2.1).1; have hw1 := (two_cells ST12.out.2.2.2.1).2.1; have hx0 := (two_cells ST12.out.2.2.2.2.2.1).1; have hx1 := (two_cells ST12.out.2.2.2.2.2.1).2.1; have hy0 := (two_cells ST12.out.2.2.2.2.2.2.2.1).1; have hy1 := (two_cells ST12.out.2.2.2.2.2.2.2.1).2.1; have hg0 := (two_cells ST12.out.2.2.2.2.2.2.2.2.2.1).1; have hg1 := (two_cells ST12.out.2.2.2.2.2.2.2.2.2.1).2.1; clear hb)
    have ST12d := amk (MPst_below ST12.out (Below.refl _ w12).drew)
    have HS0 : Aside0 (w12.drew.cell? ⟨w9.heap.size, 0, none⟩ = some (.int .i64 n0) ∧ w12.drew.cell? ⟨w9.heap.size, 1, none⟩ = some (.slice A9 L0.length c9) ∧ w12.drew.cell? ⟨w.heap.size, 0, none⟩ = some (.int .i64 n0) ∧ w12.drew.cell? ⟨w.heap.size, 1, none⟩ = some (.slice A0 L0.length c0)) := ⟨⟨(two_cells ST12d.out.2.2.2.2.2.1).1, (two_cells ST12d.out.2.2.2.2.2.1).2.1, (two_cells ST12d.out.2.1).1, (two_cells ST12d.out.2.1).2.1⟩⟩
    go_region_held3 (fun w' => w'.cell? ⟨w9.heap.size, 0, none⟩ = some (.int .i64 n0) ∧ w'.cell? ⟨w9.heap.size, 1, none⟩ = some (.slice A9 L0.length c9) ∧ w'.cell? ⟨w.heap.size, 0, none⟩ = some (.int .i64 n0) ∧ w'.cell? ⟨w.heap.size, 1, none⟩ = some (.slice A0 L0.length c0)) (first | exact ⟨(two_cells ST14.out.2.2.2.2.2.1).1, (two_cells ST14.out.2.2.2.2.2.1).2.1, (two_cells ST14.out.2.1).1, (two_cells ST14.out.2.1).2.1⟩ | exact ⟨(two_cells ST13.out.2.2.2.2.2.1).1, (two_cells ST13.out.2.2.2.2.2.1).2.1, (two_cells ST13.out.2.1).1, (two_cells ST13.out.2.1).2.1⟩ | exact HS0.out) ((first | (go_at_call 22; refine Calls.mono (laws_toPins.calls k n0 _ _ L0 n0 L0 _ (MR_C w n0 A0 L0.length c0 n1 A1 L1.length c1 HR0.out (MPst_R ST12d.out)) HC0.out E2.out) ?_; rintro e w13 ⟨v13, rfl, hs, hb⟩; have ST13 := amk (MPst_below ST12d.out hb); obtain ⟨A13, c13, rfl⟩ := Kd.S_slice hs; have S13 := amk hs; clear hs hb) | (go_at_call 24; refine Calls.mono (laws_eqPins.calls k n0 _ _ L0 n0 _ _ L0 true _ (Kd.S_reads' ST13.out.2.2.2.2.2.2.1).2.2 (Kd.S_reads' ST13.out.2.2.2.2.2.2.1).2.1 (Kd.S_reads' S13.out).2.2 (Kd.S_reads' S13.out).2.1 E6.out) ?_; rintro e w14 ⟨rfl, hb⟩; have ST14 := amk (MPst_below ST13.out hb); clear hb)))
    clear hq0 hq1 hp0 hp1 hw0 hw1 hx0 hx1 hy0 hy1 hg0 hg1
    have hq0 := (two_cells ST14.out.2.1).1
    have hq1 := (two_cells ST14.out.2.1).2.1
    have hp0 := (two_cells ST14.out.2.2.1).1
    have hp1 := (two_cells ST14.out.2.2.1).2.1
    have hw0 := (two_cells ST14.out.2.2.2.1).1
    have hw1 := (two_cells ST14.out.2.2.2.1).2.1
    have hx0 := (two_cells ST14.out.2.2.2.2.2.1).1
    have hx1 := (two_cells ST14.out.2.2.2.2.2.1).2.1
    have hy0 := (two_cells ST14.out.2.2.2.2.2.2.2.1).1
    have hy1 := (two_cells ST14.out.2.2.2.2.2.2.2.1).2.1
    have hg0 := (two_cells ST14.out.2.2.2.2.2.2.2.2.2.1).1
    have hg1 := (two_cells ST14.out.2.2.2.2.2.2.2.2.2.1).2.1;
    go_wp2
    have ST14d := amk (MPst_below ST14.out (Below.refl _ w14).drew)
    have HS1 : Aside0 (w14.drew.cell? ⟨w10.heap.size, 0, none⟩ = some (.int .i64 n1) ∧ w14.drew.cell? ⟨w10.heap.size, 1, none⟩ = some (.slice A10 L1.length c10) ∧ w14.drew.cell? ⟨w.heap.size + 1, 0, none⟩ = some (.int .i64 n1) ∧ w14.drew.cell? ⟨w.heap.size + 1, 1, none⟩ = some (.slice A1 L1.length c1)) := ⟨⟨(two_cells ST14d.out.2.2.2.2.2.2.2.1).1, (two_cells ST14d.out.2.2.2.2.2.2.2.1).2.1, (two_cells ST14d.out.2.2.1).1, (two_cells ST14d.out.2.2.1).2.1⟩⟩
    go_region_held3 (fun w' => w'.cell? ⟨w10.heap.size, 0, none⟩ = some (.int .i64 n1) ∧ w'.cell? ⟨w10.heap.size, 1, none⟩ = some (.slice A10 L1.length c10) ∧ w'.cell? ⟨w.heap.size + 1, 0, none⟩ = some (.int .i64 n1) ∧ w'.cell? ⟨w.heap.size + 1, 1, none⟩ = some (.slice A1 L1.length c1)) (first | exact ⟨(two_cells ST16.out.2.2.2.2.2.2.2.1).1, (two_cells ST16.out.2.2.2.2.2.2.2.1).2.1, (two_cells ST16.out.2.2.1).1, (two_cells ST16.out.2.2.1).2.1⟩ | exact ⟨(two_cells ST15.out.2.2.2.2.2.2.2.1).1, (two_cells ST15.out.2.2.2.2.2.2.2.1).2.1, (two_cells ST15.out.2.2.1).1, (two_cells ST15.out.2.2.1).2.1⟩ | exact HS1.out) ((first | (go_at_call 22; refine Calls.mono (laws_toPins.calls k n1 _ _ L1 n1 L1 _ (MR_C w n0 A0 L0.length c0 n1 A1 L1.length c1 HR1.out (MPst_R ST14d.out)) HC1.out F2.out) ?_; rintro e w15 ⟨v15, rfl, hs, hb⟩; have ST15 := amk (MPst_below ST14d.out hb); obtain ⟨A15, c15, rfl⟩ := Kd.S_slice hs; have S15 := amk hs; clear hs hb) | (go_at_call 24; refine Calls.mono (laws_eqPins.calls k n1 _ _ L1 n1 _ _ L1 true _ (Kd.S_reads' ST15.out.2.2.2.2.2.2.2.2.1).2.2 (Kd.S_reads' ST15.out.2.2.2.2.2.2.2.2.1).2.1 (Kd.S_reads' S15.out).2.2 (Kd.S_reads' S15.out).2.1 F6.out) ?_; rintro e w16 ⟨rfl, hb⟩; have ST16 := amk (MPst_below ST15.out hb); clear hb)))
    clear hq0 hq1 hp0 hp1 hw0 hw1 hx0 hx1 hy0 hy1 hg0 hg1
    have hq0 := (two_cells ST16.out.2.1).1
    have hq1 := (two_cells ST16.out.2.1).2.1
    have hp0 := (two_cells ST16.out.2.2.1).1
    have hp1 := (two_cells ST16.out.2.2.1).2.1
    have hw0 := (two_cells ST16.out.2.2.2.1).1
    have hw1 := (two_cells ST16.out.2.2.2.1).2.1
    have hx0 := (two_cells ST16.out.2.2.2.2.2.1).1
    have hx1 := (two_cells ST16.out.2.2.2.2.2.1).2.1
    have hy0 := (two_cells ST16.out.2.2.2.2.2.2.2.1).1
    have hy1 := (two_cells ST16.out.2.2.2.2.2.2.2.1).2.1
    have hg0 := (two_cells ST16.out.2.2.2.2.2.2.2.2.2.1).1
    have hg1 := (two_cells ST16.out.2.2.2.2.2.2.2.2.2.1).2.1;
    go_wp2_with (go_at_call_of 27 (Value.agg #[Value.int .i64 n0, Value.slice A9 L0.length c9]); refine Calls.mono (laws_markPins.calls k (fun j => W8.heap.size ≤ j ∧ j < w9.heap.size) n0 _ _ _ L0 1 m1 X' w _ ST16.out.1 (fun j hj => by have := ST16.out.2.2.2.2.2.2.2.2.2.2.2; omega) ST16.out.2.2.2.2.2.2.1 E7.out) ?_; rintro e w17 ⟨rfl, hs, hb, hk⟩; have ST17 := amk (MPst_markX ST16.out hk hb hs); clear hq0 hq1 hp0 hp1 hw0 hw1 hx0 hx1 hy0 hy1 hg0 hg1; have hq0 := (two_cells ST17.out.2.1).1; have hq1 := (two_cells ST17.out.2.1).2.1; have hp0 := (two_cells ST17.out.2.2.1).1; have hp1 := (two_cells ST17.out.2.2.1).2.1; have hw0 := (two_cells ST17.out.2.2.2.1).1; have hw1 := (two_cells ST17.out.2.2.2.1).2.1; have hx0 := (two_cells ST17.out.2.2.2.2.2.1).1; have hx1 := (two_cells ST17.out.2.2.2.2.2.1).2.1; have hy0 := (two_cells ST17.out.2.2.2.2.2.2.2.1).1; have hy1 := (two_cells ST17.out.2.2.2.2.2.2.2.1).2.1; have hg0 := (two_cells ST17.out.2.2.2.2.2.2.2.2.2.1).1; have hg1 := (two_cells ST17.out.2.2.2.2.2.2.2.2.2.1).2.1; clear hs hb hk)
    go_wp2_with (go_at_call_of 27 (Value.agg #[Value.int .i64 n1, Value.slice A10 L1.length c10]); refine Calls.mono (laws_markPins.calls k (fun j => w9.heap.size + 1 ≤ j ∧ j < w10.heap.size) n1 _ _ _ L1 m1 m2 Y' w _ ST17.out.1 (fun j hj => by have := ST17.out.2.2.2.2.2.2.2.2.2.2.2; omega) ST17.out.2.2.2.2.2.2.2.2.1 F7.out) ?_; rintro e w18 ⟨rfl, hs, hb, hk⟩; have ST18 := amk (MPst_markY ST17.out hk hb hs); clear hq0 hq1 hp0 hp1 hw0 hw1 hx0 hx1 hy0 hy1 hg0 hg1; have hq0 := (two_cells ST18.out.2.1).1; have hq1 := (two_cells ST18.out.2.1).2.1; have hp0 := (two_cells ST18.out.2.2.1).1; have hp1 := (two_cells ST18.out.2.2.1).2.1; have hw0 := (two_cells ST18.out.2.2.2.1).1; have hw1 := (two_cells ST18.out.2.2.2.1).2.1; have hx0 := (two_cells ST18.out.2.2.2.2.2.1).1; have hx1 := (two_cells ST18.out.2.2.2.2.2.1).2.1; have hy0 := (two_cells ST18.out.2.2.2.2.2.2.2.1).1; have hy1 := (two_cells ST18.out.2.2.2.2.2.2.2.1).2.1; have hg0 := (two_cells ST18.out.2.2.2.2.2.2.2.2.2.1).1; have hg1 := (two_cells ST18.out.2.2.2.2.2.2.2.2.2.1).2.1; clear hs hb hk)
    go_wp2_with (go_at_call 24; refine Calls.mono (laws_eqPins.calls k rn _ _ R rn _ _ R true _ (Kd.S_reads' ST18.out.2.2.2.2.2.2.2.2.2.2.1).2.2 (Kd.S_reads' ST18.out.2.2.2.2.2.2.2.2.2.2.1).2.1 (Kd.S_reads' ST18.out.2.2.2.2.1).2.2 (Kd.S_reads' ST18.out.2.2.2.2.1).2.1 E5.out) ?_; rintro e w19 ⟨rfl, hb⟩; have ST19 := amk (MPst_below ST18.out hb); clear hq0 hq1 hp0 hp1 hw0 hw1 hx0 hx1 hy0 hy1 hg0 hg1; have hq0 := (two_cells ST19.out.2.1).1; have hq1 := (two_cells ST19.out.2.1).2.1; have hp0 := (two_cells ST19.out.2.2.1).1; have hp1 := (two_cells ST19.out.2.2.1).2.1; have hw0 := (two_cells ST19.out.2.2.2.1).1; have hw1 := (two_cells ST19.out.2.2.2.1).2.1; have hx0 := (two_cells ST19.out.2.2.2.2.2.1).1; have hx1 := (two_cells ST19.out.2.2.2.2.2.1).2.1; have hy0 := (two_cells ST19.out.2.2.2.2.2.2.2.1).1; have hy1 := (two_cells ST19.out.2.2.2.2.2.2.2.1).2.1; have hg0 := (two_cells ST19.out.2.2.2.2.2.2.2.2.2.1).1; have hg1 := (two_cells ST19.out.2.2.2.2.2.2.2.2.2.1).2.1; clear hb)
    go_wp2_with (go_at_call_of 27 (Value.agg #[Value.int .i64 rn, Value.slice A11 R.length c11]); refine Calls.mono (laws_markPins.calls k (fun j => w10.heap.size + 1 ≤ j ∧ j < w11.heap.size) rn _ _ _ R 1 m R' w _ ST19.out.1 (fun j hj => by have := ST19.out.2.2.2.2.2.2.2.2.2.2.2; omega) ST19.out.2.2.2.2.2.2.2.2.2.2.1 E8.out) ?_; rintro e w20 ⟨rfl, hs, hb, hk⟩; have ST20 := amk (MPst_markG ST19.out hk hb hs); clear hq0 hq1 hp0 hp1 hw0 hw1 hx0 hx1 hy0 hy1 hg0 hg1; have hq0 := (two_cells ST20.out.2.1).1; have hq1 := (two_cells ST20.out.2.1).2.1; have hp0 := (two_cells ST20.out.2.2.1).1; have hp1 := (two_cells ST20.out.2.2.1).2.1; have hw0 := (two_cells ST20.out.2.2.2.1).1; have hw1 := (two_cells ST20.out.2.2.2.1).2.1; have hx0 := (two_cells ST20.out.2.2.2.2.2.1).1; have hx1 := (two_cells ST20.out.2.2.2.2.2.1).2.1; have hy0 := (two_cells ST20.out.2.2.2.2.2.2.2.1).1; have hy1 := (two_cells ST20.out.2.2.2.2.2.2.2.1).2.1; have hg0 := (two_cells ST20.out.2.2.2.2.2.2.2.2.2.1).1; have hg1 := (two_cells ST20.out.2.2.2.2.2.2.2.2.2.1).2.1; clear hs hb hk)
    have hlen : R'.length = R.length := (Kd.S_reads' ST20.out.2.2.2.2.2.2.2.2.2.2.1).1.symm
    have HH : ∀ W, Kd.C (Kd.slice 3 (Kd.int .i64)) W A11 R'.length R' → Calls Try.prog 28 #[.agg #[.int .i64 rn, .slice A11 R.length c11], .int .i64 1] W fun e w' => e = .returned (.int .i64 m) ∧ Below W.heap.size W w' := fun W hC => by
      have := laws_heldPins.calls k rn A11 c11 R' 1 m W hC (by have := (Kd.S_reads' ST20.out.2.2.2.2.2.2.2.2.2.2.1).2.1; omega) E9.out
      rw [hlen] at this
      exact this
    have HHA := amk HH
    have HLN := amk hlen
    clear HH hlen
    go_wp2_with (go_at_call 28; refine Calls.mono (HHA.out _ (Kd.S_reads' ST20.out.2.2.2.2.2.2.2.2.2.2.1).2.2) ?_; rintro e w26 ⟨rfl, hb⟩; have ST26 := amk (MPst_below ST20.out hb); clear hq0 hq1 hp0 hp1 hw0 hw1 hx0 hx1 hy0 hy1 hg0 hg1; have hq0 := (two_cells ST26.out.2.1).1; have hq1 := (two_cells ST26.out.2.1).2.1; have hp0 := (two_cells ST26.out.2.2.1).1; have hp1 := (two_cells ST26.out.2.2.1).2.1; have hw0 := (two_cells ST26.out.2.2.2.1).1; have hw1 := (two_cells ST26.out.2.2.2.1).2.1; have hx0 := (two_cells ST26.out.2.2.2.2.2.1).1; have hx1 := (two_cells ST26.out.2.2.2.2.2.1).2.1; have hy0 := (two_cells ST26.out.2.2.2.2.2.2.2.1).1; have hy1 := (two_cells ST26.out.2.2.2.2.2.2.2.1).2.1; have hg0 := (two_cells ST26.out.2.2.2.2.2.2.2.2.2.1).1; have hg1 := (two_cells ST26.out.2.2.2.2.2.2.2.2.2.1).2.1; clear hb)
    have NH26 : Aside0 (MQ w26 w n0 A0 L0.length c0 n1 A1 L1.length c1 w26) := ⟨⟨MPst_R ST26.out, Below.refl _ _⟩⟩
    have NH26d := amk (MQ_drew NH26.out)
    apply cut8 (fun W b A27 c27 A28 c28 A29 c29 => (∃ aw ew, MV w n0 A0 L0.length c0 n1 A1 L1.length c1 rn R A29 c29 b aw ew W.heap.size W) ∧ Below w26.heap.size w26 W)
    case main =>
      intro KEY2
      go_region_held3 (fun w' => w'.cell? ⟨w.heap.size, 0, none⟩ = some (.int .i64 n0) ∧ w'.cell? ⟨w.heap.size, 1, none⟩ = some (.slice A0 L0.length c0) ∧ w'.cell? ⟨w.heap.size + 1, 0, none⟩ = some (.int .i64 n1) ∧ w'.cell? ⟨w.heap.size + 1, 1, none⟩ = some (.slice A1 L1.length c1)) (first | exact MQ_cells NH26d.out | exact MQ_cells NH29.out | exact MQ_cells NH28.out | exact MQ_cells NH27.out | exact MQ_cells (MQ_alloc NH29.out _) | exact MQ_cells (MQ_alloc NH28.out _) | exact MQ_cells (MQ_alloc NH27.out _) | exact MQ_cells (MQ_alloc NH26d.out _) | exact MQ_sts NH29.out (by have q3 := NH26.out.1.2.2; have q4 := NH27.out; have q5 := NH28.out; have z3 := (two_cells NH26.out.1.2.2).2.2.2.2; have z4 := (two_cells NH27.out.1.2.2).2.2.2.2; have z5 := (two_cells NH28.out.1.2.2).2.2.2.2; first | (show w.heap.size + 1 < w26.heap.size; omega) | (show w.heap.size + 1 < w27.heap.size; omega) | (show w.heap.size + 1 < w28.heap.size; omega)) (by have q3 := NH26.out.1.2.2; have q4 := NH27.out; have q5 := NH28.out; have z3 := (two_cells NH26.out.1.2.2).2.2.2.2; have z4 := (two_cells NH27.out.1.2.2).2.2.2.2; have z5 := (two_cells NH28.out.1.2.2).2.2.2.2; first | (show w.heap.size + 1 < w26.heap.size; omega) | (show w.heap.size + 1 < w27.heap.size; omega) | (show w.heap.size + 1 < w28.heap.size; omega)) | go_keep) ((first | (go_at_call_of 22 (Value.agg #[Value.int .i64 n0, Value.slice A0 L0.length c0]); refine Calls.mono (laws_toPins.calls k n0 _ _ L0 n0 L0 _ (MQ_C w26 w n0 A0 L0.length c0 n1 A1 L1.length c1 HR0.out (by repeat (first | with_reducible refine MQ_alloc ?_ _ | with_reducible refine MQ_drew ?_ | exact NH26.out))) HC0.out E2.out) ?_; rintro e w27 ⟨v27, rfl, hs, hb⟩; have NH27 := amk (MQ_belowE w26 w n0 A0 L0.length c0 n1 A1 L1.length c1 (by repeat (first | with_reducible refine MQ_alloc ?_ _ | with_reducible refine MQ_drew ?_ | exact NH26.out)) hb); (first | (have AL27 := amk (AL_below (AL_new _) hb)) | (have AL27 := amk (AL_below (AL_drew (AL_new _)) hb)) | skip);  obtain ⟨A27, c27, rfl⟩ := Kd.S_slice hs; have S27 := amk hs;  clear hs hb) | (go_at_call_of 22 (Value.agg #[Value.int .i64 n1, Value.slice A1 L1.length c1]); refine Calls.mono (laws_toPins.calls k n1 _ _ L1 n1 L1 _ (MQ_C w26 w n0 A0 L0.length c0 n1 A1 L1.length c1 HR1.out (by repeat (first | with_reducible refine MQ_alloc ?_ _ | with_reducible refine MQ_drew ?_ | exact NH27.out))) HC1.out F2.out) ?_; rintro e w28 ⟨v28, rfl, hs, hb⟩; have NH28 := amk (MQ_belowE w26 w n0 A0 L0.length c0 n1 A1 L1.length c1 (by repeat (first | with_reducible refine MQ_alloc ?_ _ | with_reducible refine MQ_drew ?_ | exact NH27.out)) hb); (first | (have AL28 := amk (AL_below (AL_new _) hb)) | (have AL28 := amk (AL_below (AL_drew (AL_new _)) hb)) | (have AL28 := amk (AL_below AL27.out hb)) | skip);  obtain ⟨A28, c28, rfl⟩ := Kd.S_slice hs; have S28 := amk hs; (first | (with_reducible have S2728 := amk (Kd.S_below S27.out hb)) | (with_reducible have S2728 := amk (Kd.S_below (Kd.S_alloc S27.out _) hb))); clear hs hb) | (go_at_call 26; refine Calls.mono (impl_MasterPins.calls k n0 _ _ L0 n1 _ _ L1 rn R ok _ (Kd.C_below (Kd.S_reads' S2728.out).2.2 (by repeat (first | with_reducible exact Below.refl _ _ | with_reducible refine (ba_ ?_ _)))) (Kd.S_reads' S2728.out).2.1 (Kd.C_below (Kd.S_reads' S28.out).2.2 (by repeat (first | with_reducible exact Below.refl _ _ | with_reducible refine (ba_ ?_ _)))) (Kd.S_reads' S28.out).2.1 E4.out) ?_; rintro e w29 ⟨v29, rfl, hs, hb⟩; have NH29 := amk (MQ_belowE w26 w n0 A0 L0.length c0 n1 A1 L1.length c1 (by repeat (first | with_reducible refine MQ_alloc ?_ _ | with_reducible refine MQ_drew ?_ | exact NH28.out)) hb); (first | (have AL29 := amk (AL_below (AL_new _) hb)) | (have AL29 := amk (AL_below (AL_drew (AL_new _)) hb)) | (have AL29 := amk (AL_below AL28.out hb)) | skip);  (first | (have hz0 := (two_cells AL29.out).1; have hz1 := (two_cells AL29.out).2.1; have hz2 := (two_cells AL29.out).2.2.1; have hz3 := (two_cells AL29.out).2.2.2.1) | skip); obtain ⟨A29, c29, rfl⟩ := Kd.S_slice hs; have S29 := amk (S_ivM hs); have Z29 := amk hb.size; clear hs hb)))
      · have FIN := MV_last (rn := rn) NH29.out.1 S29.out (two_cells NH28.out.1.2.2).2.2.2.2 Z29.out
        have BEL := NH29.out.2.alloc NH29.out.2.size (.cells #[.int .i64 rn, .slice A29 R.length c29] 41 (0, 0))
        generalize w29.alloc _ = W30 at FIN BEL ⊢
        generalize w29.heap.size = b30 at FIN ⊢
        exact KEY2.out W30 b30 A27 c27 A28 c28 A29 c29 ⟨⟨_, _, FIN⟩, BEL⟩
      · exact KEY2.out _ _ A27 c27 A28 c28 A29 c29 ⟨⟨_, _, MV_set NH29.out.1 AL29.out S29.out (two_cells NH28.out.1.2.2).2.2.2.2 (by simp) Z29.out⟩, MQ_set NH29.out (by have := NH26.out.2.size; have := NH27.out.2.size; have := NH28.out.2.size; omega) _ _⟩
      · exact KEY2.out _ _ A27 c27 A28 c28 A29 c29 ⟨⟨_, _, MV_set NH29.out.1 AL29.out S29.out (two_cells NH27.out.1.2.2).2.2.2.2 (two_cells AL28.out).2.2.2.2 Z29.out⟩, MQ_set NH29.out (by have := NH26.out.2.size; have := NH27.out.2.size; have := NH28.out.2.size; omega) _ _⟩
      · exact KEY2.out _ _ A27 c27 A28 c28 A29 c29 ⟨⟨_, _, MV_set NH29.out.1 AL29.out S29.out (two_cells NH26.out.1.2.2).2.2.2.2 (two_cells AL28.out).2.2.2.2 Z29.out⟩, MQ_set NH29.out (by have := NH26.out.2.size; have := NH27.out.2.size; have := NH28.out.2.size; omega) _ _⟩
    case key =>
      intro W30 b30 A27 c27 A28 c28 A29 c29 hF
      obtain ⟨⟨ah, eh, hT⟩, hb⟩ := hF
      have ST30 := amk (MPst_below ST26.out hb)
      have H30 := amk hT
      clear hT hb
      clear hq0 hq1 hp0 hp1 hw0 hw1 hx0 hx1 hy0 hy1 hg0 hg1
      have hq0 := (two_cells ST30.out.2.1).1
      have hq1 := (two_cells ST30.out.2.1).2.1
      have hp0 := (two_cells ST30.out.2.2.1).1
      have hp1 := (two_cells ST30.out.2.2.1).2.1
      have hw0 := (two_cells ST30.out.2.2.2.1).1
      have hw1 := (two_cells ST30.out.2.2.2.1).2.1
      have hx0 := (two_cells ST30.out.2.2.2.2.2.1).1
      have hx1 := (two_cells ST30.out.2.2.2.2.2.1).2.1
      have hy0 := (two_cells ST30.out.2.2.2.2.2.2.2.1).1
      have hy1 := (two_cells ST30.out.2.2.2.2.2.2.2.1).2.1
      have hg0 := (two_cells ST30.out.2.2.2.2.2.2.2.2.2.1).1
      have hg1 := (two_cells ST30.out.2.2.2.2.2.2.2.2.2.1).2.1
      have hh0 := (two_cells H30.out.2.1).1
      have hh1 := (two_cells H30.out.2.1).2.1;
      go_wp2_with (go_at_call 24; refine Calls.mono (laws_eqPins.calls k rn _ _ R rn _ _ R true _ (Kd.S_reads' H30.out.2.2.1).2.2 (Kd.S_reads' H30.out.2.2.1).2.1 (Kd.S_reads' ST30.out.2.2.2.2.1).2.2 (Kd.S_reads' ST30.out.2.2.2.2.1).2.1 E5.out) ?_; rintro e w32 ⟨rfl, hb⟩; have ST32 := amk (MPst_below ST30.out hb); clear hq0 hq1 hp0 hp1 hw0 hw1 hx0 hx1 hy0 hy1 hg0 hg1 hh0 hh1; have hq0 := (two_cells ST32.out.2.1).1; have hq1 := (two_cells ST32.out.2.1).2.1; have hp0 := (two_cells ST32.out.2.2.1).1; have hp1 := (two_cells ST32.out.2.2.1).2.1; have hw0 := (two_cells ST32.out.2.2.2.1).1; have hw1 := (two_cells ST32.out.2.2.2.1).2.1; have hx0 := (two_cells ST32.out.2.2.2.2.2.1).1; have hx1 := (two_cells ST32.out.2.2.2.2.2.1).2.1; have hy0 := (two_cells ST32.out.2.2.2.2.2.2.2.1).1; have hy1 := (two_cells ST32.out.2.2.2.2.2.2.2.1).2.1; have hg0 := (two_cells ST32.out.2.2.2.2.2.2.2.2.2.1).1; have hg1 := (two_cells ST32.out.2.2.2.2.2.2.2.2.2.1).2.1; clear hb)
      go_wp2_with (go_at_call 28; refine Calls.mono (HHA.out _ (Kd.S_reads' ST32.out.2.2.2.2.2.2.2.2.2.2.1).2.2) ?_; rintro e w35 ⟨rfl, hb⟩; have ST35 := amk (MPst_below ST32.out hb); clear hq0 hq1 hp0 hp1 hw0 hw1 hx0 hx1 hy0 hy1 hg0 hg1; have hq0 := (two_cells ST35.out.2.1).1; have hq1 := (two_cells ST35.out.2.1).2.1; have hp0 := (two_cells ST35.out.2.2.1).1; have hp1 := (two_cells ST35.out.2.2.1).2.1; have hw0 := (two_cells ST35.out.2.2.2.1).1; have hw1 := (two_cells ST35.out.2.2.2.1).2.1; have hx0 := (two_cells ST35.out.2.2.2.2.2.1).1; have hx1 := (two_cells ST35.out.2.2.2.2.2.1).2.1; have hy0 := (two_cells ST35.out.2.2.2.2.2.2.2.1).1; have hy1 := (two_cells ST35.out.2.2.2.2.2.2.2.1).2.1; have hg0 := (two_cells ST35.out.2.2.2.2.2.2.2.2.2.1).1; have hg1 := (two_cells ST35.out.2.2.2.2.2.2.2.2.2.1).2.1; clear hb)
      go_ret
      exact ⟨rfl, ST35.out.1⟩
/-! Joined pins, over lists alone. -/
def rngFrom (s m : Nat) : List Int := (List.range' s m).map fun (d : Nat) => (d : Int)
theorem rngFrom_zero (s : Nat) : rngFrom s 0 = [] := rfl
theorem rngFrom_len (s m : Nat) : (rngFrom s m).length = m := by unfold rngFrom; simp
theorem filter_len_le {α : Type} (p : α → Bool) (l : List α) : (l.filter p).length ≤ l.length := List.length_filter_le p l
/-- A depth of both rows, or of one. -/
def joinT (b : Bool) (r s : List Int) (d : Int) : Bool := (r.contains d && s.contains d) || (!b && (r.contains d || s.contains d))
def joinRows (b : Bool) (n : Nat) (x y : List (List Int)) : List (List Int) := (List.range' 0 x.length).map fun i => (rngFrom 0 n).filter (joinT b (x.getD i []) (y.getD i []))
def rowsOf (n m : Nat) (f : Nat → Int → Bool) : List (List Int) := (List.range' 0 m).map fun i => (rngFrom 0 n).filter (f i)
theorem rowsOf_len (n m : Nat) (f : Nat → Int → Bool) : (rowsOf n m f).length = m := by unfold rowsOf; simp
theorem rowsOf_congr {n m : Nat} {f g : Nat → Int → Bool} (h : ∀ i < m, ∀ d ∈ rngFrom 0 n, f i d = g i d) : rowsOf n m f = rowsOf n m g := by
  unfold rowsOf
  apply List.map_congr_left
  intro i hi
  rw [List.mem_range'_1] at hi
  exact List.filter_congr (fun d hd => h i (by omega) d hd)
theorem joinRows_is (b : Bool) (n : Nat) (x y : List (List Int)) : joinRows b n x y = rowsOf n x.length fun i => joinT b (x.getD i []) (y.getD i []) := rfl
/-- Whether a depth is in all of a list's pins at a place, or in one of them. -/
def inB (b : Bool) (l : List S41) (i : Nat) (d : Int) : Bool := if b then l.all fun p => (p.f1.getD i []).contains d else l.any fun p => (p.f1.getD i []).contains d
theorem joinT_in (b : Bool) (r s : List Int) (d : Int) : joinT b r s d = if b then r.contains d && s.contains d else r.contains d || s.contains d := by
  unfold joinT
  cases b <;> cases r.contains d <;> cases s.contains d <;> rfl
theorem inB_count_any (l : List S41) (i : Nat) (d : Int) : decide (1 ≤ l.countP fun p => (p.f1.getD i []).contains d) = inB false l i d := by
  unfold inB
  rw [if_neg (by simp), Bool.eq_iff_iff, decide_eq_true_eq, List.any_eq_true]
  rw [show (1 ≤ l.countP fun p => (p.f1.getD i []).contains d) ↔ 0 < l.countP (fun p => (p.f1.getD i []).contains d) from Iff.rfl, List.countP_pos_iff]
/-! Locks: which numbers are one, how many codes there are. -/
/-! Numbers told by digits. -/
/-! The places and the digits that two codes share. -/
/-! Codes of a lock as texts, their digits, what clues tell of them. -/
/-! ### impl_IsLock: function 155 -/
/-! ### impl_power: function 186 -/
/-! ### impl_Lock_count: function 176 -/
/-! ### impl_isSmall: function 154 -/
/-! impl's functions on locks: what they come to. -/
/-! ### spec_whCount: function 175 -/
/-! ### spec_whGood: function 174 -/
/-! spec's functions on locks and clues: what they come to. -/
/-! ### impl_Lock_isText: function 177 -/
/-! ### impl_Lock_isCode: function 156 -/
/-! ### impl_has: function 122 -/
/-! ### spec_whCode: function 152 -/
/-! Which texts are codes: both sides. -/
/-! Texts compared by '<=', '>', '>=', told by '<' alone. -/
theorem less_le : ∀ x y : List UInt8, (Op.bytesLess x y || x == y) = !(Op.bytesLess y x)
  | [], [] => rfl
  | [], _ :: _ => rfl
  | _ :: _, [] => rfl
  | a :: x, b :: y => by
    have ih := less_le x y
    simp only [Op.bytesLess, List.cons_beq_cons]
    by_cases h1 : a < b
    · have h2 : ¬ b < a := fun h => absurd h1 (UInt8.lt_asymm h)
      have h3 : (b == a) = false := beq_eq_false_iff_ne.mpr (fun e => by subst e; exact UInt8.lt_irrefl _ h1)
      simp [h1, h2, h3]
    · by_cases h2 : b < a
      · have h3 : (a == b) = false := beq_eq_false_iff_ne.mpr (fun e => by subst e; exact UInt8.lt_irrefl _ h2)
        simp [h1, h2, h3]
      · have h3 : a = b := UInt8.le_antisymm (UInt8.not_lt.mp h2) (UInt8.not_lt.mp h1)
        subst h3
        simp only [h1, decide_false, Bool.false_or, BEq.rfl, Bool.true_and]
        exact ih
theorem binOp_leq_n (t : TypeId) (a b : ByteArray) : binOp .leq t (.string a) (.string b) = pure (.bool !(Op.bytesLess b.toList a.toList)) := by
  rw [← less_le]; simp [binOp, Op.stringOp]
theorem binOp_gtr_n (t : TypeId) (a b : ByteArray) : binOp .gtr t (.string a) (.string b) = pure (.bool (Op.bytesLess b.toList a.toList)) := by
  rw [show Op.bytesLess b.toList a.toList = !(Op.bytesLess a.toList b.toList || a.toList == b.toList) by rw [less_le]; simp]; simp [binOp, Op.stringOp]
theorem binOp_geq_n (t : TypeId) (a b : ByteArray) : binOp .geq t (.string a) (.string b) = pure (.bool !(Op.bytesLess a.toList b.toList)) := by simp [binOp, Op.stringOp]
section
attribute [local go_sem high] binOp_leq_n binOp_gtr_n binOp_geq_n
/-! ### impl_areDead: function 121 -/
end
/-! ### slices_Index_string_string: function 158 -/
/-! ### slices_Contains_string_string: function 125 -/
section
attribute [local go_sem high] binOp_leq_n binOp_gtr_n binOp_geq_n
/-! ### spec_deList: function 151 -/
end
/-! ### spec_l1HasS: function 153 -/
/-! Dead codes: what is asked of them. -/
theorem wr_big {c : Nat} (h : c ≤ 9223372036854775806) : wrap64 ((c : Int) + 1) = ((c + 1 : Nat) : Int) := w64 (by omega) (by omega)
/-! ### laws_eqPinsS: function 38 -/
/-! ### laws_szPinsS: function 34 -/
/-! ### laws_toPinsS: function 36 -/
/-! The statements' own helpers on rows and pins: what they come to. -/
theorem rd_row {xs : List (List Int)} {i : Nat} (h : i < xs.length) : rd_L5 xs (i : Nat) = xs[i] := by unfold rd_L5; simp [List.getD, h]
theorem rd_pins {xs : List S41} {i : Nat} (h : i < xs.length) : rd_T41 xs (i : Nat) = xs[i] := by unfold rd_T41; simp [List.getD, h]
theorem rd_int {xs : List Int} {i : Nat} (h : i < xs.length) : rd xs (i : Nat) = xs[i] := by rw [rd_at (by simpa using h)]; simp
/-- The lengths are numbers of Go. -/
def RowsV (x : List (List Int)) : Prop := x.length ≤ 9223372036854775807 ∧ ∀ r ∈ x, r.length ≤ 9223372036854775807
/-- No longer than a million. -/
def RowsM (x : List (List Int)) : Prop := x.length ≤ 1048576 ∧ ∀ r ∈ x, r.length ≤ 1048576
theorem RowsM.v {x : List (List Int)} (h : RowsM x) : RowsV x := ⟨by have := h.1; omega, fun r hr => by have := h.2 r hr; omega⟩
theorem laws_szIntS.is (l : List Int) (a : Int) (h0 : 0 ≤ a) (h1 : a ≤ 1048576) (hl : l.length ≤ 9223372036854775807) : laws_szIntS.f l a = some (if (l.length : Int) ≤ a then a - l.length else -1) := by
  unfold laws_szIntS.f
  rw [w64 (x := a - (l.length : Int)) (by omega) (by omega)]
  by_cases h : (l.length : Int) ≤ a
  · rw [if_neg (by omega), if_pos h]
  · rw [if_pos (by omega), if_neg h]
theorem laws_szIntSS.lev (l : List (List Int)) (hl : RowsV l) : ∀ (m i : Nat) (a : Int), i + m = l.length → 0 ≤ a → a ≤ 1048576 → ∃ r, r ≤ a ∧ Ev (fun k => laws_szIntSS.l0 k l a (i : Nat)) r ∧ (0 ≤ r → ∀ x ∈ l.drop i, (x.length : Int) ≤ 1048576) := by
  have hl1 := hl.1
  intro m
  induction m with
  | zero =>
    intro i a hi h0 h1
    refine ⟨a, Int.le_refl _, Ev.step (fun k => rfl) (Ev.no (by omega) (Ev.now _)), fun _ x hx => ?_⟩
    rw [List.drop_eq_nil_of_le (by omega)] at hx
    simp at hx
  | succ m ih =>
    intro i a hi h0 h1
    have hlt : i < l.length := by omega
    have hx := hl.2 l[i] (List.getElem_mem hlt)
    by_cases h : (l[i].length : Int) ≤ a
    · obtain ⟨r, hr, he, hf⟩ := ih (i + 1) (a - l[i].length) (by omega) (by omega) (by omega)
      refine ⟨r, by omega, Ev.step (fun k => rfl) (Ev.yes (by omega) (Ev.yes (by omega) ?_)), fun hr0 x hx => ?_⟩
      · rw [rd_row hlt]
        refine Ev.bindc (laws_szIntS.is _ _ h0 h1 hx) ?_
        rw [if_pos h, w64 (x := (i : Int) + 1) (by omega) (by omega)]
        exact Ev.no (by omega) he
      · rw [List.drop_eq_getElem_cons hlt] at hx
        rcases List.mem_cons.mp hx with rfl | hx
        · omega
        · exact hf hr0 x hx
    · refine ⟨-1, by omega, Ev.step (fun k => rfl) (Ev.yes (by omega) (Ev.yes (by omega) ?_)), fun hr0 => by omega⟩
      rw [rd_row hlt]
      refine Ev.bindc (laws_szIntS.is _ _ h0 h1 hx) ?_
      rw [if_neg h]
      exact Ev.yes (by omega) (Ev.now _)
theorem laws_szIntSS.ev (l : List (List Int)) (hl : RowsV l) (a : Int) (h0 : 0 ≤ a) (h1 : a ≤ 1048576) : ∃ r, r ≤ a ∧ Ev (fun k => laws_szIntSS.f k l a) r ∧ (0 ≤ r → RowsM l) := by
  have hl1 := hl.1
  unfold laws_szIntSS.f
  rw [w64 (x := a - (l.length : Int)) (by omega) (by omega)]
  by_cases h : (l.length : Int) ≤ a
  · obtain ⟨r, hr, he, hf⟩ := laws_szIntSS.lev l hl l.length 0 (a - l.length) (by omega) (by omega) (by omega)
    refine ⟨r, by omega, Ev.no (by omega) he, fun hr0 => ⟨by omega, fun x hx => ?_⟩⟩
    have := hf hr0 x (by simpa using hx)
    omega
  · exact ⟨-1, by omega, Ev.yes (by omega) (Ev.now _), fun hr0 => by omega⟩
theorem laws_szPins.ev (n : Int) (l : List (List Int)) (hl : RowsV l) (a : Int) (h0 : 0 ≤ a) (h1 : a ≤ 1048576) : ∃ r, r ≤ a ∧ Ev (fun k => laws_szPins.f k n l a) r ∧ (0 ≤ r → RowsM l) := by
  obtain ⟨r, hr, he, hf⟩ := laws_szIntSS.ev l hl a h0 h1
  by_cases h : 0 ≤ r
  · exact ⟨r, hr, Ev.bind he (Ev.no (by omega) (Ev.now _)), hf⟩
  · exact ⟨-1, by omega, Ev.bind he (Ev.yes (by omega) (Ev.now _)), fun hr0 => by omega⟩
theorem laws_toIntS.lev (l : List Int) (hl : l.length ≤ 1048576) : ∀ (m i : Nat), i + m = l.length → Ev (fun k => laws_toIntS.l0 k l ((l.take i).map id ++ List.replicate (l.length - i) 0) (i : Nat)) l := by
  intro m
  induction m with
  | zero => intro i hi; exact Ev.step (fun k => rfl) (Ev.no (by omega) (Ev.id (by rw [show i = l.length by omega]; simp)))
  | succ m ih =>
    intro i hi
    have hlt : i < l.length := by omega
    refine Ev.step (fun k => rfl) (Ev.yes (by omega) (Ev.yes (by omega) (Ev.yes (by simp; omega) ?_)))
    rw [rd_int hlt, Int.toNat_natCast]
    have this : ((l.take i).map id ++ List.replicate (l.length - i) 0).set i l[i] = (l.take (i + 1)).map id ++ List.replicate (l.length - (i + 1)) 0 := fill_step id l 0 i hlt
    rw [this, w64 (x := (i : Int) + 1) (by omega) (by omega)]
    exact ih (i + 1) (by omega)
theorem laws_toIntS.ev (l : List Int) (hl : l.length ≤ 1048576) : Ev (fun k => laws_toIntS.f k l) l := by
  unfold laws_toIntS.f
  refine Ev.yes (by omega) (Ev.yes (by simp; omega) ?_)
  have := laws_toIntS.lev l hl l.length 0 (by omega)
  simpa using this
theorem laws_toIntSS.lev (l : List (List Int)) (hl : RowsM l) : ∀ (m i : Nat), i + m = l.length → Ev (fun k => laws_toIntSS.l0 k l ((l.take i).map id ++ List.replicate (l.length - i) []) (i : Nat)) l := by
  have hl1 := hl.1
  intro m
  induction m with
  | zero => intro i hi; exact Ev.step (fun k => rfl) (Ev.no (by omega) (Ev.id (by rw [show i = l.length by omega]; simp)))
  | succ m ih =>
    intro i hi
    have hlt : i < l.length := by omega
    refine Ev.step (fun k => rfl) (Ev.yes (by omega) (Ev.yes (by omega) ?_))
    rw [rd_row hlt]
    refine Ev.bind (laws_toIntS.ev _ (hl.2 _ (List.getElem_mem hlt))) (Ev.yes (by simp; omega) ?_)
    rw [Int.toNat_natCast]
    have this : ((l.take i).map id ++ List.replicate (l.length - i) []).set i l[i] = (l.take (i + 1)).map id ++ List.replicate (l.length - (i + 1)) [] := fill_step id l [] i hlt
    rw [this, w64 (x := (i : Int) + 1) (by omega) (by omega)]
    exact ih (i + 1) (by omega)
theorem laws_toIntSS.ev (l : List (List Int)) (hl : RowsM l) : Ev (fun k => laws_toIntSS.f k l) l := by
  have hl1 := hl.1
  unfold laws_toIntSS.f
  refine Ev.yes (by omega) (Ev.yes (by simp; omega) ?_)
  have := laws_toIntSS.lev l hl l.length 0 (by omega)
  simpa using this
theorem laws_toPins.ev (n : Int) (l : List (List Int)) (hl : RowsM l) : Ev (fun k => laws_toPins.f k n l) (n, l) := by
  unfold laws_toPins.f
  exact Ev.bind (laws_toIntSS.ev l hl) (Ev.now _)
theorem laws_eqIntS.levB (l : List Int) (hn : l.length ≤ 9223372036854775807) : ∀ (m i : Nat), i + m = l.length → Ev (fun k => laws_eqIntS.l0 k l l (i : Nat)) true := by
  intro m
  induction m with
  | zero => intro i hi; exact Ev.step (fun k => rfl) (Ev.no (by omega) (Ev.now _))
  | succ m ih =>
    intro i hi
    refine Ev.step (fun k => rfl) (Ev.yes (by omega) (Ev.yes (by omega) (Ev.yes (by omega) (Ev.yes rfl ?_))))
    rw [w64 (x := (i : Int) + 1) (by omega) (by omega)]
    exact ih (i + 1) (by omega)
theorem laws_eqIntS.evB (l : List Int) (hn : l.length ≤ 9223372036854775807) : Ev (fun k => laws_eqIntS.f k l l) true := by
  unfold laws_eqIntS.f
  exact Ev.yes rfl (laws_eqIntS.levB l hn l.length 0 (by omega))
theorem laws_eqIntSS.lev (l : List (List Int)) (hl : RowsV l) : ∀ (m i : Nat), i + m = l.length → Ev (fun k => laws_eqIntSS.l0 k l l (i : Nat)) true := by
  have hl1 := hl.1
  intro m
  induction m with
  | zero => intro i hi; exact Ev.step (fun k => rfl) (Ev.no (by omega) (Ev.now _))
  | succ m ih =>
    intro i hi
    have hlt : i < l.length := by omega
    refine Ev.step (fun k => rfl) (Ev.yes (by omega) (Ev.yes (by omega) (Ev.yes (by omega) ?_)))
    rw [rd_row hlt]
    refine Ev.bind (laws_eqIntS.evB _ (hl.2 _ (List.getElem_mem hlt))) (Ev.yes rfl ?_)
    rw [w64 (x := (i : Int) + 1) (by omega) (by omega)]
    exact ih (i + 1) (by omega)
theorem laws_eqIntSS.ev (l : List (List Int)) (hl : RowsV l) : Ev (fun k => laws_eqIntSS.f k l l) true := by
  unfold laws_eqIntSS.f
  exact Ev.yes rfl (laws_eqIntSS.lev l hl l.length 0 (by omega))
theorem laws_eqPins.ev (n : Int) (l : List (List Int)) (hl : RowsV l) : Ev (fun k => laws_eqPins.f k n l n l) true := by
  unfold laws_eqPins.f
  exact Ev.yes rfl (Ev.bind (laws_eqIntSS.ev l hl) (Ev.yes rfl (Ev.now _)))
/-! Marks on numbers, that they are held, lists of numbers compared. -/
theorem laws_markIntS.lev : ∀ (j : Nat) (l : List Int) (a : Int) (i : Nat), i + j = l.length → l.length ≤ 1048576 → 0 ≤ a → a + j ≤ 2000000 →
    ∃ l' : List Int, l'.length = l.length ∧ (∀ m : Nat, m < i → l'[m]? = l[m]?) ∧ Ev (fun k => laws_markIntS.l0 k l a (i : Nat)) (a + j, l') ∧ Ev (fun k => laws_heldIntS.l0 k l' a (i : Nat)) (a + j) := by
  intro j
  induction j with
  | zero =>
    intro l a i hi hn ha hb
    exact ⟨l, rfl, fun _ _ => rfl, Ev.step (fun k => rfl) (Ev.no (by omega) (Ev.id (by simp))), Ev.step (fun k => rfl) (Ev.no (by omega) (Ev.id (by simp)))⟩
  | succ j ih =>
    intro l a i hi hn ha hb
    have hlt : i < l.length := by omega
    have e1 : wrap64 (a + 1) = a + 1 := w64 (by omega) (by omega)
    have e4 : wrap64 ((i : Int) + 1) = ((i + 1 : Nat) : Int) := w64 (by omega) (by omega)
    obtain ⟨l', hl, hk, hm, hh⟩ := ih (l.set i a) (a + 1) (i + 1) (by simp; omega) (by simpa using hn) (by omega) (by omega)
    rw [List.length_set] at hl
    have hat : l'[i]? = some a := by
      rw [hk i (by omega)]
      simp [hlt]
    have hat' : rd l' (i : Nat) = a := by
      unfold rd
      simp [List.getD, hat]
    refine ⟨l', hl, fun m hmi => ?_, ?_, ?_⟩
    · rw [hk m (by omega), List.getElem?_set_ne (by omega)]
    · refine Ev.step (fun k => rfl) (Ev.yes (by omega) (Ev.yes (by omega) ?_))
      rw [e1, e4, Int.toNat_natCast]
      exact Ev.eq hm (by rw [Prod.mk.injEq]; exact ⟨by omega, rfl⟩)
    · refine Ev.step (fun k => rfl) (Ev.yes (by omega) (Ev.yes (by omega) ?_))
      rw [e1, e4]
      exact Ev.yes hat' (Ev.eq hh (by omega))
/-! Texts of digits: their sizes. -/
/-! ### impl_Pins_keys: function 92 -/
/-! ### impl_shared: function 91 -/
/-! ### spec_keCount: function 84 -/
/-! Joined pins and counted keys: what they come to. -/
theorem spec_l1Has.lev (a : Int) (l : List Int) (hl : l.length ≤ 9223372036854775807) : ∀ (m i : Nat), i + m = l.length → Ev (fun k => spec_l1Has.l0 k a l (l.length : Int) (i : Nat)) ((l.drop i).contains a) := by
  intro m
  induction m with
  | zero =>
    intro i hi
    refine Ev.step (fun k => rfl) (Ev.no (by omega) (Ev.id ?_))
    rw [List.drop_eq_nil_of_le (by omega)]; rfl
  | succ m ih =>
    intro i hi
    have hlt : i < l.length := by omega
    refine Ev.step (fun k => rfl) (Ev.yes (by omega) (Ev.yes (by omega) (Ev.yes (by omega) ?_)))
    rw [rd_int hlt, List.drop_eq_getElem_cons hlt, List.contains_cons]
    by_cases h : l[i] = a
    · exact Ev.yes h (Ev.id (by simp [h]))
    · refine Ev.no h ?_
      rw [w64 (x := (i : Int) + 1) (by omega) (by omega), show (a == l[i]) = false from beq_eq_false_iff_ne.mpr (fun e => h e.symm), Bool.false_or]
      exact ih (i + 1) (by omega)
theorem spec_l1Has.ev (l : List Int) (a : Int) (hl : l.length ≤ 9223372036854775807) : Ev (fun k => spec_l1Has.f k l a) (l.contains a) := by
  unfold spec_l1Has.f
  have := spec_l1Has.lev a l hl l.length 0 (by omega)
  simpa using this
theorem slices_Index_int_int.lev (a : Int) (l : List Int) (hl : l.length ≤ 9223372036854775807) : ∀ (m i : Nat), i + m = l.length → ∃ r : Int, Ev (fun k => slices_Index_int_int.l0 k l a (l.length : Int) (i : Nat)) r ∧ decide (r ≥ 0) = (l.drop i).contains a := by
  intro m
  induction m with
  | zero =>
    intro i hi
    refine ⟨-1, Ev.step (fun k => rfl) (Ev.no (by omega) (Ev.now _)), ?_⟩
    rw [List.drop_eq_nil_of_le (by omega)]; rfl
  | succ m ih =>
    intro i hi
    have hlt : i < l.length := by omega
    rw [List.drop_eq_getElem_cons hlt, List.contains_cons]
    by_cases h : a = l[i]
    · refine ⟨(i : Nat), Ev.step (fun k => rfl) (Ev.yes (by omega) (Ev.yes (by omega) (Ev.yes (by omega) ?_))), ?_⟩
      · rw [rd_int hlt]; exact Ev.yes h (Ev.now _)
      · rw [show (a == l[i]) = true from beq_iff_eq.mpr h]; simp
    · obtain ⟨r, he, hr⟩ := ih (i + 1) (by omega)
      refine ⟨r, Ev.step (fun k => rfl) (Ev.yes (by omega) (Ev.yes (by omega) (Ev.yes (by omega) ?_))), ?_⟩
      · rw [rd_int hlt, w64 (x := (i : Int) + 1) (by omega) (by omega)]; exact Ev.no h he
      · rw [show (a == l[i]) = false from beq_eq_false_iff_ne.mpr h, Bool.false_or]; exact hr
theorem slices_Contains_int_int.ev (l : List Int) (a : Int) (hl : l.length ≤ 9223372036854775807) : Ev (fun k => slices_Contains_int_int.f k l a) (l.contains a) := by
  unfold slices_Contains_int_int.f slices_Index_int_int.f
  obtain ⟨r, he, hr⟩ := slices_Index_int_int.lev a l hl l.length 0 (by omega)
  refine Ev.bind he (Ev.id ?_)
  rw [hr]; simp
/-! spec.keJoin -/
theorem spec_keJoin.lev1 (b : Bool) (n : Nat) (hn : n ≤ 9) (x y : List (List Int)) (m' : Int) (i : Nat) (hi : i < x.length) (hiy : i < y.length) (hx : RowsV x) (hy : RowsV y) (R : List (List Int)) (hR : R.length ≤ 1000) (o : Int × List (List Int))
    (hgo : Ev (fun k => spec_keJoin.l0 k b x (x.length : Int) (wrap64 ((i : Int) + 1)) (n : Int) x m' y (n : Int) (R ++ [(rngFrom 0 n).filter (joinT b x[i] y[i])])) o) :
    ∀ (m d : Nat), d + m = n → Ev (fun k => spec_keJoin.l1 k b (i : Int) x[i] ((rngFrom 0 d).filter (joinT b x[i] y[i])) (d : Int) x (x.length : Int) (i : Int) (n : Int) x m' y (n : Int) R) o := by
  intro m
  induction m with
  | zero =>
    intro d hd
    obtain rfl : d = n := by omega
    refine Ev.step (fun k => rfl) (Ev.no (by omega) (Ev.yes (by omega) hgo))
  | succ m ih =>
    intro d hd
    have hx1 := hx.1
    refine Ev.step (fun k => rfl) (Ev.yes (by omega) (Ev.bind (spec_l1Has.ev _ _ (hx.2 _ (List.getElem_mem hi))) (Ev.yes (by omega) (Ev.yes (by omega) ?_))))
    rw [rd_row hiy]
    refine Ev.bind (spec_l1Has.ev _ _ (hy.2 _ (List.getElem_mem hiy))) ?_
    have hw : wrap64 ((d : Int) + 1) = ((d + 1 : Nat) : Int) := w64 (by omega) (by omega)
    have hl := filter_len_le (joinT b x[i] y[i]) (rngFrom 0 d)
    rw [rngFrom_len] at hl
    have hgo' := ih (d + 1) (by omega)
    have hs : rngFrom 0 (d + 1) = rngFrom 0 d ++ [(d : Int)] := by unfold rngFrom; rw [List.range'_concat]; simp
    rw [hs, List.filter_append] at hgo'
    rw [hw]
    cases e1 : x[i].contains (d : Int) <;> cases e2 : y[i].contains (d : Int) <;> cases b
    · rw [show List.filter (joinT false x[i] y[i]) [(d : Int)] = [] by rw [List.filter_cons]; simp only [joinT, e1, e2]; rfl, List.append_nil] at hgo'
      exact Ev.no (by simp) (Ev.no (by simp) (Ev.no (by simp) hgo'))
    · rw [show List.filter (joinT true x[i] y[i]) [(d : Int)] = [] by rw [List.filter_cons]; simp only [joinT, e1, e2]; rfl, List.append_nil] at hgo'
      exact Ev.no (by simp) (Ev.yes rfl hgo')
    · rw [show List.filter (joinT false x[i] y[i]) [(d : Int)] = [(d : Int)] by rw [List.filter_cons]; simp only [joinT, e1, e2]; rfl] at hgo'
      exact Ev.no (by simp) (Ev.no (by simp) (Ev.yes rfl (Ev.yes (by omega) hgo')))
    · rw [show List.filter (joinT true x[i] y[i]) [(d : Int)] = [] by rw [List.filter_cons]; simp only [joinT, e1, e2]; rfl, List.append_nil] at hgo'
      exact Ev.no (by simp) (Ev.yes rfl hgo')
    · rw [show List.filter (joinT false x[i] y[i]) [(d : Int)] = [(d : Int)] by rw [List.filter_cons]; simp only [joinT, e1, e2]; rfl] at hgo'
      exact Ev.yes rfl (Ev.no (by simp) (Ev.no (by simp) (Ev.yes (by omega) hgo')))
    · rw [show List.filter (joinT true x[i] y[i]) [(d : Int)] = [] by rw [List.filter_cons]; simp only [joinT, e1, e2]; rfl, List.append_nil] at hgo'
      exact Ev.yes rfl (Ev.no (by simp) (Ev.yes rfl hgo'))
    · rw [show List.filter (joinT false x[i] y[i]) [(d : Int)] = [(d : Int)] by rw [List.filter_cons]; simp only [joinT, e1, e2]; rfl] at hgo'
      exact Ev.yes rfl (Ev.yes rfl (Ev.yes (by omega) hgo'))
    · rw [show List.filter (joinT true x[i] y[i]) [(d : Int)] = [(d : Int)] by rw [List.filter_cons]; simp only [joinT, e1, e2]; rfl] at hgo'
      exact Ev.yes rfl (Ev.yes rfl (Ev.yes (by omega) hgo'))
theorem spec_keJoin.lev0 (b : Bool) (n : Nat) (hn : n ≤ 9) (x y : List (List Int)) (m' : Int) (hxy : x.length ≤ y.length) (hx9 : x.length ≤ 1000) (hx : RowsV x) (hy : RowsV y) :
    ∀ (m i : Nat), i + m = x.length → Ev (fun k => spec_keJoin.l0 k b x (x.length : Int) (i : Int) (n : Int) x m' y (n : Int) ((List.range' 0 i).map fun j => (rngFrom 0 n).filter (joinT b (x.getD j []) (y.getD j [])))) ((n : Int), joinRows b n x y) := by
  intro m
  induction m with
  | zero =>
    intro i hi
    obtain rfl : i = x.length := by omega
    exact Ev.step (fun k => rfl) (Ev.no (by omega) (Ev.now _))
  | succ m ih =>
    intro i hi
    have hlt : i < x.length := by omega
    have hly : i < y.length := by omega
    refine Ev.step (fun k => rfl) (Ev.yes (by omega) (Ev.yes (by omega) (Ev.yes (by omega) ?_)))
    rw [rd_row hlt]
    have h0 : ([] : List Int) = (rngFrom 0 0).filter (joinT b x[i] y[i]) := rfl
    rw [h0]
    refine spec_keJoin.lev1 b n hn x y m' i hlt hly hx hy _ (by simp; omega) _ ?_ n 0 (by omega)
    have hgo := ih (i + 1) (by omega)
    rw [List.range'_concat, List.map_append, List.map_cons, List.map_nil, Nat.zero_add, Nat.one_mul, show x.getD i [] = x[i] from getD_at hlt, show y.getD i [] = y[i] from getD_at hly] at hgo
    rw [w64 (x := (i : Int) + 1) (by omega) (by omega)]
    exact hgo
theorem spec_keJoin.ev (b : Bool) (n : Nat) (hn : n ≤ 9) (x y : List (List Int)) (m' : Int) (hxy : x.length ≤ y.length) (hx9 : x.length ≤ 1000) (hx : RowsV x) (hy : RowsV y) : Ev (fun k => spec_keJoin.f k (n : Int) x m' y b) ((n : Int), joinRows b n x y) := by
  unfold spec_keJoin.f
  exact spec_keJoin.lev0 b n hn x y m' hxy hx9 hx hy x.length 0 (by omega)
theorem rowsOf_v (n m : Nat) (hn : n ≤ 1000) (hm : m ≤ 1000) (f : Nat → Int → Bool) : RowsV (rowsOf n m f) := by
  refine ⟨by rw [rowsOf_len]; omega, fun r hr => ?_⟩
  unfold rowsOf at hr
  obtain ⟨i, _, rfl⟩ := List.mem_map.mp hr
  have := filter_len_le (f i) (rngFrom 0 n)
  rw [rngFrom_len] at this
  omega
/-- Pins of one kind: n depths, m places. -/
def KindL (n m : Nat) (l : List S41) : Prop := n ≤ 9 ∧ m ≤ 7 ∧ ∀ p ∈ l, p.f0 = (n : Int) ∧ p.f1.length = m ∧ RowsV p.f1
/-! impl.joined -/
def cntP (l : List S41) (i : Nat) (d : Int) : Nat := l.countP fun p => (p.f1.getD i []).contains d
theorem wr_succ {c : Nat} (h : c ≤ 1000) : wrap64 ((c : Int) + 1) = ((c + 1 : Nat) : Int) := w64 (by omega) (by omega)
theorem impl_joined.lev2 (l : List S41) (a : Int) (n m : Nat) (h : KindL n m l) (hl1 : l.length ≤ 1000) (i : Nat) (him : i < m) (row : List Int) (d : Nat) (mI : Int) (R : List (List Int)) (hrow : row.length ≤ 1000) (o : Int × List (List Int)) (t : Nat)
    (hgo : Ev (fun k => impl_joined.l1 k l a (i : Int) (if a ≤ (t : Int) then row ++ [(d : Int)] else row) mI (i : Int) (n : Int) (wrap64 ((d : Int) + 1)) (n : Int) R) o) :
    ∀ (q j : Nat) (c : Nat), j + q = l.length → c ≤ j → c + ((l.drop j).countP fun p => (p.f1.getD i []).contains (d : Int)) = t → Ev (fun k => impl_joined.l2 k l a (i : Int) row (d : Int) (c : Int) mI (i : Int) (n : Int) (d : Int) l (l.length : Int) (j : Int) (n : Int) R) o := by
  intro q
  induction q with
  | zero =>
    intro j c hj hc hcnt
    rw [List.drop_eq_nil_of_le (by omega)] at hcnt
    simp at hcnt
    refine Ev.step (fun k => rfl) (Ev.no (by omega) ?_)
    rw [← hcnt] at hgo
    by_cases e : a ≤ (c : Int)
    · rw [if_pos e] at hgo
      exact Ev.yes (by omega) (Ev.yes (by omega) hgo)
    · rw [if_neg e] at hgo
      exact Ev.no (by omega) hgo
  | succ q ih =>
    intro j c hj hc hcnt
    have hlt : j < l.length := by omega
    have hw := amk (wr_succ (c := j) (by omega))
    have hw2 := amk (wr_succ (c := c) (by omega))
    have u1 : j + 1 + q = l.length := by omega
    have u2 : c + 1 ≤ j + 1 := by omega
    have u3 : c ≤ j + 1 := by omega
    obtain ⟨hn, hm, hp⟩ := h
    obtain ⟨p0, p1, p2⟩ := hp l[j] (List.getElem_mem hlt)
    refine Ev.step (fun k => rfl) (Ev.yes (by omega) (Ev.yes (by omega) (Ev.yes (by omega) (Ev.yes (by omega) ?_))))
    rw [rd_pins hlt]
    refine Ev.yes (by omega) ?_
    rw [rd_row (by omega)]
    refine Ev.bind (slices_Contains_int_int.ev _ _ (p2.2 _ (List.getElem_mem _))) ?_
    rw [List.drop_eq_getElem_cons hlt, List.countP_cons, show l[j].f1.getD i [] = l[j].f1[i] from getD_at (by omega)] at hcnt
    rw [hw.out]
    have ih1 := ih (j + 1)
    clear ih
    generalize (l.drop (j + 1)).countP (fun p => (p.f1.getD i []).contains (d : Int)) = v at hcnt ih1
    cases e : l[j].f1[i].contains (d : Int) with
    | true =>
      rw [e] at hcnt
      refine Ev.yes rfl ?_
      rw [if_pos rfl] at hcnt
      rw [hw2.out]
      exact ih1 (c + 1) u1 u2 (by rw [← hcnt, Nat.add_assoc, Nat.add_comm 1 v])
    | false =>
      rw [e] at hcnt
      refine Ev.no (by simp) ?_
      rw [if_neg (by simp)] at hcnt
      exact ih1 c u1 u3 hcnt
theorem impl_joined.lev1 (l : List S41) (a : Int) (n m : Nat) (h : KindL n m l) (hl1 : l.length ≤ 1000) (i : Nat) (him : i < m) (mI : Int) (R : List (List Int)) (hR : R.length ≤ 1000) (o : Int × List (List Int))
    (hgo : Ev (fun k => impl_joined.l0 k l a mI (wrap64 ((i : Int) + 1)) (n : Int) (R ++ [(rngFrom 0 n).filter fun d => decide (a ≤ (cntP l i d : Int))])) o) :
    ∀ (q d : Nat), d + q = n → Ev (fun k => impl_joined.l1 k l a (i : Int) ((rngFrom 0 d).filter fun d => decide (a ≤ (cntP l i d : Int))) mI (i : Int) (n : Int) (d : Int) (n : Int) R) o := by
  have hn := h.1
  intro q
  induction q with
  | zero =>
    intro d hd
    obtain rfl : d = n := by omega
    exact Ev.step (fun k => rfl) (Ev.no (by omega) (Ev.yes (by omega) hgo))
  | succ q ih =>
    intro d hd
    have hl := filter_len_le (fun d => decide (a ≤ (cntP l i d : Int))) (rngFrom 0 d)
    rw [rngFrom_len] at hl
    refine Ev.step (fun k => rfl) (Ev.yes (by omega) ?_)
    refine impl_joined.lev2 l a n m h hl1 i him _ d mI R (by omega) o (cntP l i (d : Int)) ?_ l.length 0 0 (by omega) (by omega) (by rw [List.drop_zero, Nat.zero_add]; rfl)
    rw [w64 (x := (d : Int) + 1) (by omega) (by omega)]
    have hgo' := ih (d + 1) (by omega)
    have hs : rngFrom 0 (d + 1) = rngFrom 0 d ++ [(d : Int)] := by unfold rngFrom; rw [List.range'_concat]; simp
    rw [hs, List.filter_append] at hgo'
    by_cases e : a ≤ (cntP l i (d : Int) : Int)
    · rw [if_pos e]
      rw [show List.filter (fun d => decide (a ≤ (cntP l i d : Int))) [(d : Int)] = [(d : Int)] by simp [e]] at hgo'
      exact hgo'
    · rw [if_neg e]
      rw [show List.filter (fun d => decide (a ≤ (cntP l i d : Int))) [(d : Int)] = [] by simp [e], List.append_nil] at hgo'
      exact hgo'
theorem impl_joined.lev0 (l : List S41) (a : Int) (n m : Nat) (h : KindL n m l) (hl1 : l.length ≤ 1000) :
    ∀ (q i : Nat), i + q = m → Ev (fun k => impl_joined.l0 k l a (m : Int) (i : Int) (n : Int) (rowsOf n i fun i d => decide (a ≤ (cntP l i d : Int)))) ((n : Int), rowsOf n m fun i d => decide (a ≤ (cntP l i d : Int))) := by
  have hm := h.2.1
  intro q
  induction q with
  | zero =>
    intro i hi
    obtain rfl : i = m := by omega
    exact Ev.step (fun k => rfl) (Ev.no (by omega) (Ev.now _))
  | succ q ih =>
    intro i hi
    refine Ev.step (fun k => rfl) (Ev.yes (by omega) ?_)
    have hgo := ih (i + 1) (by omega)
    have hs : rowsOf n (i + 1) (fun i d => decide (a ≤ (cntP l i d : Int))) = rowsOf n i (fun i d => decide (a ≤ (cntP l i d : Int))) ++ [(rngFrom 0 n).filter fun d => decide (a ≤ (cntP l i d : Int))] := by
      unfold rowsOf
      rw [List.range'_concat, List.map_append, List.map_cons, List.map_nil, Nat.zero_add, Nat.one_mul]
    rw [hs, show ((i + 1 : Nat) : Int) = wrap64 ((i : Int) + 1) from (w64 (by omega) (by omega)).symm] at hgo
    have h1 := impl_joined.lev1 l a n m h hl1 i (by omega) (m : Int) _ (by rw [rowsOf_len]; omega) _ hgo n 0 (by omega)
    rw [rngFrom_zero, List.filter_nil] at h1
    exact h1
theorem impl_joined.ev (l : List S41) (a : Int) (n m : Nat) (hne : 0 < l.length) (h : KindL n m l) (hl1 : l.length ≤ 1000) : Ev (fun k => impl_joined.f k l a) ((n : Int), rowsOf n m fun i d => decide (a ≤ (cntP l i d : Int))) := by
  unfold impl_joined.f
  refine Ev.yes (by omega) ?_
  have hq : rd_T41 l 0 = l[0] := rd_pins hne
  obtain ⟨h0, h1, _⟩ := h.2.2 l[0] (List.getElem_mem hne)
  rw [hq, h0, h1]
  exact impl_joined.lev0 l a n m h hl1 m 0 (by omega)
theorem impl_master.ev (l : List S41) (n m : Nat) (hne : 0 < l.length) (h : KindL n m l) (hl1 : l.length ≤ 1000) : Ev (fun k => impl_joined.f k l 1) ((n : Int), rowsOf n m (inB false l)) := by
  refine Ev.eq (impl_joined.ev l 1 n m hne h hl1) ?_
  rw [Prod.mk.injEq]
  refine ⟨rfl, ?_⟩
  apply rowsOf_congr
  intro i _ d _
  rw [← inB_count_any l i d]
  unfold cntP
  congr 1
  rw [eq_iff_iff]
  omega
/-! ### spec_l1Num: function 135 -/
/-! spec's numbers of one digit. -/
/-! ### spec_keList: function 88 -/
/-! spec's pins: what they come to. -/
theorem spec_l1Rising.lev (n : Int) (hn : 1 ≤ n ∧ n ≤ 9) (l : List Int) (hl : l.length ≤ 9223372036854775807) : ∀ (m i : Nat), i + m = l.length → (-1 ≤ lastI l i) → Ev (fun k => spec_l1Rising.l0 k l 0 (n - 1) l (l.length : Int) (i : Nat)) (risF n (lastI l i) (l.drop i)) := by
  intro m
  induction m with
  | zero =>
    intro i hi _
    refine Ev.step (fun k => rfl) (Ev.no (by omega) (Ev.id ?_))
    rw [List.drop_eq_nil_of_le (by omega)]
    rfl
  | succ m ih =>
    intro i hi hq
    have hlt : i < l.length := by omega
    have hr : rd l (i : Nat) = l[i] := rd_int hlt
    refine Ev.step (fun k => rfl) (Ev.yes (by omega) (Ev.yes (by omega) (Ev.yes (by omega) (Ev.bindc (spec_l1In.bs _ _ _) ?_))))
    rw [hr, List.drop_eq_getElem_cons hlt]
    unfold risF
    have hw : wrap64 ((i : Int) + 1) = ((i + 1 : Nat) : Int) := w64 (by omega) (by omega)
    have hla : lastI l (i + 1) = l[i] := lastI_at hlt
    by_cases h1 : 0 ≤ l[i] ∧ l[i] ≤ n - 1
    · refine Ev.yes (decide_eq_true h1) ?_
      have hgo := ih (i + 1) (by omega) (by rw [hla]; omega)
      rw [hla] at hgo
      cases i with
      | zero =>
        refine Ev.no (by omega) ?_
        rw [hw]
        refine Ev.eq hgo ?_
        have h2 : decide (lastI l 0 < l[0]) = true := decide_eq_true (show (-1 : Int) < l[0] by omega)
        have h3 : decide (l[0] ≤ n - 1) = true := decide_eq_true h1.2
        rw [h2, h3]; rfl
      | succ i =>
        have hp : wrap64 (((i + 1 : Nat) : Int) - 1) = (i : Nat) := by rw [w64 (by omega) (by omega)]; omega
        have hr1 : rd l (i : Nat) = l[i] := rd_int (by omega)
        have hlb : lastI l (i + 1) = l[i] := lastI_at (by omega)
        refine Ev.yes (by omega) ?_
        rw [hp, hr1, hlb]
        refine Ev.yes (by omega) (Ev.yes (by omega) ?_)
        by_cases h2 : l[i] ≥ l[i + 1]
        · refine Ev.yes h2 (Ev.id ?_)
          rw [decide_eq_false (by omega : ¬ l[i] < l[i + 1])]; rfl
        · refine Ev.no h2 ?_
          rw [hw]
          refine Ev.eq hgo ?_
          rw [decide_eq_true (by omega : l[i] < l[i + 1]), decide_eq_true h1.2]; rfl
    · refine Ev.no (by rw [decide_eq_false h1]; simp) (Ev.id ?_)
      by_cases h2 : lastI l i < l[i]
      · have h3 : ¬ l[i] ≤ n - 1 := fun h => h1 ⟨by omega, h⟩
        rw [decide_eq_false h3]; simp
      · rw [decide_eq_false h2]; rfl
theorem spec_l1Rising.ev (n : Int) (hn : 1 ≤ n ∧ n ≤ 9) (l : List Int) (hl : l.length ≤ 9223372036854775807) : Ev (fun k => spec_l1Rising.f k l 0 (n - 1)) (risF n (-1) l) := by
  unfold spec_l1Rising.f
  exact spec_l1Rising.lev n hn l hl l.length 0 (by omega) (show (-1 : Int) ≤ -1 by omega)
theorem spec_keGood.lev (n : Int) (hn : 1 ≤ n ∧ n ≤ 9) (l : List (List Int)) (hl : RowsV l) : ∀ (m i : Nat), i + m = l.length → Ev (fun k => spec_keGood.l0 k l (l.length : Int) (i : Nat) n l) ((l.drop i).all (rowB n)) := by
  have hl1 := hl.1
  intro m
  induction m with
  | zero =>
    intro i hi
    refine Ev.step (fun k => rfl) (Ev.no (by omega) (Ev.id ?_))
    rw [List.drop_eq_nil_of_le (by omega)]; rfl
  | succ m ih =>
    intro i hi
    have hlt : i < l.length := by omega
    refine Ev.step (fun k => rfl) (Ev.yes (by omega) (Ev.yes (by omega) (Ev.yes (by omega) ?_)))
    rw [rd_row hlt, List.drop_eq_getElem_cons hlt, List.all_cons]
    have hx := hl.2 l[i] (List.getElem_mem hlt)
    have hgo := ih (i + 1) (by omega)
    generalize l[i] = x at hx ⊢
    unfold rowB
    by_cases h0 : (x.length : Int) = 0
    · refine Ev.yes h0 (Ev.id ?_)
      obtain rfl : x = [] := List.length_eq_zero_iff.mp (by omega)
      rfl
    · refine Ev.no h0 ?_
      have h1 : (!x.isEmpty) = true := by cases x <;> simp_all
      rw [w64 (x := n - 1) (by omega) (by omega), h1, Bool.true_and]
      refine Ev.bind (spec_l1Rising.ev n hn x hx) ?_
      cases risF n (-1) x with
      | false => exact Ev.no (by simp) (Ev.id rfl)
      | true =>
        refine Ev.yes rfl ?_
        rw [w64 (x := (i : Int) + 1) (by omega) (by omega), Bool.true_and]
        exact hgo
theorem spec_keGood.ev (n : Int) (l : List (List Int)) (hl : RowsV l) : Ev (fun k => spec_keGood.f k n l) (pinsB n l) := by
  unfold spec_keGood.f pinsB
  refine Ev.bindc (spec_l1In.bs _ _ _) ?_
  by_cases h1 : 1 ≤ n ∧ n ≤ 9
  · rw [decide_eq_true h1]
    refine Ev.yes rfl (Ev.bindc (spec_l1In.bs _ _ _) (Ev.step (fun k => rfl) ?_))
    simp only [spec_keGood.j0]
    by_cases h2 : 1 ≤ (l.length : Int) ∧ (l.length : Int) ≤ 7
    · rw [decide_eq_true h2]
      refine Ev.no (by simp) ?_
      have := spec_keGood.lev n h1 l hl l.length 0 (by omega)
      simpa using this
    · rw [decide_eq_false h2]
      exact Ev.yes (by simp) (Ev.id (by simp))
  · rw [decide_eq_false h1]
    refine Ev.no (by simp) (Ev.step (fun k => rfl) ?_)
    simp only [spec_keGood.j0]
    exact Ev.yes trivial (Ev.id (by simp))
theorem spec_keKind.is (n : Int) (x : List (List Int)) (m : Int) (y : List (List Int)) : spec_keKind.f n x m y = some ((n == m) && (x.length == y.length)) := by
  unfold spec_keKind.f
  by_cases h : n = m
  · rw [if_pos h, h]
    congr 1
    rw [Bool.eq_iff_iff]
    simp only [beq_iff_eq, Bool.and_eq_true, true_and]
    omega
  · rw [if_neg h]
    simp [h]
/-! ### impl_text: function 136 -/
/-! Digits of texts, texts of digits: what they come to. -/
/-! ### impl_Pins_all: function 86 -/
/-! ### impl_AllKeys: function 30 -/
/-! ### spec_keAll: function 85 -/
/-! ### spec_AllKeys: function 29 -/
/-! All keys that open: what impl (place after place) and spec (key after key) come to. -/
/-! spec -/
/-! impl -/
/-! ### laws_eqStringS: function 31 -/
/-! ### laws_markText: function 87 -/
/-! ### laws_heldStringS: function 33 -/
/-! ### laws_markStringS: function 32 -/
/-! Marks on texts, that they are held, lists of texts compared. -/
/-! laws.FnExactAllKeys, by hand: the arguments' rows are marked. -/
section
variable {w W W2 : World} {n : Int} {A : Option Addr} {c : Nat} {L Lx Lx' : List (List Int)} {bx ax : Nat} {Ax : Option Addr} {cx aw bw : Nat} {Aw : Option Addr} {cw : Nat} {V : List ByteArray} {ag bg : Nat} {Ag : Option Addr} {cg : Nat} {Vg Vg' : List ByteArray}
end
section
/-! What a readable argument holds, told by kinds: the bridge from a statement's reading to the print's words. -/
open Go.WideShapes in
def Opens {α : Type} (P : Program) (t : TypeId) (d : Kd α) (V : α → Prop) : Prop :=
  ∀ (H : Type) (enc : TypeId × Value → H) (w : World) (base : Nat) (spare : Nat → Bool) (held : Bool) (fuel : Nat) (cs : List Value) (x : DataW H × List MemPlace),
    DataW.trod enc P w base spare held fuel t cs = some x → ∃ a : α, d.K w a cs ∧ V a
def IntV (a : Int) : Prop := -9223372036854775808 ≤ a ∧ a ≤ 9223372036854775807
def ListV {α : Type} (V : α → Prop) (l : List α) : Prop := l.length ≤ 9223372036854775807 ∧ ∀ x ∈ l, V x
theorem opens_int {P : Program} {t : TypeId} (ht : P.underlying t = some (.int .i64)) : Opens P t (Kd.int .i64) IntV := by
  intro H enc w base spare held fuel cs x h
  obtain ⟨n, rfl, _, hw⟩ := DataW.trod_int ht h
  refine ⟨n, rfl, ?_⟩
  have hb : (IntKind.i64.min ≤ n ∧ n ≤ IntKind.i64.max) := by simpa [Lit.wf] using hw
  have e1 : IntKind.i64.min = -9223372036854775808 := rfl
  have e2 : IntKind.i64.max = 9223372036854775807 := rfl
  rw [e1, e2] at hb
  unfold IntV
  omega
theorem cells_list {w : World} {base : Nat} {a : Addr} {n : Nat} {cs : List Value} (h : w.cells? base a n = some cs) : cs.length = n ∧ ∀ i u, cs[i]? = some u → w.cell? (a.add i) = some u := by
  unfold World.cells? at h
  split at h
  · have hl := mapM_some_length h
    refine ⟨by simpa using hl, fun i u hu => ?_⟩
    have hi : i < n := by
      have := (List.getElem?_eq_some_iff.1 hu).1
      rw [hl] at this; simpa using this
    have := mapM_some_get h i i (by simp [hi])
    rw [hu] at this
    exact this
  · cases h
theorem opens_slice {α : Type} {P : Program} {t e : TypeId} {d : Kd α} {V : α → Prop} (ht : P.underlying t = some (.slice e)) (hd : Opens P e d V) (hsz : P.cellsOf e = d.sz) : Opens P t (Kd.slice e d) (ListV V) := by
  intro H enc w base spare held fuel cs x h
  rcases Go.Deep.open_slice ht h with ⟨rfl, _⟩ | ⟨a, len, cap, m, n, D, Pl, rfl, _, hl, hm, hmm, _, hel⟩
  · exact ⟨[], ⟨none, 0, rfl, Nat.le_refl _, ⟨rfl, by simp, fun h0 => absurd h0 (by simp)⟩⟩, ⟨by simp, fun x hx => by simp at hx⟩⟩
  · have hle : len ≤ m := by rw [hmm]; split <;> omega
    have each : ∀ i : Nat, ∃ a' : Option α, i < len → ∃ z cs', a' = some z ∧ V z ∧ d.K w z cs' ∧ ∀ j u, cs'[j]? = some u → w.cell? (a.add (i * d.sz + j)) = some u := by
      intro i
      by_cases hi : i < len
      · obtain ⟨cs', h1, h2⟩ := hel i (by omega)
        obtain ⟨z, hK, hV⟩ := hd H enc w base spare held n cs' _ h2
        refine ⟨some z, fun _ => ⟨z, cs', rfl, hV, hK, fun j u hu => ?_⟩⟩
        obtain ⟨_, hc⟩ := cells_list h1
        have := hc j u hu
        rw [Go.Deep.add_add, hsz] at this
        exact this
      · exact ⟨none, fun h0 => absurd h0 hi⟩
    have ⟨f, hf⟩ := Classical.axiomOfChoice each
    have hz : ∀ i, i < len → ∃ z, f i = some z ∧ V z ∧ ∃ cs', d.K w z cs' ∧ ∀ j u, cs'[j]? = some u → w.cell? (a.add (i * d.sz + j)) = some u := by
      intro i hi
      obtain ⟨z, cs', h1, h2, h3, h4⟩ := hf i hi
      exact ⟨z, h1, h2, cs', h3, h4⟩
    have hlist : ∃ l : List α, l.length = len ∧ ∀ i, i < len → f i = l[i]? := by
      clear hf each hel hmm hle
      have : ∀ n, n ≤ len → ∃ l : List α, l.length = n ∧ ∀ i, i < n → f i = l[i]? := by
        intro n
        induction n with
        | zero => intro _; exact ⟨[], rfl, fun i hi => by omega⟩
        | succ n ih =>
          intro hn
          obtain ⟨l, hl1, hl2⟩ := ih (by omega)
          obtain ⟨z, h1, _⟩ := hz n (by omega)
          refine ⟨l ++ [z], by simp [hl1], fun i hi => ?_⟩
          by_cases e : i < n
          · rw [List.getElem?_append_left (by omega)]; exact hl2 i e
          · obtain rfl : i = n := by omega
            rw [h1, ← hl1]; simp
      exact this len (Nat.le_refl _)
    obtain ⟨l, hlen, hget⟩ := hlist
    have hV : ∀ x ∈ l, V x := by
      intro x hx
      obtain ⟨i, hi, rfl⟩ := List.getElem_of_mem hx
      obtain ⟨z, h1, h2, _⟩ := hz i (by omega)
      have h3 := hget i (by omega)
      rw [h1, List.getElem?_eq_getElem hi] at h3
      injection h3 with h3
      rw [← h3]; exact h2
    unfold maxLen at hm
    subst hlen
    refine ⟨l, ⟨some a, cap, rfl, hl, ⟨rfl, by omega, fun _ => ⟨a, rfl, fun j p hp => ?_⟩⟩⟩, ⟨by omega, hV⟩⟩
    have hj : j < l.length := (List.getElem?_eq_some_iff.1 hp).1
    obtain ⟨z, h1, _, cs', h3, h4⟩ := hz j hj
    have h5 := hget j hj
    rw [h1, hp] at h5
    injection h5 with h5
    subst h5
    exact ⟨cs', d.K_len h3, h3, h4⟩
theorem opens_pair {α β : Type} {P : Program} {t : TypeId} {f0 f1 : Field} {d0 : Kd α} {d1 : Kd β} {V0 : α → Prop} {V1 : β → Prop} (ht : P.underlying t = some (.struct #[f0, f1]))
    (h0 : Opens P f0.type d0 V0) (h1 : Opens P f1.type d1 V1) (o0 : f0.offset = 0) (o1 : f1.offset = d0.sz) (z0 : P.cellsOf f0.type = d0.sz) (z1 : P.cellsOf f1.type = d1.sz) (zt : P.cellsOf t = d0.sz + d1.sz) :
    Opens P t (Kd.pair d0 d1) (fun x => V0 x.1 ∧ V1 x.2) := by
  intro H enc w base spare held fuel cs x h
  obtain ⟨y0, y1, n, _, hl, g0, g1⟩ := ChangeShapes.trod_struct2 ht h
  rw [o0, z0, List.drop_zero] at g0
  rw [o1, z1] at g1
  obtain ⟨a, ka, va⟩ := h0 H enc w base spare held n _ _ g0
  obtain ⟨b, kb, vb⟩ := h1 H enc w base spare held n _ _ g1
  refine ⟨(a, b), ⟨_, _, ?_, ka, kb⟩, va, vb⟩
  rw [List.take_of_length_le (l := cs.drop d0.sz) (by rw [List.length_drop, hl, zt]; omega), List.take_append_drop]
theorem opens_iso {α β : Type} {P : Program} {t : TypeId} {d : Kd α} {V : α → Prop} (h : Opens P t d V) (f : β → α) (g : α → β) (e : ∀ a, f (g a) = a) : Opens P t (Kd.iso d f) (fun x => V (f x)) := by
  intro H enc w base spare held fuel cs x hx
  obtain ⟨a, ka, va⟩ := h H enc w base spare held fuel cs x hx
  exact ⟨g a, by show d.K w (f (g a)) cs; rw [e]; exact ka, by show V (f (g a)); rw [e]; exact va⟩
section
variable {H : Type} {enc : TypeId × Value → H} {P : Program} {w : World} {base : Nat} {spare : Nat → Bool} {held : Bool} {r : Reach} {b0 : Nat} {t : TypeId} {v : Value} {x : DataW H} {p : List MemPlace}
theorem arg_struct {α : Type} {d : Kd α} {V : α → Prop} (ho : Opens P t d V) {fs : Array Field} (hs : P.underlying t = some (.struct fs)) (hv : Value.okWide P w r b0 t v) (h : DataW.Trod enc P w base spare held t v x p) :
    ∃ a cs, v = .agg (List.toArray cs) ∧ d.K w a cs ∧ V a := by
  obtain ⟨cs, rfl, _⟩ := WideShapes.okWide_struct hs hv
  obtain ⟨fuel, hf⟩ := h
  obtain ⟨a, hk, hV⟩ := ho H enc w base spare held fuel _ _ hf
  exact ⟨a, cs.toList, by simp, by simpa [Value.cells] using hk, hV⟩
theorem arg_lt (h : DataW.Trod enc P w base spare held t v x p) : ∀ y ∈ p, y.block < w.heap.size := by
  obtain ⟨m, hm⟩ := h
  exact DataW.trod_lt m _ _ _ hm
end
end
theorem opens_t3 : Opens Try.prog 3 (Kd.int .i64) IntV := opens_int Try.underlying3
theorem opens_t86 : Opens Try.prog 86 (Kd.slice 3 (Kd.int .i64)) (ListV IntV) := opens_slice Try.underlying86 opens_t3 (by kernel_rfl)
theorem opens_t35 : Opens Try.prog 35 (Kd.slice 86 (Kd.slice 3 (Kd.int .i64))) (ListV (ListV IntV)) := opens_slice Try.underlying35 opens_t86 (by kernel_rfl)
def V37 (x : S37) : Prop := IntV x.f0 ∧ (ListV (ListV IntV)) x.f1
theorem opens_t37 : Opens Try.prog 37 k37 V37 := opens_iso (opens_pair Try.underlying37 opens_t3 opens_t35 (by kernel_rfl) (by kernel_rfl) (by kernel_rfl) (by kernel_rfl) (by kernel_rfl)) (fun x : S37 => (x.f0, x.f1)) (fun p => ⟨p.1, p.2⟩) (fun _ => rfl)
/-! The law FnExactAllKeys: its calls, all told. -/
def totL (l : List (List Int)) : Nat := l.foldr (fun r n => r.length + n) 0
theorem markRows_ev : ∀ (l : List (List Int)) (a : Int), 0 ≤ a → a + (totL l : Int) ≤ 2000000 → totL l ≤ 1048576 → ∃ l', Ev (fun k => markRows k l a) (a + (totL l : Int), l') := by
  intro l
  induction l with
  | nil => intro a h0 _ _; exact ⟨[], Ev.id (by rw [Prod.mk.injEq]; exact ⟨by show a = a + 0; omega, rfl⟩)⟩
  | cons x t ih =>
    intro a h0 h1 h2
    have ht : totL (x :: t) = x.length + totL t := rfl
    rw [ht] at h1 h2 ⊢
    obtain ⟨x', _, _, hm, _⟩ := laws_markIntS.lev x.length x a 0 (by omega) (by omega) h0 (by omega)
    obtain ⟨t', ht'⟩ := ih (a + x.length) (by omega) (by omega) (by omega)
    refine ⟨x' :: t', Ev.bind hm (Ev.bind ht' (Ev.id ?_))⟩
    rw [Prod.mk.injEq]
    exact ⟨by omega, rfl⟩
theorem C_rowsV {w : World} {A : Option Addr} {l : List (List Int)} (h : Kd.C (Kd.slice 3 (Kd.int .i64)) w A l.length l) : RowsV l := by
  refine ⟨h.2.1, fun r hr => ?_⟩
  obtain ⟨i, hi, rfl⟩ := List.getElem_of_mem hr
  obtain ⟨ad, cs, e, _, hK, _⟩ := Kd.C_get h ([] : List Int) (i : Int) (by omega) (by omega)
  obtain ⟨A0, c0, _, l0, g0⟩ := hK
  rw [Int.toNat_natCast, getD_at hi] at g0
  exact g0.2.1
/-! Marks on rows of numbers: what is marked is held. -/
theorem laws_szPins.evA (n : Int) (l : List (List Int)) (hl : RowsV l) (a : Int) (h0 : 0 ≤ a) (h1 : a ≤ 1048576) : ∃ r, Ev (fun k => laws_szPins.f k n l a) r ∧ (0 ≤ r → (totL l : Int) + r ≤ a ∧ RowsM l) := by
  have hl1 := hl.1
  have hlev : ∀ (m i : Nat) (a : Int), i + m = l.length → 0 ≤ a → a ≤ 1048576 → ∃ r, r ≤ a ∧ Ev (fun k => laws_szIntSS.l0 k l a (i : Nat)) r ∧ (0 ≤ r → (totL (l.drop i) : Int) + r ≤ a) := by
    intro m
    induction m with
    | zero =>
      intro i a hi h0 h1
      refine ⟨a, Int.le_refl _, Ev.step (fun k => rfl) (Ev.no (by omega) (Ev.now _)), fun _ => ?_⟩
      rw [List.drop_eq_nil_of_le (by omega)]
      show ((0 : Nat) : Int) + a ≤ a
      omega
    | succ m ih =>
      intro i a hi h0 h1
      have hlt : i < l.length := by omega
      have hx := hl.2 l[i] (List.getElem_mem hlt)
      by_cases h : (l[i].length : Int) ≤ a
      · obtain ⟨r, hr, he, hf⟩ := ih (i + 1) (a - l[i].length) (by omega) (by omega) (by omega)
        refine ⟨r, by omega, Ev.step (fun k => rfl) (Ev.yes (by omega) (Ev.yes (by omega) ?_)), fun hr0 => ?_⟩
        · rw [rd_row hlt]
          refine Ev.bindc (laws_szIntS.is _ _ h0 h1 hx) ?_
          rw [if_pos h, w64 (x := (i : Int) + 1) (by omega) (by omega)]
          exact Ev.no (by omega) he
        · rw [List.drop_eq_getElem_cons hlt]
          have := hf hr0
          show ((l[i].length + totL (l.drop (i + 1)) : Nat) : Int) + r ≤ a
          omega
      · refine ⟨-1, by omega, Ev.step (fun k => rfl) (Ev.yes (by omega) (Ev.yes (by omega) ?_)), fun hr0 => by omega⟩
        rw [rd_row hlt]
        refine Ev.bindc (laws_szIntS.is _ _ h0 h1 hx) ?_
        rw [if_neg h]
        exact Ev.yes (by omega) (Ev.now _)
  obtain ⟨q, _, hq, hqf⟩ := laws_szPins.ev n l hl a h0 h1
  unfold laws_szPins.f laws_szIntSS.f at hq ⊢
  rw [w64 (x := a - (l.length : Int)) (by omega) (by omega)] at hq ⊢
  by_cases h : (l.length : Int) ≤ a
  · obtain ⟨r, hr, he, hf⟩ := hlev l.length 0 (a - l.length) (by omega) (by omega) (by omega)
    by_cases h2 : 0 ≤ r
    · have hx : Ev (fun k => ((if a - (l.length : Int) < 0 then some (-1) else laws_szIntSS.l0 k l (a - (l.length : Int)) 0).bind fun t => if t < 0 then some (-1) else some t)) r := Ev.bind (Ev.no (by omega) he) (Ev.no (by omega) (Ev.now _))
      have hqr : q = r := Ev.un hq hx
      refine ⟨r, hx, fun hr0 => ⟨?_, hqf (by omega)⟩⟩
      have := hf hr0
      rw [List.drop_zero] at this
      omega
    · exact ⟨-1, Ev.bind (Ev.no (by omega) he) (Ev.yes (by omega) (Ev.now _)), fun hr0 => by omega⟩
  · exact ⟨-1, Ev.bind (Ev.yes (by omega) (Ev.now _)) (Ev.yes (by omega) (Ev.now _)), fun hr0 => by omega⟩
/-- What markRows leaves is held, whatever stands ahead of it. -/
theorem markRows_held : ∀ (l : List (List Int)) (a : Int), 0 ≤ a → a + (totL l : Int) ≤ 2000000 → totL l ≤ 1048576 → l.length ≤ 1048576 → ∃ l' : List (List Int), l'.length = l.length ∧ Ev (fun k => markRows k l a) (a + (totL l : Int), l') ∧ ∀ D : List (List Int), D.length + l.length ≤ 1048576 → Ev (fun k => laws_heldIntSS.l0 k (D ++ l') a (D.length : Int)) (a + (totL l : Int)) := by
  intro l
  induction l with
  | nil =>
    intro a h0 _ _ _
    refine ⟨[], rfl, Ev.id (by rw [Prod.mk.injEq]; exact ⟨by show a = a + 0; omega, rfl⟩), fun D hD => Ev.step (fun k => rfl) (Ev.no (by simp) (Ev.id (by show a = a + 0; omega)))⟩
  | cons x t ih =>
    intro a h0 h1 h2 h3
    have ht : totL (x :: t) = x.length + totL t := rfl
    rw [ht] at h1 h2 ⊢
    rw [List.length_cons] at h3
    obtain ⟨x', hx1, _, hm, hh⟩ := laws_markIntS.lev x.length x a 0 (by omega) (by omega) h0 (by omega)
    obtain ⟨t', ht1, ht2, ht3⟩ := ih (a + x.length) (by omega) (by omega) (by omega) (by omega)
    refine ⟨x' :: t', by rw [List.length_cons, List.length_cons, ht1], Ev.bind hm (Ev.bind ht2 (Ev.id ?_)), fun D hD => ?_⟩
    · rw [Prod.mk.injEq]
      exact ⟨by omega, rfl⟩
    · have hlt : D.length < (D ++ x' :: t').length := by rw [List.length_append, List.length_cons]; omega
      have hget : (D ++ x' :: t')[D.length] = x' := by rw [List.getElem_append_right (Nat.le_refl _)]; simp
      rw [List.length_cons] at hD
      have hw := amk (wr_big (c := D.length) (by omega))
      have hgo := ht3 (D ++ [x']) (by rw [List.length_append, List.length_singleton]; omega)
      rw [List.append_assoc, List.length_append, List.length_singleton] at hgo
      refine Ev.step (fun k => rfl) (Ev.yes (by omega) (Ev.yes (by omega) ?_))
      rw [rd_row hlt, hget, hw.out]
      refine Ev.bind (a := a + x.length) hh (Ev.no (by omega) ?_)
      exact Ev.eq hgo (by omega)
theorem laws_markPins.evH (n : Int) (l : List (List Int)) (h2 : totL l ≤ 1048576) (h3 : l.length ≤ 1048576) : ∃ l', Ev (fun k => laws_markPins.f k n l 1) (1 + (totL l : Int), l') ∧ Ev (fun k => laws_heldPins.f k n l' 1) (1 + (totL l : Int)) := by
  obtain ⟨l', hl, hm, hh⟩ := markRows_held l 1 (by omega) (by omega) h2 h3
  refine ⟨l', hm, ?_⟩
  have := hh [] (by show 0 + l.length ≤ 1048576; omega)
  unfold laws_heldPins.f laws_heldIntSS.f
  exact Ev.bind this (Ev.no (by omega) (Ev.now _))
/-! The law FnExactMasterPins: its calls, all told. -/
def masB (n : Int) (x : List (List Int)) (m : Int) (y : List (List Int)) : Bool := pinsB n x && (pinsB m y && ((n == m) && (x.length == y.length)))
def masV (n : Int) (x : List (List Int)) (m : Int) (y : List (List Int)) : Int × List (List Int) × Bool := if masB n x m y = true then (n, joinRows false n.toNat x y, true) else (0, [], false)
theorem masB_parts {n m : Int} {x y : List (List Int)} (h : masB n x m y = true) : pinsB n x = true ∧ pinsB m y = true ∧ n = m ∧ x.length = y.length := by
  unfold masB at h
  rw [Bool.and_eq_true, Bool.and_eq_true, Bool.and_eq_true, beq_iff_eq, beq_iff_eq] at h
  exact ⟨h.1, h.2.1, h.2.2.1, h.2.2.2⟩
theorem kindB_two (n m : Int) (x y : List (List Int)) : kindB [(⟨n, x⟩ : S41), (⟨m, y⟩ : S41)] = masB n x m y := by
  have hq : rd_T41 [(⟨n, x⟩ : S41), (⟨m, y⟩ : S41)] 0 = ⟨n, x⟩ := rd_pins (by decide : 0 < 2)
  unfold kindB masB
  rw [hq]
  simp only [List.length_cons, List.length_nil, List.all_cons, List.all_nil]
  rw [Bool.eq_iff_iff]
  simp only [Bool.and_eq_true, decide_eq_true_eq, beq_iff_eq]
  constructor
  · rintro ⟨_, ⟨⟨h1, _⟩, _⟩, ⟨⟨h2, h3⟩, h4⟩, _⟩
    exact ⟨h1, h2, h3.symm, h4.symm⟩
  · rintro ⟨h1, h2, h3, h4⟩
    exact ⟨by omega, ⟨⟨h1, trivial⟩, trivial⟩, ⟨⟨h2, h3.symm⟩, h4.symm⟩, trivial⟩
theorem joinRows_two (n : Nat) (a b : Int) (x y : List (List Int)) : rowsOf n x.length (inB false [(⟨a, x⟩ : S41), (⟨b, y⟩ : S41)]) = joinRows false n x y := by
  rw [joinRows_is]
  apply rowsOf_congr
  intro i _ d _
  rw [joinT_in]
  simp [inB]
theorem totL_le (c : Nat) : ∀ l : List (List Int), (∀ r ∈ l, r.length ≤ c) → totL l ≤ l.length * c := by
  intro l
  induction l with
  | nil => intro _; exact Nat.zero_le _
  | cons r t ih =>
    intro h
    have h1 := ih (fun q hq => h q (List.mem_cons_of_mem _ hq))
    have h2 := h r List.mem_cons_self
    show r.length + totL t ≤ (t.length + 1) * c
    rw [Nat.succ_mul]
    omega
theorem masV_small (n m : Int) (x y : List (List Int)) : (masV n x m y).2.1.length ≤ 7 ∧ totL (masV n x m y).2.1 ≤ 63 ∧ RowsV (masV n x m y).2.1 := by
  unfold masV
  by_cases h : masB n x m y = true
  · rw [if_pos h]
    obtain ⟨h1, _, _, _⟩ := masB_parts h
    obtain ⟨a1, a2, _⟩ := pinsB_parts h1
    have hl : (joinRows false n.toNat x y).length ≤ 7 := by rw [joinRows_is, rowsOf_len]; exact a2.2
    refine ⟨hl, ?_, ?_⟩
    · refine Nat.le_trans (totL_le 9 _ ?_) (Nat.mul_le_mul_right 9 hl)
      intro r hr
      unfold joinRows at hr
      obtain ⟨i, _, rfl⟩ := List.mem_map.mp hr
      refine Nat.le_trans (filter_len_le _ _) ?_
      rw [rngFrom_len]
      omega
    · exact rowsOf_v n.toNat x.length (by omega) (by omega) _
  · rw [if_neg h]
    exact ⟨by decide, by decide, ⟨by decide, fun r hr => by cases hr⟩⟩
theorem spec_MasterPins.ev (n m : Int) (x y : List (List Int)) (hx : RowsV x) (hy : RowsV y) : Ev (fun k => spec_MasterPins.f k n x m y) (masV n x m y) := by
  unfold spec_MasterPins.f masV
  refine Ev.bind (spec_keGood.ev n x hx) ?_
  cases h1 : pinsB n x with
  | false => exact Ev.no (by simp) (Ev.id (by unfold masB; rw [h1]; rfl))
  | true =>
    refine Ev.yes rfl (Ev.bind (spec_keGood.ev m y hy) ?_)
    cases h2 : pinsB m y with
    | false => exact Ev.no (by simp) (Ev.id (by unfold masB; rw [h1, h2]; rfl))
    | true =>
      refine Ev.yes rfl (Ev.bindc (spec_keKind.is n x m y) ?_)
      cases h3 : ((n == m) && (x.length == y.length)) with
      | false => exact Ev.no (by simp) (Ev.id (by unfold masB; rw [h1, h2, h3]; rfl))
      | true =>
        have hb : masB n x m y = true := by unfold masB; rw [h1, h2, h3]; rfl
        obtain ⟨_, _, e1, e2⟩ := masB_parts hb
        obtain ⟨a1, a2, _⟩ := pinsB_parts h1
        have hj := spec_keJoin.ev false n.toNat (by omega) x y m (by omega) (by omega) hx hy
        rw [show ((n.toNat : Nat) : Int) = n by omega] at hj
        refine Ev.yes rfl (Ev.bind hj (Ev.id ?_))
        rw [if_pos hb]
theorem impl_MasterPins.ev (n m : Int) (x y : List (List Int)) (hx : RowsV x) (hy : RowsV y) : Ev (fun k => impl_MasterPins.f k n x m y) (masV n x m y) := by
  unfold impl_MasterPins.f impl_MasterOf.f impl_ofKind.f masV
  have hv : ∀ p ∈ [(⟨n, x⟩ : S41), (⟨m, y⟩ : S41)], RowsV p.f1 := by
    intro p hp
    rcases List.mem_cons.mp hp with rfl | hp
    · exact hx
    · rcases List.mem_cons.mp hp with rfl | hp
      · exact hy
      · cases hp
  refine Ev.bindc rfl ?_
  rw [kindB_two]
  cases hb : masB n x m y with
  | false => exact Ev.no (by simp) (Ev.id (by simp))
  | true =>
    obtain ⟨h1, h2, e1, e2⟩ := masB_parts hb
    obtain ⟨a1, a2, _⟩ := pinsB_parts h1
    have hk : KindL n.toNat x.length [(⟨n, x⟩ : S41), (⟨m, y⟩ : S41)] := by
      refine ⟨by omega, a2.2, fun p hp => ?_⟩
      rcases List.mem_cons.mp hp with rfl | hp
      · exact ⟨by show n = _; omega, rfl, hx⟩
      · rcases List.mem_cons.mp hp with rfl | hp
        · exact ⟨by show m = _; omega, e2.symm, hy⟩
        · cases hp
    have hj := impl_master.ev _ n.toNat x.length (by show 0 < 2; omega) hk (by show 2 ≤ 1000; omega)
    rw [joinRows_two] at hj
    rw [show ((n.toNat : Nat) : Int) = n by omega] at hj
    refine Ev.yes rfl (Ev.bind hj (Ev.id ?_))
    rw [if_pos rfl]
set_option maxRecDepth 100000 in
theorem laws_FnExactMasterPins.walk0 (k : Nat) (n0 : Int) (L0 : List (List Int)) (n1 : Int) (L1 : List (List Int)) (r0 : Int) (A0 : Option Addr) (c0 : Nat) (A1 : Option Addr) (c1 : Nat) (w : World) (hr0 : Kd.C (Kd.slice 3 (Kd.int .i64)) w A0 L0.length L0) (hc0 : L0.length ≤ c0) (e1 : laws_szPins.f k n0 L0 1048576 = some r0) (h0 : r0 < 0) :
    Calls Try.prog 5 #[.agg #[.int .i64 n0, .slice A0 L0.length c0], .agg #[.int .i64 n1, .slice A1 L1.length c1]] w fun e w' => e = .returned (.bool true) ∧ Below w.heap.size w w' := by
  have hu37 := Try.underlying37
  have hu35 := Try.underlying35
  have hd0 : decide (r0 < 0) = true := decide_eq_true h0
  have E1 := amk e1
  have HC := amk hc0
  have HB := amk (((Below.refl w.heap.size w).alloc (Nat.le_refl _) (.cells #[.int .i64 n0, .slice A0 L0.length c0] 37 (0, 0))).alloc (by simp) (.cells #[.int .i64 n1, .slice A1 L1.length c1] 37 (0, 0)))
  have HR := amk (Kd.C_below hr0 HB.out)
  have BB := amk ((((Below.refl _ _).alloc (Nat.le_refl _) (.cells #[.int .i64 n1, .slice A1 L1.length c1] 37 (0, 0))).block w.heap.size (by simp)).trans (blk_new w (.cells #[.int .i64 n0, .slice A0 L0.length c0] 37 (0, 0))))
  clear e1 hc0 hr0 h0
  go_enter Try.func5, Try.ntmps5
  go_wp2_with (go_at_call 20; refine Calls.mono (laws_szPins.calls k n0 _ _ L0 _ r0 _ HR.out HC.out E1.out) ?_; rintro e w2 ⟨rfl, hb⟩; have HB2 := amk (HB.out.trans (hb.mono HB.out.size)); clear hb)
  go_ret
  exact ⟨rfl, HB2.out⟩
set_option maxRecDepth 100000 in
theorem laws_FnExactMasterPins.walk1 (k : Nat) (n0 : Int) (L0 : List (List Int)) (n1 : Int) (L1 : List (List Int)) (r0 r1 : Int) (A0 : Option Addr) (c0 : Nat) (A1 : Option Addr) (c1 : Nat) (w : World) (hr0 : Kd.C (Kd.slice 3 (Kd.int .i64)) w A0 L0.length L0) (hc0 : L0.length ≤ c0) (hr1 : Kd.C (Kd.slice 3 (Kd.int .i64)) w A1 L1.length L1) (hc1 : L1.length ≤ c1) (e1 : laws_szPins.f k n0 L0 1048576 = some r0) (h0 : 0 ≤ r0) (f1 : laws_szPins.f k n1 L1 r0 = some r1) (h1 : r1 < 0) :
    Calls Try.prog 5 #[.agg #[.int .i64 n0, .slice A0 L0.length c0], .agg #[.int .i64 n1, .slice A1 L1.length c1]] w fun e w' => e = .returned (.bool true) ∧ Below w.heap.size w w' := by
  have hu37 := Try.underlying37
  have hu35 := Try.underlying35
  have hd0 : decide (r0 < 0) = false := decide_eq_false (by omega)
  have hd1 : decide (r1 < 0) = true := decide_eq_true h1
  have E1 := amk e1
  have F1 := amk f1
  have HC0 := amk hc0
  have HC1 := amk hc1
  have HR0 := amk hr0
  have HR1 := amk hr1
  have HB := amk (((Below.refl w.heap.size w).alloc (Nat.le_refl _) (.cells #[.int .i64 n0, .slice A0 L0.length c0] 37 (0, 0))).alloc (by simp) (.cells #[.int .i64 n1, .slice A1 L1.length c1] 37 (0, 0)))
  have BB : Aside0 (((w.alloc (.cells #[.int .i64 n0, .slice A0 L0.length c0] 37 (0, 0))).alloc (.cells #[.int .i64 n1, .slice A1 L1.length c1] 37 (0, 0))).heap[w.heap.size + 1]? = some (.cells #[.int .i64 n1, .slice A1 L1.length c1] 37 (0, 0))) := ⟨by simpa using blk_new (w.alloc (.cells #[.int .i64 n0, .slice A0 L0.length c0] 37 (0, 0))) (.cells #[.int .i64 n1, .slice A1 L1.length c1] 37 (0, 0))⟩
  clear e1 hc0 hr0 h0 f1 hc1 hr1 h1
  go_enter Try.func5, Try.ntmps5
  go_wp2_with (go_at_call_of 20 (Value.int .i64 1048576); refine Calls.mono (laws_szPins.calls k n0 _ _ L0 _ r0 _ (Kd.C_below HR0.out HB.out) HC0.out E1.out) ?_; rintro e w2 ⟨rfl, hb⟩; have HB2 := amk (HB.out.trans (hb.mono HB.out.size)); have BB2 := amk ((hb.block _ (two_cells BB.out).2.2.2.2).trans BB.out); have hp0 := (two_cells BB2.out).1; have hp1 := (two_cells BB2.out).2.1; clear hb)
  go_wp2_with (go_at_call 20; refine Calls.mono (laws_szPins.calls k n1 _ _ L1 _ r1 _ (Kd.C_below HR1.out HB2.out) HC1.out F1.out) ?_; rintro e w3 ⟨rfl, hb⟩; have HB3 := amk (HB2.out.trans (hb.mono HB2.out.size)); clear hb)
  go_ret
  exact ⟨rfl, HB3.out⟩
theorem laws_FnExactMasterPins.calls (a0_0 : Int) (A0_1 : Option Addr) (c0_1 : Nat) (l0_1 : List (List Int)) (a1_0 : Int) (A1_1 : Option Addr) (c1_1 : Nat) (l1_1 : List (List Int)) (r : Bool) (w : World) (hr0_1 : Kd.C (Kd.slice 3 (Kd.int .i64)) w A0_1 l0_1.length l0_1) (hc0_1 : l0_1.length ≤ c0_1) (hr1_1 : Kd.C (Kd.slice 3 (Kd.int .i64)) w A1_1 l1_1.length l1_1) (hc1_1 : l1_1.length ≤ c1_1) (h : laws_FnExactMasterPins.f a0_0 l0_1 a1_0 l1_1 = some r) :
    Calls Try.prog 5 #[.agg #[.int .i64 a0_0, .slice A0_1 l0_1.length c0_1], .agg #[.int .i64 a1_0, .slice A1_1 l1_1.length c1_1]] w fun e w' => e = .returned (.bool r) ∧ Below w.heap.size w w' := by
  obtain rfl := Option.some.inj h
  have hV := C_rowsV hr0_1
  have hW := C_rowsV hr1_1
  obtain ⟨r0, he0, hf0⟩ := laws_szPins.evA a0_0 l0_1 hV 1048576 (by omega) (by omega)
  by_cases h0 : 0 ≤ r0
  · obtain ⟨ht0, hM0⟩ := hf0 h0
    obtain ⟨r1, he1, hf1⟩ := laws_szPins.evA a1_0 l1_1 hW r0 h0 (by omega)
    by_cases h1 : 0 ≤ r1
    · obtain ⟨ht1, hM1⟩ := hf1 h1
      obtain ⟨hs1, hs2, hs3⟩ := masV_small a0_0 a1_0 l0_1 l1_1
      obtain ⟨k1, e1⟩ := he0
      obtain ⟨q1, f1⟩ := he1
      obtain ⟨k2, e2⟩ := laws_toPins.ev a0_0 l0_1 hM0
      obtain ⟨q2, f2⟩ := laws_toPins.ev a1_0 l1_1 hM1
      obtain ⟨k3, e3⟩ := spec_MasterPins.ev a0_0 a1_0 l0_1 l1_1 hV hW
      obtain ⟨k4, e4⟩ := impl_MasterPins.ev a0_0 a1_0 l0_1 l1_1 hV hW
      obtain ⟨k5, e5⟩ := laws_eqPins.ev (masV a0_0 l0_1 a1_0 l1_1).1 (masV a0_0 l0_1 a1_0 l1_1).2.1 hs3
      obtain ⟨k6, e6⟩ := laws_eqPins.ev a0_0 l0_1 hV
      obtain ⟨q6, f6⟩ := laws_eqPins.ev a1_0 l1_1 hW
      obtain ⟨X', k7, e7⟩ := markRows_ev l0_1 1 (by omega) (by omega) (by omega)
      obtain ⟨Y', q7, f7⟩ := markRows_ev l1_1 (1 + (totL l0_1 : Int)) (by omega) (by omega) (by omega)
      obtain ⟨R', ⟨k8, e8⟩, k9, e9⟩ := laws_markPins.evH (masV a0_0 l0_1 a1_0 l1_1).1 (masV a0_0 l0_1 a1_0 l1_1).2.1 (by omega) (by omega)
      have hk : ∃ k, (k1 ≤ k ∧ q1 ≤ k ∧ k2 ≤ k ∧ q2 ≤ k ∧ k3 ≤ k ∧ k4 ≤ k ∧ k5 ≤ k) ∧ k6 ≤ k ∧ q6 ≤ k ∧ k7 ≤ k ∧ q7 ≤ k ∧ k8 ≤ k ∧ k9 ≤ k := ⟨k1 + q1 + k2 + q2 + k3 + k4 + k5 + k6 + q6 + k7 + q7 + k8 + k9, by omega⟩
      obtain ⟨k, ⟨i1, j1, i2, j2, i3, i4, i5⟩, i6, j6, i7, j7, i8, i9⟩ := hk
      exact laws_FnExactMasterPins.walk k a0_0 l0_1 a1_0 l1_1 (masV a0_0 l0_1 a1_0 l1_1).1 (masV a0_0 l0_1 a1_0 l1_1).2.1 R' X' Y' (masV a0_0 l0_1 a1_0 l1_1).2.2 r0 r1 _ _ _ A0_1 c0_1 A1_1 c1_1 w hr0_1 hc0_1 hr1_1 hc1_1 (e1 k i1) h0 (f1 k j1) h1 (e2 k i2) (f2 k j2) (e3 k i3) (e4 k i4) (e5 k i5) (e6 k i6) (f6 k j6) (e7 k i7) (f7 k j7) (by omega) (e8 k i8) (by omega) (e9 k i9)
    · obtain ⟨k1, e1⟩ := he0
      obtain ⟨q1, f1⟩ := he1
      have hk : ∃ k, k1 ≤ k ∧ q1 ≤ k := ⟨k1 + q1, by omega⟩
      obtain ⟨k, i1, j1⟩ := hk
      exact laws_FnExactMasterPins.walk1 k a0_0 l0_1 a1_0 l1_1 r0 r1 A0_1 c0_1 A1_1 c1_1 w hr0_1 hc0_1 hr1_1 hc1_1 (e1 k i1) h0 (f1 k j1) (by omega)
  · obtain ⟨k1, e1⟩ := he0
    exact laws_FnExactMasterPins.walk0 k1 a0_0 l0_1 a1_0 l1_1 r0 A0_1 c0_1 A1_1 c1_1 w hr0_1 hc0_1 (e1 k1 (Nat.le_refl _)) (by omega)
theorem pure_FnExactMasterPins (p : S37) (_ : V37 p) (q : S37) (_ : V37 q) : laws_FnExactMasterPins.f p.f0 p.f1 q.f0 q.f1 = some true := rfl
end Go.Proofs.Ytcnjiffoghganaa.P