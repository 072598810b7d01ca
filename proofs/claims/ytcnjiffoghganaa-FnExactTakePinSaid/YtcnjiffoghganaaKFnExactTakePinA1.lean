import Derived.Test.YtcnjiffoghganaaKFnExactTakePinA0
import Derived.Shelf.Abstract
import Derived.Lib.SliceRun
import Derived.Deep.RegionLaw
import Derived.Deep.RegionHeld3
import Derived.ProofKit
import Derived.Lib.SmallJoins
import Derived.Deep.Slices
import Derived.BigQuiet
namespace Go.Proofs.Ytcnjiffoghganaa.P
open Go.RowKit Go.Proofs.YtcnjiffoghganaaW.PrintWords Go.Proofs.YtcnjiffoghganaaW.PrintLast Go.Proofs.YtcnjiffoghganaaW.PrintMore
attribute [local go_sem] max2_int min2_int max_two min_two max_three min_three max_four min_four
set_option linter.unusedVariables false
set_option linter.unusedSimpArgs false
/-! ### impl_joined: function 101 -/
mutual
def impl_joined.l0 : Nat → List (S41) → Int → Int → Int → Int → List (List Int) → Option (Int × (List (List Int)))
  | 0, _, _, _, _, _, _ => none
  | k + 1, x0, x1, x21, x22, x355000, x355001 => if x22 < x21 then (impl_joined.l1 k x0 x1 x22 (([] : List Int)) x21 x22 x355000 0 x355000 x355001) else (some (x355000, x355001))
def impl_joined.l1 : Nat → List (S41) → Int → Int → List Int → Int → Int → Int → Int → Int → List (List Int) → Option (Int × (List (List Int)))
  | 0, _, _, _, _, _, _, _, _, _, _ => none
  | k + 1, x0, x1, x6, x7, x21, x22, x27, x28, x355000, x355001 => if x28 < x27 then (impl_joined.l2 k x0 x1 x6 x7 x28 0 x21 x22 x27 x28 x0 (x0.length : Int) 0 x355000 x355001) else (if x355001.length < 5864062014805 then (impl_joined.l0 k x0 x1 x21 (wrap64 (x22 + 1)) x355000 (x355001 ++ [x7])) else (none))
def impl_joined.l2 : Nat → List (S41) → Int → Int → List Int → Int → Int → Int → Int → Int → Int → List (S41) → Int → Int → Int → List (List Int) → Option (Int × (List (List Int)))
  | 0, _, _, _, _, _, _, _, _, _, _, _, _, _, _, _ => none
  | k + 1, x0, x1, x6, x7, x8, x9, x21, x22, x27, x28, x31, x32, x33, x355000, x355001 => if x33 < x32 then (if 0 ≤ x33 then (if x33 < (x31.length : Int) then (if 0 ≤ x6 then (if x6 < (((rd_T41 x31 x33).f1).length : Int) then ((slices_Contains_int_int.f k (rd_L5 ((rd_T41 x31 x33).f1) x6) x8).bind fun t365 => (if t365 = true then (impl_joined.l2 k x0 x1 x6 x7 x8 (wrap64 (x9 + 1)) x21 x22 x27 x28 x31 x32 (wrap64 (x33 + 1)) x355000 x355001) else (impl_joined.l2 k x0 x1 x6 x7 x8 x9 x21 x22 x27 x28 x31 x32 (wrap64 (x33 + 1)) x355000 x355001))) else (none)) else (none)) else (none)) else (none)) else (if x9 ≥ x1 then (if x7.length < 17592186044416 then (impl_joined.l1 k x0 x1 x6 (x7 ++ [x8]) x21 x22 x27 (wrap64 (x28 + 1)) x355000 x355001) else (none)) else (impl_joined.l1 k x0 x1 x6 x7 x21 x22 x27 (wrap64 (x28 + 1)) x355000 x355001))
end
def impl_joined.f (k : Nat) (l0 : List (S41)) (a1 : Int) : Option (Int × (List (List Int))) := if 0 < (l0.length : Int) then (impl_joined.l0 k l0 a1 (((rd_T41 l0 0).f1).length : Int) 0 ((rd_T41 l0 0).f0) ([] : List (List Int))) else (none)
set_option maxHeartbeats 8000000 in
set_option maxRecDepth 100000 in
theorem impl_joined.calls (k : Nat) (A0 : Option Addr) (c0 : Nat) (l0 : List (S41)) (a1 : Int) (r1 : Int) (r2 : List (List Int)) (w : World) (hr0 : Kd.C k41 w A0 l0.length l0) (hc0 : l0.length ≤ c0) (h : impl_joined.f k l0 a1 = some (r1, r2)) :
    Calls Try.prog 101 #[.slice A0 l0.length c0, .int .i64 a1] w fun e w' => ∃ v1_ : Value, e = .returned (.agg #[.int .i64 r1, v1_]) ∧ Kd.S (Kd.slice 3 (Kd.int .i64)) 86 w' w.heap.size (fun _ => True) v1_ r2 ∧ Below w.heap.size w w' := by
  have hu41 := Try.underlying41
  have HR0 := amk hr0
  have HC0 := amk hc0
  clear hr0 hc0
  have HB := amk (Below.refl w.heap.size w)
  have H : (if 0 < (l0.length : Int) then (impl_joined.l0 k l0 a1 (((rd_T41 l0 0).f1).length : Int) 0 ((rd_T41 l0 0).f0) ([] : List (List Int))) else (none)) = some (r1, r2) := h
  clear h
  by_cases c3 : 0 < (l0.length : Int)
  · rw [if_pos c3] at H
    have c3b0 : decide (0 < (l0.length : Int)) = true := decide_eq_true c3
    have c3b1 : decide (0 < l0.length) = true := decide_eq_true (by omega)
    clear c3
    have H' := amk H
    clear H
    go_enter Try.func101, Try.ntmps101
    go_wp2_with (first | ((with_reducible refine gate_dst (N := 4) rfl ?_); refine box_event ?hg (N := 4) ?hd (cs := #[.int .i64 0, .slice none 0 0]) (t := 41) ?hr ?_; (case hd => rfl); (case hg => rfl); (case hr => first | (go_simp; done) | (go_simp; rfl)); intro gb352 hg w4 hbox hb; have n0_ := amk (bp_ (by repeat (first | (with_reducible first | exact HB.out | apply ba_ | apply bn_ | apply bd_) | exact HB.out)) hb); have n1_ := amk (hbox); have n2_ := amk ((by rw [hg]; exact (below_size (by repeat (first | (with_reducible first | exact HB.out | apply ba_ | apply bn_ | apply bd_) | exact HB.out))) : w.heap.size ≤ gb352)); have n3_ := amk ((by rw [hg]; exact (below_size (by repeat (first | (with_reducible first | exact HB.out | apply ba_ | apply bn_ | apply bd_) | exact HB.out))) : w.heap.size ≤ gb352)); clear HB; have HB := n0_; have BK352 := n1_; have GW352 := n2_; have GE352 := n3_; clear n0_ n1_ n2_ n3_; clear hb hbox hg; have p353 : 0 ≤ (0 : Int) := (by omega); have q353 : 0 < (l0.length : Int) := of_decide_eq_true (by first | (with_reducible assumption) | assumption); obtain ⟨ad353, A353_1, c353_1, e353, hx353_0, hx353_1, hl353_1, hi353_1⟩ := at_T41 HR0.out 0 p353 q353; cases e353; have qi353 : (0 < l0.length) = True := eq_true (by omega); (try rw [show ((0 : Int)).toNat = 0 from rfl] at hx353_0); (try rw [show 0 * 2 = 0 from rfl] at hx353_0); (try rw [Addr.add_zero'] at hx353_0); (try rw [show ((0 : Int)).toNat = 0 from rfl] at hx353_1); (try rw [show 0 * 2 = 0 from rfl] at hx353_1); (try rw [Addr.add_zero'] at hx353_1); replace hx353_0 := (HB.out.cell (World.block_lt_of_cell? w _ hx353_0)).trans hx353_0; replace hx353_1 := (HB.out.cell (World.block_lt_of_cell? w _ hx353_1)).trans hx353_1; have HR353_1 := amk hi353_1; have HC353_1 := amk hl353_1; clear hi353_1 hl353_1; replace p353 := eq_true p353; replace q353 := eq_true q353) | ((with_reducible refine gate_dst (N := 5) rfl ?_); refine box_event ?hg (N := 5) ?hd (cs := #[.int .i64 0, .slice none 0 0]) (t := 41) ?hr ?_; (case hd => rfl); (case hg => rfl); (case hr => first | (go_simp; done) | (go_simp; rfl)); intro gb354 hg w5 hbox hb; have n0_ := amk (blk_below (g := gb352) (o := .cells #[.int .i64 0, .slice none 0 0] 41 (0, 0)) (by (with_reducible repeat (first | refine kn_ ?_ _ | refine blk_drew ?_ | refine ka_ ?_ _)); exact BK352.out) hb); have n1_ := amk (bp_ (by repeat (first | (with_reducible first | exact HB.out | apply ba_ | apply bn_ | apply bd_ | refine bs_ ?_ GE352.out) | exact HB.out)) hb); have n2_ := amk (hbox); have n3_ := amk ((by rw [hg]; exact (below_size (by repeat (first | (with_reducible first | exact HB.out | apply ba_ | apply bn_ | apply bd_ | refine bs_ ?_ GE352.out) | exact HB.out))) : w.heap.size ≤ gb354)); have n4_ := amk ((by rw [hg]; exact (below_size (by repeat (first | (with_reducible first | exact HB.out | apply ba_ | apply bn_ | apply bd_ | refine bs_ ?_ GE352.out) | exact HB.out))) : w.heap.size ≤ gb354)); have n5_ := amk ((by rw [hg]; exact Nat.ne_of_lt (blk_lt (g := gb352) (o := .cells #[.int .i64 0, .slice none 0 0] 41 (0, 0)) (by (with_reducible repeat (first | refine kn_ ?_ _ | refine blk_drew ?_ | refine ka_ ?_ _)); exact BK352.out)) : gb352 ≠ gb354)); have n6_ := amk ((by rw [hg]; exact Nat.ne_of_gt (blk_lt (g := gb352) (o := .cells #[.int .i64 0, .slice none 0 0] 41 (0, 0)) (by (with_reducible repeat (first | refine kn_ ?_ _ | refine blk_drew ?_ | refine ka_ ?_ _)); exact BK352.out)) : gb354 ≠ gb352)); clear BK352; clear HB; have BK352 := n0_; have HB := n1_; have BK354 := n2_; have GW354 := n3_; have GE354 := n4_; have NB352_354 := n5_; have NB354_352 := n6_; clear n0_ n1_ n2_ n3_ n4_ n5_ n6_; clear hb hbox hg; have hnb6 := NB354_352.out; have hnc6 := NB352_354.out; have hcz7_0 : w5.cell? ⟨gb354, 0, none⟩ = some (.int .i64 0) := (blk_cell BK354.out 0).trans rfl; have hcz7_1 : w5.cell? ⟨gb354, 1, none⟩ = some (.slice none 0 0) := (blk_cell BK354.out 1).trans rfl; have hfz7_0 := blk_frozen BK354.out 0; have hfz7_1 := blk_frozen BK354.out 1; have p355 : 0 ≤ (0 : Int) := (by omega); have q355 : 0 < (l0.length : Int) := of_decide_eq_true (by first | (with_reducible assumption) | assumption); obtain ⟨ad355, A355_1, c355_1, e355, hx355_0, hx355_1, hl355_1, hi355_1⟩ := at_T41 HR0.out 0 p355 q355; obtain rfl : ad353 = ad355 := (by injection e355); have qi355 : (0 < l0.length) = True := eq_true (by omega); (try rw [show ((0 : Int)).toNat = 0 from rfl] at hx355_0); (try rw [show 0 * 2 = 0 from rfl] at hx355_0); (try rw [Addr.add_zero'] at hx355_0); (try rw [show ((0 : Int)).toNat = 0 from rfl] at hx355_1); (try rw [show 0 * 2 = 0 from rfl] at hx355_1); (try rw [Addr.add_zero'] at hx355_1); have hn355_0 : ad353.block ≠ gb354 := Nat.ne_of_lt (Nat.lt_of_lt_of_le (by have := World.block_lt_of_cell? _ _ hx355_0; first | rwa [add_block] at this | exact this) GW354.out); have hn355_1 : ad353.block ≠ gb354 := Nat.ne_of_lt (Nat.lt_of_lt_of_le (by have := World.block_lt_of_cell? _ _ hx355_0; first | rwa [add_block] at this | exact this) GW354.out); replace hx355_0 := (HB.out.cell (World.block_lt_of_cell? w _ hx355_0)).trans hx355_0; replace hx355_1 := (HB.out.cell (World.block_lt_of_cell? w _ hx355_1)).trans hx355_1; have HR355_1 := amk hi355_1; have HC355_1 := amk hl355_1; clear hi355_1 hl355_1; replace hx355_0 := (cell_far (p := ⟨gb354, 0, none⟩) (by first | (rw [add_block]; exact hn355_0) | (show (Addr.add _ _).block ≠ _; rw [add_block]; exact hn355_0) | exact hn355_0) (.int .i64 ((rd_T41 l0 0).f0))).trans hx355_0; replace hx355_1 := (cell_far (p := ⟨gb354, 0, none⟩) (by first | (rw [add_block]; exact hn355_0) | (show (Addr.add _ _).block ≠ _; rw [add_block]; exact hn355_0) | exact hn355_0) (.int .i64 ((rd_T41 l0 0).f0))).trans hx355_1; replace hx355_0 := (cell_far (p := ⟨gb354, 1, none⟩) (by first | (rw [add_block]; exact hn355_1) | (show (Addr.add _ _).block ≠ _; rw [add_block]; exact hn355_1) | exact hn355_1) (.slice none 0 0)).trans hx355_0; replace hx355_1 := (cell_far (p := ⟨gb354, 1, none⟩) (by first | (rw [add_block]; exact hn355_1) | (show (Addr.add _ _).block ≠ _; rw [add_block]; exact hn355_1) | exact hn355_1) (.slice none 0 0)).trans hx355_1; clear hn355_0; clear hn355_1; replace p355 := eq_true p355; replace q355 := eq_true q355))
    go_loopg [22] k (fun kq v22 w' => ∃ (x22_1 : Int) (x355001_1 : List (List Int)) (u355001 : Value), v22 = .int .i64 x22_1 ∧ Aside0 (impl_joined.l0 kq l0 a1 (((rd_T41 l0 0).f1).length : Int) x22_1 ((rd_T41 l0 0).f0) x355001_1 = some (r1, r2)) ∧ Aside0 (kq ≤ k) ∧ Aside0 (Kd.S (Kd.slice 3 (Kd.int .i64)) 86 w' w.heap.size (fun _ => True) u355001 x355001_1) ∧ Aside0 (w'.heap[gb352]? = some (.cells #[.int .i64 0, (.slice none 0 0)] 41 (0, 0))) ∧ Aside0 (w'.heap[gb354]? = some (.cells #[.int .i64 ((rd_T41 l0 0).f0), u355001] 41 (0, 0))) ∧ Aside0 (Below w.heap.size w w'))
    case atStart => exact ⟨(0), (([] : List (List Int))), (.slice none 0 0), (by first | rfl | (simp; done) | (simp [*]; done)), H', ⟨Nat.le_refl _⟩, ⟨by first | exact Kd.S_nil _ _ _ _ _ | exact Kd.N_nil _ _ _ _ _ | exact Kd.V_nil _ _ _ _ _ | exact Kd.Q_nil _ _ _ _ _ | exact Kd.R_nil _ _ _ _ _⟩, ⟨by (with_reducible repeat (first | refine kn_ ?_ _ | refine blk_drew ?_ | refine ka_ ?_ _)); refine blk_far ?_ NB352_354.out _; (with_reducible repeat (first | refine kn_ ?_ _ | refine blk_drew ?_ | refine ka_ ?_ _)); refine blk_far ?_ NB352_354.out _; (with_reducible repeat (first | refine kn_ ?_ _ | refine blk_drew ?_ | refine ka_ ?_ _)); exact BK352.out⟩, ⟨by (with_reducible repeat (first | refine kn_ ?_ _ | refine blk_drew ?_ | refine ka_ ?_ _)); refine blk_put (cs := #[.int .i64 ((rd_T41 l0 0).f0), .slice none 0 0]) ?_ 1 _ rfl; (with_reducible repeat (first | refine kn_ ?_ _ | refine blk_drew ?_ | refine ka_ ?_ _)); refine blk_put (cs := #[.int .i64 0, .slice none 0 0]) ?_ 0 _ rfl; (with_reducible repeat (first | refine kn_ ?_ _ | refine blk_drew ?_ | refine ka_ ?_ _)); exact BK354.out⟩, ⟨by repeat (first | (with_reducible first | exact HB.out | apply ba_ | apply bn_ | apply bd_ | refine bs_ ?_ GE352.out | refine bs_ ?_ GE354.out) | exact HB.out)⟩⟩
    case round =>
      clear H'
      try clear c1; try clear p2; try clear c3; try clear c3b0; try clear c3b1; try clear p3; try clear q3; try clear hx3; try clear qi3; try clear c6; try clear hcz7_0; try clear hcz7_1; try clear hfz7_0; try clear hfz7_1; try clear hx353_0; try clear hx353_1; try clear hx355_0; try clear hx355_1; try clear p353; try clear p355; try clear q353; try clear q355
      obtain ⟨x22_1, x355001_1, u355001, rfl, HA, HK1, HO_355001, BK352, BK354, HB⟩ := hrel
      cases gk with
      | zero => exact absurd HA.out (by simp [impl_joined.l0])
      | succ k1 =>
        have H := HA.out
        clear HA
        simp only [impl_joined.l0] at H
        by_cases c8 : x22_1 < (((rd_T41 l0 0).f1).length : Int)
        · rw [if_pos c8] at H
          have c8b0 : decide (x22_1 < (((rd_T41 l0 0).f1).length : Int)) = true := decide_eq_true c8
          clear c8
          obtain ⟨y356, hy356⟩ : ∃ y_ : List Int, y_ = (([] : List Int)) := ⟨_, rfl⟩
          replace H : (impl_joined.l1 k1 l0 a1 x22_1 y356 (((rd_T41 l0 0).f1).length : Int) x22_1 ((rd_T41 l0 0).f0) 0 ((rd_T41 l0 0).f0) x355001_1) = some (r1, r2) := by first | (rw [hy356]; with_reducible exact H) | (have H2_ := (Option.bind_some _ _).symm.trans H; rw [hy356]; with_reducible exact H2_) | (have H2_ := (Option.bind_some _ _).symm.trans H; with_reducible exact H2_) | with_reducible exact H | (rw [hy356]; exact H) | exact H
          have Ny356 := amk hy356
          clear hy356
          have H' := amk H
          clear H
          go_wp2_with (first | ((with_reducible refine gate_dst (N := 25) rfl ?_); refine Kd.R_lit (Kd.int .i64) _ 3 ?hg (N := 25) ?hd (xs := ([] : List Int)) (inner := []) (ok := fun _ => True) (okp := fun _ => True) ?hr ?hp (fun _ hk => hk) trivial (Below.refl _ _) (Nat.le_refl _) (by simp) ?_; (case hd => rfl); (case hg => rfl); (case hr => first | (go_simp; done) | (go_simp; rfl)); (case hp => exact (Reps.none _ _)); intro v357 w9 ho10 hb hg_ hnew_; clear hg_ hnew_; (first | rw [← Ny356.out] at ho10 | (simp only [Int.reduceToNat] at ho10; rw [← Ny356.out] at ho10)); have n0_ := amk (Kd.S_elder' (by (with_reducible repeat (first | apply Kd.S_alloc | apply Kd.S_drewN | apply Kd.S_drew)); exact HO_355001.out) (Kd.R_base ho10) hb); have n1_ := amk (Kd.R_lower ho10 (below_size (by repeat (first | (with_reducible first | exact HB.out | apply ba_ | apply bn_ | apply bd_ | refine bs_ ?_ GE352.out | refine bs_ ?_ GE354.out) | exact HB.out)))); have n2_ := amk (blk_below (g := gb352) (o := .cells #[.int .i64 0, .slice none 0 0] 41 (0, 0)) (by (with_reducible repeat (first | refine kn_ ?_ _ | refine blk_drew ?_ | refine ka_ ?_ _)); exact BK352.out) hb); have n3_ := amk (blk_below (g := gb354) (o := .cells #[.int .i64 ((rd_T41 l0 0).f0), u355001] 41 (0, 0)) (by (with_reducible repeat (first | refine kn_ ?_ _ | refine blk_drew ?_ | refine ka_ ?_ _)); exact BK354.out) hb); have n4_ := amk (bp_ (by repeat (first | (with_reducible first | exact HB.out | apply ba_ | apply bn_ | apply bd_ | refine bs_ ?_ GE352.out | refine bs_ ?_ GE354.out) | exact HB.out)) hb); clear HO_355001; clear BK352; clear BK354; clear HB; have HO_355001 := n0_; have HO358 := n1_; have BK352 := n2_; have BK354 := n3_; have HB := n4_; clear n0_ n1_ n2_ n3_ n4_; clear hb ho10; have hnb11 := NB354_352.out; have hnc11 := NB352_354.out; have hcz12_0 : w9.cell? ⟨gb354, 0, none⟩ = some (.int .i64 ((rd_T41 l0 0).f0)) := (blk_cell BK354.out 0).trans rfl; have hcz12_1 : w9.cell? ⟨gb354, 1, none⟩ = some (u355001) := (blk_cell BK354.out 1).trans rfl; have hfz12_0 := blk_frozen BK354.out 0; have hfz12_1 := blk_frozen BK354.out 1))
          go_loopg [7, 28] k1 (fun kq v7 v28 w' => ∃ (x7_2 : List Int) (x28_2 : Int), v28 = .int .i64 x28_2 ∧ Aside0 (impl_joined.l1 kq l0 a1 x22_1 x7_2 (((rd_T41 l0 0).f1).length : Int) x22_1 ((rd_T41 l0 0).f0) x28_2 ((rd_T41 l0 0).f0) x355001_1 = some (r1, r2)) ∧ Aside0 (kq ≤ k1) ∧ Aside0 (Kd.R (Kd.int .i64) 3 w' w.heap.size (fun _ => True) v7 x7_2) ∧ Aside0 (Kd.S (Kd.slice 3 (Kd.int .i64)) 86 w' w.heap.size (fun k_ => some k_ ≠ (v7 : Value).ownBlock) u355001 x355001_1) ∧ Aside0 (w'.heap[gb352]? = some (.cells #[.int .i64 0, (.slice none 0 0)] 41 (0, 0))) ∧ Aside0 (w'.heap[gb354]? = some (.cells #[.int .i64 ((rd_T41 l0 0).f0), u355001] 41 (0, 0))) ∧ Aside0 (Below w.heap.size w w'))
          case atStart => exact ⟨(y356), (0), (by first | rfl | (simp; done) | (simp [*]; done)), H', ⟨Nat.le_refl _⟩, ⟨by (with_reducible repeat (first | apply Kd.R_alloc | apply Kd.R_drewN | apply Kd.R_drew)); exact HO358.out⟩, ⟨by (with_reducible repeat (first | apply Kd.S_alloc | apply Kd.S_drewN | apply Kd.S_drew)); exact Kd.S_mono HO_355001.out (fun _ hk => hk.2)⟩, ⟨by (with_reducible repeat (first | refine kn_ ?_ _ | refine blk_drew ?_ | refine ka_ ?_ _)); exact BK352.out⟩, ⟨by (with_reducible repeat (first | refine kn_ ?_ _ | refine blk_drew ?_ | refine ka_ ?_ _)); exact BK354.out⟩, ⟨by repeat (first | (with_reducible first | exact HB.out | apply ba_ | apply bn_ | apply bd_ | refine bs_ ?_ GE352.out | refine bs_ ?_ GE354.out) | exact HB.out)⟩⟩
          case round =>
            clear H'
            try clear c1; try clear p2; try clear c3; try clear c3b0; try clear c3b1; try clear p3; try clear q3; try clear hx3; try clear qi3; try clear c6; try clear c8; try clear c8b0; try clear c10; try clear c11; try clear hcz12_0; try clear hcz12_1; try clear hcz7_0; try clear hcz7_1; try clear hfz12_0; try clear hfz12_1; try clear hfz7_0; try clear hfz7_1; try clear hx353_0; try clear hx353_1; try clear hx355_0; try clear hx355_1; try clear p2; try clear p3; try clear p353; try clear p355; try clear q3; try clear q353; try clear q355
            obtain ⟨x7_2, x28_2, rfl, HA, HK2, HO_7, HO_355001, BK352, BK354, HB⟩ := hrel
            cases gk with
            | zero => exact absurd HA.out (by simp [impl_joined.l1])
            | succ k2 =>
              have H := HA.out
              clear HA
              simp only [impl_joined.l1] at H
              by_cases c13 : x28_2 < ((rd_T41 l0 0).f0)
              · rw [if_pos c13] at H
                have c13b0 : decide (x28_2 < ((rd_T41 l0 0).f0)) = true := decide_eq_true c13
                clear c13
                have H' := amk H
                clear H
                go_wp2
                go_loopg [9, 33] k2 (fun kq v9 v33 w' => ∃ (x9_3 : Int) (x33_3 : Int), v9 = .int .i64 x9_3 ∧ v33 = .int .i64 x33_3 ∧ Aside0 (impl_joined.l2 kq l0 a1 x22_1 x7_2 x28_2 x9_3 (((rd_T41 l0 0).f1).length : Int) x22_1 ((rd_T41 l0 0).f0) x28_2 l0 (l0.length : Int) x33_3 ((rd_T41 l0 0).f0) x355001_1 = some (r1, r2)) ∧ Aside0 (kq ≤ k2) ∧ Aside0 (Kd.R (Kd.int .i64) 3 w' w.heap.size (fun _ => True) u7 x7_2) ∧ Aside0 (Kd.S (Kd.slice 3 (Kd.int .i64)) 86 w' w.heap.size (fun k_ => some k_ ≠ (u7 : Value).ownBlock) u355001 x355001_1) ∧ Aside0 (w'.heap[gb352]? = some (.cells #[.int .i64 0, (.slice none 0 0)] 41 (0, 0))) ∧ Aside0 (w'.heap[gb354]? = some (.cells #[.int .i64 ((rd_T41 l0 0).f0), u355001] 41 (0, 0))) ∧ Aside0 (Below w.heap.size w w'))
                case atStart => exact ⟨(0), (0), (by first | rfl | (simp; done) | (simp [*]; done)), (by first | rfl | (simp; done) | (simp [*]; done)), H', ⟨Nat.le_refl _⟩, ⟨by (with_reducible repeat (first | apply Kd.R_alloc | apply Kd.R_drewN | apply Kd.R_drew)); exact HO_7.out⟩, ⟨by (with_reducible repeat (first | apply Kd.S_alloc | apply Kd.S_drewN | apply Kd.S_drew)); exact HO_355001.out⟩, ⟨by (with_reducible repeat (first | refine kn_ ?_ _ | refine blk_drew ?_ | refine ka_ ?_ _)); exact BK352.out⟩, ⟨by (with_reducible repeat (first | refine kn_ ?_ _ | refine blk_drew ?_ | refine ka_ ?_ _)); exact BK354.out⟩, ⟨by repeat (first | (with_reducible first | exact HB.out | apply ba_ | apply bn_ | apply bd_ | refine bs_ ?_ GE352.out | refine bs_ ?_ GE354.out) | exact HB.out)⟩⟩
                case round =>
                  clear H'
                  try clear c1; try clear p2; try clear c3; try clear c3b0; try clear c3b1; try clear p3; try clear q3; try clear hx3; try clear qi3; try clear c6; try clear c8; try clear c8b0; try clear c10; try clear c11; try clear c13; try clear c13b0; try clear hcz12_0; try clear hcz12_1; try clear hcz7_0; try clear hcz7_1; try clear hfz12_0; try clear hfz12_1; try clear hfz7_0; try clear hfz7_1; try clear hx353_0; try clear hx353_1; try clear hx355_0; try clear hx355_1; try clear p2; try clear p3; try clear p353; try clear p355; try clear q3; try clear q353; try clear q355
                  obtain ⟨x9_3, x33_3, rfl, rfl, HA, HK3, HO_7, HO_355001, BK352, BK354, HB⟩ := hrel
                  cases gk with
                  | zero => exact absurd HA.out (by simp [impl_joined.l2])
                  | succ k3 =>
                    have H := HA.out
                    clear HA
                    simp only [impl_joined.l2] at H
                    by_cases c14 : x33_3 < (l0.length : Int)
                    · rw [if_pos c14] at H
                      have c14b0 : decide (x33_3 < (l0.length : Int)) = true := decide_eq_true c14
                      clear c14
                      by_cases c15 : 0 ≤ x33_3
                      · rw [if_pos c15] at H
                        have c15b0 : decide (0 ≤ x33_3) = true := decide_eq_true c15
                        clear c15
                        by_cases c16 : x33_3 < (l0.length : Int)
                        · rw [if_pos c16] at H
                          have c16b0 : decide (x33_3 < (l0.length : Int)) = true := decide_eq_true c16
                          clear c16
                          by_cases c17 : 0 ≤ x22_1
                          · rw [if_pos c17] at H
                            have c17b0 : decide (0 ≤ x22_1) = true := decide_eq_true c17
                            clear c17
                            by_cases c18 : x22_1 < (((rd_T41 l0 x33_3).f1).length : Int)
                            · rw [if_pos c18] at H
                              have c18b0 : decide (x22_1 < (((rd_T41 l0 x33_3).f1).length : Int)) = true := decide_eq_true c18
                              clear c18
                              replace H := Option.bind_eq_some_iff.mp H
                              obtain ⟨t365, A190, H⟩ := H
                              replace H : (if t365 = true then (impl_joined.l2 k3 l0 a1 x22_1 x7_2 x28_2 (wrap64 (x9_3 + 1)) (((rd_T41 l0 0).f1).length : Int) x22_1 ((rd_T41 l0 0).f0) x28_2 l0 (l0.length : Int) (wrap64 (x33_3 + 1)) ((rd_T41 l0 0).f0) x355001_1) else (impl_joined.l2 k3 l0 a1 x22_1 x7_2 x28_2 x9_3 (((rd_T41 l0 0).f1).length : Int) x22_1 ((rd_T41 l0 0).f0) x28_2 l0 (l0.length : Int) (wrap64 (x33_3 + 1)) ((rd_T41 l0 0).f0) x355001_1)) = some (r1, r2) := H
                              have A19 := amk A190
                              clear A190
                              by_cases c20 : t365 = true
                              · subst c20
                                have H1 : (impl_joined.l2 k3 l0 a1 x22_1 x7_2 x28_2 (wrap64 (x9_3 + 1)) (((rd_T41 l0 0).f1).length : Int) x22_1 ((rd_T41 l0 0).f0) x28_2 l0 (l0.length : Int) (wrap64 (x33_3 + 1)) ((rd_T41 l0 0).f0) x355001_1) = some (r1, r2) := by rw [if_pos rfl] at H; exact H
                                clear H
                                have H := H1
                                clear H1
                                have H' := amk H
                                clear H
                                have p362 : 0 ≤ (x33_3 : Int) := of_decide_eq_true (by first | (with_reducible assumption) | assumption)
                                have q362 : x33_3 < (l0.length : Int) := of_decide_eq_true (by first | (with_reducible assumption) | assumption)
                                obtain ⟨ad362, A362_1, c362_1, e362, hx362_0, hx362_1, hl362_1, hi362_1⟩ := at_T41 HR0.out x33_3 p362 q362
                                obtain rfl : ad353 = ad362 := (by injection e362)
                                replace hx362_0 := (HB.out.cell (World.block_lt_of_cell? w _ hx362_0)).trans hx362_0
                                replace hx362_1 := (HB.out.cell (World.block_lt_of_cell? w _ hx362_1)).trans hx362_1
                                have HR362_1 := amk hi362_1
                                have HC362_1 := amk hl362_1
                                clear hi362_1 hl362_1
                                replace p362 := eq_true p362
                                replace q362 := eq_true q362
                                go_wp2_with (first | ((with_reducible refine gate_dst (N := 11) rfl ?_); refine box_event ?hg (N := 11) ?hd (cs := #[.int .i64 0, .slice none 0 0]) (t := 41) ?hr ?_; (case hd => rfl); (case hg => rfl); (case hr => first | (go_simp; done) | (go_simp; rfl)); intro gb363 hg w21 hbox hb; have n0_ := amk (Kd.R_below (by (with_reducible repeat (first | apply Kd.R_alloc | apply Kd.R_drewN | apply Kd.R_drew)); exact HO_7.out) hb); have n1_ := amk (Kd.S_below (by (with_reducible repeat (first | apply Kd.S_alloc | apply Kd.S_drewN | apply Kd.S_drew)); exact HO_355001.out) hb); have n2_ := amk (blk_below (g := gb352) (o := .cells #[.int .i64 0, .slice none 0 0] 41 (0, 0)) (by (with_reducible repeat (first | refine kn_ ?_ _ | refine blk_drew ?_ | refine ka_ ?_ _)); exact BK352.out) hb); have n3_ := amk (blk_below (g := gb354) (o := .cells #[.int .i64 ((rd_T41 l0 0).f0), u355001] 41 (0, 0)) (by (with_reducible repeat (first | refine kn_ ?_ _ | refine blk_drew ?_ | refine ka_ ?_ _)); exact BK354.out) hb); have n4_ := amk (bp_ (by repeat (first | (with_reducible first | exact HB.out | apply ba_ | apply bn_ | apply bd_ | refine bs_ ?_ GE352.out | refine bs_ ?_ GE354.out) | exact HB.out)) hb); have n5_ := amk (hbox); have n6_ := amk ((by rw [hg]; exact (below_size (by repeat (first | (with_reducible first | exact HB.out | apply ba_ | apply bn_ | apply bd_ | refine bs_ ?_ GE352.out | refine bs_ ?_ GE354.out) | exact HB.out))) : w.heap.size ≤ gb363)); have n7_ := amk ((by rw [hg]; exact (below_size (by repeat (first | (with_reducible first | exact HB.out | apply ba_ | apply bn_ | apply bd_ | refine bs_ ?_ GE352.out | refine bs_ ?_ GE354.out) | exact HB.out))) : w.heap.size ≤ gb363)); have n8_ := amk ((by rw [hg]; exact Nat.ne_of_lt (blk_lt (g := gb352) (o := .cells #[.int .i64 0, .slice none 0 0] 41 (0, 0)) (by (with_reducible repeat (first | refine kn_ ?_ _ | refine blk_drew ?_ | refine ka_ ?_ _)); exact BK352.out)) : gb352 ≠ gb363)); have n9_ := amk ((by rw [hg]; exact Nat.ne_of_gt (blk_lt (g := gb352) (o := .cells #[.int .i64 0, .slice none 0 0] 41 (0, 0)) (by (with_reducible repeat (first | refine kn_ ?_ _ | refine blk_drew ?_ | refine ka_ ?_ _)); exact BK352.out)) : gb363 ≠ gb352)); have n10_ := amk ((by rw [hg]; exact Nat.ne_of_lt (blk_lt (g := gb354) (o := .cells #[.int .i64 ((rd_T41 l0 0).f0), u355001] 41 (0, 0)) (by (with_reducible repeat (first | refine kn_ ?_ _ | refine blk_drew ?_ | refine ka_ ?_ _)); exact BK354.out)) : gb354 ≠ gb363)); have n11_ := amk ((by rw [hg]; exact Nat.ne_of_gt (blk_lt (g := gb354) (o := .cells #[.int .i64 ((rd_T41 l0 0).f0), u355001] 41 (0, 0)) (by (with_reducible repeat (first | refine kn_ ?_ _ | refine blk_drew ?_ | refine ka_ ?_ _)); exact BK354.out)) : gb363 ≠ gb354)); clear HO_7; clear HO_355001; clear BK352; clear BK354; clear HB; have HO_7 := n0_; have HO_355001 := n1_; have BK352 := n2_; have BK354 := n3_; have HB := n4_; have BK363 := n5_; have GW363 := n6_; have GE363 := n7_; have NB352_363 := n8_; have NB363_352 := n9_; have NB354_363 := n10_; have NB363_354 := n11_; clear n0_ n1_ n2_ n3_ n4_ n5_ n6_ n7_ n8_ n9_ n10_ n11_; clear hb hbox hg; have hnb22 := NB363_352.out; have hnc22 := NB352_363.out; have hnb23 := NB363_354.out; have hnc23 := NB354_363.out; have hcz24_0 : w21.cell? ⟨gb363, 0, none⟩ = some (.int .i64 0) := (blk_cell BK363.out 0).trans rfl; have hcz24_1 : w21.cell? ⟨gb363, 1, none⟩ = some (.slice none 0 0) := (blk_cell BK363.out 1).trans rfl; have hfz24_0 := blk_frozen BK363.out 0; have hfz24_1 := blk_frozen BK363.out 1; have p364 : 0 ≤ (x22_1 : Int) := of_decide_eq_true (by first | (with_reducible assumption) | assumption); have q364 : x22_1 < (((rd_T41 l0 x33_3).f1).length : Int) := of_decide_eq_true (by first | (with_reducible assumption) | assumption); obtain ⟨ad364, A364_0, c364_0, e364, hx364_0, hl364_0, hi364_0⟩ := at_L5 HR362_1.out x22_1 p364 q364; cases e364; have hn364_0 : ad364.block ≠ gb363 := Nat.ne_of_lt (Nat.lt_of_lt_of_le (by have := World.block_lt_of_cell? _ _ hx364_0; first | rwa [add_block] at this | exact this) GW363.out); have hn364_1 : ad364.block ≠ gb363 := Nat.ne_of_lt (Nat.lt_of_lt_of_le (by have := World.block_lt_of_cell? _ _ hx364_0; first | rwa [add_block] at this | exact this) GW363.out); replace hx364_0 := (HB.out.cell (World.block_lt_of_cell? w _ hx364_0)).trans hx364_0; have HR364_0 := amk hi364_0; have HC364_0 := amk hl364_0; clear hi364_0 hl364_0; replace hx364_0 := (cell_far (p := ⟨gb363, 0, none⟩) (by first | (rw [add_block]; exact hn364_0) | (show (Addr.add _ _).block ≠ _; rw [add_block]; exact hn364_0) | exact hn364_0) (.int .i64 ((rd_T41 l0 x33_3).f0))).trans hx364_0; replace hx364_0 := (cell_far (p := ⟨gb363, 1, none⟩) (by first | (rw [add_block]; exact hn364_1) | (show (Addr.add _ _).block ≠ _; rw [add_block]; exact hn364_1) | exact hn364_1) (.slice (some ad364) ((rd_T41 l0 x33_3).f1).length c362_1)).trans hx364_0; clear hn364_0; clear hn364_1; replace p364 := eq_true p364; replace q364 := eq_true q364) | ((with_reducible refine gate_callee (f := 104) rfl ?_); refine goesL_ (some 43) rfl rfl Try.func104 (by kernel_rfl) rfl #[.slice A364_0 (rd_L5 ((rd_T41 l0 x33_3).f1) x22_1).length c364_0, .int .i64 x28_2] rfl (by (try simp only [List.map_toArray, List.map_cons, List.map_nil]); first | done | rfl | (simp only [List.length_drop, List.length_take]; rfl)) ?_; (with_reducible refine (slices_Contains_int_int.calls k3 _ _ (rd_L5 ((rd_T41 l0 x33_3).f1) x22_1) x28_2 true _ ?side1 ?side2 A19.out).mono ?_); (case side1 => exact Kd.C_below HR364_0.out (by repeat (first | (with_reducible first | exact HB.out | apply ba_ | apply bn_ | apply bd_ | refine bs_ ?_ GE352.out | refine bs_ ?_ GE354.out | refine bs_ ?_ GE363.out) | exact HB.out))); (case side2 => exact HC364_0.out); rintro e w' ⟨rfl, ⟨nd, rfl⟩⟩; refine ⟨_, rfl, ?_⟩))
                                go_roundg k3
                                case measure => have := HK1.out; have := HK2.out; have := HK3.out; omega
                                case rel => exact ⟨(wrap64 (x9_3 + 1)), (wrap64 (x33_3 + 1)), (by first | rfl | (simp; done) | (simp [*]; done)), (by first | rfl | (simp; done) | (simp [*]; done)), H', ⟨by have := HK1.out; have := HK2.out; have := HK3.out; omega⟩, ⟨by (with_reducible repeat (first | apply Kd.R_alloc | apply Kd.R_drewN | apply Kd.R_drew)); exact Kd.R_mono (Kd.R_far (p := ⟨gb363, 1, none⟩) (Kd.R_far (p := ⟨gb363, 0, none⟩) (Kd.R_types HO_7.out BK363.out (by decide)) (fun _ hk => hk.2) (.int .i64 ((rd_T41 l0 x33_3).f0))) (fun _ hk => hk.2) (.slice (some ad364) ((rd_T41 l0 x33_3).f1).length c362_1)) (fun _ hk => trivial)⟩, ⟨by (with_reducible repeat (first | apply Kd.S_alloc | apply Kd.S_drewN | apply Kd.S_drew)); exact Kd.S_mono (Kd.S_far (p := ⟨gb363, 1, none⟩) (Kd.S_far (p := ⟨gb363, 0, none⟩) (Kd.S_types HO_355001.out BK363.out (by decide)) (fun _ hk => hk.2) (.int .i64 ((rd_T41 l0 x33_3).f0))) (fun _ hk => hk.2) (.slice (some ad364) ((rd_T41 l0 x33_3).f1).length c362_1)) (fun _ hk => hk.1)⟩, ⟨by (with_reducible repeat (first | refine kn_ ?_ _ | refine blk_drew ?_ | refine ka_ ?_ _)); refine blk_far ?_ NB352_363.out _; (with_reducible repeat (first | refine kn_ ?_ _ | refine blk_drew ?_ | refine ka_ ?_ _)); refine blk_far ?_ NB352_363.out _; (with_reducible repeat (first | refine kn_ ?_ _ | refine blk_drew ?_ | refine ka_ ?_ _)); exact BK352.out⟩, ⟨by (with_reducible repeat (first | refine kn_ ?_ _ | refine blk_drew ?_ | refine ka_ ?_ _)); refine blk_far ?_ NB354_363.out _; (with_reducible repeat (first | refine kn_ ?_ _ | refine blk_drew ?_ | refine ka_ ?_ _)); refine blk_far ?_ NB354_363.out _; (with_reducible repeat (first | refine kn_ ?_ _ | refine blk_drew ?_ | refine ka_ ?_ _)); exact BK354.out⟩, ⟨by repeat (first | (with_reducible first | exact HB.out | apply ba_ | apply bn_ | apply bd_ | refine bs_ ?_ GE352.out | refine bs_ ?_ GE354.out | refine bs_ ?_ GE363.out) | exact HB.out)⟩⟩
                              · replace c20 := Bool.eq_false_iff.mpr c20
                                subst c20
                                have H1 : (impl_joined.l2 k3 l0 a1 x22_1 x7_2 x28_2 x9_3 (((rd_T41 l0 0).f1).length : Int) x22_1 ((rd_T41 l0 0).f0) x28_2 l0 (l0.length : Int) (wrap64 (x33_3 + 1)) ((rd_T41 l0 0).f0) x355001_1) = some (r1, r2) := by rw [if_neg (show ¬ (false = true) by decide)] at H; exact H
                                clear H
                                have H := H1
                                clear H1
                                have H' := amk H
                                clear H
                                have p362 : 0 ≤ (x33_3 : Int) := of_decide_eq_true (by first | (with_reducible assumption) | assumption)
                                have q362 : x33_3 < (l0.length : Int) := of_decide_eq_true (by first | (with_reducible assumption) | assumption)
                                obtain ⟨ad362, A362_1, c362_1, e362, hx362_0, hx362_1, hl362_1, hi362_1⟩ := at_T41 HR0.out x33_3 p362 q362
                                obtain rfl : ad353 = ad362 := (by injection e362)
                                replace hx362_0 := (HB.out.cell (World.block_lt_of_cell? w _ hx362_0)).trans hx362_0
                                replace hx362_1 := (HB.out.cell (World.block_lt_of_cell? w _ hx362_1)).trans hx362_1
                                have HR362_1 := amk hi362_1
                                have HC362_1 := amk hl362_1
                                clear hi362_1 hl362_1
                                replace p362 := eq_true p362
                                replace q362 := eq_true q362
                                go_wp2_with (first | ((with_reducible refine gate_dst (N := 11) rfl ?_); refine box_event ?hg (N := 11) ?hd (cs := #[.int .i64 0, .slice none 0 0]) (t := 41) ?hr ?_; (case hd => rfl); (case hg => rfl); (case hr => first | (go_simp; done) | (go_simp; rfl)); intro gb363 hg w25 hbox hb; have n0_ := amk (Kd.R_below (by (with_reducible repeat (first | apply Kd.R_alloc | apply Kd.R_drewN | apply Kd.R_drew)); exact HO_7.out) hb); have n1_ := amk (Kd.S_below (by (with_reducible repeat (first | apply Kd.S_alloc | apply Kd.S_drewN | apply Kd.S_drew)); exact HO_355001.out) hb); have n2_ := amk (blk_below (g := gb352) (o := .cells #[.int .i64 0, .slice none 0 0] 41 (0, 0)) (by (with_reducible repeat (first | refine kn_ ?_ _ | refine blk_drew ?_ | refine ka_ ?_ _)); exact BK352.out) hb); have n3_ := amk (blk_below (g := gb354) (o := .cells #[.int .i64 ((rd_T41 l0 0).f0), u355001] 41 (0, 0)) (by (with_reducible repeat (first | refine kn_ ?_ _ | refine blk_drew ?_ | refine ka_ ?_ _)); exact BK354.out) hb); have n4_ := amk (bp_ (by repeat (first | (with_reducible first | exact HB.out | apply ba_ | apply bn_ | apply bd_ | refine bs_ ?_ GE352.out | refine bs_ ?_ GE354.out) | exact HB.out)) hb); have n5_ := amk (hbox); have n6_ := amk ((by rw [hg]; exact (below_size (by repeat (first | (with_reducible first | exact HB.out | apply ba_ | apply bn_ | apply bd_ | refine bs_ ?_ GE352.out | refine bs_ ?_ GE354.out) | exact HB.out))) : w.heap.size ≤ gb363)); have n7_ := amk ((by rw [hg]; exact (below_size (by repeat (first | (with_reducible first | exact HB.out | apply ba_ | apply bn_ | apply bd_ | refine bs_ ?_ GE352.out | refine bs_ ?_ GE354.out) | exact HB.out))) : w.heap.size ≤ gb363)); have n8_ := amk ((by rw [hg]; exact Nat.ne_of_lt (blk_lt (g := gb352) (o := .cells #[.int .i64 0, .slice none 0 0] 41 (0, 0)) (by (with_reducible repeat (first | refine kn_ ?_ _ | refine blk_drew ?_ | refine ka_ ?_ _)); exact BK352.out)) : gb352 ≠ gb363)); have n9_ := amk ((by rw [hg]; exact Nat.ne_of_gt (blk_lt (g := gb352) (o := .cells #[.int .i64 0, .slice none 0 0] 41 (0, 0)) (by (with_reducible repeat (first | refine kn_ ?_ _ | refine blk_drew ?_ | refine ka_ ?_ _)); exact BK352.out)) : gb363 ≠ gb352)); have n10_ := amk ((by rw [hg]; exact Nat.ne_of_lt (blk_lt (g := gb354) (o := .cells #[.int .i64 ((rd_T41 l0 0).f0), u355001] 41 (0, 0)) (by (with_reducible repeat (first | refine kn_ ?_ _ | refine blk_drew ?_ | refine ka_ ?_ _)); exact BK354.out)) : gb354 ≠ gb363)); have n11_ := amk ((by rw [hg]; exact Nat.ne_of_gt (blk_lt (g := gb354) (o := .cells #[.int .i64 ((rd_T41 l0 0).f0), u355001] 41 (0, 0)) (by (with_reducible repeat (first | refine kn_ ?_ _ | refine blk_drew ?_ | refine ka_ ?_ _)); exact BK354.out)) : gb363 ≠ gb354)); clear HO_7; clear HO_355001; clear BK352; clear BK354; clear HB; have HO_7 := n0_; have HO_355001 := n1_; have BK352 := n2_; have BK354 := n3_; have HB := n4_; have BK363 := n5_; have GW363 := n6_; have GE363 := n7_; have NB352_363 := n8_; have NB363_352 := n9_; have NB354_363 := n10_; have NB363_354 := n11_; clear n0_ n1_ n2_ n3_ n4_ n5_ n6_ n7_ n8_ n9_ n10_ n11_; clear hb hbox hg; have hnb26 := NB363_352.out; have hnc26 := NB352_363.out; have hnb27 := NB363_354.out; have hnc27 := NB354_363.out; have hcz28_0 : w25.cell? ⟨gb363, 0, none⟩ = some (.int .i64 0) := (blk_cell BK363.out 0).trans rfl; have hcz28_1 : w25.cell? ⟨gb363, 1, none⟩ = some (.slice none 0 0) := (blk_cell BK363.out 1).trans rfl; have hfz28_0 := blk_frozen BK363.out 0; have hfz28_1 := blk_frozen BK363.out 1; have p364 : 0 ≤ (x22_1 : Int) := of_decide_eq_true (by first | (with_reducible assumption) | assumption); have q364 : x22_1 < (((rd_T41 l0 x33_3).f1).length : Int) := of_decide_eq_true (by first | (with_reducible assumption) | assumption); obtain ⟨ad364, A364_0, c364_0, e364, hx364_0, hl364_0, hi364_0⟩ := at_L5 HR362_1.out x22_1 p364 q364; cases e364; have hn364_0 : ad364.block ≠ gb363 := Nat.ne_of_lt (Nat.lt_of_lt_of_le (by have := World.block_lt_of_cell? _ _ hx364_0; first | rwa [add_block] at this | exact this) GW363.out); have hn364_1 : ad364.block ≠ gb363 := Nat.ne_of_lt (Nat.lt_of_lt_of_le (by have := World.block_lt_of_cell? _ _ hx364_0; first | rwa [add_block] at this | exact this) GW363.out); replace hx364_0 := (HB.out.cell (World.block_lt_of_cell? w _ hx364_0)).trans hx364_0; have HR364_0 := amk hi364_0; have HC364_0 := amk hl364_0; clear hi364_0 hl364_0; replace hx364_0 := (cell_far (p := ⟨gb363, 0, none⟩) (by first | (rw [add_block]; exact hn364_0) | (show (Addr.add _ _).block ≠ _; rw [add_block]; exact hn364_0) | exact hn364_0) (.int .i64 ((rd_T41 l0 x33_3).f0))).trans hx364_0; replace hx364_0 := (cell_far (p := ⟨gb363, 1, none⟩) (by first | (rw [add_block]; exact hn364_1) | (show (Addr.add _ _).block ≠ _; rw [add_block]; exact hn364_1) | exact hn364_1) (.slice (some ad364) ((rd_T41 l0 x33_3).f1).length c362_1)).trans hx364_0; clear hn364_0; clear hn364_1; replace p364 := eq_true p364; replace q364 := eq_true q364) | ((with_reducible refine gate_callee (f := 104) rfl ?_); refine goesL_ (some 43) rfl rfl Try.func104 (by kernel_rfl) rfl #[.slice A364_0 (rd_L5 ((rd_T41 l0 x33_3).f1) x22_1).length c364_0, .int .i64 x28_2] rfl (by (try simp only [List.map_toArray, List.map_cons, List.map_nil]); first | done | rfl | (simp only [List.length_drop, List.length_take]; rfl)) ?_; (with_reducible refine (slices_Contains_int_int.calls k3 _ _ (rd_L5 ((rd_T41 l0 x33_3).f1) x22_1) x28_2 false _ ?side1 ?side2 A19.out).mono ?_); (case side1 => exact Kd.C_below HR364_0.out (by repeat (first | (with_reducible first | exact HB.out | apply ba_ | apply bn_ | apply bd_ | refine bs_ ?_ GE352.out | refine bs_ ?_ GE354.out | refine bs_ ?_ GE363.out) | exact HB.out))); (case side2 => exact HC364_0.out); rintro e w' ⟨rfl, ⟨nd, rfl⟩⟩; refine ⟨_, rfl, ?_⟩))
                                go_roundg k3
                                case measure => have := HK1.out; have := HK2.out; have := HK3.out; omega
                                case rel => exact ⟨(x9_3), (wrap64 (x33_3 + 1)), (by first | rfl | (simp; done) | (simp [*]; done)), (by first | rfl | (simp; done) | (simp [*]; done)), H', ⟨by have := HK1.out; have := HK2.out; have := HK3.out; omega⟩, ⟨by (with_reducible repeat (first | apply Kd.R_alloc | apply Kd.R_drewN | apply Kd.R_drew)); exact Kd.R_mono (Kd.R_far (p := ⟨gb363, 1, none⟩) (Kd.R_far (p := ⟨gb363, 0, none⟩) (Kd.R_types HO_7.out BK363.out (by decide)) (fun _ hk => hk.2) (.int .i64 ((rd_T41 l0 x33_3).f0))) (fun _ hk => hk.2) (.slice (some ad364) ((rd_T41 l0 x33_3).f1).length c362_1)) (fun _ hk => trivial)⟩, ⟨by (with_reducible repeat (first | apply Kd.S_alloc | apply Kd.S_drewN | apply Kd.S_drew)); exact Kd.S_mono (Kd.S_far (p := ⟨gb363, 1, none⟩) (Kd.S_far (p := ⟨gb363, 0, none⟩) (Kd.S_types HO_355001.out BK363.out (by decide)) (fun _ hk => hk.2) (.int .i64 ((rd_T41 l0 x33_3).f0))) (fun _ hk => hk.2) (.slice (some ad364) ((rd_T41 l0 x33_3).f1).length c362_1)) (fun _ hk => hk.1)⟩, ⟨by (with_reducible repeat (first | refine kn_ ?_ _ | refine blk_drew ?_ | refine ka_ ?_ _)); refine blk_far ?_ NB352_363.out _; (with_reducible repeat (first | refine kn_ ?_ _ | refine blk_drew ?_ | refine ka_ ?_ _)); refine blk_far ?_ NB352_363.out _; (with_reducible repeat (first | refine kn_ ?_ _ | refine blk_drew ?_ | refine ka_ ?_ _)); exact BK352.out⟩, ⟨by (with_reducible repeat (first | refine kn_ ?_ _ | refine blk_drew ?_ | refine ka_ ?_ _)); refine blk_far ?_ NB354_363.out _; (with_reducible repeat (first | refine kn_ ?_ _ | refine blk_drew ?_ | refine ka_ ?_ _)); refine blk_far ?_ NB354_363.out _; (with_reducible repeat (first | refine kn_ ?_ _ | refine blk_drew ?_ | refine ka_ ?_ _)); exact BK354.out⟩, ⟨by repeat (first | (with_reducible first | exact HB.out | apply ba_ | apply bn_ | apply bd_ | refine bs_ ?_ GE352.out | refine bs_ ?_ GE354.out | refine bs_ ?_ GE363.out) | exact HB.out)⟩⟩
                            · rw [if_neg c18] at H
                              exact absurd H (by simp)
                          · rw [if_neg c17] at H
                            exact absurd H (by simp)
                        · rw [if_neg c16] at H
                          exact absurd H (by simp)
                      · rw [if_neg c15] at H
                        exact absurd H (by simp)
                    · rw [if_neg c14] at H
                      have c14b0 : decide (x33_3 < (l0.length : Int)) = false := decide_eq_false c14
                      clear c14
                      by_cases c29 : x9_3 ≥ a1
                      · rw [if_pos c29] at H
                        have c29b0 : decide (a1 ≤ x9_3) = true := decide_eq_true c29
                        clear c29
                        by_cases c30 : x7_2.length < 17592186044416
                        · rw [if_pos c30] at H
                          have LMc30 := amk c30
                          clear c30
                          obtain ⟨y366, hy366⟩ : ∃ y_ : List Int, y_ = (x7_2 ++ [x28_2]) := ⟨_, rfl⟩
                          replace H : (impl_joined.l1 k3 l0 a1 x22_1 y366 (((rd_T41 l0 0).f1).length : Int) x22_1 ((rd_T41 l0 0).f0) (wrap64 (x28_2 + 1)) ((rd_T41 l0 0).f0) x355001_1) = some (r1, r2) := by first | (rw [hy366]; with_reducible exact H) | (have H2_ := (Option.bind_some _ _).symm.trans H; rw [hy366]; with_reducible exact H2_) | (have H2_ := (Option.bind_some _ _).symm.trans H; with_reducible exact H2_) | with_reducible exact H | (rw [hy366]; exact H) | exact H
                          have Ny366 := amk hy366
                          clear hy366
                          have H' := amk H
                          clear H
                          go_wp2_with (first | ((with_reducible refine gate_builtin (b := .append) (xs := #[.tmp 50, .tmp 52]) rfl ?_); at_builtin; refine Kd.R_append (Kd.int .i64) (w0 := w) w.heap.size rfl (.tmp 50) (.tmp 52) 86 3 (.int .i64 0) 8 rfl Try.underlying86 info3 rfl (by decide) (by omega) u7 x7_2 x28_2 [.int .i64 x28_2] (fun _ => True) (fun _ => False) rfl rfl ?aP (fun _ hk => hk.elim) ?aF ?aO ?aB ?aS ?aL ?_; (case aP => exact rfl); (case aB => exact (by repeat (first | (with_reducible first | exact HB.out | apply ba_ | apply bn_ | apply bd_ | refine bs_ ?_ GE352.out | refine bs_ ?_ GE354.out) | exact HB.out))); (case aF => exact (fun _ _ => trivial)); (case aO => exact (by (with_reducible repeat (first | apply Kd.R_alloc | apply Kd.R_drewN | apply Kd.R_drew)); exact HO_7.out)); (case aS => exact (below_size (by repeat (first | (with_reducible first | exact HB.out | apply ba_ | apply bn_ | apply bd_ | refine bs_ ?_ GE352.out | refine bs_ ?_ GE354.out) | exact HB.out)))); (case aL => have := LMc30.out; omega); intro v367 w31 ho hb hg hat; rw [← Ny366.out] at ho; have n0_ := amk (Kd.S_after (ok := (fun _ => True)) (by (with_reducible repeat (first | apply Kd.S_alloc | apply Kd.S_drewN | apply Kd.S_drew)); exact Kd.S_mono HO_355001.out (fun _ hk => ⟨trivial, hk⟩)) hg hat); have n1_ := amk (blk_grown (g := gb352) (o := .cells #[.int .i64 0, .slice none 0 0] 41 (0, 0)) (by (with_reducible repeat (first | refine kn_ ?_ _ | refine blk_drew ?_ | refine ka_ ?_ _)); exact BK352.out) hg (Kd.R_ne HO_7.out BK352.out (by decide))); have n2_ := amk (blk_grown (g := gb354) (o := .cells #[.int .i64 ((rd_T41 l0 0).f0), u355001] 41 (0, 0)) (by (with_reducible repeat (first | refine kn_ ?_ _ | refine blk_drew ?_ | refine ka_ ?_ _)); exact BK354.out) hg (Kd.R_ne HO_7.out BK354.out (by decide))); have n3_ := amk (hb); have n4_ := amk (ho); clear HO_355001; clear BK352; clear BK354; clear HB; clear HO_7; have HO_355001 := n0_; have BK352 := n1_; have BK354 := n2_; have HB := n3_; have HO368 := n4_; clear n0_ n1_ n2_ n3_ n4_; clear ho hb hg hat))
                          go_roundg k3
                          case measure => have := HK1.out; have := HK2.out; have := HK3.out; omega
                          case rel => exact ⟨(y366), (wrap64 (x28_2 + 1)), (by first | rfl | (simp; done) | (simp [*]; done)), H', ⟨by have := HK1.out; have := HK2.out; have := HK3.out; omega⟩, ⟨by (with_reducible repeat (first | apply Kd.R_alloc | apply Kd.R_drewN | apply Kd.R_drew)); exact HO368.out⟩, ⟨by (with_reducible repeat (first | apply Kd.S_alloc | apply Kd.S_drewN | apply Kd.S_drew)); exact Kd.S_mono HO_355001.out (fun _ hk => hk.2)⟩, ⟨by (with_reducible repeat (first | refine kn_ ?_ _ | refine blk_drew ?_ | refine ka_ ?_ _)); exact BK352.out⟩, ⟨by (with_reducible repeat (first | refine kn_ ?_ _ | refine blk_drew ?_ | refine ka_ ?_ _)); exact BK354.out⟩, ⟨by repeat (first | (with_reducible first | exact HB.out | apply ba_ | apply bn_ | apply bd_ | refine bs_ ?_ GE352.out | refine bs_ ?_ GE354.out) | exact HB.out)⟩⟩
                        · rw [if_neg c30] at H
                          exact absurd H (by simp)
                      · rw [if_neg c29] at H
                        have c29b0 : decide (a1 ≤ x9_3) = false := decide_eq_false c29
                        clear c29
                        have H' := amk H
                        clear H
                        go_wp2
                        go_roundg k3
                        case measure => have := HK1.out; have := HK2.out; have := HK3.out; omega
                        case rel => exact ⟨(x7_2), (wrap64 (x28_2 + 1)), (by first | rfl | (simp; done) | (simp [*]; done)), H', ⟨by have := HK1.out; have := HK2.out; have := HK3.out; omega⟩, ⟨by (with_reducible repeat (first | apply Kd.R_alloc | apply Kd.R_drewN | apply Kd.R_drew)); exact HO_7.out⟩, ⟨by (with_reducible repeat (first | apply Kd.S_alloc | apply Kd.S_drewN | apply Kd.S_drew)); exact HO_355001.out⟩, ⟨by (with_reducible repeat (first | refine kn_ ?_ _ | refine blk_drew ?_ | refine ka_ ?_ _)); exact BK352.out⟩, ⟨by (with_reducible repeat (first | refine kn_ ?_ _ | refine blk_drew ?_ | refine ka_ ?_ _)); exact BK354.out⟩, ⟨by repeat (first | (with_reducible first | exact HB.out | apply ba_ | apply bn_ | apply bd_ | refine bs_ ?_ GE352.out | refine bs_ ?_ GE354.out) | exact HB.out)⟩⟩
              · rw [if_neg c13] at H
                have c13b0 : decide (x28_2 < ((rd_T41 l0 0).f0)) = false := decide_eq_false c13
                clear c13
                by_cases c32 : x355001_1.length < 5864062014805
                · rw [if_pos c32] at H
                  have LMc32 := amk c32
                  clear c32
                  obtain ⟨y359, hy359⟩ : ∃ y_ : List (List Int), y_ = (x355001_1 ++ [x7_2]) := ⟨_, rfl⟩
                  replace H : (impl_joined.l0 k2 l0 a1 (((rd_T41 l0 0).f1).length : Int) (wrap64 (x22_1 + 1)) ((rd_T41 l0 0).f0) y359) = some (r1, r2) := by first | (rw [hy359]; with_reducible exact H) | (have H2_ := (Option.bind_some _ _).symm.trans H; rw [hy359]; with_reducible exact H2_) | (have H2_ := (Option.bind_some _ _).symm.trans H; with_reducible exact H2_) | with_reducible exact H | (rw [hy359]; exact H) | exact H
                  have Ny359 := amk hy359
                  clear hy359
                  have H' := amk H
                  clear H
                  have hnb33 := NB354_352.out
                  have hnc33 := NB352_354.out
                  have hcz34_0 : wr.cell? ⟨gb354, 0, none⟩ = some (.int .i64 ((rd_T41 l0 0).f0)) := (blk_cell BK354.out 0).trans rfl
                  have hcz34_1 : wr.cell? ⟨gb354, 1, none⟩ = some (u355001) := (blk_cell BK354.out 1).trans rfl
                  have hfz34_0 := blk_frozen BK354.out 0
                  have hfz34_1 := blk_frozen BK354.out 1
                  obtain ⟨Ao36, co36, eo36⟩ := Kd.R_slice HO_7.out
                  subst eo36
                  go_wp2_with (first | ((with_reducible refine gate_builtin (b := .append) (xs := #[.tmp 56, .tmp 58]) rfl ?_); at_builtin; refine Kd.S_append (Kd.slice 3 (Kd.int .i64)) (w0 := w) w.heap.size rfl (.tmp 56) (.tmp 58) 35 86 (.slice none 0 0) 24 rfl Try.underlying35 info86 rfl (by decide) (by omega) u355001 x355001_1 x7_2 [.slice Ao36 x7_2.length co36] (fun _ => True) (fun k_ => some k_ = (.slice Ao36 x7_2.length co36 : Value).ownBlock) rfl rfl ?aP (fun k_ hk_ => ((Kd.R_mono (ok' := fun k_ => ((fun _ => True)) k_ ∧ some k_ ≠ (u355001 : Value).ownBlock) (Kd.R_apart' (HO_7.out) (Kd.S_typed HO_355001.out) (by decide)) (fun k_ hk => ⟨trivial, hk.2⟩))).1 k_ hk_.symm) ?aF ?aO ?aB ?aS ?aL ?_; (case aP => exact Kd.M_row (Kd.R_mono (Kd.R_tight rfl (Kd.R_mono (ok' := fun k_ => ((fun _ => True)) k_ ∧ some k_ ≠ (u355001 : Value).ownBlock) (Kd.R_apart' (HO_7.out) (Kd.S_typed HO_355001.out) (by decide)) (fun k_ hk => ⟨trivial, hk.2⟩))) (fun _ h_ => h_))); (case aB => exact (by repeat (first | (with_reducible first | exact HB.out | apply ba_ | apply bn_ | apply bd_ | refine bs_ ?_ GE352.out | refine bs_ ?_ GE354.out) | exact HB.out))); (case aF => exact (fun _ _ => trivial)); (case aO => exact (by (with_reducible repeat (first | apply Kd.S_alloc | apply Kd.S_drewN | apply Kd.S_drew)); exact Kd.S_mono HO_355001.out (fun k_ hk => ⟨trivial, fun e_ => hk e_⟩))); (case aS => exact (below_size (by repeat (first | (with_reducible first | exact HB.out | apply ba_ | apply bn_ | apply bd_ | refine bs_ ?_ GE352.out | refine bs_ ?_ GE354.out) | exact HB.out)))); (case aL => have := LMc32.out; omega); intro v360 w35 ho hb hg hat; rw [← Ny359.out] at ho; have n0_ := amk (blk_grown (g := gb352) (o := .cells #[.int .i64 0, .slice none 0 0] 41 (0, 0)) (by (with_reducible repeat (first | refine kn_ ?_ _ | refine blk_drew ?_ | refine ka_ ?_ _)); exact BK352.out) hg (Kd.S_ne HO_355001.out BK352.out (by decide))); have n1_ := amk (blk_grown (g := gb354) (o := .cells #[.int .i64 ((rd_T41 l0 0).f0), u355001] 41 (0, 0)) (by (with_reducible repeat (first | refine kn_ ?_ _ | refine blk_drew ?_ | refine ka_ ?_ _)); exact BK354.out) hg (Kd.S_ne HO_355001.out BK354.out (by decide))); have n2_ := amk (hb); have n3_ := amk (ho); clear BK352; clear BK354; clear HB; clear HO_355001; clear HO_7; have BK352 := n0_; have BK354 := n1_; have HB := n2_; have HO361 := n3_; clear n0_ n1_ n2_ n3_; clear ho hb hg hat; obtain ⟨Ao37, co37, eo37⟩ := Kd.S_slice HO361.out; subst eo37; have hcz38_0 : w35.cell? ⟨gb354, 0, none⟩ = some (.int .i64 ((rd_T41 l0 0).f0)) := (blk_cell BK354.out 0).trans rfl; have hcz38_1 : w35.cell? ⟨gb354, 1, none⟩ = some (u355001) := (blk_cell BK354.out 1).trans rfl; have hfz38_0 := blk_frozen BK354.out 0; have hfz38_1 := blk_frozen BK354.out 1))
                  go_roundg k2
                  case measure => have := HK1.out; have := HK2.out; omega
                  case rel => exact ⟨(wrap64 (x22_1 + 1)), (y359), (.slice Ao37 y359.length co37), (by first | rfl | (simp; done) | (simp [*]; done)), H', ⟨by have := HK1.out; have := HK2.out; omega⟩, ⟨by (with_reducible repeat (first | apply Kd.S_alloc | apply Kd.S_drewN | apply Kd.S_drew)); exact Kd.S_mono (Kd.S_far (p := ⟨gb354, 1, none⟩) (Kd.S_types HO361.out BK354.out (by decide)) (fun _ hk => hk.2) (.slice Ao37 y359.length co37)) (fun _ hk => trivial)⟩, ⟨by (with_reducible repeat (first | refine kn_ ?_ _ | refine blk_drew ?_ | refine ka_ ?_ _)); refine blk_far ?_ NB352_354.out _; (with_reducible repeat (first | refine kn_ ?_ _ | refine blk_drew ?_ | refine ka_ ?_ _)); exact BK352.out⟩, ⟨by (with_reducible repeat (first | refine kn_ ?_ _ | refine blk_drew ?_ | refine ka_ ?_ _)); refine blk_put (cs := #[.int .i64 ((rd_T41 l0 0).f0), u355001]) ?_ 1 _ rfl; (with_reducible repeat (first | refine kn_ ?_ _ | refine blk_drew ?_ | refine ka_ ?_ _)); exact BK354.out⟩, ⟨by repeat (first | (with_reducible first | exact HB.out | apply ba_ | apply bn_ | apply bd_ | refine bs_ ?_ GE352.out | refine bs_ ?_ GE354.out) | exact HB.out)⟩⟩
                · rw [if_neg c32] at H
                  exact absurd H (by simp)
        · rw [if_neg c8] at H
          have c8b0 : decide (x22_1 < (((rd_T41 l0 0).f1).length : Int)) = false := decide_eq_false c8
          clear c8
          simp only [Option.some.injEq, Prod.mk.injEq] at H
          obtain ⟨rfl, rfl⟩ := H
          have hnb39 := NB354_352.out
          have hnc39 := NB352_354.out
          have hcz40_0 : wr.cell? ⟨gb354, 0, none⟩ = some (.int .i64 ((rd_T41 l0 0).f0)) := (blk_cell BK354.out 0).trans rfl
          have hcz40_1 : wr.cell? ⟨gb354, 1, none⟩ = some (u355001) := (blk_cell BK354.out 1).trans rfl
          have hfz40_0 := blk_frozen BK354.out 0
          have hfz40_1 := blk_frozen BK354.out 1
          have hcz41_0 : wr.cell? ⟨gb352, 0, none⟩ = some (.int .i64 0) := (blk_cell BK352.out 0).trans rfl
          have hcz41_1 : wr.cell? ⟨gb352, 1, none⟩ = some (.slice none 0 0) := (blk_cell BK352.out 1).trans rfl
          have hfz41_0 := blk_frozen BK352.out 0
          have hfz41_1 := blk_frozen BK352.out 1
          obtain ⟨Ao42, co42, eo42⟩ := Kd.S_slice HO_355001.out
          subst eo42
          go_wp2
          refine bodyPost_ret (results_cell_row rfl _ _ gb352 41 #[.int .i64 ((rd_T41 l0 0).f0), .slice Ao42 x355001_1.length co42] (0, 0) _ rfl (by (with_reducible repeat (first | refine kn_ ?_ _ | refine blk_drew ?_ | refine ka_ ?_ _)); refine blk_put (cs := #[.int .i64 ((rd_T41 l0 0).f0), .slice none 0 0]) ?_ 1 _ rfl; (with_reducible repeat (first | refine kn_ ?_ _ | refine blk_drew ?_ | refine ka_ ?_ _)); refine blk_put (cs := #[.int .i64 0, .slice none 0 0]) ?_ 0 _ rfl; (with_reducible repeat (first | refine kn_ ?_ _ | refine blk_drew ?_ | refine ka_ ?_ _)); exact BK352.out) Try.underlying41 rfl (by kernel_rfl)) rfl ?_
          exact ⟨_, by first | rfl | (simp [errW_none, errW_some] <;> rfl) | (simp [*, errW_none, errW_some] <;> rfl), by (with_reducible repeat (first | apply Kd.S_alloc | apply Kd.S_drewN | apply Kd.S_drew)); exact Kd.S_mono (Kd.S_far (p := ⟨gb352, 1, none⟩) (Kd.S_far (p := ⟨gb352, 0, none⟩) (Kd.S_types HO_355001.out BK352.out (by decide)) (fun _ hk => hk.2) (.int .i64 ((rd_T41 l0 0).f0))) (fun _ hk => hk.2) (.slice Ao42 x355001_1.length co42)) (fun _ hk => trivial), by repeat (first | (with_reducible first | exact HB.out | apply ba_ | apply bn_ | apply bd_ | refine bs_ ?_ GE352.out | refine bs_ ?_ GE354.out) | exact HB.out)⟩
  · rw [if_neg c3] at H
    exact absurd H (by simp)
/-! Pins: which rows of numbers are some. -/
def risF (n : Int) : Int → List Int → Bool
  | _, [] => true
  | q, x :: l => decide (q < x) && decide (x ≤ n - 1) && risF n x l
def rowB (n : Int) (l : List Int) : Bool := !l.isEmpty && risF n (-1) l
def pinsB (n : Int) (l : List (List Int)) : Bool := decide (1 ≤ n ∧ n ≤ 9) && decide (1 ≤ (l.length : Int) ∧ (l.length : Int) ≤ 7) && l.all (rowB n)
theorem pinsB_parts {n : Int} {l : List (List Int)} (h : pinsB n l = true) : (1 ≤ n ∧ n ≤ 9) ∧ (1 ≤ l.length ∧ l.length ≤ 7) ∧ ∀ x ∈ l, rowB n x = true := by
  unfold pinsB at h
  rw [Bool.and_eq_true, Bool.and_eq_true, decide_eq_true_eq, decide_eq_true_eq, List.all_eq_true] at h
  exact ⟨h.1.1, ⟨by omega, by omega⟩, h.2⟩
theorem risF_mem {n : Int} : ∀ {l : List Int} {q : Int}, risF n q l = true → ∀ x ∈ l, q < x ∧ x ≤ n - 1 := by
  intro l
  induction l with
  | nil => intro q _ x hx; simp at hx
  | cons a l ih =>
    intro q h x hx
    unfold risF at h
    rw [Bool.and_eq_true, Bool.and_eq_true, decide_eq_true_eq, decide_eq_true_eq] at h
    rcases List.mem_cons.mp hx with rfl | hm
    · exact ⟨h.1.1, h.1.2⟩
    · have := ih h.2 x hm
      omega
theorem risF_len {n : Int} : ∀ {l : List Int} {q : Int}, q ≤ n - 1 → risF n q l = true → (l.length : Int) ≤ n - 1 - q := by
  intro l
  induction l with
  | nil => intro q hq _; simp; omega
  | cons a l ih =>
    intro q hq h
    unfold risF at h
    rw [Bool.and_eq_true, Bool.and_eq_true, decide_eq_true_eq, decide_eq_true_eq] at h
    have := ih (q := a) (by omega) h.2
    simp only [List.length_cons]
    omega
theorem rowB_len {n : Int} {l : List Int} (hn : 0 ≤ n) (h : rowB n l = true) : 1 ≤ l.length ∧ (l.length : Int) ≤ n := by
  unfold rowB at h
  rw [Bool.and_eq_true] at h
  have := risF_len (q := -1) (by omega) h.2
  refine ⟨?_, by omega⟩
  cases l with
  | nil => simp at h
  | cons a l => simp
/-- The last number so far, -1 at the start. -/
def lastI (l : List Int) : Nat → Int
  | 0 => -1
  | i + 1 => l.getD i 0
theorem lastI_at {l : List Int} {i : Nat} (h : i < l.length) : lastI l (i + 1) = l[i] := by unfold lastI; simp [List.getD, h]
/-! Small laws on 'from some number of rounds on'. -/
theorem Ev.yes {α : Type} {c : Prop} [Decidable c] {f g : Nat → Option α} {r : α} (h : c) (k : Ev f r) : Ev (fun n => if c then f n else g n) r := by
  simp only [if_pos h]; exact k
theorem Ev.no {α : Type} {c : Prop} [Decidable c] {f g : Nat → Option α} {r : α} (h : ¬ c) (k : Ev g r) : Ev (fun n => if c then f n else g n) r := by
  simp only [if_neg h]; exact k
theorem Ev.bindc {α β : Type} {o : Option α} {f : Nat → α → Option β} {a : α} {r : β} (h : o = some a) (k : Ev (fun n => f n a) r) : Ev (fun n => o.bind (f n)) r := by
  subst h; exact k
theorem Ev.id {α : Type} {r s : α} (h : s = r) : Ev (fun _ => some s) r := by subst h; exact Ev.now s
theorem Ev.eq {α : Type} {g : Nat → Option α} {r s : α} (h : Ev g r) (e : r = s) : Ev g s := by subst e; exact h
theorem Ev.both {α : Type} {c : Prop} [Decidable c] {f g : Nat → Option α} {r : α} (h : c → Ev f r) (k : ¬ c → Ev g r) : Ev (fun n => if c then f n else g n) r := by
  by_cases e : c
  · exact Ev.yes e (h e)
  · exact Ev.no e (k e)
theorem Ev.un {α : Type} {g : Nat → Option α} {r s : α} (h : Ev g r) (k : Ev g s) : r = s := by
  obtain ⟨K, h⟩ := h; obtain ⟨K', k⟩ := k
  have a := h (max K K') (by omega); have b := k (max K K') (by omega)
  rw [a] at b; exact Option.some.inj b
theorem w64 {x : Int} (h : -9223372036854775808 ≤ x) (h' : x ≤ 9223372036854775807) : wrap64 x = x := by unfold wrap64; omega
/-! Plain laws on lists: filling one in place, reading. -/
theorem fill_step {α β : Type} (f : α → β) (l : List α) (z : β) (i : Nat) (hi : i < l.length) :
    ((l.take i).map f ++ List.replicate (l.length - i) z).set i (f l[i]) = (l.take (i + 1)).map f ++ List.replicate (l.length - (i + 1)) z := by
  have h1 : ((l.take i).map f).length = i := by rw [List.length_map, List.length_take]; omega
  rw [List.set_append_right _ _ (by omega), h1, Nat.sub_self]
  obtain ⟨m, hm⟩ : ∃ m, l.length - i = m + 1 := ⟨l.length - i - 1, by omega⟩
  rw [hm, List.replicate_succ, List.set_cons_zero, show l.length - (i + 1) = m by omega, List.take_succ_eq_append_getElem hi, List.map_append]
  simp
theorem rd_at {xs : List Int} {i : Int} (h : i.toNat < xs.length) : rd xs i = xs[i.toNat] := by unfold rd; simp [List.getD, h]
theorem getD_at {α : Type} {d : α} {xs : List α} {i : Nat} (h : i < xs.length) : xs.getD i d = xs[i] := by simp [List.getD, h]
/-! ### impl_within: function 107 -/
def impl_within.f (a0 : Int) (a1 : Int) (a2 : Int) : Option (Bool) := if a1 ≤ a0 then (some (decide (a0 ≤ a2))) else (some false)
set_option maxHeartbeats 8000000 in
set_option maxRecDepth 100000 in
theorem impl_within.calls (a0 : Int) (a1 : Int) (a2 : Int) (r : Bool) (w : World) (h : impl_within.f a0 a1 a2 = some r) :
    Calls Try.prog 107 #[.int .i64 a0, .int .i64 a1, .int .i64 a2] w fun e w' => e = .returned (.bool r) ∧ Drawn0 w w' := by
  have H : (if a1 ≤ a0 then (some (decide (a0 ≤ a2))) else (some false)) = some r := h
  clear h
  by_cases c4 : a1 ≤ a0
  · rw [if_pos c4] at H
    have c4b0 : decide (a1 ≤ a0) = true := decide_eq_true c4
    clear c4
    obtain rfl := Option.some.inj H
    go_enter Try.func107, Try.ntmps107
    go_wp2
    go_ret
    exact ⟨by first | rfl | (simp; done) | (simp [*]; done), by repeat (first | exact Drawn0.refl _ | apply Drawn0.step)⟩
  · rw [if_neg c4] at H
    have c4b0 : decide (a1 ≤ a0) = false := decide_eq_false c4
    clear c4
    obtain rfl := Option.some.inj H
    go_enter Try.func107, Try.ntmps107
    go_wp2
    go_ret
    exact ⟨by first | rfl | (simp; done) | (simp [*]; done), by repeat (first | exact Drawn0.refl _ | apply Drawn0.step)⟩
/-! ### impl_areDepths: function 110 -/
def impl_areDepths.l0 : Nat → Int → List Int → List Int → Int → Int → Option (Bool)
  | 0, _, _, _, _, _ => none
  | k + 1, x0, x1, x7, x8, x9 => if x9 < x8 then (if 0 ≤ x9 then (if x9 < (x7.length : Int) then ((impl_within.f (rd x7 x9) 0 (wrap64 (x0 - 1))).bind fun t102 => (if t102 = true then (if x9 > 0 then (if 0 ≤ (wrap64 (x9 - 1)) then (if (wrap64 (x9 - 1)) < (x1.length : Int) then (if (rd x7 x9) ≤ (rd x1 (wrap64 (x9 - 1))) then (some false) else (impl_areDepths.l0 k x0 x1 x7 x8 (wrap64 (x9 + 1)))) else (none)) else (none)) else (impl_areDepths.l0 k x0 x1 x7 x8 (wrap64 (x9 + 1)))) else (some false))) else (none)) else (none)) else (some (decide ((x1.length : Int) > 0)))
def impl_areDepths.f (k : Nat) (a0 : Int) (l1 : List Int) : Option (Bool) := impl_areDepths.l0 k a0 l1 l1 (l1.length : Int) 0
set_option maxHeartbeats 8000000 in
set_option maxRecDepth 100000 in
theorem impl_areDepths.calls (k : Nat) (a0 : Int) (A1 : Option Addr) (c1 : Nat) (l1 : List Int) (r : Bool) (w : World) (hr1 : Kd.C (Kd.int .i64) w A1 l1.length l1) (hc1 : l1.length ≤ c1) (h : impl_areDepths.f k a0 l1 = some r) :
    Calls Try.prog 110 #[.int .i64 a0, .slice A1 l1.length c1] w fun e w' => e = .returned (.bool r) ∧ Drawn0 w w' := by
  have HR1 := amk hr1
  have HC1 := amk hc1
  clear hr1 hc1
  have H : (impl_areDepths.l0 k a0 l1 l1 (l1.length : Int) 0) = some r := h
  clear h
  have H' := amk H
  clear H
  go_enter Try.func110, Try.ntmps110
  go_wp2
  go_loopg [9] k (fun kq v9 w' => ∃ (x9_1 : Int), v9 = .int .i64 x9_1 ∧ Aside0 (impl_areDepths.l0 kq a0 l1 l1 (l1.length : Int) x9_1 = some r) ∧ Aside0 (kq ≤ k) ∧ Drawn0 w w')
  case atStart => exact ⟨(0), (by first | rfl | (simp; done) | (simp [*]; done)), H', ⟨Nat.le_refl _⟩, by repeat (first | exact Drawn0.refl _ | apply Drawn0.step)⟩
  case round =>
    clear H'
    try clear c1; try clear p2
    obtain ⟨x9_1, rfl, HA, HK1, ⟨m1, rfl⟩⟩ := hrel
    cases gk with
    | zero => exact absurd HA.out (by simp [impl_areDepths.l0])
    | succ k1 =>
      have H := HA.out
      clear HA
      simp only [impl_areDepths.l0] at H
      by_cases c3 : x9_1 < (l1.length : Int)
      · rw [if_pos c3] at H
        have c3b0 : decide (x9_1 < (l1.length : Int)) = true := decide_eq_true c3
        clear c3
        by_cases c4 : 0 ≤ x9_1
        · rw [if_pos c4] at H
          have c4b0 : decide (0 ≤ x9_1) = true := decide_eq_true c4
          clear c4
          by_cases c5 : x9_1 < (l1.length : Int)
          · rw [if_pos c5] at H
            have c5b0 : decide (x9_1 < (l1.length : Int)) = true := decide_eq_true c5
            clear c5
            replace H := Option.bind_eq_some_iff.mp H
            obtain ⟨t102, A60, H⟩ := H
            replace H : (if t102 = true then (if x9_1 > 0 then (if 0 ≤ (wrap64 (x9_1 - 1)) then (if (wrap64 (x9_1 - 1)) < (l1.length : Int) then (if (rd l1 x9_1) ≤ (rd l1 (wrap64 (x9_1 - 1))) then (some false) else (impl_areDepths.l0 k1 a0 l1 l1 (l1.length : Int) (wrap64 (x9_1 + 1)))) else (none)) else (none)) else (impl_areDepths.l0 k1 a0 l1 l1 (l1.length : Int) (wrap64 (x9_1 + 1)))) else (some false)) = some r := H
            have A6 := amk A60
            clear A60
            by_cases c7 : t102 = true
            · subst c7
              have H1 : (if x9_1 > 0 then (if 0 ≤ (wrap64 (x9_1 - 1)) then (if (wrap64 (x9_1 - 1)) < (l1.length : Int) then (if (rd l1 x9_1) ≤ (rd l1 (wrap64 (x9_1 - 1))) then (some false) else (impl_areDepths.l0 k1 a0 l1 l1 (l1.length : Int) (wrap64 (x9_1 + 1)))) else (none)) else (none)) else (impl_areDepths.l0 k1 a0 l1 l1 (l1.length : Int) (wrap64 (x9_1 + 1)))) = some r := by rw [if_pos rfl] at H; exact H
              clear H
              have H := H1
              clear H1
              by_cases c8 : x9_1 > 0
              · rw [if_pos c8] at H
                have c8b0 : decide (0 < x9_1) = true := decide_eq_true c8
                clear c8
                obtain ⟨ji9, hji9⟩ : ∃ j_ : Int, (wrap64 (x9_1 - 1)) = j_ := ⟨_, rfl⟩
                replace H : (if 0 ≤ (ji9) then (if (ji9) < (l1.length : Int) then (if (rd l1 x9_1) ≤ (rd l1 (ji9)) then (some false) else (impl_areDepths.l0 k1 a0 l1 l1 (l1.length : Int) (wrap64 (x9_1 + 1)))) else (none)) else (none)) = some r := by first | (rw [hji9] at H; exact H) | (simp only [hji9] at H ⊢; exact H)
                (try rw [hji9] at A6)
                have hji9w : (IntKind.i64.wrap (x9_1 - 1)) = ji9 := (i64_w _).trans hji9
                by_cases c10 : 0 ≤ (ji9)
                · rw [if_pos c10] at H
                  have c10b0 : decide (0 ≤ (ji9)) = true := decide_eq_true c10
                  clear c10
                  by_cases c11 : (ji9) < (l1.length : Int)
                  · rw [if_pos c11] at H
                    have c11b0 : decide ((ji9) < (l1.length : Int)) = true := decide_eq_true c11
                    clear c11
                    by_cases c12 : (rd l1 x9_1) ≤ (rd l1 (ji9))
                    · rw [if_pos c12] at H
                      have c12b0 : decide ((rd l1 x9_1) ≤ (rd l1 (ji9))) = true := decide_eq_true c12
                      clear c12
                      obtain rfl := Option.some.inj H
                      have p101 : 0 ≤ (x9_1 : Int) := of_decide_eq_true (by first | (with_reducible assumption) | assumption)
                      have q101 : x9_1 < (l1.length : Int) := of_decide_eq_true (by first | (with_reducible assumption) | assumption)
                      obtain ⟨ad101, e101, hx101_0⟩ := Kd.at_int HR1.out x9_1 p101 q101
                      cases e101
                      replace p101 := eq_true p101
                      replace q101 := eq_true q101
                      go_wp2_with (first | ((with_reducible refine gate_callee (f := 107) rfl ?_); refine goesL_ (some 17) rfl rfl Try.func107 (by kernel_rfl) rfl #[.int .i64 (rd l1 x9_1), .int .i64 0, .int .i64 (wrap64 (a0 - 1))] rfl (by (try simp only [List.map_toArray, List.map_cons, List.map_nil]); first | done | rfl | (simp only [List.length_drop, List.length_take]; rfl)) ?_; (with_reducible refine (impl_within.calls (rd l1 x9_1) 0 (wrap64 (a0 - 1)) true _ A6.out).mono ?_); rintro e w' ⟨rfl, ⟨nd, rfl⟩⟩; refine ⟨_, rfl, ?_⟩; have p103 : 0 ≤ ((ji9) : Int) := of_decide_eq_true (by first | (with_reducible assumption) | assumption); have q103 : (ji9) < (l1.length : Int) := of_decide_eq_true (by first | (with_reducible assumption) | assumption); obtain ⟨ad103, e103, hx103_0⟩ := Kd.at_int HR1.out (ji9) p103 q103; obtain rfl : ad101 = ad103 := (by injection e103); replace p103 := eq_true p103; replace q103 := eq_true q103))
                      go_ret
                      exact ⟨by first | rfl | (simp; done) | (simp only [← hji9] <;> (first | rfl | simp)) | (simp [*]; done), by repeat (first | exact Drawn0.refl _ | apply Drawn0.step)⟩
                    · rw [if_neg c12] at H
                      have c12b0 : decide ((rd l1 x9_1) ≤ (rd l1 (ji9))) = false := decide_eq_false c12
                      clear c12
                      have H' := amk H
                      clear H
                      have p101 : 0 ≤ (x9_1 : Int) := of_decide_eq_true (by first | (with_reducible assumption) | assumption)
                      have q101 : x9_1 < (l1.length : Int) := of_decide_eq_true (by first | (with_reducible assumption) | assumption)
                      obtain ⟨ad101, e101, hx101_0⟩ := Kd.at_int HR1.out x9_1 p101 q101
                      cases e101
                      replace p101 := eq_true p101
                      replace q101 := eq_true q101
                      go_wp2_with (first | ((with_reducible refine gate_callee (f := 107) rfl ?_); refine goesL_ (some 17) rfl rfl Try.func107 (by kernel_rfl) rfl #[.int .i64 (rd l1 x9_1), .int .i64 0, .int .i64 (wrap64 (a0 - 1))] rfl (by (try simp only [List.map_toArray, List.map_cons, List.map_nil]); first | done | rfl | (simp only [List.length_drop, List.length_take]; rfl)) ?_; (with_reducible refine (impl_within.calls (rd l1 x9_1) 0 (wrap64 (a0 - 1)) true _ A6.out).mono ?_); rintro e w' ⟨rfl, ⟨nd, rfl⟩⟩; refine ⟨_, rfl, ?_⟩; have p103 : 0 ≤ ((ji9) : Int) := of_decide_eq_true (by first | (with_reducible assumption) | assumption); have q103 : (ji9) < (l1.length : Int) := of_decide_eq_true (by first | (with_reducible assumption) | assumption); obtain ⟨ad103, e103, hx103_0⟩ := Kd.at_int HR1.out (ji9) p103 q103; obtain rfl : ad101 = ad103 := (by injection e103); replace p103 := eq_true p103; replace q103 := eq_true q103))
                      go_roundg k1
                      case measure => have := HK1.out; omega
                      case rel => exact ⟨(wrap64 (x9_1 + 1)), (by first | rfl | (simp; done) | (simp [*]; done)), H', ⟨by have := HK1.out; omega⟩, by repeat (first | exact Drawn0.refl _ | apply Drawn0.step)⟩
                  · rw [if_neg c11] at H
                    exact absurd H (by simp)
                · rw [if_neg c10] at H
                  exact absurd H (by simp)
              · rw [if_neg c8] at H
                have c8b0 : decide (0 < x9_1) = false := decide_eq_false c8
                clear c8
                have H' := amk H
                clear H
                have p101 : 0 ≤ (x9_1 : Int) := of_decide_eq_true (by first | (with_reducible assumption) | assumption)
                have q101 : x9_1 < (l1.length : Int) := of_decide_eq_true (by first | (with_reducible assumption) | assumption)
                obtain ⟨ad101, e101, hx101_0⟩ := Kd.at_int HR1.out x9_1 p101 q101
                cases e101
                replace p101 := eq_true p101
                replace q101 := eq_true q101
                go_wp2_with (first | ((with_reducible refine gate_callee (f := 107) rfl ?_); refine goesL_ (some 17) rfl rfl Try.func107 (by kernel_rfl) rfl #[.int .i64 (rd l1 x9_1), .int .i64 0, .int .i64 (wrap64 (a0 - 1))] rfl (by (try simp only [List.map_toArray, List.map_cons, List.map_nil]); first | done | rfl | (simp only [List.length_drop, List.length_take]; rfl)) ?_; (with_reducible refine (impl_within.calls (rd l1 x9_1) 0 (wrap64 (a0 - 1)) true _ A6.out).mono ?_); rintro e w' ⟨rfl, ⟨nd, rfl⟩⟩; refine ⟨_, rfl, ?_⟩))
                go_roundg k1
                case measure => have := HK1.out; omega
                case rel => exact ⟨(wrap64 (x9_1 + 1)), (by first | rfl | (simp; done) | (simp [*]; done)), H', ⟨by have := HK1.out; omega⟩, by repeat (first | exact Drawn0.refl _ | apply Drawn0.step)⟩
            · replace c7 := Bool.eq_false_iff.mpr c7
              subst c7
              have H1 : (some false) = some r := by rw [if_neg (show ¬ (false = true) by decide)] at H; exact H
              clear H
              have H := H1
              clear H1
              obtain rfl := Option.some.inj H
              have p101 : 0 ≤ (x9_1 : Int) := of_decide_eq_true (by first | (with_reducible assumption) | assumption)
              have q101 : x9_1 < (l1.length : Int) := of_decide_eq_true (by first | (with_reducible assumption) | assumption)
              obtain ⟨ad101, e101, hx101_0⟩ := Kd.at_int HR1.out x9_1 p101 q101
              cases e101
              replace p101 := eq_true p101
              replace q101 := eq_true q101
              go_wp2_with (first | ((with_reducible refine gate_callee (f := 107) rfl ?_); refine goesL_ (some 17) rfl rfl Try.func107 (by kernel_rfl) rfl #[.int .i64 (rd l1 x9_1), .int .i64 0, .int .i64 (wrap64 (a0 - 1))] rfl (by (try simp only [List.map_toArray, List.map_cons, List.map_nil]); first | done | rfl | (simp only [List.length_drop, List.length_take]; rfl)) ?_; (with_reducible refine (impl_within.calls (rd l1 x9_1) 0 (wrap64 (a0 - 1)) false _ A6.out).mono ?_); rintro e w' ⟨rfl, ⟨nd, rfl⟩⟩; refine ⟨_, rfl, ?_⟩))
              go_ret
              exact ⟨by first | rfl | (simp; done) | (simp [*]; done), by repeat (first | exact Drawn0.refl _ | apply Drawn0.step)⟩
          · rw [if_neg c5] at H
            exact absurd H (by simp)
        · rw [if_neg c4] at H
          exact absurd H (by simp)
      · rw [if_neg c3] at H
        have c3b0 : decide (x9_1 < (l1.length : Int)) = false := decide_eq_false c3
        clear c3
        obtain rfl := Option.some.inj H
        go_wp2
        go_ret
        exact ⟨by first | rfl | (simp; done) | (simp [*]; done), by repeat (first | exact Drawn0.refl _ | apply Drawn0.step)⟩
/-! impl's areDepths and spec's l1Rising: what they come to. -/
theorem impl_within.bs (a b c : Int) : impl_within.f a b c = some (decide (b ≤ a ∧ a ≤ c)) := by
  unfold impl_within.f
  by_cases h : b ≤ a
  · rw [if_pos h]; simp [h]
  · rw [if_neg h]; simp [h]
theorem spec_l1In.bs (a b c : Int) : spec_l1In.f a b c = some (decide (b ≤ a ∧ a ≤ c)) := by
  unfold spec_l1In.f
  by_cases h : b ≤ a
  · rw [if_pos h]; simp [h]
  · rw [if_neg h]; simp [h]
theorem impl_areDepths.lev (n : Int) (hn : 1 ≤ n ∧ n ≤ 9) (l : List Int) (hl : l.length ≤ 9223372036854775807) : ∀ (m i : Nat), i + m = l.length → (-1 ≤ lastI l i) → Ev (fun k => impl_areDepths.l0 k n l l (l.length : Int) (i : Nat)) (decide (0 < l.length) && risF n (lastI l i) (l.drop i)) := by
  intro m
  induction m with
  | zero =>
    intro i hi _
    refine Ev.step (fun k => rfl) (Ev.no (by omega) (Ev.id ?_))
    rw [List.drop_eq_nil_of_le (by omega)]
    by_cases h : 0 < l.length
    · simp [risF, h]
    · simp [risF, h]
  | succ m ih =>
    intro i hi hq
    have hlt : i < l.length := by omega
    have hr : rd l (i : Nat) = l[i] := by rw [rd_at (by simpa using hlt)]; simp
    refine Ev.step (fun k => rfl) (Ev.yes (by omega) (Ev.yes (by omega) (Ev.yes (by omega) (Ev.bindc (impl_within.bs _ _ _) ?_))))
    rw [w64 (x := n - 1) (by omega) (by omega), hr]
    rw [List.drop_eq_getElem_cons hlt]
    have hd : decide (0 < l.length) = true := decide_eq_true (by omega)
    rw [hd, Bool.true_and]
    unfold risF
    have hw : wrap64 ((i : Int) + 1) = ((i + 1 : Nat) : Int) := w64 (by omega) (by omega)
    have hla : lastI l (i + 1) = l[i] := lastI_at hlt
    have hlt0 := hlt
    by_cases h1 : 0 ≤ l[i] ∧ l[i] ≤ n - 1
    · refine Ev.yes (decide_eq_true h1) ?_
      have hgo := ih (i + 1) (by omega) (by rw [hla]; omega)
      rw [hla, hd, Bool.true_and] at hgo
      cases i with
      | zero =>
        refine Ev.no (by omega) ?_
        rw [hw]
        refine Ev.eq hgo ?_
        have h2 : decide (lastI l 0 < l[0]) = true := decide_eq_true (show (-1 : Int) < l[0] by omega)
        have h3 : decide (l[0] ≤ n - 1) = true := decide_eq_true h1.2
        rw [h2, h3]; rfl
      | succ i =>
        have hp : wrap64 (((i + 1 : Nat) : Int) - 1) = (i : Nat) := by rw [w64 (by omega) (by omega)]; omega
        have hr1 : rd l (i : Nat) = l[i] := by rw [rd_at (by simp; omega)]; simp
        have hlb : lastI l (i + 1) = l[i] := lastI_at (by omega)
        refine Ev.yes (by omega) ?_
        rw [hp, hr1, hlb]
        refine Ev.yes (by omega) (Ev.yes (by omega) ?_)
        by_cases h2 : l[i + 1] ≤ l[i]
        · refine Ev.yes h2 (Ev.id ?_)
          rw [decide_eq_false (by omega : ¬ l[i] < l[i + 1])]; rfl
        · refine Ev.no h2 ?_
          rw [hw]
          refine Ev.eq hgo ?_
          rw [decide_eq_true (by omega : l[i] < l[i + 1]), decide_eq_true h1.2]; rfl
    · refine Ev.no (by rw [decide_eq_false h1]; simp) (Ev.id ?_)
      by_cases h2 : lastI l i < l[i]
      · have h3 : ¬ l[i] ≤ n - 1 := fun h => h1 ⟨by omega, h⟩
        rw [decide_eq_false h3]; simp
      · rw [decide_eq_false h2]; rfl
theorem impl_areDepths.ev (n : Int) (hn : 1 ≤ n ∧ n ≤ 9) (l : List Int) (hl : l.length ≤ 9223372036854775807) : Ev (fun k => impl_areDepths.f k n l) (rowB n l) := by
  unfold impl_areDepths.f
  refine Ev.eq (impl_areDepths.lev n hn l hl l.length 0 (by omega) (show (-1 : Int) ≤ -1 by omega)) ?_
  unfold rowB
  cases l <;> simp [lastI]
/-! the first place where a test holds. -/
def idxOf {α : Type} (p : α → Bool) (xs : List α) : Int := if xs.any p then (xs.findIdx p : Int) else -1
theorem idxOf_hit {α : Type} {p : α → Bool} {xs : List α} {i : Nat} {y : α} (hi : xs[i]? = some y) (h : p y = true) (hb : ∀ (j : Nat) z, j < i → xs[j]? = some z → p z = false) : idxOf p xs = i := by
  obtain ⟨hl, rfl⟩ := List.getElem?_eq_some_iff.1 hi
  unfold idxOf
  rw [if_pos (List.any_eq_true.mpr ⟨xs[i], List.getElem_mem hl, h⟩)]
  congr 1
  exact (List.findIdx_eq hl).mpr ⟨h, fun j hj => hb j _ hj (List.getElem?_eq_getElem (by omega))⟩
theorem idxOf_miss {α : Type} {p : α → Bool} {xs : List α} (hb : ∀ (j : Nat) z, xs[j]? = some z → p z = false) : idxOf p xs = -1 := by
  unfold idxOf
  rw [if_neg]
  rw [Bool.not_eq_true, List.any_eq_false]
  intro x hx
  obtain ⟨j, hj, rfl⟩ := List.getElem_of_mem hx
  simp [hb j _ (List.getElem?_eq_getElem hj)]
theorem idxOf_nonneg {α : Type} (p : α → Bool) (xs : List α) : decide (0 ≤ idxOf p xs) = xs.any p := by
  unfold idxOf
  split
  · rename_i h; rw [h]; simp
  · rename_i h; rw [Bool.eq_false_iff.mpr h]; simp
/-! slices.IndexFunc and slices.ContainsFunc at rows of numbers, under any predicate that makes nothing but new memory. -/
def PredRow (g : Nat) (cap : Array Value) (p : List Int → Bool) (xs : List (List Int)) (w : World) : Prop :=
  ∀ x, x ∈ xs → ∀ (W : World) (A0 : Option Addr) (c0 : Nat), Below w.heap.size w W → x.length ≤ c0 → (Kd.int .i64).C W A0 x.length x → Calls Try.prog g (#[.slice A0 x.length c0] ++ cap) W fun e w' => e = .returned (.bool (p x)) ∧ Below w.heap.size w w'
set_option maxHeartbeats 2000000 in
set_option maxRecDepth 100000 in
theorem idx_Row (g : Nat) (cap : Array Value) (p : List Int → Bool) (A : Option Addr) (c : Nat) (xs : List (List Int)) (w : World) (eg : ∀ args w, (callFunc g args).run Try.prog w = .ok (.enter g args) w)
    (hr : Kd.C (Kd.slice 3 (Kd.int .i64)) w A xs.length xs) (hp : PredRow g cap p xs w) :
    Calls Try.prog 142 #[.slice A xs.length c, .func (.func g) #[] cap] w fun e w' => e = .returned (.int .i64 (idxOf p xs)) ∧ Below w.heap.size w w' := by
  have hbig := hr.2.1
  have HR := amk hr
  have HP := amk hp
  clear hr hp
  go_enter Try.func142, Try.ntmps142
  go_wp2
  go_loopg [5, 8] xs.length (fun gg _ s8 wr => ∃ i : Int, s8 = .int .i64 i ∧ Aside0 (0 ≤ i) ∧ Aside0 (i ≤ xs.length) ∧ Aside0 ((xs.length : Int) - i ≤ gg) ∧ Aside0 (Below w.heap.size w wr) ∧ Aside0 (∀ (j : Nat) z, (j : Int) < i → xs[j]? = some z → p z = false))
  case atStart => exact ⟨0, rfl, ⟨by omega⟩, ⟨by omega⟩, ⟨by omega⟩, ⟨Below.refl _ w⟩, ⟨fun j hj => by omega⟩⟩
  case round =>
    obtain ⟨i, rfl, I0, I1, IG, BW, AA⟩ := hrel
    by_cases hlt : i < (xs.length : Int)
    · have hlw : decide (i < (xs.length : Int)) = true := decide_eq_true hlt
      have i0 : 0 ≤ i := I0.out
      obtain ⟨ad, cs, e, _, hK, hc0⟩ := Kd.C_get HR.out ([] : List Int) i i0 hlt
      cases e
      have hc : ∀ j u, cs[j]? = some u → w.cell? (ad.add (i.toNat * 1 + j)) = some u := hc0
      obtain ⟨A0, c0, rfl, l0, g0⟩ := hK
      have hx0 := hc 0 _ rfl
      rw [Nat.mul_one, Nat.add_zero] at hx0
      clear hc hc0
      replace hx0 := (BW.out.cell (World.block_lt_of_cell? w _ hx0)).trans hx0
      replace g0 := Kd.C_below g0 BW.out
      have HY : Aside0 (xs[i.toNat]? = some (xs.getD i.toNat [])) := ⟨by
        have hin : i.toNat < xs.length := by omega
        simp [List.getD, hin]⟩
      generalize xs.getD i.toNat [] = y at hx0 l0 g0 HY
      have hcall := HP.out y (List.mem_of_getElem? HY.out) wr A0 c0 BW.out l0 g0
      have L0 := amk l0
      have G0 := amk g0
      clear l0 g0
      have HLT := amk hlt
      replace hlt := eq_true hlt
      replace i0 := eq_true i0
      cases hq : p y with
      | true =>
        rw [hq] at hcall
        have HQ := amk hq
        clear hq
        go_wp2_with (go_at_fn g; refine hcall.mono ?_; rintro e w' ⟨rfl, hb'⟩)
        go_ret
        refine ⟨?_, hb'⟩
        have h1 := idxOf_hit (p := p) HY.out HQ.out (fun j z hj hz => AA.out j z (by omega) hz)
        rw [h1]
        have := I0.out
        show Ending.returned (.int .i64 i) = Ending.returned (.int .i64 ((i.toNat : Nat) : Int))
        rw [Int.toNat_of_nonneg this]
      | false =>
        rw [hq] at hcall
        have HQ := amk hq
        clear hq
        go_wp2_with (go_at_fn g; refine hcall.mono ?_; rintro e w' ⟨rfl, hb'⟩)
        have hw1 : wrap64 (i + 1) = i + 1 := by
          have := I0.out
          have := HLT.out
          unfold wrap64; omega
        go_roundg (xs.length - (i.toNat + 1))
        case measure => have := I0.out; have := HLT.out; have := IG.out; omega
        case rel =>
          have a1 := I0.out
          have a2 := HLT.out
          refine ⟨i + 1, by rw [hw1], ⟨by omega⟩, ⟨by omega⟩, ⟨by omega⟩, ⟨hb'⟩, ⟨fun j z hj hz => ?_⟩⟩
          by_cases e : j = i.toNat
          · subst e
            rw [HY.out] at hz
            injection hz with hz
            rw [← hz]; exact HQ.out
          · exact AA.out j z (by omega) hz
    · have hlw : decide (i < (xs.length : Int)) = false := decide_eq_false hlt
      have HK := amk hlt
      clear hlt
      go_wp2
      go_ret
      refine ⟨?_, BW.out⟩
      rw [idxOf_miss (fun j z hz => AA.out j z (by have := HK.out; have := (List.getElem?_eq_some_iff.1 hz).1; omega) hz)]
      rfl
theorem contains_Row (g : Nat) (cap : Array Value) (p : List Int → Bool) (A : Option Addr) (c : Nat) (xs : List (List Int)) (w : World) (eg : ∀ args w, (callFunc g args).run Try.prog w = .ok (.enter g args) w)
    (hr : Kd.C (Kd.slice 3 (Kd.int .i64)) w A xs.length xs) (hp : PredRow g cap p xs w) :
    Calls Try.prog 108 #[.slice A xs.length c, .func (.func g) #[] cap] w fun e w' => e = .returned (.bool (xs.any p)) ∧ Below w.heap.size w w' := by
  rw [← idxOf_nonneg p xs]
  have HC := amk (idx_Row g cap p A c xs w eg hr hp)
  clear hr hp
  go_enter Try.func108, Try.ntmps108
  go_wp2_with (go_at_call 142; refine HC.out.mono ?_; rintro e w' ⟨rfl, hb'⟩)
  go_ret
  exact ⟨rfl, hb'⟩
/-! impl.within and spec.l1In, by hand: the world stays. -/
def winB (a b c : Int) : Bool := decide (b ≤ a ∧ a ≤ c)
theorem winB_yes {a b c : Int} (h : b ≤ a ∧ a ≤ c) : winB a b c = true := by unfold winB; simp [h]
theorem winB_no {a b c : Int} (h : ¬ (b ≤ a ∧ a ≤ c)) : winB a b c = false := by unfold winB; simp [h]
theorem within_same (a b c : Int) (w : World) : Calls Try.prog 107 #[.int .i64 a, .int .i64 b, .int .i64 c] w fun e w' => e = .returned (.bool (winB a b c)) ∧ w = w' := by
  by_cases h1 : b ≤ a
  · by_cases h2 : a ≤ c
    · rw [winB_yes ⟨h1, h2⟩]
      go_enter Try.func107, Try.ntmps107
      go_wp2
      go_ret
      exact ⟨rfl, rfl⟩
    · rw [winB_no (fun h => h2 h.2)]
      go_enter Try.func107, Try.ntmps107
      go_wp2
      go_ret
      exact ⟨rfl, rfl⟩
  · rw [winB_no (fun h => h1 h.1)]
    go_enter Try.func107, Try.ntmps107
    go_wp2
    go_ret
    exact ⟨rfl, rfl⟩
/-! impl.ArePins, by hand: it asks its rows through slices.ContainsFunc and a closure. -/
theorem arePins_closure (n : Int) (hn : 1 ≤ n ∧ n ≤ 9) (gb : Nat) (W : World) (h0 : W.cell? ⟨gb, 0, none⟩ = some (.int .i64 n)) (x : List Int) (A0 : Option Addr) (c0 : Nat) (hc0 : x.length ≤ c0) (hr0 : (Kd.int .i64).C W A0 x.length x) :
    Calls Try.prog 109 #[.slice A0 x.length c0, .pointer (some ⟨gb, 0, none⟩)] W fun e w' => e = .returned (.bool (!rowB n x)) ∧ Below W.heap.size W w' := by
  obtain ⟨k, hk⟩ := (impl_areDepths.ev n hn x hr0.2.1).rounds
  have hu41 := Try.underlying41
  have HK := amk hk
  have HR := amk hr0
  have HC := amk hc0
  clear hk hn hr0 hc0
  generalize rowB n x = b at HK ⊢
  go_enter Try.func109, Try.ntmps109
  go_wp2_with (go_at_call 110; refine (impl_areDepths.calls k _ _ _ _ _ _ HR.out HC.out HK.out).mono ?_; rintro e w' ⟨rfl, hb⟩)
  go_ret
  exact ⟨rfl, hb.below⟩
def impl_ArePins.f (a : Int) (l : List (List Int)) : Option Bool := some (pinsB a l)
set_option maxHeartbeats 2000000 in
set_option maxRecDepth 100000 in
theorem impl_ArePins.calls (a0_0 : Int) (A0_1 : Option Addr) (c0_1 : Nat) (l0_1 : List (List Int)) (r : Bool) (w : World) (hr0_1 : Kd.C (Kd.slice 3 (Kd.int .i64)) w A0_1 l0_1.length l0_1) (hc0_1 : l0_1.length ≤ c0_1) (h : impl_ArePins.f a0_0 l0_1 = some r) :
    Calls Try.prog 55 #[.agg #[.int .i64 a0_0, .slice A0_1 l0_1.length c0_1]] w fun e w' => e = .returned (.bool r) ∧ Below w.heap.size w w' := by
  obtain rfl := Option.some.inj h
  clear h
  have hu41 := Try.underlying41
  have hu35 := Try.underlying35
  have eg : ∀ args w, (callFunc 109 args).run Try.prog w = .ok (.enter 109 args) w := enters_of Try.func109 (by kernel_rfl) rfl
  have HE := amk eg
  clear eg
  have HR := amk hr0_1
  clear hr0_1
  unfold pinsB
  by_cases h1 : 1 ≤ a0_0 ∧ a0_0 ≤ 9
  · by_cases h2 : 1 ≤ (l0_1.length : Int) ∧ (l0_1.length : Int) ≤ 7
    · rw [decide_eq_true h1, decide_eq_true h2, show (l0_1.all (rowB a0_0)) = !(l0_1.any fun c => !rowB a0_0 c) by simp [List.all_eq_not_any_not]]
      have hw1 := winB_yes h1
      have hw2 := winB_yes h2
      generalize hz : (l0_1.any fun c => !rowB a0_0 c) = z
      have HZ := amk hz
      have H1 := amk h1
      clear hz h1 h2
      go_enter Try.func55, Try.ntmps55
      go_wp2_with (first | (go_at_call 108; refine (contains_Row 109 #[.pointer (some ⟨w.heap.size, 0, none⟩)] (fun c => !rowB a0_0 c) A0_1 c0_1 l0_1 _ HE.out (Kd.C_alloc HR.out _) (fun x _ W A0 c0 hW hc hr => (arePins_closure a0_0 H1.out w.heap.size W ((hW.cell (p := ⟨w.heap.size, 0, none⟩) (by simp)).trans (by simp)) x A0 c0 hc hr).mono (fun e w' ⟨h1, h2⟩ => ⟨h1, hW.trans (h2.mono hW.size)⟩))).mono ?_; rintro e w2 ⟨rfl, hb2⟩) | (go_at_call 107; refine (within_same _ _ _ _).mono ?_; rintro e w' ⟨rfl, rfl⟩))
      go_ret
      exact ⟨by rw [HZ.out]; rfl, ((Below.refl _ w).alloc (Nat.le_refl _) _).trans (hb2.mono (by simp))⟩
    · rw [decide_eq_false h2]
      have hw1 := winB_yes h1
      have hw2 := winB_no h2
      clear h1 h2
      go_enter Try.func55, Try.ntmps55
      go_wp2_with (first | (go_at_call 107; refine (within_same _ _ _ _).mono ?_; rintro e w' ⟨rfl, rfl⟩))
      go_ret
      exact ⟨by simp, (Below.refl _ w).alloc (Nat.le_refl _) _⟩
  · rw [decide_eq_false h1]
    have hw1 := winB_no h1
    clear h1
    go_enter Try.func55, Try.ntmps55
    go_wp2_with (go_at_call 107; refine (within_same _ _ _ _).mono ?_; rintro e w' ⟨rfl, rfl⟩)
    go_ret
    exact ⟨by simp, (Below.refl _ w).alloc (Nat.le_refl _) _⟩
/-! ### impl_Pins_changed: function 98 -/
def impl_Pins_changed.f (k : Nat) (a0_0 : Int) (l0_1 : List (List Int)) (a1 : Int) (l2 : List Int) : Option (Int × (List (List Int)) × Bool) := (impl_joined.f k (([(⟨a0_0, l0_1⟩ : S41)] : List (S41))) 1).bind fun bt547 => (if 0 ≤ a1 then (if a1 < (bt547.2.length : Int) then ((some (bt547.2.set (a1 : Int).toNat l2 : List (List Int))).bind fun y552 => ((impl_ArePins.f bt547.1 y552).bind fun t553 => (if t553 = true then (some (bt547.1, y552, true)) else (some (0, ([] : List (List Int)), false))))) else (none)) else (none))
/-! ### spec_keJoin: function 81 -/
/-! spec.keJoined, by hand: it begins with a pin that came in, and goes on with what was made. -/
theorem two_cells {w : World} {g t : Nat} {a b : Value} (h : w.heap[g]? = some (.cells #[a, b] t (0, 0))) : w.cell? ⟨g, 0, none⟩ = some a ∧ w.cell? ⟨g, 1, none⟩ = some b ∧ w.frozen? ⟨g, 0, none⟩ = false ∧ w.frozen? ⟨g, 1, none⟩ = false ∧ g < w.heap.size :=
  ⟨by simp [World.cell?, h], by simp [World.cell?, h], by simp [World.frozen?, h], by simp [World.frozen?, h], (Array.getElem?_eq_some_iff.mp h).1⟩
theorem two_set {w : World} {g t : Nat} {a b : Value} (h : w.heap[g]? = some (.cells #[a, b] t (0, 0))) (c d : Value) : ((w.setCell ⟨g, 0, none⟩ c).setCell ⟨g, 1, none⟩ d).heap[g]? = some (.cells #[c, d] t (0, 0)) := by
  have h1 := heap_setCell_same w g 0 #[a, b] t c h
  have h2 := heap_setCell_same (w.setCell ⟨g, 0, none⟩ c) g 1 _ t d h1
  rw [h2]
  rfl
/-! impl.changed, by hand: a row of the call's own is stored into the rows it makes. -/
theorem S_row_put {α : Type} {d : Kd α} {e e0 : Nat} {W : World} {base g n cap : Nat} {ok okR : Nat → Prop} {xs : List (List α)} {v : Value} {x : List α} (hE : d.E = []) (hne : e ≠ e0)
    (h : Kd.S (Kd.slice e d) e0 W base (fun k => ok k ∧ ¬ okR k) (.slice (some ⟨g, 0, none⟩) n cap) xs) (hr : Kd.R d e W base okR v x) (hsub : ∀ k, okR k → ok k ∧ k ≠ g) (i : Int) (h0 : 0 ≤ i) (h1 : i < n) :
    Kd.S (Kd.slice e d) e0 (W.setCell ⟨g, i.toNat, none⟩ v) base ok (.slice (some ⟨g, 0, none⟩) n cap) (xs.set i.toNat x) := by
  obtain ⟨oki, c, hcl, hM, hcc, hfr, hoki, hH⟩ := Kd.S_elem h ([] : List α) i h0 h1
  have hc1 : c.length = 1 := hcl
  have hP := Kd.S_seg hH h0 h1 (seg := [v]) (j := 0) (Nat.le_refl 1) (x' := x) (okp := okR) (by
    have : c.take 0 ++ [v] ++ c.drop (0 + [v].length) = [v] := by
      rw [show (0 + [v].length) = 1 from rfl, List.drop_eq_nil_of_le (by omega)]; rfl
    rw [this]; exact Kd.M_row hr) (fun k hk => Or.inr hk) hsub
  have h2 := hP.1
  have e1 : i.toNat * (Kd.slice e d).sz + 0 = i.toNat := by show i.toNat * 1 + 0 = i.toNat; omega
  rw [e1] at h2
  exact h2
theorem S_ivC {α : Type} {d : Kd α} {e : Nat} {w : World} {base : Nat} {ok : Nat → Prop} {v : Value} {xs : List α} (h : Kd.S d e w base ok v xs) : Kd.S d e w base (fun j => base ≤ j ∧ j < w.heap.size) v xs := Kd.S_mono (Kd.S_bound h) (fun _ hk => ⟨hk.2.1, hk.2.2.1⟩)
theorem one_pins {W : World} {g : Nat} {a0 : Int} {A0 : Option Addr} {c0 : Nat} {l0 : List (List Int)} (hg : W.heap[g]? = some (.cells #[.int .i64 a0, .slice A0 l0.length c0] 41 (0, 0)))
    (h0 : Kd.C (Kd.slice 3 (Kd.int .i64)) W A0 l0.length l0) (i0 : l0.length ≤ c0) : Kd.C k41 W (some ⟨g, 0, none⟩) 1 [(⟨a0, l0⟩ : S41)] := by
  have q0 : W.cell? ⟨g, 0, none⟩ = some (.int .i64 a0) := by simp [World.cell?, hg]
  have q1 : W.cell? ⟨g, 1, none⟩ = some (.slice A0 l0.length c0) := by simp [World.cell?, hg]
  refine ⟨rfl, by omega, fun _ => ⟨_, rfl, fun j p hj => ?_⟩⟩
  match j, hj with
  | 0, hj =>
    injection hj with hj
    subst hj
    refine ⟨[.int .i64 a0, .slice A0 l0.length c0], rfl, k41_mk W ⟨a0, l0⟩ i0 h0, fun i u hi => ?_⟩
    match i, hi with
    | 0, hi => injection hi with hi; subst hi; exact q0
    | 1, hi => injection hi with hi; subst hi; exact q1
set_option maxHeartbeats 4000000 in
set_option maxRecDepth 100000 in
theorem impl_Pins_changed_own (k : Nat) (a0 : Int) (A0 : Option Addr) (c0 : Nat) (l0 : List (List Int)) (a1 : Int) (A2 : Option Addr) (c2 : Nat) (l2 : List Int) (r1 : Int) (r2 : List (List Int)) (r3 : Bool) (w0 w : World) (okR : Nat → Prop) (hB : Below w0.heap.size w0 w) (h0 : Kd.C (Kd.slice 3 (Kd.int .i64)) w A0 l0.length l0) (i0 : l0.length ≤ c0) (h2 : Kd.R (Kd.int .i64) 3 w w0.heap.size okR (.slice A2 l2.length c2) l2) (h : impl_Pins_changed.f k a0 l0 a1 l2 = some (r1, r2, r3)) :
    Calls Try.prog 98 #[.agg #[.int .i64 a0, .slice A0 l0.length c0], .int .i64 a1, .slice A2 l2.length c2] w fun e w' => ∃ v1_ : Value, e = .returned (.tuple #[.agg #[.int .i64 r1, v1_], .bool r3]) ∧ Kd.S (Kd.slice 3 (Kd.int .i64)) 86 w' w0.heap.size (fun _ => True) v1_ r2 ∧ Below w0.heap.size w0 w' := by
  have hu41 := Try.underlying41
  have hu35 := Try.underlying35
  have hu57 := Try.underlying57
  have hu86 := Try.underlying86
  unfold impl_Pins_changed.f at h
  obtain ⟨⟨n, J⟩, hj, h⟩ := Option.bind_eq_some_iff.mp h
  simp only [] at h
  by_cases p1 : 0 ≤ a1
  · rw [if_pos p1] at h
    by_cases p2 : a1 < (J.length : Int)
    · rw [if_pos p2] at h
      obtain ⟨i, rfl⟩ := Int.eq_ofNat_of_zero_le p1
      have hJ : i < J.length := by omega
      simp only [Option.bind_some, Int.toNat_natCast] at h
      obtain ⟨t, ht, h⟩ := Option.bind_eq_some_iff.mp h
      have hd0 : decide ((0 : Int) ≤ (i : Int)) = true := decide_eq_true (by omega)
      have hd1 : decide ((i : Int) < (J.length : Int)) = true := decide_eq_true p2
      have hz0 : ((0 : Int) ≤ (i : Int)) = True := eq_true (by omega)
      have hz1 : ((i : Int) < (J.length : Int)) = True := eq_true p2
      have hz2 : (i < J.length) = True := eq_true hJ
      have HJ := amk hJ
      have HJJ := amk hj
      have HT := amk ht
      have H := amk h
      have H0 := amk h0
      have I0 := amk i0
      have H2 := amk h2
      have HB := amk hB
      clear h hj ht h0 i0 h2 hB p1 p2 hJ
      have HB2 := amk (((Below.refl w.heap.size w).alloc (Nat.le_refl _) (.cells #[.int .i64 a0, .slice A0 l0.length c0] 41 (0, 0))).alloc (by simp) (.cells #[.int .i64 0, .slice none 0 0] 41 (0, 0)))
      have HB3 := amk (HB2.out.alloc HB2.out.size (.cells #[.int .i64 a0, .slice A0 l0.length c0] 41 (0, 0)))
      have N2 := amk (blk_new (w.alloc (.cells #[.int .i64 a0, .slice A0 l0.length c0] 41 (0, 0))) (.cells #[.int .i64 0, .slice none 0 0] 41 (0, 0)))
      have N3 := amk (blk_new ((w.alloc (.cells #[.int .i64 a0, .slice A0 l0.length c0] 41 (0, 0))).alloc (.cells #[.int .i64 0, .slice none 0 0] 41 (0, 0))) (.cells #[.int .i64 a0, .slice A0 l0.length c0] 41 (0, 0)))
      go_enter Try.func98, Try.ntmps98
      go_wp2_with (go_at_call 101; refine Calls.mono (impl_joined.calls k _ 1 [(⟨a0, l0⟩ : S41)] 1 n J _ (one_pins (g := w.heap.size + 1 + 1) (by simpa using N3.out) (Kd.C_below H0.out HB3.out) I0.out) (Nat.le_refl _) HJJ.out) ?_; rintro e w9 ⟨v9, rfl, hs9, hb9⟩; obtain ⟨g9, c9, rfl, hg9, hg9b, _⟩ := Kd.S_form hs9 (Nat.lt_of_le_of_lt (Nat.zero_le _) HJ.out); have S9 := amk (S_ivC hs9); have G9 := amk hg9; have HB9 := amk (HB3.out.trans (hb9.mono HB3.out.size)); have BK9 := amk (show w9.heap[w.heap.size + 1]? = some (.cells #[.int .i64 0, .slice none 0 0] 41 (0, 0)) from (hb9.block _ (by simp)).trans ((((Below.refl _ _).alloc (Nat.le_refl _) _).block _ (by simp)).trans (by simpa using N2.out))); have hS10 := Kd.S_alloc S9.out (.cells #[.int .i64 n, .slice (some ⟨g9, 0, none⟩) J.length c9] 41 (0, 0)); obtain ⟨_, ce, hcl, _, hcc, hfr, _, _⟩ := Kd.S_elem hS10 ([] : List Int) (i : Int) (by omega) (by have := HJ.out; omega); obtain ⟨u, rfl⟩ : ∃ u, ce = [u] := List.length_eq_one_iff.mp hcl; have hx0 := hcc 0 u rfl; have hx1 := hfr 0; simp only [show (Kd.slice 3 (Kd.int .i64)).sz = 1 from rfl, Nat.mul_one, Nat.add_zero, Int.toNat_natCast] at hx0 hx1; have hne1 : g9 ≠ w9.heap.size := Nat.ne_of_lt hg9b; have hne2 : w9.heap.size ≠ g9 := Nat.ne_of_gt hg9b; have NE := amk hg9b; clear hs9 hb9 hcc hfr hcl hS10 hg9 hg9b)
      have R2 : Aside0 (Kd.R (Kd.int .i64) 3 (w9.alloc (.cells #[.int .i64 n, .slice (some ⟨g9, 0, none⟩) J.length c9] 41 (0, 0))) w0.heap.size (fun j => j < w.heap.size) (.slice A2 l2.length c2) l2) := ⟨Kd.R_mono (Kd.R_alloc (Kd.R_below (Kd.R_bound H2.out) HB9.out) _) (fun _ hk => hk.2.2.1)⟩
      have S11 := amk (S_row_put (okR := fun j => j < w.heap.size) (ok := fun _ => True) rfl (by decide) (Kd.S_mono (Kd.S_alloc (Kd.S_lower S9.out (base' := w0.heap.size) (by have := HB.out.size; simp; omega)) (.cells #[.int .i64 n, .slice (some ⟨g9, 0, none⟩) J.length c9] 41 (0, 0))) (fun k hk => ⟨trivial, by have := hk.1; simp at this; omega⟩)) R2.out (fun k hk => ⟨trivial, by have := G9.out; simp at this; omega⟩) (i : Int) (by omega) (by have := HJ.out; omega))
      have hSS := S11.out
      simp only [Int.toNat_natCast] at hSS
      have S11' := amk hSS
      clear hSS
      have HHA := amk (show ∀ W, Kd.C (Kd.slice 3 (Kd.int .i64)) W (some ⟨g9, 0, none⟩) (J.set i l2).length (J.set i l2) → Calls Try.prog 55 #[.agg #[.int .i64 n, .slice (some ⟨g9, 0, none⟩) J.length c9]] W fun e w' => e = .returned (.bool t) ∧ Below W.heap.size W w' from fun W hC => by
        have := impl_ArePins.calls n (some ⟨g9, 0, none⟩) c9 (J.set i l2) t W hC (by have := (Kd.S_reads' S9.out).2.1; rw [List.length_set]; exact this) HT.out
        rw [List.length_set] at this
        exact this)
      have BO := amk (show ((w9.alloc (.cells #[.int .i64 n, .slice (some ⟨g9, 0, none⟩) J.length c9] 41 (0, 0))).setCell ⟨g9, i, none⟩ (.slice A2 l2.length c2)).heap[w9.heap.size]? = some (.cells #[.int .i64 n, .slice (some ⟨g9, 0, none⟩) J.length c9] 41 (0, 0)) from (Below.heap_setCell (w9.alloc (.cells #[.int .i64 n, .slice (some ⟨g9, 0, none⟩) J.length c9] 41 (0, 0))) ⟨g9, i, none⟩ _ w9.heap.size hne2).trans (blk_new w9 _))
      have BK11 := amk (show ((w9.alloc (.cells #[.int .i64 n, .slice (some ⟨g9, 0, none⟩) J.length c9] 41 (0, 0))).setCell ⟨g9, i, none⟩ (.slice A2 l2.length c2)).heap[w.heap.size + 1]? = some (.cells #[.int .i64 0, .slice none 0 0] 41 (0, 0)) from (Below.heap_setCell (w9.alloc (.cells #[.int .i64 n, .slice (some ⟨g9, 0, none⟩) J.length c9] 41 (0, 0))) ⟨g9, i, none⟩ _ (w.heap.size + 1) (by have := G9.out; simp at this; show w.heap.size + 1 ≠ g9; omega)).trans ((((Below.refl _ w9).alloc (Nat.le_refl _) _).block _ (two_cells BK9.out).2.2.2.2).trans BK9.out))
      have HB11 := amk (show Below w.heap.size w ((w9.alloc (.cells #[.int .i64 n, .slice (some ⟨g9, 0, none⟩) J.length c9] 41 (0, 0))).setCell ⟨g9, i, none⟩ (.slice A2 l2.length c2)) from (HB9.out.alloc HB9.out.size _).setCell (p := ⟨g9, i, none⟩) (by have := G9.out; simp at this; show w.heap.size ≤ g9; omega) _)
      have hty : ∀ q, q ∈ 86 :: (Kd.slice 3 (Kd.int .i64)).E → q ≠ 41 := by intro q hq; simp [Kd.slice, Kd.int, Kd.scalar] at hq; omega
      have HTY := amk hty
      have HBX := amk hu86
      clear hty
      cases t with
      | true =>
        have hh := H.out
        simp only [if_true, Option.some.injEq, Prod.mk.injEq] at hh
        obtain ⟨rfl, rfl, rfl⟩ := hh
        go_wp2_with (go_at_call 55; refine Calls.mono (HHA.out _ (Kd.S_reads' S11'.out).2.2) ?_; rintro e w12 ⟨rfl, hb⟩; have BO12 := amk ((hb.block _ (two_cells BO.out).2.2.2.2).trans BO.out); have BK12 := amk ((hb.block _ (two_cells BK11.out).2.2.2.2).trans BK11.out); have S12 := amk (Kd.S_below S11'.out hb); have HB12 := amk (HB11.out.trans (hb.mono HB11.out.size)); clear hx0 hx1; obtain ⟨hq0, hq1, hq2, hq3, hq4⟩ := two_cells BO12.out; obtain ⟨hp0, hp1, hp2, hp3, hp4⟩ := two_cells BK12.out; clear hq4 hp4 hb)
        (try simp only [Exit.inBlock, Exit.then])
        refine bodyPost_ret (results_ct rfl _ _ (w.heap.size + 1) 41 #[.int .i64 n, .slice (some ⟨g9, 0, none⟩) J.length c9] (0, 0) _ rfl (two_set BK12.out _ _) Try.underlying41 rfl (by kernel_rfl)) rfl ?_
        refine ⟨_, rfl, Kd.S_set (Kd.S_set S12.out BK12.out HTY.out 0 _) (heap_setCell_same _ _ 0 _ _ _ BK12.out) HTY.out 1 _, ?_⟩
        exact HB.out.trans (((HB12.out.setCell (p := ⟨w.heap.size + 1, 0, none⟩) (by show w.heap.size ≤ w.heap.size + 1; omega) _).setCell (p := ⟨w.heap.size + 1, 1, none⟩) (by show w.heap.size ≤ w.heap.size + 1; omega) _).mono HB.out.size)
      | false =>
        have hh := H.out
        simp only [Bool.false_eq_true, if_false, Option.some.injEq, Prod.mk.injEq] at hh
        obtain ⟨rfl, rfl, rfl⟩ := hh
        go_wp2_with (go_at_call 55; refine Calls.mono (HHA.out _ (Kd.S_reads' S11'.out).2.2) ?_; rintro e w12 ⟨rfl, hb⟩; have BO12 := amk ((hb.block _ (two_cells BO.out).2.2.2.2).trans BO.out); have BK12 := amk ((hb.block _ (two_cells BK11.out).2.2.2.2).trans BK11.out); have HB12 := amk (HB11.out.trans (hb.mono HB11.out.size)); clear hx0 hx1; obtain ⟨hq0, hq1, hq2, hq3, hq4⟩ := two_cells BO12.out; obtain ⟨hp0, hp1, hp2, hp3, hp4⟩ := two_cells BK12.out; clear hq4 hp4 hb)
        (try simp only [Exit.inBlock, Exit.then])
        refine bodyPost_ret (results_ct rfl _ _ (w.heap.size + 1) 41 #[.int .i64 0, .slice none 0 0] (0, 0) _ rfl (two_set BK12.out _ _) Try.underlying41 rfl (by kernel_rfl)) rfl ?_
        refine ⟨_, rfl, Kd.S_nil _ _ _ _ _, ?_⟩
        exact HB.out.trans (((HB12.out.setCell (p := ⟨w.heap.size + 1, 0, none⟩) (by show w.heap.size ≤ w.heap.size + 1; omega) _).setCell (p := ⟨w.heap.size + 1, 1, none⟩) (by show w.heap.size ≤ w.heap.size + 1; omega) _).mono HB.out.size)
    · rw [if_neg p2] at h; cases h
  · rw [if_neg p1] at h; cases h
/-! ### laws_markIntS: function 133 -/
def laws_markIntS.l0 : Nat → List Int → Int → Int → Option (Int × List Int)
  | 0, _, _, _ => none
  | k + 1, x0, x1, x5 => if x5 < (x0.length : Int) then (if 0 ≤ x5 then (laws_markIntS.l0 k (x0.set (x5 : Int).toNat x1) (wrap64 (x1 + 1)) (wrap64 (x5 + 1))) else (none)) else (some (x1, x0))
def laws_markIntS.f (k : Nat) (l0 : List Int) (a1 : Int) : Option (Int × List Int) := laws_markIntS.l0 k l0 a1 0
set_option maxHeartbeats 8000000 in
set_option maxRecDepth 100000 in
theorem laws_markIntS.calls (k : Nat) (P0_ : Nat → Prop) (u9000_ : Value) (l0 : List Int) (a1 : Int) (r1 : Int) (r2 : List Int) (w0 w : World) (hB : Below w0.heap.size w0 w) (ho0 : Kd.R (Kd.int .i64) 3 w w0.heap.size P0_ u9000_ l0) (h : laws_markIntS.f k l0 a1 = some (r1, r2)) :
    Calls Try.prog 133 #[u9000_, .int .i64 a1] w fun e w' => e = .returned (.int .i64 r1) ∧ Kd.R (Kd.int .i64) 3 w' w0.heap.size (fun k_ => (P0_ k_ ∨ w.heap.size ≤ k_)) u9000_ r2 ∧ Below w0.heap.size w0 w' ∧ Kept w w' (fun k_ => P0_ k_) := by
  have HO0 := amk (show Kd.R (Kd.int .i64) 3 w w0.heap.size (fun k_ => (P0_ k_ ∨ w.heap.size ≤ k_)) u9000_ l0 from Kd.R_mono ho0 (fun k_ hk => (.inl hk)))
  have HK := amk (Kept.refl w (fun k_ => P0_ k_))
  have HW0 := amk hB.size
  have HB := amk hB
  clear hB
  have H : (laws_markIntS.l0 k l0 a1 0) = some (r1, r2) := h
  clear h
  have H' := amk H
  clear H
  go_enter Try.func133, Try.ntmps133
  go_wp2
  go_loopg [1, 5] k (fun kq v1 v5 w' => ∃ (x0_1 : List Int) (x1_1 : Int) (x5_1 : Int), v1 = .int .i64 x1_1 ∧ v5 = .int .i64 x5_1 ∧ Aside0 (laws_markIntS.l0 kq x0_1 x1_1 x5_1 = some (r1, r2)) ∧ Aside0 (kq ≤ k) ∧ Aside0 (Kd.R (Kd.int .i64) 3 w' w0.heap.size (fun k_ => (P0_ k_ ∨ w.heap.size ≤ k_)) u9000_ x0_1) ∧ Aside0 (Kept w w' (fun k_ => P0_ k_)) ∧ Aside0 (Below w0.heap.size w0 w'))
  case atStart => exact ⟨(l0), (a1), (0), (by first | rfl | (simp; done) | (simp [*]; done)), (by first | rfl | (simp; done) | (simp [*]; done)), H', ⟨Nat.le_refl _⟩, ⟨by (with_reducible repeat (first | apply Kd.R_alloc | apply Kd.R_drewN | apply Kd.R_drew)); exact HO0.out⟩, ⟨by repeat (first | (with_reducible first | exact HK.out | apply Kept.alloc | apply Kept.drewN | apply Kept.drew) | exact HK.out)⟩, ⟨by repeat (first | (with_reducible first | exact HB.out | apply ba_ | apply bn_ | apply bd_) | exact HB.out)⟩⟩
  case round =>
    clear H'
    try clear c1; try clear p2
    obtain ⟨x0_1, x1_1, x5_1, rfl, rfl, HA, HK1, HO_0, HK, HB⟩ := hrel
    cases gk with
    | zero => exact absurd HA.out (by simp [laws_markIntS.l0])
    | succ k1 =>
      have H := HA.out
      clear HA
      simp only [laws_markIntS.l0] at H
      by_cases c3 : x5_1 < (x0_1.length : Int)
      · rw [if_pos c3] at H
        have c3b0 : decide (x5_1 < (x0_1.length : Int)) = true := decide_eq_true c3
        clear c3
        by_cases c4 : 0 ≤ x5_1
        · rw [if_pos c4] at H
          have c4b0 : decide (0 ≤ x5_1) = true := decide_eq_true c4
          clear c4
          obtain ⟨y375, hy375⟩ : ∃ y_ : List Int, y_ = (x0_1.set (x5_1 : Int).toNat x1_1) := ⟨_, rfl⟩
          replace H : (laws_markIntS.l0 k1 y375 (wrap64 (x1_1 + 1)) (wrap64 (x5_1 + 1))) = some (r1, r2) := by first | (rw [hy375]; with_reducible exact H) | (have H2_ := (Option.bind_some _ _).symm.trans H; rw [hy375]; with_reducible exact H2_) | (have H2_ := (Option.bind_some _ _).symm.trans H; with_reducible exact H2_) | with_reducible exact H | (rw [hy375]; exact H) | exact H
          have Ny375 := amk hy375
          clear hy375
          have H' := amk H
          clear H
          obtain ⟨Ao6, co6, eo6⟩ := Kd.R_slice HO_0.out
          subst eo6
          have p5 : 0 ≤ (x5_1 : Int) := of_decide_eq_true (by first | (with_reducible assumption) | assumption)
          have q5 : (x5_1 : Int) < ((x0_1.length : Int) : Int) := of_decide_eq_true (by first | (with_reducible assumption) | assumption)
          obtain ⟨go5, co5, eo5, gb5, gl5, cl5, HG5⟩ := Kd.R_form HO_0.out (by omega)
          (first | cases eo5 | (injection eo5 with ea_ en_ ec_; (first | subst ea_ | (injection ea_ with ea_; subst ea_)); subst ec_; clear en_))
          have GB5 := amk gb5
          have GG5 := amk HG5
          clear gb5 gl5 HG5
          have HMgo5 := amk (show (P0_ go5 ∨ w.heap.size ≤ go5) from (HO_0.out.1 _ rfl))
          obtain ⟨hx5_0, hf5_0⟩ := Kd.R_celln 0 HO_0.out (x5_1 : Int) p5 q5
          replace p5 := eq_true p5
          replace q5 := eq_true q5
          have HP7 := Kd.R_putg HO_0.out (x5_1 : Int) x1_1
          go_wp2_with (first | ((with_reducible refine gate_store (t := 3) (p := 15) rfl ?_); refine store_event (t := 3) (p := 15) (v := ?vo_w8) (w1 := (wr.setCell ⟨go5, (x5_1 : Int).toNat, none⟩ (.int .i64 x1_1))) ?hg ?ho ?hn ?hr ?_; (case ho => rfl); (case hg => rfl); (case hn => rfl); (case hr => first | (go_simp; done) | (go_simp; rfl)); intro w8 hw; have hg : wr.grownBy w8 (some go5) := (by rw [hw]; exact HP7.2); have hp_ : Kd.R (Kd.int .i64) 3 w8 w0.heap.size (fun k_ => (P0_ k_ ∨ w.heap.size ≤ k_)) (.slice (some ⟨go5, 0, none⟩) x0_1.length co6) y375 := (by rw [hw, Ny375.out]; exact HP7.1); clear HP7; have n0_ := amk (hp_); have n1_ := amk ((by rw [hw]; exact bs_ (HB.out) GB5.out : Below w0.heap.size w0 w8)); have n2_ := amk (Kept.of_grown (S := (fun k_ => P0_ k_)) hg (by repeat (first | (with_reducible first | exact HK.out | apply Kept.alloc | apply Kept.drewN | apply Kept.drew) | exact HK.out)) (fun k_ e_ => (HO_0.out.1 k_ e_))); clear HO_0; clear HB; clear HK; have HO_0 := n0_; have HB := n1_; have HK := n2_; clear n0_ n1_ n2_; clear hg hw hp_))
          go_roundg k1
          case measure => have := HK1.out; omega
          case rel => exact ⟨(y375), (wrap64 (x1_1 + 1)), (wrap64 (x5_1 + 1)), (by first | rfl | (simp; done) | (simp [*]; done)), (by first | rfl | (simp; done) | (simp [*]; done)), H', ⟨by have := HK1.out; omega⟩, ⟨by (with_reducible repeat (first | apply Kd.R_alloc | apply Kd.R_drewN | apply Kd.R_drew)); exact HO_0.out⟩, ⟨by repeat (first | (with_reducible first | exact HK.out | apply Kept.alloc | apply Kept.drewN | apply Kept.drew) | exact HK.out)⟩, ⟨by repeat (first | (with_reducible first | exact HB.out | apply ba_ | apply bn_ | apply bd_) | exact HB.out)⟩⟩
        · rw [if_neg c4] at H
          exact absurd H (by simp)
      · rw [if_neg c3] at H
        have c3b0 : decide (x5_1 < (x0_1.length : Int)) = false := decide_eq_false c3
        clear c3
        simp only [Option.some.injEq, Prod.mk.injEq] at H
        obtain ⟨rfl, rfl⟩ := H
        obtain ⟨Ao9, co9, eo9⟩ := Kd.R_slice HO_0.out
        subst eo9
        go_wp2
        go_ret
        exact ⟨by first | rfl | (simp [errW_none, errW_some] <;> rfl) | (simp [*, errW_none, errW_some] <;> rfl), by (with_reducible repeat (first | apply Kd.R_alloc | apply Kd.R_drewN | apply Kd.R_drew)); exact HO_0.out, by repeat (first | (with_reducible first | exact HB.out | apply ba_ | apply bn_ | apply bd_) | exact HB.out), by repeat (first | (with_reducible first | exact HK.out | apply Kept.alloc | apply Kept.drewN | apply Kept.drew) | exact HK.out)⟩
/-! laws.markIntSS, by hand: each row is lent, written, and given back. -/
def markRows (k : Nat) : List (List Int) → Int → Option (Int × List (List Int))
  | [], a => some (a, [])
  | x :: t, a => (laws_markIntS.f k x a).bind fun p => (markRows k t p.1).bind fun q => some (q.1, p.2 :: q.2)
def laws_markIntSS.f (k : Nat) (l : List (List Int)) (a : Int) : Option (Int × List (List Int)) := markRows k l a
theorem laws_markIntSS.empty (u : Value) (a1 : Int) (w : World) (A : Option Addr) (c : Nat) (hu : u = .slice A 0 c) : Calls Try.prog 82 #[u, .int .i64 a1] w fun e w' => e = .returned (.int .i64 a1) ∧ w' = w := by
  subst hu
  have hu35 := Try.underlying35
  go_enter Try.func82, Try.ntmps82
  go_wp2
  go_loopg [1, 5] 0 (fun gg s1 s5 wr => s1 = .int .i64 a1 ∧ s5 = .int .i64 0 ∧ wr = w)
  case atStart => exact ⟨rfl, rfl, rfl⟩
  case round =>
    obtain ⟨rfl, rfl, rfl⟩ := hrel
    go_wp2
    go_ret
    exact ⟨rfl, rfl⟩
set_option maxHeartbeats 4000000 in
set_option maxRecDepth 100000 in
theorem laws_markIntSS.calls (k : Nat) (P0_ : Nat → Prop) (u9000_ : Value) (l0 : List (List Int)) (a1 : Int) (r1 : Int) (r2 : List (List Int)) (w0 w : World) (hB : Below w0.heap.size w0 w) (ho0 : Kd.S (Kd.slice 3 (Kd.int .i64)) 86 w w0.heap.size P0_ u9000_ l0) (h : laws_markIntSS.f k l0 a1 = some (r1, r2)) :
    Calls Try.prog 82 #[u9000_, .int .i64 a1] w fun e w' => e = .returned (.int .i64 r1) ∧ Kd.S (Kd.slice 3 (Kd.int .i64)) 86 w' w0.heap.size P0_ u9000_ r2 ∧ Below w0.heap.size w0 w' ∧ Kept w w' P0_ := by
  by_cases hpos : 0 < l0.length
  · obtain ⟨g, cap, rfl, hg1, hg2, _⟩ := Kd.S_form ho0 hpos
    have hbig := (Kd.S_reads' ho0).2.2.2.1
    have hu35 := Try.underlying35
    unfold laws_markIntSS.f at h
    have HO := amk ho0
    have H := amk h
    have HB := amk hB
    clear ho0 h hB hg1 hg2 hpos
    generalize hn : l0.length = n at hbig
    have HN := amk hn
    clear hn
    go_enter Try.func82, Try.ntmps82
    go_wp2
    go_loopg [1, 5] n (fun gg s1 s5 wr => ∃ (i : Nat) (a : Int) (D R' : List (List Int)), s1 = .int .i64 a ∧ s5 = .int .i64 (i : Int) ∧ Aside0 (i ≤ n) ∧ Aside0 (n - i ≤ gg) ∧ Aside0 (D.length = i) ∧ Aside0 (markRows k (l0.drop i) a = some (r1, R')) ∧ Aside0 (r2 = D ++ R') ∧ Aside0 (Kd.S (Kd.slice 3 (Kd.int .i64)) 86 wr w0.heap.size P0_ (.slice (some ⟨g, 0, none⟩) n cap) (D ++ l0.drop i)) ∧ Aside0 (Below w0.heap.size w0 wr) ∧ Aside0 (Kept w wr P0_))
    case atStart => exact ⟨0, a1, [], r2, rfl, rfl, ⟨by omega⟩, ⟨by omega⟩, ⟨rfl⟩, H, ⟨rfl⟩, ⟨by have := HO.out; rw [HN.out] at this; exact this⟩, HB, ⟨Kept.refl _ _⟩⟩
    case round =>
      obtain ⟨i, a, D, R', rfl, rfl, HI, HG, HD, HM, HR2, HS, HBB, HK⟩ := hrel
      by_cases hlt : i < n
      · have hlw : decide ((i : Int) < (n : Int)) = true := decide_eq_true (by omega)
        have hlwn : decide (i < n) = true := decide_eq_true hlt
        have hiz : ((0 : Int) ≤ (i : Int)) = True := eq_true (by omega)
        have hlz2 : ((i : Int) < (n : Int)) = True := eq_true (by omega)
        have hnl := HN.out
        have hdr : l0.drop i = l0[i] :: l0.drop (i + 1) := List.drop_eq_getElem_cons (by omega)
        have hm := HM.out
        rw [hdr] at hm
        unfold markRows at hm
        obtain ⟨p, hp, hm⟩ := Option.bind_eq_some_iff.mp hm
        obtain ⟨q, hq, hm⟩ := Option.bind_eq_some_iff.mp hm
        obtain ⟨pa, px⟩ := p
        obtain ⟨qa, qx⟩ := q
        injection hm with hm
        injection hm with e1 e2
        subst e1
        obtain ⟨oki, cs, hcl, hMx, hcc, hoki, hH⟩ := Kd.S_lend HS.out [] (i : Int) (by omega) (by omega)
        have hx : (D ++ l0.drop i).getD (i : Int).toNat [] = l0[i] := by
          have hd := HD.out
          rw [Int.toNat_natCast, hdr, List.getD_eq_getElem?_getD, List.getElem?_append_right (by omega), hd, Nat.sub_self]
          rfl
        rw [hx] at hMx
        obtain ⟨v, rfl, hRv⟩ := hMx
        have hcell := hcc 0 v rfl
        simp only [Int.toNat_natCast] at hcell
        rw [show i * (Kd.slice 3 (Kd.int .i64)).sz + 0 = i from Nat.mul_one i] at hcell
        have HV := amk hRv
        have HH := amk hH
        have HP := amk hp
        have HQ := amk hq
        have HE2 := amk e2
        have HOK := amk hoki
        have HDR := amk hdr
        have hw1 : wrap64 ((i : Int) + 1) = ((i + 1 : Nat) : Int) := by unfold wrap64; omega
        clear hRv hH hp hq hm e2 hcc hcl hx hdr hoki
        have HLT := amk hlt
        go_wp2_with (go_at_call 133; refine (laws_markIntS.calls k oki _ _ _ _ _ w0 _ HBB.out HV.out HP.out).mono ?_; rintro e w9 ⟨rfl, hr9, hb9, hk9⟩)
        go_roundg (n - (i + 1))
        case measure => have := HG.out; have := HLT.out; omega
        case rel =>
          have hd := HD.out
          have hR9 : (Kd.int .i64).R 3 w9 w0.heap.size oki v px := Kd.R_reok rfl hr9 (fun k_ e_ => HV.out.1 k_ e_)
          have hM9 : (Kd.slice 3 (Kd.int .i64)).M w9 w0.heap.size oki px [v] := ⟨v, rfl, hR9⟩
          have hH9 := Kd.H_kept HH.out hk9 (fun k_ _ hn => hn)
          have hS9 := Kd.H_back hH9 hM9 (fun _ h => h)
          have hset : (D ++ l0.drop i).set (i : Int).toNat px = (D ++ [px]) ++ l0.drop (i + 1) := by
            rw [Int.toNat_natCast, HDR.out, List.set_append_right _ _ (by omega), hd, Nat.sub_self, List.set_cons_zero, List.append_assoc]
            rfl
          rw [hset] at hS9
          refine ⟨i + 1, pa, D ++ [px], qx, rfl, rfl, ⟨by have := HLT.out; omega⟩, ⟨by omega⟩, ⟨by rw [List.length_append, hd]; rfl⟩, HQ, ⟨by rw [HR2.out, ← HE2.out, List.append_assoc]; rfl⟩, ⟨hS9⟩, ⟨hb9⟩, ⟨HK.out.then_ hk9 (fun k_ hk => .inl (HOK.out k_ hk).1)⟩⟩
      · have hlw : decide ((i : Int) < (n : Int)) = false := decide_eq_false (by omega)
        have hlwn : decide (i < n) = false := decide_eq_false hlt
        have hin : i = n := by have := HI.out; omega
        have hm := HM.out
        rw [List.drop_eq_nil_of_le (by rw [HN.out]; omega)] at hm
        unfold markRows at hm
        injection hm with hm
        injection hm with e1 e2
        subst e1
        have HSX := HS.out
        rw [List.drop_eq_nil_of_le (by rw [HN.out]; omega), e2, ← HR2.out] at HSX
        have HSXX := amk HSX
        clear HSX hin hlt e2
        go_wp2
        go_ret
        exact ⟨rfl, HSXX.out, HBB.out, HK.out⟩
  · obtain rfl : l0 = [] := List.length_eq_zero_iff.mp (by omega)
    obtain ⟨A, c, he⟩ := Kd.S_slice ho0
    unfold laws_markIntSS.f markRows at h
    injection h with h
    injection h with e1 e2
    subst e1 e2
    refine (laws_markIntSS.empty u9000_ a1 w A c he).mono ?_
    rintro e w' ⟨rfl, rfl⟩
    exact ⟨rfl, ho0, hB, Kept.refl _ _⟩
/-! laws.markPins, by hand. -/
def laws_markPins.f (k : Nat) (n : Int) (l : List (List Int)) (a : Int) : Option (Int × List (List Int)) := laws_markIntSS.f k l a
set_option maxRecDepth 100000 in
theorem laws_markPins.calls (k : Nat) (P0_ : Nat → Prop) (n : Int) (A : Option Addr) (m c : Nat) (l0 : List (List Int)) (a1 : Int) (r1 : Int) (r2 : List (List Int)) (w0 w : World) (hB : Below w0.heap.size w0 w) (hP : ∀ j, P0_ j → j < w.heap.size) (ho0 : Kd.S (Kd.slice 3 (Kd.int .i64)) 86 w w0.heap.size P0_ (.slice A m c) l0) (h : laws_markPins.f k n l0 a1 = some (r1, r2)) :
    Calls Try.prog 27 #[.agg #[.int .i64 n, .slice A m c], .int .i64 a1] w fun e w' => e = .returned (.int .i64 r1) ∧ Kd.S (Kd.slice 3 (Kd.int .i64)) 86 w' w0.heap.size P0_ (.slice A m c) r2 ∧ Below w0.heap.size w0 w' ∧ Kept w w' P0_ := by
  have hu41 := Try.underlying41
  have hu35 := Try.underlying35
  have HO := amk (Kd.S_alloc ho0 (.cells #[.int .i64 n, .slice A m c] 41 (0, 0)))
  have H := amk h
  have HB := amk (hB.alloc hB.size (.cells #[.int .i64 n, .slice A m c] 41 (0, 0)))
  clear ho0 h hB
  go_enter Try.func27, Try.ntmps27
  go_wp2_with (go_at_call 82; refine (laws_markIntSS.calls k P0_ _ _ _ _ _ w0 _ HB.out HO.out H.out).mono ?_; rintro e w9 ⟨rfl, hs9, hb9, hk9⟩)
  go_ret
  exact ⟨rfl, hs9, hb9, ⟨by have := hk9.1; simp at this; omega, fun i hi hn => (hk9.2 i (by simp; omega) hn).trans (((Below.refl _ w).alloc (Nat.le_refl _) _).block i hi)⟩⟩
/-! Behind a row's end: what is stored there turns nothing of the row; 'clear' at one element of several cells. -/
theorem R_spare {α : Type} {d : Kd α} {e : Nat} {w : World} {base g n cap : Nat} {ok : Nat → Prop} {xs : List α} (h : d.R e w base ok (.slice (some ⟨g, 0, none⟩) n cap) xs)
    (zs : List Value) (o : Nat) (ho : xs.length * d.sz ≤ o) (hz : o + zs.length ≤ cap * d.sz) : d.R e (w.setCells g o zs) base ok (.slice (some ⟨g, 0, none⟩) n cap) xs := by
  obtain ⟨h0, inner, hown, hr⟩ := h
  refine ⟨h0, inner, ⟨hown.1, ?_⟩, hr.imp_ (fun p c hp => d.M_move (fun k hk => ?_) hp)⟩
  · rcases hown.2 with ⟨hv, _⟩ | ⟨g', cap', cur, hv, hb, hh, hn, hcm, hcs, htake⟩
    · cases hv
    · injection hv with ha hn' hc
      injection ha with ha
      injection ha with hg
      subst hg hc
      obtain ⟨cur', h1, h2, h3⟩ := setCells_row zs o w cur hh (by omega)
      refine .inr ⟨g, cap, cur', by rw [hn'], hb, h1, hn, hcm, by omega, ?_⟩
      have hcl : cur.toList.length = cap * d.sz := by simpa using hcs
      have hle : xs.length * d.sz ≤ (List.take o cur.toList).length := by
        rw [List.length_take]
        exact Nat.le_min.mpr ⟨ho, by omega⟩
      rw [h3, List.append_assoc, List.take_append_of_le_length hle, List.take_take, Nat.min_eq_left ho, htake]
  · refine setCells_far zs o k (fun e => hk.2 ?_)
    subst e; rfl
theorem run_clear_one {P : Program} (w : World) (t e ty : TypeId) (z : Value) (zs : List Value) (ht : P.underlying t = some (.slice e)) (hv : ∀ w, (zeroValue e).run P w = .ok z w) (hz : z.cells.toList = zs) (h1 : ∀ u ∈ zs, u.oneCell' = true) (b o c : Nat)
    (hc : ∀ j, j < zs.length → (w.cell? ⟨b, o + j, none⟩).isSome = true) (hf : ∀ j, j < zs.length → w.frozen? ⟨b, o + j, none⟩ = false) :
    (Builtin.clear_ #[t] ty #[.slice (some ⟨b, o, none⟩) 1 c]).run P w = .ok (.tuple #[]) (w.setCells b o zs) := by
  have hzc : (Builtin.zeroCells z.cells 1).toList = zs := by
    rw [← hz]
    simp only [Builtin.zeroCells, Nat.one_mul, Array.toList_map, Array.toList_range]
    apply List.ext_getElem
    · simp
    · intro i h1 h2
      have h2' : i < z.cells.size := by simpa using h2
      simp [Nat.mod_eq_of_lt h2', h2']
  have hst := run_storeCells_cells (P := P) b o zs 0 w (by simpa using hc) (by simpa using hf) h1
  simp only [Nat.add_zero] at hst
  simp [Builtin.clear_, run_underlying ht, hv, hzc, hst]
theorem row_cells {α : Type} {d : Kd α} {e : Nat} {w : World} {base g n cap : Nat} {ok : Nat → Prop} {xs : List α} (h : d.R e w base ok (.slice (some ⟨g, 0, none⟩) n cap) xs) :
    base ≤ g ∧ n = xs.length ∧ n ≤ cap ∧ cap ≤ 9223372036854775807 ∧ ∀ j, j < cap * d.sz → (w.cell? ⟨g, j, none⟩).isSome = true ∧ w.frozen? ⟨g, j, none⟩ = false := by
  obtain ⟨h0, inner, hown, hr⟩ := h
  rcases hown.2 with ⟨hv, _⟩ | ⟨g', cap', cur, hv, hb, hh, hn, hcm, hcs, htake⟩
  · cases hv
  · injection hv with ha hn' hc
    injection ha with ha
    injection ha with hg
    subst hg hc
    refine ⟨hb, hn', by omega, by unfold maxLen at hcm; exact hcm, fun j hj => ⟨?_, ?_⟩⟩
    · rw [blk_cell hh j]; rw [Array.getElem?_eq_getElem (by omega)]; rfl
    · exact blk_frozen hh j
theorem below_cells {B g : Nat} {w0 : World} (hg : B ≤ g) : ∀ (vs : List Value) (o : Nat) (w : World), Below B w0 w → Below B w0 (w.setCells g o vs)
  | [], _, _, h => h
  | v :: r, o, w, h => below_cells hg r (o + 1) _ (h.setCell (p := ⟨g, o, none⟩) hg v)
theorem row_form {α : Type} {d : Kd α} {e : Nat} {w : World} {base : Nat} {ok : Nat → Prop} {v : Value} {xs : List α} {n : Nat} (h : d.R e w base ok v xs) (hn : xs.length = n + 1) :
    ∃ g cap, v = .slice (some ⟨g, 0, none⟩) (n + 1) cap := by
  obtain ⟨h0, inner, hown, hr⟩ := h
  rcases hown.2 with ⟨_, hv⟩ | ⟨g', cap', cur, hv, _⟩
  · omega
  · exact ⟨g', cap', by rw [hv, hn]⟩
/-! ### impl_hasDepth: function 96 -/
def impl_hasDepth.f (a0_0 : Int) (l0_1 : List (List Int)) (a1 : Int) (a2 : Int) : Option (Bool) := (impl_ArePins.f a0_0 l0_1).bind fun t539 => (if t539 = true then ((impl_within.f a1 0 (wrap64 ((l0_1.length : Int) - 1))).bind fun t540 => (if t540 = true then ((impl_within.f a2 0 (wrap64 (a0_0 - 1))).bind fun t541 => (some t541)) else (some false))) else (some false))
set_option maxHeartbeats 8000000 in
set_option maxRecDepth 100000 in
theorem impl_hasDepth.calls (a0_0 : Int) (A0_1 : Option Addr) (c0_1 : Nat) (l0_1 : List (List Int)) (a1 : Int) (a2 : Int) (r : Bool) (w : World) (hr0_1 : Kd.C (Kd.slice 3 (Kd.int .i64)) w A0_1 l0_1.length l0_1) (hc0_1 : l0_1.length ≤ c0_1) (h : impl_hasDepth.f a0_0 l0_1 a1 a2 = some r) :
    Calls Try.prog 96 #[.agg #[.int .i64 a0_0, .slice A0_1 l0_1.length c0_1], .int .i64 a1, .int .i64 a2] w fun e w' => e = .returned (.bool r) ∧ Below w.heap.size w w' := by
  have hu41 := Try.underlying41
  have HR0_1 := amk hr0_1
  have HC0_1 := amk hc0_1
  clear hr0_1 hc0_1
  have HB := amk (Below.refl w.heap.size w)
  have H : ((impl_ArePins.f a0_0 l0_1).bind fun t539 => (if t539 = true then ((impl_within.f a1 0 (wrap64 ((l0_1.length : Int) - 1))).bind fun t540 => (if t540 = true then ((impl_within.f a2 0 (wrap64 (a0_0 - 1))).bind fun t541 => (some t541)) else (some false))) else (some false))) = some r := h
  clear h
  replace H := Option.bind_eq_some_iff.mp H
  obtain ⟨t539, A40, H⟩ := H
  replace H : (if t539 = true then ((impl_within.f a1 0 (wrap64 ((l0_1.length : Int) - 1))).bind fun t540 => (if t540 = true then ((impl_within.f a2 0 (wrap64 (a0_0 - 1))).bind fun t541 => (some t541)) else (some false))) else (some false)) = some r := H
  have A4 := amk A40
  clear A40
  by_cases c5 : t539 = true
  · subst c5
    have H1 : ((impl_within.f a1 0 (wrap64 ((l0_1.length : Int) - 1))).bind fun t540 => (if t540 = true then ((impl_within.f a2 0 (wrap64 (a0_0 - 1))).bind fun t541 => (some t541)) else (some false))) = some r := by rw [if_pos rfl] at H; exact H
    clear H
    have H := H1
    clear H1
    replace H := Option.bind_eq_some_iff.mp H
    obtain ⟨t540, A60, H⟩ := H
    replace H : (if t540 = true then ((impl_within.f a2 0 (wrap64 (a0_0 - 1))).bind fun t541 => (some t541)) else (some false)) = some r := H
    have A6 := amk A60
    clear A60
    by_cases c7 : t540 = true
    · subst c7
      have H1 : ((impl_within.f a2 0 (wrap64 (a0_0 - 1))).bind fun t541 => (some t541)) = some r := by rw [if_pos rfl] at H; exact H
      clear H
      have H := H1
      clear H1
      replace H := Option.bind_eq_some_iff.mp H
      obtain ⟨t541, A80, H⟩ := H
      replace H : (some t541) = some r := H
      have A8 := amk A80
      clear A80
      obtain rfl := Option.some.inj H
      go_enter Try.func96, Try.ntmps96
      go_wp2_with (first | ((with_reducible refine gate_dst (N := 3) rfl ?_); (try (refine gate_guard (by rfl) ?_; dsimp only)); refine box_event ?hg (N := 3) ?hd (cs := #[.int .i64 a0_0, .slice A0_1 l0_1.length c0_1]) (t := 41) ?hr ?_; (case hd => rfl); (case hg => rfl); (case hr => first | (go_simp; done) | (go_simp; rfl)); intro gb538 hg w9 hbox hb; have n0_ := amk (bp_ (by repeat (first | (with_reducible first | exact HB.out | apply ba_ | apply bn_ | apply bd_) | exact HB.out)) hb); have n1_ := amk (hbox); have n2_ := amk ((by rw [hg]; exact (below_size (by repeat (first | (with_reducible first | exact HB.out | apply ba_ | apply bn_ | apply bd_) | exact HB.out))) : w.heap.size ≤ gb538)); have n3_ := amk ((by rw [hg]; exact (below_size (by repeat (first | (with_reducible first | exact HB.out | apply ba_ | apply bn_ | apply bd_) | exact HB.out))) : w.heap.size ≤ gb538)); clear HB; have HB := n0_; have BK538 := n1_; have GW538 := n2_; have GE538 := n3_; clear n0_ n1_ n2_ n3_; clear hb hbox hg; have hcz10_0 : w9.cell? ⟨gb538, 0, none⟩ = some (.int .i64 a0_0) := (blk_cell BK538.out 0).trans rfl; have hcz10_1 : w9.cell? ⟨gb538, 1, none⟩ = some (.slice A0_1 l0_1.length c0_1) := (blk_cell BK538.out 1).trans rfl; have hfz10_0 := blk_frozen BK538.out 0; have hfz10_1 := blk_frozen BK538.out 1) | ((with_reducible refine gate_callee (f := 55) rfl ?_); refine goesL_ (some 8) rfl rfl Try.func55 (by kernel_rfl) rfl #[.agg #[.int .i64 a0_0, .slice A0_1 l0_1.length c0_1]] rfl (by (try simp only [List.map_toArray, List.map_cons, List.map_nil]); first | done | rfl | (simp only [List.length_drop, List.length_take]; rfl)) ?_; (with_reducible refine (impl_ArePins.calls a0_0 _ _ l0_1 true _ ?side1 ?side2 A4.out).mono ?_); (case side1 => repeat (first | exact (Kd.C_below HR0_1.out HB.out) | (with_reducible refine Kd.C_alloc ?_ _) | (with_reducible refine Kd.C_drewN ?_ _) | (with_reducible refine Kd.C_drew ?_))); (case side2 => exact HC0_1.out); rintro e w11 ⟨rfl, hb⟩; refine ⟨_, rfl, ?_⟩; have n0_ := amk (blk_below (g := gb538) (o := .cells #[.int .i64 a0_0, .slice A0_1 l0_1.length c0_1] 41 (0, 0)) (by (with_reducible repeat (first | refine kn_ ?_ _ | refine blk_drew ?_ | refine ka_ ?_ _)); exact BK538.out) hb); have n1_ := amk (bp_ (by repeat (first | (with_reducible first | exact HB.out | apply ba_ | apply bn_ | apply bd_ | refine bs_ ?_ GE538.out) | exact HB.out)) hb); clear BK538; clear HB; have BK538 := n0_; have HB := n1_; clear n0_ n1_; (try clear hb); (try clear hb2); (try clear hk); (try clear hi); have hcz12_0 : w11.cell? ⟨gb538, 0, none⟩ = some (.int .i64 a0_0) := (blk_cell BK538.out 0).trans rfl; have hcz12_1 : w11.cell? ⟨gb538, 1, none⟩ = some (.slice A0_1 l0_1.length c0_1) := (blk_cell BK538.out 1).trans rfl; have hfz12_0 := blk_frozen BK538.out 0; have hfz12_1 := blk_frozen BK538.out 1) | (go_at_call 107; (with_reducible refine (impl_within.calls a1 0 (wrap64 ((l0_1.length : Int) - 1)) true _ A6.out).mono ?_); rintro e w' ⟨rfl, ⟨nd, rfl⟩⟩) | (go_at_call 107; (with_reducible refine (impl_within.calls a2 0 (wrap64 (a0_0 - 1)) t541 _ A8.out).mono ?_); rintro e w' ⟨rfl, ⟨nd, rfl⟩⟩))
      go_ret
      exact ⟨by first | rfl | (simp [errW_none, errW_some] <;> rfl) | (simp [*, errW_none, errW_some] <;> rfl), by repeat (first | (with_reducible first | exact HB.out | apply ba_ | apply bn_ | apply bd_ | refine bs_ ?_ GE538.out) | exact HB.out)⟩
    · replace c7 := Bool.eq_false_iff.mpr c7
      subst c7
      have H1 : (some false) = some r := by rw [if_neg (show ¬ (false = true) by decide)] at H; exact H
      clear H
      have H := H1
      clear H1
      obtain rfl := Option.some.inj H
      go_enter Try.func96, Try.ntmps96
      go_wp2_with (first | ((with_reducible refine gate_dst (N := 3) rfl ?_); (try (refine gate_guard (by rfl) ?_; dsimp only)); refine box_event ?hg (N := 3) ?hd (cs := #[.int .i64 a0_0, .slice A0_1 l0_1.length c0_1]) (t := 41) ?hr ?_; (case hd => rfl); (case hg => rfl); (case hr => first | (go_simp; done) | (go_simp; rfl)); intro gb538 hg w13 hbox hb; have n0_ := amk (bp_ (by repeat (first | (with_reducible first | exact HB.out | apply ba_ | apply bn_ | apply bd_) | exact HB.out)) hb); have n1_ := amk (hbox); have n2_ := amk ((by rw [hg]; exact (below_size (by repeat (first | (with_reducible first | exact HB.out | apply ba_ | apply bn_ | apply bd_) | exact HB.out))) : w.heap.size ≤ gb538)); have n3_ := amk ((by rw [hg]; exact (below_size (by repeat (first | (with_reducible first | exact HB.out | apply ba_ | apply bn_ | apply bd_) | exact HB.out))) : w.heap.size ≤ gb538)); clear HB; have HB := n0_; have BK538 := n1_; have GW538 := n2_; have GE538 := n3_; clear n0_ n1_ n2_ n3_; clear hb hbox hg; have hcz14_0 : w13.cell? ⟨gb538, 0, none⟩ = some (.int .i64 a0_0) := (blk_cell BK538.out 0).trans rfl; have hcz14_1 : w13.cell? ⟨gb538, 1, none⟩ = some (.slice A0_1 l0_1.length c0_1) := (blk_cell BK538.out 1).trans rfl; have hfz14_0 := blk_frozen BK538.out 0; have hfz14_1 := blk_frozen BK538.out 1) | ((with_reducible refine gate_callee (f := 55) rfl ?_); refine goesL_ (some 8) rfl rfl Try.func55 (by kernel_rfl) rfl #[.agg #[.int .i64 a0_0, .slice A0_1 l0_1.length c0_1]] rfl (by (try simp only [List.map_toArray, List.map_cons, List.map_nil]); first | done | rfl | (simp only [List.length_drop, List.length_take]; rfl)) ?_; (with_reducible refine (impl_ArePins.calls a0_0 _ _ l0_1 true _ ?side1 ?side2 A4.out).mono ?_); (case side1 => repeat (first | exact (Kd.C_below HR0_1.out HB.out) | (with_reducible refine Kd.C_alloc ?_ _) | (with_reducible refine Kd.C_drewN ?_ _) | (with_reducible refine Kd.C_drew ?_))); (case side2 => exact HC0_1.out); rintro e w15 ⟨rfl, hb⟩; refine ⟨_, rfl, ?_⟩; have n0_ := amk (blk_below (g := gb538) (o := .cells #[.int .i64 a0_0, .slice A0_1 l0_1.length c0_1] 41 (0, 0)) (by (with_reducible repeat (first | refine kn_ ?_ _ | refine blk_drew ?_ | refine ka_ ?_ _)); exact BK538.out) hb); have n1_ := amk (bp_ (by repeat (first | (with_reducible first | exact HB.out | apply ba_ | apply bn_ | apply bd_ | refine bs_ ?_ GE538.out) | exact HB.out)) hb); clear BK538; clear HB; have BK538 := n0_; have HB := n1_; clear n0_ n1_; (try clear hb); (try clear hb2); (try clear hk); (try clear hi); have hcz16_0 : w15.cell? ⟨gb538, 0, none⟩ = some (.int .i64 a0_0) := (blk_cell BK538.out 0).trans rfl; have hcz16_1 : w15.cell? ⟨gb538, 1, none⟩ = some (.slice A0_1 l0_1.length c0_1) := (blk_cell BK538.out 1).trans rfl; have hfz16_0 := blk_frozen BK538.out 0; have hfz16_1 := blk_frozen BK538.out 1) | (go_at_call 107; (with_reducible refine (impl_within.calls a1 0 (wrap64 ((l0_1.length : Int) - 1)) false _ A6.out).mono ?_); rintro e w' ⟨rfl, ⟨nd, rfl⟩⟩))
      go_ret
      exact ⟨by first | rfl | (simp [errW_none, errW_some] <;> rfl) | (simp [*, errW_none, errW_some] <;> rfl), by repeat (first | (with_reducible first | exact HB.out | apply ba_ | apply bn_ | apply bd_ | refine bs_ ?_ GE538.out) | exact HB.out)⟩
  · replace c5 := Bool.eq_false_iff.mpr c5
    subst c5
    have H1 : (some false) = some r := by rw [if_neg (show ¬ (false = true) by decide)] at H; exact H
    clear H
    have H := H1
    clear H1
    obtain rfl := Option.some.inj H
    go_enter Try.func96, Try.ntmps96
    go_wp2_with (first | ((with_reducible refine gate_dst (N := 3) rfl ?_); (try (refine gate_guard (by rfl) ?_; dsimp only)); refine box_event ?hg (N := 3) ?hd (cs := #[.int .i64 a0_0, .slice A0_1 l0_1.length c0_1]) (t := 41) ?hr ?_; (case hd => rfl); (case hg => rfl); (case hr => first | (go_simp; done) | (go_simp; rfl)); intro gb538 hg w17 hbox hb; have n0_ := amk (bp_ (by repeat (first | (with_reducible first | exact HB.out | apply ba_ | apply bn_ | apply bd_) | exact HB.out)) hb); have n1_ := amk (hbox); have n2_ := amk ((by rw [hg]; exact (below_size (by repeat (first | (with_reducible first | exact HB.out | apply ba_ | apply bn_ | apply bd_) | exact HB.out))) : w.heap.size ≤ gb538)); have n3_ := amk ((by rw [hg]; exact (below_size (by repeat (first | (with_reducible first | exact HB.out | apply ba_ | apply bn_ | apply bd_) | exact HB.out))) : w.heap.size ≤ gb538)); clear HB; have HB := n0_; have BK538 := n1_; have GW538 := n2_; have GE538 := n3_; clear n0_ n1_ n2_ n3_; clear hb hbox hg; have hcz18_0 : w17.cell? ⟨gb538, 0, none⟩ = some (.int .i64 a0_0) := (blk_cell BK538.out 0).trans rfl; have hcz18_1 : w17.cell? ⟨gb538, 1, none⟩ = some (.slice A0_1 l0_1.length c0_1) := (blk_cell BK538.out 1).trans rfl; have hfz18_0 := blk_frozen BK538.out 0; have hfz18_1 := blk_frozen BK538.out 1) | ((with_reducible refine gate_callee (f := 55) rfl ?_); refine goesL_ (some 8) rfl rfl Try.func55 (by kernel_rfl) rfl #[.agg #[.int .i64 a0_0, .slice A0_1 l0_1.length c0_1]] rfl (by (try simp only [List.map_toArray, List.map_cons, List.map_nil]); first | done | rfl | (simp only [List.length_drop, List.length_take]; rfl)) ?_; (with_reducible refine (impl_ArePins.calls a0_0 _ _ l0_1 false _ ?side1 ?side2 A4.out).mono ?_); (case side1 => repeat (first | exact (Kd.C_below HR0_1.out HB.out) | (with_reducible refine Kd.C_alloc ?_ _) | (with_reducible refine Kd.C_drewN ?_ _) | (with_reducible refine Kd.C_drew ?_))); (case side2 => exact HC0_1.out); rintro e w19 ⟨rfl, hb⟩; refine ⟨_, rfl, ?_⟩; have n0_ := amk (blk_below (g := gb538) (o := .cells #[.int .i64 a0_0, .slice A0_1 l0_1.length c0_1] 41 (0, 0)) (by (with_reducible repeat (first | refine kn_ ?_ _ | refine blk_drew ?_ | refine ka_ ?_ _)); exact BK538.out) hb); have n1_ := amk (bp_ (by repeat (first | (with_reducible first | exact HB.out | apply ba_ | apply bn_ | apply bd_ | refine bs_ ?_ GE538.out) | exact HB.out)) hb); clear BK538; clear HB; have BK538 := n0_; have HB := n1_; clear n0_ n1_; (try clear hb); (try clear hb2); (try clear hk); (try clear hi)))
    go_ret
    exact ⟨by first | rfl | (simp [errW_none, errW_some] <;> rfl) | (simp [*, errW_none, errW_some] <;> rfl), by repeat (first | (with_reducible first | exact HB.out | apply ba_ | apply bn_ | apply bd_ | refine bs_ ?_ GE538.out) | exact HB.out)⟩
/-! slices.Clone at []int, by hand: a row of its own with the same elements. -/
def slices_Clone_int_int.f (l : List Int) : Option (List Int) := if l.length < 17592186044416 then some l else none
set_option maxHeartbeats 2000000 in
set_option maxRecDepth 100000 in
theorem slices_Clone_int_int.calls (A0 : Option Addr) (c0 : Nat) (l0 : List Int) (r : List Int) (w : World) (hr0 : Kd.C (Kd.int .i64) w A0 l0.length l0) (hc0 : l0.length ≤ c0) (h : slices_Clone_int_int.f l0 = some r) :
    Calls Try.prog 100 #[.slice A0 l0.length c0] w fun e w' => ∃ v0_ : Value, e = .returned v0_ ∧ Kd.R (Kd.int .i64) 3 w' w.heap.size (fun _ => True) v0_ r ∧ Below w.heap.size w w' := by
  unfold slices_Clone_int_int.f at h
  by_cases hl : l0.length < 17592186044416
  · rw [if_pos hl] at h
    obtain rfl := Option.some.inj h
    clear h
    have hinfo : (Try.prog.info? 3).map (fun i => (i.zero, i.size, i.bytes)) = some (some (.int .i64 0), 1, 8) := by kernel_rfl
    have HI := amk hinfo
    clear hinfo
    have HR := amk hr0
    have HL := amk hl
    clear hl
    cases A0 with
    | none =>
      have hz : l0 = [] := by
        rcases Nat.eq_zero_or_pos l0.length with h0 | h0
        · exact List.length_eq_zero_iff.1 h0
        · obtain ⟨ad, e, _⟩ := HR.out.2.2 h0
          cases e
      have HZ := amk hz
      clear hz hr0
      have hnil := fun (w : World) (n c : Nat) => Lib.run_eql_slice_nil (P := Try.prog) w 86 3 none n c 0 0 Try.underlying86
      generalize l0.length = n at *
      go_enter Try.func100, Try.ntmps100
      go_wp2
      go_ret
      refine ⟨.slice none 0 0, rfl, ?_, Below.refl _ _⟩
      rw [HZ.out]
      exact Kd.R_nil _ _ _ _ _
    | some ad =>
      clear hr0
      have hnil := fun (w : World) (n c : Nat) => Lib.run_eql_slice_nil (P := Try.prog) w 86 3 (some ad) n c 0 0 Try.underlying86
      have hu := Try.underlying86
      go_enter Try.func100, Try.ntmps100
      go_wp2_with (first | ((with_reducible refine gate_dst (N := 5) rfl ?_); refine Kd.R_lit (Kd.int .i64) (w0 := w) w.heap.size 3 ?hg (N := 5) ?hd (xs := ([] : List Int)) (inner := []) (ok := fun _ => True) (okp := fun _ => True) ?hr ?hp (fun _ hk => hk) trivial (Below.refl _ _) (Nat.le_refl _) (by simp) ?_; (case hd => rfl); (case hg => rfl); (case hr => first | (go_simp; done) | (go_simp; rfl)); (case hp => exact (Reps.none _ _)); intro v1 w1 ho hb hg_ hnew_; have HO := amk ho; have HB := amk hb; clear ho hb hg_ hnew_) | ((with_reducible refine gate_dst (N := 7) rfl ?_); refine Kd.R_append_rows (Kd.int .i64) (w0 := w) w.heap.size (by rfl) (.tmp 5) (.tmp 6) 86 3 (.int .i64 0) 8 rfl Try.underlying86 HI.out rfl (by decide) (by omega) v1 ([] : List Int) l0 _ _ _ (fun _ => True) (fun _ => False) rfl rfl ?aO ?aR (fun _ _ h => h) (fun _ h => h.elim) ?aF ?aB ?aS ?aL ?_; (case aR => exact (Kd.C_below HR.out HB.out)); (case aB => exact HB.out); (case aF => exact (fun _ _ => trivial)); (case aO => exact HO.out); (case aS => exact HB.out.size); (case aL => have := HL.out; simp only [List.length_nil]; omega); intro v2 w2 ho2 hb2 hg2 hat2; have HO2 := amk ho2; have HB2 := amk hb2; clear ho2 hb2 hg2 hat2))
      go_ret
      exact ⟨v2, rfl, by have := HO2.out; rwa [List.nil_append] at this, HB2.out⟩
  · rw [if_neg hl] at h
    cases h
theorem slices_Clone_int_int.is {l : List Int} (h : l.length < 17592186044416) : slices_Clone_int_int.f l = some l := by unfold slices_Clone_int_int.f; rw [if_pos h]
/-! slices.Delete at []int, of one element of a row of the call's own: taken out in place. -/
set_option maxHeartbeats 4000000 in
set_option maxRecDepth 1000000 in
theorem slices_Delete_int_int_own (w0 w : World) (base g cap k n : Nat) (ok : Nat → Prop) (xs : List Int) (hn : xs.length = n + 1) (hk : k < n + 1) (HO : Kd.R (Kd.int .i64) 3 w base ok (.slice (some ⟨g, 0, none⟩) (n + 1) cap) xs) (HB : Below base w0 w) (hbase : base ≤ w.heap.size) :
    Calls Try.prog 99 #[.slice (some ⟨g, 0, none⟩) (n + 1) cap, .int .i64 (k : Nat), .int .i64 ((k : Int) + 1)] w fun e w' => e = .returned (.slice (some ⟨g, 0, none⟩) n cap) ∧
      Kd.R (Kd.int .i64) 3 w' base ok (.slice (some ⟨g, 0, none⟩) n cap) (xs.eraseIdx k) ∧ Below base w0 w' := by
  have hu := Try.underlying86
  have hinfo : (Try.prog.info? 3).map (·.size) = some 1 := by kernel_rfl
  have hzv : ∀ w, (zeroValue 3).run Try.prog w = .ok (.int .i64 0) w := fun _ => by kernel_rfl
  have HI := amk hinfo
  have HZ := amk hzv
  clear hinfo hzv
  obtain ⟨hbg, hz1, hnc, hcm, hz2⟩ := row_cells (id HO)
  clear hz1 hz2
  have hne : ((k : Int) == (k : Int) + 1) = false := by simp; omega
  have HK := amk hk
  have HN := amk hn
  have HOA := amk HO
  have HBA := amk HB
  have HBS := amk hbase
  have HBG := amk hbg
  clear HO HB hbase hn hbg
  have hk1 : k ≤ cap := by omega
  have hk2 : k + 1 ≤ cap := by omega
  have hk3 : k + 1 ≤ n + 1 := by omega
  have hk4 : (k : Int) ≤ (cap : Int) := by omega
  have hk5 : (k : Int) + 1 ≤ (cap : Int) := by omega
  have hk7 : 0 ≤ (k : Int) + 1 := by omega
  have hk6 : (k : Int) + 1 ≤ (n : Int) + 1 := by omega
  go_enter Try.func99, Try.ntmps99
  go_wp2_with fail
  have HA : Aside0 ((if cap = k + 1 then some (⟨g, 0, none⟩ : Addr) else some ⟨g, (k + 1) * 1, none⟩) = if cap = k + 1 then some ⟨g, 0, none⟩ else (some (⟨g, 0, none⟩ : Addr)).map (·.add ((k + 1) * 1))) := ⟨by
    split
    · rfl
    · simp [Addr.add]⟩
  have HR1 : Aside0 (Kd.R (Kd.int .i64) 3 w.drew base ok (.slice (some ⟨g, 0, none⟩) (n + 1) cap) xs) := ⟨Kd.R_drew HOA.out⟩
  have HB1 : Aside0 (Below base w0 w.drew) := ⟨bd_ HBA.out⟩
  have HM : Aside0 (n - k = n + 1 - (k + 1)) := ⟨by omega⟩
  go_region_law (refine Kd.R_delete_step (Kd.int .i64) (w0 := w0) base rfl (.tmp 22) (.tmp 25) 86 3 rfl Try.underlying86 HI.out (g := g) (n := n + 1) (c := cap) (k := k) (m := n - k) (c2 := cap - (k + 1)) (xs := xs) (ok := ok) (by simp [Act.eval, Act.put]) (by simp [Act.eval, Act.put]) HA.out HM.out HR1.out HK.out HB1.out HBS.out ?_; intro w1 hr1 hb1 hg1; clear hg1)
  have HR2 := amk hr1
  have HB2 := amk hb1
  obtain ⟨_, _, hnc1, _, hcells⟩ := row_cells (id hr1)
  have hcl : ∀ ty, (Builtin.clear_ #[86] ty #[.slice (some ⟨g, n * 1, none⟩) 1 (cap - n)]).run Try.prog w1 = .ok (.tuple #[]) (w1.setCells g (n * 1) [.int .i64 0]) := fun ty =>
    run_clear_one w1 86 3 ty (.int .i64 0) [.int .i64 0] Try.underlying86 HZ.out rfl (by intro u hu; simp at hu; simp [hu, Value.oneCell']) g (n * 1) _
      (fun j hj => (hcells _ (by show _ < cap * 1; simp at hj; omega)).1) (fun j hj => (hcells _ (by show _ < cap * 1; simp at hj; omega)).2)
  (try simp only [Nat.mul_one] at hcl)
  clear hr1 hb1 hcells
  have hn1 : n ≤ cap := by omega
  have hn2 : n + 1 ≤ cap := by omega
  have hn3 : (n : Int) ≤ (cap : Int) := by omega
  have hn4 : (n : Int) + 1 ≤ (cap : Int) := by omega
  clear hk1 hk2 hk3 hk4 hk5 hk6 hk7 hne
  go_wp2
  all_goals
    go_ret
    have hl := List.length_eraseIdx_of_lt (l := xs) (i := k) (by have := HK.out; have := HN.out; omega)
    have hr := R_spare HR2.out [.int .i64 0] (n * 1) (by rw [hl, HN.out]; exact Nat.le_refl _) (by show n * 1 + 1 ≤ cap * 1; omega)
    rw [Nat.add_sub_cancel] at hr
    (try simp only [Nat.mul_one] at hr)
    refine ⟨rfl, ?_, below_cells HBG.out _ _ _ HB2.out⟩
    (try simp only [Nat.mul_one])
    first | exact hr | (have h_ : cap = k + 1 := by assumption
                        rw [h_] at hr; exact hr)
/-! impl.TakePin, by hand: a row's copy without an element, stored into rows of its own. -/
def impl_TakePin.f (k : Nat) (a0 : Int) (l0 : List (List Int)) (a1 : Int) (a2 : Int) : Option (Int × List (List Int) × Bool) :=
  (impl_hasDepth.f a0 l0 a1 a2).bind fun t => if t = true then (if 0 ≤ a1 ∧ a1 < (l0.length : Int) then (slices_Index_int_int.f k (l0.getD a1.toNat []) a2).bind fun j => if j < 0 then some (0, [], false) else if j < ((l0.getD a1.toNat []).length : Int) ∧ (l0.getD a1.toNat []).length < 17592186044416 then impl_Pins_changed.f k a0 l0 a1 ((l0.getD a1.toNat []).eraseIdx j.toNat) else none else none) else some (0, [], false)
theorem row_at {w : World} {A : Option Addr} {l : List (List Int)} (h : Kd.C (Kd.slice 3 (Kd.int .i64)) w A l.length l) (i : Nat) (hi : i < l.length) :
    ∃ ad Ai ci, A = some ad ∧ w.cell? (ad.add i) = some (.slice Ai (l.getD i []).length ci) ∧ (l.getD i []).length ≤ ci ∧ Kd.C (Kd.int .i64) w Ai (l.getD i []).length (l.getD i []) := by
  obtain ⟨ad, cs, e, _, hK, hc⟩ := Kd.C_get h ([] : List Int) (i : Int) (by omega) (by omega)
  obtain ⟨Ai, ci, rfl, l1, g1⟩ := hK
  have := hc 0 _ rfl
  simp only [Int.toNat_natCast, show (Kd.slice 3 (Kd.int .i64)).sz = 1 from rfl, Nat.mul_one, Nat.add_zero] at this l1 g1
  exact ⟨ad, Ai, ci, e, this, l1, g1⟩
def TP (w : World) (a0 : Int) (A0 : Option Addr) (m0 c0 : Nat) (W : World) : Prop := Below w.heap.size w W ∧ W.heap[w.heap.size]? = some (.cells #[.int .i64 a0, .slice A0 m0 c0] 41 (0, 0)) ∧ W.heap[w.heap.size + 1]? = some (.cells #[.int .i64 0, .slice none 0 0] 41 (0, 0))
section
variable {w W W2 : World} {a0 : Int} {A0 : Option Addr} {m0 c0 : Nat}
theorem TP_below (h : TP w a0 A0 m0 c0 W) (hb : Below W.heap.size W W2) : TP w a0 A0 m0 c0 W2 := ⟨h.1.trans (hb.mono h.1.size), (hb.block _ (two_cells h.2.1).2.2.2.2).trans h.2.1, (hb.block _ (two_cells h.2.2).2.2.2.2).trans h.2.2⟩
theorem TP_cells (h : TP w a0 A0 m0 c0 W) {p : Addr} {v : Value} (hc : w.cell? p = some v) : W.cell? ⟨w.heap.size, 0, none⟩ = some (.int .i64 a0) ∧ W.cell? ⟨w.heap.size, 1, none⟩ = some (.slice A0 m0 c0) ∧ W.cell? p = some v := ⟨(two_cells h.2.1).1, (two_cells h.2.1).2.1, (h.1.cell (World.block_lt_of_cell? w _ hc)).trans hc⟩
theorem TP_sts (h : TP w a0 A0 m0 c0 W) {p : Addr} {v : Value} (hc : w.cell? p = some v) {u x : Value} : ((W.setCell ⟨w.heap.size + 1, 0, none⟩ u).setCell ⟨w.heap.size + 1, 1, none⟩ x).cell? ⟨w.heap.size, 0, none⟩ = some (.int .i64 a0) ∧ ((W.setCell ⟨w.heap.size + 1, 0, none⟩ u).setCell ⟨w.heap.size + 1, 1, none⟩ x).cell? ⟨w.heap.size, 1, none⟩ = some (.slice A0 m0 c0) ∧ ((W.setCell ⟨w.heap.size + 1, 0, none⟩ u).setCell ⟨w.heap.size + 1, 1, none⟩ x).cell? p = some v := by
  obtain ⟨h1, h2, h3⟩ := TP_cells h hc
  have hp := World.block_lt_of_cell? w _ hc
  have far : ∀ {q : Addr} {y : Value}, q.block ≠ w.heap.size + 1 → W.cell? q = some y → ((W.setCell ⟨w.heap.size + 1, 0, none⟩ u).setCell ⟨w.heap.size + 1, 1, none⟩ x).cell? q = some y := fun hq hy =>
    (World.cell?_setCell_far _ _ _ _ (Ne.symm hq)).trans ((World.cell?_setCell_far _ _ _ _ (Ne.symm hq)).trans hy)
  exact ⟨far (by show w.heap.size ≠ w.heap.size + 1; omega) h1, far (by show w.heap.size ≠ w.heap.size + 1; omega) h2, far (by omega) h3⟩
end
set_option maxHeartbeats 4000000 in
set_option maxRecDepth 100000 in
theorem impl_TakePin.calls (k : Nat) (a0 : Int) (A0 : Option Addr) (c0 : Nat) (l0 : List (List Int)) (a1 : Int) (a2 : Int) (r1 : Int) (r2 : List (List Int)) (r3 : Bool) (w : World) (h0 : Kd.C (Kd.slice 3 (Kd.int .i64)) w A0 l0.length l0) (i0 : l0.length ≤ c0) (h : impl_TakePin.f k a0 l0 a1 a2 = some (r1, r2, r3)) :
    Calls Try.prog 40 #[.agg #[.int .i64 a0, .slice A0 l0.length c0], .int .i64 a1, .int .i64 a2] w fun e w' => ∃ v1_ : Value, e = .returned (.tuple #[.agg #[.int .i64 r1, v1_], .bool r3]) ∧ Kd.S (Kd.slice 3 (Kd.int .i64)) 86 w' w.heap.size (fun _ => True) v1_ r2 ∧ Below w.heap.size w w' := by
  have hu41 := Try.underlying41
  have hu35 := Try.underlying35
  have hu86 := Try.underlying86
  unfold impl_TakePin.f at h
  obtain ⟨t, ht, h⟩ := Option.bind_eq_some_iff.mp h
  have HT := amk ht
  have H0 := amk h0
  have I0 := amk i0
  have TP2 : Aside0 (TP w a0 A0 l0.length c0 ((w.alloc (.cells #[.int .i64 a0, .slice A0 l0.length c0] 41 (0, 0))).alloc (.cells #[.int .i64 0, .slice none 0 0] 41 (0, 0)))) := ⟨((Below.refl w.heap.size w).alloc (Nat.le_refl _) _).alloc (by simp) _, (((Below.refl _ _).alloc (Nat.le_refl _) _).block _ (by simp)).trans (blk_new _ _), by simpa using blk_new (w.alloc (.cells #[.int .i64 a0, .slice A0 l0.length c0] 41 (0, 0))) (.cells #[.int .i64 0, .slice none 0 0] 41 (0, 0))⟩
  have hty : ∀ q, q ∈ 86 :: (Kd.slice 3 (Kd.int .i64)).E → q ≠ 41 := by intro q hq; simp [Kd.slice, Kd.int, Kd.scalar] at hq; omega
  have HTY := amk hty
  clear ht i0 hty
  cases t with
  | false =>
    simp only [Bool.false_eq_true, if_false, Option.some.injEq, Prod.mk.injEq] at h
    obtain ⟨rfl, rfl, rfl⟩ := h
    clear h0
    go_enter Try.func40, Try.ntmps40
    go_wp2_with (go_at_call 96; refine Calls.mono (impl_hasDepth.calls _ _ _ _ _ _ _ _ (Kd.C_below H0.out TP2.out.1) I0.out HT.out) ?_; rintro e w3 ⟨rfl, hb⟩; have TP3 := amk (TP_below TP2.out hb); obtain ⟨hp0, hp1, hp2, hp3, _⟩ := two_cells TP3.out.2.2; clear hb)
    (try simp only [Exit.inBlock, Exit.then])
    refine bodyPost_ret (results_ct rfl _ _ (w.heap.size + 1) 41 #[.int .i64 0, .slice none 0 0] (0, 0) _ rfl (two_set TP3.out.2.2 _ _) Try.underlying41 rfl (by kernel_rfl)) rfl ?_
    exact ⟨_, rfl, Kd.S_nil _ _ _ _ _, (TP3.out.1.setCell (p := ⟨w.heap.size + 1, 0, none⟩) (by show w.heap.size ≤ w.heap.size + 1; omega) _).setCell (p := ⟨w.heap.size + 1, 1, none⟩) (by show w.heap.size ≤ w.heap.size + 1; omega) _⟩
  | true =>
    rw [if_pos rfl] at h
    by_cases p1 : 0 ≤ a1 ∧ a1 < (l0.length : Int)
    · rw [if_pos p1] at h
      obtain ⟨i, rfl⟩ := Int.eq_ofNat_of_zero_le p1.1
      have hi : i < l0.length := by omega
      simp only [Int.toNat_natCast] at h
      obtain ⟨ad, Ai, ci, rfl, hrow, l1, g1⟩ := row_at h0 i hi
      obtain ⟨j, hj, h⟩ := Option.bind_eq_some_iff.mp h
      have hd0 : decide ((0 : Int) ≤ (i : Int)) = true := decide_eq_true (by omega)
      have hd1 : decide ((i : Int) < (l0.length : Int)) = true := decide_eq_true p1.2
      have hz0 : ((0 : Int) ≤ (i : Int)) = True := eq_true (by omega)
      have hz1 : ((i : Int) < (l0.length : Int)) = True := eq_true p1.2
      have hz2 : (i < l0.length) = True := eq_true hi
      generalize l0.getD i [] = row at hrow l1 g1 hj h
      have HROW := amk hrow
      have L1 := amk l1
      have G1 := amk g1
      have HJ := amk hj
      clear hrow l1 g1 hj h0 p1 hi
      by_cases p3 : j < 0
      · rw [if_pos p3] at h
        simp only [Option.some.injEq, Prod.mk.injEq] at h
        obtain ⟨rfl, rfl, rfl⟩ := h
        have hj0 : decide (j < 0) = true := decide_eq_true p3
        clear p3
        go_enter Try.func40, Try.ntmps40
        go_wp2_with (go_at_call 96; refine Calls.mono (impl_hasDepth.calls _ _ _ _ _ _ _ _ (Kd.C_below H0.out TP2.out.1) I0.out HT.out) ?_; rintro e w3 ⟨rfl, hb⟩; have TP3 := amk (TP_below TP2.out hb); obtain ⟨hq0, hq1, hq2⟩ := TP_cells TP3.out HROW.out; clear hb)
        go_wp2_with (go_at_call 97; refine Calls.mono (slices_Index_int_int.calls k _ _ row a2 _ _ (Kd.C_below G1.out TP3.out.1) L1.out HJ.out) ?_; rintro e w4 ⟨rfl, hb⟩; have TP4 := amk (TP_below TP3.out hb.below); clear hq0 hq1 hq2; obtain ⟨hq0, hq1, hq2⟩ := TP_cells TP4.out HROW.out; obtain ⟨hp0, hp1, hp2, hp3, _⟩ := two_cells TP4.out.2.2; clear hb)
        (try simp only [Exit.inBlock, Exit.then])
        refine bodyPost_ret (results_ct rfl _ _ (w.heap.size + 1) 41 #[.int .i64 0, .slice none 0 0] (0, 0) _ rfl (two_set TP4.out.2.2 _ _) Try.underlying41 rfl (by kernel_rfl)) rfl ?_
        exact ⟨_, rfl, Kd.S_nil _ _ _ _ _, (TP4.out.1.setCell (p := ⟨w.heap.size + 1, 0, none⟩) (by show w.heap.size ≤ w.heap.size + 1; omega) _).setCell (p := ⟨w.heap.size + 1, 1, none⟩) (by show w.heap.size ≤ w.heap.size + 1; omega) _⟩
      · rw [if_neg p3] at h
        by_cases p4 : j < (row.length : Int) ∧ row.length < 17592186044416
        · rw [if_pos p4] at h
          obtain ⟨q, rfl⟩ := Int.eq_ofNat_of_zero_le (show 0 ≤ j by omega)
          simp only [Int.toNat_natCast] at h
          obtain ⟨n, hn⟩ : ∃ n, row.length = n + 1 := ⟨row.length - 1, by omega⟩
          have hj0 : decide ((q : Int) < 0) = false := decide_eq_false (by omega)
          have HN := amk hn
          have HQ := amk (show q < n + 1 by omega)
          have HLIM := amk p4.2
          have hq9 : (q : Int) + 1 ≤ 9223372036854775807 := by omega
          have HQW := amk (show IntKind.i64.wrap ((q : Int) + 1) = (q : Int) + 1 from by rw [IntKind.wrap_i64]; omega)
          have HL : Aside0 ((row.eraseIdx q).length = n) := ⟨by rw [List.length_eraseIdx_of_lt (by omega)]; omega⟩
          have H := amk h
          clear p3 p4 h hn
          go_enter Try.func40, Try.ntmps40
          go_wp2_with (go_at_call 96; refine Calls.mono (impl_hasDepth.calls _ _ _ _ _ _ _ _ (Kd.C_below H0.out TP2.out.1) I0.out HT.out) ?_; rintro e w3 ⟨rfl, hb⟩; have TP3 := amk (TP_below TP2.out hb); obtain ⟨hq0, hq1, hq2⟩ := TP_cells TP3.out HROW.out; clear hb)
          go_wp2_with (go_at_call 97; refine Calls.mono (slices_Index_int_int.calls k _ _ row a2 _ _ (Kd.C_below G1.out TP3.out.1) L1.out HJ.out) ?_; rintro e w4 ⟨rfl, hb⟩; have TP4 := amk (TP_below TP3.out hb.below); clear hq0 hq1 hq2; obtain ⟨hq0, hq1, hq2⟩ := TP_cells TP4.out HROW.out; clear hb)
          have TPd := amk (TP_below TP4.out (Below.refl _ w4).drew)
          have HS := amk (TP_cells TPd.out HROW.out)
          have HHC := amk (show ∀ (W : World) (g cap : Nat), Below w4.drew.heap.size w4.drew W → Kd.C (Kd.slice 3 (Kd.int .i64)) W (some ad) l0.length l0 → Kd.R (Kd.int .i64) 3 W w4.drew.heap.size (fun _ => True) (.slice (some ⟨g, 0, none⟩) n cap) (row.eraseIdx q) → Calls Try.prog 98 #[.agg #[.int .i64 a0, .slice (some ad) l0.length c0], .int .i64 (i : Int), .slice (some ⟨g, 0, none⟩) n cap] W fun e w' => ∃ v1_ : Value, e = .returned (.tuple #[.agg #[.int .i64 r1, v1_], .bool r3]) ∧ Kd.S (Kd.slice 3 (Kd.int .i64)) 86 w' w4.drew.heap.size (fun _ => True) v1_ r2 ∧ Below w4.drew.heap.size w4.drew w' from fun W g cap hB hC hR => by
            have := impl_Pins_changed_own k a0 (some ad) c0 l0 (i : Int) (some ⟨g, 0, none⟩) cap (row.eraseIdx q) r1 r2 r3 w4.drew W (fun _ => True) hB hC I0.out (by rw [HL.out]; exact hR) H.out
            rw [HL.out] at this
            exact this)
          clear hq0 hq1 hq2
          obtain ⟨hq0, hq1, hq2⟩ := HS.out
          go_region_held3 (fun w' => w'.cell? ⟨w.heap.size, 0, none⟩ = some (.int .i64 a0) ∧ w'.cell? ⟨w.heap.size, 1, none⟩ = some (.slice (some ad) l0.length c0) ∧ w'.cell? (ad.add i) = some (.slice Ai row.length ci)) (first | with_reducible exact HS.out | with_reducible exact TP_cells TP7.out HROW.out | with_reducible exact TP_cells TP8.out HROW.out | with_reducible exact TP_cells TP9.out HROW.out | exact TP_sts TP9.out HROW.out) ((first | (go_at_call 100; refine Calls.mono (slices_Clone_int_int.calls Ai ci row row _ (Kd.C_below G1.out TPd.out.1) L1.out (slices_Clone_int_int.is HLIM.out)) ?_; rintro e w7 ⟨v7, rfl, hr, hb⟩; obtain ⟨g7, c7, rfl⟩ := row_form hr HN.out; have R7 := amk hr; have B7 := amk hb; have TP7 := amk (TP_below TPd.out hb); clear hr hb) | (go_at_call 99; rw [HQW.out]; refine Calls.mono (slices_Delete_int_int_own w4.drew w7 w4.drew.heap.size g7 c7 q n (fun _ => True) row HN.out HQ.out R7.out B7.out B7.out.size) ?_; rintro e w8 ⟨rfl, hr, hb⟩; have R8 := amk hr; have B8 := amk hb; have TP8 := amk (TP_below TPd.out hb); clear hr hb) | (go_at_call 98; refine Calls.mono (HHC.out _ g7 c7 B8.out (Kd.C_below H0.out TP8.out.1) R8.out) ?_; rintro e w9 ⟨v9, rfl, hs, hb⟩; obtain ⟨A9, c9, rfl⟩ := Kd.S_slice hs; have S9 := amk hs; have TP9 := amk (TP_below TPd.out hb); obtain ⟨hp0, hp1, hp2, hp3, _⟩ := two_cells TP9.out.2.2; clear hs hb)))
          go_wp2
          (try simp only [Exit.inBlock, Exit.then])
          refine bodyPost_ret (results_ct rfl _ _ (w.heap.size + 1) 41 #[.int .i64 r1, .slice A9 r2.length c9] (0, 0) _ rfl (two_set TP9.out.2.2 _ _) Try.underlying41 rfl (by kernel_rfl)) rfl ?_
          refine ⟨_, rfl, Kd.S_set (Kd.S_set (Kd.S_lower S9.out TPd.out.1.size) TP9.out.2.2 HTY.out 0 _) (heap_setCell_same _ _ 0 _ _ _ TP9.out.2.2) HTY.out 1 _, ?_⟩
          exact (TP9.out.1.setCell (p := ⟨w.heap.size + 1, 0, none⟩) (by show w.heap.size ≤ w.heap.size + 1; omega) _).setCell (p := ⟨w.heap.size + 1, 1, none⟩) (by show w.heap.size ≤ w.heap.size + 1; omega) _
        · rw [if_neg p4] at h; cases h
    · rw [if_neg p1] at h; cases h
/-! laws.FnExactTakePin, by hand: the argument's rows are marked. (Printed by gentk.py) -/
def Q1 (w : World) (n : Int) (A : Option Addr) (l c : Nat) (W : World) : Prop := Below w.heap.size w W ∧ W.heap[w.heap.size]? = some (.cells #[.int .i64 n, .slice A l c] 37 (0, 0))
def T1 (w : World) (n : Int) (A : Option Addr) (c : Nat) (L : List (List Int)) (rn : Int) (R : List (List Int)) (aw bw : Nat) (Aw : Option Addr) (cw : Nat) (W : World) : Prop := Q1 w n A L.length c W ∧ W.heap[bw]? = some (.cells #[.int .i64 rn, .slice Aw R.length cw] 41 (0, 0)) ∧ Kd.S (Kd.slice 3 (Kd.int .i64)) 86 W w.heap.size (fun j => aw ≤ j ∧ j < bw) (.slice Aw R.length cw) R ∧ (w.heap.size + 1 ≤ aw ∧ aw ≤ bw ∧ bw < W.heap.size)
def T2 (w : World) (n : Int) (A : Option Addr) (c : Nat) (L : List (List Int)) (rn : Int) (R : List (List Int)) (aw bw : Nat) (Aw : Option Addr) (cw : Nat) (bx : Nat) (Ax : Option Addr) (cx : Nat) (X : List (List Int)) (W : World) : Prop := T1 w n A c L rn R aw bw Aw cw W ∧ W.heap[bx]? = some (.cells #[.int .i64 n, .slice Ax L.length cx] 41 (0, 0)) ∧ Kd.S (Kd.slice 3 (Kd.int .i64)) 86 W w.heap.size (fun j => bw + 1 ≤ j ∧ j < bx) (.slice Ax L.length cx) X ∧ (bw + 1 ≤ bx ∧ bx < W.heap.size)
def TK (w : World) (n : Int) (A : Option Addr) (c : Nat) (L : List (List Int)) (rn : Int) (R : List (List Int)) (aw bw : Nat) (Aw : Option Addr) (cw : Nat) (bx : Nat) (Ax : Option Addr) (cx : Nat) (X : List (List Int)) (bg : Nat) (Ag : Option Addr) (cg : Nat) (G : List (List Int)) (W : World) : Prop := T2 w n A c L rn R aw bw Aw cw bx Ax cx X W ∧ W.heap[bg]? = some (.cells #[.int .i64 rn, .slice Ag R.length cg] 41 (0, 0)) ∧ Kd.S (Kd.slice 3 (Kd.int .i64)) 86 W w.heap.size (fun j => bx + 1 ≤ j ∧ j < bg) (.slice Ag R.length cg) G ∧ (bx + 1 ≤ bg ∧ bg < W.heap.size)
section
variable {w : World} {n : Int} {A : Option Addr} {c : Nat} {L : List (List Int)} {rn : Int} {R : List (List Int)} {aw bw : Nat} {Aw : Option Addr} {cw : Nat} {bx : Nat} {Ax : Option Addr} {cx : Nat} {X : List (List Int)} {bg : Nat} {Ag : Option Addr} {cg : Nat} {G : List (List Int)} {W W2 : World} {X' G' : List (List Int)} {l : Nat}
theorem Q1_below (h : Q1 w n A l c W) (hb : Below W.heap.size W W2) : Q1 w n A l c W2 := ⟨h.1.trans (hb.mono h.1.size), (hb.block _ (two_cells h.2).2.2.2.2).trans h.2⟩
theorem T1_below (h : T1 w n A c L rn R aw bw Aw cw W) (hb : Below W.heap.size W W2) : T1 w n A c L rn R aw bw Aw cw W2 := by
  obtain ⟨h1, h2, h3, h4⟩ := h
  have hs := hb.size
  exact ⟨Q1_below h1 hb, (hb.block _ (by omega)).trans h2, Kd.S_below h3 hb, by omega⟩
theorem T2_below (h : T2 w n A c L rn R aw bw Aw cw bx Ax cx X W) (hb : Below W.heap.size W W2) : T2 w n A c L rn R aw bw Aw cw bx Ax cx X W2 := by
  obtain ⟨h1, h2, h3, h4⟩ := h
  have hs := hb.size
  exact ⟨T1_below h1 hb, (hb.block _ (by omega)).trans h2, Kd.S_below h3 hb, by omega⟩
theorem TK_below (h : TK w n A c L rn R aw bw Aw cw bx Ax cx X bg Ag cg G W) (hb : Below W.heap.size W W2) : TK w n A c L rn R aw bw Aw cw bx Ax cx X bg Ag cg G W2 := by
  obtain ⟨h1, h2, h3, h4⟩ := h
  have hs := hb.size
  exact ⟨T2_below h1 hb, (hb.block _ (by omega)).trans h2, Kd.S_below h3 hb, by omega⟩
theorem T1_make (h : Q1 w n A L.length c W) (hs : Kd.S (Kd.slice 3 (Kd.int .i64)) 86 W aw (fun j => aw ≤ j ∧ j < W.heap.size) (.slice Aw R.length cw) R) (h1 : w.heap.size + 1 ≤ aw) (h2 : aw ≤ W.heap.size) : T1 w n A c L rn R aw W.heap.size Aw cw (W.alloc (.cells #[.int .i64 rn, .slice Aw R.length cw] 41 (0, 0))) :=
  ⟨Q1_below h ((Below.refl _ W).alloc (Nat.le_refl _) _), blk_new _ _, Kd.S_alloc (Kd.S_lower hs (by omega)) _, by simp; omega⟩
theorem T2_make (h : T1 w n A c L rn R aw bw Aw cw W) (hz : W.heap.size = bw + 1) (hb : Below W.heap.size W W2) (hs : Kd.S (Kd.slice 3 (Kd.int .i64)) 86 W2 W.heap.size (fun _ => True) (.slice Ax L.length cx) X) : T2 w n A c L rn R aw bw Aw cw W2.heap.size Ax cx X (W2.alloc (.cells #[.int .i64 n, .slice Ax L.length cx] 41 (0, 0))) := by
  have hz2 := hb.size
  have h0 := h.2.2.2
  have hi := S_ivC hs
  rw [hz] at hi
  exact ⟨T1_below (T1_below h hb) ((Below.refl _ W2).alloc (Nat.le_refl _) _), blk_new _ _, Kd.S_alloc (Kd.S_lower hi (by omega)) _, by simp; omega⟩
theorem TK_make (h : T2 w n A c L rn R aw bw Aw cw bx Ax cx X W) (hz : W.heap.size = bx + 1) (hb : Below W.heap.size W W2) (hs : Kd.S (Kd.slice 3 (Kd.int .i64)) 86 W2 W.heap.size (fun _ => True) (.slice Ag R.length cg) G) : TK w n A c L rn R aw bw Aw cw bx Ax cx X W2.heap.size Ag cg G (W2.alloc (.cells #[.int .i64 rn, .slice Ag R.length cg] 41 (0, 0))) := by
  have hz2 := hb.size
  have h0 := h.2.2.2
  have h00 := h.1.2.2.2
  have hi := S_ivC hs
  rw [hz] at hi
  exact ⟨T2_below (T2_below h hb) ((Below.refl _ W2).alloc (Nat.le_refl _) _), blk_new _ _, Kd.S_alloc (Kd.S_lower hi (by omega)) _, by simp; omega⟩
theorem TK_markX (h : TK w n A c L rn R aw bw Aw cw bx Ax cx X bg Ag cg G W) (hk : Kept W W2 (fun j => bw + 1 ≤ j ∧ j < bx)) (hb : Below w.heap.size w W2) (hs : Kd.S (Kd.slice 3 (Kd.int .i64)) 86 W2 w.heap.size (fun j => bw + 1 ≤ j ∧ j < bx) (.slice Ax L.length cx) X') : TK w n A c L rn R aw bw Aw cw bx Ax cx X' bg Ag cg G W2 := by
  obtain ⟨⟨⟨⟨a1, a2⟩, b2, b3, b4⟩, c2, c3, c4⟩, d2, d3, d4⟩ := h
  have hz := hk.1
  exact ⟨⟨⟨⟨hb, (hk.2 _ (by omega) (by omega)).trans a2⟩, (hk.2 _ (by omega) (by omega)).trans b2, Kd.S_kept b3 hk (fun j h1 h2 => by omega), by omega⟩, (hk.2 _ (by omega) (by omega)).trans c2, hs, by omega⟩, (hk.2 _ (by omega) (by omega)).trans d2, Kd.S_kept d3 hk (fun j h1 h2 => by omega), by omega⟩
theorem TK_markG (h : TK w n A c L rn R aw bw Aw cw bx Ax cx X bg Ag cg G W) (hk : Kept W W2 (fun j => bx + 1 ≤ j ∧ j < bg)) (hb : Below w.heap.size w W2) (hs : Kd.S (Kd.slice 3 (Kd.int .i64)) 86 W2 w.heap.size (fun j => bx + 1 ≤ j ∧ j < bg) (.slice Ag R.length cg) G') : TK w n A c L rn R aw bw Aw cw bx Ax cx X bg Ag cg G' W2 := by
  obtain ⟨⟨⟨⟨a1, a2⟩, b2, b3, b4⟩, c2, c3, c4⟩, d2, d3, d4⟩ := h
  have hz := hk.1
  exact ⟨⟨⟨⟨hb, (hk.2 _ (by omega) (by omega)).trans a2⟩, (hk.2 _ (by omega) (by omega)).trans b2, Kd.S_kept b3 hk (fun j h1 h2 => by omega), by omega⟩, (hk.2 _ (by omega) (by omega)).trans c2, Kd.S_kept c3 hk (fun j h1 h2 => by omega), by omega⟩, (hk.2 _ (by omega) (by omega)).trans d2, hs, by omega⟩
end
def laws_FnExactTakePin.f (n : Int) (l : List (List Int)) (p d : Int) : Option Bool := some true
set_option maxHeartbeats 16000000 in
set_option maxRecDepth 100000 in
theorem laws_FnExactTakePin.walk (k : Nat) (n : Int) (L : List (List Int)) (p d : Int) (rn : Int) (R R' X' : List (List Int)) (ok : Bool) (r0 m1 m : Int) (A : Option Addr) (c : Nat) (w : World) (hr : Kd.C (Kd.slice 3 (Kd.int .i64)) w A L.length L) (hc : L.length ≤ c)
    (e1 : laws_szPins.f k n L 1048576 = some r0) (h0 : 0 ≤ r0) (e2 : laws_toPins.f k n L = some (n, L)) (e3 : spec_TakePin.f k n L p d = some (rn, R, ok)) (e4 : impl_TakePin.f k n L p d = some (rn, R, ok)) (e5 : laws_eqPins.f k rn R rn R = some true) (e6 : laws_eqPins.f k n L n L = some true) (e7 : laws_markPins.f k n L 1 = some (m1, X')) (h7 : 0 ≤ m1) (e8 : laws_markPins.f k rn R 1 = some (m, R')) (h8 : 0 ≤ m) (e9 : laws_heldPins.f k rn R' 1 = some m) :
    Calls Try.prog 8 #[.agg #[.int .i64 n, .slice A L.length c], .int .i64 p, .int .i64 d] w fun e w' => e = .returned (.bool true) ∧ Below w.heap.size w w' := by
  have hu37 := Try.underlying37
  have hu41 := Try.underlying41
  have hu35 := Try.underlying35
  have hd0 : decide (r0 < 0) = false := decide_eq_false (by omega)
  have hd7 : decide (m1 < 0) = false := decide_eq_false (by omega)
  have hd8 : decide (m < 0) = false := decide_eq_false (by omega)
  have hok : (ok != ok) = false := by cases ok <;> rfl
  have hmm : (m != m) = false := by simp
  have E1 := amk e1
  have E2 := amk e2
  have E3 := amk e3
  have E4 := amk e4
  have E5 := amk e5
  have E6 := amk e6
  have E7 := amk e7
  have E8 := amk e8
  have E9 := amk e9
  have HC := amk hc
  have HR := amk hr
  have QA : Aside0 (Q1 w n A L.length c (w.alloc (.cells #[.int .i64 n, .slice A L.length c] 37 (0, 0)))) := ⟨(Below.refl w.heap.size w).alloc (Nat.le_refl _) _, blk_new _ _⟩
  clear e1 e2 e3 e4 e5 e6 e7 e8 e9 hc hr h0 h7 h8
  go_enter Try.func8, Try.ntmps8
  go_wp2_with (go_at_call 20; refine Calls.mono (laws_szPins.calls k n _ _ L _ r0 _ (Kd.C_below HR.out QA.out.1) HC.out E1.out) ?_; rintro e w2 ⟨rfl, hb⟩; have Q2 := amk (Q1_below QA.out hb); have hq0 := (two_cells Q2.out.2).1; have hq1 := (two_cells Q2.out.2).2.1; clear hb)
  go_wp2_with (go_at_call 22; refine Calls.mono (laws_toPins.calls k n _ _ L n L _ (Kd.C_below HR.out Q2.out.1) HC.out E2.out) ?_; rintro e w3 ⟨v3, rfl, hs, hb⟩; have Q3 := amk (Q1_below Q2.out hb); obtain ⟨A3, c3, rfl⟩ := Kd.S_slice hs; have S3 := amk hs; clear hq0 hq1; have hq0 := (two_cells Q3.out.2).1; have hq1 := (two_cells Q3.out.2).2.1; clear hs hb)
  go_wp2_with (go_at_call 39; refine Calls.mono (spec_TakePin.calls k n _ _ L p d rn R ok _ (Kd.S_reads' S3.out).2.2 (Kd.S_reads' S3.out).2.1 E3.out) ?_; rintro e w4 ⟨v4, rfl, hs, hb⟩; obtain ⟨A4, c4, rfl⟩ := Kd.S_slice hs; have TA := amk (T1_make (rn := rn) (Q1_below Q3.out hb) (S_ivC hs) (two_cells Q3.out.2).2.2.2.2 hb.size); clear hq0 hq1; have hq0 := (two_cells TA.out.1.2).1; have hq1 := (two_cells TA.out.1.2).2.1; have hw0 := (two_cells TA.out.2.1).1; have hw1 := (two_cells TA.out.2.1).2.1; clear hs hb)
  go_wp2_with (go_at_call 22; refine Calls.mono (laws_toPins.calls k n _ _ L n L _ (Kd.C_below HR.out TA.out.1.1) HC.out E2.out) ?_; rintro e w5 ⟨v5, rfl, hs, hb⟩; obtain ⟨A5, c5, rfl⟩ := Kd.S_slice hs; have S5 := amk hs; have TB := amk (T2_make TA.out (by simp) hb hs); clear hq0 hq1 hw0 hw1; have hq0 := (two_cells TB.out.1.1.2).1; have hq1 := (two_cells TB.out.1.1.2).2.1; have hw0 := (two_cells TB.out.1.2.1).1; have hw1 := (two_cells TB.out.1.2.1).2.1; have hx0 := (two_cells TB.out.2.1).1; have hx1 := (two_cells TB.out.2.1).2.1; clear hs hb)
  go_wp2_with (go_at_call 40; refine Calls.mono (impl_TakePin.calls k n _ _ L p d rn R ok _ (Kd.C_alloc (Kd.S_reads' S5.out).2.2 _) (Kd.S_reads' S5.out).2.1 E4.out) ?_; rintro e w6 ⟨v6, rfl, hs, hb⟩; obtain ⟨A6, c6, rfl⟩ := Kd.S_slice hs; have ST7 := amk (TK_make TB.out (by simp) hb hs); clear hq0 hq1 hw0 hw1 hx0 hx1; have hq0 := (two_cells ST7.out.1.1.1.2).1; have hq1 := (two_cells ST7.out.1.1.1.2).2.1; have hw0 := (two_cells ST7.out.1.1.2.1).1; have hw1 := (two_cells ST7.out.1.1.2.1).2.1; have hx0 := (two_cells ST7.out.1.2.1).1; have hx1 := (two_cells ST7.out.1.2.1).2.1; have hg0 := (two_cells ST7.out.2.1).1; have hg1 := (two_cells ST7.out.2.1).2.1; clear hs hb)
  go_wp2_with (go_at_call 24; refine Calls.mono (laws_eqPins.calls k rn _ _ R rn _ _ R true _ (Kd.S_reads' ST7.out.2.2.1).2.2 (Kd.S_reads' ST7.out.2.2.1).2.1 (Kd.S_reads' ST7.out.1.1.2.2.1).2.2 (Kd.S_reads' ST7.out.1.1.2.2.1).2.1 E5.out) ?_; rintro e w8 ⟨rfl, hb⟩; have ST8 := amk (TK_below ST7.out hb); clear hq0 hq1 hw0 hw1 hx0 hx1 hg0 hg1; have hq0 := (two_cells ST8.out.1.1.1.2).1; have hq1 := (two_cells ST8.out.1.1.1.2).2.1; have hw0 := (two_cells ST8.out.1.1.2.1).1; have hw1 := (two_cells ST8.out.1.1.2.1).2.1; have hx0 := (two_cells ST8.out.1.2.1).1; have hx1 := (two_cells ST8.out.1.2.1).2.1; have hg0 := (two_cells ST8.out.2.1).1; have hg1 := (two_cells ST8.out.2.1).2.1; clear hb)
  have ST8d := amk (TK_below ST8.out (Below.refl _ w8).drew)
  have HS : Aside0 (w8.drew.cell? ⟨w5.heap.size, 0, none⟩ = some (.int .i64 n) ∧ w8.drew.cell? ⟨w5.heap.size, 1, none⟩ = some (.slice A5 L.length c5) ∧ w8.drew.cell? ⟨w.heap.size, 0, none⟩ = some (.int .i64 n) ∧ w8.drew.cell? ⟨w.heap.size, 1, none⟩ = some (.slice A L.length c)) := ⟨⟨(two_cells ST8d.out.1.2.1).1, (two_cells ST8d.out.1.2.1).2.1, (two_cells ST8d.out.1.1.1.2).1, (two_cells ST8d.out.1.1.1.2).2.1⟩⟩
  go_region_held3 (fun w' => w'.cell? ⟨w5.heap.size, 0, none⟩ = some (.int .i64 n) ∧ w'.cell? ⟨w5.heap.size, 1, none⟩ = some (.slice A5 L.length c5) ∧ w'.cell? ⟨w.heap.size, 0, none⟩ = some (.int .i64 n) ∧ w'.cell? ⟨w.heap.size, 1, none⟩ = some (.slice A L.length c)) (first | exact ⟨(two_cells ST10.out.1.2.1).1, (two_cells ST10.out.1.2.1).2.1, (two_cells ST10.out.1.1.1.2).1, (two_cells ST10.out.1.1.1.2).2.1⟩ | exact ⟨(two_cells ST9.out.1.2.1).1, (two_cells ST9.out.1.2.1).2.1, (two_cells ST9.out.1.1.1.2).1, (two_cells ST9.out.1.1.1.2).2.1⟩ | exact HS.out) ((first | (go_at_call 22; refine Calls.mono (laws_toPins.calls k n _ _ L n L _ (Kd.C_below HR.out ST8d.out.1.1.1.1) HC.out E2.out) ?_; rintro e w9 ⟨v9, rfl, hs, hb⟩; have ST9 := amk (TK_below ST8d.out hb); obtain ⟨A9, c9, rfl⟩ := Kd.S_slice hs; have S9 := amk hs; clear hs hb) | (go_at_call 24; refine Calls.mono (laws_eqPins.calls k n _ _ L n _ _ L true _ (Kd.S_reads' ST9.out.1.2.2.1).2.2 (Kd.S_reads' ST9.out.1.2.2.1).2.1 (Kd.S_reads' S9.out).2.2 (Kd.S_reads' S9.out).2.1 E6.out) ?_; rintro e w10 ⟨rfl, hb⟩; have ST10 := amk (TK_below ST9.out hb); clear hb)))
  clear hq0 hq1 hw0 hw1 hx0 hx1 hg0 hg1
  have hq0 := (two_cells ST10.out.1.1.1.2).1
  have hq1 := (two_cells ST10.out.1.1.1.2).2.1
  have hw0 := (two_cells ST10.out.1.1.2.1).1
  have hw1 := (two_cells ST10.out.1.1.2.1).2.1
  have hx0 := (two_cells ST10.out.1.2.1).1
  have hx1 := (two_cells ST10.out.1.2.1).2.1
  have hg0 := (two_cells ST10.out.2.1).1
  have hg1 := (two_cells ST10.out.2.1).2.1;
  go_wp2_with (go_at_call_of 27 (Value.agg #[Value.int .i64 n, Value.slice A5 L.length c5]); refine Calls.mono (laws_markPins.calls k (fun j => w4.heap.size + 1 ≤ j ∧ j < w5.heap.size) n _ _ _ L 1 m1 X' w _ ST10.out.1.1.1.1 (fun j hj => by have h1 := ST10.out.1.1.2.2.2; have h2 := ST10.out.1.2.2.2; have h3 := ST10.out.2.2.2; omega) ST10.out.1.2.2.1 E7.out) ?_; rintro e w13 ⟨rfl, hs, hb, hk⟩; have ST13 := amk (TK_markX ST10.out hk hb hs); clear hq0 hq1 hw0 hw1 hx0 hx1 hg0 hg1; have hq0 := (two_cells ST13.out.1.1.1.2).1; have hq1 := (two_cells ST13.out.1.1.1.2).2.1; have hw0 := (two_cells ST13.out.1.1.2.1).1; have hw1 := (two_cells ST13.out.1.1.2.1).2.1; have hx0 := (two_cells ST13.out.1.2.1).1; have hx1 := (two_cells ST13.out.1.2.1).2.1; have hg0 := (two_cells ST13.out.2.1).1; have hg1 := (two_cells ST13.out.2.1).2.1; clear hs hb hk)
  go_wp2_with (go_at_call 24; refine Calls.mono (laws_eqPins.calls k rn _ _ R rn _ _ R true _ (Kd.S_reads' ST13.out.2.2.1).2.2 (Kd.S_reads' ST13.out.2.2.1).2.1 (Kd.S_reads' ST13.out.1.1.2.2.1).2.2 (Kd.S_reads' ST13.out.1.1.2.2.1).2.1 E5.out) ?_; rintro e w14 ⟨rfl, hb⟩; have ST14 := amk (TK_below ST13.out hb); clear hq0 hq1 hw0 hw1 hx0 hx1 hg0 hg1; have hq0 := (two_cells ST14.out.1.1.1.2).1; have hq1 := (two_cells ST14.out.1.1.1.2).2.1; have hw0 := (two_cells ST14.out.1.1.2.1).1; have hw1 := (two_cells ST14.out.1.1.2.1).2.1; have hx0 := (two_cells ST14.out.1.2.1).1; have hx1 := (two_cells ST14.out.1.2.1).2.1; have hg0 := (two_cells ST14.out.2.1).1; have hg1 := (two_cells ST14.out.2.1).2.1; clear hb)
  go_wp2_with (go_at_call_of 27 (Value.agg #[Value.int .i64 rn, Value.slice A6 R.length c6]); refine Calls.mono (laws_markPins.calls k (fun j => w5.heap.size + 1 ≤ j ∧ j < w6.heap.size) rn _ _ _ R 1 m R' w _ ST14.out.1.1.1.1 (fun j hj => by have h1 := ST14.out.1.1.2.2.2; have h2 := ST14.out.1.2.2.2; have h3 := ST14.out.2.2.2; omega) ST14.out.2.2.1 E8.out) ?_; rintro e w17 ⟨rfl, hs, hb, hk⟩; have ST17 := amk (TK_markG ST14.out hk hb hs); clear hq0 hq1 hw0 hw1 hx0 hx1 hg0 hg1; have hq0 := (two_cells ST17.out.1.1.1.2).1; have hq1 := (two_cells ST17.out.1.1.1.2).2.1; have hw0 := (two_cells ST17.out.1.1.2.1).1; have hw1 := (two_cells ST17.out.1.1.2.1).2.1; have hx0 := (two_cells ST17.out.1.2.1).1; have hx1 := (two_cells ST17.out.1.2.1).2.1; have hg0 := (two_cells ST17.out.2.1).1; have hg1 := (two_cells ST17.out.2.1).2.1; clear hs hb hk)
  have hlen : R'.length = R.length := (Kd.S_reads' ST17.out.2.2.1).1.symm
  have HH : ∀ W, Kd.C (Kd.slice 3 (Kd.int .i64)) W A6 R'.length R' → Calls Try.prog 28 #[.agg #[.int .i64 rn, .slice A6 R.length c6], .int .i64 1] W fun e w' => e = .returned (.int .i64 m) ∧ Below W.heap.size W w' := fun W hC => by
    have := laws_heldPins.calls k rn A6 c6 R' 1 m W hC (by have := (Kd.S_reads' ST17.out.2.2.1).2.1; omega) E9.out
    rw [hlen] at this
    exact this
  have HHA := amk HH
  have HLN := amk hlen
  clear HH hlen
  go_wp2_with (go_at_call 28; refine Calls.mono (HHA.out _ (Kd.S_reads' ST17.out.2.2.1).2.2) ?_; rintro e w19 ⟨rfl, hb⟩; have ST19 := amk (TK_below ST17.out hb); clear hq0 hq1 hw0 hw1 hx0 hx1 hg0 hg1; have hq0 := (two_cells ST19.out.1.1.1.2).1; have hq1 := (two_cells ST19.out.1.1.1.2).2.1; have hw0 := (two_cells ST19.out.1.1.2.1).1; have hw1 := (two_cells ST19.out.1.1.2.1).2.1; have hx0 := (two_cells ST19.out.1.2.1).1; have hx1 := (two_cells ST19.out.1.2.1).2.1; have hg0 := (two_cells ST19.out.2.1).1; have hg1 := (two_cells ST19.out.2.1).2.1; clear hb)
  go_wp2_with (go_at_call 22; refine Calls.mono (laws_toPins.calls k n _ _ L n L _ (Kd.C_below HR.out ST19.out.1.1.1.1) HC.out E2.out) ?_; rintro e w24 ⟨v24, rfl, hs, hb⟩; have ST24 := amk (TK_below ST19.out hb); obtain ⟨A24, c24, rfl⟩ := Kd.S_slice hs; have S24 := amk hs; clear hq0 hq1 hw0 hw1 hx0 hx1 hg0 hg1; have hq0 := (two_cells ST24.out.1.1.1.2).1; have hq1 := (two_cells ST24.out.1.1.1.2).2.1; have hw0 := (two_cells ST24.out.1.1.2.1).1; have hw1 := (two_cells ST24.out.1.1.2.1).2.1; have hx0 := (two_cells ST24.out.1.2.1).1; have hx1 := (two_cells ST24.out.1.2.1).2.1; have hg0 := (two_cells ST24.out.2.1).1; have hg1 := (two_cells ST24.out.2.1).2.1; clear hs hb)
  go_wp2_with (go_at_call 40; refine Calls.mono (impl_TakePin.calls k n _ _ L p d rn R ok _ (Kd.S_reads' S24.out).2.2 (Kd.S_reads' S24.out).2.1 E4.out) ?_; rintro e w25 ⟨v25, rfl, hs, hb⟩; obtain ⟨A25, c25, rfl⟩ := Kd.S_slice hs; have ST25 := amk (TK_below (TK_below ST24.out hb) ((Below.refl _ w25).alloc (Nat.le_refl _) (.cells #[.int .i64 rn, .slice A25 R.length c25] 41 (0, 0)))); have S25 := amk (Kd.S_alloc hs (.cells #[.int .i64 rn, .slice A25 R.length c25] 41 (0, 0))); clear hq0 hq1 hw0 hw1 hx0 hx1 hg0 hg1; have hq0 := (two_cells ST25.out.1.1.1.2).1; have hq1 := (two_cells ST25.out.1.1.1.2).2.1; have hw0 := (two_cells ST25.out.1.1.2.1).1; have hw1 := (two_cells ST25.out.1.1.2.1).2.1; have hx0 := (two_cells ST25.out.1.2.1).1; have hx1 := (two_cells ST25.out.1.2.1).2.1; have hg0 := (two_cells ST25.out.2.1).1; have hg1 := (two_cells ST25.out.2.1).2.1; clear hs hb)
  go_wp2_with (go_at_call 24; refine Calls.mono (laws_eqPins.calls k rn _ _ R rn _ _ R true _ (Kd.S_reads' S25.out).2.2 (Kd.S_reads' S25.out).2.1 (Kd.S_reads' ST25.out.1.1.2.2.1).2.2 (Kd.S_reads' ST25.out.1.1.2.2.1).2.1 E5.out) ?_; rintro e w26 ⟨rfl, hb⟩; have ST26 := amk (TK_below ST25.out hb); clear hq0 hq1 hw0 hw1 hx0 hx1 hg0 hg1; have hq0 := (two_cells ST26.out.1.1.1.2).1; have hq1 := (two_cells ST26.out.1.1.1.2).2.1; have hw0 := (two_cells ST26.out.1.1.2.1).1; have hw1 := (two_cells ST26.out.1.1.2.1).2.1; have hx0 := (two_cells ST26.out.1.2.1).1; have hx1 := (two_cells ST26.out.1.2.1).2.1; have hg0 := (two_cells ST26.out.2.1).1; have hg1 := (two_cells ST26.out.2.1).2.1; clear hb)
  go_wp2_with (go_at_call 28; refine Calls.mono (HHA.out _ (Kd.S_reads' ST26.out.2.2.1).2.2) ?_; rintro e w28 ⟨rfl, hb⟩; have ST28 := amk (TK_below ST26.out hb); clear hq0 hq1 hw0 hw1 hx0 hx1 hg0 hg1; have hq0 := (two_cells ST28.out.1.1.1.2).1; have hq1 := (two_cells ST28.out.1.1.1.2).2.1; have hw0 := (two_cells ST28.out.1.1.2.1).1; have hw1 := (two_cells ST28.out.1.1.2.1).2.1; have hx0 := (two_cells ST28.out.1.2.1).1; have hx1 := (two_cells ST28.out.1.2.1).2.1; have hg0 := (two_cells ST28.out.2.1).1; have hg1 := (two_cells ST28.out.2.1).2.1; clear hb)
  go_ret
  exact ⟨rfl, ST28.out.1.1.1.1⟩
/-! Joined pins, over lists alone. -/
def rngFrom (s m : Nat) : List Int := (List.range' s m).map fun (d : Nat) => (d : Int)
theorem rngFrom_zero (s : Nat) : rngFrom s 0 = [] := rfl
theorem rngFrom_succ (s m : Nat) : rngFrom s (m + 1) = (s : Int) :: rngFrom (s + 1) m := by unfold rngFrom; rw [List.range'_succ, List.map_cons]
theorem rngFrom_len (s m : Nat) : (rngFrom s m).length = m := by unfold rngFrom; simp
theorem rngFrom_mem {s m : Nat} {x : Int} (h : x ∈ rngFrom s m) : (s : Int) ≤ x ∧ x < s + m := by
  unfold rngFrom at h
  obtain ⟨d, hd, rfl⟩ := List.mem_map.mp h
  rw [List.mem_range'_1] at hd
  omega
theorem filter_len_le {α : Type} (p : α → Bool) (l : List α) : (l.filter p).length ≤ l.length := List.length_filter_le p l
def rowsOf (n m : Nat) (f : Nat → Int → Bool) : List (List Int) := (List.range' 0 m).map fun i => (rngFrom 0 n).filter (f i)
theorem rowsOf_len (n m : Nat) (f : Nat → Int → Bool) : (rowsOf n m f).length = m := by unfold rowsOf; simp
theorem rowsOf_get (n m : Nat) (f : Nat → Int → Bool) (i : Nat) (hi : i < m) : (rowsOf n m f).getD i [] = (rngFrom 0 n).filter (f i) := by
  unfold rowsOf
  simp [List.getD, hi]
theorem rowsOf_congr {n m : Nat} {f g : Nat → Int → Bool} (h : ∀ i < m, ∀ d ∈ rngFrom 0 n, f i d = g i d) : rowsOf n m f = rowsOf n m g := by
  unfold rowsOf
  apply List.map_congr_left
  intro i hi
  rw [List.mem_range'_1] at hi
  exact List.filter_congr (fun d hd => h i (by omega) d hd)
/-- Whether a depth is in all of a list's pins at a place, or in one of them. -/
def inB (b : Bool) (l : List S41) (i : Nat) (d : Int) : Bool := if b then l.all fun p => (p.f1.getD i []).contains d else l.any fun p => (p.f1.getD i []).contains d
theorem inB_count_any (l : List S41) (i : Nat) (d : Int) : decide (1 ≤ l.countP fun p => (p.f1.getD i []).contains d) = inB false l i d := by
  unfold inB
  rw [if_neg (by simp), Bool.eq_iff_iff, decide_eq_true_eq, List.any_eq_true]
  rw [show (1 ≤ l.countP fun p => (p.f1.getD i []).contains d) ↔ 0 < l.countP (fun p => (p.f1.getD i []).contains d) from Iff.rfl, List.countP_pos_iff]
section
/-! What a readable argument holds, told by kinds: the bridge from a statement's reading to the print's words. -/
open Go.WideShapes in
def Opens {α : Type} (P : Program) (t : TypeId) (d : Kd α) (V : α → Prop) : Prop :=
  ∀ (H : Type) (enc : TypeId × Value → H) (w : World) (base : Nat) (spare : Nat → Bool) (held : Bool) (fuel : Nat) (cs : List Value) (x : DataW H × List MemPlace),
    DataW.trod enc P w base spare held fuel t cs = some x → ∃ a : α, d.K w a cs ∧ V a
def IntV (a : Int) : Prop := -9223372036854775808 ≤ a ∧ a ≤ 9223372036854775807
def ListV {α : Type} (V : α → Prop) (l : List α) : Prop := l.length ≤ 9223372036854775807 ∧ ∀ x ∈ l, V x
theorem opens_int {P : Program} {t : TypeId} (ht : P.underlying t = some (.int .i64)) : Opens P t (Kd.int .i64) IntV := by
  intro H enc w base spare held fuel cs x h
  obtain ⟨n, rfl, _, hw⟩ := DataW.trod_int ht h
  refine ⟨n, rfl, ?_⟩
  have hb : (IntKind.i64.min ≤ n ∧ n ≤ IntKind.i64.max) := by simpa [Lit.wf] using hw
  have e1 : IntKind.i64.min = -9223372036854775808 := rfl
  have e2 : IntKind.i64.max = 9223372036854775807 := rfl
  rw [e1, e2] at hb
  unfold IntV
  omega
theorem cells_list {w : World} {base : Nat} {a : Addr} {n : Nat} {cs : List Value} (h : w.cells? base a n = some cs) : cs.length = n ∧ ∀ i u, cs[i]? = some u → w.cell? (a.add i) = some u := by
  unfold World.cells? at h
  split at h
  · have hl := mapM_some_length h
    refine ⟨by simpa using hl, fun i u hu => ?_⟩
    have hi : i < n := by
      have := (List.getElem?_eq_some_iff.1 hu).1
      rw [hl] at this; simpa using this
    have := mapM_some_get h i i (by simp [hi])
    rw [hu] at this
    exact this
  · cases h
theorem opens_slice {α : Type} {P : Program} {t e : TypeId} {d : Kd α} {V : α → Prop} (ht : P.underlying t = some (.slice e)) (hd : Opens P e d V) (hsz : P.cellsOf e = d.sz) : Opens P t (Kd.slice e d) (ListV V) := by
  intro H enc w base spare held fuel cs x h
  rcases Go.Deep.open_slice ht h with ⟨rfl, _⟩ | ⟨a, len, cap, m, n, D, Pl, rfl, _, hl, hm, hmm, _, hel⟩
  · exact ⟨[], ⟨none, 0, rfl, Nat.le_refl _, ⟨rfl, by simp, fun h0 => absurd h0 (by simp)⟩⟩, ⟨by simp, fun x hx => by simp at hx⟩⟩
  · have hle : len ≤ m := by rw [hmm]; split <;> omega
    have each : ∀ i : Nat, ∃ a' : Option α, i < len → ∃ z cs', a' = some z ∧ V z ∧ d.K w z cs' ∧ ∀ j u, cs'[j]? = some u → w.cell? (a.add (i * d.sz + j)) = some u := by
      intro i
      by_cases hi : i < len
      · obtain ⟨cs', h1, h2⟩ := hel i (by omega)
        obtain ⟨z, hK, hV⟩ := hd H enc w base spare held n cs' _ h2
        refine ⟨some z, fun _ => ⟨z, cs', rfl, hV, hK, fun j u hu => ?_⟩⟩
        obtain ⟨_, hc⟩ := cells_list h1
        have := hc j u hu
        rw [Go.Deep.add_add, hsz] at this
        exact this
      · exact ⟨none, fun h0 => absurd h0 hi⟩
    have ⟨f, hf⟩ := Classical.axiomOfChoice each
    have hz : ∀ i, i < len → ∃ z, f i = some z ∧ V z ∧ ∃ cs', d.K w z cs' ∧ ∀ j u, cs'[j]? = some u → w.cell? (a.add (i * d.sz + j)) = some u := by
      intro i hi
      obtain ⟨z, cs', h1, h2, h3, h4⟩ := hf i hi
      exact ⟨z, h1, h2, cs', h3, h4⟩
    have hlist : ∃ l : List α, l.length = len ∧ ∀ i, i < len → f i = l[i]? := by
      clear hf each hel hmm hle
      have : ∀ n, n ≤ len → ∃ l : List α, l.length = n ∧ ∀ i, i < n → f i = l[i]? := by
        intro n
        induction n with
        | zero => intro _; exact ⟨[], rfl, fun i hi => by omega⟩
        | succ n ih =>
          intro hn
          obtain ⟨l, hl1, hl2⟩ := ih (by omega)
          obtain ⟨z, h1, _⟩ := hz n (by omega)
          refine ⟨l ++ [z], by simp [hl1], fun i hi => ?_⟩
          by_cases e : i < n
          · rw [List.getElem?_append_left (by omega)]; exact hl2 i e
          · obtain rfl : i = n := by omega
            rw [h1, ← hl1]; simp
      exact this len (Nat.le_refl _)
    obtain ⟨l, hlen, hget⟩ := hlist
    have hV : ∀ x ∈ l, V x := by
      intro x hx
      obtain ⟨i, hi, rfl⟩ := List.getElem_of_mem hx
      obtain ⟨z, h1, h2, _⟩ := hz i (by omega)
      have h3 := hget i (by omega)
      rw [h1, List.getElem?_eq_getElem hi] at h3
      injection h3 with h3
      rw [← h3]; exact h2
    unfold maxLen at hm
    subst hlen
    refine ⟨l, ⟨some a, cap, rfl, hl, ⟨rfl, by omega, fun _ => ⟨a, rfl, fun j p hp => ?_⟩⟩⟩, ⟨by omega, hV⟩⟩
    have hj : j < l.length := (List.getElem?_eq_some_iff.1 hp).1
    obtain ⟨z, h1, _, cs', h3, h4⟩ := hz j hj
    have h5 := hget j hj
    rw [h1, hp] at h5
    injection h5 with h5
    subst h5
    exact ⟨cs', d.K_len h3, h3, h4⟩
theorem opens_pair {α β : Type} {P : Program} {t : TypeId} {f0 f1 : Field} {d0 : Kd α} {d1 : Kd β} {V0 : α → Prop} {V1 : β → Prop} (ht : P.underlying t = some (.struct #[f0, f1]))
    (h0 : Opens P f0.type d0 V0) (h1 : Opens P f1.type d1 V1) (o0 : f0.offset = 0) (o1 : f1.offset = d0.sz) (z0 : P.cellsOf f0.type = d0.sz) (z1 : P.cellsOf f1.type = d1.sz) (zt : P.cellsOf t = d0.sz + d1.sz) :
    Opens P t (Kd.pair d0 d1) (fun x => V0 x.1 ∧ V1 x.2) := by
  intro H enc w base spare held fuel cs x h
  obtain ⟨y0, y1, n, _, hl, g0, g1⟩ := ChangeShapes.trod_struct2 ht h
  rw [o0, z0, List.drop_zero] at g0
  rw [o1, z1] at g1
  obtain ⟨a, ka, va⟩ := h0 H enc w base spare held n _ _ g0
  obtain ⟨b, kb, vb⟩ := h1 H enc w base spare held n _ _ g1
  refine ⟨(a, b), ⟨_, _, ?_, ka, kb⟩, va, vb⟩
  rw [List.take_of_length_le (l := cs.drop d0.sz) (by rw [List.length_drop, hl, zt]; omega), List.take_append_drop]
theorem opens_iso {α β : Type} {P : Program} {t : TypeId} {d : Kd α} {V : α → Prop} (h : Opens P t d V) (f : β → α) (g : α → β) (e : ∀ a, f (g a) = a) : Opens P t (Kd.iso d f) (fun x => V (f x)) := by
  intro H enc w base spare held fuel cs x hx
  obtain ⟨a, ka, va⟩ := h H enc w base spare held fuel cs x hx
  exact ⟨g a, by show d.K w (f (g a)) cs; rw [e]; exact ka, by show V (f (g a)); rw [e]; exact va⟩
section
variable {H : Type} {enc : TypeId × Value → H} {P : Program} {w : World} {base : Nat} {spare : Nat → Bool} {held : Bool} {r : Reach} {b0 : Nat} {t : TypeId} {v : Value} {x : DataW H} {p : List MemPlace}
theorem arg_struct {α : Type} {d : Kd α} {V : α → Prop} (ho : Opens P t d V) {fs : Array Field} (hs : P.underlying t = some (.struct fs)) (hv : Value.okWide P w r b0 t v) (h : DataW.Trod enc P w base spare held t v x p) :
    ∃ a cs, v = .agg (List.toArray cs) ∧ d.K w a cs ∧ V a := by
  obtain ⟨cs, rfl, _⟩ := WideShapes.okWide_struct hs hv
  obtain ⟨fuel, hf⟩ := h
  obtain ⟨a, hk, hV⟩ := ho H enc w base spare held fuel _ _ hf
  exact ⟨a, cs.toList, by simp, by simpa [Value.cells] using hk, hV⟩
theorem arg_int (ht : P.underlying t = some (.int .i64)) (hv : Value.okWide P w r b0 t v) (h : DataW.Trod enc P w base spare held t v x p) : ∃ a, v = .int .i64 a ∧ IntV a := by
  obtain ⟨a, rfl, _, _, hw⟩ := ChangeShapes.open_int ht hv h
  have hb : (IntKind.i64.min ≤ a ∧ a ≤ IntKind.i64.max) := by simpa [Lit.wf] using hw
  exact ⟨a, rfl, hb.1, hb.2⟩
theorem arg_lt (h : DataW.Trod enc P w base spare held t v x p) : ∀ y ∈ p, y.block < w.heap.size := by
  obtain ⟨m, hm⟩ := h
  exact DataW.trod_lt m _ _ _ hm
end
end
/-! A row without a depth: what is left is the row's filter; a rising row is told by what it contains. -/
theorem risF_cons {n q x : Int} {l : List Int} (h : risF n q (x :: l) = true) : q < x ∧ x ≤ n - 1 ∧ risF n x l = true := by
  unfold risF at h
  rw [Bool.and_eq_true, Bool.and_eq_true, decide_eq_true_eq, decide_eq_true_eq] at h
  exact ⟨h.1.1, h.1.2, h.2⟩
theorem risF_mk {n q x : Int} {l : List Int} (h1 : q < x) (h2 : x ≤ n - 1) (h3 : risF n x l = true) : risF n q (x :: l) = true := by
  unfold risF
  rw [decide_eq_true h1, decide_eq_true h2, h3]; rfl
theorem risF_weak {n q q' : Int} (hq : q' ≤ q) : ∀ {l : List Int}, risF n q l = true → risF n q' l = true := by
  intro l h
  cases l with
  | nil => rfl
  | cons x t =>
    obtain ⟨h1, h2, h3⟩ := risF_cons h
    exact risF_mk (by omega) h2 h3
theorem risF_filter {n : Int} (f : Int → Bool) : ∀ {l : List Int} {q : Int}, risF n q l = true → risF n q (l.filter f) = true := by
  intro l
  induction l with
  | nil => intro q _; rfl
  | cons x t ih =>
    intro q h
    obtain ⟨h1, h2, h3⟩ := risF_cons h
    rw [List.filter_cons]
    by_cases e : f x = true
    · rw [if_pos e]; exact risF_mk h1 h2 (ih h3)
    · rw [if_neg e]; exact risF_weak (by omega) (ih h3)
theorem ris_not {n q d : Int} {l : List Int} (h : risF n q l = true) (hd : d ≤ q) : l.contains d = false := by
  cases e : l.contains d with
  | false => rfl
  | true => have := risF_mem h d (List.contains_iff_mem.mp e); omega
theorem ris_self : ∀ (m s : Nat) (l : List Int), risF ((s + m : Nat) : Int) ((s : Int) - 1) l = true → (rngFrom s m).filter (fun d => l.contains d) = l := by
  intro m
  induction m with
  | zero =>
    intro s l h
    cases l with
    | nil => rfl
    | cons x t => obtain ⟨h1, h2, _⟩ := risF_cons h; omega
  | succ m ih =>
    intro s l h
    rw [rngFrom_succ, List.filter_cons]
    have hsm : ((s + (m + 1) : Nat) : Int) = ((s + 1 + m : Nat) : Int) := by omega
    have hs1 : (((s + 1 : Nat) : Int) - 1) = (s : Int) := by omega
    cases l with
    | nil =>
      rw [if_neg (by simp)]
      exact ih (s + 1) [] rfl
    | cons x t =>
      obtain ⟨h1, h2, h3⟩ := risF_cons h
      by_cases e : x = (s : Int)
      · subst e
        rw [if_pos (by simp)]
        have hi := ih (s + 1) t (by rw [← hsm, hs1]; exact h3)
        have hcong : (rngFrom (s + 1) m).filter (fun d => ((s : Int) :: t).contains d) = (rngFrom (s + 1) m).filter (fun d => t.contains d) := by
          apply List.filter_congr
          intro d hd
          have := (rngFrom_mem hd).1
          rw [List.contains_cons, show (d == (s : Int)) = false from beq_eq_false_iff_ne.mpr (by omega), Bool.false_or]
        rw [hcong, hi]
      · rw [if_neg (by rw [ris_not (risF_mk (q := (s : Int)) (by omega) h2 h3) (Int.le_refl _)]; simp)]
        exact ih (s + 1) (x :: t) (by rw [← hsm, hs1]; exact risF_mk (by omega) h2 h3)
theorem ris_erase {n d : Int} : ∀ {l : List Int} {q : Int}, risF n q l = true → l.contains d = true → l.eraseIdx (l.idxOf d) = l.filter (fun x => x != d) ∧ l.idxOf d < l.length := by
  intro l
  induction l with
  | nil => intro q _ h; simp at h
  | cons x t ih =>
    intro q h hc
    obtain ⟨h1, h2, h3⟩ := risF_cons h
    by_cases e : x = d
    · subst e
      have hz : (x :: t).idxOf x = 0 := by simp
      rw [hz, List.filter_cons, if_neg (by simp)]
      refine ⟨?_, by simp⟩
      show t = _
      rw [List.filter_eq_self.mpr]
      intro y hy
      have := (risF_mem h3 y hy).1
      exact bne_iff_ne.mpr (by omega)
    · rw [List.contains_cons, show (d == x) = false from beq_eq_false_iff_ne.mpr (fun h => e h.symm), Bool.false_or] at hc
      obtain ⟨i1, i2⟩ := ih h3 hc
      have hz : (x :: t).idxOf d = t.idxOf d + 1 := by rw [List.idxOf_cons, show (x == d) = false from beq_eq_false_iff_ne.mpr e]; rfl
      rw [hz, List.filter_cons, if_pos (by simpa using e), List.eraseIdx_cons_succ, i1]
      exact ⟨rfl, by rw [List.length_cons]; omega⟩
theorem rowB_filter {n : Int} {l : List Int} (h : rowB n l = true) (f : Int → Bool) : rowB n (l.filter f) = !(l.filter f).isEmpty := by
  unfold rowB at h ⊢
  rw [Bool.and_eq_true] at h
  rw [risF_filter f h.2, Bool.and_true]
theorem pinsB_set {n : Int} {L : List (List Int)} (h : pinsB n L = true) (i : Nat) (hi : i < L.length) (r : List Int) : pinsB n (L.set i r) = rowB n r := by
  obtain ⟨h1, h2, h3⟩ := pinsB_parts h
  unfold pinsB
  rw [List.length_set, decide_eq_true h1, decide_eq_true (show 1 ≤ (L.length : Int) ∧ (L.length : Int) ≤ 7 by omega)]
  cases e : rowB n r with
  | true =>
    rw [show (L.set i r).all (rowB n) = true from List.all_eq_true.mpr (fun x hx => by
      rcases List.mem_or_eq_of_mem_set hx with hx | rfl
      · exact h3 x hx
      · exact e)]
    rfl
  | false =>
    rw [show (L.set i r).all (rowB n) = false from by
      rw [List.all_eq_false]
      exact ⟨r, List.mem_set hi r, by rw [e]; simp⟩]
    rfl
theorem ris_length {n q d : Int} {l : List Int} (h : risF n q l = true) (hc : l.contains d = true) : (l.filter (fun x => x != d)).length + 1 = l.length := by
  obtain ⟨h1, h2⟩ := ris_erase h hc
  rw [← h1, List.length_eraseIdx_of_lt h2]
  omega
/-! Locks: which numbers are one, how many codes there are. -/
/-! Numbers told by digits. -/
/-! The places and the digits that two codes share. -/
/-! Codes of a lock as texts, their digits, what clues tell of them. -/
/-! ### impl_IsLock: function 155 -/
/-! ### impl_power: function 186 -/
/-! ### impl_Lock_count: function 176 -/
/-! ### impl_isSmall: function 154 -/
/-! impl's functions on locks: what they come to. -/
/-! ### spec_whCount: function 175 -/
/-! ### spec_whGood: function 174 -/
/-! spec's functions on locks and clues: what they come to. -/
/-! ### impl_Lock_isText: function 177 -/
/-! ### impl_Lock_isCode: function 156 -/
/-! ### impl_has: function 122 -/
/-! ### spec_whCode: function 152 -/
/-! Which texts are codes: both sides. -/
/-! Texts compared by '<=', '>', '>=', told by '<' alone. -/
theorem less_le : ∀ x y : List UInt8, (Op.bytesLess x y || x == y) = !(Op.bytesLess y x)
  | [], [] => rfl
  | [], _ :: _ => rfl
  | _ :: _, [] => rfl
  | a :: x, b :: y => by
    have ih := less_le x y
    simp only [Op.bytesLess, List.cons_beq_cons]
    by_cases h1 : a < b
    · have h2 : ¬ b < a := fun h => absurd h1 (UInt8.lt_asymm h)
      have h3 : (b == a) = false := beq_eq_false_iff_ne.mpr (fun e => by subst e; exact UInt8.lt_irrefl _ h1)
      simp [h1, h2, h3]
    · by_cases h2 : b < a
      · have h3 : (a == b) = false := beq_eq_false_iff_ne.mpr (fun e => by subst e; exact UInt8.lt_irrefl _ h2)
        simp [h1, h2, h3]
      · have h3 : a = b := UInt8.le_antisymm (UInt8.not_lt.mp h2) (UInt8.not_lt.mp h1)
        subst h3
        simp only [h1, decide_false, Bool.false_or, BEq.rfl, Bool.true_and]
        exact ih
theorem binOp_leq_n (t : TypeId) (a b : ByteArray) : binOp .leq t (.string a) (.string b) = pure (.bool !(Op.bytesLess b.toList a.toList)) := by
  rw [← less_le]; simp [binOp, Op.stringOp]
theorem binOp_gtr_n (t : TypeId) (a b : ByteArray) : binOp .gtr t (.string a) (.string b) = pure (.bool (Op.bytesLess b.toList a.toList)) := by
  rw [show Op.bytesLess b.toList a.toList = !(Op.bytesLess a.toList b.toList || a.toList == b.toList) by rw [less_le]; simp]; simp [binOp, Op.stringOp]
theorem binOp_geq_n (t : TypeId) (a b : ByteArray) : binOp .geq t (.string a) (.string b) = pure (.bool !(Op.bytesLess a.toList b.toList)) := by simp [binOp, Op.stringOp]
section
attribute [local go_sem high] binOp_leq_n binOp_gtr_n binOp_geq_n
/-! ### impl_areDead: function 121 -/
end
/-! ### slices_Index_string_string: function 158 -/
/-! ### slices_Contains_string_string: function 125 -/
section
attribute [local go_sem high] binOp_leq_n binOp_gtr_n binOp_geq_n
/-! ### spec_deList: function 151 -/
end
/-! ### spec_l1HasS: function 153 -/
/-! Dead codes: what is asked of them. -/
theorem wr_big {c : Nat} (h : c ≤ 9223372036854775806) : wrap64 ((c : Int) + 1) = ((c + 1 : Nat) : Int) := w64 (by omega) (by omega)
/-! ### laws_eqPinsS: function 38 -/
/-! ### laws_szPinsS: function 34 -/
/-! ### laws_toPinsS: function 36 -/
/-! The statements' own helpers on rows and pins: what they come to. -/
theorem rd_row {xs : List (List Int)} {i : Nat} (h : i < xs.length) : rd_L5 xs (i : Nat) = xs[i] := by unfold rd_L5; simp [List.getD, h]
theorem rd_pins {xs : List S41} {i : Nat} (h : i < xs.length) : rd_T41 xs (i : Nat) = xs[i] := by unfold rd_T41; simp [List.getD, h]
theorem rd_int {xs : List Int} {i : Nat} (h : i < xs.length) : rd xs (i : Nat) = xs[i] := by rw [rd_at (by simpa using h)]; simp
/-- The lengths are numbers of Go. -/
def RowsV (x : List (List Int)) : Prop := x.length ≤ 9223372036854775807 ∧ ∀ r ∈ x, r.length ≤ 9223372036854775807
/-- No longer than a million. -/
def RowsM (x : List (List Int)) : Prop := x.length ≤ 1048576 ∧ ∀ r ∈ x, r.length ≤ 1048576
theorem RowsM.v {x : List (List Int)} (h : RowsM x) : RowsV x := ⟨by have := h.1; omega, fun r hr => by have := h.2 r hr; omega⟩
theorem laws_szIntS.is (l : List Int) (a : Int) (h0 : 0 ≤ a) (h1 : a ≤ 1048576) (hl : l.length ≤ 9223372036854775807) : laws_szIntS.f l a = some (if (l.length : Int) ≤ a then a - l.length else -1) := by
  unfold laws_szIntS.f
  rw [w64 (x := a - (l.length : Int)) (by omega) (by omega)]
  by_cases h : (l.length : Int) ≤ a
  · rw [if_neg (by omega), if_pos h]
  · rw [if_pos (by omega), if_neg h]
theorem laws_szIntSS.lev (l : List (List Int)) (hl : RowsV l) : ∀ (m i : Nat) (a : Int), i + m = l.length → 0 ≤ a → a ≤ 1048576 → ∃ r, r ≤ a ∧ Ev (fun k => laws_szIntSS.l0 k l a (i : Nat)) r ∧ (0 ≤ r → ∀ x ∈ l.drop i, (x.length : Int) ≤ 1048576) := by
  have hl1 := hl.1
  intro m
  induction m with
  | zero =>
    intro i a hi h0 h1
    refine ⟨a, Int.le_refl _, Ev.step (fun k => rfl) (Ev.no (by omega) (Ev.now _)), fun _ x hx => ?_⟩
    rw [List.drop_eq_nil_of_le (by omega)] at hx
    simp at hx
  | succ m ih =>
    intro i a hi h0 h1
    have hlt : i < l.length := by omega
    have hx := hl.2 l[i] (List.getElem_mem hlt)
    by_cases h : (l[i].length : Int) ≤ a
    · obtain ⟨r, hr, he, hf⟩ := ih (i + 1) (a - l[i].length) (by omega) (by omega) (by omega)
      refine ⟨r, by omega, Ev.step (fun k => rfl) (Ev.yes (by omega) (Ev.yes (by omega) ?_)), fun hr0 x hx => ?_⟩
      · rw [rd_row hlt]
        refine Ev.bindc (laws_szIntS.is _ _ h0 h1 hx) ?_
        rw [if_pos h, w64 (x := (i : Int) + 1) (by omega) (by omega)]
        exact Ev.no (by omega) he
      · rw [List.drop_eq_getElem_cons hlt] at hx
        rcases List.mem_cons.mp hx with rfl | hx
        · omega
        · exact hf hr0 x hx
    · refine ⟨-1, by omega, Ev.step (fun k => rfl) (Ev.yes (by omega) (Ev.yes (by omega) ?_)), fun hr0 => by omega⟩
      rw [rd_row hlt]
      refine Ev.bindc (laws_szIntS.is _ _ h0 h1 hx) ?_
      rw [if_neg h]
      exact Ev.yes (by omega) (Ev.now _)
theorem laws_szIntSS.ev (l : List (List Int)) (hl : RowsV l) (a : Int) (h0 : 0 ≤ a) (h1 : a ≤ 1048576) : ∃ r, r ≤ a ∧ Ev (fun k => laws_szIntSS.f k l a) r ∧ (0 ≤ r → RowsM l) := by
  have hl1 := hl.1
  unfold laws_szIntSS.f
  rw [w64 (x := a - (l.length : Int)) (by omega) (by omega)]
  by_cases h : (l.length : Int) ≤ a
  · obtain ⟨r, hr, he, hf⟩ := laws_szIntSS.lev l hl l.length 0 (a - l.length) (by omega) (by omega) (by omega)
    refine ⟨r, by omega, Ev.no (by omega) he, fun hr0 => ⟨by omega, fun x hx => ?_⟩⟩
    have := hf hr0 x (by simpa using hx)
    omega
  · exact ⟨-1, by omega, Ev.yes (by omega) (Ev.now _), fun hr0 => by omega⟩
theorem laws_szPins.ev (n : Int) (l : List (List Int)) (hl : RowsV l) (a : Int) (h0 : 0 ≤ a) (h1 : a ≤ 1048576) : ∃ r, r ≤ a ∧ Ev (fun k => laws_szPins.f k n l a) r ∧ (0 ≤ r → RowsM l) := by
  obtain ⟨r, hr, he, hf⟩ := laws_szIntSS.ev l hl a h0 h1
  by_cases h : 0 ≤ r
  · exact ⟨r, hr, Ev.bind he (Ev.no (by omega) (Ev.now _)), hf⟩
  · exact ⟨-1, by omega, Ev.bind he (Ev.yes (by omega) (Ev.now _)), fun hr0 => by omega⟩
theorem laws_toIntS.lev (l : List Int) (hl : l.length ≤ 1048576) : ∀ (m i : Nat), i + m = l.length → Ev (fun k => laws_toIntS.l0 k l ((l.take i).map id ++ List.replicate (l.length - i) 0) (i : Nat)) l := by
  intro m
  induction m with
  | zero => intro i hi; exact Ev.step (fun k => rfl) (Ev.no (by omega) (Ev.id (by rw [show i = l.length by omega]; simp)))
  | succ m ih =>
    intro i hi
    have hlt : i < l.length := by omega
    refine Ev.step (fun k => rfl) (Ev.yes (by omega) (Ev.yes (by omega) (Ev.yes (by simp; omega) ?_)))
    rw [rd_int hlt, Int.toNat_natCast]
    have this : ((l.take i).map id ++ List.replicate (l.length - i) 0).set i l[i] = (l.take (i + 1)).map id ++ List.replicate (l.length - (i + 1)) 0 := fill_step id l 0 i hlt
    rw [this, w64 (x := (i : Int) + 1) (by omega) (by omega)]
    exact ih (i + 1) (by omega)
theorem laws_toIntS.ev (l : List Int) (hl : l.length ≤ 1048576) : Ev (fun k => laws_toIntS.f k l) l := by
  unfold laws_toIntS.f
  refine Ev.yes (by omega) (Ev.yes (by simp; omega) ?_)
  have := laws_toIntS.lev l hl l.length 0 (by omega)
  simpa using this
theorem laws_toIntSS.lev (l : List (List Int)) (hl : RowsM l) : ∀ (m i : Nat), i + m = l.length → Ev (fun k => laws_toIntSS.l0 k l ((l.take i).map id ++ List.replicate (l.length - i) []) (i : Nat)) l := by
  have hl1 := hl.1
  intro m
  induction m with
  | zero => intro i hi; exact Ev.step (fun k => rfl) (Ev.no (by omega) (Ev.id (by rw [show i = l.length by omega]; simp)))
  | succ m ih =>
    intro i hi
    have hlt : i < l.length := by omega
    refine Ev.step (fun k => rfl) (Ev.yes (by omega) (Ev.yes (by omega) ?_))
    rw [rd_row hlt]
    refine Ev.bind (laws_toIntS.ev _ (hl.2 _ (List.getElem_mem hlt))) (Ev.yes (by simp; omega) ?_)
    rw [Int.toNat_natCast]
    have this : ((l.take i).map id ++ List.replicate (l.length - i) []).set i l[i] = (l.take (i + 1)).map id ++ List.replicate (l.length - (i + 1)) [] := fill_step id l [] i hlt
    rw [this, w64 (x := (i : Int) + 1) (by omega) (by omega)]
    exact ih (i + 1) (by omega)
theorem laws_toIntSS.ev (l : List (List Int)) (hl : RowsM l) : Ev (fun k => laws_toIntSS.f k l) l := by
  have hl1 := hl.1
  unfold laws_toIntSS.f
  refine Ev.yes (by omega) (Ev.yes (by simp; omega) ?_)
  have := laws_toIntSS.lev l hl l.length 0 (by omega)
  simpa using this
theorem laws_toPins.ev (n : Int) (l : List (List Int)) (hl : RowsM l) : Ev (fun k => laws_toPins.f k n l) (n, l) := by
  unfold laws_toPins.f
  exact Ev.bind (laws_toIntSS.ev l hl) (Ev.now _)
theorem laws_eqIntS.levB (l : List Int) (hn : l.length ≤ 9223372036854775807) : ∀ (m i : Nat), i + m = l.length → Ev (fun k => laws_eqIntS.l0 k l l (i : Nat)) true := by
  intro m
  induction m with
  | zero => intro i hi; exact Ev.step (fun k => rfl) (Ev.no (by omega) (Ev.now _))
  | succ m ih =>
    intro i hi
    refine Ev.step (fun k => rfl) (Ev.yes (by omega) (Ev.yes (by omega) (Ev.yes (by omega) (Ev.yes rfl ?_))))
    rw [w64 (x := (i : Int) + 1) (by omega) (by omega)]
    exact ih (i + 1) (by omega)
theorem laws_eqIntS.evB (l : List Int) (hn : l.length ≤ 9223372036854775807) : Ev (fun k => laws_eqIntS.f k l l) true := by
  unfold laws_eqIntS.f
  exact Ev.yes rfl (laws_eqIntS.levB l hn l.length 0 (by omega))
theorem laws_eqIntSS.lev (l : List (List Int)) (hl : RowsV l) : ∀ (m i : Nat), i + m = l.length → Ev (fun k => laws_eqIntSS.l0 k l l (i : Nat)) true := by
  have hl1 := hl.1
  intro m
  induction m with
  | zero => intro i hi; exact Ev.step (fun k => rfl) (Ev.no (by omega) (Ev.now _))
  | succ m ih =>
    intro i hi
    have hlt : i < l.length := by omega
    refine Ev.step (fun k => rfl) (Ev.yes (by omega) (Ev.yes (by omega) (Ev.yes (by omega) ?_)))
    rw [rd_row hlt]
    refine Ev.bind (laws_eqIntS.evB _ (hl.2 _ (List.getElem_mem hlt))) (Ev.yes rfl ?_)
    rw [w64 (x := (i : Int) + 1) (by omega) (by omega)]
    exact ih (i + 1) (by omega)
theorem laws_eqIntSS.ev (l : List (List Int)) (hl : RowsV l) : Ev (fun k => laws_eqIntSS.f k l l) true := by
  unfold laws_eqIntSS.f
  exact Ev.yes rfl (laws_eqIntSS.lev l hl l.length 0 (by omega))
theorem laws_eqPins.ev (n : Int) (l : List (List Int)) (hl : RowsV l) : Ev (fun k => laws_eqPins.f k n l n l) true := by
  unfold laws_eqPins.f
  exact Ev.yes rfl (Ev.bind (laws_eqIntSS.ev l hl) (Ev.yes rfl (Ev.now _)))
/-! Marks on numbers, that they are held, lists of numbers compared. -/
theorem laws_markIntS.lev : ∀ (j : Nat) (l : List Int) (a : Int) (i : Nat), i + j = l.length → l.length ≤ 1048576 → 0 ≤ a → a + j ≤ 2000000 →
    ∃ l' : List Int, l'.length = l.length ∧ (∀ m : Nat, m < i → l'[m]? = l[m]?) ∧ Ev (fun k => laws_markIntS.l0 k l a (i : Nat)) (a + j, l') ∧ Ev (fun k => laws_heldIntS.l0 k l' a (i : Nat)) (a + j) := by
  intro j
  induction j with
  | zero =>
    intro l a i hi hn ha hb
    exact ⟨l, rfl, fun _ _ => rfl, Ev.step (fun k => rfl) (Ev.no (by omega) (Ev.id (by simp))), Ev.step (fun k => rfl) (Ev.no (by omega) (Ev.id (by simp)))⟩
  | succ j ih =>
    intro l a i hi hn ha hb
    have hlt : i < l.length := by omega
    have e1 : wrap64 (a + 1) = a + 1 := w64 (by omega) (by omega)
    have e4 : wrap64 ((i : Int) + 1) = ((i + 1 : Nat) : Int) := w64 (by omega) (by omega)
    obtain ⟨l', hl, hk, hm, hh⟩ := ih (l.set i a) (a + 1) (i + 1) (by simp; omega) (by simpa using hn) (by omega) (by omega)
    rw [List.length_set] at hl
    have hat : l'[i]? = some a := by
      rw [hk i (by omega)]
      simp [hlt]
    have hat' : rd l' (i : Nat) = a := by
      unfold rd
      simp [List.getD, hat]
    refine ⟨l', hl, fun m hmi => ?_, ?_, ?_⟩
    · rw [hk m (by omega), List.getElem?_set_ne (by omega)]
    · refine Ev.step (fun k => rfl) (Ev.yes (by omega) (Ev.yes (by omega) ?_))
      rw [e1, e4, Int.toNat_natCast]
      exact Ev.eq hm (by rw [Prod.mk.injEq]; exact ⟨by omega, rfl⟩)
    · refine Ev.step (fun k => rfl) (Ev.yes (by omega) (Ev.yes (by omega) ?_))
      rw [e1, e4]
      exact Ev.yes hat' (Ev.eq hh (by omega))
/-! Texts of digits: their sizes. -/
/-! Lists of pins: which are of one kind, what is joined. -/
/-! ### impl_Pins_keys: function 92 -/
/-! ### impl_shared: function 91 -/
/-! ### spec_keCount: function 84 -/
/-! Joined pins and counted keys: what they come to. -/
theorem spec_l1Has.lev (a : Int) (l : List Int) (hl : l.length ≤ 9223372036854775807) : ∀ (m i : Nat), i + m = l.length → Ev (fun k => spec_l1Has.l0 k a l (l.length : Int) (i : Nat)) ((l.drop i).contains a) := by
  intro m
  induction m with
  | zero =>
    intro i hi
    refine Ev.step (fun k => rfl) (Ev.no (by omega) (Ev.id ?_))
    rw [List.drop_eq_nil_of_le (by omega)]; rfl
  | succ m ih =>
    intro i hi
    have hlt : i < l.length := by omega
    refine Ev.step (fun k => rfl) (Ev.yes (by omega) (Ev.yes (by omega) (Ev.yes (by omega) ?_)))
    rw [rd_int hlt, List.drop_eq_getElem_cons hlt, List.contains_cons]
    by_cases h : l[i] = a
    · exact Ev.yes h (Ev.id (by simp [h]))
    · refine Ev.no h ?_
      rw [w64 (x := (i : Int) + 1) (by omega) (by omega), show (a == l[i]) = false from beq_eq_false_iff_ne.mpr (fun e => h e.symm), Bool.false_or]
      exact ih (i + 1) (by omega)
theorem spec_l1Has.ev (l : List Int) (a : Int) (hl : l.length ≤ 9223372036854775807) : Ev (fun k => spec_l1Has.f k l a) (l.contains a) := by
  unfold spec_l1Has.f
  have := spec_l1Has.lev a l hl l.length 0 (by omega)
  simpa using this
theorem slices_Index_int_int.lev (a : Int) (l : List Int) (hl : l.length ≤ 9223372036854775807) : ∀ (m i : Nat), i + m = l.length → ∃ r : Int, Ev (fun k => slices_Index_int_int.l0 k l a (l.length : Int) (i : Nat)) r ∧ decide (r ≥ 0) = (l.drop i).contains a := by
  intro m
  induction m with
  | zero =>
    intro i hi
    refine ⟨-1, Ev.step (fun k => rfl) (Ev.no (by omega) (Ev.now _)), ?_⟩
    rw [List.drop_eq_nil_of_le (by omega)]; rfl
  | succ m ih =>
    intro i hi
    have hlt : i < l.length := by omega
    rw [List.drop_eq_getElem_cons hlt, List.contains_cons]
    by_cases h : a = l[i]
    · refine ⟨(i : Nat), Ev.step (fun k => rfl) (Ev.yes (by omega) (Ev.yes (by omega) (Ev.yes (by omega) ?_))), ?_⟩
      · rw [rd_int hlt]; exact Ev.yes h (Ev.now _)
      · rw [show (a == l[i]) = true from beq_iff_eq.mpr h]; simp
    · obtain ⟨r, he, hr⟩ := ih (i + 1) (by omega)
      refine ⟨r, Ev.step (fun k => rfl) (Ev.yes (by omega) (Ev.yes (by omega) (Ev.yes (by omega) ?_))), ?_⟩
      · rw [rd_int hlt, w64 (x := (i : Int) + 1) (by omega) (by omega)]; exact Ev.no h he
      · rw [show (a == l[i]) = false from beq_eq_false_iff_ne.mpr h, Bool.false_or]; exact hr
theorem slices_Contains_int_int.ev (l : List Int) (a : Int) (hl : l.length ≤ 9223372036854775807) : Ev (fun k => slices_Contains_int_int.f k l a) (l.contains a) := by
  unfold slices_Contains_int_int.f slices_Index_int_int.f
  obtain ⟨r, he, hr⟩ := slices_Index_int_int.lev a l hl l.length 0 (by omega)
  refine Ev.bind he (Ev.id ?_)
  rw [hr]; simp
/-! spec.keJoin -/
/-- Pins of one kind: n depths, m places. -/
def KindL (n m : Nat) (l : List S41) : Prop := n ≤ 9 ∧ m ≤ 7 ∧ ∀ p ∈ l, p.f0 = (n : Int) ∧ p.f1.length = m ∧ RowsV p.f1
/-! impl.joined -/
def cntP (l : List S41) (i : Nat) (d : Int) : Nat := l.countP fun p => (p.f1.getD i []).contains d
theorem wr_succ {c : Nat} (h : c ≤ 1000) : wrap64 ((c : Int) + 1) = ((c + 1 : Nat) : Int) := w64 (by omega) (by omega)
theorem impl_joined.lev2 (l : List S41) (a : Int) (n m : Nat) (h : KindL n m l) (hl1 : l.length ≤ 1000) (i : Nat) (him : i < m) (row : List Int) (d : Nat) (mI : Int) (R : List (List Int)) (hrow : row.length ≤ 1000) (o : Int × List (List Int)) (t : Nat)
    (hgo : Ev (fun k => impl_joined.l1 k l a (i : Int) (if a ≤ (t : Int) then row ++ [(d : Int)] else row) mI (i : Int) (n : Int) (wrap64 ((d : Int) + 1)) (n : Int) R) o) :
    ∀ (q j : Nat) (c : Nat), j + q = l.length → c ≤ j → c + ((l.drop j).countP fun p => (p.f1.getD i []).contains (d : Int)) = t → Ev (fun k => impl_joined.l2 k l a (i : Int) row (d : Int) (c : Int) mI (i : Int) (n : Int) (d : Int) l (l.length : Int) (j : Int) (n : Int) R) o := by
  intro q
  induction q with
  | zero =>
    intro j c hj hc hcnt
    rw [List.drop_eq_nil_of_le (by omega)] at hcnt
    simp at hcnt
    refine Ev.step (fun k => rfl) (Ev.no (by omega) ?_)
    rw [← hcnt] at hgo
    by_cases e : a ≤ (c : Int)
    · rw [if_pos e] at hgo
      exact Ev.yes (by omega) (Ev.yes (by omega) hgo)
    · rw [if_neg e] at hgo
      exact Ev.no (by omega) hgo
  | succ q ih =>
    intro j c hj hc hcnt
    have hlt : j < l.length := by omega
    have hw := amk (wr_succ (c := j) (by omega))
    have hw2 := amk (wr_succ (c := c) (by omega))
    have u1 : j + 1 + q = l.length := by omega
    have u2 : c + 1 ≤ j + 1 := by omega
    have u3 : c ≤ j + 1 := by omega
    obtain ⟨hn, hm, hp⟩ := h
    obtain ⟨p0, p1, p2⟩ := hp l[j] (List.getElem_mem hlt)
    refine Ev.step (fun k => rfl) (Ev.yes (by omega) (Ev.yes (by omega) (Ev.yes (by omega) (Ev.yes (by omega) ?_))))
    rw [rd_pins hlt]
    refine Ev.yes (by omega) ?_
    rw [rd_row (by omega)]
    refine Ev.bind (slices_Contains_int_int.ev _ _ (p2.2 _ (List.getElem_mem _))) ?_
    rw [List.drop_eq_getElem_cons hlt, List.countP_cons, show l[j].f1.getD i [] = l[j].f1[i] from getD_at (by omega)] at hcnt
    rw [hw.out]
    have ih1 := ih (j + 1)
    clear ih
    generalize (l.drop (j + 1)).countP (fun p => (p.f1.getD i []).contains (d : Int)) = v at hcnt ih1
    cases e : l[j].f1[i].contains (d : Int) with
    | true =>
      rw [e] at hcnt
      refine Ev.yes rfl ?_
      rw [if_pos rfl] at hcnt
      rw [hw2.out]
      exact ih1 (c + 1) u1 u2 (by rw [← hcnt, Nat.add_assoc, Nat.add_comm 1 v])
    | false =>
      rw [e] at hcnt
      refine Ev.no (by simp) ?_
      rw [if_neg (by simp)] at hcnt
      exact ih1 c u1 u3 hcnt
theorem impl_joined.lev1 (l : List S41) (a : Int) (n m : Nat) (h : KindL n m l) (hl1 : l.length ≤ 1000) (i : Nat) (him : i < m) (mI : Int) (R : List (List Int)) (hR : R.length ≤ 1000) (o : Int × List (List Int))
    (hgo : Ev (fun k => impl_joined.l0 k l a mI (wrap64 ((i : Int) + 1)) (n : Int) (R ++ [(rngFrom 0 n).filter fun d => decide (a ≤ (cntP l i d : Int))])) o) :
    ∀ (q d : Nat), d + q = n → Ev (fun k => impl_joined.l1 k l a (i : Int) ((rngFrom 0 d).filter fun d => decide (a ≤ (cntP l i d : Int))) mI (i : Int) (n : Int) (d : Int) (n : Int) R) o := by
  have hn := h.1
  intro q
  induction q with
  | zero =>
    intro d hd
    obtain rfl : d = n := by omega
    exact Ev.step (fun k => rfl) (Ev.no (by omega) (Ev.yes (by omega) hgo))
  | succ q ih =>
    intro d hd
    have hl := filter_len_le (fun d => decide (a ≤ (cntP l i d : Int))) (rngFrom 0 d)
    rw [rngFrom_len] at hl
    refine Ev.step (fun k => rfl) (Ev.yes (by omega) ?_)
    refine impl_joined.lev2 l a n m h hl1 i him _ d mI R (by omega) o (cntP l i (d : Int)) ?_ l.length 0 0 (by omega) (by omega) (by rw [List.drop_zero, Nat.zero_add]; rfl)
    rw [w64 (x := (d : Int) + 1) (by omega) (by omega)]
    have hgo' := ih (d + 1) (by omega)
    have hs : rngFrom 0 (d + 1) = rngFrom 0 d ++ [(d : Int)] := by unfold rngFrom; rw [List.range'_concat]; simp
    rw [hs, List.filter_append] at hgo'
    by_cases e : a ≤ (cntP l i (d : Int) : Int)
    · rw [if_pos e]
      rw [show List.filter (fun d => decide (a ≤ (cntP l i d : Int))) [(d : Int)] = [(d : Int)] by simp [e]] at hgo'
      exact hgo'
    · rw [if_neg e]
      rw [show List.filter (fun d => decide (a ≤ (cntP l i d : Int))) [(d : Int)] = [] by simp [e], List.append_nil] at hgo'
      exact hgo'
theorem impl_joined.lev0 (l : List S41) (a : Int) (n m : Nat) (h : KindL n m l) (hl1 : l.length ≤ 1000) :
    ∀ (q i : Nat), i + q = m → Ev (fun k => impl_joined.l0 k l a (m : Int) (i : Int) (n : Int) (rowsOf n i fun i d => decide (a ≤ (cntP l i d : Int)))) ((n : Int), rowsOf n m fun i d => decide (a ≤ (cntP l i d : Int))) := by
  have hm := h.2.1
  intro q
  induction q with
  | zero =>
    intro i hi
    obtain rfl : i = m := by omega
    exact Ev.step (fun k => rfl) (Ev.no (by omega) (Ev.now _))
  | succ q ih =>
    intro i hi
    refine Ev.step (fun k => rfl) (Ev.yes (by omega) ?_)
    have hgo := ih (i + 1) (by omega)
    have hs : rowsOf n (i + 1) (fun i d => decide (a ≤ (cntP l i d : Int))) = rowsOf n i (fun i d => decide (a ≤ (cntP l i d : Int))) ++ [(rngFrom 0 n).filter fun d => decide (a ≤ (cntP l i d : Int))] := by
      unfold rowsOf
      rw [List.range'_concat, List.map_append, List.map_cons, List.map_nil, Nat.zero_add, Nat.one_mul]
    rw [hs, show ((i + 1 : Nat) : Int) = wrap64 ((i : Int) + 1) from (w64 (by omega) (by omega)).symm] at hgo
    have h1 := impl_joined.lev1 l a n m h hl1 i (by omega) (m : Int) _ (by rw [rowsOf_len]; omega) _ hgo n 0 (by omega)
    rw [rngFrom_zero, List.filter_nil] at h1
    exact h1
theorem impl_joined.ev (l : List S41) (a : Int) (n m : Nat) (hne : 0 < l.length) (h : KindL n m l) (hl1 : l.length ≤ 1000) : Ev (fun k => impl_joined.f k l a) ((n : Int), rowsOf n m fun i d => decide (a ≤ (cntP l i d : Int))) := by
  unfold impl_joined.f
  refine Ev.yes (by omega) ?_
  have hq : rd_T41 l 0 = l[0] := rd_pins hne
  obtain ⟨h0, h1, _⟩ := h.2.2 l[0] (List.getElem_mem hne)
  rw [hq, h0, h1]
  exact impl_joined.lev0 l a n m h hl1 m 0 (by omega)
theorem impl_master.ev (l : List S41) (n m : Nat) (hne : 0 < l.length) (h : KindL n m l) (hl1 : l.length ≤ 1000) : Ev (fun k => impl_joined.f k l 1) ((n : Int), rowsOf n m (inB false l)) := by
  refine Ev.eq (impl_joined.ev l 1 n m hne h hl1) ?_
  rw [Prod.mk.injEq]
  refine ⟨rfl, ?_⟩
  apply rowsOf_congr
  intro i _ d _
  rw [← inB_count_any l i d]
  unfold cntP
  congr 1
  rw [eq_iff_iff]
  omega
/-! ### spec_l1Num: function 135 -/
/-! spec's numbers of one digit. -/
/-! ### spec_keKind: function 80 -/
/-! ### spec_keList: function 88 -/
/-! spec's pins: what they come to. -/
theorem spec_l1Rising.lev (n : Int) (hn : 1 ≤ n ∧ n ≤ 9) (l : List Int) (hl : l.length ≤ 9223372036854775807) : ∀ (m i : Nat), i + m = l.length → (-1 ≤ lastI l i) → Ev (fun k => spec_l1Rising.l0 k l 0 (n - 1) l (l.length : Int) (i : Nat)) (risF n (lastI l i) (l.drop i)) := by
  intro m
  induction m with
  | zero =>
    intro i hi _
    refine Ev.step (fun k => rfl) (Ev.no (by omega) (Ev.id ?_))
    rw [List.drop_eq_nil_of_le (by omega)]
    rfl
  | succ m ih =>
    intro i hi hq
    have hlt : i < l.length := by omega
    have hr : rd l (i : Nat) = l[i] := rd_int hlt
    refine Ev.step (fun k => rfl) (Ev.yes (by omega) (Ev.yes (by omega) (Ev.yes (by omega) (Ev.bindc (spec_l1In.bs _ _ _) ?_))))
    rw [hr, List.drop_eq_getElem_cons hlt]
    unfold risF
    have hw : wrap64 ((i : Int) + 1) = ((i + 1 : Nat) : Int) := w64 (by omega) (by omega)
    have hla : lastI l (i + 1) = l[i] := lastI_at hlt
    by_cases h1 : 0 ≤ l[i] ∧ l[i] ≤ n - 1
    · refine Ev.yes (decide_eq_true h1) ?_
      have hgo := ih (i + 1) (by omega) (by rw [hla]; omega)
      rw [hla] at hgo
      cases i with
      | zero =>
        refine Ev.no (by omega) ?_
        rw [hw]
        refine Ev.eq hgo ?_
        have h2 : decide (lastI l 0 < l[0]) = true := decide_eq_true (show (-1 : Int) < l[0] by omega)
        have h3 : decide (l[0] ≤ n - 1) = true := decide_eq_true h1.2
        rw [h2, h3]; rfl
      | succ i =>
        have hp : wrap64 (((i + 1 : Nat) : Int) - 1) = (i : Nat) := by rw [w64 (by omega) (by omega)]; omega
        have hr1 : rd l (i : Nat) = l[i] := rd_int (by omega)
        have hlb : lastI l (i + 1) = l[i] := lastI_at (by omega)
        refine Ev.yes (by omega) ?_
        rw [hp, hr1, hlb]
        refine Ev.yes (by omega) (Ev.yes (by omega) ?_)
        by_cases h2 : l[i] ≥ l[i + 1]
        · refine Ev.yes h2 (Ev.id ?_)
          rw [decide_eq_false (by omega : ¬ l[i] < l[i + 1])]; rfl
        · refine Ev.no h2 ?_
          rw [hw]
          refine Ev.eq hgo ?_
          rw [decide_eq_true (by omega : l[i] < l[i + 1]), decide_eq_true h1.2]; rfl
    · refine Ev.no (by rw [decide_eq_false h1]; simp) (Ev.id ?_)
      by_cases h2 : lastI l i < l[i]
      · have h3 : ¬ l[i] ≤ n - 1 := fun h => h1 ⟨by omega, h⟩
        rw [decide_eq_false h3]; simp
      · rw [decide_eq_false h2]; rfl
theorem spec_l1Rising.ev (n : Int) (hn : 1 ≤ n ∧ n ≤ 9) (l : List Int) (hl : l.length ≤ 9223372036854775807) : Ev (fun k => spec_l1Rising.f k l 0 (n - 1)) (risF n (-1) l) := by
  unfold spec_l1Rising.f
  exact spec_l1Rising.lev n hn l hl l.length 0 (by omega) (show (-1 : Int) ≤ -1 by omega)
theorem spec_keGood.lev (n : Int) (hn : 1 ≤ n ∧ n ≤ 9) (l : List (List Int)) (hl : RowsV l) : ∀ (m i : Nat), i + m = l.length → Ev (fun k => spec_keGood.l0 k l (l.length : Int) (i : Nat) n l) ((l.drop i).all (rowB n)) := by
  have hl1 := hl.1
  intro m
  induction m with
  | zero =>
    intro i hi
    refine Ev.step (fun k => rfl) (Ev.no (by omega) (Ev.id ?_))
    rw [List.drop_eq_nil_of_le (by omega)]; rfl
  | succ m ih =>
    intro i hi
    have hlt : i < l.length := by omega
    refine Ev.step (fun k => rfl) (Ev.yes (by omega) (Ev.yes (by omega) (Ev.yes (by omega) ?_)))
    rw [rd_row hlt, List.drop_eq_getElem_cons hlt, List.all_cons]
    have hx := hl.2 l[i] (List.getElem_mem hlt)
    have hgo := ih (i + 1) (by omega)
    generalize l[i] = x at hx ⊢
    unfold rowB
    by_cases h0 : (x.length : Int) = 0
    · refine Ev.yes h0 (Ev.id ?_)
      obtain rfl : x = [] := List.length_eq_zero_iff.mp (by omega)
      rfl
    · refine Ev.no h0 ?_
      have h1 : (!x.isEmpty) = true := by cases x <;> simp_all
      rw [w64 (x := n - 1) (by omega) (by omega), h1, Bool.true_and]
      refine Ev.bind (spec_l1Rising.ev n hn x hx) ?_
      cases risF n (-1) x with
      | false => exact Ev.no (by simp) (Ev.id rfl)
      | true =>
        refine Ev.yes rfl ?_
        rw [w64 (x := (i : Int) + 1) (by omega) (by omega), Bool.true_and]
        exact hgo
theorem spec_keGood.ev (n : Int) (l : List (List Int)) (hl : RowsV l) : Ev (fun k => spec_keGood.f k n l) (pinsB n l) := by
  unfold spec_keGood.f pinsB
  refine Ev.bindc (spec_l1In.bs _ _ _) ?_
  by_cases h1 : 1 ≤ n ∧ n ≤ 9
  · rw [decide_eq_true h1]
    refine Ev.yes rfl (Ev.bindc (spec_l1In.bs _ _ _) (Ev.step (fun k => rfl) ?_))
    simp only [spec_keGood.j0]
    by_cases h2 : 1 ≤ (l.length : Int) ∧ (l.length : Int) ≤ 7
    · rw [decide_eq_true h2]
      refine Ev.no (by simp) ?_
      have := spec_keGood.lev n h1 l hl l.length 0 (by omega)
      simpa using this
    · rw [decide_eq_false h2]
      exact Ev.yes (by simp) (Ev.id (by simp))
  · rw [decide_eq_false h1]
    refine Ev.no (by simp) (Ev.step (fun k => rfl) ?_)
    simp only [spec_keGood.j0]
    exact Ev.yes trivial (Ev.id (by simp))
/-! ### impl_text: function 136 -/
/-! Digits of texts, texts of digits: what they come to. -/
/-! ### impl_Pins_all: function 86 -/
/-! ### impl_AllKeys: function 30 -/
/-! ### spec_keAll: function 85 -/
/-! ### spec_AllKeys: function 29 -/
/-! All keys that open: what impl (place after place) and spec (key after key) come to. -/
/-! spec -/
/-! impl -/
/-! ### laws_eqStringS: function 31 -/
/-! ### laws_markText: function 87 -/
/-! ### laws_heldStringS: function 33 -/
/-! ### laws_markStringS: function 32 -/
/-! Marks on texts, that they are held, lists of texts compared. -/
/-! laws.FnExactAllKeys, by hand: the arguments' rows are marked. -/
section
variable {w W W2 : World} {n : Int} {A : Option Addr} {c : Nat} {L Lx Lx' : List (List Int)} {bx ax : Nat} {Ax : Option Addr} {cx aw bw : Nat} {Aw : Option Addr} {cw : Nat} {V : List ByteArray} {ag bg : Nat} {Ag : Option Addr} {cg : Nat} {Vg Vg' : List ByteArray}
end
theorem opens_t3 : Opens Try.prog 3 (Kd.int .i64) IntV := opens_int Try.underlying3
theorem opens_t86 : Opens Try.prog 86 (Kd.slice 3 (Kd.int .i64)) (ListV IntV) := opens_slice Try.underlying86 opens_t3 (by kernel_rfl)
theorem opens_t35 : Opens Try.prog 35 (Kd.slice 86 (Kd.slice 3 (Kd.int .i64))) (ListV (ListV IntV)) := opens_slice Try.underlying35 opens_t86 (by kernel_rfl)
def V37 (x : S37) : Prop := IntV x.f0 ∧ (ListV (ListV IntV)) x.f1
theorem opens_t37 : Opens Try.prog 37 k37 V37 := opens_iso (opens_pair Try.underlying37 opens_t3 opens_t35 (by kernel_rfl) (by kernel_rfl) (by kernel_rfl) (by kernel_rfl) (by kernel_rfl)) (fun x : S37 => (x.f0, x.f1)) (fun p => ⟨p.1, p.2⟩) (fun _ => rfl)
/-! The law FnExactAllKeys: its calls, all told. -/
def totL (l : List (List Int)) : Nat := l.foldr (fun r n => r.length + n) 0
theorem markRows_ev : ∀ (l : List (List Int)) (a : Int), 0 ≤ a → a + (totL l : Int) ≤ 2000000 → totL l ≤ 1048576 → ∃ l', Ev (fun k => markRows k l a) (a + (totL l : Int), l') := by
  intro l
  induction l with
  | nil => intro a h0 _ _; exact ⟨[], Ev.id (by rw [Prod.mk.injEq]; exact ⟨by show a = a + 0; omega, rfl⟩)⟩
  | cons x t ih =>
    intro a h0 h1 h2
    have ht : totL (x :: t) = x.length + totL t := rfl
    rw [ht] at h1 h2 ⊢
    obtain ⟨x', _, _, hm, _⟩ := laws_markIntS.lev x.length x a 0 (by omega) (by omega) h0 (by omega)
    obtain ⟨t', ht'⟩ := ih (a + x.length) (by omega) (by omega) (by omega)
    refine ⟨x' :: t', Ev.bind hm (Ev.bind ht' (Ev.id ?_))⟩
    rw [Prod.mk.injEq]
    exact ⟨by omega, rfl⟩
theorem C_rowsV {w : World} {A : Option Addr} {l : List (List Int)} (h : Kd.C (Kd.slice 3 (Kd.int .i64)) w A l.length l) : RowsV l := by
  refine ⟨h.2.1, fun r hr => ?_⟩
  obtain ⟨i, hi, rfl⟩ := List.getElem_of_mem hr
  obtain ⟨ad, cs, e, _, hK, _⟩ := Kd.C_get h ([] : List Int) (i : Int) (by omega) (by omega)
  obtain ⟨A0, c0, _, l0, g0⟩ := hK
  rw [Int.toNat_natCast, getD_at hi] at g0
  exact g0.2.1
/-! Marks on rows of numbers: what is marked is held. -/
theorem laws_szPins.evA (n : Int) (l : List (List Int)) (hl : RowsV l) (a : Int) (h0 : 0 ≤ a) (h1 : a ≤ 1048576) : ∃ r, Ev (fun k => laws_szPins.f k n l a) r ∧ (0 ≤ r → (totL l : Int) + r ≤ a ∧ RowsM l) := by
  have hl1 := hl.1
  have hlev : ∀ (m i : Nat) (a : Int), i + m = l.length → 0 ≤ a → a ≤ 1048576 → ∃ r, r ≤ a ∧ Ev (fun k => laws_szIntSS.l0 k l a (i : Nat)) r ∧ (0 ≤ r → (totL (l.drop i) : Int) + r ≤ a) := by
    intro m
    induction m with
    | zero =>
      intro i a hi h0 h1
      refine ⟨a, Int.le_refl _, Ev.step (fun k => rfl) (Ev.no (by omega) (Ev.now _)), fun _ => ?_⟩
      rw [List.drop_eq_nil_of_le (by omega)]
      show ((0 : Nat) : Int) + a ≤ a
      omega
    | succ m ih =>
      intro i a hi h0 h1
      have hlt : i < l.length := by omega
      have hx := hl.2 l[i] (List.getElem_mem hlt)
      by_cases h : (l[i].length : Int) ≤ a
      · obtain ⟨r, hr, he, hf⟩ := ih (i + 1) (a - l[i].length) (by omega) (by omega) (by omega)
        refine ⟨r, by omega, Ev.step (fun k => rfl) (Ev.yes (by omega) (Ev.yes (by omega) ?_)), fun hr0 => ?_⟩
        · rw [rd_row hlt]
          refine Ev.bindc (laws_szIntS.is _ _ h0 h1 hx) ?_
          rw [if_pos h, w64 (x := (i : Int) + 1) (by omega) (by omega)]
          exact Ev.no (by omega) he
        · rw [List.drop_eq_getElem_cons hlt]
          have := hf hr0
          show ((l[i].length + totL (l.drop (i + 1)) : Nat) : Int) + r ≤ a
          omega
      · refine ⟨-1, by omega, Ev.step (fun k => rfl) (Ev.yes (by omega) (Ev.yes (by omega) ?_)), fun hr0 => by omega⟩
        rw [rd_row hlt]
        refine Ev.bindc (laws_szIntS.is _ _ h0 h1 hx) ?_
        rw [if_neg h]
        exact Ev.yes (by omega) (Ev.now _)
  obtain ⟨q, _, hq, hqf⟩ := laws_szPins.ev n l hl a h0 h1
  unfold laws_szPins.f laws_szIntSS.f at hq ⊢
  rw [w64 (x := a - (l.length : Int)) (by omega) (by omega)] at hq ⊢
  by_cases h : (l.length : Int) ≤ a
  · obtain ⟨r, hr, he, hf⟩ := hlev l.length 0 (a - l.length) (by omega) (by omega) (by omega)
    by_cases h2 : 0 ≤ r
    · have hx : Ev (fun k => ((if a - (l.length : Int) < 0 then some (-1) else laws_szIntSS.l0 k l (a - (l.length : Int)) 0).bind fun t => if t < 0 then some (-1) else some t)) r := Ev.bind (Ev.no (by omega) he) (Ev.no (by omega) (Ev.now _))
      have hqr : q = r := Ev.un hq hx
      refine ⟨r, hx, fun hr0 => ⟨?_, hqf (by omega)⟩⟩
      have := hf hr0
      rw [List.drop_zero] at this
      omega
    · exact ⟨-1, Ev.bind (Ev.no (by omega) he) (Ev.yes (by omega) (Ev.now _)), fun hr0 => by omega⟩
  · exact ⟨-1, Ev.bind (Ev.yes (by omega) (Ev.now _)) (Ev.yes (by omega) (Ev.now _)), fun hr0 => by omega⟩
/-- What markRows leaves is held, whatever stands ahead of it. -/
theorem markRows_held : ∀ (l : List (List Int)) (a : Int), 0 ≤ a → a + (totL l : Int) ≤ 2000000 → totL l ≤ 1048576 → l.length ≤ 1048576 → ∃ l' : List (List Int), l'.length = l.length ∧ Ev (fun k => markRows k l a) (a + (totL l : Int), l') ∧ ∀ D : List (List Int), D.length + l.length ≤ 1048576 → Ev (fun k => laws_heldIntSS.l0 k (D ++ l') a (D.length : Int)) (a + (totL l : Int)) := by
  intro l
  induction l with
  | nil =>
    intro a h0 _ _ _
    refine ⟨[], rfl, Ev.id (by rw [Prod.mk.injEq]; exact ⟨by show a = a + 0; omega, rfl⟩), fun D hD => Ev.step (fun k => rfl) (Ev.no (by simp) (Ev.id (by show a = a + 0; omega)))⟩
  | cons x t ih =>
    intro a h0 h1 h2 h3
    have ht : totL (x :: t) = x.length + totL t := rfl
    rw [ht] at h1 h2 ⊢
    rw [List.length_cons] at h3
    obtain ⟨x', hx1, _, hm, hh⟩ := laws_markIntS.lev x.length x a 0 (by omega) (by omega) h0 (by omega)
    obtain ⟨t', ht1, ht2, ht3⟩ := ih (a + x.length) (by omega) (by omega) (by omega) (by omega)
    refine ⟨x' :: t', by rw [List.length_cons, List.length_cons, ht1], Ev.bind hm (Ev.bind ht2 (Ev.id ?_)), fun D hD => ?_⟩
    · rw [Prod.mk.injEq]
      exact ⟨by omega, rfl⟩
    · have hlt : D.length < (D ++ x' :: t').length := by rw [List.length_append, List.length_cons]; omega
      have hget : (D ++ x' :: t')[D.length] = x' := by rw [List.getElem_append_right (Nat.le_refl _)]; simp
      rw [List.length_cons] at hD
      have hw := amk (wr_big (c := D.length) (by omega))
      have hgo := ht3 (D ++ [x']) (by rw [List.length_append, List.length_singleton]; omega)
      rw [List.append_assoc, List.length_append, List.length_singleton] at hgo
      refine Ev.step (fun k => rfl) (Ev.yes (by omega) (Ev.yes (by omega) ?_))
      rw [rd_row hlt, hget, hw.out]
      refine Ev.bind (a := a + x.length) hh (Ev.no (by omega) ?_)
      exact Ev.eq hgo (by omega)
theorem laws_markPins.evH (n : Int) (l : List (List Int)) (h2 : totL l ≤ 1048576) (h3 : l.length ≤ 1048576) : ∃ l', Ev (fun k => laws_markPins.f k n l 1) (1 + (totL l : Int), l') ∧ Ev (fun k => laws_heldPins.f k n l' 1) (1 + (totL l : Int)) := by
  obtain ⟨l', hl, hm, hh⟩ := markRows_held l 1 (by omega) (by omega) h2 h3
  refine ⟨l', hm, ?_⟩
  have := hh [] (by show 0 + l.length ≤ 1048576; omega)
  unfold laws_heldPins.f laws_heldIntSS.f
  exact Ev.bind this (Ev.no (by omega) (Ev.now _))
/-! slices.IndexFunc and slices.ContainsFunc at pins, under any predicate that makes nothing but new memory. -/
/-! impl.ofKind, by hand: it asks its pins through slices.ContainsFunc and a closure over the list. -/
/-! ### impl_MasterOf: function 44 -/
/-! ### spec_MasterPins: function 25 -/
/-! impl.MasterPins, by hand: it builds a list of the two. -/
/-! laws.FnExactMasterPins, by hand: the arguments' rows are marked. -/
section
variable {w W W2 : World} {n0 : Int} {A0 : Option Addr} {l0 c0 : Nat} {n1 : Int} {A1 : Option Addr} {l1 c1 : Nat}
end
section
variable {w W : World} {n0 : Int} {A0 : Option Addr} {c0 : Nat} {L0 : List (List Int)} {n1 : Int} {A1 : Option Addr} {c1 : Nat} {L1 : List (List Int)} {rn : Int} {R : List (List Int)} {c8 aw ew bw : Nat} {Aw : Option Addr} {cw : Nat} {ax bx : Nat} {Ax : Option Addr} {cx : Nat} {X : List (List Int)} {ay yb : Nat} {Ay : Option Addr} {cy : Nat} {Y : List (List Int)} {ag eg bg : Nat} {Ag : Option Addr} {cg : Nat} {G : List (List Int)} {W2 : World} {X' Y' G' : List (List Int)}
end
section
variable {w W W2 : World} {n0 : Int} {A0 : Option Addr} {L0 : List (List Int)} {c0 : Nat} {n1 : Int} {A1 : Option Addr} {L1 : List (List Int)} {c1 : Nat} {rn : Int} {R : List (List Int)} {A6 : Option Addr} {c6 b aw ew c8 : Nat}
end
section
variable {w0 w W W2 : World} {n0 : Int} {A0 : Option Addr} {l0 c0 : Nat} {n1 : Int} {A1 : Option Addr} {l1 c1 : Nat}
end
/-! The law FnExactMasterPins: its calls, all told. -/
theorem totL_le (c : Nat) : ∀ l : List (List Int), (∀ r ∈ l, r.length ≤ c) → totL l ≤ l.length * c := by
  intro l
  induction l with
  | nil => intro _; exact Nat.zero_le _
  | cons r t ih =>
    intro h
    have h1 := ih (fun q hq => h q (List.mem_cons_of_mem _ hq))
    have h2 := h r List.mem_cons_self
    show r.length + totL t ≤ (t.length + 1) * c
    rw [Nat.succ_mul]
    omega
/-! The law FnExactTakePin: its calls, all told. -/
def plB (n : Int) (L : List (List Int)) (p d : Int) : Bool := pinsB n L && (decide (0 ≤ p ∧ p ≤ (L.length : Int) - 1) && decide (0 ≤ d ∧ d ≤ n - 1))
def tkB (n : Int) (L : List (List Int)) (p d : Int) : Bool := plB n L p d && ((L.getD p.toNat []).contains d && !((L.getD p.toNat []).length == 1))
def tkV (n : Int) (L : List (List Int)) (p d : Int) : Int × List (List Int) × Bool := if tkB n L p d = true then (n, L.set p.toNat ((L.getD p.toNat []).filter fun x => x != d), true) else (0, [], false)
theorem plB_parts {n : Int} {L : List (List Int)} {p d : Int} (h : plB n L p d = true) : pinsB n L = true ∧ (0 ≤ p ∧ p ≤ (L.length : Int) - 1) ∧ 0 ≤ d ∧ d ≤ n - 1 := by
  unfold plB at h
  rw [Bool.and_eq_true, Bool.and_eq_true, decide_eq_true_eq, decide_eq_true_eq] at h
  exact ⟨h.1, h.2.1, h.2.2⟩
theorem spec_kePlace.ev (n : Int) (L : List (List Int)) (p d : Int) (hL : RowsV L) : Ev (fun k => spec_kePlace.f k n L p d) (plB n L p d) := by
  unfold spec_kePlace.f plB
  refine Ev.bind (spec_keGood.ev n L hL) ?_
  cases h1 : pinsB n L with
  | false => exact Ev.no (by simp) (Ev.id (by simp))
  | true =>
    obtain ⟨a1, a2, _⟩ := pinsB_parts h1
    rw [w64 (x := (L.length : Int) - 1) (by omega) (by omega), w64 (x := n - 1) (by omega) (by omega)]
    refine Ev.yes rfl (Ev.bindc (spec_l1In.bs _ _ _) ?_)
    by_cases h2 : 0 ≤ p ∧ p ≤ (L.length : Int) - 1
    · rw [decide_eq_true h2]
      exact Ev.yes rfl (Ev.bindc (spec_l1In.bs _ _ _) (Ev.id (by simp)))
    · rw [decide_eq_false h2]
      exact Ev.no (by simp) (Ev.id (by simp))
theorem impl_hasDepth.is (n : Int) (L : List (List Int)) (p d : Int) : impl_hasDepth.f n L p d = some (plB n L p d) := by
  unfold impl_hasDepth.f impl_ArePins.f plB
  cases h1 : pinsB n L with
  | false => simp
  | true =>
    obtain ⟨a1, a2, _⟩ := pinsB_parts h1
    rw [w64 (x := (L.length : Int) - 1) (by omega) (by omega), w64 (x := n - 1) (by omega) (by omega)]
    rw [impl_within.bs, impl_within.bs]
    by_cases h2 : 0 ≤ p ∧ p ≤ (L.length : Int) - 1
    · simp [h2]
    · rw [decide_eq_false h2]; simp
theorem spec_keOwn.lev (n : Int) (L : List (List Int)) (hL : L.length ≤ 7) (hr : ∀ r ∈ L, r.length ≤ 9) : ∀ (m i : Nat) (acc : List (List Int)), i + m = L.length → acc.length ≤ i → Ev (fun k => spec_keOwn.l0 k L (L.length : Int) (i : Nat) n acc) (n, acc ++ L.drop i) := by
  intro m
  induction m with
  | zero =>
    intro i acc hi _
    refine Ev.step (fun k => rfl) (Ev.no (by omega) (Ev.id ?_))
    rw [List.drop_eq_nil_of_le (by omega), List.append_nil]
  | succ m ih =>
    intro i acc hi ha
    have hlt : i < L.length := by omega
    have hx := hr L[i] (List.getElem_mem hlt)
    refine Ev.step (fun k => rfl) (Ev.yes (by omega) (Ev.yes (by omega) (Ev.yes (by omega) ?_)))
    rw [rd_row hlt, w64 (x := (i : Int) + 1) (by omega) (by omega)]
    have ho : spec_l1Own.f L[i] = some L[i] := by
      unfold spec_l1Own.f
      rw [Option.bind_some, if_pos (by simp; omega), List.nil_append]
    refine Ev.bindc ho (Ev.yes (by omega) ?_)
    have := ih (i + 1) (acc ++ [L[i]]) (by omega) (by simp; omega)
    rw [List.drop_eq_getElem_cons hlt]
    rw [List.append_assoc] at this
    exact this
theorem spec_TakePin.lev (d : Int) (p : Nat) (n : Int) (X : List (List Int)) (hp : p < X.length) (row : List Int) (hrow : row.length ≤ 9) : ∀ (m i : Nat) (acc : List Int), i + m = row.length → acc.length ≤ i → Ev (fun k => spec_TakePin.l0 k (p : Int) d acc row (row.length : Int) (i : Nat) n X) (n, X.set p (acc ++ (row.drop i).filter fun x => x != d), true) := by
  intro m
  induction m with
  | zero =>
    intro i acc hi _
    refine Ev.step (fun k => rfl) (Ev.no (by omega) (Ev.yes (by omega) (Ev.yes (by omega) (Ev.id ?_))))
    rw [List.drop_eq_nil_of_le (by omega), List.filter_nil, List.append_nil, Int.toNat_natCast]
  | succ m ih =>
    intro i acc hi ha
    have hlt : i < row.length := by omega
    refine Ev.step (fun k => rfl) (Ev.yes (by omega) (Ev.yes (by omega) (Ev.yes (by omega) ?_)))
    rw [rd_int hlt, w64 (x := (i : Int) + 1) (by omega) (by omega), List.drop_eq_getElem_cons hlt, List.filter_cons]
    by_cases e : row[i] = d
    · rw [if_neg (by simp [e])]
      exact Ev.yes e (ih (i + 1) acc (by omega) (by omega))
    · rw [if_pos (by simpa using e)]
      refine Ev.no e (Ev.yes (by omega) ?_)
      have := ih (i + 1) (acc ++ [row[i]]) (by omega) (by simp; omega)
      rw [List.append_assoc] at this
      exact this
theorem spec_TakePin.none_ev (p d : Int) (n : Int) (L : List (List Int)) : Ev (fun k => spec_TakePin.j0 k p d true n L) (0, [], false) := by
  refine Ev.step (fun k => rfl) ?_
  simp only [spec_TakePin.j0]
  first | exact Ev.yes rfl (Ev.now _) | exact Ev.yes trivial (Ev.now _) | exact Ev.now _
theorem spec_TakePin.ev (n : Int) (L : List (List Int)) (p d : Int) (hL : RowsV L) : Ev (fun k => spec_TakePin.f k n L p d) (tkV n L p d) := by
  unfold spec_TakePin.f tkV tkB
  refine Ev.bind (spec_kePlace.ev n L p d hL) ?_
  cases h1 : plB n L p d with
  | false => exact Ev.no (by simp) (by simpa using spec_TakePin.none_ev p d n L)
  | true =>
    obtain ⟨b1, b2, b3⟩ := plB_parts h1
    obtain ⟨a1, a2, a3⟩ := pinsB_parts b1
    obtain ⟨i, rfl⟩ := Int.eq_ofNat_of_zero_le b2.1
    have hi : i < L.length := by omega
    have hg : L.getD i [] = L[i] := by simp [List.getD, hi]
    have hrb := a3 L[i] (List.getElem_mem hi)
    have h9 := rowB_len (by omega) hrb
    refine Ev.yes rfl (Ev.yes (by omega) (Ev.yes (by omega) ?_))
    rw [rd_row hi, Int.toNat_natCast, hg]
    refine Ev.bind (spec_l1Has.ev L[i] d (by omega)) ?_
    cases h2 : L[i].contains d with
    | false => exact Ev.no (by simp) (by simpa using spec_TakePin.none_ev (i : Int) d n L)
    | true =>
      refine Ev.yes rfl ?_
      by_cases h3 : L[i].length = 1
      · rw [show ((L[i].length : Int) == 1) = true from beq_iff_eq.mpr (by omega), show (L[i].length == 1) = true from beq_iff_eq.mpr h3]
        exact spec_TakePin.none_ev (i : Int) d n L
      · rw [show ((L[i].length : Int) == 1) = false from beq_eq_false_iff_ne.mpr (by omega), show (L[i].length == 1) = false from beq_eq_false_iff_ne.mpr h3]
        refine Ev.step (fun k => rfl) ?_
        simp only [spec_TakePin.j0]
        refine Ev.no (by simp) ?_
        have ho := spec_keOwn.lev n L a2.2 (fun r hr => by have := rowB_len (by omega) (a3 r hr); omega) L.length 0 [] (by omega) (Nat.le_refl _)
        rw [List.drop_zero, List.nil_append] at ho
        refine Ev.bind ho (Ev.yes (by omega) (Ev.yes (by omega) ?_))
        rw [rd_row hi]
        have := spec_TakePin.lev d i n L hi L[i] (by omega) L[i].length 0 [] (by omega) (Nat.le_refl _)
        rw [List.drop_zero, List.nil_append] at this
        exact this
theorem slices_Index_int_int.lev2 (a : Int) (l : List Int) (hl : l.length ≤ 9223372036854775807) : ∀ (m i : Nat), i + m = l.length → Ev (fun k => slices_Index_int_int.l0 k l a (l.length : Int) (i : Nat)) (if (l.drop i).contains a = true then ((i + (l.drop i).idxOf a : Nat) : Int) else -1) := by
  intro m
  induction m with
  | zero =>
    intro i hi
    refine Ev.step (fun k => rfl) (Ev.no (by omega) (Ev.id ?_))
    rw [List.drop_eq_nil_of_le (by omega)]; rfl
  | succ m ih =>
    intro i hi
    have hlt : i < l.length := by omega
    rw [List.drop_eq_getElem_cons hlt, List.contains_cons, List.idxOf_cons]
    by_cases h : a = l[i]
    · refine Ev.step (fun k => rfl) (Ev.yes (by omega) (Ev.yes (by omega) (Ev.yes (by omega) ?_)))
      rw [rd_int hlt]
      refine Ev.yes h (Ev.id ?_)
      rw [show (a == l[i]) = true from beq_iff_eq.mpr h, show (l[i] == a) = true from beq_iff_eq.mpr h.symm]
      simp
    · refine Ev.step (fun k => rfl) (Ev.yes (by omega) (Ev.yes (by omega) (Ev.yes (by omega) ?_)))
      rw [rd_int hlt, w64 (x := (i : Int) + 1) (by omega) (by omega)]
      have := ih (i + 1) (by omega)
      rw [show (a == l[i]) = false from beq_eq_false_iff_ne.mpr h, Bool.false_or, show (l[i] == a) = false from beq_eq_false_iff_ne.mpr (fun e => h e.symm)]
      rw [show ((i + 1 + (l.drop (i + 1)).idxOf a : Nat) : Int) = ((i + (bif false then 0 else (l.drop (i + 1)).idxOf a + 1) : Nat) : Int) by simp; omega] at this
      exact Ev.no h this
theorem slices_Index_int_int.ev (l : List Int) (a : Int) (hl : l.length ≤ 9223372036854775807) : Ev (fun k => slices_Index_int_int.f k l a) (if l.contains a = true then ((l.idxOf a : Nat) : Int) else -1) := by
  unfold slices_Index_int_int.f
  have := slices_Index_int_int.lev2 a l hl l.length 0 (by omega)
  rw [List.drop_zero, Nat.zero_add] at this
  exact this
theorem rows_self {n : Int} {L : List (List Int)} (h : pinsB n L = true) : rowsOf n.toNat L.length (inB false [(⟨n, L⟩ : S41)]) = L := by
  obtain ⟨h1, h2, h3⟩ := pinsB_parts h
  apply List.ext_getElem
  · rw [rowsOf_len]
  · intro i hi1 hi2
    have hg := rowsOf_get n.toNat L.length (inB false [(⟨n, L⟩ : S41)]) i hi2
    rw [show (rowsOf n.toNat L.length (inB false [(⟨n, L⟩ : S41)])).getD i [] = (rowsOf n.toNat L.length (inB false [(⟨n, L⟩ : S41)]))[i] by simp [List.getD, hi1]] at hg
    rw [hg]
    have hb := h3 L[i] (List.getElem_mem hi2)
    unfold rowB at hb
    rw [Bool.and_eq_true] at hb
    have := ris_self n.toNat 0 L[i] (by rw [show ((0 + n.toNat : Nat) : Int) = n by omega]; exact hb.2)
    rw [← this]
    apply List.filter_congr
    intro d _
    simp [inB, List.getD, hi2]
theorem impl_changed.ev (n : Int) (L : List (List Int)) (hL : RowsV L) (h : pinsB n L = true) (i : Nat) (hi : i < L.length) (row : List Int) : Ev (fun k => impl_Pins_changed.f k n L (i : Int) row) (if rowB n row = true then (n, L.set i row, true) else (0, [], false)) := by
  obtain ⟨h1, h2, h3⟩ := pinsB_parts h
  unfold impl_Pins_changed.f impl_ArePins.f
  have hk : KindL n.toNat L.length [(⟨n, L⟩ : S41)] := by
    refine ⟨by omega, h2.2, fun p hp => ?_⟩
    rw [List.mem_singleton.mp hp]
    exact ⟨by show n = _; omega, rfl, hL⟩
  have hj := impl_master.ev _ n.toNat L.length (by show 0 < 1; omega) hk (by show 1 ≤ 1000; omega)
  rw [rows_self h, show ((n.toNat : Nat) : Int) = n by omega] at hj
  refine Ev.bind hj (Ev.yes (by omega) (Ev.yes (by show (i : Int) < (L.length : Int); omega) ?_))
  simp only [Option.bind_some, Int.toNat_natCast]
  rw [pinsB_set h i hi row]
  cases e : rowB n row with
  | true => exact Ev.yes rfl (Ev.id (by simp))
  | false => exact Ev.no (by simp) (Ev.id (by simp))
theorem impl_TakePin.ev (n : Int) (L : List (List Int)) (p d : Int) (hL : RowsV L) : Ev (fun k => impl_TakePin.f k n L p d) (tkV n L p d) := by
  unfold impl_TakePin.f tkV tkB
  refine Ev.bindc (impl_hasDepth.is n L p d) ?_
  cases h1 : plB n L p d with
  | false => exact Ev.no (by simp) (Ev.id (by simp))
  | true =>
    obtain ⟨b1, b2, b3⟩ := plB_parts h1
    obtain ⟨a1, a2, a3⟩ := pinsB_parts b1
    obtain ⟨i, rfl⟩ := Int.eq_ofNat_of_zero_le b2.1
    have hi : i < L.length := by omega
    have hg : L.getD i [] = L[i] := by simp [List.getD, hi]
    have hrb := a3 L[i] (List.getElem_mem hi)
    have h9 := rowB_len (by omega) hrb
    have hris := hrb
    unfold rowB at hris
    rw [Bool.and_eq_true] at hris
    refine Ev.yes rfl (Ev.yes ⟨by omega, by omega⟩ ?_)
    rw [Int.toNat_natCast, hg]
    refine Ev.bind (slices_Index_int_int.ev L[i] d (by omega)) ?_
    cases h2 : L[i].contains d with
    | false => exact Ev.yes (by simp) (Ev.id (by simp))
    | true =>
      obtain ⟨e1, e2⟩ := ris_erase hris.2 h2
      have e3 := ris_length hris.2 h2
      rw [if_pos rfl]
      refine Ev.no (by omega) (Ev.yes ⟨by omega, by omega⟩ ?_)
      rw [Int.toNat_natCast, e1]
      have hc := impl_changed.ev n L hL b1 i hi (L[i].filter fun x => x != d)
      rw [rowB_filter hrb] at hc
      by_cases h3 : L[i].length = 1
      · have hz : (L[i].filter fun x => x != d) = [] := List.eq_nil_of_length_eq_zero (by omega)
        rw [hz] at hc
        rw [hz, show (L[i].length == 1) = true from beq_iff_eq.mpr h3]
        exact hc
      · have hz : (L[i].filter fun x => x != d).isEmpty = false := by
          cases e : L[i].filter fun x => x != d with
          | nil => rw [e] at e3; simp at e3; omega
          | cons _ _ => rfl
        rw [hz] at hc
        rw [show (L[i].length == 1) = false from beq_eq_false_iff_ne.mpr h3]
        exact hc
theorem tkV_small (n : Int) (L : List (List Int)) (p d : Int) (hL : RowsV L) : (tkV n L p d).2.1.length ≤ 7 ∧ totL (tkV n L p d).2.1 ≤ 63 ∧ RowsV (tkV n L p d).2.1 := by
  unfold tkV
  by_cases h : tkB n L p d = true
  · rw [if_pos h]
    unfold tkB at h
    rw [Bool.and_eq_true] at h
    obtain ⟨b1, b2, b3⟩ := plB_parts h.1
    obtain ⟨a1, a2, a3⟩ := pinsB_parts b1
    have hr9 : ∀ r ∈ L.set p.toNat ((L.getD p.toNat []).filter fun x => x != d), r.length ≤ 9 := by
      intro r hr
      rcases List.mem_or_eq_of_mem_set hr with hr | rfl
      · have := rowB_len (by omega) (a3 r hr); omega
      · refine Nat.le_trans (filter_len_le _ _) ?_
        have hi : p.toNat < L.length := by omega
        rw [show L.getD p.toNat [] = L[p.toNat] by simp [List.getD, hi]]
        have := rowB_len (by omega) (a3 _ (List.getElem_mem hi)); omega
    have hl : (L.set p.toNat ((L.getD p.toNat []).filter fun x => x != d)).length ≤ 7 := by rw [List.length_set]; exact a2.2
    exact ⟨hl, Nat.le_trans (totL_le 9 _ hr9) (Nat.mul_le_mul_right 9 hl), Nat.le_trans hl (by decide), fun r hr => by have := hr9 r hr; omega⟩
  · rw [if_neg h]
    exact ⟨by decide, by decide, ⟨by decide, fun r hr => by cases hr⟩⟩
set_option maxRecDepth 100000 in
theorem laws_FnExactTakePin.walk0 (k : Nat) (n : Int) (L : List (List Int)) (p d : Int) (r0 : Int) (A : Option Addr) (c : Nat) (w : World) (hr : Kd.C (Kd.slice 3 (Kd.int .i64)) w A L.length L) (hc : L.length ≤ c) (e1 : laws_szPins.f k n L 1048576 = some r0) (h0 : r0 < 0) :
    Calls Try.prog 8 #[.agg #[.int .i64 n, .slice A L.length c], .int .i64 p, .int .i64 d] w fun e w' => e = .returned (.bool true) ∧ Below w.heap.size w w' := by
  have hu37 := Try.underlying37
  have hu35 := Try.underlying35
  have hd0 : decide (r0 < 0) = true := decide_eq_true h0
  have E1 := amk e1
  have HC := amk hc
  have HR := amk (Kd.C_alloc hr (.cells #[.int .i64 n, .slice A L.length c] 37 (0, 0)))
  have HB := amk ((Below.refl w.heap.size w).alloc (Nat.le_refl _) (.cells #[.int .i64 n, .slice A L.length c] 37 (0, 0)))
  clear e1 hc hr h0
  go_enter Try.func8, Try.ntmps8
  go_wp2_with (go_at_call 20; refine Calls.mono (laws_szPins.calls k n _ _ L _ r0 _ HR.out HC.out E1.out) ?_; rintro e w2 ⟨rfl, hb⟩; have HB2 := amk (HB.out.trans (hb.mono HB.out.size)); clear hb)
  go_ret
  exact ⟨rfl, HB2.out⟩
theorem laws_FnExactTakePin.calls (a0_0 : Int) (A0_1 : Option Addr) (c0_1 : Nat) (l0_1 : List (List Int)) (a1 : Int) (a2 : Int) (r : Bool) (w : World) (hr0_1 : Kd.C (Kd.slice 3 (Kd.int .i64)) w A0_1 l0_1.length l0_1) (hc0_1 : l0_1.length ≤ c0_1) (h : laws_FnExactTakePin.f a0_0 l0_1 a1 a2 = some r) :
    Calls Try.prog 8 #[.agg #[.int .i64 a0_0, .slice A0_1 l0_1.length c0_1], .int .i64 a1, .int .i64 a2] w fun e w' => e = .returned (.bool r) ∧ Below w.heap.size w w' := by
  obtain rfl := Option.some.inj h
  have hV := C_rowsV hr0_1
  obtain ⟨r0, he0, hf0⟩ := laws_szPins.evA a0_0 l0_1 hV 1048576 (by omega) (by omega)
  by_cases h0 : 0 ≤ r0
  · obtain ⟨ht0, hM0⟩ := hf0 h0
    obtain ⟨hs1, hs2, hs3⟩ := tkV_small a0_0 l0_1 a1 a2 hV
    obtain ⟨k1, e1⟩ := he0
    obtain ⟨k2, e2⟩ := laws_toPins.ev a0_0 l0_1 hM0
    obtain ⟨k3, e3⟩ := spec_TakePin.ev a0_0 l0_1 a1 a2 hV
    obtain ⟨k4, e4⟩ := impl_TakePin.ev a0_0 l0_1 a1 a2 hV
    obtain ⟨k5, e5⟩ := laws_eqPins.ev (tkV a0_0 l0_1 a1 a2).1 (tkV a0_0 l0_1 a1 a2).2.1 hs3
    obtain ⟨k6, e6⟩ := laws_eqPins.ev a0_0 l0_1 hV
    obtain ⟨X', k7, e7⟩ := markRows_ev l0_1 1 (by omega) (by omega) (by omega)
    obtain ⟨R', ⟨k8, e8⟩, k9, e9⟩ := laws_markPins.evH (tkV a0_0 l0_1 a1 a2).1 (tkV a0_0 l0_1 a1 a2).2.1 (by omega) (by omega)
    have hk : ∃ k, (k1 ≤ k ∧ k2 ≤ k ∧ k3 ≤ k ∧ k4 ≤ k ∧ k5 ≤ k) ∧ k6 ≤ k ∧ k7 ≤ k ∧ k8 ≤ k ∧ k9 ≤ k := ⟨k1 + k2 + k3 + k4 + k5 + k6 + k7 + k8 + k9, by omega⟩
    obtain ⟨k, ⟨i1, i2, i3, i4, i5⟩, i6, i7, i8, i9⟩ := hk
    exact laws_FnExactTakePin.walk k a0_0 l0_1 a1 a2 (tkV a0_0 l0_1 a1 a2).1 (tkV a0_0 l0_1 a1 a2).2.1 R' X' (tkV a0_0 l0_1 a1 a2).2.2 r0 _ _ A0_1 c0_1 w hr0_1 hc0_1 (e1 k i1) h0 (e2 k i2) (e3 k i3) (e4 k i4) (e5 k i5) (e6 k i6) (e7 k i7) (by omega) (e8 k i8) (by omega) (e9 k i9)
  · obtain ⟨k1, e1⟩ := he0
    exact laws_FnExactTakePin.walk0 k1 a0_0 l0_1 a1 a2 r0 A0_1 c0_1 w hr0_1 hc0_1 (e1 k1 (Nat.le_refl _)) (by omega)
theorem pure_FnExactTakePin (p : S37) (_ : V37 p) (q : Int) (_ : IntV q) (s : Int) (_ : IntV s) : laws_FnExactTakePin.f p.f0 p.f1 q s = some true := rfl
end Go.Proofs.Ytcnjiffoghganaa.P