import Derived.Test.YtcbeihidnodceaaKFnKeysOpenA0
import Derived.Shelf.Abstract
import Derived.BigQuiet
namespace Go.Proofs.Ytcbeihidnodceaa.P
open Go.RowKit Go.Proofs.YtcbeihidnodceaaW.PrintWords Go.Proofs.YtcbeihidnodceaaW.PrintLast Go.Proofs.YtcbeihidnodceaaW.PrintMore
attribute [local go_sem] max2_int min2_int max_two min_two max_three min_three max_four min_four
set_option linter.unusedVariables false
set_option linter.unusedSimpArgs false
/-! ### impl_joined: function 51 -/
mutual
def impl_joined.l0 : Nat → List (S24) → Int → Int → Int → Int → List (List Int) → Option (Int × (List (List Int)))
  | 0, _, _, _, _, _, _ => none
  | k + 1, x0, x1, x21, x22, x227000, x227001 => if x22 < x21 then (impl_joined.l1 k x0 x1 x22 (([] : List Int)) x21 x22 x227000 0 x227000 x227001) else (some (x227000, x227001))
def impl_joined.l1 : Nat → List (S24) → Int → Int → List Int → Int → Int → Int → Int → Int → List (List Int) → Option (Int × (List (List Int)))
  | 0, _, _, _, _, _, _, _, _, _, _ => none
  | k + 1, x0, x1, x6, x7, x21, x22, x27, x28, x227000, x227001 => if x28 < x27 then (impl_joined.l2 k x0 x1 x6 x7 x28 0 x21 x22 x27 x28 x0 (x0.length : Int) 0 x227000 x227001) else (if x227001.length < 5864062014805 then (impl_joined.l0 k x0 x1 x21 (wrap64 (x22 + 1)) x227000 (x227001 ++ [x7])) else (none))
def impl_joined.l2 : Nat → List (S24) → Int → Int → List Int → Int → Int → Int → Int → Int → Int → List (S24) → Int → Int → Int → List (List Int) → Option (Int × (List (List Int)))
  | 0, _, _, _, _, _, _, _, _, _, _, _, _, _, _, _ => none
  | k + 1, x0, x1, x6, x7, x8, x9, x21, x22, x27, x28, x31, x32, x33, x227000, x227001 => if x33 < x32 then (if 0 ≤ x33 then (if x33 < (x31.length : Int) then (if 0 ≤ x6 then (if x6 < (((rd_T24 x31 x33).f1).length : Int) then ((slices_Contains_int_int.f k (rd_L1 ((rd_T24 x31 x33).f1) x6) x8).bind fun t237 => (if t237 = true then (impl_joined.l2 k x0 x1 x6 x7 x8 (wrap64 (x9 + 1)) x21 x22 x27 x28 x31 x32 (wrap64 (x33 + 1)) x227000 x227001) else (impl_joined.l2 k x0 x1 x6 x7 x8 x9 x21 x22 x27 x28 x31 x32 (wrap64 (x33 + 1)) x227000 x227001))) else (none)) else (none)) else (none)) else (none)) else (if x9 ≥ x1 then (if x7.length < 17592186044416 then (impl_joined.l1 k x0 x1 x6 (x7 ++ [x8]) x21 x22 x27 (wrap64 (x28 + 1)) x227000 x227001) else (none)) else (impl_joined.l1 k x0 x1 x6 x7 x21 x22 x27 (wrap64 (x28 + 1)) x227000 x227001))
end
def impl_joined.f (k : Nat) (l0 : List (S24)) (a1 : Int) : Option (Int × (List (List Int))) := if 0 < (l0.length : Int) then (impl_joined.l0 k l0 a1 (((rd_T24 l0 0).f1).length : Int) 0 ((rd_T24 l0 0).f0) ([] : List (List Int))) else (none)
set_option maxHeartbeats 8000000 in
set_option maxRecDepth 100000 in
theorem impl_joined.calls (k : Nat) (A0 : Option Addr) (c0 : Nat) (l0 : List (S24)) (a1 : Int) (r1 : Int) (r2 : List (List Int)) (w : World) (hr0 : Kd.C k24 w A0 l0.length l0) (hc0 : l0.length ≤ c0) (h : impl_joined.f k l0 a1 = some (r1, r2)) :
    Calls Try.prog 51 #[.slice A0 l0.length c0, .int .i64 a1] w fun e w' => ∃ v1_ : Value, e = .returned (.agg #[.int .i64 r1, v1_]) ∧ Kd.S (Kd.slice 3 (Kd.int .i64)) 52 w' w.heap.size (fun _ => True) v1_ r2 ∧ Below w.heap.size w w' := by
  have hu24 := Try.underlying24
  have HR0 := amk hr0
  have HC0 := amk hc0
  clear hr0 hc0
  have HB := amk (Below.refl w.heap.size w)
  have H : (if 0 < (l0.length : Int) then (impl_joined.l0 k l0 a1 (((rd_T24 l0 0).f1).length : Int) 0 ((rd_T24 l0 0).f0) ([] : List (List Int))) else (none)) = some (r1, r2) := h
  clear h
  by_cases c3 : 0 < (l0.length : Int)
  · rw [if_pos c3] at H
    have c3b0 : decide (0 < (l0.length : Int)) = true := decide_eq_true c3
    have c3b1 : decide (0 < l0.length) = true := decide_eq_true (by omega)
    clear c3
    have H' := amk H
    clear H
    go_enter Try.func51, Try.ntmps51
    go_wp2_with (first | ((with_reducible refine gate_dst (N := 4) rfl ?_); refine boxE_ HB 4 #[.int .i64 0, .slice none 0 0] 24 ?_; clear HB; intro gb224 w4 HB BK224 GW224 GE224 hb; clear hb; have p225 : 0 ≤ (0 : Int) := (by omega); have q225 : 0 < (l0.length : Int) := dA_; obtain ⟨ad225, A225_1, c225_1, e225, hx225_0, hx225_1, hl225_1, hi225_1⟩ := at_T24 HR0.out 0 p225 q225; cases e225; have qi225 : (0 < l0.length) = True := eq_true (by omega); (try rw [show ((0 : Int)).toNat = 0 from rfl] at hx225_0); (try rw [show 0 * 2 = 0 from rfl] at hx225_0); (try rw [Addr.add_zero'] at hx225_0); (try rw [show ((0 : Int)).toNat = 0 from rfl] at hx225_1); (try rw [show 0 * 2 = 0 from rfl] at hx225_1); (try rw [Addr.add_zero'] at hx225_1); replace hx225_0 := (HB.out.cell (World.block_lt_of_cell? w _ hx225_0)).trans hx225_0; replace hx225_1 := (HB.out.cell (World.block_lt_of_cell? w _ hx225_1)).trans hx225_1; have HR225_1 := amk hi225_1; have HC225_1 := amk hl225_1; clear hi225_1 hl225_1; replace p225 := eq_true p225; replace q225 := eq_true q225) | ((with_reducible refine gate_dst (N := 5) rfl ?_); refine boxG_ 5 #[.int .i64 0, .slice none 0 0] 24 ?_; intro gb226 w5 hg BK226 hb; have GW226 := sZ HB hg; have GE226 := sZ HB hg; replace HB := hB2 HB hb; have NB224_226 := neL BK224 hg; have NB226_224 := neR BK224 hg; replace BK224 := kb2 BK224 hb; clear hb hg; have hnb6 := NB226_224.out; have hnc6 := NB224_226.out; obtain ⟨hcz7_0, hcz7_1, hfz7_0, hfz7_1, _⟩ := two_cells BK226.out; have p227 : 0 ≤ (0 : Int) := (by omega); have q227 : 0 < (l0.length : Int) := dA_; obtain ⟨ad227, A227_1, c227_1, e227, hx227_0, hx227_1, hl227_1, hi227_1⟩ := at_T24 HR0.out 0 p227 q227; obtain rfl : ad225 = ad227 := (by injection e227); have qi227 : (0 < l0.length) = True := eq_true (by omega); (try rw [show ((0 : Int)).toNat = 0 from rfl] at hx227_0); (try rw [show 0 * 2 = 0 from rfl] at hx227_0); (try rw [Addr.add_zero'] at hx227_0); (try rw [show ((0 : Int)).toNat = 0 from rfl] at hx227_1); (try rw [show 0 * 2 = 0 from rfl] at hx227_1); (try rw [Addr.add_zero'] at hx227_1); have hn227_0 : ad225.block ≠ gb226 := Nat.ne_of_lt (Nat.lt_of_lt_of_le (by have := World.block_lt_of_cell? _ _ hx227_0; first | rwa [add_block] at this | exact this) GW226.out); have hn227_1 : ad225.block ≠ gb226 := Nat.ne_of_lt (Nat.lt_of_lt_of_le (by have := World.block_lt_of_cell? _ _ hx227_0; first | rwa [add_block] at this | exact this) GW226.out); replace hx227_0 := (HB.out.cell (World.block_lt_of_cell? w _ hx227_0)).trans hx227_0; replace hx227_1 := (HB.out.cell (World.block_lt_of_cell? w _ hx227_1)).trans hx227_1; have HR227_1 := amk hi227_1; have HC227_1 := amk hl227_1; clear hi227_1 hl227_1; replace hx227_0 := (cell_far (p := ⟨gb226, 0, none⟩) (by first | (rw [add_block]; exact hn227_0) | (show (Addr.add _ _).block ≠ _; rw [add_block]; exact hn227_0) | exact hn227_0) (.int .i64 ((rd_T24 l0 0).f0))).trans hx227_0; replace hx227_1 := (cell_far (p := ⟨gb226, 0, none⟩) (by first | (rw [add_block]; exact hn227_0) | (show (Addr.add _ _).block ≠ _; rw [add_block]; exact hn227_0) | exact hn227_0) (.int .i64 ((rd_T24 l0 0).f0))).trans hx227_1; replace hx227_0 := (cell_far (p := ⟨gb226, 1, none⟩) (by first | (rw [add_block]; exact hn227_1) | (show (Addr.add _ _).block ≠ _; rw [add_block]; exact hn227_1) | exact hn227_1) (.slice none 0 0)).trans hx227_0; replace hx227_1 := (cell_far (p := ⟨gb226, 1, none⟩) (by first | (rw [add_block]; exact hn227_1) | (show (Addr.add _ _).block ≠ _; rw [add_block]; exact hn227_1) | exact hn227_1) (.slice none 0 0)).trans hx227_1; clear hn227_0; clear hn227_1; replace p227 := eq_true p227; replace q227 := eq_true q227))
    go_loopg [22] k (fun kq v22 w' => ∃ (x22_1 : Int) (x227001_1 : List (List Int)) (u227001 : Value), v22 = .int .i64 x22_1 ∧ Aside0 (impl_joined.l0 kq l0 a1 (((rd_T24 l0 0).f1).length : Int) x22_1 ((rd_T24 l0 0).f0) x227001_1 = some (r1, r2)) ∧ Aside0 (kq ≤ k) ∧ Aside0 (Kd.S (Kd.slice 3 (Kd.int .i64)) 52 w' w.heap.size (fun _ => True) u227001 x227001_1) ∧ Aside0 (w'.heap[gb224]? = some (.cells #[.int .i64 0, (.slice none 0 0)] 24 (0, 0))) ∧ Aside0 (w'.heap[gb226]? = some (.cells #[.int .i64 ((rd_T24 l0 0).f0), u227001] 24 (0, 0))) ∧ Aside0 (Below w.heap.size w w'))
    case atStart => exact ⟨(0), (([] : List (List Int))), (.slice none 0 0), rS_, H', ⟨Nat.le_refl _⟩, ⟨xN_⟩, ⟨kB BK224⟩, ⟨by (with_reducible repeat (first | refine kn_ ?_ _ | refine blk_drew ?_ | refine ka_ ?_ _)); refine blk_put (cs := #[.int .i64 ((rd_T24 l0 0).f0), .slice none 0 0]) ?_ 1 _ rfl; (with_reducible repeat (first | refine kn_ ?_ _ | refine blk_drew ?_ | refine ka_ ?_ _)); refine blk_put (cs := #[.int .i64 0, .slice none 0 0]) ?_ 0 _ rfl; (with_reducible repeat (first | refine kn_ ?_ _ | refine blk_drew ?_ | refine ka_ ?_ _)); exact BK226.out⟩, ⟨bB⟩⟩
    case round =>
      clear H'
      try clear c2; try clear p2; try clear q2; try clear hx2; try clear qi2; try clear c3; try clear c3b0; try clear c3b1; try clear c5; try clear c6; try clear hcz7_0; try clear hcz7_1; try clear hfz7_0; try clear hfz7_1; try clear hx225_0; try clear hx225_1; try clear hx227_0; try clear hx227_1; try clear p225; try clear p227; try clear q225; try clear q227
      obtain ⟨x22_1, x227001_1, u227001, rfl, HA, HK1, HO_227001, BK224, BK226, HB⟩ := hrel
      cases gk with
      | zero => exact absurd HA.out (by simp [impl_joined.l0])
      | succ k1 =>
        have H := HA.out
        clear HA
        simp only [impl_joined.l0] at H
        replace H := iteE H; obtain ⟨c8b0, H⟩ | ⟨c8b0, H⟩ := H
        · obtain ⟨y228, hy228⟩ : ∃ y_ : List Int, y_ = (([] : List Int)) := ⟨_, rfl⟩
          replace H : (impl_joined.l1 k1 l0 a1 x22_1 y228 (((rd_T24 l0 0).f1).length : Int) x22_1 ((rd_T24 l0 0).f0) 0 ((rd_T24 l0 0).f0) x227001_1) = some (r1, r2) := by first | (rw [hy228]; with_reducible exact H) | (have H2_ := (Option.bind_some _ _).symm.trans H; rw [hy228]; with_reducible exact H2_) | (have H2_ := (Option.bind_some _ _).symm.trans H; with_reducible exact H2_) | with_reducible exact H | (rw [hy228]; exact H) | exact H
          have Ny228 := amk hy228
          clear hy228
          have H' := amk H
          clear H
          go_wp2_with (first | ((with_reducible refine gate_dst (N := 25) rfl ?_); refine Kd.R_lit (Kd.int .i64) _ 3 ?hg (N := 25) ?hd (xs := ([] : List Int)) (inner := []) (ok := fun _ => True) (okp := fun _ => True) ?hr ?hp (fun _ hk => hk) trivial (Below.refl _ _) (Nat.le_refl _) (by simp) ?_; (case hd => rfl); (case hg => rfl); (case hr => first | (go_simp; done) | (go_simp; rfl)); (case hp => exact (Reps.none _ _)); intro v229 w9 ho10 hb hg_ hnew_; clear hg_ hnew_; (first | rw [← Ny228.out] at ho10 | (simp only [Int.reduceToNat] at ho10; rw [← Ny228.out] at ho10)); replace HO_227001 := amk (Kd.S_elder' (oX HO_227001) (Kd.R_base ho10) hb); have HO230 := amk (Kd.R_lower ho10 (below_size bB)); replace BK224 := kb2 BK224 hb; replace BK226 := kb2 BK226 hb; replace HB := hB2 HB hb; clear hb ho10; have hnb11 := NB226_224.out; have hnc11 := NB224_226.out; obtain ⟨hcz12_0, hcz12_1, hfz12_0, hfz12_1, _⟩ := two_cells BK226.out))
          go_loopg [7, 28] k1 (fun kq v7 v28 w' => ∃ (x7_2 : List Int) (x28_2 : Int), v28 = .int .i64 x28_2 ∧ Aside0 (impl_joined.l1 kq l0 a1 x22_1 x7_2 (((rd_T24 l0 0).f1).length : Int) x22_1 ((rd_T24 l0 0).f0) x28_2 ((rd_T24 l0 0).f0) x227001_1 = some (r1, r2)) ∧ Aside0 (kq ≤ k1) ∧ Aside0 (Kd.R (Kd.int .i64) 3 w' w.heap.size (fun _ => True) v7 x7_2) ∧ Aside0 (Kd.S (Kd.slice 3 (Kd.int .i64)) 52 w' w.heap.size (fun k_ => some k_ ≠ (v7 : Value).ownBlock) u227001 x227001_1) ∧ Aside0 (w'.heap[gb224]? = some (.cells #[.int .i64 0, (.slice none 0 0)] 24 (0, 0))) ∧ Aside0 (w'.heap[gb226]? = some (.cells #[.int .i64 ((rd_T24 l0 0).f0), u227001] 24 (0, 0))) ∧ Aside0 (Below w.heap.size w w'))
          case atStart => exact ⟨(y228), (0), rS_, H', ⟨Nat.le_refl _⟩, ⟨oX HO230⟩, ⟨by (with_reducible repeat (first | apply Kd.S_alloc | apply Kd.S_drewN | apply Kd.S_drew)); exact Kd.S_mono HO_227001.out (fun _ hk => hk.2)⟩, ⟨kB BK224⟩, ⟨kB BK226⟩, ⟨bB⟩⟩
          case round =>
            clear H'
            try clear c1; try clear c2; try clear p2; try clear q2; try clear hx2; try clear qi2; try clear c3; try clear c3b0; try clear c3b1; try clear c5; try clear c6; try clear c8; try clear c8b0; try clear c11; try clear hcz12_0; try clear hcz12_1; try clear hcz7_0; try clear hcz7_1; try clear hfz12_0; try clear hfz12_1; try clear hfz7_0; try clear hfz7_1; try clear hx225_0; try clear hx225_1; try clear hx227_0; try clear hx227_1; try clear p2; try clear p225; try clear p227; try clear q2; try clear q225; try clear q227
            obtain ⟨x7_2, x28_2, rfl, HA, HK2, HO_7, HO_227001, BK224, BK226, HB⟩ := hrel
            cases gk with
            | zero => exact absurd HA.out (by simp [impl_joined.l1])
            | succ k2 =>
              have H := HA.out
              clear HA
              simp only [impl_joined.l1] at H
              replace H := iteE H; obtain ⟨c13b0, H⟩ | ⟨c13b0, H⟩ := H
              · have H' := amk H
                clear H
                go_wp2
                go_loopg [9, 33] k2 (fun kq v9 v33 w' => ∃ (x9_3 : Int) (x33_3 : Int), v9 = .int .i64 x9_3 ∧ v33 = .int .i64 x33_3 ∧ Aside0 (impl_joined.l2 kq l0 a1 x22_1 x7_2 x28_2 x9_3 (((rd_T24 l0 0).f1).length : Int) x22_1 ((rd_T24 l0 0).f0) x28_2 l0 (l0.length : Int) x33_3 ((rd_T24 l0 0).f0) x227001_1 = some (r1, r2)) ∧ Aside0 (kq ≤ k2) ∧ Aside0 (Kd.R (Kd.int .i64) 3 w' w.heap.size (fun _ => True) u7 x7_2) ∧ Aside0 (Kd.S (Kd.slice 3 (Kd.int .i64)) 52 w' w.heap.size (fun k_ => some k_ ≠ (u7 : Value).ownBlock) u227001 x227001_1) ∧ Aside0 (w'.heap[gb224]? = some (.cells #[.int .i64 0, (.slice none 0 0)] 24 (0, 0))) ∧ Aside0 (w'.heap[gb226]? = some (.cells #[.int .i64 ((rd_T24 l0 0).f0), u227001] 24 (0, 0))) ∧ Aside0 (Below w.heap.size w w'))
                case atStart => exact ⟨(0), (0), rS_, rS_, H', ⟨Nat.le_refl _⟩, ⟨oX HO_7⟩, ⟨oX HO_227001⟩, ⟨kB BK224⟩, ⟨kB BK226⟩, ⟨bB⟩⟩
                case round =>
                  clear H'
                  try clear c1; try clear c2; try clear p2; try clear q2; try clear hx2; try clear qi2; try clear c3; try clear c3b0; try clear c3b1; try clear c5; try clear c6; try clear c8; try clear c8b0; try clear c11; try clear c13; try clear c13b0; try clear hcz12_0; try clear hcz12_1; try clear hcz7_0; try clear hcz7_1; try clear hfz12_0; try clear hfz12_1; try clear hfz7_0; try clear hfz7_1; try clear hx225_0; try clear hx225_1; try clear hx227_0; try clear hx227_1; try clear p2; try clear p225; try clear p227; try clear q2; try clear q225; try clear q227
                  obtain ⟨x9_3, x33_3, rfl, rfl, HA, HK3, HO_7, HO_227001, BK224, BK226, HB⟩ := hrel
                  cases gk with
                  | zero => exact absurd HA.out (by simp [impl_joined.l2])
                  | succ k3 =>
                    have H := HA.out
                    clear HA
                    simp only [impl_joined.l2] at H
                    replace H := iteE H; obtain ⟨c14b0, H⟩ | ⟨c14b0, H⟩ := H
                    · replace H := iteN H; obtain ⟨c15b0, H⟩ := H
                      replace H := iteN H; obtain ⟨c16b0, H⟩ := H
                      replace H := iteN H; obtain ⟨c17b0, H⟩ := H
                      replace H := iteN H; obtain ⟨c18b0, H⟩ := H
                      replace H := bE H
                      obtain ⟨t237, A19, H⟩ := H
                      replace H := iteB H; obtain ⟨rfl, H⟩ | ⟨rfl, H⟩ := H
                      · have H' := amk H
                        clear H
                        have p234 : 0 ≤ (x33_3 : Int) := dA_
                        have q234 : x33_3 < (l0.length : Int) := dA_
                        obtain ⟨ad234, A234_1, c234_1, e234, hx234_0, hx234_1, hl234_1, hi234_1⟩ := at_T24 HR0.out x33_3 p234 q234
                        obtain rfl : ad225 = ad234 := (by injection e234)
                        replace hx234_0 := (HB.out.cell (World.block_lt_of_cell? w _ hx234_0)).trans hx234_0
                        replace hx234_1 := (HB.out.cell (World.block_lt_of_cell? w _ hx234_1)).trans hx234_1
                        have HR234_1 := amk hi234_1
                        have HC234_1 := amk hl234_1
                        clear hi234_1 hl234_1
                        replace p234 := eq_true p234
                        replace q234 := eq_true q234
                        go_wp2_with (first | ((with_reducible refine gate_dst (N := 11) rfl ?_); refine boxG_ 11 #[.int .i64 0, .slice none 0 0] 24 ?_; intro gb235 w21 hg BK235 hb; replace HO_7 := amk (Kd.R_below (oX HO_7) hb); replace HO_227001 := amk (Kd.S_below (oX HO_227001) hb); have GW235 := sZ HB hg; have GE235 := sZ HB hg; replace HB := hB2 HB hb; have NB224_235 := neL BK224 hg; have NB235_224 := neR BK224 hg; replace BK224 := kb2 BK224 hb; have NB226_235 := neL BK226 hg; have NB235_226 := neR BK226 hg; replace BK226 := kb2 BK226 hb; clear hb hg; have hnb22 := NB235_224.out; have hnc22 := NB224_235.out; have hnb23 := NB235_226.out; have hnc23 := NB226_235.out; obtain ⟨hcz24_0, hcz24_1, hfz24_0, hfz24_1, _⟩ := two_cells BK235.out; have p236 : 0 ≤ (x22_1 : Int) := dA_; have q236 : x22_1 < (((rd_T24 l0 x33_3).f1).length : Int) := dA_; obtain ⟨ad236, A236_0, c236_0, e236, hx236_0, hl236_0, hi236_0⟩ := at_L1 HR234_1.out x22_1 p236 q236; cases e236; have hn236_0 : ad236.block ≠ gb235 := Nat.ne_of_lt (Nat.lt_of_lt_of_le (by have := World.block_lt_of_cell? _ _ hx236_0; first | rwa [add_block] at this | exact this) GW235.out); have hn236_1 : ad236.block ≠ gb235 := Nat.ne_of_lt (Nat.lt_of_lt_of_le (by have := World.block_lt_of_cell? _ _ hx236_0; first | rwa [add_block] at this | exact this) GW235.out); replace hx236_0 := (HB.out.cell (World.block_lt_of_cell? w _ hx236_0)).trans hx236_0; have HR236_0 := amk hi236_0; have HC236_0 := amk hl236_0; clear hi236_0 hl236_0; replace hx236_0 := (cell_far (p := ⟨gb235, 0, none⟩) (by first | (rw [add_block]; exact hn236_0) | (show (Addr.add _ _).block ≠ _; rw [add_block]; exact hn236_0) | exact hn236_0) (.int .i64 ((rd_T24 l0 x33_3).f0))).trans hx236_0; replace hx236_0 := (cell_far (p := ⟨gb235, 1, none⟩) (by first | (rw [add_block]; exact hn236_1) | (show (Addr.add _ _).block ≠ _; rw [add_block]; exact hn236_1) | exact hn236_1) (.slice (some ad236) ((rd_T24 l0 x33_3).f1).length c234_1)).trans hx236_0; clear hn236_0; clear hn236_1; replace p236 := eq_true p236; replace q236 := eq_true q236) | (refine gc_ 35 43 Try.func35 #[.slice A236_0 (rd_L1 ((rd_T24 l0 x33_3).f1) x22_1).length c236_0, .int .i64 x28_2] ?_; (with_reducible refine (slices_Contains_int_int.calls k3 _ _ (rd_L1 ((rd_T24 l0 x33_3).f1) x22_1) x28_2 true _ ?_ ?_ A19.out).mono ?_); exact Kd.C_below HR236_0.out bB; exact HC236_0.out; rintro e w' ⟨rfl, ⟨nd, rfl⟩⟩; refine ⟨_, rfl, ?_⟩))
                        go_roundg k3
                        case measure => have := HK1.out; have := HK2.out; have := HK3.out; omega
                        case rel => exact ⟨(wrap64 (x9_3 + 1)), (wrap64 (x33_3 + 1)), rS_, rS_, H', ⟨by have := HK1.out; have := HK2.out; have := HK3.out; omega⟩, ⟨by (with_reducible repeat (first | apply Kd.R_alloc | apply Kd.R_drewN | apply Kd.R_drew)); exact Kd.R_mono (Kd.R_far (p := ⟨gb235, 1, none⟩) (Kd.R_far (p := ⟨gb235, 0, none⟩) (Kd.R_types HO_7.out BK235.out (by decide)) (fun _ hk => hk.2) (.int .i64 ((rd_T24 l0 x33_3).f0))) (fun _ hk => hk.2) (.slice (some ad236) ((rd_T24 l0 x33_3).f1).length c234_1)) (fun _ hk => trivial)⟩, ⟨by (with_reducible repeat (first | apply Kd.S_alloc | apply Kd.S_drewN | apply Kd.S_drew)); exact Kd.S_mono (Kd.S_far (p := ⟨gb235, 1, none⟩) (Kd.S_far (p := ⟨gb235, 0, none⟩) (Kd.S_types HO_227001.out BK235.out (by decide)) (fun _ hk => hk.2) (.int .i64 ((rd_T24 l0 x33_3).f0))) (fun _ hk => hk.2) (.slice (some ad236) ((rd_T24 l0 x33_3).f1).length c234_1)) (fun _ hk => hk.1)⟩, ⟨kB BK224⟩, ⟨kB BK226⟩, ⟨bB⟩⟩
                      · have H' := amk H
                        clear H
                        have p234 : 0 ≤ (x33_3 : Int) := dA_
                        have q234 : x33_3 < (l0.length : Int) := dA_
                        obtain ⟨ad234, A234_1, c234_1, e234, hx234_0, hx234_1, hl234_1, hi234_1⟩ := at_T24 HR0.out x33_3 p234 q234
                        obtain rfl : ad225 = ad234 := (by injection e234)
                        replace hx234_0 := (HB.out.cell (World.block_lt_of_cell? w _ hx234_0)).trans hx234_0
                        replace hx234_1 := (HB.out.cell (World.block_lt_of_cell? w _ hx234_1)).trans hx234_1
                        have HR234_1 := amk hi234_1
                        have HC234_1 := amk hl234_1
                        clear hi234_1 hl234_1
                        replace p234 := eq_true p234
                        replace q234 := eq_true q234
                        go_wp2_with (first | ((with_reducible refine gate_dst (N := 11) rfl ?_); refine boxG_ 11 #[.int .i64 0, .slice none 0 0] 24 ?_; intro gb235 w25 hg BK235 hb; replace HO_7 := amk (Kd.R_below (oX HO_7) hb); replace HO_227001 := amk (Kd.S_below (oX HO_227001) hb); have GW235 := sZ HB hg; have GE235 := sZ HB hg; replace HB := hB2 HB hb; have NB224_235 := neL BK224 hg; have NB235_224 := neR BK224 hg; replace BK224 := kb2 BK224 hb; have NB226_235 := neL BK226 hg; have NB235_226 := neR BK226 hg; replace BK226 := kb2 BK226 hb; clear hb hg; have hnb26 := NB235_224.out; have hnc26 := NB224_235.out; have hnb27 := NB235_226.out; have hnc27 := NB226_235.out; obtain ⟨hcz28_0, hcz28_1, hfz28_0, hfz28_1, _⟩ := two_cells BK235.out; have p236 : 0 ≤ (x22_1 : Int) := dA_; have q236 : x22_1 < (((rd_T24 l0 x33_3).f1).length : Int) := dA_; obtain ⟨ad236, A236_0, c236_0, e236, hx236_0, hl236_0, hi236_0⟩ := at_L1 HR234_1.out x22_1 p236 q236; cases e236; have hn236_0 : ad236.block ≠ gb235 := Nat.ne_of_lt (Nat.lt_of_lt_of_le (by have := World.block_lt_of_cell? _ _ hx236_0; first | rwa [add_block] at this | exact this) GW235.out); have hn236_1 : ad236.block ≠ gb235 := Nat.ne_of_lt (Nat.lt_of_lt_of_le (by have := World.block_lt_of_cell? _ _ hx236_0; first | rwa [add_block] at this | exact this) GW235.out); replace hx236_0 := (HB.out.cell (World.block_lt_of_cell? w _ hx236_0)).trans hx236_0; have HR236_0 := amk hi236_0; have HC236_0 := amk hl236_0; clear hi236_0 hl236_0; replace hx236_0 := (cell_far (p := ⟨gb235, 0, none⟩) (by first | (rw [add_block]; exact hn236_0) | (show (Addr.add _ _).block ≠ _; rw [add_block]; exact hn236_0) | exact hn236_0) (.int .i64 ((rd_T24 l0 x33_3).f0))).trans hx236_0; replace hx236_0 := (cell_far (p := ⟨gb235, 1, none⟩) (by first | (rw [add_block]; exact hn236_1) | (show (Addr.add _ _).block ≠ _; rw [add_block]; exact hn236_1) | exact hn236_1) (.slice (some ad236) ((rd_T24 l0 x33_3).f1).length c234_1)).trans hx236_0; clear hn236_0; clear hn236_1; replace p236 := eq_true p236; replace q236 := eq_true q236) | (refine gc_ 35 43 Try.func35 #[.slice A236_0 (rd_L1 ((rd_T24 l0 x33_3).f1) x22_1).length c236_0, .int .i64 x28_2] ?_; (with_reducible refine (slices_Contains_int_int.calls k3 _ _ (rd_L1 ((rd_T24 l0 x33_3).f1) x22_1) x28_2 false _ ?_ ?_ A19.out).mono ?_); exact Kd.C_below HR236_0.out bB; exact HC236_0.out; rintro e w' ⟨rfl, ⟨nd, rfl⟩⟩; refine ⟨_, rfl, ?_⟩))
                        go_roundg k3
                        case measure => have := HK1.out; have := HK2.out; have := HK3.out; omega
                        case rel => exact ⟨(x9_3), (wrap64 (x33_3 + 1)), rS_, rS_, H', ⟨by have := HK1.out; have := HK2.out; have := HK3.out; omega⟩, ⟨by (with_reducible repeat (first | apply Kd.R_alloc | apply Kd.R_drewN | apply Kd.R_drew)); exact Kd.R_mono (Kd.R_far (p := ⟨gb235, 1, none⟩) (Kd.R_far (p := ⟨gb235, 0, none⟩) (Kd.R_types HO_7.out BK235.out (by decide)) (fun _ hk => hk.2) (.int .i64 ((rd_T24 l0 x33_3).f0))) (fun _ hk => hk.2) (.slice (some ad236) ((rd_T24 l0 x33_3).f1).length c234_1)) (fun _ hk => trivial)⟩, ⟨by (with_reducible repeat (first | apply Kd.S_alloc | apply Kd.S_drewN | apply Kd.S_drew)); exact Kd.S_mono (Kd.S_far (p := ⟨gb235, 1, none⟩) (Kd.S_far (p := ⟨gb235, 0, none⟩) (Kd.S_types HO_227001.out BK235.out (by decide)) (fun _ hk => hk.2) (.int .i64 ((rd_T24 l0 x33_3).f0))) (fun _ hk => hk.2) (.slice (some ad236) ((rd_T24 l0 x33_3).f1).length c234_1)) (fun _ hk => hk.1)⟩, ⟨kB BK224⟩, ⟨kB BK226⟩, ⟨bB⟩⟩
                    · by_cases c29 : x9_3 ≥ a1
                      · rw [if_pos c29] at H
                        have c29b0 : decide (a1 ≤ x9_3) = true := decide_eq_true c29
                        clear c29
                        by_cases c30 : x7_2.length < 17592186044416
                        · rw [if_pos c30] at H
                          have LMc30 := amk c30
                          clear c30
                          obtain ⟨y238, hy238⟩ : ∃ y_ : List Int, y_ = (x7_2 ++ [x28_2]) := ⟨_, rfl⟩
                          replace H : (impl_joined.l1 k3 l0 a1 x22_1 y238 (((rd_T24 l0 0).f1).length : Int) x22_1 ((rd_T24 l0 0).f0) (wrap64 (x28_2 + 1)) ((rd_T24 l0 0).f0) x227001_1) = some (r1, r2) := by first | (rw [hy238]; with_reducible exact H) | (have H2_ := (Option.bind_some _ _).symm.trans H; rw [hy238]; with_reducible exact H2_) | (have H2_ := (Option.bind_some _ _).symm.trans H; with_reducible exact H2_) | with_reducible exact H | (rw [hy238]; exact H) | exact H
                          have Ny238 := amk hy238
                          clear hy238
                          have H' := amk H
                          clear H
                          go_wp2_with (first | ((with_reducible refine gate_builtin (b := .append) (xs := #[.tmp 50, .tmp 52]) rfl ?_); at_builtin; refine Kd.R_append (Kd.int .i64) (w0 := w) w.heap.size rfl (.tmp 50) (.tmp 52) 52 3 (.int .i64 0) 8 rfl Try.underlying52 info3 rfl (by decide) (by omega) u7 x7_2 x28_2 [.int .i64 x28_2] (fun _ => True) (fun _ => False) rfl rfl rfl (fun _ hk => hk.elim) (fun _ _ => trivial) (oX HO_7) bB (below_size bB) (by have := LMc30.out; omega) ?_; intro v239 w31 ho hb hg hat; rw [← Ny238.out] at ho; replace HO_227001 := amk (Kd.S_after (ok := (fun _ => True)) (by (with_reducible repeat (first | apply Kd.S_alloc | apply Kd.S_drewN | apply Kd.S_drew)); exact Kd.S_mono HO_227001.out (fun _ hk => ⟨trivial, hk⟩)) hg hat); replace BK224 := bG BK224 hg (Kd.R_ne HO_7.out BK224.out (by decide)); replace BK226 := bG BK226 hg (Kd.R_ne HO_7.out BK226.out (by decide)); replace HB := amk (hb); have HO240 := amk (ho); clear HO_7; clear ho hb hg hat))
                          go_roundg k3
                          case measure => have := HK1.out; have := HK2.out; have := HK3.out; omega
                          case rel => exact ⟨(y238), (wrap64 (x28_2 + 1)), rS_, H', ⟨by have := HK1.out; have := HK2.out; have := HK3.out; omega⟩, ⟨oX HO240⟩, ⟨by (with_reducible repeat (first | apply Kd.S_alloc | apply Kd.S_drewN | apply Kd.S_drew)); exact Kd.S_mono HO_227001.out (fun _ hk => hk.2)⟩, ⟨kB BK224⟩, ⟨kB BK226⟩, ⟨bB⟩⟩
                        · rw [if_neg c30] at H
                          exact absurd H (by simp)
                      · rw [if_neg c29] at H
                        have c29b0 : decide (a1 ≤ x9_3) = false := decide_eq_false c29
                        clear c29
                        have H' := amk H
                        clear H
                        go_wp2
                        go_roundg k3
                        case measure => have := HK1.out; have := HK2.out; have := HK3.out; omega
                        case rel => exact ⟨(x7_2), (wrap64 (x28_2 + 1)), rS_, H', ⟨by have := HK1.out; have := HK2.out; have := HK3.out; omega⟩, ⟨oX HO_7⟩, ⟨oX HO_227001⟩, ⟨kB BK224⟩, ⟨kB BK226⟩, ⟨bB⟩⟩
              · by_cases c32 : x227001_1.length < 5864062014805
                · rw [if_pos c32] at H
                  have LMc32 := amk c32
                  clear c32
                  obtain ⟨y231, hy231⟩ : ∃ y_ : List (List Int), y_ = (x227001_1 ++ [x7_2]) := ⟨_, rfl⟩
                  replace H : (impl_joined.l0 k2 l0 a1 (((rd_T24 l0 0).f1).length : Int) (wrap64 (x22_1 + 1)) ((rd_T24 l0 0).f0) y231) = some (r1, r2) := by first | (rw [hy231]; with_reducible exact H) | (have H2_ := (Option.bind_some _ _).symm.trans H; rw [hy231]; with_reducible exact H2_) | (have H2_ := (Option.bind_some _ _).symm.trans H; with_reducible exact H2_) | with_reducible exact H | (rw [hy231]; exact H) | exact H
                  have Ny231 := amk hy231
                  clear hy231
                  have H' := amk H
                  clear H
                  have hnb33 := NB226_224.out
                  have hnc33 := NB224_226.out
                  obtain ⟨hcz34_0, hcz34_1, hfz34_0, hfz34_1, _⟩ := two_cells BK226.out
                  obtain ⟨Ao36, co36, eo36⟩ := Kd.R_slice HO_7.out
                  subst eo36
                  go_wp2_with (first | ((with_reducible refine gate_builtin (b := .append) (xs := #[.tmp 56, .tmp 58]) rfl ?_); at_builtin; refine Kd.S_append (Kd.slice 3 (Kd.int .i64)) (w0 := w) w.heap.size rfl (.tmp 56) (.tmp 58) 22 52 (.slice none 0 0) 24 rfl Try.underlying22 info52 rfl (by decide) (by omega) u227001 x227001_1 x7_2 [.slice Ao36 x7_2.length co36] (fun _ => True) (fun k_ => some k_ = (.slice Ao36 x7_2.length co36 : Value).ownBlock) rfl rfl (Kd.M_row (Kd.R_mono (Kd.R_tight rfl (Kd.R_mono (ok' := fun k_ => ((fun _ => True)) k_ ∧ some k_ ≠ (u227001 : Value).ownBlock) (Kd.R_apart' (HO_7.out) (Kd.S_typed HO_227001.out) (by decide)) (fun k_ hk => ⟨trivial, hk.2⟩))) (fun _ h_ => h_))) (fun k_ hk_ => ((Kd.R_mono (ok' := fun k_ => ((fun _ => True)) k_ ∧ some k_ ≠ (u227001 : Value).ownBlock) (Kd.R_apart' (HO_7.out) (Kd.S_typed HO_227001.out) (by decide)) (fun k_ hk => ⟨trivial, hk.2⟩))).1 k_ hk_.symm) (fun _ _ => trivial) (by (with_reducible repeat (first | apply Kd.S_alloc | apply Kd.S_drewN | apply Kd.S_drew)); exact Kd.S_mono HO_227001.out (fun k_ hk => ⟨trivial, fun e_ => hk e_⟩)) bB (below_size bB) (by have := LMc32.out; omega) ?_; intro v232 w35 ho hb hg hat; rw [← Ny231.out] at ho; replace BK224 := bG BK224 hg (Kd.S_ne HO_227001.out BK224.out (by decide)); replace BK226 := bG BK226 hg (Kd.S_ne HO_227001.out BK226.out (by decide)); replace HB := amk (hb); have HO233 := amk (ho); clear HO_227001 HO_7; clear ho hb hg hat; obtain ⟨Ao37, co37, eo37⟩ := Kd.S_slice HO233.out; subst eo37; obtain ⟨hcz38_0, hcz38_1, hfz38_0, hfz38_1, _⟩ := two_cells BK226.out))
                  go_roundg k2
                  case measure => have := HK1.out; have := HK2.out; omega
                  case rel => exact ⟨(wrap64 (x22_1 + 1)), (y231), (.slice Ao37 y231.length co37), rS_, H', ⟨by have := HK1.out; have := HK2.out; omega⟩, ⟨by (with_reducible repeat (first | apply Kd.S_alloc | apply Kd.S_drewN | apply Kd.S_drew)); exact Kd.S_mono (Kd.S_far (p := ⟨gb226, 1, none⟩) (Kd.S_types HO233.out BK226.out (by decide)) (fun _ hk => hk.2) (.slice Ao37 y231.length co37)) (fun _ hk => trivial)⟩, ⟨kB BK224⟩, ⟨by (with_reducible repeat (first | refine kn_ ?_ _ | refine blk_drew ?_ | refine ka_ ?_ _)); refine blk_put (cs := #[.int .i64 ((rd_T24 l0 0).f0), u227001]) ?_ 1 _ rfl; (with_reducible repeat (first | refine kn_ ?_ _ | refine blk_drew ?_ | refine ka_ ?_ _)); exact BK226.out⟩, ⟨bB⟩⟩
                · rw [if_neg c32] at H
                  exact absurd H (by simp)
        · simp only [Option.some.injEq, Prod.mk.injEq] at H
          obtain ⟨rfl, rfl⟩ := H
          have hnb39 := NB226_224.out
          have hnc39 := NB224_226.out
          obtain ⟨hcz40_0, hcz40_1, hfz40_0, hfz40_1, _⟩ := two_cells BK226.out
          obtain ⟨hcz41_0, hcz41_1, hfz41_0, hfz41_1, _⟩ := two_cells BK224.out
          obtain ⟨Ao42, co42, eo42⟩ := Kd.S_slice HO_227001.out
          subst eo42
          go_wp2
          refine bodyPost_ret (results_cell_row rfl _ _ gb224 24 #[.int .i64 ((rd_T24 l0 0).f0), .slice Ao42 x227001_1.length co42] (0, 0) _ rfl (by (with_reducible repeat (first | refine kn_ ?_ _ | refine blk_drew ?_ | refine ka_ ?_ _)); refine blk_put (cs := #[.int .i64 ((rd_T24 l0 0).f0), .slice none 0 0]) ?_ 1 _ rfl; (with_reducible repeat (first | refine kn_ ?_ _ | refine blk_drew ?_ | refine ka_ ?_ _)); refine blk_put (cs := #[.int .i64 0, .slice none 0 0]) ?_ 0 _ rfl; (with_reducible repeat (first | refine kn_ ?_ _ | refine blk_drew ?_ | refine ka_ ?_ _)); exact BK224.out) Try.underlying24 rfl (by kernel_rfl)) rfl ?_
          exact ⟨_, rF_, by (with_reducible repeat (first | apply Kd.S_alloc | apply Kd.S_drewN | apply Kd.S_drew)); exact Kd.S_mono (Kd.S_far (p := ⟨gb224, 1, none⟩) (Kd.S_far (p := ⟨gb224, 0, none⟩) (Kd.S_types HO_227001.out BK224.out (by decide)) (fun _ hk => hk.2) (.int .i64 ((rd_T24 l0 0).f0))) (fun _ hk => hk.2) (.slice Ao42 x227001_1.length co42)) (fun _ hk => trivial), bB⟩
  · rw [if_neg c3] at H
    exact absurd H (by simp)
/-! ### impl_shared: function 48 -/
def impl_shared.f (k : Nat) (l0 : List (S24)) : Option (Int × (List (List Int))) := (impl_joined.f k l0 (l0.length : Int)).bind fun bt242 => (some (bt242.1, bt242.2))
set_option maxHeartbeats 8000000 in
set_option maxRecDepth 100000 in
theorem impl_shared.calls (k : Nat) (A0 : Option Addr) (c0 : Nat) (l0 : List (S24)) (r1 : Int) (r2 : List (List Int)) (w : World) (hr0 : Kd.C k24 w A0 l0.length l0) (hc0 : l0.length ≤ c0) (h : impl_shared.f k l0 = some (r1, r2)) :
    Calls Try.prog 48 #[.slice A0 l0.length c0] w fun e w' => ∃ v1_ : Value, e = .returned (.agg #[.int .i64 r1, v1_]) ∧ Kd.S (Kd.slice 3 (Kd.int .i64)) 52 w' w.heap.size (fun _ => True) v1_ r2 ∧ Below w.heap.size w w' := by
  have hu24 := Try.underlying24
  have HR0 := amk hr0
  have HC0 := amk hc0
  clear hr0 hc0
  have HB := amk (Below.refl w.heap.size w)
  have H : ((impl_joined.f k l0 (l0.length : Int)).bind fun bt242 => (some (bt242.1, bt242.2))) = some (r1, r2) := h
  clear h
  replace H := bE H
  obtain ⟨⟨t242, t243⟩, A2, H⟩ := H
  try dsimp only at H
  simp only [Option.some.injEq, Prod.mk.injEq] at H
  obtain ⟨rfl, rfl⟩ := H
  go_enter Try.func48, Try.ntmps48
  go_wp2_with (first | ((with_reducible refine gate_dst (N := 2) rfl ?_); refine boxE_ HB 2 #[.int .i64 0, .slice none 0 0] 24 ?_; clear HB; intro gb241 w3 HB BK241 GW241 GE241 hb; clear hb) | (refine gc_ 51 6 Try.func51 #[.slice A0 l0.length c0, .int .i64 (l0.length : Int)] ?_; (with_reducible refine (impl_joined.calls k _ _ l0 (l0.length : Int) t242 t243 _ ?_ ?_ A2.out).mono ?_); exact cB (Kd.C_below HR0.out HB.out); exact HC0.out; rintro e w4 ⟨v244, rfl, ho0, hb⟩; refine ⟨_, rfl, ?_⟩; have HO245 := amk (Kd.S_lower ho0 (below_size bB)); replace BK241 := kb2 BK241 hb; replace HB := hB2 HB hb; (try clear hb); (try clear ho0); obtain ⟨hcz5_0, hcz5_1, hfz5_0, hfz5_1, _⟩ := two_cells BK241.out; obtain ⟨Ao6, co6, eo6⟩ := Kd.S_slice HO245.out; subst eo6))
  refine bodyPost_ret (results_cell_row rfl _ _ gb241 24 #[.int .i64 t242, .slice Ao6 t243.length co6] (0, 0) _ rfl (by (with_reducible repeat (first | refine kn_ ?_ _ | refine blk_drew ?_ | refine ka_ ?_ _)); refine blk_put (cs := #[.int .i64 t242, .slice none 0 0]) ?_ 1 _ rfl; (with_reducible repeat (first | refine kn_ ?_ _ | refine blk_drew ?_ | refine ka_ ?_ _)); refine blk_put (cs := #[.int .i64 0, .slice none 0 0]) ?_ 0 _ rfl; (with_reducible repeat (first | refine kn_ ?_ _ | refine blk_drew ?_ | refine ka_ ?_ _)); exact BK241.out) Try.underlying24 rfl (by kernel_rfl)) rfl ?_
  exact ⟨_, rF_, by (with_reducible repeat (first | apply Kd.S_alloc | apply Kd.S_drewN | apply Kd.S_drew)); exact Kd.S_mono (Kd.S_far (p := ⟨gb241, 1, none⟩) (Kd.S_far (p := ⟨gb241, 0, none⟩) (Kd.S_types HO245.out BK241.out (by decide)) (fun _ hk => hk.2) (.int .i64 t242)) (fun _ hk => hk.2) (.slice Ao6 t243.length co6)) (fun _ hk => trivial), bB⟩
/-! Lists of pins: which are of one kind, what is joined. -/
def kindB (l : List S24) : Bool :=
  decide (1 ≤ (l.length : Int) ∧ (l.length : Int) ≤ 6) && l.all fun p => pinsB p.f0 p.f1 && (p.f0 == (rd_T24 l 0).f0) && (p.f1.length == (rd_T24 l 0).f1.length)
theorem kindB_parts {l : List S24} (h : kindB l = true) : (1 ≤ l.length ∧ l.length ≤ 6) ∧ ∀ p ∈ l, pinsB p.f0 p.f1 = true ∧ p.f0 = (rd_T24 l 0).f0 ∧ p.f1.length = (rd_T24 l 0).f1.length := by
  unfold kindB at h
  rw [Bool.and_eq_true, decide_eq_true_eq, List.all_eq_true] at h
  refine ⟨⟨by omega, by omega⟩, fun p hp => ?_⟩
  have := h.2 p hp
  rw [Bool.and_eq_true, Bool.and_eq_true, beq_iff_eq, beq_iff_eq] at this
  exact ⟨this.1.1, this.1.2, this.2⟩
/-! slices.IndexFunc and slices.ContainsFunc at pins, under any predicate that makes nothing but new memory. -/
def PredPins (g : Nat) (cap : Array Value) (p : S24 → Bool) (xs : List S24) (w : World) : Prop :=
  ∀ x, x ∈ xs → ∀ (W : World) (A0 : Option Addr) (c0 : Nat), Below w.heap.size w W → x.f1.length ≤ c0 → (Kd.slice 3 (Kd.int .i64)).C W A0 x.f1.length x.f1 → Calls Try.prog g (#[.agg #[.int .i64 x.f0, .slice A0 x.f1.length c0]] ++ cap) W fun e w' => e = .returned (.bool (p x)) ∧ Below w.heap.size w w'
set_option maxHeartbeats 2000000 in
set_option maxRecDepth 100000 in
theorem idx_Pins (g : Nat) (cap : Array Value) (p : S24 → Bool) (A : Option Addr) (c : Nat) (xs : List S24) (w : World) (eg : ∀ args w, (callFunc g args).run Try.prog w = .ok (.enter g args) w)
    (hr : Kd.C k24 w A xs.length xs) (hp : PredPins g cap p xs w) :
    Calls Try.prog 77 #[.slice A xs.length c, .func (.func g) #[] cap] w fun e w' => e = .returned (.int .i64 (idxOf p xs)) ∧ Below w.heap.size w w' := by
  have hbig := hr.2.1
  have HR := amk hr
  have HP := amk hp
  have hu := Try.underlying24
  clear hr hp
  go_enter Try.func77, Try.ntmps77
  go_wp2
  go_loopg [5, 8] xs.length (fun gg _ s8 wr => ∃ i : Int, s8 = .int .i64 i ∧ Aside0 (0 ≤ i) ∧ Aside0 (i ≤ xs.length) ∧ Aside0 ((xs.length : Int) - i ≤ gg) ∧ Aside0 (Below w.heap.size w wr) ∧ Aside0 (∀ (j : Nat) z, (j : Int) < i → xs[j]? = some z → p z = false))
  case atStart => exact ⟨0, rfl, ⟨by omega⟩, ⟨by omega⟩, ⟨by omega⟩, ⟨Below.refl _ w⟩, ⟨fun j hj => by omega⟩⟩
  case round =>
    obtain ⟨i, rfl, I0, I1, IG, BW, AA⟩ := hrel
    by_cases hlt : i < (xs.length : Int)
    · have hlw : decide (i < (xs.length : Int)) = true := decide_eq_true hlt
      have i0 : 0 ≤ i := I0.out
      obtain ⟨ad, A0, c0, e, hx0, hx1, l0, g0⟩ := at_T24 HR.out i i0 hlt
      cases e
      replace hx0 := (BW.out.cell (World.block_lt_of_cell? w _ hx0)).trans hx0
      replace hx1 := (BW.out.cell (World.block_lt_of_cell? w _ hx1)).trans hx1
      replace g0 := Kd.C_below g0 BW.out
      have HY : Aside0 (xs[i.toNat]? = some (rd_T24 xs i)) := ⟨by
        have hin : i.toNat < xs.length := by omega
        unfold rd_T24; simp [List.getD, hin]⟩
      generalize rd_T24 xs i = y at hx0 hx1 l0 g0 HY
      have hcall := HP.out y (List.mem_of_getElem? HY.out) wr A0 c0 BW.out l0 g0
      have L0 := amk l0
      have G0 := amk g0
      clear l0 g0
      have HLT := amk hlt
      replace hlt := eq_true hlt
      replace i0 := eq_true i0
      cases hq : p y with
      | true =>
        rw [hq] at hcall
        have HQ := amk hq
        clear hq
        go_wp2_with (go_at_fn g; refine hcall.mono ?_; rintro e w' ⟨rfl, hb'⟩)
        go_ret
        refine ⟨?_, hb'⟩
        have h1 := idxOf_hit (p := p) HY.out HQ.out (fun j z hj hz => AA.out j z (by omega) hz)
        rw [h1]
        have := I0.out
        show Ending.returned (.int .i64 i) = Ending.returned (.int .i64 ((i.toNat : Nat) : Int))
        rw [Int.toNat_of_nonneg this]
      | false =>
        rw [hq] at hcall
        have HQ := amk hq
        clear hq
        go_wp2_with (go_at_fn g; refine hcall.mono ?_; rintro e w' ⟨rfl, hb'⟩)
        have hw1 : wrap64 (i + 1) = i + 1 := by
          have := I0.out
          have := HLT.out
          unfold wrap64; omega
        go_roundg (xs.length - (i.toNat + 1))
        case measure => have := I0.out; have := HLT.out; have := IG.out; omega
        case rel =>
          have a1 := I0.out
          have a2 := HLT.out
          refine ⟨i + 1, by rw [hw1], ⟨by omega⟩, ⟨by omega⟩, ⟨by omega⟩, ⟨hb'⟩, ⟨fun j z hj hz => ?_⟩⟩
          by_cases e : j = i.toNat
          · subst e
            rw [HY.out] at hz
            injection hz with hz
            rw [← hz]; exact HQ.out
          · exact AA.out j z (by omega) hz
    · have hlw : decide (i < (xs.length : Int)) = false := decide_eq_false hlt
      have HK := amk hlt
      clear hlt
      go_wp2
      go_ret
      refine ⟨?_, BW.out⟩
      rw [idxOf_miss (fun j z hz => AA.out j z (by have := HK.out; have := (List.getElem?_eq_some_iff.1 hz).1; omega) hz)]
      rfl
theorem contains_Pins (g : Nat) (cap : Array Value) (p : S24 → Bool) (A : Option Addr) (c : Nat) (xs : List S24) (w : World) (eg : ∀ args w, (callFunc g args).run Try.prog w = .ok (.enter g args) w)
    (hr : Kd.C k24 w A xs.length xs) (hp : PredPins g cap p xs w) :
    Calls Try.prog 70 #[.slice A xs.length c, .func (.func g) #[] cap] w fun e w' => e = .returned (.bool (xs.any p)) ∧ Below w.heap.size w w' := by
  rw [← idxOf_nonneg p xs]
  have HC := amk (idx_Pins g cap p A c xs w eg hr hp)
  clear hr hp
  go_enter Try.func70, Try.ntmps70
  go_wp2_with (go_at_call 77; refine HC.out.mono ?_; rintro e w' ⟨rfl, hb'⟩)
  go_ret
  exact ⟨rfl, hb'⟩
/-! impl.ofKind, by hand: it asks its pins through slices.ContainsFunc and a closure over the list. -/
def badB (l : List S24) (p : S24) : Bool := !pinsB p.f0 p.f1 || !(p.f0 == (rd_T24 l 0).f0) || !(p.f1.length == (rd_T24 l 0).f1.length)
def KindS (W : World) (gb : Nat) (ad : Addr) (n c : Nat) (y0 : Int) (y1 : Nat) (A1 : Option Addr) (c1 : Nat) (x0 : Int) (x1 : Nat) (A0 : Option Addr) (c0 : Nat) (w' : World) : Prop :=
  w'.cell? ⟨gb, 0, none⟩ = some (.slice (some ad) n c) ∧ w'.cell? ad = some (.int .i64 y0) ∧ w'.cell? ⟨ad.block, ad.off + 1, none⟩ = some (.slice A1 y1 c1) ∧ w'.cell? ⟨W.heap.size, 0, none⟩ = some (.int .i64 x0) ∧ w'.cell? ⟨W.heap.size, 1, none⟩ = some (.slice A0 x1 c0) ∧ Below W.heap.size W w' ∧ W.heap.size < w'.heap.size
theorem KindS_on {W : World} {gb : Nat} {ad : Addr} {n c : Nat} {y0 : Int} {y1 : Nat} {A1 : Option Addr} {c1 : Nat} {x0 : Int} {x1 : Nat} {A0 : Option Addr} {c0 : Nat} {w' w2 : World} (hB : gb < W.heap.size) (hA : ad.block < W.heap.size) (h : KindS W gb ad n c y0 y1 A1 c1 x0 x1 A0 c0 w') (hb : Below w'.heap.size w' w2) : KindS W gb ad n c y0 y1 A1 c1 x0 x1 A0 c0 w2 := by
  obtain ⟨h1, h2, h3, h4, h5, h6, h7⟩ := h
  have := hb.size
  exact ⟨(hb.cell (p := ⟨gb, 0, none⟩) (by show gb < _; omega)).trans h1, (hb.cell (by omega)).trans h2, (hb.cell (p := ⟨ad.block, ad.off + 1, none⟩) (by show ad.block < _; omega)).trans h3, (hb.cell (p := ⟨W.heap.size, 0, none⟩) h7).trans h4, (hb.cell (p := ⟨W.heap.size, 1, none⟩) h7).trans h5, h6.trans (hb.mono h6.size), by omega⟩
set_option maxHeartbeats 4000000 in
set_option maxRecDepth 100000 in
theorem ofKind_closure (l : List S24) (hl : 0 < l.length) (A : Option Addr) (c gb : Nat) (W : World) (hB : gb < W.heap.size) (h0 : W.cell? ⟨gb, 0, none⟩ = some (.slice A l.length c)) (hr : Kd.C k24 W A l.length l) (x : S24) (A0 : Option Addr) (c0 : Nat) (hc0 : x.f1.length ≤ c0) (hr0 : (Kd.slice 3 (Kd.int .i64)).C W A0 x.f1.length x.f1) :
    Calls Try.prog 71 #[.agg #[.int .i64 x.f0, .slice A0 x.f1.length c0], .pointer (some ⟨gb, 0, none⟩)] W fun e w' => e = .returned (.bool (badB l x)) ∧ Below W.heap.size W w' := by
  have hbx := hr0.2.1
  obtain ⟨ad, A1, c1, e, hq0, hq1, l1, g1⟩ := at_T24 hr 0 (by omega) (by omega)
  cases e
  have hby := g1.2.1
  have hll : decide (0 < (l.length : Int)) = true := decide_eq_true (by omega)
  have hu41 := Try.underlying24
  have hu35 := Try.underlying22
  have hu57 := Try.underlying25
  have HX := amk hr0
  have HC := amk hc0
  simp only [Int.toNat_zero, Nat.zero_mul] at hq0 hq1
  replace hq0 : W.cell? ad = _ := hq0
  replace hq1 : W.cell? ⟨ad.block, ad.off + 1, none⟩ = _ := hq1
  have hlz : (0 < l.length) = True := eq_true (by omega)
  clear hr hr0 hc0 g1 l1
  unfold badB
  generalize rd_T24 l 0 = y at hq0 hq1 hby ⊢
  have hab : ad.block < W.heap.size := World.block_lt_of_cell? W _ hq0
  have B1 : Below W.heap.size W (W.alloc (.cells #[.int .i64 x.f0, .slice A0 x.f1.length c0] 24)).drew := (ba_ (Below.refl _ W) _).drew
  have HS1 : Aside0 (KindS W gb ad l.length c y.f0 y.f1.length A1 c1 x.f0 x.f1.length A0 c0 (W.alloc (.cells #[.int .i64 x.f0, .slice A0 x.f1.length c0] 24)).drew) := ⟨(B1.cell (p := ⟨gb, 0, none⟩) hB).trans h0, (B1.cell hab).trans hq0, (B1.cell (p := ⟨ad.block, ad.off + 1, none⟩) hab).trans hq1, by simp, by simp, B1, by simp⟩
  have HLT := amk (And.intro hB hab)
  clear B1 hB hab hq0 hq1 h0
  cases hp : pinsB x.f0 x.f1 with
  | false =>
    have HP := amk (show impl_ArePins.f x.f0 x.f1 = some false by unfold impl_ArePins.f; rw [hp])
    clear hp
    show Calls Try.prog _ _ W fun e w' => e = .returned (.bool true) ∧ _
    go_enter Try.func71, Try.ntmps71
    go_wp2
    refine wp_region_quiet (C := KindS W gb ad l.length c y.f0 y.f1.length A1 c1 x.f0 x.f1.length A0 c0) (by kernel_rfl) (by kernel_rfl) HS1.out ?_
    simp only []
    repeat (first | go_big_quiet_skip | (go_big_quiet_want; unfold Oper.quiet; apply Exists.intro; refine ⟨fun w' hS => ?_, ?_⟩; (focus (have HSS := amk hS; obtain ⟨q1, q2, q3, q4, q5, q6, q7⟩ := hS; unfold Oper.quietAt; go_simp; first | done | exact ⟨rfl, rfl⟩ | exact rfl | (go_at_call 14; refine (impl_ArePins.calls _ _ _ _ _ _ (Kd.C_below HX.out q6) HC.out HP.out).mono ?_; rintro e w9 ⟨rfl, hb9⟩; exact ⟨rfl, KindS_on HLT.out.1 HLT.out.2 HSS.out hb9⟩))); simp only [Act.put, List.setIfInBounds_toArray, List.set_cons_zero, List.set_cons_succ]; go_big_quiet_on))
    refine wpQuiet_nil ?_
    intro w2 hS2
    obtain ⟨q1, q2, q3, q4, q5, q6, q7⟩ := hS2
    go_wp2
    go_ret
    exact ⟨rfl, q6⟩
  | true =>
    have HP := amk (show impl_ArePins.f x.f0 x.f1 = some true by unfold impl_ArePins.f; rw [hp])
    clear hp
    cases h1 : (x.f0 == y.f0) with
    | false =>
      show Calls Try.prog _ _ W fun e w' => e = .returned (.bool true) ∧ _
      have h1n : (x.f0 != y.f0) = true := by rw [bne, h1]; rfl
      go_enter Try.func71, Try.ntmps71
      go_wp2
      refine wp_region_quiet (C := KindS W gb ad l.length c y.f0 y.f1.length A1 c1 x.f0 x.f1.length A0 c0) (by kernel_rfl) (by kernel_rfl) HS1.out ?_
      simp only []
      repeat (first | go_big_quiet_skip | (go_big_quiet_want; unfold Oper.quiet; apply Exists.intro; refine ⟨fun w' hS => ?_, ?_⟩; (focus (have HSS := amk hS; obtain ⟨q1, q2, q3, q4, q5, q6, q7⟩ := hS; unfold Oper.quietAt; go_simp; first | done | exact ⟨rfl, rfl⟩ | exact rfl | (go_at_call 14; refine (impl_ArePins.calls _ _ _ _ _ _ (Kd.C_below HX.out q6) HC.out HP.out).mono ?_; rintro e w9 ⟨rfl, hb9⟩; exact ⟨rfl, KindS_on HLT.out.1 HLT.out.2 HSS.out hb9⟩))); simp only [Act.put, List.setIfInBounds_toArray, List.set_cons_zero, List.set_cons_succ]; go_big_quiet_on))
      refine wpQuiet_nil ?_
      intro w2 hS2
      obtain ⟨q1, q2, q3, q4, q5, q6, q7⟩ := hS2
      go_wp2
      go_ret
      exact ⟨rfl, q6⟩
    | true =>
      have h1n : (x.f0 != y.f0) = false := by rw [bne, h1]; rfl
      cases h2 : (x.f1.length == y.f1.length) with
      | false =>
        show Calls Try.prog _ _ W fun e w' => e = .returned (.bool true) ∧ _
        have h2n : ((x.f1.length : Int) != (y.f1.length : Int)) = true := by
          have := beq_eq_false_iff_ne.mp h2
          exact bne_iff_ne.mpr (by omega)
        go_enter Try.func71, Try.ntmps71
        go_wp2
        refine wp_region_quiet (C := KindS W gb ad l.length c y.f0 y.f1.length A1 c1 x.f0 x.f1.length A0 c0) (by kernel_rfl) (by kernel_rfl) HS1.out ?_
        simp only []
        repeat (first | go_big_quiet_skip | (go_big_quiet_want; unfold Oper.quiet; apply Exists.intro; refine ⟨fun w' hS => ?_, ?_⟩; (focus (have HSS := amk hS; obtain ⟨q1, q2, q3, q4, q5, q6, q7⟩ := hS; unfold Oper.quietAt; go_simp; first | done | exact ⟨rfl, rfl⟩ | exact rfl | (go_at_call 14; refine (impl_ArePins.calls _ _ _ _ _ _ (Kd.C_below HX.out q6) HC.out HP.out).mono ?_; rintro e w9 ⟨rfl, hb9⟩; exact ⟨rfl, KindS_on HLT.out.1 HLT.out.2 HSS.out hb9⟩))); simp only [Act.put, List.setIfInBounds_toArray, List.set_cons_zero, List.set_cons_succ]; go_big_quiet_on))
        refine wpQuiet_nil ?_
        intro w2 hS2
        obtain ⟨q1, q2, q3, q4, q5, q6, q7⟩ := hS2
        go_wp2
        go_ret
        exact ⟨rfl, q6⟩
      | true =>
        show Calls Try.prog _ _ W fun e w' => e = .returned (.bool false) ∧ _
        have h2n : ((x.f1.length : Int) != (y.f1.length : Int)) = false := by
          have := beq_iff_eq.mp h2
          simp only [this, bne_self_eq_false]
        go_enter Try.func71, Try.ntmps71
        go_wp2
        refine wp_region_quiet (C := KindS W gb ad l.length c y.f0 y.f1.length A1 c1 x.f0 x.f1.length A0 c0) (by kernel_rfl) (by kernel_rfl) HS1.out ?_
        simp only []
        repeat (first | go_big_quiet_skip | (go_big_quiet_want; unfold Oper.quiet; apply Exists.intro; refine ⟨fun w' hS => ?_, ?_⟩; (focus (have HSS := amk hS; obtain ⟨q1, q2, q3, q4, q5, q6, q7⟩ := hS; unfold Oper.quietAt; go_simp; first | done | exact ⟨rfl, rfl⟩ | exact rfl | (go_at_call 14; refine (impl_ArePins.calls _ _ _ _ _ _ (Kd.C_below HX.out q6) HC.out HP.out).mono ?_; rintro e w9 ⟨rfl, hb9⟩; exact ⟨rfl, KindS_on HLT.out.1 HLT.out.2 HSS.out hb9⟩))); simp only [Act.put, List.setIfInBounds_toArray, List.set_cons_zero, List.set_cons_succ]; go_big_quiet_on))
        refine wpQuiet_nil ?_
        intro w2 hS2
        obtain ⟨q1, q2, q3, q4, q5, q6, q7⟩ := hS2
        go_wp2
        go_ret
        exact ⟨rfl, q6⟩
def impl_ofKind.f (l : List S24) : Option Bool := some (kindB l)
set_option maxHeartbeats 2000000 in
set_option maxRecDepth 100000 in
theorem impl_ofKind.calls (A0 : Option Addr) (c0 : Nat) (l0 : List S24) (r : Bool) (w : World) (hr0 : Kd.C k24 w A0 l0.length l0) (hc0 : l0.length ≤ c0) (h : impl_ofKind.f l0 = some r) :
    Calls Try.prog 47 #[.slice A0 l0.length c0] w fun e w' => e = .returned (.bool r) ∧ Below w.heap.size w w' := by
  obtain rfl := Option.some.inj h
  clear h
  have hu57 := Try.underlying25
  have eg : ∀ args w, (callFunc 71 args).run Try.prog w = .ok (.enter 71 args) w := enters_of Try.func71 (by kernel_rfl) rfl
  have HE := amk eg
  clear eg
  have HR := amk hr0
  clear hr0
  unfold kindB
  by_cases h1 : 1 ≤ (l0.length : Int) ∧ (l0.length : Int) ≤ 6
  · rw [decide_eq_true h1, show (l0.all fun p => pinsB p.f0 p.f1 && (p.f0 == (rd_T24 l0 0).f0) && (p.f1.length == (rd_T24 l0 0).f1.length)) = !(l0.any (badB l0)) by rw [List.all_eq_not_any_not]; congr 2; funext p; simp [badB, Bool.not_and]]
    have hw1 := winB_yes h1
    generalize hz : (l0.any (badB l0)) = z
    have HZ := amk hz
    have H1 := amk h1
    clear hz h1
    go_enter Try.func47, Try.ntmps47
    go_wp2_with (first | (go_at_call 70; refine (contains_Pins 71 #[.pointer (some ⟨w.heap.size, 0, none⟩)] (badB l0) A0 c0 l0 _ HE.out (Kd.C_alloc HR.out _) (fun x _ W A1 c1 hW hc hr => (ofKind_closure l0 (by have := H1.out; omega) A0 c0 w.heap.size W (Nat.lt_of_lt_of_le (by simp) hW.size) ((hW.cell (p := ⟨w.heap.size, 0, none⟩) (by simp)).trans (by simp)) (Kd.C_below (Kd.C_alloc HR.out _) hW) x A1 c1 hc hr).mono (fun e w' ⟨h1, h2⟩ => ⟨h1, hW.trans (h2.mono hW.size)⟩))).mono ?_; rintro e w2 ⟨rfl, hb2⟩) | (go_at_call 43; refine (within_same _ _ _ _).mono ?_; rintro e w' ⟨rfl, rfl⟩))
    go_ret
    exact ⟨by rw [HZ.out]; rfl, ((Below.refl _ w).alloc (Nat.le_refl _) _).trans (hb2.mono (by simp))⟩
  · rw [decide_eq_false h1]
    have hw1 := winB_no h1
    clear h1
    go_enter Try.func47, Try.ntmps47
    go_wp2_with (go_at_call 43; refine (within_same _ _ _ _).mono ?_; rintro e w' ⟨rfl, rfl⟩)
    go_ret
    exact ⟨by simp, (Below.refl _ w).alloc (Nat.le_refl _) _⟩
/-! ### impl_CountShared: function 20 -/
def impl_CountShared.f (k : Nat) (l0 : List (S24)) : Option (Int × Bool) := (impl_ofKind.f l0).bind fun t293 => (if t293 = true then ((impl_shared.f k l0).bind fun bt294 => ((impl_Pins_keys.f k bt294.1 bt294.2).bind fun t298 => (some (t298, true)))) else (some (0, false)))
set_option maxHeartbeats 8000000 in
set_option maxRecDepth 100000 in
theorem impl_CountShared.calls (k : Nat) (A0 : Option Addr) (c0 : Nat) (l0 : List (S24)) (r1 : Int) (r2 : Bool) (w : World) (hr0 : Kd.C k24 w A0 l0.length l0) (hc0 : l0.length ≤ c0) (h : impl_CountShared.f k l0 = some (r1, r2)) :
    Calls Try.prog 20 #[.slice A0 l0.length c0] w fun e w' => e = .returned (.tuple #[.int .i64 r1, .bool r2]) ∧ Below w.heap.size w w' := by
  have HR0 := amk hr0
  have HC0 := amk hc0
  clear hr0 hc0
  have HB := amk (Below.refl w.heap.size w)
  have H : ((impl_ofKind.f l0).bind fun t293 => (if t293 = true then ((impl_shared.f k l0).bind fun bt294 => ((impl_Pins_keys.f k bt294.1 bt294.2).bind fun t298 => (some (t298, true)))) else (some (0, false)))) = some (r1, r2) := h
  clear h
  replace H := bE H
  obtain ⟨t293, A2, H⟩ := H
  replace H := iteB H; obtain ⟨rfl, H⟩ | ⟨rfl, H⟩ := H
  · replace H := Option.bind_eq_some_iff.mp H
    obtain ⟨⟨t294, t295⟩, A40, H⟩ := H
    replace H : ((impl_Pins_keys.f k t294 t295).bind fun t298 => (some (t298, true))) = some (r1, r2) := H
    have A4 := amk A40
    clear A40
    replace H := bE H
    obtain ⟨t298, A5, H⟩ := H
    simp only [Option.some.injEq, Prod.mk.injEq] at H
    obtain ⟨rfl, rfl⟩ := H
    go_enter Try.func20, Try.ntmps20
    go_wp2_with (first | (refine gc_ 47 5 Try.func47 #[.slice A0 l0.length c0] ?_; (with_reducible refine (impl_ofKind.calls _ _ l0 true _ ?_ ?_ A2.out).mono ?_); exact cB HR0.out; exact HC0.out; rintro e w6 ⟨rfl, hb⟩; refine ⟨_, rfl, ?_⟩; replace HB := hB2 HB hb; (try clear hb)) | (refine gc_ 48 8 Try.func48 #[.slice A0 l0.length c0] ?_; (with_reducible refine (impl_shared.calls k _ _ l0 t294 t295 _ ?_ ?_ A4.out).mono ?_); exact cB (Kd.C_below HR0.out HB.out); exact HC0.out; rintro e w7 ⟨v296, rfl, ho0, hb⟩; refine ⟨_, rfl, ?_⟩; have HO297 := amk (Kd.S_lower ho0 (below_size bB)); replace HB := hB2 HB hb; (try clear hb); (try clear ho0); obtain ⟨Ao8, co8, eo8⟩ := Kd.S_slice HO297.out; subst eo8) | (refine gc_ 39 9 Try.func39 #[.agg #[.int .i64 t294, .slice Ao8 t295.length co8]] ?_; (with_reducible refine (impl_Pins_keys.calls k t294 _ _ t295 t298 _ ?_ ?_ A5.out).mono ?_); exact cB ((Kd.S_reads' HO297.out).2.2); exact (Kd.S_reads' HO297.out).2.1; rintro e w9 ⟨rfl, hb⟩; refine ⟨_, rfl, ?_⟩; replace HO297 := amk (Kd.S_below (oX HO297) hb); replace HB := hB2 HB hb; (try clear hb)))
    go_ret2
    exact ⟨rF_, bB⟩
  · simp only [Option.some.injEq, Prod.mk.injEq] at H
    obtain ⟨rfl, rfl⟩ := H
    go_enter Try.func20, Try.ntmps20
    go_wp2_with (first | (refine gc_ 47 5 Try.func47 #[.slice A0 l0.length c0] ?_; (with_reducible refine (impl_ofKind.calls _ _ l0 false _ ?_ ?_ A2.out).mono ?_); exact cB HR0.out; exact HC0.out; rintro e w10 ⟨rfl, hb⟩; refine ⟨_, rfl, ?_⟩; replace HB := hB2 HB hb; (try clear hb)))
    go_ret2
    exact ⟨rF_, bB⟩
/-! ### impl_isDepthText: function 61 -/
def impl_isDepthText.l0 : Nat → Int → ByteArray → Int → Int → Option (Bool)
  | 0, _, _, _, _ => none
  | k + 1, x0, x1, x7, x8 => if x8 < x7 then (if 0 ≤ x8 then (if x8 < (x1.size : Int) then ((impl_within.f (wrap64 (bt x1 x8)) 48 (wrap64 ((wrap64 (48 + x0)) - 1))).bind fun t104 => (if t104 = true then (impl_isDepthText.l0 k x0 x1 x7 (wrap64 (x8 + 1))) else (some false))) else (none)) else (none)) else ((impl_within.f x0 1 9).bind fun t105 => (if t105 = true then ((impl_within.f (x1.size : Int) 1 7).bind fun t106 => (some t106)) else (some false)))
def impl_isDepthText.f (k : Nat) (a0 : Int) (a1 : ByteArray) : Option (Bool) := impl_isDepthText.l0 k a0 a1 (a1.size : Int) 0
set_option maxHeartbeats 8000000 in
set_option maxRecDepth 100000 in
theorem impl_isDepthText.calls (k : Nat) (a0 : Int) (a1 : ByteArray) (r : Bool) (w : World) (h : impl_isDepthText.f k a0 a1 = some r) :
    Calls Try.prog 61 #[.int .i64 a0, .string a1] w fun e w' => e = .returned (.bool r) ∧ Drawn0 w w' := by
  have H : (impl_isDepthText.l0 k a0 a1 (a1.size : Int) 0) = some r := h
  clear h
  have H' := amk H
  clear H
  go_enter Try.func61, Try.ntmps61
  go_wp2
  go_loopg [8] k (fun kq v8 w' => ∃ (x8_1 : Int), v8 = .int .i64 x8_1 ∧ Aside0 (impl_isDepthText.l0 kq a0 a1 (a1.size : Int) x8_1 = some r) ∧ Aside0 (kq ≤ k) ∧ Drawn0 w w')
  case atStart => exact ⟨(0), rS_, H', ⟨Nat.le_refl _⟩, dR_⟩
  case round =>
    clear H'
    try clear p2
    obtain ⟨x8_1, rfl, HA, HK1, ⟨m1, rfl⟩⟩ := hrel
    cases gk with
    | zero => exact absurd HA.out (by simp [impl_isDepthText.l0])
    | succ k1 =>
      have H := HA.out
      clear HA
      simp only [impl_isDepthText.l0] at H
      replace H := iteE H; obtain ⟨c3b0, H⟩ | ⟨c3b0, H⟩ := H
      · replace H := iteN H; obtain ⟨c4b0, H⟩ := H
        replace H := iteN H; obtain ⟨c5b0, H⟩ := H
        replace H := bE H
        obtain ⟨t104, A7, H⟩ := H
        replace H := iteB H; obtain ⟨rfl, H⟩ | ⟨rfl, H⟩ := H
        · have H' := amk H
          clear H
          have p6 : 0 ≤ (x8_1 : Int) := dA_
          have q6 : x8_1 < (a1.size : Int) := dA_
          have hx6 := bt_at a1 x8_1
          replace p6 := eq_true p6
          replace q6 := eq_true q6
          go_wp2_with (first | (refine gc_ 43 18 Try.func43 #[.int .i64 (wrap64 (bt a1 x8_1)), .int .i64 48, .int .i64 (wrap64 ((wrap64 (48 + a0)) - 1))] ?_; (with_reducible refine (impl_within.calls (wrap64 (bt a1 x8_1)) 48 (wrap64 ((wrap64 (48 + a0)) - 1)) true _ A7.out).mono ?_); rintro e w' ⟨rfl, ⟨nd, rfl⟩⟩; refine ⟨_, rfl, ?_⟩))
          go_roundg k1
          case measure => have := HK1.out; omega
          case rel => exact ⟨(wrap64 (x8_1 + 1)), rS_, H', ⟨by have := HK1.out; omega⟩, dR_⟩
        · obtain rfl := Option.some.inj H
          have p6 : 0 ≤ (x8_1 : Int) := dA_
          have q6 : x8_1 < (a1.size : Int) := dA_
          have hx6 := bt_at a1 x8_1
          replace p6 := eq_true p6
          replace q6 := eq_true q6
          go_wp2_with (first | (refine gc_ 43 18 Try.func43 #[.int .i64 (wrap64 (bt a1 x8_1)), .int .i64 48, .int .i64 (wrap64 ((wrap64 (48 + a0)) - 1))] ?_; (with_reducible refine (impl_within.calls (wrap64 (bt a1 x8_1)) 48 (wrap64 ((wrap64 (48 + a0)) - 1)) false _ A7.out).mono ?_); rintro e w' ⟨rfl, ⟨nd, rfl⟩⟩; refine ⟨_, rfl, ?_⟩))
          go_ret
          exact ⟨rS_, dR_⟩
      · replace H := Option.bind_eq_some_iff.mp H
        obtain ⟨t105, A90, H⟩ := H
        replace H : (if t105 = true then ((impl_within.f (a1.size : Int) 1 7).bind fun t106 => (some t106)) else (some false)) = some r := H
        have A9 := amk A90
        clear A90
        replace H := iteB H; obtain ⟨rfl, H⟩ | ⟨rfl, H⟩ := H
        · replace H := Option.bind_eq_some_iff.mp H
          obtain ⟨t106, A110, H⟩ := H
          replace H : (some t106) = some r := H
          have A11 := amk A110
          clear A110
          obtain rfl := Option.some.inj H
          go_wp2_with (first | (refine gc_ 43 22 Try.func43 #[.int .i64 a0, .int .i64 1, .int .i64 9] ?_; (with_reducible refine (impl_within.calls a0 1 9 true _ A9.out).mono ?_); rintro e w' ⟨rfl, ⟨nd, rfl⟩⟩; refine ⟨_, rfl, ?_⟩) | (go_at_call 43; (with_reducible refine (impl_within.calls (a1.size : Int) 1 7 t106 _ A11.out).mono ?_); rintro e w' ⟨rfl, ⟨nd, rfl⟩⟩))
          go_ret
          exact ⟨rS_, dR_⟩
        · obtain rfl := Option.some.inj H
          go_wp2_with (first | (refine gc_ 43 22 Try.func43 #[.int .i64 a0, .int .i64 1, .int .i64 9] ?_; (with_reducible refine (impl_within.calls a0 1 9 false _ A9.out).mono ?_); rintro e w' ⟨rfl, ⟨nd, rfl⟩⟩; refine ⟨_, rfl, ?_⟩))
          go_ret
          exact ⟨rS_, dR_⟩
/-! ### impl_Pins_isKey: function 33 -/
def impl_Pins_isKey.f (k : Nat) (a0_0 : Int) (l0_1 : List (List Int)) (a1 : ByteArray) : Option (Bool) := if (a1.size : Int) = (l0_1.length : Int) then ((impl_isDepthText.f k a0_0 a1).bind fun t108 => (some t108)) else (some false)
set_option maxHeartbeats 8000000 in
set_option maxRecDepth 100000 in
theorem impl_Pins_isKey.calls (k : Nat) (a0_0 : Int) (A0_1 : Option Addr) (c0_1 : Nat) (l0_1 : List (List Int)) (a1 : ByteArray) (r : Bool) (w : World) (hr0_1 : Kd.C (Kd.slice 3 (Kd.int .i64)) w A0_1 l0_1.length l0_1) (hc0_1 : l0_1.length ≤ c0_1) (h : impl_Pins_isKey.f k a0_0 l0_1 a1 = some r) :
    Calls Try.prog 33 #[.agg #[.int .i64 a0_0, .slice A0_1 l0_1.length c0_1], .string a1] w fun e w' => e = .returned (.bool r) ∧ Below w.heap.size w w' := by
  have hu24 := Try.underlying24
  have HR0_1 := amk hr0_1
  have HC0_1 := amk hc0_1
  clear hr0_1 hc0_1
  have HB := amk (Below.refl w.heap.size w)
  have H : (if (a1.size : Int) = (l0_1.length : Int) then ((impl_isDepthText.f k a0_0 a1).bind fun t108 => (some t108)) else (some false)) = some r := h
  clear h
  by_cases c3 : (a1.size : Int) = (l0_1.length : Int)
  · rw [if_pos c3] at H
    have c3b0 : ((a1.size : Int) == (l0_1.length : Int)) = true := beq_iff_eq.mpr c3
    have c3b1 : ((a1.size : Int) != (l0_1.length : Int)) = false := bne_eq_false_iff_eq.mpr c3
    have c3b2 : (a1.size == l0_1.length) = true := by first | simpa using c3 | (simp at c3 ⊢; omega)
    clear c3
    replace H := bE H
    obtain ⟨t108, A4, H⟩ := H
    obtain rfl := Option.some.inj H
    go_enter Try.func33, Try.ntmps33
    go_wp2_with (first | ((with_reducible refine gate_dst (N := 2) rfl ?_); refine boxE_ HB 2 #[.int .i64 a0_0, .slice A0_1 l0_1.length c0_1] 24 ?_; clear HB; intro gb107 w5 HB BK107 GW107 GE107 hb; clear hb; obtain ⟨hcz6_0, hcz6_1, hfz6_0, hfz6_1, _⟩ := two_cells BK107.out) | (go_at_call 61; (with_reducible refine (impl_isDepthText.calls k a0_0 a1 t108 _ A4.out).mono ?_); rintro e w' ⟨rfl, ⟨nd, rfl⟩⟩))
    go_ret
    exact ⟨rF_, bB⟩
  · rw [if_neg c3] at H
    have c3b0 : ((a1.size : Int) == (l0_1.length : Int)) = false := beq_eq_false_iff_ne.mpr c3
    have c3b1 : ((a1.size : Int) != (l0_1.length : Int)) = true := bne_iff_ne.mpr c3
    have c3b2 : (a1.size == l0_1.length) = false := by first | simpa using c3 | (simp at c3 ⊢; omega)
    obtain rfl := Option.some.inj H
    go_enter Try.func33, Try.ntmps33
    go_wp2_with (first | ((with_reducible refine gate_dst (N := 2) rfl ?_); refine boxE_ HB 2 #[.int .i64 a0_0, .slice A0_1 l0_1.length c0_1] 24 ?_; clear HB; intro gb107 w7 HB BK107 GW107 GE107 hb; clear hb; obtain ⟨hcz8_0, hcz8_1, hfz8_0, hfz8_1, _⟩ := two_cells BK107.out))
    go_ret
    exact ⟨rF_, bB⟩
/-! ### impl_digits: function 34 -/
def impl_digits.l0 : Nat → ByteArray → List Int → Int → Int → Option (List Int)
  | 0, _, _, _, _ => none
  | k + 1, x0, x3, x7, x8 => if x8 < x7 then (if 0 ≤ x8 then (if x8 < (x0.size : Int) then (if x3.length < 17592186044416 then (impl_digits.l0 k x0 (x3 ++ [((bt x0 x8) - 48) % 256]) x7 (wrap64 (x8 + 1))) else (none)) else (none)) else (none)) else (some x3)
def impl_digits.f (k : Nat) (a0 : ByteArray) : Option (List Int) := impl_digits.l0 k a0 (([] : List Int)) (a0.size : Int) 0
set_option maxHeartbeats 8000000 in
set_option maxRecDepth 100000 in
theorem impl_digits.calls (k : Nat) (a0 : ByteArray) (r : List Int) (w : World) (h : impl_digits.f k a0 = some r) :
    Calls Try.prog 34 #[.string a0] w fun e w' => ∃ v0_ : Value, e = .returned (v0_) ∧ Kd.R (Kd.int .i64) 3 w' w.heap.size (fun _ => True) v0_ r ∧ Below w.heap.size w w' := by
  have HB := amk (Below.refl w.heap.size w)
  have H : (impl_digits.l0 k a0 (([] : List Int)) (a0.size : Int) 0) = some r := h
  clear h
  obtain ⟨y109, hy109⟩ : ∃ y_ : List Int, y_ = (([] : List Int)) := ⟨_, rfl⟩
  replace H : (impl_digits.l0 k a0 y109 (a0.size : Int) 0) = some r := by first | (rw [hy109]; with_reducible exact H) | (have H2_ := (Option.bind_some _ _).symm.trans H; rw [hy109]; with_reducible exact H2_) | (have H2_ := (Option.bind_some _ _).symm.trans H; with_reducible exact H2_) | with_reducible exact H | (rw [hy109]; exact H) | exact H
  have Ny109 := amk hy109
  clear hy109
  have H' := amk H
  clear H
  go_enter Try.func34, Try.ntmps34
  go_wp2_with (first | ((with_reducible refine gate_dst (N := 5) rfl ?_); refine Kd.R_lit (Kd.int .i64) _ 3 ?hg (N := 5) ?hd (xs := ([] : List Int)) (inner := []) (ok := fun _ => True) (okp := fun _ => True) ?hr ?hp (fun _ hk => hk) trivial (Below.refl _ _) (Nat.le_refl _) (by simp) ?_; (case hd => rfl); (case hg => rfl); (case hr => first | (go_simp; done) | (go_simp; rfl)); (case hp => exact (Reps.none _ _)); intro v110 w2 ho3 hb hg_ hnew_; clear hg_ hnew_; (first | rw [← Ny109.out] at ho3 | (simp only [Int.reduceToNat] at ho3; rw [← Ny109.out] at ho3)); have HO111 := amk (Kd.R_lower ho3 (below_size bB)); replace HB := hB2 HB hb; clear hb ho3))
  go_loopg [3, 8] k (fun kq v3 v8 w' => ∃ (x3_1 : List Int) (x8_1 : Int), v8 = .int .i64 x8_1 ∧ Aside0 (impl_digits.l0 kq a0 x3_1 (a0.size : Int) x8_1 = some r) ∧ Aside0 (kq ≤ k) ∧ Aside0 (Kd.R (Kd.int .i64) 3 w' w.heap.size (fun _ => True) v3 x3_1) ∧ Aside0 (Below w.heap.size w w'))
  case atStart => exact ⟨(y109), (0), rS_, H', ⟨Nat.le_refl _⟩, ⟨oX HO111⟩, ⟨bB⟩⟩
  case round =>
    clear H'
    try clear p2; try clear c3
    obtain ⟨x3_1, x8_1, rfl, HA, HK1, HO_3, HB⟩ := hrel
    cases gk with
    | zero => exact absurd HA.out (by simp [impl_digits.l0])
    | succ k1 =>
      have H := HA.out
      clear HA
      simp only [impl_digits.l0] at H
      replace H := iteE H; obtain ⟨c4b0, H⟩ | ⟨c4b0, H⟩ := H
      · replace H := iteN H; obtain ⟨c5b0, H⟩ := H
        replace H := iteN H; obtain ⟨c6b0, H⟩ := H
        by_cases c8 : x3_1.length < 17592186044416
        · rw [if_pos c8] at H
          have LMc8 := amk c8
          clear c8
          obtain ⟨y112, hy112⟩ : ∃ y_ : List Int, y_ = (x3_1 ++ [((bt a0 x8_1) - 48) % 256]) := ⟨_, rfl⟩
          replace H : (impl_digits.l0 k1 a0 y112 (a0.size : Int) (wrap64 (x8_1 + 1))) = some r := by first | (rw [hy112]; with_reducible exact H) | (have H2_ := (Option.bind_some _ _).symm.trans H; rw [hy112]; with_reducible exact H2_) | (have H2_ := (Option.bind_some _ _).symm.trans H; with_reducible exact H2_) | with_reducible exact H | (rw [hy112]; exact H) | exact H
          have Ny112 := amk hy112
          clear hy112
          have H' := amk H
          clear H
          have p7 : 0 ≤ (x8_1 : Int) := dA_
          have q7 : x8_1 < (a0.size : Int) := dA_
          have hx7 := bt_at a0 x8_1
          replace p7 := eq_true p7
          replace q7 := eq_true q7
          go_wp2_with (first | ((with_reducible refine gate_builtin (b := .append) (xs := #[.tmp 11, .tmp 17]) rfl ?_); at_builtin; refine Kd.R_append (Kd.int .i64) (w0 := w) w.heap.size rfl (.tmp 11) (.tmp 17) 52 3 (.int .i64 0) 8 rfl Try.underlying52 info3 rfl (by decide) (by omega) u3 x3_1 (((bt a0 x8_1) - 48) % 256) [.int .i64 (((bt a0 x8_1) - 48) % 256)] (fun _ => True) (fun _ => False) rfl rfl rfl (fun _ hk => hk.elim) (fun _ _ => trivial) (oX HO_3) bB (below_size bB) (by have := LMc8.out; omega) ?_; intro v113 w9 ho hb hg hat; rw [← Ny112.out] at ho; replace HB := amk (hb); have HO114 := amk (ho); clear HO_3; clear ho hb hg hat))
          go_roundg k1
          case measure => have := HK1.out; omega
          case rel => exact ⟨(y112), (wrap64 (x8_1 + 1)), rS_, H', ⟨by have := HK1.out; omega⟩, ⟨oX HO114⟩, ⟨bB⟩⟩
        · rw [if_neg c8] at H
          exact absurd H (by simp)
      · obtain rfl := Option.some.inj H
        go_wp2
        go_ret
        exact ⟨_, rF_, oX HO_3, bB⟩
/-! ### impl_DoesOpen: function 5 -/
mutual
def impl_DoesOpen.j0 : Nat → ByteArray → Bool → Int → List (List Int) → Option (Bool × Bool)
  | 0, _, _, _, _ => none
  | k + 1, x1, x16, x118000, x118001 => if x16 = true then (some (false, false)) else ((impl_digits.f k x1).bind fun t120 => (impl_DoesOpen.l0 k t120 (t120.length : Int) 0 x118000 x118001))
def impl_DoesOpen.l0 : Nat → List Int → Int → Int → Int → List (List Int) → Option (Bool × Bool)
  | 0, _, _, _, _, _ => none
  | k + 1, x18, x19, x20, x118000, x118001 => if x20 < x19 then (if 0 ≤ x20 then (if x20 < (x18.length : Int) then (if x20 < (x118001.length : Int) then ((slices_Contains_int_int.f k (rd_L1 x118001 x20) (rd x18 x20)).bind fun t125 => (if t125 = true then (impl_DoesOpen.l0 k x18 x19 (wrap64 (x20 + 1)) x118000 x118001) else (some (false, true)))) else (none)) else (none)) else (none)) else (some (true, true))
end
def impl_DoesOpen.f (k : Nat) (a0_0 : Int) (l0_1 : List (List Int)) (a1 : ByteArray) : Option (Bool × Bool) := (impl_ArePins.f a0_0 l0_1).bind fun t118 => (if t118 = true then ((impl_Pins_isKey.f k a0_0 l0_1 a1).bind fun t119 => (impl_DoesOpen.j0 k a1 (!t119) a0_0 l0_1)) else (impl_DoesOpen.j0 k a1 true a0_0 l0_1))
set_option maxHeartbeats 8000000 in
set_option maxRecDepth 100000 in
theorem impl_DoesOpen.calls (k : Nat) (a0_0 : Int) (A0_1 : Option Addr) (c0_1 : Nat) (l0_1 : List (List Int)) (a1 : ByteArray) (r1 : Bool) (r2 : Bool) (w : World) (hr0_1 : Kd.C (Kd.slice 3 (Kd.int .i64)) w A0_1 l0_1.length l0_1) (hc0_1 : l0_1.length ≤ c0_1) (h : impl_DoesOpen.f k a0_0 l0_1 a1 = some (r1, r2)) :
    Calls Try.prog 5 #[.agg #[.int .i64 a0_0, .slice A0_1 l0_1.length c0_1], .string a1] w fun e w' => e = .returned (.tuple #[.bool r1, .bool r2]) ∧ Below w.heap.size w w' := by
  have hu24 := Try.underlying24
  have HR0_1 := amk hr0_1
  have HC0_1 := amk hc0_1
  clear hr0_1 hc0_1
  have HB := amk (Below.refl w.heap.size w)
  have H : ((impl_ArePins.f a0_0 l0_1).bind fun t118 => (if t118 = true then ((impl_Pins_isKey.f k a0_0 l0_1 a1).bind fun t119 => (impl_DoesOpen.j0 k a1 (!t119) a0_0 l0_1)) else (impl_DoesOpen.j0 k a1 true a0_0 l0_1))) = some (r1, r2) := h
  clear h
  have HC3 := amk H
  clear H
  go_enter Try.func5, Try.ntmps5
  go_upto_region 1 with (first | ((with_reducible refine gate_dst (N := 2) rfl ?_); refine boxE_ HB 2 #[.int .i64 a0_0, .slice A0_1 l0_1.length c0_1] 24 ?_; clear HB; intro gb117 w4 HB BK117 GW117 GE117 hb; clear hb))
  (try simp only [Act.put, List.setIfInBounds_toArray, List.set_cons_zero, List.set_cons_succ])
  go_cut [16] (fun v16 wc => ∃ (kq : Nat) (x16_2 : Bool), v16 = .bool x16_2 ∧ Aside0 (impl_DoesOpen.j0 kq a1 x16_2 a0_0 l0_1 = some (r1, r2)) ∧ Aside0 (kq ≤ k) ∧ Aside0 (wc.heap[gb117]? = some (.cells #[.int .i64 a0_0, (.slice A0_1 l0_1.length c0_1)] 24 (0, 0))) ∧ Aside0 (Below w.heap.size w wc))
  case first =>
    have H := HC3.out
    clear HC3
    replace H := bE H
    obtain ⟨t118, A5, H⟩ := H
    replace H := iteB H; obtain ⟨rfl, H⟩ | ⟨rfl, H⟩ := H
    · replace H := Option.bind_eq_some_iff.mp H
      obtain ⟨t119, A70, H⟩ := H
      replace H : (impl_DoesOpen.j0 k a1 (!t119) a0_0 l0_1) = some (r1, r2) := H
      have A7 := amk A70
      clear A70
      have H' := amk H
      clear H
      obtain ⟨hcz8_0, hcz8_1, hfz8_0, hfz8_1, _⟩ := two_cells BK117.out
      go_wp2_with (first | (refine gc_ 14 9 Try.func14 #[.agg #[.int .i64 a0_0, .slice A0_1 l0_1.length c0_1]] ?_; (with_reducible refine (impl_ArePins.calls a0_0 _ _ l0_1 true _ ?_ ?_ A5.out).mono ?_); exact cB (Kd.C_below HR0_1.out HB.out); exact HC0_1.out; rintro e w9 ⟨rfl, hb⟩; refine ⟨_, rfl, ?_⟩; replace BK117 := kb2 BK117 hb; replace HB := hB2 HB hb; (try clear hb); obtain ⟨hcz10_0, hcz10_1, hfz10_0, hfz10_1, _⟩ := two_cells BK117.out) | (go_at_call 33; (with_reducible refine (impl_Pins_isKey.calls k a0_0 _ _ l0_1 a1 t119 _ ?_ ?_ A7.out).mono ?_); exact cB (Kd.C_below HR0_1.out HB.out); exact HC0_1.out; rintro e w11 ⟨rfl, hb⟩; replace BK117 := kb2 BK117 hb; replace HB := hB2 HB hb; (try clear hb)))
      go_meet
      case rel => exact ⟨_, (!t119), rS_, H', ⟨by first | omega | exact Nat.le_refl _⟩, ⟨kB BK117⟩, ⟨bB⟩⟩
    · have H' := amk H
      clear H
      obtain ⟨hcz12_0, hcz12_1, hfz12_0, hfz12_1, _⟩ := two_cells BK117.out
      go_wp2_with (first | (refine gc_ 14 9 Try.func14 #[.agg #[.int .i64 a0_0, .slice A0_1 l0_1.length c0_1]] ?_; (with_reducible refine (impl_ArePins.calls a0_0 _ _ l0_1 false _ ?_ ?_ A5.out).mono ?_); exact cB (Kd.C_below HR0_1.out HB.out); exact HC0_1.out; rintro e w13 ⟨rfl, hb⟩; refine ⟨_, rfl, ?_⟩; replace BK117 := kb2 BK117 hb; replace HB := hB2 HB hb; (try clear hb)))
      go_meet
      case rel => exact ⟨_, (true), rS_, H', ⟨by first | omega | exact Nat.le_refl _⟩, ⟨kB BK117⟩, ⟨bB⟩⟩
  case rest =>
    clear HC3
    try clear c1; try clear p2; try clear c5; try clear c6; try clear hcz10_0; try clear hcz10_1; try clear hcz12_0; try clear hcz12_1; try clear hcz8_0; try clear hcz8_1; try clear hfz10_0; try clear hfz10_1; try clear hfz12_0; try clear hfz12_1; try clear hfz8_0; try clear hfz8_1
    obtain ⟨kq, x16_2, rfl, HA, HJ2, BK117, HB⟩ := hcut
    cases kq with
    | zero => exact absurd HA.out (by simp [impl_DoesOpen.j0])
    | succ kj2 =>
      have H := HA.out
      clear HA
      simp only [impl_DoesOpen.j0] at H
      replace H := iteB H; obtain ⟨rfl, H⟩ | ⟨rfl, H⟩ := H
      · simp only [Option.some.injEq, Prod.mk.injEq] at H
        obtain ⟨rfl, rfl⟩ := H
        go_wp2
        go_ret2
        exact ⟨rF_, bB⟩
      · replace H := Option.bind_eq_some_iff.mp H
        obtain ⟨t120, A150, H⟩ := H
        replace H : (impl_DoesOpen.l0 kj2 t120 (t120.length : Int) 0 a0_0 l0_1) = some (r1, r2) := H
        have A15 := amk A150
        clear A150
        have H' := amk H
        clear H
        go_wp2_with (first | (refine gc_ 34 18 Try.func34 #[.string a1] ?_; (with_reducible refine (impl_digits.calls kj2 a1 t120 _ A15.out).mono ?_); rintro e w16 ⟨v121, rfl, ho0, hb⟩; refine ⟨_, rfl, ?_⟩; have HO122 := amk (Kd.R_lower ho0 (below_size bB)); replace BK117 := kb2 BK117 hb; replace HB := hB2 HB hb; (try clear hb); (try clear ho0); obtain ⟨Ao17, co17, eo17⟩ := Kd.R_slice HO122.out; subst eo17))
        go_loopg [20] kj2 (fun kq v20 w' => ∃ (x20_2 : Int), v20 = .int .i64 x20_2 ∧ Aside0 (impl_DoesOpen.l0 kq t120 (t120.length : Int) x20_2 a0_0 l0_1 = some (r1, r2)) ∧ Aside0 (kq ≤ kj2) ∧ Aside0 (Kd.R (Kd.int .i64) 3 w' w.heap.size (fun _ => True) (.slice Ao17 t120.length co17) t120) ∧ Aside0 (w'.heap[gb117]? = some (.cells #[.int .i64 a0_0, (.slice A0_1 l0_1.length c0_1)] 24 (0, 0))) ∧ Aside0 (Below w.heap.size w w'))
        case atStart => exact ⟨(0), rS_, H', ⟨Nat.le_refl _⟩, ⟨oX HO122⟩, ⟨kB BK117⟩, ⟨bB⟩⟩
        case round =>
          clear H'
          try clear c1; try clear p2; try clear c3; try clear c5; try clear c6; try clear c14; try clear hcz10_0; try clear hcz10_1; try clear hcz12_0; try clear hcz12_1; try clear hcz8_0; try clear hcz8_1; try clear hfz10_0; try clear hfz10_1; try clear hfz12_0; try clear hfz12_1; try clear hfz8_0; try clear hfz8_1; try clear p2
          obtain ⟨x20_2, rfl, HA, HK2, HO_18, BK117, HB⟩ := hrel
          cases gk with
          | zero => exact absurd HA.out (by simp [impl_DoesOpen.l0])
          | succ k2 =>
            have H := HA.out
            clear HA
            simp only [impl_DoesOpen.l0] at H
            replace H := iteE H; obtain ⟨c18b0, H⟩ | ⟨c18b0, H⟩ := H
            · replace H := iteN H; obtain ⟨c19b0, H⟩ := H
              replace H := iteN H; obtain ⟨c20b0, H⟩ := H
              replace H := iteN H; obtain ⟨c21b0, H⟩ := H
              replace H := bE H
              obtain ⟨t125, A22, H⟩ := H
              replace H := iteB H; obtain ⟨rfl, H⟩ | ⟨rfl, H⟩ := H
              · have H' := amk H
                clear H
                have p123 : 0 ≤ (x20_2 : Int) := dA_
                have q123 : x20_2 < (t120.length : Int) := dA_
                obtain ⟨ad123, e123, hx123_0⟩ := Kd.at_int (Kd.R_reads' HO_18.out).2.2 x20_2 p123 q123
                cases e123
                replace p123 := eq_true p123
                replace q123 := eq_true q123
                obtain ⟨hcz24_0, hcz24_1, hfz24_0, hfz24_1, _⟩ := two_cells BK117.out
                obtain ⟨p124, q124, ad124, A124_0, c124_0, e124, hx124_0, HC124_0, HR124_0⟩ := at_L1q HR0_1 HB x20_2
                cases e124
                go_wp2_with (first | (refine gc_ 35 31 Try.func35 #[.slice A124_0 (rd_L1 l0_1 x20_2).length c124_0, .int .i64 (rd t120 x20_2)] ?_; (with_reducible refine (slices_Contains_int_int.calls k2 _ _ (rd_L1 l0_1 x20_2) (rd t120 x20_2) true _ ?_ ?_ A22.out).mono ?_); exact cB (Kd.C_below HR124_0.out HB.out); exact HC124_0.out; rintro e w' ⟨rfl, ⟨nd, rfl⟩⟩; refine ⟨_, rfl, ?_⟩))
                go_roundg k2
                case measure => have := HJ2.out; have := HK2.out; omega
                case rel => exact ⟨(wrap64 (x20_2 + 1)), rS_, H', ⟨by have := HJ2.out; have := HK2.out; omega⟩, ⟨oX HO_18⟩, ⟨kB BK117⟩, ⟨bB⟩⟩
              · simp only [Option.some.injEq, Prod.mk.injEq] at H
                obtain ⟨rfl, rfl⟩ := H
                have p123 : 0 ≤ (x20_2 : Int) := dA_
                have q123 : x20_2 < (t120.length : Int) := dA_
                obtain ⟨ad123, e123, hx123_0⟩ := Kd.at_int (Kd.R_reads' HO_18.out).2.2 x20_2 p123 q123
                cases e123
                replace p123 := eq_true p123
                replace q123 := eq_true q123
                obtain ⟨hcz25_0, hcz25_1, hfz25_0, hfz25_1, _⟩ := two_cells BK117.out
                obtain ⟨p124, q124, ad124, A124_0, c124_0, e124, hx124_0, HC124_0, HR124_0⟩ := at_L1q HR0_1 HB x20_2
                cases e124
                go_wp2_with (first | (refine gc_ 35 31 Try.func35 #[.slice A124_0 (rd_L1 l0_1 x20_2).length c124_0, .int .i64 (rd t120 x20_2)] ?_; (with_reducible refine (slices_Contains_int_int.calls k2 _ _ (rd_L1 l0_1 x20_2) (rd t120 x20_2) false _ ?_ ?_ A22.out).mono ?_); exact cB (Kd.C_below HR124_0.out HB.out); exact HC124_0.out; rintro e w' ⟨rfl, ⟨nd, rfl⟩⟩; refine ⟨_, rfl, ?_⟩))
                go_ret2
                exact ⟨rF_, bB⟩
            · simp only [Option.some.injEq, Prod.mk.injEq] at H
              obtain ⟨rfl, rfl⟩ := H
              go_wp2
              go_ret2
              exact ⟨rF_, bB⟩
/-! ### impl_GhostKeys: function 22 -/
mutual
def impl_GhostKeys.l0 : Nat → List (S24) → Int → Int → Option (Int × Bool)
  | 0, _, _, _ => none
  | k + 1, x0, x4, x5 => if x5 < (shl .i64 1 (x0.length : Int)) then (impl_GhostKeys.l1 k x0 x4 x5 (([] : List (S24))) x0 (x0.length : Int) 0) else (some (x4, true))
def impl_GhostKeys.l1 : Nat → List (S24) → Int → Int → List (S24) → List (S24) → Int → Int → Option (Int × Bool)
  | 0, _, _, _, _, _, _, _ => none
  | k + 1, x0, x4, x5, x6, x24, x25, x26 => if x26 < x25 then (if 0 ≤ x26 then (if x26 < (x24.length : Int) then (if (Go.bits .and .i64 (shr .i64 x5 x26) 1) = 1 then (if x6.length < 4398046511104 then (impl_GhostKeys.l1 k x0 x4 x5 (x6 ++ [(⟨(rd_T24 x24 x26).f0, (rd_T24 x24 x26).f1⟩ : S24)]) x24 x25 (wrap64 (x26 + 1))) else (none)) else (impl_GhostKeys.l1 k x0 x4 x5 x6 x24 x25 (wrap64 (x26 + 1)))) else (none)) else (none)) else ((impl_shared.f k x6).bind fun bt319 => ((impl_Pins_keys.f k bt319.1 bt319.2).bind fun t323 => (if ((x6.length : Int) % 2) = 1 then (impl_GhostKeys.l0 k x0 (wrap64 (x4 - t323)) (wrap64 (x5 + 1))) else (impl_GhostKeys.l0 k x0 (wrap64 (x4 + t323)) (wrap64 (x5 + 1))))))
end
def impl_GhostKeys.f (k : Nat) (l0 : List (S24)) : Option (Int × Bool) := (impl_ofKind.f l0).bind fun t305 => (if t305 = true then ((impl_joined.f k l0 1).bind fun bt306 => ((impl_Pins_keys.f k bt306.1 bt306.2).bind fun t310 => (impl_GhostKeys.l0 k l0 t310 1))) else (some (0, false)))
set_option maxHeartbeats 8000000 in
set_option maxRecDepth 100000 in
theorem impl_GhostKeys.calls (k : Nat) (P0_ : Nat → Prop) (A0 : Option Addr) (c0 : Nat) (l0 : List (S24)) (r1 : Int) (r2 : Bool) (w : World) (hs0 : Kd.V k24 24 w w.heap.size (fun k_ => P0_ k_) (.slice A0 l0.length c0) l0) (h : impl_GhostKeys.f k l0 = some (r1, r2)) :
    Calls Try.prog 22 #[.slice A0 l0.length c0] w fun e w' => e = .returned (.tuple #[.int .i64 r1, .bool r2]) ∧ Below w.heap.size w w' := by
  have hu24 := Try.underlying24
  have HO0 := amk (show Kd.V k24 24 w w.heap.size (fun k_ => (P0_ k_ ∨ w.heap.size ≤ k_)) (.slice A0 l0.length c0) l0 from Kd.V_mono hs0 (fun k_ hk => .inl hk))
  have HB := amk (Below.refl w.heap.size w)
  have H : ((impl_ofKind.f l0).bind fun t305 => (if t305 = true then ((impl_joined.f k l0 1).bind fun bt306 => ((impl_Pins_keys.f k bt306.1 bt306.2).bind fun t310 => (impl_GhostKeys.l0 k l0 t310 1))) else (some (0, false)))) = some (r1, r2) := h
  clear h
  replace H := bE H
  obtain ⟨t305, A2, H⟩ := H
  replace H := iteB H; obtain ⟨rfl, H⟩ | ⟨rfl, H⟩ := H
  · replace H := Option.bind_eq_some_iff.mp H
    obtain ⟨⟨t306, t307⟩, A40, H⟩ := H
    replace H : ((impl_Pins_keys.f k t306 t307).bind fun t310 => (impl_GhostKeys.l0 k l0 t310 1)) = some (r1, r2) := H
    have A4 := amk A40
    clear A40
    replace H := bE H
    obtain ⟨t310, A5, H⟩ := H
    have H' := amk H
    clear H
    go_enter Try.func22, Try.ntmps22
    go_wp2_with (first | (refine gc_ 47 11 Try.func47 #[.slice A0 l0.length c0] ?_; (with_reducible refine (impl_ofKind.calls _ _ l0 true _ ?_ ?_ A2.out).mono ?_); exact cB ((Kd.V_reads' HO0.out).2.2); exact (Kd.V_reads' HO0.out).2.1; rintro e w6 ⟨rfl, hb⟩; refine ⟨_, rfl, ?_⟩; replace HO0 := amk (Kd.V_below (oX HO0) hb); replace HB := hB2 HB hb; (try clear hb)) | (refine gc_ 51 14 Try.func51 #[.slice A0 l0.length c0, .int .i64 1] ?_; (with_reducible refine (impl_joined.calls k _ _ l0 1 t306 t307 _ ?_ ?_ A4.out).mono ?_); exact cB ((Kd.V_reads' HO0.out).2.2); exact (Kd.V_reads' HO0.out).2.1; rintro e w7 ⟨v308, rfl, ho0, hb⟩; refine ⟨_, rfl, ?_⟩; replace HO0 := amk (Kd.V_elder' (oX HO0) (by first | exact Kd.N_base ho0 | exact Kd.S_base ho0 | exact Kd.R_base ho0) hb); have HO309 := amk (Kd.N_lower (Kd.N_mono (ok' := fun k_ => (P0_ k_ ∨ w.heap.size ≤ k_)) (Kd.S_N (Kd.S_bound ho0)) (fun k_ hk_ => (.inr (Nat.le_trans (below_size bB) hk_.2.1)))) (below_size bB)); replace HB := hB2 HB hb; (try clear hb); (try clear ho0); obtain ⟨Ao8, co8, eo8⟩ := Kd.N_slice HO309.out; subst eo8) | (refine gc_ 39 15 Try.func39 #[.agg #[.int .i64 t306, .slice Ao8 t307.length co8]] ?_; (with_reducible refine (impl_Pins_keys.calls k t306 _ _ t307 t310 _ ?_ ?_ A5.out).mono ?_); exact cB ((Kd.N_reads' HO309.out).2.2); exact (Kd.N_reads' HO309.out).2.1; rintro e w9 ⟨rfl, hb⟩; refine ⟨_, rfl, ?_⟩; replace HO0 := amk (Kd.V_below (oX HO0) hb); replace HO309 := amk (Kd.N_below (oX HO309) hb); replace HB := hB2 HB hb; (try clear hb)))
    go_loopg [4, 5] k (fun kq v4 v5 w' => ∃ (x4_1 : Int) (x5_1 : Int), v4 = .int .i64 x4_1 ∧ v5 = .int .i64 x5_1 ∧ Aside0 (impl_GhostKeys.l0 kq l0 x4_1 x5_1 = some (r1, r2)) ∧ Aside0 (kq ≤ k) ∧ Aside0 (Kd.V k24 24 w' w.heap.size (fun k_ => (P0_ k_ ∨ w.heap.size ≤ k_)) (.slice A0 l0.length c0) l0) ∧ Aside0 (Below w.heap.size w w'))
    case atStart => exact ⟨(t310), (1), rS_, rS_, H', ⟨Nat.le_refl _⟩, ⟨by (with_reducible repeat (first | apply Kd.V_alloc | apply Kd.V_drewN | apply Kd.V_drew)); exact Kd.V_mono HO0.out (fun _ hk => hk.1)⟩, ⟨bB⟩⟩
    case round =>
      clear H'
      try clear c2; try clear p2; try clear c3; try clear c4; try clear c5
      obtain ⟨x4_1, x5_1, rfl, rfl, HA, HK1, HO_0, HB⟩ := hrel
      cases gk with
      | zero => exact absurd HA.out (by simp [impl_GhostKeys.l0])
      | succ k1 =>
        have H := HA.out
        clear HA
        simp only [impl_GhostKeys.l0] at H
        obtain ⟨ji10, hji10⟩ : ∃ j_ : Int, (shl .i64 1 (l0.length : Int)) = j_ := ⟨_, rfl⟩
        replace H : (if x5_1 < (ji10) then (impl_GhostKeys.l1 k1 l0 x4_1 x5_1 (([] : List (S24))) l0 (l0.length : Int) 0) else (some (x4_1, true))) = some (r1, r2) := by first | (rw [hji10] at H; exact H) | (simp only [hji10] at H ⊢; exact H)
        have hji10_ : (IntKind.i64.wrap (1 * 2 ^ min (l0.length : Int).toNat 64)) = ji10 := hji10
        have hji10z : (l0.length : Int) ≤ 64 → (IntKind.i64.wrap (1 * 2 ^ (l0.length : Int).toNat)) = ji10 := shl_small hji10
        have hji10p : (IntKind.i64.wrap (1 * 2 ^ min l0.length 64)) = ji10 := hji10_
        have hji10q : (l0.length : Int) ≤ 64 → (IntKind.i64.wrap (1 * 2 ^ l0.length)) = ji10 := hji10z
        have hji10r : (IntKind.i64.wrap (2 ^ min l0.length 64)) = ji10 := by have h_ := hji10p; rw [Int.one_mul] at h_; exact h_
        have hji10s : (l0.length : Int) ≤ 64 → (IntKind.i64.wrap (2 ^ l0.length)) = ji10 := fun hle_ => by have h_ := hji10q hle_; rw [Int.one_mul] at h_; exact h_
        have hji10u : (IntKind.i64.wrap (2 ^ min (l0.length : Int).toNat 64)) = ji10 := by have h_ := hji10_; rw [Int.one_mul] at h_; exact h_
        have hji10v : (l0.length : Int) ≤ 64 → (IntKind.i64.wrap (2 ^ (l0.length : Int).toNat)) = ji10 := fun hle_ => by have h_ := hji10z hle_; rw [Int.one_mul] at h_; exact h_
        have hji10y : (wrap64 (1 * 2 ^ min (l0.length : Int).toNat 64)) = ji10 := (i64_w _).symm.trans hji10_
        have hji10x : (l0.length : Int) ≤ 64 → (wrap64 (1 * 2 ^ (l0.length : Int).toNat)) = ji10 := fun h_ => (i64_w _).symm.trans (hji10z h_)
        replace H := iteE H; obtain ⟨c11b0, H⟩ | ⟨c11b0, H⟩ := H
        · obtain ⟨y311, hy311⟩ : ∃ y_ : List (S24), y_ = (([] : List (S24))) := ⟨_, rfl⟩
          replace H : (impl_GhostKeys.l1 k1 l0 x4_1 x5_1 y311 l0 (l0.length : Int) 0) = some (r1, r2) := by first | (rw [hy311]; with_reducible exact H) | (have H2_ := (Option.bind_some _ _).symm.trans H; rw [hy311]; with_reducible exact H2_) | (have H2_ := (Option.bind_some _ _).symm.trans H; with_reducible exact H2_) | with_reducible exact H | (rw [hy311]; exact H) | exact H
          have Ny311 := amk hy311
          clear hy311
          have H' := amk H
          clear H
          go_wp2_with (first | ((with_reducible refine gate_dst (N := 23) rfl ?_); refine Kd.N_lit k24 _ 24 ?hg (N' := 23) ?hd (xs := ([] : List (S24))) (inner := []) (ok := (fun k_ => (P0_ k_ ∨ w.heap.size ≤ k_))) (okp := (fun k_ => (P0_ k_ ∨ w.heap.size ≤ k_))) ?hr ?hp (fun _ hk => hk) ((show ∀ k_, wr.heap.size ≤ k_ → (fun k_ => (P0_ k_ ∨ w.heap.size ≤ k_)) k_ from fun k_ hk => (.inr (Nat.le_trans (below_size bB) hk))) _ (Nat.le_refl _)) (Below.refl _ _) (Nat.le_refl _) (by simp) ?_; (case hd => rfl); (case hg => rfl); (case hr => first | (go_simp; done) | (go_simp; rfl)); (case hp => exact (Reps.none _ _)); intro v312 w12 ho13 hb hg_ hnew_; clear hg_ hnew_; (first | rw [← Ny311.out] at ho13 | (simp only [Int.reduceToNat] at ho13; rw [← Ny311.out] at ho13)); replace HO_0 := amk (Kd.V_elder' (oX HO_0) (by first | exact Kd.N_base ho13 | exact Kd.S_base ho13 | exact Kd.R_base ho13) hb); have HO313 := amk (Kd.N_lower ho13 (below_size bB)); replace HB := hB2 HB hb; clear hb ho13))
          go_loopg [6, 26] k1 (fun kq v6 v26 w' => ∃ (x6_2 : List (S24)) (x26_2 : Int), v26 = .int .i64 x26_2 ∧ Aside0 (impl_GhostKeys.l1 kq l0 x4_1 x5_1 x6_2 l0 (l0.length : Int) x26_2 = some (r1, r2)) ∧ Aside0 (kq ≤ k1) ∧ Aside0 (Kd.V k24 24 w' w.heap.size (fun k_ => (P0_ k_ ∨ w.heap.size ≤ k_) ∧ some k_ ≠ (v6 : Value).ownBlock) (.slice A0 l0.length c0) l0) ∧ Aside0 (Kd.N k24 24 w' w.heap.size (fun k_ => (P0_ k_ ∨ w.heap.size ≤ k_)) v6 x6_2) ∧ Aside0 (Kd.V k24 24 w' w.heap.size (fun k_ => (P0_ k_ ∨ w.heap.size ≤ k_) ∧ some k_ ≠ (v6 : Value).ownBlock) (.slice A0 l0.length c0) l0) ∧ Aside0 (Below w.heap.size w w'))
          case atStart => exact ⟨(y311), (0), rS_, H', ⟨Nat.le_refl _⟩, ⟨oX HO_0⟩, ⟨oX HO313⟩, ⟨oX HO_0⟩, ⟨bB⟩⟩
          case round =>
            clear H'
            try clear c1; try clear c2; try clear p2; try clear c3; try clear c4; try clear c5; try clear p6; try clear c11; try clear c11b0; try clear p2
            obtain ⟨x6_2, x26_2, rfl, HA, HK2, HO_0, HO_6, HO_24, HB⟩ := hrel
            cases gk with
            | zero => exact absurd HA.out (by simp [impl_GhostKeys.l1])
            | succ k2 =>
              have H := HA.out
              clear HA
              simp only [impl_GhostKeys.l1] at H
              replace H := iteE H; obtain ⟨c14b0, H⟩ | ⟨c14b0, H⟩ := H
              · replace H := iteN H; obtain ⟨c15b0, H⟩ := H
                replace H := iteN H; obtain ⟨c16b0, H⟩ := H
                have c17b0 := eq_true (dA_ : 0 ≤ x26_2)
                obtain ⟨ji18, hji18⟩ : ∃ j_ : Int, (shr .i64 x5_1 x26_2) = j_ := ⟨_, rfl⟩
                replace H : (if (Go.bits .and .i64 (ji18) 1) = 1 then (if x6_2.length < 4398046511104 then (impl_GhostKeys.l1 k2 l0 x4_1 x5_1 (x6_2 ++ [(⟨(rd_T24 l0 x26_2).f0, (rd_T24 l0 x26_2).f1⟩ : S24)]) l0 (l0.length : Int) (wrap64 (x26_2 + 1))) else (none)) else (impl_GhostKeys.l1 k2 l0 x4_1 x5_1 x6_2 l0 (l0.length : Int) (wrap64 (x26_2 + 1)))) = some (r1, r2) := by first | (rw [hji18] at H; exact H) | (simp only [hji18] at H ⊢; exact H)
                have hji18_ : (x5_1 / 2 ^ min x26_2.toNat 64) = ji18 := hji18
                have hji18z : x26_2 ≤ 64 → (x5_1 / 2 ^ x26_2.toNat) = ji18 := shr_small hji18
                by_cases c19 : (Go.bits .and .i64 (ji18) 1) = 1
                · rw [if_pos c19] at H
                  have c19b0 : ((Go.bits .and .i64 (ji18) 1) == 1) = true := beq_iff_eq.mpr c19
                  have c19b1 : ((Go.bits .and .i64 (ji18) 1) != 1) = false := bne_eq_false_iff_eq.mpr c19
                  clear c19
                  by_cases c20 : x6_2.length < 4398046511104
                  · rw [if_pos c20] at H
                    have LMc20 := amk c20
                    clear c20
                    obtain ⟨y316, hy316⟩ : ∃ y_ : List (S24), y_ = (x6_2 ++ [(⟨(rd_T24 l0 x26_2).f0, (rd_T24 l0 x26_2).f1⟩ : S24)]) := ⟨_, rfl⟩
                    replace H : (impl_GhostKeys.l1 k2 l0 x4_1 x5_1 y316 l0 (l0.length : Int) (wrap64 (x26_2 + 1))) = some (r1, r2) := by first | (rw [hy316]; with_reducible exact H) | (have H2_ := (Option.bind_some _ _).symm.trans H; rw [hy316]; with_reducible exact H2_) | (have H2_ := (Option.bind_some _ _).symm.trans H; with_reducible exact H2_) | with_reducible exact H | (rw [hy316]; exact H) | exact H
                    have Ny316 := amk hy316
                    clear hy316
                    have H' := amk H
                    clear H
                    have p314 : 0 ≤ (x26_2 : Int) := dA_
                    have q314 : x26_2 < (l0.length : Int) := dA_
                    obtain ⟨ad314, A314_1, c314_1, e314, hx314_0, hx314_1, hl314_1, hi314_1⟩ := at_T24 (Kd.V_reads' HO_24.out).2.2 x26_2 p314 q314
                    cases e314
                    obtain ⟨ce314, hce314, hMe314, hcc314⟩ := Kd.V_get HO_24.out z24 x26_2 p314 (by first | exact q314 | exact dA_ | (have e_ := (Kd.V_reads' HO_24.out).1; omega))
                    obtain ⟨ua314_1, uc314_1, rfl, ul314_1, ge314_1⟩ := k24_openF hMe314
                    have hv314_1 := hcc314 1 _ rfl
                    rw [add_field _ _ 1 (by omega)] at hv314_1
                    replace hv314_1 := Option.some.inj (hv314_1.symm.trans hx314_1)
                    injection hv314_1 with hva_ hvn_ hvc_
                    rw [hva_] at ge314_1
                    rw [hvc_] at ul314_1
                    have HL314_1 := amk (show Kd.V (Kd.slice 3 (Kd.int .i64)) 52 _ w.heap.size _ _ ((rd_T24 l0 x26_2).f1) from Kd.V_mk ul314_1 ge314_1)
                    clear hva_ hvn_ hvc_ ge314_1 ul314_1
                    clear hcc314 hce314
                    have HR314_1 := amk hi314_1
                    have HC314_1 := amk hl314_1
                    clear hi314_1 hl314_1
                    replace p314 := eq_true p314
                    replace q314 := eq_true q314
                    go_wp2_with (first | ((with_reducible refine gate_dst (N := 8) rfl ?_); refine boxG_ 8 #[.int .i64 0, .slice none 0 0] 24 ?_; intro gb315 w21 hg BK315 hb; replace HO_0 := amk (Kd.V_below (Kd.V_elderB (oX HO_0) gb315 (Nat.le_of_eq hg.symm)) hb); replace HO_6 := amk (Kd.N_below (Kd.N_elderB (oX HO_6) gb315 (Nat.le_of_eq hg.symm)) hb); replace HO_24 := amk (Kd.V_below (Kd.V_elderB (oX HO_24) gb315 (Nat.le_of_eq hg.symm)) hb); replace HL314_1 := amk (Kd.V_below (Kd.V_elderB (oX HL314_1) gb315 (Nat.le_of_eq hg.symm)) hb); replace HR314_1 := amk (Kd.C_below (by repeat (first | (with_reducible exact HR314_1.out) | (with_reducible refine Kd.C_alloc ?_ _) | (with_reducible refine Kd.C_drewN ?_ _) | (with_reducible refine Kd.C_drew ?_) | exact HR314_1.out)) hb); have GW315 := sZ HB hg; have GE315 := sZ HB hg; replace HB := hB2 HB hb; clear hb hg; obtain ⟨hcz22_0, hcz22_1, hfz22_0, hfz22_1, _⟩ := two_cells BK315.out) | ((with_reducible refine gate_store (t := 24) (p := 8) rfl ?_); refine store_event (t := 24) (p := 8) (v := ?vo_w23) (w1 := ((w21.setCell ⟨gb315, 0, none⟩ (.int .i64 ((rd_T24 l0 x26_2).f0))).setCell ⟨gb315, 1, none⟩ (.slice A314_1 ((rd_T24 l0 x26_2).f1).length c314_1))) ?hg ?ho ?hn ?hr ?_; (case ho => rfl); (case hg => rfl); (case hn => rfl); (case hr => first | (go_simp; done) | (go_simp; rfl)); intro w23 hw; replace HO_0 : Aside0 (Kd.V k24 24 w23 w.heap.size (fun k_ => (P0_ k_ ∨ w.heap.size ≤ k_) ∧ some k_ ≠ (u6 : Value).ownBlock ∧ k_ ≠ gb315) (.slice (some ad314) l0.length c0) l0) := ⟨(by rw [hw]; exact (by (with_reducible repeat (first | apply Kd.V_alloc | apply Kd.V_drewN | apply Kd.V_drew)); exact Kd.V_mono (Kd.V_far (p := ⟨gb315, 1, none⟩) (Kd.V_far (p := ⟨gb315, 0, none⟩) (Kd.V_mono HO_0.out (fun k_ hk => (⟨hk, hk.2⟩ : _ ∧ k_ ≠ gb315))) (fun _ hk => hk.2) (.int .i64 ((rd_T24 l0 x26_2).f0))) (fun _ hk => hk.2) (.slice A314_1 ((rd_T24 l0 x26_2).f1).length c314_1)) (fun _ hk => ⟨hk.1.1.1, ⟨hk.1.1.2, hk.1.2⟩⟩)))⟩; replace HO_6 : Aside0 (Kd.N k24 24 w23 w.heap.size (fun k_ => (P0_ k_ ∨ w.heap.size ≤ k_) ∧ k_ ≠ gb315) u6 x6_2) := ⟨(by rw [hw]; exact (by (with_reducible repeat (first | apply Kd.N_alloc | apply Kd.N_drewN | apply Kd.N_drew)); exact Kd.N_mono (Kd.N_far (p := ⟨gb315, 1, none⟩) (Kd.N_far (p := ⟨gb315, 0, none⟩) (Kd.N_mono HO_6.out (fun k_ hk => (⟨hk, hk.2⟩ : _ ∧ k_ ≠ gb315))) (fun _ hk => hk.2) (.int .i64 ((rd_T24 l0 x26_2).f0))) (fun _ hk => hk.2) (.slice A314_1 ((rd_T24 l0 x26_2).f1).length c314_1)) (fun _ hk => ⟨hk.1.1, hk.1.2⟩)))⟩; replace HO_24 : Aside0 (Kd.V k24 24 w23 w.heap.size (fun k_ => (P0_ k_ ∨ w.heap.size ≤ k_) ∧ some k_ ≠ (u6 : Value).ownBlock ∧ k_ ≠ gb315) (.slice (some ad314) l0.length c0) l0) := ⟨(by rw [hw]; exact (by (with_reducible repeat (first | apply Kd.V_alloc | apply Kd.V_drewN | apply Kd.V_drew)); exact Kd.V_mono (Kd.V_far (p := ⟨gb315, 1, none⟩) (Kd.V_far (p := ⟨gb315, 0, none⟩) (Kd.V_mono HO_24.out (fun k_ hk => (⟨hk, hk.2⟩ : _ ∧ k_ ≠ gb315))) (fun _ hk => hk.2) (.int .i64 ((rd_T24 l0 x26_2).f0))) (fun _ hk => hk.2) (.slice A314_1 ((rd_T24 l0 x26_2).f1).length c314_1)) (fun _ hk => ⟨hk.1.1.1, ⟨hk.1.1.2, hk.1.2⟩⟩)))⟩; replace HL314_1 : Aside0 (Kd.V (Kd.slice 3 (Kd.int .i64)) 52 w23 w.heap.size (fun k_ => (P0_ k_ ∨ w.heap.size ≤ k_) ∧ some k_ ≠ (u6 : Value).ownBlock ∧ k_ ≠ gb315) (.slice A314_1 ((rd_T24 l0 x26_2).f1).length c314_1) ((rd_T24 l0 x26_2).f1)) := ⟨(by rw [hw]; exact (by (with_reducible repeat (first | apply Kd.V_alloc | apply Kd.V_drewN | apply Kd.V_drew)); exact Kd.V_mono (Kd.V_far (p := ⟨gb315, 1, none⟩) (Kd.V_far (p := ⟨gb315, 0, none⟩) (Kd.V_mono HL314_1.out (fun k_ hk => (⟨hk, hk.2⟩ : _ ∧ k_ ≠ gb315))) (fun _ hk => hk.2) (.int .i64 ((rd_T24 l0 x26_2).f0))) (fun _ hk => hk.2) (.slice A314_1 ((rd_T24 l0 x26_2).f1).length c314_1)) (fun _ hk => ⟨hk.1.1.1, ⟨hk.1.1.2, hk.1.2⟩⟩)))⟩; replace BK315 : Aside0 (w23.heap[gb315]? = some (.cells #[.int .i64 ((rd_T24 l0 x26_2).f0), .slice A314_1 ((rd_T24 l0 x26_2).f1).length c314_1] 24 (0, 0))) := ⟨(by rw [hw]; exact (by (with_reducible repeat (first | refine kn_ ?_ _ | refine blk_drew ?_ | refine ka_ ?_ _)); refine blk_put (cs := #[.int .i64 ((rd_T24 l0 x26_2).f0), .slice none 0 0]) ?_ 1 _ rfl; (with_reducible repeat (first | refine kn_ ?_ _ | refine blk_drew ?_ | refine ka_ ?_ _)); refine blk_put (cs := #[.int .i64 0, .slice none 0 0]) ?_ 0 _ rfl; (with_reducible repeat (first | refine kn_ ?_ _ | refine blk_drew ?_ | refine ka_ ?_ _)); exact BK315.out))⟩; replace HB : Aside0 (Below w.heap.size w w23) := ⟨(by rw [hw]; exact bB)⟩; clear hw; obtain ⟨hcz24_0, hcz24_1, hfz24_0, hfz24_1, _⟩ := two_cells BK315.out) | ((with_reducible refine gate_builtin (b := .append) (xs := #[.tmp 36, .tmp 38]) rfl ?_); at_builtin; refine Kd.N_append k24 (w0 := w) w.heap.size rfl (.tmp 36) (.tmp 38) 25 24 (.agg #[(.int .i64 0), (.slice none 0 0)]) 32 rfl Try.underlying25 info24 rfl (by decide) (by omega) u6 x6_2 (⟨(rd_T24 l0 x26_2).f0, (rd_T24 l0 x26_2).f1⟩ : S24) [.int .i64 ((rd_T24 l0 x26_2).f0), .slice A314_1 ((rd_T24 l0 x26_2).f1).length c314_1] (fun k_ => (P0_ k_ ∨ w.heap.size ≤ k_) ∧ k_ ≠ gb315) (fun k_ => ((fun k_ => (P0_ k_ ∨ w.heap.size ≤ k_) ∧ k_ ≠ gb315)) k_ ∧ some k_ ≠ (u6 : Value).ownBlock) rfl rfl (k24_mkF _ _ (⟨(rd_T24 l0 x26_2).f0, (rd_T24 l0 x26_2).f1⟩ : S24) (Kd.V_reads' (Kd.V_mono (ok' := (fun k_ => ((fun k_ => (P0_ k_ ∨ w.heap.size ≤ k_) ∧ k_ ≠ gb315)) k_ ∧ some k_ ≠ (u6 : Value).ownBlock)) (HL314_1.out) (fun k_ hk => ⟨⟨hk.1, hk.2.2⟩, hk.2.1⟩))).2.1 (Kd.V_F (Kd.V_mono (ok' := (fun k_ => ((fun k_ => (P0_ k_ ∨ w.heap.size ≤ k_) ∧ k_ ≠ gb315)) k_ ∧ some k_ ≠ (u6 : Value).ownBlock)) (HL314_1.out) (fun k_ hk => ⟨⟨hk.1, hk.2.2⟩, hk.2.1⟩)))) (fun _ hk => hk) (fun k_ hk => ⟨(.inr (Nat.le_trans (below_size bB) hk)), Kd.freshB (g := gb315) (o := .cells #[.int .i64 ((rd_T24 l0 x26_2).f0), .slice A314_1 ((rd_T24 l0 x26_2).f1).length c314_1] 24 (0, 0)) (kB BK315) k_ hk⟩) (oX HO_6) bB (below_size bB) (by have := LMc20.out; omega) ?_; intro v317 w25 ho hb hg hat; rw [← Ny316.out] at ho; replace HO_0 := amk (Kd.V_afterv (ok := (fun k_ => (P0_ k_ ∨ w.heap.size ≤ k_) ∧ k_ ≠ gb315)) (by (with_reducible repeat (first | apply Kd.V_alloc | apply Kd.V_drewN | apply Kd.V_drew)); exact Kd.V_mono HO_0.out (fun _ hk => ⟨⟨hk.1, hk.2.2⟩, hk.2.1⟩)) hg hat); replace HO_24 := amk (Kd.V_afterv (ok := (fun k_ => (P0_ k_ ∨ w.heap.size ≤ k_) ∧ k_ ≠ gb315)) (by (with_reducible repeat (first | apply Kd.V_alloc | apply Kd.V_drewN | apply Kd.V_drew)); exact Kd.V_mono HO_24.out (fun _ hk => ⟨⟨hk.1, hk.2.2⟩, hk.2.1⟩)) hg hat); replace HL314_1 := amk (Kd.V_afterv (ok := (fun k_ => (P0_ k_ ∨ w.heap.size ≤ k_) ∧ k_ ≠ gb315)) (by (with_reducible repeat (first | apply Kd.V_alloc | apply Kd.V_drewN | apply Kd.V_drew)); exact Kd.V_mono HL314_1.out (fun _ hk => ⟨⟨hk.1, hk.2.2⟩, hk.2.1⟩)) hg hat); replace BK315 := bG BK315 hg (Kd.N_away HO_6.out (fun _ hk => hk.2)); replace HB := amk (hb); have HO318 := amk (ho); clear HO_6; clear ho hb hg hat))
                    go_roundg k2
                    case measure => have := HK1.out; have := HK2.out; omega
                    case rel => exact ⟨(y316), (wrap64 (x26_2 + 1)), rS_, H', ⟨by have := HK1.out; have := HK2.out; omega⟩, ⟨by (with_reducible repeat (first | apply Kd.V_alloc | apply Kd.V_drewN | apply Kd.V_drew)); exact Kd.V_mono HO_0.out (fun _ hk => ⟨hk.1.1, hk.2⟩)⟩, ⟨by (with_reducible repeat (first | apply Kd.N_alloc | apply Kd.N_drewN | apply Kd.N_drew)); exact Kd.N_mono HO318.out (fun _ hk => hk.1)⟩, ⟨by (with_reducible repeat (first | apply Kd.V_alloc | apply Kd.V_drewN | apply Kd.V_drew)); exact Kd.V_mono HO_24.out (fun _ hk => ⟨hk.1.1, hk.2⟩)⟩, ⟨bB⟩⟩
                  · rw [if_neg c20] at H
                    exact absurd H (by simp)
                · rw [if_neg c19] at H
                  have c19b0 : ((Go.bits .and .i64 (ji18) 1) == 1) = false := beq_eq_false_iff_ne.mpr c19
                  have c19b1 : ((Go.bits .and .i64 (ji18) 1) != 1) = true := bne_iff_ne.mpr c19
                  have H' := amk H
                  clear H
                  have p314 : 0 ≤ (x26_2 : Int) := dA_
                  have q314 : x26_2 < (l0.length : Int) := dA_
                  obtain ⟨ad314, A314_1, c314_1, e314, hx314_0, hx314_1, hl314_1, hi314_1⟩ := at_T24 (Kd.V_reads' HO_24.out).2.2 x26_2 p314 q314
                  cases e314
                  obtain ⟨ce314, hce314, hMe314, hcc314⟩ := Kd.V_get HO_24.out z24 x26_2 p314 (by first | exact q314 | exact dA_ | (have e_ := (Kd.V_reads' HO_24.out).1; omega))
                  obtain ⟨ua314_1, uc314_1, rfl, ul314_1, ge314_1⟩ := k24_openF hMe314
                  have hv314_1 := hcc314 1 _ rfl
                  rw [add_field _ _ 1 (by omega)] at hv314_1
                  replace hv314_1 := Option.some.inj (hv314_1.symm.trans hx314_1)
                  injection hv314_1 with hva_ hvn_ hvc_
                  rw [hva_] at ge314_1
                  rw [hvc_] at ul314_1
                  have HL314_1 := amk (show Kd.V (Kd.slice 3 (Kd.int .i64)) 52 _ w.heap.size _ _ ((rd_T24 l0 x26_2).f1) from Kd.V_mk ul314_1 ge314_1)
                  clear hva_ hvn_ hvc_ ge314_1 ul314_1
                  clear hcc314 hce314
                  have HR314_1 := amk hi314_1
                  have HC314_1 := amk hl314_1
                  clear hi314_1 hl314_1
                  replace p314 := eq_true p314
                  replace q314 := eq_true q314
                  go_wp2_with (first | ((with_reducible refine gate_dst (N := 8) rfl ?_); refine boxG_ 8 #[.int .i64 0, .slice none 0 0] 24 ?_; intro gb315 w26 hg BK315 hb; replace HO_0 := amk (Kd.V_below (Kd.V_elderB (oX HO_0) gb315 (Nat.le_of_eq hg.symm)) hb); replace HO_6 := amk (Kd.N_below (Kd.N_elderB (oX HO_6) gb315 (Nat.le_of_eq hg.symm)) hb); replace HO_24 := amk (Kd.V_below (Kd.V_elderB (oX HO_24) gb315 (Nat.le_of_eq hg.symm)) hb); replace HL314_1 := amk (Kd.V_below (Kd.V_elderB (oX HL314_1) gb315 (Nat.le_of_eq hg.symm)) hb); replace HR314_1 := amk (Kd.C_below (by repeat (first | (with_reducible exact HR314_1.out) | (with_reducible refine Kd.C_alloc ?_ _) | (with_reducible refine Kd.C_drewN ?_ _) | (with_reducible refine Kd.C_drew ?_) | exact HR314_1.out)) hb); have GW315 := sZ HB hg; have GE315 := sZ HB hg; replace HB := hB2 HB hb; clear hb hg; obtain ⟨hcz27_0, hcz27_1, hfz27_0, hfz27_1, _⟩ := two_cells BK315.out))
                  go_roundg k2
                  case measure => have := HK1.out; have := HK2.out; omega
                  case rel => exact ⟨(x6_2), (wrap64 (x26_2 + 1)), rS_, H', ⟨by have := HK1.out; have := HK2.out; omega⟩, ⟨by (with_reducible repeat (first | apply Kd.V_alloc | apply Kd.V_drewN | apply Kd.V_drew)); exact Kd.V_mono (Kd.V_far (p := ⟨gb315, 1, none⟩) (Kd.V_far (p := ⟨gb315, 0, none⟩) (Kd.V_mono HO_0.out (fun k_ hk => (⟨hk, hk.2⟩ : _ ∧ k_ ≠ gb315))) (fun _ hk => hk.2) (.int .i64 ((rd_T24 l0 x26_2).f0))) (fun _ hk => hk.2) (.slice A314_1 ((rd_T24 l0 x26_2).f1).length c314_1)) (fun _ hk => ⟨hk.1.1.1, hk.1.1.2⟩)⟩, ⟨by (with_reducible repeat (first | apply Kd.N_alloc | apply Kd.N_drewN | apply Kd.N_drew)); exact Kd.N_mono (Kd.N_far (p := ⟨gb315, 1, none⟩) (Kd.N_far (p := ⟨gb315, 0, none⟩) (Kd.N_mono HO_6.out (fun k_ hk => (⟨hk, hk.2⟩ : _ ∧ k_ ≠ gb315))) (fun _ hk => hk.2) (.int .i64 ((rd_T24 l0 x26_2).f0))) (fun _ hk => hk.2) (.slice A314_1 ((rd_T24 l0 x26_2).f1).length c314_1)) (fun _ hk => hk.1.1)⟩, ⟨by (with_reducible repeat (first | apply Kd.V_alloc | apply Kd.V_drewN | apply Kd.V_drew)); exact Kd.V_mono (Kd.V_far (p := ⟨gb315, 1, none⟩) (Kd.V_far (p := ⟨gb315, 0, none⟩) (Kd.V_mono HO_24.out (fun k_ hk => (⟨hk, hk.2⟩ : _ ∧ k_ ≠ gb315))) (fun _ hk => hk.2) (.int .i64 ((rd_T24 l0 x26_2).f0))) (fun _ hk => hk.2) (.slice A314_1 ((rd_T24 l0 x26_2).f1).length c314_1)) (fun _ hk => ⟨hk.1.1.1, hk.1.1.2⟩)⟩, ⟨bB⟩⟩
              · replace H := Option.bind_eq_some_iff.mp H
                obtain ⟨⟨t319, t320⟩, A280, H⟩ := H
                replace H : ((impl_Pins_keys.f k2 t319 t320).bind fun t323 => (if ((x6_2.length : Int) % 2) = 1 then (impl_GhostKeys.l0 k2 l0 (wrap64 (x4_1 - t323)) (wrap64 (x5_1 + 1))) else (impl_GhostKeys.l0 k2 l0 (wrap64 (x4_1 + t323)) (wrap64 (x5_1 + 1))))) = some (r1, r2) := H
                have A28 := amk A280
                clear A280
                replace H := bE H
                obtain ⟨t323, A29, H⟩ := H
                by_cases c30 : ((x6_2.length : Int) % 2) = 1
                · rw [if_pos c30] at H
                  have c30b0 : (((x6_2.length : Int) % 2) == 1) = true := beq_iff_eq.mpr c30
                  have c30b1 : (((x6_2.length : Int) % 2) != 1) = false := bne_eq_false_iff_eq.mpr c30
                  clear c30
                  have H' := amk H
                  clear H
                  obtain ⟨Ao31, co31, eo31⟩ := Kd.N_slice HO_6.out
                  subst eo31
                  go_wp2_with (first | (refine gc_ 48 42 Try.func48 #[.slice Ao31 x6_2.length co31] ?_; (with_reducible refine (impl_shared.calls k2 _ _ x6_2 t319 t320 _ ?_ ?_ A28.out).mono ?_); exact cB ((Kd.N_reads' HO_6.out).2.2); exact (Kd.N_reads' HO_6.out).2.1; rintro e w32 ⟨v321, rfl, ho0, hb⟩; refine ⟨_, rfl, ?_⟩; replace HO_0 := amk (Kd.V_elder' (oX HO_0) (by first | exact Kd.N_base ho0 | exact Kd.S_base ho0 | exact Kd.R_base ho0) hb); replace HO_24 := amk (Kd.V_elder' (oX HO_24) (by first | exact Kd.N_base ho0 | exact Kd.S_base ho0 | exact Kd.R_base ho0) hb); have HO322 := amk (Kd.N_lower (Kd.N_mono (ok' := fun k_ => (P0_ k_ ∨ w.heap.size ≤ k_) ∧ some k_ ≠ (.slice Ao31 x6_2.length co31 : Value).ownBlock) (Kd.S_N (Kd.S_bound ho0)) (fun k_ hk_ => ⟨(.inr (Nat.le_trans (below_size bB) hk_.2.1)), (Kd.fresh' (Kd.N_lt (oX HO_6)) k_ hk_.2.1)⟩)) (below_size bB)); replace HO_6 := amk (Kd.N_elder' (oX HO_6) (by first | exact Kd.N_base ho0 | exact Kd.S_base ho0 | exact Kd.R_base ho0) hb); replace HB := hB2 HB hb; (try clear hb); (try clear ho0); obtain ⟨Ao33, co33, eo33⟩ := Kd.N_slice HO322.out; subst eo33) | (refine gc_ 39 43 Try.func39 #[.agg #[.int .i64 t319, .slice Ao33 t320.length co33]] ?_; (with_reducible refine (impl_Pins_keys.calls k2 t319 _ _ t320 t323 _ ?_ ?_ A29.out).mono ?_); exact cB ((Kd.N_reads' HO322.out).2.2); exact (Kd.N_reads' HO322.out).2.1; rintro e w34 ⟨rfl, hb⟩; refine ⟨_, rfl, ?_⟩; replace HO_0 := amk (Kd.V_below (oX HO_0) hb); replace HO_6 := amk (Kd.N_below (oX HO_6) hb); replace HO_24 := amk (Kd.V_below (oX HO_24) hb); replace HO322 := amk (Kd.N_below (oX HO322) hb); replace HB := hB2 HB hb; (try clear hb)))
                  go_roundg k2
                  case measure => have := HK1.out; have := HK2.out; omega
                  case rel => exact ⟨(wrap64 (x4_1 - t323)), (wrap64 (x5_1 + 1)), rS_, rS_, H', ⟨by have := HK1.out; have := HK2.out; omega⟩, ⟨by (with_reducible repeat (first | apply Kd.V_alloc | apply Kd.V_drewN | apply Kd.V_drew)); exact Kd.V_mono HO_0.out (fun _ hk => hk.1.1)⟩, ⟨bB⟩⟩
                · rw [if_neg c30] at H
                  have c30b0 : (((x6_2.length : Int) % 2) == 1) = false := beq_eq_false_iff_ne.mpr c30
                  have c30b1 : (((x6_2.length : Int) % 2) != 1) = true := bne_iff_ne.mpr c30
                  have H' := amk H
                  clear H
                  obtain ⟨Ao35, co35, eo35⟩ := Kd.N_slice HO_6.out
                  subst eo35
                  go_wp2_with (first | (refine gc_ 48 42 Try.func48 #[.slice Ao35 x6_2.length co35] ?_; (with_reducible refine (impl_shared.calls k2 _ _ x6_2 t319 t320 _ ?_ ?_ A28.out).mono ?_); exact cB ((Kd.N_reads' HO_6.out).2.2); exact (Kd.N_reads' HO_6.out).2.1; rintro e w36 ⟨v321, rfl, ho0, hb⟩; refine ⟨_, rfl, ?_⟩; replace HO_0 := amk (Kd.V_elder' (oX HO_0) (by first | exact Kd.N_base ho0 | exact Kd.S_base ho0 | exact Kd.R_base ho0) hb); replace HO_24 := amk (Kd.V_elder' (oX HO_24) (by first | exact Kd.N_base ho0 | exact Kd.S_base ho0 | exact Kd.R_base ho0) hb); have HO322 := amk (Kd.N_lower (Kd.N_mono (ok' := fun k_ => (P0_ k_ ∨ w.heap.size ≤ k_) ∧ some k_ ≠ (.slice Ao35 x6_2.length co35 : Value).ownBlock) (Kd.S_N (Kd.S_bound ho0)) (fun k_ hk_ => ⟨(.inr (Nat.le_trans (below_size bB) hk_.2.1)), (Kd.fresh' (Kd.N_lt (oX HO_6)) k_ hk_.2.1)⟩)) (below_size bB)); replace HO_6 := amk (Kd.N_elder' (oX HO_6) (by first | exact Kd.N_base ho0 | exact Kd.S_base ho0 | exact Kd.R_base ho0) hb); replace HB := hB2 HB hb; (try clear hb); (try clear ho0); obtain ⟨Ao37, co37, eo37⟩ := Kd.N_slice HO322.out; subst eo37) | (refine gc_ 39 43 Try.func39 #[.agg #[.int .i64 t319, .slice Ao37 t320.length co37]] ?_; (with_reducible refine (impl_Pins_keys.calls k2 t319 _ _ t320 t323 _ ?_ ?_ A29.out).mono ?_); exact cB ((Kd.N_reads' HO322.out).2.2); exact (Kd.N_reads' HO322.out).2.1; rintro e w38 ⟨rfl, hb⟩; refine ⟨_, rfl, ?_⟩; replace HO_0 := amk (Kd.V_below (oX HO_0) hb); replace HO_6 := amk (Kd.N_below (oX HO_6) hb); replace HO_24 := amk (Kd.V_below (oX HO_24) hb); replace HO322 := amk (Kd.N_below (oX HO322) hb); replace HB := hB2 HB hb; (try clear hb)))
                  go_roundg k2
                  case measure => have := HK1.out; have := HK2.out; omega
                  case rel => exact ⟨(wrap64 (x4_1 + t323)), (wrap64 (x5_1 + 1)), rS_, rS_, H', ⟨by have := HK1.out; have := HK2.out; omega⟩, ⟨by (with_reducible repeat (first | apply Kd.V_alloc | apply Kd.V_drewN | apply Kd.V_drew)); exact Kd.V_mono HO_0.out (fun _ hk => hk.1.1)⟩, ⟨bB⟩⟩
        · simp only [Option.some.injEq, Prod.mk.injEq] at H
          obtain ⟨rfl, rfl⟩ := H
          go_wp2
          go_ret2
          exact ⟨by first | rfl | (simp [errW_none, errW_some] <;> rfl) | (simp only [← hji10]; first | rfl | (simp [errW_none, errW_some] <;> rfl)) | (simp [*, errW_none, errW_some] <;> rfl), bB⟩
  · simp only [Option.some.injEq, Prod.mk.injEq] at H
    obtain ⟨rfl, rfl⟩ := H
    go_enter Try.func22, Try.ntmps22
    go_wp2_with (first | (refine gc_ 47 11 Try.func47 #[.slice A0 l0.length c0] ?_; (with_reducible refine (impl_ofKind.calls _ _ l0 false _ ?_ ?_ A2.out).mono ?_); exact cB ((Kd.V_reads' HO0.out).2.2); exact (Kd.V_reads' HO0.out).2.1; rintro e w39 ⟨rfl, hb⟩; refine ⟨_, rfl, ?_⟩; replace HO0 := amk (Kd.V_below (oX HO0) hb); replace HB := hB2 HB hb; (try clear hb)))
    go_ret2
    exact ⟨rF_, bB⟩
/-! ### impl_IsKey: function 7 -/
def impl_IsKey.f (k : Nat) (a0_0 : Int) (l0_1 : List (List Int)) (a1 : ByteArray) : Option (Bool × Bool) := (impl_ArePins.f a0_0 l0_1).bind fun t145 => (if t145 = true then ((impl_Pins_isKey.f k a0_0 l0_1 a1).bind fun t146 => (some (t146, true))) else (some (false, false)))
set_option maxHeartbeats 8000000 in
set_option maxRecDepth 100000 in
theorem impl_IsKey.calls (k : Nat) (a0_0 : Int) (A0_1 : Option Addr) (c0_1 : Nat) (l0_1 : List (List Int)) (a1 : ByteArray) (r1 : Bool) (r2 : Bool) (w : World) (hr0_1 : Kd.C (Kd.slice 3 (Kd.int .i64)) w A0_1 l0_1.length l0_1) (hc0_1 : l0_1.length ≤ c0_1) (h : impl_IsKey.f k a0_0 l0_1 a1 = some (r1, r2)) :
    Calls Try.prog 7 #[.agg #[.int .i64 a0_0, .slice A0_1 l0_1.length c0_1], .string a1] w fun e w' => e = .returned (.tuple #[.bool r1, .bool r2]) ∧ Below w.heap.size w w' := by
  have hu24 := Try.underlying24
  have HR0_1 := amk hr0_1
  have HC0_1 := amk hc0_1
  clear hr0_1 hc0_1
  have HB := amk (Below.refl w.heap.size w)
  have H : ((impl_ArePins.f a0_0 l0_1).bind fun t145 => (if t145 = true then ((impl_Pins_isKey.f k a0_0 l0_1 a1).bind fun t146 => (some (t146, true))) else (some (false, false)))) = some (r1, r2) := h
  clear h
  replace H := bE H
  obtain ⟨t145, A3, H⟩ := H
  replace H := iteB H; obtain ⟨rfl, H⟩ | ⟨rfl, H⟩ := H
  · replace H := Option.bind_eq_some_iff.mp H
    obtain ⟨t146, A50, H⟩ := H
    replace H : (some (t146, true)) = some (r1, r2) := H
    have A5 := amk A50
    clear A50
    simp only [Option.some.injEq, Prod.mk.injEq] at H
    obtain ⟨rfl, rfl⟩ := H
    go_enter Try.func7, Try.ntmps7
    go_wp2_with (first | ((with_reducible refine gate_dst (N := 2) rfl ?_); refine boxE_ HB 2 #[.int .i64 a0_0, .slice A0_1 l0_1.length c0_1] 24 ?_; clear HB; intro gb144 w6 HB BK144 GW144 GE144 hb; clear hb; obtain ⟨hcz7_0, hcz7_1, hfz7_0, hfz7_1, _⟩ := two_cells BK144.out) | (refine gc_ 14 7 Try.func14 #[.agg #[.int .i64 a0_0, .slice A0_1 l0_1.length c0_1]] ?_; (with_reducible refine (impl_ArePins.calls a0_0 _ _ l0_1 true _ ?_ ?_ A3.out).mono ?_); exact cB (Kd.C_below HR0_1.out HB.out); exact HC0_1.out; rintro e w8 ⟨rfl, hb⟩; refine ⟨_, rfl, ?_⟩; replace BK144 := kb2 BK144 hb; replace HB := hB2 HB hb; (try clear hb); obtain ⟨hcz9_0, hcz9_1, hfz9_0, hfz9_1, _⟩ := two_cells BK144.out) | (refine gc_ 33 11 Try.func33 #[.agg #[.int .i64 a0_0, .slice A0_1 l0_1.length c0_1], .string a1] ?_; (with_reducible refine (impl_Pins_isKey.calls k a0_0 _ _ l0_1 a1 t146 _ ?_ ?_ A5.out).mono ?_); exact cB (Kd.C_below HR0_1.out HB.out); exact HC0_1.out; rintro e w10 ⟨rfl, hb⟩; refine ⟨_, rfl, ?_⟩; replace BK144 := kb2 BK144 hb; replace HB := hB2 HB hb; (try clear hb)))
    go_ret2
    exact ⟨rF_, bB⟩
  · simp only [Option.some.injEq, Prod.mk.injEq] at H
    obtain ⟨rfl, rfl⟩ := H
    go_enter Try.func7, Try.ntmps7
    go_wp2_with (first | ((with_reducible refine gate_dst (N := 2) rfl ?_); refine boxE_ HB 2 #[.int .i64 a0_0, .slice A0_1 l0_1.length c0_1] 24 ?_; clear HB; intro gb144 w11 HB BK144 GW144 GE144 hb; clear hb; obtain ⟨hcz12_0, hcz12_1, hfz12_0, hfz12_1, _⟩ := two_cells BK144.out) | (refine gc_ 14 7 Try.func14 #[.agg #[.int .i64 a0_0, .slice A0_1 l0_1.length c0_1]] ?_; (with_reducible refine (impl_ArePins.calls a0_0 _ _ l0_1 false _ ?_ ?_ A3.out).mono ?_); exact cB (Kd.C_below HR0_1.out HB.out); exact HC0_1.out; rintro e w13 ⟨rfl, hb⟩; refine ⟨_, rfl, ?_⟩; replace BK144 := kb2 BK144 hb; replace HB := hB2 HB hb; (try clear hb)))
    go_ret2
    exact ⟨rF_, bB⟩
/-! ### impl_MasterOf: function 24 -/
def impl_MasterOf.f (k : Nat) (l0 : List (S24)) : Option (Int × (List (List Int)) × Bool) := (impl_ofKind.f l0).bind fun t341 => (if t341 = true then ((impl_joined.f k l0 1).bind fun bt342 => (some (bt342.1, bt342.2, true))) else (some (0, ([] : List (List Int)), false)))
set_option maxHeartbeats 8000000 in
set_option maxRecDepth 100000 in
theorem impl_MasterOf.calls (k : Nat) (A0 : Option Addr) (c0 : Nat) (l0 : List (S24)) (r1 : Int) (r2 : List (List Int)) (r3 : Bool) (w : World) (hr0 : Kd.C k24 w A0 l0.length l0) (hc0 : l0.length ≤ c0) (h : impl_MasterOf.f k l0 = some (r1, r2, r3)) :
    Calls Try.prog 24 #[.slice A0 l0.length c0] w fun e w' => ∃ v1_ : Value, e = .returned (.tuple #[.agg #[.int .i64 r1, v1_], .bool r3]) ∧ Kd.S (Kd.slice 3 (Kd.int .i64)) 52 w' w.heap.size (fun _ => True) v1_ r2 ∧ Below w.heap.size w w' := by
  have hu24 := Try.underlying24
  have HR0 := amk hr0
  have HC0 := amk hc0
  clear hr0 hc0
  have HB := amk (Below.refl w.heap.size w)
  have H : ((impl_ofKind.f l0).bind fun t341 => (if t341 = true then ((impl_joined.f k l0 1).bind fun bt342 => (some (bt342.1, bt342.2, true))) else (some (0, ([] : List (List Int)), false)))) = some (r1, r2, r3) := h
  clear h
  replace H := bE H
  obtain ⟨t341, A2, H⟩ := H
  replace H := iteB H; obtain ⟨rfl, H⟩ | ⟨rfl, H⟩ := H
  · replace H := Option.bind_eq_some_iff.mp H
    obtain ⟨⟨t342, t343⟩, A40, H⟩ := H
    replace H : (some (t342, t343, true)) = some (r1, r2, r3) := H
    have A4 := amk A40
    clear A40
    simp only [Option.some.injEq, Prod.mk.injEq] at H
    obtain ⟨rfl, rfl, rfl⟩ := H
    go_enter Try.func24, Try.ntmps24
    go_wp2_with (first | ((with_reducible refine gate_dst (N := 2) rfl ?_); refine boxE_ HB 2 #[.int .i64 0, .slice none 0 0] 24 ?_; clear HB; intro gb340 w5 HB BK340 GW340 GE340 hb; clear hb) | (refine gc_ 47 5 Try.func47 #[.slice A0 l0.length c0] ?_; (with_reducible refine (impl_ofKind.calls _ _ l0 true _ ?_ ?_ A2.out).mono ?_); exact cB (Kd.C_below HR0.out HB.out); exact HC0.out; rintro e w6 ⟨rfl, hb⟩; refine ⟨_, rfl, ?_⟩; replace BK340 := kb2 BK340 hb; replace HB := hB2 HB hb; (try clear hb)) | (refine gc_ 51 9 Try.func51 #[.slice A0 l0.length c0, .int .i64 1] ?_; (with_reducible refine (impl_joined.calls k _ _ l0 1 t342 t343 _ ?_ ?_ A4.out).mono ?_); exact cB (Kd.C_below HR0.out HB.out); exact HC0.out; rintro e w7 ⟨v344, rfl, ho0, hb⟩; refine ⟨_, rfl, ?_⟩; have HO345 := amk (Kd.S_lower ho0 (below_size bB)); replace BK340 := kb2 BK340 hb; replace HB := hB2 HB hb; (try clear hb); (try clear ho0); obtain ⟨hcz8_0, hcz8_1, hfz8_0, hfz8_1, _⟩ := two_cells BK340.out; obtain ⟨Ao9, co9, eo9⟩ := Kd.S_slice HO345.out; subst eo9))
    refine bodyPost_ret (results_ct rfl _ _ gb340 24 #[.int .i64 t342, .slice Ao9 t343.length co9] (0, 0) _ rfl (by (with_reducible repeat (first | refine kn_ ?_ _ | refine blk_drew ?_ | refine ka_ ?_ _)); refine blk_put (cs := #[.int .i64 t342, .slice none 0 0]) ?_ 1 _ rfl; (with_reducible repeat (first | refine kn_ ?_ _ | refine blk_drew ?_ | refine ka_ ?_ _)); refine blk_put (cs := #[.int .i64 0, .slice none 0 0]) ?_ 0 _ rfl; (with_reducible repeat (first | refine kn_ ?_ _ | refine blk_drew ?_ | refine ka_ ?_ _)); exact BK340.out) Try.underlying24 rfl (by kernel_rfl)) rfl ?_
    exact ⟨_, rF_, by (with_reducible repeat (first | apply Kd.S_alloc | apply Kd.S_drewN | apply Kd.S_drew)); exact Kd.S_mono (Kd.S_far (p := ⟨gb340, 1, none⟩) (Kd.S_far (p := ⟨gb340, 0, none⟩) (Kd.S_types HO345.out BK340.out (by decide)) (fun _ hk => hk.2) (.int .i64 t342)) (fun _ hk => hk.2) (.slice Ao9 t343.length co9)) (fun _ hk => trivial), bB⟩
  · simp only [Option.some.injEq, Prod.mk.injEq] at H
    obtain ⟨rfl, rfl, rfl⟩ := H
    go_enter Try.func24, Try.ntmps24
    go_wp2_with (first | ((with_reducible refine gate_dst (N := 2) rfl ?_); refine boxE_ HB 2 #[.int .i64 0, .slice none 0 0] 24 ?_; clear HB; intro gb340 w10 HB BK340 GW340 GE340 hb; clear hb) | (refine gc_ 47 5 Try.func47 #[.slice A0 l0.length c0] ?_; (with_reducible refine (impl_ofKind.calls _ _ l0 false _ ?_ ?_ A2.out).mono ?_); exact cB (Kd.C_below HR0.out HB.out); exact HC0.out; rintro e w11 ⟨rfl, hb⟩; refine ⟨_, rfl, ?_⟩; replace BK340 := kb2 BK340 hb; replace HB := hB2 HB hb; (try clear hb); obtain ⟨hcz12_0, hcz12_1, hfz12_0, hfz12_1, _⟩ := two_cells BK340.out))
    refine bodyPost_ret (results_ct rfl _ _ gb340 24 #[.int .i64 0, .slice none 0 0] (0, 0) _ rfl (by (with_reducible repeat (first | refine kn_ ?_ _ | refine blk_drew ?_ | refine ka_ ?_ _)); refine blk_put (cs := #[.int .i64 0, .slice none 0 0]) ?_ 1 _ rfl; (with_reducible repeat (first | refine kn_ ?_ _ | refine blk_drew ?_ | refine ka_ ?_ _)); refine blk_put (cs := #[.int .i64 0, .slice none 0 0]) ?_ 0 _ rfl; (with_reducible repeat (first | refine kn_ ?_ _ | refine blk_drew ?_ | refine ka_ ?_ _)); exact BK340.out) Try.underlying24 rfl (by kernel_rfl)) rfl ?_
    exact ⟨_, rF_, xN_, bB⟩
/-! ### impl_SharedKeys: function 18 -/
def impl_SharedKeys.f (k : Nat) (l0 : List (S24)) : Option (List ByteArray × Bool) := (impl_ofKind.f l0).bind fun t246 => (if t246 = true then ((impl_shared.f k l0).bind fun bt247 => ((impl_Pins_all.f k bt247.1 bt247.2).bind fun bt251 => (some (bt251.1, bt251.2)))) else (some (([] : List ByteArray), false)))
set_option maxHeartbeats 8000000 in
set_option maxRecDepth 100000 in
theorem impl_SharedKeys.calls (k : Nat) (A0 : Option Addr) (c0 : Nat) (l0 : List (S24)) (r1 : List ByteArray) (r2 : Bool) (w : World) (hr0 : Kd.C k24 w A0 l0.length l0) (hc0 : l0.length ≤ c0) (h : impl_SharedKeys.f k l0 = some (r1, r2)) :
    Calls Try.prog 18 #[.slice A0 l0.length c0] w fun e w' => ∃ v0_ : Value, e = .returned (.tuple #[v0_, .bool r2]) ∧ Kd.R Kd.string 9 w' w.heap.size (fun _ => True) v0_ r1 ∧ Below w.heap.size w w' := by
  have HR0 := amk hr0
  have HC0 := amk hc0
  clear hr0 hc0
  have HB := amk (Below.refl w.heap.size w)
  have H : ((impl_ofKind.f l0).bind fun t246 => (if t246 = true then ((impl_shared.f k l0).bind fun bt247 => ((impl_Pins_all.f k bt247.1 bt247.2).bind fun bt251 => (some (bt251.1, bt251.2)))) else (some (([] : List ByteArray), false)))) = some (r1, r2) := h
  clear h
  replace H := bE H
  obtain ⟨t246, A2, H⟩ := H
  replace H := iteB H; obtain ⟨rfl, H⟩ | ⟨rfl, H⟩ := H
  · replace H := Option.bind_eq_some_iff.mp H
    obtain ⟨⟨t247, t248⟩, A40, H⟩ := H
    replace H : ((impl_Pins_all.f k t247 t248).bind fun bt251 => (some (bt251.1, bt251.2))) = some (r1, r2) := H
    have A4 := amk A40
    clear A40
    replace H := bE H
    obtain ⟨⟨t251, t254⟩, A5, H⟩ := H
    try dsimp only at H
    simp only [Option.some.injEq, Prod.mk.injEq] at H
    obtain ⟨rfl, rfl⟩ := H
    go_enter Try.func18, Try.ntmps18
    go_wp2_with (first | (refine gc_ 47 5 Try.func47 #[.slice A0 l0.length c0] ?_; (with_reducible refine (impl_ofKind.calls _ _ l0 true _ ?_ ?_ A2.out).mono ?_); exact cB HR0.out; exact HC0.out; rintro e w6 ⟨rfl, hb⟩; refine ⟨_, rfl, ?_⟩; replace HB := hB2 HB hb; (try clear hb)) | (refine gc_ 48 8 Try.func48 #[.slice A0 l0.length c0] ?_; (with_reducible refine (impl_shared.calls k _ _ l0 t247 t248 _ ?_ ?_ A4.out).mono ?_); exact cB (Kd.C_below HR0.out HB.out); exact HC0.out; rintro e w7 ⟨v249, rfl, ho0, hb⟩; refine ⟨_, rfl, ?_⟩; have HO250 := amk (Kd.S_lower ho0 (below_size bB)); replace HB := hB2 HB hb; (try clear hb); (try clear ho0); obtain ⟨Ao8, co8, eo8⟩ := Kd.S_slice HO250.out; subst eo8) | (refine gc_ 41 9 Try.func41 #[.agg #[.int .i64 t247, .slice Ao8 t248.length co8]] ?_; (with_reducible refine (impl_Pins_all.calls k t247 _ _ t248 t251 t254 _ ?_ ?_ A5.out).mono ?_); exact cB ((Kd.S_reads' HO250.out).2.2); exact (Kd.S_reads' HO250.out).2.1; rintro e w9 ⟨v252, rfl, ho0, hb⟩; refine ⟨_, rfl, ?_⟩; replace HO250 := amk (Kd.S_below (oX HO250) hb); have HO253 := amk (Kd.R_lower ho0 (below_size bB)); replace HB := hB2 HB hb; (try clear hb); (try clear ho0)))
    go_ret2
    exact ⟨_, rF_, oX HO253, bB⟩
  · simp only [Option.some.injEq, Prod.mk.injEq] at H
    obtain ⟨rfl, rfl⟩ := H
    go_enter Try.func18, Try.ntmps18
    go_wp2_with (first | (refine gc_ 47 5 Try.func47 #[.slice A0 l0.length c0] ?_; (with_reducible refine (impl_ofKind.calls _ _ l0 false _ ?_ ?_ A2.out).mono ?_); exact cB HR0.out; exact HC0.out; rintro e w10 ⟨rfl, hb⟩; refine ⟨_, rfl, ?_⟩; replace HB := hB2 HB hb; (try clear hb)))
    go_ret2
    exact ⟨_, rF_, xN_, bB⟩
/-! ### laws_big: function 29 -/
def laws_big.f (l0 : List Int) (l1 : List Int) : Option (Bool) := if (l0.length : Int) > 1048576 then (some true) else (some (decide ((l1.length : Int) > (wrap64 (1048576 - (l0.length : Int))))))
set_option maxHeartbeats 8000000 in
set_option maxRecDepth 100000 in
theorem laws_big.calls (A0 : Option Addr) (c0 : Nat) (l0 : List Int) (A1 : Option Addr) (c1 : Nat) (l1 : List Int) (r : Bool) (w : World) (hr0 : Kd.C (Kd.int .u8) w A0 l0.length l0) (hc0 : l0.length ≤ c0) (hr1 : Kd.C (Kd.int .u8) w A1 l1.length l1) (hc1 : l1.length ≤ c1) (h : laws_big.f l0 l1 = some r) :
    Calls Try.prog 29 #[.slice A0 l0.length c0, .slice A1 l1.length c1] w fun e w' => e = .returned (.bool r) ∧ Drawn0 w w' := by
  have HR0 := amk hr0
  have HC0 := amk hc0
  clear hr0 hc0
  have HR1 := amk hr1
  have HC1 := amk hc1
  clear hr1 hc1
  have H : (if (l0.length : Int) > 1048576 then (some true) else (some (decide ((l1.length : Int) > (wrap64 (1048576 - (l0.length : Int))))))) = some r := h
  clear h
  by_cases c3 : (l0.length : Int) > 1048576
  · rw [if_pos c3] at H
    have c3b0 : decide (1048576 < (l0.length : Int)) = true := decide_eq_true c3
    have c3b1 : decide (1048576 < l0.length) = true := decide_eq_true (by omega)
    clear c3
    obtain rfl := Option.some.inj H
    go_enter Try.func29, Try.ntmps29
    go_wp2
    go_ret
    exact ⟨rS_, dR_⟩
  · rw [if_neg c3] at H
    have c3b0 : decide (1048576 < (l0.length : Int)) = false := decide_eq_false c3
    have c3b1 : decide (1048576 < l0.length) = false := decide_eq_false (by omega)
    clear c3
    obtain rfl := Option.some.inj H
    go_enter Try.func29, Try.ntmps29
    go_wp2
    go_ret
    exact ⟨rS_, dR_⟩
/-! ### laws_eSame: function 72 -/
def laws_eSame.l0 : Nat → List Int → List Int → Int → Int → Option (Bool)
  | 0, _, _, _, _ => none
  | k + 1, x0, x1, x12, x13 => if x13 < x12 then (if 0 ≤ x13 then (if x13 < (x0.length : Int) then (if x13 < (x1.length : Int) then (if (rd x0 x13) = (rd x1 x13) then (laws_eSame.l0 k x0 x1 x12 (wrap64 (x13 + 1))) else (some false)) else (none)) else (none)) else (none)) else (some true)
def laws_eSame.f (k : Nat) (l0 : List Int) (l1 : List Int) : Option (Bool) := if (l0.length : Int) = (l1.length : Int) then (laws_eSame.l0 k l0 l1 (l0.length : Int) 0) else (some false)
set_option maxHeartbeats 8000000 in
set_option maxRecDepth 100000 in
theorem laws_eSame.calls (k : Nat) (A0 : Option Addr) (c0 : Nat) (l0 : List Int) (A1 : Option Addr) (c1 : Nat) (l1 : List Int) (r : Bool) (w : World) (hr0 : Kd.C (Kd.int .i64) w A0 l0.length l0) (hc0 : l0.length ≤ c0) (hr1 : Kd.C (Kd.int .i64) w A1 l1.length l1) (hc1 : l1.length ≤ c1) (h : laws_eSame.f k l0 l1 = some r) :
    Calls Try.prog 72 #[.slice A0 l0.length c0, .slice A1 l1.length c1] w fun e w' => e = .returned (.bool r) ∧ Drawn0 w w' := by
  have HR0 := amk hr0
  have HC0 := amk hc0
  clear hr0 hc0
  have HR1 := amk hr1
  have HC1 := amk hc1
  clear hr1 hc1
  have H : (if (l0.length : Int) = (l1.length : Int) then (laws_eSame.l0 k l0 l1 (l0.length : Int) 0) else (some false)) = some r := h
  clear h
  by_cases c3 : (l0.length : Int) = (l1.length : Int)
  · rw [if_pos c3] at H
    have c3b0 : ((l0.length : Int) == (l1.length : Int)) = true := beq_iff_eq.mpr c3
    have c3b1 : ((l0.length : Int) != (l1.length : Int)) = false := bne_eq_false_iff_eq.mpr c3
    have c3b2 : (l0.length == l1.length) = true := by first | simpa using c3 | (simp at c3 ⊢; omega)
    clear c3
    have H' := amk H
    clear H
    go_enter Try.func72, Try.ntmps72
    go_wp2
    repeat (go_quiet (fail); try go_wp2)
    go_loopg [13] k (fun kq v13 w' => ∃ (x13_1 : Int), v13 = .int .i64 x13_1 ∧ Aside0 (laws_eSame.l0 kq l0 l1 (l0.length : Int) x13_1 = some r) ∧ Aside0 (kq ≤ k) ∧ Drawn0 w w')
    case atStart => exact ⟨(0), rS_, H', ⟨Nat.le_refl _⟩, dR_⟩
    case round =>
      clear H'
      try clear c1; try clear p2; try clear c3; try clear c3b0; try clear c3b1; try clear c3b2
      obtain ⟨x13_1, rfl, HA, HK1, ⟨m1, rfl⟩⟩ := hrel
      cases gk with
      | zero => exact absurd HA.out (by simp [laws_eSame.l0])
      | succ k1 =>
        have H := HA.out
        clear HA
        simp only [laws_eSame.l0] at H
        replace H := iteE H; obtain ⟨c4b0, H⟩ | ⟨c4b0, H⟩ := H
        · replace H := iteN H; obtain ⟨c5b0, H⟩ := H
          replace H := iteN H; obtain ⟨c6b0, H⟩ := H
          replace H := iteN H; obtain ⟨c7b0, H⟩ := H
          by_cases c8 : (rd l0 x13_1) = (rd l1 x13_1)
          · rw [if_pos c8] at H
            have c8b0 : ((rd l0 x13_1) == (rd l1 x13_1)) = true := beq_iff_eq.mpr c8
            have c8b1 : ((rd l0 x13_1) != (rd l1 x13_1)) = false := bne_eq_false_iff_eq.mpr c8
            clear c8
            have H' := amk H
            clear H
            have p352 : 0 ≤ (x13_1 : Int) := dA_
            have q352 : x13_1 < (l0.length : Int) := dA_
            obtain ⟨ad352, e352, hx352_0⟩ := Kd.at_int HR0.out x13_1 p352 q352
            cases e352
            replace p352 := eq_true p352
            replace q352 := eq_true q352
            have p353 : 0 ≤ (x13_1 : Int) := dA_
            have q353 : x13_1 < (l1.length : Int) := dA_
            obtain ⟨ad353, e353, hx353_0⟩ := Kd.at_int HR1.out x13_1 p353 q353
            cases e353
            replace p353 := eq_true p353
            replace q353 := eq_true q353
            go_wp2
            repeat (go_quiet (fail); try go_wp2)
            go_roundg k1
            case measure => have := HK1.out; omega
            case rel => exact ⟨(wrap64 (x13_1 + 1)), rS_, H', ⟨by have := HK1.out; omega⟩, dR_⟩
          · rw [if_neg c8] at H
            have c8b0 : ((rd l0 x13_1) == (rd l1 x13_1)) = false := beq_eq_false_iff_ne.mpr c8
            have c8b1 : ((rd l0 x13_1) != (rd l1 x13_1)) = true := bne_iff_ne.mpr c8
            obtain rfl := Option.some.inj H
            have p352 : 0 ≤ (x13_1 : Int) := dA_
            have q352 : x13_1 < (l0.length : Int) := dA_
            obtain ⟨ad352, e352, hx352_0⟩ := Kd.at_int HR0.out x13_1 p352 q352
            cases e352
            replace p352 := eq_true p352
            replace q352 := eq_true q352
            have p353 : 0 ≤ (x13_1 : Int) := dA_
            have q353 : x13_1 < (l1.length : Int) := dA_
            obtain ⟨ad353, e353, hx353_0⟩ := Kd.at_int HR1.out x13_1 p353 q353
            cases e353
            replace p353 := eq_true p353
            replace q353 := eq_true q353
            go_wp2
            repeat (go_quiet (fail); try go_wp2)
            go_ret
            exact ⟨rS_, dR_⟩
        · obtain rfl := Option.some.inj H
          go_wp2
          repeat (go_quiet (fail); try go_wp2)
          go_ret
          exact ⟨rS_, dR_⟩
  · rw [if_neg c3] at H
    have c3b0 : ((l0.length : Int) == (l1.length : Int)) = false := beq_eq_false_iff_ne.mpr c3
    have c3b1 : ((l0.length : Int) != (l1.length : Int)) = true := bne_iff_ne.mpr c3
    have c3b2 : (l0.length == l1.length) = false := by first | simpa using c3 | (simp at c3 ⊢; omega)
    obtain rfl := Option.some.inj H
    go_enter Try.func72, Try.ntmps72
    go_wp2
    repeat (go_quiet (fail); try go_wp2)
    go_ret
    exact ⟨rS_, dR_⟩
/-! ### laws_eRows: function 52 -/
def laws_eRows.l0 : Nat → List (List Int) → List (List Int) → Int → Int → Option (Bool)
  | 0, _, _, _, _ => none
  | k + 1, x0, x1, x12, x13 => if x13 < x12 then (if 0 ≤ x13 then (if x13 < (x0.length : Int) then (if x13 < (x1.length : Int) then ((laws_eSame.f k (rd_L1 x0 x13) (rd_L1 x1 x13)).bind fun t356 => (if t356 = true then (laws_eRows.l0 k x0 x1 x12 (wrap64 (x13 + 1))) else (some false))) else (none)) else (none)) else (none)) else (some true)
def laws_eRows.f (k : Nat) (l0 : List (List Int)) (l1 : List (List Int)) : Option (Bool) := if (l0.length : Int) = (l1.length : Int) then (laws_eRows.l0 k l0 l1 (l0.length : Int) 0) else (some false)
set_option maxHeartbeats 8000000 in
set_option maxRecDepth 100000 in
theorem laws_eRows.calls (k : Nat) (A0 : Option Addr) (c0 : Nat) (l0 : List (List Int)) (A1 : Option Addr) (c1 : Nat) (l1 : List (List Int)) (r : Bool) (w : World) (hr0 : Kd.C (Kd.slice 3 (Kd.int .i64)) w A0 l0.length l0) (hc0 : l0.length ≤ c0) (hr1 : Kd.C (Kd.slice 3 (Kd.int .i64)) w A1 l1.length l1) (hc1 : l1.length ≤ c1) (h : laws_eRows.f k l0 l1 = some r) :
    Calls Try.prog 52 #[.slice A0 l0.length c0, .slice A1 l1.length c1] w fun e w' => e = .returned (.bool r) ∧ Drawn0 w w' := by
  have HR0 := amk hr0
  have HC0 := amk hc0
  clear hr0 hc0
  have HR1 := amk hr1
  have HC1 := amk hc1
  clear hr1 hc1
  have H : (if (l0.length : Int) = (l1.length : Int) then (laws_eRows.l0 k l0 l1 (l0.length : Int) 0) else (some false)) = some r := h
  clear h
  by_cases c3 : (l0.length : Int) = (l1.length : Int)
  · rw [if_pos c3] at H
    have c3b0 : ((l0.length : Int) == (l1.length : Int)) = true := beq_iff_eq.mpr c3
    have c3b1 : ((l0.length : Int) != (l1.length : Int)) = false := bne_eq_false_iff_eq.mpr c3
    have c3b2 : (l0.length == l1.length) = true := by first | simpa using c3 | (simp at c3 ⊢; omega)
    clear c3
    have H' := amk H
    clear H
    go_enter Try.func52, Try.ntmps52
    go_wp2
    repeat (go_quiet (fail); try go_wp2)
    go_loopg [13] k (fun kq v13 w' => ∃ (x13_1 : Int), v13 = .int .i64 x13_1 ∧ Aside0 (laws_eRows.l0 kq l0 l1 (l0.length : Int) x13_1 = some r) ∧ Aside0 (kq ≤ k) ∧ Drawn0 w w')
    case atStart => exact ⟨(0), rS_, H', ⟨Nat.le_refl _⟩, dR_⟩
    case round =>
      clear H'
      try clear c1; try clear p2; try clear c3; try clear c3b0; try clear c3b1; try clear c3b2
      obtain ⟨x13_1, rfl, HA, HK1, ⟨m1, rfl⟩⟩ := hrel
      cases gk with
      | zero => exact absurd HA.out (by simp [laws_eRows.l0])
      | succ k1 =>
        have H := HA.out
        clear HA
        simp only [laws_eRows.l0] at H
        replace H := iteE H; obtain ⟨c4b0, H⟩ | ⟨c4b0, H⟩ := H
        · replace H := iteN H; obtain ⟨c5b0, H⟩ := H
          replace H := iteN H; obtain ⟨c6b0, H⟩ := H
          replace H := iteN H; obtain ⟨c7b0, H⟩ := H
          replace H := bE H
          obtain ⟨t356, A8, H⟩ := H
          replace H := iteB H; obtain ⟨rfl, H⟩ | ⟨rfl, H⟩ := H
          · have H' := amk H
            clear H
            have p354 : 0 ≤ (x13_1 : Int) := dA_
            have q354 : x13_1 < (l0.length : Int) := dA_
            obtain ⟨ad354, A354_0, c354_0, e354, hx354_0, hl354_0, hi354_0⟩ := at_L1 HR0.out x13_1 p354 q354
            cases e354
            have HR354_0 := amk hi354_0
            have HC354_0 := amk hl354_0
            clear hi354_0 hl354_0
            replace p354 := eq_true p354
            replace q354 := eq_true q354
            have p355 : 0 ≤ (x13_1 : Int) := dA_
            have q355 : x13_1 < (l1.length : Int) := dA_
            obtain ⟨ad355, A355_0, c355_0, e355, hx355_0, hl355_0, hi355_0⟩ := at_L1 HR1.out x13_1 p355 q355
            cases e355
            have HR355_0 := amk hi355_0
            have HC355_0 := amk hl355_0
            clear hi355_0 hl355_0
            replace p355 := eq_true p355
            replace q355 := eq_true q355
            go_wp2_with (first | (go_at_call 72; (with_reducible refine (laws_eSame.calls k1 _ _ (rd_L1 l0 x13_1) _ _ (rd_L1 l1 x13_1) true _ ?_ ?_ ?_ ?_ A8.out).mono ?_); exact cB HR354_0.out; exact HC354_0.out; exact cB HR355_0.out; exact HC355_0.out; rintro e w' ⟨rfl, ⟨nd, rfl⟩⟩; (try exact dN_)))
            repeat (go_quiet (first | (go_at_call 72; (with_reducible refine (laws_eSame.calls k1 _ _ (rd_L1 l0 x13_1) _ _ (rd_L1 l1 x13_1) true _ ?_ ?_ ?_ ?_ A8.out).mono ?_); exact cB HR354_0.out; exact HC354_0.out; exact cB HR355_0.out; exact HC355_0.out; rintro e w' ⟨rfl, ⟨nd, rfl⟩⟩; (try exact dN_))); try go_wp2_with (first | (go_at_call 72; (with_reducible refine (laws_eSame.calls k1 _ _ (rd_L1 l0 x13_1) _ _ (rd_L1 l1 x13_1) true _ ?_ ?_ ?_ ?_ A8.out).mono ?_); exact cB HR354_0.out; exact HC354_0.out; exact cB HR355_0.out; exact HC355_0.out; rintro e w' ⟨rfl, ⟨nd, rfl⟩⟩; (try exact dN_))))
            go_roundg k1
            case measure => have := HK1.out; omega
            case rel => exact ⟨(wrap64 (x13_1 + 1)), rS_, H', ⟨by have := HK1.out; omega⟩, dR_⟩
          · obtain rfl := Option.some.inj H
            have p354 : 0 ≤ (x13_1 : Int) := dA_
            have q354 : x13_1 < (l0.length : Int) := dA_
            obtain ⟨ad354, A354_0, c354_0, e354, hx354_0, hl354_0, hi354_0⟩ := at_L1 HR0.out x13_1 p354 q354
            cases e354
            have HR354_0 := amk hi354_0
            have HC354_0 := amk hl354_0
            clear hi354_0 hl354_0
            replace p354 := eq_true p354
            replace q354 := eq_true q354
            have p355 : 0 ≤ (x13_1 : Int) := dA_
            have q355 : x13_1 < (l1.length : Int) := dA_
            obtain ⟨ad355, A355_0, c355_0, e355, hx355_0, hl355_0, hi355_0⟩ := at_L1 HR1.out x13_1 p355 q355
            cases e355
            have HR355_0 := amk hi355_0
            have HC355_0 := amk hl355_0
            clear hi355_0 hl355_0
            replace p355 := eq_true p355
            replace q355 := eq_true q355
            go_wp2_with (first | (go_at_call 72; (with_reducible refine (laws_eSame.calls k1 _ _ (rd_L1 l0 x13_1) _ _ (rd_L1 l1 x13_1) false _ ?_ ?_ ?_ ?_ A8.out).mono ?_); exact cB HR354_0.out; exact HC354_0.out; exact cB HR355_0.out; exact HC355_0.out; rintro e w' ⟨rfl, ⟨nd, rfl⟩⟩; (try exact dN_)))
            repeat (go_quiet (first | (go_at_call 72; (with_reducible refine (laws_eSame.calls k1 _ _ (rd_L1 l0 x13_1) _ _ (rd_L1 l1 x13_1) false _ ?_ ?_ ?_ ?_ A8.out).mono ?_); exact cB HR354_0.out; exact HC354_0.out; exact cB HR355_0.out; exact HC355_0.out; rintro e w' ⟨rfl, ⟨nd, rfl⟩⟩; (try exact dN_))); try go_wp2_with (first | (go_at_call 72; (with_reducible refine (laws_eSame.calls k1 _ _ (rd_L1 l0 x13_1) _ _ (rd_L1 l1 x13_1) false _ ?_ ?_ ?_ ?_ A8.out).mono ?_); exact cB HR354_0.out; exact HC354_0.out; exact cB HR355_0.out; exact HC355_0.out; rintro e w' ⟨rfl, ⟨nd, rfl⟩⟩; (try exact dN_))))
            go_ret
            exact ⟨rS_, dR_⟩
        · obtain rfl := Option.some.inj H
          go_wp2
          repeat (go_quiet (fail); try go_wp2)
          go_ret
          exact ⟨rS_, dR_⟩
  · rw [if_neg c3] at H
    have c3b0 : ((l0.length : Int) == (l1.length : Int)) = false := beq_eq_false_iff_ne.mpr c3
    have c3b1 : ((l0.length : Int) != (l1.length : Int)) = true := bne_iff_ne.mpr c3
    have c3b2 : (l0.length == l1.length) = false := by first | simpa using c3 | (simp at c3 ⊢; omega)
    obtain rfl := Option.some.inj H
    go_enter Try.func52, Try.ntmps52
    go_wp2
    repeat (go_quiet (fail); try go_wp2)
    go_ret
    exact ⟨rS_, dR_⟩
/-! ### laws_ePins: function 26 -/
def laws_ePins.f (k : Nat) (a0_0 : Int) (l0_1 : List (List Int)) (a1_0 : Int) (l1_1 : List (List Int)) : Option (Bool) := if a0_0 = a1_0 then ((laws_eRows.f k l0_1 l1_1).bind fun t359 => (some t359)) else (some false)
set_option maxHeartbeats 8000000 in
set_option maxRecDepth 100000 in
theorem laws_ePins.calls (k : Nat) (a0_0 : Int) (A0_1 : Option Addr) (c0_1 : Nat) (l0_1 : List (List Int)) (a1_0 : Int) (A1_1 : Option Addr) (c1_1 : Nat) (l1_1 : List (List Int)) (r : Bool) (w : World) (hr0_1 : Kd.C (Kd.slice 3 (Kd.int .i64)) w A0_1 l0_1.length l0_1) (hc0_1 : l0_1.length ≤ c0_1) (hr1_1 : Kd.C (Kd.slice 3 (Kd.int .i64)) w A1_1 l1_1.length l1_1) (hc1_1 : l1_1.length ≤ c1_1) (h : laws_ePins.f k a0_0 l0_1 a1_0 l1_1 = some r) :
    Calls Try.prog 26 #[.agg #[.int .i64 a0_0, .slice A0_1 l0_1.length c0_1], .agg #[.int .i64 a1_0, .slice A1_1 l1_1.length c1_1]] w fun e w' => e = .returned (.bool r) ∧ Below w.heap.size w w' := by
  have hu24 := Try.underlying24
  have HR0_1 := amk hr0_1
  have HC0_1 := amk hc0_1
  clear hr0_1 hc0_1
  have HR1_1 := amk hr1_1
  have HC1_1 := amk hc1_1
  clear hr1_1 hc1_1
  have HB := amk (Below.refl w.heap.size w)
  have H : (if a0_0 = a1_0 then ((laws_eRows.f k l0_1 l1_1).bind fun t359 => (some t359)) else (some false)) = some r := h
  clear h
  by_cases c3 : a0_0 = a1_0
  · rw [if_pos c3] at H
    have c3b0 : (a0_0 == a1_0) = true := beq_iff_eq.mpr c3
    have c3b1 : (a0_0 != a1_0) = false := bne_eq_false_iff_eq.mpr c3
    clear c3
    replace H := bE H
    obtain ⟨t359, A4, H⟩ := H
    obtain rfl := Option.some.inj H
    go_enter Try.func26, Try.ntmps26
    go_wp2_with (first | ((with_reducible refine gate_dst (N := 2) rfl ?_); refine boxE_ HB 2 #[.int .i64 a0_0, .slice A0_1 l0_1.length c0_1] 24 ?_; clear HB; intro gb357 w5 HB BK357 GW357 GE357 hb; clear hb) | ((with_reducible refine gate_dst (N := 3) rfl ?_); refine boxG_ 3 #[.int .i64 a1_0, .slice A1_1 l1_1.length c1_1] 24 ?_; intro gb358 w6 hg BK358 hb; have GW358 := sZ HB hg; have GE358 := sZ HB hg; replace HB := hB2 HB hb; have NB357_358 := neL BK357 hg; have NB358_357 := neR BK357 hg; replace BK357 := kb2 BK357 hb; clear hb hg; have hnb7 := NB357_358.out; have hnc7 := NB358_357.out; obtain ⟨hcz8_0, hcz8_1, hfz8_0, hfz8_1, _⟩ := two_cells BK357.out; obtain ⟨hcz9_0, hcz9_1, hfz9_0, hfz9_1, _⟩ := two_cells BK358.out) | (go_at_call 52; (with_reducible refine (laws_eRows.calls k _ _ l0_1 _ _ l1_1 t359 _ ?_ ?_ ?_ ?_ A4.out).mono ?_); exact cB (Kd.C_below HR0_1.out HB.out); exact HC0_1.out; exact cB (Kd.C_below HR1_1.out HB.out); exact HC1_1.out; rintro e w' ⟨rfl, ⟨nd, rfl⟩⟩))
    go_ret
    exact ⟨rF_, bB⟩
  · rw [if_neg c3] at H
    have c3b0 : (a0_0 == a1_0) = false := beq_eq_false_iff_ne.mpr c3
    have c3b1 : (a0_0 != a1_0) = true := bne_iff_ne.mpr c3
    obtain rfl := Option.some.inj H
    go_enter Try.func26, Try.ntmps26
    go_wp2_with (first | ((with_reducible refine gate_dst (N := 2) rfl ?_); refine boxE_ HB 2 #[.int .i64 a0_0, .slice A0_1 l0_1.length c0_1] 24 ?_; clear HB; intro gb357 w10 HB BK357 GW357 GE357 hb; clear hb) | ((with_reducible refine gate_dst (N := 3) rfl ?_); refine boxG_ 3 #[.int .i64 a1_0, .slice A1_1 l1_1.length c1_1] 24 ?_; intro gb358 w11 hg BK358 hb; have GW358 := sZ HB hg; have GE358 := sZ HB hg; replace HB := hB2 HB hb; have NB357_358 := neL BK357 hg; have NB358_357 := neR BK357 hg; replace BK357 := kb2 BK357 hb; clear hb hg; have hnb12 := NB357_358.out; have hnc12 := NB358_357.out; obtain ⟨hcz13_0, hcz13_1, hfz13_0, hfz13_1, _⟩ := two_cells BK357.out; obtain ⟨hcz14_0, hcz14_1, hfz14_0, hfz14_1, _⟩ := two_cells BK358.out))
    go_ret
    exact ⟨rF_, bB⟩
/-! Texts compared by '<=', '>', '>=', told by '<' alone. -/
theorem less_le : ∀ x y : List UInt8, (Op.bytesLess x y || x == y) = !(Op.bytesLess y x)
  | [], [] => rfl
  | [], _ :: _ => rfl
  | _ :: _, [] => rfl
  | a :: x, b :: y => by
    have ih := less_le x y
    simp only [Op.bytesLess, List.cons_beq_cons]
    by_cases h1 : a < b
    · have h2 : ¬ b < a := fun h => absurd h1 (UInt8.lt_asymm h)
      have h3 : (b == a) = false := beq_eq_false_iff_ne.mpr (fun e => by subst e; exact UInt8.lt_irrefl _ h1)
      simp [h1, h2, h3]
    · by_cases h2 : b < a
      · have h3 : (a == b) = false := beq_eq_false_iff_ne.mpr (fun e => by subst e; exact UInt8.lt_irrefl _ h2)
        simp [h1, h2, h3]
      · have h3 : a = b := UInt8.le_antisymm (UInt8.not_lt.mp h2) (UInt8.not_lt.mp h1)
        subst h3
        simp only [h1, decide_false, Bool.false_or, BEq.rfl, Bool.true_and]
        exact ih
theorem binOp_leq_n (t : TypeId) (a b : ByteArray) : binOp .leq t (.string a) (.string b) = pure (.bool !(Op.bytesLess b.toList a.toList)) := by
  rw [← less_le]; simp [binOp, Op.stringOp]
theorem binOp_gtr_n (t : TypeId) (a b : ByteArray) : binOp .gtr t (.string a) (.string b) = pure (.bool (Op.bytesLess b.toList a.toList)) := by
  rw [show Op.bytesLess b.toList a.toList = !(Op.bytesLess a.toList b.toList || a.toList == b.toList) by rw [less_le]; simp]; simp [binOp, Op.stringOp]
theorem binOp_geq_n (t : TypeId) (a b : ByteArray) : binOp .geq t (.string a) (.string b) = pure (.bool !(Op.bytesLess a.toList b.toList)) := by simp [binOp, Op.stringOp]
section
attribute [local go_sem high] binOp_leq_n binOp_gtr_n binOp_geq_n
/-! ### laws_eSorted: function 16 -/
def laws_eSorted.l0 : Nat → List ByteArray → Int → Option (Bool)
  | 0, _, _ => none
  | k + 1, x0, x3 => if x3 < (x0.length : Int) then (if 0 ≤ (wrap64 (x3 - 1)) then (if (wrap64 (x3 - 1)) < (x0.length : Int) then (if 0 ≤ x3 then (if ((Op.bytesLess ((rdOf ByteArray.empty x0 (wrap64 (x3 - 1))).toList) ((rdOf ByteArray.empty x0 x3).toList)) = true) then (laws_eSorted.l0 k x0 (wrap64 (x3 + 1))) else (some false)) else (none)) else (none)) else (none)) else (some true)
def laws_eSorted.f (k : Nat) (l0 : List ByteArray) : Option (Bool) := laws_eSorted.l0 k l0 1
set_option maxHeartbeats 8000000 in
set_option maxRecDepth 100000 in
theorem laws_eSorted.calls (k : Nat) (A0 : Option Addr) (c0 : Nat) (l0 : List ByteArray) (r : Bool) (w : World) (hr0 : Kd.C Kd.string w A0 l0.length l0) (hc0 : l0.length ≤ c0) (h : laws_eSorted.f k l0 = some r) :
    Calls Try.prog 16 #[.slice A0 l0.length c0] w fun e w' => e = .returned (.bool r) ∧ Drawn0 w w' := by
  have HR0 := amk hr0
  have HC0 := amk hc0
  clear hr0 hc0
  have H : (laws_eSorted.l0 k l0 1) = some r := h
  clear h
  have H' := amk H
  clear H
  go_enter Try.func16, Try.ntmps16
  go_wp2
  repeat ((first | go_quiet (fail) | (refine wp_region_quiet_lit (by kernel_rfl) (by kernel_rfl) ?_; repeat (first | go_big_quiet_skip | (go_big_quiet_want; go_big_quiet_op; go_big_quiet_on) | (go_big_quiet_want; unfold Oper.quiet; apply Exists.intro; refine ⟨fun w' hS => ?_, ?_⟩; (focus (obtain ⟨n_, rfl⟩ := hS; unfold Oper.quietAt; go_simp; first | done | exact ⟨rfl, rfl⟩ | exact rfl)); simp only [Act.put, List.setIfInBounds_toArray, List.set_cons_zero, List.set_cons_succ]; go_big_quiet_on)); refine wpQuiet_nil ?_; intro _ hw'; obtain ⟨nq, hw''⟩ := hw'; subst hw'')); try go_wp2)
  go_loopg [3] k (fun kq v3 w' => ∃ (x3_1 : Int), v3 = .int .i64 x3_1 ∧ Aside0 (laws_eSorted.l0 kq l0 x3_1 = some r) ∧ Aside0 (kq ≤ k) ∧ Drawn0 w w')
  case atStart => exact ⟨(1), rS_, H', ⟨Nat.le_refl _⟩, dR_⟩
  case round =>
    clear H'
    try clear c1
    obtain ⟨x3_1, rfl, HA, HK1, ⟨m1, rfl⟩⟩ := hrel
    cases gk with
    | zero => exact absurd HA.out (by simp [laws_eSorted.l0])
    | succ k1 =>
      have H := HA.out
      clear HA
      simp only [laws_eSorted.l0] at H
      replace H := iteE H; obtain ⟨c2b0, H⟩ | ⟨c2b0, H⟩ := H
      · obtain ⟨ji3, hji3⟩ : ∃ j_ : Int, (wrap64 (x3_1 - 1)) = j_ := ⟨_, rfl⟩
        replace H : (if 0 ≤ (ji3) then (if (ji3) < (l0.length : Int) then (if 0 ≤ x3_1 then (if ((Op.bytesLess ((rdOf ByteArray.empty l0 (ji3)).toList) ((rdOf ByteArray.empty l0 x3_1).toList)) = true) then (laws_eSorted.l0 k1 l0 (wrap64 (x3_1 + 1))) else (some false)) else (none)) else (none)) else (none)) = some r := by first | (rw [hji3] at H; exact H) | (simp only [hji3] at H ⊢; exact H)
        have hji3w : (IntKind.i64.wrap (x3_1 - 1)) = ji3 := (i64_w _).trans hji3
        replace H := iteN H; obtain ⟨c4b0, H⟩ := H
        replace H := iteN H; obtain ⟨c5b0, H⟩ := H
        replace H := iteN H; obtain ⟨c6b0, H⟩ := H
        by_cases c7 : ((Op.bytesLess ((rdOf ByteArray.empty l0 (ji3)).toList) ((rdOf ByteArray.empty l0 x3_1).toList)) = true)
        · rw [if_pos c7] at H
          have c7b0 : (Op.bytesLess ((rdOf ByteArray.empty l0 (ji3)).toList) ((rdOf ByteArray.empty l0 x3_1).toList)) = true := c7
          clear c7
          have H' := amk H
          clear H
          have p221 : 0 ≤ ((ji3) : Int) := dA_
          have q221 : (ji3) < (l0.length : Int) := dA_
          obtain ⟨ad221, e221, hx221_0⟩ := Kd.at_string HR0.out (ji3) p221 q221
          cases e221
          replace p221 := eq_true p221
          replace q221 := eq_true q221
          have p222 : 0 ≤ (x3_1 : Int) := dA_
          have q222 : x3_1 < (l0.length : Int) := dA_
          obtain ⟨ad222, e222, hx222_0⟩ := Kd.at_string HR0.out x3_1 p222 q222
          obtain rfl : ad221 = ad222 := (by injection e222)
          replace p222 := eq_true p222
          replace q222 := eq_true q222
          go_wp2
          repeat ((first | go_quiet (fail) | (refine wp_region_quiet_lit (by kernel_rfl) (by kernel_rfl) ?_; repeat (first | go_big_quiet_skip | (go_big_quiet_want; go_big_quiet_op; go_big_quiet_on) | (go_big_quiet_want; unfold Oper.quiet; apply Exists.intro; refine ⟨fun w' hS => ?_, ?_⟩; (focus (obtain ⟨n_, rfl⟩ := hS; unfold Oper.quietAt; go_simp; first | done | exact ⟨rfl, rfl⟩ | exact rfl)); simp only [Act.put, List.setIfInBounds_toArray, List.set_cons_zero, List.set_cons_succ]; go_big_quiet_on)); refine wpQuiet_nil ?_; intro _ hw'; obtain ⟨nq, hw''⟩ := hw'; subst hw'')); try go_wp2)
          go_roundg k1
          case measure => have := HK1.out; omega
          case rel => exact ⟨(wrap64 (x3_1 + 1)), rS_, H', ⟨by have := HK1.out; omega⟩, dR_⟩
        · rw [if_neg c7] at H
          have c7b0 : (Op.bytesLess ((rdOf ByteArray.empty l0 (ji3)).toList) ((rdOf ByteArray.empty l0 x3_1).toList)) = false := by simpa using c7
          clear c7
          obtain rfl := Option.some.inj H
          have p221 : 0 ≤ ((ji3) : Int) := dA_
          have q221 : (ji3) < (l0.length : Int) := dA_
          obtain ⟨ad221, e221, hx221_0⟩ := Kd.at_string HR0.out (ji3) p221 q221
          cases e221
          replace p221 := eq_true p221
          replace q221 := eq_true q221
          have p222 : 0 ≤ (x3_1 : Int) := dA_
          have q222 : x3_1 < (l0.length : Int) := dA_
          obtain ⟨ad222, e222, hx222_0⟩ := Kd.at_string HR0.out x3_1 p222 q222
          obtain rfl : ad221 = ad222 := (by injection e222)
          replace p222 := eq_true p222
          replace q222 := eq_true q222
          go_wp2
          repeat ((first | go_quiet (fail) | (refine wp_region_quiet_lit (by kernel_rfl) (by kernel_rfl) ?_; repeat (first | go_big_quiet_skip | (go_big_quiet_want; go_big_quiet_op; go_big_quiet_on) | (go_big_quiet_want; unfold Oper.quiet; apply Exists.intro; refine ⟨fun w' hS => ?_, ?_⟩; (focus (obtain ⟨n_, rfl⟩ := hS; unfold Oper.quietAt; go_simp; first | done | exact ⟨rfl, rfl⟩ | exact rfl)); simp only [Act.put, List.setIfInBounds_toArray, List.set_cons_zero, List.set_cons_succ]; go_big_quiet_on)); refine wpQuiet_nil ?_; intro _ hw'; obtain ⟨nq, hw''⟩ := hw'; subst hw'')); try go_wp2)
          go_ret
          exact ⟨by first | rfl | (simp; done) | (simp only [← hji3] <;> (first | rfl | simp)) | (simp [*]; done), dR_⟩
      · obtain rfl := Option.some.inj H
        go_wp2
        repeat ((first | go_quiet (fail) | (refine wp_region_quiet_lit (by kernel_rfl) (by kernel_rfl) ?_; repeat (first | go_big_quiet_skip | (go_big_quiet_want; go_big_quiet_op; go_big_quiet_on) | (go_big_quiet_want; unfold Oper.quiet; apply Exists.intro; refine ⟨fun w' hS => ?_, ?_⟩; (focus (obtain ⟨n_, rfl⟩ := hS; unfold Oper.quietAt; go_simp; first | done | exact ⟨rfl, rfl⟩ | exact rfl)); simp only [Act.put, List.setIfInBounds_toArray, List.set_cons_zero, List.set_cons_succ]; go_big_quiet_on)); refine wpQuiet_nil ?_; intro _ hw'; obtain ⟨nq, hw''⟩ := hw'; subst hw'')); try go_wp2)
        go_ret
        exact ⟨rS_, dR_⟩
end
/-! ### laws_eText: function 17 -/
def laws_eText.l0 : Nat → ByteArray → List ByteArray → Int → Int → Option (Bool)
  | 0, _, _, _, _ => none
  | k + 1, x1, x7, x8, x9 => if x9 < x8 then (if 0 ≤ x9 then (if x9 < (x7.length : Int) then (if (rdOf ByteArray.empty x7 x9).toList = x1.toList then (some true) else (laws_eText.l0 k x1 x7 x8 (wrap64 (x9 + 1)))) else (none)) else (none)) else (some false)
def laws_eText.f (k : Nat) (l0 : List ByteArray) (a1 : ByteArray) : Option (Bool) := laws_eText.l0 k a1 l0 (l0.length : Int) 0
set_option maxHeartbeats 8000000 in
set_option maxRecDepth 100000 in
theorem laws_eText.calls (k : Nat) (A0 : Option Addr) (c0 : Nat) (l0 : List ByteArray) (a1 : ByteArray) (r : Bool) (w : World) (hr0 : Kd.C Kd.string w A0 l0.length l0) (hc0 : l0.length ≤ c0) (h : laws_eText.f k l0 a1 = some r) :
    Calls Try.prog 17 #[.slice A0 l0.length c0, .string a1] w fun e w' => e = .returned (.bool r) ∧ Drawn0 w w' := by
  have HR0 := amk hr0
  have HC0 := amk hc0
  clear hr0 hc0
  have H : (laws_eText.l0 k a1 l0 (l0.length : Int) 0) = some r := h
  clear h
  have H' := amk H
  clear H
  go_enter Try.func17, Try.ntmps17
  go_wp2
  go_loopg [9] k (fun kq v9 w' => ∃ (x9_1 : Int), v9 = .int .i64 x9_1 ∧ Aside0 (laws_eText.l0 kq a1 l0 (l0.length : Int) x9_1 = some r) ∧ Aside0 (kq ≤ k) ∧ Drawn0 w w')
  case atStart => exact ⟨(0), rS_, H', ⟨Nat.le_refl _⟩, dR_⟩
  case round =>
    clear H'
    try clear c1; try clear p2
    obtain ⟨x9_1, rfl, HA, HK1, ⟨m1, rfl⟩⟩ := hrel
    cases gk with
    | zero => exact absurd HA.out (by simp [laws_eText.l0])
    | succ k1 =>
      have H := HA.out
      clear HA
      simp only [laws_eText.l0] at H
      replace H := iteE H; obtain ⟨c3b0, H⟩ | ⟨c3b0, H⟩ := H
      · replace H := iteN H; obtain ⟨c4b0, H⟩ := H
        replace H := iteN H; obtain ⟨c5b0, H⟩ := H
        by_cases c6 : (rdOf ByteArray.empty l0 x9_1).toList = a1.toList
        · rw [if_pos c6] at H
          have c6b0 : ((rdOf ByteArray.empty l0 x9_1).toList == a1.toList) = true := beq_iff_eq.mpr c6
          have c6b1 : ((rdOf ByteArray.empty l0 x9_1).toList != a1.toList) = false := bne_eq_false_iff_eq.mpr c6
          clear c6
          obtain rfl := Option.some.inj H
          have p223 : 0 ≤ (x9_1 : Int) := dA_
          have q223 : x9_1 < (l0.length : Int) := dA_
          obtain ⟨ad223, e223, hx223_0⟩ := Kd.at_string HR0.out x9_1 p223 q223
          cases e223
          replace p223 := eq_true p223
          replace q223 := eq_true q223
          go_wp2
          go_ret
          exact ⟨rS_, dR_⟩
        · rw [if_neg c6] at H
          have c6b0 : ((rdOf ByteArray.empty l0 x9_1).toList == a1.toList) = false := beq_eq_false_iff_ne.mpr c6
          have c6b1 : ((rdOf ByteArray.empty l0 x9_1).toList != a1.toList) = true := bne_iff_ne.mpr c6
          have H' := amk H
          clear H
          have p223 : 0 ≤ (x9_1 : Int) := dA_
          have q223 : x9_1 < (l0.length : Int) := dA_
          obtain ⟨ad223, e223, hx223_0⟩ := Kd.at_string HR0.out x9_1 p223 q223
          cases e223
          replace p223 := eq_true p223
          replace q223 := eq_true q223
          go_wp2
          go_roundg k1
          case measure => have := HK1.out; omega
          case rel => exact ⟨(wrap64 (x9_1 + 1)), rS_, H', ⟨by have := HK1.out; omega⟩, dR_⟩
      · obtain rfl := Option.some.inj H
        go_wp2
        go_ret
        exact ⟨rS_, dR_⟩
/-! ### laws_eTexts: function 13 -/
def laws_eTexts.l0 : Nat → List ByteArray → List ByteArray → Int → Int → Option (Bool)
  | 0, _, _, _, _ => none
  | k + 1, x0, x1, x12, x13 => if x13 < x12 then (if 0 ≤ x13 then (if x13 < (x0.length : Int) then (if x13 < (x1.length : Int) then (if (rdOf ByteArray.empty x0 x13).toList = (rdOf ByteArray.empty x1 x13).toList then (laws_eTexts.l0 k x0 x1 x12 (wrap64 (x13 + 1))) else (some false)) else (none)) else (none)) else (none)) else (some true)
def laws_eTexts.f (k : Nat) (l0 : List ByteArray) (l1 : List ByteArray) : Option (Bool) := if (l0.length : Int) = (l1.length : Int) then (laws_eTexts.l0 k l0 l1 (l0.length : Int) 0) else (some false)
set_option maxHeartbeats 8000000 in
set_option maxRecDepth 100000 in
theorem laws_eTexts.calls (k : Nat) (A0 : Option Addr) (c0 : Nat) (l0 : List ByteArray) (A1 : Option Addr) (c1 : Nat) (l1 : List ByteArray) (r : Bool) (w : World) (hr0 : Kd.C Kd.string w A0 l0.length l0) (hc0 : l0.length ≤ c0) (hr1 : Kd.C Kd.string w A1 l1.length l1) (hc1 : l1.length ≤ c1) (h : laws_eTexts.f k l0 l1 = some r) :
    Calls Try.prog 13 #[.slice A0 l0.length c0, .slice A1 l1.length c1] w fun e w' => e = .returned (.bool r) ∧ Drawn0 w w' := by
  have HR0 := amk hr0
  have HC0 := amk hc0
  clear hr0 hc0
  have HR1 := amk hr1
  have HC1 := amk hc1
  clear hr1 hc1
  have H : (if (l0.length : Int) = (l1.length : Int) then (laws_eTexts.l0 k l0 l1 (l0.length : Int) 0) else (some false)) = some r := h
  clear h
  by_cases c3 : (l0.length : Int) = (l1.length : Int)
  · rw [if_pos c3] at H
    have c3b0 : ((l0.length : Int) == (l1.length : Int)) = true := beq_iff_eq.mpr c3
    have c3b1 : ((l0.length : Int) != (l1.length : Int)) = false := bne_eq_false_iff_eq.mpr c3
    have c3b2 : (l0.length == l1.length) = true := by first | simpa using c3 | (simp at c3 ⊢; omega)
    clear c3
    have H' := amk H
    clear H
    go_enter Try.func13, Try.ntmps13
    go_wp2
    repeat (go_quiet (fail); try go_wp2)
    go_loopg [13] k (fun kq v13 w' => ∃ (x13_1 : Int), v13 = .int .i64 x13_1 ∧ Aside0 (laws_eTexts.l0 kq l0 l1 (l0.length : Int) x13_1 = some r) ∧ Aside0 (kq ≤ k) ∧ Drawn0 w w')
    case atStart => exact ⟨(0), rS_, H', ⟨Nat.le_refl _⟩, dR_⟩
    case round =>
      clear H'
      try clear c1; try clear p2; try clear c3; try clear c3b0; try clear c3b1; try clear c3b2
      obtain ⟨x13_1, rfl, HA, HK1, ⟨m1, rfl⟩⟩ := hrel
      cases gk with
      | zero => exact absurd HA.out (by simp [laws_eTexts.l0])
      | succ k1 =>
        have H := HA.out
        clear HA
        simp only [laws_eTexts.l0] at H
        replace H := iteE H; obtain ⟨c4b0, H⟩ | ⟨c4b0, H⟩ := H
        · replace H := iteN H; obtain ⟨c5b0, H⟩ := H
          replace H := iteN H; obtain ⟨c6b0, H⟩ := H
          replace H := iteN H; obtain ⟨c7b0, H⟩ := H
          by_cases c8 : (rdOf ByteArray.empty l0 x13_1).toList = (rdOf ByteArray.empty l1 x13_1).toList
          · rw [if_pos c8] at H
            have c8b0 : ((rdOf ByteArray.empty l0 x13_1).toList == (rdOf ByteArray.empty l1 x13_1).toList) = true := beq_iff_eq.mpr c8
            have c8b1 : ((rdOf ByteArray.empty l0 x13_1).toList != (rdOf ByteArray.empty l1 x13_1).toList) = false := bne_eq_false_iff_eq.mpr c8
            clear c8
            have H' := amk H
            clear H
            have p217 : 0 ≤ (x13_1 : Int) := dA_
            have q217 : x13_1 < (l0.length : Int) := dA_
            obtain ⟨ad217, e217, hx217_0⟩ := Kd.at_string HR0.out x13_1 p217 q217
            cases e217
            replace p217 := eq_true p217
            replace q217 := eq_true q217
            have p218 : 0 ≤ (x13_1 : Int) := dA_
            have q218 : x13_1 < (l1.length : Int) := dA_
            obtain ⟨ad218, e218, hx218_0⟩ := Kd.at_string HR1.out x13_1 p218 q218
            cases e218
            replace p218 := eq_true p218
            replace q218 := eq_true q218
            go_wp2
            repeat (go_quiet (fail); try go_wp2)
            go_roundg k1
            case measure => have := HK1.out; omega
            case rel => exact ⟨(wrap64 (x13_1 + 1)), rS_, H', ⟨by have := HK1.out; omega⟩, dR_⟩
          · rw [if_neg c8] at H
            have c8b0 : ((rdOf ByteArray.empty l0 x13_1).toList == (rdOf ByteArray.empty l1 x13_1).toList) = false := beq_eq_false_iff_ne.mpr c8
            have c8b1 : ((rdOf ByteArray.empty l0 x13_1).toList != (rdOf ByteArray.empty l1 x13_1).toList) = true := bne_iff_ne.mpr c8
            obtain rfl := Option.some.inj H
            have p217 : 0 ≤ (x13_1 : Int) := dA_
            have q217 : x13_1 < (l0.length : Int) := dA_
            obtain ⟨ad217, e217, hx217_0⟩ := Kd.at_string HR0.out x13_1 p217 q217
            cases e217
            replace p217 := eq_true p217
            replace q217 := eq_true q217
            have p218 : 0 ≤ (x13_1 : Int) := dA_
            have q218 : x13_1 < (l1.length : Int) := dA_
            obtain ⟨ad218, e218, hx218_0⟩ := Kd.at_string HR1.out x13_1 p218 q218
            cases e218
            replace p218 := eq_true p218
            replace q218 := eq_true q218
            go_wp2
            repeat (go_quiet (fail); try go_wp2)
            go_ret
            exact ⟨rS_, dR_⟩
        · obtain rfl := Option.some.inj H
          go_wp2
          repeat (go_quiet (fail); try go_wp2)
          go_ret
          exact ⟨rS_, dR_⟩
  · rw [if_neg c3] at H
    have c3b0 : ((l0.length : Int) == (l1.length : Int)) = false := beq_eq_false_iff_ne.mpr c3
    have c3b1 : ((l0.length : Int) != (l1.length : Int)) = true := bne_iff_ne.mpr c3
    have c3b2 : (l0.length == l1.length) = false := by first | simpa using c3 | (simp at c3 ⊢; omega)
    obtain rfl := Option.some.inj H
    go_enter Try.func13, Try.ntmps13
    go_wp2
    repeat (go_quiet (fail); try go_wp2)
    go_ret
    exact ⟨rS_, dR_⟩
/-! ### spec_l1Num: function 68 -/
def spec_l1Num.f : Nat → Int → Option (ByteArray)
  | 0, _ => none
  | k + 1, a0 => if a0 < 10 then (some (strOfNums (([(wrap64 (48 + a0)) % 256] : List Int)))) else ((spec_l1Num.f k (wrap64 (Int.tdiv a0 10))).bind fun t194 => ((some (([(wrap64 (48 + (Int.tmod a0 10))) % 256] : List Int) : List Int)).bind fun y195 => (if t194.size + (strOfNums y195).size ≤ 9223372036854775807 then (some (t194 ++ (strOfNums y195))) else (none))))
def spec_l1Num.T3 : Bool × List (List Nat × List Nat) := (true, [([], []), ([0], [0]), ([1], [1]), ([], []), ([3], [3]), ([4], [4]), ([5], [5]), ([6], [6]), ([7], [7]), ([2, 8], [2, 8]), ([9, 2, 0, 1, 2, 3, 4, 5, 6, 7, 8, 9], [9])])
def spec_l1Num.B3 : List Nat := [0, 1, 3, 0, 8, 24, 56, 120, 248, 511, 1023]
theorem spec_l1Num.tab3 : rtab .any (opsOf Try.f68 3) = spec_l1Num.T3 := by kernel_rfl
theorem spec_l1Num.bits3 : waitsOk spec_l1Num.T3.2 spec_l1Num.B3 = true := by kernel_rfl
set_option maxHeartbeats 8000000 in
set_option maxRecDepth 100000 in
theorem spec_l1Num.calls (k : Nat) : ∀ (a0 : Int) (r : ByteArray) (w : World) (h : spec_l1Num.f k a0 = some r),
    Calls Try.prog 68 #[.int .i64 a0] w fun e w' => e = .returned (.string r) ∧ Below w.heap.size w w' := by
  induction k using Nat.strongRecOn with
  | _ k ih =>
  intro a0 r w h
  cases k with
  | zero => exact absurd h (by simp [spec_l1Num.f])
  | succ k =>
  simp only [spec_l1Num.f] at h
  have HB := amk (Below.refl w.heap.size w)
  have H : (if a0 < 10 then (some (strOfNums (([(wrap64 (48 + a0)) % 256] : List Int)))) else ((spec_l1Num.f k (wrap64 (Int.tdiv a0 10))).bind fun t194 => ((some (([(wrap64 (48 + (Int.tmod a0 10))) % 256] : List Int) : List Int)).bind fun y195 => (if t194.size + (strOfNums y195).size ≤ 9223372036854775807 then (some (t194 ++ (strOfNums y195))) else (none))))) = some r := h
  clear h
  replace H := iteE H; obtain ⟨c2b0, H⟩ | ⟨c2b0, H⟩ := H
  · obtain ⟨y191, hy191⟩ : ∃ y_ : List Int, y_ = (([(wrap64 (48 + a0)) % 256] : List Int)) := ⟨_, rfl⟩
    replace H : (some (strOfNums y191)) = some r := by first | (rw [hy191]; with_reducible exact H) | (have H2_ := (Option.bind_some _ _).symm.trans H; rw [hy191]; with_reducible exact H2_) | (have H2_ := (Option.bind_some _ _).symm.trans H; with_reducible exact H2_) | with_reducible exact H | (rw [hy191]; exact H) | exact H
    have Ny191 := amk hy191
    clear hy191
    obtain rfl := Option.some.inj H
    go_enter Try.func68, Try.ntmps68
    go_wp2_with (first | ((with_reducible refine gate_dst (N := 8) rfl ?_); refine Kd.R_lit (Kd.int .u8) _ 5 ?hg (N := 8) ?hd (xs := ([(wrap64 (48 + a0)) % 256] : List Int)) (inner := [.int .u8 ((wrap64 (48 + a0)) % 256)]) (ok := fun _ => True) (okp := fun _ => True) ?hr ?hp (fun _ hk => hk) trivial (Below.refl _ _) (Nat.le_refl _) (by simp) ?_; (case hd => rfl); (case hg => rfl); (case hr => first | (go_simp; done) | (go_simp; rfl)); (case hp => exact (Reps.one (show Kd.M (Kd.int .u8) _ _ _ ((wrap64 (48 + a0)) % 256) [.int .u8 ((wrap64 (48 + a0)) % 256)] from rfl) (Reps.none _ _))); intro v192 w3 ho4 hb hg_ hnew_; clear hg_ hnew_; (first | rw [← Ny191.out] at ho4 | (simp only [Int.reduceToNat] at ho4; rw [← Ny191.out] at ho4)); have HO193 := amk (Kd.R_lower ho4 (below_size bB)); replace HB := hB2 HB hb; clear hb ho4; have hcv5 := own_string (P := Try.prog) Try.underlying44 Try.underlying5 Try.underlying9 (Kd.own_of_R HO193.out)))
    go_ret
    exact ⟨rF_, bB⟩
  · replace H := Option.bind_eq_some_iff.mp H
    obtain ⟨t194, A60, H⟩ := H
    replace H : ((some (([(wrap64 (48 + (Int.tmod a0 10))) % 256] : List Int) : List Int)).bind fun y195 => (if t194.size + (strOfNums y195).size ≤ 9223372036854775807 then (some (t194 ++ (strOfNums y195))) else (none))) = some r := H
    have A6 := amk A60
    clear A60
    obtain ⟨y195, hy195⟩ : ∃ y_ : List Int, y_ = (([(wrap64 (48 + (Int.tmod a0 10))) % 256] : List Int)) := ⟨_, rfl⟩
    replace H : (if t194.size + (strOfNums y195).size ≤ 9223372036854775807 then (some (t194 ++ (strOfNums y195))) else (none)) = some r := by first | (rw [hy195]; with_reducible exact H) | (have H2_ := (Option.bind_some _ _).symm.trans H; rw [hy195]; with_reducible exact H2_) | (have H2_ := (Option.bind_some _ _).symm.trans H; with_reducible exact H2_) | with_reducible exact H | (rw [hy195]; exact H) | exact H
    have Ny195 := amk hy195
    clear hy195
    by_cases c7 : t194.size + (strOfNums y195).size ≤ 9223372036854775807
    · rw [if_pos c7] at H
      have c7b0 := eq_true c7
      have c7b1 : decide (t194.size + (strOfNums y195).size ≤ 9223372036854775807) = true := decide_eq_true c7
      try have c7b2 : (9223372036854775807 < t194.size + (strOfNums y195).size) = False := eq_false (Nat.not_lt.2 c7)
      try have c7b3 : (9223372036854775807 < t194.size + strOfNums y195.size) = False := eq_false (by have h9 := Nat.not_lt.2 c7; simp only [ByteArray.size_append] at h9; exact h9)
      try have c7b4 : decide (t194.size + strOfNums y195.size ≤ 9223372036854775807) = true := decide_eq_true (by have h9 := c7; simp only [ByteArray.size_append] at h9; exact h9)
      obtain rfl := Option.some.inj H
      go_enter Try.func68, Try.ntmps68
      try go_wp2
      have n0_ := amk (bd_ HB.out)
      clear HB
      have HB := n0_
      clear n0_
      refine start_ (n := 11) (S := fun w' => True) (ds := []) #[false, false, false, false, false, false, false, false, false, false, false] (by kernel_rfl) rfl rfl trivial (fun hHeld => ?_); refine with_tabW spec_l1Num.tab3 spec_l1Num.bits3 (fun HT_ HW_ => ?_)
      generalize w.drew = w8 at HB hHeld ⊢
      refine pure_ (i := 0) (N := some 10) (v := ?_) (a' := ?_) #[true, false, false, false, false, false, false, false, false, false, false] rfl rfl (any_of HT_.out (by kernel_rfl)) (fun _ _ _ h => h) (Or.inl ⟨by rfl, ?_⟩) ?_ ?_
      rotate_left
      · intro w'
        go_simp
        with_reducible rfl
      rotate_left
      · simp only [Act.put, List.setIfInBounds_toArray, List.set_cons_zero, List.set_cons_succ, i64_w, i32_w]
        rfl
      refine pure_ (i := 1) (N := some 11) (v := ?_) (a' := ?_) #[true, true, false, false, false, false, false, false, false, false, false] rfl rfl (any_of HT_.out (by kernel_rfl)) (fun _ _ _ h => h) (Or.inl ⟨by rfl, ?_⟩) ?_ ?_
      rotate_left
      · intro w'
        go_simp
        with_reducible rfl
      rotate_left
      · simp only [Act.put, List.setIfInBounds_toArray, List.set_cons_zero, List.set_cons_succ, i64_w, i32_w]
        rfl
      refine pure_ (i := 3) (N := some 13) (v := ?_) (a' := ?_) #[true, true, false, true, false, false, false, false, false, false, false] rfl rfl (any_of HT_.out (by kernel_rfl)) (fun _ _ _ h => h) (Or.inl ⟨by rfl, ?_⟩) ?_ ?_
      rotate_left
      · intro w'
        go_simp
        with_reducible rfl
      rotate_left
      · simp only [Act.put, List.setIfInBounds_toArray, List.set_cons_zero, List.set_cons_succ, i64_w, i32_w]
        rfl
      refine pure_ (i := 4) (N := some 14) (v := ?_) (a' := ?_) #[true, true, false, true, true, false, false, false, false, false, false] rfl rfl (any_of HT_.out (by kernel_rfl)) (fun _ _ _ h => h) (Or.inl ⟨by rfl, ?_⟩) ?_ ?_
      rotate_left
      · intro w'
        go_simp
        with_reducible rfl
      rotate_left
      · simp only [Act.put, List.setIfInBounds_toArray, List.set_cons_zero, List.set_cons_succ, i64_w, i32_w]
        rfl
      refine pure_ (i := 5) (N := some 15) (v := ?_) (a' := ?_) #[true, true, false, true, true, true, false, false, false, false, false] rfl rfl (any_of HT_.out (by kernel_rfl)) (fun _ _ _ h => h) (Or.inl ⟨by rfl, ?_⟩) ?_ ?_
      rotate_left
      · intro w'
        go_simp
        with_reducible rfl
      rotate_left
      · simp only [Act.put, List.setIfInBounds_toArray, List.set_cons_zero, List.set_cons_succ, i64_w, i32_w]
        rfl
      refine pure_ (i := 6) (N := some 16) (v := ?_) (a' := ?_) #[true, true, false, true, true, true, true, false, false, false, false] rfl rfl (any_of HT_.out (by kernel_rfl)) (fun _ _ _ h => h) (Or.inl ⟨by rfl, ?_⟩) ?_ ?_
      rotate_left
      · intro w'
        go_simp
        with_reducible rfl
      rotate_left
      · simp only [Act.put, List.setIfInBounds_toArray, List.set_cons_zero, List.set_cons_succ, i64_w, i32_w]
        rfl
      refine join_ (σ := Value) 2 #[true, true, true, true, true, true, true, true, true, false, false] (fun s_ => [(12, .string t194), (17, s_), (18, .string (strOfNums y195))]) (fun s_ w' => (Kd.R (Kd.int .u8) 5 w' w.heap.size (fun _ => True) s_ y195) ∧ (Below w.heap.size w w')) ?_ ?_
      rotate_left
      · intro hCont
        refine two_ (i := 2) (j := 7) (Ni := some 12) (Nj := some 17) #[true, true, true, true, true, true, true, false, false, false, false] #[true, true, false, true, true, true, true, true, false, false, false] rfl rfl rfl rfl (two_of HT_.out (by kernel_rfl)) (by decide) (by decide) (fun K hK => ?_) (fun K hK => ?_)
        · skip
          refine goes_ Try.func68 (by kernel_rfl) rfl #[.int .i64 (wrap64 (Int.tdiv a0 10))] (by rfl) rfl rfl gL_ ?_
          with_reducible refine (ih k (by omega) (wrap64 (Int.tdiv a0 10)) t194 _ A6.out).mono ?_
          rintro e w9 ⟨rfl, hb⟩
          refine ⟨_, rfl, ?_⟩
          have n0_ := amk (bp_ bB hb)
          clear HB
          have HB := n0_
          clear n0_
          (try clear hb)
          (try clear hb2)
          (try clear hk)
          (try clear hi)
          refine hK.out _ _ trivial (fun hHeld => ?_)
          clear hK K
          refine norm_ (a' := ?_) ?_ ?_
          rotate_left
          · show Act.put _ (some 12) _ = _
            simp only [Act.put, List.setIfInBounds_toArray, List.set_cons_zero, List.set_cons_succ, i64_w, i32_w]
            rfl
          refine one_ (i := 7) (N := some 17) #[true, true, true, true, true, true, true, true, false, false, false] rfl rfl (one_of HT_.out (by kernel_rfl)) (by decide) (fun K hK => ?_)
          refine Kd.R_lit_step (Kd.int .u8) _ 5 ?hg (N := 17) ?hd (xs := ([(wrap64 (48 + (Int.tmod a0 10))) % 256] : List Int)) (inner := [.int .u8 ((wrap64 (48 + (Int.tmod a0 10))) % 256)]) (ok := fun _ => True) (okp := fun _ => True) ?hr ?hp (fun _ hk => hk) trivial (Below.refl _ _) (Nat.le_refl _) (by simp) ?_; (case hd => rfl); (case hg => rfl); (case hr => first | (go_simp; done) | (go_simp; rfl)); (case hp => exact (Reps.one (show Kd.M (Kd.int .u8) _ _ _ ((wrap64 (48 + (Int.tmod a0 10))) % 256) [.int .u8 ((wrap64 (48 + (Int.tmod a0 10))) % 256)] from rfl) (Reps.none _ _)))
          intro v196 w10 ho11 hb hg_ hnew_
          clear hg_ hnew_
          (first | rw [← Ny195.out] at ho11 | (simp only [Int.reduceToNat] at ho11; rw [← Ny195.out] at ho11))
          have n0_ := amk (Kd.R_lower ho11 (below_size bB))
          have n1_ := amk (bp_ bB hb)
          clear HB
          have HO197 := n0_
          have HB := n1_
          clear n0_ n1_
          clear hb ho11
          refine hK.out _ _ trivial (fun hHeld => ?_)
          clear hK K
          refine norm_ (a' := ?_) ?_ ?_
          rotate_left
          · show Act.put _ (some 17) _ = _
            simp only [Act.put, List.setIfInBounds_toArray, List.set_cons_zero, List.set_cons_succ, i64_w, i32_w]
            rfl
          refine one_ (i := 8) (N := some 18) #[true, true, true, true, true, true, true, true, true, false, false] rfl rfl (one_of HT_.out (by kernel_rfl)) (by decide) (fun K hK => ?_)
          have hcv12 := own_string (P := Try.prog) Try.underlying44 Try.underlying5 Try.underlying9 (Kd.own_of_R HO197.out)
          refine value_ (w1 := ?_) (v := ?_) (by rfl) rfl ?_ ?_
          rotate_left 2
          · go_simp
            constructor
            · rfl
            · rfl
          clear hcv12
          refine hK.out _ _ trivial (fun hHeld => ?_)
          clear hK K
          refine norm_ (a' := ?_) ?_ ?_
          rotate_left
          · show Act.put _ (some 18) _ = _
            simp only [Act.put, List.setIfInBounds_toArray, List.set_cons_zero, List.set_cons_succ, i64_w, i32_w]
            rfl
          exact norm_ (by simp only [putAll, Act.put, List.setIfInBounds_toArray, List.set_cons_zero, List.set_cons_succ]) (hCont (v196) _ ⟨(oX HO197), bB⟩)
        · skip
          refine Kd.R_lit_step (Kd.int .u8) _ 5 ?hg (N := 17) ?hd (xs := ([(wrap64 (48 + (Int.tmod a0 10))) % 256] : List Int)) (inner := [.int .u8 ((wrap64 (48 + (Int.tmod a0 10))) % 256)]) (ok := fun _ => True) (okp := fun _ => True) ?hr ?hp (fun _ hk => hk) trivial (Below.refl _ _) (Nat.le_refl _) (by simp) ?_; (case hd => rfl); (case hg => rfl); (case hr => first | (go_simp; done) | (go_simp; rfl)); (case hp => exact (Reps.one (show Kd.M (Kd.int .u8) _ _ _ ((wrap64 (48 + (Int.tmod a0 10))) % 256) [.int .u8 ((wrap64 (48 + (Int.tmod a0 10))) % 256)] from rfl) (Reps.none _ _)))
          intro v196 w9 ho10 hb hg_ hnew_
          clear hg_ hnew_
          (first | rw [← Ny195.out] at ho10 | (simp only [Int.reduceToNat] at ho10; rw [← Ny195.out] at ho10))
          have n0_ := amk (Kd.R_lower ho10 (below_size bB))
          have n1_ := amk (bp_ bB hb)
          clear HB
          have HO197 := n0_
          have HB := n1_
          clear n0_ n1_
          clear hb ho10
          refine hK.out _ _ trivial (fun hHeld => ?_)
          clear hK K
          refine norm_ (a' := ?_) ?_ ?_
          rotate_left
          · show Act.put _ (some 17) _ = _
            simp only [Act.put, List.setIfInBounds_toArray, List.set_cons_zero, List.set_cons_succ, i64_w, i32_w]
            rfl
          refine two_ (i := 2) (j := 8) (Ni := some 12) (Nj := some 18) #[true, true, true, true, true, true, true, true, false, false, false] #[true, true, false, true, true, true, true, true, true, false, false] rfl rfl rfl rfl (two_of HT_.out (by kernel_rfl)) (by decide) (by decide) (fun K hK => ?_) (fun K hK => ?_)
          · skip
            refine goes_ Try.func68 (by kernel_rfl) rfl #[.int .i64 (wrap64 (Int.tdiv a0 10))] (by rfl) rfl rfl gL_ ?_
            with_reducible refine (ih k (by omega) (wrap64 (Int.tdiv a0 10)) t194 _ A6.out).mono ?_
            rintro e w11 ⟨rfl, hb⟩
            refine ⟨_, rfl, ?_⟩
            have n0_ := amk (Kd.R_below (oX HO197) hb)
            have n1_ := amk (bp_ bB hb)
            clear HO197
            clear HB
            have HO197 := n0_
            have HB := n1_
            clear n0_ n1_
            (try clear hb)
            (try clear hb2)
            (try clear hk)
            (try clear hi)
            refine hK.out _ _ trivial (fun hHeld => ?_)
            clear hK K
            refine norm_ (a' := ?_) ?_ ?_
            rotate_left
            · show Act.put _ (some 12) _ = _
              simp only [Act.put, List.setIfInBounds_toArray, List.set_cons_zero, List.set_cons_succ, i64_w, i32_w]
              rfl
            refine one_ (i := 8) (N := some 18) #[true, true, true, true, true, true, true, true, true, false, false] rfl rfl (one_of HT_.out (by kernel_rfl)) (by decide) (fun K hK => ?_)
            have hcv12 := own_string (P := Try.prog) Try.underlying44 Try.underlying5 Try.underlying9 (Kd.own_of_R HO197.out)
            refine value_ (w1 := ?_) (v := ?_) (by rfl) rfl ?_ ?_
            rotate_left 2
            · go_simp
              constructor
              · rfl
              · rfl
            clear hcv12
            refine hK.out _ _ trivial (fun hHeld => ?_)
            clear hK K
            refine norm_ (a' := ?_) ?_ ?_
            rotate_left
            · show Act.put _ (some 18) _ = _
              simp only [Act.put, List.setIfInBounds_toArray, List.set_cons_zero, List.set_cons_succ, i64_w, i32_w]
              rfl
            exact norm_ (by simp only [putAll, Act.put, List.setIfInBounds_toArray, List.set_cons_zero, List.set_cons_succ]) (hCont (v196) _ ⟨(oX HO197), bB⟩)
          · skip
            have hcv11 := own_string (P := Try.prog) Try.underlying44 Try.underlying5 Try.underlying9 (Kd.own_of_R HO197.out)
            refine value_ (w1 := ?_) (v := ?_) (by rfl) rfl ?_ ?_
            rotate_left 2
            · go_simp
              constructor
              · rfl
              · rfl
            clear hcv11
            refine hK.out _ _ trivial (fun hHeld => ?_)
            clear hK K
            refine norm_ (a' := ?_) ?_ ?_
            rotate_left
            · show Act.put _ (some 18) _ = _
              simp only [Act.put, List.setIfInBounds_toArray, List.set_cons_zero, List.set_cons_succ, i64_w, i32_w]
              rfl
            refine one_ (i := 2) (N := some 12) #[true, true, true, true, true, true, true, true, true, false, false] rfl rfl (one_of HT_.out (by kernel_rfl)) (by decide) (fun K hK => ?_)
            refine goes_ Try.func68 (by kernel_rfl) rfl #[.int .i64 (wrap64 (Int.tdiv a0 10))] (by rfl) rfl rfl gL_ ?_
            with_reducible refine (ih k (by omega) (wrap64 (Int.tdiv a0 10)) t194 _ A6.out).mono ?_
            rintro e w12 ⟨rfl, hb⟩
            refine ⟨_, rfl, ?_⟩
            have n0_ := amk (Kd.R_below (oX HO197) hb)
            have n1_ := amk (bp_ bB hb)
            clear HO197
            clear HB
            have HO197 := n0_
            have HB := n1_
            clear n0_ n1_
            (try clear hb)
            (try clear hb2)
            (try clear hk)
            (try clear hi)
            refine hK.out _ _ trivial (fun hHeld => ?_)
            clear hK K
            refine norm_ (a' := ?_) ?_ ?_
            rotate_left
            · show Act.put _ (some 12) _ = _
              simp only [Act.put, List.setIfInBounds_toArray, List.set_cons_zero, List.set_cons_succ, i64_w, i32_w]
              rfl
            exact norm_ (by simp only [putAll, Act.put, List.setIfInBounds_toArray, List.set_cons_zero, List.set_cons_succ]) (hCont (v196) _ ⟨(oX HO197), bB⟩)
      rintro v196 w13 ⟨h0_, h1_⟩
      have n0_ : Aside0 (Kd.R (Kd.int .u8) 5 w13 w.heap.size (fun _ => True) v196 y195) := ⟨h0_⟩
      have n1_ : Aside0 (Below w.heap.size w w13) := ⟨h1_⟩
      clear HB
      clear h0_ h1_
      have HO197 := n0_
      have HB := n1_
      clear n0_ n1_
      have hHeld := trivial
      refine norm_ (a' := ?_) ?_ ?_
      rotate_left
      · simp only [putAll, Act.put, List.setIfInBounds_toArray, List.set_cons_zero, List.set_cons_succ]
        rfl
      refine pure_ (i := 9) (N := some 19) (v := ?_) (a' := ?_) #[true, true, true, true, true, true, true, true, true, true, false] rfl rfl (any_of HT_.out (by kernel_rfl)) (fun _ _ _ h => h) (Or.inl ⟨by rfl, ?_⟩) ?_ ?_
      rotate_left
      · intro w'
        go_simp
        with_reducible rfl
      rotate_left
      · simp only [Act.put, List.setIfInBounds_toArray, List.set_cons_zero, List.set_cons_succ, i64_w, i32_w]
        rfl
      refine pure_ (i := 10) (N := some 2) (v := ?_) (a' := ?_) #[true, true, true, true, true, true, true, true, true, true, true] rfl rfl (any_of HT_.out (by kernel_rfl)) (fun _ _ _ h => h) (Or.inl ⟨by rfl, ?_⟩) ?_ ?_
      rotate_left
      · intro w'
        go_simp
        with_reducible rfl
      rotate_left
      · simp only [Act.put, List.setIfInBounds_toArray, List.set_cons_zero, List.set_cons_succ, i64_w, i32_w]
        rfl
      refine done_ (done_of HT_.out (by kernel_rfl)) ?_
      try go_wp2
      go_ret
      exact ⟨rF_, bB⟩
    · rw [if_neg c7] at H
      exact absurd H (by simp)
/-! ### spec_keAll: function 42 -/
mutual
def spec_keAll.l0 : Nat → ByteArray → List ByteArray → List Int → Int → Int → Int → List (List Int) → Option (List ByteArray)
  | 0, _, _, _, _, _, _, _ => none
  | k + 1, x1, x5, x21, x22, x23, x199000, x199001 => if x23 < x22 then (if 0 ≤ x23 then (if x23 < (x21.length : Int) then ((spec_l1Num.f k (rd x21 x23)).bind fun t204 => (if x1.size + t204.size ≤ 9223372036854775807 then ((spec_keAll.f k x199000 x199001 (x1 ++ t204)).bind fun t205 => (if x5.length + t205.length < 8796093022208 then (spec_keAll.l0 k x1 (x5 ++ t205) x21 x22 (wrap64 (x23 + 1)) x199000 x199001) else (none))) else (none))) else (none)) else (none)) else (some x5)
def spec_keAll.f : Nat → Int → List (List Int) → ByteArray → Option (List ByteArray)
  | 0, _, _, _ => none
  | k + 1, a0_0, l0_1, a1 => if (a1.size : Int) = (l0_1.length : Int) then (some (([a1] : List ByteArray))) else (if 0 ≤ (a1.size : Int) then (if (a1.size : Int) < (l0_1.length : Int) then (spec_keAll.l0 k a1 ([] : List ByteArray) (rd_L1 l0_1 (a1.size : Int)) ((rd_L1 l0_1 (a1.size : Int)).length : Int) 0 a0_0 l0_1) else (none)) else (none))
end
def spec_keAll.T7 : Bool × List (List Nat × List Nat) := (true, [([], []), ([], []), ([], []), ([], []), ([3], [3]), ([2, 4], [2, 4]), ([1, 5, 4], [1, 5]), ([0, 6, 6], [0, 6]), ([7, 7, 0, 1, 2, 3, 4, 5, 6, 7], [0, 7])])
def spec_keAll.B7 : List Nat := [0, 0, 0, 0, 8, 28, 62, 127, 255]
theorem spec_keAll.tab7 : rtab .any (opsOf Try.f42 7) = spec_keAll.T7 := by kernel_rfl
theorem spec_keAll.bits7 : waitsOk spec_keAll.T7.2 spec_keAll.B7 = true := by kernel_rfl
set_option maxHeartbeats 8000000 in
set_option maxRecDepth 100000 in
theorem spec_keAll.calls (k : Nat) : ∀ (a0_0 : Int) (A0_1 : Option Addr) (c0_1 : Nat) (l0_1 : List (List Int)) (a1 : ByteArray) (r : List ByteArray) (w : World) (hr0_1 : Kd.C (Kd.slice 3 (Kd.int .i64)) w A0_1 l0_1.length l0_1) (hc0_1 : l0_1.length ≤ c0_1) (h : spec_keAll.f k a0_0 l0_1 a1 = some r),
    Calls Try.prog 42 #[.agg #[.int .i64 a0_0, .slice A0_1 l0_1.length c0_1], .string a1] w fun e w' => ∃ v0_ : Value, e = .returned (v0_) ∧ Kd.R Kd.string 9 w' w.heap.size (fun _ => True) v0_ r ∧ Below w.heap.size w w' := by
  induction k using Nat.strongRecOn with
  | _ k ih =>
  intro a0_0 A0_1 c0_1 l0_1 a1 r w hr0_1 hc0_1 h
  cases k with
  | zero => exact absurd h (by simp [spec_keAll.f])
  | succ k =>
  simp only [spec_keAll.f] at h
  have hu24 := Try.underlying24
  have HR0_1 := amk hr0_1
  have HC0_1 := amk hc0_1
  clear hr0_1 hc0_1
  have HB := amk (Below.refl w.heap.size w)
  have H : (if (a1.size : Int) = (l0_1.length : Int) then (some (([a1] : List ByteArray))) else (if 0 ≤ (a1.size : Int) then (if (a1.size : Int) < (l0_1.length : Int) then (spec_keAll.l0 k a1 ([] : List ByteArray) (rd_L1 l0_1 (a1.size : Int)) ((rd_L1 l0_1 (a1.size : Int)).length : Int) 0 a0_0 l0_1) else (none)) else (none))) = some r := h
  clear h
  by_cases c3 : (a1.size : Int) = (l0_1.length : Int)
  · rw [if_pos c3] at H
    have c3b0 : ((a1.size : Int) == (l0_1.length : Int)) = true := beq_iff_eq.mpr c3
    have c3b1 : ((a1.size : Int) != (l0_1.length : Int)) = false := bne_eq_false_iff_eq.mpr c3
    have c3b2 : (a1.size == l0_1.length) = true := by first | simpa using c3 | (simp at c3 ⊢; omega)
    clear c3
    obtain ⟨y199, hy199⟩ : ∃ y_ : List ByteArray, y_ = (([a1] : List ByteArray)) := ⟨_, rfl⟩
    replace H : (some y199) = some r := by first | (rw [hy199]; with_reducible exact H) | (have H2_ := (Option.bind_some _ _).symm.trans H; rw [hy199]; with_reducible exact H2_) | (have H2_ := (Option.bind_some _ _).symm.trans H; with_reducible exact H2_) | with_reducible exact H | (rw [hy199]; exact H) | exact H
    have Ny199 := amk hy199
    clear hy199
    obtain rfl := Option.some.inj H
    go_enter Try.func42, Try.ntmps42
    go_wp2_with (first | ((with_reducible refine gate_dst (N := 2) rfl ?_); refine boxE_ HB 2 #[.int .i64 a0_0, .slice A0_1 l0_1.length c0_1] 24 ?_; clear HB; intro gb198 w4 HB BK198 GW198 GE198 hb; clear hb; obtain ⟨hcz5_0, hcz5_1, hfz5_0, hfz5_1, _⟩ := two_cells BK198.out) | ((with_reducible refine gate_dst (N := 15) rfl ?_); refine Kd.R_lit Kd.string _ 9 ?hg (N := 15) ?hd (xs := ([a1] : List ByteArray)) (inner := [.string a1]) (ok := fun _ => True) (okp := fun _ => True) ?hr ?hp (fun _ hk => hk) trivial (Below.refl _ _) (Nat.le_refl _) (by simp) ?_; (case hd => rfl); (case hg => rfl); (case hr => first | (go_simp; done) | (go_simp; rfl)); (case hp => exact (Reps.one (show Kd.M Kd.string _ _ _ a1 [.string a1] from rfl) (Reps.none _ _))); intro v200 w6 ho7 hb hg_ hnew_; clear hg_ hnew_; (first | rw [← Ny199.out] at ho7 | (simp only [Int.reduceToNat] at ho7; rw [← Ny199.out] at ho7)); have HO201 := amk (Kd.R_lower ho7 (below_size bB)); replace BK198 := kb2 BK198 hb; replace HB := hB2 HB hb; clear hb ho7))
    go_ret
    exact ⟨_, rF_, oX HO201, bB⟩
  · rw [if_neg c3] at H
    have c3b0 : ((a1.size : Int) == (l0_1.length : Int)) = false := beq_eq_false_iff_ne.mpr c3
    have c3b1 : ((a1.size : Int) != (l0_1.length : Int)) = true := bne_iff_ne.mpr c3
    have c3b2 : (a1.size == l0_1.length) = false := by first | simpa using c3 | (simp at c3 ⊢; omega)
    by_cases c8 : 0 ≤ (a1.size : Int)
    · rw [if_pos c8] at H
      have c8b0 : decide (0 ≤ (a1.size : Int)) = true := decide_eq_true c8
      have c8b1 : decide (0 ≤ a1.size) = true := decide_eq_true (by omega)
      clear c8
      by_cases c9 : (a1.size : Int) < (l0_1.length : Int)
      · rw [if_pos c9] at H
        have c9b0 : decide ((a1.size : Int) < (l0_1.length : Int)) = true := decide_eq_true c9
        have c9b1 : decide (a1.size < l0_1.length) = true := decide_eq_true (Int.ofNat_lt.mp c9)
        clear c9
        have H' := amk H
        clear H
        go_enter Try.func42, Try.ntmps42
        go_wp2_with (first | ((with_reducible refine gate_dst (N := 2) rfl ?_); refine boxE_ HB 2 #[.int .i64 a0_0, .slice A0_1 l0_1.length c0_1] 24 ?_; clear HB; intro gb198 w10 HB BK198 GW198 GE198 hb; clear hb; obtain ⟨hcz11_0, hcz11_1, hfz11_0, hfz11_1, _⟩ := two_cells BK198.out; have p202 : 0 ≤ ((a1.size : Int) : Int) := dA_; have q202 : (a1.size : Int) < (l0_1.length : Int) := dA_; obtain ⟨ad202, A202_0, c202_0, e202, hx202_0, hl202_0, hi202_0⟩ := at_L1 HR0_1.out (a1.size : Int) p202 q202; cases e202; replace hx202_0 := (HB.out.cell (World.block_lt_of_cell? w _ hx202_0)).trans hx202_0; (try simp only [Int.toNat_natCast] at hx202_0); have HR202_0 := amk hi202_0; have HC202_0 := amk hl202_0; clear hi202_0 hl202_0; replace p202 := eq_true p202; replace q202 := eq_true q202))
        go_loopg [5, 23] k (fun kq v5 v23 w' => ∃ (x5_1 : List ByteArray) (x23_1 : Int), v23 = .int .i64 x23_1 ∧ Aside0 (spec_keAll.l0 kq a1 x5_1 (rd_L1 l0_1 (a1.size : Int)) ((rd_L1 l0_1 (a1.size : Int)).length : Int) x23_1 a0_0 l0_1 = some r) ∧ Aside0 (kq ≤ k) ∧ Aside0 (Kd.R Kd.string 9 w' w.heap.size (fun _ => True) v5 x5_1) ∧ Aside0 (w'.heap[gb198]? = some (.cells #[.int .i64 a0_0, (.slice (some ad202) l0_1.length c0_1)] 24 (0, 0))) ∧ Aside0 (Below w.heap.size w w'))
        case atStart => exact ⟨(([] : List ByteArray)), (0), rS_, H', ⟨Nat.le_refl _⟩, ⟨xN_⟩, ⟨kB BK198⟩, ⟨bB⟩⟩
        case round =>
          clear H'
          try clear c2; try clear p2; try clear q2; try clear hx2; try clear c3; try clear c3b0; try clear c3b1; try clear c3b2; try clear c4; try clear c8; try clear c8b0; try clear c8b1; try clear c9; try clear c9b0; try clear c9b1; try clear hcz11_0; try clear hcz11_1; try clear hcz5_0; try clear hcz5_1; try clear hfz11_0; try clear hfz11_1; try clear hfz5_0; try clear hfz5_1; try clear hx202_0; try clear p202; try clear q202
          obtain ⟨x5_1, x23_1, rfl, HA, HK1, HO_5, BK198, HB⟩ := hrel
          cases gk with
          | zero => exact absurd HA.out (by simp [spec_keAll.l0])
          | succ k1 =>
            have H := HA.out
            clear HA
            simp only [spec_keAll.l0] at H
            replace H := iteE H; obtain ⟨c12b0, H⟩ | ⟨c12b0, H⟩ := H
            · replace H := iteN H; obtain ⟨c13b0, H⟩ := H
              replace H := iteN H; obtain ⟨c14b0, H⟩ := H
              replace H := bE H
              obtain ⟨t204, A15, H⟩ := H
              by_cases c16 : a1.size + t204.size ≤ 9223372036854775807
              · rw [if_pos c16] at H
                have c16b0 := eq_true c16
                have c16b1 : decide (a1.size + t204.size ≤ 9223372036854775807) = true := decide_eq_true c16
                try have c16b2 : (9223372036854775807 < a1.size + t204.size) = False := eq_false (Nat.not_lt.2 c16)
                replace H := bE H
                obtain ⟨t205, A17, H⟩ := H
                by_cases c18 : x5_1.length + t205.length < 8796093022208
                · rw [if_pos c18] at H
                  have LMc18 := amk c18
                  clear c18
                  obtain ⟨y208, hy208⟩ : ∃ y_ : List ByteArray, y_ = (x5_1 ++ t205) := ⟨_, rfl⟩
                  replace H : (spec_keAll.l0 k1 a1 y208 (rd_L1 l0_1 (a1.size : Int)) ((rd_L1 l0_1 (a1.size : Int)).length : Int) (wrap64 (x23_1 + 1)) a0_0 l0_1) = some r := by first | (rw [hy208]; with_reducible exact H) | (have H2_ := (Option.bind_some _ _).symm.trans H; rw [hy208]; with_reducible exact H2_) | (have H2_ := (Option.bind_some _ _).symm.trans H; with_reducible exact H2_) | with_reducible exact H | (rw [hy208]; exact H) | exact H
                  have Ny208 := amk hy208
                  clear hy208
                  have H' := amk H
                  clear H
                  have p203 : 0 ≤ (x23_1 : Int) := dA_
                  have q203 : x23_1 < ((rd_L1 l0_1 (a1.size : Int)).length : Int) := dA_
                  obtain ⟨ad203, e203, hx203_0⟩ := Kd.at_int HR202_0.out x23_1 p203 q203
                  cases e203
                  replace hx203_0 := (HB.out.cell (World.block_lt_of_cell? w _ hx203_0)).trans hx203_0
                  replace p203 := eq_true p203
                  replace q203 := eq_true q203
                  try go_wp2
                  have n0_ := amk (Kd.R_drew HO_5.out)
                  have n1_ := amk (blk_drew BK198.out)
                  have n2_ := amk (bd_ HB.out)
                  clear HO_5
                  clear BK198
                  clear HB
                  have HO_5 := n0_
                  have BK198 := n1_
                  have HB := n2_
                  clear n0_ n1_ n2_
                  refine start_ (n := 9) (S := fun w' => w'.cell? ⟨gb198, 0, none⟩ = some (.int .i64 a0_0) ∧ w'.cell? ⟨gb198, 1, none⟩ = some (.slice (some ad202) l0_1.length c0_1)) (ds := []) #[false, false, false, false, false, false, false, false, false] (by kernel_rfl) rfl rfl ⟨(blk_cell BK198.out 0).trans rfl, (blk_cell BK198.out 1).trans rfl⟩ (fun hHeld => ?_); refine with_tabW spec_keAll.tab7 spec_keAll.bits7 (fun HT_ HW_ => ?_)
                  generalize wr.drew = w19 at HO_5 BK198 HB hHeld ⊢
                  refine pure_ (i := 0) (N := some 27) (v := ?_) (a' := ?_) #[true, false, false, false, false, false, false, false, false] rfl rfl (any_of HT_.out (by kernel_rfl)) (fun _ _ _ h => h) (Or.inl ⟨by rfl, ?_⟩) ?_ ?_
                  rotate_left
                  · intro w'
                    go_simp
                    with_reducible rfl
                  rotate_left
                  · simp only [Act.put, List.setIfInBounds_toArray, List.set_cons_zero, List.set_cons_succ, i64_w, i32_w]
                    rfl
                  refine pure_ (i := 2) (N := some 29) (v := ?_) (a' := ?_) #[true, false, true, false, false, false, false, false, false] rfl rfl (any_of HT_.out (by kernel_rfl)) (fun _ _ _ h => h) (Or.inl ⟨by rfl, ?_⟩) ?_ ?_
                  rotate_left
                  · intro w'
                    go_simp
                    with_reducible rfl
                  rotate_left
                  · simp only [Act.put, List.setIfInBounds_toArray, List.set_cons_zero, List.set_cons_succ, i64_w, i32_w]
                    rfl
                  refine pure_ (i := 3) (N := some 30) (v := ?_) (a' := ?_) #[true, false, true, true, false, false, false, false, false] rfl rfl (any_of HT_.out (by kernel_rfl)) (fun _ _ _ h => h) (Or.inl ⟨by rfl, ?_⟩) ?_ ?_
                  rotate_left
                  · intro w'
                    go_simp
                    with_reducible rfl
                  rotate_left
                  · simp only [Act.put, List.setIfInBounds_toArray, List.set_cons_zero, List.set_cons_succ, i64_w, i32_w]
                    rfl
                  refine take_ (i := 1) (N := some 28) (v := ?_) (a' := ?_) #[true, true, true, true, false, false, false, false, false] rfl rfl (take_ofW HT_.out HW_.out (by kernel_rfl)) (fun _ _ _ h => h) (Or.inl ⟨by rfl, ?_⟩) hHeld ?_ ?_
                  rotate_left
                  · rintro w' ⟨s0, s1⟩
                    go_simp
                    with_reducible rfl
                  rotate_left
                  · simp only [Act.put, List.setIfInBounds_toArray, List.set_cons_zero, List.set_cons_succ, i64_w, i32_w]
                    rfl
                  refine one_ (i := 4) (N := some 31) #[true, true, true, true, true, false, false, false, false] rfl rfl (one_of HT_.out (by kernel_rfl)) (by decide) (fun K hK => ?_)
                  refine goes_ Try.func68 (by kernel_rfl) rfl #[.int .i64 (rd (rd_L1 l0_1 (a1.size : Int)) x23_1)] (by rfl) rfl rfl gL_ ?_
                  with_reducible refine (spec_l1Num.calls k1 (rd (rd_L1 l0_1 (a1.size : Int)) x23_1) t204 _ A15.out).mono ?_
                  rintro e w20 ⟨rfl, hb⟩
                  refine ⟨_, rfl, ?_⟩
                  have n0_ := amk (Kd.R_below (oX HO_5) hb)
                  have n1_ := amk (blk_below (g := gb198) (o := .cells #[.int .i64 a0_0, .slice (some ad202) l0_1.length c0_1] 24 (0, 0)) (kB BK198) hb)
                  have n2_ := amk (bp_ bB hb)
                  clear HO_5
                  clear BK198
                  clear HB
                  have HO_5 := n0_
                  have BK198 := n1_
                  have HB := n2_
                  clear n0_ n1_ n2_
                  (try clear hb)
                  (try clear hb2)
                  (try clear hk)
                  (try clear hi)
                  refine hK.out _ _ ⟨(blk_cell BK198.out 0).trans rfl, (blk_cell BK198.out 1).trans rfl⟩ (fun hHeld => ?_)
                  clear hK K
                  refine norm_ (a' := ?_) ?_ ?_
                  rotate_left
                  · show Act.put _ (some 31) _ = _
                    simp only [Act.put, List.setIfInBounds_toArray, List.set_cons_zero, List.set_cons_succ, i64_w, i32_w]
                    rfl
                  refine pure_ (i := 5) (N := some 32) (v := ?_) (a' := ?_) #[true, true, true, true, true, true, false, false, false] rfl rfl (any_of HT_.out (by kernel_rfl)) (fun _ _ _ h => h) (Or.inl ⟨by rfl, ?_⟩) ?_ ?_
                  rotate_left
                  · intro w'
                    go_simp
                    with_reducible rfl
                  rotate_left
                  · simp only [Act.put, List.setIfInBounds_toArray, List.set_cons_zero, List.set_cons_succ, i64_w, i32_w]
                    rfl
                  refine one_ (i := 6) (N := some 33) #[true, true, true, true, true, true, true, false, false] rfl rfl (one_of HT_.out (by kernel_rfl)) (by decide) (fun K hK => ?_)
                  refine goes_ Try.func42 (by kernel_rfl) rfl #[.agg #[.int .i64 a0_0, .slice (some ad202) l0_1.length c0_1], .string (a1 ++ t204)] (by rfl) rfl rfl gL_ ?_
                  with_reducible refine (ih k1 (by have := HK1.out; omega) a0_0 _ _ l0_1 (a1 ++ t204) t205 _ ?side1 ?side2 A17.out).mono ?_
                  (case side1 => exact cB (Kd.C_below HR0_1.out HB.out))
                  (case side2 => exact HC0_1.out)
                  rintro e w21 ⟨v206, rfl, ho0, hb⟩
                  refine ⟨_, rfl, ?_⟩
                  have n0_ := amk (Kd.R_elder' (oX HO_5) (Kd.R_base ho0) hb)
                  have n1_ := amk (Kd.R_lower (Kd.R_new' ho0 (Kd.R_lt (oX HO_5))) (below_size bB))
                  have n2_ := amk (blk_below (g := gb198) (o := .cells #[.int .i64 a0_0, .slice (some ad202) l0_1.length c0_1] 24 (0, 0)) (kB BK198) hb)
                  have n3_ := amk (bp_ bB hb)
                  clear HO_5
                  clear BK198
                  clear HB
                  have HO_5 := n0_
                  have HO207 := n1_
                  have BK198 := n2_
                  have HB := n3_
                  clear n0_ n1_ n2_ n3_
                  (try clear hb)
                  (try clear hb2)
                  (try clear hk)
                  (try clear hi)
                  (try clear ho0)
                  obtain ⟨Ao23, co23, eo23⟩ := Kd.R_slice HO207.out
                  (first | subst eo23 | (injection eo23 with f1_ f2_ f3_; have f4_ := f1_.symm; have f5_ := f3_.symm; clear f1_ f2_ f3_; subst f4_; subst f5_))
                  refine hK.out _ _ ⟨(blk_cell BK198.out 0).trans rfl, (blk_cell BK198.out 1).trans rfl⟩ (fun hHeld => ?_)
                  clear hK K
                  refine norm_ (a' := ?_) ?_ ?_
                  rotate_left
                  · show Act.put _ (some 33) _ = _
                    simp only [Act.put, List.setIfInBounds_toArray, List.set_cons_zero, List.set_cons_succ, i64_w, i32_w]
                    rfl
                  refine one_ (i := 7) (N := some 34) #[true, true, true, true, true, true, true, true, false] rfl rfl (one_of HT_.out (by kernel_rfl)) (by decide) (fun K hK => ?_)
                  refine Kd.R_append_rows_step Kd.string (w0 := w) w.heap.size (by rfl) (.tmp 27) (.tmp 33) 30 9 (.string ⟨#[]⟩) 16 rfl Try.underlying30 info9 rfl (by decide) (by omega) u5 x5_1 t205 _ _ _ (fun k_ => some k_ ≠ (.slice Ao23 t205.length co23 : Value).ownBlock) (fun _ => False) rfl rfl ?aO ?aR (fun _ _ h => h) (fun _ h => h.elim) ?aF ?aB ?aS ?aL ?_
                  (case aR => exact cB ((Kd.R_reads' HO207.out).2.2))
                  (case aB => exact bB)
                  (case aF => exact (fun k_ hk => Kd.fresh' (Kd.R_lt (oX HO207)) k_ hk))
                  (case aO => exact (by (with_reducible repeat (first | apply Kd.R_alloc | apply Kd.R_drewN | apply Kd.R_drew)); exact Kd.R_mono HO_5.out (fun _ hk => hk.2)))
                  (case aS => exact (below_size bB))
                  (case aL => have := LMc18.out; omega)
                  intro v209 w22 ho hb hg hat
                  rw [← Ny208.out] at ho
                  have n0_ := amk (blk_grown (g := gb198) (o := .cells #[.int .i64 a0_0, .slice (some ad202) l0_1.length c0_1] 24 (0, 0)) (kB BK198) hg (Kd.R_ne HO_5.out BK198.out (by decide)))
                  have n1_ := amk (Kd.R_after (ok := (fun _ => True)) (oX HO207) hg hat)
                  have n2_ := amk (hb)
                  have n3_ := amk (ho)
                  clear BK198
                  clear HO207
                  clear HB
                  clear HO_5
                  have BK198 := n0_
                  have HO207 := n1_
                  have HB := n2_
                  have HO210 := n3_
                  clear n0_ n1_ n2_ n3_
                  clear ho hb hg hat
                  refine hK.out _ _ ⟨(blk_cell BK198.out 0).trans rfl, (blk_cell BK198.out 1).trans rfl⟩ (fun hHeld => ?_)
                  clear hK K
                  refine norm_ (a' := ?_) ?_ ?_
                  rotate_left
                  · show Act.put _ (some 34) _ = _
                    simp only [Act.put, List.setIfInBounds_toArray, List.set_cons_zero, List.set_cons_succ, i64_w, i32_w]
                    rfl
                  refine pure_ (i := 8) (N := some 5) (v := ?_) (a' := ?_) #[true, true, true, true, true, true, true, true, true] rfl rfl (any_of HT_.out (by kernel_rfl)) (fun _ _ _ h => h) (Or.inl ⟨by rfl, ?_⟩) ?_ ?_
                  rotate_left
                  · intro w'
                    go_simp
                    with_reducible rfl
                  rotate_left
                  · simp only [Act.put, List.setIfInBounds_toArray, List.set_cons_zero, List.set_cons_succ, i64_w, i32_w]
                    rfl
                  refine done_ (done_of HT_.out (by kernel_rfl)) ?_
                  try go_wp2
                  go_roundg k1
                  case measure => have := HK1.out; omega
                  case rel => exact ⟨(y208), (wrap64 (x23_1 + 1)), rS_, H', ⟨by have := HK1.out; omega⟩, ⟨by (with_reducible repeat (first | apply Kd.R_alloc | apply Kd.R_drewN | apply Kd.R_drew)); exact Kd.R_mono HO210.out (fun _ hk => trivial)⟩, ⟨kB BK198⟩, ⟨bB⟩⟩
                · rw [if_neg c18] at H
                  exact absurd H (by simp)
              · rw [if_neg c16] at H
                exact absurd H (by simp)
            · obtain rfl := Option.some.inj H
              go_wp2
              go_ret
              exact ⟨_, rF_, oX HO_5, bB⟩
      · rw [if_neg c9] at H
        exact absurd H (by simp)
    · rw [if_neg c8] at H
      exact absurd H (by simp)
/-! ### spec_keCount: function 40 -/
def spec_keCount.l0 : Nat → Int → List (List Int) → Int → Int → Option (Int)
  | 0, _, _, _, _ => none
  | k + 1, x3, x7, x8, x9 => if x9 < x8 then (if 0 ≤ x9 then (if x9 < (x7.length : Int) then (spec_keCount.l0 k (wrap64 (x3 * ((rd_L1 x7 x9).length : Int))) x7 x8 (wrap64 (x9 + 1))) else (none)) else (none)) else (some x3)
def spec_keCount.f (k : Nat) (a0_0 : Int) (l0_1 : List (List Int)) : Option (Int) := spec_keCount.l0 k 1 l0_1 (l0_1.length : Int) 0
set_option maxHeartbeats 8000000 in
set_option maxRecDepth 100000 in
theorem spec_keCount.calls (k : Nat) (a0_0 : Int) (A0_1 : Option Addr) (c0_1 : Nat) (l0_1 : List (List Int)) (r : Int) (w : World) (hr0_1 : Kd.C (Kd.slice 3 (Kd.int .i64)) w A0_1 l0_1.length l0_1) (hc0_1 : l0_1.length ≤ c0_1) (h : spec_keCount.f k a0_0 l0_1 = some r) :
    Calls Try.prog 40 #[.agg #[.int .i64 a0_0, .slice A0_1 l0_1.length c0_1]] w fun e w' => e = .returned (.int .i64 r) ∧ Below w.heap.size w w' := by
  have hu24 := Try.underlying24
  have HR0_1 := amk hr0_1
  have HC0_1 := amk hc0_1
  clear hr0_1 hc0_1
  have HB := amk (Below.refl w.heap.size w)
  have H : (spec_keCount.l0 k 1 l0_1 (l0_1.length : Int) 0) = some r := h
  clear h
  have H' := amk H
  clear H
  go_enter Try.func40, Try.ntmps40
  go_wp2_with (first | ((with_reducible refine gate_dst (N := 1) rfl ?_); refine boxE_ HB 1 #[.int .i64 a0_0, .slice A0_1 l0_1.length c0_1] 24 ?_; clear HB; intro gb155 w2 HB BK155 GW155 GE155 hb; clear hb; obtain ⟨hcz3_0, hcz3_1, hfz3_0, hfz3_1, _⟩ := two_cells BK155.out))
  go_loopg [3, 9] k (fun kq v3 v9 w' => ∃ (x3_1 : Int) (x9_1 : Int), v3 = .int .i64 x3_1 ∧ v9 = .int .i64 x9_1 ∧ Aside0 (spec_keCount.l0 kq x3_1 l0_1 (l0_1.length : Int) x9_1 = some r) ∧ Aside0 (kq ≤ k) ∧ Aside0 (w'.heap[gb155]? = some (.cells #[.int .i64 a0_0, (.slice A0_1 l0_1.length c0_1)] 24 (0, 0))) ∧ Aside0 (Below w.heap.size w w'))
  case atStart => exact ⟨(1), (0), rS_, rS_, H', ⟨Nat.le_refl _⟩, ⟨kB BK155⟩, ⟨bB⟩⟩
  case round =>
    clear H'
    try clear p2; try clear hcz3_0; try clear hcz3_1; try clear hfz3_0; try clear hfz3_1
    obtain ⟨x3_1, x9_1, rfl, rfl, HA, HK1, BK155, HB⟩ := hrel
    cases gk with
    | zero => exact absurd HA.out (by simp [spec_keCount.l0])
    | succ k1 =>
      have H := HA.out
      clear HA
      simp only [spec_keCount.l0] at H
      replace H := iteE H; obtain ⟨c4b0, H⟩ | ⟨c4b0, H⟩ := H
      · replace H := iteN H; obtain ⟨c5b0, H⟩ := H
        replace H := iteN H; obtain ⟨c6b0, H⟩ := H
        have H' := amk H
        clear H
        obtain ⟨p156, q156, ad156, A156_0, c156_0, e156, hx156_0, HC156_0, HR156_0⟩ := at_L1q HR0_1 HB x9_1
        cases e156
        go_wp2
        go_roundg k1
        case measure => have := HK1.out; omega
        case rel => exact ⟨(wrap64 (x3_1 * ((rd_L1 l0_1 x9_1).length : Int))), (wrap64 (x9_1 + 1)), rS_, rS_, H', ⟨by have := HK1.out; omega⟩, ⟨kB BK155⟩, ⟨bB⟩⟩
      · obtain rfl := Option.some.inj H
        go_wp2
        go_ret
        exact ⟨rF_, bB⟩
/-! ### spec_l1Rising: function 64 -/
def spec_l1Rising.l0 : Nat → List Int → Int → Int → List Int → Int → Int → Option (Bool)
  | 0, _, _, _, _, _, _ => none
  | k + 1, x0, x1, x2, x9, x10, x11 => if x11 < x10 then (if 0 ≤ x11 then (if x11 < (x9.length : Int) then ((spec_l1In.f (rd x9 x11) x1 x2).bind fun t127 => (if t127 = true then (if x11 > 0 then (if 0 ≤ (wrap64 (x11 - 1)) then (if (wrap64 (x11 - 1)) < (x0.length : Int) then (if (rd x0 (wrap64 (x11 - 1))) ≥ (rd x9 x11) then (some false) else (spec_l1Rising.l0 k x0 x1 x2 x9 x10 (wrap64 (x11 + 1)))) else (none)) else (none)) else (spec_l1Rising.l0 k x0 x1 x2 x9 x10 (wrap64 (x11 + 1)))) else (some false))) else (none)) else (none)) else (some true)
def spec_l1Rising.f (k : Nat) (l0 : List Int) (a1 : Int) (a2 : Int) : Option (Bool) := spec_l1Rising.l0 k l0 a1 a2 l0 (l0.length : Int) 0
set_option maxHeartbeats 8000000 in
set_option maxRecDepth 100000 in
theorem spec_l1Rising.calls (k : Nat) (A0 : Option Addr) (c0 : Nat) (l0 : List Int) (a1 : Int) (a2 : Int) (r : Bool) (w : World) (hr0 : Kd.C (Kd.int .i64) w A0 l0.length l0) (hc0 : l0.length ≤ c0) (h : spec_l1Rising.f k l0 a1 a2 = some r) :
    Calls Try.prog 64 #[.slice A0 l0.length c0, .int .i64 a1, .int .i64 a2] w fun e w' => e = .returned (.bool r) ∧ Drawn0 w w' := by
  have HR0 := amk hr0
  have HC0 := amk hc0
  clear hr0 hc0
  have H : (spec_l1Rising.l0 k l0 a1 a2 l0 (l0.length : Int) 0) = some r := h
  clear h
  have H' := amk H
  clear H
  go_enter Try.func64, Try.ntmps64
  go_wp2
  go_loopg [11] k (fun kq v11 w' => ∃ (x11_1 : Int), v11 = .int .i64 x11_1 ∧ Aside0 (spec_l1Rising.l0 kq l0 a1 a2 l0 (l0.length : Int) x11_1 = some r) ∧ Aside0 (kq ≤ k) ∧ Drawn0 w w')
  case atStart => exact ⟨(0), rS_, H', ⟨Nat.le_refl _⟩, dR_⟩
  case round =>
    clear H'
    try clear p2
    obtain ⟨x11_1, rfl, HA, HK1, ⟨m1, rfl⟩⟩ := hrel
    cases gk with
    | zero => exact absurd HA.out (by simp [spec_l1Rising.l0])
    | succ k1 =>
      have H := HA.out
      clear HA
      simp only [spec_l1Rising.l0] at H
      replace H := iteE H; obtain ⟨c4b0, H⟩ | ⟨c4b0, H⟩ := H
      · replace H := iteN H; obtain ⟨c5b0, H⟩ := H
        replace H := iteN H; obtain ⟨c6b0, H⟩ := H
        replace H := bE H
        obtain ⟨t127, A7, H⟩ := H
        replace H := iteB H; obtain ⟨rfl, H⟩ | ⟨rfl, H⟩ := H
        · by_cases c9 : x11_1 > 0
          · rw [if_pos c9] at H
            have c9b0 : decide (0 < x11_1) = true := decide_eq_true c9
            clear c9
            obtain ⟨ji10, hji10⟩ : ∃ j_ : Int, (wrap64 (x11_1 - 1)) = j_ := ⟨_, rfl⟩
            replace H : (if 0 ≤ (ji10) then (if (ji10) < (l0.length : Int) then (if (rd l0 (ji10)) ≥ (rd l0 x11_1) then (some false) else (spec_l1Rising.l0 k1 l0 a1 a2 l0 (l0.length : Int) (wrap64 (x11_1 + 1)))) else (none)) else (none)) = some r := by first | (rw [hji10] at H; exact H) | (simp only [hji10] at H ⊢; exact H)
            (try rw [hji10] at A7)
            have hji10w : (IntKind.i64.wrap (x11_1 - 1)) = ji10 := (i64_w _).trans hji10
            replace H := iteN H; obtain ⟨c11b0, H⟩ := H
            replace H := iteN H; obtain ⟨c12b0, H⟩ := H
            by_cases c13 : (rd l0 (ji10)) ≥ (rd l0 x11_1)
            · rw [if_pos c13] at H
              have c13b0 : decide ((rd l0 x11_1) ≤ (rd l0 (ji10))) = true := decide_eq_true c13
              clear c13
              obtain rfl := Option.some.inj H
              have p126 : 0 ≤ (x11_1 : Int) := dA_
              have q126 : x11_1 < (l0.length : Int) := dA_
              obtain ⟨ad126, e126, hx126_0⟩ := Kd.at_int HR0.out x11_1 p126 q126
              cases e126
              replace p126 := eq_true p126
              replace q126 := eq_true q126
              go_wp2_with (first | (refine gc_ 63 19 Try.func63 #[.int .i64 (rd l0 x11_1), .int .i64 a1, .int .i64 a2] ?_; (with_reducible refine (spec_l1In.calls (rd l0 x11_1) a1 a2 true _ A7.out).mono ?_); rintro e w' ⟨rfl, ⟨nd, rfl⟩⟩; refine ⟨_, rfl, ?_⟩; have p128 : 0 ≤ ((ji10) : Int) := dA_; have q128 : (ji10) < (l0.length : Int) := dA_; obtain ⟨ad128, e128, hx128_0⟩ := Kd.at_int HR0.out (ji10) p128 q128; obtain rfl : ad126 = ad128 := (by injection e128); replace p128 := eq_true p128; replace q128 := eq_true q128))
              go_ret
              exact ⟨by first | rfl | (simp; done) | (simp only [← hji10] <;> (first | rfl | simp)) | (simp [*]; done), dR_⟩
            · rw [if_neg c13] at H
              have c13b0 : decide ((rd l0 x11_1) ≤ (rd l0 (ji10))) = false := decide_eq_false c13
              clear c13
              have H' := amk H
              clear H
              have p126 : 0 ≤ (x11_1 : Int) := dA_
              have q126 : x11_1 < (l0.length : Int) := dA_
              obtain ⟨ad126, e126, hx126_0⟩ := Kd.at_int HR0.out x11_1 p126 q126
              cases e126
              replace p126 := eq_true p126
              replace q126 := eq_true q126
              go_wp2_with (first | (refine gc_ 63 19 Try.func63 #[.int .i64 (rd l0 x11_1), .int .i64 a1, .int .i64 a2] ?_; (with_reducible refine (spec_l1In.calls (rd l0 x11_1) a1 a2 true _ A7.out).mono ?_); rintro e w' ⟨rfl, ⟨nd, rfl⟩⟩; refine ⟨_, rfl, ?_⟩; have p128 : 0 ≤ ((ji10) : Int) := dA_; have q128 : (ji10) < (l0.length : Int) := dA_; obtain ⟨ad128, e128, hx128_0⟩ := Kd.at_int HR0.out (ji10) p128 q128; obtain rfl : ad126 = ad128 := (by injection e128); replace p128 := eq_true p128; replace q128 := eq_true q128))
              go_roundg k1
              case measure => have := HK1.out; omega
              case rel => exact ⟨(wrap64 (x11_1 + 1)), rS_, H', ⟨by have := HK1.out; omega⟩, dR_⟩
          · rw [if_neg c9] at H
            have c9b0 : decide (0 < x11_1) = false := decide_eq_false c9
            clear c9
            have H' := amk H
            clear H
            have p126 : 0 ≤ (x11_1 : Int) := dA_
            have q126 : x11_1 < (l0.length : Int) := dA_
            obtain ⟨ad126, e126, hx126_0⟩ := Kd.at_int HR0.out x11_1 p126 q126
            cases e126
            replace p126 := eq_true p126
            replace q126 := eq_true q126
            go_wp2_with (first | (refine gc_ 63 19 Try.func63 #[.int .i64 (rd l0 x11_1), .int .i64 a1, .int .i64 a2] ?_; (with_reducible refine (spec_l1In.calls (rd l0 x11_1) a1 a2 true _ A7.out).mono ?_); rintro e w' ⟨rfl, ⟨nd, rfl⟩⟩; refine ⟨_, rfl, ?_⟩))
            go_roundg k1
            case measure => have := HK1.out; omega
            case rel => exact ⟨(wrap64 (x11_1 + 1)), rS_, H', ⟨by have := HK1.out; omega⟩, dR_⟩
        · obtain rfl := Option.some.inj H
          have p126 : 0 ≤ (x11_1 : Int) := dA_
          have q126 : x11_1 < (l0.length : Int) := dA_
          obtain ⟨ad126, e126, hx126_0⟩ := Kd.at_int HR0.out x11_1 p126 q126
          cases e126
          replace p126 := eq_true p126
          replace q126 := eq_true q126
          go_wp2_with (first | (refine gc_ 63 19 Try.func63 #[.int .i64 (rd l0 x11_1), .int .i64 a1, .int .i64 a2] ?_; (with_reducible refine (spec_l1In.calls (rd l0 x11_1) a1 a2 false _ A7.out).mono ?_); rintro e w' ⟨rfl, ⟨nd, rfl⟩⟩; refine ⟨_, rfl, ?_⟩))
          go_ret
          exact ⟨rS_, dR_⟩
      · obtain rfl := Option.some.inj H
        go_wp2
        go_ret
        exact ⟨rS_, dR_⟩
/-! ### spec_keGood: function 36 -/
mutual
def spec_keGood.j0 : Nat → Bool → Int → List (List Int) → Option (Bool)
  | 0, _, _, _ => none
  | k + 1, x15, x130000, x130001 => if x15 = true then (some false) else (spec_keGood.l0 k x130001 (x130001.length : Int) 0 x130000 x130001)
def spec_keGood.l0 : Nat → List (List Int) → Int → Int → Int → List (List Int) → Option (Bool)
  | 0, _, _, _, _, _ => none
  | k + 1, x17, x18, x19, x130000, x130001 => if x19 < x18 then (if 0 ≤ x19 then (if x19 < (x17.length : Int) then (if ((rd_L1 x17 x19).length : Int) = 0 then (some false) else ((spec_l1Rising.f k (rd_L1 x17 x19) 0 (wrap64 (x130000 - 1))).bind fun t133 => (if t133 = true then (spec_keGood.l0 k x17 x18 (wrap64 (x19 + 1)) x130000 x130001) else (some false)))) else (none)) else (none)) else (some true)
end
def spec_keGood.f (k : Nat) (a0_0 : Int) (l0_1 : List (List Int)) : Option (Bool) := (spec_l1In.f a0_0 1 9).bind fun t130 => (if t130 = true then ((spec_l1In.f (l0_1.length : Int) 1 7).bind fun t131 => (spec_keGood.j0 k (!t131) a0_0 l0_1)) else (spec_keGood.j0 k true a0_0 l0_1))
set_option maxHeartbeats 8000000 in
set_option maxRecDepth 100000 in
theorem spec_keGood.calls (k : Nat) (a0_0 : Int) (A0_1 : Option Addr) (c0_1 : Nat) (l0_1 : List (List Int)) (r : Bool) (w : World) (hr0_1 : Kd.C (Kd.slice 3 (Kd.int .i64)) w A0_1 l0_1.length l0_1) (hc0_1 : l0_1.length ≤ c0_1) (h : spec_keGood.f k a0_0 l0_1 = some r) :
    Calls Try.prog 36 #[.agg #[.int .i64 a0_0, .slice A0_1 l0_1.length c0_1]] w fun e w' => e = .returned (.bool r) ∧ Below w.heap.size w w' := by
  have hu24 := Try.underlying24
  have HR0_1 := amk hr0_1
  have HC0_1 := amk hc0_1
  clear hr0_1 hc0_1
  have HB := amk (Below.refl w.heap.size w)
  have H : ((spec_l1In.f a0_0 1 9).bind fun t130 => (if t130 = true then ((spec_l1In.f (l0_1.length : Int) 1 7).bind fun t131 => (spec_keGood.j0 k (!t131) a0_0 l0_1)) else (spec_keGood.j0 k true a0_0 l0_1))) = some r := h
  clear h
  have HC2 := amk H
  clear H
  go_enter Try.func36, Try.ntmps36
  go_upto_region 1 with (first | ((with_reducible refine gate_dst (N := 1) rfl ?_); (try (refine gate_guard (by rfl) ?_; dsimp only)); refine boxE_ HB 1 #[.int .i64 a0_0, .slice A0_1 l0_1.length c0_1] 24 ?_; clear HB; intro gb129 w3 HB BK129 GW129 GE129 hb; clear hb))
  (try simp only [Act.put, List.setIfInBounds_toArray, List.set_cons_zero, List.set_cons_succ])
  go_cut [15] (fun v15 wc => ∃ (kq : Nat) (x15_1 : Bool), v15 = .bool x15_1 ∧ Aside0 (spec_keGood.j0 kq x15_1 a0_0 l0_1 = some r) ∧ Aside0 (kq ≤ k) ∧ Aside0 (wc.heap[gb129]? = some (.cells #[.int .i64 a0_0, (.slice A0_1 l0_1.length c0_1)] 24 (0, 0))) ∧ Aside0 (Below w.heap.size w wc))
  case first =>
    have H := HC2.out
    clear HC2
    replace H := bE H
    obtain ⟨t130, A4, H⟩ := H
    replace H := iteB H; obtain ⟨rfl, H⟩ | ⟨rfl, H⟩ := H
    · replace H := Option.bind_eq_some_iff.mp H
      obtain ⟨t131, A60, H⟩ := H
      replace H : (spec_keGood.j0 k (!t131) a0_0 l0_1) = some r := H
      have A6 := amk A60
      clear A60
      have H' := amk H
      clear H
      obtain ⟨hcz7_0, hcz7_1, hfz7_0, hfz7_1, _⟩ := two_cells BK129.out
      go_wp2_with (first | (refine gc_ 63 7 Try.func63 #[.int .i64 a0_0, .int .i64 1, .int .i64 9] ?_; (with_reducible refine (spec_l1In.calls a0_0 1 9 true _ A4.out).mono ?_); rintro e w' ⟨rfl, ⟨nd, rfl⟩⟩; refine ⟨_, rfl, ?_⟩) | (go_at_call 63; (with_reducible refine (spec_l1In.calls (l0_1.length : Int) 1 7 t131 _ A6.out).mono ?_); rintro e w' ⟨rfl, ⟨nd, rfl⟩⟩))
      go_meet
      case rel => exact ⟨_, (!t131), rS_, H', ⟨by first | omega | exact Nat.le_refl _⟩, ⟨kB BK129⟩, ⟨bB⟩⟩
    · have H' := amk H
      clear H
      obtain ⟨hcz8_0, hcz8_1, hfz8_0, hfz8_1, _⟩ := two_cells BK129.out
      go_wp2_with (first | (refine gc_ 63 7 Try.func63 #[.int .i64 a0_0, .int .i64 1, .int .i64 9] ?_; (with_reducible refine (spec_l1In.calls a0_0 1 9 false _ A4.out).mono ?_); rintro e w' ⟨rfl, ⟨nd, rfl⟩⟩; refine ⟨_, rfl, ?_⟩))
      go_meet
      case rel => exact ⟨_, (true), rS_, H', ⟨by first | omega | exact Nat.le_refl _⟩, ⟨kB BK129⟩, ⟨bB⟩⟩
  case rest =>
    clear HC2
    try clear p2; try clear c3; try clear c5; try clear c6; try clear hcz7_0; try clear hcz7_1; try clear hcz8_0; try clear hcz8_1; try clear hfz7_0; try clear hfz7_1; try clear hfz8_0; try clear hfz8_1
    obtain ⟨kq, x15_1, rfl, HA, HJ1, BK129, HB⟩ := hcut
    cases kq with
    | zero => exact absurd HA.out (by simp [spec_keGood.j0])
    | succ kj1 =>
      have H := HA.out
      clear HA
      simp only [spec_keGood.j0] at H
      replace H := iteB H; obtain ⟨rfl, H⟩ | ⟨rfl, H⟩ := H
      · obtain rfl := Option.some.inj H
        go_wp2
        go_ret
        exact ⟨rF_, bB⟩
      · have H' := amk H
        clear H
        obtain ⟨hcz10_0, hcz10_1, hfz10_0, hfz10_1, _⟩ := two_cells BK129.out
        go_wp2
        go_loopg [19] kj1 (fun kq v19 w' => ∃ (x19_2 : Int), v19 = .int .i64 x19_2 ∧ Aside0 (spec_keGood.l0 kq l0_1 (l0_1.length : Int) x19_2 a0_0 l0_1 = some r) ∧ Aside0 (kq ≤ kj1) ∧ Aside0 (w'.heap[gb129]? = some (.cells #[.int .i64 a0_0, (.slice A0_1 l0_1.length c0_1)] 24 (0, 0))) ∧ Aside0 (Below w.heap.size w w'))
        case atStart => exact ⟨(0), rS_, H', ⟨Nat.le_refl _⟩, ⟨kB BK129⟩, ⟨bB⟩⟩
        case round =>
          clear H'
          try clear p2; try clear c3; try clear c5; try clear c6; try clear c9; try clear hcz10_0; try clear hcz10_1; try clear hcz7_0; try clear hcz7_1; try clear hcz8_0; try clear hcz8_1; try clear hfz10_0; try clear hfz10_1; try clear hfz7_0; try clear hfz7_1; try clear hfz8_0; try clear hfz8_1; try clear p2
          obtain ⟨x19_2, rfl, HA, HK2, BK129, HB⟩ := hrel
          cases gk with
          | zero => exact absurd HA.out (by simp [spec_keGood.l0])
          | succ k2 =>
            have H := HA.out
            clear HA
            simp only [spec_keGood.l0] at H
            replace H := iteE H; obtain ⟨c11b0, H⟩ | ⟨c11b0, H⟩ := H
            · replace H := iteN H; obtain ⟨c12b0, H⟩ := H
              replace H := iteN H; obtain ⟨c13b0, H⟩ := H
              by_cases c14 : ((rd_L1 l0_1 x19_2).length : Int) = 0
              · rw [if_pos c14] at H
                have c14b0 : (((rd_L1 l0_1 x19_2).length : Int) == 0) = true := beq_iff_eq.mpr c14
                have c14b1 : (((rd_L1 l0_1 x19_2).length : Int) != 0) = false := bne_eq_false_iff_eq.mpr c14
                clear c14
                obtain rfl := Option.some.inj H
                obtain ⟨p132, q132, ad132, A132_0, c132_0, e132, hx132_0, HC132_0, HR132_0⟩ := at_L1q HR0_1 HB x19_2
                cases e132
                go_wp2
                go_ret
                exact ⟨rF_, bB⟩
              · rw [if_neg c14] at H
                have c14b0 : (((rd_L1 l0_1 x19_2).length : Int) == 0) = false := beq_eq_false_iff_ne.mpr c14
                have c14b1 : (((rd_L1 l0_1 x19_2).length : Int) != 0) = true := bne_iff_ne.mpr c14
                have c14b2 : ¬ ((rd_L1 l0_1 x19_2) = []) := fun h_ => c14 (by rw [h_]; rfl)
                replace H := bE H
                obtain ⟨t133, A15, H⟩ := H
                replace H := iteB H; obtain ⟨rfl, H⟩ | ⟨rfl, H⟩ := H
                · have H' := amk H
                  clear H
                  obtain ⟨p132, q132, ad132, A132_0, c132_0, e132, hx132_0, HC132_0, HR132_0⟩ := at_L1q HR0_1 HB x19_2
                  cases e132
                  obtain ⟨hcz17_0, hcz17_1, hfz17_0, hfz17_1, _⟩ := two_cells BK129.out
                  go_wp2_with (first | (go_at_call 64; (with_reducible refine (spec_l1Rising.calls k2 _ _ (rd_L1 l0_1 x19_2) 0 (wrap64 (a0_0 - 1)) true _ ?_ ?_ A15.out).mono ?_); exact cB (Kd.C_below HR132_0.out HB.out); exact HC132_0.out; rintro e w' ⟨rfl, ⟨nd, rfl⟩⟩))
                  go_roundg k2
                  case measure => have := HJ1.out; have := HK2.out; omega
                  case rel => exact ⟨(wrap64 (x19_2 + 1)), rS_, H', ⟨by have := HJ1.out; have := HK2.out; omega⟩, ⟨kB BK129⟩, ⟨bB⟩⟩
                · obtain rfl := Option.some.inj H
                  obtain ⟨p132, q132, ad132, A132_0, c132_0, e132, hx132_0, HC132_0, HR132_0⟩ := at_L1q HR0_1 HB x19_2
                  cases e132
                  obtain ⟨hcz18_0, hcz18_1, hfz18_0, hfz18_1, _⟩ := two_cells BK129.out
                  go_wp2_with (first | (go_at_call 64; (with_reducible refine (spec_l1Rising.calls k2 _ _ (rd_L1 l0_1 x19_2) 0 (wrap64 (a0_0 - 1)) false _ ?_ ?_ A15.out).mono ?_); exact cB (Kd.C_below HR132_0.out HB.out); exact HC132_0.out; rintro e w' ⟨rfl, ⟨nd, rfl⟩⟩))
                  go_ret
                  exact ⟨rF_, bB⟩
            · obtain rfl := Option.some.inj H
              go_wp2
              go_ret
              exact ⟨rF_, bB⟩
/-! ### spec_AllKeys: function 12 -/
def spec_AllKeys.f (k : Nat) (a0_0 : Int) (l0_1 : List (List Int)) : Option (List ByteArray × Bool) := (spec_keGood.f k a0_0 l0_1).bind fun t212 => (if t212 = true then ((spec_keCount.f k a0_0 l0_1).bind fun t213 => (if t213 > 200 then (some (([] : List ByteArray), false)) else ((spec_keAll.f k a0_0 l0_1 (⟨#[]⟩ : ByteArray)).bind fun t214 => (some (t214, true))))) else (some (([] : List ByteArray), false)))
set_option maxHeartbeats 8000000 in
set_option maxRecDepth 100000 in
theorem spec_AllKeys.calls (k : Nat) (a0_0 : Int) (A0_1 : Option Addr) (c0_1 : Nat) (l0_1 : List (List Int)) (r1 : List ByteArray) (r2 : Bool) (w : World) (hr0_1 : Kd.C (Kd.slice 3 (Kd.int .i64)) w A0_1 l0_1.length l0_1) (hc0_1 : l0_1.length ≤ c0_1) (h : spec_AllKeys.f k a0_0 l0_1 = some (r1, r2)) :
    Calls Try.prog 12 #[.agg #[.int .i64 a0_0, .slice A0_1 l0_1.length c0_1]] w fun e w' => ∃ v0_ : Value, e = .returned (.tuple #[v0_, .bool r2]) ∧ Kd.R Kd.string 9 w' w.heap.size (fun _ => True) v0_ r1 ∧ Below w.heap.size w w' := by
  have hu24 := Try.underlying24
  have HR0_1 := amk hr0_1
  have HC0_1 := amk hc0_1
  clear hr0_1 hc0_1
  have HB := amk (Below.refl w.heap.size w)
  have H : ((spec_keGood.f k a0_0 l0_1).bind fun t212 => (if t212 = true then ((spec_keCount.f k a0_0 l0_1).bind fun t213 => (if t213 > 200 then (some (([] : List ByteArray), false)) else ((spec_keAll.f k a0_0 l0_1 (⟨#[]⟩ : ByteArray)).bind fun t214 => (some (t214, true))))) else (some (([] : List ByteArray), false)))) = some (r1, r2) := h
  clear h
  replace H := bE H
  obtain ⟨t212, A2, H⟩ := H
  replace H := iteB H; obtain ⟨rfl, H⟩ | ⟨rfl, H⟩ := H
  · replace H := Option.bind_eq_some_iff.mp H
    obtain ⟨t213, A40, H⟩ := H
    replace H : (if t213 > 200 then (some (([] : List ByteArray), false)) else ((spec_keAll.f k a0_0 l0_1 (⟨#[]⟩ : ByteArray)).bind fun t214 => (some (t214, true)))) = some (r1, r2) := H
    have A4 := amk A40
    clear A40
    by_cases c5 : t213 > 200
    · rw [if_pos c5] at H
      have c5b0 : decide (200 < t213) = true := decide_eq_true c5
      clear c5
      simp only [Option.some.injEq, Prod.mk.injEq] at H
      obtain ⟨rfl, rfl⟩ := H
      go_enter Try.func12, Try.ntmps12
      go_wp2_with (first | ((with_reducible refine gate_dst (N := 1) rfl ?_); refine boxE_ HB 1 #[.int .i64 a0_0, .slice A0_1 l0_1.length c0_1] 24 ?_; clear HB; intro gb211 w6 HB BK211 GW211 GE211 hb; clear hb; obtain ⟨hcz7_0, hcz7_1, hfz7_0, hfz7_1, _⟩ := two_cells BK211.out) | (refine gc_ 36 5 Try.func36 #[.agg #[.int .i64 a0_0, .slice A0_1 l0_1.length c0_1]] ?_; (with_reducible refine (spec_keGood.calls k a0_0 _ _ l0_1 true _ ?_ ?_ A2.out).mono ?_); exact cB (Kd.C_below HR0_1.out HB.out); exact HC0_1.out; rintro e w8 ⟨rfl, hb⟩; refine ⟨_, rfl, ?_⟩; replace BK211 := kb2 BK211 hb; replace HB := hB2 HB hb; (try clear hb); obtain ⟨hcz9_0, hcz9_1, hfz9_0, hfz9_1, _⟩ := two_cells BK211.out) | (go_at_call 40; (with_reducible refine (spec_keCount.calls k a0_0 _ _ l0_1 t213 _ ?_ ?_ A4.out).mono ?_); exact cB (Kd.C_below HR0_1.out HB.out); exact HC0_1.out; rintro e w10 ⟨rfl, hb⟩; replace BK211 := kb2 BK211 hb; replace HB := hB2 HB hb; (try clear hb)))
      go_ret2
      exact ⟨_, rF_, xN_, bB⟩
    · rw [if_neg c5] at H
      have c5b0 : decide (200 < t213) = false := decide_eq_false c5
      clear c5
      replace H := bE H
      obtain ⟨t214, A11, H⟩ := H
      simp only [Option.some.injEq, Prod.mk.injEq] at H
      obtain ⟨rfl, rfl⟩ := H
      go_enter Try.func12, Try.ntmps12
      go_wp2_with (first | ((with_reducible refine gate_dst (N := 1) rfl ?_); refine boxE_ HB 1 #[.int .i64 a0_0, .slice A0_1 l0_1.length c0_1] 24 ?_; clear HB; intro gb211 w12 HB BK211 GW211 GE211 hb; clear hb; obtain ⟨hcz13_0, hcz13_1, hfz13_0, hfz13_1, _⟩ := two_cells BK211.out) | (refine gc_ 36 5 Try.func36 #[.agg #[.int .i64 a0_0, .slice A0_1 l0_1.length c0_1]] ?_; (with_reducible refine (spec_keGood.calls k a0_0 _ _ l0_1 true _ ?_ ?_ A2.out).mono ?_); exact cB (Kd.C_below HR0_1.out HB.out); exact HC0_1.out; rintro e w14 ⟨rfl, hb⟩; refine ⟨_, rfl, ?_⟩; replace BK211 := kb2 BK211 hb; replace HB := hB2 HB hb; (try clear hb); obtain ⟨hcz15_0, hcz15_1, hfz15_0, hfz15_1, _⟩ := two_cells BK211.out) | (go_at_call 40; (with_reducible refine (spec_keCount.calls k a0_0 _ _ l0_1 t213 _ ?_ ?_ A4.out).mono ?_); exact cB (Kd.C_below HR0_1.out HB.out); exact HC0_1.out; rintro e w16 ⟨rfl, hb⟩; replace BK211 := kb2 BK211 hb; replace HB := hB2 HB hb; (try clear hb); obtain ⟨hcz17_0, hcz17_1, hfz17_0, hfz17_1, _⟩ := two_cells BK211.out) | (refine gc_ 42 13 Try.func42 #[.agg #[.int .i64 a0_0, .slice A0_1 l0_1.length c0_1], .string (⟨#[]⟩ : ByteArray)] ?_; (with_reducible refine (spec_keAll.calls k a0_0 _ _ l0_1 (⟨#[]⟩ : ByteArray) t214 _ ?_ ?_ A11.out).mono ?_); exact cB (Kd.C_below HR0_1.out HB.out); exact HC0_1.out; rintro e w18 ⟨v215, rfl, ho0, hb⟩; refine ⟨_, rfl, ?_⟩; have HO216 := amk (Kd.R_lower ho0 (below_size bB)); replace BK211 := kb2 BK211 hb; replace HB := hB2 HB hb; (try clear hb); (try clear ho0)))
      go_ret2
      exact ⟨_, rF_, oX HO216, bB⟩
  · simp only [Option.some.injEq, Prod.mk.injEq] at H
    obtain ⟨rfl, rfl⟩ := H
    go_enter Try.func12, Try.ntmps12
    go_wp2_with (first | ((with_reducible refine gate_dst (N := 1) rfl ?_); refine boxE_ HB 1 #[.int .i64 a0_0, .slice A0_1 l0_1.length c0_1] 24 ?_; clear HB; intro gb211 w19 HB BK211 GW211 GE211 hb; clear hb; obtain ⟨hcz20_0, hcz20_1, hfz20_0, hfz20_1, _⟩ := two_cells BK211.out) | (refine gc_ 36 5 Try.func36 #[.agg #[.int .i64 a0_0, .slice A0_1 l0_1.length c0_1]] ?_; (with_reducible refine (spec_keGood.calls k a0_0 _ _ l0_1 false _ ?_ ?_ A2.out).mono ?_); exact cB (Kd.C_below HR0_1.out HB.out); exact HC0_1.out; rintro e w21 ⟨rfl, hb⟩; refine ⟨_, rfl, ?_⟩; replace BK211 := kb2 BK211 hb; replace HB := hB2 HB hb; (try clear hb)))
    go_ret2
    exact ⟨_, rF_, xN_, bB⟩
/-! ### spec_ArePins: function 15 -/
def spec_ArePins.f (k : Nat) (a0_0 : Int) (l0_1 : List (List Int)) : Option (Bool) := (spec_keGood.f k a0_0 l0_1).bind fun t220 => (some t220)
set_option maxHeartbeats 8000000 in
set_option maxRecDepth 100000 in
theorem spec_ArePins.calls (k : Nat) (a0_0 : Int) (A0_1 : Option Addr) (c0_1 : Nat) (l0_1 : List (List Int)) (r : Bool) (w : World) (hr0_1 : Kd.C (Kd.slice 3 (Kd.int .i64)) w A0_1 l0_1.length l0_1) (hc0_1 : l0_1.length ≤ c0_1) (h : spec_ArePins.f k a0_0 l0_1 = some r) :
    Calls Try.prog 15 #[.agg #[.int .i64 a0_0, .slice A0_1 l0_1.length c0_1]] w fun e w' => e = .returned (.bool r) ∧ Below w.heap.size w w' := by
  have hu24 := Try.underlying24
  have HR0_1 := amk hr0_1
  have HC0_1 := amk hc0_1
  clear hr0_1 hc0_1
  have HB := amk (Below.refl w.heap.size w)
  have H : ((spec_keGood.f k a0_0 l0_1).bind fun t220 => (some t220)) = some r := h
  clear h
  replace H := bE H
  obtain ⟨t220, A2, H⟩ := H
  obtain rfl := Option.some.inj H
  go_enter Try.func15, Try.ntmps15
  go_wp2_with (first | ((with_reducible refine gate_dst (N := 1) rfl ?_); refine boxE_ HB 1 #[.int .i64 a0_0, .slice A0_1 l0_1.length c0_1] 24 ?_; clear HB; intro gb219 w3 HB BK219 GW219 GE219 hb; clear hb; obtain ⟨hcz4_0, hcz4_1, hfz4_0, hfz4_1, _⟩ := two_cells BK219.out) | (refine gc_ 36 4 Try.func36 #[.agg #[.int .i64 a0_0, .slice A0_1 l0_1.length c0_1]] ?_; (with_reducible refine (spec_keGood.calls k a0_0 _ _ l0_1 t220 _ ?_ ?_ A2.out).mono ?_); exact cB (Kd.C_below HR0_1.out HB.out); exact HC0_1.out; rintro e w5 ⟨rfl, hb⟩; refine ⟨_, rfl, ?_⟩; replace BK219 := kb2 BK219 hb; replace HB := hB2 HB hb; (try clear hb)))
  go_ret
  exact ⟨rF_, bB⟩
/-! ### spec_CountKeys: function 10 -/
def spec_CountKeys.f (k : Nat) (a0_0 : Int) (l0_1 : List (List Int)) : Option (Int × Bool) := (spec_keGood.f k a0_0 l0_1).bind fun t158 => (if t158 = true then ((spec_keCount.f k a0_0 l0_1).bind fun t159 => (some (t159, true))) else (some (0, false)))
set_option maxHeartbeats 8000000 in
set_option maxRecDepth 100000 in
theorem spec_CountKeys.calls (k : Nat) (a0_0 : Int) (A0_1 : Option Addr) (c0_1 : Nat) (l0_1 : List (List Int)) (r1 : Int) (r2 : Bool) (w : World) (hr0_1 : Kd.C (Kd.slice 3 (Kd.int .i64)) w A0_1 l0_1.length l0_1) (hc0_1 : l0_1.length ≤ c0_1) (h : spec_CountKeys.f k a0_0 l0_1 = some (r1, r2)) :
    Calls Try.prog 10 #[.agg #[.int .i64 a0_0, .slice A0_1 l0_1.length c0_1]] w fun e w' => e = .returned (.tuple #[.int .i64 r1, .bool r2]) ∧ Below w.heap.size w w' := by
  have hu24 := Try.underlying24
  have HR0_1 := amk hr0_1
  have HC0_1 := amk hc0_1
  clear hr0_1 hc0_1
  have HB := amk (Below.refl w.heap.size w)
  have H : ((spec_keGood.f k a0_0 l0_1).bind fun t158 => (if t158 = true then ((spec_keCount.f k a0_0 l0_1).bind fun t159 => (some (t159, true))) else (some (0, false)))) = some (r1, r2) := h
  clear h
  replace H := bE H
  obtain ⟨t158, A2, H⟩ := H
  replace H := iteB H; obtain ⟨rfl, H⟩ | ⟨rfl, H⟩ := H
  · replace H := Option.bind_eq_some_iff.mp H
    obtain ⟨t159, A40, H⟩ := H
    replace H : (some (t159, true)) = some (r1, r2) := H
    have A4 := amk A40
    clear A40
    simp only [Option.some.injEq, Prod.mk.injEq] at H
    obtain ⟨rfl, rfl⟩ := H
    go_enter Try.func10, Try.ntmps10
    go_wp2_with (first | ((with_reducible refine gate_dst (N := 1) rfl ?_); refine boxE_ HB 1 #[.int .i64 a0_0, .slice A0_1 l0_1.length c0_1] 24 ?_; clear HB; intro gb157 w5 HB BK157 GW157 GE157 hb; clear hb; obtain ⟨hcz6_0, hcz6_1, hfz6_0, hfz6_1, _⟩ := two_cells BK157.out) | (refine gc_ 36 5 Try.func36 #[.agg #[.int .i64 a0_0, .slice A0_1 l0_1.length c0_1]] ?_; (with_reducible refine (spec_keGood.calls k a0_0 _ _ l0_1 true _ ?_ ?_ A2.out).mono ?_); exact cB (Kd.C_below HR0_1.out HB.out); exact HC0_1.out; rintro e w7 ⟨rfl, hb⟩; refine ⟨_, rfl, ?_⟩; replace BK157 := kb2 BK157 hb; replace HB := hB2 HB hb; (try clear hb); obtain ⟨hcz8_0, hcz8_1, hfz8_0, hfz8_1, _⟩ := two_cells BK157.out) | (refine gc_ 40 8 Try.func40 #[.agg #[.int .i64 a0_0, .slice A0_1 l0_1.length c0_1]] ?_; (with_reducible refine (spec_keCount.calls k a0_0 _ _ l0_1 t159 _ ?_ ?_ A4.out).mono ?_); exact cB (Kd.C_below HR0_1.out HB.out); exact HC0_1.out; rintro e w9 ⟨rfl, hb⟩; refine ⟨_, rfl, ?_⟩; replace BK157 := kb2 BK157 hb; replace HB := hB2 HB hb; (try clear hb)))
    go_ret2
    exact ⟨rF_, bB⟩
  · simp only [Option.some.injEq, Prod.mk.injEq] at H
    obtain ⟨rfl, rfl⟩ := H
    go_enter Try.func10, Try.ntmps10
    go_wp2_with (first | ((with_reducible refine gate_dst (N := 1) rfl ?_); refine boxE_ HB 1 #[.int .i64 a0_0, .slice A0_1 l0_1.length c0_1] 24 ?_; clear HB; intro gb157 w10 HB BK157 GW157 GE157 hb; clear hb; obtain ⟨hcz11_0, hcz11_1, hfz11_0, hfz11_1, _⟩ := two_cells BK157.out) | (refine gc_ 36 5 Try.func36 #[.agg #[.int .i64 a0_0, .slice A0_1 l0_1.length c0_1]] ?_; (with_reducible refine (spec_keGood.calls k a0_0 _ _ l0_1 false _ ?_ ?_ A2.out).mono ?_); exact cB (Kd.C_below HR0_1.out HB.out); exact HC0_1.out; rintro e w12 ⟨rfl, hb⟩; refine ⟨_, rfl, ?_⟩; replace BK157 := kb2 BK157 hb; replace HB := hB2 HB hb; (try clear hb)))
    go_ret2
    exact ⟨rF_, bB⟩
/-! ### spec_keKind: function 53 -/
def spec_keKind.f (a0_0 : Int) (l0_1 : List (List Int)) (a1_0 : Int) (l1_1 : List (List Int)) : Option (Bool) := if a0_0 = a1_0 then (some ((l0_1.length : Int) == (l1_1.length : Int))) else (some false)
set_option maxHeartbeats 8000000 in
set_option maxRecDepth 100000 in
theorem spec_keKind.calls (a0_0 : Int) (A0_1 : Option Addr) (c0_1 : Nat) (l0_1 : List (List Int)) (a1_0 : Int) (A1_1 : Option Addr) (c1_1 : Nat) (l1_1 : List (List Int)) (r : Bool) (w : World) (hr0_1 : Kd.C (Kd.slice 3 (Kd.int .i64)) w A0_1 l0_1.length l0_1) (hc0_1 : l0_1.length ≤ c0_1) (hr1_1 : Kd.C (Kd.slice 3 (Kd.int .i64)) w A1_1 l1_1.length l1_1) (hc1_1 : l1_1.length ≤ c1_1) (h : spec_keKind.f a0_0 l0_1 a1_0 l1_1 = some r) :
    Calls Try.prog 53 #[.agg #[.int .i64 a0_0, .slice A0_1 l0_1.length c0_1], .agg #[.int .i64 a1_0, .slice A1_1 l1_1.length c1_1]] w fun e w' => e = .returned (.bool r) ∧ Below w.heap.size w w' := by
  have hu24 := Try.underlying24
  have HR0_1 := amk hr0_1
  have HC0_1 := amk hc0_1
  clear hr0_1 hc0_1
  have HR1_1 := amk hr1_1
  have HC1_1 := amk hc1_1
  clear hr1_1 hc1_1
  have HB := amk (Below.refl w.heap.size w)
  have H : (if a0_0 = a1_0 then (some ((l0_1.length : Int) == (l1_1.length : Int))) else (some false)) = some r := h
  clear h
  by_cases c3 : a0_0 = a1_0
  · rw [if_pos c3] at H
    have c3b0 : (a0_0 == a1_0) = true := beq_iff_eq.mpr c3
    have c3b1 : (a0_0 != a1_0) = false := bne_eq_false_iff_eq.mpr c3
    clear c3
    obtain rfl := Option.some.inj H
    go_enter Try.func53, Try.ntmps53
    go_wp2_with (first | ((with_reducible refine gate_dst (N := 2) rfl ?_); (try (refine gate_guard (by rfl) ?_; dsimp only)); refine boxE_ HB 2 #[.int .i64 a0_0, .slice A0_1 l0_1.length c0_1] 24 ?_; clear HB; intro gb255 w4 HB BK255 GW255 GE255 hb; clear hb) | ((with_reducible refine gate_dst (N := 3) rfl ?_); (try (refine gate_guard (by rfl) ?_; dsimp only)); refine boxG_ 3 #[.int .i64 a1_0, .slice A1_1 l1_1.length c1_1] 24 ?_; intro gb256 w5 hg BK256 hb; have GW256 := sZ HB hg; have GE256 := sZ HB hg; replace HB := hB2 HB hb; have NB255_256 := neL BK255 hg; have NB256_255 := neR BK255 hg; replace BK255 := kb2 BK255 hb; clear hb hg; have hnb6 := NB255_256.out; have hnc6 := NB256_255.out; obtain ⟨hcz7_0, hcz7_1, hfz7_0, hfz7_1, _⟩ := two_cells BK255.out; obtain ⟨hcz8_0, hcz8_1, hfz8_0, hfz8_1, _⟩ := two_cells BK256.out))
    go_ret
    exact ⟨rF_, bB⟩
  · rw [if_neg c3] at H
    have c3b0 : (a0_0 == a1_0) = false := beq_eq_false_iff_ne.mpr c3
    have c3b1 : (a0_0 != a1_0) = true := bne_iff_ne.mpr c3
    obtain rfl := Option.some.inj H
    go_enter Try.func53, Try.ntmps53
    go_wp2_with (first | ((with_reducible refine gate_dst (N := 2) rfl ?_); (try (refine gate_guard (by rfl) ?_; dsimp only)); refine boxE_ HB 2 #[.int .i64 a0_0, .slice A0_1 l0_1.length c0_1] 24 ?_; clear HB; intro gb255 w9 HB BK255 GW255 GE255 hb; clear hb) | ((with_reducible refine gate_dst (N := 3) rfl ?_); (try (refine gate_guard (by rfl) ?_; dsimp only)); refine boxG_ 3 #[.int .i64 a1_0, .slice A1_1 l1_1.length c1_1] 24 ?_; intro gb256 w10 hg BK256 hb; have GW256 := sZ HB hg; have GE256 := sZ HB hg; replace HB := hB2 HB hb; have NB255_256 := neL BK255 hg; have NB256_255 := neR BK255 hg; replace BK255 := kb2 BK255 hb; clear hb hg; have hnb11 := NB255_256.out; have hnc11 := NB256_255.out; obtain ⟨hcz12_0, hcz12_1, hfz12_0, hfz12_1, _⟩ := two_cells BK255.out; obtain ⟨hcz13_0, hcz13_1, hfz13_0, hfz13_1, _⟩ := two_cells BK256.out))
    go_ret
    exact ⟨rF_, bB⟩
/-! ### spec_keList: function 49 -/
def spec_keList.l0 : Nat → List (S24) → List (S24) → Int → Int → Option (Bool)
  | 0, _, _, _, _ => none
  | k + 1, x0, x9, x10, x11 => if x11 < x10 then (if 0 ≤ x11 then (if x11 < (x9.length : Int) then ((spec_keGood.f k ((rd_T24 x9 x11).f0) ((rd_T24 x9 x11).f1)).bind fun t260 => (if t260 = true then (if 0 < (x0.length : Int) then ((spec_keKind.f ((rd_T24 x9 x11).f0) ((rd_T24 x9 x11).f1) ((rd_T24 x0 0).f0) ((rd_T24 x0 0).f1)).bind fun t262 => (if t262 = true then (spec_keList.l0 k x0 x9 x10 (wrap64 (x11 + 1))) else (some false))) else (none)) else (some false))) else (none)) else (none)) else (some true)
def spec_keList.f (k : Nat) (l0 : List (S24)) : Option (Bool) := (spec_l1In.f (l0.length : Int) 1 6).bind fun t257 => (if t257 = true then (spec_keList.l0 k l0 l0 (l0.length : Int) 0) else (some false))
def spec_keList.T6 : Bool × List (List Nat × List Nat) := (true, [([], []), ([0], [0]), ([1], [1]), ([2, 1], [2]), ([3], [3]), ([3], [3]), ([5, 3], [3, 5]), ([6, 3], [3, 6]), ([4, 7, 3, 3], [3, 4, 7]), ([8, 3], [3, 8]), ([3, 9], [3, 9])])
def spec_keList.B6 : List Nat := [0, 1, 3, 7, 15, 15, 47, 111, 255, 511, 1023]
theorem spec_keList.tab6 : rtab .any (opsOf Try.f49 6) = spec_keList.T6 := by kernel_rfl
theorem spec_keList.bits6 : waitsOk spec_keList.T6.2 spec_keList.B6 = true := by kernel_rfl
set_option maxHeartbeats 8000000 in
set_option maxRecDepth 100000 in
theorem spec_keList.calls (k : Nat) (A0 : Option Addr) (c0 : Nat) (l0 : List (S24)) (r : Bool) (w : World) (hr0 : Kd.C k24 w A0 l0.length l0) (hc0 : l0.length ≤ c0) (h : spec_keList.f k l0 = some r) :
    Calls Try.prog 49 #[.slice A0 l0.length c0] w fun e w' => e = .returned (.bool r) ∧ Below w.heap.size w w' := by
  have hu24 := Try.underlying24
  have HR0 := amk hr0
  have HC0 := amk hc0
  clear hr0 hc0
  have HB := amk (Below.refl w.heap.size w)
  have H : ((spec_l1In.f (l0.length : Int) 1 6).bind fun t257 => (if t257 = true then (spec_keList.l0 k l0 l0 (l0.length : Int) 0) else (some false))) = some r := h
  clear h
  replace H := bE H
  obtain ⟨t257, A2, H⟩ := H
  replace H := iteB H; obtain ⟨rfl, H⟩ | ⟨rfl, H⟩ := H
  · have H' := amk H
    clear H
    go_enter Try.func49, Try.ntmps49
    go_wp2_with (first | (refine gc_ 63 7 Try.func63 #[.int .i64 (l0.length : Int), .int .i64 1, .int .i64 6] ?_; (with_reducible refine (spec_l1In.calls (l0.length : Int) 1 6 true _ A2.out).mono ?_); rintro e w' ⟨rfl, ⟨nd, rfl⟩⟩; refine ⟨_, rfl, ?_⟩))
    go_loopg [11] k (fun kq v11 w' => ∃ (x11_1 : Int), v11 = .int .i64 x11_1 ∧ Aside0 (spec_keList.l0 kq l0 l0 (l0.length : Int) x11_1 = some r) ∧ Aside0 (kq ≤ k) ∧ Aside0 (Below w.heap.size w w'))
    case atStart => exact ⟨(0), rS_, H', ⟨Nat.le_refl _⟩, ⟨bB⟩⟩
    case round =>
      clear H'
      try clear p2; try clear c3
      obtain ⟨x11_1, rfl, HA, HK1, HB⟩ := hrel
      cases gk with
      | zero => exact absurd HA.out (by simp [spec_keList.l0])
      | succ k1 =>
        have H := HA.out
        clear HA
        simp only [spec_keList.l0] at H
        replace H := iteE H; obtain ⟨c4b0, H⟩ | ⟨c4b0, H⟩ := H
        · replace H := iteN H; obtain ⟨c5b0, H⟩ := H
          replace H := iteN H; obtain ⟨c6b0, H⟩ := H
          replace H := bE H
          obtain ⟨t260, A7, H⟩ := H
          replace H := iteB H; obtain ⟨rfl, H⟩ | ⟨rfl, H⟩ := H
          · by_cases c9 : 0 < (l0.length : Int)
            · rw [if_pos c9] at H
              have c9b0 : decide (0 < (l0.length : Int)) = true := decide_eq_true c9
              have c9b1 : decide (0 < l0.length) = true := decide_eq_true (by omega)
              clear c9
              replace H := bE H
              obtain ⟨t262, A10, H⟩ := H
              replace H := iteB H; obtain ⟨rfl, H⟩ | ⟨rfl, H⟩ := H
              · have H' := amk H
                clear H
                have p258 : 0 ≤ (x11_1 : Int) := dA_
                have q258 : x11_1 < (l0.length : Int) := dA_
                obtain ⟨ad258, A258_1, c258_1, e258, hx258_0, hx258_1, hl258_1, hi258_1⟩ := at_T24 HR0.out x11_1 p258 q258
                cases e258
                replace hx258_0 := (HB.out.cell (World.block_lt_of_cell? w _ hx258_0)).trans hx258_0
                replace hx258_1 := (HB.out.cell (World.block_lt_of_cell? w _ hx258_1)).trans hx258_1
                have HR258_1 := amk hi258_1
                have HC258_1 := amk hl258_1
                clear hi258_1 hl258_1
                replace p258 := eq_true p258
                replace q258 := eq_true q258
                try go_wp2_with (first | ((with_reducible refine gate_dst (N := 4) rfl ?_); refine boxE_ HB 4 #[.int .i64 0, .slice none 0 0] 24 ?_; clear HB; intro gb259 w12 HB BK259 GW259 GE259 hb; clear hb; obtain ⟨hcz13_0, hcz13_1, hfz13_0, hfz13_1, _⟩ := two_cells BK259.out))
                have n0_ : Aside0 (((w12.setCell ⟨gb259, 0, none⟩ (.int .i64 ((rd_T24 l0 x11_1).f0))).setCell ⟨gb259, 1, none⟩ (.slice A258_1 ((rd_T24 l0 x11_1).f1).length c258_1)).heap[gb259]? = some (.cells #[.int .i64 ((rd_T24 l0 x11_1).f0), .slice A258_1 ((rd_T24 l0 x11_1).f1).length c258_1] 24 (0, 0))) := ⟨by (with_reducible repeat (first | refine kn_ ?_ _ | refine blk_drew ?_ | refine ka_ ?_ _)); refine blk_put (cs := #[.int .i64 ((rd_T24 l0 x11_1).f0), .slice none 0 0]) ?_ 1 _ rfl; (with_reducible repeat (first | refine kn_ ?_ _ | refine blk_drew ?_ | refine ka_ ?_ _)); refine blk_put (cs := #[.int .i64 0, .slice none 0 0]) ?_ 0 _ rfl; (with_reducible repeat (first | refine kn_ ?_ _ | refine blk_drew ?_ | refine ka_ ?_ _)); exact BK259.out⟩
                have n1_ : Aside0 (Below w.heap.size w ((w12.setCell ⟨gb259, 0, none⟩ (.int .i64 ((rd_T24 l0 x11_1).f0))).setCell ⟨gb259, 1, none⟩ (.slice A258_1 ((rd_T24 l0 x11_1).f1).length c258_1))) := ⟨bB⟩
                (try clear BK259)
                (try clear HB)
                generalize ((w12.setCell ⟨gb259, 0, none⟩ (.int .i64 ((rd_T24 l0 x11_1).f0))).setCell ⟨gb259, 1, none⟩ (.slice A258_1 ((rd_T24 l0 x11_1).f1).length c258_1)) = w14 at n0_ n1_ ⊢
                have BK259 := n0_
                have HB := n1_
                clear n0_ n1_
                have n0_ := amk (blk_drew BK259.out)
                have n1_ := amk (bd_ HB.out)
                clear BK259
                clear HB
                have BK259 := n0_
                have HB := n1_
                clear n0_ n1_
                have p261 : 0 ≤ (0 : Int) := (by omega)
                have q261 : 0 < (l0.length : Int) := dA_
                obtain ⟨ad261, A261_1, c261_1, e261, hx261_0, hx261_1, hl261_1, hi261_1⟩ := at_T24 HR0.out 0 p261 q261
                have hw261_1 := hx261_1
                (try rw [show ((0 : Int)).toNat = 0 from rfl] at hw261_1)
                (try rw [show 0 * 2 = 0 from rfl] at hw261_1)
                (try rw [Addr.add_zero'] at hw261_1)
                have hw261_0 := hx261_0
                (try rw [show ((0 : Int)).toNat = 0 from rfl] at hw261_0)
                (try rw [show 0 * 2 = 0 from rfl] at hw261_0)
                (try rw [Addr.add_zero'] at hw261_0)
                obtain rfl : ad258 = ad261 := (by injection e261)
                have qi261 : (0 < l0.length) = True := eq_true (by omega)
                (try rw [show ((0 : Int)).toNat = 0 from rfl] at hx261_0)
                (try rw [show 0 * 2 = 0 from rfl] at hx261_0)
                (try rw [Addr.add_zero'] at hx261_0)
                (try rw [show ((0 : Int)).toNat = 0 from rfl] at hx261_1)
                (try rw [show 0 * 2 = 0 from rfl] at hx261_1)
                (try rw [Addr.add_zero'] at hx261_1)
                replace hx261_0 := (HB.out.cell (World.block_lt_of_cell? w _ hx261_0)).trans hx261_0
                replace hx261_1 := (HB.out.cell (World.block_lt_of_cell? w _ hx261_1)).trans hx261_1
                have HR261_1 := amk hi261_1
                have HC261_1 := amk hl261_1
                clear hi261_1 hl261_1
                replace p261 := eq_true p261
                replace q261 := eq_true q261
                refine start_ (n := 11) (S := fun w' => w'.cell? ⟨gb259, 0, none⟩ = some (.int .i64 ((rd_T24 l0 x11_1).f0)) ∧ w'.cell? ⟨gb259, 1, none⟩ = some (.slice A258_1 ((rd_T24 l0 x11_1).f1).length c258_1) ∧ w'.cell? ad258 = some (.int .i64 ((rd_T24 l0 0).f0)) ∧ w'.cell? ⟨ad258.block, ad258.off + 1, none⟩ = some (.slice A261_1 ((rd_T24 l0 0).f1).length c261_1)) (ds := []) #[false, false, false, false, false, false, false, false, false, false, false] (by kernel_rfl) rfl rfl ⟨(blk_cell BK259.out 0).trans rfl, (blk_cell BK259.out 1).trans rfl, ((HB.out.cell (World.block_lt_of_cell? w _ hw261_0)).trans hw261_0), ((HB.out.cell (World.block_lt_of_cell? w _ hw261_1)).trans hw261_1)⟩ (fun hHeld => ?_); refine with_tabW spec_keList.tab6 spec_keList.bits6 (fun HT_ HW_ => ?_)
                generalize w14.drew = w15 at BK259 HB HR261_1 hx261_0 hx261_1 hHeld ⊢
                refine take_ (i := 0) (N := some 15) (v := ?_) (a' := ?_) #[true, false, false, false, false, false, false, false, false, false, false] rfl rfl (take_ofW HT_.out HW_.out (by kernel_rfl)) (fun _ _ _ h => h) (Or.inl ⟨by rfl, ?_⟩) hHeld ?_ ?_
                rotate_left
                · rintro w' ⟨s0, s1, s2, s3⟩
                  go_simp
                  with_reducible rfl
                rotate_left
                · simp only [Act.put, List.setIfInBounds_toArray, List.set_cons_zero, List.set_cons_succ, i64_w, i32_w]
                  rfl
                refine one_ (i := 1) (N := some 16) #[true, true, false, false, false, false, false, false, false, false, false] rfl rfl (one_of HT_.out (by kernel_rfl)) (by decide) (fun K hK => ?_)
                refine goes_ Try.func36 (by kernel_rfl) rfl #[.agg #[.int .i64 ((rd_T24 l0 x11_1).f0), .slice A258_1 ((rd_T24 l0 x11_1).f1).length c258_1]] (by rfl) rfl rfl gL_ ?_
                with_reducible refine (spec_keGood.calls k1 ((rd_T24 l0 x11_1).f0) _ _ ((rd_T24 l0 x11_1).f1) true _ ?side1 ?side2 A7.out).mono ?_
                (case side1 => exact cB (Kd.C_below HR258_1.out HB.out))
                (case side2 => exact HC258_1.out)
                rintro e w16 ⟨rfl, hb⟩
                refine ⟨_, rfl, ?_⟩
                have n0_ := amk (blk_below (g := gb259) (o := .cells #[.int .i64 ((rd_T24 l0 x11_1).f0), .slice A258_1 ((rd_T24 l0 x11_1).f1).length c258_1] 24 (0, 0)) (kB BK259) hb)
                have n1_ := amk (bp_ bB hb)
                clear BK259
                clear HB
                have BK259 := n0_
                have HB := n1_
                clear n0_ n1_
                (try clear hb)
                (try clear hb2)
                (try clear hk)
                (try clear hi)
                refine hK.out _ _ ⟨(blk_cell BK259.out 0).trans rfl, (blk_cell BK259.out 1).trans rfl, ((HB.out.cell (World.block_lt_of_cell? w _ hw261_0)).trans hw261_0), ((HB.out.cell (World.block_lt_of_cell? w _ hw261_1)).trans hw261_1)⟩ (fun hHeld => ?_)
                clear hK K
                refine norm_ (a' := ?_) ?_ ?_
                rotate_left
                · show Act.put _ (some 16) _ = _
                  simp only [Act.put, List.setIfInBounds_toArray, List.set_cons_zero, List.set_cons_succ, i64_w, i32_w]
                  rfl
                refine pure_ (i := 2) (N := some 17) (v := ?_) (a' := ?_) #[true, true, true, false, false, false, false, false, false, false, false] rfl rfl (any_of HT_.out (by kernel_rfl)) (fun _ _ _ h => h) (Or.inl ⟨by rfl, ?_⟩) ?_ ?_
                rotate_left
                · intro w'
                  go_simp
                  with_reducible rfl
                rotate_left
                · simp only [Act.put, List.setIfInBounds_toArray, List.set_cons_zero, List.set_cons_succ, i64_w, i32_w]
                  rfl
                refine pure_ (i := 3) (N := some 18) (v := ?_) (a' := ?_) #[true, true, true, true, false, false, false, false, false, false, false] rfl rfl (any_of HT_.out (by kernel_rfl)) (fun _ _ _ h => h) (Or.inl ⟨by rfl, ?_⟩) ?_ ?_
                rotate_left
                · intro w'
                  go_simp
                  with_reducible rfl
                rotate_left
                · simp only [Act.put, List.setIfInBounds_toArray, List.set_cons_zero, List.set_cons_succ, i64_w, i32_w]
                  rfl
                refine pure_ (i := 5) (N := some 20) (v := ?_) (a' := ?_) #[true, true, true, true, false, true, false, false, false, false, false] rfl rfl (any_of HT_.out (by kernel_rfl)) (fun _ _ _ h => h) (Or.inl ⟨by rfl, ?_⟩) ?_ ?_
                rotate_left
                · intro w'
                  go_simp
                  with_reducible rfl
                rotate_left
                · simp only [Act.put, List.setIfInBounds_toArray, List.set_cons_zero, List.set_cons_succ, i64_w, i32_w]
                  rfl
                refine pure_ (i := 6) (N := some 21) (v := ?_) (a' := ?_) #[true, true, true, true, false, true, true, false, false, false, false] rfl rfl (any_of HT_.out (by kernel_rfl)) (fun _ _ _ h => h) (Or.inl ⟨by rfl, ?_⟩) ?_ ?_
                rotate_left
                · intro w'
                  go_simp
                  with_reducible rfl
                rotate_left
                · simp only [Act.put, List.setIfInBounds_toArray, List.set_cons_zero, List.set_cons_succ, i64_w, i32_w]
                  rfl
                refine take_ (i := 4) (N := some 19) (v := ?_) (a' := ?_) #[true, true, true, true, true, true, true, false, false, false, false] rfl rfl (take_ofW HT_.out HW_.out (by kernel_rfl)) (fun _ _ _ h => h) (Or.inl ⟨by rfl, ?_⟩) hHeld ?_ ?_
                rotate_left
                · rintro w' ⟨s0, s1, s2, s3⟩
                  go_simp
                  with_reducible rfl
                rotate_left
                · simp only [Act.put, List.setIfInBounds_toArray, List.set_cons_zero, List.set_cons_succ, i64_w, i32_w]
                  rfl
                refine take_ (i := 7) (N := some 22) (v := ?_) (a' := ?_) #[true, true, true, true, true, true, true, true, false, false, false] rfl rfl (take_ofW HT_.out HW_.out (by kernel_rfl)) (fun _ _ _ h => h) (Or.inl ⟨by rfl, ?_⟩) hHeld ?_ ?_
                rotate_left
                · rintro w' ⟨s0, s1, s2, s3⟩
                  go_simp
                  with_reducible rfl
                rotate_left
                · simp only [Act.put, List.setIfInBounds_toArray, List.set_cons_zero, List.set_cons_succ, i64_w, i32_w]
                  rfl
                refine one_ (i := 8) (N := some 23) #[true, true, true, true, true, true, true, true, true, false, false] rfl rfl (one_of HT_.out (by kernel_rfl)) (by decide) (fun K hK => ?_)
                refine goes_ Try.func53 (by kernel_rfl) rfl #[.agg #[.int .i64 ((rd_T24 l0 x11_1).f0), .slice A258_1 ((rd_T24 l0 x11_1).f1).length c258_1], .agg #[.int .i64 ((rd_T24 l0 0).f0), .slice A261_1 ((rd_T24 l0 0).f1).length c261_1]] (by rfl) rfl rfl gL_ ?_
                with_reducible refine (spec_keKind.calls ((rd_T24 l0 x11_1).f0) _ _ ((rd_T24 l0 x11_1).f1) ((rd_T24 l0 0).f0) _ _ ((rd_T24 l0 0).f1) true _ ?side1 ?side2 ?side3 ?side4 A10.out).mono ?_
                (case side1 => exact cB (Kd.C_below HR258_1.out HB.out))
                (case side2 => exact HC258_1.out)
                (case side3 => exact cB (Kd.C_below HR261_1.out HB.out))
                (case side4 => exact HC261_1.out)
                rintro e w17 ⟨rfl, hb⟩
                refine ⟨_, rfl, ?_⟩
                have n0_ := amk (blk_below (g := gb259) (o := .cells #[.int .i64 ((rd_T24 l0 x11_1).f0), .slice A258_1 ((rd_T24 l0 x11_1).f1).length c258_1] 24 (0, 0)) (kB BK259) hb)
                have n1_ := amk (bp_ bB hb)
                clear BK259
                clear HB
                have BK259 := n0_
                have HB := n1_
                clear n0_ n1_
                (try clear hb)
                (try clear hb2)
                (try clear hk)
                (try clear hi)
                refine hK.out _ _ ⟨(blk_cell BK259.out 0).trans rfl, (blk_cell BK259.out 1).trans rfl, ((HB.out.cell (World.block_lt_of_cell? w _ hw261_0)).trans hw261_0), ((HB.out.cell (World.block_lt_of_cell? w _ hw261_1)).trans hw261_1)⟩ (fun hHeld => ?_)
                clear hK K
                refine norm_ (a' := ?_) ?_ ?_
                rotate_left
                · show Act.put _ (some 23) _ = _
                  simp only [Act.put, List.setIfInBounds_toArray, List.set_cons_zero, List.set_cons_succ, i64_w, i32_w]
                  rfl
                refine pure_ (i := 9) (N := some 24) (v := ?_) (a' := ?_) #[true, true, true, true, true, true, true, true, true, true, false] rfl rfl (any_of HT_.out (by kernel_rfl)) (fun _ _ _ h => h) (Or.inl ⟨by rfl, ?_⟩) ?_ ?_
                rotate_left
                · intro w'
                  go_simp
                  with_reducible rfl
                rotate_left
                · simp only [Act.put, List.setIfInBounds_toArray, List.set_cons_zero, List.set_cons_succ, i64_w, i32_w]
                  rfl
                refine pure_ (i := 10) (N := some 25) (v := ?_) (a' := ?_) #[true, true, true, true, true, true, true, true, true, true, true] rfl rfl (any_of HT_.out (by kernel_rfl)) (fun _ _ _ h => h) (Or.inl ⟨by rfl, ?_⟩) ?_ ?_
                rotate_left
                · intro w'
                  go_simp
                  with_reducible rfl
                rotate_left
                · simp only [Act.put, List.setIfInBounds_toArray, List.set_cons_zero, List.set_cons_succ, i64_w, i32_w]
                  rfl
                refine done_ (done_of HT_.out (by kernel_rfl)) ?_
                try go_wp2
                go_roundg k1
                case measure => have := HK1.out; omega
                case rel => exact ⟨(wrap64 (x11_1 + 1)), rS_, H', ⟨by have := HK1.out; omega⟩, ⟨bB⟩⟩
              · obtain rfl := Option.some.inj H
                have p258 : 0 ≤ (x11_1 : Int) := dA_
                have q258 : x11_1 < (l0.length : Int) := dA_
                obtain ⟨ad258, A258_1, c258_1, e258, hx258_0, hx258_1, hl258_1, hi258_1⟩ := at_T24 HR0.out x11_1 p258 q258
                cases e258
                replace hx258_0 := (HB.out.cell (World.block_lt_of_cell? w _ hx258_0)).trans hx258_0
                replace hx258_1 := (HB.out.cell (World.block_lt_of_cell? w _ hx258_1)).trans hx258_1
                have HR258_1 := amk hi258_1
                have HC258_1 := amk hl258_1
                clear hi258_1 hl258_1
                replace p258 := eq_true p258
                replace q258 := eq_true q258
                try go_wp2_with (first | ((with_reducible refine gate_dst (N := 4) rfl ?_); refine boxE_ HB 4 #[.int .i64 0, .slice none 0 0] 24 ?_; clear HB; intro gb259 w18 HB BK259 GW259 GE259 hb; clear hb; obtain ⟨hcz19_0, hcz19_1, hfz19_0, hfz19_1, _⟩ := two_cells BK259.out))
                have n0_ : Aside0 (((w18.setCell ⟨gb259, 0, none⟩ (.int .i64 ((rd_T24 l0 x11_1).f0))).setCell ⟨gb259, 1, none⟩ (.slice A258_1 ((rd_T24 l0 x11_1).f1).length c258_1)).heap[gb259]? = some (.cells #[.int .i64 ((rd_T24 l0 x11_1).f0), .slice A258_1 ((rd_T24 l0 x11_1).f1).length c258_1] 24 (0, 0))) := ⟨by (with_reducible repeat (first | refine kn_ ?_ _ | refine blk_drew ?_ | refine ka_ ?_ _)); refine blk_put (cs := #[.int .i64 ((rd_T24 l0 x11_1).f0), .slice none 0 0]) ?_ 1 _ rfl; (with_reducible repeat (first | refine kn_ ?_ _ | refine blk_drew ?_ | refine ka_ ?_ _)); refine blk_put (cs := #[.int .i64 0, .slice none 0 0]) ?_ 0 _ rfl; (with_reducible repeat (first | refine kn_ ?_ _ | refine blk_drew ?_ | refine ka_ ?_ _)); exact BK259.out⟩
                have n1_ : Aside0 (Below w.heap.size w ((w18.setCell ⟨gb259, 0, none⟩ (.int .i64 ((rd_T24 l0 x11_1).f0))).setCell ⟨gb259, 1, none⟩ (.slice A258_1 ((rd_T24 l0 x11_1).f1).length c258_1))) := ⟨bB⟩
                (try clear BK259)
                (try clear HB)
                generalize ((w18.setCell ⟨gb259, 0, none⟩ (.int .i64 ((rd_T24 l0 x11_1).f0))).setCell ⟨gb259, 1, none⟩ (.slice A258_1 ((rd_T24 l0 x11_1).f1).length c258_1)) = w20 at n0_ n1_ ⊢
                have BK259 := n0_
                have HB := n1_
                clear n0_ n1_
                have n0_ := amk (blk_drew BK259.out)
                have n1_ := amk (bd_ HB.out)
                clear BK259
                clear HB
                have BK259 := n0_
                have HB := n1_
                clear n0_ n1_
                have p261 : 0 ≤ (0 : Int) := (by omega)
                have q261 : 0 < (l0.length : Int) := dA_
                obtain ⟨ad261, A261_1, c261_1, e261, hx261_0, hx261_1, hl261_1, hi261_1⟩ := at_T24 HR0.out 0 p261 q261
                have hw261_1 := hx261_1
                (try rw [show ((0 : Int)).toNat = 0 from rfl] at hw261_1)
                (try rw [show 0 * 2 = 0 from rfl] at hw261_1)
                (try rw [Addr.add_zero'] at hw261_1)
                have hw261_0 := hx261_0
                (try rw [show ((0 : Int)).toNat = 0 from rfl] at hw261_0)
                (try rw [show 0 * 2 = 0 from rfl] at hw261_0)
                (try rw [Addr.add_zero'] at hw261_0)
                obtain rfl : ad258 = ad261 := (by injection e261)
                have qi261 : (0 < l0.length) = True := eq_true (by omega)
                (try rw [show ((0 : Int)).toNat = 0 from rfl] at hx261_0)
                (try rw [show 0 * 2 = 0 from rfl] at hx261_0)
                (try rw [Addr.add_zero'] at hx261_0)
                (try rw [show ((0 : Int)).toNat = 0 from rfl] at hx261_1)
                (try rw [show 0 * 2 = 0 from rfl] at hx261_1)
                (try rw [Addr.add_zero'] at hx261_1)
                replace hx261_0 := (HB.out.cell (World.block_lt_of_cell? w _ hx261_0)).trans hx261_0
                replace hx261_1 := (HB.out.cell (World.block_lt_of_cell? w _ hx261_1)).trans hx261_1
                have HR261_1 := amk hi261_1
                have HC261_1 := amk hl261_1
                clear hi261_1 hl261_1
                replace p261 := eq_true p261
                replace q261 := eq_true q261
                refine start_ (n := 11) (S := fun w' => w'.cell? ⟨gb259, 0, none⟩ = some (.int .i64 ((rd_T24 l0 x11_1).f0)) ∧ w'.cell? ⟨gb259, 1, none⟩ = some (.slice A258_1 ((rd_T24 l0 x11_1).f1).length c258_1) ∧ w'.cell? ad258 = some (.int .i64 ((rd_T24 l0 0).f0)) ∧ w'.cell? ⟨ad258.block, ad258.off + 1, none⟩ = some (.slice A261_1 ((rd_T24 l0 0).f1).length c261_1)) (ds := []) #[false, false, false, false, false, false, false, false, false, false, false] (by kernel_rfl) rfl rfl ⟨(blk_cell BK259.out 0).trans rfl, (blk_cell BK259.out 1).trans rfl, ((HB.out.cell (World.block_lt_of_cell? w _ hw261_0)).trans hw261_0), ((HB.out.cell (World.block_lt_of_cell? w _ hw261_1)).trans hw261_1)⟩ (fun hHeld => ?_); refine with_tabW spec_keList.tab6 spec_keList.bits6 (fun HT_ HW_ => ?_)
                generalize w20.drew = w21 at BK259 HB HR261_1 hx261_0 hx261_1 hHeld ⊢
                refine take_ (i := 0) (N := some 15) (v := ?_) (a' := ?_) #[true, false, false, false, false, false, false, false, false, false, false] rfl rfl (take_ofW HT_.out HW_.out (by kernel_rfl)) (fun _ _ _ h => h) (Or.inl ⟨by rfl, ?_⟩) hHeld ?_ ?_
                rotate_left
                · rintro w' ⟨s0, s1, s2, s3⟩
                  go_simp
                  with_reducible rfl
                rotate_left
                · simp only [Act.put, List.setIfInBounds_toArray, List.set_cons_zero, List.set_cons_succ, i64_w, i32_w]
                  rfl
                refine one_ (i := 1) (N := some 16) #[true, true, false, false, false, false, false, false, false, false, false] rfl rfl (one_of HT_.out (by kernel_rfl)) (by decide) (fun K hK => ?_)
                refine goes_ Try.func36 (by kernel_rfl) rfl #[.agg #[.int .i64 ((rd_T24 l0 x11_1).f0), .slice A258_1 ((rd_T24 l0 x11_1).f1).length c258_1]] (by rfl) rfl rfl gL_ ?_
                with_reducible refine (spec_keGood.calls k1 ((rd_T24 l0 x11_1).f0) _ _ ((rd_T24 l0 x11_1).f1) true _ ?side1 ?side2 A7.out).mono ?_
                (case side1 => exact cB (Kd.C_below HR258_1.out HB.out))
                (case side2 => exact HC258_1.out)
                rintro e w22 ⟨rfl, hb⟩
                refine ⟨_, rfl, ?_⟩
                have n0_ := amk (blk_below (g := gb259) (o := .cells #[.int .i64 ((rd_T24 l0 x11_1).f0), .slice A258_1 ((rd_T24 l0 x11_1).f1).length c258_1] 24 (0, 0)) (kB BK259) hb)
                have n1_ := amk (bp_ bB hb)
                clear BK259
                clear HB
                have BK259 := n0_
                have HB := n1_
                clear n0_ n1_
                (try clear hb)
                (try clear hb2)
                (try clear hk)
                (try clear hi)
                refine hK.out _ _ ⟨(blk_cell BK259.out 0).trans rfl, (blk_cell BK259.out 1).trans rfl, ((HB.out.cell (World.block_lt_of_cell? w _ hw261_0)).trans hw261_0), ((HB.out.cell (World.block_lt_of_cell? w _ hw261_1)).trans hw261_1)⟩ (fun hHeld => ?_)
                clear hK K
                refine norm_ (a' := ?_) ?_ ?_
                rotate_left
                · show Act.put _ (some 16) _ = _
                  simp only [Act.put, List.setIfInBounds_toArray, List.set_cons_zero, List.set_cons_succ, i64_w, i32_w]
                  rfl
                refine pure_ (i := 2) (N := some 17) (v := ?_) (a' := ?_) #[true, true, true, false, false, false, false, false, false, false, false] rfl rfl (any_of HT_.out (by kernel_rfl)) (fun _ _ _ h => h) (Or.inl ⟨by rfl, ?_⟩) ?_ ?_
                rotate_left
                · intro w'
                  go_simp
                  with_reducible rfl
                rotate_left
                · simp only [Act.put, List.setIfInBounds_toArray, List.set_cons_zero, List.set_cons_succ, i64_w, i32_w]
                  rfl
                refine pure_ (i := 3) (N := some 18) (v := ?_) (a' := ?_) #[true, true, true, true, false, false, false, false, false, false, false] rfl rfl (any_of HT_.out (by kernel_rfl)) (fun _ _ _ h => h) (Or.inl ⟨by rfl, ?_⟩) ?_ ?_
                rotate_left
                · intro w'
                  go_simp
                  with_reducible rfl
                rotate_left
                · simp only [Act.put, List.setIfInBounds_toArray, List.set_cons_zero, List.set_cons_succ, i64_w, i32_w]
                  rfl
                refine pure_ (i := 5) (N := some 20) (v := ?_) (a' := ?_) #[true, true, true, true, false, true, false, false, false, false, false] rfl rfl (any_of HT_.out (by kernel_rfl)) (fun _ _ _ h => h) (Or.inl ⟨by rfl, ?_⟩) ?_ ?_
                rotate_left
                · intro w'
                  go_simp
                  with_reducible rfl
                rotate_left
                · simp only [Act.put, List.setIfInBounds_toArray, List.set_cons_zero, List.set_cons_succ, i64_w, i32_w]
                  rfl
                refine pure_ (i := 6) (N := some 21) (v := ?_) (a' := ?_) #[true, true, true, true, false, true, true, false, false, false, false] rfl rfl (any_of HT_.out (by kernel_rfl)) (fun _ _ _ h => h) (Or.inl ⟨by rfl, ?_⟩) ?_ ?_
                rotate_left
                · intro w'
                  go_simp
                  with_reducible rfl
                rotate_left
                · simp only [Act.put, List.setIfInBounds_toArray, List.set_cons_zero, List.set_cons_succ, i64_w, i32_w]
                  rfl
                refine take_ (i := 4) (N := some 19) (v := ?_) (a' := ?_) #[true, true, true, true, true, true, true, false, false, false, false] rfl rfl (take_ofW HT_.out HW_.out (by kernel_rfl)) (fun _ _ _ h => h) (Or.inl ⟨by rfl, ?_⟩) hHeld ?_ ?_
                rotate_left
                · rintro w' ⟨s0, s1, s2, s3⟩
                  go_simp
                  with_reducible rfl
                rotate_left
                · simp only [Act.put, List.setIfInBounds_toArray, List.set_cons_zero, List.set_cons_succ, i64_w, i32_w]
                  rfl
                refine take_ (i := 7) (N := some 22) (v := ?_) (a' := ?_) #[true, true, true, true, true, true, true, true, false, false, false] rfl rfl (take_ofW HT_.out HW_.out (by kernel_rfl)) (fun _ _ _ h => h) (Or.inl ⟨by rfl, ?_⟩) hHeld ?_ ?_
                rotate_left
                · rintro w' ⟨s0, s1, s2, s3⟩
                  go_simp
                  with_reducible rfl
                rotate_left
                · simp only [Act.put, List.setIfInBounds_toArray, List.set_cons_zero, List.set_cons_succ, i64_w, i32_w]
                  rfl
                refine one_ (i := 8) (N := some 23) #[true, true, true, true, true, true, true, true, true, false, false] rfl rfl (one_of HT_.out (by kernel_rfl)) (by decide) (fun K hK => ?_)
                refine goes_ Try.func53 (by kernel_rfl) rfl #[.agg #[.int .i64 ((rd_T24 l0 x11_1).f0), .slice A258_1 ((rd_T24 l0 x11_1).f1).length c258_1], .agg #[.int .i64 ((rd_T24 l0 0).f0), .slice A261_1 ((rd_T24 l0 0).f1).length c261_1]] (by rfl) rfl rfl gL_ ?_
                with_reducible refine (spec_keKind.calls ((rd_T24 l0 x11_1).f0) _ _ ((rd_T24 l0 x11_1).f1) ((rd_T24 l0 0).f0) _ _ ((rd_T24 l0 0).f1) false _ ?side1 ?side2 ?side3 ?side4 A10.out).mono ?_
                (case side1 => exact cB (Kd.C_below HR258_1.out HB.out))
                (case side2 => exact HC258_1.out)
                (case side3 => exact cB (Kd.C_below HR261_1.out HB.out))
                (case side4 => exact HC261_1.out)
                rintro e w23 ⟨rfl, hb⟩
                refine ⟨_, rfl, ?_⟩
                have n0_ := amk (blk_below (g := gb259) (o := .cells #[.int .i64 ((rd_T24 l0 x11_1).f0), .slice A258_1 ((rd_T24 l0 x11_1).f1).length c258_1] 24 (0, 0)) (kB BK259) hb)
                have n1_ := amk (bp_ bB hb)
                clear BK259
                clear HB
                have BK259 := n0_
                have HB := n1_
                clear n0_ n1_
                (try clear hb)
                (try clear hb2)
                (try clear hk)
                (try clear hi)
                refine hK.out _ _ ⟨(blk_cell BK259.out 0).trans rfl, (blk_cell BK259.out 1).trans rfl, ((HB.out.cell (World.block_lt_of_cell? w _ hw261_0)).trans hw261_0), ((HB.out.cell (World.block_lt_of_cell? w _ hw261_1)).trans hw261_1)⟩ (fun hHeld => ?_)
                clear hK K
                refine norm_ (a' := ?_) ?_ ?_
                rotate_left
                · show Act.put _ (some 23) _ = _
                  simp only [Act.put, List.setIfInBounds_toArray, List.set_cons_zero, List.set_cons_succ, i64_w, i32_w]
                  rfl
                refine pure_ (i := 9) (N := some 24) (v := ?_) (a' := ?_) #[true, true, true, true, true, true, true, true, true, true, false] rfl rfl (any_of HT_.out (by kernel_rfl)) (fun _ _ _ h => h) (Or.inl ⟨by rfl, ?_⟩) ?_ ?_
                rotate_left
                · intro w'
                  go_simp
                  with_reducible rfl
                rotate_left
                · simp only [Act.put, List.setIfInBounds_toArray, List.set_cons_zero, List.set_cons_succ, i64_w, i32_w]
                  rfl
                refine pure_ (i := 10) (N := some 25) (v := ?_) (a' := ?_) #[true, true, true, true, true, true, true, true, true, true, true] rfl rfl (any_of HT_.out (by kernel_rfl)) (fun _ _ _ h => h) (Or.inl ⟨by rfl, ?_⟩) ?_ ?_
                rotate_left
                · intro w'
                  go_simp
                  with_reducible rfl
                rotate_left
                · simp only [Act.put, List.setIfInBounds_toArray, List.set_cons_zero, List.set_cons_succ, i64_w, i32_w]
                  rfl
                refine done_ (done_of HT_.out (by kernel_rfl)) ?_
                try go_wp2
                go_ret
                exact ⟨rF_, bB⟩
            · rw [if_neg c9] at H
              exact absurd H (by simp)
          · obtain rfl := Option.some.inj H
            have p258 : 0 ≤ (x11_1 : Int) := dA_
            have q258 : x11_1 < (l0.length : Int) := dA_
            obtain ⟨ad258, A258_1, c258_1, e258, hx258_0, hx258_1, hl258_1, hi258_1⟩ := at_T24 HR0.out x11_1 p258 q258
            cases e258
            replace hx258_0 := (HB.out.cell (World.block_lt_of_cell? w _ hx258_0)).trans hx258_0
            replace hx258_1 := (HB.out.cell (World.block_lt_of_cell? w _ hx258_1)).trans hx258_1
            have HR258_1 := amk hi258_1
            have HC258_1 := amk hl258_1
            clear hi258_1 hl258_1
            replace p258 := eq_true p258
            replace q258 := eq_true q258
            try go_wp2_with (first | ((with_reducible refine gate_dst (N := 4) rfl ?_); refine boxE_ HB 4 #[.int .i64 0, .slice none 0 0] 24 ?_; clear HB; intro gb259 w24 HB BK259 GW259 GE259 hb; clear hb; obtain ⟨hcz25_0, hcz25_1, hfz25_0, hfz25_1, _⟩ := two_cells BK259.out))
            have n0_ : Aside0 (((w24.setCell ⟨gb259, 0, none⟩ (.int .i64 ((rd_T24 l0 x11_1).f0))).setCell ⟨gb259, 1, none⟩ (.slice A258_1 ((rd_T24 l0 x11_1).f1).length c258_1)).heap[gb259]? = some (.cells #[.int .i64 ((rd_T24 l0 x11_1).f0), .slice A258_1 ((rd_T24 l0 x11_1).f1).length c258_1] 24 (0, 0))) := ⟨by (with_reducible repeat (first | refine kn_ ?_ _ | refine blk_drew ?_ | refine ka_ ?_ _)); refine blk_put (cs := #[.int .i64 ((rd_T24 l0 x11_1).f0), .slice none 0 0]) ?_ 1 _ rfl; (with_reducible repeat (first | refine kn_ ?_ _ | refine blk_drew ?_ | refine ka_ ?_ _)); refine blk_put (cs := #[.int .i64 0, .slice none 0 0]) ?_ 0 _ rfl; (with_reducible repeat (first | refine kn_ ?_ _ | refine blk_drew ?_ | refine ka_ ?_ _)); exact BK259.out⟩
            have n1_ : Aside0 (Below w.heap.size w ((w24.setCell ⟨gb259, 0, none⟩ (.int .i64 ((rd_T24 l0 x11_1).f0))).setCell ⟨gb259, 1, none⟩ (.slice A258_1 ((rd_T24 l0 x11_1).f1).length c258_1))) := ⟨bB⟩
            (try clear BK259)
            (try clear HB)
            generalize ((w24.setCell ⟨gb259, 0, none⟩ (.int .i64 ((rd_T24 l0 x11_1).f0))).setCell ⟨gb259, 1, none⟩ (.slice A258_1 ((rd_T24 l0 x11_1).f1).length c258_1)) = w26 at n0_ n1_ ⊢
            have BK259 := n0_
            have HB := n1_
            clear n0_ n1_
            have n0_ := amk (blk_drew BK259.out)
            have n1_ := amk (bd_ HB.out)
            clear BK259
            clear HB
            have BK259 := n0_
            have HB := n1_
            clear n0_ n1_
            refine start_ (n := 11) (S := fun w' => w'.cell? ⟨gb259, 0, none⟩ = some (.int .i64 ((rd_T24 l0 x11_1).f0)) ∧ w'.cell? ⟨gb259, 1, none⟩ = some (.slice A258_1 ((rd_T24 l0 x11_1).f1).length c258_1)) (ds := []) #[false, false, false, false, false, false, false, false, false, false, false] (by kernel_rfl) rfl rfl ⟨(blk_cell BK259.out 0).trans rfl, (blk_cell BK259.out 1).trans rfl⟩ (fun hHeld => ?_); refine with_tabW spec_keList.tab6 spec_keList.bits6 (fun HT_ HW_ => ?_)
            generalize w26.drew = w27 at BK259 HB hHeld ⊢
            refine take_ (i := 0) (N := some 15) (v := ?_) (a' := ?_) #[true, false, false, false, false, false, false, false, false, false, false] rfl rfl (take_ofW HT_.out HW_.out (by kernel_rfl)) (fun _ _ _ h => h) (Or.inl ⟨by rfl, ?_⟩) hHeld ?_ ?_
            rotate_left
            · rintro w' ⟨s0, s1⟩
              go_simp
              with_reducible rfl
            rotate_left
            · simp only [Act.put, List.setIfInBounds_toArray, List.set_cons_zero, List.set_cons_succ, i64_w, i32_w]
              rfl
            refine one_ (i := 1) (N := some 16) #[true, true, false, false, false, false, false, false, false, false, false] rfl rfl (one_of HT_.out (by kernel_rfl)) (by decide) (fun K hK => ?_)
            refine goes_ Try.func36 (by kernel_rfl) rfl #[.agg #[.int .i64 ((rd_T24 l0 x11_1).f0), .slice A258_1 ((rd_T24 l0 x11_1).f1).length c258_1]] (by rfl) rfl rfl gL_ ?_
            with_reducible refine (spec_keGood.calls k1 ((rd_T24 l0 x11_1).f0) _ _ ((rd_T24 l0 x11_1).f1) false _ ?side1 ?side2 A7.out).mono ?_
            (case side1 => exact cB (Kd.C_below HR258_1.out HB.out))
            (case side2 => exact HC258_1.out)
            rintro e w28 ⟨rfl, hb⟩
            refine ⟨_, rfl, ?_⟩
            have n0_ := amk (blk_below (g := gb259) (o := .cells #[.int .i64 ((rd_T24 l0 x11_1).f0), .slice A258_1 ((rd_T24 l0 x11_1).f1).length c258_1] 24 (0, 0)) (kB BK259) hb)
            have n1_ := amk (bp_ bB hb)
            clear BK259
            clear HB
            have BK259 := n0_
            have HB := n1_
            clear n0_ n1_
            (try clear hb)
            (try clear hb2)
            (try clear hk)
            (try clear hi)
            refine hK.out _ _ ⟨(blk_cell BK259.out 0).trans rfl, (blk_cell BK259.out 1).trans rfl⟩ (fun hHeld => ?_)
            clear hK K
            refine norm_ (a' := ?_) ?_ ?_
            rotate_left
            · show Act.put _ (some 16) _ = _
              simp only [Act.put, List.setIfInBounds_toArray, List.set_cons_zero, List.set_cons_succ, i64_w, i32_w]
              rfl
            refine pure_ (i := 2) (N := some 17) (v := ?_) (a' := ?_) #[true, true, true, false, false, false, false, false, false, false, false] rfl rfl (any_of HT_.out (by kernel_rfl)) (fun _ _ _ h => h) (Or.inl ⟨by rfl, ?_⟩) ?_ ?_
            rotate_left
            · intro w'
              go_simp
              with_reducible rfl
            rotate_left
            · simp only [Act.put, List.setIfInBounds_toArray, List.set_cons_zero, List.set_cons_succ, i64_w, i32_w]
              rfl
            refine pure_ (i := 3) (N := some 18) (v := ?_) (a' := ?_) #[true, true, true, true, false, false, false, false, false, false, false] rfl rfl (any_of HT_.out (by kernel_rfl)) (fun _ _ _ h => h) (Or.inl ⟨by rfl, ?_⟩) ?_ ?_
            rotate_left
            · intro w'
              go_simp
              with_reducible rfl
            rotate_left
            · simp only [Act.put, List.setIfInBounds_toArray, List.set_cons_zero, List.set_cons_succ, i64_w, i32_w]
              rfl
            refine pure_ (i := 4) (N := some 19) (v := undef) (a' := ?_) #[true, true, true, true, true, false, false, false, false, false, false] rfl rfl (any_of HT_.out (by kernel_rfl)) (fun _ _ _ h => h) (Or.inr ⟨by rfl, rfl⟩) ?_ ?_
            rotate_left
            · simp only [Act.put, List.setIfInBounds_toArray, List.set_cons_zero, List.set_cons_succ, i64_w, i32_w]
              rfl
            refine pure_ (i := 5) (N := some 20) (v := undef) (a' := ?_) #[true, true, true, true, true, true, false, false, false, false, false] rfl rfl (any_of HT_.out (by kernel_rfl)) (fun _ _ _ h => h) (Or.inr ⟨by rfl, rfl⟩) ?_ ?_
            rotate_left
            · simp only [Act.put, List.setIfInBounds_toArray, List.set_cons_zero, List.set_cons_succ, i64_w, i32_w]
              rfl
            refine pure_ (i := 6) (N := some 21) (v := undef) (a' := ?_) #[true, true, true, true, true, true, true, false, false, false, false] rfl rfl (any_of HT_.out (by kernel_rfl)) (fun _ _ _ h => h) (Or.inr ⟨by rfl, rfl⟩) ?_ ?_
            rotate_left
            · simp only [Act.put, List.setIfInBounds_toArray, List.set_cons_zero, List.set_cons_succ, i64_w, i32_w]
              rfl
            refine pure_ (i := 7) (N := some 22) (v := undef) (a' := ?_) #[true, true, true, true, true, true, true, true, false, false, false] rfl rfl (any_of HT_.out (by kernel_rfl)) (fun _ _ _ h => h) (Or.inr ⟨by rfl, rfl⟩) ?_ ?_
            rotate_left
            · simp only [Act.put, List.setIfInBounds_toArray, List.set_cons_zero, List.set_cons_succ, i64_w, i32_w]
              rfl
            refine pure_ (i := 8) (N := some 23) (v := undef) (a' := ?_) #[true, true, true, true, true, true, true, true, true, false, false] rfl rfl (any_of HT_.out (by kernel_rfl)) (fun _ _ _ h => h) (Or.inr ⟨by rfl, rfl⟩) ?_ ?_
            rotate_left
            · simp only [Act.put, List.setIfInBounds_toArray, List.set_cons_zero, List.set_cons_succ, i64_w, i32_w]
              rfl
            refine pure_ (i := 9) (N := some 24) (v := undef) (a' := ?_) #[true, true, true, true, true, true, true, true, true, true, false] rfl rfl (any_of HT_.out (by kernel_rfl)) (fun _ _ _ h => h) (Or.inr ⟨by rfl, rfl⟩) ?_ ?_
            rotate_left
            · simp only [Act.put, List.setIfInBounds_toArray, List.set_cons_zero, List.set_cons_succ, i64_w, i32_w]
              rfl
            refine pure_ (i := 10) (N := some 25) (v := ?_) (a' := ?_) #[true, true, true, true, true, true, true, true, true, true, true] rfl rfl (any_of HT_.out (by kernel_rfl)) (fun _ _ _ h => h) (Or.inl ⟨by rfl, ?_⟩) ?_ ?_
            rotate_left
            · intro w'
              go_simp
              with_reducible rfl
            rotate_left
            · simp only [Act.put, List.setIfInBounds_toArray, List.set_cons_zero, List.set_cons_succ, i64_w, i32_w]
              rfl
            refine done_ (done_of HT_.out (by kernel_rfl)) ?_
            try go_wp2
            go_ret
            exact ⟨rF_, bB⟩
        · obtain rfl := Option.some.inj H
          go_wp2
          go_ret
          exact ⟨rF_, bB⟩
  · obtain rfl := Option.some.inj H
    go_enter Try.func49, Try.ntmps49
    go_wp2_with (first | (refine gc_ 63 7 Try.func63 #[.int .i64 (l0.length : Int), .int .i64 1, .int .i64 6] ?_; (with_reducible refine (spec_l1In.calls (l0.length : Int) 1 6 false _ A2.out).mono ?_); rintro e w' ⟨rfl, ⟨nd, rfl⟩⟩; refine ⟨_, rfl, ?_⟩))
    go_ret
    exact ⟨rF_, bB⟩
/-! ### spec_l1Has: function 66 -/
def spec_l1Has.l0 : Nat → Int → List Int → Int → Int → Option (Bool)
  | 0, _, _, _, _ => none
  | k + 1, x1, x7, x8, x9 => if x9 < x8 then (if 0 ≤ x9 then (if x9 < (x7.length : Int) then (if (rd x7 x9) = x1 then (some true) else (spec_l1Has.l0 k x1 x7 x8 (wrap64 (x9 + 1)))) else (none)) else (none)) else (some false)
def spec_l1Has.f (k : Nat) (l0 : List Int) (a1 : Int) : Option (Bool) := spec_l1Has.l0 k a1 l0 (l0.length : Int) 0
set_option maxHeartbeats 8000000 in
set_option maxRecDepth 100000 in
theorem spec_l1Has.calls (k : Nat) (A0 : Option Addr) (c0 : Nat) (l0 : List Int) (a1 : Int) (r : Bool) (w : World) (hr0 : Kd.C (Kd.int .i64) w A0 l0.length l0) (hc0 : l0.length ≤ c0) (h : spec_l1Has.f k l0 a1 = some r) :
    Calls Try.prog 66 #[.slice A0 l0.length c0, .int .i64 a1] w fun e w' => e = .returned (.bool r) ∧ Drawn0 w w' := by
  have HR0 := amk hr0
  have HC0 := amk hc0
  clear hr0 hc0
  have H : (spec_l1Has.l0 k a1 l0 (l0.length : Int) 0) = some r := h
  clear h
  have H' := amk H
  clear H
  go_enter Try.func66, Try.ntmps66
  go_wp2
  go_loopg [9] k (fun kq v9 w' => ∃ (x9_1 : Int), v9 = .int .i64 x9_1 ∧ Aside0 (spec_l1Has.l0 kq a1 l0 (l0.length : Int) x9_1 = some r) ∧ Aside0 (kq ≤ k) ∧ Drawn0 w w')
  case atStart => exact ⟨(0), rS_, H', ⟨Nat.le_refl _⟩, dR_⟩
  case round =>
    clear H'
    try clear p2
    obtain ⟨x9_1, rfl, HA, HK1, ⟨m1, rfl⟩⟩ := hrel
    cases gk with
    | zero => exact absurd HA.out (by simp [spec_l1Has.l0])
    | succ k1 =>
      have H := HA.out
      clear HA
      simp only [spec_l1Has.l0] at H
      replace H := iteE H; obtain ⟨c3b0, H⟩ | ⟨c3b0, H⟩ := H
      · replace H := iteN H; obtain ⟨c4b0, H⟩ := H
        replace H := iteN H; obtain ⟨c5b0, H⟩ := H
        by_cases c6 : (rd l0 x9_1) = a1
        · rw [if_pos c6] at H
          have c6b0 : ((rd l0 x9_1) == a1) = true := beq_iff_eq.mpr c6
          have c6b1 : ((rd l0 x9_1) != a1) = false := bne_eq_false_iff_eq.mpr c6
          clear c6
          obtain rfl := Option.some.inj H
          have p136 : 0 ≤ (x9_1 : Int) := dA_
          have q136 : x9_1 < (l0.length : Int) := dA_
          obtain ⟨ad136, e136, hx136_0⟩ := Kd.at_int HR0.out x9_1 p136 q136
          cases e136
          replace p136 := eq_true p136
          replace q136 := eq_true q136
          go_wp2
          go_ret
          exact ⟨rS_, dR_⟩
        · rw [if_neg c6] at H
          have c6b0 : ((rd l0 x9_1) == a1) = false := beq_eq_false_iff_ne.mpr c6
          have c6b1 : ((rd l0 x9_1) != a1) = true := bne_iff_ne.mpr c6
          have H' := amk H
          clear H
          have p136 : 0 ≤ (x9_1 : Int) := dA_
          have q136 : x9_1 < (l0.length : Int) := dA_
          obtain ⟨ad136, e136, hx136_0⟩ := Kd.at_int HR0.out x9_1 p136 q136
          cases e136
          replace p136 := eq_true p136
          replace q136 := eq_true q136
          go_wp2
          go_roundg k1
          case measure => have := HK1.out; omega
          case rel => exact ⟨(wrap64 (x9_1 + 1)), rS_, H', ⟨by have := HK1.out; omega⟩, dR_⟩
      · obtain rfl := Option.some.inj H
        go_wp2
        go_ret
        exact ⟨rS_, dR_⟩
end Go.Proofs.Ytcbeihidnodceaa.P