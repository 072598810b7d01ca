import Derived.Test.YtcbeihidnodceaaKFnKeysOpenA0
import Derived.Test.YtcbeihidnodceaaKFnKeysOpenA1
import Derived.RegionTactic
import Derived.BigRegion
import Derived.Laws.RangeString
namespace Go.Proofs.Ytcbeihidnodceaa.P
open Go.RowKit Go.Proofs.YtcbeihidnodceaaW.PrintWords Go.Proofs.YtcbeihidnodceaaW.PrintLast Go.Proofs.YtcbeihidnodceaaW.PrintMore
attribute [local go_sem] max2_int min2_int max_two min_two max_three min_three max_four min_four
set_option linter.unusedVariables false
set_option linter.unusedSimpArgs false
/-! ### spec_keJoin: function 54 -/
mutual
def spec_keJoin.l0 : Nat → Bool → List (List Int) → Int → Int → Int → List (List Int) → Int → List (List Int) → Int → List (List Int) → Option (Int × (List (List Int)))
  | 0, _, _, _, _, _, _, _, _, _, _ => none
  | k + 1, x2, x18, x19, x20, x264000, x264001, x265000, x265001, x267000, x267001 => if x20 < x19 then (if 0 ≤ x20 then (if x20 < (x18.length : Int) then (spec_keJoin.l1 k x2 x20 (rd_L1 x18 x20) ([] : List Int) 0 x18 x19 x20 x264000 x264001 x265000 x265001 x267000 x267001) else (none)) else (none)) else (some (x267000, x267001))
def spec_keJoin.l1 : Nat → Bool → Int → List Int → List Int → Int → List (List Int) → Int → Int → Int → List (List Int) → Int → List (List Int) → Int → List (List Int) → Option (Int × (List (List Int)))
  | 0, _, _, _, _, _, _, _, _, _, _, _, _, _, _ => none
  | k + 1, x2, x8, x9, x10, x11, x18, x19, x20, x264000, x264001, x265000, x265001, x267000, x267001 => if x11 < x264000 then ((spec_l1Has.f k x9 x11).bind fun t271 => (if 0 ≤ x8 then (if x8 < (x265001.length : Int) then ((spec_l1Has.f k (rd_L1 x265001 x8) x11).bind fun t273 => (if t271 = true then (if t273 = true then (if x10.length < 17592186044416 then (spec_keJoin.l1 k x2 x8 x9 (x10 ++ [x11]) (wrap64 (x11 + 1)) x18 x19 x20 x264000 x264001 x265000 x265001 x267000 x267001) else (none)) else (if x2 = true then (spec_keJoin.l1 k x2 x8 x9 x10 (wrap64 (x11 + 1)) x18 x19 x20 x264000 x264001 x265000 x265001 x267000 x267001) else (if x10.length < 17592186044416 then (spec_keJoin.l1 k x2 x8 x9 (x10 ++ [x11]) (wrap64 (x11 + 1)) x18 x19 x20 x264000 x264001 x265000 x265001 x267000 x267001) else (none)))) else (if x2 = true then (spec_keJoin.l1 k x2 x8 x9 x10 (wrap64 (x11 + 1)) x18 x19 x20 x264000 x264001 x265000 x265001 x267000 x267001) else (if t273 = true then (if x10.length < 17592186044416 then (spec_keJoin.l1 k x2 x8 x9 (x10 ++ [x11]) (wrap64 (x11 + 1)) x18 x19 x20 x264000 x264001 x265000 x265001 x267000 x267001) else (none)) else (spec_keJoin.l1 k x2 x8 x9 x10 (wrap64 (x11 + 1)) x18 x19 x20 x264000 x264001 x265000 x265001 x267000 x267001))))) else (none)) else (none))) else (if x267001.length < 5864062014805 then (spec_keJoin.l0 k x2 x18 x19 (wrap64 (x20 + 1)) x264000 x264001 x265000 x265001 x267000 (x267001 ++ [x10])) else (none))
end
def spec_keJoin.f (k : Nat) (a0_0 : Int) (l0_1 : List (List Int)) (a1_0 : Int) (l1_1 : List (List Int)) (a2 : Bool) : Option (Int × (List (List Int))) := spec_keJoin.l0 k a2 l0_1 (l0_1.length : Int) 0 a0_0 l0_1 a1_0 l1_1 a0_0 ([] : List (List Int))
set_option maxHeartbeats 8000000 in
set_option maxRecDepth 100000 in
theorem spec_keJoin.calls (k : Nat) (a0_0 : Int) (A0_1 : Option Addr) (c0_1 : Nat) (l0_1 : List (List Int)) (a1_0 : Int) (A1_1 : Option Addr) (c1_1 : Nat) (l1_1 : List (List Int)) (a2 : Bool) (r1 : Int) (r2 : List (List Int)) (w : World) (hr0_1 : Kd.C (Kd.slice 3 (Kd.int .i64)) w A0_1 l0_1.length l0_1) (hc0_1 : l0_1.length ≤ c0_1) (hr1_1 : Kd.C (Kd.slice 3 (Kd.int .i64)) w A1_1 l1_1.length l1_1) (hc1_1 : l1_1.length ≤ c1_1) (h : spec_keJoin.f k a0_0 l0_1 a1_0 l1_1 a2 = some (r1, r2)) :
    Calls Try.prog 54 #[.agg #[.int .i64 a0_0, .slice A0_1 l0_1.length c0_1], .agg #[.int .i64 a1_0, .slice A1_1 l1_1.length c1_1], .bool a2] w fun e w' => ∃ v1_ : Value, e = .returned (.agg #[.int .i64 r1, v1_]) ∧ Kd.S (Kd.slice 3 (Kd.int .i64)) 52 w' w.heap.size (fun _ => True) v1_ r2 ∧ Below w.heap.size w w' := by
  have hu24 := Try.underlying24
  have HR0_1 := amk hr0_1
  have HC0_1 := amk hc0_1
  clear hr0_1 hc0_1
  have HR1_1 := amk hr1_1
  have HC1_1 := amk hc1_1
  clear hr1_1 hc1_1
  have HB := amk (Below.refl w.heap.size w)
  have H : (spec_keJoin.l0 k a2 l0_1 (l0_1.length : Int) 0 a0_0 l0_1 a1_0 l1_1 a0_0 ([] : List (List Int))) = some (r1, r2) := h
  clear h
  have H' := amk H
  clear H
  go_enter Try.func54, Try.ntmps54
  go_wp2_with (first | ((with_reducible refine gate_dst (N := 3) rfl ?_); refine boxE_ HB 3 #[.int .i64 a0_0, .slice A0_1 l0_1.length c0_1] 24 ?_; clear HB; intro gb263 w4 HB BK263 GW263 GE263 hb; clear hb) | ((with_reducible refine gate_dst (N := 4) rfl ?_); refine boxG_ 4 #[.int .i64 a1_0, .slice A1_1 l1_1.length c1_1] 24 ?_; intro gb264 w5 hg BK264 hb; have GW264 := sZ HB hg; have GE264 := sZ HB hg; replace HB := hB2 HB hb; have NB263_264 := neL BK263 hg; have NB264_263 := neR BK263 hg; replace BK263 := kb2 BK263 hb; clear hb hg) | ((with_reducible refine gate_dst (N := 6) rfl ?_); refine boxG_ 6 #[.int .i64 0, .slice none 0 0] 24 ?_; intro gb265 w6 hg BK265 hb; have GW265 := sZ HB hg; have GE265 := sZ HB hg; replace HB := hB2 HB hb; have NB263_265 := neL BK263 hg; have NB265_263 := neR BK263 hg; replace BK263 := kb2 BK263 hb; have NB264_265 := neL BK264 hg; have NB265_264 := neR BK264 hg; replace BK264 := kb2 BK264 hb; clear hb hg; have hnb7 := NB263_264.out; have hnc7 := NB264_263.out; have hnb8 := NB263_265.out; have hnc8 := NB265_263.out; obtain ⟨hcz9_0, hcz9_1, hfz9_0, hfz9_1, _⟩ := two_cells BK263.out) | ((with_reducible refine gate_dst (N := 7) rfl ?_); refine boxG_ 7 #[.int .i64 0, .slice none 0 0] 24 ?_; intro gb266 w10 hg BK266 hb; have GW266 := sZ HB hg; have GE266 := sZ HB hg; replace HB := hB2 HB hb; have NB263_266 := neL BK263 hg; have NB266_263 := neR BK263 hg; replace BK263 := kb2 BK263 hb; have NB264_266 := neL BK264 hg; have NB266_264 := neR BK264 hg; replace BK264 := kb2 BK264 hb; have NB265_266 := neL BK265 hg; have NB266_265 := neR BK265 hg; replace BK265 := kb2 BK265 hb; clear hb hg; have hnb11 := NB266_263.out; have hnc11 := NB263_266.out; have hnb12 := NB266_264.out; have hnc12 := NB264_266.out; have hnb13 := NB266_265.out; have hnc13 := NB265_266.out; obtain ⟨hcz14_0, hcz14_1, hfz14_0, hfz14_1, _⟩ := two_cells BK266.out; obtain ⟨hcz15_0, hcz15_1, hfz15_0, hfz15_1, _⟩ := two_cells BK263.out))
  repeat (go_quiet (first | ((with_reducible refine gate_dst (N := 3) rfl ?_); refine boxE_ HB 3 #[.int .i64 a0_0, .slice A0_1 l0_1.length c0_1] 24 ?_; clear HB; intro gb263 w4 HB BK263 GW263 GE263 hb; clear hb) | ((with_reducible refine gate_dst (N := 4) rfl ?_); refine boxG_ 4 #[.int .i64 a1_0, .slice A1_1 l1_1.length c1_1] 24 ?_; intro gb264 w5 hg BK264 hb; have GW264 := sZ HB hg; have GE264 := sZ HB hg; replace HB := hB2 HB hb; have NB263_264 := neL BK263 hg; have NB264_263 := neR BK263 hg; replace BK263 := kb2 BK263 hb; clear hb hg) | ((with_reducible refine gate_dst (N := 6) rfl ?_); refine boxG_ 6 #[.int .i64 0, .slice none 0 0] 24 ?_; intro gb265 w6 hg BK265 hb; have GW265 := sZ HB hg; have GE265 := sZ HB hg; replace HB := hB2 HB hb; have NB263_265 := neL BK263 hg; have NB265_263 := neR BK263 hg; replace BK263 := kb2 BK263 hb; have NB264_265 := neL BK264 hg; have NB265_264 := neR BK264 hg; replace BK264 := kb2 BK264 hb; clear hb hg; have hnb7 := NB263_264.out; have hnc7 := NB264_263.out; have hnb8 := NB263_265.out; have hnc8 := NB265_263.out; obtain ⟨hcz9_0, hcz9_1, hfz9_0, hfz9_1, _⟩ := two_cells BK263.out) | ((with_reducible refine gate_dst (N := 7) rfl ?_); refine boxG_ 7 #[.int .i64 0, .slice none 0 0] 24 ?_; intro gb266 w10 hg BK266 hb; have GW266 := sZ HB hg; have GE266 := sZ HB hg; replace HB := hB2 HB hb; have NB263_266 := neL BK263 hg; have NB266_263 := neR BK263 hg; replace BK263 := kb2 BK263 hb; have NB264_266 := neL BK264 hg; have NB266_264 := neR BK264 hg; replace BK264 := kb2 BK264 hb; have NB265_266 := neL BK265 hg; have NB266_265 := neR BK265 hg; replace BK265 := kb2 BK265 hb; clear hb hg; have hnb11 := NB266_263.out; have hnc11 := NB263_266.out; have hnb12 := NB266_264.out; have hnc12 := NB264_266.out; have hnb13 := NB266_265.out; have hnc13 := NB265_266.out; obtain ⟨hcz14_0, hcz14_1, hfz14_0, hfz14_1, _⟩ := two_cells BK266.out; obtain ⟨hcz15_0, hcz15_1, hfz15_0, hfz15_1, _⟩ := two_cells BK263.out)); try go_wp2_with (first | ((with_reducible refine gate_dst (N := 3) rfl ?_); refine boxE_ HB 3 #[.int .i64 a0_0, .slice A0_1 l0_1.length c0_1] 24 ?_; clear HB; intro gb263 w4 HB BK263 GW263 GE263 hb; clear hb) | ((with_reducible refine gate_dst (N := 4) rfl ?_); refine boxG_ 4 #[.int .i64 a1_0, .slice A1_1 l1_1.length c1_1] 24 ?_; intro gb264 w5 hg BK264 hb; have GW264 := sZ HB hg; have GE264 := sZ HB hg; replace HB := hB2 HB hb; have NB263_264 := neL BK263 hg; have NB264_263 := neR BK263 hg; replace BK263 := kb2 BK263 hb; clear hb hg) | ((with_reducible refine gate_dst (N := 6) rfl ?_); refine boxG_ 6 #[.int .i64 0, .slice none 0 0] 24 ?_; intro gb265 w6 hg BK265 hb; have GW265 := sZ HB hg; have GE265 := sZ HB hg; replace HB := hB2 HB hb; have NB263_265 := neL BK263 hg; have NB265_263 := neR BK263 hg; replace BK263 := kb2 BK263 hb; have NB264_265 := neL BK264 hg; have NB265_264 := neR BK264 hg; replace BK264 := kb2 BK264 hb; clear hb hg; have hnb7 := NB263_264.out; have hnc7 := NB264_263.out; have hnb8 := NB263_265.out; have hnc8 := NB265_263.out; obtain ⟨hcz9_0, hcz9_1, hfz9_0, hfz9_1, _⟩ := two_cells BK263.out) | ((with_reducible refine gate_dst (N := 7) rfl ?_); refine boxG_ 7 #[.int .i64 0, .slice none 0 0] 24 ?_; intro gb266 w10 hg BK266 hb; have GW266 := sZ HB hg; have GE266 := sZ HB hg; replace HB := hB2 HB hb; have NB263_266 := neL BK263 hg; have NB266_263 := neR BK263 hg; replace BK263 := kb2 BK263 hb; have NB264_266 := neL BK264 hg; have NB266_264 := neR BK264 hg; replace BK264 := kb2 BK264 hb; have NB265_266 := neL BK265 hg; have NB266_265 := neR BK265 hg; replace BK265 := kb2 BK265 hb; clear hb hg; have hnb11 := NB266_263.out; have hnc11 := NB263_266.out; have hnb12 := NB266_264.out; have hnc12 := NB264_266.out; have hnb13 := NB266_265.out; have hnc13 := NB265_266.out; obtain ⟨hcz14_0, hcz14_1, hfz14_0, hfz14_1, _⟩ := two_cells BK266.out; obtain ⟨hcz15_0, hcz15_1, hfz15_0, hfz15_1, _⟩ := two_cells BK263.out)))
  go_loopg [20] k (fun kq v20 w' => ∃ (x20_1 : Int) (x267001_1 : List (List Int)) (u267001 : Value), v20 = .int .i64 x20_1 ∧ Aside0 (spec_keJoin.l0 kq a2 l0_1 (l0_1.length : Int) x20_1 a0_0 l0_1 a1_0 l1_1 a0_0 x267001_1 = some (r1, r2)) ∧ Aside0 (kq ≤ k) ∧ Aside0 (Kd.S (Kd.slice 3 (Kd.int .i64)) 52 w' w.heap.size (fun _ => True) u267001 x267001_1) ∧ Aside0 (w'.heap[gb263]? = some (.cells #[.int .i64 a0_0, (.slice A0_1 l0_1.length c0_1)] 24 (0, 0))) ∧ Aside0 (w'.heap[gb264]? = some (.cells #[.int .i64 a1_0, (.slice A1_1 l1_1.length c1_1)] 24 (0, 0))) ∧ Aside0 (w'.heap[gb265]? = some (.cells #[.int .i64 0, (.slice none 0 0)] 24 (0, 0))) ∧ Aside0 (w'.heap[gb266]? = some (.cells #[.int .i64 a0_0, u267001] 24 (0, 0))) ∧ Aside0 (Below w.heap.size w w'))
  case atStart => exact ⟨(0), (([] : List (List Int))), (.slice none 0 0), rS_, H', ⟨Nat.le_refl _⟩, ⟨xN_⟩, ⟨kB BK263⟩, ⟨kB BK264⟩, ⟨kB BK265⟩, ⟨by (with_reducible repeat (first | refine kn_ ?_ _ | refine blk_drew ?_ | refine ka_ ?_ _)); refine blk_put (cs := #[.int .i64 a0_0, .slice none 0 0]) ?_ 1 _ rfl; (with_reducible repeat (first | refine kn_ ?_ _ | refine blk_drew ?_ | refine ka_ ?_ _)); refine blk_put (cs := #[.int .i64 0, .slice none 0 0]) ?_ 0 _ rfl; (with_reducible repeat (first | refine kn_ ?_ _ | refine blk_drew ?_ | refine ka_ ?_ _)); exact BK266.out⟩, ⟨bB⟩⟩
  case round =>
    clear H'
    try clear c1; try clear p2; try clear c5; try clear c7; try clear c8; try clear c11; try clear c12; try clear c13; try clear hcz14_0; try clear hcz14_1; try clear hcz15_0; try clear hcz15_1; try clear hcz9_0; try clear hcz9_1; try clear hfz14_0; try clear hfz14_1; try clear hfz15_0; try clear hfz15_1; try clear hfz9_0; try clear hfz9_1
    obtain ⟨x20_1, x267001_1, u267001, rfl, HA, HK1, HO_267001, BK263, BK264, BK265, BK266, HB⟩ := hrel
    cases gk with
    | zero => exact absurd HA.out (by simp [spec_keJoin.l0])
    | succ k1 =>
      have H := HA.out
      clear HA
      simp only [spec_keJoin.l0] at H
      replace H := iteE H; obtain ⟨c16b0, H⟩ | ⟨c16b0, H⟩ := H
      · replace H := iteN H; obtain ⟨c17b0, H⟩ := H
        replace H := iteN H; obtain ⟨c18b0, H⟩ := H
        have H' := amk H
        clear H
        obtain ⟨p267, q267, ad267, A267_0, c267_0, e267, hx267_0, HC267_0, HR267_0⟩ := at_L1q HR0_1 HB x20_1
        cases e267
        go_wp2
        repeat (go_quiet (fail); try go_wp2)
        go_loopg [10, 11] k1 (fun kq v10 v11 w' => ∃ (x10_2 : List Int) (x11_2 : Int), v11 = .int .i64 x11_2 ∧ Aside0 (spec_keJoin.l1 kq a2 x20_1 (rd_L1 l0_1 x20_1) x10_2 x11_2 l0_1 (l0_1.length : Int) x20_1 a0_0 l0_1 a1_0 l1_1 a0_0 x267001_1 = some (r1, r2)) ∧ Aside0 (kq ≤ k1) ∧ Aside0 (Kd.R (Kd.int .i64) 3 w' w.heap.size (fun _ => True) v10 x10_2) ∧ Aside0 (Kd.S (Kd.slice 3 (Kd.int .i64)) 52 w' w.heap.size (fun k_ => some k_ ≠ (v10 : Value).ownBlock) u267001 x267001_1) ∧ Aside0 (w'.heap[gb263]? = some (.cells #[.int .i64 a0_0, (.slice (some ad267) l0_1.length c0_1)] 24 (0, 0))) ∧ Aside0 (w'.heap[gb264]? = some (.cells #[.int .i64 a1_0, (.slice A1_1 l1_1.length c1_1)] 24 (0, 0))) ∧ Aside0 (w'.heap[gb265]? = some (.cells #[.int .i64 0, (.slice none 0 0)] 24 (0, 0))) ∧ Aside0 (w'.heap[gb266]? = some (.cells #[.int .i64 a0_0, u267001] 24 (0, 0))) ∧ Aside0 (Below w.heap.size w w'))
        case atStart => exact ⟨(([] : List Int)), (0), rS_, H', ⟨Nat.le_refl _⟩, ⟨xN_⟩, ⟨by (with_reducible repeat (first | apply Kd.S_alloc | apply Kd.S_drewN | apply Kd.S_drew)); exact Kd.S_mono HO_267001.out (fun _ hk => (by simp [Value.ownBlock]))⟩, ⟨kB BK263⟩, ⟨kB BK264⟩, ⟨kB BK265⟩, ⟨kB BK266⟩, ⟨bB⟩⟩
        case round =>
          clear H'
          try clear c1; try clear c2; try clear p2; try clear q2; try clear hx2; try clear c5; try clear c7; try clear c8; try clear c11; try clear c12; try clear c13; try clear c16; try clear c16b0; try clear c17; try clear c17b0; try clear c18; try clear c18b0; try clear hcz14_0; try clear hcz14_1; try clear hcz15_0; try clear hcz15_1; try clear hcz9_0; try clear hcz9_1; try clear hfz14_0; try clear hfz14_1; try clear hfz15_0; try clear hfz15_1; try clear hfz9_0; try clear hfz9_1; try clear hx267_0; try clear p2; try clear p267; try clear q267
          obtain ⟨x10_2, x11_2, rfl, HA, HK2, HO_10, HO_267001, BK263, BK264, BK265, BK266, HB⟩ := hrel
          cases gk with
          | zero => exact absurd HA.out (by simp [spec_keJoin.l1])
          | succ k2 =>
            have H := HA.out
            clear HA
            simp only [spec_keJoin.l1] at H
            replace H := iteE H; obtain ⟨c19b0, H⟩ | ⟨c19b0, H⟩ := H
            · replace H := Option.bind_eq_some_iff.mp H
              obtain ⟨t271, A200, H⟩ := H
              replace H : (if 0 ≤ x20_1 then (if x20_1 < (l1_1.length : Int) then ((spec_l1Has.f k2 (rd_L1 l1_1 x20_1) x11_2).bind fun t273 => (if t271 = true then (if t273 = true then (if x10_2.length < 17592186044416 then (spec_keJoin.l1 k2 a2 x20_1 (rd_L1 l0_1 x20_1) (x10_2 ++ [x11_2]) (wrap64 (x11_2 + 1)) l0_1 (l0_1.length : Int) x20_1 a0_0 l0_1 a1_0 l1_1 a0_0 x267001_1) else (none)) else (if a2 = true then (spec_keJoin.l1 k2 a2 x20_1 (rd_L1 l0_1 x20_1) x10_2 (wrap64 (x11_2 + 1)) l0_1 (l0_1.length : Int) x20_1 a0_0 l0_1 a1_0 l1_1 a0_0 x267001_1) else (if x10_2.length < 17592186044416 then (spec_keJoin.l1 k2 a2 x20_1 (rd_L1 l0_1 x20_1) (x10_2 ++ [x11_2]) (wrap64 (x11_2 + 1)) l0_1 (l0_1.length : Int) x20_1 a0_0 l0_1 a1_0 l1_1 a0_0 x267001_1) else (none)))) else (if a2 = true then (spec_keJoin.l1 k2 a2 x20_1 (rd_L1 l0_1 x20_1) x10_2 (wrap64 (x11_2 + 1)) l0_1 (l0_1.length : Int) x20_1 a0_0 l0_1 a1_0 l1_1 a0_0 x267001_1) else (if t273 = true then (if x10_2.length < 17592186044416 then (spec_keJoin.l1 k2 a2 x20_1 (rd_L1 l0_1 x20_1) (x10_2 ++ [x11_2]) (wrap64 (x11_2 + 1)) l0_1 (l0_1.length : Int) x20_1 a0_0 l0_1 a1_0 l1_1 a0_0 x267001_1) else (none)) else (spec_keJoin.l1 k2 a2 x20_1 (rd_L1 l0_1 x20_1) x10_2 (wrap64 (x11_2 + 1)) l0_1 (l0_1.length : Int) x20_1 a0_0 l0_1 a1_0 l1_1 a0_0 x267001_1))))) else (none)) else (none)) = some (r1, r2) := H
              have A20 := amk A200
              clear A200
              replace H := iteN H; obtain ⟨c21b0, H⟩ := H
              replace H := iteN H; obtain ⟨c22b0, H⟩ := H
              replace H := bE H
              obtain ⟨t273, A23, H⟩ := H
              replace H := iteB H; obtain ⟨rfl, H⟩ | ⟨rfl, H⟩ := H
              · replace H := iteB H; obtain ⟨rfl, H⟩ | ⟨rfl, H⟩ := H
                · by_cases c26 : x10_2.length < 17592186044416
                  · rw [if_pos c26] at H
                    have LMc26 := amk c26
                    clear c26
                    obtain ⟨y274, hy274⟩ : ∃ y_ : List Int, y_ = (x10_2 ++ [x11_2]) := ⟨_, rfl⟩
                    replace H : (spec_keJoin.l1 k2 a2 x20_1 (rd_L1 l0_1 x20_1) y274 (wrap64 (x11_2 + 1)) l0_1 (l0_1.length : Int) x20_1 a0_0 l0_1 a1_0 l1_1 a0_0 x267001_1) = some (r1, r2) := by first | (rw [hy274]; with_reducible exact H) | (have H2_ := (Option.bind_some _ _).symm.trans H; rw [hy274]; with_reducible exact H2_) | (have H2_ := (Option.bind_some _ _).symm.trans H; with_reducible exact H2_) | with_reducible exact H | (rw [hy274]; exact H) | exact H
                    have Ny274 := amk hy274
                    clear hy274
                    have H' := amk H
                    clear H
                    have hnb27 := NB263_264.out
                    have hnc27 := NB264_263.out
                    have hnb28 := NB263_265.out
                    have hnc28 := NB265_263.out
                    have hnb29 := NB263_266.out
                    have hnc29 := NB266_263.out
                    obtain ⟨hcz30_0, hcz30_1, hfz30_0, hfz30_1, _⟩ := two_cells BK263.out
                    go_wp2_with (first | (go_at_call 66; (with_reducible refine (spec_l1Has.calls k2 _ _ (rd_L1 l0_1 x20_1) x11_2 true _ ?_ ?_ A20.out).mono ?_); exact cB (Kd.C_below HR267_0.out HB.out); exact HC267_0.out; rintro e w' ⟨rfl, ⟨nd, rfl⟩⟩; (try exact dN_); have hnb31 := NB264_265.out; have hnc31 := NB265_264.out; have hnb32 := NB264_266.out; have hnc32 := NB266_264.out; obtain ⟨hcz33_0, hcz33_1, hfz33_0, hfz33_1, _⟩ := two_cells BK264.out; obtain ⟨p272, q272, ad272, A272_0, c272_0, e272, hx272_0, HC272_0, HR272_0⟩ := at_L1q HR1_1 HB x20_1; cases e272) | (go_at_call 66; (with_reducible refine (spec_l1Has.calls k2 _ _ (rd_L1 l1_1 x20_1) x11_2 true _ ?_ ?_ A23.out).mono ?_); exact cB (Kd.C_below HR272_0.out bB); exact HC272_0.out; rintro e w' ⟨rfl, ⟨nd, rfl⟩⟩; (try exact dN_)) | ((with_reducible refine gate_builtin (b := .append) (xs := #[.tmp 55, .tmp 57]) rfl ?_); at_builtin; refine Kd.R_append (Kd.int .i64) (w0 := w) w.heap.size rfl (.tmp 55) (.tmp 57) 52 3 (.int .i64 0) 8 rfl Try.underlying52 info3 rfl (by decide) (by omega) u10 x10_2 x11_2 [.int .i64 x11_2] (fun _ => True) (fun _ => False) rfl rfl rfl (fun _ hk => hk.elim) (fun _ _ => trivial) (oX HO_10) bB (below_size bB) (by have := LMc26.out; omega) ?_; intro v275 w34 ho hb hg hat; rw [← Ny274.out] at ho; replace HO_267001 := amk (Kd.S_after (ok := (fun _ => True)) (by (with_reducible repeat (first | apply Kd.S_alloc | apply Kd.S_drewN | apply Kd.S_drew)); exact Kd.S_mono HO_267001.out (fun _ hk => ⟨trivial, hk⟩)) hg hat); replace BK263 := bG BK263 hg (Kd.R_ne HO_10.out BK263.out (by decide)); replace BK264 := bG BK264 hg (Kd.R_ne HO_10.out BK264.out (by decide)); replace BK265 := bG BK265 hg (Kd.R_ne HO_10.out BK265.out (by decide)); replace BK266 := bG BK266 hg (Kd.R_ne HO_10.out BK266.out (by decide)); replace HB := amk (hb); have HO276 := amk (ho); clear HO_10; clear ho hb hg hat))
                    repeat (go_quiet (first | (go_at_call 66; (with_reducible refine (spec_l1Has.calls k2 _ _ (rd_L1 l0_1 x20_1) x11_2 true _ ?_ ?_ A20.out).mono ?_); exact cB (Kd.C_below HR267_0.out HB.out); exact HC267_0.out; rintro e w' ⟨rfl, ⟨nd, rfl⟩⟩; (try exact dN_); have hnb31 := NB264_265.out; have hnc31 := NB265_264.out; have hnb32 := NB264_266.out; have hnc32 := NB266_264.out; obtain ⟨hcz33_0, hcz33_1, hfz33_0, hfz33_1, _⟩ := two_cells BK264.out; obtain ⟨p272, q272, ad272, A272_0, c272_0, e272, hx272_0, HC272_0, HR272_0⟩ := at_L1q HR1_1 HB x20_1; cases e272) | (go_at_call 66; (with_reducible refine (spec_l1Has.calls k2 _ _ (rd_L1 l1_1 x20_1) x11_2 true _ ?_ ?_ A23.out).mono ?_); exact cB (Kd.C_below HR272_0.out bB); exact HC272_0.out; rintro e w' ⟨rfl, ⟨nd, rfl⟩⟩; (try exact dN_)) | ((with_reducible refine gate_builtin (b := .append) (xs := #[.tmp 55, .tmp 57]) rfl ?_); at_builtin; refine Kd.R_append (Kd.int .i64) (w0 := w) w.heap.size rfl (.tmp 55) (.tmp 57) 52 3 (.int .i64 0) 8 rfl Try.underlying52 info3 rfl (by decide) (by omega) u10 x10_2 x11_2 [.int .i64 x11_2] (fun _ => True) (fun _ => False) rfl rfl rfl (fun _ hk => hk.elim) (fun _ _ => trivial) (oX HO_10) bB (below_size bB) (by have := LMc26.out; omega) ?_; intro v275 w34 ho hb hg hat; rw [← Ny274.out] at ho; replace HO_267001 := amk (Kd.S_after (ok := (fun _ => True)) (by (with_reducible repeat (first | apply Kd.S_alloc | apply Kd.S_drewN | apply Kd.S_drew)); exact Kd.S_mono HO_267001.out (fun _ hk => ⟨trivial, hk⟩)) hg hat); replace BK263 := bG BK263 hg (Kd.R_ne HO_10.out BK263.out (by decide)); replace BK264 := bG BK264 hg (Kd.R_ne HO_10.out BK264.out (by decide)); replace BK265 := bG BK265 hg (Kd.R_ne HO_10.out BK265.out (by decide)); replace BK266 := bG BK266 hg (Kd.R_ne HO_10.out BK266.out (by decide)); replace HB := amk (hb); have HO276 := amk (ho); clear HO_10; clear ho hb hg hat)); try go_wp2_with (first | (go_at_call 66; (with_reducible refine (spec_l1Has.calls k2 _ _ (rd_L1 l0_1 x20_1) x11_2 true _ ?_ ?_ A20.out).mono ?_); exact cB (Kd.C_below HR267_0.out HB.out); exact HC267_0.out; rintro e w' ⟨rfl, ⟨nd, rfl⟩⟩; (try exact dN_); have hnb31 := NB264_265.out; have hnc31 := NB265_264.out; have hnb32 := NB264_266.out; have hnc32 := NB266_264.out; obtain ⟨hcz33_0, hcz33_1, hfz33_0, hfz33_1, _⟩ := two_cells BK264.out; obtain ⟨p272, q272, ad272, A272_0, c272_0, e272, hx272_0, HC272_0, HR272_0⟩ := at_L1q HR1_1 HB x20_1; cases e272) | (go_at_call 66; (with_reducible refine (spec_l1Has.calls k2 _ _ (rd_L1 l1_1 x20_1) x11_2 true _ ?_ ?_ A23.out).mono ?_); exact cB (Kd.C_below HR272_0.out bB); exact HC272_0.out; rintro e w' ⟨rfl, ⟨nd, rfl⟩⟩; (try exact dN_)) | ((with_reducible refine gate_builtin (b := .append) (xs := #[.tmp 55, .tmp 57]) rfl ?_); at_builtin; refine Kd.R_append (Kd.int .i64) (w0 := w) w.heap.size rfl (.tmp 55) (.tmp 57) 52 3 (.int .i64 0) 8 rfl Try.underlying52 info3 rfl (by decide) (by omega) u10 x10_2 x11_2 [.int .i64 x11_2] (fun _ => True) (fun _ => False) rfl rfl rfl (fun _ hk => hk.elim) (fun _ _ => trivial) (oX HO_10) bB (below_size bB) (by have := LMc26.out; omega) ?_; intro v275 w34 ho hb hg hat; rw [← Ny274.out] at ho; replace HO_267001 := amk (Kd.S_after (ok := (fun _ => True)) (by (with_reducible repeat (first | apply Kd.S_alloc | apply Kd.S_drewN | apply Kd.S_drew)); exact Kd.S_mono HO_267001.out (fun _ hk => ⟨trivial, hk⟩)) hg hat); replace BK263 := bG BK263 hg (Kd.R_ne HO_10.out BK263.out (by decide)); replace BK264 := bG BK264 hg (Kd.R_ne HO_10.out BK264.out (by decide)); replace BK265 := bG BK265 hg (Kd.R_ne HO_10.out BK265.out (by decide)); replace BK266 := bG BK266 hg (Kd.R_ne HO_10.out BK266.out (by decide)); replace HB := amk (hb); have HO276 := amk (ho); clear HO_10; clear ho hb hg hat)))
                    go_roundg k2
                    case measure => have := HK1.out; have := HK2.out; omega
                    case rel => exact ⟨(y274), (wrap64 (x11_2 + 1)), rS_, H', ⟨by have := HK1.out; have := HK2.out; omega⟩, ⟨oX HO276⟩, ⟨by (with_reducible repeat (first | apply Kd.S_alloc | apply Kd.S_drewN | apply Kd.S_drew)); exact Kd.S_mono HO_267001.out (fun _ hk => hk.2)⟩, ⟨kB BK263⟩, ⟨kB BK264⟩, ⟨kB BK265⟩, ⟨kB BK266⟩, ⟨bB⟩⟩
                  · rw [if_neg c26] at H
                    exact absurd H (by simp)
                · replace H := iteB H; obtain ⟨rfl, H⟩ | ⟨rfl, H⟩ := H
                  · have H' := amk H
                    clear H
                    have hnb36 := NB263_264.out
                    have hnc36 := NB264_263.out
                    have hnb37 := NB263_265.out
                    have hnc37 := NB265_263.out
                    have hnb38 := NB263_266.out
                    have hnc38 := NB266_263.out
                    obtain ⟨hcz39_0, hcz39_1, hfz39_0, hfz39_1, _⟩ := two_cells BK263.out
                    go_wp2_with (first | (go_at_call 66; (with_reducible refine (spec_l1Has.calls k2 _ _ (rd_L1 l0_1 x20_1) x11_2 true _ ?_ ?_ A20.out).mono ?_); exact cB (Kd.C_below HR267_0.out HB.out); exact HC267_0.out; rintro e w' ⟨rfl, ⟨nd, rfl⟩⟩; (try exact dN_); have hnb40 := NB264_265.out; have hnc40 := NB265_264.out; have hnb41 := NB264_266.out; have hnc41 := NB266_264.out; obtain ⟨hcz42_0, hcz42_1, hfz42_0, hfz42_1, _⟩ := two_cells BK264.out; obtain ⟨p272, q272, ad272, A272_0, c272_0, e272, hx272_0, HC272_0, HR272_0⟩ := at_L1q HR1_1 HB x20_1; cases e272) | (go_at_call 66; (with_reducible refine (spec_l1Has.calls k2 _ _ (rd_L1 l1_1 x20_1) x11_2 false _ ?_ ?_ A23.out).mono ?_); exact cB (Kd.C_below HR272_0.out bB); exact HC272_0.out; rintro e w' ⟨rfl, ⟨nd, rfl⟩⟩; (try exact dN_)))
                    repeat (go_quiet (first | (go_at_call 66; (with_reducible refine (spec_l1Has.calls k2 _ _ (rd_L1 l0_1 x20_1) x11_2 true _ ?_ ?_ A20.out).mono ?_); exact cB (Kd.C_below HR267_0.out HB.out); exact HC267_0.out; rintro e w' ⟨rfl, ⟨nd, rfl⟩⟩; (try exact dN_); have hnb40 := NB264_265.out; have hnc40 := NB265_264.out; have hnb41 := NB264_266.out; have hnc41 := NB266_264.out; obtain ⟨hcz42_0, hcz42_1, hfz42_0, hfz42_1, _⟩ := two_cells BK264.out; obtain ⟨p272, q272, ad272, A272_0, c272_0, e272, hx272_0, HC272_0, HR272_0⟩ := at_L1q HR1_1 HB x20_1; cases e272) | (go_at_call 66; (with_reducible refine (spec_l1Has.calls k2 _ _ (rd_L1 l1_1 x20_1) x11_2 false _ ?_ ?_ A23.out).mono ?_); exact cB (Kd.C_below HR272_0.out bB); exact HC272_0.out; rintro e w' ⟨rfl, ⟨nd, rfl⟩⟩; (try exact dN_))); try go_wp2_with (first | (go_at_call 66; (with_reducible refine (spec_l1Has.calls k2 _ _ (rd_L1 l0_1 x20_1) x11_2 true _ ?_ ?_ A20.out).mono ?_); exact cB (Kd.C_below HR267_0.out HB.out); exact HC267_0.out; rintro e w' ⟨rfl, ⟨nd, rfl⟩⟩; (try exact dN_); have hnb40 := NB264_265.out; have hnc40 := NB265_264.out; have hnb41 := NB264_266.out; have hnc41 := NB266_264.out; obtain ⟨hcz42_0, hcz42_1, hfz42_0, hfz42_1, _⟩ := two_cells BK264.out; obtain ⟨p272, q272, ad272, A272_0, c272_0, e272, hx272_0, HC272_0, HR272_0⟩ := at_L1q HR1_1 HB x20_1; cases e272) | (go_at_call 66; (with_reducible refine (spec_l1Has.calls k2 _ _ (rd_L1 l1_1 x20_1) x11_2 false _ ?_ ?_ A23.out).mono ?_); exact cB (Kd.C_below HR272_0.out bB); exact HC272_0.out; rintro e w' ⟨rfl, ⟨nd, rfl⟩⟩; (try exact dN_))))
                    go_roundg k2
                    case measure => have := HK1.out; have := HK2.out; omega
                    case rel => exact ⟨(x10_2), (wrap64 (x11_2 + 1)), rS_, H', ⟨by have := HK1.out; have := HK2.out; omega⟩, ⟨oX HO_10⟩, ⟨oX HO_267001⟩, ⟨kB BK263⟩, ⟨kB BK264⟩, ⟨kB BK265⟩, ⟨kB BK266⟩, ⟨bB⟩⟩
                  · by_cases c43 : x10_2.length < 17592186044416
                    · rw [if_pos c43] at H
                      have LMc43 := amk c43
                      clear c43
                      obtain ⟨y277, hy277⟩ : ∃ y_ : List Int, y_ = (x10_2 ++ [x11_2]) := ⟨_, rfl⟩
                      replace H : (spec_keJoin.l1 k2 false x20_1 (rd_L1 l0_1 x20_1) y277 (wrap64 (x11_2 + 1)) l0_1 (l0_1.length : Int) x20_1 a0_0 l0_1 a1_0 l1_1 a0_0 x267001_1) = some (r1, r2) := by first | (rw [hy277]; with_reducible exact H) | (have H2_ := (Option.bind_some _ _).symm.trans H; rw [hy277]; with_reducible exact H2_) | (have H2_ := (Option.bind_some _ _).symm.trans H; with_reducible exact H2_) | with_reducible exact H | (rw [hy277]; exact H) | exact H
                      have Ny277 := amk hy277
                      clear hy277
                      have H' := amk H
                      clear H
                      have hnb44 := NB263_264.out
                      have hnc44 := NB264_263.out
                      have hnb45 := NB263_265.out
                      have hnc45 := NB265_263.out
                      have hnb46 := NB263_266.out
                      have hnc46 := NB266_263.out
                      obtain ⟨hcz47_0, hcz47_1, hfz47_0, hfz47_1, _⟩ := two_cells BK263.out
                      go_wp2_with (first | (go_at_call 66; (with_reducible refine (spec_l1Has.calls k2 _ _ (rd_L1 l0_1 x20_1) x11_2 true _ ?_ ?_ A20.out).mono ?_); exact cB (Kd.C_below HR267_0.out HB.out); exact HC267_0.out; rintro e w' ⟨rfl, ⟨nd, rfl⟩⟩; (try exact dN_); have hnb48 := NB264_265.out; have hnc48 := NB265_264.out; have hnb49 := NB264_266.out; have hnc49 := NB266_264.out; obtain ⟨hcz50_0, hcz50_1, hfz50_0, hfz50_1, _⟩ := two_cells BK264.out; obtain ⟨p272, q272, ad272, A272_0, c272_0, e272, hx272_0, HC272_0, HR272_0⟩ := at_L1q HR1_1 HB x20_1; cases e272) | (go_at_call 66; (with_reducible refine (spec_l1Has.calls k2 _ _ (rd_L1 l1_1 x20_1) x11_2 false _ ?_ ?_ A23.out).mono ?_); exact cB (Kd.C_below HR272_0.out bB); exact HC272_0.out; rintro e w' ⟨rfl, ⟨nd, rfl⟩⟩; (try exact dN_)) | ((with_reducible refine gate_builtin (b := .append) (xs := #[.tmp 55, .tmp 57]) rfl ?_); at_builtin; refine Kd.R_append (Kd.int .i64) (w0 := w) w.heap.size rfl (.tmp 55) (.tmp 57) 52 3 (.int .i64 0) 8 rfl Try.underlying52 info3 rfl (by decide) (by omega) u10 x10_2 x11_2 [.int .i64 x11_2] (fun _ => True) (fun _ => False) rfl rfl rfl (fun _ hk => hk.elim) (fun _ _ => trivial) (oX HO_10) bB (below_size bB) (by have := LMc43.out; omega) ?_; intro v278 w51 ho hb hg hat; rw [← Ny277.out] at ho; replace HO_267001 := amk (Kd.S_after (ok := (fun _ => True)) (by (with_reducible repeat (first | apply Kd.S_alloc | apply Kd.S_drewN | apply Kd.S_drew)); exact Kd.S_mono HO_267001.out (fun _ hk => ⟨trivial, hk⟩)) hg hat); replace BK263 := bG BK263 hg (Kd.R_ne HO_10.out BK263.out (by decide)); replace BK264 := bG BK264 hg (Kd.R_ne HO_10.out BK264.out (by decide)); replace BK265 := bG BK265 hg (Kd.R_ne HO_10.out BK265.out (by decide)); replace BK266 := bG BK266 hg (Kd.R_ne HO_10.out BK266.out (by decide)); replace HB := amk (hb); have HO279 := amk (ho); clear HO_10; clear ho hb hg hat))
                      repeat (go_quiet (first | (go_at_call 66; (with_reducible refine (spec_l1Has.calls k2 _ _ (rd_L1 l0_1 x20_1) x11_2 true _ ?_ ?_ A20.out).mono ?_); exact cB (Kd.C_below HR267_0.out HB.out); exact HC267_0.out; rintro e w' ⟨rfl, ⟨nd, rfl⟩⟩; (try exact dN_); have hnb48 := NB264_265.out; have hnc48 := NB265_264.out; have hnb49 := NB264_266.out; have hnc49 := NB266_264.out; obtain ⟨hcz50_0, hcz50_1, hfz50_0, hfz50_1, _⟩ := two_cells BK264.out; obtain ⟨p272, q272, ad272, A272_0, c272_0, e272, hx272_0, HC272_0, HR272_0⟩ := at_L1q HR1_1 HB x20_1; cases e272) | (go_at_call 66; (with_reducible refine (spec_l1Has.calls k2 _ _ (rd_L1 l1_1 x20_1) x11_2 false _ ?_ ?_ A23.out).mono ?_); exact cB (Kd.C_below HR272_0.out bB); exact HC272_0.out; rintro e w' ⟨rfl, ⟨nd, rfl⟩⟩; (try exact dN_)) | ((with_reducible refine gate_builtin (b := .append) (xs := #[.tmp 55, .tmp 57]) rfl ?_); at_builtin; refine Kd.R_append (Kd.int .i64) (w0 := w) w.heap.size rfl (.tmp 55) (.tmp 57) 52 3 (.int .i64 0) 8 rfl Try.underlying52 info3 rfl (by decide) (by omega) u10 x10_2 x11_2 [.int .i64 x11_2] (fun _ => True) (fun _ => False) rfl rfl rfl (fun _ hk => hk.elim) (fun _ _ => trivial) (oX HO_10) bB (below_size bB) (by have := LMc43.out; omega) ?_; intro v278 w51 ho hb hg hat; rw [← Ny277.out] at ho; replace HO_267001 := amk (Kd.S_after (ok := (fun _ => True)) (by (with_reducible repeat (first | apply Kd.S_alloc | apply Kd.S_drewN | apply Kd.S_drew)); exact Kd.S_mono HO_267001.out (fun _ hk => ⟨trivial, hk⟩)) hg hat); replace BK263 := bG BK263 hg (Kd.R_ne HO_10.out BK263.out (by decide)); replace BK264 := bG BK264 hg (Kd.R_ne HO_10.out BK264.out (by decide)); replace BK265 := bG BK265 hg (Kd.R_ne HO_10.out BK265.out (by decide)); replace BK266 := bG BK266 hg (Kd.R_ne HO_10.out BK266.out (by decide)); replace HB := amk (hb); have HO279 := amk (ho); clear HO_10; clear ho hb hg hat)); try go_wp2_with (first | (go_at_call 66; (with_reducible refine (spec_l1Has.calls k2 _ _ (rd_L1 l0_1 x20_1) x11_2 true _ ?_ ?_ A20.out).mono ?_); exact cB (Kd.C_below HR267_0.out HB.out); exact HC267_0.out; rintro e w' ⟨rfl, ⟨nd, rfl⟩⟩; (try exact dN_); have hnb48 := NB264_265.out; have hnc48 := NB265_264.out; have hnb49 := NB264_266.out; have hnc49 := NB266_264.out; obtain ⟨hcz50_0, hcz50_1, hfz50_0, hfz50_1, _⟩ := two_cells BK264.out; obtain ⟨p272, q272, ad272, A272_0, c272_0, e272, hx272_0, HC272_0, HR272_0⟩ := at_L1q HR1_1 HB x20_1; cases e272) | (go_at_call 66; (with_reducible refine (spec_l1Has.calls k2 _ _ (rd_L1 l1_1 x20_1) x11_2 false _ ?_ ?_ A23.out).mono ?_); exact cB (Kd.C_below HR272_0.out bB); exact HC272_0.out; rintro e w' ⟨rfl, ⟨nd, rfl⟩⟩; (try exact dN_)) | ((with_reducible refine gate_builtin (b := .append) (xs := #[.tmp 55, .tmp 57]) rfl ?_); at_builtin; refine Kd.R_append (Kd.int .i64) (w0 := w) w.heap.size rfl (.tmp 55) (.tmp 57) 52 3 (.int .i64 0) 8 rfl Try.underlying52 info3 rfl (by decide) (by omega) u10 x10_2 x11_2 [.int .i64 x11_2] (fun _ => True) (fun _ => False) rfl rfl rfl (fun _ hk => hk.elim) (fun _ _ => trivial) (oX HO_10) bB (below_size bB) (by have := LMc43.out; omega) ?_; intro v278 w51 ho hb hg hat; rw [← Ny277.out] at ho; replace HO_267001 := amk (Kd.S_after (ok := (fun _ => True)) (by (with_reducible repeat (first | apply Kd.S_alloc | apply Kd.S_drewN | apply Kd.S_drew)); exact Kd.S_mono HO_267001.out (fun _ hk => ⟨trivial, hk⟩)) hg hat); replace BK263 := bG BK263 hg (Kd.R_ne HO_10.out BK263.out (by decide)); replace BK264 := bG BK264 hg (Kd.R_ne HO_10.out BK264.out (by decide)); replace BK265 := bG BK265 hg (Kd.R_ne HO_10.out BK265.out (by decide)); replace BK266 := bG BK266 hg (Kd.R_ne HO_10.out BK266.out (by decide)); replace HB := amk (hb); have HO279 := amk (ho); clear HO_10; clear ho hb hg hat)))
                      go_roundg k2
                      case measure => have := HK1.out; have := HK2.out; omega
                      case rel => exact ⟨(y277), (wrap64 (x11_2 + 1)), rS_, H', ⟨by have := HK1.out; have := HK2.out; omega⟩, ⟨oX HO279⟩, ⟨by (with_reducible repeat (first | apply Kd.S_alloc | apply Kd.S_drewN | apply Kd.S_drew)); exact Kd.S_mono HO_267001.out (fun _ hk => hk.2)⟩, ⟨kB BK263⟩, ⟨kB BK264⟩, ⟨kB BK265⟩, ⟨kB BK266⟩, ⟨bB⟩⟩
                    · rw [if_neg c43] at H
                      exact absurd H (by simp)
              · replace H := iteB H; obtain ⟨rfl, H⟩ | ⟨rfl, H⟩ := H
                · have H' := amk H
                  clear H
                  have hnb53 := NB263_264.out
                  have hnc53 := NB264_263.out
                  have hnb54 := NB263_265.out
                  have hnc54 := NB265_263.out
                  have hnb55 := NB263_266.out
                  have hnc55 := NB266_263.out
                  obtain ⟨hcz56_0, hcz56_1, hfz56_0, hfz56_1, _⟩ := two_cells BK263.out
                  go_wp2_with (first | (go_at_call 66; (with_reducible refine (spec_l1Has.calls k2 _ _ (rd_L1 l0_1 x20_1) x11_2 false _ ?_ ?_ A20.out).mono ?_); exact cB (Kd.C_below HR267_0.out HB.out); exact HC267_0.out; rintro e w' ⟨rfl, ⟨nd, rfl⟩⟩; (try exact dN_); have hnb57 := NB264_265.out; have hnc57 := NB265_264.out; have hnb58 := NB264_266.out; have hnc58 := NB266_264.out; obtain ⟨hcz59_0, hcz59_1, hfz59_0, hfz59_1, _⟩ := two_cells BK264.out; obtain ⟨p272, q272, ad272, A272_0, c272_0, e272, hx272_0, HC272_0, HR272_0⟩ := at_L1q HR1_1 HB x20_1; cases e272) | (go_at_call 66; (with_reducible refine (spec_l1Has.calls k2 _ _ (rd_L1 l1_1 x20_1) x11_2 t273 _ ?_ ?_ A23.out).mono ?_); exact cB (Kd.C_below HR272_0.out bB); exact HC272_0.out; rintro e w' ⟨rfl, ⟨nd, rfl⟩⟩; (try exact dN_)))
                  repeat (go_quiet (first | (go_at_call 66; (with_reducible refine (spec_l1Has.calls k2 _ _ (rd_L1 l0_1 x20_1) x11_2 false _ ?_ ?_ A20.out).mono ?_); exact cB (Kd.C_below HR267_0.out HB.out); exact HC267_0.out; rintro e w' ⟨rfl, ⟨nd, rfl⟩⟩; (try exact dN_); have hnb57 := NB264_265.out; have hnc57 := NB265_264.out; have hnb58 := NB264_266.out; have hnc58 := NB266_264.out; obtain ⟨hcz59_0, hcz59_1, hfz59_0, hfz59_1, _⟩ := two_cells BK264.out; obtain ⟨p272, q272, ad272, A272_0, c272_0, e272, hx272_0, HC272_0, HR272_0⟩ := at_L1q HR1_1 HB x20_1; cases e272) | (go_at_call 66; (with_reducible refine (spec_l1Has.calls k2 _ _ (rd_L1 l1_1 x20_1) x11_2 t273 _ ?_ ?_ A23.out).mono ?_); exact cB (Kd.C_below HR272_0.out bB); exact HC272_0.out; rintro e w' ⟨rfl, ⟨nd, rfl⟩⟩; (try exact dN_))); try go_wp2_with (first | (go_at_call 66; (with_reducible refine (spec_l1Has.calls k2 _ _ (rd_L1 l0_1 x20_1) x11_2 false _ ?_ ?_ A20.out).mono ?_); exact cB (Kd.C_below HR267_0.out HB.out); exact HC267_0.out; rintro e w' ⟨rfl, ⟨nd, rfl⟩⟩; (try exact dN_); have hnb57 := NB264_265.out; have hnc57 := NB265_264.out; have hnb58 := NB264_266.out; have hnc58 := NB266_264.out; obtain ⟨hcz59_0, hcz59_1, hfz59_0, hfz59_1, _⟩ := two_cells BK264.out; obtain ⟨p272, q272, ad272, A272_0, c272_0, e272, hx272_0, HC272_0, HR272_0⟩ := at_L1q HR1_1 HB x20_1; cases e272) | (go_at_call 66; (with_reducible refine (spec_l1Has.calls k2 _ _ (rd_L1 l1_1 x20_1) x11_2 t273 _ ?_ ?_ A23.out).mono ?_); exact cB (Kd.C_below HR272_0.out bB); exact HC272_0.out; rintro e w' ⟨rfl, ⟨nd, rfl⟩⟩; (try exact dN_))))
                  go_roundg k2
                  case measure => have := HK1.out; have := HK2.out; omega
                  case rel => exact ⟨(x10_2), (wrap64 (x11_2 + 1)), rS_, H', ⟨by have := HK1.out; have := HK2.out; omega⟩, ⟨oX HO_10⟩, ⟨oX HO_267001⟩, ⟨kB BK263⟩, ⟨kB BK264⟩, ⟨kB BK265⟩, ⟨kB BK266⟩, ⟨bB⟩⟩
                · replace H := iteB H; obtain ⟨rfl, H⟩ | ⟨rfl, H⟩ := H
                  · by_cases c61 : x10_2.length < 17592186044416
                    · rw [if_pos c61] at H
                      have LMc61 := amk c61
                      clear c61
                      obtain ⟨y280, hy280⟩ : ∃ y_ : List Int, y_ = (x10_2 ++ [x11_2]) := ⟨_, rfl⟩
                      replace H : (spec_keJoin.l1 k2 false x20_1 (rd_L1 l0_1 x20_1) y280 (wrap64 (x11_2 + 1)) l0_1 (l0_1.length : Int) x20_1 a0_0 l0_1 a1_0 l1_1 a0_0 x267001_1) = some (r1, r2) := by first | (rw [hy280]; with_reducible exact H) | (have H2_ := (Option.bind_some _ _).symm.trans H; rw [hy280]; with_reducible exact H2_) | (have H2_ := (Option.bind_some _ _).symm.trans H; with_reducible exact H2_) | with_reducible exact H | (rw [hy280]; exact H) | exact H
                      have Ny280 := amk hy280
                      clear hy280
                      have H' := amk H
                      clear H
                      have hnb62 := NB263_264.out
                      have hnc62 := NB264_263.out
                      have hnb63 := NB263_265.out
                      have hnc63 := NB265_263.out
                      have hnb64 := NB263_266.out
                      have hnc64 := NB266_263.out
                      obtain ⟨hcz65_0, hcz65_1, hfz65_0, hfz65_1, _⟩ := two_cells BK263.out
                      go_wp2_with (first | (go_at_call 66; (with_reducible refine (spec_l1Has.calls k2 _ _ (rd_L1 l0_1 x20_1) x11_2 false _ ?_ ?_ A20.out).mono ?_); exact cB (Kd.C_below HR267_0.out HB.out); exact HC267_0.out; rintro e w' ⟨rfl, ⟨nd, rfl⟩⟩; (try exact dN_); have hnb66 := NB264_265.out; have hnc66 := NB265_264.out; have hnb67 := NB264_266.out; have hnc67 := NB266_264.out; obtain ⟨hcz68_0, hcz68_1, hfz68_0, hfz68_1, _⟩ := two_cells BK264.out; obtain ⟨p272, q272, ad272, A272_0, c272_0, e272, hx272_0, HC272_0, HR272_0⟩ := at_L1q HR1_1 HB x20_1; cases e272) | (go_at_call 66; (with_reducible refine (spec_l1Has.calls k2 _ _ (rd_L1 l1_1 x20_1) x11_2 true _ ?_ ?_ A23.out).mono ?_); exact cB (Kd.C_below HR272_0.out bB); exact HC272_0.out; rintro e w' ⟨rfl, ⟨nd, rfl⟩⟩; (try exact dN_)) | ((with_reducible refine gate_builtin (b := .append) (xs := #[.tmp 55, .tmp 57]) rfl ?_); at_builtin; refine Kd.R_append (Kd.int .i64) (w0 := w) w.heap.size rfl (.tmp 55) (.tmp 57) 52 3 (.int .i64 0) 8 rfl Try.underlying52 info3 rfl (by decide) (by omega) u10 x10_2 x11_2 [.int .i64 x11_2] (fun _ => True) (fun _ => False) rfl rfl rfl (fun _ hk => hk.elim) (fun _ _ => trivial) (oX HO_10) bB (below_size bB) (by have := LMc61.out; omega) ?_; intro v281 w69 ho hb hg hat; rw [← Ny280.out] at ho; replace HO_267001 := amk (Kd.S_after (ok := (fun _ => True)) (by (with_reducible repeat (first | apply Kd.S_alloc | apply Kd.S_drewN | apply Kd.S_drew)); exact Kd.S_mono HO_267001.out (fun _ hk => ⟨trivial, hk⟩)) hg hat); replace BK263 := bG BK263 hg (Kd.R_ne HO_10.out BK263.out (by decide)); replace BK264 := bG BK264 hg (Kd.R_ne HO_10.out BK264.out (by decide)); replace BK265 := bG BK265 hg (Kd.R_ne HO_10.out BK265.out (by decide)); replace BK266 := bG BK266 hg (Kd.R_ne HO_10.out BK266.out (by decide)); replace HB := amk (hb); have HO282 := amk (ho); clear HO_10; clear ho hb hg hat))
                      repeat (go_quiet (first | (go_at_call 66; (with_reducible refine (spec_l1Has.calls k2 _ _ (rd_L1 l0_1 x20_1) x11_2 false _ ?_ ?_ A20.out).mono ?_); exact cB (Kd.C_below HR267_0.out HB.out); exact HC267_0.out; rintro e w' ⟨rfl, ⟨nd, rfl⟩⟩; (try exact dN_); have hnb66 := NB264_265.out; have hnc66 := NB265_264.out; have hnb67 := NB264_266.out; have hnc67 := NB266_264.out; obtain ⟨hcz68_0, hcz68_1, hfz68_0, hfz68_1, _⟩ := two_cells BK264.out; obtain ⟨p272, q272, ad272, A272_0, c272_0, e272, hx272_0, HC272_0, HR272_0⟩ := at_L1q HR1_1 HB x20_1; cases e272) | (go_at_call 66; (with_reducible refine (spec_l1Has.calls k2 _ _ (rd_L1 l1_1 x20_1) x11_2 true _ ?_ ?_ A23.out).mono ?_); exact cB (Kd.C_below HR272_0.out bB); exact HC272_0.out; rintro e w' ⟨rfl, ⟨nd, rfl⟩⟩; (try exact dN_)) | ((with_reducible refine gate_builtin (b := .append) (xs := #[.tmp 55, .tmp 57]) rfl ?_); at_builtin; refine Kd.R_append (Kd.int .i64) (w0 := w) w.heap.size rfl (.tmp 55) (.tmp 57) 52 3 (.int .i64 0) 8 rfl Try.underlying52 info3 rfl (by decide) (by omega) u10 x10_2 x11_2 [.int .i64 x11_2] (fun _ => True) (fun _ => False) rfl rfl rfl (fun _ hk => hk.elim) (fun _ _ => trivial) (oX HO_10) bB (below_size bB) (by have := LMc61.out; omega) ?_; intro v281 w69 ho hb hg hat; rw [← Ny280.out] at ho; replace HO_267001 := amk (Kd.S_after (ok := (fun _ => True)) (by (with_reducible repeat (first | apply Kd.S_alloc | apply Kd.S_drewN | apply Kd.S_drew)); exact Kd.S_mono HO_267001.out (fun _ hk => ⟨trivial, hk⟩)) hg hat); replace BK263 := bG BK263 hg (Kd.R_ne HO_10.out BK263.out (by decide)); replace BK264 := bG BK264 hg (Kd.R_ne HO_10.out BK264.out (by decide)); replace BK265 := bG BK265 hg (Kd.R_ne HO_10.out BK265.out (by decide)); replace BK266 := bG BK266 hg (Kd.R_ne HO_10.out BK266.out (by decide)); replace HB := amk (hb); have HO282 := amk (ho); clear HO_10; clear ho hb hg hat)); try go_wp2_with (first | (go_at_call 66; (with_reducible refine (spec_l1Has.calls k2 _ _ (rd_L1 l0_1 x20_1) x11_2 false _ ?_ ?_ A20.out).mono ?_); exact cB (Kd.C_below HR267_0.out HB.out); exact HC267_0.out; rintro e w' ⟨rfl, ⟨nd, rfl⟩⟩; (try exact dN_); have hnb66 := NB264_265.out; have hnc66 := NB265_264.out; have hnb67 := NB264_266.out; have hnc67 := NB266_264.out; obtain ⟨hcz68_0, hcz68_1, hfz68_0, hfz68_1, _⟩ := two_cells BK264.out; obtain ⟨p272, q272, ad272, A272_0, c272_0, e272, hx272_0, HC272_0, HR272_0⟩ := at_L1q HR1_1 HB x20_1; cases e272) | (go_at_call 66; (with_reducible refine (spec_l1Has.calls k2 _ _ (rd_L1 l1_1 x20_1) x11_2 true _ ?_ ?_ A23.out).mono ?_); exact cB (Kd.C_below HR272_0.out bB); exact HC272_0.out; rintro e w' ⟨rfl, ⟨nd, rfl⟩⟩; (try exact dN_)) | ((with_reducible refine gate_builtin (b := .append) (xs := #[.tmp 55, .tmp 57]) rfl ?_); at_builtin; refine Kd.R_append (Kd.int .i64) (w0 := w) w.heap.size rfl (.tmp 55) (.tmp 57) 52 3 (.int .i64 0) 8 rfl Try.underlying52 info3 rfl (by decide) (by omega) u10 x10_2 x11_2 [.int .i64 x11_2] (fun _ => True) (fun _ => False) rfl rfl rfl (fun _ hk => hk.elim) (fun _ _ => trivial) (oX HO_10) bB (below_size bB) (by have := LMc61.out; omega) ?_; intro v281 w69 ho hb hg hat; rw [← Ny280.out] at ho; replace HO_267001 := amk (Kd.S_after (ok := (fun _ => True)) (by (with_reducible repeat (first | apply Kd.S_alloc | apply Kd.S_drewN | apply Kd.S_drew)); exact Kd.S_mono HO_267001.out (fun _ hk => ⟨trivial, hk⟩)) hg hat); replace BK263 := bG BK263 hg (Kd.R_ne HO_10.out BK263.out (by decide)); replace BK264 := bG BK264 hg (Kd.R_ne HO_10.out BK264.out (by decide)); replace BK265 := bG BK265 hg (Kd.R_ne HO_10.out BK265.out (by decide)); replace BK266 := bG BK266 hg (Kd.R_ne HO_10.out BK266.out (by decide)); replace HB := amk (hb); have HO282 := amk (ho); clear HO_10; clear ho hb hg hat)))
                      go_roundg k2
                      case measure => have := HK1.out; have := HK2.out; omega
                      case rel => exact ⟨(y280), (wrap64 (x11_2 + 1)), rS_, H', ⟨by have := HK1.out; have := HK2.out; omega⟩, ⟨oX HO282⟩, ⟨by (with_reducible repeat (first | apply Kd.S_alloc | apply Kd.S_drewN | apply Kd.S_drew)); exact Kd.S_mono HO_267001.out (fun _ hk => hk.2)⟩, ⟨kB BK263⟩, ⟨kB BK264⟩, ⟨kB BK265⟩, ⟨kB BK266⟩, ⟨bB⟩⟩
                    · rw [if_neg c61] at H
                      exact absurd H (by simp)
                  · have H' := amk H
                    clear H
                    have hnb70 := NB263_264.out
                    have hnc70 := NB264_263.out
                    have hnb71 := NB263_265.out
                    have hnc71 := NB265_263.out
                    have hnb72 := NB263_266.out
                    have hnc72 := NB266_263.out
                    obtain ⟨hcz73_0, hcz73_1, hfz73_0, hfz73_1, _⟩ := two_cells BK263.out
                    go_wp2_with (first | (go_at_call 66; (with_reducible refine (spec_l1Has.calls k2 _ _ (rd_L1 l0_1 x20_1) x11_2 false _ ?_ ?_ A20.out).mono ?_); exact cB (Kd.C_below HR267_0.out HB.out); exact HC267_0.out; rintro e w' ⟨rfl, ⟨nd, rfl⟩⟩; (try exact dN_); have hnb74 := NB264_265.out; have hnc74 := NB265_264.out; have hnb75 := NB264_266.out; have hnc75 := NB266_264.out; obtain ⟨hcz76_0, hcz76_1, hfz76_0, hfz76_1, _⟩ := two_cells BK264.out; obtain ⟨p272, q272, ad272, A272_0, c272_0, e272, hx272_0, HC272_0, HR272_0⟩ := at_L1q HR1_1 HB x20_1; cases e272) | (go_at_call 66; (with_reducible refine (spec_l1Has.calls k2 _ _ (rd_L1 l1_1 x20_1) x11_2 false _ ?_ ?_ A23.out).mono ?_); exact cB (Kd.C_below HR272_0.out bB); exact HC272_0.out; rintro e w' ⟨rfl, ⟨nd, rfl⟩⟩; (try exact dN_)))
                    repeat (go_quiet (first | (go_at_call 66; (with_reducible refine (spec_l1Has.calls k2 _ _ (rd_L1 l0_1 x20_1) x11_2 false _ ?_ ?_ A20.out).mono ?_); exact cB (Kd.C_below HR267_0.out HB.out); exact HC267_0.out; rintro e w' ⟨rfl, ⟨nd, rfl⟩⟩; (try exact dN_); have hnb74 := NB264_265.out; have hnc74 := NB265_264.out; have hnb75 := NB264_266.out; have hnc75 := NB266_264.out; obtain ⟨hcz76_0, hcz76_1, hfz76_0, hfz76_1, _⟩ := two_cells BK264.out; obtain ⟨p272, q272, ad272, A272_0, c272_0, e272, hx272_0, HC272_0, HR272_0⟩ := at_L1q HR1_1 HB x20_1; cases e272) | (go_at_call 66; (with_reducible refine (spec_l1Has.calls k2 _ _ (rd_L1 l1_1 x20_1) x11_2 false _ ?_ ?_ A23.out).mono ?_); exact cB (Kd.C_below HR272_0.out bB); exact HC272_0.out; rintro e w' ⟨rfl, ⟨nd, rfl⟩⟩; (try exact dN_))); try go_wp2_with (first | (go_at_call 66; (with_reducible refine (spec_l1Has.calls k2 _ _ (rd_L1 l0_1 x20_1) x11_2 false _ ?_ ?_ A20.out).mono ?_); exact cB (Kd.C_below HR267_0.out HB.out); exact HC267_0.out; rintro e w' ⟨rfl, ⟨nd, rfl⟩⟩; (try exact dN_); have hnb74 := NB264_265.out; have hnc74 := NB265_264.out; have hnb75 := NB264_266.out; have hnc75 := NB266_264.out; obtain ⟨hcz76_0, hcz76_1, hfz76_0, hfz76_1, _⟩ := two_cells BK264.out; obtain ⟨p272, q272, ad272, A272_0, c272_0, e272, hx272_0, HC272_0, HR272_0⟩ := at_L1q HR1_1 HB x20_1; cases e272) | (go_at_call 66; (with_reducible refine (spec_l1Has.calls k2 _ _ (rd_L1 l1_1 x20_1) x11_2 false _ ?_ ?_ A23.out).mono ?_); exact cB (Kd.C_below HR272_0.out bB); exact HC272_0.out; rintro e w' ⟨rfl, ⟨nd, rfl⟩⟩; (try exact dN_))))
                    go_roundg k2
                    case measure => have := HK1.out; have := HK2.out; omega
                    case rel => exact ⟨(x10_2), (wrap64 (x11_2 + 1)), rS_, H', ⟨by have := HK1.out; have := HK2.out; omega⟩, ⟨oX HO_10⟩, ⟨oX HO_267001⟩, ⟨kB BK263⟩, ⟨kB BK264⟩, ⟨kB BK265⟩, ⟨kB BK266⟩, ⟨bB⟩⟩
            · by_cases c77 : x267001_1.length < 5864062014805
              · rw [if_pos c77] at H
                have LMc77 := amk c77
                clear c77
                obtain ⟨y268, hy268⟩ : ∃ y_ : List (List Int), y_ = (x267001_1 ++ [x10_2]) := ⟨_, rfl⟩
                replace H : (spec_keJoin.l0 k2 a2 l0_1 (l0_1.length : Int) (wrap64 (x20_1 + 1)) a0_0 l0_1 a1_0 l1_1 a0_0 y268) = some (r1, r2) := by first | (rw [hy268]; with_reducible exact H) | (have H2_ := (Option.bind_some _ _).symm.trans H; rw [hy268]; with_reducible exact H2_) | (have H2_ := (Option.bind_some _ _).symm.trans H; with_reducible exact H2_) | with_reducible exact H | (rw [hy268]; exact H) | exact H
                have Ny268 := amk hy268
                clear hy268
                have H' := amk H
                clear H
                have hnb78 := NB263_264.out
                have hnc78 := NB264_263.out
                have hnb79 := NB263_265.out
                have hnc79 := NB265_263.out
                have hnb80 := NB263_266.out
                have hnc80 := NB266_263.out
                obtain ⟨hcz81_0, hcz81_1, hfz81_0, hfz81_1, _⟩ := two_cells BK263.out
                have hnb82 := NB266_264.out
                have hnc82 := NB264_266.out
                have hnb83 := NB266_265.out
                have hnc83 := NB265_266.out
                obtain ⟨hcz84_0, hcz84_1, hfz84_0, hfz84_1, _⟩ := two_cells BK266.out
                obtain ⟨Ao86, co86, eo86⟩ := Kd.R_slice HO_10.out
                subst eo86
                go_wp2_with (first | ((with_reducible refine gate_builtin (b := .append) (xs := #[.tmp 60, .tmp 62]) rfl ?_); at_builtin; refine Kd.S_append (Kd.slice 3 (Kd.int .i64)) (w0 := w) w.heap.size rfl (.tmp 60) (.tmp 62) 22 52 (.slice none 0 0) 24 rfl Try.underlying22 info52 rfl (by decide) (by omega) u267001 x267001_1 x10_2 [.slice Ao86 x10_2.length co86] (fun _ => True) (fun k_ => some k_ = (.slice Ao86 x10_2.length co86 : Value).ownBlock) rfl rfl (Kd.M_row (Kd.R_mono (Kd.R_tight rfl (Kd.R_mono (ok' := fun k_ => ((fun _ => True)) k_ ∧ some k_ ≠ (u267001 : Value).ownBlock) (Kd.R_apart' (HO_10.out) (Kd.S_typed HO_267001.out) (by decide)) (fun k_ hk => ⟨trivial, hk.2⟩))) (fun _ h_ => h_))) (fun k_ hk_ => ((Kd.R_mono (ok' := fun k_ => ((fun _ => True)) k_ ∧ some k_ ≠ (u267001 : Value).ownBlock) (Kd.R_apart' (HO_10.out) (Kd.S_typed HO_267001.out) (by decide)) (fun k_ hk => ⟨trivial, hk.2⟩))).1 k_ hk_.symm) (fun _ _ => trivial) (by (with_reducible repeat (first | apply Kd.S_alloc | apply Kd.S_drewN | apply Kd.S_drew)); exact Kd.S_mono HO_267001.out (fun k_ hk => ⟨trivial, fun e_ => hk e_⟩)) bB (below_size bB) (by have := LMc77.out; omega) ?_; intro v269 w85 ho hb hg hat; rw [← Ny268.out] at ho; replace BK263 := bG BK263 hg (Kd.S_ne HO_267001.out BK263.out (by decide)); replace BK264 := bG BK264 hg (Kd.S_ne HO_267001.out BK264.out (by decide)); replace BK265 := bG BK265 hg (Kd.S_ne HO_267001.out BK265.out (by decide)); replace BK266 := bG BK266 hg (Kd.S_ne HO_267001.out BK266.out (by decide)); replace HB := amk (hb); have HO270 := amk (ho); clear HO_267001 HO_10; clear ho hb hg hat; obtain ⟨Ao87, co87, eo87⟩ := Kd.S_slice HO270.out; subst eo87; obtain ⟨hcz88_0, hcz88_1, hfz88_0, hfz88_1, _⟩ := two_cells BK266.out))
                repeat (go_quiet (first | ((with_reducible refine gate_builtin (b := .append) (xs := #[.tmp 60, .tmp 62]) rfl ?_); at_builtin; refine Kd.S_append (Kd.slice 3 (Kd.int .i64)) (w0 := w) w.heap.size rfl (.tmp 60) (.tmp 62) 22 52 (.slice none 0 0) 24 rfl Try.underlying22 info52 rfl (by decide) (by omega) u267001 x267001_1 x10_2 [.slice Ao86 x10_2.length co86] (fun _ => True) (fun k_ => some k_ = (.slice Ao86 x10_2.length co86 : Value).ownBlock) rfl rfl (Kd.M_row (Kd.R_mono (Kd.R_tight rfl (Kd.R_mono (ok' := fun k_ => ((fun _ => True)) k_ ∧ some k_ ≠ (u267001 : Value).ownBlock) (Kd.R_apart' (HO_10.out) (Kd.S_typed HO_267001.out) (by decide)) (fun k_ hk => ⟨trivial, hk.2⟩))) (fun _ h_ => h_))) (fun k_ hk_ => ((Kd.R_mono (ok' := fun k_ => ((fun _ => True)) k_ ∧ some k_ ≠ (u267001 : Value).ownBlock) (Kd.R_apart' (HO_10.out) (Kd.S_typed HO_267001.out) (by decide)) (fun k_ hk => ⟨trivial, hk.2⟩))).1 k_ hk_.symm) (fun _ _ => trivial) (by (with_reducible repeat (first | apply Kd.S_alloc | apply Kd.S_drewN | apply Kd.S_drew)); exact Kd.S_mono HO_267001.out (fun k_ hk => ⟨trivial, fun e_ => hk e_⟩)) bB (below_size bB) (by have := LMc77.out; omega) ?_; intro v269 w85 ho hb hg hat; rw [← Ny268.out] at ho; replace BK263 := bG BK263 hg (Kd.S_ne HO_267001.out BK263.out (by decide)); replace BK264 := bG BK264 hg (Kd.S_ne HO_267001.out BK264.out (by decide)); replace BK265 := bG BK265 hg (Kd.S_ne HO_267001.out BK265.out (by decide)); replace BK266 := bG BK266 hg (Kd.S_ne HO_267001.out BK266.out (by decide)); replace HB := amk (hb); have HO270 := amk (ho); clear HO_267001 HO_10; clear ho hb hg hat; obtain ⟨Ao87, co87, eo87⟩ := Kd.S_slice HO270.out; subst eo87; obtain ⟨hcz88_0, hcz88_1, hfz88_0, hfz88_1, _⟩ := two_cells BK266.out)); try go_wp2_with (first | ((with_reducible refine gate_builtin (b := .append) (xs := #[.tmp 60, .tmp 62]) rfl ?_); at_builtin; refine Kd.S_append (Kd.slice 3 (Kd.int .i64)) (w0 := w) w.heap.size rfl (.tmp 60) (.tmp 62) 22 52 (.slice none 0 0) 24 rfl Try.underlying22 info52 rfl (by decide) (by omega) u267001 x267001_1 x10_2 [.slice Ao86 x10_2.length co86] (fun _ => True) (fun k_ => some k_ = (.slice Ao86 x10_2.length co86 : Value).ownBlock) rfl rfl (Kd.M_row (Kd.R_mono (Kd.R_tight rfl (Kd.R_mono (ok' := fun k_ => ((fun _ => True)) k_ ∧ some k_ ≠ (u267001 : Value).ownBlock) (Kd.R_apart' (HO_10.out) (Kd.S_typed HO_267001.out) (by decide)) (fun k_ hk => ⟨trivial, hk.2⟩))) (fun _ h_ => h_))) (fun k_ hk_ => ((Kd.R_mono (ok' := fun k_ => ((fun _ => True)) k_ ∧ some k_ ≠ (u267001 : Value).ownBlock) (Kd.R_apart' (HO_10.out) (Kd.S_typed HO_267001.out) (by decide)) (fun k_ hk => ⟨trivial, hk.2⟩))).1 k_ hk_.symm) (fun _ _ => trivial) (by (with_reducible repeat (first | apply Kd.S_alloc | apply Kd.S_drewN | apply Kd.S_drew)); exact Kd.S_mono HO_267001.out (fun k_ hk => ⟨trivial, fun e_ => hk e_⟩)) bB (below_size bB) (by have := LMc77.out; omega) ?_; intro v269 w85 ho hb hg hat; rw [← Ny268.out] at ho; replace BK263 := bG BK263 hg (Kd.S_ne HO_267001.out BK263.out (by decide)); replace BK264 := bG BK264 hg (Kd.S_ne HO_267001.out BK264.out (by decide)); replace BK265 := bG BK265 hg (Kd.S_ne HO_267001.out BK265.out (by decide)); replace BK266 := bG BK266 hg (Kd.S_ne HO_267001.out BK266.out (by decide)); replace HB := amk (hb); have HO270 := amk (ho); clear HO_267001 HO_10; clear ho hb hg hat; obtain ⟨Ao87, co87, eo87⟩ := Kd.S_slice HO270.out; subst eo87; obtain ⟨hcz88_0, hcz88_1, hfz88_0, hfz88_1, _⟩ := two_cells BK266.out)))
                go_roundg k2
                case measure => have := HK1.out; have := HK2.out; omega
                case rel => exact ⟨(wrap64 (x20_1 + 1)), (y268), (.slice Ao87 y268.length co87), rS_, H', ⟨by have := HK1.out; have := HK2.out; omega⟩, ⟨by (with_reducible repeat (first | apply Kd.S_alloc | apply Kd.S_drewN | apply Kd.S_drew)); exact Kd.S_mono (Kd.S_far (p := ⟨gb266, 1, none⟩) (Kd.S_types HO270.out BK266.out (by decide)) (fun _ hk => hk.2) (.slice Ao87 y268.length co87)) (fun _ hk => trivial)⟩, ⟨kB BK263⟩, ⟨kB BK264⟩, ⟨kB BK265⟩, ⟨by (with_reducible repeat (first | refine kn_ ?_ _ | refine blk_drew ?_ | refine ka_ ?_ _)); refine blk_put (cs := #[.int .i64 a0_0, u267001]) ?_ 1 _ rfl; (with_reducible repeat (first | refine kn_ ?_ _ | refine blk_drew ?_ | refine ka_ ?_ _)); exact BK266.out⟩, ⟨bB⟩⟩
              · rw [if_neg c77] at H
                exact absurd H (by simp)
      · simp only [Option.some.injEq, Prod.mk.injEq] at H
        obtain ⟨rfl, rfl⟩ := H
        have hnb89 := NB266_263.out
        have hnc89 := NB263_266.out
        have hnb90 := NB266_264.out
        have hnc90 := NB264_266.out
        have hnb91 := NB266_265.out
        have hnc91 := NB265_266.out
        obtain ⟨hcz92_0, hcz92_1, hfz92_0, hfz92_1, _⟩ := two_cells BK266.out
        have hnb93 := NB265_263.out
        have hnc93 := NB263_265.out
        have hnb94 := NB265_264.out
        have hnc94 := NB264_265.out
        obtain ⟨hcz95_0, hcz95_1, hfz95_0, hfz95_1, _⟩ := two_cells BK265.out
        obtain ⟨Ao96, co96, eo96⟩ := Kd.S_slice HO_267001.out
        subst eo96
        go_wp2
        repeat (go_quiet (fail); try go_wp2)
        refine bodyPost_ret (results_cell_row rfl _ _ gb265 24 #[.int .i64 a0_0, .slice Ao96 x267001_1.length co96] (0, 0) _ rfl (by (with_reducible repeat (first | refine kn_ ?_ _ | refine blk_drew ?_ | refine ka_ ?_ _)); refine blk_put (cs := #[.int .i64 a0_0, .slice none 0 0]) ?_ 1 _ rfl; (with_reducible repeat (first | refine kn_ ?_ _ | refine blk_drew ?_ | refine ka_ ?_ _)); refine blk_put (cs := #[.int .i64 0, .slice none 0 0]) ?_ 0 _ rfl; (with_reducible repeat (first | refine kn_ ?_ _ | refine blk_drew ?_ | refine ka_ ?_ _)); exact BK265.out) Try.underlying24 rfl (by kernel_rfl)) rfl ?_
        exact ⟨_, rF_, by (with_reducible repeat (first | apply Kd.S_alloc | apply Kd.S_drewN | apply Kd.S_drew)); exact Kd.S_mono (Kd.S_far (p := ⟨gb265, 1, none⟩) (Kd.S_far (p := ⟨gb265, 0, none⟩) (Kd.S_types HO_267001.out BK265.out (by decide)) (fun _ hk => hk.2) (.int .i64 a0_0)) (fun _ hk => hk.2) (.slice Ao96 x267001_1.length co96)) (fun _ hk => trivial), bB⟩
/-! spec.keJoined, by hand: it begins with a pin that came in, and goes on with what was made. -/
def keStep (k : Nat) (b : Bool) : Int → List (List Int) → List S24 → Option (Int × List (List Int))
  | n, x, [] => some (n, x)
  | n, x, p :: t => (spec_keJoin.f k n x p.f0 p.f1 b).bind fun q => keStep k b q.1 q.2 t
def spec_keJoined.f (k : Nat) (l : List S24) (b : Bool) : Option (Int × List (List Int)) := if l.length = 0 then none else keStep k b (rd_T24 l 0).f0 (rd_T24 l 0).f1 l
set_option maxHeartbeats 4000000 in
set_option maxRecDepth 100000 in
theorem spec_keJoined.calls (k : Nat) (A0 : Option Addr) (c0 : Nat) (l0 : List S24) (a1 : Bool) (r1 : Int) (r2 : List (List Int)) (w : World) (hr0 : Kd.C k24 w A0 l0.length l0) (hc0 : l0.length ≤ c0) (h : spec_keJoined.f k l0 a1 = some (r1, r2)) :
    Calls Try.prog 50 #[.slice A0 l0.length c0, .bool a1] w fun e w' => ∃ v1_ : Value, e = .returned (.agg #[.int .i64 r1, v1_]) ∧ Kd.S (Kd.slice 3 (Kd.int .i64)) 52 w' w.heap.size (fun _ => True) v1_ r2 ∧ Below w.heap.size w w' := by
  unfold spec_keJoined.f at h
  by_cases h0 : l0.length = 0
  · rw [if_pos h0] at h; simp at h
  rw [if_neg h0] at h
  have hl0 : decide (0 < (l0.length : Int)) = true := decide_eq_true (by omega)
  obtain ⟨ad, A1, c1, e, hq0, hq1, l1, g1⟩ := at_T24 hr0 0 (by omega) (by omega)
  cases e
  simp only [Int.toNat_zero, Nat.zero_mul] at hq0 hq1
  replace hq0 : w.cell? ad = _ := hq0
  replace hq1 : w.cell? ⟨ad.block, ad.off + 1, none⟩ = _ := hq1
  have hlz : (0 < l0.length) = True := eq_true (by omega)
  have hab : ad.block ≠ w.heap.size := Nat.ne_of_lt (World.block_lt_of_cell? w _ hq0)
  have hqa : ∀ o, (w.alloc o).cell? ad = some (.int .i64 (rd_T24 l0 0).f0) := fun o => (((Below.refl _ w).alloc (Nat.le_refl _) o).cell (World.block_lt_of_cell? w _ hq0)).trans hq0
  have hqb : ∀ o, (w.alloc o).cell? ⟨ad.block, ad.off + 1, none⟩ = some (.slice A1 (rd_T24 l0 0).f1.length c1) := fun o => (((Below.refl _ w).alloc (Nat.le_refl _) o).cell (World.block_lt_of_cell? w _ hq1)).trans hq1
  have hu41 := Try.underlying24
  have hu35 := Try.underlying22
  have hu57 := Try.underlying25
  have hbig := hr0.2.1
  have HR := amk hr0
  have HC := amk hc0
  have H := amk h
  have H0 := amk h0
  have G1 := amk g1
  have L1 := amk l1
  clear hr0 hc0 h g1 l1 h0
  have HD0 : Aside0 ((rd_T24 l0 0).f0 = (rd_T24 l0 0).f0) := ⟨rfl⟩
  generalize hy : rd_T24 l0 0 = y at hqa hqb hq0 hq1 H G1 L1
  clear hy HD0
  go_enter Try.func50, Try.ntmps50
  go_wp2
  go_loopg [13] l0.length (fun gg s13 wr => ∃ (i : Nat) (n : Int) (x : List (List Int)) (A : Option Addr) (c : Nat), s13 = .int .i64 (i : Int) ∧ Aside0 (i ≤ l0.length) ∧ Aside0 (l0.length - i ≤ gg) ∧ Aside0 (wr.heap[w.heap.size]? = some (.cells #[.int .i64 0, .slice none 0 0] 24 (0, 0))) ∧ Aside0 (wr.heap[w.heap.size + 1]? = some (.cells #[.int .i64 n, .slice A x.length c] 24 (0, 0))) ∧ Aside0 (keStep k a1 n x (l0.drop i) = some (r1, r2)) ∧ Aside0 ((i = 0 ∧ n = y.f0 ∧ x = y.f1 ∧ A = A1 ∧ c = c1) ∨ Kd.S (Kd.slice 3 (Kd.int .i64)) 52 wr w.heap.size (fun _ => True) (.slice A x.length c) x) ∧ Aside0 (Below w.heap.size w wr))
  case atStart =>
    refine ⟨0, y.f0, y.f1, A1, c1, rfl, ⟨by omega⟩, ⟨by omega⟩, ⟨?at1⟩, ⟨?at2⟩, H, ⟨Or.inl ⟨rfl, rfl, rfl, rfl, rfl⟩⟩, ⟨?at3⟩⟩
    case at1 => exact (((Below.refl _ _).alloc (Nat.le_refl _) _).block w.heap.size (by simp)).trans (blk_new _ _)
    case at2 => have := blk_new (w.alloc (.cells #[.int .i64 0, .slice none 0 0] 24 (0, 0))) (.cells #[.int .i64 y.f0, .slice A1 y.f1.length c1] 24 (0, 0)); simpa using this
    case at3 => exact ((Below.refl _ w).alloc (Nat.le_refl _) _).alloc (by simp) _
  case round =>
    obtain ⟨i, n, x, A, c, rfl, HI, HG, HP, HQ, HK, HS, HB⟩ := hrel
    obtain ⟨hp0, hp1, hp2, hp3, hp4⟩ := two_cells HP.out
    obtain ⟨hq0', hq1', hq2', hq3', hq4'⟩ := two_cells HQ.out
    have HNN := H0.out
    by_cases hlt : i < l0.length
    · have hlw : decide ((i : Int) < (l0.length : Int)) = true := decide_eq_true (by omega)
      have hlz2 : ((i : Int) < (l0.length : Int)) = True := eq_true (by omega)
      have hiz : ((0 : Int) ≤ (i : Int)) = True := eq_true (by omega)
      obtain ⟨ad2, A2, c2, e2, ha0, ha1, l2, g2⟩ := at_T24 HR.out (i : Int) (by omega) (by omega)
      cases e2
      replace ha0 := (HB.out.cell (World.block_lt_of_cell? w _ ha0)).trans ha0
      replace ha1 := (HB.out.cell (World.block_lt_of_cell? w _ ha1)).trans ha1
      have hyi : rd_T24 l0 (i : Int) = l0[i] := by unfold rd_T24; simp [List.getD, hlt]
      have hdr : l0.drop i = l0[i] :: l0.drop (i + 1) := List.drop_eq_getElem_cons hlt
      rw [hyi] at ha0 ha1 l2 g2
      simp only [Int.toNat_natCast] at ha0 ha1
      have hne1 : w.heap.size ≠ wr.heap.size := by omega
      have hne2 : w.heap.size + 1 ≠ wr.heap.size := by omega
      have HS1 := amk hq4'
      have HK1 := HK.out
      rw [hdr] at HK1
      unfold keStep at HK1
      obtain ⟨q, hq, hrest⟩ := Option.bind_eq_some_iff.mp HK1
      clear HK1
      obtain ⟨qn, qx⟩ := q
      have hCx : Kd.C (Kd.slice 3 (Kd.int .i64)) wr A x.length x := by
        rcases HS.out with ⟨_, _, rfl, rfl, rfl⟩ | h
        · exact Kd.C_below G1.out HB.out
        · exact (Kd.S_reads' h).2.2
      have hlx : x.length ≤ c := by
        rcases HS.out with ⟨_, _, rfl, rfl, rfl⟩ | h
        · exact L1.out
        · exact (Kd.S_reads' h).2.1
      have hCy : Kd.C (Kd.slice 3 (Kd.int .i64)) wr A2 l0[i].f1.length l0[i].f1 := Kd.C_below g2 HB.out
      generalize l0[i] = p at *
      have hbx := hCx.2.1
      have hby := hCy.2.1
      have HCX := amk hCx
      have HCY := amk hCy
      have HLX := amk hlx
      have HLY := amk l2
      have HQQ := amk hq
      have HREST := amk hrest
      have hw1 : wrap64 ((i : Int) + 1) = ((i + 1 : Nat) : Int) := by unfold wrap64; omega
      clear hCx hCy hlx l2 g2 hq hrest hyi hdr hqa hqb hq0 hq1 hab hp0 hp1 hp2 hp3 hp4
      have HLT := amk hlt
      go_wp2_with (go_at_call 54; refine (spec_keJoin.calls k _ _ _ _ _ _ _ _ _ _ _ _ (Kd.C_alloc HCX.out _) HLX.out (Kd.C_alloc HCY.out _) HLY.out HQQ.out).mono ?_; rintro e w9 ⟨v9, rfl, hs9, hb9⟩; clear hq0' hq1' hq2' hq3' hq4'; have HP9 : Aside0 (w9.heap[w.heap.size]? = _) := ⟨(hb9.block w.heap.size (by simp; have := HS1.out; omega)).trans ((((Below.refl _ wr).alloc (Nat.le_refl _) _).block w.heap.size (by have := HS1.out; omega)).trans HP.out)⟩; have HQ9 : Aside0 (w9.heap[w.heap.size + 1]? = _) := ⟨(hb9.block (w.heap.size + 1) (by simp; have := HS1.out; omega)).trans ((((Below.refl _ wr).alloc (Nat.le_refl _) _).block (w.heap.size + 1) (by have := HS1.out; omega)).trans HQ.out)⟩; obtain ⟨hq0', hq1', hq2', hq3', _⟩ := two_cells HQ9.out; obtain ⟨A9, c9, rfl⟩ := Kd.S_slice hs9; have HS9 := amk hs9; have HB9 := amk hb9; clear hs9 hb9)
      go_roundg (l0.length - (i + 1))
      case measure => have := HG.out; have := HLT.out; omega
      case rel =>
        refine ⟨i + 1, qn, qx, A9, c9, rfl, ⟨by have := HLT.out; omega⟩, ⟨by omega⟩, ⟨?_⟩, ⟨two_set HQ9.out _ _⟩, HREST, ⟨Or.inr ?_⟩, ⟨?_⟩⟩
        · rw [Below.heap_setCell _ _ _ _ (by simp), Below.heap_setCell _ _ _ _ (by simp)]; exact HP9.out
        · have hty : ∀ q, q ∈ 52 :: (Kd.slice 3 (Kd.int .i64)).E → q ≠ 24 := by intro q hq; simp [Kd.slice, Kd.int, Kd.scalar] at hq; omega
          have hlow := Kd.S_lower HS9.out (base' := w.heap.size) (by simp; have := HS1.out; omega)
          exact Kd.S_set (Kd.S_set hlow HQ9.out hty 0 _) (heap_setCell_same _ _ 0 _ _ _ HQ9.out) hty 1 _
        · have h1 := (HB.out.alloc HB.out.size (.cells #[.int .i64 p.f0, .slice A2 p.f1.length c2] 24 (0, 0)))
          have h2 := h1.trans (HB9.out.mono (by simp; have := HB.out.size; omega))
          exact (h2.setCell (p := ⟨w.heap.size + 1, 0, none⟩) (by simp) _).setCell (p := ⟨w.heap.size + 1, 1, none⟩) (by simp) _
    · have hlw : decide ((i : Int) < (l0.length : Int)) = false := decide_eq_false (by omega)
      have hlwn : decide (i < l0.length) = false := decide_eq_false hlt
      have hil : i = l0.length := by have := HI.out; omega
      have HSX : Aside0 (Kd.S (Kd.slice 3 (Kd.int .i64)) 52 wr w.heap.size (fun _ => True) (.slice A x.length c) x) := ⟨by
        rcases HS.out with ⟨h, _⟩ | h
        · omega
        · exact h⟩
      have hk2 := HK.out
      rw [hil, List.drop_length] at hk2
      unfold keStep at hk2
      injection hk2 with hk2
      injection hk2 with e1 e2
      subst e1 e2
      have hbx := (Kd.S_reads' HSX.out).2.2.2.1
      clear hil hlt
      go_wp2
      (try simp only [Exit.inBlock, Exit.then])
      refine bodyPost_ret (results_single rfl (.cell w.heap.size 24 #[.int .i64 n, .slice A x.length c] (0, 0) _ rfl (two_set HP.out _ _) Try.underlying24 rfl (by kernel_rfl) .nil)) rfl ?_
      refine ⟨_, rfl, ?_, ?_⟩
      · have hty : ∀ q, q ∈ 52 :: (Kd.slice 3 (Kd.int .i64)).E → q ≠ 24 := by intro q hq; simp [Kd.slice, Kd.int, Kd.scalar] at hq; omega
        exact Kd.S_set (Kd.S_set HSX.out HP.out hty 0 _) (heap_setCell_same _ _ 0 _ _ _ HP.out) hty 1 _
      · exact (HB.out.setCell (p := ⟨w.heap.size, 0, none⟩) (Nat.le_refl _) _).setCell (p := ⟨w.heap.size, 1, none⟩) (Nat.le_refl _) _
/-! ### spec_CountShared: function 21 -/
def spec_CountShared.f (k : Nat) (l0 : List (S24)) : Option (Int × Bool) := (spec_keList.f k l0).bind fun t299 => (if t299 = true then ((spec_keJoined.f k l0 true).bind fun bt300 => ((spec_keCount.f k bt300.1 bt300.2).bind fun t304 => (some (t304, true)))) else (some (0, false)))
set_option maxHeartbeats 8000000 in
set_option maxRecDepth 100000 in
theorem spec_CountShared.calls (k : Nat) (A0 : Option Addr) (c0 : Nat) (l0 : List (S24)) (r1 : Int) (r2 : Bool) (w : World) (hr0 : Kd.C k24 w A0 l0.length l0) (hc0 : l0.length ≤ c0) (h : spec_CountShared.f k l0 = some (r1, r2)) :
    Calls Try.prog 21 #[.slice A0 l0.length c0] w fun e w' => e = .returned (.tuple #[.int .i64 r1, .bool r2]) ∧ Below w.heap.size w w' := by
  have HR0 := amk hr0
  have HC0 := amk hc0
  clear hr0 hc0
  have HB := amk (Below.refl w.heap.size w)
  have H : ((spec_keList.f k l0).bind fun t299 => (if t299 = true then ((spec_keJoined.f k l0 true).bind fun bt300 => ((spec_keCount.f k bt300.1 bt300.2).bind fun t304 => (some (t304, true)))) else (some (0, false)))) = some (r1, r2) := h
  clear h
  replace H := bE H
  obtain ⟨t299, A2, H⟩ := H
  replace H := iteB H; obtain ⟨rfl, H⟩ | ⟨rfl, H⟩ := H
  · replace H := Option.bind_eq_some_iff.mp H
    obtain ⟨⟨t300, t301⟩, A40, H⟩ := H
    replace H : ((spec_keCount.f k t300 t301).bind fun t304 => (some (t304, true))) = some (r1, r2) := H
    have A4 := amk A40
    clear A40
    replace H := bE H
    obtain ⟨t304, A5, H⟩ := H
    simp only [Option.some.injEq, Prod.mk.injEq] at H
    obtain ⟨rfl, rfl⟩ := H
    go_enter Try.func21, Try.ntmps21
    go_wp2_with (first | (refine gc_ 49 5 Try.func49 #[.slice A0 l0.length c0] ?_; (with_reducible refine (spec_keList.calls k _ _ l0 true _ ?_ ?_ A2.out).mono ?_); exact cB HR0.out; exact HC0.out; rintro e w6 ⟨rfl, hb⟩; refine ⟨_, rfl, ?_⟩; replace HB := hB2 HB hb; (try clear hb)) | (refine gc_ 50 8 Try.func50 #[.slice A0 l0.length c0, .bool true] ?_; (with_reducible refine (spec_keJoined.calls k _ _ l0 true t300 t301 _ ?_ ?_ A4.out).mono ?_); exact cB (Kd.C_below HR0.out HB.out); exact HC0.out; rintro e w7 ⟨v302, rfl, ho0, hb⟩; refine ⟨_, rfl, ?_⟩; have HO303 := amk (Kd.S_lower ho0 (below_size bB)); replace HB := hB2 HB hb; (try clear hb); (try clear ho0); obtain ⟨Ao8, co8, eo8⟩ := Kd.S_slice HO303.out; subst eo8) | (refine gc_ 40 9 Try.func40 #[.agg #[.int .i64 t300, .slice Ao8 t301.length co8]] ?_; (with_reducible refine (spec_keCount.calls k t300 _ _ t301 t304 _ ?_ ?_ A5.out).mono ?_); exact cB ((Kd.S_reads' HO303.out).2.2); exact (Kd.S_reads' HO303.out).2.1; rintro e w9 ⟨rfl, hb⟩; refine ⟨_, rfl, ?_⟩; replace HO303 := amk (Kd.S_below (oX HO303) hb); replace HB := hB2 HB hb; (try clear hb)))
    go_ret2
    exact ⟨rF_, bB⟩
  · simp only [Option.some.injEq, Prod.mk.injEq] at H
    obtain ⟨rfl, rfl⟩ := H
    go_enter Try.func21, Try.ntmps21
    go_wp2_with (first | (refine gc_ 49 5 Try.func49 #[.slice A0 l0.length c0] ?_; (with_reducible refine (spec_keList.calls k _ _ l0 false _ ?_ ?_ A2.out).mono ?_); exact cB HR0.out; exact HC0.out; rintro e w10 ⟨rfl, hb⟩; refine ⟨_, rfl, ?_⟩; replace HB := hB2 HB hb; (try clear hb)))
    go_ret2
    exact ⟨rF_, bB⟩
/-! The places and the digits that two codes share. -/
theorem bt_nat {a : ByteArray} {i : Nat} (h : i < a.size) : ((a[i]'h).toNat : Int) = bt a (i : Nat) := by simp [bt, h]
/-! spec.keKey, by hand: it ranges over a text. -/
def keyB (n : Int) (s : ByteArray) : Bool := (List.range s.size).all fun i => decide (0 ≤ bt s (i : Nat) - 48 ∧ bt s (i : Nat) - 48 ≤ n - 1)
def spec_keKey.f (n : Int) (s : ByteArray) : Option Bool := if 1 ≤ n ∧ n ≤ 9 ∧ s.size ≤ 9223372036854775806 then some (keyB n s) else none
theorem run_next_any {P : Program} (w : World) (s : ByteArray) (pos : Nat) (ty : TypeId) (h : pos < s.size) :
    (Instr.next (.pointer (some ⟨w.heap.size, 0, none⟩)) true ty).run P (w.iter s pos) = .ok (.tuple #[.bool true, .int .i64 pos, .int .i32 (Utf8.decode s pos).1]) (w.iter s (pos + (Utf8.decode s pos).2)) := by
  simp only [Instr.next, getObj, setObj, Sem.run_bind, Sem.run, World.iter_heap, Result.andThen, h, if_true, World.iter_set]
  simp [goInt, Sem.run, World.iter_heap, World.iter_set]
set_option maxHeartbeats 4000000 in
set_option maxRecDepth 100000 in
theorem spec_keKey.calls (a0 : Int) (a1 : ByteArray) (r : Bool) (w : World) (h : spec_keKey.f a0 a1 = some r) :
    Calls Try.prog 65 #[.int .i64 a0, .string a1] w fun e w' => e = .returned (.bool r) ∧ Below w.heap.size w w' := by
  unfold spec_keKey.f at h
  by_cases hc : 1 ≤ a0 ∧ a0 ≤ 9 ∧ a1.size ≤ 9223372036854775806
  · rw [if_pos hc] at h
    obtain rfl := Option.some.inj h
    obtain ⟨h1, h9, hz⟩ := hc
    have hus := Try.underlying9
    have hw1 : wrap64 (a0 - 1) = a0 - 1 := w64 (by omega) (by omega)
    have H1 := amk h1
    have H9 := amk h9
    have HZ := amk hz
    clear h
    go_enter Try.func65, Try.ntmps65
    go_wp2
    go_loopg [5] a1.size (fun gg s5 wr => ∃ (W : World) (i : Nat) (u : Value), s5 = u ∧ wr = W.iter a1 i ∧ Aside0 (i ≤ a1.size ∧ a1.size ≤ i + gg) ∧ Aside0 (∀ j, j < i → 0 ≤ bt a1 (j : Nat) - 48 ∧ bt a1 (j : Nat) - 48 ≤ a0 - 1) ∧ Aside0 (W.heap.size = w.heap.size ∧ Below w.heap.size w W))
    case atStart => exact ⟨w, 0, _, rfl, rfl, ⟨by omega⟩, ⟨fun j hj => by omega⟩, ⟨rfl, Below.refl _ _⟩⟩
    case round =>
      obtain ⟨W, i, u, rfl, rfl, HI, HJ, HW⟩ := hrel
      by_cases hi : i < a1.size
      · have e0 := bt_nat hi
        have hb0 : 0 ≤ bt a1 (i : Nat) := by omega
        have hb1 : bt a1 (i : Nat) < 256 := by have := (a1[i]'hi).toNat_lt; omega
        have hnx : ∀ ty, (Instr.next (.pointer (some ⟨w.heap.size, 0, none⟩)) true ty).run Try.prog (W.iter a1 i) = .ok (.tuple #[.bool true, .int .i64 (i : Nat), .int .i32 (Utf8.decode a1 i).1]) (W.iter a1 (i + (Utf8.decode a1 i).2)) := by
          intro ty
          have := run_next_any (P := Try.prog) W a1 i ty hi
          rw [HW.out.1] at this
          exact this
        have hw3 : wrap64 (bt a1 (i : Nat)) = bt a1 (i : Nat) := w64 (by omega) (by omega)
        have hw2 : wrap64 (bt a1 (i : Nat) - 48) = bt a1 (i : Nat) - 48 := w64 (by omega) (by omega)
        by_cases hx : 0 ≤ bt a1 (i : Nat) - 48 ∧ bt a1 (i : Nat) - 48 ≤ a0 - 1
        · have hdec := decode_ascii a1 i hi (by have := H9.out; omega)
          rw [hdec] at hnx
          have HV := amk (show spec_l1In.f (bt a1 (i : Nat) - 48) 0 (a0 - 1) = some true by rw [spec_l1In.bs, decide_eq_true hx])
          have HX := amk hx
          clear hx hdec hb0 hb1
          go_wp2_with (go_at_call 63; refine Calls.mono (spec_l1In.calls _ _ _ true _ (by first | exact HV.out | (rw [hw3, hw2]; exact HV.out) | (rw [hw2, hw1]; exact HV.out) | (rw [hw1]; exact HV.out) | (rw [hw2]; exact HV.out))) ?_; rintro e w3 ⟨rfl, hb⟩; have HD := amk hb; clear hb)
          go_roundg (a1.size - (i + 1))
          case measure => have := HI.out; omega
          case rel =>
            obtain ⟨m, hm⟩ := HD.out
            refine ⟨W.drewN m, i + 1, _, rfl, hm, ⟨by omega⟩, ⟨fun j hj => ?_⟩, ⟨HW.out.1, bn_ HW.out.2 m⟩⟩
            rcases Nat.lt_succ_iff_lt_or_eq.mp hj with h | h
            · exact HJ.out j h
            · rw [h]; exact HX.out
        · have HV := amk (show spec_l1In.f (bt a1 (i : Nat) - 48) 0 (a0 - 1) = some false by rw [spec_l1In.bs, decide_eq_false hx])
          have HX := amk hx
          clear hx hb0 hb1
          go_wp2_with (go_at_call 63; refine Calls.mono (spec_l1In.calls _ _ _ false _ (by first | exact HV.out | (rw [hw3, hw2]; exact HV.out) | (rw [hw2, hw1]; exact HV.out) | (rw [hw1]; exact HV.out) | (rw [hw2]; exact HV.out))) ?_; rintro e w3 ⟨rfl, hb⟩; have HD := amk hb; clear hb)
          go_ret
          have hk : keyB a0 a1 = false := by
            unfold keyB
            rw [List.all_eq_false]
            exact ⟨i, List.mem_range.mpr hi, by rw [decide_eq_false HX.out]; simp⟩
          exact ⟨by rw [hk]; rfl, (HW.out.2.alloc HW.out.2.size _).trans (HD.out.below.mono (by have := HW.out.1; show w.heap.size ≤ (W.heap.push _).size; rw [Array.size_push]; omega))⟩
      · have hnx : ∀ ty, (Instr.next (.pointer (some ⟨w.heap.size, 0, none⟩)) true ty).run Try.prog (W.iter a1 i) = .ok (.tuple #[.bool false]) (W.iter a1 i) := by
          intro ty
          have := run_next_end (P := Try.prog) W a1 i ty hi
          rw [HW.out.1] at this
          exact this
        go_wp2
        go_ret
        have hk : keyB a0 a1 = true := by
          unfold keyB
          rw [List.all_eq_true]
          intro j hj
          exact decide_eq_true (HJ.out j (by have := List.mem_range.mp hj; have := HI.out; omega))
        exact ⟨by rw [hk]; rfl, HW.out.2.alloc HW.out.2.size _⟩
  · rw [if_neg hc] at h; cases h
/-! ### spec_keIs: function 37 -/
def spec_keIs.f (a0_0 : Int) (l0_1 : List (List Int)) (a1 : ByteArray) : Option (Bool) := if (a1.size : Int) = (l0_1.length : Int) then ((spec_keKey.f a0_0 a1).bind fun t135 => (some t135)) else (some false)
set_option maxHeartbeats 8000000 in
set_option maxRecDepth 100000 in
theorem spec_keIs.calls (a0_0 : Int) (A0_1 : Option Addr) (c0_1 : Nat) (l0_1 : List (List Int)) (a1 : ByteArray) (r : Bool) (w : World) (hr0_1 : Kd.C (Kd.slice 3 (Kd.int .i64)) w A0_1 l0_1.length l0_1) (hc0_1 : l0_1.length ≤ c0_1) (h : spec_keIs.f a0_0 l0_1 a1 = some r) :
    Calls Try.prog 37 #[.agg #[.int .i64 a0_0, .slice A0_1 l0_1.length c0_1], .string a1] w fun e w' => e = .returned (.bool r) ∧ Below w.heap.size w w' := by
  have hu24 := Try.underlying24
  have HR0_1 := amk hr0_1
  have HC0_1 := amk hc0_1
  clear hr0_1 hc0_1
  have HB := amk (Below.refl w.heap.size w)
  have H : (if (a1.size : Int) = (l0_1.length : Int) then ((spec_keKey.f a0_0 a1).bind fun t135 => (some t135)) else (some false)) = some r := h
  clear h
  by_cases c3 : (a1.size : Int) = (l0_1.length : Int)
  · rw [if_pos c3] at H
    have c3b0 : ((a1.size : Int) == (l0_1.length : Int)) = true := beq_iff_eq.mpr c3
    have c3b1 : ((a1.size : Int) != (l0_1.length : Int)) = false := bne_eq_false_iff_eq.mpr c3
    have c3b2 : (a1.size == l0_1.length) = true := by first | simpa using c3 | (simp at c3 ⊢; omega)
    clear c3
    replace H := bE H
    obtain ⟨t135, A4, H⟩ := H
    obtain rfl := Option.some.inj H
    go_enter Try.func37, Try.ntmps37
    go_wp2_with (first | ((with_reducible refine gate_dst (N := 2) rfl ?_); refine boxE_ HB 2 #[.int .i64 a0_0, .slice A0_1 l0_1.length c0_1] 24 ?_; clear HB; intro gb134 w5 HB BK134 GW134 GE134 hb; clear hb; obtain ⟨hcz6_0, hcz6_1, hfz6_0, hfz6_1, _⟩ := two_cells BK134.out) | (go_at_call 65; (with_reducible refine (spec_keKey.calls a0_0 a1 t135 _ A4.out).mono ?_); rintro e w7 ⟨rfl, hb⟩; replace BK134 := kb2 BK134 hb; replace HB := hB2 HB hb; (try clear hb)))
    go_ret
    exact ⟨rF_, bB⟩
  · rw [if_neg c3] at H
    have c3b0 : ((a1.size : Int) == (l0_1.length : Int)) = false := beq_eq_false_iff_ne.mpr c3
    have c3b1 : ((a1.size : Int) != (l0_1.length : Int)) = true := bne_iff_ne.mpr c3
    have c3b2 : (a1.size == l0_1.length) = false := by first | simpa using c3 | (simp at c3 ⊢; omega)
    obtain rfl := Option.some.inj H
    go_enter Try.func37, Try.ntmps37
    go_wp2_with (first | ((with_reducible refine gate_dst (N := 2) rfl ?_); refine boxE_ HB 2 #[.int .i64 a0_0, .slice A0_1 l0_1.length c0_1] 24 ?_; clear HB; intro gb134 w8 HB BK134 GW134 GE134 hb; clear hb; obtain ⟨hcz9_0, hcz9_1, hfz9_0, hfz9_1, _⟩ := two_cells BK134.out))
    go_ret
    exact ⟨rF_, bB⟩
/-! ### spec_keOpens: function 38 -/
def spec_keOpens.l0 : Nat → ByteArray → List (List Int) → Int → Int → Option (Bool)
  | 0, _, _, _, _ => none
  | k + 1, x1, x8, x9, x10 => if x10 < x9 then (if 0 ≤ x10 then (if x10 < (x8.length : Int) then (if x10 < (x1.size : Int) then ((spec_l1Has.f k (rd_L1 x8 x10) (wrap64 ((wrap64 (bt x1 x10)) - 48))).bind fun t139 => (if t139 = true then (spec_keOpens.l0 k x1 x8 x9 (wrap64 (x10 + 1))) else (some false))) else (none)) else (none)) else (none)) else (some true)
def spec_keOpens.f (k : Nat) (a0_0 : Int) (l0_1 : List (List Int)) (a1 : ByteArray) : Option (Bool) := spec_keOpens.l0 k a1 l0_1 (l0_1.length : Int) 0
set_option maxHeartbeats 8000000 in
set_option maxRecDepth 100000 in
theorem spec_keOpens.calls (k : Nat) (a0_0 : Int) (A0_1 : Option Addr) (c0_1 : Nat) (l0_1 : List (List Int)) (a1 : ByteArray) (r : Bool) (w : World) (hr0_1 : Kd.C (Kd.slice 3 (Kd.int .i64)) w A0_1 l0_1.length l0_1) (hc0_1 : l0_1.length ≤ c0_1) (h : spec_keOpens.f k a0_0 l0_1 a1 = some r) :
    Calls Try.prog 38 #[.agg #[.int .i64 a0_0, .slice A0_1 l0_1.length c0_1], .string a1] w fun e w' => e = .returned (.bool r) ∧ Below w.heap.size w w' := by
  have hu24 := Try.underlying24
  have HR0_1 := amk hr0_1
  have HC0_1 := amk hc0_1
  clear hr0_1 hc0_1
  have HB := amk (Below.refl w.heap.size w)
  have H : (spec_keOpens.l0 k a1 l0_1 (l0_1.length : Int) 0) = some r := h
  clear h
  have H' := amk H
  clear H
  go_enter Try.func38, Try.ntmps38
  go_wp2_with (first | ((with_reducible refine gate_dst (N := 2) rfl ?_); refine boxE_ HB 2 #[.int .i64 a0_0, .slice A0_1 l0_1.length c0_1] 24 ?_; clear HB; intro gb137 w3 HB BK137 GW137 GE137 hb; clear hb; obtain ⟨hcz4_0, hcz4_1, hfz4_0, hfz4_1, _⟩ := two_cells BK137.out))
  go_loopg [10] k (fun kq v10 w' => ∃ (x10_1 : Int), v10 = .int .i64 x10_1 ∧ Aside0 (spec_keOpens.l0 kq a1 l0_1 (l0_1.length : Int) x10_1 = some r) ∧ Aside0 (kq ≤ k) ∧ Aside0 (w'.heap[gb137]? = some (.cells #[.int .i64 a0_0, (.slice A0_1 l0_1.length c0_1)] 24 (0, 0))) ∧ Aside0 (Below w.heap.size w w'))
  case atStart => exact ⟨(0), rS_, H', ⟨Nat.le_refl _⟩, ⟨kB BK137⟩, ⟨bB⟩⟩
  case round =>
    clear H'
    try clear p2; try clear c3; try clear hcz4_0; try clear hcz4_1; try clear hfz4_0; try clear hfz4_1
    obtain ⟨x10_1, rfl, HA, HK1, BK137, HB⟩ := hrel
    cases gk with
    | zero => exact absurd HA.out (by simp [spec_keOpens.l0])
    | succ k1 =>
      have H := HA.out
      clear HA
      simp only [spec_keOpens.l0] at H
      replace H := iteE H; obtain ⟨c5b0, H⟩ | ⟨c5b0, H⟩ := H
      · replace H := iteN H; obtain ⟨c6b0, H⟩ := H
        replace H := iteN H; obtain ⟨c7b0, H⟩ := H
        replace H := iteN H; obtain ⟨c8b0, H⟩ := H
        replace H := bE H
        obtain ⟨t139, A10, H⟩ := H
        replace H := iteB H; obtain ⟨rfl, H⟩ | ⟨rfl, H⟩ := H
        · have H' := amk H
          clear H
          obtain ⟨p138, q138, ad138, A138_0, c138_0, e138, hx138_0, HC138_0, HR138_0⟩ := at_L1q HR0_1 HB x10_1
          cases e138
          have p9 : 0 ≤ (x10_1 : Int) := dA_
          have q9 : x10_1 < (a1.size : Int) := dA_
          have hx9 := bt_at a1 x10_1
          replace p9 := eq_true p9
          replace q9 := eq_true q9
          go_wp2_with (first | (refine gc_ 66 21 Try.func66 #[.slice A138_0 (rd_L1 l0_1 x10_1).length c138_0, .int .i64 (wrap64 ((wrap64 (bt a1 x10_1)) - 48))] ?_; (with_reducible refine (spec_l1Has.calls k1 _ _ (rd_L1 l0_1 x10_1) (wrap64 ((wrap64 (bt a1 x10_1)) - 48)) true _ ?_ ?_ A10.out).mono ?_); exact cB (Kd.C_below HR138_0.out HB.out); exact HC138_0.out; rintro e w' ⟨rfl, ⟨nd, rfl⟩⟩; refine ⟨_, rfl, ?_⟩))
          go_roundg k1
          case measure => have := HK1.out; omega
          case rel => exact ⟨(wrap64 (x10_1 + 1)), rS_, H', ⟨by have := HK1.out; omega⟩, ⟨kB BK137⟩, ⟨bB⟩⟩
        · obtain rfl := Option.some.inj H
          obtain ⟨p138, q138, ad138, A138_0, c138_0, e138, hx138_0, HC138_0, HR138_0⟩ := at_L1q HR0_1 HB x10_1
          cases e138
          have p9 : 0 ≤ (x10_1 : Int) := dA_
          have q9 : x10_1 < (a1.size : Int) := dA_
          have hx9 := bt_at a1 x10_1
          replace p9 := eq_true p9
          replace q9 := eq_true q9
          go_wp2_with (first | (refine gc_ 66 21 Try.func66 #[.slice A138_0 (rd_L1 l0_1 x10_1).length c138_0, .int .i64 (wrap64 ((wrap64 (bt a1 x10_1)) - 48))] ?_; (with_reducible refine (spec_l1Has.calls k1 _ _ (rd_L1 l0_1 x10_1) (wrap64 ((wrap64 (bt a1 x10_1)) - 48)) false _ ?_ ?_ A10.out).mono ?_); exact cB (Kd.C_below HR138_0.out HB.out); exact HC138_0.out; rintro e w' ⟨rfl, ⟨nd, rfl⟩⟩; refine ⟨_, rfl, ?_⟩))
          go_ret
          exact ⟨rF_, bB⟩
      · obtain rfl := Option.some.inj H
        go_wp2
        go_ret
        exact ⟨rF_, bB⟩
/-! ### spec_DoesOpen: function 6 -/
def spec_DoesOpen.f (k : Nat) (a0_0 : Int) (l0_1 : List (List Int)) (a1 : ByteArray) : Option (Bool × Bool) := (spec_keGood.f k a0_0 l0_1).bind fun t141 => (if t141 = true then ((spec_keIs.f a0_0 l0_1 a1).bind fun t142 => (if t142 = true then ((spec_keOpens.f k a0_0 l0_1 a1).bind fun t143 => (some (t143, true))) else (some (false, false)))) else (some (false, false)))
set_option maxHeartbeats 8000000 in
set_option maxRecDepth 100000 in
theorem spec_DoesOpen.calls (k : Nat) (a0_0 : Int) (A0_1 : Option Addr) (c0_1 : Nat) (l0_1 : List (List Int)) (a1 : ByteArray) (r1 : Bool) (r2 : Bool) (w : World) (hr0_1 : Kd.C (Kd.slice 3 (Kd.int .i64)) w A0_1 l0_1.length l0_1) (hc0_1 : l0_1.length ≤ c0_1) (h : spec_DoesOpen.f k a0_0 l0_1 a1 = some (r1, r2)) :
    Calls Try.prog 6 #[.agg #[.int .i64 a0_0, .slice A0_1 l0_1.length c0_1], .string a1] w fun e w' => e = .returned (.tuple #[.bool r1, .bool r2]) ∧ Below w.heap.size w w' := by
  have hu24 := Try.underlying24
  have HR0_1 := amk hr0_1
  have HC0_1 := amk hc0_1
  clear hr0_1 hc0_1
  have HB := amk (Below.refl w.heap.size w)
  have H : ((spec_keGood.f k a0_0 l0_1).bind fun t141 => (if t141 = true then ((spec_keIs.f a0_0 l0_1 a1).bind fun t142 => (if t142 = true then ((spec_keOpens.f k a0_0 l0_1 a1).bind fun t143 => (some (t143, true))) else (some (false, false)))) else (some (false, false)))) = some (r1, r2) := h
  clear h
  replace H := bE H
  obtain ⟨t141, A3, H⟩ := H
  replace H := iteB H; obtain ⟨rfl, H⟩ | ⟨rfl, H⟩ := H
  · replace H := Option.bind_eq_some_iff.mp H
    obtain ⟨t142, A50, H⟩ := H
    replace H : (if t142 = true then ((spec_keOpens.f k a0_0 l0_1 a1).bind fun t143 => (some (t143, true))) else (some (false, false))) = some (r1, r2) := H
    have A5 := amk A50
    clear A50
    replace H := iteB H; obtain ⟨rfl, H⟩ | ⟨rfl, H⟩ := H
    · replace H := Option.bind_eq_some_iff.mp H
      obtain ⟨t143, A70, H⟩ := H
      replace H : (some (t143, true)) = some (r1, r2) := H
      have A7 := amk A70
      clear A70
      simp only [Option.some.injEq, Prod.mk.injEq] at H
      obtain ⟨rfl, rfl⟩ := H
      go_enter Try.func6, Try.ntmps6
      go_wp2_with (first | ((with_reducible refine gate_dst (N := 2) rfl ?_); refine boxE_ HB 2 #[.int .i64 a0_0, .slice A0_1 l0_1.length c0_1] 24 ?_; clear HB; intro gb140 w8 HB BK140 GW140 GE140 hb; clear hb; obtain ⟨hcz9_0, hcz9_1, hfz9_0, hfz9_1, _⟩ := two_cells BK140.out) | (refine gc_ 36 7 Try.func36 #[.agg #[.int .i64 a0_0, .slice A0_1 l0_1.length c0_1]] ?_; (with_reducible refine (spec_keGood.calls k a0_0 _ _ l0_1 true _ ?_ ?_ A3.out).mono ?_); exact cB (Kd.C_below HR0_1.out HB.out); exact HC0_1.out; rintro e w10 ⟨rfl, hb⟩; refine ⟨_, rfl, ?_⟩; replace BK140 := kb2 BK140 hb; replace HB := hB2 HB hb; (try clear hb); obtain ⟨hcz11_0, hcz11_1, hfz11_0, hfz11_1, _⟩ := two_cells BK140.out) | (go_at_call 37; (with_reducible refine (spec_keIs.calls a0_0 _ _ l0_1 a1 true _ ?_ ?_ A5.out).mono ?_); exact cB (Kd.C_below HR0_1.out HB.out); exact HC0_1.out; rintro e w12 ⟨rfl, hb⟩; replace BK140 := kb2 BK140 hb; replace HB := hB2 HB hb; (try clear hb); obtain ⟨hcz13_0, hcz13_1, hfz13_0, hfz13_1, _⟩ := two_cells BK140.out) | (refine gc_ 38 17 Try.func38 #[.agg #[.int .i64 a0_0, .slice A0_1 l0_1.length c0_1], .string a1] ?_; (with_reducible refine (spec_keOpens.calls k a0_0 _ _ l0_1 a1 t143 _ ?_ ?_ A7.out).mono ?_); exact cB (Kd.C_below HR0_1.out HB.out); exact HC0_1.out; rintro e w14 ⟨rfl, hb⟩; refine ⟨_, rfl, ?_⟩; replace BK140 := kb2 BK140 hb; replace HB := hB2 HB hb; (try clear hb)))
      go_ret2
      exact ⟨rF_, bB⟩
    · simp only [Option.some.injEq, Prod.mk.injEq] at H
      obtain ⟨rfl, rfl⟩ := H
      go_enter Try.func6, Try.ntmps6
      go_wp2_with (first | ((with_reducible refine gate_dst (N := 2) rfl ?_); refine boxE_ HB 2 #[.int .i64 a0_0, .slice A0_1 l0_1.length c0_1] 24 ?_; clear HB; intro gb140 w15 HB BK140 GW140 GE140 hb; clear hb; obtain ⟨hcz16_0, hcz16_1, hfz16_0, hfz16_1, _⟩ := two_cells BK140.out) | (refine gc_ 36 7 Try.func36 #[.agg #[.int .i64 a0_0, .slice A0_1 l0_1.length c0_1]] ?_; (with_reducible refine (spec_keGood.calls k a0_0 _ _ l0_1 true _ ?_ ?_ A3.out).mono ?_); exact cB (Kd.C_below HR0_1.out HB.out); exact HC0_1.out; rintro e w17 ⟨rfl, hb⟩; refine ⟨_, rfl, ?_⟩; replace BK140 := kb2 BK140 hb; replace HB := hB2 HB hb; (try clear hb); obtain ⟨hcz18_0, hcz18_1, hfz18_0, hfz18_1, _⟩ := two_cells BK140.out) | (go_at_call 37; (with_reducible refine (spec_keIs.calls a0_0 _ _ l0_1 a1 false _ ?_ ?_ A5.out).mono ?_); exact cB (Kd.C_below HR0_1.out HB.out); exact HC0_1.out; rintro e w19 ⟨rfl, hb⟩; replace BK140 := kb2 BK140 hb; replace HB := hB2 HB hb; (try clear hb)))
      go_ret2
      exact ⟨rF_, bB⟩
  · simp only [Option.some.injEq, Prod.mk.injEq] at H
    obtain ⟨rfl, rfl⟩ := H
    go_enter Try.func6, Try.ntmps6
    go_wp2_with (first | ((with_reducible refine gate_dst (N := 2) rfl ?_); refine boxE_ HB 2 #[.int .i64 a0_0, .slice A0_1 l0_1.length c0_1] 24 ?_; clear HB; intro gb140 w20 HB BK140 GW140 GE140 hb; clear hb; obtain ⟨hcz21_0, hcz21_1, hfz21_0, hfz21_1, _⟩ := two_cells BK140.out) | (refine gc_ 36 7 Try.func36 #[.agg #[.int .i64 a0_0, .slice A0_1 l0_1.length c0_1]] ?_; (with_reducible refine (spec_keGood.calls k a0_0 _ _ l0_1 false _ ?_ ?_ A3.out).mono ?_); exact cB (Kd.C_below HR0_1.out HB.out); exact HC0_1.out; rintro e w22 ⟨rfl, hb⟩; refine ⟨_, rfl, ?_⟩; replace BK140 := kb2 BK140 hb; replace HB := hB2 HB hb; (try clear hb)))
    go_ret2
    exact ⟨rF_, bB⟩
/-! ### spec_GhostKeys: function 23 -/
mutual
def spec_GhostKeys.l0 : Nat → List (S24) → Int → Int → Option (Int × Bool)
  | 0, _, _, _ => none
  | k + 1, x0, x4, x5 => if x5 < (shl .i64 1 (x0.length : Int)) then (spec_GhostKeys.l1 k x0 x4 x5 ([] : List (S24)) x0 (x0.length : Int) 0) else (some (x4, true))
def spec_GhostKeys.l1 : Nat → List (S24) → Int → Int → List (S24) → List (S24) → Int → Int → Option (Int × Bool)
  | 0, _, _, _, _, _, _, _ => none
  | k + 1, x0, x4, x5, x6, x23, x24, x25 => if x25 < x24 then (if 0 ≤ x25 then (if x25 < (x23.length : Int) then (if (Int.tmod (shr .i64 x5 x25) 2) = 1 then (if x6.length < 4398046511104 then (spec_GhostKeys.l1 k x0 x4 x5 (x6 ++ [(⟨(rd_T24 x23 x25).f0, (rd_T24 x23 x25).f1⟩ : S24)]) x23 x24 (wrap64 (x25 + 1))) else (none)) else (spec_GhostKeys.l1 k x0 x4 x5 x6 x23 x24 (wrap64 (x25 + 1)))) else (none)) else (none)) else ((spec_keJoined.f k x6 true).bind fun bt335 => ((spec_keCount.f k bt335.1 bt335.2).bind fun t339 => (if ((x6.length : Int) % 2) = 1 then (spec_GhostKeys.l0 k x0 (wrap64 (x4 - t339)) (wrap64 (x5 + 1))) else (spec_GhostKeys.l0 k x0 (wrap64 (x4 + t339)) (wrap64 (x5 + 1))))))
end
def spec_GhostKeys.f (k : Nat) (l0 : List (S24)) : Option (Int × Bool) := (spec_keList.f k l0).bind fun t324 => (if t324 = true then ((spec_keJoined.f k l0 false).bind fun bt325 => ((spec_keCount.f k bt325.1 bt325.2).bind fun t329 => (spec_GhostKeys.l0 k l0 t329 1))) else (some (0, false)))
set_option maxHeartbeats 8000000 in
set_option maxRecDepth 100000 in
theorem spec_GhostKeys.calls (k : Nat) (P0_ : Nat → Prop) (A0 : Option Addr) (c0 : Nat) (l0 : List (S24)) (r1 : Int) (r2 : Bool) (w : World) (hs0 : Kd.V k24 24 w w.heap.size (fun k_ => P0_ k_) (.slice A0 l0.length c0) l0) (h : spec_GhostKeys.f k l0 = some (r1, r2)) :
    Calls Try.prog 23 #[.slice A0 l0.length c0] w fun e w' => e = .returned (.tuple #[.int .i64 r1, .bool r2]) ∧ Below w.heap.size w w' := by
  have hu24 := Try.underlying24
  have HO0 := amk (show Kd.V k24 24 w w.heap.size (fun k_ => (P0_ k_ ∨ w.heap.size ≤ k_)) (.slice A0 l0.length c0) l0 from Kd.V_mono hs0 (fun k_ hk => .inl hk))
  have HB := amk (Below.refl w.heap.size w)
  have H : ((spec_keList.f k l0).bind fun t324 => (if t324 = true then ((spec_keJoined.f k l0 false).bind fun bt325 => ((spec_keCount.f k bt325.1 bt325.2).bind fun t329 => (spec_GhostKeys.l0 k l0 t329 1))) else (some (0, false)))) = some (r1, r2) := h
  clear h
  replace H := bE H
  obtain ⟨t324, A2, H⟩ := H
  replace H := iteB H; obtain ⟨rfl, H⟩ | ⟨rfl, H⟩ := H
  · replace H := Option.bind_eq_some_iff.mp H
    obtain ⟨⟨t325, t326⟩, A40, H⟩ := H
    replace H : ((spec_keCount.f k t325 t326).bind fun t329 => (spec_GhostKeys.l0 k l0 t329 1)) = some (r1, r2) := H
    have A4 := amk A40
    clear A40
    replace H := bE H
    obtain ⟨t329, A5, H⟩ := H
    have H' := amk H
    clear H
    go_enter Try.func23, Try.ntmps23
    go_wp2_with (first | (refine gc_ 49 11 Try.func49 #[.slice A0 l0.length c0] ?_; (with_reducible refine (spec_keList.calls k _ _ l0 true _ ?_ ?_ A2.out).mono ?_); exact cB ((Kd.V_reads' HO0.out).2.2); exact (Kd.V_reads' HO0.out).2.1; rintro e w6 ⟨rfl, hb⟩; refine ⟨_, rfl, ?_⟩; replace HO0 := amk (Kd.V_below (oX HO0) hb); replace HB := hB2 HB hb; (try clear hb)) | (refine gc_ 50 14 Try.func50 #[.slice A0 l0.length c0, .bool false] ?_; (with_reducible refine (spec_keJoined.calls k _ _ l0 false t325 t326 _ ?_ ?_ A4.out).mono ?_); exact cB ((Kd.V_reads' HO0.out).2.2); exact (Kd.V_reads' HO0.out).2.1; rintro e w7 ⟨v327, rfl, ho0, hb⟩; refine ⟨_, rfl, ?_⟩; replace HO0 := amk (Kd.V_elder' (oX HO0) (by first | exact Kd.N_base ho0 | exact Kd.S_base ho0 | exact Kd.R_base ho0) hb); have HO328 := amk (Kd.N_lower (Kd.N_mono (ok' := fun k_ => (P0_ k_ ∨ w.heap.size ≤ k_)) (Kd.S_N (Kd.S_bound ho0)) (fun k_ hk_ => (.inr (Nat.le_trans (below_size bB) hk_.2.1)))) (below_size bB)); replace HB := hB2 HB hb; (try clear hb); (try clear ho0); obtain ⟨Ao8, co8, eo8⟩ := Kd.N_slice HO328.out; subst eo8) | (refine gc_ 40 15 Try.func40 #[.agg #[.int .i64 t325, .slice Ao8 t326.length co8]] ?_; (with_reducible refine (spec_keCount.calls k t325 _ _ t326 t329 _ ?_ ?_ A5.out).mono ?_); exact cB ((Kd.N_reads' HO328.out).2.2); exact (Kd.N_reads' HO328.out).2.1; rintro e w9 ⟨rfl, hb⟩; refine ⟨_, rfl, ?_⟩; replace HO0 := amk (Kd.V_below (oX HO0) hb); replace HO328 := amk (Kd.N_below (oX HO328) hb); replace HB := hB2 HB hb; (try clear hb)))
    go_loopg [4, 5] k (fun kq v4 v5 w' => ∃ (x4_1 : Int) (x5_1 : Int), v4 = .int .i64 x4_1 ∧ v5 = .int .i64 x5_1 ∧ Aside0 (spec_GhostKeys.l0 kq l0 x4_1 x5_1 = some (r1, r2)) ∧ Aside0 (kq ≤ k) ∧ Aside0 (Kd.V k24 24 w' w.heap.size (fun k_ => (P0_ k_ ∨ w.heap.size ≤ k_)) (.slice A0 l0.length c0) l0) ∧ Aside0 (Below w.heap.size w w'))
    case atStart => exact ⟨(t329), (1), rS_, rS_, H', ⟨Nat.le_refl _⟩, ⟨by (with_reducible repeat (first | apply Kd.V_alloc | apply Kd.V_drewN | apply Kd.V_drew)); exact Kd.V_mono HO0.out (fun _ hk => hk.1)⟩, ⟨bB⟩⟩
    case round =>
      clear H'
      try clear c2; try clear p2; try clear c3; try clear c4; try clear c5
      obtain ⟨x4_1, x5_1, rfl, rfl, HA, HK1, HO_0, HB⟩ := hrel
      cases gk with
      | zero => exact absurd HA.out (by simp [spec_GhostKeys.l0])
      | succ k1 =>
        have H := HA.out
        clear HA
        simp only [spec_GhostKeys.l0] at H
        obtain ⟨ji10, hji10⟩ : ∃ j_ : Int, (shl .i64 1 (l0.length : Int)) = j_ := ⟨_, rfl⟩
        replace H : (if x5_1 < (ji10) then (spec_GhostKeys.l1 k1 l0 x4_1 x5_1 ([] : List (S24)) l0 (l0.length : Int) 0) else (some (x4_1, true))) = some (r1, r2) := by first | (rw [hji10] at H; exact H) | (simp only [hji10] at H ⊢; exact H)
        have hji10_ : (IntKind.i64.wrap (1 * 2 ^ min (l0.length : Int).toNat 64)) = ji10 := hji10
        have hji10z : (l0.length : Int) ≤ 64 → (IntKind.i64.wrap (1 * 2 ^ (l0.length : Int).toNat)) = ji10 := shl_small hji10
        have hji10p : (IntKind.i64.wrap (1 * 2 ^ min l0.length 64)) = ji10 := hji10_
        have hji10q : (l0.length : Int) ≤ 64 → (IntKind.i64.wrap (1 * 2 ^ l0.length)) = ji10 := hji10z
        have hji10r : (IntKind.i64.wrap (2 ^ min l0.length 64)) = ji10 := by have h_ := hji10p; rw [Int.one_mul] at h_; exact h_
        have hji10s : (l0.length : Int) ≤ 64 → (IntKind.i64.wrap (2 ^ l0.length)) = ji10 := fun hle_ => by have h_ := hji10q hle_; rw [Int.one_mul] at h_; exact h_
        have hji10u : (IntKind.i64.wrap (2 ^ min (l0.length : Int).toNat 64)) = ji10 := by have h_ := hji10_; rw [Int.one_mul] at h_; exact h_
        have hji10v : (l0.length : Int) ≤ 64 → (IntKind.i64.wrap (2 ^ (l0.length : Int).toNat)) = ji10 := fun hle_ => by have h_ := hji10z hle_; rw [Int.one_mul] at h_; exact h_
        have hji10y : (wrap64 (1 * 2 ^ min (l0.length : Int).toNat 64)) = ji10 := (i64_w _).symm.trans hji10_
        have hji10x : (l0.length : Int) ≤ 64 → (wrap64 (1 * 2 ^ (l0.length : Int).toNat)) = ji10 := fun h_ => (i64_w _).symm.trans (hji10z h_)
        replace H := iteE H; obtain ⟨c11b0, H⟩ | ⟨c11b0, H⟩ := H
        · have H' := amk H
          clear H
          go_wp2
          go_loopg [6, 25] k1 (fun kq v6 v25 w' => ∃ (x6_2 : List (S24)) (x25_2 : Int), v25 = .int .i64 x25_2 ∧ Aside0 (spec_GhostKeys.l1 kq l0 x4_1 x5_1 x6_2 l0 (l0.length : Int) x25_2 = some (r1, r2)) ∧ Aside0 (kq ≤ k1) ∧ Aside0 (Kd.V k24 24 w' w.heap.size (fun k_ => (P0_ k_ ∨ w.heap.size ≤ k_) ∧ some k_ ≠ (v6 : Value).ownBlock) (.slice A0 l0.length c0) l0) ∧ Aside0 (Kd.N k24 24 w' w.heap.size (fun k_ => (P0_ k_ ∨ w.heap.size ≤ k_)) v6 x6_2) ∧ Aside0 (Kd.V k24 24 w' w.heap.size (fun k_ => (P0_ k_ ∨ w.heap.size ≤ k_) ∧ some k_ ≠ (v6 : Value).ownBlock) (.slice A0 l0.length c0) l0) ∧ Aside0 (Below w.heap.size w w'))
          case atStart => exact ⟨(([] : List (S24))), (0), rS_, H', ⟨Nat.le_refl _⟩, ⟨by (with_reducible repeat (first | apply Kd.V_alloc | apply Kd.V_drewN | apply Kd.V_drew)); exact Kd.V_mono HO_0.out (fun _ hk => ⟨hk, (by simp [Value.ownBlock])⟩)⟩, ⟨xN_⟩, ⟨by (with_reducible repeat (first | apply Kd.V_alloc | apply Kd.V_drewN | apply Kd.V_drew)); exact Kd.V_mono HO_0.out (fun _ hk => ⟨hk, (by simp [Value.ownBlock])⟩)⟩, ⟨bB⟩⟩
          case round =>
            clear H'
            try clear c1; try clear c2; try clear p2; try clear c3; try clear c4; try clear c5; try clear p6; try clear c11; try clear c11b0; try clear p2
            obtain ⟨x6_2, x25_2, rfl, HA, HK2, HO_0, HO_6, HO_23, HB⟩ := hrel
            cases gk with
            | zero => exact absurd HA.out (by simp [spec_GhostKeys.l1])
            | succ k2 =>
              have H := HA.out
              clear HA
              simp only [spec_GhostKeys.l1] at H
              replace H := iteE H; obtain ⟨c12b0, H⟩ | ⟨c12b0, H⟩ := H
              · replace H := iteN H; obtain ⟨c13b0, H⟩ := H
                replace H := iteN H; obtain ⟨c14b0, H⟩ := H
                have c15b0 := eq_true (dA_ : 0 ≤ x25_2)
                obtain ⟨ji16, hji16⟩ : ∃ j_ : Int, (shr .i64 x5_1 x25_2) = j_ := ⟨_, rfl⟩
                replace H : (if (Int.tmod (ji16) 2) = 1 then (if x6_2.length < 4398046511104 then (spec_GhostKeys.l1 k2 l0 x4_1 x5_1 (x6_2 ++ [(⟨(rd_T24 l0 x25_2).f0, (rd_T24 l0 x25_2).f1⟩ : S24)]) l0 (l0.length : Int) (wrap64 (x25_2 + 1))) else (none)) else (spec_GhostKeys.l1 k2 l0 x4_1 x5_1 x6_2 l0 (l0.length : Int) (wrap64 (x25_2 + 1)))) = some (r1, r2) := by first | (rw [hji16] at H; exact H) | (simp only [hji16] at H ⊢; exact H)
                have hji16_ : (x5_1 / 2 ^ min x25_2.toNat 64) = ji16 := hji16
                have hji16z : x25_2 ≤ 64 → (x5_1 / 2 ^ x25_2.toNat) = ji16 := shr_small hji16
                by_cases c17 : (Int.tmod (ji16) 2) = 1
                · rw [if_pos c17] at H
                  have c17b0 : ((Int.tmod (ji16) 2) == 1) = true := beq_iff_eq.mpr c17
                  have c17b1 : ((Int.tmod (ji16) 2) != 1) = false := bne_eq_false_iff_eq.mpr c17
                  clear c17
                  by_cases c18 : x6_2.length < 4398046511104
                  · rw [if_pos c18] at H
                    have LMc18 := amk c18
                    clear c18
                    obtain ⟨y332, hy332⟩ : ∃ y_ : List (S24), y_ = (x6_2 ++ [(⟨(rd_T24 l0 x25_2).f0, (rd_T24 l0 x25_2).f1⟩ : S24)]) := ⟨_, rfl⟩
                    replace H : (spec_GhostKeys.l1 k2 l0 x4_1 x5_1 y332 l0 (l0.length : Int) (wrap64 (x25_2 + 1))) = some (r1, r2) := by first | (rw [hy332]; with_reducible exact H) | (have H2_ := (Option.bind_some _ _).symm.trans H; rw [hy332]; with_reducible exact H2_) | (have H2_ := (Option.bind_some _ _).symm.trans H; with_reducible exact H2_) | with_reducible exact H | (rw [hy332]; exact H) | exact H
                    have Ny332 := amk hy332
                    clear hy332
                    have H' := amk H
                    clear H
                    have p330 : 0 ≤ (x25_2 : Int) := dA_
                    have q330 : x25_2 < (l0.length : Int) := dA_
                    obtain ⟨ad330, A330_1, c330_1, e330, hx330_0, hx330_1, hl330_1, hi330_1⟩ := at_T24 (Kd.V_reads' HO_23.out).2.2 x25_2 p330 q330
                    cases e330
                    obtain ⟨ce330, hce330, hMe330, hcc330⟩ := Kd.V_get HO_23.out z24 x25_2 p330 (by first | exact q330 | exact dA_ | (have e_ := (Kd.V_reads' HO_23.out).1; omega))
                    obtain ⟨ua330_1, uc330_1, rfl, ul330_1, ge330_1⟩ := k24_openF hMe330
                    have hv330_1 := hcc330 1 _ rfl
                    rw [add_field _ _ 1 (by omega)] at hv330_1
                    replace hv330_1 := Option.some.inj (hv330_1.symm.trans hx330_1)
                    injection hv330_1 with hva_ hvn_ hvc_
                    rw [hva_] at ge330_1
                    rw [hvc_] at ul330_1
                    have HL330_1 := amk (show Kd.V (Kd.slice 3 (Kd.int .i64)) 52 _ w.heap.size _ _ ((rd_T24 l0 x25_2).f1) from Kd.V_mk ul330_1 ge330_1)
                    clear hva_ hvn_ hvc_ ge330_1 ul330_1
                    clear hcc330 hce330
                    have HR330_1 := amk hi330_1
                    have HC330_1 := amk hl330_1
                    clear hi330_1 hl330_1
                    replace p330 := eq_true p330
                    replace q330 := eq_true q330
                    go_wp2_with (first | ((with_reducible refine gate_dst (N := 8) rfl ?_); refine boxG_ 8 #[.int .i64 0, .slice none 0 0] 24 ?_; intro gb331 w19 hg BK331 hb; replace HO_0 := amk (Kd.V_below (Kd.V_elderB (oX HO_0) gb331 (Nat.le_of_eq hg.symm)) hb); replace HO_6 := amk (Kd.N_below (Kd.N_elderB (oX HO_6) gb331 (Nat.le_of_eq hg.symm)) hb); replace HO_23 := amk (Kd.V_below (Kd.V_elderB (oX HO_23) gb331 (Nat.le_of_eq hg.symm)) hb); replace HL330_1 := amk (Kd.V_below (Kd.V_elderB (oX HL330_1) gb331 (Nat.le_of_eq hg.symm)) hb); replace HR330_1 := amk (Kd.C_below (by repeat (first | (with_reducible exact HR330_1.out) | (with_reducible refine Kd.C_alloc ?_ _) | (with_reducible refine Kd.C_drewN ?_ _) | (with_reducible refine Kd.C_drew ?_) | exact HR330_1.out)) hb); have GW331 := sZ HB hg; have GE331 := sZ HB hg; replace HB := hB2 HB hb; clear hb hg; obtain ⟨hcz20_0, hcz20_1, hfz20_0, hfz20_1, _⟩ := two_cells BK331.out) | ((with_reducible refine gate_store (t := 24) (p := 8) rfl ?_); refine store_event (t := 24) (p := 8) (v := ?vo_w21) (w1 := ((w19.setCell ⟨gb331, 0, none⟩ (.int .i64 ((rd_T24 l0 x25_2).f0))).setCell ⟨gb331, 1, none⟩ (.slice A330_1 ((rd_T24 l0 x25_2).f1).length c330_1))) ?hg ?ho ?hn ?hr ?_; (case ho => rfl); (case hg => rfl); (case hn => rfl); (case hr => first | (go_simp; done) | (go_simp; rfl)); intro w21 hw; replace HO_0 : Aside0 (Kd.V k24 24 w21 w.heap.size (fun k_ => (P0_ k_ ∨ w.heap.size ≤ k_) ∧ some k_ ≠ (u6 : Value).ownBlock ∧ k_ ≠ gb331) (.slice (some ad330) l0.length c0) l0) := ⟨(by rw [hw]; exact (by (with_reducible repeat (first | apply Kd.V_alloc | apply Kd.V_drewN | apply Kd.V_drew)); exact Kd.V_mono (Kd.V_far (p := ⟨gb331, 1, none⟩) (Kd.V_far (p := ⟨gb331, 0, none⟩) (Kd.V_mono HO_0.out (fun k_ hk => (⟨hk, hk.2⟩ : _ ∧ k_ ≠ gb331))) (fun _ hk => hk.2) (.int .i64 ((rd_T24 l0 x25_2).f0))) (fun _ hk => hk.2) (.slice A330_1 ((rd_T24 l0 x25_2).f1).length c330_1)) (fun _ hk => ⟨hk.1.1.1, ⟨hk.1.1.2, hk.1.2⟩⟩)))⟩; replace HO_6 : Aside0 (Kd.N k24 24 w21 w.heap.size (fun k_ => (P0_ k_ ∨ w.heap.size ≤ k_) ∧ k_ ≠ gb331) u6 x6_2) := ⟨(by rw [hw]; exact (by (with_reducible repeat (first | apply Kd.N_alloc | apply Kd.N_drewN | apply Kd.N_drew)); exact Kd.N_mono (Kd.N_far (p := ⟨gb331, 1, none⟩) (Kd.N_far (p := ⟨gb331, 0, none⟩) (Kd.N_mono HO_6.out (fun k_ hk => (⟨hk, hk.2⟩ : _ ∧ k_ ≠ gb331))) (fun _ hk => hk.2) (.int .i64 ((rd_T24 l0 x25_2).f0))) (fun _ hk => hk.2) (.slice A330_1 ((rd_T24 l0 x25_2).f1).length c330_1)) (fun _ hk => ⟨hk.1.1, hk.1.2⟩)))⟩; replace HO_23 : Aside0 (Kd.V k24 24 w21 w.heap.size (fun k_ => (P0_ k_ ∨ w.heap.size ≤ k_) ∧ some k_ ≠ (u6 : Value).ownBlock ∧ k_ ≠ gb331) (.slice (some ad330) l0.length c0) l0) := ⟨(by rw [hw]; exact (by (with_reducible repeat (first | apply Kd.V_alloc | apply Kd.V_drewN | apply Kd.V_drew)); exact Kd.V_mono (Kd.V_far (p := ⟨gb331, 1, none⟩) (Kd.V_far (p := ⟨gb331, 0, none⟩) (Kd.V_mono HO_23.out (fun k_ hk => (⟨hk, hk.2⟩ : _ ∧ k_ ≠ gb331))) (fun _ hk => hk.2) (.int .i64 ((rd_T24 l0 x25_2).f0))) (fun _ hk => hk.2) (.slice A330_1 ((rd_T24 l0 x25_2).f1).length c330_1)) (fun _ hk => ⟨hk.1.1.1, ⟨hk.1.1.2, hk.1.2⟩⟩)))⟩; replace HL330_1 : Aside0 (Kd.V (Kd.slice 3 (Kd.int .i64)) 52 w21 w.heap.size (fun k_ => (P0_ k_ ∨ w.heap.size ≤ k_) ∧ some k_ ≠ (u6 : Value).ownBlock ∧ k_ ≠ gb331) (.slice A330_1 ((rd_T24 l0 x25_2).f1).length c330_1) ((rd_T24 l0 x25_2).f1)) := ⟨(by rw [hw]; exact (by (with_reducible repeat (first | apply Kd.V_alloc | apply Kd.V_drewN | apply Kd.V_drew)); exact Kd.V_mono (Kd.V_far (p := ⟨gb331, 1, none⟩) (Kd.V_far (p := ⟨gb331, 0, none⟩) (Kd.V_mono HL330_1.out (fun k_ hk => (⟨hk, hk.2⟩ : _ ∧ k_ ≠ gb331))) (fun _ hk => hk.2) (.int .i64 ((rd_T24 l0 x25_2).f0))) (fun _ hk => hk.2) (.slice A330_1 ((rd_T24 l0 x25_2).f1).length c330_1)) (fun _ hk => ⟨hk.1.1.1, ⟨hk.1.1.2, hk.1.2⟩⟩)))⟩; replace BK331 : Aside0 (w21.heap[gb331]? = some (.cells #[.int .i64 ((rd_T24 l0 x25_2).f0), .slice A330_1 ((rd_T24 l0 x25_2).f1).length c330_1] 24 (0, 0))) := ⟨(by rw [hw]; exact (by (with_reducible repeat (first | refine kn_ ?_ _ | refine blk_drew ?_ | refine ka_ ?_ _)); refine blk_put (cs := #[.int .i64 ((rd_T24 l0 x25_2).f0), .slice none 0 0]) ?_ 1 _ rfl; (with_reducible repeat (first | refine kn_ ?_ _ | refine blk_drew ?_ | refine ka_ ?_ _)); refine blk_put (cs := #[.int .i64 0, .slice none 0 0]) ?_ 0 _ rfl; (with_reducible repeat (first | refine kn_ ?_ _ | refine blk_drew ?_ | refine ka_ ?_ _)); exact BK331.out))⟩; replace HB : Aside0 (Below w.heap.size w w21) := ⟨(by rw [hw]; exact bB)⟩; clear hw; obtain ⟨hcz22_0, hcz22_1, hfz22_0, hfz22_1, _⟩ := two_cells BK331.out) | ((with_reducible refine gate_builtin (b := .append) (xs := #[.tmp 35, .tmp 37]) rfl ?_); at_builtin; refine Kd.N_append k24 (w0 := w) w.heap.size rfl (.tmp 35) (.tmp 37) 25 24 (.agg #[(.int .i64 0), (.slice none 0 0)]) 32 rfl Try.underlying25 info24 rfl (by decide) (by omega) u6 x6_2 (⟨(rd_T24 l0 x25_2).f0, (rd_T24 l0 x25_2).f1⟩ : S24) [.int .i64 ((rd_T24 l0 x25_2).f0), .slice A330_1 ((rd_T24 l0 x25_2).f1).length c330_1] (fun k_ => (P0_ k_ ∨ w.heap.size ≤ k_) ∧ k_ ≠ gb331) (fun k_ => ((fun k_ => (P0_ k_ ∨ w.heap.size ≤ k_) ∧ k_ ≠ gb331)) k_ ∧ some k_ ≠ (u6 : Value).ownBlock) rfl rfl (k24_mkF _ _ (⟨(rd_T24 l0 x25_2).f0, (rd_T24 l0 x25_2).f1⟩ : S24) (Kd.V_reads' (Kd.V_mono (ok' := (fun k_ => ((fun k_ => (P0_ k_ ∨ w.heap.size ≤ k_) ∧ k_ ≠ gb331)) k_ ∧ some k_ ≠ (u6 : Value).ownBlock)) (HL330_1.out) (fun k_ hk => ⟨⟨hk.1, hk.2.2⟩, hk.2.1⟩))).2.1 (Kd.V_F (Kd.V_mono (ok' := (fun k_ => ((fun k_ => (P0_ k_ ∨ w.heap.size ≤ k_) ∧ k_ ≠ gb331)) k_ ∧ some k_ ≠ (u6 : Value).ownBlock)) (HL330_1.out) (fun k_ hk => ⟨⟨hk.1, hk.2.2⟩, hk.2.1⟩)))) (fun _ hk => hk) (fun k_ hk => ⟨(.inr (Nat.le_trans (below_size bB) hk)), Kd.freshB (g := gb331) (o := .cells #[.int .i64 ((rd_T24 l0 x25_2).f0), .slice A330_1 ((rd_T24 l0 x25_2).f1).length c330_1] 24 (0, 0)) (kB BK331) k_ hk⟩) (oX HO_6) bB (below_size bB) (by have := LMc18.out; omega) ?_; intro v333 w23 ho hb hg hat; rw [← Ny332.out] at ho; replace HO_0 := amk (Kd.V_afterv (ok := (fun k_ => (P0_ k_ ∨ w.heap.size ≤ k_) ∧ k_ ≠ gb331)) (by (with_reducible repeat (first | apply Kd.V_alloc | apply Kd.V_drewN | apply Kd.V_drew)); exact Kd.V_mono HO_0.out (fun _ hk => ⟨⟨hk.1, hk.2.2⟩, hk.2.1⟩)) hg hat); replace HO_23 := amk (Kd.V_afterv (ok := (fun k_ => (P0_ k_ ∨ w.heap.size ≤ k_) ∧ k_ ≠ gb331)) (by (with_reducible repeat (first | apply Kd.V_alloc | apply Kd.V_drewN | apply Kd.V_drew)); exact Kd.V_mono HO_23.out (fun _ hk => ⟨⟨hk.1, hk.2.2⟩, hk.2.1⟩)) hg hat); replace HL330_1 := amk (Kd.V_afterv (ok := (fun k_ => (P0_ k_ ∨ w.heap.size ≤ k_) ∧ k_ ≠ gb331)) (by (with_reducible repeat (first | apply Kd.V_alloc | apply Kd.V_drewN | apply Kd.V_drew)); exact Kd.V_mono HL330_1.out (fun _ hk => ⟨⟨hk.1, hk.2.2⟩, hk.2.1⟩)) hg hat); replace BK331 := bG BK331 hg (Kd.N_away HO_6.out (fun _ hk => hk.2)); replace HB := amk (hb); have HO334 := amk (ho); clear HO_6; clear ho hb hg hat))
                    go_roundg k2
                    case measure => have := HK1.out; have := HK2.out; omega
                    case rel => exact ⟨(y332), (wrap64 (x25_2 + 1)), rS_, H', ⟨by have := HK1.out; have := HK2.out; omega⟩, ⟨by (with_reducible repeat (first | apply Kd.V_alloc | apply Kd.V_drewN | apply Kd.V_drew)); exact Kd.V_mono HO_0.out (fun _ hk => ⟨hk.1.1, hk.2⟩)⟩, ⟨by (with_reducible repeat (first | apply Kd.N_alloc | apply Kd.N_drewN | apply Kd.N_drew)); exact Kd.N_mono HO334.out (fun _ hk => hk.1)⟩, ⟨by (with_reducible repeat (first | apply Kd.V_alloc | apply Kd.V_drewN | apply Kd.V_drew)); exact Kd.V_mono HO_23.out (fun _ hk => ⟨hk.1.1, hk.2⟩)⟩, ⟨bB⟩⟩
                  · rw [if_neg c18] at H
                    exact absurd H (by simp)
                · rw [if_neg c17] at H
                  have c17b0 : ((Int.tmod (ji16) 2) == 1) = false := beq_eq_false_iff_ne.mpr c17
                  have c17b1 : ((Int.tmod (ji16) 2) != 1) = true := bne_iff_ne.mpr c17
                  have H' := amk H
                  clear H
                  have p330 : 0 ≤ (x25_2 : Int) := dA_
                  have q330 : x25_2 < (l0.length : Int) := dA_
                  obtain ⟨ad330, A330_1, c330_1, e330, hx330_0, hx330_1, hl330_1, hi330_1⟩ := at_T24 (Kd.V_reads' HO_23.out).2.2 x25_2 p330 q330
                  cases e330
                  obtain ⟨ce330, hce330, hMe330, hcc330⟩ := Kd.V_get HO_23.out z24 x25_2 p330 (by first | exact q330 | exact dA_ | (have e_ := (Kd.V_reads' HO_23.out).1; omega))
                  obtain ⟨ua330_1, uc330_1, rfl, ul330_1, ge330_1⟩ := k24_openF hMe330
                  have hv330_1 := hcc330 1 _ rfl
                  rw [add_field _ _ 1 (by omega)] at hv330_1
                  replace hv330_1 := Option.some.inj (hv330_1.symm.trans hx330_1)
                  injection hv330_1 with hva_ hvn_ hvc_
                  rw [hva_] at ge330_1
                  rw [hvc_] at ul330_1
                  have HL330_1 := amk (show Kd.V (Kd.slice 3 (Kd.int .i64)) 52 _ w.heap.size _ _ ((rd_T24 l0 x25_2).f1) from Kd.V_mk ul330_1 ge330_1)
                  clear hva_ hvn_ hvc_ ge330_1 ul330_1
                  clear hcc330 hce330
                  have HR330_1 := amk hi330_1
                  have HC330_1 := amk hl330_1
                  clear hi330_1 hl330_1
                  replace p330 := eq_true p330
                  replace q330 := eq_true q330
                  go_wp2_with (first | ((with_reducible refine gate_dst (N := 8) rfl ?_); refine boxG_ 8 #[.int .i64 0, .slice none 0 0] 24 ?_; intro gb331 w24 hg BK331 hb; replace HO_0 := amk (Kd.V_below (Kd.V_elderB (oX HO_0) gb331 (Nat.le_of_eq hg.symm)) hb); replace HO_6 := amk (Kd.N_below (Kd.N_elderB (oX HO_6) gb331 (Nat.le_of_eq hg.symm)) hb); replace HO_23 := amk (Kd.V_below (Kd.V_elderB (oX HO_23) gb331 (Nat.le_of_eq hg.symm)) hb); replace HL330_1 := amk (Kd.V_below (Kd.V_elderB (oX HL330_1) gb331 (Nat.le_of_eq hg.symm)) hb); replace HR330_1 := amk (Kd.C_below (by repeat (first | (with_reducible exact HR330_1.out) | (with_reducible refine Kd.C_alloc ?_ _) | (with_reducible refine Kd.C_drewN ?_ _) | (with_reducible refine Kd.C_drew ?_) | exact HR330_1.out)) hb); have GW331 := sZ HB hg; have GE331 := sZ HB hg; replace HB := hB2 HB hb; clear hb hg; obtain ⟨hcz25_0, hcz25_1, hfz25_0, hfz25_1, _⟩ := two_cells BK331.out))
                  go_roundg k2
                  case measure => have := HK1.out; have := HK2.out; omega
                  case rel => exact ⟨(x6_2), (wrap64 (x25_2 + 1)), rS_, H', ⟨by have := HK1.out; have := HK2.out; omega⟩, ⟨by (with_reducible repeat (first | apply Kd.V_alloc | apply Kd.V_drewN | apply Kd.V_drew)); exact Kd.V_mono (Kd.V_far (p := ⟨gb331, 1, none⟩) (Kd.V_far (p := ⟨gb331, 0, none⟩) (Kd.V_mono HO_0.out (fun k_ hk => (⟨hk, hk.2⟩ : _ ∧ k_ ≠ gb331))) (fun _ hk => hk.2) (.int .i64 ((rd_T24 l0 x25_2).f0))) (fun _ hk => hk.2) (.slice A330_1 ((rd_T24 l0 x25_2).f1).length c330_1)) (fun _ hk => ⟨hk.1.1.1, hk.1.1.2⟩)⟩, ⟨by (with_reducible repeat (first | apply Kd.N_alloc | apply Kd.N_drewN | apply Kd.N_drew)); exact Kd.N_mono (Kd.N_far (p := ⟨gb331, 1, none⟩) (Kd.N_far (p := ⟨gb331, 0, none⟩) (Kd.N_mono HO_6.out (fun k_ hk => (⟨hk, hk.2⟩ : _ ∧ k_ ≠ gb331))) (fun _ hk => hk.2) (.int .i64 ((rd_T24 l0 x25_2).f0))) (fun _ hk => hk.2) (.slice A330_1 ((rd_T24 l0 x25_2).f1).length c330_1)) (fun _ hk => hk.1.1)⟩, ⟨by (with_reducible repeat (first | apply Kd.V_alloc | apply Kd.V_drewN | apply Kd.V_drew)); exact Kd.V_mono (Kd.V_far (p := ⟨gb331, 1, none⟩) (Kd.V_far (p := ⟨gb331, 0, none⟩) (Kd.V_mono HO_23.out (fun k_ hk => (⟨hk, hk.2⟩ : _ ∧ k_ ≠ gb331))) (fun _ hk => hk.2) (.int .i64 ((rd_T24 l0 x25_2).f0))) (fun _ hk => hk.2) (.slice A330_1 ((rd_T24 l0 x25_2).f1).length c330_1)) (fun _ hk => ⟨hk.1.1.1, hk.1.1.2⟩)⟩, ⟨bB⟩⟩
              · replace H := Option.bind_eq_some_iff.mp H
                obtain ⟨⟨t335, t336⟩, A260, H⟩ := H
                replace H : ((spec_keCount.f k2 t335 t336).bind fun t339 => (if ((x6_2.length : Int) % 2) = 1 then (spec_GhostKeys.l0 k2 l0 (wrap64 (x4_1 - t339)) (wrap64 (x5_1 + 1))) else (spec_GhostKeys.l0 k2 l0 (wrap64 (x4_1 + t339)) (wrap64 (x5_1 + 1))))) = some (r1, r2) := H
                have A26 := amk A260
                clear A260
                replace H := bE H
                obtain ⟨t339, A27, H⟩ := H
                by_cases c28 : ((x6_2.length : Int) % 2) = 1
                · rw [if_pos c28] at H
                  have c28b0 : (((x6_2.length : Int) % 2) == 1) = true := beq_iff_eq.mpr c28
                  have c28b1 : (((x6_2.length : Int) % 2) != 1) = false := bne_eq_false_iff_eq.mpr c28
                  clear c28
                  have H' := amk H
                  clear H
                  obtain ⟨Ao29, co29, eo29⟩ := Kd.N_slice HO_6.out
                  subst eo29
                  go_wp2_with (first | (refine gc_ 50 41 Try.func50 #[.slice Ao29 x6_2.length co29, .bool true] ?_; (with_reducible refine (spec_keJoined.calls k2 _ _ x6_2 true t335 t336 _ ?_ ?_ A26.out).mono ?_); exact cB ((Kd.N_reads' HO_6.out).2.2); exact (Kd.N_reads' HO_6.out).2.1; rintro e w30 ⟨v337, rfl, ho0, hb⟩; refine ⟨_, rfl, ?_⟩; replace HO_0 := amk (Kd.V_elder' (oX HO_0) (by first | exact Kd.N_base ho0 | exact Kd.S_base ho0 | exact Kd.R_base ho0) hb); replace HO_23 := amk (Kd.V_elder' (oX HO_23) (by first | exact Kd.N_base ho0 | exact Kd.S_base ho0 | exact Kd.R_base ho0) hb); have HO338 := amk (Kd.N_lower (Kd.N_mono (ok' := fun k_ => (P0_ k_ ∨ w.heap.size ≤ k_) ∧ some k_ ≠ (.slice Ao29 x6_2.length co29 : Value).ownBlock) (Kd.S_N (Kd.S_bound ho0)) (fun k_ hk_ => ⟨(.inr (Nat.le_trans (below_size bB) hk_.2.1)), (Kd.fresh' (Kd.N_lt (oX HO_6)) k_ hk_.2.1)⟩)) (below_size bB)); replace HO_6 := amk (Kd.N_elder' (oX HO_6) (by first | exact Kd.N_base ho0 | exact Kd.S_base ho0 | exact Kd.R_base ho0) hb); replace HB := hB2 HB hb; (try clear hb); (try clear ho0); obtain ⟨Ao31, co31, eo31⟩ := Kd.N_slice HO338.out; subst eo31) | (refine gc_ 40 42 Try.func40 #[.agg #[.int .i64 t335, .slice Ao31 t336.length co31]] ?_; (with_reducible refine (spec_keCount.calls k2 t335 _ _ t336 t339 _ ?_ ?_ A27.out).mono ?_); exact cB ((Kd.N_reads' HO338.out).2.2); exact (Kd.N_reads' HO338.out).2.1; rintro e w32 ⟨rfl, hb⟩; refine ⟨_, rfl, ?_⟩; replace HO_0 := amk (Kd.V_below (oX HO_0) hb); replace HO_6 := amk (Kd.N_below (oX HO_6) hb); replace HO_23 := amk (Kd.V_below (oX HO_23) hb); replace HO338 := amk (Kd.N_below (oX HO338) hb); replace HB := hB2 HB hb; (try clear hb)))
                  go_roundg k2
                  case measure => have := HK1.out; have := HK2.out; omega
                  case rel => exact ⟨(wrap64 (x4_1 - t339)), (wrap64 (x5_1 + 1)), rS_, rS_, H', ⟨by have := HK1.out; have := HK2.out; omega⟩, ⟨by (with_reducible repeat (first | apply Kd.V_alloc | apply Kd.V_drewN | apply Kd.V_drew)); exact Kd.V_mono HO_0.out (fun _ hk => hk.1.1)⟩, ⟨bB⟩⟩
                · rw [if_neg c28] at H
                  have c28b0 : (((x6_2.length : Int) % 2) == 1) = false := beq_eq_false_iff_ne.mpr c28
                  have c28b1 : (((x6_2.length : Int) % 2) != 1) = true := bne_iff_ne.mpr c28
                  have H' := amk H
                  clear H
                  obtain ⟨Ao33, co33, eo33⟩ := Kd.N_slice HO_6.out
                  subst eo33
                  go_wp2_with (first | (refine gc_ 50 41 Try.func50 #[.slice Ao33 x6_2.length co33, .bool true] ?_; (with_reducible refine (spec_keJoined.calls k2 _ _ x6_2 true t335 t336 _ ?_ ?_ A26.out).mono ?_); exact cB ((Kd.N_reads' HO_6.out).2.2); exact (Kd.N_reads' HO_6.out).2.1; rintro e w34 ⟨v337, rfl, ho0, hb⟩; refine ⟨_, rfl, ?_⟩; replace HO_0 := amk (Kd.V_elder' (oX HO_0) (by first | exact Kd.N_base ho0 | exact Kd.S_base ho0 | exact Kd.R_base ho0) hb); replace HO_23 := amk (Kd.V_elder' (oX HO_23) (by first | exact Kd.N_base ho0 | exact Kd.S_base ho0 | exact Kd.R_base ho0) hb); have HO338 := amk (Kd.N_lower (Kd.N_mono (ok' := fun k_ => (P0_ k_ ∨ w.heap.size ≤ k_) ∧ some k_ ≠ (.slice Ao33 x6_2.length co33 : Value).ownBlock) (Kd.S_N (Kd.S_bound ho0)) (fun k_ hk_ => ⟨(.inr (Nat.le_trans (below_size bB) hk_.2.1)), (Kd.fresh' (Kd.N_lt (oX HO_6)) k_ hk_.2.1)⟩)) (below_size bB)); replace HO_6 := amk (Kd.N_elder' (oX HO_6) (by first | exact Kd.N_base ho0 | exact Kd.S_base ho0 | exact Kd.R_base ho0) hb); replace HB := hB2 HB hb; (try clear hb); (try clear ho0); obtain ⟨Ao35, co35, eo35⟩ := Kd.N_slice HO338.out; subst eo35) | (refine gc_ 40 42 Try.func40 #[.agg #[.int .i64 t335, .slice Ao35 t336.length co35]] ?_; (with_reducible refine (spec_keCount.calls k2 t335 _ _ t336 t339 _ ?_ ?_ A27.out).mono ?_); exact cB ((Kd.N_reads' HO338.out).2.2); exact (Kd.N_reads' HO338.out).2.1; rintro e w36 ⟨rfl, hb⟩; refine ⟨_, rfl, ?_⟩; replace HO_0 := amk (Kd.V_below (oX HO_0) hb); replace HO_6 := amk (Kd.N_below (oX HO_6) hb); replace HO_23 := amk (Kd.V_below (oX HO_23) hb); replace HO338 := amk (Kd.N_below (oX HO338) hb); replace HB := hB2 HB hb; (try clear hb)))
                  go_roundg k2
                  case measure => have := HK1.out; have := HK2.out; omega
                  case rel => exact ⟨(wrap64 (x4_1 + t339)), (wrap64 (x5_1 + 1)), rS_, rS_, H', ⟨by have := HK1.out; have := HK2.out; omega⟩, ⟨by (with_reducible repeat (first | apply Kd.V_alloc | apply Kd.V_drewN | apply Kd.V_drew)); exact Kd.V_mono HO_0.out (fun _ hk => hk.1.1)⟩, ⟨bB⟩⟩
        · simp only [Option.some.injEq, Prod.mk.injEq] at H
          obtain ⟨rfl, rfl⟩ := H
          go_wp2
          go_ret2
          exact ⟨by first | rfl | (simp [errW_none, errW_some] <;> rfl) | (simp only [← hji10]; first | rfl | (simp [errW_none, errW_some] <;> rfl)) | (simp [*, errW_none, errW_some] <;> rfl), bB⟩
  · simp only [Option.some.injEq, Prod.mk.injEq] at H
    obtain ⟨rfl, rfl⟩ := H
    go_enter Try.func23, Try.ntmps23
    go_wp2_with (first | (refine gc_ 49 11 Try.func49 #[.slice A0 l0.length c0] ?_; (with_reducible refine (spec_keList.calls k _ _ l0 false _ ?_ ?_ A2.out).mono ?_); exact cB ((Kd.V_reads' HO0.out).2.2); exact (Kd.V_reads' HO0.out).2.1; rintro e w37 ⟨rfl, hb⟩; refine ⟨_, rfl, ?_⟩; replace HO0 := amk (Kd.V_below (oX HO0) hb); replace HB := hB2 HB hb; (try clear hb)))
    go_ret2
    exact ⟨rF_, bB⟩
/-! ### spec_IsKey: function 8 -/
def spec_IsKey.f (k : Nat) (a0_0 : Int) (l0_1 : List (List Int)) (a1 : ByteArray) : Option (Bool × Bool) := (spec_keGood.f k a0_0 l0_1).bind fun t148 => (if t148 = true then ((spec_keIs.f a0_0 l0_1 a1).bind fun t149 => (some (t149, true))) else (some (false, false)))
set_option maxHeartbeats 8000000 in
set_option maxRecDepth 100000 in
theorem spec_IsKey.calls (k : Nat) (a0_0 : Int) (A0_1 : Option Addr) (c0_1 : Nat) (l0_1 : List (List Int)) (a1 : ByteArray) (r1 : Bool) (r2 : Bool) (w : World) (hr0_1 : Kd.C (Kd.slice 3 (Kd.int .i64)) w A0_1 l0_1.length l0_1) (hc0_1 : l0_1.length ≤ c0_1) (h : spec_IsKey.f k a0_0 l0_1 a1 = some (r1, r2)) :
    Calls Try.prog 8 #[.agg #[.int .i64 a0_0, .slice A0_1 l0_1.length c0_1], .string a1] w fun e w' => e = .returned (.tuple #[.bool r1, .bool r2]) ∧ Below w.heap.size w w' := by
  have hu24 := Try.underlying24
  have HR0_1 := amk hr0_1
  have HC0_1 := amk hc0_1
  clear hr0_1 hc0_1
  have HB := amk (Below.refl w.heap.size w)
  have H : ((spec_keGood.f k a0_0 l0_1).bind fun t148 => (if t148 = true then ((spec_keIs.f a0_0 l0_1 a1).bind fun t149 => (some (t149, true))) else (some (false, false)))) = some (r1, r2) := h
  clear h
  replace H := bE H
  obtain ⟨t148, A3, H⟩ := H
  replace H := iteB H; obtain ⟨rfl, H⟩ | ⟨rfl, H⟩ := H
  · replace H := Option.bind_eq_some_iff.mp H
    obtain ⟨t149, A50, H⟩ := H
    replace H : (some (t149, true)) = some (r1, r2) := H
    have A5 := amk A50
    clear A50
    simp only [Option.some.injEq, Prod.mk.injEq] at H
    obtain ⟨rfl, rfl⟩ := H
    go_enter Try.func8, Try.ntmps8
    go_wp2_with (first | ((with_reducible refine gate_dst (N := 2) rfl ?_); refine boxE_ HB 2 #[.int .i64 a0_0, .slice A0_1 l0_1.length c0_1] 24 ?_; clear HB; intro gb147 w6 HB BK147 GW147 GE147 hb; clear hb; obtain ⟨hcz7_0, hcz7_1, hfz7_0, hfz7_1, _⟩ := two_cells BK147.out) | (refine gc_ 36 7 Try.func36 #[.agg #[.int .i64 a0_0, .slice A0_1 l0_1.length c0_1]] ?_; (with_reducible refine (spec_keGood.calls k a0_0 _ _ l0_1 true _ ?_ ?_ A3.out).mono ?_); exact cB (Kd.C_below HR0_1.out HB.out); exact HC0_1.out; rintro e w8 ⟨rfl, hb⟩; refine ⟨_, rfl, ?_⟩; replace BK147 := kb2 BK147 hb; replace HB := hB2 HB hb; (try clear hb); obtain ⟨hcz9_0, hcz9_1, hfz9_0, hfz9_1, _⟩ := two_cells BK147.out) | (refine gc_ 37 11 Try.func37 #[.agg #[.int .i64 a0_0, .slice A0_1 l0_1.length c0_1], .string a1] ?_; (with_reducible refine (spec_keIs.calls a0_0 _ _ l0_1 a1 t149 _ ?_ ?_ A5.out).mono ?_); exact cB (Kd.C_below HR0_1.out HB.out); exact HC0_1.out; rintro e w10 ⟨rfl, hb⟩; refine ⟨_, rfl, ?_⟩; replace BK147 := kb2 BK147 hb; replace HB := hB2 HB hb; (try clear hb)))
    go_ret2
    exact ⟨rF_, bB⟩
  · simp only [Option.some.injEq, Prod.mk.injEq] at H
    obtain ⟨rfl, rfl⟩ := H
    go_enter Try.func8, Try.ntmps8
    go_wp2_with (first | ((with_reducible refine gate_dst (N := 2) rfl ?_); refine boxE_ HB 2 #[.int .i64 a0_0, .slice A0_1 l0_1.length c0_1] 24 ?_; clear HB; intro gb147 w11 HB BK147 GW147 GE147 hb; clear hb; obtain ⟨hcz12_0, hcz12_1, hfz12_0, hfz12_1, _⟩ := two_cells BK147.out) | (refine gc_ 36 7 Try.func36 #[.agg #[.int .i64 a0_0, .slice A0_1 l0_1.length c0_1]] ?_; (with_reducible refine (spec_keGood.calls k a0_0 _ _ l0_1 false _ ?_ ?_ A3.out).mono ?_); exact cB (Kd.C_below HR0_1.out HB.out); exact HC0_1.out; rintro e w13 ⟨rfl, hb⟩; refine ⟨_, rfl, ?_⟩; replace BK147 := kb2 BK147 hb; replace HB := hB2 HB hb; (try clear hb)))
    go_ret2
    exact ⟨rF_, bB⟩
/-! ### spec_MasterOf: function 25 -/
def spec_MasterOf.f (k : Nat) (l0 : List (S24)) : Option (Int × (List (List Int)) × Bool) := (spec_keList.f k l0).bind fun t347 => (if t347 = true then ((spec_keJoined.f k l0 false).bind fun bt348 => (some (bt348.1, bt348.2, true))) else (some (0, ([] : List (List Int)), false)))
set_option maxHeartbeats 8000000 in
set_option maxRecDepth 100000 in
theorem spec_MasterOf.calls (k : Nat) (A0 : Option Addr) (c0 : Nat) (l0 : List (S24)) (r1 : Int) (r2 : List (List Int)) (r3 : Bool) (w : World) (hr0 : Kd.C k24 w A0 l0.length l0) (hc0 : l0.length ≤ c0) (h : spec_MasterOf.f k l0 = some (r1, r2, r3)) :
    Calls Try.prog 25 #[.slice A0 l0.length c0] w fun e w' => ∃ v1_ : Value, e = .returned (.tuple #[.agg #[.int .i64 r1, v1_], .bool r3]) ∧ Kd.S (Kd.slice 3 (Kd.int .i64)) 52 w' w.heap.size (fun _ => True) v1_ r2 ∧ Below w.heap.size w w' := by
  have hu24 := Try.underlying24
  have HR0 := amk hr0
  have HC0 := amk hc0
  clear hr0 hc0
  have HB := amk (Below.refl w.heap.size w)
  have H : ((spec_keList.f k l0).bind fun t347 => (if t347 = true then ((spec_keJoined.f k l0 false).bind fun bt348 => (some (bt348.1, bt348.2, true))) else (some (0, ([] : List (List Int)), false)))) = some (r1, r2, r3) := h
  clear h
  replace H := bE H
  obtain ⟨t347, A2, H⟩ := H
  replace H := iteB H; obtain ⟨rfl, H⟩ | ⟨rfl, H⟩ := H
  · replace H := Option.bind_eq_some_iff.mp H
    obtain ⟨⟨t348, t349⟩, A40, H⟩ := H
    replace H : (some (t348, t349, true)) = some (r1, r2, r3) := H
    have A4 := amk A40
    clear A40
    simp only [Option.some.injEq, Prod.mk.injEq] at H
    obtain ⟨rfl, rfl, rfl⟩ := H
    go_enter Try.func25, Try.ntmps25
    go_wp2_with (first | ((with_reducible refine gate_dst (N := 2) rfl ?_); refine boxE_ HB 2 #[.int .i64 0, .slice none 0 0] 24 ?_; clear HB; intro gb346 w5 HB BK346 GW346 GE346 hb; clear hb) | (refine gc_ 49 5 Try.func49 #[.slice A0 l0.length c0] ?_; (with_reducible refine (spec_keList.calls k _ _ l0 true _ ?_ ?_ A2.out).mono ?_); exact cB (Kd.C_below HR0.out HB.out); exact HC0.out; rintro e w6 ⟨rfl, hb⟩; refine ⟨_, rfl, ?_⟩; replace BK346 := kb2 BK346 hb; replace HB := hB2 HB hb; (try clear hb)) | (refine gc_ 50 9 Try.func50 #[.slice A0 l0.length c0, .bool false] ?_; (with_reducible refine (spec_keJoined.calls k _ _ l0 false t348 t349 _ ?_ ?_ A4.out).mono ?_); exact cB (Kd.C_below HR0.out HB.out); exact HC0.out; rintro e w7 ⟨v350, rfl, ho0, hb⟩; refine ⟨_, rfl, ?_⟩; have HO351 := amk (Kd.S_lower ho0 (below_size bB)); replace BK346 := kb2 BK346 hb; replace HB := hB2 HB hb; (try clear hb); (try clear ho0); obtain ⟨hcz8_0, hcz8_1, hfz8_0, hfz8_1, _⟩ := two_cells BK346.out; obtain ⟨Ao9, co9, eo9⟩ := Kd.S_slice HO351.out; subst eo9))
    refine bodyPost_ret (results_ct rfl _ _ gb346 24 #[.int .i64 t348, .slice Ao9 t349.length co9] (0, 0) _ rfl (by (with_reducible repeat (first | refine kn_ ?_ _ | refine blk_drew ?_ | refine ka_ ?_ _)); refine blk_put (cs := #[.int .i64 t348, .slice none 0 0]) ?_ 1 _ rfl; (with_reducible repeat (first | refine kn_ ?_ _ | refine blk_drew ?_ | refine ka_ ?_ _)); refine blk_put (cs := #[.int .i64 0, .slice none 0 0]) ?_ 0 _ rfl; (with_reducible repeat (first | refine kn_ ?_ _ | refine blk_drew ?_ | refine ka_ ?_ _)); exact BK346.out) Try.underlying24 rfl (by kernel_rfl)) rfl ?_
    exact ⟨_, rF_, by (with_reducible repeat (first | apply Kd.S_alloc | apply Kd.S_drewN | apply Kd.S_drew)); exact Kd.S_mono (Kd.S_far (p := ⟨gb346, 1, none⟩) (Kd.S_far (p := ⟨gb346, 0, none⟩) (Kd.S_types HO351.out BK346.out (by decide)) (fun _ hk => hk.2) (.int .i64 t348)) (fun _ hk => hk.2) (.slice Ao9 t349.length co9)) (fun _ hk => trivial), bB⟩
  · simp only [Option.some.injEq, Prod.mk.injEq] at H
    obtain ⟨rfl, rfl, rfl⟩ := H
    go_enter Try.func25, Try.ntmps25
    go_wp2_with (first | ((with_reducible refine gate_dst (N := 2) rfl ?_); refine boxE_ HB 2 #[.int .i64 0, .slice none 0 0] 24 ?_; clear HB; intro gb346 w10 HB BK346 GW346 GE346 hb; clear hb) | (refine gc_ 49 5 Try.func49 #[.slice A0 l0.length c0] ?_; (with_reducible refine (spec_keList.calls k _ _ l0 false _ ?_ ?_ A2.out).mono ?_); exact cB (Kd.C_below HR0.out HB.out); exact HC0.out; rintro e w11 ⟨rfl, hb⟩; refine ⟨_, rfl, ?_⟩; replace BK346 := kb2 BK346 hb; replace HB := hB2 HB hb; (try clear hb); obtain ⟨hcz12_0, hcz12_1, hfz12_0, hfz12_1, _⟩ := two_cells BK346.out))
    refine bodyPost_ret (results_ct rfl _ _ gb346 24 #[.int .i64 0, .slice none 0 0] (0, 0) _ rfl (by (with_reducible repeat (first | refine kn_ ?_ _ | refine blk_drew ?_ | refine ka_ ?_ _)); refine blk_put (cs := #[.int .i64 0, .slice none 0 0]) ?_ 1 _ rfl; (with_reducible repeat (first | refine kn_ ?_ _ | refine blk_drew ?_ | refine ka_ ?_ _)); refine blk_put (cs := #[.int .i64 0, .slice none 0 0]) ?_ 0 _ rfl; (with_reducible repeat (first | refine kn_ ?_ _ | refine blk_drew ?_ | refine ka_ ?_ _)); exact BK346.out) Try.underlying24 rfl (by kernel_rfl)) rfl ?_
    exact ⟨_, rF_, xN_, bB⟩
/-! ### spec_MasterPins: function 28 -/
def spec_MasterPins.f (k : Nat) (a0_0 : Int) (l0_1 : List (List Int)) (a1_0 : Int) (l1_1 : List (List Int)) : Option (Int × (List (List Int)) × Bool) := (spec_keGood.f k a0_0 l0_1).bind fun t363 => (if t363 = true then ((spec_keGood.f k a1_0 l1_1).bind fun t364 => (if t364 = true then ((spec_keKind.f a0_0 l0_1 a1_0 l1_1).bind fun t365 => (if t365 = true then ((spec_keJoin.f k a0_0 l0_1 a1_0 l1_1 false).bind fun bt366 => (some (bt366.1, bt366.2, true))) else (some (0, ([] : List (List Int)), false)))) else (some (0, ([] : List (List Int)), false)))) else (some (0, ([] : List (List Int)), false)))
set_option maxHeartbeats 8000000 in
set_option maxRecDepth 100000 in
theorem spec_MasterPins.calls (k : Nat) (a0_0 : Int) (A0_1 : Option Addr) (c0_1 : Nat) (l0_1 : List (List Int)) (a1_0 : Int) (A1_1 : Option Addr) (c1_1 : Nat) (l1_1 : List (List Int)) (r1 : Int) (r2 : List (List Int)) (r3 : Bool) (w : World) (hr0_1 : Kd.C (Kd.slice 3 (Kd.int .i64)) w A0_1 l0_1.length l0_1) (hc0_1 : l0_1.length ≤ c0_1) (hr1_1 : Kd.C (Kd.slice 3 (Kd.int .i64)) w A1_1 l1_1.length l1_1) (hc1_1 : l1_1.length ≤ c1_1) (h : spec_MasterPins.f k a0_0 l0_1 a1_0 l1_1 = some (r1, r2, r3)) :
    Calls Try.prog 28 #[.agg #[.int .i64 a0_0, .slice A0_1 l0_1.length c0_1], .agg #[.int .i64 a1_0, .slice A1_1 l1_1.length c1_1]] w fun e w' => ∃ v1_ : Value, e = .returned (.tuple #[.agg #[.int .i64 r1, v1_], .bool r3]) ∧ Kd.S (Kd.slice 3 (Kd.int .i64)) 52 w' w.heap.size (fun _ => True) v1_ r2 ∧ Below w.heap.size w w' := by
  have hu24 := Try.underlying24
  have HR0_1 := amk hr0_1
  have HC0_1 := amk hc0_1
  clear hr0_1 hc0_1
  have HR1_1 := amk hr1_1
  have HC1_1 := amk hc1_1
  clear hr1_1 hc1_1
  have HB := amk (Below.refl w.heap.size w)
  have H : ((spec_keGood.f k a0_0 l0_1).bind fun t363 => (if t363 = true then ((spec_keGood.f k a1_0 l1_1).bind fun t364 => (if t364 = true then ((spec_keKind.f a0_0 l0_1 a1_0 l1_1).bind fun t365 => (if t365 = true then ((spec_keJoin.f k a0_0 l0_1 a1_0 l1_1 false).bind fun bt366 => (some (bt366.1, bt366.2, true))) else (some (0, ([] : List (List Int)), false)))) else (some (0, ([] : List (List Int)), false)))) else (some (0, ([] : List (List Int)), false)))) = some (r1, r2, r3) := h
  clear h
  replace H := bE H
  obtain ⟨t363, A3, H⟩ := H
  replace H := iteB H; obtain ⟨rfl, H⟩ | ⟨rfl, H⟩ := H
  · replace H := Option.bind_eq_some_iff.mp H
    obtain ⟨t364, A50, H⟩ := H
    replace H : (if t364 = true then ((spec_keKind.f a0_0 l0_1 a1_0 l1_1).bind fun t365 => (if t365 = true then ((spec_keJoin.f k a0_0 l0_1 a1_0 l1_1 false).bind fun bt366 => (some (bt366.1, bt366.2, true))) else (some (0, ([] : List (List Int)), false)))) else (some (0, ([] : List (List Int)), false))) = some (r1, r2, r3) := H
    have A5 := amk A50
    clear A50
    replace H := iteB H; obtain ⟨rfl, H⟩ | ⟨rfl, H⟩ := H
    · replace H := Option.bind_eq_some_iff.mp H
      obtain ⟨t365, A70, H⟩ := H
      replace H : (if t365 = true then ((spec_keJoin.f k a0_0 l0_1 a1_0 l1_1 false).bind fun bt366 => (some (bt366.1, bt366.2, true))) else (some (0, ([] : List (List Int)), false))) = some (r1, r2, r3) := H
      have A7 := amk A70
      clear A70
      replace H := iteB H; obtain ⟨rfl, H⟩ | ⟨rfl, H⟩ := H
      · replace H := Option.bind_eq_some_iff.mp H
        obtain ⟨⟨t366, t367⟩, A90, H⟩ := H
        replace H : (some (t366, t367, true)) = some (r1, r2, r3) := H
        have A9 := amk A90
        clear A90
        simp only [Option.some.injEq, Prod.mk.injEq] at H
        obtain ⟨rfl, rfl, rfl⟩ := H
        go_enter Try.func28, Try.ntmps28
        go_wp2_with (first | ((with_reducible refine gate_dst (N := 2) rfl ?_); refine boxE_ HB 2 #[.int .i64 a0_0, .slice A0_1 l0_1.length c0_1] 24 ?_; clear HB; intro gb360 w10 HB BK360 GW360 GE360 hb; clear hb) | ((with_reducible refine gate_dst (N := 3) rfl ?_); refine boxG_ 3 #[.int .i64 a1_0, .slice A1_1 l1_1.length c1_1] 24 ?_; intro gb361 w11 hg BK361 hb; have GW361 := sZ HB hg; have GE361 := sZ HB hg; replace HB := hB2 HB hb; have NB360_361 := neL BK360 hg; have NB361_360 := neR BK360 hg; replace BK360 := kb2 BK360 hb; clear hb hg) | ((with_reducible refine gate_dst (N := 4) rfl ?_); refine boxG_ 4 #[.int .i64 0, .slice none 0 0] 24 ?_; intro gb362 w12 hg BK362 hb; have GW362 := sZ HB hg; have GE362 := sZ HB hg; replace HB := hB2 HB hb; have NB360_362 := neL BK360 hg; have NB362_360 := neR BK360 hg; replace BK360 := kb2 BK360 hb; have NB361_362 := neL BK361 hg; have NB362_361 := neR BK361 hg; replace BK361 := kb2 BK361 hb; clear hb hg; have hnb13 := NB360_361.out; have hnc13 := NB361_360.out; have hnb14 := NB360_362.out; have hnc14 := NB362_360.out; obtain ⟨hcz15_0, hcz15_1, hfz15_0, hfz15_1, _⟩ := two_cells BK360.out) | (refine gc_ 36 7 Try.func36 #[.agg #[.int .i64 a0_0, .slice A0_1 l0_1.length c0_1]] ?_; (with_reducible refine (spec_keGood.calls k a0_0 _ _ l0_1 true _ ?_ ?_ A3.out).mono ?_); exact cB (Kd.C_below HR0_1.out HB.out); exact HC0_1.out; rintro e w16 ⟨rfl, hb⟩; refine ⟨_, rfl, ?_⟩; replace BK360 := kb2 BK360 hb; replace BK361 := kb2 BK361 hb; replace BK362 := kb2 BK362 hb; replace HB := hB2 HB hb; (try clear hb); have hnb17 := NB361_362.out; have hnc17 := NB362_361.out; obtain ⟨hcz18_0, hcz18_1, hfz18_0, hfz18_1, _⟩ := two_cells BK361.out) | (go_at_call 36; (with_reducible refine (spec_keGood.calls k a1_0 _ _ l1_1 true _ ?_ ?_ A5.out).mono ?_); exact cB (Kd.C_below HR1_1.out HB.out); exact HC1_1.out; rintro e w19 ⟨rfl, hb⟩; replace BK360 := kb2 BK360 hb; replace BK361 := kb2 BK361 hb; replace BK362 := kb2 BK362 hb; replace HB := hB2 HB hb; (try clear hb); obtain ⟨hcz20_0, hcz20_1, hfz20_0, hfz20_1, _⟩ := two_cells BK360.out; obtain ⟨hcz21_0, hcz21_1, hfz21_0, hfz21_1, _⟩ := two_cells BK361.out) | (go_at_call 53; (with_reducible refine (spec_keKind.calls a0_0 _ _ l0_1 a1_0 _ _ l1_1 true _ ?_ ?_ ?_ ?_ A7.out).mono ?_); exact cB (Kd.C_below HR0_1.out HB.out); exact HC0_1.out; exact cB (Kd.C_below HR1_1.out HB.out); exact HC1_1.out; rintro e w22 ⟨rfl, hb⟩; replace BK360 := kb2 BK360 hb; replace BK361 := kb2 BK361 hb; replace BK362 := kb2 BK362 hb; replace HB := hB2 HB hb; (try clear hb); obtain ⟨hcz23_0, hcz23_1, hfz23_0, hfz23_1, _⟩ := two_cells BK360.out; obtain ⟨hcz24_0, hcz24_1, hfz24_0, hfz24_1, _⟩ := two_cells BK361.out) | (refine gc_ 54 23 Try.func54 #[.agg #[.int .i64 a0_0, .slice A0_1 l0_1.length c0_1], .agg #[.int .i64 a1_0, .slice A1_1 l1_1.length c1_1], .bool false] ?_; (with_reducible refine (spec_keJoin.calls k a0_0 _ _ l0_1 a1_0 _ _ l1_1 false t366 t367 _ ?_ ?_ ?_ ?_ A9.out).mono ?_); exact cB (Kd.C_below HR0_1.out HB.out); exact HC0_1.out; exact cB (Kd.C_below HR1_1.out HB.out); exact HC1_1.out; rintro e w25 ⟨v368, rfl, ho0, hb⟩; refine ⟨_, rfl, ?_⟩; have HO369 := amk (Kd.S_lower ho0 (below_size bB)); replace BK360 := kb2 BK360 hb; replace BK361 := kb2 BK361 hb; replace BK362 := kb2 BK362 hb; replace HB := hB2 HB hb; (try clear hb); (try clear ho0); obtain ⟨hcz26_0, hcz26_1, hfz26_0, hfz26_1, _⟩ := two_cells BK362.out; obtain ⟨Ao27, co27, eo27⟩ := Kd.S_slice HO369.out; subst eo27))
        refine bodyPost_ret (results_ct rfl _ _ gb362 24 #[.int .i64 t366, .slice Ao27 t367.length co27] (0, 0) _ rfl (by (with_reducible repeat (first | refine kn_ ?_ _ | refine blk_drew ?_ | refine ka_ ?_ _)); refine blk_put (cs := #[.int .i64 t366, .slice none 0 0]) ?_ 1 _ rfl; (with_reducible repeat (first | refine kn_ ?_ _ | refine blk_drew ?_ | refine ka_ ?_ _)); refine blk_put (cs := #[.int .i64 0, .slice none 0 0]) ?_ 0 _ rfl; (with_reducible repeat (first | refine kn_ ?_ _ | refine blk_drew ?_ | refine ka_ ?_ _)); exact BK362.out) Try.underlying24 rfl (by kernel_rfl)) rfl ?_
        exact ⟨_, rF_, by (with_reducible repeat (first | apply Kd.S_alloc | apply Kd.S_drewN | apply Kd.S_drew)); exact Kd.S_mono (Kd.S_far (p := ⟨gb362, 1, none⟩) (Kd.S_far (p := ⟨gb362, 0, none⟩) (Kd.S_types HO369.out BK362.out (by decide)) (fun _ hk => hk.2) (.int .i64 t366)) (fun _ hk => hk.2) (.slice Ao27 t367.length co27)) (fun _ hk => trivial), bB⟩
      · simp only [Option.some.injEq, Prod.mk.injEq] at H
        obtain ⟨rfl, rfl, rfl⟩ := H
        go_enter Try.func28, Try.ntmps28
        go_wp2_with (first | ((with_reducible refine gate_dst (N := 2) rfl ?_); refine boxE_ HB 2 #[.int .i64 a0_0, .slice A0_1 l0_1.length c0_1] 24 ?_; clear HB; intro gb360 w28 HB BK360 GW360 GE360 hb; clear hb) | ((with_reducible refine gate_dst (N := 3) rfl ?_); refine boxG_ 3 #[.int .i64 a1_0, .slice A1_1 l1_1.length c1_1] 24 ?_; intro gb361 w29 hg BK361 hb; have GW361 := sZ HB hg; have GE361 := sZ HB hg; replace HB := hB2 HB hb; have NB360_361 := neL BK360 hg; have NB361_360 := neR BK360 hg; replace BK360 := kb2 BK360 hb; clear hb hg) | ((with_reducible refine gate_dst (N := 4) rfl ?_); refine boxG_ 4 #[.int .i64 0, .slice none 0 0] 24 ?_; intro gb362 w30 hg BK362 hb; have GW362 := sZ HB hg; have GE362 := sZ HB hg; replace HB := hB2 HB hb; have NB360_362 := neL BK360 hg; have NB362_360 := neR BK360 hg; replace BK360 := kb2 BK360 hb; have NB361_362 := neL BK361 hg; have NB362_361 := neR BK361 hg; replace BK361 := kb2 BK361 hb; clear hb hg; have hnb31 := NB360_361.out; have hnc31 := NB361_360.out; have hnb32 := NB360_362.out; have hnc32 := NB362_360.out; obtain ⟨hcz33_0, hcz33_1, hfz33_0, hfz33_1, _⟩ := two_cells BK360.out) | (refine gc_ 36 7 Try.func36 #[.agg #[.int .i64 a0_0, .slice A0_1 l0_1.length c0_1]] ?_; (with_reducible refine (spec_keGood.calls k a0_0 _ _ l0_1 true _ ?_ ?_ A3.out).mono ?_); exact cB (Kd.C_below HR0_1.out HB.out); exact HC0_1.out; rintro e w34 ⟨rfl, hb⟩; refine ⟨_, rfl, ?_⟩; replace BK360 := kb2 BK360 hb; replace BK361 := kb2 BK361 hb; replace BK362 := kb2 BK362 hb; replace HB := hB2 HB hb; (try clear hb); have hnb35 := NB361_362.out; have hnc35 := NB362_361.out; obtain ⟨hcz36_0, hcz36_1, hfz36_0, hfz36_1, _⟩ := two_cells BK361.out) | (go_at_call 36; (with_reducible refine (spec_keGood.calls k a1_0 _ _ l1_1 true _ ?_ ?_ A5.out).mono ?_); exact cB (Kd.C_below HR1_1.out HB.out); exact HC1_1.out; rintro e w37 ⟨rfl, hb⟩; replace BK360 := kb2 BK360 hb; replace BK361 := kb2 BK361 hb; replace BK362 := kb2 BK362 hb; replace HB := hB2 HB hb; (try clear hb); obtain ⟨hcz38_0, hcz38_1, hfz38_0, hfz38_1, _⟩ := two_cells BK360.out; obtain ⟨hcz39_0, hcz39_1, hfz39_0, hfz39_1, _⟩ := two_cells BK361.out) | (go_at_call 53; (with_reducible refine (spec_keKind.calls a0_0 _ _ l0_1 a1_0 _ _ l1_1 false _ ?_ ?_ ?_ ?_ A7.out).mono ?_); exact cB (Kd.C_below HR0_1.out HB.out); exact HC0_1.out; exact cB (Kd.C_below HR1_1.out HB.out); exact HC1_1.out; rintro e w40 ⟨rfl, hb⟩; replace BK360 := kb2 BK360 hb; replace BK361 := kb2 BK361 hb; replace BK362 := kb2 BK362 hb; replace HB := hB2 HB hb; (try clear hb); obtain ⟨hcz41_0, hcz41_1, hfz41_0, hfz41_1, _⟩ := two_cells BK362.out))
        refine bodyPost_ret (results_ct rfl _ _ gb362 24 #[.int .i64 0, .slice none 0 0] (0, 0) _ rfl (by (with_reducible repeat (first | refine kn_ ?_ _ | refine blk_drew ?_ | refine ka_ ?_ _)); refine blk_put (cs := #[.int .i64 0, .slice none 0 0]) ?_ 1 _ rfl; (with_reducible repeat (first | refine kn_ ?_ _ | refine blk_drew ?_ | refine ka_ ?_ _)); refine blk_put (cs := #[.int .i64 0, .slice none 0 0]) ?_ 0 _ rfl; (with_reducible repeat (first | refine kn_ ?_ _ | refine blk_drew ?_ | refine ka_ ?_ _)); exact BK362.out) Try.underlying24 rfl (by kernel_rfl)) rfl ?_
        exact ⟨_, rF_, xN_, bB⟩
    · simp only [Option.some.injEq, Prod.mk.injEq] at H
      obtain ⟨rfl, rfl, rfl⟩ := H
      go_enter Try.func28, Try.ntmps28
      go_wp2_with (first | ((with_reducible refine gate_dst (N := 2) rfl ?_); refine boxE_ HB 2 #[.int .i64 a0_0, .slice A0_1 l0_1.length c0_1] 24 ?_; clear HB; intro gb360 w42 HB BK360 GW360 GE360 hb; clear hb) | ((with_reducible refine gate_dst (N := 3) rfl ?_); refine boxG_ 3 #[.int .i64 a1_0, .slice A1_1 l1_1.length c1_1] 24 ?_; intro gb361 w43 hg BK361 hb; have GW361 := sZ HB hg; have GE361 := sZ HB hg; replace HB := hB2 HB hb; have NB360_361 := neL BK360 hg; have NB361_360 := neR BK360 hg; replace BK360 := kb2 BK360 hb; clear hb hg) | ((with_reducible refine gate_dst (N := 4) rfl ?_); refine boxG_ 4 #[.int .i64 0, .slice none 0 0] 24 ?_; intro gb362 w44 hg BK362 hb; have GW362 := sZ HB hg; have GE362 := sZ HB hg; replace HB := hB2 HB hb; have NB360_362 := neL BK360 hg; have NB362_360 := neR BK360 hg; replace BK360 := kb2 BK360 hb; have NB361_362 := neL BK361 hg; have NB362_361 := neR BK361 hg; replace BK361 := kb2 BK361 hb; clear hb hg; have hnb45 := NB360_361.out; have hnc45 := NB361_360.out; have hnb46 := NB360_362.out; have hnc46 := NB362_360.out; obtain ⟨hcz47_0, hcz47_1, hfz47_0, hfz47_1, _⟩ := two_cells BK360.out) | (refine gc_ 36 7 Try.func36 #[.agg #[.int .i64 a0_0, .slice A0_1 l0_1.length c0_1]] ?_; (with_reducible refine (spec_keGood.calls k a0_0 _ _ l0_1 true _ ?_ ?_ A3.out).mono ?_); exact cB (Kd.C_below HR0_1.out HB.out); exact HC0_1.out; rintro e w48 ⟨rfl, hb⟩; refine ⟨_, rfl, ?_⟩; replace BK360 := kb2 BK360 hb; replace BK361 := kb2 BK361 hb; replace BK362 := kb2 BK362 hb; replace HB := hB2 HB hb; (try clear hb); have hnb49 := NB361_362.out; have hnc49 := NB362_361.out; obtain ⟨hcz50_0, hcz50_1, hfz50_0, hfz50_1, _⟩ := two_cells BK361.out) | (go_at_call 36; (with_reducible refine (spec_keGood.calls k a1_0 _ _ l1_1 false _ ?_ ?_ A5.out).mono ?_); exact cB (Kd.C_below HR1_1.out HB.out); exact HC1_1.out; rintro e w51 ⟨rfl, hb⟩; replace BK360 := kb2 BK360 hb; replace BK361 := kb2 BK361 hb; replace BK362 := kb2 BK362 hb; replace HB := hB2 HB hb; (try clear hb); obtain ⟨hcz52_0, hcz52_1, hfz52_0, hfz52_1, _⟩ := two_cells BK362.out))
      refine bodyPost_ret (results_ct rfl _ _ gb362 24 #[.int .i64 0, .slice none 0 0] (0, 0) _ rfl (by (with_reducible repeat (first | refine kn_ ?_ _ | refine blk_drew ?_ | refine ka_ ?_ _)); refine blk_put (cs := #[.int .i64 0, .slice none 0 0]) ?_ 1 _ rfl; (with_reducible repeat (first | refine kn_ ?_ _ | refine blk_drew ?_ | refine ka_ ?_ _)); refine blk_put (cs := #[.int .i64 0, .slice none 0 0]) ?_ 0 _ rfl; (with_reducible repeat (first | refine kn_ ?_ _ | refine blk_drew ?_ | refine ka_ ?_ _)); exact BK362.out) Try.underlying24 rfl (by kernel_rfl)) rfl ?_
      exact ⟨_, rF_, xN_, bB⟩
  · simp only [Option.some.injEq, Prod.mk.injEq] at H
    obtain ⟨rfl, rfl, rfl⟩ := H
    go_enter Try.func28, Try.ntmps28
    go_wp2_with (first | ((with_reducible refine gate_dst (N := 2) rfl ?_); refine boxE_ HB 2 #[.int .i64 a0_0, .slice A0_1 l0_1.length c0_1] 24 ?_; clear HB; intro gb360 w53 HB BK360 GW360 GE360 hb; clear hb) | ((with_reducible refine gate_dst (N := 3) rfl ?_); refine boxG_ 3 #[.int .i64 a1_0, .slice A1_1 l1_1.length c1_1] 24 ?_; intro gb361 w54 hg BK361 hb; have GW361 := sZ HB hg; have GE361 := sZ HB hg; replace HB := hB2 HB hb; have NB360_361 := neL BK360 hg; have NB361_360 := neR BK360 hg; replace BK360 := kb2 BK360 hb; clear hb hg) | ((with_reducible refine gate_dst (N := 4) rfl ?_); refine boxG_ 4 #[.int .i64 0, .slice none 0 0] 24 ?_; intro gb362 w55 hg BK362 hb; have GW362 := sZ HB hg; have GE362 := sZ HB hg; replace HB := hB2 HB hb; have NB360_362 := neL BK360 hg; have NB362_360 := neR BK360 hg; replace BK360 := kb2 BK360 hb; have NB361_362 := neL BK361 hg; have NB362_361 := neR BK361 hg; replace BK361 := kb2 BK361 hb; clear hb hg; have hnb56 := NB360_361.out; have hnc56 := NB361_360.out; have hnb57 := NB360_362.out; have hnc57 := NB362_360.out; obtain ⟨hcz58_0, hcz58_1, hfz58_0, hfz58_1, _⟩ := two_cells BK360.out) | (refine gc_ 36 7 Try.func36 #[.agg #[.int .i64 a0_0, .slice A0_1 l0_1.length c0_1]] ?_; (with_reducible refine (spec_keGood.calls k a0_0 _ _ l0_1 false _ ?_ ?_ A3.out).mono ?_); exact cB (Kd.C_below HR0_1.out HB.out); exact HC0_1.out; rintro e w59 ⟨rfl, hb⟩; refine ⟨_, rfl, ?_⟩; replace BK360 := kb2 BK360 hb; replace BK361 := kb2 BK361 hb; replace BK362 := kb2 BK362 hb; replace HB := hB2 HB hb; (try clear hb); have hnb60 := NB362_361.out; have hnc60 := NB361_362.out; obtain ⟨hcz61_0, hcz61_1, hfz61_0, hfz61_1, _⟩ := two_cells BK362.out))
    refine bodyPost_ret (results_ct rfl _ _ gb362 24 #[.int .i64 0, .slice none 0 0] (0, 0) _ rfl (by (with_reducible repeat (first | refine kn_ ?_ _ | refine blk_drew ?_ | refine ka_ ?_ _)); refine blk_put (cs := #[.int .i64 0, .slice none 0 0]) ?_ 1 _ rfl; (with_reducible repeat (first | refine kn_ ?_ _ | refine blk_drew ?_ | refine ka_ ?_ _)); refine blk_put (cs := #[.int .i64 0, .slice none 0 0]) ?_ 0 _ rfl; (with_reducible repeat (first | refine kn_ ?_ _ | refine blk_drew ?_ | refine ka_ ?_ _)); exact BK362.out) Try.underlying24 rfl (by kernel_rfl)) rfl ?_
    exact ⟨_, rF_, xN_, bB⟩
/-! ### spec_SharedKeys: function 19 -/
def spec_SharedKeys.f (k : Nat) (l0 : List (S24)) : Option (List ByteArray × Bool) := (spec_keList.f k l0).bind fun t283 => (if t283 = true then ((spec_keJoined.f k l0 true).bind fun bt284 => ((spec_keCount.f k bt284.1 bt284.2).bind fun t289 => (if t289 > 200 then (some (([] : List ByteArray), false)) else ((spec_keAll.f k bt284.1 bt284.2 (⟨#[]⟩ : ByteArray)).bind fun t290 => (some (t290, true)))))) else (some (([] : List ByteArray), false)))
set_option maxHeartbeats 8000000 in
set_option maxRecDepth 100000 in
theorem spec_SharedKeys.calls (k : Nat) (A0 : Option Addr) (c0 : Nat) (l0 : List (S24)) (r1 : List ByteArray) (r2 : Bool) (w : World) (hr0 : Kd.C k24 w A0 l0.length l0) (hc0 : l0.length ≤ c0) (h : spec_SharedKeys.f k l0 = some (r1, r2)) :
    Calls Try.prog 19 #[.slice A0 l0.length c0] w fun e w' => ∃ v0_ : Value, e = .returned (.tuple #[v0_, .bool r2]) ∧ Kd.R Kd.string 9 w' w.heap.size (fun _ => True) v0_ r1 ∧ Below w.heap.size w w' := by
  have hu24 := Try.underlying24
  have HR0 := amk hr0
  have HC0 := amk hc0
  clear hr0 hc0
  have HB := amk (Below.refl w.heap.size w)
  have H : ((spec_keList.f k l0).bind fun t283 => (if t283 = true then ((spec_keJoined.f k l0 true).bind fun bt284 => ((spec_keCount.f k bt284.1 bt284.2).bind fun t289 => (if t289 > 200 then (some (([] : List ByteArray), false)) else ((spec_keAll.f k bt284.1 bt284.2 (⟨#[]⟩ : ByteArray)).bind fun t290 => (some (t290, true)))))) else (some (([] : List ByteArray), false)))) = some (r1, r2) := h
  clear h
  replace H := bE H
  obtain ⟨t283, A2, H⟩ := H
  replace H := iteB H; obtain ⟨rfl, H⟩ | ⟨rfl, H⟩ := H
  · replace H := Option.bind_eq_some_iff.mp H
    obtain ⟨⟨t284, t285⟩, A40, H⟩ := H
    replace H : ((spec_keCount.f k t284 t285).bind fun t289 => (if t289 > 200 then (some (([] : List ByteArray), false)) else ((spec_keAll.f k t284 t285 (⟨#[]⟩ : ByteArray)).bind fun t290 => (some (t290, true))))) = some (r1, r2) := H
    have A4 := amk A40
    clear A40
    replace H := bE H
    obtain ⟨t289, A5, H⟩ := H
    by_cases c6 : t289 > 200
    · rw [if_pos c6] at H
      have c6b0 : decide (200 < t289) = true := decide_eq_true c6
      clear c6
      simp only [Option.some.injEq, Prod.mk.injEq] at H
      obtain ⟨rfl, rfl⟩ := H
      go_enter Try.func19, Try.ntmps19
      go_wp2_with (first | (refine gc_ 49 6 Try.func49 #[.slice A0 l0.length c0] ?_; (with_reducible refine (spec_keList.calls k _ _ l0 true _ ?_ ?_ A2.out).mono ?_); exact cB HR0.out; exact HC0.out; rintro e w7 ⟨rfl, hb⟩; refine ⟨_, rfl, ?_⟩; replace HB := hB2 HB hb; (try clear hb)) | (refine gc_ 50 9 Try.func50 #[.slice A0 l0.length c0, .bool true] ?_; (with_reducible refine (spec_keJoined.calls k _ _ l0 true t284 t285 _ ?_ ?_ A4.out).mono ?_); exact cB (Kd.C_below HR0.out HB.out); exact HC0.out; rintro e w8 ⟨v286, rfl, ho0, hb⟩; refine ⟨_, rfl, ?_⟩; have HO287 := amk (Kd.S_lower ho0 (below_size bB)); replace HB := hB2 HB hb; (try clear hb); (try clear ho0)) | ((with_reducible refine gate_dst (N := 4) rfl ?_); refine boxE_ HB 4 #[.int .i64 0, .slice none 0 0] 24 ?_; intro gb288 w9 nHB BK288 GW288 GE288 hb; replace HO287 := amk (Kd.S_below (oX HO287) hb); replace HB := nHB; clear hb; obtain ⟨hcz10_0, hcz10_1, hfz10_0, hfz10_1, _⟩ := two_cells BK288.out; obtain ⟨Ao11, co11, eo11⟩ := Kd.S_slice HO287.out; subst eo11) | (refine gc_ 40 11 Try.func40 #[.agg #[.int .i64 t284, .slice Ao11 t285.length co11]] ?_; (with_reducible refine (spec_keCount.calls k t284 _ _ t285 t289 _ ?side1 ?side2 A5.out).mono ?_); (case side1 => refine (Kd.S_reads' (e := 52) (base := w.heap.size) (ok := fun k_ => True) (n := t285.length) (c := co11) ?_).2.2; exact (by (with_reducible repeat (first | apply Kd.S_alloc | apply Kd.S_drewN | apply Kd.S_drew)); exact (Kd.S_mono (Kd.S_far (p := ⟨gb288, 1, none⟩) (Kd.S_far (p := ⟨gb288, 0, none⟩) (Kd.S_types HO287.out BK288.out (by decide)) (fun _ hk => hk.2) (.int .i64 t284)) (fun _ hk => hk.2) (.slice Ao11 t285.length co11)) (fun _ h_ => h_.1)))); (case side2 => exact (Kd.S_reads' HO287.out).2.1); rintro e w12 ⟨rfl, hb⟩; refine ⟨_, rfl, ?_⟩; replace HO287 := amk (Kd.S_below (by (with_reducible repeat (first | apply Kd.S_alloc | apply Kd.S_drewN | apply Kd.S_drew)); exact (Kd.S_mono (Kd.S_far (p := ⟨gb288, 1, none⟩) (Kd.S_far (p := ⟨gb288, 0, none⟩) (Kd.S_types HO287.out BK288.out (by decide)) (fun _ hk => hk.2) (.int .i64 t284)) (fun _ hk => hk.2) (.slice Ao11 t285.length co11)) (fun _ h_ => h_.1))) hb); replace BK288 := amk (blk_below (g := gb288) (o := .cells #[.int .i64 t284, .slice Ao11 t285.length co11] 24 (0, 0)) (by (with_reducible repeat (first | refine kn_ ?_ _ | refine blk_drew ?_ | refine ka_ ?_ _)); refine blk_put (cs := #[.int .i64 t284, .slice none 0 0]) ?_ 1 _ rfl; (with_reducible repeat (first | refine kn_ ?_ _ | refine blk_drew ?_ | refine ka_ ?_ _)); refine blk_put (cs := #[.int .i64 0, .slice none 0 0]) ?_ 0 _ rfl; (with_reducible repeat (first | refine kn_ ?_ _ | refine blk_drew ?_ | refine ka_ ?_ _)); exact BK288.out) hb); replace HB := hB2 HB hb; (try clear hb)))
      go_ret2
      exact ⟨_, rF_, xN_, bB⟩
    · rw [if_neg c6] at H
      have c6b0 : decide (200 < t289) = false := decide_eq_false c6
      clear c6
      replace H := bE H
      obtain ⟨t290, A13, H⟩ := H
      simp only [Option.some.injEq, Prod.mk.injEq] at H
      obtain ⟨rfl, rfl⟩ := H
      go_enter Try.func19, Try.ntmps19
      go_wp2_with (first | (refine gc_ 49 6 Try.func49 #[.slice A0 l0.length c0] ?_; (with_reducible refine (spec_keList.calls k _ _ l0 true _ ?_ ?_ A2.out).mono ?_); exact cB HR0.out; exact HC0.out; rintro e w14 ⟨rfl, hb⟩; refine ⟨_, rfl, ?_⟩; replace HB := hB2 HB hb; (try clear hb)) | (refine gc_ 50 9 Try.func50 #[.slice A0 l0.length c0, .bool true] ?_; (with_reducible refine (spec_keJoined.calls k _ _ l0 true t284 t285 _ ?_ ?_ A4.out).mono ?_); exact cB (Kd.C_below HR0.out HB.out); exact HC0.out; rintro e w15 ⟨v286, rfl, ho0, hb⟩; refine ⟨_, rfl, ?_⟩; have HO287 := amk (Kd.S_lower ho0 (below_size bB)); replace HB := hB2 HB hb; (try clear hb); (try clear ho0)) | ((with_reducible refine gate_dst (N := 4) rfl ?_); refine boxE_ HB 4 #[.int .i64 0, .slice none 0 0] 24 ?_; intro gb288 w16 nHB BK288 GW288 GE288 hb; replace HO287 := amk (Kd.S_below (oX HO287) hb); replace HB := nHB; clear hb; obtain ⟨hcz17_0, hcz17_1, hfz17_0, hfz17_1, _⟩ := two_cells BK288.out; obtain ⟨Ao18, co18, eo18⟩ := Kd.S_slice HO287.out; subst eo18) | (refine gc_ 40 11 Try.func40 #[.agg #[.int .i64 t284, .slice Ao18 t285.length co18]] ?_; (with_reducible refine (spec_keCount.calls k t284 _ _ t285 t289 _ ?side1 ?side2 A5.out).mono ?_); (case side1 => refine (Kd.S_reads' (e := 52) (base := w.heap.size) (ok := fun k_ => True) (n := t285.length) (c := co18) ?_).2.2; exact (by (with_reducible repeat (first | apply Kd.S_alloc | apply Kd.S_drewN | apply Kd.S_drew)); exact (Kd.S_mono (Kd.S_far (p := ⟨gb288, 1, none⟩) (Kd.S_far (p := ⟨gb288, 0, none⟩) (Kd.S_types HO287.out BK288.out (by decide)) (fun _ hk => hk.2) (.int .i64 t284)) (fun _ hk => hk.2) (.slice Ao18 t285.length co18)) (fun _ h_ => h_.1)))); (case side2 => exact (Kd.S_reads' HO287.out).2.1); rintro e w19 ⟨rfl, hb⟩; refine ⟨_, rfl, ?_⟩; replace HO287 := amk (Kd.S_below (by (with_reducible repeat (first | apply Kd.S_alloc | apply Kd.S_drewN | apply Kd.S_drew)); exact (Kd.S_mono (Kd.S_far (p := ⟨gb288, 1, none⟩) (Kd.S_far (p := ⟨gb288, 0, none⟩) (Kd.S_types HO287.out BK288.out (by decide)) (fun _ hk => hk.2) (.int .i64 t284)) (fun _ hk => hk.2) (.slice Ao18 t285.length co18)) (fun _ h_ => h_.1))) hb); replace BK288 := amk (blk_below (g := gb288) (o := .cells #[.int .i64 t284, .slice Ao18 t285.length co18] 24 (0, 0)) (by (with_reducible repeat (first | refine kn_ ?_ _ | refine blk_drew ?_ | refine ka_ ?_ _)); refine blk_put (cs := #[.int .i64 t284, .slice none 0 0]) ?_ 1 _ rfl; (with_reducible repeat (first | refine kn_ ?_ _ | refine blk_drew ?_ | refine ka_ ?_ _)); refine blk_put (cs := #[.int .i64 0, .slice none 0 0]) ?_ 0 _ rfl; (with_reducible repeat (first | refine kn_ ?_ _ | refine blk_drew ?_ | refine ka_ ?_ _)); exact BK288.out) hb); replace HB := hB2 HB hb; (try clear hb); obtain ⟨hcz20_0, hcz20_1, hfz20_0, hfz20_1, _⟩ := two_cells BK288.out) | (refine gc_ 42 14 Try.func42 #[.agg #[.int .i64 t284, .slice Ao18 t285.length co18], .string (⟨#[]⟩ : ByteArray)] ?_; (with_reducible refine (spec_keAll.calls k t284 _ _ t285 (⟨#[]⟩ : ByteArray) t290 _ ?_ ?_ A13.out).mono ?_); exact cB ((Kd.S_reads' HO287.out).2.2); exact (Kd.S_reads' HO287.out).2.1; rintro e w21 ⟨v291, rfl, ho0, hb⟩; refine ⟨_, rfl, ?_⟩; replace HO287 := amk (Kd.S_below (oX HO287) hb); have HO292 := amk (Kd.R_lower ho0 (below_size bB)); replace BK288 := kb2 BK288 hb; replace HB := hB2 HB hb; (try clear hb); (try clear ho0)))
      go_ret2
      exact ⟨_, rF_, oX HO292, bB⟩
  · simp only [Option.some.injEq, Prod.mk.injEq] at H
    obtain ⟨rfl, rfl⟩ := H
    go_enter Try.func19, Try.ntmps19
    go_wp2_with (first | (refine gc_ 49 6 Try.func49 #[.slice A0 l0.length c0] ?_; (with_reducible refine (spec_keList.calls k _ _ l0 false _ ?_ ?_ A2.out).mono ?_); exact cB HR0.out; exact HC0.out; rintro e w22 ⟨rfl, hb⟩; refine ⟨_, rfl, ?_⟩; replace HB := hB2 HB hb; (try clear hb)))
    go_ret2
    exact ⟨_, rF_, xN_, bB⟩
/-! laws.FnKeysOpenOfAll, by hand: each callee's value is told; what lies in memory is ONE predicate. -/
abbrev bxK (n : Int) (A : Option Addr) (l c : Nat) : Obj := .cells #[.int .i64 n, .slice A l c] 24 (0, 0)
theorem pinsHeapK : Kd.Heap k24 := Kd.heap_iso _ (Kd.heap_pair (Kd.heap_int .i64) (Kd.heap_slice 52 (Kd.heap_slice 3 (Kd.heap_int .i64))))
theorem wr_leK {i n : Nat} (h : i < n) (hn : n ≤ 1000000) : wrap64 ((i : Int) + 1) = ((i + 1 : Nat) : Int) := w64 (by omega) (by omega)
theorem wr_bK {x : Int} {j n : Nat} (h : 0 ≤ x ∧ x ≤ j) (hj : j ≤ n) (hn : n ≤ 1000000) : wrap64 (x + 1) = x + 1 := w64 (by omega) (by omega)
theorem ms1 {i n g : Nat} (h : i < n) (hi : i ≤ n ∧ n ≤ i + g) : n - (i + 1) < g := by omega
theorem ms2 {i n : Nat} (h : i < n) : i + 1 ≤ n ∧ n ≤ i + 1 + (n - (i + 1)) := by omega
theorem ms3 {i n g : Nat} (h : ¬ i < n) (hi : i ≤ n ∧ n ≤ i + g) : i = n := by omega
def regOn (n : Nat) : Code → Option Code
  | .region i o b => if i = n then some (.region i o b) else none
  | .seq a b => match regOn n a with | some c => some c | none => regOn n b
  | .cond _ a b => match regOn n a with | some c => some c | none => regOn n b
  | .block _ a => regOn n a
  | .loop a => regOn n a
  | _ => none
def condOn (n : Nat) : Code → Option Code
  | .cond (.tmp i) a b => if i = n then some (.cond (.tmp i) a b) else match condOn n a with | some c => some c | none => condOn n b
  | .seq a b => match condOn n a with | some c => some c | none => condOn n b
  | .block _ a => condOn n a
  | .loop a => condOn n a
  | _ => none
def lpK (i : Nat) : Array Bool := ((List.range 74).map fun j => decide (j < i)).toArray
/-! Numbers told by digits. -/
def textB (l : List Int) : ByteArray := strOfNums (l.map fun x => wrap64 (48 + x) % 256)
/-! Joined pins, over lists alone. -/
def rngFrom (s m : Nat) : List Int := (List.range' s m).map fun (d : Nat) => (d : Int)
theorem rngFrom_zero (s : Nat) : rngFrom s 0 = [] := rfl
theorem rngFrom_len (s m : Nat) : (rngFrom s m).length = m := by unfold rngFrom; simp
theorem rngFrom_mem {s m : Nat} {x : Int} (h : x ∈ rngFrom s m) : (s : Int) ≤ x ∧ x < s + m := by
  unfold rngFrom at h
  obtain ⟨d, hd, rfl⟩ := List.mem_map.mp h
  rw [List.mem_range'_1] at hd
  omega
theorem filter_len_le {α : Type} (p : α → Bool) (l : List α) : (l.filter p).length ≤ l.length := List.length_filter_le p l
/-- A depth of both rows, or of one. -/
def joinT (b : Bool) (r s : List Int) (d : Int) : Bool := (r.contains d && s.contains d) || (!b && (r.contains d || s.contains d))
def joinRows (b : Bool) (n : Nat) (x y : List (List Int)) : List (List Int) := (List.range' 0 x.length).map fun i => (rngFrom 0 n).filter (joinT b (x.getD i []) (y.getD i []))
def rowsOf (n m : Nat) (f : Nat → Int → Bool) : List (List Int) := (List.range' 0 m).map fun i => (rngFrom 0 n).filter (f i)
theorem rowsOf_len (n m : Nat) (f : Nat → Int → Bool) : (rowsOf n m f).length = m := by unfold rowsOf; simp
theorem rowsOf_get (n m : Nat) (f : Nat → Int → Bool) (i : Nat) (hi : i < m) : (rowsOf n m f).getD i [] = (rngFrom 0 n).filter (f i) := by
  unfold rowsOf
  simp [List.getD, hi]
theorem rowsOf_congr {n m : Nat} {f g : Nat → Int → Bool} (h : ∀ i < m, ∀ d ∈ rngFrom 0 n, f i d = g i d) : rowsOf n m f = rowsOf n m g := by
  unfold rowsOf
  apply List.map_congr_left
  intro i hi
  rw [List.mem_range'_1] at hi
  exact List.filter_congr (fun d hd => h i (by omega) d hd)
theorem contains_filter {f : Int → Bool} {n : Nat} {d : Int} (hd : d ∈ rngFrom 0 n) : ((rngFrom 0 n).filter f).contains d = f d := by
  rw [Bool.eq_iff_iff, List.contains_iff_mem, List.mem_filter]
  exact ⟨fun h => h.2, fun h => ⟨hd, h⟩⟩
theorem joinRows_is (b : Bool) (n : Nat) (x y : List (List Int)) : joinRows b n x y = rowsOf n x.length fun i => joinT b (x.getD i []) (y.getD i []) := rfl
/-- Whether a depth is in all of a list's pins at a place, or in one of them. -/
def inB (b : Bool) (l : List S24) (i : Nat) (d : Int) : Bool := if b then l.all fun p => (p.f1.getD i []).contains d else l.any fun p => (p.f1.getD i []).contains d
theorem inB_cons (b : Bool) (q : S24) (l : List S24) (i : Nat) (d : Int) : inB b (q :: l) i d = if b then (q.f1.getD i []).contains d && inB b l i d else (q.f1.getD i []).contains d || inB b l i d := by
  cases b <;> simp [inB]
theorem inB_snoc (b : Bool) (q : S24) (l : List S24) (i : Nat) (d : Int) : inB b (l ++ [q]) i d = if b then inB b l i d && (q.f1.getD i []).contains d else inB b l i d || (q.f1.getD i []).contains d := by
  cases b <;> simp [inB]
theorem joinT_in (b : Bool) (r s : List Int) (d : Int) : joinT b r s d = if b then r.contains d && s.contains d else r.contains d || s.contains d := by
  unfold joinT
  cases b <;> cases r.contains d <;> cases s.contains d <;> rfl
/-- Joining on, behind what was joined before. -/
theorem joinRows_step (b : Bool) (n m : Nat) (P : List S24) (q : S24) : joinRows b n (rowsOf n m (inB b P)) q.f1 = rowsOf n m (inB b (P ++ [q])) := by
  rw [joinRows_is, rowsOf_len]
  apply rowsOf_congr
  intro i hi d hd
  rw [rowsOf_get n m _ i hi, joinT_in, contains_filter hd, inB_snoc]
theorem joinRows_first (b : Bool) (n : Nat) (q : S24) : joinRows b n q.f1 q.f1 = rowsOf n q.f1.length (inB b [q]) := by
  rw [joinRows_is]
  apply rowsOf_congr
  intro i hi d hd
  rw [joinT_in]
  cases b <;> simp [inB]
/-- What impl counts: in how many of them. -/
theorem inB_count_all (l : List S24) (i : Nat) (d : Int) : decide (l.length ≤ l.countP fun p => (p.f1.getD i []).contains d) = inB true l i d := by
  unfold inB
  rw [if_pos rfl, Bool.eq_iff_iff, decide_eq_true_eq, List.all_eq_true]
  have h := List.countP_le_length (p := fun p : S24 => (p.f1.getD i []).contains d) (l := l)
  constructor
  · intro h1
    exact List.countP_eq_length.mp (by omega)
  · intro h1
    rw [List.countP_eq_length.mpr h1]; exact Nat.le_refl _
theorem inB_count_any (l : List S24) (i : Nat) (d : Int) : decide (1 ≤ l.countP fun p => (p.f1.getD i []).contains d) = inB false l i d := by
  unfold inB
  rw [if_neg (by simp), Bool.eq_iff_iff, decide_eq_true_eq, List.any_eq_true]
  rw [show (1 ≤ l.countP fun p => (p.f1.getD i []).contains d) ↔ 0 < l.countP (fun p => (p.f1.getD i []).contains d) from Iff.rfl, List.countP_pos_iff]
/-- How many keys open. -/
def keysF (l : List (List Int)) : Int := l.foldl (fun n r => wrap64 (n * r.length)) 1
/-! Texts of digits: their sizes. -/
theorem strOfNums_app (a b : List Int) : strOfNums (a ++ b) = strOfNums a ++ strOfNums b := by
  apply ByteArray.ext
  simp [strOfNums, ByteArray.data_append]
theorem textB_app (a : List Int) (x : Int) : textB (a ++ [x]) = textB a ++ strOfNums [wrap64 (48 + x) % 256] := by
  unfold textB; rw [List.map_append, strOfNums_app]; rfl
theorem textB_size (l : List Int) : (textB l).size = l.length := by unfold textB; rw [strOfNums_size, List.length_map]
/-! Declarations moved out of EDead. -/
theorem wr_big {c : Nat} (h : c ≤ 9223372036854775806) : wrap64 ((c : Int) + 1) = ((c + 1 : Nat) : Int) := w64 (by omega) (by omega)
/-! Joined pins and counted keys: what they come to. -/
theorem spec_l1Has.lev (a : Int) (l : List Int) (hl : l.length ≤ 9223372036854775807) : ∀ (m i : Nat), i + m = l.length → Ev (fun k => spec_l1Has.l0 k a l (l.length : Int) (i : Nat)) ((l.drop i).contains a) := by
  intro m
  induction m with
  | zero =>
    intro i hi
    refine Ev.step (fun k => rfl) (Ev.no (by omega) (Ev.id ?_))
    rw [List.drop_eq_nil_of_le (by omega)]; rfl
  | succ m ih =>
    intro i hi
    have hlt : i < l.length := by omega
    refine Ev.step (fun k => rfl) (Ev.yes (by omega) (Ev.yes (by omega) (Ev.yes (by omega) ?_)))
    rw [rd_int hlt, List.drop_eq_getElem_cons hlt, List.contains_cons]
    by_cases h : l[i] = a
    · exact Ev.yes h (Ev.id (by simp [h]))
    · refine Ev.no h ?_
      rw [w64 (x := (i : Int) + 1) (by omega) (by omega), show (a == l[i]) = false from beq_eq_false_iff_ne.mpr (fun e => h e.symm), Bool.false_or]
      exact ih (i + 1) (by omega)
theorem spec_l1Has.ev (l : List Int) (a : Int) (hl : l.length ≤ 9223372036854775807) : Ev (fun k => spec_l1Has.f k l a) (l.contains a) := by
  unfold spec_l1Has.f
  have := spec_l1Has.lev a l hl l.length 0 (by omega)
  simpa using this
theorem slices_Index_int_int.lev (a : Int) (l : List Int) (hl : l.length ≤ 9223372036854775807) : ∀ (m i : Nat), i + m = l.length → ∃ r : Int, Ev (fun k => slices_Index_int_int.l0 k l a (l.length : Int) (i : Nat)) r ∧ decide (r ≥ 0) = (l.drop i).contains a := by
  intro m
  induction m with
  | zero =>
    intro i hi
    refine ⟨-1, Ev.step (fun k => rfl) (Ev.no (by omega) (Ev.now _)), ?_⟩
    rw [List.drop_eq_nil_of_le (by omega)]; rfl
  | succ m ih =>
    intro i hi
    have hlt : i < l.length := by omega
    rw [List.drop_eq_getElem_cons hlt, List.contains_cons]
    by_cases h : a = l[i]
    · refine ⟨(i : Nat), Ev.step (fun k => rfl) (Ev.yes (by omega) (Ev.yes (by omega) (Ev.yes (by omega) ?_))), ?_⟩
      · rw [rd_int hlt]; exact Ev.yes h (Ev.now _)
      · rw [show (a == l[i]) = true from beq_iff_eq.mpr h]; simp
    · obtain ⟨r, he, hr⟩ := ih (i + 1) (by omega)
      refine ⟨r, Ev.step (fun k => rfl) (Ev.yes (by omega) (Ev.yes (by omega) (Ev.yes (by omega) ?_))), ?_⟩
      · rw [rd_int hlt, w64 (x := (i : Int) + 1) (by omega) (by omega)]; exact Ev.no h he
      · rw [show (a == l[i]) = false from beq_eq_false_iff_ne.mpr h, Bool.false_or]; exact hr
theorem slices_Contains_int_int.ev (l : List Int) (a : Int) (hl : l.length ≤ 9223372036854775807) : Ev (fun k => slices_Contains_int_int.f k l a) (l.contains a) := by
  unfold slices_Contains_int_int.f slices_Index_int_int.f
  obtain ⟨r, he, hr⟩ := slices_Index_int_int.lev a l hl l.length 0 (by omega)
  refine Ev.bind he (Ev.id ?_)
  rw [hr]; simp
theorem impl_Pins_keys.lev (l : List (List Int)) (hl1 : l.length ≤ 9223372036854775807) : ∀ (m i : Nat) (a : Int), i + m = l.length → Ev (fun k => impl_Pins_keys.l0 k a l (l.length : Int) (i : Nat)) ((l.drop i).foldl (fun n r => wrap64 (n * r.length)) a) := by
  intro m
  induction m with
  | zero =>
    intro i a hi
    refine Ev.step (fun k => rfl) (Ev.no (by omega) (Ev.id ?_))
    rw [List.drop_eq_nil_of_le (by omega)]; rfl
  | succ m ih =>
    intro i a hi
    have hlt : i < l.length := by omega
    refine Ev.step (fun k => rfl) (Ev.yes (by omega) (Ev.yes (by omega) (Ev.yes (by omega) ?_)))
    rw [rd_row hlt, List.drop_eq_getElem_cons hlt, List.foldl_cons, w64 (x := (i : Int) + 1) (by omega) (by omega)]
    exact ih (i + 1) _ (by omega)
theorem impl_Pins_keys.ev (n : Int) (l : List (List Int)) (hl1 : l.length ≤ 9223372036854775807) : Ev (fun k => impl_Pins_keys.f k n l) (keysF l) := by
  unfold impl_Pins_keys.f keysF
  have := impl_Pins_keys.lev l hl1 l.length 0 1 (by omega)
  simpa using this
theorem spec_keCount.lev (l : List (List Int)) (hl1 : l.length ≤ 9223372036854775807) : ∀ (m i : Nat) (a : Int), i + m = l.length → Ev (fun k => spec_keCount.l0 k a l (l.length : Int) (i : Nat)) ((l.drop i).foldl (fun n r => wrap64 (n * r.length)) a) := by
  intro m
  induction m with
  | zero =>
    intro i a hi
    refine Ev.step (fun k => rfl) (Ev.no (by omega) (Ev.id ?_))
    rw [List.drop_eq_nil_of_le (by omega)]; rfl
  | succ m ih =>
    intro i a hi
    have hlt : i < l.length := by omega
    refine Ev.step (fun k => rfl) (Ev.yes (by omega) (Ev.yes (by omega) (Ev.yes (by omega) ?_)))
    rw [rd_row hlt, List.drop_eq_getElem_cons hlt, List.foldl_cons, w64 (x := (i : Int) + 1) (by omega) (by omega)]
    exact ih (i + 1) _ (by omega)
theorem spec_keCount.ev (n : Int) (l : List (List Int)) (hl1 : l.length ≤ 9223372036854775807) : Ev (fun k => spec_keCount.f k n l) (keysF l) := by
  unfold spec_keCount.f keysF
  have := spec_keCount.lev l hl1 l.length 0 1 (by omega)
  simpa using this
/-! spec.keJoin -/
theorem spec_keJoin.lev1 (b : Bool) (n : Nat) (hn : n ≤ 9) (x y : List (List Int)) (m' : Int) (i : Nat) (hi : i < x.length) (hiy : i < y.length) (hx : RowsV x) (hy : RowsV y) (R : List (List Int)) (hR : R.length ≤ 1000) (o : Int × List (List Int))
    (hgo : Ev (fun k => spec_keJoin.l0 k b x (x.length : Int) (wrap64 ((i : Int) + 1)) (n : Int) x m' y (n : Int) (R ++ [(rngFrom 0 n).filter (joinT b x[i] y[i])])) o) :
    ∀ (m d : Nat), d + m = n → Ev (fun k => spec_keJoin.l1 k b (i : Int) x[i] ((rngFrom 0 d).filter (joinT b x[i] y[i])) (d : Int) x (x.length : Int) (i : Int) (n : Int) x m' y (n : Int) R) o := by
  intro m
  induction m with
  | zero =>
    intro d hd
    obtain rfl : d = n := by omega
    refine Ev.step (fun k => rfl) (Ev.no (by omega) (Ev.yes (by omega) hgo))
  | succ m ih =>
    intro d hd
    have hx1 := hx.1
    refine Ev.step (fun k => rfl) (Ev.yes (by omega) (Ev.bind (spec_l1Has.ev _ _ (hx.2 _ (List.getElem_mem hi))) (Ev.yes (by omega) (Ev.yes (by omega) ?_))))
    rw [rd_row hiy]
    refine Ev.bind (spec_l1Has.ev _ _ (hy.2 _ (List.getElem_mem hiy))) ?_
    have hw : wrap64 ((d : Int) + 1) = ((d + 1 : Nat) : Int) := w64 (by omega) (by omega)
    have hl := filter_len_le (joinT b x[i] y[i]) (rngFrom 0 d)
    rw [rngFrom_len] at hl
    have hgo' := ih (d + 1) (by omega)
    have hs : rngFrom 0 (d + 1) = rngFrom 0 d ++ [(d : Int)] := by unfold rngFrom; rw [List.range'_concat]; simp
    rw [hs, List.filter_append] at hgo'
    rw [hw]
    cases e1 : x[i].contains (d : Int) <;> cases e2 : y[i].contains (d : Int) <;> cases b
    · rw [show List.filter (joinT false x[i] y[i]) [(d : Int)] = [] by rw [List.filter_cons]; simp only [joinT, e1, e2]; rfl, List.append_nil] at hgo'
      exact Ev.no (by simp) (Ev.no (by simp) (Ev.no (by simp) hgo'))
    · rw [show List.filter (joinT true x[i] y[i]) [(d : Int)] = [] by rw [List.filter_cons]; simp only [joinT, e1, e2]; rfl, List.append_nil] at hgo'
      exact Ev.no (by simp) (Ev.yes rfl hgo')
    · rw [show List.filter (joinT false x[i] y[i]) [(d : Int)] = [(d : Int)] by rw [List.filter_cons]; simp only [joinT, e1, e2]; rfl] at hgo'
      exact Ev.no (by simp) (Ev.no (by simp) (Ev.yes rfl (Ev.yes (by omega) hgo')))
    · rw [show List.filter (joinT true x[i] y[i]) [(d : Int)] = [] by rw [List.filter_cons]; simp only [joinT, e1, e2]; rfl, List.append_nil] at hgo'
      exact Ev.no (by simp) (Ev.yes rfl hgo')
    · rw [show List.filter (joinT false x[i] y[i]) [(d : Int)] = [(d : Int)] by rw [List.filter_cons]; simp only [joinT, e1, e2]; rfl] at hgo'
      exact Ev.yes rfl (Ev.no (by simp) (Ev.no (by simp) (Ev.yes (by omega) hgo')))
    · rw [show List.filter (joinT true x[i] y[i]) [(d : Int)] = [] by rw [List.filter_cons]; simp only [joinT, e1, e2]; rfl, List.append_nil] at hgo'
      exact Ev.yes rfl (Ev.no (by simp) (Ev.yes rfl hgo'))
    · rw [show List.filter (joinT false x[i] y[i]) [(d : Int)] = [(d : Int)] by rw [List.filter_cons]; simp only [joinT, e1, e2]; rfl] at hgo'
      exact Ev.yes rfl (Ev.yes rfl (Ev.yes (by omega) hgo'))
    · rw [show List.filter (joinT true x[i] y[i]) [(d : Int)] = [(d : Int)] by rw [List.filter_cons]; simp only [joinT, e1, e2]; rfl] at hgo'
      exact Ev.yes rfl (Ev.yes rfl (Ev.yes (by omega) hgo'))
theorem spec_keJoin.lev0 (b : Bool) (n : Nat) (hn : n ≤ 9) (x y : List (List Int)) (m' : Int) (hxy : x.length ≤ y.length) (hx9 : x.length ≤ 1000) (hx : RowsV x) (hy : RowsV y) :
    ∀ (m i : Nat), i + m = x.length → Ev (fun k => spec_keJoin.l0 k b x (x.length : Int) (i : Int) (n : Int) x m' y (n : Int) ((List.range' 0 i).map fun j => (rngFrom 0 n).filter (joinT b (x.getD j []) (y.getD j [])))) ((n : Int), joinRows b n x y) := by
  intro m
  induction m with
  | zero =>
    intro i hi
    obtain rfl : i = x.length := by omega
    exact Ev.step (fun k => rfl) (Ev.no (by omega) (Ev.now _))
  | succ m ih =>
    intro i hi
    have hlt : i < x.length := by omega
    have hly : i < y.length := by omega
    refine Ev.step (fun k => rfl) (Ev.yes (by omega) (Ev.yes (by omega) (Ev.yes (by omega) ?_)))
    rw [rd_row hlt]
    have h0 : ([] : List Int) = (rngFrom 0 0).filter (joinT b x[i] y[i]) := rfl
    rw [h0]
    refine spec_keJoin.lev1 b n hn x y m' i hlt hly hx hy _ (by simp; omega) _ ?_ n 0 (by omega)
    have hgo := ih (i + 1) (by omega)
    rw [List.range'_concat, List.map_append, List.map_cons, List.map_nil, Nat.zero_add, Nat.one_mul, show x.getD i [] = x[i] from getD_at hlt, show y.getD i [] = y[i] from getD_at hly] at hgo
    rw [w64 (x := (i : Int) + 1) (by omega) (by omega)]
    exact hgo
theorem spec_keJoin.ev (b : Bool) (n : Nat) (hn : n ≤ 9) (x y : List (List Int)) (m' : Int) (hxy : x.length ≤ y.length) (hx9 : x.length ≤ 1000) (hx : RowsV x) (hy : RowsV y) : Ev (fun k => spec_keJoin.f k (n : Int) x m' y b) ((n : Int), joinRows b n x y) := by
  unfold spec_keJoin.f
  exact spec_keJoin.lev0 b n hn x y m' hxy hx9 hx hy x.length 0 (by omega)
theorem rowsOf_v (n m : Nat) (hn : n ≤ 1000) (hm : m ≤ 1000) (f : Nat → Int → Bool) : RowsV (rowsOf n m f) := by
  refine ⟨by rw [rowsOf_len]; omega, fun r hr => ?_⟩
  unfold rowsOf at hr
  obtain ⟨i, _, rfl⟩ := List.mem_map.mp hr
  have := filter_len_le (f i) (rngFrom 0 n)
  rw [rngFrom_len] at this
  omega
/-- Pins of one kind: n depths, m places. -/
def KindL (n m : Nat) (l : List S24) : Prop := n ≤ 9 ∧ m ≤ 7 ∧ ∀ p ∈ l, p.f0 = (n : Int) ∧ p.f1.length = m ∧ RowsV p.f1
theorem keStep_lev (b : Bool) (n m : Nat) : ∀ (l : List S24) (P : List S24), KindL n m l → Ev (fun k => keStep k b (n : Int) (rowsOf n m (inB b P)) l) ((n : Int), rowsOf n m (inB b (P ++ l))) := by
  intro l
  induction l with
  | nil => intro P h; rw [List.append_nil]; exact Ev.now _
  | cons p t ih =>
    intro P h
    obtain ⟨hn, hm, hp⟩ := h
    obtain ⟨h0, h1, h2⟩ := hp p List.mem_cons_self
    have hj := spec_keJoin.ev b n hn (rowsOf n m (inB b P)) p.f1 p.f0 (by rw [rowsOf_len]; omega) (by rw [rowsOf_len]; omega) (rowsOf_v n m (by omega) (by omega) _) h2
    rw [joinRows_step] at hj
    have hgo := ih (P ++ [p]) ⟨hn, hm, fun q hq => hp q (List.mem_cons_of_mem _ hq)⟩
    rw [List.append_assoc] at hgo
    exact Ev.bind hj hgo
theorem spec_keJoined.ev (b : Bool) (n m : Nat) (l : List S24) (hne : 0 < l.length) (h : KindL n m l) : Ev (fun k => spec_keJoined.f k l b) ((n : Int), rowsOf n m (inB b l)) := by
  unfold spec_keJoined.f
  refine Ev.no (by omega) ?_
  cases l with
  | nil => simp at hne
  | cons q t =>
    obtain ⟨hn, hm, hp⟩ := h
    obtain ⟨h0, h1, h2⟩ := hp q List.mem_cons_self
    have hq : rd_T24 (q :: t) 0 = q := rfl
    rw [hq, h0]
    have hj := spec_keJoin.ev b n hn q.f1 q.f1 q.f0 (Nat.le_refl _) (by omega) h2 h2
    rw [joinRows_first, h1] at hj
    have hgo := keStep_lev b n m t [q] ⟨hn, hm, fun p hq => hp p (List.mem_cons_of_mem _ hq)⟩
    exact Ev.bind hj hgo
/-! impl.joined -/
def cntP (l : List S24) (i : Nat) (d : Int) : Nat := l.countP fun p => (p.f1.getD i []).contains d
theorem wr_succ {c : Nat} (h : c ≤ 1000) : wrap64 ((c : Int) + 1) = ((c + 1 : Nat) : Int) := w64 (by omega) (by omega)
theorem impl_joined.lev2 (l : List S24) (a : Int) (n m : Nat) (h : KindL n m l) (hl1 : l.length ≤ 1000) (i : Nat) (him : i < m) (row : List Int) (d : Nat) (mI : Int) (R : List (List Int)) (hrow : row.length ≤ 1000) (o : Int × List (List Int)) (t : Nat)
    (hgo : Ev (fun k => impl_joined.l1 k l a (i : Int) (if a ≤ (t : Int) then row ++ [(d : Int)] else row) mI (i : Int) (n : Int) (wrap64 ((d : Int) + 1)) (n : Int) R) o) :
    ∀ (q j : Nat) (c : Nat), j + q = l.length → c ≤ j → c + ((l.drop j).countP fun p => (p.f1.getD i []).contains (d : Int)) = t → Ev (fun k => impl_joined.l2 k l a (i : Int) row (d : Int) (c : Int) mI (i : Int) (n : Int) (d : Int) l (l.length : Int) (j : Int) (n : Int) R) o := by
  intro q
  induction q with
  | zero =>
    intro j c hj hc hcnt
    rw [List.drop_eq_nil_of_le (by omega)] at hcnt
    simp at hcnt
    refine Ev.step (fun k => rfl) (Ev.no (by omega) ?_)
    rw [← hcnt] at hgo
    by_cases e : a ≤ (c : Int)
    · rw [if_pos e] at hgo
      exact Ev.yes (by omega) (Ev.yes (by omega) hgo)
    · rw [if_neg e] at hgo
      exact Ev.no (by omega) hgo
  | succ q ih =>
    intro j c hj hc hcnt
    have hlt : j < l.length := by omega
    have hw := amk (wr_succ (c := j) (by omega))
    have hw2 := amk (wr_succ (c := c) (by omega))
    have u1 : j + 1 + q = l.length := by omega
    have u2 : c + 1 ≤ j + 1 := by omega
    have u3 : c ≤ j + 1 := by omega
    obtain ⟨hn, hm, hp⟩ := h
    obtain ⟨p0, p1, p2⟩ := hp l[j] (List.getElem_mem hlt)
    refine Ev.step (fun k => rfl) (Ev.yes (by omega) (Ev.yes (by omega) (Ev.yes (by omega) (Ev.yes (by omega) ?_))))
    rw [rd_pins hlt]
    refine Ev.yes (by omega) ?_
    rw [rd_row (by omega)]
    refine Ev.bind (slices_Contains_int_int.ev _ _ (p2.2 _ (List.getElem_mem _))) ?_
    rw [List.drop_eq_getElem_cons hlt, List.countP_cons, show l[j].f1.getD i [] = l[j].f1[i] from getD_at (by omega)] at hcnt
    rw [hw.out]
    have ih1 := ih (j + 1)
    clear ih
    generalize (l.drop (j + 1)).countP (fun p => (p.f1.getD i []).contains (d : Int)) = v at hcnt ih1
    cases e : l[j].f1[i].contains (d : Int) with
    | true =>
      rw [e] at hcnt
      refine Ev.yes rfl ?_
      rw [if_pos rfl] at hcnt
      rw [hw2.out]
      exact ih1 (c + 1) u1 u2 (by rw [← hcnt, Nat.add_assoc, Nat.add_comm 1 v])
    | false =>
      rw [e] at hcnt
      refine Ev.no (by simp) ?_
      rw [if_neg (by simp)] at hcnt
      exact ih1 c u1 u3 hcnt
theorem impl_joined.lev1 (l : List S24) (a : Int) (n m : Nat) (h : KindL n m l) (hl1 : l.length ≤ 1000) (i : Nat) (him : i < m) (mI : Int) (R : List (List Int)) (hR : R.length ≤ 1000) (o : Int × List (List Int))
    (hgo : Ev (fun k => impl_joined.l0 k l a mI (wrap64 ((i : Int) + 1)) (n : Int) (R ++ [(rngFrom 0 n).filter fun d => decide (a ≤ (cntP l i d : Int))])) o) :
    ∀ (q d : Nat), d + q = n → Ev (fun k => impl_joined.l1 k l a (i : Int) ((rngFrom 0 d).filter fun d => decide (a ≤ (cntP l i d : Int))) mI (i : Int) (n : Int) (d : Int) (n : Int) R) o := by
  have hn := h.1
  intro q
  induction q with
  | zero =>
    intro d hd
    obtain rfl : d = n := by omega
    exact Ev.step (fun k => rfl) (Ev.no (by omega) (Ev.yes (by omega) hgo))
  | succ q ih =>
    intro d hd
    have hl := filter_len_le (fun d => decide (a ≤ (cntP l i d : Int))) (rngFrom 0 d)
    rw [rngFrom_len] at hl
    refine Ev.step (fun k => rfl) (Ev.yes (by omega) ?_)
    refine impl_joined.lev2 l a n m h hl1 i him _ d mI R (by omega) o (cntP l i (d : Int)) ?_ l.length 0 0 (by omega) (by omega) (by rw [List.drop_zero, Nat.zero_add]; rfl)
    rw [w64 (x := (d : Int) + 1) (by omega) (by omega)]
    have hgo' := ih (d + 1) (by omega)
    have hs : rngFrom 0 (d + 1) = rngFrom 0 d ++ [(d : Int)] := by unfold rngFrom; rw [List.range'_concat]; simp
    rw [hs, List.filter_append] at hgo'
    by_cases e : a ≤ (cntP l i (d : Int) : Int)
    · rw [if_pos e]
      rw [show List.filter (fun d => decide (a ≤ (cntP l i d : Int))) [(d : Int)] = [(d : Int)] by simp [e]] at hgo'
      exact hgo'
    · rw [if_neg e]
      rw [show List.filter (fun d => decide (a ≤ (cntP l i d : Int))) [(d : Int)] = [] by simp [e], List.append_nil] at hgo'
      exact hgo'
theorem impl_joined.lev0 (l : List S24) (a : Int) (n m : Nat) (h : KindL n m l) (hl1 : l.length ≤ 1000) :
    ∀ (q i : Nat), i + q = m → Ev (fun k => impl_joined.l0 k l a (m : Int) (i : Int) (n : Int) (rowsOf n i fun i d => decide (a ≤ (cntP l i d : Int)))) ((n : Int), rowsOf n m fun i d => decide (a ≤ (cntP l i d : Int))) := by
  have hm := h.2.1
  intro q
  induction q with
  | zero =>
    intro i hi
    obtain rfl : i = m := by omega
    exact Ev.step (fun k => rfl) (Ev.no (by omega) (Ev.now _))
  | succ q ih =>
    intro i hi
    refine Ev.step (fun k => rfl) (Ev.yes (by omega) ?_)
    have hgo := ih (i + 1) (by omega)
    have hs : rowsOf n (i + 1) (fun i d => decide (a ≤ (cntP l i d : Int))) = rowsOf n i (fun i d => decide (a ≤ (cntP l i d : Int))) ++ [(rngFrom 0 n).filter fun d => decide (a ≤ (cntP l i d : Int))] := by
      unfold rowsOf
      rw [List.range'_concat, List.map_append, List.map_cons, List.map_nil, Nat.zero_add, Nat.one_mul]
    rw [hs, show ((i + 1 : Nat) : Int) = wrap64 ((i : Int) + 1) from (w64 (by omega) (by omega)).symm] at hgo
    have h1 := impl_joined.lev1 l a n m h hl1 i (by omega) (m : Int) _ (by rw [rowsOf_len]; omega) _ hgo n 0 (by omega)
    rw [rngFrom_zero, List.filter_nil] at h1
    exact h1
theorem impl_joined.ev (l : List S24) (a : Int) (n m : Nat) (hne : 0 < l.length) (h : KindL n m l) (hl1 : l.length ≤ 1000) : Ev (fun k => impl_joined.f k l a) ((n : Int), rowsOf n m fun i d => decide (a ≤ (cntP l i d : Int))) := by
  unfold impl_joined.f
  refine Ev.yes (by omega) ?_
  have hq : rd_T24 l 0 = l[0] := rd_pins hne
  obtain ⟨h0, h1, _⟩ := h.2.2 l[0] (List.getElem_mem hne)
  rw [hq, h0, h1]
  exact impl_joined.lev0 l a n m h hl1 m 0 (by omega)
theorem impl_shared.ev (l : List S24) (n m : Nat) (hne : 0 < l.length) (h : KindL n m l) (hl1 : l.length ≤ 1000) : Ev (fun k => impl_shared.f k l) ((n : Int), rowsOf n m (inB true l)) := by
  unfold impl_shared.f
  refine Ev.bind (impl_joined.ev l _ n m hne h hl1) (Ev.id ?_)
  rw [Prod.mk.injEq]
  refine ⟨rfl, ?_⟩
  apply rowsOf_congr
  intro i _ d _
  rw [← inB_count_all l i d]
  unfold cntP
  simp
theorem impl_master.ev (l : List S24) (n m : Nat) (hne : 0 < l.length) (h : KindL n m l) (hl1 : l.length ≤ 1000) : Ev (fun k => impl_joined.f k l 1) ((n : Int), rowsOf n m (inB false l)) := by
  refine Ev.eq (impl_joined.ev l 1 n m hne h hl1) ?_
  rw [Prod.mk.injEq]
  refine ⟨rfl, ?_⟩
  apply rowsOf_congr
  intro i _ d _
  rw [← inB_count_any l i d]
  unfold cntP
  congr 1
  rw [eq_iff_iff]
  omega
theorem kindB_KindL {l : List S24} (h : kindB l = true) (hv : ∀ p ∈ l, RowsV p.f1) : ∃ n m : Nat, KindL n m l ∧ 0 < l.length ∧ l.length ≤ 6 := by
  obtain ⟨⟨h1, h2⟩, h3⟩ := kindB_parts h
  obtain ⟨a1, a2, a3⟩ := pinsB_parts (h3 l[0] (List.getElem_mem h1)).1
  refine ⟨l[0].f0.toNat, l[0].f1.length, ⟨by omega, a2.2, fun p hp => ?_⟩, h1, h2⟩
  obtain ⟨_, b2, b3⟩ := h3 p hp
  have hq : rd_T24 l 0 = l[0] := rd_pins h1
  rw [hq] at b2 b3
  exact ⟨by omega, b3, hv p hp⟩
/-! spec's numbers of one digit. -/
theorem spec_l1Num.one {x : Int} (h : x < 10) : Ev (fun k => spec_l1Num.f k x) (strOfNums [wrap64 (48 + x) % 256]) :=
  Ev.step (fun k => rfl) (Ev.yes h (Ev.now _))
/-! spec's pins: what they come to. -/
theorem spec_l1Rising.lev (n : Int) (hn : 1 ≤ n ∧ n ≤ 9) (l : List Int) (hl : l.length ≤ 9223372036854775807) : ∀ (m i : Nat), i + m = l.length → (-1 ≤ lastI l i) → Ev (fun k => spec_l1Rising.l0 k l 0 (n - 1) l (l.length : Int) (i : Nat)) (risF n (lastI l i) (l.drop i)) := by
  intro m
  induction m with
  | zero =>
    intro i hi _
    refine Ev.step (fun k => rfl) (Ev.no (by omega) (Ev.id ?_))
    rw [List.drop_eq_nil_of_le (by omega)]
    rfl
  | succ m ih =>
    intro i hi hq
    have hlt : i < l.length := by omega
    have hr : rd l (i : Nat) = l[i] := rd_int hlt
    refine Ev.step (fun k => rfl) (Ev.yes (by omega) (Ev.yes (by omega) (Ev.yes (by omega) (Ev.bindc (spec_l1In.bs _ _ _) ?_))))
    rw [hr, List.drop_eq_getElem_cons hlt]
    unfold risF
    have hw : wrap64 ((i : Int) + 1) = ((i + 1 : Nat) : Int) := w64 (by omega) (by omega)
    have hla : lastI l (i + 1) = l[i] := lastI_at hlt
    by_cases h1 : 0 ≤ l[i] ∧ l[i] ≤ n - 1
    · refine Ev.yes (decide_eq_true h1) ?_
      have hgo := ih (i + 1) (by omega) (by rw [hla]; omega)
      rw [hla] at hgo
      cases i with
      | zero =>
        refine Ev.no (by omega) ?_
        rw [hw]
        refine Ev.eq hgo ?_
        have h2 : decide (lastI l 0 < l[0]) = true := decide_eq_true (show (-1 : Int) < l[0] by omega)
        have h3 : decide (l[0] ≤ n - 1) = true := decide_eq_true h1.2
        rw [h2, h3]; rfl
      | succ i =>
        have hp : wrap64 (((i + 1 : Nat) : Int) - 1) = (i : Nat) := by rw [w64 (by omega) (by omega)]; omega
        have hr1 : rd l (i : Nat) = l[i] := rd_int (by omega)
        have hlb : lastI l (i + 1) = l[i] := lastI_at (by omega)
        refine Ev.yes (by omega) ?_
        rw [hp, hr1, hlb]
        refine Ev.yes (by omega) (Ev.yes (by omega) ?_)
        by_cases h2 : l[i] ≥ l[i + 1]
        · refine Ev.yes h2 (Ev.id ?_)
          rw [decide_eq_false (by omega : ¬ l[i] < l[i + 1])]; rfl
        · refine Ev.no h2 ?_
          rw [hw]
          refine Ev.eq hgo ?_
          rw [decide_eq_true (by omega : l[i] < l[i + 1]), decide_eq_true h1.2]; rfl
    · refine Ev.no (by rw [decide_eq_false h1]; simp) (Ev.id ?_)
      by_cases h2 : lastI l i < l[i]
      · have h3 : ¬ l[i] ≤ n - 1 := fun h => h1 ⟨by omega, h⟩
        rw [decide_eq_false h3]; simp
      · rw [decide_eq_false h2]; rfl
theorem spec_l1Rising.ev (n : Int) (hn : 1 ≤ n ∧ n ≤ 9) (l : List Int) (hl : l.length ≤ 9223372036854775807) : Ev (fun k => spec_l1Rising.f k l 0 (n - 1)) (risF n (-1) l) := by
  unfold spec_l1Rising.f
  exact spec_l1Rising.lev n hn l hl l.length 0 (by omega) (show (-1 : Int) ≤ -1 by omega)
theorem spec_keGood.lev (n : Int) (hn : 1 ≤ n ∧ n ≤ 9) (l : List (List Int)) (hl : RowsV l) : ∀ (m i : Nat), i + m = l.length → Ev (fun k => spec_keGood.l0 k l (l.length : Int) (i : Nat) n l) ((l.drop i).all (rowB n)) := by
  have hl1 := hl.1
  intro m
  induction m with
  | zero =>
    intro i hi
    refine Ev.step (fun k => rfl) (Ev.no (by omega) (Ev.id ?_))
    rw [List.drop_eq_nil_of_le (by omega)]; rfl
  | succ m ih =>
    intro i hi
    have hlt : i < l.length := by omega
    refine Ev.step (fun k => rfl) (Ev.yes (by omega) (Ev.yes (by omega) (Ev.yes (by omega) ?_)))
    rw [rd_row hlt, List.drop_eq_getElem_cons hlt, List.all_cons]
    have hx := hl.2 l[i] (List.getElem_mem hlt)
    have hgo := ih (i + 1) (by omega)
    generalize l[i] = x at hx ⊢
    unfold rowB
    by_cases h0 : (x.length : Int) = 0
    · refine Ev.yes h0 (Ev.id ?_)
      obtain rfl : x = [] := List.length_eq_zero_iff.mp (by omega)
      rfl
    · refine Ev.no h0 ?_
      have h1 : (!x.isEmpty) = true := by cases x <;> simp_all
      rw [w64 (x := n - 1) (by omega) (by omega), h1, Bool.true_and]
      refine Ev.bind (spec_l1Rising.ev n hn x hx) ?_
      cases risF n (-1) x with
      | false => exact Ev.no (by simp) (Ev.id rfl)
      | true =>
        refine Ev.yes rfl ?_
        rw [w64 (x := (i : Int) + 1) (by omega) (by omega), Bool.true_and]
        exact hgo
theorem spec_keGood.ev (n : Int) (l : List (List Int)) (hl : RowsV l) : Ev (fun k => spec_keGood.f k n l) (pinsB n l) := by
  unfold spec_keGood.f pinsB
  refine Ev.bindc (spec_l1In.bs _ _ _) ?_
  by_cases h1 : 1 ≤ n ∧ n ≤ 9
  · rw [decide_eq_true h1]
    refine Ev.yes rfl (Ev.bindc (spec_l1In.bs _ _ _) (Ev.step (fun k => rfl) ?_))
    simp only [spec_keGood.j0]
    by_cases h2 : 1 ≤ (l.length : Int) ∧ (l.length : Int) ≤ 7
    · rw [decide_eq_true h2]
      refine Ev.no (by simp) ?_
      have := spec_keGood.lev n h1 l hl l.length 0 (by omega)
      simpa using this
    · rw [decide_eq_false h2]
      exact Ev.yes (by simp) (Ev.id (by simp))
  · rw [decide_eq_false h1]
    refine Ev.no (by simp) (Ev.step (fun k => rfl) ?_)
    simp only [spec_keGood.j0]
    exact Ev.yes trivial (Ev.id (by simp))
/-! Digits of texts, texts of digits: what they come to. -/
theorem impl_text.lev (l : List Int) (hl : l.length ≤ 1000000) : ∀ (j : Nat) (i : Int) (x : List Int), 0 ≤ i → i ≤ l.length → (l.length : Int) - i = j → x = (l.take i.toNat).map (fun x => wrap64 (48 + x) % 256) →
    Ev (fun k => impl_text.l0 k x l (l.length : Int) i) (textB l) := by
  intro j
  induction j with
  | zero =>
    intro i x h0 hi hj hx
    refine Ev.step (fun k => rfl) (Ev.no (by omega) (Ev.id ?_))
    rw [hx, List.take_of_length_le (by omega)]; rfl
  | succ j ih =>
    intro i x h0 hi hj hx
    have hlt : i.toNat < l.length := by omega
    have hxl : x.length ≤ 1000000 := by rw [hx, List.length_map, List.length_take]; omega
    refine Ev.step (fun k => rfl) (Ev.yes (by omega) (Ev.yes h0 (Ev.yes (by omega) (Ev.yes (by omega) ?_))))
    rw [w64 (x := i + 1) (by omega) (by omega)]
    refine ih (i + 1) _ (by omega) (by omega) (by omega) ?_
    rw [toNat_succ h0, List.take_succ_eq_append_getElem hlt, List.map_append, hx, rd_at hlt]; rfl
theorem impl_text.ev (l : List Int) (hl : l.length ≤ 1000000) : Ev (fun k => impl_text.f k l) (textB l) := by
  unfold impl_text.f
  exact impl_text.lev l hl l.length 0 [] (by omega) (by omega) (by omega) (by simp)
/-! All keys that open: what impl (place after place) and spec (key after key) come to. -/
def dT (d : Int) : ByteArray := textB [d]
theorem dT_size (d : Int) : (dT d).size = 1 := by unfold dT; rw [textB_size]; rfl
def extK : List (List Int) → ByteArray → List ByteArray
  | [], s => [s]
  | r :: t, s => r.flatMap fun d => extK t (s ++ dT d)
def bfsK : List (List Int) → List ByteArray → List ByteArray
  | [], L => L
  | r :: t, L => bfsK t (L.flatMap fun s => r.map fun d => s ++ dT d)
theorem bfsK_ext : ∀ (l : List (List Int)) (L : List ByteArray), bfsK l L = L.flatMap (extK l) := by
  intro l
  induction l with
  | nil => intro L; show L = L.flatMap (fun s => [s]); rw [List.flatMap_singleton']
  | cons r t ih =>
    intro L
    show bfsK t (L.flatMap fun s => r.map fun d => s ++ dT d) = L.flatMap fun s => r.flatMap fun d => extK t (s ++ dT d)
    rw [ih, List.flatMap_assoc]
    congr 1
    funext s
    rw [List.flatMap_map]
def prodK (l : List (List Int)) : Nat := l.foldr (fun r n => r.length * n) 1
theorem flatMap_len {α β : Type} (f : α → List β) (c : Nat) : ∀ (l : List α), (∀ x ∈ l, (f x).length = c) → (l.flatMap f).length = l.length * c := by
  intro l
  induction l with
  | nil => intro _; simp
  | cons a t ih =>
    intro h
    rw [List.flatMap_cons, List.length_append, h a List.mem_cons_self, ih (fun x hx => h x (List.mem_cons_of_mem _ hx)), List.length_cons, Nat.succ_mul, Nat.add_comm]
theorem extK_len : ∀ (l : List (List Int)) (s : ByteArray), (extK l s).length = prodK l := by
  intro l
  induction l with
  | nil => intro s; rfl
  | cons r t ih =>
    intro s
    show (r.flatMap fun d => extK t (s ++ dT d)).length = r.length * prodK t
    exact flatMap_len _ _ _ (fun d _ => ih _)
/-- Rows of pins: short ones. -/
def Short (l : List (List Int)) : Prop := l.length ≤ 7 ∧ ∀ r ∈ l, r.length ≤ 9 ∧ ∀ x ∈ r, 0 ≤ x ∧ x < 10
theorem prodK_le : ∀ (l : List (List Int)), (∀ r ∈ l, r.length ≤ 9) → prodK l ≤ 9 ^ l.length := by
  intro l
  induction l with
  | nil => intro _; exact Nat.le_refl _
  | cons r t ih =>
    intro h
    show r.length * prodK t ≤ 9 ^ (t.length + 1)
    rw [Nat.pow_succ, Nat.mul_comm]
    exact Nat.mul_le_mul (ih (fun x hx => h x (List.mem_cons_of_mem _ hx))) (h r List.mem_cons_self)
theorem prodK_big {l : List (List Int)} (h : Short l) : prodK l ≤ 4782969 := Nat.le_trans (prodK_le l (fun r hr => (h.2 r hr).1)) (Nat.le_trans (Nat.pow_le_pow_right (by omega) h.1) (by decide))
theorem keysF_prod : ∀ (l : List (List Int)) (a : Nat), (∀ r ∈ l, r.length ≤ 9) → a * 9 ^ l.length ≤ 4782969 → l.foldl (fun n r => wrap64 (n * r.length)) (a : Int) = ((a * prodK l : Nat) : Int) := by
  intro l
  induction l with
  | nil => intro a _ _; show (a : Int) = ((a * 1 : Nat) : Int); rw [Nat.mul_one]
  | cons r t ih =>
    intro a h hb
    have hr := h r List.mem_cons_self
    rw [List.foldl_cons]
    have h1 : a * r.length * 9 ^ t.length ≤ 4782969 := by
      refine Nat.le_trans ?_ hb
      rw [List.length_cons, Nat.pow_succ, Nat.mul_assoc]
      refine Nat.mul_le_mul_left a ?_
      rw [Nat.mul_comm]
      exact Nat.mul_le_mul_left _ hr
    have h2 : a * r.length ≤ 4782969 := Nat.le_trans (Nat.le_mul_of_pos_right _ (Nat.pow_pos (by omega))) h1
    have hw : wrap64 ((a : Int) * (r.length : Int)) = ((a * r.length : Nat) : Int) := by
      rw [Int.natCast_mul a r.length |>.symm]
      exact w64 (by omega) (by omega)
    rw [hw, ih (a * r.length) (fun x hx => h x (List.mem_cons_of_mem _ hx)) h1]
    show ((a * r.length * prodK t : Nat) : Int) = ((a * (r.length * prodK t) : Nat) : Int)
    rw [Nat.mul_assoc]
theorem keysF_is {l : List (List Int)} (h : Short l) : keysF l = (prodK l : Int) := by
  have := keysF_prod l 1 (fun r hr => (h.2 r hr).1) (by rw [Nat.one_mul]; exact Nat.le_trans (Nat.pow_le_pow_right (by omega) h.1) (by decide))
  rw [Nat.one_mul] at this
  exact this
/-! spec -/
theorem spec_keAll.lev (n : Int) (L : List (List Int)) (hS : Short L) : ∀ (m : Nat) (s : ByteArray), s.size + m = L.length → Ev (fun k => spec_keAll.f k n L s) (extK (L.drop s.size) s) := by
  have h7 := hS.1
  intro m
  induction m with
  | zero =>
    intro s hs
    refine Ev.step (fun k => rfl) (Ev.yes (by omega) (Ev.id ?_))
    rw [List.drop_eq_nil_of_le (by omega)]; rfl
  | succ m ih =>
    intro s hs
    have hlt : s.size < L.length := by omega
    refine Ev.step (fun k => rfl) (Ev.no (by omega) (Ev.yes (by omega) (Ev.yes (by omega) ?_)))
    rw [rd_row hlt, List.drop_eq_getElem_cons hlt]
    have hrow := hS.2 L[s.size] (List.getElem_mem hlt)
    have hbig : (extK (L[s.size] :: L.drop (s.size + 1)) s).length ≤ 4782969 := by
      rw [extK_len]
      refine prodK_big ⟨?_, fun r hr => ?_⟩
      · rw [List.length_cons, List.length_drop]; omega
      · rcases List.mem_cons.mp hr with rfl | hr
        · exact hrow
        · exact hS.2 r (List.mem_of_mem_drop hr)
    have hT : extK (L[s.size] :: L.drop (s.size + 1)) s = L[s.size].flatMap fun d => extK (L.drop (s.size + 1)) (s ++ dT d) := rfl
    rw [hT] at hbig ⊢
    generalize L[s.size] = row at hrow hbig ⊢
    have hlev : ∀ (q i : Nat) (acc : List ByteArray), i + q = row.length → acc ++ ((row.drop i).flatMap fun d => extK (L.drop (s.size + 1)) (s ++ dT d)) = (row.flatMap fun d => extK (L.drop (s.size + 1)) (s ++ dT d)) → Ev (fun k => spec_keAll.l0 k s acc row (row.length : Int) (i : Nat) n L) (row.flatMap fun d => extK (L.drop (s.size + 1)) (s ++ dT d)) := by
      intro q
      induction q with
      | zero =>
        intro i acc hi hacc
        rw [show row.drop i = [] from List.drop_eq_nil_of_le (by omega), List.flatMap_nil, List.append_nil] at hacc
        exact Ev.step (fun k => rfl) (Ev.no (by omega) (Ev.id hacc))
      | succ q ihq =>
        intro i acc hi hacc
        have hil : i < row.length := by omega
        have hx := hrow.2 row[i] (List.getElem_mem hil)
        have hlen := hacc
        rw [List.drop_eq_getElem_cons hil, List.flatMap_cons] at hacc
        have hl2 : acc.length + (extK (L.drop (s.size + 1)) (s ++ dT row[i])).length ≤ 4782969 := by
          refine Nat.le_trans ?_ hbig
          rw [← hacc, List.length_append, List.length_append]
          omega
        have hsz : (s ++ dT row[i]).size = s.size + 1 := by rw [ByteArray.size_append, dT_size]
        have hr9 := hrow.1
        have hgo := ih (s ++ dT row[i]) (by omega)
        rw [hsz] at hgo
        have hw := amk (wr_succ (c := i) (by omega))
        have hd1 := dT_size row[i]
        refine Ev.step (fun k => rfl) (Ev.yes (by omega) (Ev.yes (by omega) (Ev.yes (by omega) ?_)))
        rw [rd_int hil, hw.out]
        refine Ev.bind (spec_l1Num.one hx.2) (Ev.yes ?_ (Ev.bind hgo (Ev.yes (by omega) ?_)))
        · show s.size + (dT row[i]).size ≤ 9223372036854775807
          omega
        · exact ihq (i + 1) _ (by omega) (by rw [List.append_assoc]; exact hacc)
    exact hlev row.length 0 [] (by omega) (by rw [List.drop_zero]; rfl)
theorem spec_keAll.ev (n : Int) (L : List (List Int)) (hS : Short L) : Ev (fun k => spec_keAll.f k n L ⟨#[]⟩) (extK L ⟨#[]⟩) := by
  have := spec_keAll.lev n L hS L.length ⟨#[]⟩ (by show 0 + L.length = L.length; omega)
  exact this
/-! impl -/
theorem impl_text.one (d : Int) : Ev (fun k => impl_text.f k [d]) (dT d) := impl_text.ev [d] (by show 1 ≤ 1000000; omega)
theorem impl_Pins_all.lev2 (L : List (List Int)) (li : Int) (row : List Int) (hrow : row.length ≤ 9) (s : ByteArray) (hs : s.size ≤ 7) (X : List ByteArray) (j : Nat) (N : Nat) (hN : N ≤ 4782969 * 9) (o : List ByteArray × Bool) (T : List ByteArray) (hT : T.length ≤ N)
    (hgo : Ev (fun k => impl_Pins_all.l1 k row T L (L.length : Int) li X (X.length : Int) (wrap64 ((j : Int) + 1))) o) :
    ∀ (q i : Nat) (acc : List ByteArray), i + q = row.length → acc ++ ((row.drop i).map fun d => s ++ dT d) = T → Ev (fun k => impl_Pins_all.l2 k row acc s L (L.length : Int) li X (X.length : Int) (j : Int) row (row.length : Int) (i : Int)) o := by
  intro q
  induction q with
  | zero =>
    intro i acc hi hacc
    rw [List.drop_eq_nil_of_le (by omega), List.map_nil, List.append_nil] at hacc
    subst hacc
    exact Ev.step (fun k => rfl) (Ev.no (by omega) hgo)
  | succ q ih =>
    intro i acc hi hacc
    have hil : i < row.length := by omega
    rw [List.drop_eq_getElem_cons hil, List.map_cons] at hacc
    have hl2 : acc.length ≤ N := by
      refine Nat.le_trans ?_ hT
      rw [← hacc, List.length_append]
      omega
    have hw := amk (wr_succ (c := i) (by omega))
    have hd1 := dT_size row[i]
    refine Ev.step (fun k => rfl) (Ev.yes (by omega) (Ev.yes (by omega) (Ev.yes (by omega) ?_)))
    rw [rd_int hil, hw.out]
    refine Ev.bind (impl_text.one _) (Ev.yes (by omega) (Ev.yes (by omega) ?_))
    exact ih (i + 1) _ (by omega) (by rw [List.append_assoc]; exact hacc)
theorem impl_Pins_all.lev1 (L : List (List Int)) (li : Int) (row : List Int) (hrow : row.length ≤ 9) (X : List ByteArray) (hX : X.length ≤ 4782969) (hXs : ∀ s ∈ X, s.size ≤ 7) (o : List ByteArray × Bool)
    (hgo : Ev (fun k => impl_Pins_all.l0 k (X.flatMap fun s => row.map fun d => s ++ dT d) L (L.length : Int) (wrap64 (li + 1))) o) :
    ∀ (q j : Nat) (acc : List ByteArray), j + q = X.length → acc.length ≤ j * 9 → acc ++ ((X.drop j).flatMap fun s => row.map fun d => s ++ dT d) = (X.flatMap fun s => row.map fun d => s ++ dT d) → Ev (fun k => impl_Pins_all.l1 k row acc L (L.length : Int) li X (X.length : Int) (j : Int)) o := by
  intro q
  induction q with
  | zero =>
    intro j acc hj hal hacc
    rw [List.drop_eq_nil_of_le (by omega), List.flatMap_nil, List.append_nil] at hacc
    rw [← hacc] at hgo
    exact Ev.step (fun k => rfl) (Ev.no (by omega) hgo)
  | succ q ih =>
    intro j acc hj hal hacc
    have hjl : j < X.length := by omega
    rw [List.drop_eq_getElem_cons hjl, List.flatMap_cons] at hacc
    have hw := amk (wr_big (c := j) (by omega))
    have hs7 := hXs X[j] (List.getElem_mem hjl)
    refine Ev.step (fun k => rfl) (Ev.yes (by omega) (Ev.yes (by omega) (Ev.yes (by omega) ?_)))
    rw [rd_str hjl]
    have hml : (row.map fun d => X[j] ++ dT d).length = row.length := List.length_map _
    refine impl_Pins_all.lev2 L li row hrow X[j] hs7 X j (4782969 * 9) (Nat.le_refl _) o (acc ++ (row.map fun d => X[j] ++ dT d)) (by rw [List.length_append, hml]; omega) ?_ row.length 0 acc (by omega) (by rw [List.drop_zero])
    rw [hw.out]
    exact ih (j + 1) _ (by omega) (by rw [List.length_append, hml]; omega) (by rw [List.append_assoc]; exact hacc)
theorem impl_Pins_all.lev0 (L : List (List Int)) (hS : Short L) : ∀ (q i : Nat) (X : List ByteArray), i + q = L.length → X.length ≤ 9 ^ i → (∀ s ∈ X, s.size = i) → Ev (fun k => impl_Pins_all.l0 k X L (L.length : Int) (i : Int)) (bfsK (L.drop i) X, true) := by
  have h7 := hS.1
  intro q
  induction q with
  | zero =>
    intro i X hi hX hXs
    refine Ev.step (fun k => rfl) (Ev.no (by omega) (Ev.id ?_))
    rw [List.drop_eq_nil_of_le (by omega)]; rfl
  | succ q ih =>
    intro i X hi hX hXs
    have hil : i < L.length := by omega
    have hrow := hS.2 L[i] (List.getElem_mem hil)
    have h9 : 9 ^ i ≤ 4782969 := Nat.le_trans (Nat.pow_le_pow_right (by omega) (by omega : i ≤ 7)) (by decide)
    have hw := amk (wr_succ (c := i) (by omega))
    refine Ev.step (fun k => rfl) (Ev.yes (by omega) (Ev.yes (by omega) (Ev.yes (by omega) ?_)))
    rw [rd_row hil, List.drop_eq_getElem_cons hil]
    refine impl_Pins_all.lev1 L i L[i] hrow.1 X (by omega) (fun s hs => by have := hXs s hs; omega) _ ?_ X.length 0 [] (by omega) (Nat.zero_le _) (by rw [List.drop_zero]; rfl)
    rw [hw.out]
    refine ih (i + 1) _ (by omega) ?_ ?_
    · rw [flatMap_len _ L[i].length X (fun s _ => List.length_map _), Nat.pow_succ]
      exact Nat.mul_le_mul hX hrow.1
    · intro s hs
      obtain ⟨t, ht, hs⟩ := List.mem_flatMap.mp hs
      obtain ⟨d, _, rfl⟩ := List.mem_map.mp hs
      rw [ByteArray.size_append, dT_size, hXs t ht]
def allV (n : Int) (L : List (List Int)) : List ByteArray × Bool := if pinsB n L = true ∧ prodK L ≤ 200 then (extK L ⟨#[]⟩, true) else ([], false)
theorem pinsB_Short {n : Int} {L : List (List Int)} (h : pinsB n L = true) : Short L := by
  obtain ⟨h1, h2, h3⟩ := pinsB_parts h
  refine ⟨h2.2, fun r hr => ⟨?_, fun x hx => ?_⟩⟩
  · have := (rowB_len (by omega) (h3 r hr)).2
    omega
  · have := rowB_mem (h3 r hr) x hx
    omega
theorem allV_len (n : Int) (L : List (List Int)) : (allV n L).1.length ≤ 200 := by
  unfold allV
  by_cases h : pinsB n L = true ∧ prodK L ≤ 200
  · rw [if_pos h]
    show (extK L ⟨#[]⟩).length ≤ 200
    rw [extK_len]; exact h.2
  · rw [if_neg h]; exact Nat.zero_le _
theorem allV_no1 {n : Int} {L : List (List Int)} (h : pinsB n L = false) : allV n L = ([], false) := if_neg (fun hh => by rw [h] at hh; cases hh.1)
theorem allV_no2 {n : Int} {L : List (List Int)} (h : ¬ prodK L ≤ 200) : allV n L = ([], false) := if_neg (fun hh => h hh.2)
theorem allV_yes {n : Int} {L : List (List Int)} (h : pinsB n L = true) (h2 : prodK L ≤ 200) : allV n L = (extK L ⟨#[]⟩, true) := if_pos ⟨h, h2⟩
theorem spec_AllKeys.ev (n : Int) (L : List (List Int)) (hl : RowsV L) : Ev (fun k => spec_AllKeys.f k n L) (allV n L) := by
  unfold spec_AllKeys.f
  refine Ev.bind (spec_keGood.ev n L hl) ?_
  cases h : pinsB n L with
  | false => rw [allV_no1 h]; exact Ev.no (by simp) (Ev.now _)
  | true =>
    have hS := pinsB_Short h
    refine Ev.yes rfl (Ev.bind (spec_keCount.ev n L hl.1) ?_)
    rw [keysF_is hS]
    by_cases h2 : prodK L ≤ 200
    · rw [allV_yes h h2]
      exact Ev.no (by omega) (Ev.bind (spec_keAll.ev n L hS) (Ev.now _))
    · rw [allV_no2 h2]
      exact Ev.yes (by omega) (Ev.now _)
theorem impl_AllKeys.ev (n : Int) (L : List (List Int)) (hl : RowsV L) : Ev (fun k => impl_AllKeys.f k n L) (allV n L) := by
  unfold impl_AllKeys.f impl_ArePins.f
  refine Ev.bindc rfl ?_
  cases h : pinsB n L with
  | false => rw [allV_no1 h]; exact Ev.no (by simp) (Ev.now _)
  | true =>
    have hS := pinsB_Short h
    refine Ev.yes rfl ?_
    unfold impl_Pins_all.f
    by_cases h2 : prodK L ≤ 200
    · rw [allV_yes h h2]
      have hb := impl_Pins_all.lev0 L hS L.length 0 [⟨#[]⟩] (by omega) (by show 1 ≤ 9 ^ 0; decide) (fun s hs => by rw [List.mem_singleton.mp hs]; rfl)
      rw [List.drop_zero, bfsK_ext, List.flatMap_cons, List.flatMap_nil, List.append_nil] at hb
      refine Ev.bind (Ev.bind (impl_Pins_keys.ev n L hl.1) (Ev.no ?_ hb)) (Ev.now _)
      rw [keysF_is hS]; omega
    · rw [allV_no2 h2]
      refine Ev.bind (Ev.bind (impl_Pins_keys.ev n L hl.1) (Ev.yes ?_ (Ev.now _))) (Ev.now _)
      rw [keysF_is hS]; omega
/-! ### spec_l1Least: function 78 -/
def spec_l1Least.f (a0 : Int) (a1 : Int) : Option (Int) := if a0 < a1 then (some a0) else (some a1)
set_option maxHeartbeats 8000000 in
set_option maxRecDepth 100000 in
theorem spec_l1Least.calls (a0 : Int) (a1 : Int) (r : Int) (w : World) (h : spec_l1Least.f a0 a1 = some r) :
    Calls Try.prog 78 #[.int .i64 a0, .int .i64 a1] w fun e w' => e = .returned (.int .i64 r) ∧ Drawn0 w w' := by
  have H : (if a0 < a1 then (some a0) else (some a1)) = some r := h
  clear h
  replace H := iteE H; obtain ⟨c3b0, H⟩ | ⟨c3b0, H⟩ := H
  · obtain rfl := Option.some.inj H
    go_enter Try.func78, Try.ntmps78
    go_wp2
    go_ret
    exact ⟨rS_, dR_⟩
  · obtain rfl := Option.some.inj H
    go_enter Try.func78, Try.ntmps78
    go_wp2
    go_ret
    exact ⟨rS_, dR_⟩
/-! ### spec_l1Most: function 79 -/
def spec_l1Most.f (a0 : Int) (a1 : Int) : Option (Int) := if a0 > a1 then (some a0) else (some a1)
set_option maxHeartbeats 8000000 in
set_option maxRecDepth 100000 in
theorem spec_l1Most.calls (a0 : Int) (a1 : Int) (r : Int) (w : World) (h : spec_l1Most.f a0 a1 = some r) :
    Calls Try.prog 79 #[.int .i64 a0, .int .i64 a1] w fun e w' => e = .returned (.int .i64 r) ∧ Drawn0 w w' := by
  have H : (if a0 > a1 then (some a0) else (some a1)) = some r := h
  clear h
  by_cases c3 : a0 > a1
  · rw [if_pos c3] at H
    have c3b0 : decide (a1 < a0) = true := decide_eq_true c3
    clear c3
    obtain rfl := Option.some.inj H
    go_enter Try.func79, Try.ntmps79
    go_wp2
    go_ret
    exact ⟨rS_, dR_⟩
  · rw [if_neg c3] at H
    have c3b0 : decide (a1 < a0) = false := decide_eq_false c3
    clear c3
    obtain rfl := Option.some.inj H
    go_enter Try.func79, Try.ntmps79
    go_wp2
    go_ret
    exact ⟨rS_, dR_⟩
/-! (*l1Cur).keyOf, by hand: that it comes to an end and gives a text; what the cursor holds is its own. -/
def KY (w0 wI : World) (g : Nat) (s : List Int) (q : Nat) (n : Int) (A : Option Addr) (c : Nat) (L : List (List Int)) (base : Nat) (ok : Nat → Prop) (W : World) (a b : Int) : Prop :=
  IsS73 w0 W g s a b ∧ Below w0.heap.size w0 W ∧ W.heap[q]? = some (bxK n A L.length c) ∧ Kd.N (Kd.slice 3 (Kd.int .i64)) 52 W base ok (.slice A L.length c) L ∧ KeepBut wI W g none
theorem cell_sameK {W W2 : World} {p : Addr} (h : W2.heap[p.block]? = W.heap[p.block]?) : W2.cell? p = W.cell? p := by simp only [World.cell?, h]
section
variable {w0 wI W W2 : World} {g q c base : Nat} {s : List Int} {n a b a2 b2 : Int} {A : Option Addr} {L : List (List Int)} {ok : Nat → Prop}
theorem KY_below (h : KY w0 wI g s q n A c L base ok W a b) (hb : Below W.heap.size W W2) : KY w0 wI g s q n A c L base ok W2 a b :=
  ⟨h.1.below hb, h.2.1.trans (hb.mono h.2.1.size), blk_below h.2.2.1 hb, Kd.N_below h.2.2.2.1 hb, h.2.2.2.2.trans (KeepBut.of_below hb g none) (.inl rfl)⟩
theorem KY_keep (h : KY w0 wI g s q n A c L base ok W a b) (hg : ∀ k, ok k → k ≠ g) (hq : q ≠ g) (i2 : IsS73 w0 W2 g s a2 b2) (hb : Below w0.heap.size w0 W2) (hk : KeepBut W W2 g none) : KY w0 wI g s q n A c L base ok W2 a2 b2 :=
  ⟨i2, hb, (hk.2 q (blk_lt h.2.2.1) hq (by simp)).trans h.2.2.1, Kd.N_keep h.2.2.2.1 hk hg, h.2.2.2.2.trans hk (.inl rfl)⟩
theorem KY_C (h : KY w0 wI g s q n A c L base ok W a b) : Kd.C (Kd.slice 3 (Kd.int .i64)) W A L.length L ∧ L.length ≤ c := ⟨(Kd.N_reads' h.2.2.2.1).2.2, (Kd.N_reads' h.2.2.2.1).2.1⟩
/-- A row read once more, behind what kept it. -/
theorem KY_row (h : KY w0 wI g s q n A c L base ok W a b) (h2 : KY w0 wI g s q n A c L base ok W2 a2 b2) (hg : ∀ k, ok k → k ≠ g) (hk : KeepBut W W2 g none) {i : Nat} (hi : i < L.length) {ad : Addr} (hA : A = some ad) {A1 : Option Addr} {c1 : Nat} (hx : W.cell? (ad.add i) = some (.slice A1 L[i].length c1)) : (Kd.int .i64).C W2 A1 L[i].length L[i] := by
  obtain ⟨ad2, A2, c2, e2, hx2, _, hr2⟩ := at_L1 (KY_C h2).1 (i : Int) (by omega) (by omega)
  rw [rd_row hi, Int.toNat_natCast] at hx2
  rw [rd_row hi] at hr2
  rw [hA] at e2
  obtain rfl := Option.some.inj e2
  have hok : ok ad.block := h.2.2.2.1.1 _ (by rw [hA]; simp [Value.ownBlock])
  have hlt := World.block_lt_of_cell? W _ hx
  have hb : (ad.add i).block = ad.block := by unfold Addr.add; split <;> rfl
  rw [hb] at hlt
  have he : W2.cell? (ad.add i) = W.cell? (ad.add i) := by
    have := hk.2 ad.block hlt (hg _ hok) (by simp)
    rw [← hb] at this
    exact cell_sameK this
  rw [he, hx] at hx2
  injection hx2 with hx3
  injection hx3 with h3 _ _
  rw [h3]
  exact hr2
end
theorem four_strs {W : World} {g : Nat} {x0 x1 x2 x3 : ByteArray} (hg : W.heap[g]? = some (.cells #[.string x0, .string x1, .string x2, .string x3] 9 (0, 0))) : Kd.C Kd.string W (some ⟨g, 0, none⟩) 4 [x0, x1, x2, x3] := by
  have q0 : W.cell? ⟨g, 0, none⟩ = some (.string x0) := by simp [World.cell?, hg]
  have q1 : W.cell? ⟨g, 1, none⟩ = some (.string x1) := by simp [World.cell?, hg]
  have q2 : W.cell? ⟨g, 2, none⟩ = some (.string x2) := by simp [World.cell?, hg]
  have q3 : W.cell? ⟨g, 3, none⟩ = some (.string x3) := by simp [World.cell?, hg]
  refine ⟨rfl, by decide, fun _ => ⟨_, rfl, fun j p hj => ?_⟩⟩
  match j, hj with
  | 0, hj =>
    injection hj with hj
    subst hj
    exact ⟨[.string x0], rfl, rfl, fun i u hi => by match i, hi with | 0, hi => injection hi with hi; subst hi; exact q0⟩
  | 1, hj =>
    injection hj with hj
    subst hj
    exact ⟨[.string x1], rfl, rfl, fun i u hi => by match i, hi with | 0, hi => injection hi with hi; subst hi; exact q1⟩
  | 2, hj =>
    injection hj with hj
    subst hj
    exact ⟨[.string x2], rfl, rfl, fun i u hi => by match i, hi with | 0, hi => injection hi with hi; subst hi; exact q2⟩
  | 3, hj =>
    injection hj with hj
    subst hj
    exact ⟨[.string x3], rfl, rfl, fun i u hi => by match i, hi with | 0, hi => injection hi with hi; subst hi; exact q3⟩
theorem l1Num_size {x : Int} (hx : 0 ≤ x ∧ x < 10) : Ev (fun k => spec_l1Num.f k x) (dT x) ∧ (dT x).size = 1 := ⟨spec_l1Num.one hx.2, dT_size x⟩
set_option maxHeartbeats 8000000 in
set_option maxRecDepth 100000 in
theorem spec_l1Cur_keyOf.calls (g : Nat) (s : List Int) (a b n : Int) (A : Option Addr) (c : Nat) (L : List (List Int)) (base : Nat) (ok : Nat → Prop) (w0 w : World) (hs : BytesV s) (h0 : 0 ≤ a) (h1 : a ≤ 1000000) (hI : IsS73 w0 w g s a b) (hB : Below w0.heap.size w0 w) (hN : Kd.N (Kd.slice 3 (Kd.int .i64)) 52 w base ok (.slice A L.length c) L) (hg : ∀ k, ok k → k ≠ g) (hL : SmallR L) :
    Calls Try.prog 73 #[.pointer (some ⟨g, 0, none⟩), .agg #[.int .i64 n, .slice A L.length c]] w fun e w' => ∃ key : ByteArray, e = .returned (.string key) ∧ Below w0.heap.size w0 w' ∧ KeepBut w w' g none := by
  have hu := Try.underlying24
  have hu2 := Try.underlying22
  have hu3 := Try.underlying52
  have hu4 := Try.underlying30
  have hq : w.heap.size ≠ g := Nat.ne_of_gt hI.lt
  obtain ⟨kg, eg⟩ := (spec_keGood.ev n L hL.v).rounds
  have HV := amk eg
  have HS := amk hs
  have HG := amk hg
  have HQ := amk hq
  have HL := amk hL
  have S0 := amk (show KY w0 w g s w.heap.size n A c L base ok (w.alloc (bxK n A L.length c)) a b from ⟨hI.alloc _, hB.alloc hB.size _, blk_new _ _, Kd.N_alloc hN _, KeepBut.of_below ((Below.refl _ w).alloc (Nat.le_refl _) _) g none⟩)
  have HA := amk (show 0 ≤ a ∧ a ≤ 1000000 from ⟨h0, h1⟩)
  clear eg hs hg hq hL hI hB hN h0 h1
  go_enter Try.func73, Try.ntmps73
  go_wp2
  go_loopg [5, 6] L.length (fun gg v5 v6 W => ∃ (out : ByteArray) (i : Nat) (a b : Int), v5 = .string out ∧ v6 = .int .i64 (i : Int) ∧ Aside0 (i ≤ L.length ∧ L.length ≤ i + gg) ∧ Aside0 (out.size ≤ i) ∧ Aside0 (0 ≤ a ∧ a ≤ 1000000 + 3 * i) ∧ Aside0 (KY w0 w g s w.heap.size n A c L base ok W a b))
  case atStart => exact ⟨⟨#[]⟩, 0, a, b, rfl, rfl, ⟨⟨Nat.zero_le _, Nat.le_of_eq (Nat.zero_add _).symm⟩⟩, ⟨Nat.le_refl _⟩, ⟨by have := HA.out; omega⟩, S0⟩
  case round =>
    clear S0 HA
    obtain ⟨out, i, a1, b1, rfl, rfl, HI, HO, HA, S0⟩ := hrel
    obtain ⟨q0, q1, _, _, _⟩ := two_cells S0.out.2.2.1
    by_cases hi : i < L.length ∧ i < 8
    · have d1 : decide ((i : Int) < (L.length : Int)) = true := decide_eq_true (Int.ofNat_lt.mpr hi.1)
      have d2 : decide ((i : Int) < 8) = true := decide_eq_true (by omega)
      have d3 : decide (i < L.length) = true := decide_eq_true hi.1
      have d4 : decide (i < 8) = true := decide_eq_true hi.2
      obtain ⟨ad, A1, c1, e0, hx0, hl1, hr1⟩ := at_L1 (KY_C S0.out).1 (i : Int) (Int.natCast_nonneg i) (Int.ofNat_lt.mpr hi.1)
      rw [rd_row hi.1, Int.toNat_natCast] at hx0
      rw [rd_row hi.1] at hl1 hr1
      have p1 : (0 ≤ (i : Int)) = True := eq_true (Int.natCast_nonneg i)
      have p2 : ((i : Int) < (L.length : Int)) = True := eq_true (Int.ofNat_lt.mpr hi.1)
      have hi8 : i ≤ 8 := by omega
      have hLi : L[i].length ≤ 10 := HL.out.2 _ (List.getElem_mem hi.1)
      have HWI := amk (wr_inc (i := i) (by omega))
      obtain ⟨r1, a2, b2, o1, ha1, ha2⟩ := done_ok HS.out (a := a1) HA.out.1 (by have := HA.out; omega) b1 (n := 4) (by omega)
      have O1 := amk o1
      have HA2 := amk (show 0 ≤ a2 ∧ a2 ≤ 1000001 + 3 * i by have := HA.out; omega)
      have LI := amk hi
      have CL := amk hl1
      have X0 := amk hx0
      have E0 := amk e0
      clear o1 ha1 ha2 hl1 hr1
      -- the other arm's number, and its text
      obtain ⟨m1, hm1, hm2⟩ : ∃ m1 : Int, spec_l1Most.f 1 n = some m1 ∧ 1 ≤ m1 := by
        unfold spec_l1Most.f
        by_cases h : 1 > n
        · exact ⟨1, by rw [if_pos h], Int.le_refl _⟩
        · exact ⟨n, by rw [if_neg h], by omega⟩
      obtain ⟨m2, hm3, hm4⟩ : ∃ m2 : Int, spec_l1Least.f 10 m1 = some m2 ∧ 1 ≤ m2 ∧ m2 ≤ 10 := by
        unfold spec_l1Least.f
        by_cases h : 10 < m1
        · exact ⟨10, by rw [if_pos h], by omega, by omega⟩
        · exact ⟨m1, by rw [if_neg h], by omega, by omega⟩
      have MM1 := amk hm1
      have MM3 := amk hm3
      have MM4 := amk hm4
      clear hm1 hm2 hm3 hm4
      have ELSE := amk (show ∀ a2 b2 : Int, 0 ≤ a2 → a2 ≤ 1000002 + 3 * i → ∃ (r a3 b3 : Int), spec_l1Cur_pick.f s a2 b2 m2 = some (r, a3, b3) ∧ 0 ≤ r ∧ r < 10 ∧ a2 ≤ a3 ∧ a3 ≤ a2 + 1 from fun a2 b2 h0 h1 => by
        obtain ⟨r, a3, b3, e, h2, h3, h4, h5⟩ := dpick_ok HS.out h0 (by omega) b2 (n := m2) (by have := MM4.out; omega)
        exact ⟨r, a3, b3, e, h2, by have := MM4.out; omega, h4, h5⟩)
      cases hV : pinsB n L with
      | true =>
        rw [hV] at HV
        obtain ⟨pb1, pb2, pb3⟩ := pinsB_parts hV
        have hrow := pb3 L[i] (List.getElem_mem hi.1)
        have hlen := (rowB_len (by omega) hrow).1
        obtain ⟨r2, a3, b3, o2, hb0, hb1, hb2, hb3⟩ := dpick_ok HS.out (a := a2) HA2.out.1 (by have := HA2.out; omega) b2 (n := (L[i].length : Int)) (by omega)
        have hx9 := rowB_mem hrow
        obtain ⟨j, rfl⟩ : ∃ j : Nat, r2 = (j : Int) := ⟨r2.toNat, by omega⟩
        have hj : j < L[i].length := by omega
        have hxj := hx9 L[i][j] (List.getElem_mem hj)
        obtain ⟨kn, en⟩ := (l1Num_size (x := L[i][j]) (by omega)).1.rounds
        have hsz := (l1Num_size (x := L[i][j]) (by omega)).2
        have O2 := amk o2
        have EN := amk en
        have SZ := amk hsz
        have HJ := amk hj
        have HA3 := amk (show 0 ≤ a3 ∧ a3 ≤ 1000000 + 3 * ((i + 1 : Nat) : Int) by have := HA2.out; omega)
        have hs1 : decide (out.size + (dT L[i][j]).size ≤ 9223372036854775807) = true := decide_eq_true (by have := HO.out; omega)
        have hs2 : (9223372036854775807 < out.size + (dT L[i][j]).size) = False := eq_false (by have := HO.out; omega)
        have hs3 : (out.size + (dT L[i][j]).size ≤ 9223372036854775807) = True := eq_true (by have := HO.out; omega)
        have P1 : (0 ≤ (j : Int)) = True := eq_true (Int.natCast_nonneg j)
        have P2 : ((j : Int) < (L[i].length : Int)) = True := eq_true (Int.ofNat_lt.mpr hj)
        clear pb1 pb2 pb3 hrow hlen o2 hb0 hb1 hb2 hb3 hx9 hxj en hsz hV hLi
        cases r1 with
        | true =>
          obtain ⟨r3, a4, b4, o3, h6, h7, h8, h9⟩ := ELSE.out a2 b2 HA2.out.1 (by have := HA2.out; omega)
          obtain ⟨kn2, en2⟩ := (l1Num_size (x := r3) ⟨h6, h7⟩).1.rounds
          have hsz2 := (l1Num_size (x := r3) ⟨h6, h7⟩).2
          have HA4 := amk (show 0 ≤ a4 ∧ a4 ≤ 1000000 + 3 * ((i + 1 : Nat) : Int) by have := HA2.out; omega)
          have hs1 : decide (out.size + (dT r3).size ≤ 9223372036854775807) = true := decide_eq_true (by have := HO.out; omega)
          have hs2 : (9223372036854775807 < out.size + (dT r3).size) = False := eq_false (by have := HO.out; omega)
          have hs3 : (out.size + (dT r3).size ≤ 9223372036854775807) = True := eq_true (by have := HO.out; omega)
          have O3 := amk o3; have EN2 := amk en2; have SZ2 := amk hsz2
          clear o3 en2 hsz2 h6 h7 h8 h9
          have hwi := HWI.out
          cases E0.out
          go_wp2_with (go_at_call 36; refine Calls.mono (spec_keGood.calls kg n _ _ L true _ (KY_C S0.out).1 (KY_C S0.out).2 HV.out) ?_; rintro e wx ⟨rfl, hb⟩; have S1 := amk (KY_below S0.out hb); clear hb q0 q1; obtain ⟨q0, q1, _, _, _⟩ := two_cells S1.out.2.2.1)
          go_wp2_with (go_at_call 57; refine Calls.mono (spec_l1Cur_one.calls g s a1 b1 4 true a2 b2 w0 _ S1.out.1 S1.out.2.1 O1.out) ?_; rintro e wy ⟨rfl, hi2, hb2, hk2⟩; have S2 := amk (KY_keep S1.out HG.out HQ.out hi2 hb2 hk2); clear hi2 hb2 hk2 q0 q1; obtain ⟨q0, q1, _, _, _⟩ := two_cells S2.out.2.2.1)
          go_wp2_with (go_at_call 79; refine Calls.mono (spec_l1Most.calls 1 n m1 _ MM1.out) ?_; rintro e wm ⟨rfl, ⟨nd, rfl⟩⟩)
          go_wp2_with (go_at_call 78; refine Calls.mono (spec_l1Least.calls 10 m1 m2 _ MM3.out) ?_; rintro e wl ⟨rfl, ⟨nd2, rfl⟩⟩)
          go_wp2_with (go_at_call 59; refine Calls.mono (spec_l1Cur_pick.calls g s a2 b2 m2 r3 a4 b4 w0 _ (KY_below S2.out (by exact bn_ (Below.refl _ _) _)).1 (KY_below S2.out (by exact bn_ (Below.refl _ _) _)).2.1 O3.out) ?_; rintro e wz ⟨rfl, hi3, hb3, hk3⟩; have S3 := amk (KY_keep (KY_below S2.out (by exact bn_ (Below.refl _ _) _)) HG.out HQ.out hi3 hb3 hk3); clear hi3 hb3 hk3)
          go_wp2_with (go_at_call 68; refine Calls.mono (spec_l1Num.calls kn2 _ _ _ EN2.out) ?_; rintro e wv ⟨rfl, hb⟩; have S4 := amk (KY_below S3.out hb); clear hb)
          go_roundg (L.length - (i + 1))
          case measure => exact ms1 LI.out.1 HI.out
          case rel => exact ⟨_, i + 1, a4, b4, rfl, (by first | rfl | (rw [hwi]; done) | (rw [← hwi]; done)), ⟨ms2 LI.out.1⟩, ⟨by rw [ByteArray.size_append, SZ2.out]; exact Nat.succ_le_succ HO.out⟩, HA4, S4⟩
        | false =>
          have hwi := HWI.out
          cases E0.out
          go_wp2_with (go_at_call 36; refine Calls.mono (spec_keGood.calls kg n _ _ L true _ (KY_C S0.out).1 (KY_C S0.out).2 HV.out) ?_; rintro e wx ⟨rfl, hb⟩; have K1 := amk (KeepBut.of_below hb g none); have S1 := amk (KY_below S0.out hb); clear hb)
          go_wp2_with (go_at_call 57; refine Calls.mono (spec_l1Cur_one.calls g s a1 b1 4 false a2 b2 w0 _ S1.out.1 S1.out.2.1 O1.out) ?_; rintro e wy ⟨rfl, hi2, hb2, hk2⟩; have K2 := amk (KeepBut.trans K1.out hk2 (Or.inl rfl)); have S2 := amk (KY_keep S1.out HG.out HQ.out hi2 hb2 hk2); clear hi2 hb2 hk2)
          go_wp2_with (go_at_call 59; refine Calls.mono (spec_l1Cur_pick.calls g s a2 b2 (L[i].length : Int) (j : Int) a3 b3 w0 _ S2.out.1 S2.out.2.1 O2.out) ?_; rintro e wz ⟨rfl, hi3, hb3, hk3⟩; have K3 := amk (KeepBut.trans K2.out hk3 (Or.inl rfl)); have S3 := amk (KY_keep S2.out HG.out HQ.out hi3 hb3 hk3); clear hi3 hb3 hk3; have R3 := KY_row S0.out S3.out HG.out K3.out LI.out.1 rfl X0.out; obtain ⟨ad3, e3, hx3⟩ := Kd.at_int R3 (j : Int) (Int.natCast_nonneg j) (Int.ofNat_lt.mpr HJ.out); rw [rd_int HJ.out, Int.toNat_natCast] at hx3; cases e3)
          go_wp2_with (go_at_call 68; refine Calls.mono (spec_l1Num.calls kn _ _ _ EN.out) ?_; rintro e wv ⟨rfl, hb⟩; have S4 := amk (KY_below S3.out hb); clear hb)
          go_roundg (L.length - (i + 1))
          case measure => exact ms1 LI.out.1 HI.out
          case rel => exact ⟨_, i + 1, a3, b3, rfl, (by first | rfl | (rw [hwi]; done) | (rw [← hwi]; done)), ⟨ms2 LI.out.1⟩, ⟨by rw [ByteArray.size_append, SZ.out]; exact Nat.succ_le_succ HO.out⟩, HA3, S4⟩
      | false =>
        rw [hV] at HV
        clear hV hLi
        obtain ⟨r3, a4, b4, o3, h6, h7, h8, h9⟩ := ELSE.out a1 b1 HA.out.1 (by have := HA.out; omega)
        obtain ⟨kn2, en2⟩ := (l1Num_size (x := r3) ⟨h6, h7⟩).1.rounds
        have hsz2 := (l1Num_size (x := r3) ⟨h6, h7⟩).2
        have HA4 := amk (show 0 ≤ a4 ∧ a4 ≤ 1000000 + 3 * ((i + 1 : Nat) : Int) by have := HA.out; omega)
        have hs1 : decide (out.size + (dT r3).size ≤ 9223372036854775807) = true := decide_eq_true (by have := HO.out; omega)
        have hs2 : (9223372036854775807 < out.size + (dT r3).size) = False := eq_false (by have := HO.out; omega)
        have hs3 : (out.size + (dT r3).size ≤ 9223372036854775807) = True := eq_true (by have := HO.out; omega)
        have O3 := amk o3; have EN2 := amk en2; have SZ2 := amk hsz2
        clear o3 en2 hsz2 h6 h7 h8 h9
        have hwi := HWI.out
        cases E0.out
        go_wp2_with (go_at_call 36; refine Calls.mono (spec_keGood.calls kg n _ _ L false _ (KY_C S0.out).1 (KY_C S0.out).2 HV.out) ?_; rintro e wx ⟨rfl, hb⟩; have S1 := amk (KY_below S0.out hb); clear hb q0 q1; obtain ⟨q0, q1, _, _, _⟩ := two_cells S1.out.2.2.1)
        go_wp2_with (go_at_call 79; refine Calls.mono (spec_l1Most.calls 1 n m1 _ MM1.out) ?_; rintro e wm ⟨rfl, ⟨nd, rfl⟩⟩)
        go_wp2_with (go_at_call 78; refine Calls.mono (spec_l1Least.calls 10 m1 m2 _ MM3.out) ?_; rintro e wl ⟨rfl, ⟨nd2, rfl⟩⟩)
        go_wp2_with (go_at_call 59; refine Calls.mono (spec_l1Cur_pick.calls g s a1 b1 m2 r3 a4 b4 w0 _ (KY_below S1.out (by exact bn_ (Below.refl _ _) _)).1 (KY_below S1.out (by exact bn_ (Below.refl _ _) _)).2.1 O3.out) ?_; rintro e wz ⟨rfl, hi3, hb3, hk3⟩; have S3 := amk (KY_keep (KY_below S1.out (by exact bn_ (Below.refl _ _) _)) HG.out HQ.out hi3 hb3 hk3); clear hi3 hb3 hk3)
        go_wp2_with (go_at_call 68; refine Calls.mono (spec_l1Num.calls kn2 _ _ _ EN2.out) ?_; rintro e wv ⟨rfl, hb⟩; have S4 := amk (KY_below S3.out hb); clear hb)
        go_roundg (L.length - (i + 1))
        case measure => exact ms1 LI.out.1 HI.out
        case rel => exact ⟨_, i + 1, a4, b4, rfl, (by first | rfl | (rw [hwi]; done) | (rw [← hwi]; done)), ⟨ms2 LI.out.1⟩, ⟨by rw [ByteArray.size_append, SZ2.out]; exact Nat.succ_le_succ HO.out⟩, HA4, S4⟩
    · obtain ⟨r1, a2, b2, o1, ha1, ha2⟩ := done_ok HS.out (a := a1) HA.out.1 (by
        have h1 := HA.out
        have h2 := HI.out
        have h3 := HL.out.1
        omega) b1 (n := 14) (by omega)
      have O1 := amk o1
      have HA2 := amk (show 0 ≤ a2 ∧ a2 ≤ 2000000 by have h1 := HA.out; have h2 := HI.out; have h3 := HL.out.1; omega)
      have HO2 := amk (show out.size ≤ 100 by have h1 := HO.out; have h2 := HI.out; have h3 := HL.out.1; omega)
      clear o1 ha1 ha2 HA HO
      have hcond : (decide ((i : Int) < (L.length : Int)) = false ∧ decide (i < L.length) = false) ∨ ((decide ((i : Int) < (L.length : Int)) = true ∧ decide (i < L.length) = true) ∧ decide ((i : Int) < 8) = false ∧ decide (i < 8) = false) := by
        by_cases h : i < L.length
        · exact Or.inr ⟨⟨decide_eq_true (Int.ofNat_lt.mpr h), decide_eq_true h⟩, decide_eq_false (by omega), decide_eq_false (by omega)⟩
        · exact Or.inl ⟨decide_eq_false (fun hh => h (Int.ofNat_lt.mp hh)), decide_eq_false h⟩
      clear hi
      cases r1 with
      | false =>
        rcases hcond with ⟨d1, d3⟩ | ⟨⟨d1, d3⟩, d2, d4⟩
        · go_wp2_with (go_at_call 57; refine Calls.mono (spec_l1Cur_one.calls g s a1 b1 14 false a2 b2 w0 _ S0.out.1 S0.out.2.1 O1.out) ?_; rintro e wy ⟨rfl, hi2, hb2, hk2⟩; have HBB := amk hb2; have HKK := amk (S0.out.2.2.2.2.trans hk2 (Or.inl rfl)); clear hi2 hb2 hk2)
          go_ret
          exact ⟨_, rfl, HBB.out, HKK.out⟩
        · go_wp2_with (go_at_call 57; refine Calls.mono (spec_l1Cur_one.calls g s a1 b1 14 false a2 b2 w0 _ S0.out.1 S0.out.2.1 O1.out) ?_; rintro e wy ⟨rfl, hi2, hb2, hk2⟩; have HBB := amk hb2; have HKK := amk (S0.out.2.2.2.2.trans hk2 (Or.inl rfl)); clear hi2 hb2 hk2)
          go_ret
          exact ⟨_, rfl, HBB.out, HKK.out⟩
      | true =>
        obtain ⟨r3, a3, b3, o3, hm, _, _⟩ := dof_ok HS.out (a := a2) HA2.out.1 (by have := HA2.out; omega) b2 (l := [⟨#[120]⟩, ⟨#[48]⟩, ⟨#[57]⟩, ⟨#[45]⟩]) (by decide) (by decide)
        have hr : r3.size = 1 := by
          rcases List.mem_cons.mp hm with rfl | hm
          · rfl
          · rcases List.mem_cons.mp hm with rfl | hm
            · rfl
            · rcases List.mem_cons.mp hm with rfl | hm
              · rfl
              · rw [List.mem_singleton.mp hm]; rfl
        have hs1 : decide (out.size + r3.size ≤ 9223372036854775807) = true := decide_eq_true (by have := HO2.out; omega)
        have hs2 : (9223372036854775807 < out.size + r3.size) = False := eq_false (by have := HO2.out; omega)
        have hs3 : (out.size + r3.size ≤ 9223372036854775807) = True := eq_true (by have := HO2.out; omega)
        have O3 := amk o3
        clear o3 hm hr
        rcases hcond with ⟨d1, d3⟩ | ⟨⟨d1, d3⟩, d2, d4⟩
        · go_wp2_with (go_at_call 57; refine Calls.mono (spec_l1Cur_one.calls g s a1 b1 14 true a2 b2 w0 _ S0.out.1 S0.out.2.1 O1.out) ?_; rintro e wy ⟨rfl, hi2, hb2, hk2⟩; have S2 := amk (KY_keep S0.out HG.out HQ.out hi2 hb2 hk2); clear hi2 hb2 hk2; have NB := amk (blk_new wy (.cells #[.string ⟨#[120]⟩, .string ⟨#[48]⟩, .string ⟨#[57]⟩, .string ⟨#[45]⟩] 9 (0, 0))); have S3 := amk (KY_below S2.out ((Below.refl _ wy).alloc (Nat.le_refl _) (.cells #[.string ⟨#[120]⟩, .string ⟨#[48]⟩, .string ⟨#[57]⟩, .string ⟨#[45]⟩] 9 (0, 0)))))
          go_wp2_with (go_at_call 80; refine Calls.mono (spec_l1Cur_of.calls g s a2 b2 (some ⟨wy.heap.size, 0, none⟩) 4 [⟨#[120]⟩, ⟨#[48]⟩, ⟨#[57]⟩, ⟨#[45]⟩] r3 a3 b3 w0 _ S3.out.1 S3.out.2.1 (four_strs NB.out) (Nat.le_refl _) (fun ad h _ => by obtain rfl := Option.some.inj h; exact Nat.ne_of_gt S2.out.1.lt) O3.out) ?_; rintro e wz ⟨rfl, hi3, hb3, hk3⟩; have HBB := amk hb3; have HKK := amk (S3.out.2.2.2.2.trans hk3 (Or.inl rfl)); clear hi3 hb3 hk3)
          go_ret
          exact ⟨_, rfl, HBB.out, HKK.out⟩
        · go_wp2_with (go_at_call 57; refine Calls.mono (spec_l1Cur_one.calls g s a1 b1 14 true a2 b2 w0 _ S0.out.1 S0.out.2.1 O1.out) ?_; rintro e wy ⟨rfl, hi2, hb2, hk2⟩; have S2 := amk (KY_keep S0.out HG.out HQ.out hi2 hb2 hk2); clear hi2 hb2 hk2; have NB := amk (blk_new wy (.cells #[.string ⟨#[120]⟩, .string ⟨#[48]⟩, .string ⟨#[57]⟩, .string ⟨#[45]⟩] 9 (0, 0))); have S3 := amk (KY_below S2.out ((Below.refl _ wy).alloc (Nat.le_refl _) (.cells #[.string ⟨#[120]⟩, .string ⟨#[48]⟩, .string ⟨#[57]⟩, .string ⟨#[45]⟩] 9 (0, 0)))))
          go_wp2_with (go_at_call 80; refine Calls.mono (spec_l1Cur_of.calls g s a2 b2 (some ⟨wy.heap.size, 0, none⟩) 4 [⟨#[120]⟩, ⟨#[48]⟩, ⟨#[57]⟩, ⟨#[45]⟩] r3 a3 b3 w0 _ S3.out.1 S3.out.2.1 (four_strs NB.out) (Nat.le_refl _) (fun ad h _ => by obtain rfl := Option.some.inj h; exact Nat.ne_of_gt S2.out.1.lt) O3.out) ?_; rintro e wz ⟨rfl, hi3, hb3, hk3⟩; have HBB := amk hb3; have HKK := amk (S3.out.2.2.2.2.trans hk3 (Or.inl rfl)); clear hi3 hb3 hk3)
          go_ret
          exact ⟨_, rfl, HBB.out, HKK.out⟩
/-! The draw of pins and of a key, by hand. -/
def spec_DrawIsKey.T3 : Bool × List (List Nat × List Nat) := (true, [([], []), ([], []), ([], []), ([1, 2], [1, 2]), ([0, 3, 0], [0]), ([3, 4, 0, 1, 2, 3, 4], [3])])
def spec_DrawIsKey.B3 : List Nat := [0, 0, 0, 6, 15, 31]
theorem spec_DrawIsKey.tab3 : rtab .any (opsOf Try.f55 3) = spec_DrawIsKey.T3 := by kernel_rfl
theorem spec_DrawIsKey.bits3 : waitsOk spec_DrawIsKey.T3.2 spec_DrawIsKey.B3 = true := by kernel_rfl
def DJ (w : World) (base g : Nat) (n : Int) (A : Option Addr) (c : Nat) (L : List (List Int)) (W : World) : Prop :=
  Below w.heap.size w W ∧ W.heap[w.heap.size]? = some (.cells #[.int .i64 0, .slice none 0 0] 24 (0, 0)) ∧ W.heap[g]? = some (bxK n A L.length c) ∧ Kd.N (Kd.slice 3 (Kd.int .i64)) 52 W base (fun k => base ≤ k) (.slice A L.length c) L
section
variable {w W W2 : World} {base g : Nat} {n : Int} {A : Option Addr} {c : Nat} {L : List (List Int)}
theorem DJ_below (h : DJ w base g n A c L W) (hb : Below W.heap.size W W2) : DJ w base g n A c L W2 := ⟨bp_ h.1 hb, blk_below h.2.1 hb, blk_below h.2.2.1 hb, Kd.N_below h.2.2.2 hb⟩
theorem DJ_keep (h : DJ w base g n A c L W) (hz : w.heap.size + 1 < base) (hg : w.heap.size + 1 < g) (hb : Below w.heap.size w W2) (hk : KeepBut W W2 (w.heap.size + 1) none) : DJ w base g n A c L W2 :=
  ⟨hb, (hk.2 _ (blk_lt h.2.1) (by omega) (by simp)).trans h.2.1, (hk.2 _ (blk_lt h.2.2.1) (by omega) (by simp)).trans h.2.2.1, Kd.N_keep h.2.2.2 hk (fun k hk => by have : base ≤ k := hk; omega)⟩
theorem DJ_set (h : DJ w base g n A c L W) (hz : w.heap.size + 1 < base) (hg : w.heap.size + 1 < g) (u0 u1 : Value) :
    ((W.setCell ⟨w.heap.size, 0, none⟩ u0).setCell ⟨w.heap.size, 1, none⟩ u1).heap[w.heap.size]? = some (.cells #[u0, u1] 24 (0, 0)) ∧ ((W.setCell ⟨w.heap.size, 0, none⟩ u0).setCell ⟨w.heap.size, 1, none⟩ u1).heap[g]? = some (bxK n A L.length c) ∧ Below w.heap.size w ((W.setCell ⟨w.heap.size, 0, none⟩ u0).setCell ⟨w.heap.size, 1, none⟩ u1) ∧ Kd.N (Kd.slice 3 (Kd.int .i64)) 52 ((W.setCell ⟨w.heap.size, 0, none⟩ u0).setCell ⟨w.heap.size, 1, none⟩ u1) w.heap.size (fun k => w.heap.size ≤ k) (.slice A L.length c) L := by
  have hN := Kd.N_far (Kd.N_far h.2.2.2 (p := ⟨w.heap.size, 0, none⟩) (fun k hk => by have : base ≤ k := hk; show k ≠ w.heap.size; omega) u0) (p := ⟨w.heap.size, 1, none⟩) (fun k hk => by have : base ≤ k := hk; show k ≠ w.heap.size; omega) u1
  refine ⟨two_set h.2.1 u0 u1, ?_, bs_ (bs_ h.1 (Nat.le_refl _)) (Nat.le_refl _), Kd.N_lower (Kd.N_mono hN (fun k hk => by have : base ≤ k := hk; show w.heap.size ≤ k; omega)) (by omega)⟩
  rw [Below.heap_setCell _ _ _ _ (by show g ≠ w.heap.size; omega), Below.heap_setCell _ _ _ _ (by show g ≠ w.heap.size; omega)]
  exact h.2.2.1
end
theorem di_new {w : World} {A : Option Addr} {c : Nat} {l : List Int} (hr : Kd.C (Kd.int .u8) w A l.length l) : IsS73 w ((w.alloc (.cells #[.int .i64 0, .slice none 0 0] 24 (0, 0))).alloc (.cells #[.slice A l.length c, .int .i64 0, .int .u64 0] 73 (0, 0))) (w.heap.size + 1) l 0 0 ∧ Below w.heap.size w ((w.alloc (.cells #[.int .i64 0, .slice none 0 0] 24 (0, 0))).alloc (.cells #[.slice A l.length c, .int .i64 0, .int .u64 0] 73 (0, 0))) ∧ ((w.alloc (.cells #[.int .i64 0, .slice none 0 0] 24 (0, 0))).alloc (.cells #[.slice A l.length c, .int .i64 0, .int .u64 0] 73 (0, 0))).heap[w.heap.size]? = some (.cells #[.int .i64 0, .slice none 0 0] 24 (0, 0)) := by
  refine ⟨⟨A, c, by simpa using blk_new (w.alloc (.cells #[.int .i64 0, .slice none 0 0] 24 (0, 0))) (.cells #[.slice A l.length c, .int .i64 0, .int .u64 0] 73 (0, 0)), by omega, hr⟩, ((Below.refl w.heap.size w).alloc (Nat.le_refl _) _).alloc (by simp) _, ?_⟩
  simpa using ((Below.refl _ _).alloc (Nat.le_refl _) _).block _ (by simp) |>.trans (blk_new w (.cells #[.int .i64 0, .slice none 0 0] 24 (0, 0)))
set_option maxHeartbeats 8000000 in
set_option maxRecDepth 100000 in
theorem spec_DrawIsKey.calls (A : Option Addr) (c : Nat) (l : List Int) (w : World) (hs : BytesV l) (hr : Kd.C (Kd.int .u8) w A l.length l) :
    Calls Try.prog 55 #[.slice A l.length c] w fun e w' => ∃ (n : Int) (A2 : Option Addr) (c2 : Nat) (L : List (List Int)) (key : ByteArray), e = .returned (.tuple #[.agg #[.int .i64 n, .slice A2 L.length c2], .string key]) ∧ Kd.N (Kd.slice 3 (Kd.int .i64)) 52 w' w.heap.size (fun k => w.heap.size ≤ k) (.slice A2 L.length c2) L ∧ SmallR L ∧ Below w.heap.size w w' := by
  have hu := Try.underlying73
  have hu2 := Try.underlying24
  have hu3 := Try.underlying22
  obtain ⟨n, L, a1, b1, h3, hL, u2, v2⟩ := dpins_ok hs (a := 0) (by omega) (by omega) 0
  obtain ⟨k3, e3⟩ := h3.rounds
  have S0 := amk (di_new (c := c) hr); have E3 := amk e3; have HL := amk hL; have HS := amk hs
  have HA := amk (show 0 ≤ a1 ∧ a1 ≤ 1000000 by omega)
  clear hs hr h3 e3 hL u2 v2
  go_enter Try.func55, Try.ntmps55
  go_upto_region 3 with (go_at_call 58; refine Calls.mono (spec_l1Cur_pins.calls k3 (w.heap.size + 1) l 0 0 n L a1 b1 w _ S0.out.1 S0.out.2.1 E3.out) ?_; rintro e wy ⟨v3, rfl, hn, hi2, hb2, hk2⟩; obtain ⟨A2, c2, rfl⟩ := Kd.N_slice hn; have HZ := amk S0.out.1.lt; have HZ2 := amk hi2.lt; have SI := amk (hi2.alloc (bxK n A2 L.length c2)); have SJ := amk (show DJ w _ wy.heap.size n A2 c2 L (wy.alloc (bxK n A2 L.length c2)) from ⟨ba_ hb2 _, ka_ ((hk2.2 _ (blk_lt S0.out.2.2) (by omega) (by simp)).trans S0.out.2.2) _, blk_new _ _, Kd.N_alloc hn _⟩); clear hn hi2 hb2 hk2 S0)
  refine start_ (n := 6) (S := fun w' => w'.cell? ⟨wy.heap.size, 0, none⟩ = some (.int .i64 n) ∧ w'.cell? ⟨wy.heap.size, 1, none⟩ = some (.slice A2 L.length c2)) (ds := []) #[false, false, false, false, false, false] (by kernel_rfl) rfl rfl ⟨(blk_cell SJ.out.2.2.1 0).trans rfl, (blk_cell SJ.out.2.2.1 1).trans rfl⟩ (fun hHeld => ?_); refine with_tabW spec_DrawIsKey.tab3 spec_DrawIsKey.bits3 (fun HT_ HW_ => ?_)
  have SI1 := amk (IsS73.drew SI.out); have SJ1 := amk (DJ_below SJ.out (bd_ (Below.refl _ _))); clear SI SJ
  generalize World.drew _ = W1 at SI1 SJ1 hHeld ⊢
  refine take_ (i := 0) (N := some 11) (v := ?_) (a' := ?_) #[true, false, false, false, false, false] rfl rfl (take_ofW HT_.out HW_.out (by kernel_rfl)) (fun _ _ _ h => h) (Or.inl ⟨by rfl, ?_⟩) hHeld ?_ ?_; rotate_left; (rintro w' ⟨s0, s1⟩; go_simp; with_reducible rfl); rotate_left
  · simp only [Act.put, List.setIfInBounds_toArray, List.set_cons_zero, List.set_cons_succ, i64_w, i32_w]; rfl
  refine pure_ (i := 1) (N := some 12) (v := ?_) (a' := ?_) #[true, true, false, false, false, false] rfl rfl (any_of HT_.out (by kernel_rfl)) (fun _ _ _ h => h) (Or.inl ⟨by rfl, ?_⟩) ?_ ?_; rotate_left; (intro w'; go_simp; with_reducible rfl); rotate_left
  · simp only [Act.put, List.setIfInBounds_toArray, List.set_cons_zero, List.set_cons_succ, i64_w, i32_w]; rfl
  refine take_ (i := 2) (N := some 13) (v := ?_) (a' := ?_) #[true, true, true, false, false, false] rfl rfl (take_ofW HT_.out HW_.out (by kernel_rfl)) (fun _ _ _ h => h) (Or.inl ⟨by rfl, ?_⟩) hHeld ?_ ?_; rotate_left; (rintro w' ⟨s0, s1⟩; go_simp; with_reducible rfl); rotate_left
  · simp only [Act.put, List.setIfInBounds_toArray, List.set_cons_zero, List.set_cons_succ, i64_w, i32_w]; rfl
  refine one_ (i := 3) (N := some 14) #[true, true, true, true, false, false] rfl rfl (one_of HT_.out (by kernel_rfl)) (by decide) (fun K hK => ?_)
  refine goes_ Try.func73 (by kernel_rfl) rfl #[.pointer (some ⟨w.heap.size + 1, 0, none⟩), .agg #[.int .i64 n, .slice A2 L.length c2]] (by rfl) rfl rfl (by (try simp only [List.map_toArray, List.map_cons, List.map_nil]); first | done | rfl) ?_
  refine Calls.mono (spec_l1Cur_keyOf.calls (w.heap.size + 1) l a1 b1 n A2 c2 L _ _ w _ HS.out HA.out.1 HA.out.2 SI1.out SJ1.out.1 SJ1.out.2.2.2 (fun k hk => Nat.ne_of_gt (Nat.lt_of_lt_of_le HZ.out hk)) HL.out) ?_
  rintro e wk ⟨key, rfl, hb, hk⟩
  refine ⟨_, rfl, ?_⟩
  have SJ2 := amk (DJ_keep SJ1.out HZ.out HZ2.out hb hk); clear hb hk SI1 SJ1
  refine hK.out _ _ ⟨(blk_cell SJ2.out.2.2.1 0).trans rfl, (blk_cell SJ2.out.2.2.1 1).trans rfl⟩ (fun hHeld => ?_)
  clear hK K; refine norm_ (a' := ?_) ?_ ?_; rotate_left
  · show Act.put _ (some 14) _ = _; simp only [Act.put, List.setIfInBounds_toArray, List.set_cons_zero, List.set_cons_succ, i64_w, i32_w]; rfl
  refine one_ (i := 4) (N := none) #[true, true, true, true, true, false] rfl rfl (one_of HT_.out (by kernel_rfl)) (by decide) (fun K hK => ?_)
  obtain ⟨z0, z1, z2, z3, _⟩ := two_cells SJ2.out.2.1
  refine skip_ (w1 := ?_) (by rfl) rfl ?_ ?_
  rotate_left
  · go_simp; rfl
  have D2 := DJ_set SJ2.out HZ.out HZ2.out (.int .i64 n) (.slice A2 L.length c2)
  refine hK.out _ _ ⟨(blk_cell D2.2.1 0).trans rfl, (blk_cell D2.2.1 1).trans rfl⟩ (fun hHeld => ?_)
  have HD2 := amk D2; clear hK K z0 z1 z2 z3 D2
  refine pure_ (i := 5) (N := some 3) (v := ?_) (a' := ?_) #[true, true, true, true, true, true] rfl rfl (any_of HT_.out (by kernel_rfl)) (fun _ _ _ h => h) (Or.inl ⟨by rfl, ?_⟩) ?_ ?_; rotate_left; (intro w'; go_simp; with_reducible rfl); rotate_left
  · simp only [Act.put, List.setIfInBounds_toArray, List.set_cons_zero, List.set_cons_succ, i64_w, i32_w]; rfl
  refine done_ (done_of HT_.out (by kernel_rfl)) ?_
  try go_wp2
  (try simp only [Exit.inBlock, Exit.then])
  refine bodyPost_ret (results_ct rfl _ _ w.heap.size 24 #[.int .i64 n, .slice A2 L.length c2] (0, 0) _ rfl HD2.out.1 Try.underlying24 rfl (by kernel_rfl)) rfl ?_
  exact ⟨n, A2, c2, L, key, rfl, HD2.out.2.2.2, HL.out, HD2.out.2.2.1⟩
/-! The draw of pins and of a key, once more, under its other name. -/
theorem do_rows {w wy : World} {o : Obj} {v : Value} {L : List (List Int)} (hn : Kd.N (Kd.slice 3 (Kd.int .i64)) 52 wy (w.alloc o).heap.size (fun k => (w.alloc o).heap.size ≤ k) v L) (u0 u1 : Value) : Kd.N (Kd.slice 3 (Kd.int .i64)) 52 ((wy.setCell ⟨w.heap.size, 0, none⟩ u0).setCell ⟨w.heap.size, 1, none⟩ u1) (w.alloc o).heap.size (fun k => (w.alloc o).heap.size ≤ k) v L :=
  have q : ∀ k, (w.alloc o).heap.size ≤ k → k ≠ w.heap.size := fun k hk => by
    have h : w.heap.size + 1 ≤ k := by simpa using hk
    omega
  Kd.N_far (Kd.N_far hn (p := ⟨w.heap.size, 0, none⟩) q u0) (p := ⟨w.heap.size, 1, none⟩) q u1
set_option maxHeartbeats 8000000 in
set_option maxRecDepth 100000 in
theorem spec_DrawDoesOpen.calls (A : Option Addr) (c : Nat) (l : List Int) (w : World) (hs : BytesV l) (hr : Kd.C (Kd.int .u8) w A l.length l) :
    Calls Try.prog 30 #[.slice A l.length c] w fun e w' => ∃ (n : Int) (A2 : Option Addr) (c2 : Nat) (L : List (List Int)) (key : ByteArray), e = .returned (.tuple #[.agg #[.int .i64 n, .slice A2 L.length c2], .string key]) ∧ L.length ≤ c2 ∧ Kd.C (Kd.slice 3 (Kd.int .i64)) w' A2 L.length L ∧ SmallR L ∧ Below w.heap.size w w' := by
  have hu := Try.underlying24
  have HR := amk (Kd.C_below hr ((Below.refl _ w).alloc (Nat.le_refl _) (.cells #[.int .i64 0, .slice none 0 0] 24 (0, 0))))
  have HS := amk hs
  have HZ := amk (blk_new w (.cells #[.int .i64 0, .slice none 0 0] 24 (0, 0)))
  have HB := amk ((Below.refl w.heap.size w).alloc (Nat.le_refl _) (.cells #[.int .i64 0, .slice none 0 0] 24 (0, 0)))
  clear hs hr
  go_enter Try.func30, Try.ntmps30
  go_wp2_with (go_at_call 55; refine Calls.mono (spec_DrawIsKey.calls A c l _ HS.out HR.out) ?_; rintro e wy ⟨n, A2, c2, L, key, rfl, hn, hL, hb⟩; have H1 := amk (two_set (blk_below HZ.out hb) (.int .i64 n) (.slice A2 L.length c2)); have H2 := amk (bs_ (bs_ (bp_ HB.out hb) (Nat.le_refl _)) (Nat.le_refl _) : Below w.heap.size w ((wy.setCell ⟨w.heap.size, 0, none⟩ (.int .i64 n)).setCell ⟨w.heap.size, 1, none⟩ (.slice A2 L.length c2))); have H3 := amk (do_rows hn (.int .i64 n) (.slice A2 L.length c2)); have HL := amk hL; obtain ⟨z0, z1, z2, z3, _⟩ := two_cells (blk_below HZ.out hb); clear hn hL hb)
  (try simp only [Exit.inBlock, Exit.then])
  refine bodyPost_ret (results_ct rfl _ _ w.heap.size 24 #[.int .i64 n, .slice A2 L.length c2] (0, 0) _ rfl H1.out Try.underlying24 rfl (by kernel_rfl)) rfl ?_
  exact ⟨n, A2, c2, L, key, rfl, (Kd.N_reads' H3.out).2.1, (Kd.N_reads' H3.out).2.2, HL.out, H2.out⟩
/-! The draws, by hand: what they give is small, and can be read. -/
theorem cur_new {w : World} {A : Option Addr} {c : Nat} {l : List Int} (hr : Kd.C (Kd.int .u8) w A l.length l) : IsS73 w (w.alloc (.cells #[.slice A l.length c, .int .i64 0, .int .u64 0] 73 (0, 0))) w.heap.size l 0 0 :=
  ⟨A, c, blk_new _ _, Nat.le_refl _, hr⟩
set_option maxHeartbeats 4000000 in
set_option maxRecDepth 100000 in
theorem spec_DrawSharedKeys.calls (A : Option Addr) (c : Nat) (l : List Int) (w : World) (hs : BytesV l) (hr : Kd.C (Kd.int .u8) w A l.length l) :
    Calls Try.prog 31 #[.slice A l.length c] w fun e w' => ∃ (A2 : Option Addr) (c2 : Nat) (L : List S24), e = .returned (.slice A2 L.length c2) ∧ L.length ≤ c2 ∧ Kd.C k24 w' A2 L.length L ∧ SmallP L ∧ Below w.heap.size w w' := by
  have hu := Try.underlying73
  obtain ⟨L, a', b', he, hL⟩ := locks_ok hs 0
  obtain ⟨k, e⟩ := he.rounds
  have E := amk e
  have HL := amk hL
  have HB := amk ((Below.refl w.heap.size w).alloc (Nat.le_refl _) (.cells #[.slice A l.length c, .int .i64 0, .int .u64 0] 73 (0, 0)))
  have HI := amk (cur_new (c := c) hr)
  clear hs hr he e hL
  go_enter Try.func31, Try.ntmps31
  go_wp2_with (go_at_call 56; refine Calls.mono (spec_l1Cur_locks.calls k w.heap.size l 0 0 L a' b' w _ HI.out HB.out E.out) ?_; rintro e wx ⟨v, rfl, hn, _, hb, _⟩; obtain ⟨A2, c2, rfl⟩ := Kd.N_slice hn; have R2 := amk (Kd.N_reads' hn).2.2; have C2 := amk (Kd.N_reads' hn).2.1; have HB2 := amk hb; clear hn hb)
  go_ret
  exact ⟨_, _, L, rfl, C2.out, R2.out, HL.out, HB2.out⟩
def DM (w : World) (l : List Int) (W : World) (a b : Int) : Prop := IsS73 w W (w.heap.size + 1 + 1) l a b ∧ Below w.heap.size w W ∧ W.heap[w.heap.size]? = some (.cells #[.int .i64 0, .slice none 0 0] 24 (0, 0)) ∧ W.heap[w.heap.size + 1]? = some (.cells #[.int .i64 0, .slice none 0 0] 24 (0, 0))
theorem DM_keep {w W W2 : World} {l : List Int} {a b a2 b2 : Int} (h : DM w l W a b) (i2 : IsS73 w W2 (w.heap.size + 1 + 1) l a2 b2) (hb : Below w.heap.size w W2) (hk : KeepBut W W2 (w.heap.size + 1 + 1) none) : DM w l W2 a2 b2 :=
  ⟨i2, hb, (hk.2 _ (blk_lt h.2.2.1) (by omega) (by simp)).trans h.2.2.1, (hk.2 _ (blk_lt h.2.2.2) (by omega) (by simp)).trans h.2.2.2⟩
abbrev set4 (W : World) (p : Nat) (u0 u1 u2 u3 : Value) : World := (((W.setCell ⟨p, 0, none⟩ u0).setCell ⟨p, 1, none⟩ u1).setCell ⟨p + 1, 0, none⟩ u2).setCell ⟨p + 1, 1, none⟩ u3
theorem set4_N {W : World} {p base : Nat} {v : Value} {L : List (List Int)} (h : Kd.N (Kd.slice 3 (Kd.int .i64)) 52 W base (fun k => base ≤ k) v L) (hb : p + 1 < base) (u0 u1 u2 u3 : Value) : Kd.N (Kd.slice 3 (Kd.int .i64)) 52 (set4 W p u0 u1 u2 u3) base (fun k => base ≤ k) v L :=
  Kd.N_far (Kd.N_far (Kd.N_far (Kd.N_far h (fun k hk => by show k ≠ p; omega) _) (fun k hk => by show k ≠ p; omega) _) (fun k hk => by show k ≠ p + 1; omega) _) (fun k hk => by show k ≠ p + 1; omega) _
theorem set4_S {W : World} {p base : Nat} {v : Value} {L : List (List Int)} (h : Kd.S (Kd.slice 3 (Kd.int .i64)) 52 W base (fun k => base ≤ k) v L) (hb : p + 1 < base) (u0 u1 u2 u3 : Value) : Kd.S (Kd.slice 3 (Kd.int .i64)) 52 (set4 W p u0 u1 u2 u3) base (fun k => base ≤ k) v L :=
  Kd.S_far (Kd.S_far (Kd.S_far (Kd.S_far h (fun k hk => by show k ≠ p; omega) _) (fun k hk => by show k ≠ p; omega) _) (fun k hk => by show k ≠ p + 1; omega) _) (fun k hk => by show k ≠ p + 1; omega) _
theorem set4_at {w W : World} {l : List Int} {a b : Int} (h : DM w l W a b) (u0 u1 u2 u3 : Value) : (set4 W w.heap.size u0 u1 u2 u3).heap[w.heap.size]? = some (.cells #[u0, u1] 24 (0, 0)) ∧ (set4 W w.heap.size u0 u1 u2 u3).heap[w.heap.size + 1]? = some (.cells #[u2, u3] 24 (0, 0)) ∧ Below w.heap.size w (set4 W w.heap.size u0 u1 u2 u3) := by
  have e1 := two_set h.2.2.1 u0 u1
  have e2 : ((W.setCell ⟨w.heap.size, 0, none⟩ u0).setCell ⟨w.heap.size, 1, none⟩ u1).heap[w.heap.size + 1]? = some (.cells #[.int .i64 0, .slice none 0 0] 24 (0, 0)) := by
    rw [Below.heap_setCell _ _ _ _ (by show w.heap.size + 1 ≠ w.heap.size; omega), Below.heap_setCell _ _ _ _ (by show w.heap.size + 1 ≠ w.heap.size; omega)]
    exact h.2.2.2
  refine ⟨?_, two_set e2 u2 u3, ?_⟩
  · rw [Below.heap_setCell _ _ _ _ (by show w.heap.size ≠ w.heap.size + 1; omega), Below.heap_setCell _ _ _ _ (by show w.heap.size ≠ w.heap.size + 1; omega)]
    exact e1
  · exact (((h.2.1.setCell (p := ⟨w.heap.size, 0, none⟩) (Nat.le_refl _) _).setCell (p := ⟨w.heap.size, 1, none⟩) (Nat.le_refl _) _).setCell (p := ⟨w.heap.size + 1, 0, none⟩) (by show w.heap.size ≤ w.heap.size + 1; omega) _).setCell (p := ⟨w.heap.size + 1, 1, none⟩) (by show w.heap.size ≤ w.heap.size + 1; omega) _
theorem dm_new {w : World} {A : Option Addr} {c : Nat} {l : List Int} (hr : Kd.C (Kd.int .u8) w A l.length l) : DM w l (((w.alloc (.cells #[.int .i64 0, .slice none 0 0] 24 (0, 0))).alloc (.cells #[.int .i64 0, .slice none 0 0] 24 (0, 0))).alloc (.cells #[.slice A l.length c, .int .i64 0, .int .u64 0] 73 (0, 0))) 0 0 := by
  refine ⟨⟨A, c, by simpa using blk_new ((w.alloc (.cells #[.int .i64 0, .slice none 0 0] 24 (0, 0))).alloc (.cells #[.int .i64 0, .slice none 0 0] 24 (0, 0))) (.cells #[.slice A l.length c, .int .i64 0, .int .u64 0] 73 (0, 0)), by omega, hr⟩, (((Below.refl w.heap.size w).alloc (Nat.le_refl _) _).alloc (by simp) _).alloc (by simp <;> omega) _, ?_, ?_⟩
  · simpa using (((Below.refl _ _).alloc (Nat.le_refl _) _).alloc (by simp) _).block _ (by simp) |>.trans (blk_new w (.cells #[.int .i64 0, .slice none 0 0] 24 (0, 0)))
  · simpa using ((Below.refl _ _).alloc (Nat.le_refl _) _).block _ (by simp) |>.trans (blk_new (w.alloc (.cells #[.int .i64 0, .slice none 0 0] 24 (0, 0))) (.cells #[.int .i64 0, .slice none 0 0] 24 (0, 0)))
set_option maxHeartbeats 8000000 in
set_option maxRecDepth 100000 in
theorem spec_DrawMasterPins.yes (A : Option Addr) (c : Nat) (l : List Int) (w : World) (a1 b1 a2 b2 a3 b3 n3 n4 : Int) (L3 L4 : List (List Int)) (k3 k4 : Nat) (hr : Kd.C (Kd.int .u8) w A l.length l) (o1 : spec_l1Cur_one.f l 0 0 6 = some (true, a1, b1)) (e3 : spec_l1Cur_pins.f k3 l a1 b1 = some (n3, L3, a2, b2)) (e4 : spec_l1Cur_pins.f k4 l a2 b2 = some (n4, L4, a3, b3)) (hL3 : SmallR L3) (hL4 : SmallR L4) :
    Calls Try.prog 32 #[.slice A l.length c] w fun e w' => ∃ (n3 n4 : Int) (A3 A4 : Option Addr) (c3 c4 : Nat) (L3 L4 : List (List Int)), e = .returned (.tuple #[.agg #[.int .i64 n3, .slice A3 L3.length c3], .agg #[.int .i64 n4, .slice A4 L4.length c4]]) ∧ L3.length ≤ c3 ∧ Kd.C (Kd.slice 3 (Kd.int .i64)) w' A3 L3.length L3 ∧ L4.length ≤ c4 ∧ Kd.C (Kd.slice 3 (Kd.int .i64)) w' A4 L4.length L4 ∧ SmallR L3 ∧ SmallR L4 ∧ Below w.heap.size w w' := by
  have hu := Try.underlying73
  have hu2 := Try.underlying24
  have hu3 := Try.underlying22
  have S0 := amk (dm_new (c := c) hr); have O1 := amk o1; have E3 := amk e3; have E4 := amk e4; have HL3 := amk hL3; have HL4 := amk hL4
  clear hr o1 e3 e4 hL3 hL4
  go_enter Try.func32, Try.ntmps32
  go_wp2_with (go_at_call 57; refine Calls.mono (spec_l1Cur_one.calls (w.heap.size + 1 + 1) l 0 0 6 true a1 b1 w _ S0.out.1 S0.out.2.1 O1.out) ?_; rintro e wx ⟨rfl, hi2, hb2, hk2⟩; have S1 := amk (DM_keep S0.out hi2 hb2 hk2); clear hi2 hb2 hk2)
  go_wp2_with (go_at_call 58; refine Calls.mono (spec_l1Cur_pins.calls k3 (w.heap.size + 1 + 1) l a1 b1 n3 L3 a2 b2 w _ S1.out.1 S1.out.2.1 E3.out) ?_; rintro e wy ⟨v3, rfl, hn, hi2, hb2, hk2⟩; have S2 := amk (DM_keep S1.out hi2 hb2 hk2); have N3 := amk hn; have Z3 := amk S1.out.1.lt; clear hn hi2 hb2 hk2)
  go_wp2_with (go_at_call 58; refine Calls.mono (spec_l1Cur_pins.calls k4 (w.heap.size + 1 + 1) l a2 b2 n4 L4 a3 b3 w _ S2.out.1 S2.out.2.1 E4.out) ?_; rintro e wz ⟨v4, rfl, hn, hi2, hb2, hk2⟩; have S3 := amk (DM_keep S2.out hi2 hb2 hk2); have N5 := amk (Kd.N_keep N3.out hk2 (fun k hk => Nat.ne_of_gt (Nat.lt_of_lt_of_le Z3.out hk))); have N4 := amk hn; have Z4 := amk S2.out.1.lt; clear hn hi2 hb2 hk2; obtain ⟨A3, c3, rfl⟩ := Kd.N_slice N5.out; obtain ⟨A4, c4, rfl⟩ := Kd.N_slice N4.out; obtain ⟨y0, y1, _, _, _⟩ := two_cells S3.out.2.2.1; obtain ⟨z0, z1, _, _, _⟩ := two_cells S3.out.2.2.2)
  (try simp only [Exit.inBlock, Exit.then])
  have hf := set4_at S3.out (.int .i64 n3) (.slice A3 L3.length c3) (.int .i64 n4) (.slice A4 L4.length c4)
  refine bodyPost_ret (results_cc rfl _ _ w.heap.size (w.heap.size + 1) 24 24 #[.int .i64 n3, .slice A3 L3.length c3] #[.int .i64 n4, .slice A4 L4.length c4] (0, 0) (0, 0) _ _ rfl hf.1 Try.underlying24 rfl (by kernel_rfl) rfl hf.2.1 Try.underlying24 rfl (by kernel_rfl)) rfl ?_
  have h3 := Kd.N_reads' (set4_N N5.out (Nat.lt_of_succ_lt Z3.out) (.int .i64 n3) (.slice A3 L3.length c3) (.int .i64 n4) (.slice A4 L4.length c4))
  have h4 := Kd.N_reads' (set4_N N4.out (Nat.lt_of_succ_lt Z4.out) (.int .i64 n3) (.slice A3 L3.length c3) (.int .i64 n4) (.slice A4 L4.length c4))
  exact ⟨n3, n4, A3, A4, c3, c4, L3, L4, rfl, h3.2.1, h3.2.2, h4.2.1, h4.2.2, HL3.out, HL4.out, hf.2.2⟩
/-! The draw of two pins: its second branch, and both. -/
set_option maxHeartbeats 8000000 in
set_option maxRecDepth 100000 in
theorem spec_DrawMasterPins.no (A : Option Addr) (c : Nat) (l : List Int) (w : World) (a1 b1 a2 b2 a3 b3 a4 b4 a5 b5 x1 x2 n3 m3 : Int) (L3 L4 : List (List Int)) (k3 k4 : Nat) (hr : Kd.C (Kd.int .u8) w A l.length l) (o1 : spec_l1Cur_one.f l 0 0 6 = some (false, a1, b1)) (o2 : spec_l1Cur_pick.f l a1 b1 5 = some (x1, a2, b2)) (o3 : spec_l1Cur_pick.f l a2 b2 5 = some (x2, a3, b3)) (hn : wrap64 (1 + x1) = n3 ∧ wrap64 (1 + x2) = m3) (e3 : spec_l1Cur_surePins.f k3 l a3 b3 n3 m3 = some (n3, L3, a4, b4)) (e4 : spec_l1Cur_surePins.f k4 l a4 b4 n3 m3 = some (n3, L4, a5, b5)) (hL3 : SmallR L3) (hL4 : SmallR L4) :
    Calls Try.prog 32 #[.slice A l.length c] w fun e w' => ∃ (n3 n4 : Int) (A3 A4 : Option Addr) (c3 c4 : Nat) (L3 L4 : List (List Int)), e = .returned (.tuple #[.agg #[.int .i64 n3, .slice A3 L3.length c3], .agg #[.int .i64 n4, .slice A4 L4.length c4]]) ∧ L3.length ≤ c3 ∧ Kd.C (Kd.slice 3 (Kd.int .i64)) w' A3 L3.length L3 ∧ L4.length ≤ c4 ∧ Kd.C (Kd.slice 3 (Kd.int .i64)) w' A4 L4.length L4 ∧ SmallR L3 ∧ SmallR L4 ∧ Below w.heap.size w w' := by
  have hu := Try.underlying73
  have hu2 := Try.underlying24
  have hu3 := Try.underlying22
  have S0 := amk (dm_new (c := c) hr); have O1 := amk o1; have O2 := amk o2; have O3 := amk o3; have HN := amk hn; have E3 := amk e3; have E4 := amk e4; have HL3 := amk hL3; have HL4 := amk hL4
  clear hr o1 o2 o3 hn e3 e4 hL3 hL4
  go_enter Try.func32, Try.ntmps32
  go_wp2_with (go_at_call 57; refine Calls.mono (spec_l1Cur_one.calls (w.heap.size + 1 + 1) l 0 0 6 false a1 b1 w _ S0.out.1 S0.out.2.1 O1.out) ?_; rintro e wx ⟨rfl, hi2, hb2, hk2⟩; have S1 := amk (DM_keep S0.out hi2 hb2 hk2); clear hi2 hb2 hk2)
  go_wp2_with (go_at_call_of 59 (Value.int .i64 5); refine Calls.mono (spec_l1Cur_pick.calls (w.heap.size + 1 + 1) l a1 b1 5 x1 a2 b2 w _ S1.out.1 S1.out.2.1 O2.out) ?_; rintro e wy ⟨rfl, hi2, hb2, hk2⟩; have S2 := amk (DM_keep S1.out hi2 hb2 hk2); clear hi2 hb2 hk2)
  go_wp2_with (go_at_call 59; refine Calls.mono (spec_l1Cur_pick.calls (w.heap.size + 1 + 1) l a2 b2 5 x2 a3 b3 w _ S2.out.1 S2.out.2.1 O3.out) ?_; rintro e wu ⟨rfl, hi2, hb2, hk2⟩; have S3 := amk (DM_keep S2.out hi2 hb2 hk2); clear hi2 hb2 hk2)
  go_wp2_with (go_at_call 60; simp only [HN.out.1, HN.out.2]; refine Calls.mono (spec_l1Cur_surePins.calls k3 (w.heap.size + 1 + 1) l a3 b3 n3 m3 n3 L3 a4 b4 w _ S3.out.1 S3.out.2.1 E3.out) ?_; rintro e wy2 ⟨v3, rfl, hn, hi2, hb2, hk2⟩; have S4 := amk (DM_keep S3.out hi2 hb2 hk2); have N3 := amk (Kd.S_mono (S_iv hn) (fun j h => h.1)); have Z3 := amk S3.out.1.lt; clear hn hi2 hb2 hk2)
  go_wp2_with (go_at_call 60; refine Calls.mono (spec_l1Cur_surePins.calls k4 (w.heap.size + 1 + 1) l a4 b4 n3 m3 n3 L4 a5 b5 w _ S4.out.1 S4.out.2.1 E4.out) ?_; rintro e wz ⟨v4, rfl, hn, hi2, hb2, hk2⟩; have S5 := amk (DM_keep S4.out hi2 hb2 hk2); have N5 := amk (Kd.S_keep N3.out hk2 (fun k hk => Nat.ne_of_gt (Nat.lt_of_lt_of_le Z3.out hk))); have N4 := amk (Kd.S_mono (S_iv hn) (fun j h => h.1)); have Z4 := amk S4.out.1.lt; clear hn hi2 hb2 hk2; obtain ⟨A3, c3, rfl⟩ := Kd.S_slice N5.out; obtain ⟨A4, c4, rfl⟩ := Kd.S_slice N4.out; obtain ⟨y0, y1, _, _, _⟩ := two_cells S5.out.2.2.1; obtain ⟨z0, z1, _, _, _⟩ := two_cells S5.out.2.2.2)
  (try simp only [Exit.inBlock, Exit.then])
  have hf := set4_at S5.out (.int .i64 n3) (.slice A3 L3.length c3) (.int .i64 n3) (.slice A4 L4.length c4)
  refine bodyPost_ret (results_cc rfl _ _ w.heap.size (w.heap.size + 1) 24 24 #[.int .i64 n3, .slice A3 L3.length c3] #[.int .i64 n3, .slice A4 L4.length c4] (0, 0) (0, 0) _ _ rfl hf.1 Try.underlying24 rfl (by kernel_rfl) rfl hf.2.1 Try.underlying24 rfl (by kernel_rfl)) rfl ?_
  have h3 := Kd.S_reads' (set4_S N5.out (Nat.lt_of_succ_lt Z3.out) (.int .i64 n3) (.slice A3 L3.length c3) (.int .i64 n3) (.slice A4 L4.length c4))
  have h4 := Kd.S_reads' (set4_S N4.out (Nat.lt_of_succ_lt Z4.out) (.int .i64 n3) (.slice A3 L3.length c3) (.int .i64 n3) (.slice A4 L4.length c4))
  exact ⟨n3, n3, A3, A4, c3, c4, L3, L4, rfl, h3.2.1, h3.2.2, h4.2.1, h4.2.2, HL3.out, HL4.out, hf.2.2⟩
theorem spec_DrawMasterPins.calls (A : Option Addr) (c : Nat) (l : List Int) (w : World) (hs : BytesV l) (hr : Kd.C (Kd.int .u8) w A l.length l) :
    Calls Try.prog 32 #[.slice A l.length c] w fun e w' => ∃ (n3 n4 : Int) (A3 A4 : Option Addr) (c3 c4 : Nat) (L3 L4 : List (List Int)), e = .returned (.tuple #[.agg #[.int .i64 n3, .slice A3 L3.length c3], .agg #[.int .i64 n4, .slice A4 L4.length c4]]) ∧ L3.length ≤ c3 ∧ Kd.C (Kd.slice 3 (Kd.int .i64)) w' A3 L3.length L3 ∧ L4.length ≤ c4 ∧ Kd.C (Kd.slice 3 (Kd.int .i64)) w' A4 L4.length L4 ∧ SmallR L3 ∧ SmallR L4 ∧ Below w.heap.size w w' := by
  have hw1 : ∀ x : Int, 0 ≤ x → x < 5 → wrap64 (1 + x) = (((1 + x).toNat : Nat) : Int) := fun x h0 h1 => by rw [w64 (by omega) (by omega)]; omega
  obtain ⟨r, a1, b1, o1, ha1, ha2⟩ := done_ok hs (a := 0) (by omega) (by omega) 0 (n := 6) (by omega)
  cases r with
  | true =>
    obtain ⟨n3, L3, a2, b2, h3, hL3, u2, v2⟩ := dpins_ok hs (a := a1) (by omega) (by omega) b1
    obtain ⟨n4, L4, a3, b3, h4, hL4, u3, v3⟩ := dpins_ok hs (a := a2) (by omega) (by omega) b2
    obtain ⟨k3, e3⟩ := h3.rounds
    obtain ⟨k4, e4⟩ := h4.rounds
    exact spec_DrawMasterPins.yes A c l w a1 b1 a2 b2 a3 b3 n3 n4 L3 L4 k3 k4 hr o1 e3 e4 hL3 hL4
  | false =>
    obtain ⟨x1, a2, b2, o2, p1, q1, u2, v2⟩ := dpick_ok hs (a := a1) (by omega) (by omega) b1 (n := 5) (by omega)
    obtain ⟨x2, a3, b3, o3, p2, q2, u3, v3⟩ := dpick_ok hs (a := a2) (by omega) (by omega) b2 (n := 5) (by omega)
    obtain ⟨L3, a4, b4, h3, hL3, _, u4, v4⟩ := dsurePins_ok hs (a := a3) (by omega) (by omega) b3 (n := (1 + x1).toNat) (m := (1 + x2).toNat) (by omega) (by omega)
    obtain ⟨L4, a5, b5, h4, hL4, _, u5, v5⟩ := dsurePins_ok hs (a := a4) (by omega) (by omega) b4 (n := (1 + x1).toNat) (m := (1 + x2).toNat) (by omega) (by omega)
    obtain ⟨k3, e3⟩ := h3.rounds
    obtain ⟨k4, e4⟩ := h4.rounds
    exact spec_DrawMasterPins.no A c l w a1 b1 a2 b2 a3 b3 a4 b4 a5 b5 x1 x2 _ _ L3 L4 k3 k4 hr o1 o2 o3 ⟨hw1 x1 p1 (by omega), hw1 x2 p2 (by omega)⟩ e3 e4 hL3 hL4
/-! laws.FnKeysOpen, by hand: each callee's value is told; what lies in memory is ONE predicate. -/
def KP (w : World) (g : Nat) (b : Obj) (W : World) : Prop := Below w.heap.size w W ∧ W.heap[g]? = some b
theorem KP_below {w W W2 : World} {g : Nat} {b : Obj} (h : KP w g b W) (hb : Below W.heap.size W W2) : KP w g b W2 := ⟨h.1.trans (hb.mono h.1.size), blk_below h.2 hb⟩
def KQ (w : World) (g1 g2 : Nat) (p q : Obj) (W : World) : Prop := Below w.heap.size w W ∧ W.heap[g1]? = some p ∧ W.heap[g2]? = some q
theorem KQ_below {w W W2 : World} {g1 g2 : Nat} {p q : Obj} (h : KQ w g1 g2 p q W) (hb : Below W.heap.size W W2) : KQ w g1 g2 p q W2 := ⟨h.1.trans (hb.mono h.1.size), blk_below h.2.1 hb, blk_below h.2.2 hb⟩
def laws_FnKeysOpen.T11 : Bool × List (List Nat × List Nat) := (true, [([], []), ([], []), ([0, 1], [0, 1]), ([2], [2]), ([3], [3]), ([3], [3]), ([4, 5, 3], [3, 4, 5]), ([3, 6], [3, 6]), ([7, 3], [7]), ([8], [8]), ([8], [8]), ([9, 10, 8], [8, 9, 10]), ([8, 11], [8, 11]), ([12, 8], [12]), ([13], [13]), ([13], [13]), ([14, 15, 13], [13, 14, 15]), ([13, 16], [13, 16]), ([17, 13], [17]), ([18], [18]), ([18], [18]), ([19, 20, 18], [18, 19, 20]), ([18, 21], [18, 21]), ([22, 18], [22]), ([23], [23]), ([23], [23]), ([24, 25, 23], [23, 24, 25]), ([23, 26], [23, 26]), ([27, 23], [27]), ([28], [28]), ([28], [28]), ([29, 30, 28], [28, 29, 30]), ([28, 31], [28, 31]), ([32, 28], [32]), ([33], [33]), ([33], [33]), ([34, 35, 33, 33], [33, 34, 35]), ([36, 33], [33, 36]), ([33, 37], [33, 37]), ([38, 36], [38]), ([39], [39]), ([39], [39]), ([41, 39, 39], [39, 41]), ([40, 42, 39], [39, 40, 42]), ([39, 43], [39, 43]), ([44, 42], [44]), ([45], [45]), ([46, 45, 45], [45, 46]), ([45], [45]), ([48, 47, 45], [45, 48]), ([47, 49, 45], [45, 47, 49]), ([45, 50], [45, 50]), ([51, 49], [51]), ([52], [52]), ([52], [52]), ([53, 54, 52], [52, 53, 54]), ([52, 55], [52, 55]), ([56, 52], [56]), ([57], [57]), ([57], [57]), ([59, 57, 57], [57, 59]), ([60], [60]), ([60, 61, 57], [57, 60, 61]), ([58, 62, 57], [57, 58, 62]), ([57, 63], [57, 63]), ([64, 60], [64]), ([65], [65]), ([65], [65]), ([67, 65, 65], [65, 67]), ([68], [68]), ([69, 68], [68, 69]), ([68, 70, 65], [65, 68, 70]), ([66, 71, 65], [65, 66, 71]), ([65, 72], [65, 72])])
def laws_FnKeysOpen.B11 : List Nat := [0, 0, 3, 7, 15, 15, 63, 127, 255, 511, 511, 2047, 4095, 8191, 16383, 16383, 65535, 131071, 262143, 524287, 524287, 2097151, 4194303, 8388607, 16777215, 16777215, 67108863, 134217727, 268435455, 536870911, 536870911, 2147483647, 4294967295, 8589934591, 17179869183, 17179869183, 68719476735, 137438953471, 274877906943, 549755813887, 1099511627775, 1099511627775, 3298534883327, 8796093022207, 17592186044415, 35184372088831, 70368744177663, 140737488355327, 70368744177663, 562949953421311, 1125899906842623, 2251799813685247, 4503599627370495, 9007199254740991, 9007199254740991, 36028797018963967, 72057594037927935, 144115188075855871, 288230376151711743, 288230376151711743, 864691128455135231, 2017612633061982207, 4323455642275676159, 9223372036854775807, 18446744073709551615, 36893488147419103231, 73786976294838206463, 73786976294838206463, 221360928884514619391, 516508834063867445247, 1106804644422573096959, 2287396265139984400383, 4722366482869645213695, 9444732965739290427391]
theorem laws_FnKeysOpen.tab11 : rtab .any (opsOf Try.f4 12) = laws_FnKeysOpen.T11 := by kernel_rfl
theorem laws_FnKeysOpen.bits11 : waitsOk laws_FnKeysOpen.T11.2 laws_FnKeysOpen.B11 = true := by kernel_rfl
theorem kq_new (w : World) (p q : Obj) : KQ w w.heap.size (w.heap.size + 1) p q ((w.alloc p).alloc q) := ⟨((Below.refl w.heap.size w).alloc (Nat.le_refl _) _).alloc (by simp) _, by simpa using ((Below.refl _ _).alloc (Nat.le_refl _) _).block _ (by simp) |>.trans (blk_new w p), by simpa using blk_new (w.alloc p) q⟩
noncomputable def regP (n : Nat) : Code := (Try.f4.body.bind (regOn n)).getD .skip
noncomputable def condP (n : Nat) : Code := (Try.f4.body.bind (condOn n)).getD .skip
end Go.Proofs.Ytcbeihidnodceaa.P