import Derived.Test.YtcnjiffoghganaaKFnExactSmoothKeysA0
import Derived.ProofKit
import Derived.Lib.SmallJoins
import Derived.Deep.Slices
namespace Go.Proofs.Ytcnjiffoghganaa.P
open Go.RowKit Go.Proofs.YtcnjiffoghganaaW.PrintWords Go.Proofs.YtcnjiffoghganaaW.PrintLast Go.Proofs.YtcnjiffoghganaaW.PrintMore
attribute [local go_sem] max2_int min2_int max_two min_two max_three min_three max_four min_four
set_option linter.unusedVariables false
set_option linter.unusedSimpArgs false
/-! ### spec_SmoothKeys: function 21 -/
mutual
def spec_SmoothKeys.j0 : Nat → Int → Bool → Int → List (List Int) → Option (Int × Bool)
  | 0, _, _, _, _ => none
  | k + 1, x1, x26, x220000, x220001 => if x26 = true then (some (0, false)) else (if 0 ≤ x220000 then (if (x220000 : Int).toNat ≤ 35184372088832 then (if 0 < (x220001.length : Int) then (spec_SmoothKeys.l0 k x1 (List.replicate (x220000 : Int).toNat 0) (rd_L5 x220001 0) ((rd_L5 x220001 0).length : Int) 0 x220000 x220001) else (none)) else (none)) else (none))
def spec_SmoothKeys.l0 : Nat → Int → List Int → List Int → Int → Int → Int → List (List Int) → Option (Int × Bool)
  | 0, _, _, _, _, _, _, _ => none
  | k + 1, x1, x6, x33, x34, x35, x220000, x220001 => if x35 < x34 then (if 0 ≤ x35 then (if x35 < (x33.length : Int) then (if 0 ≤ (rd x33 x35) then (if (rd x33 x35) < (x6.length : Int) then (spec_SmoothKeys.l0 k x1 (x6.set ((rd x33 x35) : Int).toNat 1) x33 x34 (wrap64 (x35 + 1)) x220000 x220001) else (none)) else (none)) else (none)) else (none)) else (if 1 ≤ (x220001.length : Int) then ((some (x220001.drop 1 : List (List Int))).bind fun y228 => (spec_SmoothKeys.l1 k x1 x6 y228 (y228.length : Int) 0 x220000 x220001)) else (none))
def spec_SmoothKeys.l1 : Nat → Int → List Int → List (List Int) → Int → Int → Int → List (List Int) → Option (Int × Bool)
  | 0, _, _, _, _, _, _, _ => none
  | k + 1, x1, x6, x45, x46, x47, x220000, x220001 => if x47 < x46 then (if 0 ≤ x47 then (if x47 < (x45.length : Int) then (if 0 ≤ x220000 then (if (x220000 : Int).toNat ≤ 35184372088832 then (spec_SmoothKeys.l2 k x1 x6 (List.replicate (x220000 : Int).toNat 0) x45 x46 x47 (rd_L5 x45 x47) ((rd_L5 x45 x47).length : Int) 0 x220000 x220001) else (none)) else (none)) else (none)) else (none)) else (spec_SmoothKeys.l4 k 0 x6 (x6.length : Int) 0)
def spec_SmoothKeys.l2 : Nat → Int → List Int → List Int → List (List Int) → Int → Int → List Int → Int → Int → Int → List (List Int) → Option (Int × Bool)
  | 0, _, _, _, _, _, _, _, _, _, _, _ => none
  | k + 1, x1, x6, x11, x45, x46, x47, x54, x55, x56, x220000, x220001 => if x56 < x55 then (if 0 ≤ x56 then (if x56 < (x54.length : Int) then (spec_SmoothKeys.l3 k x1 x6 x11 (rd x54 x56) x45 x46 x47 x54 x55 x56 x6 (x6.length : Int) 0 x220000 x220001) else (none)) else (none)) else (spec_SmoothKeys.l1 k x1 x11 x45 x46 (wrap64 (x47 + 1)) x220000 x220001)
def spec_SmoothKeys.l3 : Nat → Int → List Int → List Int → Int → List (List Int) → Int → Int → List Int → Int → Int → List Int → Int → Int → Int → List (List Int) → Option (Int × Bool)
  | 0, _, _, _, _, _, _, _, _, _, _, _, _, _, _, _ => none
  | k + 1, x1, x6, x11, x13, x45, x46, x47, x54, x55, x56, x60, x61, x62, x220000, x220001 => if x62 < x61 then (if 0 ≤ x62 then (if x62 < (x60.length : Int) then ((spec_l1Abs.f (wrap64 (x13 - x62))).bind fun t238 => (if t238 ≤ x1 then (if 0 ≤ x13 then (if x13 < (x11.length : Int) then (spec_SmoothKeys.l3 k x1 x6 (x11.set (x13 : Int).toNat (wrap64 ((rd x11 x13) + (rd x60 x62)))) x13 x45 x46 x47 x54 x55 x56 x60 x61 (wrap64 (x62 + 1)) x220000 x220001) else (none)) else (none)) else (spec_SmoothKeys.l3 k x1 x6 x11 x13 x45 x46 x47 x54 x55 x56 x60 x61 (wrap64 (x62 + 1)) x220000 x220001))) else (none)) else (none)) else (spec_SmoothKeys.l2 k x1 x6 x11 x45 x46 x47 x54 x55 (wrap64 (x56 + 1)) x220000 x220001)
def spec_SmoothKeys.l4 : Nat → Int → List Int → Int → Int → Option (Int × Bool)
  | 0, _, _, _, _ => none
  | k + 1, x16, x84, x85, x86 => if x86 < x85 then (if 0 ≤ x86 then (if x86 < (x84.length : Int) then (spec_SmoothKeys.l4 k (wrap64 (x16 + (rd x84 x86))) x84 x85 (wrap64 (x86 + 1))) else (none)) else (none)) else (some (x16, true))
end
def spec_SmoothKeys.f (k : Nat) (a0_0 : Int) (l0_1 : List (List Int)) (a1 : Int) : Option (Int × Bool) := (spec_keGood.f k a0_0 l0_1).bind fun t220 => (if t220 = true then ((spec_l1In.f a1 0 9).bind fun t221 => (spec_SmoothKeys.j0 k a1 (!t221) a0_0 l0_1)) else (spec_SmoothKeys.j0 k a1 true a0_0 l0_1))
set_option maxHeartbeats 8000000 in
set_option maxRecDepth 100000 in
theorem spec_SmoothKeys.calls (k : Nat) (a0_0 : Int) (A0_1 : Option Addr) (c0_1 : Nat) (l0_1 : List (List Int)) (a1 : Int) (r1 : Int) (r2 : Bool) (w : World) (hr0_1 : Kd.C (Kd.slice 3 (Kd.int .i64)) w A0_1 l0_1.length l0_1) (hc0_1 : l0_1.length ≤ c0_1) (h : spec_SmoothKeys.f k a0_0 l0_1 a1 = some (r1, r2)) :
    Calls Try.prog 21 #[.agg #[.int .i64 a0_0, .slice A0_1 l0_1.length c0_1], .int .i64 a1] w fun e w' => e = .returned (.tuple #[.int .i64 r1, .bool r2]) ∧ Below w.heap.size w w' := by
  have hu41 := Try.underlying41
  have HR0_1 := amk hr0_1
  have HC0_1 := amk hc0_1
  clear hr0_1 hc0_1
  have HB := amk (Below.refl w.heap.size w)
  have H : ((spec_keGood.f k a0_0 l0_1).bind fun t220 => (if t220 = true then ((spec_l1In.f a1 0 9).bind fun t221 => (spec_SmoothKeys.j0 k a1 (!t221) a0_0 l0_1)) else (spec_SmoothKeys.j0 k a1 true a0_0 l0_1))) = some (r1, r2) := h
  clear h
  have HC3 := amk H
  clear H
  go_enter Try.func21, Try.ntmps21
  go_upto_region 1 with (first | ((with_reducible refine gate_dst (N := 2) rfl ?_); refine box_event ?hg (N := 2) ?hd (cs := #[.int .i64 a0_0, .slice A0_1 l0_1.length c0_1]) (t := 41) ?hr ?_; (case hd => rfl); (case hg => rfl); (case hr => first | (go_simp; done) | (go_simp; rfl)); intro gb219 hg w4 hbox hb; have n0_ := amk (bp_ (by repeat (first | (with_reducible first | exact HB.out | apply ba_ | apply bn_ | apply bd_) | exact HB.out)) hb); have n1_ := amk (hbox); have n2_ := amk ((by rw [hg]; exact (below_size (by repeat (first | (with_reducible first | exact HB.out | apply ba_ | apply bn_ | apply bd_) | exact HB.out))) : w.heap.size ≤ gb219)); have n3_ := amk ((by rw [hg]; exact (below_size (by repeat (first | (with_reducible first | exact HB.out | apply ba_ | apply bn_ | apply bd_) | exact HB.out))) : w.heap.size ≤ gb219)); clear HB; have HB := n0_; have BK219 := n1_; have GW219 := n2_; have GE219 := n3_; clear n0_ n1_ n2_ n3_; clear hb hbox hg))
  (try simp only [Act.put, List.setIfInBounds_toArray, List.set_cons_zero, List.set_cons_succ])
  go_cut [26] (fun v26 wc => ∃ (kq : Nat) (x26_2 : Bool), v26 = .bool x26_2 ∧ Aside0 (spec_SmoothKeys.j0 kq a1 x26_2 a0_0 l0_1 = some (r1, r2)) ∧ Aside0 (kq ≤ k) ∧ Aside0 (wc.heap[gb219]? = some (.cells #[.int .i64 a0_0, (.slice A0_1 l0_1.length c0_1)] 41 (0, 0))) ∧ Aside0 (Below w.heap.size w wc))
  case first =>
    have H := HC3.out
    clear HC3
    replace H := Option.bind_eq_some_iff.mp H
    obtain ⟨t220, A50, H⟩ := H
    replace H : (if t220 = true then ((spec_l1In.f a1 0 9).bind fun t221 => (spec_SmoothKeys.j0 k a1 (!t221) a0_0 l0_1)) else (spec_SmoothKeys.j0 k a1 true a0_0 l0_1)) = some (r1, r2) := H
    have A5 := amk A50
    clear A50
    by_cases c6 : t220 = true
    · subst c6
      have H1 : ((spec_l1In.f a1 0 9).bind fun t221 => (spec_SmoothKeys.j0 k a1 (!t221) a0_0 l0_1)) = some (r1, r2) := by rw [if_pos rfl] at H; exact H
      clear H
      have H := H1
      clear H1
      replace H := Option.bind_eq_some_iff.mp H
      obtain ⟨t221, A70, H⟩ := H
      replace H : (spec_SmoothKeys.j0 k a1 (!t221) a0_0 l0_1) = some (r1, r2) := H
      have A7 := amk A70
      clear A70
      have H' := amk H
      clear H
      have hcz8_0 : w4.cell? ⟨gb219, 0, none⟩ = some (.int .i64 a0_0) := (blk_cell BK219.out 0).trans rfl
      have hcz8_1 : w4.cell? ⟨gb219, 1, none⟩ = some (.slice A0_1 l0_1.length c0_1) := (blk_cell BK219.out 1).trans rfl
      have hfz8_0 := blk_frozen BK219.out 0
      have hfz8_1 := blk_frozen BK219.out 1
      go_wp2_with (first | ((with_reducible refine gate_callee (f := 73) rfl ?_); refine goesL_ (some 20) rfl rfl Try.func73 (by kernel_rfl) rfl #[.agg #[.int .i64 a0_0, .slice A0_1 l0_1.length c0_1]] rfl (by (try simp only [List.map_toArray, List.map_cons, List.map_nil]); first | done | rfl | (simp only [List.length_drop, List.length_take]; rfl)) ?_; (with_reducible refine (spec_keGood.calls k a0_0 _ _ l0_1 true _ ?side1 ?side2 A5.out).mono ?_); (case side1 => repeat (first | exact (Kd.C_below HR0_1.out HB.out) | (with_reducible refine Kd.C_alloc ?_ _) | (with_reducible refine Kd.C_drewN ?_ _) | (with_reducible refine Kd.C_drew ?_))); (case side2 => exact HC0_1.out); rintro e w9 ⟨rfl, hb⟩; refine ⟨_, rfl, ?_⟩; have n0_ := amk (blk_below (g := gb219) (o := .cells #[.int .i64 a0_0, .slice A0_1 l0_1.length c0_1] 41 (0, 0)) (by (with_reducible repeat (first | refine kn_ ?_ _ | refine blk_drew ?_ | refine ka_ ?_ _)); exact BK219.out) hb); have n1_ := amk (bp_ (by repeat (first | (with_reducible first | exact HB.out | apply ba_ | apply bn_ | apply bd_ | refine bs_ ?_ GE219.out) | exact HB.out)) hb); clear BK219; clear HB; have BK219 := n0_; have HB := n1_; clear n0_ n1_; (try clear hb); (try clear hb2); (try clear hk); (try clear hi)) | (go_at_call 74; (with_reducible refine (spec_l1In.calls a1 0 9 t221 _ A7.out).mono ?_); rintro e w' ⟨rfl, ⟨nd, rfl⟩⟩))
      go_meet
      case rel => exact ⟨_, (!t221), (by first | rfl | (simp; done) | (simp [*]; done)), H', ⟨by first | omega | exact Nat.le_refl _⟩, ⟨by (with_reducible repeat (first | refine kn_ ?_ _ | refine blk_drew ?_ | refine ka_ ?_ _)); exact BK219.out⟩, ⟨by repeat (first | (with_reducible first | exact HB.out | apply ba_ | apply bn_ | apply bd_ | refine bs_ ?_ GE219.out) | exact HB.out)⟩⟩
    · replace c6 := Bool.eq_false_iff.mpr c6
      subst c6
      have H1 : (spec_SmoothKeys.j0 k a1 true a0_0 l0_1) = some (r1, r2) := by rw [if_neg (show ¬ (false = true) by decide)] at H; exact H
      clear H
      have H := H1
      clear H1
      have H' := amk H
      clear H
      have hcz10_0 : w4.cell? ⟨gb219, 0, none⟩ = some (.int .i64 a0_0) := (blk_cell BK219.out 0).trans rfl
      have hcz10_1 : w4.cell? ⟨gb219, 1, none⟩ = some (.slice A0_1 l0_1.length c0_1) := (blk_cell BK219.out 1).trans rfl
      have hfz10_0 := blk_frozen BK219.out 0
      have hfz10_1 := blk_frozen BK219.out 1
      go_wp2_with (first | ((with_reducible refine gate_callee (f := 73) rfl ?_); refine goesL_ (some 20) rfl rfl Try.func73 (by kernel_rfl) rfl #[.agg #[.int .i64 a0_0, .slice A0_1 l0_1.length c0_1]] rfl (by (try simp only [List.map_toArray, List.map_cons, List.map_nil]); first | done | rfl | (simp only [List.length_drop, List.length_take]; rfl)) ?_; (with_reducible refine (spec_keGood.calls k a0_0 _ _ l0_1 false _ ?side1 ?side2 A5.out).mono ?_); (case side1 => repeat (first | exact (Kd.C_below HR0_1.out HB.out) | (with_reducible refine Kd.C_alloc ?_ _) | (with_reducible refine Kd.C_drewN ?_ _) | (with_reducible refine Kd.C_drew ?_))); (case side2 => exact HC0_1.out); rintro e w11 ⟨rfl, hb⟩; refine ⟨_, rfl, ?_⟩; have n0_ := amk (blk_below (g := gb219) (o := .cells #[.int .i64 a0_0, .slice A0_1 l0_1.length c0_1] 41 (0, 0)) (by (with_reducible repeat (first | refine kn_ ?_ _ | refine blk_drew ?_ | refine ka_ ?_ _)); exact BK219.out) hb); have n1_ := amk (bp_ (by repeat (first | (with_reducible first | exact HB.out | apply ba_ | apply bn_ | apply bd_ | refine bs_ ?_ GE219.out) | exact HB.out)) hb); clear BK219; clear HB; have BK219 := n0_; have HB := n1_; clear n0_ n1_; (try clear hb); (try clear hb2); (try clear hk); (try clear hi)))
      go_meet
      case rel => exact ⟨_, (true), (by first | rfl | (simp; done) | (simp [*]; done)), H', ⟨by first | omega | exact Nat.le_refl _⟩, ⟨by (with_reducible repeat (first | refine kn_ ?_ _ | refine blk_drew ?_ | refine ka_ ?_ _)); exact BK219.out⟩, ⟨by repeat (first | (with_reducible first | exact HB.out | apply ba_ | apply bn_ | apply bd_ | refine bs_ ?_ GE219.out) | exact HB.out)⟩⟩
  case rest =>
    clear HC3
    try clear c2; try clear p2; try clear c6; try clear c7; try clear hcz10_0; try clear hcz10_1; try clear hcz8_0; try clear hcz8_1; try clear hfz10_0; try clear hfz10_1; try clear hfz8_0; try clear hfz8_1
    obtain ⟨kq, x26_2, rfl, HA, HJ2, BK219, HB⟩ := hcut
    cases kq with
    | zero => exact absurd HA.out (by simp [spec_SmoothKeys.j0])
    | succ kj2 =>
      have H := HA.out
      clear HA
      simp only [spec_SmoothKeys.j0] at H
      by_cases c12 : x26_2 = true
      · subst c12
        have H1 : (some (0, false)) = some (r1, r2) := by rw [if_pos rfl] at H; exact H
        clear H
        have H := H1
        clear H1
        simp only [Option.some.injEq, Prod.mk.injEq] at H
        obtain ⟨rfl, rfl⟩ := H
        go_wp2
        go_ret2
        exact ⟨by first | rfl | (simp [errW_none, errW_some] <;> rfl) | (simp [*, errW_none, errW_some] <;> rfl), by repeat (first | (with_reducible first | exact HB.out | apply ba_ | apply bn_ | apply bd_ | refine bs_ ?_ GE219.out) | exact HB.out)⟩
      · replace c12 := Bool.eq_false_iff.mpr c12
        subst c12
        have H1 : (if 0 ≤ a0_0 then (if (a0_0 : Int).toNat ≤ 35184372088832 then (if 0 < (l0_1.length : Int) then (spec_SmoothKeys.l0 kj2 a1 (List.replicate (a0_0 : Int).toNat 0) (rd_L5 l0_1 0) ((rd_L5 l0_1 0).length : Int) 0 a0_0 l0_1) else (none)) else (none)) else (none)) = some (r1, r2) := by rw [if_neg (show ¬ (false = true) by decide)] at H; exact H
        clear H
        have H := H1
        clear H1
        by_cases c13 : 0 ≤ a0_0
        · rw [if_pos c13] at H
          have c13b0 := eq_true c13
          have c13b1 : decide (0 ≤ a0_0) = true := decide_eq_true c13
          clear c13
          by_cases c14 : (a0_0 : Int).toNat ≤ 35184372088832
          · rw [if_pos c14] at H
            have c14b0 := eq_true c14
            have c14b1 : decide ((a0_0 : Int).toNat ≤ 35184372088832) = true := decide_eq_true c14
            clear c14
            obtain ⟨y222, hy222⟩ : ∃ y_ : List Int, y_ = (List.replicate (a0_0 : Int).toNat 0) := ⟨_, rfl⟩
            replace H : (if 0 < (l0_1.length : Int) then (spec_SmoothKeys.l0 kj2 a1 y222 (rd_L5 l0_1 0) ((rd_L5 l0_1 0).length : Int) 0 a0_0 l0_1) else (none)) = some (r1, r2) := by first | (rw [hy222]; with_reducible exact H) | (have H2_ := (Option.bind_some _ _).symm.trans H; rw [hy222]; with_reducible exact H2_) | (have H2_ := (Option.bind_some _ _).symm.trans H; with_reducible exact H2_) | with_reducible exact H | (rw [hy222]; exact H) | exact H
            have Ny222 := amk hy222
            clear hy222
            by_cases c15 : 0 < (l0_1.length : Int)
            · rw [if_pos c15] at H
              have c15b0 : decide (0 < (l0_1.length : Int)) = true := decide_eq_true c15
              have c15b1 : decide (0 < l0_1.length) = true := decide_eq_true (by omega)
              clear c15
              have H' := amk H
              clear H
              have hcz16_0 : wc.cell? ⟨gb219, 0, none⟩ = some (.int .i64 a0_0) := (blk_cell BK219.out 0).trans rfl
              have hcz16_1 : wc.cell? ⟨gb219, 1, none⟩ = some (.slice A0_1 l0_1.length c0_1) := (blk_cell BK219.out 1).trans rfl
              have hfz16_0 := blk_frozen BK219.out 0
              have hfz16_1 := blk_frozen BK219.out 1
              go_wp2_with (first | ((with_reducible refine gate_dst (N := 29) rfl ?_); refine Kd.R_make (Kd.int .i64) _ 3 rfl (N := 29) rfl 86 _ _ rfl a0_0 rfl rfl Try.underlying86 (.int .i64 0) 8 info3 rfl (by decide) (by omega) 0 (ok := fun _ => True) (okp := fun _ => True) rfl (fun _ hk => hk) trivial (of_decide_eq_true (by first | (with_reducible assumption) | assumption)) (Nat.le_trans (Nat.mul_le_mul_right _ (of_decide_eq_true (by first | (with_reducible assumption) | assumption) : a0_0.toNat ≤ 35184372088832)) (by omega)) (Below.refl _ _) (Nat.le_refl _) ?_; intro v223 w17 ho18 hb hg_ hnew_; clear hg_ hnew_; (first | rw [← Ny222.out] at ho18 | (simp only [Int.reduceToNat] at ho18; rw [← Ny222.out] at ho18)); have n0_ := amk (Kd.R_lower ho18 (below_size (by repeat (first | (with_reducible first | exact HB.out | apply ba_ | apply bn_ | apply bd_ | refine bs_ ?_ GE219.out) | exact HB.out)))); have n1_ := amk (blk_below (g := gb219) (o := .cells #[.int .i64 a0_0, .slice A0_1 l0_1.length c0_1] 41 (0, 0)) (by (with_reducible repeat (first | refine kn_ ?_ _ | refine blk_drew ?_ | refine ka_ ?_ _)); exact BK219.out) hb); have n2_ := amk (bp_ (by repeat (first | (with_reducible first | exact HB.out | apply ba_ | apply bn_ | apply bd_ | refine bs_ ?_ GE219.out) | exact HB.out)) hb); clear BK219; clear HB; have HO224 := n0_; have BK219 := n1_; have HB := n2_; clear n0_ n1_ n2_; clear hb ho18; have hcz19_0 : w17.cell? ⟨gb219, 0, none⟩ = some (.int .i64 a0_0) := (blk_cell BK219.out 0).trans rfl; have hcz19_1 : w17.cell? ⟨gb219, 1, none⟩ = some (.slice A0_1 l0_1.length c0_1) := (blk_cell BK219.out 1).trans rfl; have hfz19_0 := blk_frozen BK219.out 0; have hfz19_1 := blk_frozen BK219.out 1; have p225 : 0 ≤ (0 : Int) := (by omega); have q225 : 0 < (l0_1.length : Int) := of_decide_eq_true (by first | (with_reducible assumption) | assumption); obtain ⟨ad225, A225_0, c225_0, e225, hx225_0, hl225_0, hi225_0⟩ := at_L5 HR0_1.out 0 p225 q225; cases e225; have qi225 : (0 < l0_1.length) = True := eq_true (by omega); (try rw [show ((0 : Int)).toNat = 0 from rfl] at hx225_0); (try rw [Addr.add_zero'] at hx225_0); replace hx225_0 := (HB.out.cell (World.block_lt_of_cell? w _ hx225_0)).trans hx225_0; have HR225_0 := amk hi225_0; have HC225_0 := amk hl225_0; clear hi225_0 hl225_0; replace p225 := eq_true p225; replace q225 := eq_true q225))
              go_loopg [35] kj2 (fun kq v35 w' => ∃ (x6_2 : List Int) (x35_2 : Int), v35 = .int .i64 x35_2 ∧ Aside0 (spec_SmoothKeys.l0 kq a1 x6_2 (rd_L5 l0_1 0) ((rd_L5 l0_1 0).length : Int) x35_2 a0_0 l0_1 = some (r1, r2)) ∧ Aside0 (kq ≤ kj2) ∧ Aside0 (Kd.R (Kd.int .i64) 3 w' w.heap.size (fun _ => True) v223 x6_2) ∧ Aside0 (w'.heap[gb219]? = some (.cells #[.int .i64 a0_0, (.slice (some ad225) l0_1.length c0_1)] 41 (0, 0))) ∧ Aside0 (Below w.heap.size w w'))
              case atStart => exact ⟨(y222), (0), (by first | rfl | (simp; done) | (simp [*]; done)), H', ⟨Nat.le_refl _⟩, ⟨by (with_reducible repeat (first | apply Kd.R_alloc | apply Kd.R_drewN | apply Kd.R_drew)); exact HO224.out⟩, ⟨by (with_reducible repeat (first | refine kn_ ?_ _ | refine blk_drew ?_ | refine ka_ ?_ _)); exact BK219.out⟩, ⟨by repeat (first | (with_reducible first | exact HB.out | apply ba_ | apply bn_ | apply bd_ | refine bs_ ?_ GE219.out) | exact HB.out)⟩⟩
              case round =>
                clear H'
                try clear c1; try clear c2; try clear p2; try clear q2; try clear hx2; try clear qi2; try clear c6; try clear c7; try clear c12; try clear c13; try clear c13b0; try clear c13b1; try clear c14; try clear c14b0; try clear c14b1; try clear c15; try clear c15b0; try clear c15b1; try clear hcz10_0; try clear hcz10_1; try clear hcz16_0; try clear hcz16_1; try clear hcz19_0; try clear hcz19_1; try clear hcz8_0; try clear hcz8_1; try clear hfz10_0; try clear hfz10_1; try clear hfz16_0; try clear hfz16_1; try clear hfz19_0; try clear hfz19_1; try clear hfz8_0; try clear hfz8_1; try clear hx225_0; try clear p2; try clear p225; try clear q225
                obtain ⟨x6_2, x35_2, rfl, HA, HK2, HO_6, BK219, HB⟩ := hrel
                cases gk with
                | zero => exact absurd HA.out (by simp [spec_SmoothKeys.l0])
                | succ k2 =>
                  have H := HA.out
                  clear HA
                  simp only [spec_SmoothKeys.l0] at H
                  by_cases c20 : x35_2 < ((rd_L5 l0_1 0).length : Int)
                  · rw [if_pos c20] at H
                    have c20b0 : decide (x35_2 < ((rd_L5 l0_1 0).length : Int)) = true := decide_eq_true c20
                    clear c20
                    by_cases c21 : 0 ≤ x35_2
                    · rw [if_pos c21] at H
                      have c21b0 : decide (0 ≤ x35_2) = true := decide_eq_true c21
                      clear c21
                      by_cases c22 : x35_2 < ((rd_L5 l0_1 0).length : Int)
                      · rw [if_pos c22] at H
                        have c22b0 : decide (x35_2 < ((rd_L5 l0_1 0).length : Int)) = true := decide_eq_true c22
                        clear c22
                        by_cases c23 : 0 ≤ (rd (rd_L5 l0_1 0) x35_2)
                        · rw [if_pos c23] at H
                          have c23b0 : decide (0 ≤ (rd (rd_L5 l0_1 0) x35_2)) = true := decide_eq_true c23
                          clear c23
                          by_cases c24 : (rd (rd_L5 l0_1 0) x35_2) < (x6_2.length : Int)
                          · rw [if_pos c24] at H
                            have c24b0 : decide ((rd (rd_L5 l0_1 0) x35_2) < (x6_2.length : Int)) = true := decide_eq_true c24
                            clear c24
                            obtain ⟨y227, hy227⟩ : ∃ y_ : List Int, y_ = (x6_2.set ((rd (rd_L5 l0_1 0) x35_2) : Int).toNat 1) := ⟨_, rfl⟩
                            replace H : (spec_SmoothKeys.l0 k2 a1 y227 (rd_L5 l0_1 0) ((rd_L5 l0_1 0).length : Int) (wrap64 (x35_2 + 1)) a0_0 l0_1) = some (r1, r2) := by first | (rw [hy227]; with_reducible exact H) | (have H2_ := (Option.bind_some _ _).symm.trans H; rw [hy227]; with_reducible exact H2_) | (have H2_ := (Option.bind_some _ _).symm.trans H; with_reducible exact H2_) | with_reducible exact H | (rw [hy227]; exact H) | exact H
                            have Ny227 := amk hy227
                            clear hy227
                            have H' := amk H
                            clear H
                            have p226 : 0 ≤ (x35_2 : Int) := of_decide_eq_true (by first | (with_reducible assumption) | assumption)
                            have q226 : x35_2 < ((rd_L5 l0_1 0).length : Int) := of_decide_eq_true (by first | (with_reducible assumption) | assumption)
                            obtain ⟨ad226, e226, hx226_0⟩ := Kd.at_int HR225_0.out x35_2 p226 q226
                            cases e226
                            replace hx226_0 := (HB.out.cell (World.block_lt_of_cell? w _ hx226_0)).trans hx226_0
                            replace p226 := eq_true p226
                            replace q226 := eq_true q226
                            have p25 : 0 ≤ ((rd (rd_L5 l0_1 0) x35_2) : Int) := of_decide_eq_true (by first | (with_reducible assumption) | assumption)
                            have q25 : ((rd (rd_L5 l0_1 0) x35_2) : Int) < ((x6_2.length : Int) : Int) := of_decide_eq_true (by first | (with_reducible assumption) | assumption)
                            obtain ⟨go25, co25, eo25, gb25, gl25, cl25, HG25⟩ := Kd.R_form HO_6.out (by omega)
                            (first | cases eo25 | (injection eo25 with ea_ en_ ec_; (first | subst ea_ | (injection ea_ with ea_; subst ea_)); subst ec_; clear en_))
                            have GB25 := amk gb25
                            have GG25 := amk HG25
                            clear gb25 gl25 HG25
                            obtain ⟨hx25_0, hf25_0⟩ := Kd.R_celln 0 HO_6.out ((rd (rd_L5 l0_1 0) x35_2) : Int) p25 q25
                            replace p25 := eq_true p25
                            replace q25 := eq_true q25
                            have HP26 := Kd.R_putg HO_6.out ((rd (rd_L5 l0_1 0) x35_2) : Int) 1
                            go_wp2_with (first | ((with_reducible refine gate_store (t := 3) (p := 41) rfl ?_); refine store_event (t := 3) (p := 41) (v := ?vo_w27) (w1 := (wr.setCell ⟨go25, ((rd (rd_L5 l0_1 0) x35_2) : Int).toNat, none⟩ (.int .i64 1))) ?hg ?ho ?hn ?hr ?_; (case ho => rfl); (case hg => rfl); (case hn => rfl); (case hr => first | (go_simp; done) | (go_simp; rfl)); intro w27 hw; have hg : wr.grownBy w27 (some go25) := (by rw [hw]; exact HP26.2); have hp_ : Kd.R (Kd.int .i64) 3 w27 w.heap.size (fun _ => True) (.slice (some ⟨go25, 0, none⟩) x6_2.length co25) y227 := (by rw [hw, Ny227.out]; exact HP26.1); clear HP26; have n0_ := amk (hp_); have n1_ := amk (blk_grown (g := gb219) (o := .cells #[.int .i64 a0_0, .slice (some ad225) l0_1.length c0_1] 41 (0, 0)) (by (with_reducible repeat (first | refine kn_ ?_ _ | refine blk_drew ?_ | refine ka_ ?_ _)); exact BK219.out) hg (Kd.R_ne HO_6.out BK219.out (by decide))); have n2_ := amk ((by rw [hw]; exact bs_ (HB.out) GB25.out : Below w.heap.size w w27)); clear HO_6; clear BK219; clear HB; have HO_6 := n0_; have BK219 := n1_; have HB := n2_; clear n0_ n1_ n2_; clear hg hw hp_))
                            go_roundg k2
                            case measure => have := HJ2.out; have := HK2.out; omega
                            case rel => exact ⟨(y227), (wrap64 (x35_2 + 1)), (by first | rfl | (simp; done) | (simp [*]; done)), H', ⟨by have := HJ2.out; have := HK2.out; omega⟩, ⟨by (with_reducible repeat (first | apply Kd.R_alloc | apply Kd.R_drewN | apply Kd.R_drew)); exact HO_6.out⟩, ⟨by (with_reducible repeat (first | refine kn_ ?_ _ | refine blk_drew ?_ | refine ka_ ?_ _)); exact BK219.out⟩, ⟨by repeat (first | (with_reducible first | exact HB.out | apply ba_ | apply bn_ | apply bd_ | refine bs_ ?_ GE219.out) | exact HB.out)⟩⟩
                          · rw [if_neg c24] at H
                            exact absurd H (by simp)
                        · rw [if_neg c23] at H
                          exact absurd H (by simp)
                      · rw [if_neg c22] at H
                        exact absurd H (by simp)
                    · rw [if_neg c21] at H
                      exact absurd H (by simp)
                  · rw [if_neg c20] at H
                    have c20b0 : decide (x35_2 < ((rd_L5 l0_1 0).length : Int)) = false := decide_eq_false c20
                    clear c20
                    by_cases c28 : 1 ≤ (l0_1.length : Int)
                    · rw [if_pos c28] at H
                      have c28b0 := eq_true c28
                      have c28b1 : decide (1 ≤ (l0_1.length : Int)) = true := decide_eq_true c28
                      clear c28
                      obtain ⟨y228, hy228⟩ : ∃ y_ : List (List Int), y_ = (l0_1.drop 1) := ⟨_, rfl⟩
                      replace H : (spec_SmoothKeys.l1 k2 a1 x6_2 y228 (y228.length : Int) 0 a0_0 l0_1) = some (r1, r2) := by first | (rw [hy228]; with_reducible exact H) | (have H2_ := (Option.bind_some _ _).symm.trans H; rw [hy228]; with_reducible exact H2_) | (have H2_ := (Option.bind_some _ _).symm.trans H; with_reducible exact H2_) | with_reducible exact H | (rw [hy228]; exact H) | exact H
                      have Ny228 := amk hy228
                      clear hy228
                      have H' := amk H
                      clear H
                      have hcz29_0 : wr.cell? ⟨gb219, 0, none⟩ = some (.int .i64 a0_0) := (blk_cell BK219.out 0).trans rfl
                      have hcz29_1 : wr.cell? ⟨gb219, 1, none⟩ = some (.slice (some ad225) l0_1.length c0_1) := (blk_cell BK219.out 1).trans rfl
                      have hfz29_0 := blk_frozen BK219.out 0
                      have hfz29_1 := blk_frozen BK219.out 1
                      have q30 : (1 : Int) ≤ ((l0_1.length : Int) : Int) := of_decide_eq_true (by first | (with_reducible assumption) | assumption)
                      obtain ⟨i030, hi030, _, hsz30, _⟩ := info_parts info86
                      have hroom30 : l0_1.length ≤ c0_1 := HC0_1.out
                      have hC30 : Kd.C (Kd.slice 3 (Kd.int .i64)) _ (some ad225) l0_1.length l0_1 := HR0_1.out
                      have hcut30 := cut_from (P := Try.prog) 35 86 .i64 Try.underlying35 hi030 1 hsz30 (some ad225) l0_1.length c0_1 1 (by omega) q30
                      have hr30 := Kd.C_drop (m := (1 : Int).toNat) (c := c0_1) hC30 (by omega) hroom30
                      obtain ⟨A30, hA30⟩ : ∃ A1, A1 = (if c0_1 = (1 : Int).toNat then (some ad225) else ((some ad225) : Option Addr).map (·.add ((1 : Int).toNat * 1))) := ⟨_, rfl⟩
                      obtain ⟨c30, hc30⟩ : ∃ c1, c1 = c0_1 - (1 : Int).toNat := ⟨_, rfl⟩
                      have hy30 : y228.length = l0_1.length - (1 : Int).toNat := (by rw [Ny228.out, List.length_drop] <;> omega)
                      rw [show (l0_1).drop (1 : Int).toNat = y228 from Ny228.out.symm] at hr30
                      replace hr30 : Kd.C (Kd.slice 3 (Kd.int .i64)) _ A30 y228.length y228 := (by rw [hA30]; exact hr30)
                      rw [← hy30, ← hA30, ← hc30] at hcut30
                      have HR231 := amk hr30
                      have HC231 := amk (show y228.length ≤ c30 from by rw [hy30, hc30]; exact Nat.sub_le_sub_right hroom30 _)
                      clear hr30 hC30 hroom30 hi030 hsz30 hc30
                      have KY30 := amk hy30
                      have KA30 := amk hA30
                      clear hy30 hA30
                      replace q30 := eq_true q30
                      go_wp2
                      go_loopg [6, 47] k2 (fun kq v6 v47 w' => ∃ (x6_3 : List Int) (x47_3 : Int), v47 = .int .i64 x47_3 ∧ Aside0 (spec_SmoothKeys.l1 kq a1 x6_3 y228 (y228.length : Int) x47_3 a0_0 l0_1 = some (r1, r2)) ∧ Aside0 (kq ≤ k2) ∧ Aside0 (Kd.R (Kd.int .i64) 3 w' w.heap.size (fun _ => True) v6 x6_3) ∧ Aside0 (w'.heap[gb219]? = some (.cells #[.int .i64 a0_0, (.slice (some ad225) l0_1.length c0_1)] 41 (0, 0))) ∧ Aside0 (Below w.heap.size w w'))
                      case atStart => exact ⟨(x6_2), (0), (by first | rfl | (simp; done) | (simp [*]; done)), H', ⟨Nat.le_refl _⟩, ⟨by (with_reducible repeat (first | apply Kd.R_alloc | apply Kd.R_drewN | apply Kd.R_drew)); exact HO_6.out⟩, ⟨by (with_reducible repeat (first | refine kn_ ?_ _ | refine blk_drew ?_ | refine ka_ ?_ _)); exact BK219.out⟩, ⟨by repeat (first | (with_reducible first | exact HB.out | apply ba_ | apply bn_ | apply bd_ | refine bs_ ?_ GE219.out) | exact HB.out)⟩⟩
                      case round =>
                        clear H'
                        try clear c1; try clear c2; try clear p2; try clear q2; try clear hx2; try clear qi2; try clear hf2; try clear c3; try clear q3; try clear c6; try clear p6; try clear c7; try clear c12; try clear c13; try clear c13b0; try clear c13b1; try clear c14; try clear c14b0; try clear c14b1; try clear c15; try clear c15b0; try clear c15b1; try clear c20; try clear c20b0; try clear c21; try clear c21b0; try clear c22; try clear c22b0; try clear p22; try clear q22; try clear hx22; try clear qi22; try clear c23; try clear c23b0; try clear c24; try clear c24b0; try clear p25; try clear q25; try clear hx25; try clear hf25; try clear c28; try clear c28b0; try clear c28b1; try clear c30; try clear q30; try clear hcz10_0; try clear hcz10_1; try clear hcz16_0; try clear hcz16_1; try clear hcz19_0; try clear hcz19_1; try clear hcz29_0; try clear hcz29_1; try clear hcz8_0; try clear hcz8_1; try clear hfz10_0; try clear hfz10_1; try clear hfz16_0; try clear hfz16_1; try clear hfz19_0; try clear hfz19_1; try clear hfz29_0; try clear hfz29_1; try clear hfz8_0; try clear hfz8_1; try clear hx225_0; try clear hx226_0; try clear hx25_0; try clear p2; try clear p225; try clear p226; try clear p25; try clear q2; try clear q225; try clear q226; try clear q25; try clear q30
                        obtain ⟨x6_3, x47_3, rfl, HA, HK3, HO_6, BK219, HB⟩ := hrel
                        cases gk with
                        | zero => exact absurd HA.out (by simp [spec_SmoothKeys.l1])
                        | succ k3 =>
                          have H := HA.out
                          clear HA
                          simp only [spec_SmoothKeys.l1] at H
                          by_cases c31 : x47_3 < (y228.length : Int)
                          · rw [if_pos c31] at H
                            have c31b0 : decide (x47_3 < (y228.length : Int)) = true := decide_eq_true c31
                            clear c31
                            by_cases c32 : 0 ≤ x47_3
                            · rw [if_pos c32] at H
                              have c32b0 : decide (0 ≤ x47_3) = true := decide_eq_true c32
                              clear c32
                              by_cases c33 : x47_3 < (y228.length : Int)
                              · rw [if_pos c33] at H
                                have c33b0 : decide (x47_3 < (y228.length : Int)) = true := decide_eq_true c33
                                clear c33
                                by_cases c34 : 0 ≤ a0_0
                                · rw [if_pos c34] at H
                                  have c34b0 := eq_true c34
                                  have c34b1 : decide (0 ≤ a0_0) = true := decide_eq_true c34
                                  clear c34
                                  by_cases c35 : (a0_0 : Int).toNat ≤ 35184372088832
                                  · rw [if_pos c35] at H
                                    have c35b0 := eq_true c35
                                    have c35b1 : decide ((a0_0 : Int).toNat ≤ 35184372088832) = true := decide_eq_true c35
                                    clear c35
                                    obtain ⟨y233, hy233⟩ : ∃ y_ : List Int, y_ = (List.replicate (a0_0 : Int).toNat 0) := ⟨_, rfl⟩
                                    replace H : (spec_SmoothKeys.l2 k3 a1 x6_3 y233 y228 (y228.length : Int) x47_3 (rd_L5 y228 x47_3) ((rd_L5 y228 x47_3).length : Int) 0 a0_0 l0_1) = some (r1, r2) := by first | (rw [hy233]; with_reducible exact H) | (have H2_ := (Option.bind_some _ _).symm.trans H; rw [hy233]; with_reducible exact H2_) | (have H2_ := (Option.bind_some _ _).symm.trans H; with_reducible exact H2_) | with_reducible exact H | (rw [hy233]; exact H) | exact H
                                    have Ny233 := amk hy233
                                    clear hy233
                                    have H' := amk H
                                    clear H
                                    have p232 : 0 ≤ (x47_3 : Int) := of_decide_eq_true (by first | (with_reducible assumption) | assumption)
                                    have q232 : x47_3 < (y228.length : Int) := of_decide_eq_true (by first | (with_reducible assumption) | assumption)
                                    obtain ⟨ad232, A232_0, c232_0, e232, hx232_0, hl232_0, hi232_0⟩ := at_L5 HR231.out x47_3 p232 q232
                                    cases e232
                                    replace hx232_0 := (HB.out.cell (World.block_lt_of_cell? w _ hx232_0)).trans hx232_0
                                    have HR232_0 := amk hi232_0
                                    have HC232_0 := amk hl232_0
                                    clear hi232_0 hl232_0
                                    replace p232 := eq_true p232
                                    replace q232 := eq_true q232
                                    have hcz36_0 : wr.cell? ⟨gb219, 0, none⟩ = some (.int .i64 a0_0) := (blk_cell BK219.out 0).trans rfl
                                    have hcz36_1 : wr.cell? ⟨gb219, 1, none⟩ = some (.slice (some ad225) l0_1.length c0_1) := (blk_cell BK219.out 1).trans rfl
                                    have hfz36_0 := blk_frozen BK219.out 0
                                    have hfz36_1 := blk_frozen BK219.out 1
                                    go_wp2_with (first | ((with_reducible refine gate_dst (N := 53) rfl ?_); refine Kd.R_make (Kd.int .i64) _ 3 rfl (N := 53) rfl 86 _ _ rfl a0_0 rfl rfl Try.underlying86 (.int .i64 0) 8 info3 rfl (by decide) (by omega) 0 (ok := fun _ => True) (okp := fun _ => True) rfl (fun _ hk => hk) trivial (of_decide_eq_true (by first | (with_reducible assumption) | assumption)) (Nat.le_trans (Nat.mul_le_mul_right _ (of_decide_eq_true (by first | (with_reducible assumption) | assumption) : a0_0.toNat ≤ 35184372088832)) (by omega)) (Below.refl _ _) (Nat.le_refl _) ?_; intro v234 w37 ho38 hb hg_ hnew_; clear hg_ hnew_; (first | rw [← Ny233.out] at ho38 | (simp only [Int.reduceToNat] at ho38; rw [← Ny233.out] at ho38)); have n0_ := amk (Kd.R_elder' (by (with_reducible repeat (first | apply Kd.R_alloc | apply Kd.R_drewN | apply Kd.R_drew)); exact HO_6.out) (Kd.R_base ho38) hb); have n1_ := amk (Kd.R_lower (Kd.R_new' ho38 (Kd.R_lt (by (with_reducible repeat (first | apply Kd.R_alloc | apply Kd.R_drewN | apply Kd.R_drew)); exact HO_6.out))) (below_size (by repeat (first | (with_reducible first | exact HB.out | apply ba_ | apply bn_ | apply bd_ | refine bs_ ?_ GE219.out) | exact HB.out)))); have n2_ := amk (blk_below (g := gb219) (o := .cells #[.int .i64 a0_0, .slice (some ad225) l0_1.length c0_1] 41 (0, 0)) (by (with_reducible repeat (first | refine kn_ ?_ _ | refine blk_drew ?_ | refine ka_ ?_ _)); exact BK219.out) hb); have n3_ := amk (bp_ (by repeat (first | (with_reducible first | exact HB.out | apply ba_ | apply bn_ | apply bd_ | refine bs_ ?_ GE219.out) | exact HB.out)) hb); clear HO_6; clear BK219; clear HB; have HO_6 := n0_; have HO235 := n1_; have BK219 := n2_; have HB := n3_; clear n0_ n1_ n2_ n3_; clear hb ho38))
                                    go_loopg [56] k3 (fun kq v56 w' => ∃ (x11_4 : List Int) (x56_4 : Int), v56 = .int .i64 x56_4 ∧ Aside0 (spec_SmoothKeys.l2 kq a1 x6_3 x11_4 y228 (y228.length : Int) x47_3 (rd_L5 y228 x47_3) ((rd_L5 y228 x47_3).length : Int) x56_4 a0_0 l0_1 = some (r1, r2)) ∧ Aside0 (kq ≤ k3) ∧ Aside0 (Kd.R (Kd.int .i64) 3 w' w.heap.size (fun k_ => some k_ ≠ (v234 : Value).ownBlock) u6 x6_3) ∧ Aside0 (Kd.R (Kd.int .i64) 3 w' w.heap.size (fun k_ => some k_ ≠ (u6 : Value).ownBlock) v234 x11_4) ∧ Aside0 (w'.heap[gb219]? = some (.cells #[.int .i64 a0_0, (.slice (some ad225) l0_1.length c0_1)] 41 (0, 0))) ∧ Aside0 (Below w.heap.size w w'))
                                    case atStart => exact ⟨(y233), (0), (by first | rfl | (simp; done) | (simp [*]; done)), H', ⟨Nat.le_refl _⟩, ⟨by (with_reducible repeat (first | apply Kd.R_alloc | apply Kd.R_drewN | apply Kd.R_drew)); exact Kd.R_mono HO_6.out (fun _ hk => hk.2)⟩, ⟨by (with_reducible repeat (first | apply Kd.R_alloc | apply Kd.R_drewN | apply Kd.R_drew)); exact Kd.R_mono HO235.out (fun _ hk => hk.2)⟩, ⟨by (with_reducible repeat (first | refine kn_ ?_ _ | refine blk_drew ?_ | refine ka_ ?_ _)); exact BK219.out⟩, ⟨by repeat (first | (with_reducible first | exact HB.out | apply ba_ | apply bn_ | apply bd_ | refine bs_ ?_ GE219.out) | exact HB.out)⟩⟩
                                    case round =>
                                      clear H'
                                      try clear c1; try clear c2; try clear p2; try clear q2; try clear hx2; try clear qi2; try clear hf2; try clear c3; try clear q3; try clear c6; try clear p6; try clear c7; try clear c12; try clear c13; try clear c13b0; try clear c13b1; try clear c14; try clear c14b0; try clear c14b1; try clear c15; try clear c15b0; try clear c15b1; try clear c20; try clear c20b0; try clear c21; try clear c21b0; try clear c22; try clear c22b0; try clear p22; try clear q22; try clear hx22; try clear qi22; try clear c23; try clear c23b0; try clear p23; try clear q23; try clear hx23; try clear c24; try clear c24b0; try clear p25; try clear q25; try clear hx25; try clear hf25; try clear c28; try clear c28b0; try clear c28b1; try clear c30; try clear q30; try clear c31; try clear c31b0; try clear c32; try clear c32b0; try clear c33; try clear c33b0; try clear c34; try clear c34b0; try clear c34b1; try clear c35; try clear c35b0; try clear c35b1; try clear hcz10_0; try clear hcz10_1; try clear hcz16_0; try clear hcz16_1; try clear hcz19_0; try clear hcz19_1; try clear hcz29_0; try clear hcz29_1; try clear hcz36_0; try clear hcz36_1; try clear hcz8_0; try clear hcz8_1; try clear hfz10_0; try clear hfz10_1; try clear hfz16_0; try clear hfz16_1; try clear hfz19_0; try clear hfz19_1; try clear hfz29_0; try clear hfz29_1; try clear hfz36_0; try clear hfz36_1; try clear hfz8_0; try clear hfz8_1; try clear hx225_0; try clear hx226_0; try clear hx232_0; try clear hx25_0; try clear p2; try clear p22; try clear p225; try clear p226; try clear p232; try clear p25; try clear p6; try clear q2; try clear q22; try clear q225; try clear q226; try clear q232; try clear q25; try clear q3; try clear q30
                                      obtain ⟨x11_4, x56_4, rfl, HA, HK4, HO_6, HO_11, BK219, HB⟩ := hrel
                                      cases gk with
                                      | zero => exact absurd HA.out (by simp [spec_SmoothKeys.l2])
                                      | succ k4 =>
                                        have H := HA.out
                                        clear HA
                                        simp only [spec_SmoothKeys.l2] at H
                                        by_cases c39 : x56_4 < ((rd_L5 y228 x47_3).length : Int)
                                        · rw [if_pos c39] at H
                                          have c39b0 : decide (x56_4 < ((rd_L5 y228 x47_3).length : Int)) = true := decide_eq_true c39
                                          clear c39
                                          by_cases c40 : 0 ≤ x56_4
                                          · rw [if_pos c40] at H
                                            have c40b0 : decide (0 ≤ x56_4) = true := decide_eq_true c40
                                            clear c40
                                            by_cases c41 : x56_4 < ((rd_L5 y228 x47_3).length : Int)
                                            · rw [if_pos c41] at H
                                              have c41b0 : decide (x56_4 < ((rd_L5 y228 x47_3).length : Int)) = true := decide_eq_true c41
                                              clear c41
                                              have H' := amk H
                                              clear H
                                              have p236 : 0 ≤ (x56_4 : Int) := of_decide_eq_true (by first | (with_reducible assumption) | assumption)
                                              have q236 : x56_4 < ((rd_L5 y228 x47_3).length : Int) := of_decide_eq_true (by first | (with_reducible assumption) | assumption)
                                              obtain ⟨ad236, e236, hx236_0⟩ := Kd.at_int HR232_0.out x56_4 p236 q236
                                              cases e236
                                              replace hx236_0 := (HB.out.cell (World.block_lt_of_cell? w _ hx236_0)).trans hx236_0
                                              replace p236 := eq_true p236
                                              replace q236 := eq_true q236
                                              obtain ⟨Ao42, co42, eo42⟩ := Kd.R_slice HO_6.out
                                              subst eo42
                                              go_wp2
                                              go_loopg [62] k4 (fun kq v62 w' => ∃ (x11_5 : List Int) (x62_5 : Int), v62 = .int .i64 x62_5 ∧ Aside0 (spec_SmoothKeys.l3 kq a1 x6_3 x11_5 (rd (rd_L5 y228 x47_3) x56_4) y228 (y228.length : Int) x47_3 (rd_L5 y228 x47_3) ((rd_L5 y228 x47_3).length : Int) x56_4 x6_3 (x6_3.length : Int) x62_5 a0_0 l0_1 = some (r1, r2)) ∧ Aside0 (kq ≤ k4) ∧ Aside0 (Kd.R (Kd.int .i64) 3 w' w.heap.size (fun k_ => some k_ ≠ (v234 : Value).ownBlock) (.slice Ao42 x6_3.length co42) x6_3) ∧ Aside0 (Kd.R (Kd.int .i64) 3 w' w.heap.size (fun k_ => some k_ ≠ ((.slice Ao42 x6_3.length co42) : Value).ownBlock ∧ some k_ ≠ ((.slice Ao42 x6_3.length co42) : Value).ownBlock) v234 x11_5) ∧ Aside0 (Kd.R (Kd.int .i64) 3 w' w.heap.size (fun k_ => some k_ ≠ (v234 : Value).ownBlock) (.slice Ao42 x6_3.length co42) x6_3) ∧ Aside0 (w'.heap[gb219]? = some (.cells #[.int .i64 a0_0, (.slice (some ad225) l0_1.length c0_1)] 41 (0, 0))) ∧ Aside0 (Below w.heap.size w w'))
                                              case atStart => exact ⟨(x11_4), (0), (by first | rfl | (simp; done) | (simp [*]; done)), H', ⟨Nat.le_refl _⟩, ⟨by (with_reducible repeat (first | apply Kd.R_alloc | apply Kd.R_drewN | apply Kd.R_drew)); exact HO_6.out⟩, ⟨by (with_reducible repeat (first | apply Kd.R_alloc | apply Kd.R_drewN | apply Kd.R_drew)); exact Kd.R_mono HO_11.out (fun _ hk => ⟨hk, hk⟩)⟩, ⟨by (with_reducible repeat (first | apply Kd.R_alloc | apply Kd.R_drewN | apply Kd.R_drew)); exact HO_6.out⟩, ⟨by (with_reducible repeat (first | refine kn_ ?_ _ | refine blk_drew ?_ | refine ka_ ?_ _)); exact BK219.out⟩, ⟨by repeat (first | (with_reducible first | exact HB.out | apply ba_ | apply bn_ | apply bd_ | refine bs_ ?_ GE219.out) | exact HB.out)⟩⟩
                                              case round =>
                                                clear H'
                                                try clear c1; try clear c2; try clear p2; try clear q2; try clear hx2; try clear qi2; try clear hf2; try clear c3; try clear q3; try clear c4; try clear c6; try clear p6; try clear c7; try clear c12; try clear c13; try clear c13b0; try clear c13b1; try clear c14; try clear c14b0; try clear c14b1; try clear c15; try clear c15b0; try clear c15b1; try clear c20; try clear c20b0; try clear c21; try clear c21b0; try clear c22; try clear c22b0; try clear p22; try clear q22; try clear hx22; try clear qi22; try clear c23; try clear c23b0; try clear p23; try clear q23; try clear hx23; try clear c24; try clear c24b0; try clear p25; try clear q25; try clear hx25; try clear hf25; try clear c28; try clear c28b0; try clear c28b1; try clear c30; try clear q30; try clear c31; try clear c31b0; try clear c32; try clear c32b0; try clear c33; try clear c33b0; try clear c34; try clear c34b0; try clear c34b1; try clear c35; try clear c35b0; try clear c35b1; try clear c39; try clear c39b0; try clear c40; try clear c40b0; try clear c41; try clear c41b0; try clear hcz10_0; try clear hcz10_1; try clear hcz16_0; try clear hcz16_1; try clear hcz19_0; try clear hcz19_1; try clear hcz29_0; try clear hcz29_1; try clear hcz36_0; try clear hcz36_1; try clear hcz8_0; try clear hcz8_1; try clear hfz10_0; try clear hfz10_1; try clear hfz16_0; try clear hfz16_1; try clear hfz19_0; try clear hfz19_1; try clear hfz29_0; try clear hfz29_1; try clear hfz36_0; try clear hfz36_1; try clear hfz8_0; try clear hfz8_1; try clear hx225_0; try clear hx226_0; try clear hx232_0; try clear hx236_0; try clear hx25_0; try clear p2; try clear p22; try clear p225; try clear p226; try clear p23; try clear p232; try clear p236; try clear p25; try clear p6; try clear q2; try clear q22; try clear q225; try clear q226; try clear q23; try clear q232; try clear q236; try clear q25; try clear q3; try clear q30
                                                obtain ⟨x11_5, x62_5, rfl, HA, HK5, HO_6, HO_11, HO_60, BK219, HB⟩ := hrel
                                                cases gk with
                                                | zero => exact absurd HA.out (by simp [spec_SmoothKeys.l3])
                                                | succ k5 =>
                                                  have H := HA.out
                                                  clear HA
                                                  simp only [spec_SmoothKeys.l3] at H
                                                  by_cases c43 : x62_5 < (x6_3.length : Int)
                                                  · rw [if_pos c43] at H
                                                    have c43b0 : decide (x62_5 < (x6_3.length : Int)) = true := decide_eq_true c43
                                                    clear c43
                                                    by_cases c44 : 0 ≤ x62_5
                                                    · rw [if_pos c44] at H
                                                      have c44b0 : decide (0 ≤ x62_5) = true := decide_eq_true c44
                                                      clear c44
                                                      by_cases c45 : x62_5 < (x6_3.length : Int)
                                                      · rw [if_pos c45] at H
                                                        have c45b0 : decide (x62_5 < (x6_3.length : Int)) = true := decide_eq_true c45
                                                        clear c45
                                                        replace H := Option.bind_eq_some_iff.mp H
                                                        obtain ⟨t238, A460, H⟩ := H
                                                        replace H : (if t238 ≤ a1 then (if 0 ≤ (rd (rd_L5 y228 x47_3) x56_4) then (if (rd (rd_L5 y228 x47_3) x56_4) < (x11_5.length : Int) then (spec_SmoothKeys.l3 k5 a1 x6_3 (x11_5.set ((rd (rd_L5 y228 x47_3) x56_4) : Int).toNat (wrap64 ((rd x11_5 (rd (rd_L5 y228 x47_3) x56_4)) + (rd x6_3 x62_5)))) (rd (rd_L5 y228 x47_3) x56_4) y228 (y228.length : Int) x47_3 (rd_L5 y228 x47_3) ((rd_L5 y228 x47_3).length : Int) x56_4 x6_3 (x6_3.length : Int) (wrap64 (x62_5 + 1)) a0_0 l0_1) else (none)) else (none)) else (spec_SmoothKeys.l3 k5 a1 x6_3 x11_5 (rd (rd_L5 y228 x47_3) x56_4) y228 (y228.length : Int) x47_3 (rd_L5 y228 x47_3) ((rd_L5 y228 x47_3).length : Int) x56_4 x6_3 (x6_3.length : Int) (wrap64 (x62_5 + 1)) a0_0 l0_1)) = some (r1, r2) := H
                                                        have A46 := amk A460
                                                        clear A460
                                                        by_cases c47 : t238 ≤ a1
                                                        · rw [if_pos c47] at H
                                                          have c47b0 : decide (t238 ≤ a1) = true := decide_eq_true c47
                                                          clear c47
                                                          by_cases c48 : 0 ≤ (rd (rd_L5 y228 x47_3) x56_4)
                                                          · rw [if_pos c48] at H
                                                            have c48b0 : decide (0 ≤ (rd (rd_L5 y228 x47_3) x56_4)) = true := decide_eq_true c48
                                                            clear c48
                                                            by_cases c49 : (rd (rd_L5 y228 x47_3) x56_4) < (x11_5.length : Int)
                                                            · rw [if_pos c49] at H
                                                              have c49b0 : decide ((rd (rd_L5 y228 x47_3) x56_4) < (x11_5.length : Int)) = true := decide_eq_true c49
                                                              clear c49
                                                              obtain ⟨y240, hy240⟩ : ∃ y_ : List Int, y_ = (x11_5.set ((rd (rd_L5 y228 x47_3) x56_4) : Int).toNat (wrap64 ((rd x11_5 (rd (rd_L5 y228 x47_3) x56_4)) + (rd x6_3 x62_5)))) := ⟨_, rfl⟩
                                                              replace H : (spec_SmoothKeys.l3 k5 a1 x6_3 y240 (rd (rd_L5 y228 x47_3) x56_4) y228 (y228.length : Int) x47_3 (rd_L5 y228 x47_3) ((rd_L5 y228 x47_3).length : Int) x56_4 x6_3 (x6_3.length : Int) (wrap64 (x62_5 + 1)) a0_0 l0_1) = some (r1, r2) := by first | (rw [hy240]; with_reducible exact H) | (have H2_ := (Option.bind_some _ _).symm.trans H; rw [hy240]; with_reducible exact H2_) | (have H2_ := (Option.bind_some _ _).symm.trans H; with_reducible exact H2_) | with_reducible exact H | (rw [hy240]; exact H) | exact H
                                                              have Ny240 := amk hy240
                                                              clear hy240
                                                              have H' := amk H
                                                              clear H
                                                              have p237 : 0 ≤ (x62_5 : Int) := of_decide_eq_true (by first | (with_reducible assumption) | assumption)
                                                              have q237 : x62_5 < (x6_3.length : Int) := of_decide_eq_true (by first | (with_reducible assumption) | assumption)
                                                              obtain ⟨ad237, e237, hx237_0⟩ := Kd.at_int (Kd.R_reads' HO_60.out).2.2 x62_5 p237 q237
                                                              cases e237
                                                              replace p237 := eq_true p237
                                                              replace q237 := eq_true q237
                                                              go_wp2_with (first | ((with_reducible refine gate_callee (f := 75) rfl ?_); refine goesL_ (some 70) rfl rfl Try.func75 (by kernel_rfl) rfl #[.int .i64 (wrap64 ((rd (rd_L5 y228 x47_3) x56_4) - x62_5))] rfl (by (try simp only [List.map_toArray, List.map_cons, List.map_nil]); first | done | rfl | (simp only [List.length_drop, List.length_take]; rfl)) ?_; (with_reducible refine (spec_l1Abs.calls (wrap64 ((rd (rd_L5 y228 x47_3) x56_4) - x62_5)) t238 _ A46.out).mono ?_); rintro e w' ⟨rfl, ⟨nd, rfl⟩⟩; refine ⟨_, rfl, ?_⟩; (try (rw [drewN_self wr]; generalize hq_ : World.drewN wr _ = wr; have n0_ : Aside0 (Kd.R (Kd.int .i64) 3 wr w.heap.size (fun k_ => some k_ ≠ (.slice (some ad237) x6_3.length co42 : Value).ownBlock ∧ some k_ ≠ (.slice (some ad237) x6_3.length co42 : Value).ownBlock) v234 x11_5) := ⟨by rw [← hq_]; exact (by (with_reducible repeat (first | apply Kd.R_alloc | apply Kd.R_drewN | apply Kd.R_drew)); exact HO_11.out)⟩; have n1_ : Aside0 (Kd.R (Kd.int .i64) 3 wr w.heap.size (fun k_ => some k_ ≠ (v234 : Value).ownBlock) (.slice (some ad237) x6_3.length co42) x6_3) := ⟨by rw [← hq_]; exact (by (with_reducible repeat (first | apply Kd.R_alloc | apply Kd.R_drewN | apply Kd.R_drew)); exact HO_6.out)⟩; have n2_ : Aside0 (Kd.R (Kd.int .i64) 3 wr w.heap.size (fun k_ => some k_ ≠ (v234 : Value).ownBlock) (.slice (some ad237) x6_3.length co42) x6_3) := ⟨by rw [← hq_]; exact (by (with_reducible repeat (first | apply Kd.R_alloc | apply Kd.R_drewN | apply Kd.R_drew)); exact HO_60.out)⟩; have n3_ : Aside0 (wr.heap[gb219]? = some (.cells #[.int .i64 a0_0, .slice (some ad225) l0_1.length c0_1] 41 (0, 0))) := ⟨by rw [← hq_]; exact (by (with_reducible repeat (first | refine kn_ ?_ _ | refine blk_drew ?_ | refine ka_ ?_ _)); exact BK219.out)⟩; have n4_ : Aside0 (Below w.heap.size w wr) := ⟨by rw [← hq_]; exact (by repeat (first | (with_reducible first | exact HB.out | apply ba_ | apply bn_ | apply bd_ | refine bs_ ?_ GE219.out) | exact HB.out))⟩; clear HO_11 HO_6 HO_60 BK219 HB hq_; have HO_11 := n0_; have HO_6 := n1_; have HO_60 := n2_; have BK219 := n3_; have HB := n4_; clear n0_ n1_ n2_ n3_ n4_)); obtain ⟨Ao51, co51, eo51⟩ := Kd.R_slice HO_11.out; subst eo51; have p239 : 0 ≤ ((rd (rd_L5 y228 x47_3) x56_4) : Int) := of_decide_eq_true (by first | (with_reducible assumption) | assumption); have q239 : (rd (rd_L5 y228 x47_3) x56_4) < (x11_5.length : Int) := of_decide_eq_true (by first | (with_reducible assumption) | assumption); obtain ⟨ad239, e239, hx239_0⟩ := Kd.at_int (Kd.R_reads' HO_11.out).2.2 (rd (rd_L5 y228 x47_3) x56_4) p239 q239; cases e239; replace p239 := eq_true p239; replace q239 := eq_true q239; have p50 : 0 ≤ ((rd (rd_L5 y228 x47_3) x56_4) : Int) := of_decide_eq_true (by first | (with_reducible assumption) | assumption); have q50 : ((rd (rd_L5 y228 x47_3) x56_4) : Int) < ((x11_5.length : Int) : Int) := of_decide_eq_true (by first | (with_reducible assumption) | assumption); obtain ⟨go50, co50, eo50, gb50, gl50, cl50, HG50⟩ := Kd.R_form HO_11.out (by omega); (first | cases eo50 | (injection eo50 with ea_ en_ ec_; (first | subst ea_ | (injection ea_ with ea_; subst ea_)); subst ec_; clear en_)); have GB50 := amk gb50; have GG50 := amk HG50; clear gb50 gl50 HG50; (first | simp only [add_plain] at hx239_0 | skip); obtain ⟨hx50_0, hf50_0⟩ := Kd.R_celln 0 HO_11.out ((rd (rd_L5 y228 x47_3) x56_4) : Int) p50 q50; replace p50 := eq_true p50; replace q50 := eq_true q50; obtain ⟨hy52_, hz52_⟩ := Kd.R_celln 0 HO_11.out ((rd (rd_L5 y228 x47_3) x56_4) : Int) (of_decide_eq_true (by first | (with_reducible assumption) | assumption)) (of_decide_eq_true (by first | (with_reducible assumption) | assumption)); have HP52 := Kd.R_putg HO_11.out ((rd (rd_L5 y228 x47_3) x56_4) : Int) (wrap64 ((rd x11_5 (rd (rd_L5 y228 x47_3) x56_4)) + (rd x6_3 x62_5)))) | ((with_reducible refine gate_store (t := 3) (p := 79) rfl ?_); refine store_event (t := 3) (p := 79) (v := ?vo_w53) (w1 := (wr.setCell ⟨go50, ((rd (rd_L5 y228 x47_3) x56_4) : Int).toNat, none⟩ (.int .i64 (wrap64 ((rd x11_5 (rd (rd_L5 y228 x47_3) x56_4)) + (rd x6_3 x62_5)))))) ?hg ?ho ?hn ?hr ?_; (case ho => rfl); (case hg => rfl); (case hn => rfl); (case hr => first | (go_simp; done) | (go_simp; rfl)); intro w53 hw; have hg : wr.grownBy w53 (some go50) := (by rw [hw]; exact HP52.2); have hp_ : Kd.R (Kd.int .i64) 3 w53 w.heap.size (fun k_ => some k_ ≠ (.slice (some ad237) x6_3.length co42 : Value).ownBlock ∧ some k_ ≠ (.slice (some ad237) x6_3.length co42 : Value).ownBlock) (.slice (some ⟨go50, 0, none⟩) x11_5.length co51) y240 := (by rw [hw, Ny240.out]; exact HP52.1); clear HP52; have n0_ := amk (Kd.R_after (v := (.slice (some ⟨go50, 0, none⟩) x11_5.length co51)) (v1 := (.slice (some ⟨go50, 0, none⟩) x11_5.length co51)) (ok := (fun _ => True)) (by (with_reducible repeat (first | apply Kd.R_alloc | apply Kd.R_drewN | apply Kd.R_drew)); exact Kd.R_mono HO_6.out (fun _ hk => ⟨trivial, hk⟩)) hg (.inl rfl)); have n1_ := amk (hp_); have n2_ := amk (Kd.R_after (v := (.slice (some ⟨go50, 0, none⟩) x11_5.length co51)) (v1 := (.slice (some ⟨go50, 0, none⟩) x11_5.length co51)) (ok := (fun _ => True)) (by (with_reducible repeat (first | apply Kd.R_alloc | apply Kd.R_drewN | apply Kd.R_drew)); exact Kd.R_mono HO_60.out (fun _ hk => ⟨trivial, hk⟩)) hg (.inl rfl)); have n3_ := amk (blk_grown (g := gb219) (o := .cells #[.int .i64 a0_0, .slice (some ad225) l0_1.length c0_1] 41 (0, 0)) (by (with_reducible repeat (first | refine kn_ ?_ _ | refine blk_drew ?_ | refine ka_ ?_ _)); exact BK219.out) hg (Kd.R_ne HO_11.out BK219.out (by decide))); have n4_ := amk ((by rw [hw]; exact bs_ (HB.out) GB50.out : Below w.heap.size w w53)); clear HO_6; clear HO_11; clear HO_60; clear BK219; clear HB; have HO_6 := n0_; have HO_11 := n1_; have HO_60 := n2_; have BK219 := n3_; have HB := n4_; clear n0_ n1_ n2_ n3_ n4_; clear hg hw hp_))
                                                              go_roundg k5
                                                              case measure => have := HJ2.out; have := HK2.out; have := HK3.out; have := HK4.out; have := HK5.out; omega
                                                              case rel => exact ⟨(y240), (wrap64 (x62_5 + 1)), (by first | rfl | (simp; done) | (simp [*]; done)), H', ⟨by have := HJ2.out; have := HK2.out; have := HK3.out; have := HK4.out; have := HK5.out; omega⟩, ⟨by (with_reducible repeat (first | apply Kd.R_alloc | apply Kd.R_drewN | apply Kd.R_drew)); exact Kd.R_mono HO_6.out (fun _ hk => hk.2)⟩, ⟨by (with_reducible repeat (first | apply Kd.R_alloc | apply Kd.R_drewN | apply Kd.R_drew)); exact HO_11.out⟩, ⟨by (with_reducible repeat (first | apply Kd.R_alloc | apply Kd.R_drewN | apply Kd.R_drew)); exact Kd.R_mono HO_60.out (fun _ hk => hk.2)⟩, ⟨by (with_reducible repeat (first | refine kn_ ?_ _ | refine blk_drew ?_ | refine ka_ ?_ _)); exact BK219.out⟩, ⟨by repeat (first | (with_reducible first | exact HB.out | apply ba_ | apply bn_ | apply bd_ | refine bs_ ?_ GE219.out) | exact HB.out)⟩⟩
                                                            · rw [if_neg c49] at H
                                                              exact absurd H (by simp)
                                                          · rw [if_neg c48] at H
                                                            exact absurd H (by simp)
                                                        · rw [if_neg c47] at H
                                                          have c47b0 : decide (t238 ≤ a1) = false := decide_eq_false c47
                                                          clear c47
                                                          have H' := amk H
                                                          clear H
                                                          have p237 : 0 ≤ (x62_5 : Int) := of_decide_eq_true (by first | (with_reducible assumption) | assumption)
                                                          have q237 : x62_5 < (x6_3.length : Int) := of_decide_eq_true (by first | (with_reducible assumption) | assumption)
                                                          obtain ⟨ad237, e237, hx237_0⟩ := Kd.at_int (Kd.R_reads' HO_60.out).2.2 x62_5 p237 q237
                                                          cases e237
                                                          replace p237 := eq_true p237
                                                          replace q237 := eq_true q237
                                                          go_wp2_with (first | ((with_reducible refine gate_callee (f := 75) rfl ?_); refine goesL_ (some 70) rfl rfl Try.func75 (by kernel_rfl) rfl #[.int .i64 (wrap64 ((rd (rd_L5 y228 x47_3) x56_4) - x62_5))] rfl (by (try simp only [List.map_toArray, List.map_cons, List.map_nil]); first | done | rfl | (simp only [List.length_drop, List.length_take]; rfl)) ?_; (with_reducible refine (spec_l1Abs.calls (wrap64 ((rd (rd_L5 y228 x47_3) x56_4) - x62_5)) t238 _ A46.out).mono ?_); rintro e w' ⟨rfl, ⟨nd, rfl⟩⟩; refine ⟨_, rfl, ?_⟩))
                                                          go_roundg k5
                                                          case measure => have := HJ2.out; have := HK2.out; have := HK3.out; have := HK4.out; have := HK5.out; omega
                                                          case rel => exact ⟨(x11_5), (wrap64 (x62_5 + 1)), (by first | rfl | (simp; done) | (simp [*]; done)), H', ⟨by have := HJ2.out; have := HK2.out; have := HK3.out; have := HK4.out; have := HK5.out; omega⟩, ⟨by (with_reducible repeat (first | apply Kd.R_alloc | apply Kd.R_drewN | apply Kd.R_drew)); exact HO_6.out⟩, ⟨by (with_reducible repeat (first | apply Kd.R_alloc | apply Kd.R_drewN | apply Kd.R_drew)); exact HO_11.out⟩, ⟨by (with_reducible repeat (first | apply Kd.R_alloc | apply Kd.R_drewN | apply Kd.R_drew)); exact HO_60.out⟩, ⟨by (with_reducible repeat (first | refine kn_ ?_ _ | refine blk_drew ?_ | refine ka_ ?_ _)); exact BK219.out⟩, ⟨by repeat (first | (with_reducible first | exact HB.out | apply ba_ | apply bn_ | apply bd_ | refine bs_ ?_ GE219.out) | exact HB.out)⟩⟩
                                                      · rw [if_neg c45] at H
                                                        exact absurd H (by simp)
                                                    · rw [if_neg c44] at H
                                                      exact absurd H (by simp)
                                                  · rw [if_neg c43] at H
                                                    have c43b0 : decide (x62_5 < (x6_3.length : Int)) = false := decide_eq_false c43
                                                    clear c43
                                                    have H' := amk H
                                                    clear H
                                                    go_wp2
                                                    go_roundg k5
                                                    case measure => have := HJ2.out; have := HK2.out; have := HK3.out; have := HK4.out; have := HK5.out; omega
                                                    case rel => exact ⟨(x11_5), (wrap64 (x56_4 + 1)), (by first | rfl | (simp; done) | (simp [*]; done)), H', ⟨by have := HJ2.out; have := HK2.out; have := HK3.out; have := HK4.out; have := HK5.out; omega⟩, ⟨by (with_reducible repeat (first | apply Kd.R_alloc | apply Kd.R_drewN | apply Kd.R_drew)); exact HO_6.out⟩, ⟨by (with_reducible repeat (first | apply Kd.R_alloc | apply Kd.R_drewN | apply Kd.R_drew)); exact Kd.R_mono HO_11.out (fun _ hk => hk.1)⟩, ⟨by (with_reducible repeat (first | refine kn_ ?_ _ | refine blk_drew ?_ | refine ka_ ?_ _)); exact BK219.out⟩, ⟨by repeat (first | (with_reducible first | exact HB.out | apply ba_ | apply bn_ | apply bd_ | refine bs_ ?_ GE219.out) | exact HB.out)⟩⟩
                                            · rw [if_neg c41] at H
                                              exact absurd H (by simp)
                                          · rw [if_neg c40] at H
                                            exact absurd H (by simp)
                                        · rw [if_neg c39] at H
                                          have c39b0 : decide (x56_4 < ((rd_L5 y228 x47_3).length : Int)) = false := decide_eq_false c39
                                          clear c39
                                          have H' := amk H
                                          clear H
                                          go_wp2
                                          go_roundg k4
                                          case measure => have := HJ2.out; have := HK2.out; have := HK3.out; have := HK4.out; omega
                                          case rel => exact ⟨(x11_4), (wrap64 (x47_3 + 1)), (by first | rfl | (simp; done) | (simp [*]; done)), H', ⟨by have := HJ2.out; have := HK2.out; have := HK3.out; have := HK4.out; omega⟩, ⟨by (with_reducible repeat (first | apply Kd.R_alloc | apply Kd.R_drewN | apply Kd.R_drew)); exact Kd.R_mono HO_11.out (fun _ hk => trivial)⟩, ⟨by (with_reducible repeat (first | refine kn_ ?_ _ | refine blk_drew ?_ | refine ka_ ?_ _)); exact BK219.out⟩, ⟨by repeat (first | (with_reducible first | exact HB.out | apply ba_ | apply bn_ | apply bd_ | refine bs_ ?_ GE219.out) | exact HB.out)⟩⟩
                                  · rw [if_neg c35] at H
                                    exact absurd H (by simp)
                                · rw [if_neg c34] at H
                                  exact absurd H (by simp)
                              · rw [if_neg c33] at H
                                exact absurd H (by simp)
                            · rw [if_neg c32] at H
                              exact absurd H (by simp)
                          · rw [if_neg c31] at H
                            have c31b0 : decide (x47_3 < (y228.length : Int)) = false := decide_eq_false c31
                            clear c31
                            have H' := amk H
                            clear H
                            obtain ⟨Ao54, co54, eo54⟩ := Kd.R_slice HO_6.out
                            subst eo54
                            go_wp2
                            go_loopg [16, 86] k3 (fun kq v16 v86 w' => ∃ (x16_4 : Int) (x86_4 : Int), v16 = .int .i64 x16_4 ∧ v86 = .int .i64 x86_4 ∧ Aside0 (spec_SmoothKeys.l4 kq x16_4 x6_3 (x6_3.length : Int) x86_4 = some (r1, r2)) ∧ Aside0 (kq ≤ k3) ∧ Aside0 (Kd.R (Kd.int .i64) 3 w' w.heap.size (fun _ => True) (.slice Ao54 x6_3.length co54) x6_3) ∧ Aside0 (w'.heap[gb219]? = some (.cells #[.int .i64 a0_0, (.slice (some ad225) l0_1.length c0_1)] 41 (0, 0))) ∧ Aside0 (Below w.heap.size w w'))
                            case atStart => exact ⟨(0), (0), (by first | rfl | (simp; done) | (simp [*]; done)), (by first | rfl | (simp; done) | (simp [*]; done)), H', ⟨Nat.le_refl _⟩, ⟨by (with_reducible repeat (first | apply Kd.R_alloc | apply Kd.R_drewN | apply Kd.R_drew)); exact HO_6.out⟩, ⟨by (with_reducible repeat (first | refine kn_ ?_ _ | refine blk_drew ?_ | refine ka_ ?_ _)); exact BK219.out⟩, ⟨by repeat (first | (with_reducible first | exact HB.out | apply ba_ | apply bn_ | apply bd_ | refine bs_ ?_ GE219.out) | exact HB.out)⟩⟩
                            case round =>
                              clear H'
                              try clear c1; try clear c2; try clear p2; try clear q2; try clear hx2; try clear qi2; try clear hf2; try clear c3; try clear q3; try clear c4; try clear p5; try clear q5; try clear hx5; try clear hf5; try clear c6; try clear p6; try clear c7; try clear c12; try clear c13; try clear c13b0; try clear c13b1; try clear c14; try clear c14b0; try clear c14b1; try clear c15; try clear c15b0; try clear c15b1; try clear c20; try clear c20b0; try clear c21; try clear c21b0; try clear c22; try clear c22b0; try clear p22; try clear q22; try clear hx22; try clear qi22; try clear c23; try clear c23b0; try clear p23; try clear q23; try clear hx23; try clear c24; try clear c24b0; try clear p25; try clear q25; try clear hx25; try clear hf25; try clear c28; try clear c28b0; try clear c28b1; try clear c30; try clear q30; try clear c31; try clear c31b0; try clear c32; try clear c32b0; try clear c33; try clear c33b0; try clear c34; try clear c34b0; try clear c34b1; try clear c35; try clear c35b0; try clear c35b1; try clear c39; try clear c39b0; try clear c40; try clear c40b0; try clear c41; try clear c41b0; try clear c43; try clear c43b0; try clear c44; try clear c44b0; try clear c45; try clear c45b0; try clear c47; try clear c47b0; try clear c48; try clear c48b0; try clear c49; try clear c49b0; try clear p50; try clear q50; try clear hx50; try clear hf50; try clear hcz10_0; try clear hcz10_1; try clear hcz16_0; try clear hcz16_1; try clear hcz19_0; try clear hcz19_1; try clear hcz29_0; try clear hcz29_1; try clear hcz36_0; try clear hcz36_1; try clear hcz8_0; try clear hcz8_1; try clear hfz10_0; try clear hfz10_1; try clear hfz16_0; try clear hfz16_1; try clear hfz19_0; try clear hfz19_1; try clear hfz29_0; try clear hfz29_1; try clear hfz36_0; try clear hfz36_1; try clear hfz8_0; try clear hfz8_1; try clear hx225_0; try clear hx226_0; try clear hx232_0; try clear hx236_0; try clear hx237_0; try clear hx239_0; try clear hx25_0; try clear hx50_0; try clear p2; try clear p22; try clear p225; try clear p226; try clear p23; try clear p232; try clear p236; try clear p237; try clear p239; try clear p25; try clear p50; try clear p6; try clear q2; try clear q22; try clear q225; try clear q226; try clear q23; try clear q232; try clear q236; try clear q237; try clear q239; try clear q25; try clear q3; try clear q30; try clear q50
                              obtain ⟨x16_4, x86_4, rfl, rfl, HA, HK4, HO_84, BK219, HB⟩ := hrel
                              cases gk with
                              | zero => exact absurd HA.out (by simp [spec_SmoothKeys.l4])
                              | succ k4 =>
                                have H := HA.out
                                clear HA
                                simp only [spec_SmoothKeys.l4] at H
                                by_cases c55 : x86_4 < (x6_3.length : Int)
                                · rw [if_pos c55] at H
                                  have c55b0 : decide (x86_4 < (x6_3.length : Int)) = true := decide_eq_true c55
                                  clear c55
                                  by_cases c56 : 0 ≤ x86_4
                                  · rw [if_pos c56] at H
                                    have c56b0 : decide (0 ≤ x86_4) = true := decide_eq_true c56
                                    clear c56
                                    by_cases c57 : x86_4 < (x6_3.length : Int)
                                    · rw [if_pos c57] at H
                                      have c57b0 : decide (x86_4 < (x6_3.length : Int)) = true := decide_eq_true c57
                                      clear c57
                                      have H' := amk H
                                      clear H
                                      have p241 : 0 ≤ (x86_4 : Int) := of_decide_eq_true (by first | (with_reducible assumption) | assumption)
                                      have q241 : x86_4 < (x6_3.length : Int) := of_decide_eq_true (by first | (with_reducible assumption) | assumption)
                                      obtain ⟨ad241, e241, hx241_0⟩ := Kd.at_int (Kd.R_reads' HO_84.out).2.2 x86_4 p241 q241
                                      cases e241
                                      replace p241 := eq_true p241
                                      replace q241 := eq_true q241
                                      go_wp2
                                      go_roundg k4
                                      case measure => have := HJ2.out; have := HK2.out; have := HK3.out; have := HK4.out; omega
                                      case rel => exact ⟨(wrap64 (x16_4 + (rd x6_3 x86_4))), (wrap64 (x86_4 + 1)), (by first | rfl | (simp; done) | (simp [*]; done)), (by first | rfl | (simp; done) | (simp [*]; done)), H', ⟨by have := HJ2.out; have := HK2.out; have := HK3.out; have := HK4.out; omega⟩, ⟨by (with_reducible repeat (first | apply Kd.R_alloc | apply Kd.R_drewN | apply Kd.R_drew)); exact HO_84.out⟩, ⟨by (with_reducible repeat (first | refine kn_ ?_ _ | refine blk_drew ?_ | refine ka_ ?_ _)); exact BK219.out⟩, ⟨by repeat (first | (with_reducible first | exact HB.out | apply ba_ | apply bn_ | apply bd_ | refine bs_ ?_ GE219.out) | exact HB.out)⟩⟩
                                    · rw [if_neg c57] at H
                                      exact absurd H (by simp)
                                  · rw [if_neg c56] at H
                                    exact absurd H (by simp)
                                · rw [if_neg c55] at H
                                  have c55b0 : decide (x86_4 < (x6_3.length : Int)) = false := decide_eq_false c55
                                  clear c55
                                  simp only [Option.some.injEq, Prod.mk.injEq] at H
                                  obtain ⟨rfl, rfl⟩ := H
                                  go_wp2
                                  go_ret2
                                  exact ⟨by first | rfl | (simp [errW_none, errW_some] <;> rfl) | (simp [*, errW_none, errW_some] <;> rfl), by repeat (first | (with_reducible first | exact HB.out | apply ba_ | apply bn_ | apply bd_ | refine bs_ ?_ GE219.out) | exact HB.out)⟩
                    · rw [if_neg c28] at H
                      exact absurd H (by simp)
            · rw [if_neg c15] at H
              exact absurd H (by simp)
          · rw [if_neg c14] at H
            exact absurd H (by simp)
        · rw [if_neg c13] at H
          exact absurd H (by simp)
/-! ### laws_FnExactSmoothKeys: function 4 -/
def laws_FnExactSmoothKeys.j0 : Nat → Bool → Int → List (List Int) → Int → List (List Int) → Option (Bool)
  | 0, _, _, _, _, _ => none
  | k + 1, x38, x298000, x298001, x310000, x310001 => if x38 = true then (some false) else ((laws_toPins.f k x298000 x298001).bind fun bt312 => ((laws_eqPins.f k x310000 x310001 bt312.1 bt312.2).bind fun t316 => (if t316 = true then (some true) else (some false))))
def laws_FnExactSmoothKeys.f (k : Nat) (a0_0 : Int) (l0_1 : List (List Int)) (a1 : Int) : Option (Bool) := (laws_szPins.f k a0_0 l0_1 1048576).bind fun t298 => (if t298 < 0 then (some true) else ((laws_toPins.f k a0_0 l0_1).bind fun bt299 => ((spec_SmoothKeys.f k bt299.1 bt299.2 a1).bind fun bt303 => ((laws_toPins.f k a0_0 l0_1).bind fun bt305 => ((impl_SmoothKeys.f k bt305.1 bt305.2 a1).bind fun bt310 => (if bt310.1 = bt303.1 then (laws_FnExactSmoothKeys.j0 k (bt310.2 != bt303.2) a0_0 l0_1 bt305.1 bt305.2) else (laws_FnExactSmoothKeys.j0 k true a0_0 l0_1 bt305.1 bt305.2)))))))
set_option maxHeartbeats 8000000 in
set_option maxRecDepth 100000 in
theorem laws_FnExactSmoothKeys.calls (k : Nat) (a0_0 : Int) (A0_1 : Option Addr) (c0_1 : Nat) (l0_1 : List (List Int)) (a1 : Int) (r : Bool) (w : World) (hr0_1 : Kd.C (Kd.slice 3 (Kd.int .i64)) w A0_1 l0_1.length l0_1) (hc0_1 : l0_1.length ≤ c0_1) (h : laws_FnExactSmoothKeys.f k a0_0 l0_1 a1 = some r) :
    Calls Try.prog 4 #[.agg #[.int .i64 a0_0, .slice A0_1 l0_1.length c0_1], .int .i64 a1] w fun e w' => e = .returned (.bool r) ∧ Below w.heap.size w w' := by
  have hu37 := Try.underlying37
  have hu41 := Try.underlying41
  have HR0_1 := amk hr0_1
  have HC0_1 := amk hc0_1
  clear hr0_1 hc0_1
  have HB := amk (Below.refl w.heap.size w)
  have H : ((laws_szPins.f k a0_0 l0_1 1048576).bind fun t298 => (if t298 < 0 then (some true) else ((laws_toPins.f k a0_0 l0_1).bind fun bt299 => ((spec_SmoothKeys.f k bt299.1 bt299.2 a1).bind fun bt303 => ((laws_toPins.f k a0_0 l0_1).bind fun bt305 => ((impl_SmoothKeys.f k bt305.1 bt305.2 a1).bind fun bt310 => (if bt310.1 = bt303.1 then (laws_FnExactSmoothKeys.j0 k (bt310.2 != bt303.2) a0_0 l0_1 bt305.1 bt305.2) else (laws_FnExactSmoothKeys.j0 k true a0_0 l0_1 bt305.1 bt305.2)))))))) = some r := h
  clear h
  replace H := Option.bind_eq_some_iff.mp H
  obtain ⟨t298, A30, H⟩ := H
  replace H : (if t298 < 0 then (some true) else ((laws_toPins.f k a0_0 l0_1).bind fun bt299 => ((spec_SmoothKeys.f k bt299.1 bt299.2 a1).bind fun bt303 => ((laws_toPins.f k a0_0 l0_1).bind fun bt305 => ((impl_SmoothKeys.f k bt305.1 bt305.2 a1).bind fun bt310 => (if bt310.1 = bt303.1 then (laws_FnExactSmoothKeys.j0 k (bt310.2 != bt303.2) a0_0 l0_1 bt305.1 bt305.2) else (laws_FnExactSmoothKeys.j0 k true a0_0 l0_1 bt305.1 bt305.2))))))) = some r := H
  have A3 := amk A30
  clear A30
  by_cases c4 : t298 < 0
  · rw [if_pos c4] at H
    have c4b0 : decide (t298 < 0) = true := decide_eq_true c4
    clear c4
    obtain rfl := Option.some.inj H
    go_enter Try.func4, Try.ntmps4
    go_wp2_with (first | ((with_reducible refine gate_dst (N := 2) rfl ?_); refine box_event ?hg (N := 2) ?hd (cs := #[.int .i64 a0_0, .slice A0_1 l0_1.length c0_1]) (t := 37) ?hr ?_; (case hd => rfl); (case hg => rfl); (case hr => first | (go_simp; done) | (go_simp; rfl)); intro gb297 hg w5 hbox hb; have n0_ := amk (bp_ (by repeat (first | (with_reducible first | exact HB.out | apply ba_ | apply bn_ | apply bd_) | exact HB.out)) hb); have n1_ := amk (hbox); have n2_ := amk ((by rw [hg]; exact (below_size (by repeat (first | (with_reducible first | exact HB.out | apply ba_ | apply bn_ | apply bd_) | exact HB.out))) : w.heap.size ≤ gb297)); have n3_ := amk ((by rw [hg]; exact (below_size (by repeat (first | (with_reducible first | exact HB.out | apply ba_ | apply bn_ | apply bd_) | exact HB.out))) : w.heap.size ≤ gb297)); clear HB; have HB := n0_; have BK297 := n1_; have GW297 := n2_; have GE297 := n3_; clear n0_ n1_ n2_ n3_; clear hb hbox hg; have hcz6_0 : w5.cell? ⟨gb297, 0, none⟩ = some (.int .i64 a0_0) := (blk_cell BK297.out 0).trans rfl; have hcz6_1 : w5.cell? ⟨gb297, 1, none⟩ = some (.slice A0_1 l0_1.length c0_1) := (blk_cell BK297.out 1).trans rfl; have hfz6_0 := blk_frozen BK297.out 0; have hfz6_1 := blk_frozen BK297.out 1) | ((with_reducible refine gate_callee (f := 20) rfl ?_); refine goesL_ (some 13) rfl rfl Try.func20 (by kernel_rfl) rfl #[.agg #[.int .i64 a0_0, .slice A0_1 l0_1.length c0_1], .int .i64 1048576] rfl (by (try simp only [List.map_toArray, List.map_cons, List.map_nil]); first | done | rfl | (simp only [List.length_drop, List.length_take]; rfl)) ?_; (with_reducible refine (laws_szPins.calls k a0_0 _ _ l0_1 1048576 t298 _ ?side1 ?side2 A3.out).mono ?_); (case side1 => repeat (first | exact (Kd.C_below HR0_1.out HB.out) | (with_reducible refine Kd.C_alloc ?_ _) | (with_reducible refine Kd.C_drewN ?_ _) | (with_reducible refine Kd.C_drew ?_))); (case side2 => exact HC0_1.out); rintro e w7 ⟨rfl, hb⟩; refine ⟨_, rfl, ?_⟩; have n0_ := amk (blk_below (g := gb297) (o := .cells #[.int .i64 a0_0, .slice A0_1 l0_1.length c0_1] 37 (0, 0)) (by (with_reducible repeat (first | refine kn_ ?_ _ | refine blk_drew ?_ | refine ka_ ?_ _)); exact BK297.out) hb); have n1_ := amk (bp_ (by repeat (first | (with_reducible first | exact HB.out | apply ba_ | apply bn_ | apply bd_ | refine bs_ ?_ GE297.out) | exact HB.out)) hb); clear BK297; clear HB; have BK297 := n0_; have HB := n1_; clear n0_ n1_; (try clear hb); (try clear hb2); (try clear hk); (try clear hi)))
    go_ret
    exact ⟨by first | rfl | (simp [errW_none, errW_some] <;> rfl) | (simp [*, errW_none, errW_some] <;> rfl), by repeat (first | (with_reducible first | exact HB.out | apply ba_ | apply bn_ | apply bd_ | refine bs_ ?_ GE297.out) | exact HB.out)⟩
  · rw [if_neg c4] at H
    have c4b0 : decide (t298 < 0) = false := decide_eq_false c4
    clear c4
    replace H := Option.bind_eq_some_iff.mp H
    obtain ⟨⟨t299, t300⟩, A80, H⟩ := H
    replace H : ((spec_SmoothKeys.f k t299 t300 a1).bind fun bt303 => ((laws_toPins.f k a0_0 l0_1).bind fun bt305 => ((impl_SmoothKeys.f k bt305.1 bt305.2 a1).bind fun bt310 => (if bt310.1 = bt303.1 then (laws_FnExactSmoothKeys.j0 k (bt310.2 != bt303.2) a0_0 l0_1 bt305.1 bt305.2) else (laws_FnExactSmoothKeys.j0 k true a0_0 l0_1 bt305.1 bt305.2))))) = some r := H
    have A8 := amk A80
    clear A80
    replace H := Option.bind_eq_some_iff.mp H
    obtain ⟨⟨t303, t304⟩, A90, H⟩ := H
    replace H : ((laws_toPins.f k a0_0 l0_1).bind fun bt305 => ((impl_SmoothKeys.f k bt305.1 bt305.2 a1).bind fun bt310 => (if bt310.1 = t303 then (laws_FnExactSmoothKeys.j0 k (bt310.2 != t304) a0_0 l0_1 bt305.1 bt305.2) else (laws_FnExactSmoothKeys.j0 k true a0_0 l0_1 bt305.1 bt305.2)))) = some r := H
    have A9 := amk A90
    clear A90
    replace H := Option.bind_eq_some_iff.mp H
    obtain ⟨⟨t305, t306⟩, A100, H⟩ := H
    replace H : ((impl_SmoothKeys.f k t305 t306 a1).bind fun bt310 => (if bt310.1 = t303 then (laws_FnExactSmoothKeys.j0 k (bt310.2 != t304) a0_0 l0_1 t305 t306) else (laws_FnExactSmoothKeys.j0 k true a0_0 l0_1 t305 t306))) = some r := H
    have A10 := amk A100
    clear A100
    replace H := Option.bind_eq_some_iff.mp H
    obtain ⟨⟨t310, t311⟩, A110, H⟩ := H
    replace H : (if t310 = t303 then (laws_FnExactSmoothKeys.j0 k (t311 != t304) a0_0 l0_1 t305 t306) else (laws_FnExactSmoothKeys.j0 k true a0_0 l0_1 t305 t306)) = some r := H
    have A11 := amk A110
    clear A110
    have HC12 := amk H
    clear H
    go_enter Try.func4, Try.ntmps4
    go_upto_region 8 with (first | ((with_reducible refine gate_dst (N := 2) rfl ?_); refine box_event ?hg (N := 2) ?hd (cs := #[.int .i64 a0_0, .slice A0_1 l0_1.length c0_1]) (t := 37) ?hr ?_; (case hd => rfl); (case hg => rfl); (case hr => first | (go_simp; done) | (go_simp; rfl)); intro gb297 hg w13 hbox hb; have n0_ := amk (bp_ (by repeat (first | (with_reducible first | exact HB.out | apply ba_ | apply bn_ | apply bd_) | exact HB.out)) hb); have n1_ := amk (hbox); have n2_ := amk ((by rw [hg]; exact (below_size (by repeat (first | (with_reducible first | exact HB.out | apply ba_ | apply bn_ | apply bd_) | exact HB.out))) : w.heap.size ≤ gb297)); have n3_ := amk ((by rw [hg]; exact (below_size (by repeat (first | (with_reducible first | exact HB.out | apply ba_ | apply bn_ | apply bd_) | exact HB.out))) : w.heap.size ≤ gb297)); clear HB; have HB := n0_; have BK297 := n1_; have GW297 := n2_; have GE297 := n3_; clear n0_ n1_ n2_ n3_; clear hb hbox hg; have hcz14_0 : w13.cell? ⟨gb297, 0, none⟩ = some (.int .i64 a0_0) := (blk_cell BK297.out 0).trans rfl; have hcz14_1 : w13.cell? ⟨gb297, 1, none⟩ = some (.slice A0_1 l0_1.length c0_1) := (blk_cell BK297.out 1).trans rfl; have hfz14_0 := blk_frozen BK297.out 0; have hfz14_1 := blk_frozen BK297.out 1) | ((with_reducible refine gate_callee (f := 20) rfl ?_); refine goesL_ (some 13) rfl rfl Try.func20 (by kernel_rfl) rfl #[.agg #[.int .i64 a0_0, .slice A0_1 l0_1.length c0_1], .int .i64 1048576] rfl (by (try simp only [List.map_toArray, List.map_cons, List.map_nil]); first | done | rfl | (simp only [List.length_drop, List.length_take]; rfl)) ?_; (with_reducible refine (laws_szPins.calls k a0_0 _ _ l0_1 1048576 t298 _ ?side1 ?side2 A3.out).mono ?_); (case side1 => repeat (first | exact (Kd.C_below HR0_1.out HB.out) | (with_reducible refine Kd.C_alloc ?_ _) | (with_reducible refine Kd.C_drewN ?_ _) | (with_reducible refine Kd.C_drew ?_))); (case side2 => exact HC0_1.out); rintro e w15 ⟨rfl, hb⟩; refine ⟨_, rfl, ?_⟩; have n0_ := amk (blk_below (g := gb297) (o := .cells #[.int .i64 a0_0, .slice A0_1 l0_1.length c0_1] 37 (0, 0)) (by (with_reducible repeat (first | refine kn_ ?_ _ | refine blk_drew ?_ | refine ka_ ?_ _)); exact BK297.out) hb); have n1_ := amk (bp_ (by repeat (first | (with_reducible first | exact HB.out | apply ba_ | apply bn_ | apply bd_ | refine bs_ ?_ GE297.out) | exact HB.out)) hb); clear BK297; clear HB; have BK297 := n0_; have HB := n1_; clear n0_ n1_; (try clear hb); (try clear hb2); (try clear hk); (try clear hi); have hcz16_0 : w15.cell? ⟨gb297, 0, none⟩ = some (.int .i64 a0_0) := (blk_cell BK297.out 0).trans rfl; have hcz16_1 : w15.cell? ⟨gb297, 1, none⟩ = some (.slice A0_1 l0_1.length c0_1) := (blk_cell BK297.out 1).trans rfl; have hfz16_0 := blk_frozen BK297.out 0; have hfz16_1 := blk_frozen BK297.out 1) | ((with_reducible refine gate_callee (f := 22) rfl ?_); refine goesL_ (some 18) rfl rfl Try.func22 (by kernel_rfl) rfl #[.agg #[.int .i64 a0_0, .slice A0_1 l0_1.length c0_1]] rfl (by (try simp only [List.map_toArray, List.map_cons, List.map_nil]); first | done | rfl | (simp only [List.length_drop, List.length_take]; rfl)) ?_; (with_reducible refine (laws_toPins.calls k a0_0 _ _ l0_1 t299 t300 _ ?side1 ?side2 A8.out).mono ?_); (case side1 => repeat (first | exact (Kd.C_below HR0_1.out HB.out) | (with_reducible refine Kd.C_alloc ?_ _) | (with_reducible refine Kd.C_drewN ?_ _) | (with_reducible refine Kd.C_drew ?_))); (case side2 => exact HC0_1.out); rintro e w17 ⟨v301, rfl, ho0, hb⟩; refine ⟨_, rfl, ?_⟩; have n0_ := amk (Kd.S_lower ho0 (below_size (by repeat (first | (with_reducible first | exact HB.out | apply ba_ | apply bn_ | apply bd_ | refine bs_ ?_ GE297.out) | exact HB.out)))); have n1_ := amk (blk_below (g := gb297) (o := .cells #[.int .i64 a0_0, .slice A0_1 l0_1.length c0_1] 37 (0, 0)) (by (with_reducible repeat (first | refine kn_ ?_ _ | refine blk_drew ?_ | refine ka_ ?_ _)); exact BK297.out) hb); have n2_ := amk (bp_ (by repeat (first | (with_reducible first | exact HB.out | apply ba_ | apply bn_ | apply bd_ | refine bs_ ?_ GE297.out) | exact HB.out)) hb); clear BK297; clear HB; have HO302 := n0_; have BK297 := n1_; have HB := n2_; clear n0_ n1_ n2_; (try clear hb); (try clear hb2); (try clear hk); (try clear hi); (try clear ho0); obtain ⟨Ao18, co18, eo18⟩ := Kd.S_slice HO302.out; subst eo18) | ((with_reducible refine gate_callee (f := 21) rfl ?_); refine goesL_ (some 20) rfl rfl Try.func21 (by kernel_rfl) rfl #[.agg #[.int .i64 t299, .slice Ao18 t300.length co18], .int .i64 a1] rfl (by (try simp only [List.map_toArray, List.map_cons, List.map_nil]); first | done | rfl | (simp only [List.length_drop, List.length_take]; rfl)) ?_; (with_reducible refine (spec_SmoothKeys.calls k t299 _ _ t300 a1 t303 t304 _ ?side1 ?side2 A9.out).mono ?_); (case side1 => repeat (first | exact (Kd.S_reads' HO302.out).2.2 | (with_reducible refine Kd.C_alloc ?_ _) | (with_reducible refine Kd.C_drewN ?_ _) | (with_reducible refine Kd.C_drew ?_))); (case side2 => exact (Kd.S_reads' HO302.out).2.1); rintro e w19 ⟨rfl, hb⟩; refine ⟨_, rfl, ?_⟩; have n0_ := amk (Kd.S_below (by (with_reducible repeat (first | apply Kd.S_alloc | apply Kd.S_drewN | apply Kd.S_drew)); exact HO302.out) hb); have n1_ := amk (blk_below (g := gb297) (o := .cells #[.int .i64 a0_0, .slice A0_1 l0_1.length c0_1] 37 (0, 0)) (by (with_reducible repeat (first | refine kn_ ?_ _ | refine blk_drew ?_ | refine ka_ ?_ _)); exact BK297.out) hb); have n2_ := amk (bp_ (by repeat (first | (with_reducible first | exact HB.out | apply ba_ | apply bn_ | apply bd_ | refine bs_ ?_ GE297.out) | exact HB.out)) hb); clear HO302; clear BK297; clear HB; have HO302 := n0_; have BK297 := n1_; have HB := n2_; clear n0_ n1_ n2_; (try clear hb); (try clear hb2); (try clear hk); (try clear hi); have hcz20_0 : w19.cell? ⟨gb297, 0, none⟩ = some (.int .i64 a0_0) := (blk_cell BK297.out 0).trans rfl; have hcz20_1 : w19.cell? ⟨gb297, 1, none⟩ = some (.slice A0_1 l0_1.length c0_1) := (blk_cell BK297.out 1).trans rfl; have hfz20_0 := blk_frozen BK297.out 0; have hfz20_1 := blk_frozen BK297.out 1) | ((with_reducible refine gate_callee (f := 22) rfl ?_); refine goesL_ (some 24) rfl rfl Try.func22 (by kernel_rfl) rfl #[.agg #[.int .i64 a0_0, .slice A0_1 l0_1.length c0_1]] rfl (by (try simp only [List.map_toArray, List.map_cons, List.map_nil]); first | done | rfl | (simp only [List.length_drop, List.length_take]; rfl)) ?_; (with_reducible refine (laws_toPins.calls k a0_0 _ _ l0_1 t305 t306 _ ?side1 ?side2 A10.out).mono ?_); (case side1 => repeat (first | exact (Kd.C_below HR0_1.out HB.out) | (with_reducible refine Kd.C_alloc ?_ _) | (with_reducible refine Kd.C_drewN ?_ _) | (with_reducible refine Kd.C_drew ?_))); (case side2 => exact HC0_1.out); rintro e w21 ⟨v307, rfl, ho0, hb⟩; refine ⟨_, rfl, ?_⟩; have n0_ := amk (Kd.S_elder' (by (with_reducible repeat (first | apply Kd.S_alloc | apply Kd.S_drewN | apply Kd.S_drew)); exact HO302.out) (Kd.S_base ho0) hb); have n1_ := amk (Kd.S_lower (Kd.S_new' ho0 (Kd.S_lt (by (with_reducible repeat (first | apply Kd.S_alloc | apply Kd.S_drewN | apply Kd.S_drew)); exact HO302.out))) (below_size (by repeat (first | (with_reducible first | exact HB.out | apply ba_ | apply bn_ | apply bd_ | refine bs_ ?_ GE297.out) | exact HB.out)))); have n2_ := amk (blk_below (g := gb297) (o := .cells #[.int .i64 a0_0, .slice A0_1 l0_1.length c0_1] 37 (0, 0)) (by (with_reducible repeat (first | refine kn_ ?_ _ | refine blk_drew ?_ | refine ka_ ?_ _)); exact BK297.out) hb); have n3_ := amk (bp_ (by repeat (first | (with_reducible first | exact HB.out | apply ba_ | apply bn_ | apply bd_ | refine bs_ ?_ GE297.out) | exact HB.out)) hb); clear HO302; clear BK297; clear HB; have HO302 := n0_; have HO308 := n1_; have BK297 := n2_; have HB := n3_; clear n0_ n1_ n2_ n3_; (try clear hb); (try clear hb2); (try clear hk); (try clear hi); (try clear ho0)) | ((with_reducible refine gate_dst (N := 8) rfl ?_); refine box_event ?hg (N := 8) ?hd (cs := #[.int .i64 0, .slice none 0 0]) (t := 41) ?hr ?_; (case hd => rfl); (case hg => rfl); (case hr => first | (go_simp; done) | (go_simp; rfl)); intro gb309 hg w22 hbox hb; have n0_ := amk (Kd.S_below (by (with_reducible repeat (first | apply Kd.S_alloc | apply Kd.S_drewN | apply Kd.S_drew)); exact HO302.out) hb); have n1_ := amk (Kd.S_below (by (with_reducible repeat (first | apply Kd.S_alloc | apply Kd.S_drewN | apply Kd.S_drew)); exact HO308.out) hb); have n2_ := amk (blk_below (g := gb297) (o := .cells #[.int .i64 a0_0, .slice A0_1 l0_1.length c0_1] 37 (0, 0)) (by (with_reducible repeat (first | refine kn_ ?_ _ | refine blk_drew ?_ | refine ka_ ?_ _)); exact BK297.out) hb); have n3_ := amk (bp_ (by repeat (first | (with_reducible first | exact HB.out | apply ba_ | apply bn_ | apply bd_ | refine bs_ ?_ GE297.out) | exact HB.out)) hb); have n4_ := amk (hbox); have n5_ := amk ((by rw [hg]; exact (below_size (by repeat (first | (with_reducible first | exact HB.out | apply ba_ | apply bn_ | apply bd_ | refine bs_ ?_ GE297.out) | exact HB.out))) : w.heap.size ≤ gb309)); have n6_ := amk ((by rw [hg]; exact (below_size (by repeat (first | (with_reducible first | exact HB.out | apply ba_ | apply bn_ | apply bd_ | refine bs_ ?_ GE297.out) | exact HB.out))) : w.heap.size ≤ gb309)); have n7_ := amk ((by rw [hg]; exact Nat.ne_of_lt (blk_lt (g := gb297) (o := .cells #[.int .i64 a0_0, .slice A0_1 l0_1.length c0_1] 37 (0, 0)) (by (with_reducible repeat (first | refine kn_ ?_ _ | refine blk_drew ?_ | refine ka_ ?_ _)); exact BK297.out)) : gb297 ≠ gb309)); have n8_ := amk ((by rw [hg]; exact Nat.ne_of_gt (blk_lt (g := gb297) (o := .cells #[.int .i64 a0_0, .slice A0_1 l0_1.length c0_1] 37 (0, 0)) (by (with_reducible repeat (first | refine kn_ ?_ _ | refine blk_drew ?_ | refine ka_ ?_ _)); exact BK297.out)) : gb309 ≠ gb297)); clear HO302; clear HO308; clear BK297; clear HB; have HO302 := n0_; have HO308 := n1_; have BK297 := n2_; have HB := n3_; have BK309 := n4_; have GW309 := n5_; have GE309 := n6_; have NB297_309 := n7_; have NB309_297 := n8_; clear n0_ n1_ n2_ n3_ n4_ n5_ n6_ n7_ n8_; clear hb hbox hg; have hnb23 := NB309_297.out; have hnc23 := NB297_309.out; have hcz24_0 : w22.cell? ⟨gb309, 0, none⟩ = some (.int .i64 0) := (blk_cell BK309.out 0).trans rfl; have hcz24_1 : w22.cell? ⟨gb309, 1, none⟩ = some (.slice none 0 0) := (blk_cell BK309.out 1).trans rfl; have hfz24_0 := blk_frozen BK309.out 0; have hfz24_1 := blk_frozen BK309.out 1; obtain ⟨Ao25, co25, eo25⟩ := Kd.S_slice HO308.out; subst eo25) | ((with_reducible refine gate_callee (f := 23) rfl ?_); refine goesL_ (some 28) rfl rfl Try.func23 (by kernel_rfl) rfl #[.agg #[.int .i64 t305, .slice Ao25 t306.length co25], .int .i64 a1] rfl (by (try simp only [List.map_toArray, List.map_cons, List.map_nil]); first | done | rfl | (simp only [List.length_drop, List.length_take]; rfl)) ?_; (with_reducible refine (impl_SmoothKeys.calls k t305 _ _ t306 a1 t310 t311 _ ?side1 ?side2 A11.out).mono ?_); (case side1 => refine (Kd.S_reads' (e := 86) (base := w.heap.size) (ok := fun k_ => (True ∧ some k_ ≠ (.slice Ao18 t300.length co18 : Value).ownBlock)) (n := t306.length) (c := co25) ?_).2.2; exact (by (with_reducible repeat (first | apply Kd.S_alloc | apply Kd.S_drewN | apply Kd.S_drew)); exact (Kd.S_mono (Kd.S_far (p := ⟨gb309, 1, none⟩) (Kd.S_far (p := ⟨gb309, 0, none⟩) (Kd.S_types HO308.out BK309.out (by decide)) (fun _ hk => hk.2) (.int .i64 t305)) (fun _ hk => hk.2) (.slice Ao25 t306.length co25)) (fun _ h_ => h_.1)))); (case side2 => exact (Kd.S_reads' HO308.out).2.1); rintro e w26 ⟨rfl, hb⟩; refine ⟨_, rfl, ?_⟩; have n0_ := amk (Kd.S_below (by (with_reducible repeat (first | apply Kd.S_alloc | apply Kd.S_drewN | apply Kd.S_drew)); exact (Kd.S_mono (Kd.S_far (p := ⟨gb309, 1, none⟩) (Kd.S_far (p := ⟨gb309, 0, none⟩) (Kd.S_types HO302.out BK309.out (by decide)) (fun _ hk => hk.2) (.int .i64 t305)) (fun _ hk => hk.2) (.slice Ao25 t306.length co25)) (fun _ h_ => h_.1))) hb); have n1_ := amk (Kd.S_below (by (with_reducible repeat (first | apply Kd.S_alloc | apply Kd.S_drewN | apply Kd.S_drew)); exact (Kd.S_mono (Kd.S_far (p := ⟨gb309, 1, none⟩) (Kd.S_far (p := ⟨gb309, 0, none⟩) (Kd.S_types HO308.out BK309.out (by decide)) (fun _ hk => hk.2) (.int .i64 t305)) (fun _ hk => hk.2) (.slice Ao25 t306.length co25)) (fun _ h_ => h_.1))) hb); have n2_ := amk (blk_below (g := gb297) (o := .cells #[.int .i64 a0_0, .slice A0_1 l0_1.length c0_1] 37 (0, 0)) (by (with_reducible repeat (first | refine kn_ ?_ _ | refine blk_drew ?_ | refine ka_ ?_ _)); refine blk_far ?_ NB297_309.out _; (with_reducible repeat (first | refine kn_ ?_ _ | refine blk_drew ?_ | refine ka_ ?_ _)); refine blk_far ?_ NB297_309.out _; (with_reducible repeat (first | refine kn_ ?_ _ | refine blk_drew ?_ | refine ka_ ?_ _)); exact BK297.out) hb); have n3_ := amk (blk_below (g := gb309) (o := .cells #[.int .i64 t305, .slice Ao25 t306.length co25] 41 (0, 0)) (by (with_reducible repeat (first | refine kn_ ?_ _ | refine blk_drew ?_ | refine ka_ ?_ _)); refine blk_put (cs := #[.int .i64 t305, .slice none 0 0]) ?_ 1 _ rfl; (with_reducible repeat (first | refine kn_ ?_ _ | refine blk_drew ?_ | refine ka_ ?_ _)); refine blk_put (cs := #[.int .i64 0, .slice none 0 0]) ?_ 0 _ rfl; (with_reducible repeat (first | refine kn_ ?_ _ | refine blk_drew ?_ | refine ka_ ?_ _)); exact BK309.out) hb); have n4_ := amk (bp_ (by repeat (first | (with_reducible first | exact HB.out | apply ba_ | apply bn_ | apply bd_ | refine bs_ ?_ GE297.out | refine bs_ ?_ GE309.out) | exact HB.out)) hb); clear HO302; clear HO308; clear BK297; clear BK309; clear HB; have HO302 := n0_; have HO308 := n1_; have BK297 := n2_; have BK309 := n3_; have HB := n4_; clear n0_ n1_ n2_ n3_ n4_; (try clear hb); (try clear hb2); (try clear hk); (try clear hi)))
    (try simp only [Act.put, List.setIfInBounds_toArray, List.set_cons_zero, List.set_cons_succ])
    go_cut [38] (fun v38 wc => ∃ (kq : Nat) (x38_11 : Bool), v38 = .bool x38_11 ∧ Aside0 (laws_FnExactSmoothKeys.j0 kq x38_11 a0_0 l0_1 t305 t306 = some r) ∧ Aside0 (kq ≤ k) ∧ Aside0 (Kd.S (Kd.slice 3 (Kd.int .i64)) 86 wc w.heap.size (fun _ => True) (.slice Ao25 t306.length co25) t306) ∧ Aside0 (wc.heap[gb297]? = some (.cells #[.int .i64 a0_0, (.slice A0_1 l0_1.length c0_1)] 37 (0, 0))) ∧ Aside0 (wc.heap[gb309]? = some (.cells #[.int .i64 t305, (.slice Ao25 t306.length co25)] 41 (0, 0))) ∧ Aside0 (Below w.heap.size w wc))
    case first =>
      have H := HC12.out
      clear HC12
      by_cases c27 : t310 = t303
      · rw [if_pos c27] at H
        have c27b0 : (t310 == t303) = true := beq_iff_eq.mpr c27
        have c27b1 : (t310 != t303) = false := bne_eq_false_iff_eq.mpr c27
        clear c27
        (first | rw [c27b0] | (simp only [i64_w, i32_w]; rw [c27b0]) | skip)
        have H' := amk H
        clear H
        go_wp2
        go_meet
        case rel => exact ⟨_, ((t311 != t304)), (by first | rfl | (simp; done) | (simp [*]; done)), H', ⟨by first | omega | exact Nat.le_refl _⟩, ⟨by (with_reducible repeat (first | apply Kd.S_alloc | apply Kd.S_drewN | apply Kd.S_drew)); exact Kd.S_mono HO308.out (fun _ hk => trivial)⟩, ⟨by (with_reducible repeat (first | refine kn_ ?_ _ | refine blk_drew ?_ | refine ka_ ?_ _)); exact BK297.out⟩, ⟨by (with_reducible repeat (first | refine kn_ ?_ _ | refine blk_drew ?_ | refine ka_ ?_ _)); exact BK309.out⟩, ⟨by repeat (first | (with_reducible first | exact HB.out | apply ba_ | apply bn_ | apply bd_ | refine bs_ ?_ GE297.out | refine bs_ ?_ GE309.out) | exact HB.out)⟩⟩
      · rw [if_neg c27] at H
        have c27b0 : (t310 == t303) = false := beq_eq_false_iff_ne.mpr c27
        have c27b1 : (t310 != t303) = true := bne_iff_ne.mpr c27
        (first | rw [c27b0] | (simp only [i64_w, i32_w]; rw [c27b0]) | skip)
        have H' := amk H
        clear H
        go_wp2
        go_meet
        case rel => exact ⟨_, (true), (by first | rfl | (simp; done) | (simp [*]; done)), H', ⟨by first | omega | exact Nat.le_refl _⟩, ⟨by (with_reducible repeat (first | apply Kd.S_alloc | apply Kd.S_drewN | apply Kd.S_drew)); exact Kd.S_mono HO308.out (fun _ hk => trivial)⟩, ⟨by (with_reducible repeat (first | refine kn_ ?_ _ | refine blk_drew ?_ | refine ka_ ?_ _)); exact BK297.out⟩, ⟨by (with_reducible repeat (first | refine kn_ ?_ _ | refine blk_drew ?_ | refine ka_ ?_ _)); exact BK309.out⟩, ⟨by repeat (first | (with_reducible first | exact HB.out | apply ba_ | apply bn_ | apply bd_ | refine bs_ ?_ GE297.out | refine bs_ ?_ GE309.out) | exact HB.out)⟩⟩
    case rest =>
      clear HC12
      try clear c2; try clear p2; try clear c4; try clear c4b0; try clear c20; try clear c21; try clear c22; try clear c23; try clear c27; try clear c27b0; try clear c27b1; try clear hcz14_0; try clear hcz14_1; try clear hcz16_0; try clear hcz16_1; try clear hcz20_0; try clear hcz20_1; try clear hcz24_0; try clear hcz24_1; try clear hcz6_0; try clear hcz6_1; try clear hfz14_0; try clear hfz14_1; try clear hfz16_0; try clear hfz16_1; try clear hfz20_0; try clear hfz20_1; try clear hfz24_0; try clear hfz24_1; try clear hfz6_0; try clear hfz6_1
      obtain ⟨kq, x38_11, rfl, HA, HJ11, HO_310001, BK297, BK309, HB⟩ := hcut
      cases kq with
      | zero => exact absurd HA.out (by simp [laws_FnExactSmoothKeys.j0])
      | succ kj11 =>
        have H := HA.out
        clear HA
        simp only [laws_FnExactSmoothKeys.j0] at H
        by_cases c28 : x38_11 = true
        · subst c28
          have H1 : (some false) = some r := by rw [if_pos rfl] at H; exact H
          clear H
          have H := H1
          clear H1
          obtain rfl := Option.some.inj H
          go_wp2
          go_ret
          exact ⟨by first | rfl | (simp [errW_none, errW_some] <;> rfl) | (simp [*, errW_none, errW_some] <;> rfl), by repeat (first | (with_reducible first | exact HB.out | apply ba_ | apply bn_ | apply bd_ | refine bs_ ?_ GE297.out | refine bs_ ?_ GE309.out) | exact HB.out)⟩
        · replace c28 := Bool.eq_false_iff.mpr c28
          subst c28
          have H1 : ((laws_toPins.f kj11 a0_0 l0_1).bind fun bt312 => ((laws_eqPins.f kj11 t305 t306 bt312.1 bt312.2).bind fun t316 => (if t316 = true then (some true) else (some false)))) = some r := by rw [if_neg (show ¬ (false = true) by decide)] at H; exact H
          clear H
          have H := H1
          clear H1
          replace H := Option.bind_eq_some_iff.mp H
          obtain ⟨⟨t312, t313⟩, A290, H⟩ := H
          replace H : ((laws_eqPins.f kj11 t305 t306 t312 t313).bind fun t316 => (if t316 = true then (some true) else (some false))) = some r := H
          have A29 := amk A290
          clear A290
          replace H := Option.bind_eq_some_iff.mp H
          obtain ⟨t316, A300, H⟩ := H
          replace H : (if t316 = true then (some true) else (some false)) = some r := H
          have A30 := amk A300
          clear A300
          by_cases c31 : t316 = true
          · subst c31
            have H1 : (some true) = some r := by rw [if_pos rfl] at H; exact H
            clear H
            have H := H1
            clear H1
            obtain rfl := Option.some.inj H
            try go_wp2
            have n0_ := amk (Kd.S_drew HO_310001.out)
            have n1_ := amk (blk_drew BK297.out)
            have n2_ := amk (blk_drew BK309.out)
            have n3_ := amk (bd_ HB.out)
            clear HO_310001
            clear BK297
            clear BK309
            clear HB
            have HO_310001 := n0_
            have BK297 := n1_
            have BK309 := n2_
            have HB := n3_
            clear n0_ n1_ n2_ n3_
            refine start_ (n := 5) (S := fun w' => w'.cell? ⟨gb309, 0, none⟩ = some (.int .i64 t305) ∧ w'.cell? ⟨gb309, 1, none⟩ = some (.slice Ao25 t306.length co25) ∧ w'.cell? ⟨gb297, 0, none⟩ = some (.int .i64 a0_0) ∧ w'.cell? ⟨gb297, 1, none⟩ = some (.slice A0_1 l0_1.length c0_1)) (ds := []) #[false, false, false, false, false] (by kernel_rfl) rfl rfl ⟨(blk_cell BK309.out 0).trans rfl, (blk_cell BK309.out 1).trans rfl, (blk_cell BK297.out 0).trans rfl, (blk_cell BK297.out 1).trans rfl⟩ (fun hHeld => ?_)
            generalize wc.drew = w32 at HO_310001 BK297 BK309 HB hHeld ⊢
            refine take_ (i := 0) (N := some 39) (v := ?_) (a' := ?_) #[true, false, false, false, false] rfl rfl (by kernel_rfl) (fun _ _ _ h => h) (Or.inl ⟨by rfl, ?_⟩) hHeld ?_ ?_
            rotate_left
            · rintro w' ⟨s0, s1, s2, s3⟩
              go_simp
              with_reducible rfl
            rotate_left
            · simp only [Act.put, List.setIfInBounds_toArray, List.set_cons_zero, List.set_cons_succ, i64_w, i32_w]
              rfl
            refine take_ (i := 1) (N := some 40) (v := ?_) (a' := ?_) #[true, true, false, false, false] rfl rfl (by kernel_rfl) (fun _ _ _ h => h) (Or.inl ⟨by rfl, ?_⟩) hHeld ?_ ?_
            rotate_left
            · rintro w' ⟨s0, s1, s2, s3⟩
              go_simp
              with_reducible rfl
            rotate_left
            · simp only [Act.put, List.setIfInBounds_toArray, List.set_cons_zero, List.set_cons_succ, i64_w, i32_w]
              rfl
            refine one_ (i := 2) (N := some 41) #[true, true, true, false, false] rfl rfl (by kernel_rfl) (by decide) (fun K hK => ?_)
            refine goes_ Try.func22 (by kernel_rfl) rfl #[.agg #[.int .i64 a0_0, .slice A0_1 l0_1.length c0_1]] (by rfl) rfl rfl (by (try simp only [List.map_toArray, List.map_cons, List.map_nil]); first | done | rfl | (simp only [List.length_drop, List.length_take]; rfl)) ?_
            with_reducible refine (laws_toPins.calls kj11 a0_0 _ _ l0_1 t312 t313 _ ?side1 ?side2 A29.out).mono ?_
            (case side1 => repeat (first | exact (Kd.C_below HR0_1.out HB.out) | (with_reducible refine Kd.C_alloc ?_ _) | (with_reducible refine Kd.C_drewN ?_ _) | (with_reducible refine Kd.C_drew ?_)))
            (case side2 => exact HC0_1.out)
            rintro e w33 ⟨v314, rfl, ho0, hb⟩
            refine ⟨_, rfl, ?_⟩
            have n0_ := amk (Kd.S_elder' (by (with_reducible repeat (first | apply Kd.S_alloc | apply Kd.S_drewN | apply Kd.S_drew)); exact HO_310001.out) (Kd.S_base ho0) hb)
            have n1_ := amk (Kd.S_lower (Kd.S_new' ho0 (Kd.S_lt (by (with_reducible repeat (first | apply Kd.S_alloc | apply Kd.S_drewN | apply Kd.S_drew)); exact HO_310001.out))) (below_size (by repeat (first | (with_reducible first | exact HB.out | apply ba_ | apply bn_ | apply bd_ | refine bs_ ?_ GE297.out | refine bs_ ?_ GE309.out) | exact HB.out))))
            have n2_ := amk (blk_below (g := gb297) (o := .cells #[.int .i64 a0_0, .slice A0_1 l0_1.length c0_1] 37 (0, 0)) (by (with_reducible repeat (first | refine kn_ ?_ _ | refine blk_drew ?_ | refine ka_ ?_ _)); exact BK297.out) hb)
            have n3_ := amk (blk_below (g := gb309) (o := .cells #[.int .i64 t305, .slice Ao25 t306.length co25] 41 (0, 0)) (by (with_reducible repeat (first | refine kn_ ?_ _ | refine blk_drew ?_ | refine ka_ ?_ _)); exact BK309.out) hb)
            have n4_ := amk (bp_ (by repeat (first | (with_reducible first | exact HB.out | apply ba_ | apply bn_ | apply bd_ | refine bs_ ?_ GE297.out | refine bs_ ?_ GE309.out) | exact HB.out)) hb)
            clear HO_310001
            clear BK297
            clear BK309
            clear HB
            have HO_310001 := n0_
            have HO315 := n1_
            have BK297 := n2_
            have BK309 := n3_
            have HB := n4_
            clear n0_ n1_ n2_ n3_ n4_
            (try clear hb)
            (try clear hb2)
            (try clear hk)
            (try clear hi)
            (try clear ho0)
            obtain ⟨Ao34, co34, eo34⟩ := Kd.S_slice HO315.out
            (first | subst eo34 | (injection eo34 with f1_ f2_ f3_; have f4_ := f1_.symm; have f5_ := f3_.symm; clear f1_ f2_ f3_; subst f4_; subst f5_))
            refine hK.out _ _ ⟨(blk_cell BK309.out 0).trans rfl, (blk_cell BK309.out 1).trans rfl, (blk_cell BK297.out 0).trans rfl, (blk_cell BK297.out 1).trans rfl⟩ (fun hHeld => ?_)
            clear hK K
            refine norm_ (a' := ?_) ?_ ?_
            rotate_left
            · show Act.put _ (some 41) _ = _
              simp only [Act.put, List.setIfInBounds_toArray, List.set_cons_zero, List.set_cons_succ, i64_w, i32_w]
              rfl
            refine one_ (i := 3) (N := some 42) #[true, true, true, true, false] rfl rfl (by kernel_rfl) (by decide) (fun K hK => ?_)
            refine goes_ Try.func24 (by kernel_rfl) rfl #[.agg #[.int .i64 t305, .slice Ao25 t306.length co25], .agg #[.int .i64 t312, .slice Ao34 t313.length co34]] (by rfl) rfl rfl (by (try simp only [List.map_toArray, List.map_cons, List.map_nil]); first | done | rfl | (simp only [List.length_drop, List.length_take]; rfl)) ?_
            with_reducible refine (laws_eqPins.calls kj11 t305 _ _ t306 t312 _ _ t313 true _ ?side1 ?side2 ?side3 ?side4 A30.out).mono ?_
            (case side1 => repeat (first | exact (Kd.S_reads' HO_310001.out).2.2 | (with_reducible refine Kd.C_alloc ?_ _) | (with_reducible refine Kd.C_drewN ?_ _) | (with_reducible refine Kd.C_drew ?_)))
            (case side2 => exact (Kd.S_reads' HO_310001.out).2.1)
            (case side3 => repeat (first | exact (Kd.S_reads' HO315.out).2.2 | (with_reducible refine Kd.C_alloc ?_ _) | (with_reducible refine Kd.C_drewN ?_ _) | (with_reducible refine Kd.C_drew ?_)))
            (case side4 => exact (Kd.S_reads' HO315.out).2.1)
            rintro e w35 ⟨rfl, hb⟩
            refine ⟨_, rfl, ?_⟩
            have n0_ := amk (Kd.S_below (by (with_reducible repeat (first | apply Kd.S_alloc | apply Kd.S_drewN | apply Kd.S_drew)); exact HO_310001.out) hb)
            have n1_ := amk (Kd.S_below (by (with_reducible repeat (first | apply Kd.S_alloc | apply Kd.S_drewN | apply Kd.S_drew)); exact HO315.out) hb)
            have n2_ := amk (blk_below (g := gb297) (o := .cells #[.int .i64 a0_0, .slice A0_1 l0_1.length c0_1] 37 (0, 0)) (by (with_reducible repeat (first | refine kn_ ?_ _ | refine blk_drew ?_ | refine ka_ ?_ _)); exact BK297.out) hb)
            have n3_ := amk (blk_below (g := gb309) (o := .cells #[.int .i64 t305, .slice Ao25 t306.length co25] 41 (0, 0)) (by (with_reducible repeat (first | refine kn_ ?_ _ | refine blk_drew ?_ | refine ka_ ?_ _)); exact BK309.out) hb)
            have n4_ := amk (bp_ (by repeat (first | (with_reducible first | exact HB.out | apply ba_ | apply bn_ | apply bd_ | refine bs_ ?_ GE297.out | refine bs_ ?_ GE309.out) | exact HB.out)) hb)
            clear HO_310001
            clear HO315
            clear BK297
            clear BK309
            clear HB
            have HO_310001 := n0_
            have HO315 := n1_
            have BK297 := n2_
            have BK309 := n3_
            have HB := n4_
            clear n0_ n1_ n2_ n3_ n4_
            (try clear hb)
            (try clear hb2)
            (try clear hk)
            (try clear hi)
            refine hK.out _ _ ⟨(blk_cell BK309.out 0).trans rfl, (blk_cell BK309.out 1).trans rfl, (blk_cell BK297.out 0).trans rfl, (blk_cell BK297.out 1).trans rfl⟩ (fun hHeld => ?_)
            clear hK K
            refine norm_ (a' := ?_) ?_ ?_
            rotate_left
            · show Act.put _ (some 42) _ = _
              simp only [Act.put, List.setIfInBounds_toArray, List.set_cons_zero, List.set_cons_succ, i64_w, i32_w]
              rfl
            refine pure_ (i := 4) (N := some 43) (v := ?_) (a' := ?_) #[true, true, true, true, true] rfl rfl (by kernel_rfl) (fun _ _ _ h => h) (Or.inl ⟨by rfl, ?_⟩) ?_ ?_
            rotate_left
            · intro w'
              go_simp
              with_reducible rfl
            rotate_left
            · simp only [Act.put, List.setIfInBounds_toArray, List.set_cons_zero, List.set_cons_succ, i64_w, i32_w]
              rfl
            refine done_ (by kernel_rfl) ?_
            try go_wp2
            go_ret
            exact ⟨by first | rfl | (simp [errW_none, errW_some] <;> rfl) | (simp [*, errW_none, errW_some] <;> rfl), by repeat (first | (with_reducible first | exact HB.out | apply ba_ | apply bn_ | apply bd_ | refine bs_ ?_ GE297.out | refine bs_ ?_ GE309.out) | exact HB.out)⟩
          · replace c31 := Bool.eq_false_iff.mpr c31
            subst c31
            have H1 : (some false) = some r := by rw [if_neg (show ¬ (false = true) by decide)] at H; exact H
            clear H
            have H := H1
            clear H1
            obtain rfl := Option.some.inj H
            try go_wp2
            have n0_ := amk (Kd.S_drew HO_310001.out)
            have n1_ := amk (blk_drew BK297.out)
            have n2_ := amk (blk_drew BK309.out)
            have n3_ := amk (bd_ HB.out)
            clear HO_310001
            clear BK297
            clear BK309
            clear HB
            have HO_310001 := n0_
            have BK297 := n1_
            have BK309 := n2_
            have HB := n3_
            clear n0_ n1_ n2_ n3_
            refine start_ (n := 5) (S := fun w' => w'.cell? ⟨gb309, 0, none⟩ = some (.int .i64 t305) ∧ w'.cell? ⟨gb309, 1, none⟩ = some (.slice Ao25 t306.length co25) ∧ w'.cell? ⟨gb297, 0, none⟩ = some (.int .i64 a0_0) ∧ w'.cell? ⟨gb297, 1, none⟩ = some (.slice A0_1 l0_1.length c0_1)) (ds := []) #[false, false, false, false, false] (by kernel_rfl) rfl rfl ⟨(blk_cell BK309.out 0).trans rfl, (blk_cell BK309.out 1).trans rfl, (blk_cell BK297.out 0).trans rfl, (blk_cell BK297.out 1).trans rfl⟩ (fun hHeld => ?_)
            generalize wc.drew = w36 at HO_310001 BK297 BK309 HB hHeld ⊢
            refine take_ (i := 0) (N := some 39) (v := ?_) (a' := ?_) #[true, false, false, false, false] rfl rfl (by kernel_rfl) (fun _ _ _ h => h) (Or.inl ⟨by rfl, ?_⟩) hHeld ?_ ?_
            rotate_left
            · rintro w' ⟨s0, s1, s2, s3⟩
              go_simp
              with_reducible rfl
            rotate_left
            · simp only [Act.put, List.setIfInBounds_toArray, List.set_cons_zero, List.set_cons_succ, i64_w, i32_w]
              rfl
            refine take_ (i := 1) (N := some 40) (v := ?_) (a' := ?_) #[true, true, false, false, false] rfl rfl (by kernel_rfl) (fun _ _ _ h => h) (Or.inl ⟨by rfl, ?_⟩) hHeld ?_ ?_
            rotate_left
            · rintro w' ⟨s0, s1, s2, s3⟩
              go_simp
              with_reducible rfl
            rotate_left
            · simp only [Act.put, List.setIfInBounds_toArray, List.set_cons_zero, List.set_cons_succ, i64_w, i32_w]
              rfl
            refine one_ (i := 2) (N := some 41) #[true, true, true, false, false] rfl rfl (by kernel_rfl) (by decide) (fun K hK => ?_)
            refine goes_ Try.func22 (by kernel_rfl) rfl #[.agg #[.int .i64 a0_0, .slice A0_1 l0_1.length c0_1]] (by rfl) rfl rfl (by (try simp only [List.map_toArray, List.map_cons, List.map_nil]); first | done | rfl | (simp only [List.length_drop, List.length_take]; rfl)) ?_
            with_reducible refine (laws_toPins.calls kj11 a0_0 _ _ l0_1 t312 t313 _ ?side1 ?side2 A29.out).mono ?_
            (case side1 => repeat (first | exact (Kd.C_below HR0_1.out HB.out) | (with_reducible refine Kd.C_alloc ?_ _) | (with_reducible refine Kd.C_drewN ?_ _) | (with_reducible refine Kd.C_drew ?_)))
            (case side2 => exact HC0_1.out)
            rintro e w37 ⟨v314, rfl, ho0, hb⟩
            refine ⟨_, rfl, ?_⟩
            have n0_ := amk (Kd.S_elder' (by (with_reducible repeat (first | apply Kd.S_alloc | apply Kd.S_drewN | apply Kd.S_drew)); exact HO_310001.out) (Kd.S_base ho0) hb)
            have n1_ := amk (Kd.S_lower (Kd.S_new' ho0 (Kd.S_lt (by (with_reducible repeat (first | apply Kd.S_alloc | apply Kd.S_drewN | apply Kd.S_drew)); exact HO_310001.out))) (below_size (by repeat (first | (with_reducible first | exact HB.out | apply ba_ | apply bn_ | apply bd_ | refine bs_ ?_ GE297.out | refine bs_ ?_ GE309.out) | exact HB.out))))
            have n2_ := amk (blk_below (g := gb297) (o := .cells #[.int .i64 a0_0, .slice A0_1 l0_1.length c0_1] 37 (0, 0)) (by (with_reducible repeat (first | refine kn_ ?_ _ | refine blk_drew ?_ | refine ka_ ?_ _)); exact BK297.out) hb)
            have n3_ := amk (blk_below (g := gb309) (o := .cells #[.int .i64 t305, .slice Ao25 t306.length co25] 41 (0, 0)) (by (with_reducible repeat (first | refine kn_ ?_ _ | refine blk_drew ?_ | refine ka_ ?_ _)); exact BK309.out) hb)
            have n4_ := amk (bp_ (by repeat (first | (with_reducible first | exact HB.out | apply ba_ | apply bn_ | apply bd_ | refine bs_ ?_ GE297.out | refine bs_ ?_ GE309.out) | exact HB.out)) hb)
            clear HO_310001
            clear BK297
            clear BK309
            clear HB
            have HO_310001 := n0_
            have HO315 := n1_
            have BK297 := n2_
            have BK309 := n3_
            have HB := n4_
            clear n0_ n1_ n2_ n3_ n4_
            (try clear hb)
            (try clear hb2)
            (try clear hk)
            (try clear hi)
            (try clear ho0)
            obtain ⟨Ao38, co38, eo38⟩ := Kd.S_slice HO315.out
            (first | subst eo38 | (injection eo38 with f1_ f2_ f3_; have f4_ := f1_.symm; have f5_ := f3_.symm; clear f1_ f2_ f3_; subst f4_; subst f5_))
            refine hK.out _ _ ⟨(blk_cell BK309.out 0).trans rfl, (blk_cell BK309.out 1).trans rfl, (blk_cell BK297.out 0).trans rfl, (blk_cell BK297.out 1).trans rfl⟩ (fun hHeld => ?_)
            clear hK K
            refine norm_ (a' := ?_) ?_ ?_
            rotate_left
            · show Act.put _ (some 41) _ = _
              simp only [Act.put, List.setIfInBounds_toArray, List.set_cons_zero, List.set_cons_succ, i64_w, i32_w]
              rfl
            refine one_ (i := 3) (N := some 42) #[true, true, true, true, false] rfl rfl (by kernel_rfl) (by decide) (fun K hK => ?_)
            refine goes_ Try.func24 (by kernel_rfl) rfl #[.agg #[.int .i64 t305, .slice Ao25 t306.length co25], .agg #[.int .i64 t312, .slice Ao38 t313.length co38]] (by rfl) rfl rfl (by (try simp only [List.map_toArray, List.map_cons, List.map_nil]); first | done | rfl | (simp only [List.length_drop, List.length_take]; rfl)) ?_
            with_reducible refine (laws_eqPins.calls kj11 t305 _ _ t306 t312 _ _ t313 false _ ?side1 ?side2 ?side3 ?side4 A30.out).mono ?_
            (case side1 => repeat (first | exact (Kd.S_reads' HO_310001.out).2.2 | (with_reducible refine Kd.C_alloc ?_ _) | (with_reducible refine Kd.C_drewN ?_ _) | (with_reducible refine Kd.C_drew ?_)))
            (case side2 => exact (Kd.S_reads' HO_310001.out).2.1)
            (case side3 => repeat (first | exact (Kd.S_reads' HO315.out).2.2 | (with_reducible refine Kd.C_alloc ?_ _) | (with_reducible refine Kd.C_drewN ?_ _) | (with_reducible refine Kd.C_drew ?_)))
            (case side4 => exact (Kd.S_reads' HO315.out).2.1)
            rintro e w39 ⟨rfl, hb⟩
            refine ⟨_, rfl, ?_⟩
            have n0_ := amk (Kd.S_below (by (with_reducible repeat (first | apply Kd.S_alloc | apply Kd.S_drewN | apply Kd.S_drew)); exact HO_310001.out) hb)
            have n1_ := amk (Kd.S_below (by (with_reducible repeat (first | apply Kd.S_alloc | apply Kd.S_drewN | apply Kd.S_drew)); exact HO315.out) hb)
            have n2_ := amk (blk_below (g := gb297) (o := .cells #[.int .i64 a0_0, .slice A0_1 l0_1.length c0_1] 37 (0, 0)) (by (with_reducible repeat (first | refine kn_ ?_ _ | refine blk_drew ?_ | refine ka_ ?_ _)); exact BK297.out) hb)
            have n3_ := amk (blk_below (g := gb309) (o := .cells #[.int .i64 t305, .slice Ao25 t306.length co25] 41 (0, 0)) (by (with_reducible repeat (first | refine kn_ ?_ _ | refine blk_drew ?_ | refine ka_ ?_ _)); exact BK309.out) hb)
            have n4_ := amk (bp_ (by repeat (first | (with_reducible first | exact HB.out | apply ba_ | apply bn_ | apply bd_ | refine bs_ ?_ GE297.out | refine bs_ ?_ GE309.out) | exact HB.out)) hb)
            clear HO_310001
            clear HO315
            clear BK297
            clear BK309
            clear HB
            have HO_310001 := n0_
            have HO315 := n1_
            have BK297 := n2_
            have BK309 := n3_
            have HB := n4_
            clear n0_ n1_ n2_ n3_ n4_
            (try clear hb)
            (try clear hb2)
            (try clear hk)
            (try clear hi)
            refine hK.out _ _ ⟨(blk_cell BK309.out 0).trans rfl, (blk_cell BK309.out 1).trans rfl, (blk_cell BK297.out 0).trans rfl, (blk_cell BK297.out 1).trans rfl⟩ (fun hHeld => ?_)
            clear hK K
            refine norm_ (a' := ?_) ?_ ?_
            rotate_left
            · show Act.put _ (some 42) _ = _
              simp only [Act.put, List.setIfInBounds_toArray, List.set_cons_zero, List.set_cons_succ, i64_w, i32_w]
              rfl
            refine pure_ (i := 4) (N := some 43) (v := ?_) (a' := ?_) #[true, true, true, true, true] rfl rfl (by kernel_rfl) (fun _ _ _ h => h) (Or.inl ⟨by rfl, ?_⟩) ?_ ?_
            rotate_left
            · intro w'
              go_simp
              with_reducible rfl
            rotate_left
            · simp only [Act.put, List.setIfInBounds_toArray, List.set_cons_zero, List.set_cons_succ, i64_w, i32_w]
              rfl
            refine done_ (by kernel_rfl) ?_
            try go_wp2
            go_ret
            exact ⟨by first | rfl | (simp [errW_none, errW_some] <;> rfl) | (simp [*, errW_none, errW_some] <;> rfl), by repeat (first | (with_reducible first | exact HB.out | apply ba_ | apply bn_ | apply bd_ | refine bs_ ?_ GE297.out | refine bs_ ?_ GE309.out) | exact HB.out)⟩
/-! Joined pins, over lists alone. -/
def rngFrom (s m : Nat) : List Int := (List.range' s m).map fun (d : Nat) => (d : Int)
theorem rngFrom_zero (s : Nat) : rngFrom s 0 = [] := rfl
theorem rngFrom_succ (s m : Nat) : rngFrom s (m + 1) = (s : Int) :: rngFrom (s + 1) m := by unfold rngFrom; rw [List.range'_succ, List.map_cons]
theorem rngFrom_len (s m : Nat) : (rngFrom s m).length = m := by unfold rngFrom; simp
theorem rngFrom_mem {s m : Nat} {x : Int} (h : x ∈ rngFrom s m) : (s : Int) ≤ x ∧ x < s + m := by
  unfold rngFrom at h
  obtain ⟨d, hd, rfl⟩ := List.mem_map.mp h
  rw [List.mem_range'_1] at hd
  omega
section
/-! What a readable argument holds, told by kinds: the bridge from a statement's reading to the print's words. -/
open Go.WideShapes in
def Opens {α : Type} (P : Program) (t : TypeId) (d : Kd α) (V : α → Prop) : Prop :=
  ∀ (H : Type) (enc : TypeId × Value → H) (w : World) (base : Nat) (spare : Nat → Bool) (held : Bool) (fuel : Nat) (cs : List Value) (x : DataW H × List MemPlace),
    DataW.trod enc P w base spare held fuel t cs = some x → ∃ a : α, d.K w a cs ∧ V a
def IntV (a : Int) : Prop := -9223372036854775808 ≤ a ∧ a ≤ 9223372036854775807
def ListV {α : Type} (V : α → Prop) (l : List α) : Prop := l.length ≤ 9223372036854775807 ∧ ∀ x ∈ l, V x
theorem opens_int {P : Program} {t : TypeId} (ht : P.underlying t = some (.int .i64)) : Opens P t (Kd.int .i64) IntV := by
  intro H enc w base spare held fuel cs x h
  obtain ⟨n, rfl, _, hw⟩ := DataW.trod_int ht h
  refine ⟨n, rfl, ?_⟩
  have hb : (IntKind.i64.min ≤ n ∧ n ≤ IntKind.i64.max) := by simpa [Lit.wf] using hw
  have e1 : IntKind.i64.min = -9223372036854775808 := rfl
  have e2 : IntKind.i64.max = 9223372036854775807 := rfl
  rw [e1, e2] at hb
  unfold IntV
  omega
theorem cells_list {w : World} {base : Nat} {a : Addr} {n : Nat} {cs : List Value} (h : w.cells? base a n = some cs) : cs.length = n ∧ ∀ i u, cs[i]? = some u → w.cell? (a.add i) = some u := by
  unfold World.cells? at h
  split at h
  · have hl := mapM_some_length h
    refine ⟨by simpa using hl, fun i u hu => ?_⟩
    have hi : i < n := by
      have := (List.getElem?_eq_some_iff.1 hu).1
      rw [hl] at this; simpa using this
    have := mapM_some_get h i i (by simp [hi])
    rw [hu] at this
    exact this
  · cases h
theorem opens_slice {α : Type} {P : Program} {t e : TypeId} {d : Kd α} {V : α → Prop} (ht : P.underlying t = some (.slice e)) (hd : Opens P e d V) (hsz : P.cellsOf e = d.sz) : Opens P t (Kd.slice e d) (ListV V) := by
  intro H enc w base spare held fuel cs x h
  rcases Go.Deep.open_slice ht h with ⟨rfl, _⟩ | ⟨a, len, cap, m, n, D, Pl, rfl, _, hl, hm, hmm, _, hel⟩
  · exact ⟨[], ⟨none, 0, rfl, Nat.le_refl _, ⟨rfl, by simp, fun h0 => absurd h0 (by simp)⟩⟩, ⟨by simp, fun x hx => by simp at hx⟩⟩
  · have hle : len ≤ m := by rw [hmm]; split <;> omega
    have each : ∀ i : Nat, ∃ a' : Option α, i < len → ∃ z cs', a' = some z ∧ V z ∧ d.K w z cs' ∧ ∀ j u, cs'[j]? = some u → w.cell? (a.add (i * d.sz + j)) = some u := by
      intro i
      by_cases hi : i < len
      · obtain ⟨cs', h1, h2⟩ := hel i (by omega)
        obtain ⟨z, hK, hV⟩ := hd H enc w base spare held n cs' _ h2
        refine ⟨some z, fun _ => ⟨z, cs', rfl, hV, hK, fun j u hu => ?_⟩⟩
        obtain ⟨_, hc⟩ := cells_list h1
        have := hc j u hu
        rw [Go.Deep.add_add, hsz] at this
        exact this
      · exact ⟨none, fun h0 => absurd h0 hi⟩
    have ⟨f, hf⟩ := Classical.axiomOfChoice each
    have hz : ∀ i, i < len → ∃ z, f i = some z ∧ V z ∧ ∃ cs', d.K w z cs' ∧ ∀ j u, cs'[j]? = some u → w.cell? (a.add (i * d.sz + j)) = some u := by
      intro i hi
      obtain ⟨z, cs', h1, h2, h3, h4⟩ := hf i hi
      exact ⟨z, h1, h2, cs', h3, h4⟩
    have hlist : ∃ l : List α, l.length = len ∧ ∀ i, i < len → f i = l[i]? := by
      clear hf each hel hmm hle
      have : ∀ n, n ≤ len → ∃ l : List α, l.length = n ∧ ∀ i, i < n → f i = l[i]? := by
        intro n
        induction n with
        | zero => intro _; exact ⟨[], rfl, fun i hi => by omega⟩
        | succ n ih =>
          intro hn
          obtain ⟨l, hl1, hl2⟩ := ih (by omega)
          obtain ⟨z, h1, _⟩ := hz n (by omega)
          refine ⟨l ++ [z], by simp [hl1], fun i hi => ?_⟩
          by_cases e : i < n
          · rw [List.getElem?_append_left (by omega)]; exact hl2 i e
          · obtain rfl : i = n := by omega
            rw [h1, ← hl1]; simp
      exact this len (Nat.le_refl _)
    obtain ⟨l, hlen, hget⟩ := hlist
    have hV : ∀ x ∈ l, V x := by
      intro x hx
      obtain ⟨i, hi, rfl⟩ := List.getElem_of_mem hx
      obtain ⟨z, h1, h2, _⟩ := hz i (by omega)
      have h3 := hget i (by omega)
      rw [h1, List.getElem?_eq_getElem hi] at h3
      injection h3 with h3
      rw [← h3]; exact h2
    unfold maxLen at hm
    subst hlen
    refine ⟨l, ⟨some a, cap, rfl, hl, ⟨rfl, by omega, fun _ => ⟨a, rfl, fun j p hp => ?_⟩⟩⟩, ⟨by omega, hV⟩⟩
    have hj : j < l.length := (List.getElem?_eq_some_iff.1 hp).1
    obtain ⟨z, h1, _, cs', h3, h4⟩ := hz j hj
    have h5 := hget j hj
    rw [h1, hp] at h5
    injection h5 with h5
    subst h5
    exact ⟨cs', d.K_len h3, h3, h4⟩
theorem opens_pair {α β : Type} {P : Program} {t : TypeId} {f0 f1 : Field} {d0 : Kd α} {d1 : Kd β} {V0 : α → Prop} {V1 : β → Prop} (ht : P.underlying t = some (.struct #[f0, f1]))
    (h0 : Opens P f0.type d0 V0) (h1 : Opens P f1.type d1 V1) (o0 : f0.offset = 0) (o1 : f1.offset = d0.sz) (z0 : P.cellsOf f0.type = d0.sz) (z1 : P.cellsOf f1.type = d1.sz) (zt : P.cellsOf t = d0.sz + d1.sz) :
    Opens P t (Kd.pair d0 d1) (fun x => V0 x.1 ∧ V1 x.2) := by
  intro H enc w base spare held fuel cs x h
  obtain ⟨y0, y1, n, _, hl, g0, g1⟩ := ChangeShapes.trod_struct2 ht h
  rw [o0, z0, List.drop_zero] at g0
  rw [o1, z1] at g1
  obtain ⟨a, ka, va⟩ := h0 H enc w base spare held n _ _ g0
  obtain ⟨b, kb, vb⟩ := h1 H enc w base spare held n _ _ g1
  refine ⟨(a, b), ⟨_, _, ?_, ka, kb⟩, va, vb⟩
  rw [List.take_of_length_le (l := cs.drop d0.sz) (by rw [List.length_drop, hl, zt]; omega), List.take_append_drop]
theorem opens_iso {α β : Type} {P : Program} {t : TypeId} {d : Kd α} {V : α → Prop} (h : Opens P t d V) (f : β → α) (g : α → β) (e : ∀ a, f (g a) = a) : Opens P t (Kd.iso d f) (fun x => V (f x)) := by
  intro H enc w base spare held fuel cs x hx
  obtain ⟨a, ka, va⟩ := h H enc w base spare held fuel cs x hx
  exact ⟨g a, by show d.K w (f (g a)) cs; rw [e]; exact ka, by show V (f (g a)); rw [e]; exact va⟩
section
variable {H : Type} {enc : TypeId × Value → H} {P : Program} {w : World} {base : Nat} {spare : Nat → Bool} {held : Bool} {r : Reach} {b0 : Nat} {t : TypeId} {v : Value} {x : DataW H} {p : List MemPlace}
theorem arg_struct {α : Type} {d : Kd α} {V : α → Prop} (ho : Opens P t d V) {fs : Array Field} (hs : P.underlying t = some (.struct fs)) (hv : Value.okWide P w r b0 t v) (h : DataW.Trod enc P w base spare held t v x p) :
    ∃ a cs, v = .agg (List.toArray cs) ∧ d.K w a cs ∧ V a := by
  obtain ⟨cs, rfl, _⟩ := WideShapes.okWide_struct hs hv
  obtain ⟨fuel, hf⟩ := h
  obtain ⟨a, hk, hV⟩ := ho H enc w base spare held fuel _ _ hf
  exact ⟨a, cs.toList, by simp, by simpa [Value.cells] using hk, hV⟩
theorem arg_int (ht : P.underlying t = some (.int .i64)) (hv : Value.okWide P w r b0 t v) (h : DataW.Trod enc P w base spare held t v x p) : ∃ a, v = .int .i64 a ∧ IntV a := by
  obtain ⟨a, rfl, _, _, hw⟩ := ChangeShapes.open_int ht hv h
  have hb : (IntKind.i64.min ≤ a ∧ a ≤ IntKind.i64.max) := by simpa [Lit.wf] using hw
  exact ⟨a, rfl, hb.1, hb.2⟩
theorem arg_lt (h : DataW.Trod enc P w base spare held t v x p) : ∀ y ∈ p, y.block < w.heap.size := by
  obtain ⟨m, hm⟩ := h
  exact DataW.trod_lt m _ _ _ hm
end
end
/-! A row without a depth: what is left is the row's filter; a rising row is told by what it contains. -/
theorem risF_cons {n q x : Int} {l : List Int} (h : risF n q (x :: l) = true) : q < x ∧ x ≤ n - 1 ∧ risF n x l = true := by
  unfold risF at h
  rw [Bool.and_eq_true, Bool.and_eq_true, decide_eq_true_eq, decide_eq_true_eq] at h
  exact ⟨h.1.1, h.1.2, h.2⟩
theorem risF_mk {n q x : Int} {l : List Int} (h1 : q < x) (h2 : x ≤ n - 1) (h3 : risF n x l = true) : risF n q (x :: l) = true := by
  unfold risF
  rw [decide_eq_true h1, decide_eq_true h2, h3]; rfl
theorem ris_not {n q d : Int} {l : List Int} (h : risF n q l = true) (hd : d ≤ q) : l.contains d = false := by
  cases e : l.contains d with
  | false => rfl
  | true => have := risF_mem h d (List.contains_iff_mem.mp e); omega
theorem ris_self : ∀ (m s : Nat) (l : List Int), risF ((s + m : Nat) : Int) ((s : Int) - 1) l = true → (rngFrom s m).filter (fun d => l.contains d) = l := by
  intro m
  induction m with
  | zero =>
    intro s l h
    cases l with
    | nil => rfl
    | cons x t => obtain ⟨h1, h2, _⟩ := risF_cons h; omega
  | succ m ih =>
    intro s l h
    rw [rngFrom_succ, List.filter_cons]
    have hsm : ((s + (m + 1) : Nat) : Int) = ((s + 1 + m : Nat) : Int) := by omega
    have hs1 : (((s + 1 : Nat) : Int) - 1) = (s : Int) := by omega
    cases l with
    | nil =>
      rw [if_neg (by simp)]
      exact ih (s + 1) [] rfl
    | cons x t =>
      obtain ⟨h1, h2, h3⟩ := risF_cons h
      by_cases e : x = (s : Int)
      · subst e
        rw [if_pos (by simp)]
        have hi := ih (s + 1) t (by rw [← hsm, hs1]; exact h3)
        have hcong : (rngFrom (s + 1) m).filter (fun d => ((s : Int) :: t).contains d) = (rngFrom (s + 1) m).filter (fun d => t.contains d) := by
          apply List.filter_congr
          intro d hd
          have := (rngFrom_mem hd).1
          rw [List.contains_cons, show (d == (s : Int)) = false from beq_eq_false_iff_ne.mpr (by omega), Bool.false_or]
        rw [hcong, hi]
      · rw [if_neg (by rw [ris_not (risF_mk (q := (s : Int)) (by omega) h2 h3) (Int.le_refl _)]; simp)]
        exact ih (s + 1) (x :: t) (by rw [← hsm, hs1]; exact risF_mk (by omega) h2 h3)
/-! Sums over lists; ways along rows, forward and backward. -/
def sumI (l : List Int) (f : Int → Int) : Int := l.foldr (fun x a => f x + a) 0
theorem sumI_nil (f : Int → Int) : sumI [] f = 0 := rfl
theorem sumI_cons (x : Int) (l : List Int) (f : Int → Int) : sumI (x :: l) f = f x + sumI l f := rfl
theorem sumI_congr {l : List Int} {f g : Int → Int} (h : ∀ x ∈ l, f x = g x) : sumI l f = sumI l g := by
  induction l with
  | nil => rfl
  | cons a t ih =>
    rw [sumI_cons, sumI_cons, h a List.mem_cons_self, ih (fun x hx => h x (List.mem_cons_of_mem _ hx))]
theorem sumI_zero (l : List Int) : sumI l (fun _ => 0) = 0 := by
  induction l with
  | nil => rfl
  | cons a t ih => rw [sumI_cons, ih]; rfl
theorem sumI_add (l : List Int) (f g : Int → Int) : sumI l (fun x => f x + g x) = sumI l f + sumI l g := by
  induction l with
  | nil => rfl
  | cons a t ih => rw [sumI_cons, sumI_cons, sumI_cons, ih]; omega
theorem sumI_mulr (l : List Int) (f : Int → Int) (c : Int) : sumI l f * c = sumI l (fun x => f x * c) := by
  induction l with
  | nil => exact Int.zero_mul c
  | cons a t ih => rw [sumI_cons, sumI_cons, Int.add_mul, ih]
theorem sumI_mull (l : List Int) (f : Int → Int) (c : Int) : c * sumI l f = sumI l (fun x => c * f x) := by
  induction l with
  | nil => exact Int.mul_zero c
  | cons a t ih => rw [sumI_cons, sumI_cons, Int.mul_add, ih]
theorem sumI_swap (l : List Int) (m : List Int) (f : Int → Int → Int) : sumI l (fun x => sumI m (f x)) = sumI m (fun y => sumI l (fun x => f x y)) := by
  induction l with
  | nil => rw [sumI_nil]; exact (sumI_zero m).symm
  | cons a t ih =>
    rw [sumI_cons, ih, ← sumI_add]
    exact sumI_congr (fun y _ => rfl)
theorem sumI_filter (l : List Int) (p : Int → Bool) (f : Int → Int) : sumI l (fun x => if p x = true then f x else 0) = sumI (l.filter p) f := by
  induction l with
  | nil => rfl
  | cons a t ih =>
    rw [sumI_cons, ih, List.filter_cons]
    by_cases e : p a = true
    · rw [if_pos e, if_pos e, sumI_cons]
    · rw [if_neg e, if_neg e, Int.zero_add]
theorem sumI_single (f : Int → Int) (d : Int) : ∀ (m s : Nat), sumI (rngFrom s m) (fun e => if d = e then f e else 0) = if (s : Int) ≤ d ∧ d < (s : Int) + m then f d else 0 := by
  intro m
  induction m with
  | zero => intro s; rw [rngFrom_zero, sumI_nil, if_neg (by omega)]
  | succ m ih =>
    intro s
    rw [rngFrom_succ, sumI_cons, ih (s + 1)]
    by_cases e : d = (s : Int)
    · rw [if_pos e, if_neg (by omega), if_pos (by omega), Int.add_zero, e]
    · rw [if_neg e, Int.zero_add]
      by_cases h : ((s + 1 : Nat) : Int) ≤ d ∧ d < ((s + 1 : Nat) : Int) + m
      · rw [if_pos h, if_pos (by omega)]
      · rw [if_neg h, if_neg (by omega)]
def distI (d e : Int) : Int := if d ≤ e then e - d else d - e
def near (q d e : Int) : Bool := decide (distI d e ≤ q)
theorem dist_comm (d e : Int) : distI d e = distI e d := by
  unfold distI
  by_cases h : d ≤ e
  · rw [if_pos h]
    by_cases h2 : e ≤ d
    · rw [if_pos h2]; omega
    · rw [if_neg h2]
  · rw [if_neg h, if_pos (by omega)]
theorem near_comm (q d e : Int) : near q d e = near q e d := by unfold near; rw [dist_comm]
/-- Smooth ways on from a depth. -/
def onW (q : Int) : List (List Int) → Int → Int
  | [], _ => 1
  | r :: t, d => sumI r (fun e => if near q d e = true then onW q t e else 0)
/-- One place more, forward. -/
def fwT (q : Int) (D : Nat) (w : Int → Int) (d : Int) : Int := sumI (rngFrom 0 D) (fun e => if near q d e = true then w e else 0)
def fwS (q : Int) (D : Nat) (w : Int → Int) (r : List Int) (e : Int) : Int := sumI r (fun d => if d = e then fwT q D w e else 0)
def fwA (q : Int) (D : Nat) : List (List Int) → (Int → Int) → Int → Int
  | [], w => w
  | r :: t, w => fwA q D t (fwS q D w r)
theorem fw_on (q : Int) (D : Nat) : ∀ (t : List (List Int)) (w : Int → Int), (∀ r ∈ t, ∀ x ∈ r, 0 ≤ x ∧ x < (D : Int)) → sumI (rngFrom 0 D) (fwA q D t w) = sumI (rngFrom 0 D) (fun e => w e * onW q t e) := by
  intro t
  induction t with
  | nil => intro w _; exact sumI_congr (fun e _ => (Int.mul_one _).symm)
  | cons r t ih =>
    intro w h
    have hr := h r List.mem_cons_self
    show sumI (rngFrom 0 D) (fwA q D t (fwS q D w r)) = _
    rw [ih _ (fun x hx => h x (List.mem_cons_of_mem _ hx))]
    have e1 : sumI (rngFrom 0 D) (fun e => fwS q D w r e * onW q t e) = sumI r (fun d => fwT q D w d * onW q t d) := by
      have : sumI (rngFrom 0 D) (fun e => fwS q D w r e * onW q t e) = sumI (rngFrom 0 D) (fun e => sumI r (fun d => if d = e then fwT q D w e * onW q t e else 0)) := by
        refine sumI_congr (fun e _ => ?_)
        unfold fwS
        rw [sumI_mulr]
        refine sumI_congr (fun d _ => ?_)
        by_cases h : d = e
        · rw [if_pos h, if_pos h]
        · rw [if_neg h, if_neg h, Int.zero_mul]
      rw [this, sumI_swap]
      refine sumI_congr (fun d hd => ?_)
      rw [sumI_single (fun e => fwT q D w e * onW q t e) d D 0, if_pos (by have := hr d hd; omega)]
    rw [e1]
    have e2 : sumI r (fun d => fwT q D w d * onW q t d) = sumI r (fun d => sumI (rngFrom 0 D) (fun e => (if near q d e = true then w e else 0) * onW q t d)) := by
      refine sumI_congr (fun d _ => ?_)
      unfold fwT
      exact sumI_mulr _ _ _
    rw [e2, sumI_swap]
    refine sumI_congr (fun e _ => ?_)
    show _ = w e * sumI r (fun d => if near q e d = true then onW q t d else 0)
    rw [sumI_mull]
    refine sumI_congr (fun d _ => ?_)
    rw [near_comm q e d]
    by_cases h : near q d e = true
    · rw [if_pos h, if_pos h]
    · rw [if_neg h, if_neg h, Int.zero_mul, Int.mul_zero]
theorem fw_start (q : Int) (D : Nat) (r : List Int) (t : List (List Int)) (hr : risF (D : Int) (-1) r = true) : sumI (rngFrom 0 D) (fun e => (if r.contains e = true then 1 else 0) * onW q t e) = sumI r (onW q t) := by
  have h1 : sumI (rngFrom 0 D) (fun e => (if r.contains e = true then 1 else 0) * onW q t e) = sumI (rngFrom 0 D) (fun e => if r.contains e = true then onW q t e else 0) := by
    refine sumI_congr (fun e _ => ?_)
    by_cases h : r.contains e = true
    · rw [if_pos h, if_pos h, Int.one_mul]
    · rw [if_neg h, if_neg h, Int.zero_mul]
  rw [h1, sumI_filter, ris_self D 0 r (by rw [show ((0 + D : Nat) : Int) = (D : Int) by omega]; exact hr)]
/-- Numbers laid in a row, wrapped. -/
def repW (D : Nat) (w : Int → Int) : List Int := (rngFrom 0 D).map fun d => wrap64 (w d)
def upW (w : Int → Int) (d v : Int) : Int → Int := fun e => if e = d then v else w e
theorem repW_len (D : Nat) (w : Int → Int) : (repW D w).length = D := by unfold repW; rw [List.length_map, rngFrom_len]
theorem repW_get {D i : Nat} {w : Int → Int} (h : i < (repW D w).length) : (repW D w)[i] = wrap64 (w (i : Int)) := by simp [repW, rngFrom]
theorem repW_congr {D : Nat} {w v : Int → Int} (h : ∀ e, 0 ≤ e → e < (D : Int) → w e = v e) : repW D w = repW D v := by
  unfold repW
  apply List.map_congr_left
  intro d hd
  have := rngFrom_mem hd
  rw [h d (by omega) (by omega)]
theorem repW_rd (D : Nat) (w : Int → Int) (d : Int) (h0 : 0 ≤ d) (h1 : d < (D : Int)) : rd (repW D w) d = wrap64 (w d) := by
  have hl : d.toNat < (repW D w).length := by rw [repW_len]; omega
  rw [rd_at hl, repW_get hl, Int.toNat_of_nonneg h0]
theorem repW_set (D : Nat) (w : Int → Int) (d v : Int) (h0 : 0 ≤ d) : (repW D w).set d.toNat (wrap64 v) = repW D (upW w d v) := by
  apply List.ext_getElem
  · rw [List.length_set, repW_len, repW_len]
  · intro i h1 h2
    rw [List.getElem_set, repW_get h2]
    unfold upW
    by_cases e : d.toNat = i
    · rw [if_pos e, if_pos (by omega)]
    · rw [if_neg e, if_neg (by omega), repW_get]
theorem repW_const (D : Nat) (c : Int) (h : wrap64 c = c) : List.replicate D c = repW D (fun _ => c) := by
  apply List.ext_getElem
  · rw [List.length_replicate, repW_len]
  · intro i h1 h2
    rw [List.getElem_replicate, repW_get h2, h]
theorem upW_up (w : Int → Int) (d v u : Int) : upW (upW w d v) d u = upW w d u := by
  funext e
  unfold upW
  by_cases h : e = d
  · rw [if_pos h, if_pos h]
  · rw [if_neg h, if_neg h, if_neg h]
theorem upW_self (w : Int → Int) (d : Int) : upW w d (w d) = w := by
  funext e
  unfold upW
  by_cases h : e = d
  · rw [if_pos h, h]
  · rw [if_neg h]
theorem wr_add (a b : Int) : wrap64 (wrap64 a + wrap64 b) = wrap64 (a + b) := by unfold wrap64; omega
theorem wr_lit0 : wrap64 0 = 0 := w64 (by omega) (by omega)
theorem wr_lit1 : wrap64 1 = 1 := w64 (by omega) (by omega)
/-! ### laws_eqPinsS: function 38 -/
/-! ### laws_szPinsS: function 34 -/
/-! ### laws_toPinsS: function 36 -/
/-! The statements' own helpers on rows and pins: what they come to. -/
theorem rd_row {xs : List (List Int)} {i : Nat} (h : i < xs.length) : rd_L5 xs (i : Nat) = xs[i] := by unfold rd_L5; simp [List.getD, h]
theorem rd_int {xs : List Int} {i : Nat} (h : i < xs.length) : rd xs (i : Nat) = xs[i] := by rw [rd_at (by simpa using h)]; simp
/-- The lengths are numbers of Go. -/
def RowsV (x : List (List Int)) : Prop := x.length ≤ 9223372036854775807 ∧ ∀ r ∈ x, r.length ≤ 9223372036854775807
/-- No longer than a million. -/
def RowsM (x : List (List Int)) : Prop := x.length ≤ 1048576 ∧ ∀ r ∈ x, r.length ≤ 1048576
theorem RowsM.v {x : List (List Int)} (h : RowsM x) : RowsV x := ⟨by have := h.1; omega, fun r hr => by have := h.2 r hr; omega⟩
theorem laws_szIntS.is (l : List Int) (a : Int) (h0 : 0 ≤ a) (h1 : a ≤ 1048576) (hl : l.length ≤ 9223372036854775807) : laws_szIntS.f l a = some (if (l.length : Int) ≤ a then a - l.length else -1) := by
  unfold laws_szIntS.f
  rw [w64 (x := a - (l.length : Int)) (by omega) (by omega)]
  by_cases h : (l.length : Int) ≤ a
  · rw [if_neg (by omega), if_pos h]
  · rw [if_pos (by omega), if_neg h]
theorem laws_szIntSS.lev (l : List (List Int)) (hl : RowsV l) : ∀ (m i : Nat) (a : Int), i + m = l.length → 0 ≤ a → a ≤ 1048576 → ∃ r, r ≤ a ∧ Ev (fun k => laws_szIntSS.l0 k l a (i : Nat)) r ∧ (0 ≤ r → ∀ x ∈ l.drop i, (x.length : Int) ≤ 1048576) := by
  have hl1 := hl.1
  intro m
  induction m with
  | zero =>
    intro i a hi h0 h1
    refine ⟨a, Int.le_refl _, Ev.step (fun k => rfl) (Ev.no (by omega) (Ev.now _)), fun _ x hx => ?_⟩
    rw [List.drop_eq_nil_of_le (by omega)] at hx
    simp at hx
  | succ m ih =>
    intro i a hi h0 h1
    have hlt : i < l.length := by omega
    have hx := hl.2 l[i] (List.getElem_mem hlt)
    by_cases h : (l[i].length : Int) ≤ a
    · obtain ⟨r, hr, he, hf⟩ := ih (i + 1) (a - l[i].length) (by omega) (by omega) (by omega)
      refine ⟨r, by omega, Ev.step (fun k => rfl) (Ev.yes (by omega) (Ev.yes (by omega) ?_)), fun hr0 x hx => ?_⟩
      · rw [rd_row hlt]
        refine Ev.bindc (laws_szIntS.is _ _ h0 h1 hx) ?_
        rw [if_pos h, w64 (x := (i : Int) + 1) (by omega) (by omega)]
        exact Ev.no (by omega) he
      · rw [List.drop_eq_getElem_cons hlt] at hx
        rcases List.mem_cons.mp hx with rfl | hx
        · omega
        · exact hf hr0 x hx
    · refine ⟨-1, by omega, Ev.step (fun k => rfl) (Ev.yes (by omega) (Ev.yes (by omega) ?_)), fun hr0 => by omega⟩
      rw [rd_row hlt]
      refine Ev.bindc (laws_szIntS.is _ _ h0 h1 hx) ?_
      rw [if_neg h]
      exact Ev.yes (by omega) (Ev.now _)
theorem laws_szIntSS.ev (l : List (List Int)) (hl : RowsV l) (a : Int) (h0 : 0 ≤ a) (h1 : a ≤ 1048576) : ∃ r, r ≤ a ∧ Ev (fun k => laws_szIntSS.f k l a) r ∧ (0 ≤ r → RowsM l) := by
  have hl1 := hl.1
  unfold laws_szIntSS.f
  rw [w64 (x := a - (l.length : Int)) (by omega) (by omega)]
  by_cases h : (l.length : Int) ≤ a
  · obtain ⟨r, hr, he, hf⟩ := laws_szIntSS.lev l hl l.length 0 (a - l.length) (by omega) (by omega) (by omega)
    refine ⟨r, by omega, Ev.no (by omega) he, fun hr0 => ⟨by omega, fun x hx => ?_⟩⟩
    have := hf hr0 x (by simpa using hx)
    omega
  · exact ⟨-1, by omega, Ev.yes (by omega) (Ev.now _), fun hr0 => by omega⟩
theorem laws_szPins.ev (n : Int) (l : List (List Int)) (hl : RowsV l) (a : Int) (h0 : 0 ≤ a) (h1 : a ≤ 1048576) : ∃ r, r ≤ a ∧ Ev (fun k => laws_szPins.f k n l a) r ∧ (0 ≤ r → RowsM l) := by
  obtain ⟨r, hr, he, hf⟩ := laws_szIntSS.ev l hl a h0 h1
  by_cases h : 0 ≤ r
  · exact ⟨r, hr, Ev.bind he (Ev.no (by omega) (Ev.now _)), hf⟩
  · exact ⟨-1, by omega, Ev.bind he (Ev.yes (by omega) (Ev.now _)), fun hr0 => by omega⟩
theorem laws_toIntS.lev (l : List Int) (hl : l.length ≤ 1048576) : ∀ (m i : Nat), i + m = l.length → Ev (fun k => laws_toIntS.l0 k l ((l.take i).map id ++ List.replicate (l.length - i) 0) (i : Nat)) l := by
  intro m
  induction m with
  | zero => intro i hi; exact Ev.step (fun k => rfl) (Ev.no (by omega) (Ev.id (by rw [show i = l.length by omega]; simp)))
  | succ m ih =>
    intro i hi
    have hlt : i < l.length := by omega
    refine Ev.step (fun k => rfl) (Ev.yes (by omega) (Ev.yes (by omega) (Ev.yes (by simp; omega) ?_)))
    rw [rd_int hlt, Int.toNat_natCast]
    have this : ((l.take i).map id ++ List.replicate (l.length - i) 0).set i l[i] = (l.take (i + 1)).map id ++ List.replicate (l.length - (i + 1)) 0 := fill_step id l 0 i hlt
    rw [this, w64 (x := (i : Int) + 1) (by omega) (by omega)]
    exact ih (i + 1) (by omega)
theorem laws_toIntS.ev (l : List Int) (hl : l.length ≤ 1048576) : Ev (fun k => laws_toIntS.f k l) l := by
  unfold laws_toIntS.f
  refine Ev.yes (by omega) (Ev.yes (by simp; omega) ?_)
  have := laws_toIntS.lev l hl l.length 0 (by omega)
  simpa using this
theorem laws_toIntSS.lev (l : List (List Int)) (hl : RowsM l) : ∀ (m i : Nat), i + m = l.length → Ev (fun k => laws_toIntSS.l0 k l ((l.take i).map id ++ List.replicate (l.length - i) []) (i : Nat)) l := by
  have hl1 := hl.1
  intro m
  induction m with
  | zero => intro i hi; exact Ev.step (fun k => rfl) (Ev.no (by omega) (Ev.id (by rw [show i = l.length by omega]; simp)))
  | succ m ih =>
    intro i hi
    have hlt : i < l.length := by omega
    refine Ev.step (fun k => rfl) (Ev.yes (by omega) (Ev.yes (by omega) ?_))
    rw [rd_row hlt]
    refine Ev.bind (laws_toIntS.ev _ (hl.2 _ (List.getElem_mem hlt))) (Ev.yes (by simp; omega) ?_)
    rw [Int.toNat_natCast]
    have this : ((l.take i).map id ++ List.replicate (l.length - i) []).set i l[i] = (l.take (i + 1)).map id ++ List.replicate (l.length - (i + 1)) [] := fill_step id l [] i hlt
    rw [this, w64 (x := (i : Int) + 1) (by omega) (by omega)]
    exact ih (i + 1) (by omega)
theorem laws_toIntSS.ev (l : List (List Int)) (hl : RowsM l) : Ev (fun k => laws_toIntSS.f k l) l := by
  have hl1 := hl.1
  unfold laws_toIntSS.f
  refine Ev.yes (by omega) (Ev.yes (by simp; omega) ?_)
  have := laws_toIntSS.lev l hl l.length 0 (by omega)
  simpa using this
theorem laws_toPins.ev (n : Int) (l : List (List Int)) (hl : RowsM l) : Ev (fun k => laws_toPins.f k n l) (n, l) := by
  unfold laws_toPins.f
  exact Ev.bind (laws_toIntSS.ev l hl) (Ev.now _)
theorem laws_eqIntS.levB (l : List Int) (hn : l.length ≤ 9223372036854775807) : ∀ (m i : Nat), i + m = l.length → Ev (fun k => laws_eqIntS.l0 k l l (i : Nat)) true := by
  intro m
  induction m with
  | zero => intro i hi; exact Ev.step (fun k => rfl) (Ev.no (by omega) (Ev.now _))
  | succ m ih =>
    intro i hi
    refine Ev.step (fun k => rfl) (Ev.yes (by omega) (Ev.yes (by omega) (Ev.yes (by omega) (Ev.yes rfl ?_))))
    rw [w64 (x := (i : Int) + 1) (by omega) (by omega)]
    exact ih (i + 1) (by omega)
theorem laws_eqIntS.evB (l : List Int) (hn : l.length ≤ 9223372036854775807) : Ev (fun k => laws_eqIntS.f k l l) true := by
  unfold laws_eqIntS.f
  exact Ev.yes rfl (laws_eqIntS.levB l hn l.length 0 (by omega))
theorem laws_eqIntSS.lev (l : List (List Int)) (hl : RowsV l) : ∀ (m i : Nat), i + m = l.length → Ev (fun k => laws_eqIntSS.l0 k l l (i : Nat)) true := by
  have hl1 := hl.1
  intro m
  induction m with
  | zero => intro i hi; exact Ev.step (fun k => rfl) (Ev.no (by omega) (Ev.now _))
  | succ m ih =>
    intro i hi
    have hlt : i < l.length := by omega
    refine Ev.step (fun k => rfl) (Ev.yes (by omega) (Ev.yes (by omega) (Ev.yes (by omega) ?_)))
    rw [rd_row hlt]
    refine Ev.bind (laws_eqIntS.evB _ (hl.2 _ (List.getElem_mem hlt))) (Ev.yes rfl ?_)
    rw [w64 (x := (i : Int) + 1) (by omega) (by omega)]
    exact ih (i + 1) (by omega)
theorem laws_eqIntSS.ev (l : List (List Int)) (hl : RowsV l) : Ev (fun k => laws_eqIntSS.f k l l) true := by
  unfold laws_eqIntSS.f
  exact Ev.yes rfl (laws_eqIntSS.lev l hl l.length 0 (by omega))
theorem laws_eqPins.ev (n : Int) (l : List (List Int)) (hl : RowsV l) : Ev (fun k => laws_eqPins.f k n l n l) true := by
  unfold laws_eqPins.f
  exact Ev.yes rfl (Ev.bind (laws_eqIntSS.ev l hl) (Ev.yes rfl (Ev.now _)))
/-! Lists of pins: which are of one kind, what is joined. -/
/-! ### impl_Pins_keys: function 92 -/
/-! ### slices_Index_int_int: function 97 -/
/-! ### slices_Contains_int_int: function 104 -/
/-! ### impl_joined: function 101 -/
/-! ### impl_shared: function 91 -/
/-! ### spec_keCount: function 84 -/
/-! ### spec_l1Has: function 94 -/
/-! ### spec_keJoin: function 81 -/
/-! spec.keJoined, by hand: it begins with a pin that came in, and goes on with what was made. -/
/-! Joined pins and counted keys: what they come to. -/
/-! spec.keJoin -/
/-! impl.joined -/
theorem wr_succ {c : Nat} (h : c ≤ 1000) : wrap64 ((c : Int) + 1) = ((c + 1 : Nat) : Int) := w64 (by omega) (by omega)
/-! ### spec_keKind: function 80 -/
/-! ### spec_keList: function 88 -/
/-! spec's pins: what they come to. -/
theorem spec_l1Rising.lev (n : Int) (hn : 1 ≤ n ∧ n ≤ 9) (l : List Int) (hl : l.length ≤ 9223372036854775807) : ∀ (m i : Nat), i + m = l.length → (-1 ≤ lastI l i) → Ev (fun k => spec_l1Rising.l0 k l 0 (n - 1) l (l.length : Int) (i : Nat)) (risF n (lastI l i) (l.drop i)) := by
  intro m
  induction m with
  | zero =>
    intro i hi _
    refine Ev.step (fun k => rfl) (Ev.no (by omega) (Ev.id ?_))
    rw [List.drop_eq_nil_of_le (by omega)]
    rfl
  | succ m ih =>
    intro i hi hq
    have hlt : i < l.length := by omega
    have hr : rd l (i : Nat) = l[i] := rd_int hlt
    refine Ev.step (fun k => rfl) (Ev.yes (by omega) (Ev.yes (by omega) (Ev.yes (by omega) (Ev.bindc (spec_l1In.bs _ _ _) ?_))))
    rw [hr, List.drop_eq_getElem_cons hlt]
    unfold risF
    have hw : wrap64 ((i : Int) + 1) = ((i + 1 : Nat) : Int) := w64 (by omega) (by omega)
    have hla : lastI l (i + 1) = l[i] := lastI_at hlt
    by_cases h1 : 0 ≤ l[i] ∧ l[i] ≤ n - 1
    · refine Ev.yes (decide_eq_true h1) ?_
      have hgo := ih (i + 1) (by omega) (by rw [hla]; omega)
      rw [hla] at hgo
      cases i with
      | zero =>
        refine Ev.no (by omega) ?_
        rw [hw]
        refine Ev.eq hgo ?_
        have h2 : decide (lastI l 0 < l[0]) = true := decide_eq_true (show (-1 : Int) < l[0] by omega)
        have h3 : decide (l[0] ≤ n - 1) = true := decide_eq_true h1.2
        rw [h2, h3]; rfl
      | succ i =>
        have hp : wrap64 (((i + 1 : Nat) : Int) - 1) = (i : Nat) := by rw [w64 (by omega) (by omega)]; omega
        have hr1 : rd l (i : Nat) = l[i] := rd_int (by omega)
        have hlb : lastI l (i + 1) = l[i] := lastI_at (by omega)
        refine Ev.yes (by omega) ?_
        rw [hp, hr1, hlb]
        refine Ev.yes (by omega) (Ev.yes (by omega) ?_)
        by_cases h2 : l[i] ≥ l[i + 1]
        · refine Ev.yes h2 (Ev.id ?_)
          rw [decide_eq_false (by omega : ¬ l[i] < l[i + 1])]; rfl
        · refine Ev.no h2 ?_
          rw [hw]
          refine Ev.eq hgo ?_
          rw [decide_eq_true (by omega : l[i] < l[i + 1]), decide_eq_true h1.2]; rfl
    · refine Ev.no (by rw [decide_eq_false h1]; simp) (Ev.id ?_)
      by_cases h2 : lastI l i < l[i]
      · have h3 : ¬ l[i] ≤ n - 1 := fun h => h1 ⟨by omega, h⟩
        rw [decide_eq_false h3]; simp
      · rw [decide_eq_false h2]; rfl
theorem spec_l1Rising.ev (n : Int) (hn : 1 ≤ n ∧ n ≤ 9) (l : List Int) (hl : l.length ≤ 9223372036854775807) : Ev (fun k => spec_l1Rising.f k l 0 (n - 1)) (risF n (-1) l) := by
  unfold spec_l1Rising.f
  exact spec_l1Rising.lev n hn l hl l.length 0 (by omega) (show (-1 : Int) ≤ -1 by omega)
theorem spec_keGood.lev (n : Int) (hn : 1 ≤ n ∧ n ≤ 9) (l : List (List Int)) (hl : RowsV l) : ∀ (m i : Nat), i + m = l.length → Ev (fun k => spec_keGood.l0 k l (l.length : Int) (i : Nat) n l) ((l.drop i).all (rowB n)) := by
  have hl1 := hl.1
  intro m
  induction m with
  | zero =>
    intro i hi
    refine Ev.step (fun k => rfl) (Ev.no (by omega) (Ev.id ?_))
    rw [List.drop_eq_nil_of_le (by omega)]; rfl
  | succ m ih =>
    intro i hi
    have hlt : i < l.length := by omega
    refine Ev.step (fun k => rfl) (Ev.yes (by omega) (Ev.yes (by omega) (Ev.yes (by omega) ?_)))
    rw [rd_row hlt, List.drop_eq_getElem_cons hlt, List.all_cons]
    have hx := hl.2 l[i] (List.getElem_mem hlt)
    have hgo := ih (i + 1) (by omega)
    generalize l[i] = x at hx ⊢
    unfold rowB
    by_cases h0 : (x.length : Int) = 0
    · refine Ev.yes h0 (Ev.id ?_)
      obtain rfl : x = [] := List.length_eq_zero_iff.mp (by omega)
      rfl
    · refine Ev.no h0 ?_
      have h1 : (!x.isEmpty) = true := by cases x <;> simp_all
      rw [w64 (x := n - 1) (by omega) (by omega), h1, Bool.true_and]
      refine Ev.bind (spec_l1Rising.ev n hn x hx) ?_
      cases risF n (-1) x with
      | false => exact Ev.no (by simp) (Ev.id rfl)
      | true =>
        refine Ev.yes rfl ?_
        rw [w64 (x := (i : Int) + 1) (by omega) (by omega), Bool.true_and]
        exact hgo
theorem spec_keGood.ev (n : Int) (l : List (List Int)) (hl : RowsV l) : Ev (fun k => spec_keGood.f k n l) (pinsB n l) := by
  unfold spec_keGood.f pinsB
  refine Ev.bindc (spec_l1In.bs _ _ _) ?_
  by_cases h1 : 1 ≤ n ∧ n ≤ 9
  · rw [decide_eq_true h1]
    refine Ev.yes rfl (Ev.bindc (spec_l1In.bs _ _ _) (Ev.step (fun k => rfl) ?_))
    simp only [spec_keGood.j0]
    by_cases h2 : 1 ≤ (l.length : Int) ∧ (l.length : Int) ≤ 7
    · rw [decide_eq_true h2]
      refine Ev.no (by simp) ?_
      have := spec_keGood.lev n h1 l hl l.length 0 (by omega)
      simpa using this
    · rw [decide_eq_false h2]
      exact Ev.yes (by simp) (Ev.id (by simp))
  · rw [decide_eq_false h1]
    refine Ev.no (by simp) (Ev.step (fun k => rfl) ?_)
    simp only [spec_keGood.j0]
    exact Ev.yes trivial (Ev.id (by simp))
theorem opens_t3 : Opens Try.prog 3 (Kd.int .i64) IntV := opens_int Try.underlying3
theorem opens_t86 : Opens Try.prog 86 (Kd.slice 3 (Kd.int .i64)) (ListV IntV) := opens_slice Try.underlying86 opens_t3 (by kernel_rfl)
theorem opens_t35 : Opens Try.prog 35 (Kd.slice 86 (Kd.slice 3 (Kd.int .i64))) (ListV (ListV IntV)) := opens_slice Try.underlying35 opens_t86 (by kernel_rfl)
def V37 (x : S37) : Prop := IntV x.f0 ∧ (ListV (ListV IntV)) x.f1
theorem opens_t37 : Opens Try.prog 37 k37 V37 := opens_iso (opens_pair Try.underlying37 opens_t3 opens_t35 (by kernel_rfl) (by kernel_rfl) (by kernel_rfl) (by kernel_rfl) (by kernel_rfl)) (fun x : S37 => (x.f0, x.f1)) (fun p => ⟨p.1, p.2⟩) (fun _ => rfl)
/-! The law FnExactSmoothKeys, over numbers and lists alone. -/
theorem impl_size.near (d e : Int) (h1 : 0 ≤ d) (h2 : d ≤ 9) (h3 : 0 ≤ e) (h4 : e ≤ 9) : impl_size.f (wrap64 (d - e)) = some (distI d e) := by
  unfold impl_size.f mx distI
  rw [w64 (x := d - e) (by omega) (by omega), w64 (x := -(d - e)) (by omega) (by omega)]
  by_cases h : d ≤ e
  · rw [if_pos h]
    by_cases h5 : d - e < -(d - e)
    · rw [if_pos h5]; congr 1; omega
    · rw [if_neg h5]; congr 1; omega
  · rw [if_neg h, if_neg (by omega)]
theorem spec_l1Abs.near (d e : Int) (h1 : 0 ≤ d) (h2 : d ≤ 9) (h3 : 0 ≤ e) (h4 : e ≤ 9) : spec_l1Abs.f (wrap64 (d - e)) = some (distI d e) := by
  unfold spec_l1Abs.f spec_l1Most.f distI
  rw [w64 (x := d - e) (by omega) (by omega), w64 (x := -(d - e)) (by omega) (by omega)]
  by_cases h : d ≤ e
  · rw [if_pos h, if_neg (by omega)]
    simp only [Option.bind_some]; congr 1; omega
  · rw [if_neg h, if_pos (by omega)]
    rfl
theorem cell_step (D : Nat) (w w' : Int → Int) (d e v : Int) (hd0 : 0 ≤ d) (hd1 : d < (D : Int)) (he0 : 0 ≤ e) (he1 : e < (D : Int)) : (repW D (upW w' d v)).set d.toNat (wrap64 (rd (repW D (upW w' d v)) d + rd (repW D w) e)) = repW D (upW w' d (v + w e)) := by
  rw [repW_rd D _ d hd0 hd1, repW_rd D _ e he0 he1]
  have : upW w' d v d = v := by unfold upW; rw [if_pos rfl]
  rw [this, wr_add, repW_set D _ d _ hd0, upW_up]
def RowD (D : Nat) (r : List Int) : Prop := r.length ≤ 9 ∧ ∀ x ∈ r, 0 ≤ x ∧ x < (D : Int)
theorem impl_smooth.lev2 (z q : Int) (D : Nat) (hD : D ≤ 9) (L : List (List Int)) (row : List Int) (hr : RowD D row) (i : Nat) (w w' : Int → Int) (d : Nat) (hd : d < D) (V : Int) (o : Int)
    (hgo : Ev (fun k => impl_Pins_smooth.l1 k z (-1) q (repW D w) (i : Int) (repW D (upW w' d V)) (D : Int) (wrap64 ((d : Int) + 1)) (D : Int) L) o) :
    ∀ (m j : Nat) (v : Int), j + m = row.length → v + sumI (row.drop j) (fun e => if near q d e = true then w e else 0) = V → Ev (fun k => impl_Pins_smooth.l2 k z (-1) q (repW D w) (i : Int) (repW D (upW w' d v)) (d : Int) (D : Int) (d : Int) row (row.length : Int) (j : Int) (D : Int) L) o := by
  have h9 := hr.1
  intro m
  induction m with
  | zero =>
    intro j v hj hv
    rw [List.drop_eq_nil_of_le (by omega), sumI_nil, Int.add_zero] at hv
    subst hv
    exact Ev.step (fun k => rfl) (Ev.no (by omega) hgo)
  | succ m ih =>
    intro j v hj hv
    have hlt : j < row.length := by omega
    have hx := hr.2 row[j] (List.getElem_mem hlt)
    have hw := amk (wr_succ (c := j) (by omega))
    rw [List.drop_eq_getElem_cons hlt, sumI_cons] at hv
    refine Ev.step (fun k => rfl) (Ev.yes (by omega) (Ev.yes (by omega) (Ev.yes (by omega) ?_)))
    rw [rd_int hlt, hw.out]
    refine Ev.bindc (impl_size.near (d : Int) row[j] (by omega) (by omega) hx.1 (by omega)) ?_
    by_cases h : distI (d : Int) row[j] ≤ q
    · rw [if_pos (show near q (d : Int) row[j] = true from decide_eq_true h)] at hv
      refine Ev.yes h (Ev.yes (by omega) (Ev.yes (by rw [repW_len]; omega) (Ev.yes hx.1 (Ev.yes (by rw [repW_len]; exact hx.2) ?_))))
      rw [cell_step D w w' (d : Int) row[j] v (by omega) (by omega) hx.1 hx.2]
      exact ih (j + 1) (v + w row[j]) (by omega) (by omega)
    · rw [if_neg (show ¬ near q (d : Int) row[j] = true from fun hh => h (of_decide_eq_true hh)), Int.zero_add] at hv
      exact Ev.no h (ih (j + 1) v (by omega) hv)
theorem impl_smooth.lev1 (z q : Int) (D : Nat) (hD : D ≤ 9) (L : List (List Int)) (i : Nat) (hi : i < L.length) (hr : RowD D L[i]) (w : Int → Int) (o : Int)
    (hgo : Ev (fun k => impl_Pins_smooth.l0 k z (-1) q (repW D (fun d => sumI L[i] (fun e => if near q d e = true then w e else 0))) (wrap64 ((i : Int) - 1)) (D : Int) L) o) :
    ∀ (m d : Nat), d + m = D → Ev (fun k => impl_Pins_smooth.l1 k z (-1) q (repW D w) (i : Int) (repW D (fun e => if e < (d : Int) then sumI L[i] (fun f => if near q e f = true then w f else 0) else 0)) (D : Int) (d : Int) (D : Int) L) o := by
  intro m
  induction m with
  | zero =>
    intro d hd
    have e : repW D (fun e => if e < (d : Int) then sumI L[i] (fun f => if near q e f = true then w f else 0) else 0) = repW D (fun d => sumI L[i] (fun e => if near q d e = true then w e else 0)) := repW_congr (fun e _ h2 => if_pos (by omega))
    rw [e]
    exact Ev.step (fun k => rfl) (Ev.no (by omega) hgo)
  | succ m ih =>
    intro d hd
    have hw := amk (wr_succ (c := d) (by omega))
    refine Ev.step (fun k => rfl) (Ev.yes (by omega) (Ev.yes (by omega) (Ev.yes (by omega) ?_)))
    rw [rd_row hi]
    have h0 : (fun e : Int => if e < (d : Int) then sumI L[i] (fun f => if near q e f = true then w f else 0) else 0) = upW (fun e : Int => if e < (d : Int) then sumI L[i] (fun f => if near q e f = true then w f else 0) else 0) (d : Int) 0 := by
      funext e
      unfold upW
      by_cases h : e = (d : Int)
      · rw [if_pos h, if_neg (by omega)]
      · rw [if_neg h]
    rw [h0]
    refine impl_smooth.lev2 z q D hD L L[i] hr i w _ d (by omega) (sumI L[i] (fun f => if near q (d : Int) f = true then w f else 0)) o ?_ L[i].length 0 0 (by omega) (by rw [List.drop_zero, Int.zero_add])
    have h1 : repW D (upW (fun e : Int => if e < (d : Int) then sumI L[i] (fun f => if near q e f = true then w f else 0) else 0) (d : Int) (sumI L[i] (fun f => if near q (d : Int) f = true then w f else 0))) = repW D (fun e => if e < ((d + 1 : Nat) : Int) then sumI L[i] (fun f => if near q e f = true then w f else 0) else 0) := by
      refine repW_congr (fun e _ _ => ?_)
      unfold upW
      by_cases h : e = (d : Int)
      · rw [if_pos h, if_pos (by omega), h]
      · rw [if_neg h]
        show (if e < (d : Int) then sumI L[i] (fun f => if near q e f = true then w f else 0) else 0) = _
        by_cases h2 : e < (d : Int)
        · rw [if_pos h2, if_pos (by omega)]
        · rw [if_neg h2, if_neg (by omega)]
    rw [h1, hw.out]
    exact ih (d + 1) (by omega)
theorem impl_smooth.lev3 (q : Int) (D : Nat) (row : List Int) (hr : RowD D row) (w : Int → Int) : ∀ (m j : Nat) (v : Int), j + m = row.length → Ev (fun k => impl_Pins_smooth.l3 k (-1) q (repW D w) (wrap64 v) row (row.length : Int) (j : Int)) (wrap64 (v + sumI (row.drop j) w)) := by
  have h9 := hr.1
  intro m
  induction m with
  | zero =>
    intro j v hj
    refine Ev.step (fun k => rfl) (Ev.no (by omega) (Ev.id ?_))
    rw [List.drop_eq_nil_of_le (by omega), sumI_nil, Int.add_zero]
  | succ m ih =>
    intro j v hj
    have hlt : j < row.length := by omega
    have hx := hr.2 row[j] (List.getElem_mem hlt)
    have hw := amk (wr_succ (c := j) (by omega))
    refine Ev.step (fun k => rfl) (Ev.yes (by omega) (Ev.yes (by omega) (Ev.yes (by omega) (Ev.yes (by omega) ?_))))
    rw [rd_int hlt, hw.out]
    refine Ev.yes hx.1 (Ev.yes (by rw [repW_len]; exact hx.2) ?_)
    rw [repW_rd D w row[j] hx.1 hx.2, wr_add, List.drop_eq_getElem_cons hlt, sumI_cons]
    have := ih (j + 1) (v + w row[j]) (by omega)
    rw [Int.add_assoc] at this
    exact this
theorem impl_smooth.lev0 (z : Int) (hz0 : z = 0) (q : Int) (D : Nat) (hD : D ≤ 9) (L : List (List Int)) (hL : L.length ≤ 7) (hr : ∀ r ∈ L, RowD D r) (h0 : 0 < L.length) : ∀ (i : Nat), i < L.length → Ev (fun k => impl_Pins_smooth.l0 k z (-1) q (repW D (onW q (L.drop (i + 1)))) (i : Int) (D : Int) L) (wrap64 (sumI L[0] (onW q (L.drop 1)))) := by
  intro i
  induction i with
  | zero =>
    intro hi
    refine Ev.step (fun k => rfl) (Ev.no (by omega) (Ev.no (by omega) (Ev.yes (by omega) (Ev.yes (by omega) ?_))))
    subst hz0
    have hq : rd_L5 L 0 = L[0] := rd_row h0
    rw [hq]
    have := impl_smooth.lev3 q D L[0] (hr _ (List.getElem_mem h0)) (onW q (L.drop 1)) L[0].length 0 0 (by omega)
    rw [List.drop_zero, Int.zero_add, wr_lit0] at this
    exact this
  | succ i ih =>
    intro hi
    have hz : (List.replicate ((D : Int)).toNat (0 : Int)) = repW D (fun e => if e < ((0 : Nat) : Int) then sumI L[i + 1] (fun f => if near q e f = true then onW q (L.drop (i + 1 + 1)) f else 0) else 0) := by
      rw [Int.toNat_natCast, repW_const D 0 wr_lit0]
      exact repW_congr (fun e h1 _ => (if_neg (by omega)).symm)
    refine Ev.step (fun k => rfl) (Ev.yes (by omega) (Ev.yes (by omega) (Ev.yes (by omega) (Ev.bindc rfl ?_))))
    rw [hz, repW_len]
    refine impl_smooth.lev1 z q D hD L (i + 1) hi (hr _ (List.getElem_mem hi)) (onW q (L.drop (i + 1 + 1))) _ ?_ D 0 (by omega)
    have hw : wrap64 (((i + 1 : Nat) : Int) - 1) = (i : Int) := by rw [w64 (by omega) (by omega)]; omega
    rw [hw]
    have hd : L.drop (i + 1) = L[i + 1] :: L.drop (i + 1 + 1) := List.drop_eq_getElem_cons hi
    have := ih (by omega)
    rw [hd] at this
    exact this
theorem impl_smooth.ev (q : Int) (D : Nat) (hD : D ≤ 9) (h1 : 1 ≤ D) (L : List (List Int)) (hL : L.length ≤ 7) (hr : ∀ r ∈ L, RowD D r) (h0 : 0 < L.length) : Ev (fun k => impl_Pins_smooth.f k (D : Int) L 0 (-1) q) (wrap64 (sumI L[0] (onW q (L.drop 1)))) := by
  unfold impl_Pins_smooth.f slices_Repeat_int_int.f
  rw [if_pos ⟨rfl, by omega, by omega⟩]
  refine Ev.bindc rfl ?_
  have hw : wrap64 ((L.length : Int) - 1) = ((L.length - 1 : Nat) : Int) := by rw [w64 (by omega) (by omega)]; omega
  have := impl_smooth.lev0 0 rfl q D hD L hL hr h0 (L.length - 1) (by omega)
  rw [List.drop_eq_nil_of_le (by omega : L.length ≤ L.length - 1 + 1)] at this
  rw [hw, Int.toNat_natCast, show ([1] : List Int).getD 0 0 = 1 from rfl, repW_const D 1 wr_lit1]
  exact this
/-! spec -/
theorem spec_smooth.lev3 (q : Int) (D : Nat) (hD : D ≤ 9) (L t : List (List Int)) (tl ti : Int) (row : List Int) (rl j : Int) (w w' : Int → Int) (d : Int) (hd0 : 0 ≤ d) (hd1 : d < (D : Int)) (V : Int) (o : Int × Bool)
    (hgo : Ev (fun k => spec_SmoothKeys.l2 k q (repW D w) (repW D (upW w' d V)) t tl ti row rl (wrap64 (j + 1)) (D : Int) L) o) :
    ∀ (m e : Nat) (v : Int), e + m = D → v + sumI (rngFrom e m) (fun e => if near q d e = true then w e else 0) = V → Ev (fun k => spec_SmoothKeys.l3 k q (repW D w) (repW D (upW w' d v)) d t tl ti row rl j (repW D w) (D : Int) (e : Int) (D : Int) L) o := by
  intro m
  induction m with
  | zero =>
    intro e v he hv
    rw [rngFrom_zero, sumI_nil, Int.add_zero] at hv
    subst hv
    exact Ev.step (fun k => rfl) (Ev.no (by omega) hgo)
  | succ m ih =>
    intro e v he hv
    have hw := amk (wr_succ (c := e) (by omega))
    rw [rngFrom_succ, sumI_cons] at hv
    refine Ev.step (fun k => rfl) (Ev.yes (by omega) (Ev.yes (by omega) (Ev.yes (by rw [repW_len]; omega) ?_)))
    refine Ev.bindc (spec_l1Abs.near d (e : Int) hd0 (by omega) (by omega) (by omega)) ?_
    rw [hw.out]
    by_cases h : distI d (e : Int) ≤ q
    · rw [if_pos (show near q d (e : Int) = true from decide_eq_true h)] at hv
      refine Ev.yes h (Ev.yes hd0 (Ev.yes (by rw [repW_len]; exact hd1) ?_))
      rw [cell_step D w w' d (e : Int) v hd0 hd1 (by omega) (by omega)]
      exact ih (e + 1) (v + w (e : Int)) (by omega) (by omega)
    · rw [if_neg (show ¬ near q d (e : Int) = true from fun hh => h (of_decide_eq_true hh)), Int.zero_add] at hv
      exact Ev.no h (ih (e + 1) v (by omega) hv)
theorem spec_smooth.lev2 (q : Int) (D : Nat) (hD : D ≤ 9) (L t : List (List Int)) (tl ti : Int) (row : List Int) (hr : RowD D row) (w : Int → Int) (o : Int × Bool)
    (hgo : Ev (fun k => spec_SmoothKeys.l1 k q (repW D (fwS q D w row)) t tl (wrap64 (ti + 1)) (D : Int) L) o) :
    ∀ (m j : Nat) (w' : Int → Int), j + m = row.length → (∀ e, w' e + sumI (row.drop j) (fun d => if d = e then fwT q D w e else 0) = fwS q D w row e) → Ev (fun k => spec_SmoothKeys.l2 k q (repW D w) (repW D w') t tl ti row (row.length : Int) (j : Int) (D : Int) L) o := by
  have h9 := hr.1
  intro m
  induction m with
  | zero =>
    intro j w' hj hv
    have e : repW D w' = repW D (fwS q D w row) := repW_congr (fun e _ _ => by
      have := hv e
      rw [List.drop_eq_nil_of_le (by omega), sumI_nil, Int.add_zero] at this
      exact this)
    rw [e]
    exact Ev.step (fun k => rfl) (Ev.no (by omega) hgo)
  | succ m ih =>
    intro j w' hj hv
    have hlt : j < row.length := by omega
    have hx := hr.2 row[j] (List.getElem_mem hlt)
    have hw := amk (wr_succ (c := j) (by omega))
    refine Ev.step (fun k => rfl) (Ev.yes (by omega) (Ev.yes (by omega) (Ev.yes (by omega) ?_)))
    rw [rd_int hlt, repW_len]
    have hs : repW D w' = repW D (upW w' row[j] (w' row[j])) := by rw [upW_self]
    rw [hs]
    refine spec_smooth.lev3 q D hD L t tl ti row (row.length : Int) (j : Int) w w' row[j] hx.1 hx.2 (w' row[j] + fwT q D w row[j]) o ?_ D 0 (w' row[j]) (by omega) rfl
    rw [hw.out]
    refine ih (j + 1) _ (by omega) (fun e => ?_)
    have := hv e
    rw [List.drop_eq_getElem_cons hlt, sumI_cons] at this
    unfold upW
    by_cases h : e = row[j]
    · rw [if_pos h, ← this, if_pos h.symm, h]; omega
    · rw [if_neg h, ← this, if_neg (fun hh => h hh.symm), Int.zero_add]
theorem spec_smooth.lev4 (D : Nat) (hD : D ≤ 9) (w : Int → Int) : ∀ (m j : Nat) (v : Int), j + m = D → Ev (fun k => spec_SmoothKeys.l4 k (wrap64 v) (repW D w) (D : Int) (j : Int)) (wrap64 (v + sumI (rngFrom j m) w), true) := by
  intro m
  induction m with
  | zero =>
    intro j v hj
    refine Ev.step (fun k => rfl) (Ev.no (by omega) (Ev.id ?_))
    rw [rngFrom_zero, sumI_nil, Int.add_zero]
  | succ m ih =>
    intro j v hj
    have hw := amk (wr_succ (c := j) (by omega))
    refine Ev.step (fun k => rfl) (Ev.yes (by omega) (Ev.yes (by omega) (Ev.yes (by rw [repW_len]; omega) ?_)))
    rw [hw.out, repW_rd D w (j : Int) (by omega) (by omega), wr_add, rngFrom_succ, sumI_cons]
    have := ih (j + 1) (v + w (j : Int)) (by omega)
    rw [Int.add_assoc] at this
    exact this
theorem spec_smooth.lev1 (q : Int) (D : Nat) (hD : D ≤ 9) (L t : List (List Int)) (ht : t.length ≤ 7) (hr : ∀ r ∈ t, RowD D r) : ∀ (m i : Nat) (w : Int → Int), i + m = t.length → Ev (fun k => spec_SmoothKeys.l1 k q (repW D w) t (t.length : Int) (i : Int) (D : Int) L) (wrap64 (sumI (rngFrom 0 D) (fwA q D (t.drop i) w)), true) := by
  intro m
  induction m with
  | zero =>
    intro i w hi
    rw [List.drop_eq_nil_of_le (by omega)]
    refine Ev.step (fun k => rfl) (Ev.no (by omega) ?_)
    rw [repW_len]
    have := spec_smooth.lev4 D hD w D 0 0 (by omega)
    rw [wr_lit0, Int.zero_add] at this
    exact this
  | succ m ih =>
    intro i w hi
    have hlt : i < t.length := by omega
    have hw := amk (wr_succ (c := i) (by omega))
    refine Ev.step (fun k => rfl) (Ev.yes (by omega) (Ev.yes (by omega) (Ev.yes (by omega) (Ev.yes (by omega) (Ev.yes (by omega) ?_)))))
    rw [rd_row hlt, Int.toNat_natCast, repW_const D 0 wr_lit0, List.drop_eq_getElem_cons hlt]
    refine spec_smooth.lev2 q D hD L t (t.length : Int) (i : Int) t[i] (hr _ (List.getElem_mem hlt)) w _ ?_ t[i].length 0 (fun _ => 0) (by omega) (fun e => by rw [List.drop_zero, Int.zero_add]; rfl)
    rw [hw.out]
    exact ih (i + 1) _ (by omega)
def setA (row : List Int) (w : Int → Int) : Int → Int := row.foldl (fun w d => upW w d 1) w
theorem setA_is : ∀ (row : List Int) (w : Int → Int) (e : Int), setA row w e = if row.contains e = true then 1 else w e := by
  intro row
  induction row with
  | nil => intro w e; rfl
  | cons d t ih =>
    intro w e
    show setA t (upW w d 1) e = _
    rw [ih, List.contains_cons]
    unfold upW
    by_cases h : e = d
    · rw [if_pos h, show (e == d) = true from beq_iff_eq.mpr h, Bool.true_or, if_pos rfl]
      by_cases h2 : t.contains e = true
      · rw [if_pos h2]
      · rw [if_neg h2]
    · rw [if_neg h, show (e == d) = false from beq_eq_false_iff_ne.mpr h, Bool.false_or]
theorem spec_smooth.lev0 (q : Int) (D : Nat) (hD : D ≤ 9) (L : List (List Int)) (row : List Int) (hr : RowD D row) (o : Int × Bool) (hL : 1 ≤ L.length)
    (W : Int → Int) (hgo : Ev (fun k => spec_SmoothKeys.l1 k q (repW D W) (L.drop 1) ((L.drop 1).length : Int) 0 (D : Int) L) o) :
    ∀ (m j : Nat) (w : Int → Int), j + m = row.length → setA (row.drop j) w = W → Ev (fun k => spec_SmoothKeys.l0 k q (repW D w) row (row.length : Int) (j : Int) (D : Int) L) o := by
  have h9 := hr.1
  intro m
  induction m with
  | zero =>
    intro j w hj hv
    rw [List.drop_eq_nil_of_le (by omega)] at hv
    obtain rfl : w = W := hv
    exact Ev.step (fun k => rfl) (Ev.no (by omega) (Ev.yes (by omega) (Ev.bindc rfl hgo)))
  | succ m ih =>
    intro j w hj hv
    have hlt : j < row.length := by omega
    have hx := hr.2 row[j] (List.getElem_mem hlt)
    have hw := amk (wr_succ (c := j) (by omega))
    rw [List.drop_eq_getElem_cons hlt] at hv
    refine Ev.step (fun k => rfl) (Ev.yes (by omega) (Ev.yes (by omega) (Ev.yes (by omega) ?_)))
    rw [rd_int hlt, hw.out]
    refine Ev.yes hx.1 (Ev.yes (by rw [repW_len]; exact hx.2) ?_)
    have hs := repW_set D w row[j] 1 hx.1
    rw [wr_lit1] at hs
    rw [hs]
    exact ih (j + 1) _ (by omega) hv
theorem pinsB_RowD {n : Int} {L : List (List Int)} (h : pinsB n L = true) : ∀ r ∈ L, RowD n.toNat r := by
  obtain ⟨h1, h2, h3⟩ := pinsB_parts h
  intro r hr
  have h4 := rowB_len (by omega) (h3 r hr)
  refine ⟨by omega, fun x hx => ?_⟩
  have := rowB_mem (h3 r hr) x hx
  omega
def smV (n : Int) (L : List (List Int)) (q : Int) : Int × Bool := if (pinsB n L && decide (0 ≤ q ∧ q ≤ 9)) = true then (wrap64 (sumI (L.getD 0 []) (onW q (L.drop 1))), true) else (0, false)
theorem spec_SmoothKeys.no_ev (q n : Int) (L : List (List Int)) : Ev (fun k => spec_SmoothKeys.j0 k q true n L) (0, false) := by
  refine Ev.step (fun k => rfl) ?_
  simp only [spec_SmoothKeys.j0]
  first | exact Ev.yes rfl (Ev.now _) | exact Ev.yes trivial (Ev.now _) | exact Ev.now _
theorem spec_SmoothKeys.ev (n : Int) (L : List (List Int)) (q : Int) (hL : RowsV L) : Ev (fun k => spec_SmoothKeys.f k n L q) (smV n L q) := by
  unfold spec_SmoothKeys.f smV
  refine Ev.bind (spec_keGood.ev n L hL) ?_
  cases h1 : pinsB n L with
  | false => exact Ev.no (by simp) (by simpa using spec_SmoothKeys.no_ev q n L)
  | true =>
    refine Ev.yes rfl (Ev.bindc (spec_l1In.bs _ _ _) ?_)
    by_cases h2 : 0 ≤ q ∧ q ≤ 9
    · obtain ⟨a1, a2, a3⟩ := pinsB_parts h1
      have hR := pinsB_RowD h1
      have h0 : 0 < L.length := by omega
      rw [decide_eq_true h2]
      obtain ⟨D, rfl⟩ := Int.eq_ofNat_of_zero_le (show 0 ≤ n by omega)
      rw [Int.toNat_natCast] at hR
      refine Ev.step (fun k => rfl) ?_
      simp only [spec_SmoothKeys.j0]
      refine Ev.no (by simp) (Ev.yes (by omega) (Ev.yes (by omega) (Ev.yes (by omega) ?_)))
      have hq : rd_L5 L 0 = L[0] := rd_row h0
      rw [hq, Int.toNat_natCast, repW_const D 0 wr_lit0]
      have hg : L.getD 0 [] = L[0] := by simp [List.getD, h0]
      have hris := a3 L[0] (List.getElem_mem h0)
      unfold rowB at hris
      rw [Bool.and_eq_true] at hris
      have key : sumI (rngFrom 0 D) (fwA q D (L.drop 1) (setA L[0] (fun _ => 0))) = sumI L[0] (onW q (L.drop 1)) := by
        rw [fw_on q D (L.drop 1) _ (fun r hr x hx => (hR r (List.mem_of_mem_drop hr)).2 x hx)]
        have e : sumI (rngFrom 0 D) (fun e => setA L[0] (fun _ => 0) e * onW q (L.drop 1) e) = sumI (rngFrom 0 D) (fun e => (if L[0].contains e = true then 1 else 0) * onW q (L.drop 1) e) := sumI_congr (fun e _ => by rw [setA_is])
        rw [e]
        exact fw_start q D L[0] (L.drop 1) hris.2
      have hl1 := spec_smooth.lev1 q D (by omega) L (L.drop 1) (by rw [List.length_drop]; omega) (fun r hr => hR r (List.mem_of_mem_drop hr)) (L.drop 1).length 0 (setA L[0] (fun _ => 0)) (by omega)
      rw [List.drop_zero, key] at hl1
      rw [hg]
      exact spec_smooth.lev0 q D (by omega) L L[0] (hR _ (List.getElem_mem h0)) _ (by omega) _ hl1 L[0].length 0 (fun _ => 0) (by omega) (by rw [List.drop_zero])
    · rw [decide_eq_false h2]
      simpa using spec_SmoothKeys.no_ev q n L
theorem impl_SmoothKeys.ev (n : Int) (L : List (List Int)) (q : Int) : Ev (fun k => impl_SmoothKeys.f k n L q) (smV n L q) := by
  unfold impl_SmoothKeys.f impl_ArePins.f impl_isMost.f smV
  refine Ev.bindc rfl ?_
  cases h1 : pinsB n L with
  | false => exact Ev.no (by simp) (Ev.id (by simp))
  | true =>
    refine Ev.yes rfl (Ev.bindc (by rw [impl_within.bs]; rfl) ?_)
    by_cases h2 : 0 ≤ q ∧ q ≤ 9
    · obtain ⟨a1, a2, a3⟩ := pinsB_parts h1
      have hR := pinsB_RowD h1
      have h0 : 0 < L.length := by omega
      rw [decide_eq_true h2]
      obtain ⟨D, rfl⟩ := Int.eq_ofNat_of_zero_le (show 0 ≤ n by omega)
      rw [Int.toNat_natCast] at hR
      have hg : L.getD 0 [] = L[0] := by simp [List.getD, h0]
      rw [hg]
      exact Ev.yes rfl (Ev.bind (impl_smooth.ev q D (by omega) (by omega) L (by omega) hR h0) (Ev.now _))
    · rw [decide_eq_false h2]
      exact Ev.no (by simp) (Ev.id (by simp))
theorem pure_FnExactSmoothKeys (p : S37) (hp : V37 p) (q : Int) (_ : IntV q) : ∃ k, laws_FnExactSmoothKeys.f k p.f0 p.f1 q = some true := by
  refine Ev.rounds ?_
  obtain ⟨_, hn, hv⟩ := hp
  have hV : RowsV p.f1 := ⟨hn, fun r hr => (hv r hr).1⟩
  unfold laws_FnExactSmoothKeys.f
  obtain ⟨r, _, he, hf⟩ := laws_szPins.ev p.f0 p.f1 hV 1048576 (by omega) (by omega)
  refine Ev.bind he ?_
  by_cases h : 0 ≤ r
  · have hto := laws_toPins.ev p.f0 p.f1 (hf h)
    refine Ev.no (by omega) (Ev.bind hto (Ev.bind (spec_SmoothKeys.ev p.f0 p.f1 q hV) (Ev.bind hto (Ev.bind (impl_SmoothKeys.ev p.f0 p.f1 q) (Ev.yes rfl (Ev.step (fun k => rfl) ?_))))))
    simp only [laws_FnExactSmoothKeys.j0]
    exact Ev.no (by simp) (Ev.bind hto (Ev.bind (laws_eqPins.ev p.f0 p.f1 hV) (Ev.yes rfl (Ev.now _))))
  · exact Ev.yes (by omega) (Ev.now _)
end Go.Proofs.Ytcnjiffoghganaa.P