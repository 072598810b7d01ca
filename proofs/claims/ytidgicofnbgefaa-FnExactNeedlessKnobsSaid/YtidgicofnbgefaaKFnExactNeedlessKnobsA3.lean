import Derived.Test.YtidgicofnbgefaaKFnExactNeedlessKnobsA0
import Derived.Test.YtidgicofnbgefaaKFnExactNeedlessKnobsA2
import Derived.Test.YtidgicofnbgefaaKFnExactNeedlessKnobsA1
import Derived.Deep.RegionHeld3
import Derived.ProofKit
import Derived.Lib.SmallJoins
import Derived.Deep.Slices
namespace Go.Proofs.Ytidgicofnbgefaa.P
open Go.RowKit Go.Proofs.YtidgicofnbgefaaW.PrintWords Go.Proofs.YtidgicofnbgefaaW.PrintLast Go.Proofs.YtidgicofnbgefaaW.PrintMore
attribute [local go_sem] max2_int min2_int max_two min_two max_three min_three max_four min_four
set_option linter.unusedVariables false
set_option linter.unusedSimpArgs false
/-! ### spec_NeedlessKnobs: function 5 -/
def spec_NeedlessKnobs.l0 : Nat → List Int → ByteArray → Int → Int → Int → Int → Int → List (List Int) → Option (List Int × Bool)
  | 0, _, _, _, _, _, _, _, _ => none
  | k + 1, x4, x5, x6, x20, x21, x215000, x215001, x215002 => if x21 < x20 then (if (x215002.length : Int) > 1 then ((spec_joWithout.f k x215000 x215001 x215002 x21).bind fun bt221 => ((spec_joFar.f k bt221.1 bt221.2.1 bt221.2.2 x5).bind fun t226 => ((spec_joReached.f k t226).bind fun t229 => (if t229 = x6 then (if x4.length < 17592186044416 then (spec_NeedlessKnobs.l0 k (x4 ++ [x21]) x5 x6 x20 (wrap64 (x21 + 1)) x215000 x215001 x215002) else (none)) else (spec_NeedlessKnobs.l0 k x4 x5 x6 x20 (wrap64 (x21 + 1)) x215000 x215001 x215002))))) else (spec_NeedlessKnobs.l0 k x4 x5 x6 x20 (wrap64 (x21 + 1)) x215000 x215001 x215002)) else (some (x4, true))
def spec_NeedlessKnobs.f (k : Nat) (a0_0 : Int) (a0_1 : Int) (l0_2 : List (List Int)) : Option (List Int × Bool) := (spec_joGood.f k a0_0 a0_1 l0_2).bind fun t215 => (if t215 = true then ((spec_whOf.f k a0_0 a0_1 0).bind fun t216 => ((spec_joFar.f k a0_0 a0_1 l0_2 t216).bind fun t217 => ((spec_joReached.f k t217).bind fun t220 => (spec_NeedlessKnobs.l0 k ([] : List Int) t216 t220 (l0_2.length : Int) 0 a0_0 a0_1 l0_2)))) else (some (([] : List Int), false)))
set_option maxHeartbeats 8000000 in
set_option maxRecDepth 100000 in
theorem spec_NeedlessKnobs.calls (k : Nat) (a0_0 : Int) (a0_1 : Int) (A0_2 : Option Addr) (c0_2 : Nat) (l0_2 : List (List Int)) (r1 : List Int) (r2 : Bool) (w : World) (hr0_2 : Kd.C (Kd.slice 3 (Kd.int .i64)) w A0_2 l0_2.length l0_2) (hc0_2 : l0_2.length ≤ c0_2) (h : spec_NeedlessKnobs.f k a0_0 a0_1 l0_2 = some (r1, r2)) :
    Calls Try.prog 5 #[.agg #[.int .i64 a0_0, .int .i64 a0_1, .slice A0_2 l0_2.length c0_2]] w fun e w' => ∃ v0_ : Value, e = .returned (.tuple #[v0_, .bool r2]) ∧ Kd.R (Kd.int .i64) 3 w' w.heap.size (fun _ => True) v0_ r1 ∧ Below w.heap.size w w' := by
  have hu33 := Try.underlying33
  have hu31 := Try.underlying31
  have HR0_2 := amk hr0_2
  have HC0_2 := amk hc0_2
  clear hr0_2 hc0_2
  have HB := amk (Below.refl w.heap.size w)
  have H : ((spec_joGood.f k a0_0 a0_1 l0_2).bind fun t215 => (if t215 = true then ((spec_whOf.f k a0_0 a0_1 0).bind fun t216 => ((spec_joFar.f k a0_0 a0_1 l0_2 t216).bind fun t217 => ((spec_joReached.f k t217).bind fun t220 => (spec_NeedlessKnobs.l0 k ([] : List Int) t216 t220 (l0_2.length : Int) 0 a0_0 a0_1 l0_2)))) else (some (([] : List Int), false)))) = some (r1, r2) := h
  clear h
  replace H := Option.bind_eq_some_iff.mp H
  obtain ⟨t215, A20, H⟩ := H
  replace H : (if t215 = true then ((spec_whOf.f k a0_0 a0_1 0).bind fun t216 => ((spec_joFar.f k a0_0 a0_1 l0_2 t216).bind fun t217 => ((spec_joReached.f k t217).bind fun t220 => (spec_NeedlessKnobs.l0 k ([] : List Int) t216 t220 (l0_2.length : Int) 0 a0_0 a0_1 l0_2)))) else (some (([] : List Int), false))) = some (r1, r2) := H
  have A2 := amk A20
  clear A20
  by_cases c3 : t215 = true
  · subst c3
    have H1 : ((spec_whOf.f k a0_0 a0_1 0).bind fun t216 => ((spec_joFar.f k a0_0 a0_1 l0_2 t216).bind fun t217 => ((spec_joReached.f k t217).bind fun t220 => (spec_NeedlessKnobs.l0 k ([] : List Int) t216 t220 (l0_2.length : Int) 0 a0_0 a0_1 l0_2)))) = some (r1, r2) := by rw [if_pos rfl] at H; exact H
    clear H
    have H := H1
    clear H1
    replace H := Option.bind_eq_some_iff.mp H
    obtain ⟨t216, A40, H⟩ := H
    replace H : ((spec_joFar.f k a0_0 a0_1 l0_2 t216).bind fun t217 => ((spec_joReached.f k t217).bind fun t220 => (spec_NeedlessKnobs.l0 k ([] : List Int) t216 t220 (l0_2.length : Int) 0 a0_0 a0_1 l0_2))) = some (r1, r2) := H
    have A4 := amk A40
    clear A40
    replace H := Option.bind_eq_some_iff.mp H
    obtain ⟨t217, A50, H⟩ := H
    replace H : ((spec_joReached.f k t217).bind fun t220 => (spec_NeedlessKnobs.l0 k ([] : List Int) t216 t220 (l0_2.length : Int) 0 a0_0 a0_1 l0_2)) = some (r1, r2) := H
    have A5 := amk A50
    clear A50
    replace H := Option.bind_eq_some_iff.mp H
    obtain ⟨t220, A60, H⟩ := H
    replace H : (spec_NeedlessKnobs.l0 k ([] : List Int) t216 t220 (l0_2.length : Int) 0 a0_0 a0_1 l0_2) = some (r1, r2) := H
    have A6 := amk A60
    clear A60
    have H' := amk H
    clear H
    go_enter Try.func5, Try.ntmps5
    go_wp2_with (first | ((with_reducible refine gate_dst (N := 1) rfl ?_); refine box_event ?hg (N := 1) ?hd (cs := #[.int .i64 a0_0, .int .i64 a0_1, .slice A0_2 l0_2.length c0_2]) (t := 33) ?hr ?_; (case hd => rfl); (case hg => rfl); (case hr => first | (go_simp; done) | (go_simp; rfl)); intro gb214 hg w7 hbox hb; have n0_ := amk (bp_ (by repeat (first | (with_reducible first | exact HB.out | apply ba_ | apply bn_ | apply bd_) | exact HB.out)) hb); have n1_ := amk (hbox); have n2_ := amk ((by rw [hg]; exact (below_size (by repeat (first | (with_reducible first | exact HB.out | apply ba_ | apply bn_ | apply bd_) | exact HB.out))) : w.heap.size ≤ gb214)); have n3_ := amk ((by rw [hg]; exact (below_size (by repeat (first | (with_reducible first | exact HB.out | apply ba_ | apply bn_ | apply bd_) | exact HB.out))) : w.heap.size ≤ gb214)); clear HB; have HB := n0_; have BK214 := n1_; have GW214 := n2_; have GE214 := n3_; clear n0_ n1_ n2_ n3_; clear hb hbox hg; have hcz8_0 : w7.cell? ⟨gb214, 0, none⟩ = some (.int .i64 a0_0) := (blk_cell BK214.out 0).trans rfl; have hcz8_1 : w7.cell? ⟨gb214, 1, none⟩ = some (.int .i64 a0_1) := (blk_cell BK214.out 1).trans rfl; have hcz8_2 : w7.cell? ⟨gb214, 2, none⟩ = some (.slice A0_2 l0_2.length c0_2) := (blk_cell BK214.out 2).trans rfl; have hfz8_0 := blk_frozen BK214.out 0; have hfz8_1 := blk_frozen BK214.out 1; have hfz8_2 := blk_frozen BK214.out 2) | ((with_reducible refine gate_callee (f := 14) rfl ?_); refine goesL_ (some 9) rfl rfl Try.func14 (by kernel_rfl) rfl #[.agg #[.int .i64 a0_0, .int .i64 a0_1, .slice A0_2 l0_2.length c0_2]] rfl (by (try simp only [List.map_toArray, List.map_cons, List.map_nil]); first | done | rfl | (simp only [List.length_drop, List.length_take]; rfl)) ?_; (with_reducible refine (spec_joGood.calls k a0_0 a0_1 _ _ l0_2 true _ ?side1 ?side2 A2.out).mono ?_); (case side1 => repeat (first | exact (Kd.C_below HR0_2.out HB.out) | (with_reducible refine Kd.C_alloc ?_ _) | (with_reducible refine Kd.C_drewN ?_ _) | (with_reducible refine Kd.C_drew ?_))); (case side2 => exact HC0_2.out); rintro e w9 ⟨rfl, hb⟩; refine ⟨_, rfl, ?_⟩; have n0_ := amk (blk_below (g := gb214) (o := .cells #[.int .i64 a0_0, .int .i64 a0_1, .slice A0_2 l0_2.length c0_2] 33 (0, 0)) (by (with_reducible repeat (first | refine kn_ ?_ _ | refine blk_drew ?_ | refine ka_ ?_ _)); exact BK214.out) hb); have n1_ := amk (bp_ (by repeat (first | (with_reducible first | exact HB.out | apply ba_ | apply bn_ | apply bd_ | refine bs_ ?_ GE214.out) | exact HB.out)) hb); clear BK214; clear HB; have BK214 := n0_; have HB := n1_; clear n0_ n1_; (try clear hb); (try clear hb2); (try clear hk); (try clear hi); have hcz10_0 : w9.cell? ⟨gb214, 0, none⟩ = some (.int .i64 a0_0) := (blk_cell BK214.out 0).trans rfl; have hcz10_1 : w9.cell? ⟨gb214, 1, none⟩ = some (.int .i64 a0_1) := (blk_cell BK214.out 1).trans rfl; have hcz10_2 : w9.cell? ⟨gb214, 2, none⟩ = some (.slice A0_2 l0_2.length c0_2) := (blk_cell BK214.out 2).trans rfl; have hfz10_0 := blk_frozen BK214.out 0; have hfz10_1 := blk_frozen BK214.out 1; have hfz10_2 := blk_frozen BK214.out 2) | ((with_reducible refine gate_callee (f := 15) rfl ?_); refine goesL_ (some 13) rfl rfl Try.func15 (by kernel_rfl) rfl #[.agg #[.int .i64 a0_0, .int .i64 a0_1], .int .i64 0] rfl (by (try simp only [List.map_toArray, List.map_cons, List.map_nil]); first | done | rfl | (simp only [List.length_drop, List.length_take]; rfl)) ?_; (with_reducible refine (spec_whOf.calls k a0_0 a0_1 0 t216 _ A4.out).mono ?_); rintro e w11 ⟨rfl, hb⟩; refine ⟨_, rfl, ?_⟩; have n0_ := amk (blk_below (g := gb214) (o := .cells #[.int .i64 a0_0, .int .i64 a0_1, .slice A0_2 l0_2.length c0_2] 33 (0, 0)) (by (with_reducible repeat (first | refine kn_ ?_ _ | refine blk_drew ?_ | refine ka_ ?_ _)); exact BK214.out) hb); have n1_ := amk (bp_ (by repeat (first | (with_reducible first | exact HB.out | apply ba_ | apply bn_ | apply bd_ | refine bs_ ?_ GE214.out) | exact HB.out)) hb); clear BK214; clear HB; have BK214 := n0_; have HB := n1_; clear n0_ n1_; (try clear hb); (try clear hb2); (try clear hk); (try clear hi); have hcz12_0 : w11.cell? ⟨gb214, 0, none⟩ = some (.int .i64 a0_0) := (blk_cell BK214.out 0).trans rfl; have hcz12_1 : w11.cell? ⟨gb214, 1, none⟩ = some (.int .i64 a0_1) := (blk_cell BK214.out 1).trans rfl; have hcz12_2 : w11.cell? ⟨gb214, 2, none⟩ = some (.slice A0_2 l0_2.length c0_2) := (blk_cell BK214.out 2).trans rfl; have hfz12_0 := blk_frozen BK214.out 0; have hfz12_1 := blk_frozen BK214.out 1; have hfz12_2 := blk_frozen BK214.out 2) | ((with_reducible refine gate_callee (f := 17) rfl ?_); refine goesL_ (some 16) rfl rfl Try.func17 (by kernel_rfl) rfl #[.agg #[.int .i64 a0_0, .int .i64 a0_1, .slice A0_2 l0_2.length c0_2], .string t216] rfl (by (try simp only [List.map_toArray, List.map_cons, List.map_nil]); first | done | rfl | (simp only [List.length_drop, List.length_take]; rfl)) ?_; (with_reducible refine (spec_joFar.calls k a0_0 a0_1 _ _ l0_2 t216 t217 _ ?side1 ?side2 A5.out).mono ?_); (case side1 => repeat (first | exact (Kd.C_below HR0_2.out HB.out) | (with_reducible refine Kd.C_alloc ?_ _) | (with_reducible refine Kd.C_drewN ?_ _) | (with_reducible refine Kd.C_drew ?_))); (case side2 => exact HC0_2.out); rintro e w13 ⟨v218, rfl, ho0, hb⟩; refine ⟨_, rfl, ?_⟩; have n0_ := amk (Kd.R_lower ho0 (below_size (by repeat (first | (with_reducible first | exact HB.out | apply ba_ | apply bn_ | apply bd_ | refine bs_ ?_ GE214.out) | exact HB.out)))); have n1_ := amk (blk_below (g := gb214) (o := .cells #[.int .i64 a0_0, .int .i64 a0_1, .slice A0_2 l0_2.length c0_2] 33 (0, 0)) (by (with_reducible repeat (first | refine kn_ ?_ _ | refine blk_drew ?_ | refine ka_ ?_ _)); exact BK214.out) hb); have n2_ := amk (bp_ (by repeat (first | (with_reducible first | exact HB.out | apply ba_ | apply bn_ | apply bd_ | refine bs_ ?_ GE214.out) | exact HB.out)) hb); clear BK214; clear HB; have HO219 := n0_; have BK214 := n1_; have HB := n2_; clear n0_ n1_ n2_; (try clear hb); (try clear hb2); (try clear hk); (try clear hi); (try clear ho0); obtain ⟨Ao14, co14, eo14⟩ := Kd.R_slice HO219.out; subst eo14) | ((with_reducible refine gate_callee (f := 16) rfl ?_); refine goesL_ (some 17) rfl rfl Try.func16 (by kernel_rfl) rfl #[.slice Ao14 t217.length co14] rfl (by (try simp only [List.map_toArray, List.map_cons, List.map_nil]); first | done | rfl | (simp only [List.length_drop, List.length_take]; rfl)) ?_; (with_reducible refine (spec_joReached.calls k _ _ t217 t220 _ ?side1 ?side2 A6.out).mono ?_); (case side1 => repeat (first | exact (Kd.R_reads' HO219.out).2.2 | (with_reducible refine Kd.C_alloc ?_ _) | (with_reducible refine Kd.C_drewN ?_ _) | (with_reducible refine Kd.C_drew ?_))); (case side2 => exact (Kd.R_reads' HO219.out).2.1); rintro e w' ⟨rfl, ⟨nd, rfl⟩⟩; refine ⟨_, rfl, ?_⟩; have hcz15_0 : w13.cell? ⟨gb214, 0, none⟩ = some (.int .i64 a0_0) := (blk_cell BK214.out 0).trans rfl; have hcz15_1 : w13.cell? ⟨gb214, 1, none⟩ = some (.int .i64 a0_1) := (blk_cell BK214.out 1).trans rfl; have hcz15_2 : w13.cell? ⟨gb214, 2, none⟩ = some (.slice A0_2 l0_2.length c0_2) := (blk_cell BK214.out 2).trans rfl; have hfz15_0 := blk_frozen BK214.out 0; have hfz15_1 := blk_frozen BK214.out 1; have hfz15_2 := blk_frozen BK214.out 2))
    go_loopg [4, 21] k (fun kq v4 v21 w' => ∃ (x4_1 : List Int) (x21_1 : Int), v21 = .int .i64 x21_1 ∧ Aside0 (spec_NeedlessKnobs.l0 kq x4_1 t216 t220 (l0_2.length : Int) x21_1 a0_0 a0_1 l0_2 = some (r1, r2)) ∧ Aside0 (kq ≤ k) ∧ Aside0 (Kd.R (Kd.int .i64) 3 w' w.heap.size (fun _ => True) v4 x4_1) ∧ Aside0 (w'.heap[gb214]? = some (.cells #[.int .i64 a0_0, .int .i64 a0_1, (.slice A0_2 l0_2.length c0_2)] 33 (0, 0))) ∧ Aside0 (Below w.heap.size w w'))
    case atStart => exact ⟨(([] : List Int)), (0), (by first | rfl | (simp; done) | (simp [*]; done)), H', ⟨Nat.le_refl _⟩, ⟨by first | exact Kd.R_nil _ _ _ _ _ | exact Kd.N_nil _ _ _ _ _ | exact Kd.V_nil _ _ _ _ _ | exact Kd.Q_nil _ _ _ _ _ | exact Kd.S_nil _ _ _ _ _⟩, ⟨by (with_reducible repeat (first | refine kn_ ?_ _ | refine blk_drew ?_ | refine ka_ ?_ _)); exact BK214.out⟩, ⟨by repeat (first | (with_reducible first | exact HB.out | apply ba_ | apply bn_ | apply bd_ | refine bs_ ?_ GE214.out) | exact HB.out)⟩⟩
    case round =>
      clear H'
      try clear c1; try clear p2; try clear c3; try clear c5; try clear c14; try clear c15; try clear hcz10_0; try clear hcz10_1; try clear hcz10_2; try clear hcz12_0; try clear hcz12_1; try clear hcz12_2; try clear hcz15_0; try clear hcz15_1; try clear hcz15_2; try clear hcz8_0; try clear hcz8_1; try clear hcz8_2; try clear hfz10_0; try clear hfz10_1; try clear hfz10_2; try clear hfz12_0; try clear hfz12_1; try clear hfz12_2; try clear hfz15_0; try clear hfz15_1; try clear hfz15_2; try clear hfz8_0; try clear hfz8_1; try clear hfz8_2
      obtain ⟨x4_1, x21_1, rfl, HA, HK1, HO_4, BK214, HB⟩ := hrel
      cases gk with
      | zero => exact absurd HA.out (by simp [spec_NeedlessKnobs.l0])
      | succ k1 =>
        have H := HA.out
        clear HA
        simp only [spec_NeedlessKnobs.l0] at H
        by_cases c16 : x21_1 < (l0_2.length : Int)
        · rw [if_pos c16] at H
          have c16b0 : decide (x21_1 < (l0_2.length : Int)) = true := decide_eq_true c16
          clear c16
          by_cases c17 : (l0_2.length : Int) > 1
          · rw [if_pos c17] at H
            have c17b0 : decide (1 < (l0_2.length : Int)) = true := decide_eq_true c17
            have c17b1 : decide (1 < l0_2.length) = true := decide_eq_true (by omega)
            clear c17
            replace H := Option.bind_eq_some_iff.mp H
            obtain ⟨⟨t221, t222, t223⟩, A180, H⟩ := H
            replace H : ((spec_joFar.f k1 t221 t222 t223 t216).bind fun t226 => ((spec_joReached.f k1 t226).bind fun t229 => (if t229 = t220 then (if x4_1.length < 17592186044416 then (spec_NeedlessKnobs.l0 k1 (x4_1 ++ [x21_1]) t216 t220 (l0_2.length : Int) (wrap64 (x21_1 + 1)) a0_0 a0_1 l0_2) else (none)) else (spec_NeedlessKnobs.l0 k1 x4_1 t216 t220 (l0_2.length : Int) (wrap64 (x21_1 + 1)) a0_0 a0_1 l0_2)))) = some (r1, r2) := H
            have A18 := amk A180
            clear A180
            replace H := Option.bind_eq_some_iff.mp H
            obtain ⟨t226, A190, H⟩ := H
            replace H : ((spec_joReached.f k1 t226).bind fun t229 => (if t229 = t220 then (if x4_1.length < 17592186044416 then (spec_NeedlessKnobs.l0 k1 (x4_1 ++ [x21_1]) t216 t220 (l0_2.length : Int) (wrap64 (x21_1 + 1)) a0_0 a0_1 l0_2) else (none)) else (spec_NeedlessKnobs.l0 k1 x4_1 t216 t220 (l0_2.length : Int) (wrap64 (x21_1 + 1)) a0_0 a0_1 l0_2))) = some (r1, r2) := H
            have A19 := amk A190
            clear A190
            replace H := Option.bind_eq_some_iff.mp H
            obtain ⟨t229, A200, H⟩ := H
            replace H : (if t229 = t220 then (if x4_1.length < 17592186044416 then (spec_NeedlessKnobs.l0 k1 (x4_1 ++ [x21_1]) t216 t220 (l0_2.length : Int) (wrap64 (x21_1 + 1)) a0_0 a0_1 l0_2) else (none)) else (spec_NeedlessKnobs.l0 k1 x4_1 t216 t220 (l0_2.length : Int) (wrap64 (x21_1 + 1)) a0_0 a0_1 l0_2)) = some (r1, r2) := H
            have A20 := amk A200
            clear A200
            by_cases c21 : t229 = t220
            · rw [if_pos c21] at H
              have c21b0 : (t229 == t220) = true := beq_iff_eq.mpr c21
              have c21b1 : (t229 != t220) = false := bne_eq_false_iff_eq.mpr c21
              clear c21
              by_cases c22 : x4_1.length < 17592186044416
              · rw [if_pos c22] at H
                have LMc22 := amk c22
                clear c22
                obtain ⟨y230, hy230⟩ : ∃ y_ : List Int, y_ = (x4_1 ++ [x21_1]) := ⟨_, rfl⟩
                replace H : (spec_NeedlessKnobs.l0 k1 y230 t216 t220 (l0_2.length : Int) (wrap64 (x21_1 + 1)) a0_0 a0_1 l0_2) = some (r1, r2) := by first | (rw [hy230]; with_reducible exact H) | (have H2_ := (Option.bind_some _ _).symm.trans H; rw [hy230]; with_reducible exact H2_) | (have H2_ := (Option.bind_some _ _).symm.trans H; with_reducible exact H2_) | with_reducible exact H | (rw [hy230]; exact H) | exact H
                have Ny230 := amk hy230
                clear hy230
                have H' := amk H
                clear H
                have hcz23_0 : wr.cell? ⟨gb214, 0, none⟩ = some (.int .i64 a0_0) := (blk_cell BK214.out 0).trans rfl
                have hcz23_1 : wr.cell? ⟨gb214, 1, none⟩ = some (.int .i64 a0_1) := (blk_cell BK214.out 1).trans rfl
                have hcz23_2 : wr.cell? ⟨gb214, 2, none⟩ = some (.slice A0_2 l0_2.length c0_2) := (blk_cell BK214.out 2).trans rfl
                have hfz23_0 := blk_frozen BK214.out 0
                have hfz23_1 := blk_frozen BK214.out 1
                have hfz23_2 := blk_frozen BK214.out 2
                go_wp2_with (first | (go_at_call 18; (with_reducible refine (spec_joWithout.calls k1 a0_0 a0_1 _ _ l0_2 x21_1 t221 t222 t223 _ ?side1 ?side2 A18.out).mono ?_); (case side1 => repeat (first | exact (Kd.C_below HR0_2.out HB.out) | (with_reducible refine Kd.C_alloc ?_ _) | (with_reducible refine Kd.C_drewN ?_ _) | (with_reducible refine Kd.C_drew ?_))); (case side2 => exact HC0_2.out); rintro e w24 ⟨v224, rfl, ho0, hb⟩; have n0_ := amk (Kd.R_below (by (with_reducible repeat (first | apply Kd.R_alloc | apply Kd.R_drewN | apply Kd.R_drew)); exact HO_4.out) hb); have n1_ := amk (Kd.S_lower (Kd.S_new' ho0 (Kd.R_lt (by (with_reducible repeat (first | apply Kd.R_alloc | apply Kd.R_drewN | apply Kd.R_drew)); exact HO_4.out))) (below_size (by repeat (first | (with_reducible first | exact HB.out | apply ba_ | apply bn_ | apply bd_ | refine bs_ ?_ GE214.out) | exact HB.out)))); have n2_ := amk (blk_below (g := gb214) (o := .cells #[.int .i64 a0_0, .int .i64 a0_1, .slice A0_2 l0_2.length c0_2] 33 (0, 0)) (by (with_reducible repeat (first | refine kn_ ?_ _ | refine blk_drew ?_ | refine ka_ ?_ _)); exact BK214.out) hb); have n3_ := amk (bp_ (by repeat (first | (with_reducible first | exact HB.out | apply ba_ | apply bn_ | apply bd_ | refine bs_ ?_ GE214.out) | exact HB.out)) hb); clear HO_4; clear BK214; clear HB; have HO_4 := n0_; have HO225 := n1_; have BK214 := n2_; have HB := n3_; clear n0_ n1_ n2_ n3_; (try clear hb); (try clear hb2); (try clear hk); (try clear hi); (try clear ho0); obtain ⟨Ao25, co25, eo25⟩ := Kd.S_slice HO225.out; subst eo25) | (go_at_call 17; (with_reducible refine (spec_joFar.calls k1 t221 t222 _ _ t223 t216 t226 _ ?side1 ?side2 A19.out).mono ?_); (case side1 => repeat (first | exact (Kd.S_reads' HO225.out).2.2 | (with_reducible refine Kd.C_alloc ?_ _) | (with_reducible refine Kd.C_drewN ?_ _) | (with_reducible refine Kd.C_drew ?_))); (case side2 => exact (Kd.S_reads' HO225.out).2.1); rintro e w26 ⟨v227, rfl, ho0, hb⟩; have n0_ := amk (Kd.R_elder' (by (with_reducible repeat (first | apply Kd.R_alloc | apply Kd.R_drewN | apply Kd.R_drew)); exact HO_4.out) (Kd.R_base ho0) hb); have n1_ := amk (Kd.S_elder' (by (with_reducible repeat (first | apply Kd.S_alloc | apply Kd.S_drewN | apply Kd.S_drew)); exact HO225.out) (Kd.R_base ho0) hb); have n2_ := amk (Kd.R_lower (Kd.R_new' ho0 (Kd.R_lt (by (with_reducible repeat (first | apply Kd.R_alloc | apply Kd.R_drewN | apply Kd.R_drew)); exact HO_4.out))) (below_size (by repeat (first | (with_reducible first | exact HB.out | apply ba_ | apply bn_ | apply bd_ | refine bs_ ?_ GE214.out) | exact HB.out)))); have n3_ := amk (blk_below (g := gb214) (o := .cells #[.int .i64 a0_0, .int .i64 a0_1, .slice A0_2 l0_2.length c0_2] 33 (0, 0)) (by (with_reducible repeat (first | refine kn_ ?_ _ | refine blk_drew ?_ | refine ka_ ?_ _)); exact BK214.out) hb); have n4_ := amk (bp_ (by repeat (first | (with_reducible first | exact HB.out | apply ba_ | apply bn_ | apply bd_ | refine bs_ ?_ GE214.out) | exact HB.out)) hb); clear HO_4; clear HO225; clear BK214; clear HB; have HO_4 := n0_; have HO225 := n1_; have HO228 := n2_; have BK214 := n3_; have HB := n4_; clear n0_ n1_ n2_ n3_ n4_; (try clear hb); (try clear hb2); (try clear hk); (try clear hi); (try clear ho0); obtain ⟨Ao27, co27, eo27⟩ := Kd.R_slice HO228.out; subst eo27) | (go_at_call 16; (with_reducible refine (spec_joReached.calls k1 _ _ t226 t229 _ ?side1 ?side2 A20.out).mono ?_); (case side1 => repeat (first | exact (Kd.R_reads' HO228.out).2.2 | (with_reducible refine Kd.C_alloc ?_ _) | (with_reducible refine Kd.C_drewN ?_ _) | (with_reducible refine Kd.C_drew ?_))); (case side2 => exact (Kd.R_reads' HO228.out).2.1); rintro e w' ⟨rfl, ⟨nd, rfl⟩⟩) | ((with_reducible refine gate_builtin (b := .append) (xs := #[.tmp 38, .tmp 40]) rfl ?_); at_builtin; refine Kd.R_append (Kd.int .i64) (w0 := w) w.heap.size rfl (.tmp 38) (.tmp 40) 28 3 (.int .i64 0) 8 rfl Try.underlying28 info3 rfl (by decide) (by omega) u4 x4_1 x21_1 [.int .i64 x21_1] (fun k_ => some k_ ≠ (.slice Ao27 t226.length co27 : Value).ownBlock) (fun _ => False) rfl rfl ?aP (fun _ hk => hk.elim) ?aF ?aO ?aB ?aS ?aL ?_; (case aP => exact rfl); (case aB => exact (by repeat (first | (with_reducible first | exact HB.out | apply ba_ | apply bn_ | apply bd_ | refine bs_ ?_ GE214.out) | exact HB.out))); (case aF => exact (fun k_ hk => Kd.fresh' (Kd.R_lt (by (with_reducible repeat (first | apply Kd.R_alloc | apply Kd.R_drewN | apply Kd.R_drew)); exact HO228.out)) k_ hk)); (case aO => exact (by (with_reducible repeat (first | apply Kd.R_alloc | apply Kd.R_drewN | apply Kd.R_drew)); exact Kd.R_mono HO_4.out (fun _ hk => hk.2))); (case aS => exact (below_size (by repeat (first | (with_reducible first | exact HB.out | apply ba_ | apply bn_ | apply bd_ | refine bs_ ?_ GE214.out) | exact HB.out)))); (case aL => have := LMc22.out; omega); intro v231 w28 ho hb hg hat; rw [← Ny230.out] at ho; have n0_ := amk (blk_grown (g := gb214) (o := .cells #[.int .i64 a0_0, .int .i64 a0_1, .slice A0_2 l0_2.length c0_2] 33 (0, 0)) (by (with_reducible repeat (first | refine kn_ ?_ _ | refine blk_drew ?_ | refine ka_ ?_ _)); exact BK214.out) hg (Kd.R_ne HO_4.out BK214.out (by decide))); have n1_ := amk (Kd.S_after (ok := (fun k_ => some k_ ≠ (.slice Ao27 t226.length co27 : Value).ownBlock)) (by (with_reducible repeat (first | apply Kd.S_alloc | apply Kd.S_drewN | apply Kd.S_drew)); exact Kd.S_mono HO225.out (fun _ hk => ⟨hk.2, hk.1.2⟩)) hg hat); have n2_ := amk (Kd.R_after (ok := (fun _ => True)) (by (with_reducible repeat (first | apply Kd.R_alloc | apply Kd.R_drewN | apply Kd.R_drew)); exact HO228.out) hg hat); have n3_ := amk (hb); have n4_ := amk (ho); clear BK214; clear HO225; clear HO228; clear HB; clear HO_4; have BK214 := n0_; have HO225 := n1_; have HO228 := n2_; have HB := n3_; have HO232 := n4_; clear n0_ n1_ n2_ n3_ n4_; clear ho hb hg hat))
                go_roundg k1
                case measure => have := HK1.out; omega
                case rel => exact ⟨(y230), (wrap64 (x21_1 + 1)), (by first | rfl | (simp; done) | (simp [*]; done)), H', ⟨by have := HK1.out; omega⟩, ⟨by (with_reducible repeat (first | apply Kd.R_alloc | apply Kd.R_drewN | apply Kd.R_drew)); exact Kd.R_mono HO232.out (fun _ hk => trivial)⟩, ⟨by (with_reducible repeat (first | refine kn_ ?_ _ | refine blk_drew ?_ | refine ka_ ?_ _)); exact BK214.out⟩, ⟨by repeat (first | (with_reducible first | exact HB.out | apply ba_ | apply bn_ | apply bd_ | refine bs_ ?_ GE214.out) | exact HB.out)⟩⟩
              · rw [if_neg c22] at H
                exact absurd H (by simp)
            · rw [if_neg c21] at H
              have c21b0 : (t229 == t220) = false := beq_eq_false_iff_ne.mpr c21
              have c21b1 : (t229 != t220) = true := bne_iff_ne.mpr c21
              have H' := amk H
              clear H
              have hcz29_0 : wr.cell? ⟨gb214, 0, none⟩ = some (.int .i64 a0_0) := (blk_cell BK214.out 0).trans rfl
              have hcz29_1 : wr.cell? ⟨gb214, 1, none⟩ = some (.int .i64 a0_1) := (blk_cell BK214.out 1).trans rfl
              have hcz29_2 : wr.cell? ⟨gb214, 2, none⟩ = some (.slice A0_2 l0_2.length c0_2) := (blk_cell BK214.out 2).trans rfl
              have hfz29_0 := blk_frozen BK214.out 0
              have hfz29_1 := blk_frozen BK214.out 1
              have hfz29_2 := blk_frozen BK214.out 2
              go_wp2_with (first | (go_at_call 18; (with_reducible refine (spec_joWithout.calls k1 a0_0 a0_1 _ _ l0_2 x21_1 t221 t222 t223 _ ?side1 ?side2 A18.out).mono ?_); (case side1 => repeat (first | exact (Kd.C_below HR0_2.out HB.out) | (with_reducible refine Kd.C_alloc ?_ _) | (with_reducible refine Kd.C_drewN ?_ _) | (with_reducible refine Kd.C_drew ?_))); (case side2 => exact HC0_2.out); rintro e w30 ⟨v224, rfl, ho0, hb⟩; have n0_ := amk (Kd.R_below (by (with_reducible repeat (first | apply Kd.R_alloc | apply Kd.R_drewN | apply Kd.R_drew)); exact HO_4.out) hb); have n1_ := amk (Kd.S_lower (Kd.S_new' ho0 (Kd.R_lt (by (with_reducible repeat (first | apply Kd.R_alloc | apply Kd.R_drewN | apply Kd.R_drew)); exact HO_4.out))) (below_size (by repeat (first | (with_reducible first | exact HB.out | apply ba_ | apply bn_ | apply bd_ | refine bs_ ?_ GE214.out) | exact HB.out)))); have n2_ := amk (blk_below (g := gb214) (o := .cells #[.int .i64 a0_0, .int .i64 a0_1, .slice A0_2 l0_2.length c0_2] 33 (0, 0)) (by (with_reducible repeat (first | refine kn_ ?_ _ | refine blk_drew ?_ | refine ka_ ?_ _)); exact BK214.out) hb); have n3_ := amk (bp_ (by repeat (first | (with_reducible first | exact HB.out | apply ba_ | apply bn_ | apply bd_ | refine bs_ ?_ GE214.out) | exact HB.out)) hb); clear HO_4; clear BK214; clear HB; have HO_4 := n0_; have HO225 := n1_; have BK214 := n2_; have HB := n3_; clear n0_ n1_ n2_ n3_; (try clear hb); (try clear hb2); (try clear hk); (try clear hi); (try clear ho0); obtain ⟨Ao31, co31, eo31⟩ := Kd.S_slice HO225.out; subst eo31) | (go_at_call 17; (with_reducible refine (spec_joFar.calls k1 t221 t222 _ _ t223 t216 t226 _ ?side1 ?side2 A19.out).mono ?_); (case side1 => repeat (first | exact (Kd.S_reads' HO225.out).2.2 | (with_reducible refine Kd.C_alloc ?_ _) | (with_reducible refine Kd.C_drewN ?_ _) | (with_reducible refine Kd.C_drew ?_))); (case side2 => exact (Kd.S_reads' HO225.out).2.1); rintro e w32 ⟨v227, rfl, ho0, hb⟩; have n0_ := amk (Kd.R_elder' (by (with_reducible repeat (first | apply Kd.R_alloc | apply Kd.R_drewN | apply Kd.R_drew)); exact HO_4.out) (Kd.R_base ho0) hb); have n1_ := amk (Kd.S_elder' (by (with_reducible repeat (first | apply Kd.S_alloc | apply Kd.S_drewN | apply Kd.S_drew)); exact HO225.out) (Kd.R_base ho0) hb); have n2_ := amk (Kd.R_lower (Kd.R_new' ho0 (Kd.R_lt (by (with_reducible repeat (first | apply Kd.R_alloc | apply Kd.R_drewN | apply Kd.R_drew)); exact HO_4.out))) (below_size (by repeat (first | (with_reducible first | exact HB.out | apply ba_ | apply bn_ | apply bd_ | refine bs_ ?_ GE214.out) | exact HB.out)))); have n3_ := amk (blk_below (g := gb214) (o := .cells #[.int .i64 a0_0, .int .i64 a0_1, .slice A0_2 l0_2.length c0_2] 33 (0, 0)) (by (with_reducible repeat (first | refine kn_ ?_ _ | refine blk_drew ?_ | refine ka_ ?_ _)); exact BK214.out) hb); have n4_ := amk (bp_ (by repeat (first | (with_reducible first | exact HB.out | apply ba_ | apply bn_ | apply bd_ | refine bs_ ?_ GE214.out) | exact HB.out)) hb); clear HO_4; clear HO225; clear BK214; clear HB; have HO_4 := n0_; have HO225 := n1_; have HO228 := n2_; have BK214 := n3_; have HB := n4_; clear n0_ n1_ n2_ n3_ n4_; (try clear hb); (try clear hb2); (try clear hk); (try clear hi); (try clear ho0); obtain ⟨Ao33, co33, eo33⟩ := Kd.R_slice HO228.out; subst eo33) | (go_at_call 16; (with_reducible refine (spec_joReached.calls k1 _ _ t226 t229 _ ?side1 ?side2 A20.out).mono ?_); (case side1 => repeat (first | exact (Kd.R_reads' HO228.out).2.2 | (with_reducible refine Kd.C_alloc ?_ _) | (with_reducible refine Kd.C_drewN ?_ _) | (with_reducible refine Kd.C_drew ?_))); (case side2 => exact (Kd.R_reads' HO228.out).2.1); rintro e w' ⟨rfl, ⟨nd, rfl⟩⟩))
              go_roundg k1
              case measure => have := HK1.out; omega
              case rel => exact ⟨(x4_1), (wrap64 (x21_1 + 1)), (by first | rfl | (simp; done) | (simp [*]; done)), H', ⟨by have := HK1.out; omega⟩, ⟨by (with_reducible repeat (first | apply Kd.R_alloc | apply Kd.R_drewN | apply Kd.R_drew)); exact Kd.R_mono HO_4.out (fun _ hk => trivial)⟩, ⟨by (with_reducible repeat (first | refine kn_ ?_ _ | refine blk_drew ?_ | refine ka_ ?_ _)); exact BK214.out⟩, ⟨by repeat (first | (with_reducible first | exact HB.out | apply ba_ | apply bn_ | apply bd_ | refine bs_ ?_ GE214.out) | exact HB.out)⟩⟩
          · rw [if_neg c17] at H
            have c17b0 : decide (1 < (l0_2.length : Int)) = false := decide_eq_false c17
            have c17b1 : decide (1 < l0_2.length) = false := decide_eq_false (by omega)
            clear c17
            have H' := amk H
            clear H
            have hcz34_0 : wr.cell? ⟨gb214, 0, none⟩ = some (.int .i64 a0_0) := (blk_cell BK214.out 0).trans rfl
            have hcz34_1 : wr.cell? ⟨gb214, 1, none⟩ = some (.int .i64 a0_1) := (blk_cell BK214.out 1).trans rfl
            have hcz34_2 : wr.cell? ⟨gb214, 2, none⟩ = some (.slice A0_2 l0_2.length c0_2) := (blk_cell BK214.out 2).trans rfl
            have hfz34_0 := blk_frozen BK214.out 0
            have hfz34_1 := blk_frozen BK214.out 1
            have hfz34_2 := blk_frozen BK214.out 2
            go_wp2
            go_roundg k1
            case measure => have := HK1.out; omega
            case rel => exact ⟨(x4_1), (wrap64 (x21_1 + 1)), (by first | rfl | (simp; done) | (simp [*]; done)), H', ⟨by have := HK1.out; omega⟩, ⟨by (with_reducible repeat (first | apply Kd.R_alloc | apply Kd.R_drewN | apply Kd.R_drew)); exact HO_4.out⟩, ⟨by (with_reducible repeat (first | refine kn_ ?_ _ | refine blk_drew ?_ | refine ka_ ?_ _)); exact BK214.out⟩, ⟨by repeat (first | (with_reducible first | exact HB.out | apply ba_ | apply bn_ | apply bd_ | refine bs_ ?_ GE214.out) | exact HB.out)⟩⟩
        · rw [if_neg c16] at H
          have c16b0 : decide (x21_1 < (l0_2.length : Int)) = false := decide_eq_false c16
          clear c16
          simp only [Option.some.injEq, Prod.mk.injEq] at H
          obtain ⟨rfl, rfl⟩ := H
          go_wp2
          go_ret2
          exact ⟨_, by first | rfl | (simp [errW_none, errW_some] <;> rfl) | (simp [*, errW_none, errW_some] <;> rfl), by (with_reducible repeat (first | apply Kd.R_alloc | apply Kd.R_drewN | apply Kd.R_drew)); exact HO_4.out, by repeat (first | (with_reducible first | exact HB.out | apply ba_ | apply bn_ | apply bd_ | refine bs_ ?_ GE214.out) | exact HB.out)⟩
  · replace c3 := Bool.eq_false_iff.mpr c3
    subst c3
    have H1 : (some (([] : List Int), false)) = some (r1, r2) := by rw [if_neg (show ¬ (false = true) by decide)] at H; exact H
    clear H
    have H := H1
    clear H1
    simp only [Option.some.injEq, Prod.mk.injEq] at H
    obtain ⟨rfl, rfl⟩ := H
    go_enter Try.func5, Try.ntmps5
    go_wp2_with (first | ((with_reducible refine gate_dst (N := 1) rfl ?_); refine box_event ?hg (N := 1) ?hd (cs := #[.int .i64 a0_0, .int .i64 a0_1, .slice A0_2 l0_2.length c0_2]) (t := 33) ?hr ?_; (case hd => rfl); (case hg => rfl); (case hr => first | (go_simp; done) | (go_simp; rfl)); intro gb214 hg w35 hbox hb; have n0_ := amk (bp_ (by repeat (first | (with_reducible first | exact HB.out | apply ba_ | apply bn_ | apply bd_) | exact HB.out)) hb); have n1_ := amk (hbox); have n2_ := amk ((by rw [hg]; exact (below_size (by repeat (first | (with_reducible first | exact HB.out | apply ba_ | apply bn_ | apply bd_) | exact HB.out))) : w.heap.size ≤ gb214)); have n3_ := amk ((by rw [hg]; exact (below_size (by repeat (first | (with_reducible first | exact HB.out | apply ba_ | apply bn_ | apply bd_) | exact HB.out))) : w.heap.size ≤ gb214)); clear HB; have HB := n0_; have BK214 := n1_; have GW214 := n2_; have GE214 := n3_; clear n0_ n1_ n2_ n3_; clear hb hbox hg; have hcz36_0 : w35.cell? ⟨gb214, 0, none⟩ = some (.int .i64 a0_0) := (blk_cell BK214.out 0).trans rfl; have hcz36_1 : w35.cell? ⟨gb214, 1, none⟩ = some (.int .i64 a0_1) := (blk_cell BK214.out 1).trans rfl; have hcz36_2 : w35.cell? ⟨gb214, 2, none⟩ = some (.slice A0_2 l0_2.length c0_2) := (blk_cell BK214.out 2).trans rfl; have hfz36_0 := blk_frozen BK214.out 0; have hfz36_1 := blk_frozen BK214.out 1; have hfz36_2 := blk_frozen BK214.out 2) | ((with_reducible refine gate_callee (f := 14) rfl ?_); refine goesL_ (some 9) rfl rfl Try.func14 (by kernel_rfl) rfl #[.agg #[.int .i64 a0_0, .int .i64 a0_1, .slice A0_2 l0_2.length c0_2]] rfl (by (try simp only [List.map_toArray, List.map_cons, List.map_nil]); first | done | rfl | (simp only [List.length_drop, List.length_take]; rfl)) ?_; (with_reducible refine (spec_joGood.calls k a0_0 a0_1 _ _ l0_2 false _ ?side1 ?side2 A2.out).mono ?_); (case side1 => repeat (first | exact (Kd.C_below HR0_2.out HB.out) | (with_reducible refine Kd.C_alloc ?_ _) | (with_reducible refine Kd.C_drewN ?_ _) | (with_reducible refine Kd.C_drew ?_))); (case side2 => exact HC0_2.out); rintro e w37 ⟨rfl, hb⟩; refine ⟨_, rfl, ?_⟩; have n0_ := amk (blk_below (g := gb214) (o := .cells #[.int .i64 a0_0, .int .i64 a0_1, .slice A0_2 l0_2.length c0_2] 33 (0, 0)) (by (with_reducible repeat (first | refine kn_ ?_ _ | refine blk_drew ?_ | refine ka_ ?_ _)); exact BK214.out) hb); have n1_ := amk (bp_ (by repeat (first | (with_reducible first | exact HB.out | apply ba_ | apply bn_ | apply bd_ | refine bs_ ?_ GE214.out) | exact HB.out)) hb); clear BK214; clear HB; have BK214 := n0_; have HB := n1_; clear n0_ n1_; (try clear hb); (try clear hb2); (try clear hk); (try clear hi)))
    go_ret2
    exact ⟨_, by first | rfl | (simp [errW_none, errW_some] <;> rfl) | (simp [*, errW_none, errW_some] <;> rfl), by first | exact Kd.R_nil _ _ _ _ _ | exact Kd.N_nil _ _ _ _ _ | exact Kd.V_nil _ _ _ _ _ | exact Kd.Q_nil _ _ _ _ _ | exact Kd.S_nil _ _ _ _ _, by repeat (first | (with_reducible first | exact HB.out | apply ba_ | apply bn_ | apply bd_ | refine bs_ ?_ GE214.out) | exact HB.out)⟩
/-! laws.markIntSS, by hand: each row is lent, written, and given back. -/
def markRows (k : Nat) : List (List Int) → Int → Option (Int × List (List Int))
  | [], a => some (a, [])
  | x :: t, a => (laws_markIntS.f k x a).bind fun p => (markRows k t p.1).bind fun q => some (q.1, p.2 :: q.2)
def laws_markIntSS.f (k : Nat) (l : List (List Int)) (a : Int) : Option (Int × List (List Int)) := markRows k l a
theorem laws_markIntSS.empty (u : Value) (a1 : Int) (w : World) (A : Option Addr) (c : Nat) (hu : u = .slice A 0 c) : Calls Try.prog 27 #[u, .int .i64 a1] w fun e w' => e = .returned (.int .i64 a1) ∧ w' = w := by
  subst hu
  have hu35 := Try.underlying24
  go_enter Try.func27, Try.ntmps27
  go_wp2
  go_loopg [1, 5] 0 (fun gg s1 s5 wr => s1 = .int .i64 a1 ∧ s5 = .int .i64 0 ∧ wr = w)
  case atStart => exact ⟨rfl, rfl, rfl⟩
  case round =>
    obtain ⟨rfl, rfl, rfl⟩ := hrel
    go_wp2
    go_ret
    exact ⟨rfl, rfl⟩
set_option maxHeartbeats 4000000 in
set_option maxRecDepth 100000 in
theorem laws_markIntSS.calls (k : Nat) (P0_ : Nat → Prop) (u9000_ : Value) (l0 : List (List Int)) (a1 : Int) (r1 : Int) (r2 : List (List Int)) (w0 w : World) (hB : Below w0.heap.size w0 w) (ho0 : Kd.S (Kd.slice 3 (Kd.int .i64)) 28 w w0.heap.size P0_ u9000_ l0) (h : laws_markIntSS.f k l0 a1 = some (r1, r2)) :
    Calls Try.prog 27 #[u9000_, .int .i64 a1] w fun e w' => e = .returned (.int .i64 r1) ∧ Kd.S (Kd.slice 3 (Kd.int .i64)) 28 w' w0.heap.size P0_ u9000_ r2 ∧ Below w0.heap.size w0 w' ∧ Kept w w' P0_ := by
  by_cases hpos : 0 < l0.length
  · obtain ⟨g, cap, rfl, hg1, hg2, _⟩ := Kd.S_form ho0 hpos
    have hbig := (Kd.S_reads' ho0).2.2.2.1
    have hu35 := Try.underlying24
    unfold laws_markIntSS.f at h
    have HO := amk ho0
    have H := amk h
    have HB := amk hB
    clear ho0 h hB hg1 hg2 hpos
    generalize hn : l0.length = n at hbig
    have HN := amk hn
    clear hn
    go_enter Try.func27, Try.ntmps27
    go_wp2
    go_loopg [1, 5] n (fun gg s1 s5 wr => ∃ (i : Nat) (a : Int) (D R' : List (List Int)), s1 = .int .i64 a ∧ s5 = .int .i64 (i : Int) ∧ Aside0 (i ≤ n) ∧ Aside0 (n - i ≤ gg) ∧ Aside0 (D.length = i) ∧ Aside0 (markRows k (l0.drop i) a = some (r1, R')) ∧ Aside0 (r2 = D ++ R') ∧ Aside0 (Kd.S (Kd.slice 3 (Kd.int .i64)) 28 wr w0.heap.size P0_ (.slice (some ⟨g, 0, none⟩) n cap) (D ++ l0.drop i)) ∧ Aside0 (Below w0.heap.size w0 wr) ∧ Aside0 (Kept w wr P0_))
    case atStart => exact ⟨0, a1, [], r2, rfl, rfl, ⟨by omega⟩, ⟨by omega⟩, ⟨rfl⟩, H, ⟨rfl⟩, ⟨by have := HO.out; rw [HN.out] at this; exact this⟩, HB, ⟨Kept.refl _ _⟩⟩
    case round =>
      obtain ⟨i, a, D, R', rfl, rfl, HI, HG, HD, HM, HR2, HS, HBB, HK⟩ := hrel
      by_cases hlt : i < n
      · have hlw : decide ((i : Int) < (n : Int)) = true := decide_eq_true (by omega)
        have hlwn : decide (i < n) = true := decide_eq_true hlt
        have hiz : ((0 : Int) ≤ (i : Int)) = True := eq_true (by omega)
        have hlz2 : ((i : Int) < (n : Int)) = True := eq_true (by omega)
        have hnl := HN.out
        have hdr : l0.drop i = l0[i] :: l0.drop (i + 1) := List.drop_eq_getElem_cons (by omega)
        have hm := HM.out
        rw [hdr] at hm
        unfold markRows at hm
        obtain ⟨p, hp, hm⟩ := Option.bind_eq_some_iff.mp hm
        obtain ⟨q, hq, hm⟩ := Option.bind_eq_some_iff.mp hm
        obtain ⟨pa, px⟩ := p
        obtain ⟨qa, qx⟩ := q
        injection hm with hm
        injection hm with e1 e2
        subst e1
        obtain ⟨oki, cs, hcl, hMx, hcc, hoki, hH⟩ := Kd.S_lend HS.out [] (i : Int) (by omega) (by omega)
        have hx : (D ++ l0.drop i).getD (i : Int).toNat [] = l0[i] := by
          have hd := HD.out
          rw [Int.toNat_natCast, hdr, List.getD_eq_getElem?_getD, List.getElem?_append_right (by omega), hd, Nat.sub_self]
          rfl
        rw [hx] at hMx
        obtain ⟨v, rfl, hRv⟩ := hMx
        have hcell := hcc 0 v rfl
        simp only [Int.toNat_natCast] at hcell
        rw [show i * (Kd.slice 3 (Kd.int .i64)).sz + 0 = i from Nat.mul_one i] at hcell
        have HV := amk hRv
        have HH := amk hH
        have HP := amk hp
        have HQ := amk hq
        have HE2 := amk e2
        have HOK := amk hoki
        have HDR := amk hdr
        have hw1 : wrap64 ((i : Int) + 1) = ((i + 1 : Nat) : Int) := by unfold wrap64; omega
        clear hRv hH hp hq hm e2 hcc hcl hx hdr hoki
        have HLT := amk hlt
        go_wp2_with (go_at_call 11; refine (laws_markIntS.calls k oki _ _ _ _ _ w0 _ HBB.out HV.out HP.out).mono ?_; rintro e w9 ⟨rfl, hr9, hb9, hk9⟩)
        go_roundg (n - (i + 1))
        case measure => have := HG.out; have := HLT.out; omega
        case rel =>
          have hd := HD.out
          have hR9 : (Kd.int .i64).R 3 w9 w0.heap.size oki v px := Kd.R_reok rfl hr9 (fun k_ e_ => HV.out.1 k_ e_)
          have hM9 : (Kd.slice 3 (Kd.int .i64)).M w9 w0.heap.size oki px [v] := ⟨v, rfl, hR9⟩
          have hH9 := Kd.H_kept HH.out hk9 (fun k_ _ hn => hn)
          have hS9 := Kd.H_back hH9 hM9 (fun _ h => h)
          have hset : (D ++ l0.drop i).set (i : Int).toNat px = (D ++ [px]) ++ l0.drop (i + 1) := by
            rw [Int.toNat_natCast, HDR.out, List.set_append_right _ _ (by omega), hd, Nat.sub_self, List.set_cons_zero, List.append_assoc]
            rfl
          rw [hset] at hS9
          refine ⟨i + 1, pa, D ++ [px], qx, rfl, rfl, ⟨by have := HLT.out; omega⟩, ⟨by omega⟩, ⟨by rw [List.length_append, hd]; rfl⟩, HQ, ⟨by rw [HR2.out, ← HE2.out, List.append_assoc]; rfl⟩, ⟨hS9⟩, ⟨hb9⟩, ⟨HK.out.then_ hk9 (fun k_ hk => .inl (HOK.out k_ hk).1)⟩⟩
      · have hlw : decide ((i : Int) < (n : Int)) = false := decide_eq_false (by omega)
        have hlwn : decide (i < n) = false := decide_eq_false hlt
        have hin : i = n := by have := HI.out; omega
        have hm := HM.out
        rw [List.drop_eq_nil_of_le (by rw [HN.out]; omega)] at hm
        unfold markRows at hm
        injection hm with hm
        injection hm with e1 e2
        subst e1
        have HSX := HS.out
        rw [List.drop_eq_nil_of_le (by rw [HN.out]; omega), e2, ← HR2.out] at HSX
        have HSXX := amk HSX
        clear HSX hin hlt e2
        go_wp2
        go_ret
        exact ⟨rfl, HSXX.out, HBB.out, HK.out⟩
  · obtain rfl : l0 = [] := List.length_eq_zero_iff.mp (by omega)
    obtain ⟨A, c, he⟩ := Kd.S_slice ho0
    unfold laws_markIntSS.f markRows at h
    injection h with h
    injection h with e1 e2
    subst e1 e2
    refine (laws_markIntSS.empty u9000_ a1 w A c he).mono ?_
    rintro e w' ⟨rfl, rfl⟩
    exact ⟨rfl, ho0, hB, Kept.refl _ _⟩
/-! laws.markGears, by hand. -/
def laws_markGears.f (k : Nat) (n d : Int) (l : List (List Int)) (a : Int) : Option (Int × List (List Int)) := laws_markIntSS.f k l a
set_option maxRecDepth 100000 in
theorem laws_markGears.calls (k : Nat) (P0_ : Nat → Prop) (n d : Int) (A : Option Addr) (m c : Nat) (l0 : List (List Int)) (a1 : Int) (r1 : Int) (r2 : List (List Int)) (w0 w : World) (hB : Below w0.heap.size w0 w) (hP : ∀ j, P0_ j → j < w.heap.size) (ho0 : Kd.S (Kd.slice 3 (Kd.int .i64)) 28 w w0.heap.size P0_ (.slice A m c) l0) (h : laws_markGears.f k n d l0 a1 = some (r1, r2)) :
    Calls Try.prog 10 #[.agg #[.int .i64 n, .int .i64 d, .slice A m c], .int .i64 a1] w fun e w' => e = .returned (.int .i64 r1) ∧ Kd.S (Kd.slice 3 (Kd.int .i64)) 28 w' w0.heap.size P0_ (.slice A m c) r2 ∧ Below w0.heap.size w0 w' ∧ Kept w w' P0_ := by
  have hu41 := Try.underlying33
  have hu35 := Try.underlying24
  have HO := amk (Kd.S_alloc ho0 (.cells #[.int .i64 n, .int .i64 d, .slice A m c] 33 (0, 0)))
  have H := amk h
  have HB := amk (hB.alloc hB.size (.cells #[.int .i64 n, .int .i64 d, .slice A m c] 33 (0, 0)))
  clear ho0 h hB
  go_enter Try.func10, Try.ntmps10
  go_wp2_with (go_at_call 27; refine (laws_markIntSS.calls k P0_ _ _ _ _ _ w0 _ HB.out HO.out H.out).mono ?_; rintro e w9 ⟨rfl, hs9, hb9, hk9⟩)
  go_ret
  exact ⟨rfl, hs9, hb9, ⟨by have := hk9.1; simp at this; omega, fun i hi hn => (hk9.2 i (by simp; omega) hn).trans (((Below.refl _ w).alloc (Nat.le_refl _) _).block i hi)⟩⟩
/-! laws.FnExactNeedlessKnobs, by hand: the argument's rows are marked. (Printed by gennk.py) -/
def NKst (w W : World) (n d : Int) (A : Option Addr) (c : Nat) (L Lx : List (List Int)) (bx ax : Nat) (Ax : Option Addr) (cx : Nat) (aw bw : Nat) (Aw : Option Addr) (cw : Nat) (V : List Int) (ag bg : Nat) (Ag : Option Addr) (cg : Nat) (Vg : List Int) : Prop :=
  Below w.heap.size w W ∧ W.heap[w.heap.size]? = some (.cells #[.int .i64 n, .int .i64 d, .slice A L.length c] 26 (0, 0)) ∧ W.heap[bx]? = some (.cells #[.int .i64 n, .int .i64 d, .slice Ax L.length cx] 33 (0, 0)) ∧ Kd.S (Kd.slice 3 (Kd.int .i64)) 28 W w.heap.size (fun j => ax ≤ j ∧ j < bx) (.slice Ax L.length cx) Lx ∧ Kd.R (Kd.int .i64) 3 W w.heap.size (fun j => aw ≤ j ∧ j < bw) (.slice Aw V.length cw) V ∧ Kd.R (Kd.int .i64) 3 W w.heap.size (fun j => ag ≤ j ∧ j < bg) (.slice Ag V.length cg) Vg ∧ (w.heap.size < aw ∧ aw ≤ bw ∧ bw ≤ ax ∧ ax ≤ bx ∧ bx < ag ∧ ag ≤ bg ∧ bg ≤ W.heap.size)
section
variable {w W W2 : World} {n d : Int} {A : Option Addr} {c : Nat} {L Lx Lx' : List (List Int)} {bx ax : Nat} {Ax : Option Addr} {cx aw bw : Nat} {Aw : Option Addr} {cw : Nat} {V : List Int} {ag bg : Nat} {Ag : Option Addr} {cg : Nat} {Vg Vg' : List Int}
theorem NKst_below (h : NKst w W n d A c L Lx bx ax Ax cx aw bw Aw cw V ag bg Ag cg Vg) (hb : Below W.heap.size W W2) : NKst w W2 n d A c L Lx bx ax Ax cx aw bw Aw cw V ag bg Ag cg Vg := by
  obtain ⟨h1, h2, h3, h4, h5, h6, h7⟩ := h
  have hs := hb.size
  exact ⟨h1.trans (hb.mono h1.size), (hb.block _ (by omega)).trans h2, (hb.block _ (by omega)).trans h3, Kd.S_below h4 hb, Kd.R_below h5 hb, Kd.R_below h6 hb, by omega⟩
theorem NKst_markX (h : NKst w W n d A c L Lx bx ax Ax cx aw bw Aw cw V ag bg Ag cg Vg) (hk : Kept W W2 (fun j => ax ≤ j ∧ j < bx)) (hb : Below w.heap.size w W2) (hs : Kd.S (Kd.slice 3 (Kd.int .i64)) 28 W2 w.heap.size (fun j => ax ≤ j ∧ j < bx) (.slice Ax L.length cx) Lx') : NKst w W2 n d A c L Lx' bx ax Ax cx aw bw Aw cw V ag bg Ag cg Vg := by
  obtain ⟨h1, h2, h3, h4, h5, h6, h7⟩ := h
  have hz := hk.1
  exact ⟨hb, (hk.2 _ (by omega) (by omega)).trans h2, (hk.2 _ (by omega) (by omega)).trans h3, hs, Kd.R_kept h5 hk (fun j h1 h2 => by omega), Kd.R_kept h6 hk (fun j h1 h2 => by omega), by omega⟩
theorem NKst_markG (h : NKst w W n d A c L Lx bx ax Ax cx aw bw Aw cw V ag bg Ag cg Vg) (hk : Kept W W2 (fun j => ag ≤ j ∧ j < bg)) (hb : Below w.heap.size w W2) (hs : Kd.R (Kd.int .i64) 3 W2 w.heap.size (fun j => ag ≤ j ∧ j < bg) (.slice Ag V.length cg) Vg') : NKst w W2 n d A c L Lx bx ax Ax cx aw bw Aw cw V ag bg Ag cg Vg' := by
  obtain ⟨h1, h2, h3, h4, h5, h6, h7⟩ := h
  have hz := hk.1
  exact ⟨hb, (hk.2 _ (by omega) (by omega)).trans h2, (hk.2 _ (by omega) (by omega)).trans h3, Kd.S_kept h4 hk (fun j h1 h2 => by omega), Kd.R_kept h5 hk (fun j h1 h2 => by omega), hs, by omega⟩
end
def laws_FnExactNeedlessKnobs.f (n d : Int) (l : List (List Int)) : Option Bool := some true
set_option maxHeartbeats 8000000 in
set_option maxRecDepth 100000 in
theorem laws_FnExactNeedlessKnobs.walk (k : Nat) (n d : Int) (L : List (List Int)) (V V' : List Int) (ok : Bool) (r0 m' m : Int) (L' : List (List Int)) (A : Option Addr) (c : Nat) (w : World) (hr : Kd.C (Kd.slice 3 (Kd.int .i64)) w A L.length L) (hc : L.length ≤ c)
    (e1 : laws_szGears.f k n d L 1048576 = some r0) (h0 : 0 ≤ r0) (e2 : laws_toGears.f k n d L = some (n, d, L)) (e3 : spec_NeedlessKnobs.f k n d L = some (V, ok)) (e4 : impl_NeedlessKnobs.f k n d L = some (V, ok)) (e5 : laws_eqIntS.f k V V = some true) (e6 : laws_eqGears.f k n d L n d L = some true) (e7 : laws_markGears.f k n d L 1 = some (m', L')) (h7 : 0 ≤ m') (e8 : laws_markIntS.f k V 1 = some (m, V')) (h8 : 0 ≤ m) (e9 : laws_heldIntS.f k V' 1 = some m) :
    Calls Try.prog 3 #[.agg #[.int .i64 n, .int .i64 d, .slice A L.length c]] w fun e w' => e = .returned (.bool true) ∧ Below w.heap.size w w' := by
  have hu37 := Try.underlying26
  have hu41 := Try.underlying33
  have hu35 := Try.underlying24
  have hu24 := Try.underlying28
  have hd0 : decide (r0 < 0) = false := decide_eq_false (by omega)
  have hd7 : decide (m' < 0) = false := decide_eq_false (by omega)
  have hd8 : decide (m < 0) = false := decide_eq_false (by omega)
  have hok : (ok != ok) = false := by cases ok <;> rfl
  have hmm : (m != m) = false := by simp
  have E1 := amk e1
  have E2 := amk e2
  have E3 := amk e3
  have E4 := amk e4
  have E5 := amk e5
  have E6 := amk e6
  have E7 := amk e7
  have E8 := amk e8
  have E9 := amk e9
  have HC := amk hc
  have HR := amk (Kd.C_alloc hr (.cells #[.int .i64 n, .int .i64 d, .slice A L.length c] 26 (0, 0)))
  have HB := amk ((Below.refl w.heap.size w).alloc (Nat.le_refl _) (.cells #[.int .i64 n, .int .i64 d, .slice A L.length c] 26 (0, 0)))
  have B1 := amk (blk_new w (.cells #[.int .i64 n, .int .i64 d, .slice A L.length c] 26 (0, 0)))
  have hHR := amk hr
  clear e1 e2 e3 e4 e5 e6 e7 e8 e9 hc hr h0 h7 h8
  go_enter Try.func3, Try.ntmps3
  go_wp2_with (go_at_call 4; refine (laws_szGears.calls k n d _ _ L _ r0 _ HR.out HC.out E1.out).mono ?_; rintro e w2 ⟨rfl, hb⟩; have HB2 := amk (HB.out.trans (hb.mono HB.out.size)); have B12 := amk ((hb.block w.heap.size (by simp)).trans B1.out); obtain ⟨hq0, hq1, hq2, _, _, _, _⟩ := three_cellsD B12.out; clear hb)
  go_wp2_with (go_at_call 6; refine (laws_toGears.calls k n d _ _ L n d L _ (Kd.C_below hHR.out HB2.out) HC.out E2.out).mono ?_; rintro e w3 ⟨v3, rfl, hs, hb⟩; have HB3 := amk (HB2.out.trans (hb.mono HB2.out.size)); have B13 := amk ((hb.block w.heap.size (by have := three_cellsD B12.out; omega)).trans B12.out); obtain ⟨A3, c3, rfl⟩ := Kd.S_slice hs; have S3 := amk hs; clear hs hb)
  go_wp2_with (go_at_call 5; refine (spec_NeedlessKnobs.calls k n d _ _ L V ok _ (Kd.S_reads' S3.out).2.2 (Kd.S_reads' S3.out).2.1 E3.out).mono ?_; rintro e w4 ⟨v4, rfl, hs, hb⟩; have HB4 := amk (HB3.out.trans (hb.mono HB3.out.size)); have SZ3 := amk (three_cellsD B13.out).2.2.2.2.2.2; have B14 := amk ((hb.block w.heap.size SZ3.out).trans B13.out); clear hq0 hq1 hq2; obtain ⟨hq0, hq1, hq2, _, _, _, _⟩ := three_cellsD B14.out; obtain ⟨A4, c4, rfl⟩ := Kd.R_slice hs; have R4 := amk (R_iv hs); have Z4 := amk hb.size; clear hs hb)
  go_wp2_with (go_at_call 6; refine (laws_toGears.calls k n d _ _ L n d L _ (Kd.C_below hHR.out HB4.out) HC.out E2.out).mono ?_; rintro e w5 ⟨v5, rfl, hs, hb⟩; have HB5 := amk (HB4.out.trans (hb.mono HB4.out.size)); have B15 := amk ((hb.block w.heap.size (three_cellsD B14.out).2.2.2.2.2.2).trans B14.out); obtain ⟨A5, c5, rfl⟩ := Kd.S_slice hs; have S5 := amk (S_iv hs); have R5 := amk (Kd.R_below R4.out hb); have Z5 := amk hb.size; have hl5 := (Kd.S_reads' hs).2.2.2.1; clear hs hb)
  go_wp2_with (go_at_call 7; refine (impl_NeedlessKnobs.calls k n d _ _ L V ok _ (Kd.C_alloc (Kd.S_reads' S5.out).2.2 _) (Kd.S_reads' S5.out).2.1 E4.out).mono ?_; rintro e w7 ⟨v7, rfl, hs, hb⟩; obtain ⟨A7, c7, rfl⟩ := Kd.R_slice hs; have ST := amk (show NKst w w7 n d A c L L w5.heap.size w4.heap.size A5 c5 w3.heap.size w4.heap.size A4 c4 V (w5.heap.size + 1) w7.heap.size A7 c7 V from ⟨(HB5.out.alloc HB5.out.size _).trans (hb.mono (by have := HB5.out.size; simp; omega)), (hb.block w.heap.size (by have := (three_cellsD B15.out).2.2.2.2.2.2; simp; omega)).trans ((((Below.refl _ w5).alloc (Nat.le_refl _) _).block w.heap.size (three_cellsD B15.out).2.2.2.2.2.2).trans B15.out), (hb.block w5.heap.size (by simp)).trans (blk_new w5 _), Kd.S_lower (Kd.S_below (Kd.S_alloc S5.out _) hb) HB4.out.size, Kd.R_lower (Kd.R_below (Kd.R_alloc R5.out _) hb) HB3.out.size, Kd.R_lower (base := (w5.heap.size + 1)) (by have := R_iv hs; simpa using this) (by have := HB5.out.size; omega), (by have := SZ3.out; have := Z4.out; have := Z5.out; have := hb.size; simp at this; omega)⟩); clear hq0 hq1 hq2; obtain ⟨hq0, hq1, hq2, _, _, _, _⟩ := three_cellsD ST.out.2.1; obtain ⟨hx0, hx1, hx2, _, _, _, _⟩ := three_cellsD ST.out.2.2.1; clear hs hb)
  go_wp2_with (go_at_call 8; refine (laws_eqIntS.calls k _ _ V _ _ V true _ (Kd.R_reads' ST.out.2.2.2.2.2.1).2.2 (Kd.R_reads' ST.out.2.2.2.2.2.1).2.1 (Kd.R_reads' ST.out.2.2.2.2.1).2.2 (Kd.R_reads' ST.out.2.2.2.2.1).2.1 E5.out).mono ?_; rintro e w8 ⟨rfl, hb⟩; have ST8 := amk (NKst_below ST.out hb.below); clear hq0 hq1 hq2 hx0 hx1 hx2; obtain ⟨hq0, hq1, hq2, _, _, _, _⟩ := three_cellsD ST8.out.2.1; obtain ⟨hx0, hx1, hx2, _, _, _, _⟩ := three_cellsD ST8.out.2.2.1; clear hb)
  have ST8d := amk (NKst_below ST8.out (Below.refl _ w8).drew)
  have HS1 : Aside0 (w8.drew.cell? ⟨w5.heap.size, 0, none⟩ = some (.int .i64 n) ∧ w8.drew.cell? ⟨w5.heap.size, 1, none⟩ = some (.int .i64 d) ∧ w8.drew.cell? ⟨w5.heap.size, 2, none⟩ = some (.slice A5 L.length c5) ∧ w8.drew.cell? ⟨w.heap.size, 0, none⟩ = some (.int .i64 n) ∧ w8.drew.cell? ⟨w.heap.size, 1, none⟩ = some (.int .i64 d) ∧ w8.drew.cell? ⟨w.heap.size, 2, none⟩ = some (.slice A L.length c)) := ⟨⟨(three_cellsD ST8d.out.2.2.1).1, (three_cellsD ST8d.out.2.2.1).2.1, (three_cellsD ST8d.out.2.2.1).2.2.1, (three_cellsD ST8d.out.2.1).1, (three_cellsD ST8d.out.2.1).2.1, (three_cellsD ST8d.out.2.1).2.2.1⟩⟩
  go_region_held3 (fun w' => w'.cell? ⟨w5.heap.size, 0, none⟩ = some (.int .i64 n) ∧ w'.cell? ⟨w5.heap.size, 1, none⟩ = some (.int .i64 d) ∧ w'.cell? ⟨w5.heap.size, 2, none⟩ = some (.slice A5 L.length c5) ∧ w'.cell? ⟨w.heap.size, 0, none⟩ = some (.int .i64 n) ∧ w'.cell? ⟨w.heap.size, 1, none⟩ = some (.int .i64 d) ∧ w'.cell? ⟨w.heap.size, 2, none⟩ = some (.slice A L.length c)) (first | exact ⟨(three_cellsD ST10.out.2.2.1).1, (three_cellsD ST10.out.2.2.1).2.1, (three_cellsD ST10.out.2.2.1).2.2.1, (three_cellsD ST10.out.2.1).1, (three_cellsD ST10.out.2.1).2.1, (three_cellsD ST10.out.2.1).2.2.1⟩ | exact ⟨(three_cellsD ST9.out.2.2.1).1, (three_cellsD ST9.out.2.2.1).2.1, (three_cellsD ST9.out.2.2.1).2.2.1, (three_cellsD ST9.out.2.1).1, (three_cellsD ST9.out.2.1).2.1, (three_cellsD ST9.out.2.1).2.2.1⟩ | exact HS1.out) ((first | (go_at_call 6; refine (laws_toGears.calls k n d _ _ L n d L _ (Kd.C_below hHR.out ST8d.out.1) HC.out E2.out).mono ?_; rintro e w9 ⟨v9, rfl, hs, hb⟩; have ST9 := amk (NKst_below ST8d.out hb); obtain ⟨A9, c9, rfl⟩ := Kd.S_slice hs; have S9 := amk hs; clear hs hb) | (go_at_call 9; refine (laws_eqGears.calls k n d _ _ L n d _ _ L true _ (Kd.S_reads' ST9.out.2.2.2.1).2.2 (Kd.S_reads' ST9.out.2.2.2.1).2.1 (Kd.S_reads' S9.out).2.2 (Kd.S_reads' S9.out).2.1 E6.out).mono ?_; rintro e w10 ⟨rfl, hb⟩; have ST10 := amk (NKst_below ST9.out hb); clear hb)))
  clear hq0 hq1 hq2 hx0 hx1 hx2
  obtain ⟨hq0, hq1, hq2, _, _, _, _⟩ := three_cellsD ST10.out.2.1
  obtain ⟨hx0, hx1, hx2, _, _, _, _⟩ := three_cellsD ST10.out.2.2.1
  go_wp2_with (go_at_call 10; refine (laws_markGears.calls k (fun j => w4.heap.size ≤ j ∧ j < w5.heap.size) n d _ _ _ L 1 m' L' w _ ST10.out.1 (fun j hj => by have := ST10.out.2.2.2.2.2.2; omega) ST10.out.2.2.2.1 E7.out).mono ?_; rintro e w11 ⟨rfl, hs, hb, hk⟩; have ST11 := amk (NKst_markX ST10.out hk hb hs); clear hq0 hq1 hq2 hx0 hx1 hx2; obtain ⟨hq0, hq1, hq2, _, _, _, _⟩ := three_cellsD ST11.out.2.1; obtain ⟨hx0, hx1, hx2, _, _, _, _⟩ := three_cellsD ST11.out.2.2.1; clear hs hb hk)
  go_wp2_with (go_at_call 8; refine (laws_eqIntS.calls k _ _ V _ _ V true _ (Kd.R_reads' ST11.out.2.2.2.2.2.1).2.2 (Kd.R_reads' ST11.out.2.2.2.2.2.1).2.1 (Kd.R_reads' ST11.out.2.2.2.2.1).2.2 (Kd.R_reads' ST11.out.2.2.2.2.1).2.1 E5.out).mono ?_; rintro e w12 ⟨rfl, hb⟩; have ST12 := amk (NKst_below ST11.out hb.below); clear hq0 hq1 hq2 hx0 hx1 hx2; obtain ⟨hq0, hq1, hq2, _, _, _, _⟩ := three_cellsD ST12.out.2.1; obtain ⟨hx0, hx1, hx2, _, _, _, _⟩ := three_cellsD ST12.out.2.2.1; clear hb)
  go_wp2_with (go_at_call 11; refine (laws_markIntS.calls k (fun j => w5.heap.size + 1 ≤ j ∧ j < w7.heap.size) _ V 1 m V' w _ ST12.out.1 ST12.out.2.2.2.2.2.1 E8.out).mono ?_; rintro e w13 ⟨rfl, hs, hb, hk⟩; have ST13 := amk (NKst_markG ST12.out hk hb (Kd.R_reok rfl hs (fun k_ e_ => ST12.out.2.2.2.2.2.1.1 k_ e_))); clear hq0 hq1 hq2 hx0 hx1 hx2; obtain ⟨hq0, hq1, hq2, _, _, _, _⟩ := three_cellsD ST13.out.2.1; obtain ⟨hx0, hx1, hx2, _, _, _, _⟩ := three_cellsD ST13.out.2.2.1; clear hs hb hk)
  have hlen : V'.length = V.length := (Kd.R_reads' ST13.out.2.2.2.2.2.1).1.symm
  have HH : ∀ W, Kd.C (Kd.int .i64) W A7 V'.length V' → Calls Try.prog 12 #[.slice A7 V.length c7, .int .i64 1] W fun e w' => e = .returned (.int .i64 m) ∧ Below W.heap.size W w' := fun W hC => by
    have := laws_heldIntS.calls k A7 c7 V' 1 m W hC (by have := (Kd.R_reads' ST13.out.2.2.2.2.2.1).2.1; omega) E9.out
    rw [hlen] at this
    exact Calls.mono this (fun _ _ hh => ⟨hh.1, hh.2.below⟩)
  have HHA := amk HH
  have HLN := amk hlen
  clear HH hlen
  go_wp2_with (go_at_call 12; refine (HHA.out _ (Kd.R_reads' ST13.out.2.2.2.2.2.1).2.2).mono ?_; rintro e w14 ⟨rfl, hb⟩; have ST14 := amk (NKst_below ST13.out hb); clear hq0 hq1 hq2 hx0 hx1 hx2; obtain ⟨hq0, hq1, hq2, _, _, _, _⟩ := three_cellsD ST14.out.2.1; obtain ⟨hx0, hx1, hx2, _, _, _, _⟩ := three_cellsD ST14.out.2.2.1; clear hb)
  go_wp2_with (go_at_call 6; refine (laws_toGears.calls k n d _ _ L n d L _ (Kd.C_below hHR.out ST14.out.1) HC.out E2.out).mono ?_; rintro e w15 ⟨v15, rfl, hs, hb⟩; have ST15 := amk (NKst_below ST14.out hb); obtain ⟨A15, c15, rfl⟩ := Kd.S_slice hs; have S15 := amk hs; clear hq0 hq1 hq2 hx0 hx1 hx2; obtain ⟨hq0, hq1, hq2, _, _, _, _⟩ := three_cellsD ST15.out.2.1; obtain ⟨hx0, hx1, hx2, _, _, _, _⟩ := three_cellsD ST15.out.2.2.1; clear hs hb)
  go_wp2_with (go_at_call 7; refine (impl_NeedlessKnobs.calls k n d _ _ L V ok _ (Kd.S_reads' S15.out).2.2 (Kd.S_reads' S15.out).2.1 E4.out).mono ?_; rintro e w16 ⟨v16, rfl, hs, hb⟩; have ST16 := amk (NKst_below ST15.out hb); obtain ⟨A16, c16, rfl⟩ := Kd.R_slice hs; have R16 := amk hs; clear hq0 hq1 hq2 hx0 hx1 hx2; obtain ⟨hq0, hq1, hq2, _, _, _, _⟩ := three_cellsD ST16.out.2.1; obtain ⟨hx0, hx1, hx2, _, _, _, _⟩ := three_cellsD ST16.out.2.2.1; clear hs hb)
  go_wp2_with (go_at_call 8; refine (laws_eqIntS.calls k _ _ V _ _ V true _ (Kd.R_reads' R16.out).2.2 (Kd.R_reads' R16.out).2.1 (Kd.R_reads' ST16.out.2.2.2.2.1).2.2 (Kd.R_reads' ST16.out.2.2.2.2.1).2.1 E5.out).mono ?_; rintro e w17 ⟨rfl, hb⟩; have ST17 := amk (NKst_below ST16.out hb.below); clear hq0 hq1 hq2 hx0 hx1 hx2; obtain ⟨hq0, hq1, hq2, _, _, _, _⟩ := three_cellsD ST17.out.2.1; obtain ⟨hx0, hx1, hx2, _, _, _, _⟩ := three_cellsD ST17.out.2.2.1; clear hb)
  go_wp2_with (go_at_call 12; refine (HHA.out _ (Kd.R_reads' ST17.out.2.2.2.2.2.1).2.2).mono ?_; rintro e w18 ⟨rfl, hb⟩; have ST18 := amk (NKst_below ST17.out hb); clear hb)
  go_ret
  exact ⟨rfl, ST18.out.1⟩
/-! The places and the digits that two codes share. -/
/-! Codes of a lock as texts, their digits, what clues tell of them. -/
def codeS (w d : Int) (s : ByteArray) : Prop := s.size = w.toNat ∧ ∀ i < s.size, 48 ≤ bt s (i : Nat) ∧ bt s (i : Nat) < 48 + d
def dg (s : ByteArray) : List Int := (List.range s.size).map fun i => bt s (i : Nat) - 48
theorem dg_length (s : ByteArray) : (dg s).length = s.size := by simp [dg]
theorem dg_at {s : ByteArray} {i : Nat} (h : i < s.size) : rd (dg s) (i : Nat) = bt s (i : Nat) - 48 := by
  rw [rd_at (by simpa [dg] using h)]; simp [dg]
theorem bt_textB {D : List Int} (h : ∀ x ∈ D, 0 ≤ x ∧ x < 10) {i : Nat} (hi : i < D.length) : bt (textB D) (i : Nat) = 48 + D[i] := by
  have hx := h D[i] (List.getElem_mem hi)
  have hs : (textB D).size = D.length := by unfold textB; rw [strOfNums_size, List.length_map]
  unfold bt
  rw [dif_pos (by rw [hs]; simpa using hi)]
  have e1 : ((textB D)[(i : Int).toNat]'(by rw [hs]; simpa using hi)) = UInt8.ofNat (wrap64 (48 + D[i]) % 256).toNat := by
    show (textB D).data[(i : Int).toNat]'_ = _
    have : (textB D).data = ((D.map fun x => wrap64 (48 + x) % 256).map fun n => UInt8.ofNat n.toNat).toArray := rfl
    simp [this]
  rw [e1, w64 (by omega) (by omega)]
  simp
  omega
theorem codeB_code {w d a : Int} (hl : lockB w d = true) : codeS w d (codeB w d a) := by
  obtain ⟨w1, w2, d1, d2⟩ := lockB_iff.mp hl
  have hs : (codeB w d a).size = w.toNat := by unfold codeB textB; rw [strOfNums_size, List.length_map, digs_length]
  refine ⟨hs, fun i hi => ?_⟩
  have hr := digs_range (d := d) (by omega) w.toNat a
  unfold codeB
  rw [bt_textB (fun x hx => by have := hr x hx; omega) (by rw [digs_length, ← hs]; exact hi)]
  have := hr _ (List.getElem_mem (by rw [digs_length, ← hs]; exact hi) : (digs d w.toNat a)[i]'(by rw [digs_length, ← hs]; exact hi) ∈ _)
  omega
def numF (d : Int) : Int → List Int → Int
  | acc, [] => acc
  | acc, x :: xs => numF d (wrap64 (wrap64 (acc * d) + x)) xs
/-! Texts of digits: their sizes. -/
theorem strOfNums_app (a b : List Int) : strOfNums (a ++ b) = strOfNums a ++ strOfNums b := by
  apply ByteArray.ext
  simp [strOfNums, ByteArray.data_append]
theorem textB_app (a : List Int) (x : Int) : textB (a ++ [x]) = textB a ++ strOfNums [wrap64 (48 + x) % 256] := by
  unfold textB; rw [List.map_append, strOfNums_app]; rfl
theorem textB_size (l : List Int) : (textB l).size = l.length := by unfold textB; rw [strOfNums_size, List.length_map]
/-! Breadth first search over codes, as values. -/
def turnDig (d x n t : Int) : Int := Int.tmod (wrap64 (Int.tmod (wrap64 (x + wrap64 (n * t))) d + d)) d
theorem turnDig_range {d : Int} (x n t : Int) (hd : 1 ≤ d) (hd2 : d ≤ 10) : 0 ≤ turnDig d x n t ∧ turnDig d x n t < d := by
  unfold turnDig
  generalize wrap64 (x + wrap64 (n * t)) = y
  have h1 : -d < Int.tmod y d := Int.lt_tmod_of_pos y (by omega)
  have h2 : Int.tmod y d < d := Int.tmod_lt_of_pos y (by omega)
  rw [w64 (by omega) (by omega), Int.tmod_eq_emod_of_nonneg (by omega)]
  exact ⟨Int.emod_nonneg _ (by omega), Int.emod_lt_of_pos _ (by omega)⟩
def turnL (d : Int) (D K : List Int) (t : Int) : List Int := List.zipWith (fun x n => turnDig d x n t) D K
def gearV (d : Int) (s : ByteArray) (K : List Int) (t : Int) : ByteArray := textB (turnL d (dg s) K t)
theorem turnL_length {d : Int} {D K : List Int} {t : Int} (h : D.length = K.length) : (turnL d D K t).length = D.length := by
  unfold turnL; rw [List.length_zipWith, ← h, Nat.min_self]
theorem turnL_get {d : Int} {D K : List Int} {t : Int} {i : Nat} (h : i < (turnL d D K t).length) (h1 : i < D.length) (h2 : i < K.length) : (turnL d D K t)[i] = turnDig d D[i] K[i] t := by
  simp [turnL]
theorem turnL_range {d : Int} {D K : List Int} {t : Int} (hd : 1 ≤ d) (hd2 : d ≤ 10) : ∀ x ∈ turnL d D K t, 0 ≤ x ∧ x < d := by
  intro x hx
  unfold turnL at hx
  obtain ⟨i, hi, rfl⟩ := List.getElem_of_mem hx
  rw [List.getElem_zipWith]
  exact turnDig_range _ _ _ hd hd2
theorem dg_textB {D : List Int} (h : ∀ x ∈ D, 0 ≤ x ∧ x < 10) : dg (textB D) = D := by
  apply List.ext_getElem
  · rw [dg_length, textB_size]
  · intro i h1 h2
    have e := dg_at (s := textB D) (i := i) (by rw [textB_size]; exact h2)
    rw [bt_textB h h2, rd_at (by simpa using h1)] at e
    simp only [Int.toNat_natCast] at e
    rw [e]; omega
theorem gearV_code {w d : Int} (hl : lockB w d = true) {s : ByteArray} (hs : codeS w d s) {K : List Int} (hK : (K.length : Int) = w) (t : Int) : codeS w d (gearV d s K t) := by
  obtain ⟨w1, w2, d1, d2⟩ := lockB_iff.mp hl
  have hlen : (dg s).length = K.length := by rw [dg_length, hs.1]; omega
  have hr := turnL_range (D := dg s) (K := K) (t := t) (d := d) (by omega) d2
  have hsz : (gearV d s K t).size = w.toNat := by unfold gearV; rw [textB_size, turnL_length hlen, dg_length, hs.1]
  refine ⟨hsz, fun i hi => ?_⟩
  have hi2 : i < (turnL d (dg s) K t).length := by unfold gearV at hi; rw [textB_size] at hi; exact hi
  unfold gearV
  rw [bt_textB (fun x hx => by have := hr x hx; omega) hi2]
  have := hr _ (List.getElem_mem hi2)
  omega
def numV (d : Int) (s : ByteArray) : Int := numF d 0 (dg s)
theorem numF_range {d : Int} (hd : 2 ≤ d) (hd2 : d ≤ 10) : ∀ (D : List Int) (acc : Int), (∀ x ∈ D, 0 ≤ x ∧ x < d) → 0 ≤ acc → (acc + 1) * d ^ D.length ≤ 1000000 → 0 ≤ numF d acc D ∧ numF d acc D < (acc + 1) * d ^ D.length
  | [], acc, _, h0, h1 => by
    simp only [numF, List.length_nil, Int.pow_zero, Int.mul_one] at h1 ⊢
    omega
  | x :: D, acc, hD, h0, h1 => by
    have hx := hD x List.mem_cons_self
    have hp : 1 ≤ d ^ D.length := (by have h9 : 0 < d ^ D.length := Int.pow_pos (by omega); omega)
    have e : (acc + 1) * d ^ (x :: D).length = ((acc + 1) * d) * d ^ D.length := by
      rw [List.length_cons, Int.pow_succ, Int.mul_comm (d ^ D.length) d, Int.mul_assoc]
    have hle : (acc + 1) * d ≤ ((acc + 1) * d) * d ^ D.length := by
      have := Int.mul_le_mul_of_nonneg_left hp (show 0 ≤ (acc + 1) * d from Int.mul_nonneg (by omega) (by omega))
      rwa [Int.mul_one] at this
    rw [e] at h1 ⊢
    have hb : (acc + 1) * d ≤ 1000000 := Int.le_trans hle h1
    have hb2 : (acc + 1) * d = acc * d + d := by rw [Int.add_mul, Int.one_mul]
    have hn : 0 ≤ acc * d := Int.mul_nonneg h0 (by omega)
    have hs : acc * d + x + 1 ≤ (acc + 1) * d := by omega
    have hm : (acc * d + x + 1) * d ^ D.length ≤ ((acc + 1) * d) * d ^ D.length := Int.mul_le_mul_of_nonneg_right hs (by omega)
    unfold numF
    rw [w64 (x := acc * d) (by omega) (by omega), w64 (x := acc * d + x) (by omega) (by omega)]
    have := numF_range hd hd2 D (acc * d + x) (fun y hy => hD y (List.mem_cons_of_mem _ hy)) (by omega) (Int.le_trans hm h1)
    exact ⟨this.1, Int.lt_of_lt_of_le this.2 hm⟩
theorem numV_range {w d : Int} (hl : lockB w d = true) {s : ByteArray} (hs : codeS w d s) : 0 ≤ numV d s ∧ numV d s < d ^ w.toNat := by
  obtain ⟨w1, w2, d1, d2⟩ := lockB_iff.mp hl
  have hcb := count_bound hl
  have := numF_range d1 d2 (dg s) 0 (fun x hx => by
    obtain ⟨i, hi, rfl⟩ := List.getElem_of_mem hx
    have hi2 : i < s.size := by rw [dg_length] at hi; exact hi
    have h1 := dg_at hi2
    rw [rd_at (by simpa using hi)] at h1
    simp only [Int.toNat_natCast] at h1
    have := hs.2 i hi2
    omega) (Int.le_refl 0) (by rw [dg_length, hs.1]; omega)
  rw [dg_length, hs.1] at this
  unfold numV
  omega
def inn (nx : Int × Int → ByteArray) (num : ByteArray → Int) (v : Int) : List (Int × Int) → List Int → List ByteArray → List Int × List ByteArray
  | [], F, Q => (F, Q)
  | p :: ps, F, Q => if rd F (num (nx p)) < 0 then inn nx num v ps (F.set (num (nx p)).toNat (wrap64 (v + 1))) (Q ++ [nx p]) else inn nx num v ps F Q
def bfs (T : List (Int × Int)) (nx : ByteArray → Int × Int → ByteArray) (num : ByteArray → Int) : Nat → List Int → List ByteArray → List Int
  | 0, F, _ => F
  | _ + 1, F, [] => F
  | m + 1, F, s :: Q => bfs T nx num m (inn (nx s) num (rd F (num s)) T F Q).1 (inn (nx s) num (rd F (num s)) T F Q).2
def negC (F : List Int) : Nat := F.countP (fun x => decide (x < 0))
def InvF (cnt : Nat) (B : Int) (F : List Int) : Prop := F.length = cnt ∧ ∀ x ∈ F, -1 ≤ x ∧ x ≤ B
def InvQ (ok : ByteArray → Prop) (num : ByteArray → Int) (F : List Int) (Q : List ByteArray) : Prop := ∀ s ∈ Q, ok s ∧ 0 ≤ rd F (num s)
theorem rd_set_int {F : List Int} {i : Nat} {j v : Int} (hj : 0 ≤ j) (hi : i < F.length) : rd (F.set i v) j = if j = (i : Int) then v else rd F j := by
  obtain ⟨q, rfl⟩ := Int.eq_ofNat_of_zero_le hj
  unfold rd
  rw [Int.toNat_natCast, List.getD_eq_getElem?_getD, List.getD_eq_getElem?_getD, List.getElem?_set]
  by_cases e : i = q
  · subst e; simp [hi]
  · rw [if_neg e, if_neg (by omega)]
theorem inn_inv {nx : Int × Int → ByteArray} {num : ByteArray → Int} {v : Int} {cnt : Nat} {B B2 : Int} {ok : ByteArray → Prop} (hnum : ∀ s, ok s → 0 ≤ num s ∧ num s < cnt) (h0 : 0 ≤ v) (h1 : v + 1 ≤ B2) (hB : B ≤ B2) (hB2 : B2 ≤ 9000000) : ∀ (ps : List (Int × Int)) (F : List Int) (Q : List ByteArray), (∀ p ∈ ps, ok (nx p)) → InvF cnt B2 F → InvQ ok num F Q →
    InvF cnt B2 (inn nx num v ps F Q).1 ∧ InvQ ok num (inn nx num v ps F Q).1 (inn nx num v ps F Q).2 ∧ negC (inn nx num v ps F Q).1 + (inn nx num v ps F Q).2.length = negC F + Q.length
  | [], F, Q, _, hF, hQ => ⟨hF, hQ, rfl⟩
  | p :: ps, F, Q, hp, hF, hQ => by
    have hpk := hp p List.mem_cons_self
    have hn := hnum _ hpk
    unfold inn
    by_cases e : rd F (num (nx p)) < 0
    · rw [if_pos e]
      have hlt : (num (nx p)).toNat < F.length := by rw [hF.1]; omega
      have hw : wrap64 (v + 1) = v + 1 := w64 (by omega) (by omega)
      have hF2 : InvF cnt B2 (F.set (num (nx p)).toNat (wrap64 (v + 1))) := by
        refine ⟨by rw [List.length_set]; exact hF.1, fun x hx => ?_⟩
        rcases List.mem_or_eq_of_mem_set hx with hx | hx
        · exact hF.2 x hx
        · rw [hx, hw]; omega
      have hQ2 : InvQ ok num (F.set (num (nx p)).toNat (wrap64 (v + 1))) (Q ++ [nx p]) := by
        intro s hs
        rcases List.mem_append.mp hs with hs | hs
        · have := hQ s hs
          refine ⟨this.1, ?_⟩
          rw [rd_set_int (hnum s this.1).1 hlt]
          split
          · omega
          · exact this.2
        · rw [List.mem_singleton.mp hs]
          refine ⟨hpk, ?_⟩
          rw [rd_set_int hn.1 hlt, if_pos (by omega)]
          omega
      obtain ⟨a, b, c⟩ := inn_inv hnum h0 h1 hB hB2 ps _ _ (fun q hq => hp q (List.mem_cons_of_mem _ hq)) hF2 hQ2
      refine ⟨a, b, ?_⟩
      rw [c, List.length_append]
      have hg : F[(num (nx p)).toNat] < 0 := by rw [rd_at hlt] at e; exact e
      have hpos : 0 < negC F := by
        unfold negC
        rw [List.countP_pos_iff]
        exact ⟨_, List.getElem_mem hlt, by simpa using hg⟩
      have hset : negC (F.set (num (nx p)).toNat (wrap64 (v + 1))) = negC F - 1 := by
        unfold negC
        rw [List.countP_set hlt, if_pos (by simpa using hg), if_neg (by simp; omega)]
        omega
      rw [hset]
      simp
      omega
    · rw [if_neg e]
      exact inn_inv hnum h0 h1 hB hB2 ps F Q (fun q hq => hp q (List.mem_cons_of_mem _ hq)) hF hQ
def tur : Nat → Nat → List (Int × Int)
  | 0, _ => []
  | m + 1, i => ((i : Int), 1) :: ((i : Int), -1) :: tur m (i + 1)
theorem tur_mem : ∀ (m i : Nat) (p : Int × Int), p ∈ tur m i → ∃ j : Nat, p.1 = (j : Int) ∧ i ≤ j ∧ j < i + m
  | 0, _, p, h => by simp [tur] at h
  | m + 1, i, p, h => by
    simp only [tur, List.mem_cons] at h
    rcases h with h | h | h
    · subst h; exact ⟨i, rfl, by omega, by omega⟩
    · subst h; exact ⟨i, rfl, by omega, by omega⟩
    · obtain ⟨j, h1, h2, h3⟩ := tur_mem m (i + 1) p h
      exact ⟨j, h1, by omega, by omega⟩
theorem tur_length : ∀ (m i : Nat), (tur m i).length = 2 * m
  | 0, _ => rfl
  | m + 1, i => by simp [tur, tur_length m]; omega
/-! Declarations moved out of HHint. -/
theorem impl_digits_of {s : ByteArray} (h6 : s.size ≤ 6) (h : ∀ i < s.size, 48 ≤ bt s (i : Nat) ∧ bt s (i : Nat) ≤ 57) : Ev (fun k => impl_digits.f k s) ((List.range s.size).map fun i => bt s (i : Nat) - 48) := by
  have : ∀ m i : Nat, i + m = s.size → ∀ xs : List Int, xs.length = i → Ev (fun k => impl_digits.l0 k s xs (s.size : Int) (i : Nat)) (xs ++ (List.range' i m).map fun i => bt s (i : Nat) - 48) := by
    intro m
    induction m with
    | zero =>
      intro i hi xs hx
      refine Ev.step (fun k => rfl) ?_
      refine Ev.no (by omega) ?_
      exact Ev.id (by simp)
    | succ m ih =>
      intro i hi xs hx
      refine Ev.step (fun k => rfl) ?_
      refine Ev.yes (by omega) (Ev.yes (by omega) (Ev.yes (by omega) (Ev.yes (by omega) ?_)))
      have := ih (i + 1) (by omega) (xs ++ [bt s (i : Nat) - 48]) (by simp [hx])
      have hb := h i (by omega)
      rw [show ((bt s (i : Nat)) - 48) % 256 = bt s (i : Nat) - 48 by omega, show wrap64 ((i : Int) + 1) = ((i + 1 : Nat) : Int) from w64 (by omega) (by omega)]
      refine Ev.eq this ?_
      rw [List.range'_succ]
      simp
  have := this s.size 0 (by omega) [] rfl
  refine Ev.eq this ?_
  simp [List.range_eq_range']
/-! Declarations moved out of EVal. -/
theorem spec_whDigits.ev {s : ByteArray} (h6 : s.size ≤ 6) (h : ∀ i < s.size, 48 ≤ bt s (i : Nat) ∧ bt s (i : Nat) ≤ 57) : Ev (fun k => spec_whDigits.f k s) (dg s) := by
  have : ∀ m i : Nat, i + m = s.size → ∀ xs : List Int, xs.length = i → Ev (fun k => spec_whDigits.l0 k s xs (i : Nat)) (xs ++ (List.range' i m).map fun i => bt s (i : Nat) - 48) := by
    intro m
    induction m with
    | zero =>
      intro i hi xs hx
      refine Ev.step (fun k => rfl) ?_
      refine Ev.no (by omega) ?_
      exact Ev.id (by simp)
    | succ m ih =>
      intro i hi xs hx
      refine Ev.step (fun k => rfl) ?_
      refine Ev.yes (by omega) (Ev.yes (by omega) (Ev.yes (by omega) ?_))
      have := ih (i + 1) (by omega) (xs ++ [bt s (i : Nat) - 48]) (by simp [hx])
      have hb := h i (by omega)
      rw [show ((bt s (i : Nat)) - 48) % 256 = bt s (i : Nat) - 48 by omega, show wrap64 ((i : Int) + 1) = ((i + 1 : Nat) : Int) from w64 (by omega) (by omega)]
      refine Ev.eq this ?_
      rw [List.range'_succ]
      simp
  have := this s.size 0 (by omega) [] rfl
  refine Ev.eq this ?_
  simp [dg, List.range_eq_range']
theorem impl_digits.ev {w d : Int} {s : ByteArray} (hl : lockB w d = true) (hs : codeS w d s) : Ev (fun k => impl_digits.f k s) (dg s) := by
  obtain ⟨w1, w2, d1, d2⟩ := lockB_iff.mp hl
  have h1 := hs.1
  exact impl_digits_of (by omega) (fun i hi => by have := hs.2 i hi; omega)
theorem spec_whDigits.evc {w d : Int} {s : ByteArray} (hl : lockB w d = true) (hs : codeS w d s) : Ev (fun k => spec_whDigits.f k s) (dg s) := by
  obtain ⟨w1, w2, d1, d2⟩ := lockB_iff.mp hl
  have h1 := hs.1
  exact spec_whDigits.ev (by omega) (fun i hi => by have := hs.2 i hi; omega)
theorem impl_Lock_number.lev (w d : Int) (D : List Int) (hD : D.length ≤ 6) : ∀ (m i : Nat), i + m = D.length → ∀ acc, Ev (fun k => impl_Lock_number.l0 k acc D (D.length : Int) (i : Nat) w d) (numF d acc (D.drop i)) := by
  intro m
  induction m with
  | zero =>
    intro i hi acc
    refine Ev.step (fun k => rfl) (Ev.no (by omega) (Ev.id ?_))
    rw [List.drop_eq_nil_of_le (by omega)]; rfl
  | succ m ih =>
    intro i hi acc
    refine Ev.step (fun k => rfl) (Ev.yes (by omega) (Ev.yes (by omega) (Ev.yes (by omega) ?_)))
    have hlt : i < D.length := by omega
    rw [show wrap64 ((i : Int) + 1) = ((i + 1 : Nat) : Int) from w64 (by omega) (by omega), List.drop_eq_getElem_cons hlt, rd_at (by simpa using hlt)]
    exact ih (i + 1) (by omega) _
theorem spec_whNumber.lev (w d : Int) (D : List Int) (hD : D.length ≤ 6) : ∀ (m i : Nat), i + m = D.length → ∀ acc, Ev (fun k => spec_whNumber.l0 k acc D (D.length : Int) (i : Nat) w d) (numF d acc (D.drop i)) := by
  intro m
  induction m with
  | zero =>
    intro i hi acc
    refine Ev.step (fun k => rfl) (Ev.no (by omega) (Ev.id ?_))
    rw [List.drop_eq_nil_of_le (by omega)]; rfl
  | succ m ih =>
    intro i hi acc
    refine Ev.step (fun k => rfl) (Ev.yes (by omega) (Ev.yes (by omega) (Ev.yes (by omega) ?_)))
    have hlt : i < D.length := by omega
    rw [show wrap64 ((i : Int) + 1) = ((i + 1 : Nat) : Int) from w64 (by omega) (by omega), List.drop_eq_getElem_cons hlt, rd_at (by simpa using hlt)]
    exact ih (i + 1) (by omega) _
theorem impl_Lock_number.ev {w d : Int} {s : ByteArray} (hl : lockB w d = true) (hs : codeS w d s) : Ev (fun k => impl_Lock_number.f k w d s) (numF d 0 (dg s)) := by
  have h6 : (dg s).length ≤ 6 := by rw [dg_length, hs.1]; have := lockB_iff.mp hl; omega
  unfold impl_Lock_number.f
  exact Ev.bind (impl_digits.ev hl hs) (impl_Lock_number.lev w d _ h6 (dg s).length 0 (by omega) 0)
theorem spec_whNumber.ev {w d : Int} {s : ByteArray} (hl : lockB w d = true) (hs : codeS w d s) : Ev (fun k => spec_whNumber.f k w d s) (numF d 0 (dg s)) := by
  have h6 : (dg s).length ≤ 6 := by rw [dg_length, hs.1]; have := lockB_iff.mp hl; omega
  unfold spec_whNumber.f
  exact Ev.bind (spec_whDigits.evc hl hs) (spec_whNumber.lev w d _ h6 (dg s).length 0 (by omega) 0)
/-! impl's functions on locks: what they come to. -/
theorem impl_within.is (a b c : Int) : impl_within.f a b c = some (decide (b ≤ a ∧ a ≤ c)) := by
  unfold impl_within.f
  by_cases h : b ≤ a
  · rw [if_pos h]; congr 1; simp [h]
  · rw [if_neg h]; congr 1; simp [h]
theorem impl_IsLock.is (w d : Int) : impl_IsLock.f w d = some (lockB w d) := by
  unfold impl_IsLock.f lockB
  simp only [impl_within.is, Option.bind_some]
  by_cases h : 1 ≤ w ∧ w ≤ 6 <;> simp [h]
theorem impl_power.lev (d : Int) (h1 : 1 ≤ d) (h2 : d ≤ 10) (n : Int) (hn : n ≤ 6) : ∀ (j : Nat) (i : Int), 0 ≤ i → i ≤ n → n - i = j → Ev (fun k => impl_power.l0 k d (d ^ i.toNat) n i) (d ^ n.toNat) := by
  intro j
  induction j with
  | zero =>
    intro i h0 hi hj
    obtain rfl : i = n := by omega
    exact Ev.step (fun k => rfl) (Ev.no (by omega) (Ev.now _))
  | succ j ih =>
    intro i h0 hi hj
    refine Ev.step (fun k => rfl) (Ev.yes (by omega) ?_)
    have hb := pow_bound h1 h2 (n := i.toNat) (by omega)
    have hm : d ^ i.toNat * d = d ^ (i + 1).toNat := by rw [show (i + 1).toNat = i.toNat + 1 by omega, Int.pow_succ]
    have hb' := pow_bound h1 h2 (n := (i + 1).toNat) (by omega)
    rw [w64 (x := i + 1) (by omega) (by omega), hm, w64 (x := d ^ (i + 1).toNat) (by omega) (by omega)]
    exact ih (i + 1) (by omega) (by omega) (by omega)
theorem impl_power.ev {d n : Int} (h1 : 1 ≤ d) (h2 : d ≤ 10) (h0 : 0 ≤ n) (hn : n ≤ 6) : Ev (fun k => impl_power.f k d n) (d ^ n.toNat) := by
  have := impl_power.lev d h1 h2 n hn n.toNat 0 (by omega) (by omega) (by omega)
  unfold impl_power.f
  simpa using this
theorem impl_Lock_count.ev {w d : Int} (h : lockB w d = true) : Ev (fun k => impl_Lock_count.f k w d) (d ^ w.toNat) := by
  obtain ⟨a, b, c, e⟩ := lockB_iff.mp h
  unfold impl_Lock_count.f
  exact Ev.bind (impl_power.ev (by omega) e (by omega) b) (Ev.now _)
theorem impl_isSmall.ev (w d m : Int) : Ev (fun k => impl_isSmall.f k w d m) (smallB w d m) := by
  unfold impl_isSmall.f smallB
  refine Ev.bindc (impl_IsLock.is w d) ?_
  cases h : lockB w d with
  | true => exact Ev.yes rfl (Ev.bind (impl_Lock_count.ev h) (Ev.id (by simp)))
  | false => exact Ev.no (by simp) (Ev.id (by simp))
/-! spec's functions on locks and clues: what they come to. -/
theorem spec_l1In.is (a b c : Int) : spec_l1In.f a b c = some (decide (b ≤ a ∧ a ≤ c)) := by
  unfold spec_l1In.f
  by_cases h : a ≥ b
  · rw [if_pos h]; have h' : b ≤ a := h; congr 1; simp [h']
  · rw [if_neg h]; have h' : ¬ b ≤ a := h; congr 1; simp [h']
theorem spec_whGood.is (w d : Int) : spec_whGood.f w d = some (lockB w d) := by
  unfold spec_whGood.f lockB
  simp only [spec_l1In.is, Option.bind_some]
  by_cases h : 1 ≤ w ∧ w ≤ 6 <;> simp [h]
theorem spec_whCount.lev (w d : Int) (h1 : 1 ≤ d) (h2 : d ≤ 10) (hn : w ≤ 6) : ∀ (j : Nat) (i : Int), 0 ≤ i → i ≤ w → i = j → Ev (fun k => spec_whCount.l0 k (d ^ (w - i).toNat) i w d) (d ^ w.toNat) := by
  intro j
  induction j with
  | zero =>
    intro i h0 hi hj
    obtain rfl : i = 0 := by omega
    exact Ev.step (fun k => rfl) (Ev.no (by omega) (Ev.id (by simp)))
  | succ j ih =>
    intro i h0 hi hj
    refine Ev.step (fun k => rfl) (Ev.yes (by omega) ?_)
    have hb := pow_bound h1 h2 (n := (w - i).toNat) (by omega)
    have hm : d ^ (w - i).toNat * d = d ^ (w - (i - 1)).toNat := by rw [show (w - (i - 1)).toNat = (w - i).toNat + 1 by omega, Int.pow_succ]
    have hb' := pow_bound h1 h2 (n := (w - (i - 1)).toNat) (by omega)
    rw [w64 (x := i - 1) (by omega) (by omega), hm, w64 (x := d ^ (w - (i - 1)).toNat) (by omega) (by omega)]
    exact ih (i - 1) (by omega) (by omega) (by omega)
theorem spec_whCount.ev {w d : Int} (h : lockB w d = true) : Ev (fun k => spec_whCount.f k w d) (d ^ w.toNat) := by
  obtain ⟨a, b, c, e⟩ := lockB_iff.mp h
  have := spec_whCount.lev w d (by omega) e b w.toNat w (by omega) (by omega) (by omega)
  unfold spec_whCount.f
  simpa using this
/-! Marks on numbers, that they are held, lists of numbers compared. -/
theorem laws_markIntS.lev : ∀ (j : Nat) (l : List Int) (a : Int) (i : Nat), i + j = l.length → l.length ≤ 1048576 → 0 ≤ a → a + j ≤ 2000000 →
    ∃ l' : List Int, l'.length = l.length ∧ (∀ m : Nat, m < i → l'[m]? = l[m]?) ∧ Ev (fun k => laws_markIntS.l0 k l a (i : Nat)) (a + j, l') ∧ Ev (fun k => laws_heldIntS.l0 k l' a (i : Nat)) (a + j) := by
  intro j
  induction j with
  | zero =>
    intro l a i hi hn ha hb
    exact ⟨l, rfl, fun _ _ => rfl, Ev.step (fun k => rfl) (Ev.no (by omega) (Ev.id (by simp))), Ev.step (fun k => rfl) (Ev.no (by omega) (Ev.id (by simp)))⟩
  | succ j ih =>
    intro l a i hi hn ha hb
    have hlt : i < l.length := by omega
    have e1 : wrap64 (a + 1) = a + 1 := w64 (by omega) (by omega)
    have e4 : wrap64 ((i : Int) + 1) = ((i + 1 : Nat) : Int) := w64 (by omega) (by omega)
    obtain ⟨l', hl, hk, hm, hh⟩ := ih (l.set i a) (a + 1) (i + 1) (by simp; omega) (by simpa using hn) (by omega) (by omega)
    rw [List.length_set] at hl
    have hat : l'[i]? = some a := by
      rw [hk i (by omega)]
      simp [hlt]
    have hat' : rd l' (i : Nat) = a := by
      unfold rd
      simp [List.getD, hat]
    refine ⟨l', hl, fun m hmi => ?_, ?_, ?_⟩
    · rw [hk m (by omega), List.getElem?_set_ne (by omega)]
    · refine Ev.step (fun k => rfl) (Ev.yes (by omega) (Ev.yes (by omega) ?_))
      rw [e1, e4, Int.toNat_natCast]
      exact Ev.eq hm (by rw [Prod.mk.injEq]; exact ⟨by omega, rfl⟩)
    · refine Ev.step (fun k => rfl) (Ev.yes (by omega) (Ev.yes (by omega) ?_))
      rw [e1, e4]
      exact Ev.yes hat' (Ev.eq hh (by omega))
theorem laws_markIntS.ev (l : List Int) (hn : l.length ≤ 1000000) : ∃ l' : List Int, Ev (fun k => laws_markIntS.f k l 1) (1 + (l.length : Nat), l') ∧ Ev (fun k => laws_heldIntS.f k l' 1) (1 + (l.length : Nat)) := by
  obtain ⟨l', _, _, hm, hh⟩ := laws_markIntS.lev l.length l 1 0 (by omega) (by omega) (by omega) (by omega)
  exact ⟨l', hm, hh⟩
/-! Gears' rows: sizes, copies, comparison, marks. -/
theorem rd_rowG {xs : List (List Int)} {i : Nat} (h : i < xs.length) : rd_L2 xs (i : Nat) = xs[i] := by unfold rd_L2; simp [List.getD, h]
theorem rd_intG {xs : List Int} {i : Nat} (h : i < xs.length) : rd xs (i : Nat) = xs[i] := by rw [rd_at (by simpa using h)]; simp
def RowsVG (x : List (List Int)) : Prop := x.length ≤ 9223372036854775807 ∧ ∀ r ∈ x, r.length ≤ 9223372036854775807
def RowsMG (x : List (List Int)) : Prop := x.length ≤ 1048576 ∧ ∀ r ∈ x, r.length ≤ 1048576
theorem RowsMG.v {x : List (List Int)} (h : RowsMG x) : RowsVG x := ⟨by have := h.1; omega, fun r hr => by have := h.2 r hr; omega⟩
theorem laws_szIntS.isG (l : List Int) (a : Int) (h0 : 0 ≤ a) (h1 : a ≤ 1048576) (hl : l.length ≤ 9223372036854775807) : laws_szIntS.f l a = some (if (l.length : Int) ≤ a then a - l.length else -1) := by
  unfold laws_szIntS.f
  rw [w64 (x := a - (l.length : Int)) (by omega) (by omega)]
  by_cases h : (l.length : Int) ≤ a
  · rw [if_neg (by omega), if_pos h]
  · rw [if_pos (by omega), if_neg h]
theorem laws_szIntSS.levG (l : List (List Int)) (hl : RowsVG l) : ∀ (m i : Nat) (a : Int), i + m = l.length → 0 ≤ a → a ≤ 1048576 → ∃ r, r ≤ a ∧ Ev (fun k => laws_szIntSS.l0 k l a (i : Nat)) r ∧ (0 ≤ r → ∀ x ∈ l.drop i, (x.length : Int) ≤ 1048576) := by
  have hl1 := hl.1
  intro m
  induction m with
  | zero =>
    intro i a hi h0 h1
    refine ⟨a, Int.le_refl _, Ev.step (fun k => rfl) (Ev.no (by omega) (Ev.now _)), fun _ x hx => ?_⟩
    rw [List.drop_eq_nil_of_le (by omega)] at hx
    simp at hx
  | succ m ih =>
    intro i a hi h0 h1
    have hlt : i < l.length := by omega
    have hx := hl.2 l[i] (List.getElem_mem hlt)
    by_cases h : (l[i].length : Int) ≤ a
    · obtain ⟨r, hr, he, hf⟩ := ih (i + 1) (a - l[i].length) (by omega) (by omega) (by omega)
      refine ⟨r, by omega, Ev.step (fun k => rfl) (Ev.yes (by omega) (Ev.yes (by omega) ?_)), fun hr0 x hx => ?_⟩
      · rw [rd_rowG hlt]
        refine Ev.bindc (laws_szIntS.isG _ _ h0 h1 hx) ?_
        rw [if_pos h, w64 (x := (i : Int) + 1) (by omega) (by omega)]
        exact Ev.no (by omega) he
      · rw [List.drop_eq_getElem_cons hlt] at hx
        rcases List.mem_cons.mp hx with rfl | hx
        · omega
        · exact hf hr0 x hx
    · refine ⟨-1, by omega, Ev.step (fun k => rfl) (Ev.yes (by omega) (Ev.yes (by omega) ?_)), fun hr0 => by omega⟩
      rw [rd_rowG hlt]
      refine Ev.bindc (laws_szIntS.isG _ _ h0 h1 hx) ?_
      rw [if_neg h]
      exact Ev.yes (by omega) (Ev.now _)
theorem laws_szIntSS.evG (l : List (List Int)) (hl : RowsVG l) (a : Int) (h0 : 0 ≤ a) (h1 : a ≤ 1048576) : ∃ r, r ≤ a ∧ Ev (fun k => laws_szIntSS.f k l a) r ∧ (0 ≤ r → RowsMG l) := by
  have hl1 := hl.1
  unfold laws_szIntSS.f
  rw [w64 (x := a - (l.length : Int)) (by omega) (by omega)]
  by_cases h : (l.length : Int) ≤ a
  · obtain ⟨r, hr, he, hf⟩ := laws_szIntSS.levG l hl l.length 0 (a - l.length) (by omega) (by omega) (by omega)
    refine ⟨r, by omega, Ev.no (by omega) he, fun hr0 => ⟨by omega, fun x hx => ?_⟩⟩
    have := hf hr0 x (by simpa using hx)
    omega
  · exact ⟨-1, by omega, Ev.yes (by omega) (Ev.now _), fun hr0 => by omega⟩
theorem laws_szGears.evG (n d : Int) (l : List (List Int)) (hl : RowsVG l) (a : Int) (h0 : 0 ≤ a) (h1 : a ≤ 1048576) : ∃ r, r ≤ a ∧ Ev (fun k => laws_szGears.f k n d l a) r ∧ (0 ≤ r → RowsMG l) := by
  obtain ⟨r, hr, he, hf⟩ := laws_szIntSS.evG l hl a h0 h1
  by_cases h : 0 ≤ r
  · exact ⟨r, hr, Ev.bind he (Ev.no (by omega) (Ev.now _)), hf⟩
  · exact ⟨-1, by omega, Ev.bind he (Ev.yes (by omega) (Ev.now _)), fun hr0 => by omega⟩
theorem laws_toIntS.levG (l : List Int) (hl : l.length ≤ 1048576) : ∀ (m i : Nat), i + m = l.length → Ev (fun k => laws_toIntS.l0 k l ((l.take i).map id ++ List.replicate (l.length - i) 0) (i : Nat)) l := by
  intro m
  induction m with
  | zero => intro i hi; exact Ev.step (fun k => rfl) (Ev.no (by omega) (Ev.id (by rw [show i = l.length by omega]; simp)))
  | succ m ih =>
    intro i hi
    have hlt : i < l.length := by omega
    refine Ev.step (fun k => rfl) (Ev.yes (by omega) (Ev.yes (by omega) (Ev.yes (by simp; omega) ?_)))
    rw [rd_intG hlt, Int.toNat_natCast]
    have this : ((l.take i).map id ++ List.replicate (l.length - i) 0).set i l[i] = (l.take (i + 1)).map id ++ List.replicate (l.length - (i + 1)) 0 := fill_step id l 0 i hlt
    rw [this, w64 (x := (i : Int) + 1) (by omega) (by omega)]
    exact ih (i + 1) (by omega)
theorem laws_toIntS.evG (l : List Int) (hl : l.length ≤ 1048576) : Ev (fun k => laws_toIntS.f k l) l := by
  unfold laws_toIntS.f
  refine Ev.yes (by omega) (Ev.yes (by simp; omega) ?_)
  have := laws_toIntS.levG l hl l.length 0 (by omega)
  simpa using this
theorem laws_toIntSS.levG (l : List (List Int)) (hl : RowsMG l) : ∀ (m i : Nat), i + m = l.length → Ev (fun k => laws_toIntSS.l0 k l ((l.take i).map id ++ List.replicate (l.length - i) []) (i : Nat)) l := by
  have hl1 := hl.1
  intro m
  induction m with
  | zero => intro i hi; exact Ev.step (fun k => rfl) (Ev.no (by omega) (Ev.id (by rw [show i = l.length by omega]; simp)))
  | succ m ih =>
    intro i hi
    have hlt : i < l.length := by omega
    refine Ev.step (fun k => rfl) (Ev.yes (by omega) (Ev.yes (by omega) ?_))
    rw [rd_rowG hlt]
    refine Ev.bind (laws_toIntS.evG _ (hl.2 _ (List.getElem_mem hlt))) (Ev.yes (by simp; omega) ?_)
    rw [Int.toNat_natCast]
    have this : ((l.take i).map id ++ List.replicate (l.length - i) []).set i l[i] = (l.take (i + 1)).map id ++ List.replicate (l.length - (i + 1)) [] := fill_step id l [] i hlt
    rw [this, w64 (x := (i : Int) + 1) (by omega) (by omega)]
    exact ih (i + 1) (by omega)
theorem laws_toIntSS.evG (l : List (List Int)) (hl : RowsMG l) : Ev (fun k => laws_toIntSS.f k l) l := by
  have hl1 := hl.1
  unfold laws_toIntSS.f
  refine Ev.yes (by omega) (Ev.yes (by simp; omega) ?_)
  have := laws_toIntSS.levG l hl l.length 0 (by omega)
  simpa using this
theorem laws_toGears.evG (n d : Int) (l : List (List Int)) (hl : RowsMG l) : Ev (fun k => laws_toGears.f k n d l) (n, d, l) := by
  unfold laws_toGears.f laws_toLock.f
  exact Ev.bindc rfl (Ev.bind (laws_toIntSS.evG l hl) (Ev.now _))
theorem laws_eqIntS.levBG (l : List Int) (hn : l.length ≤ 9223372036854775807) : ∀ (m i : Nat), i + m = l.length → Ev (fun k => laws_eqIntS.l0 k l l (i : Nat)) true := by
  intro m
  induction m with
  | zero => intro i hi; exact Ev.step (fun k => rfl) (Ev.no (by omega) (Ev.now _))
  | succ m ih =>
    intro i hi
    refine Ev.step (fun k => rfl) (Ev.yes (by omega) (Ev.yes (by omega) (Ev.yes (by omega) (Ev.yes rfl ?_))))
    rw [w64 (x := (i : Int) + 1) (by omega) (by omega)]
    exact ih (i + 1) (by omega)
theorem laws_eqIntS.evBG (l : List Int) (hn : l.length ≤ 9223372036854775807) : Ev (fun k => laws_eqIntS.f k l l) true := by
  unfold laws_eqIntS.f
  exact Ev.yes rfl (laws_eqIntS.levBG l hn l.length 0 (by omega))
theorem laws_eqIntSS.levG (l : List (List Int)) (hl : RowsVG l) : ∀ (m i : Nat), i + m = l.length → Ev (fun k => laws_eqIntSS.l0 k l l (i : Nat)) true := by
  have hl1 := hl.1
  intro m
  induction m with
  | zero => intro i hi; exact Ev.step (fun k => rfl) (Ev.no (by omega) (Ev.now _))
  | succ m ih =>
    intro i hi
    have hlt : i < l.length := by omega
    refine Ev.step (fun k => rfl) (Ev.yes (by omega) (Ev.yes (by omega) (Ev.yes (by omega) ?_)))
    rw [rd_rowG hlt]
    refine Ev.bind (laws_eqIntS.evBG _ (hl.2 _ (List.getElem_mem hlt))) (Ev.yes rfl ?_)
    rw [w64 (x := (i : Int) + 1) (by omega) (by omega)]
    exact ih (i + 1) (by omega)
theorem laws_eqIntSS.evG (l : List (List Int)) (hl : RowsVG l) : Ev (fun k => laws_eqIntSS.f k l l) true := by
  unfold laws_eqIntSS.f
  exact Ev.yes rfl (laws_eqIntSS.levG l hl l.length 0 (by omega))
theorem laws_eqGears.evG (n d : Int) (l : List (List Int)) (hl : RowsVG l) : Ev (fun k => laws_eqGears.f k n d l n d l) true := by
  unfold laws_eqGears.f laws_eqLock.f
  rw [if_pos rfl, if_pos rfl]
  exact Ev.bindc rfl (Ev.yes rfl (Ev.bind (laws_eqIntSS.evG l hl) (Ev.yes rfl (Ev.now _))))
def totLG (l : List (List Int)) : Nat := l.foldr (fun r n => r.length + n) 0
theorem markRows_evG : ∀ (l : List (List Int)) (a : Int), 0 ≤ a → a + (totLG l : Int) ≤ 2000000 → totLG l ≤ 1048576 → ∃ l', Ev (fun k => markRows k l a) (a + (totLG l : Int), l') := by
  intro l
  induction l with
  | nil => intro a h0 _ _; exact ⟨[], Ev.id (by rw [Prod.mk.injEq]; exact ⟨by show a = a + 0; omega, rfl⟩)⟩
  | cons x t ih =>
    intro a h0 h1 h2
    have ht : totLG (x :: t) = x.length + totLG t := rfl
    rw [ht] at h1 h2 ⊢
    obtain ⟨x', _, _, hm, _⟩ := laws_markIntS.lev x.length x a 0 (by omega) (by omega) h0 (by omega)
    obtain ⟨t', ht'⟩ := ih (a + x.length) (by omega) (by omega) (by omega)
    refine ⟨x' :: t', Ev.bind hm (Ev.bind ht' (Ev.id ?_))⟩
    rw [Prod.mk.injEq]
    exact ⟨by omega, rfl⟩
theorem C_rowsVG {w : World} {A : Option Addr} {l : List (List Int)} (h : Kd.C (Kd.slice 3 (Kd.int .i64)) w A l.length l) : RowsVG l := by
  refine ⟨h.2.1, fun r hr => ?_⟩
  obtain ⟨i, hi, rfl⟩ := List.getElem_of_mem hr
  obtain ⟨ad, cs, e, _, hK, _⟩ := Kd.C_get h ([] : List Int) (i : Int) (by omega) (by omega)
  obtain ⟨A0, c0, _, l0, g0⟩ := hK
  rw [Int.toNat_natCast, getD_at hi] at g0
  exact g0.2.1
theorem laws_szGears.evAG (n d : Int) (l : List (List Int)) (hl : RowsVG l) (a : Int) (h0 : 0 ≤ a) (h1 : a ≤ 1048576) : ∃ r, Ev (fun k => laws_szGears.f k n d l a) r ∧ (0 ≤ r → (totLG l : Int) + r ≤ a ∧ RowsMG l) := by
  have hl1 := hl.1
  have hlev : ∀ (m i : Nat) (a : Int), i + m = l.length → 0 ≤ a → a ≤ 1048576 → ∃ r, r ≤ a ∧ Ev (fun k => laws_szIntSS.l0 k l a (i : Nat)) r ∧ (0 ≤ r → (totLG (l.drop i) : Int) + r ≤ a) := by
    intro m
    induction m with
    | zero =>
      intro i a hi h0 h1
      refine ⟨a, Int.le_refl _, Ev.step (fun k => rfl) (Ev.no (by omega) (Ev.now _)), fun _ => ?_⟩
      rw [List.drop_eq_nil_of_le (by omega)]
      show ((0 : Nat) : Int) + a ≤ a
      omega
    | succ m ih =>
      intro i a hi h0 h1
      have hlt : i < l.length := by omega
      have hx := hl.2 l[i] (List.getElem_mem hlt)
      by_cases h : (l[i].length : Int) ≤ a
      · obtain ⟨r, hr, he, hf⟩ := ih (i + 1) (a - l[i].length) (by omega) (by omega) (by omega)
        refine ⟨r, by omega, Ev.step (fun k => rfl) (Ev.yes (by omega) (Ev.yes (by omega) ?_)), fun hr0 => ?_⟩
        · rw [rd_rowG hlt]
          refine Ev.bindc (laws_szIntS.isG _ _ h0 h1 hx) ?_
          rw [if_pos h, w64 (x := (i : Int) + 1) (by omega) (by omega)]
          exact Ev.no (by omega) he
        · rw [List.drop_eq_getElem_cons hlt]
          have := hf hr0
          show ((l[i].length + totLG (l.drop (i + 1)) : Nat) : Int) + r ≤ a
          omega
      · refine ⟨-1, by omega, Ev.step (fun k => rfl) (Ev.yes (by omega) (Ev.yes (by omega) ?_)), fun hr0 => by omega⟩
        rw [rd_rowG hlt]
        refine Ev.bindc (laws_szIntS.isG _ _ h0 h1 hx) ?_
        rw [if_neg h]
        exact Ev.yes (by omega) (Ev.now _)
  obtain ⟨q, _, hq, hqf⟩ := laws_szGears.evG n d l hl a h0 h1
  unfold laws_szGears.f laws_szIntSS.f at hq ⊢
  rw [w64 (x := a - (l.length : Int)) (by omega) (by omega)] at hq ⊢
  by_cases h : (l.length : Int) ≤ a
  · obtain ⟨r, hr, he, hf⟩ := hlev l.length 0 (a - l.length) (by omega) (by omega) (by omega)
    by_cases h2 : 0 ≤ r
    · have hx : Ev (fun k => ((if a - (l.length : Int) < 0 then some (-1) else laws_szIntSS.l0 k l (a - (l.length : Int)) 0).bind fun t => if t < 0 then some (-1) else some t)) r := Ev.bind (Ev.no (by omega) he) (Ev.no (by omega) (Ev.now _))
      have hqr : q = r := Ev.un hq hx
      refine ⟨r, hx, fun hr0 => ⟨?_, hqf (by omega)⟩⟩
      have := hf hr0
      rw [List.drop_zero] at this
      omega
    · exact ⟨-1, Ev.bind (Ev.no (by omega) he) (Ev.yes (by omega) (Ev.now _)), fun hr0 => by omega⟩
  · exact ⟨-1, Ev.bind (Ev.yes (by omega) (Ev.now _)) (Ev.yes (by omega) (Ev.now _)), fun hr0 => by omega⟩
/-! Gears: which are some; copies of them. -/
def knobB (w d : Int) (r : List Int) : Bool := decide ((r.length : Int) = w) && r.all fun x => decide (0 ≤ x ∧ x ≤ d - 1)
def gearsB (w d : Int) (l : List (List Int)) : Bool := smallB w d 1000 && (decide (1 ≤ (l.length : Int) ∧ (l.length : Int) ≤ 5) && l.all (knobB w d))
theorem gearsB_parts {w d : Int} {l : List (List Int)} (h : gearsB w d l = true) : ((1 ≤ w ∧ w ≤ 6) ∧ 2 ≤ d ∧ d ≤ 10) ∧ (1 ≤ l.length ∧ l.length ≤ 5) ∧ ∀ r ∈ l, knobB w d r = true := by
  unfold gearsB at h
  rw [Bool.and_eq_true, Bool.and_eq_true, decide_eq_true_eq, List.all_eq_true] at h
  have h1 := (smallB_iff.mp h.1).1
  exact ⟨⟨⟨h1.1, h1.2.1⟩, h1.2.2⟩, ⟨by omega, by omega⟩, h.2.2⟩
theorem knobB_len {w d : Int} {r : List Int} (h : knobB w d r = true) : (r.length : Int) = w := by
  unfold knobB at h
  rw [Bool.and_eq_true, decide_eq_true_eq] at h
  exact h.1
theorem spec_l1All.levG (a b : Int) (l : List Int) (hl : l.length ≤ 1048576) : ∀ (m i : Nat), i + m = l.length → Ev (fun k => spec_l1All.l0 k a b l (l.length : Int) (i : Nat)) ((l.drop i).all fun x => decide (a ≤ x ∧ x ≤ b)) := by
  intro m
  induction m with
  | zero =>
    intro i hi
    refine Ev.step (fun k => rfl) (Ev.no (by omega) (Ev.id ?_))
    rw [List.drop_eq_nil_of_le (by omega)]; rfl
  | succ m ih =>
    intro i hi
    have hlt : i < l.length := by omega
    refine Ev.step (fun k => rfl) (Ev.yes (by omega) (Ev.yes (by omega) (Ev.yes (by omega) (Ev.bindc (spec_l1In.is _ _ _) ?_))))
    rw [rd_intG hlt, List.drop_eq_getElem_cons hlt, List.all_cons, w64 (x := (i : Int) + 1) (by omega) (by omega)]
    by_cases h : a ≤ l[i] ∧ l[i] ≤ b
    · rw [decide_eq_true h, Bool.true_and]
      exact Ev.yes rfl (ih (i + 1) (by omega))
    · rw [decide_eq_false h, Bool.false_and]
      exact Ev.no (by simp) (Ev.now _)
theorem spec_joKnob.ev (w d : Int) (hd : 2 ≤ d ∧ d ≤ 10) (r : List Int) (hr : r.length ≤ 1048576) : Ev (fun k => spec_joKnob.f k w d r) (knobB w d r) := by
  unfold spec_joKnob.f knobB
  rw [w64 (x := d - 1) (by omega) (by omega)]
  by_cases h : (r.length : Int) = w
  · rw [decide_eq_true h, Bool.true_and]
    have := spec_l1All.levG 0 (d - 1) r hr r.length 0 (by omega)
    rw [List.drop_zero] at this
    exact Ev.yes h (Ev.bind this (Ev.now _))
  · rw [decide_eq_false h, Bool.false_and]
    exact Ev.no h (Ev.now _)
theorem spec_joGood.lev (w d : Int) (hd : 2 ≤ d ∧ d ≤ 10) (l : List (List Int)) (hl : RowsMG l) : ∀ (m i : Nat), i + m = l.length → Ev (fun k => spec_joGood.l0 k l (l.length : Int) (i : Nat) w d l) ((l.drop i).all (knobB w d)) := by
  have hl1 := hl.1
  intro m
  induction m with
  | zero =>
    intro i hi
    refine Ev.step (fun k => rfl) (Ev.no (by omega) (Ev.id ?_))
    rw [List.drop_eq_nil_of_le (by omega)]; rfl
  | succ m ih =>
    intro i hi
    have hlt : i < l.length := by omega
    refine Ev.step (fun k => rfl) (Ev.yes (by omega) (Ev.yes (by omega) (Ev.yes (by omega) ?_)))
    rw [rd_rowG hlt, List.drop_eq_getElem_cons hlt, List.all_cons, w64 (x := (i : Int) + 1) (by omega) (by omega)]
    refine Ev.bind (spec_joKnob.ev w d hd l[i] (hl.2 _ (List.getElem_mem hlt))) ?_
    cases e : knobB w d l[i] with
    | true => exact Ev.yes rfl (ih (i + 1) (by omega))
    | false => exact Ev.no (by simp) (Ev.now _)
theorem spec_joGood.no_ev (w d : Int) (l : List (List Int)) : Ev (fun k => spec_joGood.j0 k true w d l) false := by
  refine Ev.step (fun k => rfl) ?_
  simp only [spec_joGood.j0]
  first | exact Ev.yes rfl (Ev.now _) | exact Ev.yes trivial (Ev.now _) | exact Ev.now _
theorem spec_joGood.ev (w d : Int) (l : List (List Int)) (hl : RowsMG l) : Ev (fun k => spec_joGood.f k w d l) (gearsB w d l) := by
  unfold spec_joGood.f gearsB smallB
  refine Ev.bindc (spec_whGood.is w d) ?_
  cases h : lockB w d with
  | false => exact Ev.no (by simp) (by simpa using spec_joGood.no_ev w d l)
  | true =>
    have hb := lockB_iff.mp h
    refine Ev.yes rfl (Ev.bind (spec_whCount.ev h) ?_)
    by_cases h2 : d ^ w.toNat ≤ 1000
    · refine Ev.no (by omega) (Ev.bindc (spec_l1In.is _ _ _) ?_)
      rw [decide_eq_true h2]
      by_cases h3 : 1 ≤ (l.length : Int) ∧ (l.length : Int) ≤ 5
      · rw [decide_eq_true h3]
        refine Ev.step (fun k => rfl) ?_
        simp only [spec_joGood.j0]
        refine Ev.no (by simp) ?_
        have := spec_joGood.lev w d ⟨hb.2.2.1, hb.2.2.2⟩ l hl l.length 0 (by omega)
        simpa using this
      · rw [decide_eq_false h3]
        simpa using spec_joGood.no_ev w d l
    · rw [decide_eq_false h2]
      exact Ev.yes (by omega) (by simpa using spec_joGood.no_ev w d l)
theorem impl_AreGears.lev1 (w d : Int) (hd : 2 ≤ d ∧ d ≤ 10) (l : List (List Int)) (ll li : Int) (r : List Int) (hr : r.length ≤ 1048576) (o : Bool) (hgo : Ev (fun k => impl_AreGears.l0 k l ll (wrap64 (li + 1)) w d l) o) : ∀ (m i : Nat), i + m = r.length → Ev (fun k => impl_AreGears.l1 k l ll li r (r.length : Int) (i : Nat) w d l) (if (r.drop i).all (fun x => decide (0 ≤ x ∧ x ≤ d - 1)) = true then o else false) := by
  intro m
  induction m with
  | zero =>
    intro i hi
    rw [List.drop_eq_nil_of_le (by omega)]
    exact Ev.step (fun k => rfl) (Ev.no (by omega) (by simpa using hgo))
  | succ m ih =>
    intro i hi
    have hlt : i < r.length := by omega
    refine Ev.step (fun k => rfl) (Ev.yes (by omega) (Ev.yes (by omega) (Ev.yes (by omega) (Ev.bindc (impl_within.is _ _ _) ?_))))
    rw [rd_intG hlt, List.drop_eq_getElem_cons hlt, List.all_cons, w64 (x := (i : Int) + 1) (by omega) (by omega), w64 (x := d - 1) (by omega) (by omega)]
    by_cases h : 0 ≤ r[i] ∧ r[i] ≤ d - 1
    · rw [decide_eq_true h, Bool.true_and]
      exact Ev.yes rfl (ih (i + 1) (by omega))
    · rw [decide_eq_false h, Bool.false_and]
      exact Ev.no (by simp) (Ev.id (by simp))
theorem impl_AreGears.lev (w d : Int) (hd : 2 ≤ d ∧ d ≤ 10) (l : List (List Int)) (hl : RowsMG l) : ∀ (m i : Nat), i + m = l.length → Ev (fun k => impl_AreGears.l0 k l (l.length : Int) (i : Nat) w d l) ((l.drop i).all (knobB w d)) := by
  have hl1 := hl.1
  intro m
  induction m with
  | zero =>
    intro i hi
    refine Ev.step (fun k => rfl) (Ev.no (by omega) (Ev.id ?_))
    rw [List.drop_eq_nil_of_le (by omega)]; rfl
  | succ m ih =>
    intro i hi
    have hlt : i < l.length := by omega
    have hr := hl.2 l[i] (List.getElem_mem hlt)
    refine Ev.step (fun k => rfl) (Ev.yes (by omega) (Ev.yes (by omega) (Ev.yes (by omega) ?_)))
    rw [rd_rowG hlt, List.drop_eq_getElem_cons hlt, List.all_cons]
    have hgo := ih (i + 1) (by omega)
    have h1 := impl_AreGears.lev1 w d hd l (l.length : Int) (i : Int) l[i] hr _ (by rw [w64 (x := (i : Int) + 1) (by omega) (by omega)]; exact hgo) l[i].length 0 (by omega)
    rw [List.drop_zero] at h1
    unfold knobB at *
    by_cases h : (l[i].length : Int) = w
    · refine Ev.yes h (Ev.eq h1 ?_)
      rw [decide_eq_true h, Bool.true_and]
      cases l[i].all fun x => decide (0 ≤ x ∧ x ≤ d - 1) <;> simp
    · rw [decide_eq_false h]
      exact Ev.no h (Ev.id (by simp))
theorem impl_AreGears.no_ev (w d : Int) (l : List (List Int)) : Ev (fun k => impl_AreGears.j0 k true w d l) false := by
  refine Ev.step (fun k => rfl) ?_
  simp only [impl_AreGears.j0]
  first | exact Ev.yes rfl (Ev.now _) | exact Ev.yes trivial (Ev.now _) | exact Ev.now _
theorem impl_AreGears.ev (w d : Int) (l : List (List Int)) (hl : RowsMG l) : Ev (fun k => impl_AreGears.f k w d l) (gearsB w d l) := by
  unfold impl_AreGears.f gearsB
  refine Ev.bind (impl_isSmall.ev w d 1000) ?_
  cases h : smallB w d 1000 with
  | false => exact Ev.no (by simp) (by simpa using impl_AreGears.no_ev w d l)
  | true =>
    have hb := (smallB_iff.mp h).1
    refine Ev.yes rfl (Ev.bindc (impl_within.is _ _ _) ?_)
    by_cases h3 : 1 ≤ (l.length : Int) ∧ (l.length : Int) ≤ 5
    · rw [decide_eq_true h3]
      refine Ev.step (fun k => rfl) ?_
      simp only [impl_AreGears.j0]
      refine Ev.no (by simp) ?_
      have := impl_AreGears.lev w d ⟨hb.2.2.1, hb.2.2.2⟩ l hl l.length 0 (by omega)
      simpa using this
    · rw [decide_eq_false h3]
      simpa using impl_AreGears.no_ev w d l
theorem impl_copied.lev (w d : Int) (l : List (List Int)) (hl : l.length ≤ 5) (hr : ∀ r ∈ l, r.length ≤ 1048576) : ∀ (m i : Nat) (acc : List (List Int)), i + m = l.length → acc.length ≤ i → Ev (fun k => impl_Gears_copied.l0 k l (l.length : Int) (i : Nat) w d acc) (w, d, acc ++ l.drop i) := by
  intro m
  induction m with
  | zero =>
    intro i acc hi _
    refine Ev.step (fun k => rfl) (Ev.no (by omega) (Ev.id ?_))
    rw [List.drop_eq_nil_of_le (by omega), List.append_nil]
  | succ m ih =>
    intro i acc hi ha
    have hlt : i < l.length := by omega
    have hx := hr l[i] (List.getElem_mem hlt)
    refine Ev.step (fun k => rfl) (Ev.yes (by omega) (Ev.yes (by omega) (Ev.yes (by omega) ?_)))
    rw [rd_rowG hlt, w64 (x := (i : Int) + 1) (by omega) (by omega)]
    refine Ev.bindc (slices_Clone_int_int.is (by omega)) (Ev.yes (by omega) ?_)
    have := ih (i + 1) (acc ++ [l[i]]) (by omega) (by simp; omega)
    rw [List.drop_eq_getElem_cons hlt]
    rw [List.append_assoc] at this
    exact this
theorem spec_l1Own.isG {r : List Int} (h : r.length ≤ 1048576) : spec_l1Own.f r = some r := by
  unfold spec_l1Own.f
  rw [Option.bind_some, if_pos (by simp; omega), List.nil_append]
/-! spec's numbers of one digit. -/
theorem spec_l1Num.one {x : Int} (h : x < 10) : Ev (fun k => spec_l1Num.f k x) (strOfNums [wrap64 (48 + x) % 256]) :=
  Ev.step (fun k => rfl) (Ev.yes h (Ev.now _))
/-! Declarations moved out of EVal2. -/
theorem spec_whText.lev (D : List Int) (hD : D.length ≤ 6) (h : ∀ x ∈ D, 0 ≤ x ∧ x < 10) : ∀ (m i : Nat), i + m = D.length → Ev (fun k => spec_whText.l0 k (textB (D.take i)) D (D.length : Int) (i : Nat)) (textB D) := by
  intro m
  induction m with
  | zero =>
    intro i hi
    refine Ev.step (fun k => rfl) (Ev.no (by omega) (Ev.id ?_))
    rw [List.take_of_length_le (by omega)]
  | succ m ih =>
    intro i hi
    have hlt : i < D.length := by omega
    have hx := h D[i] (List.getElem_mem hlt)
    refine Ev.step (fun k => rfl) (Ev.yes (by omega) (Ev.yes (by omega) (Ev.yes (by omega) ?_)))
    rw [rd_at (by simpa using hlt)]
    refine Ev.bind (spec_l1Num.one (by simpa using hx.2)) ?_
    refine Ev.yes (by rw [textB_size, strOfNums_size, List.length_take]; simp; omega) ?_
    rw [show wrap64 ((i : Int) + 1) = ((i + 1 : Nat) : Int) from w64 (by omega) (by omega)]
    have := ih (i + 1) (by omega)
    rw [List.take_succ_eq_append_getElem hlt, textB_app] at this
    exact this
theorem spec_whText.ev (D : List Int) (hD : D.length ≤ 6) (h : ∀ x ∈ D, 0 ≤ x ∧ x < 10) : Ev (fun k => spec_whText.f k D) (textB D) := by
  unfold spec_whText.f
  exact spec_whText.lev D hD h D.length 0 (by omega)
theorem spec_whOf.lev {w d : Int} (hl : lockB w d = true) (D : List Int) (hD : D.length = w.toNat) (h : ∀ x ∈ D, 0 ≤ x ∧ x < 10) : ∀ (m : Nat) (n : Int) (T : List Int), 0 ≤ n → n ≤ 9223372036854775807 → digs d m n ++ T = D → Ev (fun k => spec_whOf.l0 k n (List.replicate m 0 ++ T) ((m : Int) - 1) w d) (textB D) := by
  obtain ⟨w1, w2, d1, d2⟩ := lockB_iff.mp hl
  intro m
  induction m with
  | zero =>
    intro n T h0 h1 hT
    refine Ev.step (fun k => rfl) (Ev.no (by omega) ?_)
    have : List.replicate 0 (0 : Int) ++ T = D := hT
    rw [this]
    exact Ev.bind (spec_whText.ev D (by omega) h) (Ev.now _)
  | succ m ih =>
    intro n T h0 h1 hT
    have hlen : m + 1 + T.length = D.length := by rw [← hT, List.length_append, digs_length]
    refine Ev.step (fun k => rfl) (Ev.yes (by omega) (Ev.no (by omega) (Ev.yes (by omega) (Ev.yes (by rw [List.length_append, List.length_replicate]; omega) ?_))))
    rw [show ((m + 1 : Nat) : Int) - 1 = (m : Nat) by omega, Int.toNat_natCast, rep_set, Int.tmod_eq_emod_of_nonneg h0, Int.tdiv_eq_ediv_of_nonneg h0]
    have r3 : 0 ≤ n / d := Int.ediv_nonneg h0 (by omega)
    have r4 : n / d ≤ n := Int.ediv_le_self _ h0
    rw [w64 (x := n / d) (by omega) (by omega), w64 (x := (m : Int) - 1) (by omega) (by omega)]
    refine ih (n / d) (n % d :: T) r3 (by omega) ?_
    rw [digs, List.append_assoc] at hT
    exact hT
theorem spec_whOf.ev {w d a : Int} (hl : lockB w d = true) (h0 : 0 ≤ a) (h1 : a ≤ 9223372036854775807) : Ev (fun k => spec_whOf.f k w d a) (codeB w d a) := by
  obtain ⟨w1, w2, d1, d2⟩ := lockB_iff.mp hl
  unfold spec_whOf.f
  refine Ev.yes (by omega) (Ev.yes (by omega) ?_)
  rw [w64 (x := w - 1) (by omega) (by omega)]
  have := spec_whOf.lev hl (digs d w.toNat a) (by rw [digs_length]) (fun x hx => by have := digs_range (d := d) (by omega) w.toNat a x hx; omega) w.toNat a [] h0 h1 (by rw [List.append_nil])
  rw [List.append_nil, show ((w.toNat : Nat) : Int) - 1 = w - 1 by omega] at this
  exact this
/-! Turns of knobs, and the search over codes: impl's and spec's. -/
theorem list_mix_set {T D : List Int} {i : Nat} (h : T.length = D.length) (hi : i < D.length) : (T.take i ++ D.drop i).set i (T[i]'(by omega)) = T.take (i + 1) ++ D.drop (i + 1) := by
  apply List.ext_getElem
  · simp; omega
  · intro q h1 h2
    rw [List.getElem_set]
    by_cases e : i = q
    · subst e
      rw [if_pos rfl, List.getElem_append_left (by simp; omega)]
      simp
    · rw [if_neg e]
      by_cases e2 : q < i
      · rw [List.getElem_append_left (by simp; omega), List.getElem_append_left (by simp; omega)]
        simp
      · have hq : q < D.length := by simp at h2; omega
        rw [List.getElem_append_right (by simp; omega), List.getElem_append_right (by simp; omega)]
        simp only [List.getElem_drop]
        congr 1
        simp
        omega
theorem mix_get {T D : List Int} {i : Nat} (h : T.length = D.length) (hi : i < D.length) : rd (T.take i ++ D.drop i) (i : Nat) = D[i] := by
  rw [rd_intG (by simp; omega), List.getElem_append_right (by simp; omega)]
  simp only [List.getElem_drop]
  congr 1
  simp
  omega
theorem mix_len {T D : List Int} {i : Nat} (h : T.length = D.length) (hi : i ≤ D.length) : (T.take i ++ D.drop i).length = D.length := by simp; omega
theorem impl_around.isD {d : Int} (hd : d ≠ 0) (x n t : Int) : impl_around.f (wrap64 (x + wrap64 (n * t))) d = some (turnDig d x n t) := by
  unfold impl_around.f turnDig; rw [if_neg hd]
theorem spec_l1Mod.isD {d : Int} (hd : d ≠ 0) (x n t : Int) : spec_l1Mod.f (wrap64 (x + wrap64 (t * n))) d = some (turnDig d x n t) := by
  unfold spec_l1Mod.f turnDig; rw [if_neg hd, Int.mul_comm t n]
theorem impl_Gears_turned.lev (w d t : Int) (hd : 2 ≤ d ∧ d ≤ 10) (L : List (List Int)) (D K : List Int) (hD : D.length ≤ 6) (hK : D.length = K.length) : ∀ (m i : Nat), i + m = D.length → Ev (fun k => impl_Gears_turned.l0 k t ((turnL d D K t).take i ++ D.drop i) K (K.length : Int) (i : Nat) w d L) (textB (turnL d D K t)) := by
  have hT := turnL_length (d := d) (t := t) hK
  intro m
  induction m with
  | zero =>
    intro i hi
    refine Ev.step (fun k => rfl) (Ev.no (by omega) ?_)
    rw [List.take_of_length_le (by omega), List.drop_eq_nil_of_le (by omega), List.append_nil]
    exact Ev.bind (impl_text.ev _ (by omega)) (Ev.now _)
  | succ m ih =>
    intro i hi
    have hlt : i < D.length := by omega
    refine Ev.step (fun k => rfl) (Ev.yes (by omega) (Ev.yes (by omega) (Ev.yes (by omega) (Ev.yes (by rw [mix_len hT (by omega)]; omega) ?_))))
    rw [mix_get hT hlt, rd_intG (show i < K.length by omega)]
    refine Ev.bindc (impl_around.isD (by omega) _ _ _) ?_
    rw [← turnL_get (i := i) (by omega) hlt (by omega), Int.toNat_natCast, list_mix_set hT hlt, w64 (x := (i : Int) + 1) (by omega) (by omega)]
    exact ih (i + 1) (by omega)
theorem spec_whAdd.lev (w d t : Int) (hd : 2 ≤ d ∧ d ≤ 10) (D K : List Int) (hD : D.length ≤ 6) (hK : D.length = K.length) : ∀ (m i : Nat), i + m = D.length → Ev (fun k => spec_whAdd.l0 k t ((turnL d D K t).take i ++ D.drop i) K (D.length : Int) (i : Nat) w d) (textB (turnL d D K t)) := by
  have hT := turnL_length (d := d) (t := t) hK
  intro m
  induction m with
  | zero =>
    intro i hi
    refine Ev.step (fun k => rfl) (Ev.no (by omega) ?_)
    rw [List.take_of_length_le (by omega), List.drop_eq_nil_of_le (by omega), List.append_nil]
    exact Ev.bind (spec_whText.ev _ (by omega) (fun x hx => by have := turnL_range (D := D) (K := K) (t := t) (d := d) (by omega) hd.2 x hx; omega)) (Ev.now _)
  | succ m ih =>
    intro i hi
    have hlt : i < D.length := by omega
    refine Ev.step (fun k => rfl) (Ev.yes (by omega) (Ev.yes (by omega) (Ev.yes (by rw [mix_len hT (by omega)]; omega) (Ev.yes (by omega) ?_))))
    rw [mix_get hT hlt, rd_intG (show i < K.length by omega)]
    refine Ev.bindc (spec_l1Mod.isD (by omega) _ _ _) ?_
    rw [← turnL_get (i := i) (by omega) hlt (by omega), Int.toNat_natCast, list_mix_set hT hlt, w64 (x := (i : Int) + 1) (by omega) (by omega)]
    exact ih (i + 1) (by omega)
def KnobsOk (w d : Int) (L : List (List Int)) : Prop := L.length ≤ 5 ∧ ∀ r ∈ L, knobB w d r = true
theorem knob_digits {w d : Int} (hl : lockB w d = true) {K : List Int} (h : knobB w d K = true) : (K.length : Int) = w ∧ K.length ≤ 6 ∧ ∀ x ∈ K, 0 ≤ x ∧ x < 10 := by
  obtain ⟨w1, w2, d1, d2⟩ := lockB_iff.mp hl
  have h1 := knobB_len h
  unfold knobB at h
  rw [Bool.and_eq_true, List.all_eq_true] at h
  exact ⟨h1, by omega, fun x hx => by have := of_decide_eq_true (h.2 x hx); omega⟩
theorem impl_Gears_turned.ev {w d : Int} (hl : lockB w d = true) {L : List (List Int)} (hL : KnobsOk w d L) {s : ByteArray} (hs : codeS w d s) {j : Nat} (hj : j < L.length) (t : Int) : Ev (fun k => impl_Gears_turned.f k w d L s (j : Nat) t) (gearV d s L[j] t) := by
  obtain ⟨w1, w2, d1, d2⟩ := lockB_iff.mp hl
  have hk := knob_digits hl (hL.2 _ (List.getElem_mem hj))
  have hlen : (dg s).length = L[j].length := by rw [dg_length, hs.1]; omega
  unfold impl_Gears_turned.f
  refine Ev.bind (impl_digits.ev hl hs) (Ev.yes (by omega) (Ev.yes (by omega) ?_))
  rw [rd_rowG hj]
  exact impl_Gears_turned.lev w d t ⟨d1, d2⟩ L (dg s) L[j] (by omega) hlen (dg s).length 0 (by omega)
theorem spec_joTurn.ev {w d : Int} (hl : lockB w d = true) {L : List (List Int)} (hL : KnobsOk w d L) {s : ByteArray} (hs : codeS w d s) {j : Nat} (hj : j < L.length) (t : Int) : Ev (fun k => spec_joTurn.f k w d L s (j : Nat) t) (gearV d s L[j] t) := by
  obtain ⟨w1, w2, d1, d2⟩ := lockB_iff.mp hl
  have hk := knob_digits hl (hL.2 _ (List.getElem_mem hj))
  have hlen : (dg s).length = L[j].length := by rw [dg_length, hs.1]; omega
  unfold spec_joTurn.f
  refine Ev.yes (by omega) (Ev.yes (by omega) ?_)
  rw [rd_rowG hj]
  refine Ev.bind (spec_whText.ev _ hk.2.1 hk.2.2) (Ev.bind ?_ (Ev.now _))
  unfold spec_whAdd.f
  have hb : ∀ i < (textB L[j]).size, 48 ≤ bt (textB L[j]) (i : Nat) ∧ bt (textB L[j]) (i : Nat) ≤ 57 := fun i hi => by
    have hi2 : i < L[j].length := by rw [textB_size] at hi; exact hi
    rw [bt_textB hk.2.2 hi2]
    have := hk.2.2 _ (List.getElem_mem hi2)
    omega
  refine Ev.bind (spec_whDigits.evc hl hs) (Ev.bind (spec_whDigits.ev (by rw [textB_size]; exact hk.2.1) hb) ?_)
  rw [dg_textB hk.2.2]
  exact spec_whAdd.lev w d t ⟨d1, d2⟩ (dg s) L[j] (by omega) hlen (dg s).length 0 (by omega)
def mkT (p : Int × Int) : S74 := ⟨p.1, p.2⟩
theorem impl_turns.lev (n : Nat) (hn : n ≤ 5) : ∀ (m i : Nat) (acc : List S74), i + m = n → acc.length ≤ 2 * i → Ev (fun k => impl_turns.l0 k acc (n : Int) (i : Nat)) (acc ++ (tur m i).map mkT) := by
  intro m
  induction m with
  | zero => intro i acc hi ha; exact Ev.step (fun k => rfl) (Ev.no (by omega) (Ev.id (by simp [tur])))
  | succ m ih =>
    intro i acc hi ha
    refine Ev.step (fun k => rfl) (Ev.yes (by omega) ?_)
    simp only [Option.bind_some]
    refine Ev.yes (by simp; omega) ?_
    rw [w64 (x := (i : Int) + 1) (by omega) (by omega)]
    refine Ev.eq (ih (i + 1) _ (by omega) (by simp; omega)) ?_
    simp [tur, mkT]
theorem impl_turns.ev (n : Nat) (hn : n ≤ 5) : Ev (fun k => impl_turns.f k (n : Int)) ((tur n 0).map mkT) := impl_turns.lev n hn n 0 [] (by omega) (by simp)
def nxG (d : Int) (L : List (List Int)) (s : ByteArray) (p : Int × Int) : ByteArray := gearV d s (L.getD p.1.toNat []) p.2
theorem nxG_code {w d : Int} (hl : lockB w d = true) {L : List (List Int)} (hL : KnobsOk w d L) {s : ByteArray} (hs : codeS w d s) : ∀ p ∈ tur L.length 0, codeS w d (nxG d L s p) := by
  intro p hp
  obtain ⟨j, h1, _, h3⟩ := tur_mem _ _ _ hp
  unfold nxG
  rw [h1, Int.toNat_natCast, getD_at (show j < L.length by omega)]
  exact gearV_code hl hs (knob_digits hl (hL.2 _ (List.getElem_mem (by omega)))).1 p.2
theorem rdT_map {T : List (Int × Int)} {i : Nat} (h : i < T.length) : rd_T74 (T.map mkT) (i : Nat) = mkT T[i] := by
  unfold rd_T74; simp [List.getD, h]
theorem rdOf_head (s : ByteArray) (Q : List ByteArray) : rdOf ByteArray.empty (s :: Q) 0 = s := rfl
theorem impl_far.l1ev {w d : Int} (hl : lockB w d = true) {L : List (List Int)} (hL : KnobsOk w d L) {s : ByteArray} (hs : codeS w d s) (v : Int) (cnt : Nat) (hcnt : (cnt : Int) = d ^ w.toNat) (R : List Int) : ∀ (m i : Nat) (F : List Int) (Q : List ByteArray), i + m = (tur L.length 0).length → F.length = cnt → Q.length + m ≤ 1000000000 →
    Ev (fun k => impl_Gears_far.l0 k (inn (nxG d L s) (numV d) v ((tur L.length 0).drop i) F Q).1 (inn (nxG d L s) (numV d) v ((tur L.length 0).drop i) F Q).2 w d L) R →
    Ev (fun k => impl_Gears_far.l1 k F (s :: Q) v ((tur L.length 0).map mkT) (((tur L.length 0).map mkT).length : Int) (i : Nat) w d L) R := by
  have h5 := hL.1
  have hTl := tur_length L.length 0
  intro m
  induction m with
  | zero =>
    intro i F Q hi hF hQ hR
    rw [List.drop_eq_nil_of_le (by omega)] at hR
    refine Ev.step (fun k => rfl) (Ev.no (by simp; omega) (Ev.yes (by simp; omega) ?_))
    exact hR
  | succ m ih =>
    intro i F Q hi hF hQ hR
    have hlt : i < (tur L.length 0).length := by omega
    obtain ⟨j, h1, _, h3⟩ := tur_mem _ _ _ (List.getElem_mem hlt)
    have hj : j < L.length := by omega
    have hcode := nxG_code hl hL hs _ (List.getElem_mem hlt)
    have hnum := numV_range hl hcode
    have hnx : nxG d L s (tur L.length 0)[i] = gearV d s L[j] (tur L.length 0)[i].2 := by
      unfold nxG; rw [h1, Int.toNat_natCast, getD_at hj]
    refine Ev.step (fun k => rfl) (Ev.yes (by simp; omega) (Ev.yes (by omega) (Ev.yes (by simp; omega) (Ev.yes (by simp <;> omega) ?_))))
    rw [rdT_map hlt, rdOf_head, show (mkT (tur L.length 0)[i]).f0 = (j : Int) from h1, show (mkT (tur L.length 0)[i]).f1 = (tur L.length 0)[i].2 from rfl, w64 (x := (i : Int) + 1) (by omega) (by omega)]
    have ht := impl_Gears_turned.ev hl hL hs hj (tur L.length 0)[i].2
    rw [← hnx] at ht
    refine Ev.bind ht (Ev.bind (impl_Lock_number.ev hl hcode) (Ev.yes hnum.1 (Ev.yes (by rw [hF, hcnt]; exact hnum.2) ?_)))
    rw [List.drop_eq_getElem_cons hlt] at hR
    unfold inn at hR
    show Ev (fun k => if rd F (numV d (nxG d L s (tur L.length 0)[i])) < 0 then _ else _) R
    by_cases e : rd F (numV d (nxG d L s (tur L.length 0)[i])) < 0
    · rw [if_pos e] at hR
      exact Ev.yes e (Ev.yes (by simp; omega) (ih (i + 1) _ _ (by omega) (by rw [List.length_set]; exact hF) (by simp; omega) hR))
    · rw [if_neg e] at hR
      exact Ev.no e (ih (i + 1) _ _ (by omega) hF (by omega) hR)
theorem rd_nonneg_ok {F : List Int} {B : Int} {cnt : Nat} (hF : InvF cnt B F) {j : Int} (h0 : 0 ≤ j) (h1 : j < cnt) : rd F j ≤ B := by
  have hlt : j.toNat < F.length := by rw [hF.1]; omega
  rw [rd_at hlt]
  exact (hF.2 _ (List.getElem_mem hlt)).2
theorem impl_far.l0ev {w d : Int} (hl : lockB w d = true) {L : List (List Int)} (hL : KnobsOk w d L) (cnt : Nat) (hcnt : (cnt : Int) = d ^ w.toNat) : ∀ (m : Nat) (F : List Int) (Q : List ByteArray) (B : Int), InvF cnt B F → InvQ (codeS w d) (numV d) F Q → 0 ≤ B → B + m ≤ 5000000 → negC F + Q.length ≤ m →
    Ev (fun k => impl_Gears_far.l0 k F Q w d L) (bfs (tur L.length 0) (nxG d L) (numV d) m F Q) := by
  have h5 := hL.1
  have hnum : ∀ s, codeS w d s → 0 ≤ numV d s ∧ numV d s < cnt := fun s hs => by rw [hcnt]; exact numV_range hl hs
  intro m
  induction m with
  | zero =>
    intro F Q B hF hQ hB hm hn
    have : Q = [] := List.eq_nil_of_length_eq_zero (by omega)
    subst this
    exact Ev.eq (Ev.step (fun k => rfl) (Ev.now F)) rfl
  | succ m ih =>
    intro F Q B hF hQ hB hm hn
    cases Q with
    | nil => exact Ev.eq (Ev.step (fun k => rfl) (Ev.now F)) rfl
    | cons s Q =>
      obtain ⟨hs, hv⟩ := hQ s List.mem_cons_self
      have hn1 := hnum s hs
      have hv2 := rd_nonneg_ok hF hn1.1 hn1.2
      have hF2 : InvF cnt (B + 1) F := ⟨hF.1, fun x hx => by have := hF.2 x hx; omega⟩
      have hQ2 : InvQ (codeS w d) (numV d) F Q := fun t ht => hQ t (List.mem_cons_of_mem _ ht)
      obtain ⟨i1, i2, i3⟩ := inn_inv (v := rd F (numV d s)) (B := B) (B2 := B + 1) hnum hv (by omega) (by omega) (by omega) (tur L.length 0) F Q (nxG_code hl hL hs) hF2 hQ2
      have hrec := ih _ _ (B + 1) i1 i2 (by omega) (by omega) (by rw [i3]; rw [List.length_cons] at hn; omega)
      have hin := impl_far.l1ev hl hL hs (rd F (numV d s)) cnt hcnt _ (tur L.length 0).length 0 F Q (by omega) hF.1 (by rw [tur_length]; rw [List.length_cons] at hn; omega) (by rw [List.drop_zero]; exact hrec)
      refine Ev.step (fun k => rfl) (Ev.yes (by simp <;> omega) (Ev.yes (by simp <;> omega) ?_))
      rw [rdOf_head]
      exact Ev.bind (impl_Lock_number.ev hl hs) (Ev.yes hn1.1 (Ev.yes (by rw [hF.1]; exact hn1.2) (Ev.bind (impl_turns.ev L.length h5) hin)))
def far0 (d : Int) (cnt : Nat) (s : ByteArray) : List Int := (List.replicate cnt (-1)).set (numV d s).toNat 0
def farV (w d : Int) (L : List (List Int)) (s : ByteArray) : List Int := bfs (tur L.length 0) (nxG d L) (numV d) ((d ^ w.toNat).toNat + 1) (far0 d (d ^ w.toNat).toNat s) [s]
theorem far0_inv {w d : Int} (hl : lockB w d = true) {s : ByteArray} (hs : codeS w d s) : InvF (d ^ w.toNat).toNat 0 (far0 d (d ^ w.toNat).toNat s) ∧ InvQ (codeS w d) (numV d) (far0 d (d ^ w.toNat).toNat s) [s] := by
  have hn := numV_range hl hs
  refine ⟨⟨by simp [far0], fun x hx => ?_⟩, fun t ht => ?_⟩
  · rcases List.mem_or_eq_of_mem_set hx with hx | hx
    · have := List.eq_of_mem_replicate hx; omega
    · omega
  · rw [List.mem_singleton.mp ht]
    refine ⟨hs, ?_⟩
    unfold far0
    rw [rd_set_int hn.1 (by simp; omega), if_pos (by omega)]
    exact Int.le_refl 0
theorem negC_le (F : List Int) : negC F ≤ F.length := List.countP_le_length
theorem impl_Gears_far.ev {w d : Int} (hl : lockB w d = true) (h1000 : d ^ w.toNat ≤ 1000) {L : List (List Int)} (hL : KnobsOk w d L) {s : ByteArray} (hs : codeS w d s) : Ev (fun k => impl_Gears_far.f k w d L s) (farV w d L s) := by
  have hcb := (count_bound hl).1
  have hn := numV_range hl hs
  obtain ⟨i1, i2⟩ := far0_inv hl hs
  unfold impl_Gears_far.f
  refine Ev.bind (impl_Lock_count.ev hl) (Ev.bindc (a := List.replicate (d ^ w.toNat).toNat (-1)) (by unfold slices_Repeat_int_int.f; rw [if_pos ⟨rfl, hcb, h1000⟩]; rfl) (Ev.bind (impl_Lock_number.ev hl hs) (Ev.yes hn.1 (Ev.yes (by rw [List.length_replicate]; have := hn.2; unfold numV at this; omega) ?_))))
  have hneg := negC_le (far0 d (d ^ w.toNat).toNat s)
  exact impl_far.l0ev hl hL (d ^ w.toNat).toNat (by omega) ((d ^ w.toNat).toNat + 1) (far0 d (d ^ w.toNat).toNat s) [s] 0 i1 i2 (by omega) (by omega) (by rw [i1.1] at hneg; simp; omega)
theorem rdOf_mid (P : List ByteArray) (s : ByteArray) (Q : List ByteArray) : rdOf ByteArray.empty (P ++ s :: Q) (P.length : Nat) = s := by
  unfold rdOf; simp [List.getD]
theorem spec_far.l3ev {w d : Int} (hl : lockB w d = true) {L : List (List Int)} (hL : KnobsOk w d L) {s : ByteArray} (hs : codeS w d s) (v : Int) (cnt : Nat) (hcnt : (cnt : Int) = d ^ w.toNat) (P : List ByteArray) (R : List Int) {j : Nat} (hj : j < L.length) (F : List Int) (Q : List ByteArray) (hF : F.length = cnt) (hQ : P.length + Q.length ≤ 1000000000) (e : Int)
    (h : Ev (fun k => spec_joFar.l2 k (inn (nxG d L s) (numV d) v [((j : Int), 1), ((j : Int), -1)] F Q).1 (P ++ s :: (inn (nxG d L s) (numV d) v [((j : Int), 1), ((j : Int), -1)] F Q).2) (P.length : Nat) v e (wrap64 ((j : Int) + 1)) w d L) R) :
    Ev (fun k => spec_joFar.l3 k F (P ++ s :: Q) (P.length : Nat) v (j : Nat) 1 e (j : Nat) w d L) R := by
  have one : ∀ (t : Int) (F : List Int) (Q : List ByteArray) (Fb : List Int) (Qb : List ByteArray) (t2 : Int), (t = 1 ∨ t = -1) → wrap64 (t - 2) = t2 → F.length = cnt → P.length + Q.length ≤ 1000000001 → inn (nxG d L s) (numV d) v [((j : Int), t)] F Q = (Fb, Qb) →
      Ev (fun k => spec_joFar.l3 k Fb (P ++ s :: Qb) (P.length : Nat) v (j : Nat) t2 e (j : Nat) w d L) R → Ev (fun k => spec_joFar.l3 k F (P ++ s :: Q) (P.length : Nat) v (j : Nat) t e (j : Nat) w d L) R := by
    intro t F Q Fb Qb t2 ht ht2 hF hQ hin hk
    have hcode : codeS w d (gearV d s L[j] t) := gearV_code hl hs (knob_digits hl (hL.2 _ (List.getElem_mem hj))).1 t
    have hnum := numV_range hl hcode
    have hnx : nxG d L s ((j : Int), t) = gearV d s L[j] t := by
      unfold nxG; rw [show ((j : Int), t).1.toNat = j from Int.toNat_natCast j, getD_at hj]
    refine Ev.step (fun k => rfl) (Ev.yes (by omega) (Ev.yes (by omega) (Ev.yes (by simp; omega) ?_)))
    rw [rdOf_mid, ht2]
    refine Ev.bind (spec_joTurn.ev hl hL hs hj t) (Ev.bind (spec_whNumber.ev hl hcode) (Ev.yes hnum.1 (Ev.yes (by rw [hF, hcnt]; exact hnum.2) ?_)))
    simp only [inn, hnx] at hin
    show Ev (fun k => if rd F (numV d (gearV d s L[j] t)) < 0 then _ else _) R
    by_cases e2 : rd F (numV d (gearV d s L[j] t)) < 0
    · rw [if_pos e2] at hin
      obtain ⟨rfl, rfl⟩ := Prod.mk.inj hin
      refine Ev.yes e2 (Ev.yes (by simp; omega) ?_)
      rw [List.append_assoc, List.cons_append]
      exact hk
    · rw [if_neg e2] at hin
      obtain ⟨rfl, rfl⟩ := Prod.mk.inj hin
      exact Ev.no e2 hk
  have hlen : ∀ (t : Int) (F : List Int) (Q : List ByteArray), (inn (nxG d L s) (numV d) v [((j : Int), t)] F Q).1.length = F.length ∧ (inn (nxG d L s) (numV d) v [((j : Int), t)] F Q).2.length ≤ Q.length + 1 := by
    intro t F Q
    simp only [inn]
    split <;> simp
  have h2 : inn (nxG d L s) (numV d) v [((j : Int), 1), ((j : Int), -1)] F Q = inn (nxG d L s) (numV d) v [((j : Int), -1)] (inn (nxG d L s) (numV d) v [((j : Int), 1)] F Q).1 (inn (nxG d L s) (numV d) v [((j : Int), 1)] F Q).2 := by
    simp only [inn]
    split <;> rfl
  rw [h2] at h
  have l1 := hlen 1 F Q
  rcases e1 : inn (nxG d L s) (numV d) v [((j : Int), 1)] F Q with ⟨Fa, Qa⟩
  rw [e1] at h l1
  have l2 := hlen (-1) Fa Qa
  rcases e2 : inn (nxG d L s) (numV d) v [((j : Int), -1)] Fa Qa with ⟨Fb, Qb⟩
  simp only [] at h l1
  rw [e2] at h
  refine one 1 F Q Fa Qa (-1) (Or.inl rfl) (by unfold wrap64; omega) hF (by omega) e1 ?_
  refine one (-1) Fa Qa Fb Qb (-3) (Or.inr rfl) (by unfold wrap64; omega) (by rw [l1.1]; exact hF) (by have := l1.2; omega) e2 ?_
  exact Ev.step (fun k => rfl) (Ev.no (by omega) h)
theorem inn_append (nx : Int × Int → ByteArray) (num : ByteArray → Int) (v : Int) : ∀ (ps qs : List (Int × Int)) (F : List Int) (Q : List ByteArray), inn nx num v (ps ++ qs) F Q = inn nx num v qs (inn nx num v ps F Q).1 (inn nx num v ps F Q).2
  | [], _, _, _ => rfl
  | p :: ps, qs, F, Q => by
    by_cases e : rd F (num (nx p)) < 0
    · simp only [List.cons_append, inn, if_pos e]
      exact inn_append nx num v ps qs _ _
    · simp only [List.cons_append, inn, if_neg e]
      exact inn_append nx num v ps qs _ _
theorem inn_len (nx : Int × Int → ByteArray) (num : ByteArray → Int) (v : Int) : ∀ (ps : List (Int × Int)) (F : List Int) (Q : List ByteArray), (inn nx num v ps F Q).1.length = F.length ∧ (inn nx num v ps F Q).2.length ≤ Q.length + ps.length
  | [], _, _ => ⟨rfl, by simp [inn]⟩
  | p :: ps, F, Q => by
    unfold inn
    split
    · have := inn_len nx num v ps (F.set (num (nx p)).toNat (wrap64 (v + 1))) (Q ++ [nx p])
      exact ⟨by rw [this.1, List.length_set], by have := this.2; simp at this ⊢; omega⟩
    · have := inn_len nx num v ps F Q
      exact ⟨this.1, by have := this.2; simp; omega⟩
theorem spec_far.l2ev {w d : Int} (hl : lockB w d = true) {L : List (List Int)} (hL : KnobsOk w d L) {s : ByteArray} (hs : codeS w d s) (v : Int) (cnt : Nat) (hcnt : (cnt : Int) = d ^ w.toNat) (P : List ByteArray) (R : List Int) : ∀ (m j : Nat) (F : List Int) (Q : List ByteArray), j + m = L.length → F.length = cnt → P.length + Q.length + 2 * m ≤ 1000000000 →
    Ev (fun k => spec_joFar.l1 k (inn (nxG d L s) (numV d) v (tur m j) F Q).1 (P ++ s :: (inn (nxG d L s) (numV d) v (tur m j) F Q).2) (wrap64 ((P.length : Nat) + 1)) w d L) R →
    Ev (fun k => spec_joFar.l2 k F (P ++ s :: Q) (P.length : Nat) v (L.length : Int) (j : Nat) w d L) R := by
  have h5 := hL.1
  intro m
  induction m with
  | zero => intro j F Q hj hF hQ hR; exact Ev.step (fun k => rfl) (Ev.no (by omega) hR)
  | succ m ih =>
    intro j F Q hj hF hQ hR
    have hlt : j < L.length := by omega
    refine Ev.step (fun k => rfl) (Ev.yes (by omega) ?_)
    refine spec_far.l3ev hl hL hs v cnt hcnt P R hlt F Q hF (by omega) (L.length : Int) ?_
    rw [w64 (x := (j : Int) + 1) (by omega) (by omega)]
    have e : tur (m + 1) j = [((j : Int), 1), ((j : Int), -1)] ++ tur m (j + 1) := rfl
    rw [e, inn_append] at hR
    have hi := inn_len (nxG d L s) (numV d) v [((j : Int), 1), ((j : Int), -1)] F Q
    exact ih (j + 1) _ _ (by omega) (by rw [hi.1]; exact hF) (by have := hi.2; simp at this; omega) hR
theorem spec_far.l1ev {w d : Int} (hl : lockB w d = true) {L : List (List Int)} (hL : KnobsOk w d L) (cnt : Nat) (hcnt : (cnt : Int) = d ^ w.toNat) : ∀ (m : Nat) (F : List Int) (P Q : List ByteArray) (B : Int), InvF cnt B F → InvQ (codeS w d) (numV d) F Q → 0 ≤ B → B + m ≤ 5000000 → negC F + Q.length ≤ m → P.length + m ≤ 5000000 →
    Ev (fun k => spec_joFar.l1 k F (P ++ Q) (P.length : Nat) w d L) (bfs (tur L.length 0) (nxG d L) (numV d) m F Q) := by
  have h5 := hL.1
  have hnum : ∀ s, codeS w d s → 0 ≤ numV d s ∧ numV d s < cnt := fun s hs => by rw [hcnt]; exact numV_range hl hs
  intro m
  induction m with
  | zero =>
    intro F P Q B hF hQ hB hm hn hP
    have : Q = [] := List.eq_nil_of_length_eq_zero (by omega)
    subst this
    exact Ev.eq (Ev.step (fun k => rfl) (Ev.no (by simp) (Ev.now F))) rfl
  | succ m ih =>
    intro F P Q B hF hQ hB hm hn hP
    cases Q with
    | nil => exact Ev.eq (Ev.step (fun k => rfl) (Ev.no (by simp) (Ev.now F))) rfl
    | cons s Q =>
      rw [List.length_cons] at hn
      obtain ⟨hs, hv⟩ := hQ s List.mem_cons_self
      have hn1 := hnum s hs
      have hv2 := rd_nonneg_ok hF hn1.1 hn1.2
      have hFb : InvF cnt (B + 1) F := ⟨hF.1, fun x hx => by have := hF.2 x hx; omega⟩
      have hQb : InvQ (codeS w d) (numV d) F Q := fun t ht => hQ t (List.mem_cons_of_mem _ ht)
      obtain ⟨i1, i2, i3⟩ := inn_inv (v := rd F (numV d s)) (B := B) (B2 := B + 1) hnum hv (by omega) (by omega) (by omega) (tur L.length 0) F Q (nxG_code hl hL hs) hFb hQb
      have hrec := ih (inn (nxG d L s) (numV d) (rd F (numV d s)) (tur L.length 0) F Q).1 (P ++ [s]) (inn (nxG d L s) (numV d) (rd F (numV d s)) (tur L.length 0) F Q).2 (B + 1) i1 i2 (by omega) (by omega) (by rw [i3]; omega) (by simp; omega)
      rw [List.append_assoc, List.length_append, List.length_singleton] at hrec
      have hin := spec_far.l2ev hl hL hs (rd F (numV d s)) cnt hcnt P _ L.length 0 F Q (by omega) hF.1 (by omega) (by rw [w64 (x := (P.length : Int) + 1) (by omega) (by omega)]; exact hrec)
      refine Ev.step (fun k => rfl) (Ev.yes (by simp; omega) (Ev.yes (by omega) ?_))
      rw [rdOf_mid]
      exact Ev.bind (spec_whNumber.ev hl hs) (Ev.yes hn1.1 (Ev.yes (by rw [hF.1]; exact hn1.2) hin))
theorem rep_mix (c i : Nat) (hi : i < c) : (List.replicate i (-1 : Int) ++ List.replicate (c - i) 0).set i (-1) = List.replicate (i + 1) (-1) ++ List.replicate (c - (i + 1)) 0 := by
  rw [List.set_append_right _ _ (by simp), List.length_replicate, Nat.sub_self, show c - i = (c - (i + 1)) + 1 by omega, List.replicate_succ, List.set_cons_zero, List.replicate_succ', List.append_assoc]
  rfl
theorem spec_far.l0ev {w d : Int} (hl : lockB w d = true) {L : List (List Int)} {s : ByteArray} (hs : codeS w d s) (cnt : Nat) (hcnt : (cnt : Int) = d ^ w.toNat) (R : List Int) (hR : Ev (fun k => spec_joFar.l1 k (far0 d cnt s) [s] 0 w d L) R) : ∀ (m i : Nat), i + m = cnt → Ev (fun k => spec_joFar.l0 k s (List.replicate i (-1) ++ List.replicate (cnt - i) 0) (cnt : Int) (i : Nat) w d L) R := by
  have hcb := (count_bound hl).2
  have hn := numV_range hl hs
  intro m
  induction m with
  | zero =>
    intro i hi
    refine Ev.step (fun k => rfl) (Ev.no (by omega) (Ev.bind (spec_whNumber.ev hl hs) (Ev.yes hn.1 (Ev.yes (by simp; have := hn.2; unfold numV at this; omega) ?_))))
    rw [show cnt - i = 0 by omega, List.replicate_zero, List.append_nil, show i = cnt by omega]
    exact hR
  | succ m ih =>
    intro i hi
    refine Ev.step (fun k => rfl) (Ev.yes (by omega) (Ev.yes (by omega) (Ev.yes (by simp; omega) ?_)))
    rw [Int.toNat_natCast, rep_mix cnt i (by omega), w64 (x := (i : Int) + 1) (by omega) (by omega)]
    exact ih (i + 1) (by omega)
theorem spec_joFar.ev {w d : Int} (hl : lockB w d = true) (h1000 : d ^ w.toNat ≤ 1000) {L : List (List Int)} (hL : KnobsOk w d L) {s : ByteArray} (hs : codeS w d s) : Ev (fun k => spec_joFar.f k w d L s) (farV w d L s) := by
  have hcb := (count_bound hl).1
  obtain ⟨i1, i2⟩ := far0_inv hl hs
  have hneg := negC_le (far0 d (d ^ w.toNat).toNat s)
  have h1 := spec_far.l1ev hl hL (d ^ w.toNat).toNat (by omega) ((d ^ w.toNat).toNat + 1) (far0 d (d ^ w.toNat).toNat s) [] [s] 0 i1 i2 (by omega) (by omega) (by rw [i1.1] at hneg; simp; omega) (by simp; omega)
  have h0 := spec_far.l0ev hl (L := L) hs (d ^ w.toNat).toNat (by omega) _ h1 (d ^ w.toNat).toNat 0 (by omega)
  unfold spec_joFar.f
  refine Ev.bind (spec_whCount.ev hl) (Ev.yes (by omega) (Ev.yes (by omega) ?_))
  simp only [Option.bind_some, List.length_replicate]
  exact h0
def clsL (F : List Int) : Nat → Nat → List Int
  | 0, _ => []
  | m + 1, i => if rd F (i : Nat) ≥ 0 then (i : Int) :: clsL F m (i + 1) else clsL F m (i + 1)
def reachN (F : List Int) : Nat := (clsL F F.length 0).length
theorem impl_Gears_class.lev (F : List Int) (hF : F.length ≤ 1000) : ∀ (m i : Nat) (acc : List Int), i + m = F.length → acc.length ≤ i → Ev (fun k => impl_Gears_class.l0 k acc F (F.length : Int) (i : Nat)) (acc ++ clsL F m i) := by
  intro m
  induction m with
  | zero => intro i acc hi ha; exact Ev.step (fun k => rfl) (Ev.no (by omega) (Ev.id (by simp [clsL])))
  | succ m ih =>
    intro i acc hi ha
    refine Ev.step (fun k => rfl) (Ev.yes (by omega) (Ev.yes (by omega) (Ev.yes (by omega) ?_)))
    rw [w64 (x := (i : Int) + 1) (by omega) (by omega)]
    unfold clsL
    by_cases e : rd F (i : Nat) ≥ 0
    · rw [if_pos e]
      refine Ev.yes e (Ev.yes (by omega) (Ev.eq (ih (i + 1) (acc ++ [(i : Int)]) (by omega) (by simp; omega)) (by simp)))
    · rw [if_neg e]
      exact Ev.no e (ih (i + 1) acc (by omega) (by omega))
theorem spec_joReached.lev (F : List Int) (hF : F.length ≤ 1000) : ∀ (m i : Nat) (a : Int), i + m = F.length → 0 ≤ a → a ≤ i → Ev (fun k => spec_joReached.l0 k a F (F.length : Int) (i : Nat)) (a + ((clsL F m i).length : Int)) := by
  intro m
  induction m with
  | zero => intro i a hi h0 h1; exact Ev.step (fun k => rfl) (Ev.no (by omega) (Ev.id (by simp [clsL])))
  | succ m ih =>
    intro i a hi h0 h1
    refine Ev.step (fun k => rfl) (Ev.yes (by omega) (Ev.yes (by omega) (Ev.yes (by omega) ?_)))
    rw [w64 (x := (i : Int) + 1) (by omega) (by omega), w64 (x := a + 1) (by omega) (by omega)]
    unfold clsL
    by_cases e : rd F (i : Nat) ≥ 0
    · rw [if_pos e]
      exact Ev.yes e (Ev.eq (ih (i + 1) (a + 1) (by omega) (by omega) (by omega)) (by rw [List.length_cons]; omega))
    · rw [if_neg e]
      exact Ev.no e (ih (i + 1) a (by omega) (by omega) (by omega))
theorem bfs_len (T : List (Int × Int)) (nx : ByteArray → Int × Int → ByteArray) (num : ByteArray → Int) : ∀ (m : Nat) (F : List Int) (Q : List ByteArray), (bfs T nx num m F Q).length = F.length
  | 0, _, _ => rfl
  | _ + 1, _, [] => rfl
  | m + 1, F, s :: Q => by
    unfold bfs
    rw [bfs_len T nx num m, (inn_len _ _ _ _ _ _).1]
theorem farV_len (w d : Int) (L : List (List Int)) (s : ByteArray) : (farV w d L s).length = (d ^ w.toNat).toNat := by
  unfold farV; rw [bfs_len]; simp [far0]
theorem impl_Gears_class.ev {w d : Int} (hl : lockB w d = true) (h1000 : d ^ w.toNat ≤ 1000) {L : List (List Int)} (hL : KnobsOk w d L) {s : ByteArray} (hs : codeS w d s) : Ev (fun k => impl_Gears_class.f k w d L s) (clsL (farV w d L s) (farV w d L s).length 0) := by
  have hlen := farV_len w d L s
  unfold impl_Gears_class.f
  exact Ev.bind (impl_Gears_far.ev hl h1000 hL hs) (impl_Gears_class.lev (farV w d L s) (by omega) (farV w d L s).length 0 [] (by omega) (Nat.le_refl _))
theorem spec_joReached.ev (F : List Int) (hF : F.length ≤ 1000) : Ev (fun k => spec_joReached.f k F) ((reachN F : Nat) : Int) := by
  unfold spec_joReached.f
  exact Ev.eq (spec_joReached.lev F hF F.length 0 0 (by omega) (by omega) (by omega)) (by unfold reachN; omega)
/-! Declarations moved out of LFnExactDropKnob. -/
theorem spec_joWithout.levQ (w d : Int) (q : Nat) (l : List (List Int)) (hl : l.length ≤ 5) (hr : ∀ r ∈ l, r.length ≤ 1048576) : ∀ (m i : Nat) (acc : List (List Int)), i + m = l.length → acc.length ≤ i → Ev (fun k => spec_joWithout.l0 k (q : Int) l (l.length : Int) (i : Nat) w d acc) (w, d, acc ++ (if i ≤ q then (l.drop i).eraseIdx (q - i) else l.drop i)) := by
  intro m
  induction m with
  | zero =>
    intro i acc hi _
    refine Ev.step (fun k => rfl) (Ev.no (by omega) (Ev.id ?_))
    rw [List.drop_eq_nil_of_le (by omega)]
    simp
  | succ m ih =>
    intro i acc hi ha
    have hlt : i < l.length := by omega
    have hx := hr l[i] (List.getElem_mem hlt)
    refine Ev.step (fun k => rfl) (Ev.yes (by omega) (Ev.yes (by omega) (Ev.yes (by omega) ?_)))
    rw [rd_rowG hlt, w64 (x := (i : Int) + 1) (by omega) (by omega), List.drop_eq_getElem_cons hlt]
    by_cases e : i = q
    · subst e
      have := ih (i + 1) acc (by omega) (by omega)
      rw [if_neg (by omega)] at this
      rw [if_pos (Nat.le_refl i), Nat.sub_self, List.eraseIdx_cons_zero]
      exact Ev.yes rfl this
    · have := ih (i + 1) (acc ++ [l[i]]) (by omega) (by simp; omega)
      rw [List.append_assoc] at this
      refine Ev.no (by omega) (Ev.bindc (spec_l1Own.isG hx) (Ev.yes (by omega) (Ev.eq this ?_)))
      by_cases h : i ≤ q
      · rw [if_pos h, if_pos (by omega), show q - i = (q - (i + 1)) + 1 by omega, List.eraseIdx_cons_succ]
        rfl
      · rw [if_neg h, if_neg (by omega)]
        rfl
section
/-! What a readable argument holds, told by kinds: the bridge from a statement's reading to the print's words. -/
open Go.WideShapes in
def Opens {α : Type} (P : Program) (t : TypeId) (d : Kd α) (V : α → Prop) : Prop :=
  ∀ (H : Type) (enc : TypeId × Value → H) (w : World) (base : Nat) (spare : Nat → Bool) (held : Bool) (fuel : Nat) (cs : List Value) (x : DataW H × List MemPlace),
    DataW.trod enc P w base spare held fuel t cs = some x → ∃ a : α, d.K w a cs ∧ V a
def IntV (a : Int) : Prop := -9223372036854775808 ≤ a ∧ a ≤ 9223372036854775807
def ListV {α : Type} (V : α → Prop) (l : List α) : Prop := l.length ≤ 9223372036854775807 ∧ ∀ x ∈ l, V x
theorem opens_int {P : Program} {t : TypeId} (ht : P.underlying t = some (.int .i64)) : Opens P t (Kd.int .i64) IntV := by
  intro H enc w base spare held fuel cs x h
  obtain ⟨n, rfl, _, hw⟩ := DataW.trod_int ht h
  refine ⟨n, rfl, ?_⟩
  have hb : (IntKind.i64.min ≤ n ∧ n ≤ IntKind.i64.max) := by simpa [Lit.wf] using hw
  have e1 : IntKind.i64.min = -9223372036854775808 := rfl
  have e2 : IntKind.i64.max = 9223372036854775807 := rfl
  rw [e1, e2] at hb
  unfold IntV
  omega
theorem cells_list {w : World} {base : Nat} {a : Addr} {n : Nat} {cs : List Value} (h : w.cells? base a n = some cs) : cs.length = n ∧ ∀ i u, cs[i]? = some u → w.cell? (a.add i) = some u := by
  unfold World.cells? at h
  split at h
  · have hl := mapM_some_length h
    refine ⟨by simpa using hl, fun i u hu => ?_⟩
    have hi : i < n := by
      have := (List.getElem?_eq_some_iff.1 hu).1
      rw [hl] at this; simpa using this
    have := mapM_some_get h i i (by simp [hi])
    rw [hu] at this
    exact this
  · cases h
theorem opens_slice {α : Type} {P : Program} {t e : TypeId} {d : Kd α} {V : α → Prop} (ht : P.underlying t = some (.slice e)) (hd : Opens P e d V) (hsz : P.cellsOf e = d.sz) : Opens P t (Kd.slice e d) (ListV V) := by
  intro H enc w base spare held fuel cs x h
  rcases Go.Deep.open_slice ht h with ⟨rfl, _⟩ | ⟨a, len, cap, m, n, D, Pl, rfl, _, hl, hm, hmm, _, hel⟩
  · exact ⟨[], ⟨none, 0, rfl, Nat.le_refl _, ⟨rfl, by simp, fun h0 => absurd h0 (by simp)⟩⟩, ⟨by simp, fun x hx => by simp at hx⟩⟩
  · have hle : len ≤ m := by rw [hmm]; split <;> omega
    have each : ∀ i : Nat, ∃ a' : Option α, i < len → ∃ z cs', a' = some z ∧ V z ∧ d.K w z cs' ∧ ∀ j u, cs'[j]? = some u → w.cell? (a.add (i * d.sz + j)) = some u := by
      intro i
      by_cases hi : i < len
      · obtain ⟨cs', h1, h2⟩ := hel i (by omega)
        obtain ⟨z, hK, hV⟩ := hd H enc w base spare held n cs' _ h2
        refine ⟨some z, fun _ => ⟨z, cs', rfl, hV, hK, fun j u hu => ?_⟩⟩
        obtain ⟨_, hc⟩ := cells_list h1
        have := hc j u hu
        rw [Go.Deep.add_add, hsz] at this
        exact this
      · exact ⟨none, fun h0 => absurd h0 hi⟩
    have ⟨f, hf⟩ := Classical.axiomOfChoice each
    have hz : ∀ i, i < len → ∃ z, f i = some z ∧ V z ∧ ∃ cs', d.K w z cs' ∧ ∀ j u, cs'[j]? = some u → w.cell? (a.add (i * d.sz + j)) = some u := by
      intro i hi
      obtain ⟨z, cs', h1, h2, h3, h4⟩ := hf i hi
      exact ⟨z, h1, h2, cs', h3, h4⟩
    have hlist : ∃ l : List α, l.length = len ∧ ∀ i, i < len → f i = l[i]? := by
      clear hf each hel hmm hle
      have : ∀ n, n ≤ len → ∃ l : List α, l.length = n ∧ ∀ i, i < n → f i = l[i]? := by
        intro n
        induction n with
        | zero => intro _; exact ⟨[], rfl, fun i hi => by omega⟩
        | succ n ih =>
          intro hn
          obtain ⟨l, hl1, hl2⟩ := ih (by omega)
          obtain ⟨z, h1, _⟩ := hz n (by omega)
          refine ⟨l ++ [z], by simp [hl1], fun i hi => ?_⟩
          by_cases e : i < n
          · rw [List.getElem?_append_left (by omega)]; exact hl2 i e
          · obtain rfl : i = n := by omega
            rw [h1, ← hl1]; simp
      exact this len (Nat.le_refl _)
    obtain ⟨l, hlen, hget⟩ := hlist
    have hV : ∀ x ∈ l, V x := by
      intro x hx
      obtain ⟨i, hi, rfl⟩ := List.getElem_of_mem hx
      obtain ⟨z, h1, h2, _⟩ := hz i (by omega)
      have h3 := hget i (by omega)
      rw [h1, List.getElem?_eq_getElem hi] at h3
      injection h3 with h3
      rw [← h3]; exact h2
    unfold maxLen at hm
    subst hlen
    refine ⟨l, ⟨some a, cap, rfl, hl, ⟨rfl, by omega, fun _ => ⟨a, rfl, fun j p hp => ?_⟩⟩⟩, ⟨by omega, hV⟩⟩
    have hj : j < l.length := (List.getElem?_eq_some_iff.1 hp).1
    obtain ⟨z, h1, _, cs', h3, h4⟩ := hz j hj
    have h5 := hget j hj
    rw [h1, hp] at h5
    injection h5 with h5
    subst h5
    exact ⟨cs', d.K_len h3, h3, h4⟩
theorem opens_pair {α β : Type} {P : Program} {t : TypeId} {f0 f1 : Field} {d0 : Kd α} {d1 : Kd β} {V0 : α → Prop} {V1 : β → Prop} (ht : P.underlying t = some (.struct #[f0, f1]))
    (h0 : Opens P f0.type d0 V0) (h1 : Opens P f1.type d1 V1) (o0 : f0.offset = 0) (o1 : f1.offset = d0.sz) (z0 : P.cellsOf f0.type = d0.sz) (z1 : P.cellsOf f1.type = d1.sz) (zt : P.cellsOf t = d0.sz + d1.sz) :
    Opens P t (Kd.pair d0 d1) (fun x => V0 x.1 ∧ V1 x.2) := by
  intro H enc w base spare held fuel cs x h
  obtain ⟨y0, y1, n, _, hl, g0, g1⟩ := ChangeShapes.trod_struct2 ht h
  rw [o0, z0, List.drop_zero] at g0
  rw [o1, z1] at g1
  obtain ⟨a, ka, va⟩ := h0 H enc w base spare held n _ _ g0
  obtain ⟨b, kb, vb⟩ := h1 H enc w base spare held n _ _ g1
  refine ⟨(a, b), ⟨_, _, ?_, ka, kb⟩, va, vb⟩
  rw [List.take_of_length_le (l := cs.drop d0.sz) (by rw [List.length_drop, hl, zt]; omega), List.take_append_drop]
theorem opens_iso {α β : Type} {P : Program} {t : TypeId} {d : Kd α} {V : α → Prop} (h : Opens P t d V) (f : β → α) (g : α → β) (e : ∀ a, f (g a) = a) : Opens P t (Kd.iso d f) (fun x => V (f x)) := by
  intro H enc w base spare held fuel cs x hx
  obtain ⟨a, ka, va⟩ := h H enc w base spare held fuel cs x hx
  exact ⟨g a, by show d.K w (f (g a)) cs; rw [e]; exact ka, by show V (f (g a)); rw [e]; exact va⟩
section
variable {H : Type} {enc : TypeId × Value → H} {P : Program} {w : World} {base : Nat} {spare : Nat → Bool} {held : Bool} {r : Reach} {b0 : Nat} {t : TypeId} {v : Value} {x : DataW H} {p : List MemPlace}
theorem arg_struct {α : Type} {d : Kd α} {V : α → Prop} (ho : Opens P t d V) {fs : Array Field} (hs : P.underlying t = some (.struct fs)) (hv : Value.okWide P w r b0 t v) (h : DataW.Trod enc P w base spare held t v x p) :
    ∃ a cs, v = .agg (List.toArray cs) ∧ d.K w a cs ∧ V a := by
  obtain ⟨cs, rfl, _⟩ := WideShapes.okWide_struct hs hv
  obtain ⟨fuel, hf⟩ := h
  obtain ⟨a, hk, hV⟩ := ho H enc w base spare held fuel _ _ hf
  exact ⟨a, cs.toList, by simp, by simpa [Value.cells] using hk, hV⟩
theorem arg_lt (h : DataW.Trod enc P w base spare held t v x p) : ∀ y ∈ p, y.block < w.heap.size := by
  obtain ⟨m, hm⟩ := h
  exact DataW.trod_lt m _ _ _ hm
end
end
theorem opens_t3 : Opens Try.prog 3 (Kd.int .i64) IntV := opens_int Try.underlying3
def V23 (x : S23) : Prop := IntV x.f0 ∧ IntV x.f1
theorem opens_t23 : Opens Try.prog 23 k23 V23 := opens_iso (opens_pair Try.underlying23 opens_t3 opens_t3 (by kernel_rfl) (by kernel_rfl) (by kernel_rfl) (by kernel_rfl) (by kernel_rfl)) (fun x : S23 => (x.f0, x.f1)) (fun p => ⟨p.1, p.2⟩) (fun _ => rfl)
theorem opens_t28 : Opens Try.prog 28 (Kd.slice 3 (Kd.int .i64)) (ListV IntV) := opens_slice Try.underlying28 opens_t3 (by kernel_rfl)
theorem opens_t24 : Opens Try.prog 24 (Kd.slice 28 (Kd.slice 3 (Kd.int .i64))) (ListV (ListV IntV)) := opens_slice Try.underlying24 opens_t28 (by kernel_rfl)
def V26 (x : S26) : Prop := V23 x.f0 ∧ (ListV (ListV IntV)) x.f1
theorem opens_t26 : Opens Try.prog 26 k26 V26 := opens_iso (opens_pair Try.underlying26 opens_t23 opens_t24 (by kernel_rfl) (by kernel_rfl) (by kernel_rfl) (by kernel_rfl) (by kernel_rfl)) (fun x : S26 => (x.f0, x.f1)) (fun p => ⟨p.1, p.2⟩) (fun _ => rfl)
/-! The law FnExactNeedlessKnobs: its calls, all told. -/
theorem knobs_ok {w d : Int} {L : List (List Int)} (h : gearsB w d L = true) : lockB w d = true ∧ d ^ w.toNat ≤ 1000 ∧ KnobsOk w d L ∧ 1 ≤ L.length := by
  obtain ⟨⟨⟨a1, a2⟩, a3, a4⟩, b1, b2⟩ := gearsB_parts h
  unfold gearsB at h
  rw [Bool.and_eq_true] at h
  exact ⟨smallB_lock h.1, (smallB_iff.mp h.1).2, ⟨b1.2, b2⟩, b1.1⟩
theorem knobs_erase {w d : Int} {L : List (List Int)} (h : KnobsOk w d L) (i : Nat) : KnobsOk w d (L.eraseIdx i) :=
  ⟨Nat.le_trans (List.length_eraseIdx_le _ _) h.1, fun r hr => h.2 r (List.mem_of_mem_eraseIdx hr)⟩
def ndB (w d : Int) (L : List (List Int)) (s : ByteArray) (i : Nat) : Bool := decide (1 < L.length) && decide (reachN (farV w d (L.eraseIdx i) s) = reachN (farV w d L s))
def ndL (w d : Int) (L : List (List Int)) (s : ByteArray) : Nat → Nat → List Int
  | 0, _ => []
  | m + 1, i => if ndB w d L s i = true then (i : Int) :: ndL w d L s m (i + 1) else ndL w d L s m (i + 1)
theorem ndL_len (w d : Int) (L : List (List Int)) (s : ByteArray) : ∀ m i, (ndL w d L s m i).length ≤ m
  | 0, _ => Nat.le_refl _
  | m + 1, i => by have := ndL_len w d L s m (i + 1); unfold ndL; split <;> simp <;> omega
theorem impl_without.evN {w d : Int} {L : List (List Int)} (hL : L.length ≤ 5) (hr : ∀ r ∈ L, r.length ≤ 1048576) {i : Nat} (hi : i < L.length) : Ev (fun k => impl_Gears_without.f k w d L (i : Int)) (w, d, L.eraseIdx i) := by
  have hc := impl_copied.lev w d L hL hr L.length 0 [] (by omega) (Nat.le_refl _)
  rw [List.drop_zero, List.nil_append] at hc
  unfold impl_Gears_without.f
  exact Ev.bind (by unfold impl_Gears_copied.f; exact hc) (Ev.yes ⟨by omega, by show (i : Int) < (L.length : Int); omega, by show L.length ≤ 1000; omega⟩ (Ev.id (by simp)))
theorem spec_without.evN {w d : Int} {L : List (List Int)} (hL : L.length ≤ 5) (hr : ∀ r ∈ L, r.length ≤ 1048576) (i : Nat) : Ev (fun k => spec_joWithout.f k w d L (i : Int)) (w, d, L.eraseIdx i) := by
  have hw := spec_joWithout.levQ w d i L hL hr L.length 0 [] (by omega) (Nat.le_refl _)
  rw [if_pos (Nat.zero_le i), List.drop_zero, List.nil_append, Nat.sub_zero] at hw
  unfold spec_joWithout.f
  exact hw
theorem impl_NeedlessKnobs.lev {w d : Int} (hl : lockB w d = true) (h1000 : d ^ w.toNat ≤ 1000) {L : List (List Int)} (hL : KnobsOk w d L) (hr : ∀ r ∈ L, r.length ≤ 1048576) {s : ByteArray} (hs : codeS w d s) : ∀ (m i : Nat) (acc : List Int), i + m = L.length → acc.length ≤ i → Ev (fun k => impl_NeedlessKnobs.l0 k s acc (L.length : Int) (i : Nat) w d L) (acc ++ ndL w d L s m i, true) := by
  have h5 := hL.1
  intro m
  induction m with
  | zero => intro i acc hi ha; exact Ev.step (fun k => rfl) (Ev.no (by omega) (Ev.id (by simp [ndL])))
  | succ m ih =>
    intro i acc hi ha
    refine Ev.step (fun k => rfl) (Ev.yes (by omega) ?_)
    rw [w64 (x := (i : Int) + 1) (by omega) (by omega)]
    unfold ndL ndB
    by_cases e : 1 < L.length
    · rw [decide_eq_true e, Bool.true_and]
      refine Ev.yes (by omega) (Ev.bind (impl_without.evN h5 hr (by omega)) (Ev.bind (impl_Gears_class.ev hl h1000 (knobs_erase hL i) hs) (Ev.bind (impl_Gears_class.ev hl h1000 hL hs) ?_)))
      by_cases e2 : reachN (farV w d (L.eraseIdx i) s) = reachN (farV w d L s)
      · rw [decide_eq_true e2, if_pos rfl]
        unfold reachN at e2
        exact Ev.yes (by rw [e2]) (Ev.yes (by omega) (Ev.eq (ih (i + 1) (acc ++ [(i : Int)]) (by omega) (by simp; omega)) (by simp)))
      · rw [decide_eq_false e2, if_neg (by simp)]
        unfold reachN at e2
        exact Ev.no (by omega) (ih (i + 1) acc (by omega) (by omega))
    · rw [decide_eq_false e, Bool.false_and, if_neg (by simp)]
      exact Ev.no (by omega) (ih (i + 1) acc (by omega) (by omega))
theorem spec_NeedlessKnobs.lev {w d : Int} (hl : lockB w d = true) (h1000 : d ^ w.toNat ≤ 1000) {L : List (List Int)} (hL : KnobsOk w d L) (hr : ∀ r ∈ L, r.length ≤ 1048576) {s : ByteArray} (hs : codeS w d s) : ∀ (m i : Nat) (acc : List Int), i + m = L.length → acc.length ≤ i → Ev (fun k => spec_NeedlessKnobs.l0 k acc s ((reachN (farV w d L s) : Nat) : Int) (L.length : Int) (i : Nat) w d L) (acc ++ ndL w d L s m i, true) := by
  have h5 := hL.1
  intro m
  induction m with
  | zero => intro i acc hi ha; exact Ev.step (fun k => rfl) (Ev.no (by omega) (Ev.id (by simp [ndL])))
  | succ m ih =>
    intro i acc hi ha
    refine Ev.step (fun k => rfl) (Ev.yes (by omega) ?_)
    rw [w64 (x := (i : Int) + 1) (by omega) (by omega)]
    unfold ndL ndB
    by_cases e : 1 < L.length
    · rw [decide_eq_true e, Bool.true_and]
      refine Ev.yes (by omega) (Ev.bind (spec_without.evN h5 hr i) (Ev.bind (spec_joFar.ev hl h1000 (knobs_erase hL i) hs) (Ev.bind (spec_joReached.ev _ (by rw [farV_len]; omega)) ?_)))
      by_cases e2 : reachN (farV w d (L.eraseIdx i) s) = reachN (farV w d L s)
      · rw [decide_eq_true e2, if_pos rfl]
        exact Ev.yes (by rw [e2]) (Ev.yes (by omega) (Ev.eq (ih (i + 1) (acc ++ [(i : Int)]) (by omega) (by simp; omega)) (by simp)))
      · rw [decide_eq_false e2, if_neg (by simp)]
        exact Ev.no (by omega) (ih (i + 1) acc (by omega) (by omega))
    · rw [decide_eq_false e, Bool.false_and, if_neg (by simp)]
      exact Ev.no (by omega) (ih (i + 1) acc (by omega) (by omega))
def ndV (w d : Int) (L : List (List Int)) : List Int × Bool := if gearsB w d L = true then (ndL w d L (codeB w d 0) L.length 0, true) else ([], false)
theorem ndV_len (w d : Int) (L : List (List Int)) : (ndV w d L).1.length ≤ 5 := by
  unfold ndV
  by_cases h : gearsB w d L = true
  · rw [if_pos h]
    have := ndL_len w d L (codeB w d 0) L.length 0
    have := (knobs_ok h).2.2.1.1
    show (ndL w d L (codeB w d 0) L.length 0).length ≤ 5
    omega
  · rw [if_neg h]; exact Nat.zero_le _
theorem impl_NeedlessKnobs.ev (w d : Int) (L : List (List Int)) (hL : RowsMG L) : Ev (fun k => impl_NeedlessKnobs.f k w d L) (ndV w d L) := by
  unfold impl_NeedlessKnobs.f ndV
  refine Ev.bind (impl_AreGears.ev w d L hL) ?_
  cases h : gearsB w d L with
  | false => exact Ev.no (by simp) (Ev.id (by simp))
  | true =>
    obtain ⟨h1, h2, h3, h4⟩ := knobs_ok h
    refine Ev.yes rfl (Ev.bindc (impl_Lock_code.is h1 (Int.le_refl 0) (by decide)) ?_)
    exact Ev.eq (impl_NeedlessKnobs.lev h1 h2 h3 hL.2 (codeB_code h1) L.length 0 [] (by omega) (Nat.le_refl _)) (by simp)
theorem spec_NeedlessKnobs.ev (w d : Int) (L : List (List Int)) (hL : RowsMG L) : Ev (fun k => spec_NeedlessKnobs.f k w d L) (ndV w d L) := by
  unfold spec_NeedlessKnobs.f ndV
  refine Ev.bind (spec_joGood.ev w d L hL) ?_
  cases h : gearsB w d L with
  | false => exact Ev.no (by simp) (Ev.id (by simp))
  | true =>
    obtain ⟨h1, h2, h3, h4⟩ := knobs_ok h
    refine Ev.yes rfl (Ev.bind (spec_whOf.ev h1 (Int.le_refl 0) (by decide)) (Ev.bind (spec_joFar.ev h1 h2 h3 (codeB_code h1)) (Ev.bind (spec_joReached.ev _ (by rw [farV_len]; omega)) ?_)))
    exact Ev.eq (spec_NeedlessKnobs.lev h1 h2 h3 hL.2 (codeB_code h1) L.length 0 [] (by omega) (Nat.le_refl _)) (by simp)
set_option maxRecDepth 100000 in
theorem laws_FnExactNeedlessKnobs.walk0 (k : Nat) (n d : Int) (L : List (List Int)) (r0 : Int) (A : Option Addr) (c : Nat) (w : World) (hr : Kd.C (Kd.slice 3 (Kd.int .i64)) w A L.length L) (hc : L.length ≤ c) (e1 : laws_szGears.f k n d L 1048576 = some r0) (h0 : r0 < 0) :
    Calls Try.prog 3 #[.agg #[.int .i64 n, .int .i64 d, .slice A L.length c]] w fun e w' => e = .returned (.bool true) ∧ Below w.heap.size w w' := by
  have hu26 := Try.underlying26
  have hu24 := Try.underlying24
  have hd0 : decide (r0 < 0) = true := decide_eq_true h0
  have E1 := amk e1
  have HC := amk hc
  have HR := amk (Kd.C_alloc hr (.cells #[.int .i64 n, .int .i64 d, .slice A L.length c] 26 (0, 0)))
  have HB := amk ((Below.refl w.heap.size w).alloc (Nat.le_refl _) (.cells #[.int .i64 n, .int .i64 d, .slice A L.length c] 26 (0, 0)))
  clear e1 hc hr h0
  go_enter Try.func3, Try.ntmps3
  go_wp2_with (go_at_call 4; refine Calls.mono (laws_szGears.calls k n d _ _ L _ r0 _ HR.out HC.out E1.out) ?_; rintro e w2 ⟨rfl, hb⟩; have HB2 := amk (HB.out.trans (hb.mono HB.out.size)); clear hb)
  go_ret
  exact ⟨rfl, HB2.out⟩
theorem laws_FnExactNeedlessKnobs.calls (a0_0 : Int) (a0_1 : Int) (A0_2 : Option Addr) (c0_2 : Nat) (l0_2 : List (List Int)) (r : Bool) (w : World) (hr0_2 : Kd.C (Kd.slice 3 (Kd.int .i64)) w A0_2 l0_2.length l0_2) (hc0_2 : l0_2.length ≤ c0_2) (h : laws_FnExactNeedlessKnobs.f a0_0 a0_1 l0_2 = some r) :
    Calls Try.prog 3 #[.agg #[.int .i64 a0_0, .int .i64 a0_1, .slice A0_2 l0_2.length c0_2]] w fun e w' => e = .returned (.bool r) ∧ Below w.heap.size w w' := by
  obtain rfl := Option.some.inj h
  have hV := C_rowsVG hr0_2
  obtain ⟨r0, he0, hf0⟩ := laws_szGears.evAG a0_0 a0_1 l0_2 hV 1048576 (by omega) (by omega)
  by_cases h0 : 0 ≤ r0
  · obtain ⟨ht0, hM0⟩ := hf0 h0
    have hlen := ndV_len a0_0 a0_1 l0_2
    obtain ⟨k1, e1⟩ := he0
    obtain ⟨k2, e2⟩ := laws_toGears.evG a0_0 a0_1 l0_2 hM0
    obtain ⟨k3, e3⟩ := spec_NeedlessKnobs.ev a0_0 a0_1 l0_2 hM0
    obtain ⟨k4, e4⟩ := impl_NeedlessKnobs.ev a0_0 a0_1 l0_2 hM0
    obtain ⟨k5, e5⟩ := laws_eqIntS.evBG (ndV a0_0 a0_1 l0_2).1 (by omega)
    obtain ⟨k6, e6⟩ := laws_eqGears.evG a0_0 a0_1 l0_2 hV
    obtain ⟨X', k7, e7⟩ := markRows_evG l0_2 1 (by omega) (by omega) (by omega)
    obtain ⟨V', ⟨k8, e8⟩, k9, e9⟩ := laws_markIntS.ev (ndV a0_0 a0_1 l0_2).1 (by omega)
    have hk : ∃ k, (k1 ≤ k ∧ k2 ≤ k ∧ k3 ≤ k ∧ k4 ≤ k ∧ k5 ≤ k) ∧ k6 ≤ k ∧ k7 ≤ k ∧ k8 ≤ k ∧ k9 ≤ k := ⟨k1 + k2 + k3 + k4 + k5 + k6 + k7 + k8 + k9, by omega⟩
    obtain ⟨k, ⟨i1, i2, i3, i4, i5⟩, i6, i7, i8, i9⟩ := hk
    exact laws_FnExactNeedlessKnobs.walk k a0_0 a0_1 l0_2 (ndV a0_0 a0_1 l0_2).1 V' (ndV a0_0 a0_1 l0_2).2 r0 _ _ X' A0_2 c0_2 w hr0_2 hc0_2 (e1 k i1) h0 (e2 k i2) (e3 k i3) (e4 k i4) (e5 k i5) (e6 k i6) (e7 k i7) (by omega) (e8 k i8) (by omega) (e9 k i9)
  · obtain ⟨k1, e1⟩ := he0
    exact laws_FnExactNeedlessKnobs.walk0 k1 a0_0 a0_1 l0_2 r0 A0_2 c0_2 w hr0_2 hc0_2 (e1 k1 (Nat.le_refl _)) (by omega)
theorem pure_FnExactNeedlessKnobs (p : S26) (_ : V26 p) : laws_FnExactNeedlessKnobs.f p.f0.f0 p.f0.f1 p.f1 = some true := rfl
end Go.Proofs.Ytidgicofnbgefaa.P