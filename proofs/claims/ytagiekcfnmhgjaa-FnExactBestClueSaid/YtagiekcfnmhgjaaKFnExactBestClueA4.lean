import Derived.Test.YtagiekcfnmhgjaaKFnExactBestClueA0
import Derived.Test.YtagiekcfnmhgjaaKFnExactBestClueA3
import Derived.Test.YtagiekcfnmhgjaaKFnExactBestClueA1
import Derived.Test.YtagiekcfnmhgjaaKFnExactBestClueA2
import Derived.ProofKit
import Derived.Lib.SmallJoins
import Derived.Deep.Slices
namespace Go.Proofs.Ytagiekcfnmhgjaa.P
open Go.RowKit Go.Proofs.YtagiekcfnmhgjaaW.PrintWords Go.Proofs.YtagiekcfnmhgjaaW.PrintLast Go.Proofs.YtagiekcfnmhgjaaW.PrintMore
attribute [local go_sem] max2_int min2_int max_two min_two max_three min_three max_four min_four
set_option linter.unusedVariables false
set_option linter.unusedSimpArgs false
/-! ### spec_BestClue: function 31 -/
mutual
def spec_BestClue.j0 : Nat → Bool → Int → Int → List (S30) → Option (Int × Bool)
  | 0, _, _, _, _ => none
  | k + 1, x16, x529000, x529001, x529002 => if x16 = true then (some (0, false)) else (spec_BestClue.l0 k 0 0 (x529002.length : Int) 0 x529000 x529001 x529002)
def spec_BestClue.l0 : Nat → Int → Int → Int → Int → Int → Int → List (S30) → Option (Int × Bool)
  | 0, _, _, _, _, _, _, _ => none
  | k + 1, x4, x5, x19, x20, x529000, x529001, x529002 => if x20 < x19 then (if 0 ≤ x20 then (if x20 ≤ (wrap64 (x20 + 1)) then (if (wrap64 (x20 + 1)) ≤ (x529002.length : Int) then ((spec_pzAll.f k x529000 x529001 ((x529002.take ((wrap64 (x20 + 1)) : Int).toNat).drop (x20 : Int).toNat)).bind fun t534 => (if x20 = 0 then (spec_BestClue.l0 k x20 (t534.length : Int) x19 (wrap64 (x20 + 1)) x529000 x529001 x529002) else (if (t534.length : Int) < x5 then (spec_BestClue.l0 k x20 (t534.length : Int) x19 (wrap64 (x20 + 1)) x529000 x529001 x529002) else (spec_BestClue.l0 k x4 x5 x19 (wrap64 (x20 + 1)) x529000 x529001 x529002)))) else (none)) else (none)) else (none)) else (some (x4, true))
end
def spec_BestClue.f (k : Nat) (a0_0 : Int) (a0_1 : Int) (l0_2 : List (S30)) : Option (Int × Bool) := (spec_pzGood.f k a0_0 a0_1 l0_2).bind fun t529 => (if t529 = true then (spec_BestClue.j0 k ((l0_2.length : Int) == 0) a0_0 a0_1 l0_2) else (spec_BestClue.j0 k true a0_0 a0_1 l0_2))
theorem spec_BestClue.mono_l : ∀ k, (∀ y0 y1 y2 y3, LeO (spec_BestClue.j0 k y0 y1 y2 y3) (spec_BestClue.j0 (k + 1) y0 y1 y2 y3)) ∧ (∀ y0 y1 y2 y3 y4 y5 y6, LeO (spec_BestClue.l0 k y0 y1 y2 y3 y4 y5 y6) (spec_BestClue.l0 (k + 1) y0 y1 y2 y3 y4 y5 y6))
  | 0 => ⟨fun _ _ _ _ r h => by simp [spec_BestClue.j0] at h, fun _ _ _ _ _ _ _ r h => by simp [spec_BestClue.l0] at h⟩
  | k + 1 => by
    obtain ⟨ih0, ih1⟩ := spec_BestClue.mono_l k
    refine ⟨?_, ?_⟩
    · intro y0 y1 y2 y3
      unfold spec_BestClue.j0
      repeat' first
      | (with_reducible exact ih0 _ _ _ _)
      | (with_reducible exact ih1 _ _ _ _ _ _ _)
      | (with_reducible exact spec_pzAll.mono _ _ _ _)
      | (with_reducible exact spec_pzGood.mono _ _ _ _)
      | (with_reducible exact LeO.refl _)
      | (with_reducible exact LeO.none _)
      | (with_reducible refine LeO.ite ?_ ?_)
      | (with_reducible refine LeO.bind ?_ (fun _ => ?_))
      | exact ih0 _ _ _ _
      | exact ih1 _ _ _ _ _ _ _
      | exact spec_pzAll.mono _ _ _ _
      | exact spec_pzGood.mono _ _ _ _
      | exact LeO.none _
      | refine LeO.ite ?_ ?_
      | refine LeO.bind ?_ (fun _ => ?_)
    · intro y0 y1 y2 y3 y4 y5 y6
      unfold spec_BestClue.l0
      repeat' first
      | (with_reducible exact ih0 _ _ _ _)
      | (with_reducible exact ih1 _ _ _ _ _ _ _)
      | (with_reducible exact spec_pzAll.mono _ _ _ _)
      | (with_reducible exact spec_pzGood.mono _ _ _ _)
      | (with_reducible exact LeO.refl _)
      | (with_reducible exact LeO.none _)
      | (with_reducible refine LeO.ite ?_ ?_)
      | (with_reducible refine LeO.bind ?_ (fun _ => ?_))
      | exact ih0 _ _ _ _
      | exact ih1 _ _ _ _ _ _ _
      | exact spec_pzAll.mono _ _ _ _
      | exact spec_pzGood.mono _ _ _ _
      | exact LeO.none _
      | refine LeO.ite ?_ ?_
      | refine LeO.bind ?_ (fun _ => ?_)
theorem spec_BestClue.mono : ∀ a0 a1 a2 k, LeO (spec_BestClue.f k a0 a1 a2) (spec_BestClue.f (k + 1) a0 a1 a2) := by
  intro a0 a1 a2 k
  obtain ⟨ih0, ih1⟩ := spec_BestClue.mono_l k
  unfold spec_BestClue.f
  repeat' first
      | (with_reducible exact ih0 _ _ _ _)
      | (with_reducible exact ih1 _ _ _ _ _ _ _)
      | (with_reducible exact spec_pzAll.mono _ _ _ _)
      | (with_reducible exact spec_pzGood.mono _ _ _ _)
      | (with_reducible exact LeO.refl _)
      | (with_reducible exact LeO.none _)
      | (with_reducible refine LeO.ite ?_ ?_)
      | (with_reducible refine LeO.bind ?_ (fun _ => ?_))
      | exact ih0 _ _ _ _
      | exact ih1 _ _ _ _ _ _ _
      | exact spec_pzAll.mono _ _ _ _
      | exact spec_pzGood.mono _ _ _ _
      | exact LeO.none _
      | refine LeO.ite ?_ ?_
      | refine LeO.bind ?_ (fun _ => ?_)
def spec_BestClue.T7 : Bool × List (List Nat × List Nat) := (true, [([], []), ([0], [0]), ([], []), ([2], [2]), ([], []), ([], []), ([5], [5]), ([3, 4, 6], [3, 4, 6]), ([1, 7], [1, 7]), ([8], [8]), ([9, 8, 0, 1, 2, 3, 4, 5, 6, 7, 8, 9], [9])])
def spec_BestClue.B7 : List Nat := [0, 1, 0, 4, 0, 0, 32, 124, 255, 511, 1023]
theorem spec_BestClue.tab7 : rtab .any (opsOf Try.f31 7) = spec_BestClue.T7 := by kernel_rfl
theorem spec_BestClue.bits7 : waitsOk spec_BestClue.T7.2 spec_BestClue.B7 = true := by kernel_rfl
set_option maxHeartbeats 8000000 in
set_option maxRecDepth 100000 in
theorem spec_BestClue.calls (k : Nat) (a0_0 : Int) (a0_1 : Int) (A0_2 : Option Addr) (c0_2 : Nat) (l0_2 : List (S30)) (r1 : Int) (r2 : Bool) (w : World) (hr0_2 : Kd.C k30 w A0_2 l0_2.length l0_2) (hc0_2 : l0_2.length ≤ c0_2) (h : spec_BestClue.f k a0_0 a0_1 l0_2 = some (r1, r2)) :
    Calls Try.prog 31 #[.agg #[.int .i64 a0_0, .int .i64 a0_1, .slice A0_2 l0_2.length c0_2]] w fun e w' => e = .returned (.tuple #[.int .i64 r1, .bool r2]) ∧ Below w.heap.size w w' := by
  have hu35 := Try.underlying35
  have hu28 := Try.underlying28
  have HR0_2 := Aside0.mk hr0_2
  have HC0_2 := Aside0.mk hc0_2
  clear hr0_2 hc0_2
  have HB := Aside0.mk (Below.refl w.heap.size w)
  have H : ((spec_pzGood.f k a0_0 a0_1 l0_2).bind fun t529 => (if t529 = true then (spec_BestClue.j0 k ((l0_2.length : Int) == 0) a0_0 a0_1 l0_2) else (spec_BestClue.j0 k true a0_0 a0_1 l0_2))) = some (r1, r2) := h
  clear h
  have HC2 := Aside0.mk H
  clear H
  go_enter Try.func31, Try.ntmps31
  go_upto_region 1 with (first | ((with_reducible refine gate_dst (N := 1) rfl ?_); (try (refine gate_guard (by rfl) ?_; dsimp only)); refine box_event ?hg (N := 1) ?hd (cs := #[.int .i64 a0_0, .int .i64 a0_1, .slice A0_2 l0_2.length c0_2]) (t := 35) ?hr ?_; (case hd => rfl); (case hg => rfl); (case hr => first | (go_simp; done) | (go_simp; rfl)); intro gb528 hg w3 hbox hb; have n0_ := Aside0.mk (below_step (by repeat (first | (with_reducible first | exact HB.out | apply below_alloc | apply pw_below_drewN | apply below_drew1) | exact HB.out)) hb); have n1_ := Aside0.mk (hbox); have n2_ := Aside0.mk ((by rw [hg]; exact (below_size (by repeat (first | (with_reducible first | exact HB.out | apply below_alloc | apply pw_below_drewN | apply below_drew1) | exact HB.out))) : w.heap.size ≤ gb528)); have n3_ := Aside0.mk ((by rw [hg]; exact (below_size (by repeat (first | (with_reducible first | exact HB.out | apply below_alloc | apply pw_below_drewN | apply below_drew1) | exact HB.out))) : w.heap.size ≤ gb528)); clear HB; have HB := n0_; have BK528 := n1_; have GW528 := n2_; have GE528 := n3_; clear n0_ n1_ n2_ n3_; clear hb hbox hg))
  (try simp only [Act.put, List.setIfInBounds_toArray, List.set_cons_zero, List.set_cons_succ])
  go_cut [16] (fun v16 wc => ∃ (kq : Nat) (x16_1 : Bool), v16 = .bool x16_1 ∧ Aside0 (spec_BestClue.j0 kq x16_1 a0_0 a0_1 l0_2 = some (r1, r2)) ∧ Aside0 (kq ≤ k) ∧ Aside0 (wc.heap[gb528]? = some (.cells #[.int .i64 a0_0, .int .i64 a0_1, (.slice A0_2 l0_2.length c0_2)] 35 (0, 0))) ∧ Aside0 (Below w.heap.size w wc))
  case first =>
    have H := HC2.out
    clear HC2
    replace H := Option.bind_eq_some_iff.mp H
    obtain ⟨t529, A40, H⟩ := H
    replace H : (if t529 = true then (spec_BestClue.j0 k ((l0_2.length : Int) == 0) a0_0 a0_1 l0_2) else (spec_BestClue.j0 k true a0_0 a0_1 l0_2)) = some (r1, r2) := H
    have A4 := Aside0.mk A40
    clear A40
    by_cases c5 : t529 = true
    · subst c5
      have H1 : (spec_BestClue.j0 k ((l0_2.length : Int) == 0) a0_0 a0_1 l0_2) = some (r1, r2) := by rw [if_pos rfl] at H; exact H
      clear H
      have H := H1
      clear H1
      have H' := Aside0.mk H
      clear H
      have hcz6_0 : w3.cell? ⟨gb528, 0, none⟩ = some (.int .i64 a0_0) := (blk_cell BK528.out 0).trans rfl
      have hcz6_1 : w3.cell? ⟨gb528, 1, none⟩ = some (.int .i64 a0_1) := (blk_cell BK528.out 1).trans rfl
      have hcz6_2 : w3.cell? ⟨gb528, 2, none⟩ = some (.slice A0_2 l0_2.length c0_2) := (blk_cell BK528.out 2).trans rfl
      have hfz6_0 := blk_frozen BK528.out 0
      have hfz6_1 := blk_frozen BK528.out 1
      have hfz6_2 := blk_frozen BK528.out 2
      go_wp2_with (first | ((with_reducible refine gate_callee (f := 70) rfl ?_); refine goesL_ (some 9) rfl rfl Try.func70 (by kernel_rfl) rfl #[.agg #[.int .i64 a0_0, .int .i64 a0_1, .slice A0_2 l0_2.length c0_2]] rfl (by (try simp only [List.map_toArray, List.map_cons, List.map_nil]); first | done | rfl | (simp only [List.length_drop, List.length_take]; rfl)) ?_; (with_reducible refine (spec_pzGood.calls k a0_0 a0_1 _ _ l0_2 true _ ?side1 ?side2 A4.out).mono ?_); (case side1 => repeat (first | exact (Kd.C_below HR0_2.out HB.out) | (with_reducible refine Kd.C_alloc ?_ _) | (with_reducible refine Kd.C_drewN ?_ _) | (with_reducible refine Kd.C_drew ?_))); (case side2 => exact HC0_2.out); rintro e w7 ⟨rfl, hb⟩; refine ⟨_, rfl, ?_⟩; have n0_ := Aside0.mk (blk_below (g := gb528) (o := .cells #[.int .i64 a0_0, .int .i64 a0_1, .slice A0_2 l0_2.length c0_2] 35 (0, 0)) (by (with_reducible repeat (first | refine blk_drewN ?_ _ | refine blk_drew ?_ | refine blk_alloc ?_ _)); exact BK528.out) hb); have n1_ := Aside0.mk (below_step (by repeat (first | (with_reducible first | exact HB.out | apply below_alloc | apply pw_below_drewN | apply below_drew1 | refine below_set ?_ GE528.out) | exact HB.out)) hb); clear BK528; clear HB; have BK528 := n0_; have HB := n1_; clear n0_ n1_; (try clear hb); (try clear hb2); (try clear hk); (try clear hi); have hcz8_0 : w7.cell? ⟨gb528, 0, none⟩ = some (.int .i64 a0_0) := (blk_cell BK528.out 0).trans rfl; have hcz8_1 : w7.cell? ⟨gb528, 1, none⟩ = some (.int .i64 a0_1) := (blk_cell BK528.out 1).trans rfl; have hcz8_2 : w7.cell? ⟨gb528, 2, none⟩ = some (.slice A0_2 l0_2.length c0_2) := (blk_cell BK528.out 2).trans rfl; have hfz8_0 := blk_frozen BK528.out 0; have hfz8_1 := blk_frozen BK528.out 1; have hfz8_2 := blk_frozen BK528.out 2))
      go_meet
      case rel => exact ⟨_, (((l0_2.length : Int) == 0)), (by first | rfl | (simp; done) | (simp [*]; done)), H', ⟨by first | omega | exact Nat.le_refl _⟩, ⟨by (with_reducible repeat (first | refine blk_drewN ?_ _ | refine blk_drew ?_ | refine blk_alloc ?_ _)); exact BK528.out⟩, ⟨by repeat (first | (with_reducible first | exact HB.out | apply below_alloc | apply pw_below_drewN | apply below_drew1 | refine below_set ?_ GE528.out) | exact HB.out)⟩⟩
    · replace c5 := Bool.eq_false_iff.mpr c5
      subst c5
      have H1 : (spec_BestClue.j0 k true a0_0 a0_1 l0_2) = some (r1, r2) := by rw [if_neg (show ¬ (false = true) by decide)] at H; exact H
      clear H
      have H := H1
      clear H1
      have H' := Aside0.mk H
      clear H
      have hcz9_0 : w3.cell? ⟨gb528, 0, none⟩ = some (.int .i64 a0_0) := (blk_cell BK528.out 0).trans rfl
      have hcz9_1 : w3.cell? ⟨gb528, 1, none⟩ = some (.int .i64 a0_1) := (blk_cell BK528.out 1).trans rfl
      have hcz9_2 : w3.cell? ⟨gb528, 2, none⟩ = some (.slice A0_2 l0_2.length c0_2) := (blk_cell BK528.out 2).trans rfl
      have hfz9_0 := blk_frozen BK528.out 0
      have hfz9_1 := blk_frozen BK528.out 1
      have hfz9_2 := blk_frozen BK528.out 2
      go_wp2_with (first | ((with_reducible refine gate_callee (f := 70) rfl ?_); refine goesL_ (some 9) rfl rfl Try.func70 (by kernel_rfl) rfl #[.agg #[.int .i64 a0_0, .int .i64 a0_1, .slice A0_2 l0_2.length c0_2]] rfl (by (try simp only [List.map_toArray, List.map_cons, List.map_nil]); first | done | rfl | (simp only [List.length_drop, List.length_take]; rfl)) ?_; (with_reducible refine (spec_pzGood.calls k a0_0 a0_1 _ _ l0_2 false _ ?side1 ?side2 A4.out).mono ?_); (case side1 => repeat (first | exact (Kd.C_below HR0_2.out HB.out) | (with_reducible refine Kd.C_alloc ?_ _) | (with_reducible refine Kd.C_drewN ?_ _) | (with_reducible refine Kd.C_drew ?_))); (case side2 => exact HC0_2.out); rintro e w10 ⟨rfl, hb⟩; refine ⟨_, rfl, ?_⟩; have n0_ := Aside0.mk (blk_below (g := gb528) (o := .cells #[.int .i64 a0_0, .int .i64 a0_1, .slice A0_2 l0_2.length c0_2] 35 (0, 0)) (by (with_reducible repeat (first | refine blk_drewN ?_ _ | refine blk_drew ?_ | refine blk_alloc ?_ _)); exact BK528.out) hb); have n1_ := Aside0.mk (below_step (by repeat (first | (with_reducible first | exact HB.out | apply below_alloc | apply pw_below_drewN | apply below_drew1 | refine below_set ?_ GE528.out) | exact HB.out)) hb); clear BK528; clear HB; have BK528 := n0_; have HB := n1_; clear n0_ n1_; (try clear hb); (try clear hb2); (try clear hk); (try clear hi)))
      go_meet
      case rel => exact ⟨_, (true), (by first | rfl | (simp; done) | (simp [*]; done)), H', ⟨by first | omega | exact Nat.le_refl _⟩, ⟨by (with_reducible repeat (first | refine blk_drewN ?_ _ | refine blk_drew ?_ | refine blk_alloc ?_ _)); exact BK528.out⟩, ⟨by repeat (first | (with_reducible first | exact HB.out | apply below_alloc | apply pw_below_drewN | apply below_drew1 | refine below_set ?_ GE528.out) | exact HB.out)⟩⟩
  case rest =>
    clear HC2
    try clear p2; try clear c3; try clear c5; try clear c7; try clear hcz6_0; try clear hcz6_1; try clear hcz6_2; try clear hcz8_0; try clear hcz8_1; try clear hcz8_2; try clear hcz9_0; try clear hcz9_1; try clear hcz9_2; try clear hfz6_0; try clear hfz6_1; try clear hfz6_2; try clear hfz8_0; try clear hfz8_1; try clear hfz8_2; try clear hfz9_0; try clear hfz9_1; try clear hfz9_2
    obtain ⟨kq, x16_1, rfl, HA, HJ1, BK528, HB⟩ := hcut
    cases kq with
    | zero => exact absurd HA.out (by simp [spec_BestClue.j0])
    | succ kj1 =>
      have H := HA.out
      clear HA
      simp only [spec_BestClue.j0] at H
      by_cases c11 : x16_1 = true
      · subst c11
        have H1 : (some (0, false)) = some (r1, r2) := by rw [if_pos rfl] at H; exact H
        clear H
        have H := H1
        clear H1
        simp only [Option.some.injEq, Prod.mk.injEq] at H
        obtain ⟨rfl, rfl⟩ := H
        go_wp2
        go_ret2
        exact ⟨by first | rfl | (simp [errW_none, errW_some] <;> rfl) | (simp [*, errW_none, errW_some] <;> rfl), by repeat (first | (with_reducible first | exact HB.out | apply below_alloc | apply pw_below_drewN | apply below_drew1 | refine below_set ?_ GE528.out) | exact HB.out)⟩
      · replace c11 := Bool.eq_false_iff.mpr c11
        subst c11
        have H1 : (spec_BestClue.l0 kj1 0 0 (l0_2.length : Int) 0 a0_0 a0_1 l0_2) = some (r1, r2) := by rw [if_neg (show ¬ (false = true) by decide)] at H; exact H
        clear H
        have H := H1
        clear H1
        have H' := Aside0.mk H
        clear H
        have hcz12_0 : wc.cell? ⟨gb528, 0, none⟩ = some (.int .i64 a0_0) := (blk_cell BK528.out 0).trans rfl
        have hcz12_1 : wc.cell? ⟨gb528, 1, none⟩ = some (.int .i64 a0_1) := (blk_cell BK528.out 1).trans rfl
        have hcz12_2 : wc.cell? ⟨gb528, 2, none⟩ = some (.slice A0_2 l0_2.length c0_2) := (blk_cell BK528.out 2).trans rfl
        have hfz12_0 := blk_frozen BK528.out 0
        have hfz12_1 := blk_frozen BK528.out 1
        have hfz12_2 := blk_frozen BK528.out 2
        go_wp2
        go_loopg [4, 5, 20] kj1 (fun kq v4 v5 v20 w' => ∃ (x4_2 : Int) (x5_2 : Int) (x20_2 : Int), v4 = .int .i64 x4_2 ∧ v5 = .int .i64 x5_2 ∧ v20 = .int .i64 x20_2 ∧ Aside0 (spec_BestClue.l0 kq x4_2 x5_2 (l0_2.length : Int) x20_2 a0_0 a0_1 l0_2 = some (r1, r2)) ∧ Aside0 (kq ≤ kj1) ∧ Aside0 (w'.heap[gb528]? = some (.cells #[.int .i64 a0_0, .int .i64 a0_1, (.slice A0_2 l0_2.length c0_2)] 35 (0, 0))) ∧ Aside0 (Below w.heap.size w w'))
        case atStart => exact ⟨(0), (0), (0), (by first | rfl | (simp; done) | (simp [*]; done)), (by first | rfl | (simp; done) | (simp [*]; done)), (by first | rfl | (simp; done) | (simp [*]; done)), H', ⟨Nat.le_refl _⟩, ⟨by (with_reducible repeat (first | refine blk_drewN ?_ _ | refine blk_drew ?_ | refine blk_alloc ?_ _)); exact BK528.out⟩, ⟨by repeat (first | (with_reducible first | exact HB.out | apply below_alloc | apply pw_below_drewN | apply below_drew1 | refine below_set ?_ GE528.out) | exact HB.out)⟩⟩
        case round =>
          clear H'
          try clear c1; try clear p2; try clear c3; try clear c5; try clear c7; try clear c11; try clear hcz12_0; try clear hcz12_1; try clear hcz12_2; try clear hcz6_0; try clear hcz6_1; try clear hcz6_2; try clear hcz8_0; try clear hcz8_1; try clear hcz8_2; try clear hcz9_0; try clear hcz9_1; try clear hcz9_2; try clear hfz12_0; try clear hfz12_1; try clear hfz12_2; try clear hfz6_0; try clear hfz6_1; try clear hfz6_2; try clear hfz8_0; try clear hfz8_1; try clear hfz8_2; try clear hfz9_0; try clear hfz9_1; try clear hfz9_2; try clear p2
          obtain ⟨x4_2, x5_2, x20_2, rfl, rfl, rfl, HA, HK2, BK528, HB⟩ := hrel
          cases gk with
          | zero => exact absurd HA.out (by simp [spec_BestClue.l0])
          | succ k2 =>
            have H := HA.out
            clear HA
            simp only [spec_BestClue.l0] at H
            by_cases c13 : x20_2 < (l0_2.length : Int)
            · rw [if_pos c13] at H
              have c13b0 : decide (x20_2 < (l0_2.length : Int)) = true := decide_eq_true c13
              clear c13
              by_cases c14 : 0 ≤ x20_2
              · rw [if_pos c14] at H
                have c14b0 := eq_true c14
                have c14b1 : decide (0 ≤ x20_2) = true := decide_eq_true c14
                clear c14
                by_cases c15 : x20_2 ≤ (wrap64 (x20_2 + 1))
                · rw [if_pos c15] at H
                  have c15b0 := eq_true c15
                  have c15b1 : decide (x20_2 ≤ (wrap64 (x20_2 + 1))) = true := decide_eq_true c15
                  by_cases c16 : (wrap64 (x20_2 + 1)) ≤ (l0_2.length : Int)
                  · rw [if_pos c16] at H
                    have c16b0 := eq_true c16
                    have c16b1 : decide ((wrap64 (x20_2 + 1)) ≤ (l0_2.length : Int)) = true := decide_eq_true c16
                    obtain ⟨y530, hy530⟩ : ∃ y_ : List (S30), y_ = ((l0_2.take ((wrap64 (x20_2 + 1)) : Int).toNat).drop (x20_2 : Int).toNat) := ⟨_, rfl⟩
                    replace H : ((spec_pzAll.f k2 a0_0 a0_1 y530).bind fun t534 => (if x20_2 = 0 then (spec_BestClue.l0 k2 x20_2 (t534.length : Int) (l0_2.length : Int) (wrap64 (x20_2 + 1)) a0_0 a0_1 l0_2) else (if (t534.length : Int) < x5_2 then (spec_BestClue.l0 k2 x20_2 (t534.length : Int) (l0_2.length : Int) (wrap64 (x20_2 + 1)) a0_0 a0_1 l0_2) else (spec_BestClue.l0 k2 x4_2 x5_2 (l0_2.length : Int) (wrap64 (x20_2 + 1)) a0_0 a0_1 l0_2)))) = some (r1, r2) := by first | (rw [hy530]; with_reducible exact H) | (have H2_ := (Option.bind_some _ _).symm.trans H; rw [hy530]; with_reducible exact H2_) | (have H2_ := (Option.bind_some _ _).symm.trans H; with_reducible exact H2_) | with_reducible exact H | (rw [hy530]; exact H) | exact H
                    have Ny530 := Aside0.mk hy530
                    clear hy530
                    replace H := Option.bind_eq_some_iff.mp H
                    obtain ⟨t534, A170, H⟩ := H
                    replace H : (if x20_2 = 0 then (spec_BestClue.l0 k2 x20_2 (t534.length : Int) (l0_2.length : Int) (wrap64 (x20_2 + 1)) a0_0 a0_1 l0_2) else (if (t534.length : Int) < x5_2 then (spec_BestClue.l0 k2 x20_2 (t534.length : Int) (l0_2.length : Int) (wrap64 (x20_2 + 1)) a0_0 a0_1 l0_2) else (spec_BestClue.l0 k2 x4_2 x5_2 (l0_2.length : Int) (wrap64 (x20_2 + 1)) a0_0 a0_1 l0_2))) = some (r1, r2) := H
                    have A17 := Aside0.mk A170
                    clear A170
                    by_cases c18 : x20_2 = 0
                    · rw [if_pos c18] at H
                      have c18b0 : (x20_2 == 0) = true := beq_iff_eq.mpr c18
                      have c18b1 : (x20_2 != 0) = false := bne_eq_false_iff_eq.mpr c18
                      clear c18
                      have H' := Aside0.mk H
                      clear H
                      try go_wp2
                      have n0_ := Aside0.mk (blk_drew BK528.out)
                      have n1_ := Aside0.mk (below_drew1 HB.out)
                      clear BK528
                      clear HB
                      have BK528 := n0_
                      have HB := n1_
                      clear n0_ n1_
                      have q20 : ((wrap64 (x20_2 + 1)) : Int) ≤ ((l0_2.length : Int) : Int) := of_decide_eq_true (by first | (with_reducible assumption) | assumption)
                      obtain ⟨i020, hi020, _, hsz20, _⟩ := info_parts info30
                      have hroom20 : l0_2.length ≤ c0_2 := HC0_2.out
                      have hC20 : Kd.C k30 _ A0_2 l0_2.length l0_2 := HR0_2.out
                      have ql20 : (x20_2 : Int) ≤ ((wrap64 (x20_2 + 1)) : Int) := of_decide_eq_true (by first | (with_reducible assumption) | assumption)
                      have q020 : (0 : Int) ≤ (x20_2 : Int) := of_decide_eq_true (by first | (with_reducible assumption) | assumption)
                      have hcut20 := cut_mid (P := Try.prog) 33 30 .i64 .i64 Try.underlying33 hi020 3 hsz20 A0_2 l0_2.length c0_2 x20_2 (wrap64 (x20_2 + 1)) q020 ql20 q20 hroom20
                      have hr20 := Kd.C_mid (lo := (x20_2 : Int).toNat) (hi := ((wrap64 (x20_2 + 1)) : Int).toNat) (c := c0_2) hC20 (by omega) (by omega) hroom20
                      obtain ⟨A20, hA20⟩ : ∃ A1, A1 = (if c0_2 = (x20_2 : Int).toNat then A0_2 else (A0_2 : Option Addr).map (·.add ((x20_2 : Int).toNat * 3))) := ⟨_, rfl⟩
                      obtain ⟨c20, hc20⟩ : ∃ c1, c1 = c0_2 - (x20_2 : Int).toNat := ⟨_, rfl⟩
                      have hy20 : y530.length = ((wrap64 (x20_2 + 1)) : Int).toNat - (x20_2 : Int).toNat := (by rw [Ny530.out, List.length_drop, List.length_take] <;> omega)
                      rw [show ((l0_2).take ((wrap64 (x20_2 + 1)) : Int).toNat).drop (x20_2 : Int).toNat = y530 from Ny530.out.symm] at hr20
                      replace hr20 : Kd.C k30 _ A20 y530.length y530 := (by rw [hA20]; exact hr20)
                      rw [← hy20, ← hA20, ← hc20] at hcut20
                      have HR533 := Aside0.mk hr20
                      have HC533 := Aside0.mk (show y530.length ≤ c20 from by rw [hy20, hc20]; exact Nat.sub_le_sub_right (Nat.le_trans (by omega) hroom20) _)
                      clear hr20 hC20 hroom20 hi020 hsz20 hc20
                      have KY20 := Aside0.mk hy20
                      have KA20 := Aside0.mk hA20
                      clear hy20 hA20
                      replace q20 := eq_true q20
                      refine start_ (n := 11) (S := fun w' => w'.cell? ⟨gb528, 0, none⟩ = some (.int .i64 a0_0) ∧ w'.cell? ⟨gb528, 1, none⟩ = some (.int .i64 a0_1) ∧ w'.cell? ⟨gb528, 2, none⟩ = some (.slice A0_2 l0_2.length c0_2)) (ds := []) #[false, false, false, false, false, false, false, false, false, false, false] (by kernel_rfl) rfl rfl ⟨(blk_cell BK528.out 0).trans rfl, (blk_cell BK528.out 1).trans rfl, (blk_cell BK528.out 2).trans rfl⟩ (fun hHeld => ?_); refine with_tabW spec_BestClue.tab7 spec_BestClue.bits7 (fun HT_ HW_ => ?_)
                      generalize wr.drew = w19 at BK528 HB HR533 hHeld ⊢
                      refine pure_ (i := 0) (N := some 23) (v := ?_) (a' := ?_) #[true, false, false, false, false, false, false, false, false, false, false] rfl rfl (any_of HT_.out (by kernel_rfl)) (fun _ _ _ h => h) (Or.inl ⟨by rfl, ?_⟩) ?_ ?_
                      rotate_left
                      · intro w'
                        go_simp
                        with_reducible rfl
                      rotate_left
                      · simp only [Act.put, List.setIfInBounds_toArray, List.set_cons_zero, List.set_cons_succ, i64_w, i32_w]
                        rfl
                      refine pure_ (i := 2) (N := some 25) (v := ?_) (a' := ?_) #[true, false, true, false, false, false, false, false, false, false, false] rfl rfl (any_of HT_.out (by kernel_rfl)) (fun _ _ _ h => h) (Or.inl ⟨by rfl, ?_⟩) ?_ ?_
                      rotate_left
                      · intro w'
                        go_simp
                        with_reducible rfl
                      rotate_left
                      · simp only [Act.put, List.setIfInBounds_toArray, List.set_cons_zero, List.set_cons_succ, i64_w, i32_w]
                        rfl
                      refine pure_ (i := 4) (N := some 27) (v := ?_) (a' := ?_) #[true, false, true, false, true, false, false, false, false, false, false] rfl rfl (any_of HT_.out (by kernel_rfl)) (fun _ _ _ h => h) (Or.inl ⟨by rfl, ?_⟩) ?_ ?_
                      rotate_left
                      · intro w'
                        go_simp
                        with_reducible rfl
                      rotate_left
                      · simp only [Act.put, List.setIfInBounds_toArray, List.set_cons_zero, List.set_cons_succ, i64_w, i32_w]
                        rfl
                      refine pure_ (i := 5) (N := some 28) (v := ?_) (a' := ?_) #[true, false, true, false, true, true, false, false, false, false, false] rfl rfl (any_of HT_.out (by kernel_rfl)) (fun _ _ _ h => h) (Or.inl ⟨by rfl, ?_⟩) ?_ ?_
                      rotate_left
                      · intro w'
                        go_simp
                        with_reducible rfl
                      rotate_left
                      · simp only [Act.put, List.setIfInBounds_toArray, List.set_cons_zero, List.set_cons_succ, i64_w, i32_w]
                        rfl
                      refine pure_ (i := 6) (N := some 29) (v := ?_) (a' := ?_) #[true, false, true, false, true, true, true, false, false, false, false] rfl rfl (any_of HT_.out (by kernel_rfl)) (fun _ _ _ h => h) (Or.inl ⟨by rfl, ?_⟩) ?_ ?_
                      rotate_left
                      · intro w'
                        go_simp
                        with_reducible rfl
                      rotate_left
                      · simp only [Act.put, List.setIfInBounds_toArray, List.set_cons_zero, List.set_cons_succ, i64_w, i32_w]
                        rfl
                      refine take_ (i := 1) (N := some 24) (v := ?_) (a' := ?_) #[true, true, true, false, true, true, true, false, false, false, false] rfl rfl (take_ofW HT_.out HW_.out (by kernel_rfl)) (fun _ _ _ h => h) (Or.inl ⟨by rfl, ?_⟩) hHeld ?_ ?_
                      rotate_left
                      · rintro w' ⟨s0, s1, s2⟩
                        go_simp
                        with_reducible rfl
                      rotate_left
                      · simp only [Act.put, List.setIfInBounds_toArray, List.set_cons_zero, List.set_cons_succ, i64_w, i32_w]
                        rfl
                      refine take_ (i := 3) (N := some 26) (v := ?_) (a' := ?_) #[true, true, true, true, true, true, true, false, false, false, false] rfl rfl (take_ofW HT_.out HW_.out (by kernel_rfl)) (fun _ _ _ h => h) (Or.inl ⟨by rfl, ?_⟩) hHeld ?_ ?_
                      rotate_left
                      · rintro w' ⟨s0, s1, s2⟩
                        go_simp
                        with_reducible rfl
                      rotate_left
                      · simp only [Act.put, List.setIfInBounds_toArray, List.set_cons_zero, List.set_cons_succ, i64_w, i32_w]
                        rfl
                      refine pure_ (i := 7) (N := some 30) (v := ?_) (a' := ?_) #[true, true, true, true, true, true, true, true, false, false, false] rfl rfl (any_of HT_.out (by kernel_rfl)) (fun _ _ _ h => h) (Or.inl ⟨by rfl, ?_⟩) ?_ ?_
                      rotate_left
                      · intro w'
                        go_simp
                        with_reducible rfl
                      rotate_left
                      · simp only [Act.put, List.setIfInBounds_toArray, List.set_cons_zero, List.set_cons_succ, i64_w, i32_w]
                        rfl
                      refine one_ (i := 8) (N := some 31) #[true, true, true, true, true, true, true, true, true, false, false] rfl rfl (one_of HT_.out (by kernel_rfl)) (by decide) (fun K hK => ?_)
                      refine goes_ Try.func71 (by kernel_rfl) rfl #[.agg #[.int .i64 a0_0, .int .i64 a0_1], .slice A20 y530.length c20] (by rfl) rfl rfl (by (try simp only [List.map_toArray, List.map_cons, List.map_nil]); first | done | rfl | (simp only [List.length_drop, List.length_take]; rfl)) ?_
                      with_reducible refine (spec_pzAll.calls k2 a0_0 a0_1 _ _ y530 t534 _ ?side1 ?side2 A17.out).mono ?_
                      (case side1 => repeat (first | exact (Kd.C_below HR533.out HB.out) | (with_reducible refine Kd.C_alloc ?_ _) | (with_reducible refine Kd.C_drewN ?_ _) | (with_reducible refine Kd.C_drew ?_)))
                      (case side2 => exact HC533.out)
                      rintro e w21 ⟨v535, rfl, ho0, hb⟩
                      refine ⟨_, rfl, ?_⟩
                      have n0_ := Aside0.mk (Kd.R_lower ho0 (below_size (by repeat (first | (with_reducible first | exact HB.out | apply below_alloc | apply pw_below_drewN | apply below_drew1 | refine below_set ?_ GE528.out) | exact HB.out))))
                      have n1_ := Aside0.mk (blk_below (g := gb528) (o := .cells #[.int .i64 a0_0, .int .i64 a0_1, .slice A0_2 l0_2.length c0_2] 35 (0, 0)) (by (with_reducible repeat (first | refine blk_drewN ?_ _ | refine blk_drew ?_ | refine blk_alloc ?_ _)); exact BK528.out) hb)
                      have n2_ := Aside0.mk (below_step (by repeat (first | (with_reducible first | exact HB.out | apply below_alloc | apply pw_below_drewN | apply below_drew1 | refine below_set ?_ GE528.out) | exact HB.out)) hb)
                      clear BK528
                      clear HB
                      have HO536 := n0_
                      have BK528 := n1_
                      have HB := n2_
                      clear n0_ n1_ n2_
                      (try clear hb)
                      (try clear hb2)
                      (try clear hk)
                      (try clear hi)
                      (try clear ho0)
                      obtain ⟨Ao22, co22, eo22⟩ := Kd.R_slice HO536.out
                      (first | subst eo22 | (injection eo22 with f1_ f2_ f3_; have f4_ := f1_.symm; have f5_ := f3_.symm; clear f1_ f2_ f3_; subst f4_; subst f5_))
                      refine hK.out _ _ ⟨(blk_cell BK528.out 0).trans rfl, (blk_cell BK528.out 1).trans rfl, (blk_cell BK528.out 2).trans rfl⟩ (fun hHeld => ?_)
                      clear hK K
                      refine norm_ (a' := ?_) ?_ ?_
                      rotate_left
                      · show Act.put _ (some 31) _ = _
                        simp only [Act.put, List.setIfInBounds_toArray, List.set_cons_zero, List.set_cons_succ, i64_w, i32_w]
                        rfl
                      refine pure_ (i := 9) (N := some 32) (v := ?_) (a' := ?_) #[true, true, true, true, true, true, true, true, true, true, false] rfl rfl (any_of HT_.out (by kernel_rfl)) (fun _ _ _ h => h) (Or.inl ⟨by rfl, ?_⟩) ?_ ?_
                      rotate_left
                      · intro w'
                        go_simp
                        with_reducible rfl
                      rotate_left
                      · simp only [Act.put, List.setIfInBounds_toArray, List.set_cons_zero, List.set_cons_succ, i64_w, i32_w]
                        rfl
                      refine pure_ (i := 10) (N := some 7) (v := ?_) (a' := ?_) #[true, true, true, true, true, true, true, true, true, true, true] rfl rfl (any_of HT_.out (by kernel_rfl)) (fun _ _ _ h => h) (Or.inl ⟨by rfl, ?_⟩) ?_ ?_
                      rotate_left
                      · intro w'
                        go_simp
                        with_reducible rfl
                      rotate_left
                      · simp only [Act.put, List.setIfInBounds_toArray, List.set_cons_zero, List.set_cons_succ, i64_w, i32_w]
                        rfl
                      refine done_ (done_of HT_.out (by kernel_rfl)) ?_
                      try go_wp2
                      go_roundg k2
                      case measure => have := HJ1.out; have := HK2.out; omega
                      case rel => exact ⟨(x20_2), ((t534.length : Int)), (wrap64 (x20_2 + 1)), (by first | rfl | (simp; done) | (simp [*]; done)), (by first | rfl | (simp; done) | (simp [*]; done)), (by first | rfl | (simp; done) | (simp [*]; done)), H', ⟨by have := HJ1.out; have := HK2.out; omega⟩, ⟨by (with_reducible repeat (first | refine blk_drewN ?_ _ | refine blk_drew ?_ | refine blk_alloc ?_ _)); exact BK528.out⟩, ⟨by repeat (first | (with_reducible first | exact HB.out | apply below_alloc | apply pw_below_drewN | apply below_drew1 | refine below_set ?_ GE528.out) | exact HB.out)⟩⟩
                    · rw [if_neg c18] at H
                      have c18b0 : (x20_2 == 0) = false := beq_eq_false_iff_ne.mpr c18
                      have c18b1 : (x20_2 != 0) = true := bne_iff_ne.mpr c18
                      by_cases c23 : (t534.length : Int) < x5_2
                      · rw [if_pos c23] at H
                        have c23b0 : decide ((t534.length : Int) < x5_2) = true := decide_eq_true c23
                        clear c23
                        have H' := Aside0.mk H
                        clear H
                        try go_wp2
                        have n0_ := Aside0.mk (blk_drew BK528.out)
                        have n1_ := Aside0.mk (below_drew1 HB.out)
                        clear BK528
                        clear HB
                        have BK528 := n0_
                        have HB := n1_
                        clear n0_ n1_
                        have q25 : ((wrap64 (x20_2 + 1)) : Int) ≤ ((l0_2.length : Int) : Int) := of_decide_eq_true (by first | (with_reducible assumption) | assumption)
                        obtain ⟨i025, hi025, _, hsz25, _⟩ := info_parts info30
                        have hroom25 : l0_2.length ≤ c0_2 := HC0_2.out
                        have hC25 : Kd.C k30 _ A0_2 l0_2.length l0_2 := HR0_2.out
                        have ql25 : (x20_2 : Int) ≤ ((wrap64 (x20_2 + 1)) : Int) := of_decide_eq_true (by first | (with_reducible assumption) | assumption)
                        have q025 : (0 : Int) ≤ (x20_2 : Int) := of_decide_eq_true (by first | (with_reducible assumption) | assumption)
                        have hcut25 := cut_mid (P := Try.prog) 33 30 .i64 .i64 Try.underlying33 hi025 3 hsz25 A0_2 l0_2.length c0_2 x20_2 (wrap64 (x20_2 + 1)) q025 ql25 q25 hroom25
                        have hr25 := Kd.C_mid (lo := (x20_2 : Int).toNat) (hi := ((wrap64 (x20_2 + 1)) : Int).toNat) (c := c0_2) hC25 (by omega) (by omega) hroom25
                        obtain ⟨A25, hA25⟩ : ∃ A1, A1 = (if c0_2 = (x20_2 : Int).toNat then A0_2 else (A0_2 : Option Addr).map (·.add ((x20_2 : Int).toNat * 3))) := ⟨_, rfl⟩
                        obtain ⟨c25, hc25⟩ : ∃ c1, c1 = c0_2 - (x20_2 : Int).toNat := ⟨_, rfl⟩
                        have hy25 : y530.length = ((wrap64 (x20_2 + 1)) : Int).toNat - (x20_2 : Int).toNat := (by rw [Ny530.out, List.length_drop, List.length_take] <;> omega)
                        rw [show ((l0_2).take ((wrap64 (x20_2 + 1)) : Int).toNat).drop (x20_2 : Int).toNat = y530 from Ny530.out.symm] at hr25
                        replace hr25 : Kd.C k30 _ A25 y530.length y530 := (by rw [hA25]; exact hr25)
                        rw [← hy25, ← hA25, ← hc25] at hcut25
                        have HR533 := Aside0.mk hr25
                        have HC533 := Aside0.mk (show y530.length ≤ c25 from by rw [hy25, hc25]; exact Nat.sub_le_sub_right (Nat.le_trans (by omega) hroom25) _)
                        clear hr25 hC25 hroom25 hi025 hsz25 hc25
                        have KY25 := Aside0.mk hy25
                        have KA25 := Aside0.mk hA25
                        clear hy25 hA25
                        replace q25 := eq_true q25
                        refine start_ (n := 11) (S := fun w' => w'.cell? ⟨gb528, 0, none⟩ = some (.int .i64 a0_0) ∧ w'.cell? ⟨gb528, 1, none⟩ = some (.int .i64 a0_1) ∧ w'.cell? ⟨gb528, 2, none⟩ = some (.slice A0_2 l0_2.length c0_2)) (ds := []) #[false, false, false, false, false, false, false, false, false, false, false] (by kernel_rfl) rfl rfl ⟨(blk_cell BK528.out 0).trans rfl, (blk_cell BK528.out 1).trans rfl, (blk_cell BK528.out 2).trans rfl⟩ (fun hHeld => ?_); refine with_tabW spec_BestClue.tab7 spec_BestClue.bits7 (fun HT_ HW_ => ?_)
                        generalize wr.drew = w24 at BK528 HB HR533 hHeld ⊢
                        refine pure_ (i := 0) (N := some 23) (v := ?_) (a' := ?_) #[true, false, false, false, false, false, false, false, false, false, false] rfl rfl (any_of HT_.out (by kernel_rfl)) (fun _ _ _ h => h) (Or.inl ⟨by rfl, ?_⟩) ?_ ?_
                        rotate_left
                        · intro w'
                          go_simp
                          with_reducible rfl
                        rotate_left
                        · simp only [Act.put, List.setIfInBounds_toArray, List.set_cons_zero, List.set_cons_succ, i64_w, i32_w]
                          rfl
                        refine pure_ (i := 2) (N := some 25) (v := ?_) (a' := ?_) #[true, false, true, false, false, false, false, false, false, false, false] rfl rfl (any_of HT_.out (by kernel_rfl)) (fun _ _ _ h => h) (Or.inl ⟨by rfl, ?_⟩) ?_ ?_
                        rotate_left
                        · intro w'
                          go_simp
                          with_reducible rfl
                        rotate_left
                        · simp only [Act.put, List.setIfInBounds_toArray, List.set_cons_zero, List.set_cons_succ, i64_w, i32_w]
                          rfl
                        refine pure_ (i := 4) (N := some 27) (v := ?_) (a' := ?_) #[true, false, true, false, true, false, false, false, false, false, false] rfl rfl (any_of HT_.out (by kernel_rfl)) (fun _ _ _ h => h) (Or.inl ⟨by rfl, ?_⟩) ?_ ?_
                        rotate_left
                        · intro w'
                          go_simp
                          with_reducible rfl
                        rotate_left
                        · simp only [Act.put, List.setIfInBounds_toArray, List.set_cons_zero, List.set_cons_succ, i64_w, i32_w]
                          rfl
                        refine pure_ (i := 5) (N := some 28) (v := ?_) (a' := ?_) #[true, false, true, false, true, true, false, false, false, false, false] rfl rfl (any_of HT_.out (by kernel_rfl)) (fun _ _ _ h => h) (Or.inl ⟨by rfl, ?_⟩) ?_ ?_
                        rotate_left
                        · intro w'
                          go_simp
                          with_reducible rfl
                        rotate_left
                        · simp only [Act.put, List.setIfInBounds_toArray, List.set_cons_zero, List.set_cons_succ, i64_w, i32_w]
                          rfl
                        refine pure_ (i := 6) (N := some 29) (v := ?_) (a' := ?_) #[true, false, true, false, true, true, true, false, false, false, false] rfl rfl (any_of HT_.out (by kernel_rfl)) (fun _ _ _ h => h) (Or.inl ⟨by rfl, ?_⟩) ?_ ?_
                        rotate_left
                        · intro w'
                          go_simp
                          with_reducible rfl
                        rotate_left
                        · simp only [Act.put, List.setIfInBounds_toArray, List.set_cons_zero, List.set_cons_succ, i64_w, i32_w]
                          rfl
                        refine take_ (i := 1) (N := some 24) (v := ?_) (a' := ?_) #[true, true, true, false, true, true, true, false, false, false, false] rfl rfl (take_ofW HT_.out HW_.out (by kernel_rfl)) (fun _ _ _ h => h) (Or.inl ⟨by rfl, ?_⟩) hHeld ?_ ?_
                        rotate_left
                        · rintro w' ⟨s0, s1, s2⟩
                          go_simp
                          with_reducible rfl
                        rotate_left
                        · simp only [Act.put, List.setIfInBounds_toArray, List.set_cons_zero, List.set_cons_succ, i64_w, i32_w]
                          rfl
                        refine take_ (i := 3) (N := some 26) (v := ?_) (a' := ?_) #[true, true, true, true, true, true, true, false, false, false, false] rfl rfl (take_ofW HT_.out HW_.out (by kernel_rfl)) (fun _ _ _ h => h) (Or.inl ⟨by rfl, ?_⟩) hHeld ?_ ?_
                        rotate_left
                        · rintro w' ⟨s0, s1, s2⟩
                          go_simp
                          with_reducible rfl
                        rotate_left
                        · simp only [Act.put, List.setIfInBounds_toArray, List.set_cons_zero, List.set_cons_succ, i64_w, i32_w]
                          rfl
                        refine pure_ (i := 7) (N := some 30) (v := ?_) (a' := ?_) #[true, true, true, true, true, true, true, true, false, false, false] rfl rfl (any_of HT_.out (by kernel_rfl)) (fun _ _ _ h => h) (Or.inl ⟨by rfl, ?_⟩) ?_ ?_
                        rotate_left
                        · intro w'
                          go_simp
                          with_reducible rfl
                        rotate_left
                        · simp only [Act.put, List.setIfInBounds_toArray, List.set_cons_zero, List.set_cons_succ, i64_w, i32_w]
                          rfl
                        refine one_ (i := 8) (N := some 31) #[true, true, true, true, true, true, true, true, true, false, false] rfl rfl (one_of HT_.out (by kernel_rfl)) (by decide) (fun K hK => ?_)
                        refine goes_ Try.func71 (by kernel_rfl) rfl #[.agg #[.int .i64 a0_0, .int .i64 a0_1], .slice A25 y530.length c25] (by rfl) rfl rfl (by (try simp only [List.map_toArray, List.map_cons, List.map_nil]); first | done | rfl | (simp only [List.length_drop, List.length_take]; rfl)) ?_
                        with_reducible refine (spec_pzAll.calls k2 a0_0 a0_1 _ _ y530 t534 _ ?side1 ?side2 A17.out).mono ?_
                        (case side1 => repeat (first | exact (Kd.C_below HR533.out HB.out) | (with_reducible refine Kd.C_alloc ?_ _) | (with_reducible refine Kd.C_drewN ?_ _) | (with_reducible refine Kd.C_drew ?_)))
                        (case side2 => exact HC533.out)
                        rintro e w26 ⟨v535, rfl, ho0, hb⟩
                        refine ⟨_, rfl, ?_⟩
                        have n0_ := Aside0.mk (Kd.R_lower ho0 (below_size (by repeat (first | (with_reducible first | exact HB.out | apply below_alloc | apply pw_below_drewN | apply below_drew1 | refine below_set ?_ GE528.out) | exact HB.out))))
                        have n1_ := Aside0.mk (blk_below (g := gb528) (o := .cells #[.int .i64 a0_0, .int .i64 a0_1, .slice A0_2 l0_2.length c0_2] 35 (0, 0)) (by (with_reducible repeat (first | refine blk_drewN ?_ _ | refine blk_drew ?_ | refine blk_alloc ?_ _)); exact BK528.out) hb)
                        have n2_ := Aside0.mk (below_step (by repeat (first | (with_reducible first | exact HB.out | apply below_alloc | apply pw_below_drewN | apply below_drew1 | refine below_set ?_ GE528.out) | exact HB.out)) hb)
                        clear BK528
                        clear HB
                        have HO536 := n0_
                        have BK528 := n1_
                        have HB := n2_
                        clear n0_ n1_ n2_
                        (try clear hb)
                        (try clear hb2)
                        (try clear hk)
                        (try clear hi)
                        (try clear ho0)
                        obtain ⟨Ao27, co27, eo27⟩ := Kd.R_slice HO536.out
                        (first | subst eo27 | (injection eo27 with f1_ f2_ f3_; have f4_ := f1_.symm; have f5_ := f3_.symm; clear f1_ f2_ f3_; subst f4_; subst f5_))
                        refine hK.out _ _ ⟨(blk_cell BK528.out 0).trans rfl, (blk_cell BK528.out 1).trans rfl, (blk_cell BK528.out 2).trans rfl⟩ (fun hHeld => ?_)
                        clear hK K
                        refine norm_ (a' := ?_) ?_ ?_
                        rotate_left
                        · show Act.put _ (some 31) _ = _
                          simp only [Act.put, List.setIfInBounds_toArray, List.set_cons_zero, List.set_cons_succ, i64_w, i32_w]
                          rfl
                        refine pure_ (i := 9) (N := some 32) (v := ?_) (a' := ?_) #[true, true, true, true, true, true, true, true, true, true, false] rfl rfl (any_of HT_.out (by kernel_rfl)) (fun _ _ _ h => h) (Or.inl ⟨by rfl, ?_⟩) ?_ ?_
                        rotate_left
                        · intro w'
                          go_simp
                          with_reducible rfl
                        rotate_left
                        · simp only [Act.put, List.setIfInBounds_toArray, List.set_cons_zero, List.set_cons_succ, i64_w, i32_w]
                          rfl
                        refine pure_ (i := 10) (N := some 7) (v := ?_) (a' := ?_) #[true, true, true, true, true, true, true, true, true, true, true] rfl rfl (any_of HT_.out (by kernel_rfl)) (fun _ _ _ h => h) (Or.inl ⟨by rfl, ?_⟩) ?_ ?_
                        rotate_left
                        · intro w'
                          go_simp
                          with_reducible rfl
                        rotate_left
                        · simp only [Act.put, List.setIfInBounds_toArray, List.set_cons_zero, List.set_cons_succ, i64_w, i32_w]
                          rfl
                        refine done_ (done_of HT_.out (by kernel_rfl)) ?_
                        try go_wp2
                        go_roundg k2
                        case measure => have := HJ1.out; have := HK2.out; omega
                        case rel => exact ⟨(x20_2), ((t534.length : Int)), (wrap64 (x20_2 + 1)), (by first | rfl | (simp; done) | (simp [*]; done)), (by first | rfl | (simp; done) | (simp [*]; done)), (by first | rfl | (simp; done) | (simp [*]; done)), H', ⟨by have := HJ1.out; have := HK2.out; omega⟩, ⟨by (with_reducible repeat (first | refine blk_drewN ?_ _ | refine blk_drew ?_ | refine blk_alloc ?_ _)); exact BK528.out⟩, ⟨by repeat (first | (with_reducible first | exact HB.out | apply below_alloc | apply pw_below_drewN | apply below_drew1 | refine below_set ?_ GE528.out) | exact HB.out)⟩⟩
                      · rw [if_neg c23] at H
                        have c23b0 : decide ((t534.length : Int) < x5_2) = false := decide_eq_false c23
                        clear c23
                        have H' := Aside0.mk H
                        clear H
                        try go_wp2
                        have n0_ := Aside0.mk (blk_drew BK528.out)
                        have n1_ := Aside0.mk (below_drew1 HB.out)
                        clear BK528
                        clear HB
                        have BK528 := n0_
                        have HB := n1_
                        clear n0_ n1_
                        have q29 : ((wrap64 (x20_2 + 1)) : Int) ≤ ((l0_2.length : Int) : Int) := of_decide_eq_true (by first | (with_reducible assumption) | assumption)
                        obtain ⟨i029, hi029, _, hsz29, _⟩ := info_parts info30
                        have hroom29 : l0_2.length ≤ c0_2 := HC0_2.out
                        have hC29 : Kd.C k30 _ A0_2 l0_2.length l0_2 := HR0_2.out
                        have ql29 : (x20_2 : Int) ≤ ((wrap64 (x20_2 + 1)) : Int) := of_decide_eq_true (by first | (with_reducible assumption) | assumption)
                        have q029 : (0 : Int) ≤ (x20_2 : Int) := of_decide_eq_true (by first | (with_reducible assumption) | assumption)
                        have hcut29 := cut_mid (P := Try.prog) 33 30 .i64 .i64 Try.underlying33 hi029 3 hsz29 A0_2 l0_2.length c0_2 x20_2 (wrap64 (x20_2 + 1)) q029 ql29 q29 hroom29
                        have hr29 := Kd.C_mid (lo := (x20_2 : Int).toNat) (hi := ((wrap64 (x20_2 + 1)) : Int).toNat) (c := c0_2) hC29 (by omega) (by omega) hroom29
                        obtain ⟨A29, hA29⟩ : ∃ A1, A1 = (if c0_2 = (x20_2 : Int).toNat then A0_2 else (A0_2 : Option Addr).map (·.add ((x20_2 : Int).toNat * 3))) := ⟨_, rfl⟩
                        obtain ⟨c29, hc29⟩ : ∃ c1, c1 = c0_2 - (x20_2 : Int).toNat := ⟨_, rfl⟩
                        have hy29 : y530.length = ((wrap64 (x20_2 + 1)) : Int).toNat - (x20_2 : Int).toNat := (by rw [Ny530.out, List.length_drop, List.length_take] <;> omega)
                        rw [show ((l0_2).take ((wrap64 (x20_2 + 1)) : Int).toNat).drop (x20_2 : Int).toNat = y530 from Ny530.out.symm] at hr29
                        replace hr29 : Kd.C k30 _ A29 y530.length y530 := (by rw [hA29]; exact hr29)
                        rw [← hy29, ← hA29, ← hc29] at hcut29
                        have HR533 := Aside0.mk hr29
                        have HC533 := Aside0.mk (show y530.length ≤ c29 from by rw [hy29, hc29]; exact Nat.sub_le_sub_right (Nat.le_trans (by omega) hroom29) _)
                        clear hr29 hC29 hroom29 hi029 hsz29 hc29
                        have KY29 := Aside0.mk hy29
                        have KA29 := Aside0.mk hA29
                        clear hy29 hA29
                        replace q29 := eq_true q29
                        refine start_ (n := 11) (S := fun w' => w'.cell? ⟨gb528, 0, none⟩ = some (.int .i64 a0_0) ∧ w'.cell? ⟨gb528, 1, none⟩ = some (.int .i64 a0_1) ∧ w'.cell? ⟨gb528, 2, none⟩ = some (.slice A0_2 l0_2.length c0_2)) (ds := []) #[false, false, false, false, false, false, false, false, false, false, false] (by kernel_rfl) rfl rfl ⟨(blk_cell BK528.out 0).trans rfl, (blk_cell BK528.out 1).trans rfl, (blk_cell BK528.out 2).trans rfl⟩ (fun hHeld => ?_); refine with_tabW spec_BestClue.tab7 spec_BestClue.bits7 (fun HT_ HW_ => ?_)
                        generalize wr.drew = w28 at BK528 HB HR533 hHeld ⊢
                        refine pure_ (i := 0) (N := some 23) (v := ?_) (a' := ?_) #[true, false, false, false, false, false, false, false, false, false, false] rfl rfl (any_of HT_.out (by kernel_rfl)) (fun _ _ _ h => h) (Or.inl ⟨by rfl, ?_⟩) ?_ ?_
                        rotate_left
                        · intro w'
                          go_simp
                          with_reducible rfl
                        rotate_left
                        · simp only [Act.put, List.setIfInBounds_toArray, List.set_cons_zero, List.set_cons_succ, i64_w, i32_w]
                          rfl
                        refine pure_ (i := 2) (N := some 25) (v := ?_) (a' := ?_) #[true, false, true, false, false, false, false, false, false, false, false] rfl rfl (any_of HT_.out (by kernel_rfl)) (fun _ _ _ h => h) (Or.inl ⟨by rfl, ?_⟩) ?_ ?_
                        rotate_left
                        · intro w'
                          go_simp
                          with_reducible rfl
                        rotate_left
                        · simp only [Act.put, List.setIfInBounds_toArray, List.set_cons_zero, List.set_cons_succ, i64_w, i32_w]
                          rfl
                        refine pure_ (i := 4) (N := some 27) (v := ?_) (a' := ?_) #[true, false, true, false, true, false, false, false, false, false, false] rfl rfl (any_of HT_.out (by kernel_rfl)) (fun _ _ _ h => h) (Or.inl ⟨by rfl, ?_⟩) ?_ ?_
                        rotate_left
                        · intro w'
                          go_simp
                          with_reducible rfl
                        rotate_left
                        · simp only [Act.put, List.setIfInBounds_toArray, List.set_cons_zero, List.set_cons_succ, i64_w, i32_w]
                          rfl
                        refine pure_ (i := 5) (N := some 28) (v := ?_) (a' := ?_) #[true, false, true, false, true, true, false, false, false, false, false] rfl rfl (any_of HT_.out (by kernel_rfl)) (fun _ _ _ h => h) (Or.inl ⟨by rfl, ?_⟩) ?_ ?_
                        rotate_left
                        · intro w'
                          go_simp
                          with_reducible rfl
                        rotate_left
                        · simp only [Act.put, List.setIfInBounds_toArray, List.set_cons_zero, List.set_cons_succ, i64_w, i32_w]
                          rfl
                        refine pure_ (i := 6) (N := some 29) (v := ?_) (a' := ?_) #[true, false, true, false, true, true, true, false, false, false, false] rfl rfl (any_of HT_.out (by kernel_rfl)) (fun _ _ _ h => h) (Or.inl ⟨by rfl, ?_⟩) ?_ ?_
                        rotate_left
                        · intro w'
                          go_simp
                          with_reducible rfl
                        rotate_left
                        · simp only [Act.put, List.setIfInBounds_toArray, List.set_cons_zero, List.set_cons_succ, i64_w, i32_w]
                          rfl
                        refine take_ (i := 1) (N := some 24) (v := ?_) (a' := ?_) #[true, true, true, false, true, true, true, false, false, false, false] rfl rfl (take_ofW HT_.out HW_.out (by kernel_rfl)) (fun _ _ _ h => h) (Or.inl ⟨by rfl, ?_⟩) hHeld ?_ ?_
                        rotate_left
                        · rintro w' ⟨s0, s1, s2⟩
                          go_simp
                          with_reducible rfl
                        rotate_left
                        · simp only [Act.put, List.setIfInBounds_toArray, List.set_cons_zero, List.set_cons_succ, i64_w, i32_w]
                          rfl
                        refine take_ (i := 3) (N := some 26) (v := ?_) (a' := ?_) #[true, true, true, true, true, true, true, false, false, false, false] rfl rfl (take_ofW HT_.out HW_.out (by kernel_rfl)) (fun _ _ _ h => h) (Or.inl ⟨by rfl, ?_⟩) hHeld ?_ ?_
                        rotate_left
                        · rintro w' ⟨s0, s1, s2⟩
                          go_simp
                          with_reducible rfl
                        rotate_left
                        · simp only [Act.put, List.setIfInBounds_toArray, List.set_cons_zero, List.set_cons_succ, i64_w, i32_w]
                          rfl
                        refine pure_ (i := 7) (N := some 30) (v := ?_) (a' := ?_) #[true, true, true, true, true, true, true, true, false, false, false] rfl rfl (any_of HT_.out (by kernel_rfl)) (fun _ _ _ h => h) (Or.inl ⟨by rfl, ?_⟩) ?_ ?_
                        rotate_left
                        · intro w'
                          go_simp
                          with_reducible rfl
                        rotate_left
                        · simp only [Act.put, List.setIfInBounds_toArray, List.set_cons_zero, List.set_cons_succ, i64_w, i32_w]
                          rfl
                        refine one_ (i := 8) (N := some 31) #[true, true, true, true, true, true, true, true, true, false, false] rfl rfl (one_of HT_.out (by kernel_rfl)) (by decide) (fun K hK => ?_)
                        refine goes_ Try.func71 (by kernel_rfl) rfl #[.agg #[.int .i64 a0_0, .int .i64 a0_1], .slice A29 y530.length c29] (by rfl) rfl rfl (by (try simp only [List.map_toArray, List.map_cons, List.map_nil]); first | done | rfl | (simp only [List.length_drop, List.length_take]; rfl)) ?_
                        with_reducible refine (spec_pzAll.calls k2 a0_0 a0_1 _ _ y530 t534 _ ?side1 ?side2 A17.out).mono ?_
                        (case side1 => repeat (first | exact (Kd.C_below HR533.out HB.out) | (with_reducible refine Kd.C_alloc ?_ _) | (with_reducible refine Kd.C_drewN ?_ _) | (with_reducible refine Kd.C_drew ?_)))
                        (case side2 => exact HC533.out)
                        rintro e w30 ⟨v535, rfl, ho0, hb⟩
                        refine ⟨_, rfl, ?_⟩
                        have n0_ := Aside0.mk (Kd.R_lower ho0 (below_size (by repeat (first | (with_reducible first | exact HB.out | apply below_alloc | apply pw_below_drewN | apply below_drew1 | refine below_set ?_ GE528.out) | exact HB.out))))
                        have n1_ := Aside0.mk (blk_below (g := gb528) (o := .cells #[.int .i64 a0_0, .int .i64 a0_1, .slice A0_2 l0_2.length c0_2] 35 (0, 0)) (by (with_reducible repeat (first | refine blk_drewN ?_ _ | refine blk_drew ?_ | refine blk_alloc ?_ _)); exact BK528.out) hb)
                        have n2_ := Aside0.mk (below_step (by repeat (first | (with_reducible first | exact HB.out | apply below_alloc | apply pw_below_drewN | apply below_drew1 | refine below_set ?_ GE528.out) | exact HB.out)) hb)
                        clear BK528
                        clear HB
                        have HO536 := n0_
                        have BK528 := n1_
                        have HB := n2_
                        clear n0_ n1_ n2_
                        (try clear hb)
                        (try clear hb2)
                        (try clear hk)
                        (try clear hi)
                        (try clear ho0)
                        obtain ⟨Ao31, co31, eo31⟩ := Kd.R_slice HO536.out
                        (first | subst eo31 | (injection eo31 with f1_ f2_ f3_; have f4_ := f1_.symm; have f5_ := f3_.symm; clear f1_ f2_ f3_; subst f4_; subst f5_))
                        refine hK.out _ _ ⟨(blk_cell BK528.out 0).trans rfl, (blk_cell BK528.out 1).trans rfl, (blk_cell BK528.out 2).trans rfl⟩ (fun hHeld => ?_)
                        clear hK K
                        refine norm_ (a' := ?_) ?_ ?_
                        rotate_left
                        · show Act.put _ (some 31) _ = _
                          simp only [Act.put, List.setIfInBounds_toArray, List.set_cons_zero, List.set_cons_succ, i64_w, i32_w]
                          rfl
                        refine pure_ (i := 9) (N := some 32) (v := ?_) (a' := ?_) #[true, true, true, true, true, true, true, true, true, true, false] rfl rfl (any_of HT_.out (by kernel_rfl)) (fun _ _ _ h => h) (Or.inl ⟨by rfl, ?_⟩) ?_ ?_
                        rotate_left
                        · intro w'
                          go_simp
                          with_reducible rfl
                        rotate_left
                        · simp only [Act.put, List.setIfInBounds_toArray, List.set_cons_zero, List.set_cons_succ, i64_w, i32_w]
                          rfl
                        refine pure_ (i := 10) (N := some 7) (v := ?_) (a' := ?_) #[true, true, true, true, true, true, true, true, true, true, true] rfl rfl (any_of HT_.out (by kernel_rfl)) (fun _ _ _ h => h) (Or.inl ⟨by rfl, ?_⟩) ?_ ?_
                        rotate_left
                        · intro w'
                          go_simp
                          with_reducible rfl
                        rotate_left
                        · simp only [Act.put, List.setIfInBounds_toArray, List.set_cons_zero, List.set_cons_succ, i64_w, i32_w]
                          rfl
                        refine done_ (done_of HT_.out (by kernel_rfl)) ?_
                        try go_wp2
                        go_roundg k2
                        case measure => have := HJ1.out; have := HK2.out; omega
                        case rel => exact ⟨(x4_2), (x5_2), (wrap64 (x20_2 + 1)), (by first | rfl | (simp; done) | (simp [*]; done)), (by first | rfl | (simp; done) | (simp [*]; done)), (by first | rfl | (simp; done) | (simp [*]; done)), H', ⟨by have := HJ1.out; have := HK2.out; omega⟩, ⟨by (with_reducible repeat (first | refine blk_drewN ?_ _ | refine blk_drew ?_ | refine blk_alloc ?_ _)); exact BK528.out⟩, ⟨by repeat (first | (with_reducible first | exact HB.out | apply below_alloc | apply pw_below_drewN | apply below_drew1 | refine below_set ?_ GE528.out) | exact HB.out)⟩⟩
                  · rw [if_neg c16] at H
                    exact absurd H (by simp)
                · rw [if_neg c15] at H
                  exact absurd H (by simp)
              · rw [if_neg c14] at H
                exact absurd H (by simp)
            · rw [if_neg c13] at H
              have c13b0 : decide (x20_2 < (l0_2.length : Int)) = false := decide_eq_false c13
              clear c13
              simp only [Option.some.injEq, Prod.mk.injEq] at H
              obtain ⟨rfl, rfl⟩ := H
              go_wp2
              go_ret2
              exact ⟨by first | rfl | (simp [errW_none, errW_some] <;> rfl) | (simp [*, errW_none, errW_some] <;> rfl), by repeat (first | (with_reducible first | exact HB.out | apply below_alloc | apply pw_below_drewN | apply below_drew1 | refine below_set ?_ GE528.out) | exact HB.out)⟩
end Go.Proofs.Ytagiekcfnmhgjaa.P

namespace Go.Proofs.Ytagiekcfnmhgjaa.P
open Go.RowKit Go.Proofs.YtagiekcfnmhgjaaW.PrintWords Go.Proofs.YtagiekcfnmhgjaaW.PrintLast Go.Proofs.YtagiekcfnmhgjaaW.PrintMore
attribute [local go_sem] max2_int min2_int max_two min_two max_three min_three max_four min_four
set_option linter.unusedVariables false
set_option linter.unusedSimpArgs false
/-! ### laws_FnExactBestClue: function 8 -/
def laws_FnExactBestClue.j0 : Nat → Bool → Int → Int → List (S25) → Int → Int → List (S30) → Option (Bool)
  | 0, _, _, _, _, _, _, _ => none
  | k + 1, x34, x548000, x548001, x548002, x562000, x562001, x562002 => if x34 = true then (some false) else ((laws_toPuzzle.f k x548000 x548001 x548002).bind fun bt564 => ((laws_eqPuzzle.f k x562000 x562001 x562002 bt564.1 bt564.2.1 bt564.2.2).bind fun t569 => (if t569 = true then (some true) else (some false))))
def laws_FnExactBestClue.f (k : Nat) (a0_0 : Int) (a0_1 : Int) (l0_2 : List (S25)) : Option (Bool) := (laws_szPuzzle.f a0_0 a0_1 l0_2 1048576).bind fun t548 => (if t548 < 0 then (some true) else ((laws_toPuzzle.f k a0_0 a0_1 l0_2).bind fun bt549 => ((spec_BestClue.f k bt549.1 bt549.2.1 bt549.2.2).bind fun bt554 => ((laws_toPuzzle.f k a0_0 a0_1 l0_2).bind fun bt556 => ((impl_BestClue.f k bt556.1 bt556.2.1 bt556.2.2).bind fun bt562 => (if bt562.1 = bt554.1 then (laws_FnExactBestClue.j0 k (bt562.2 != bt554.2) a0_0 a0_1 l0_2 bt556.1 bt556.2.1 bt556.2.2) else (laws_FnExactBestClue.j0 k true a0_0 a0_1 l0_2 bt556.1 bt556.2.1 bt556.2.2)))))))
theorem laws_FnExactBestClue.mono_l : ∀ k, (∀ y0 y1 y2 y3 y4 y5 y6, LeO (laws_FnExactBestClue.j0 k y0 y1 y2 y3 y4 y5 y6) (laws_FnExactBestClue.j0 (k + 1) y0 y1 y2 y3 y4 y5 y6))
  | 0 => fun _ _ _ _ _ _ _ r h => by simp [laws_FnExactBestClue.j0] at h
  | k + 1 => by
    have ih0 := laws_FnExactBestClue.mono_l k
    · intro y0 y1 y2 y3 y4 y5 y6
      unfold laws_FnExactBestClue.j0
      repeat' first
      | (with_reducible exact ih0 _ _ _ _ _ _ _)
      | (with_reducible exact impl_BestClue.mono _ _ _ _)
      | (with_reducible exact laws_eqPuzzle.mono _ _ _ _ _ _ _)
      | (with_reducible exact laws_toPuzzle.mono _ _ _ _)
      | (with_reducible exact spec_BestClue.mono _ _ _ _)
      | (with_reducible exact LeO.refl _)
      | (with_reducible exact LeO.none _)
      | (with_reducible refine LeO.ite ?_ ?_)
      | (with_reducible refine LeO.bind ?_ (fun _ => ?_))
      | exact ih0 _ _ _ _ _ _ _
      | exact impl_BestClue.mono _ _ _ _
      | exact laws_eqPuzzle.mono _ _ _ _ _ _ _
      | exact laws_toPuzzle.mono _ _ _ _
      | exact spec_BestClue.mono _ _ _ _
      | exact LeO.none _
      | refine LeO.ite ?_ ?_
      | refine LeO.bind ?_ (fun _ => ?_)
theorem laws_FnExactBestClue.mono : ∀ a0 a1 a2 k, LeO (laws_FnExactBestClue.f k a0 a1 a2) (laws_FnExactBestClue.f (k + 1) a0 a1 a2) := by
  intro a0 a1 a2 k
  have ih0 := laws_FnExactBestClue.mono_l k
  unfold laws_FnExactBestClue.f
  repeat' first
      | (with_reducible exact ih0 _ _ _ _ _ _ _)
      | (with_reducible exact impl_BestClue.mono _ _ _ _)
      | (with_reducible exact laws_eqPuzzle.mono _ _ _ _ _ _ _)
      | (with_reducible exact laws_toPuzzle.mono _ _ _ _)
      | (with_reducible exact spec_BestClue.mono _ _ _ _)
      | (with_reducible exact LeO.refl _)
      | (with_reducible exact LeO.none _)
      | (with_reducible refine LeO.ite ?_ ?_)
      | (with_reducible refine LeO.bind ?_ (fun _ => ?_))
      | exact ih0 _ _ _ _ _ _ _
      | exact impl_BestClue.mono _ _ _ _
      | exact laws_eqPuzzle.mono _ _ _ _ _ _ _
      | exact laws_toPuzzle.mono _ _ _ _
      | exact spec_BestClue.mono _ _ _ _
      | exact LeO.none _
      | refine LeO.ite ?_ ?_
      | refine LeO.bind ?_ (fun _ => ?_)
set_option maxHeartbeats 8000000 in
set_option maxRecDepth 100000 in
theorem laws_FnExactBestClue.calls (k : Nat) (a0_0 : Int) (a0_1 : Int) (A0_2 : Option Addr) (c0_2 : Nat) (l0_2 : List (S25)) (r : Bool) (w : World) (hr0_2 : Kd.C k25 w A0_2 l0_2.length l0_2) (hc0_2 : l0_2.length ≤ c0_2) (h : laws_FnExactBestClue.f k a0_0 a0_1 l0_2 = some r) :
    Calls Try.prog 8 #[.agg #[.int .i64 a0_0, .int .i64 a0_1, .slice A0_2 l0_2.length c0_2]] w fun e w' => e = .returned (.bool r) ∧ Below w.heap.size w w' := by
  have hu43 := Try.underlying43
  have hu35 := Try.underlying35
  have HR0_2 := Aside0.mk hr0_2
  have HC0_2 := Aside0.mk hc0_2
  clear hr0_2 hc0_2
  have HB := Aside0.mk (Below.refl w.heap.size w)
  have H : ((laws_szPuzzle.f a0_0 a0_1 l0_2 1048576).bind fun t548 => (if t548 < 0 then (some true) else ((laws_toPuzzle.f k a0_0 a0_1 l0_2).bind fun bt549 => ((spec_BestClue.f k bt549.1 bt549.2.1 bt549.2.2).bind fun bt554 => ((laws_toPuzzle.f k a0_0 a0_1 l0_2).bind fun bt556 => ((impl_BestClue.f k bt556.1 bt556.2.1 bt556.2.2).bind fun bt562 => (if bt562.1 = bt554.1 then (laws_FnExactBestClue.j0 k (bt562.2 != bt554.2) a0_0 a0_1 l0_2 bt556.1 bt556.2.1 bt556.2.2) else (laws_FnExactBestClue.j0 k true a0_0 a0_1 l0_2 bt556.1 bt556.2.1 bt556.2.2)))))))) = some r := h
  clear h
  replace H := Option.bind_eq_some_iff.mp H
  obtain ⟨t548, A20, H⟩ := H
  replace H : (if t548 < 0 then (some true) else ((laws_toPuzzle.f k a0_0 a0_1 l0_2).bind fun bt549 => ((spec_BestClue.f k bt549.1 bt549.2.1 bt549.2.2).bind fun bt554 => ((laws_toPuzzle.f k a0_0 a0_1 l0_2).bind fun bt556 => ((impl_BestClue.f k bt556.1 bt556.2.1 bt556.2.2).bind fun bt562 => (if bt562.1 = bt554.1 then (laws_FnExactBestClue.j0 k (bt562.2 != bt554.2) a0_0 a0_1 l0_2 bt556.1 bt556.2.1 bt556.2.2) else (laws_FnExactBestClue.j0 k true a0_0 a0_1 l0_2 bt556.1 bt556.2.1 bt556.2.2))))))) = some r := H
  have A2 := Aside0.mk A20
  clear A20
  by_cases c3 : t548 < 0
  · rw [if_pos c3] at H
    have c3b0 : decide (t548 < 0) = true := decide_eq_true c3
    clear c3
    obtain rfl := Option.some.inj H
    go_enter Try.func8, Try.ntmps8
    go_wp2_with (first | ((with_reducible refine gate_dst (N := 1) rfl ?_); refine box_event ?hg (N := 1) ?hd (cs := #[.int .i64 a0_0, .int .i64 a0_1, .slice A0_2 l0_2.length c0_2]) (t := 43) ?hr ?_; (case hd => rfl); (case hg => rfl); (case hr => first | (go_simp; done) | (go_simp; rfl)); intro gb547 hg w4 hbox hb; have n0_ := Aside0.mk (below_step (by repeat (first | (with_reducible first | exact HB.out | apply below_alloc | apply pw_below_drewN | apply below_drew1) | exact HB.out)) hb); have n1_ := Aside0.mk (hbox); have n2_ := Aside0.mk ((by rw [hg]; exact (below_size (by repeat (first | (with_reducible first | exact HB.out | apply below_alloc | apply pw_below_drewN | apply below_drew1) | exact HB.out))) : w.heap.size ≤ gb547)); have n3_ := Aside0.mk ((by rw [hg]; exact (below_size (by repeat (first | (with_reducible first | exact HB.out | apply below_alloc | apply pw_below_drewN | apply below_drew1) | exact HB.out))) : w.heap.size ≤ gb547)); clear HB; have HB := n0_; have BK547 := n1_; have GW547 := n2_; have GE547 := n3_; clear n0_ n1_ n2_ n3_; clear hb hbox hg; have hcz5_0 : w4.cell? ⟨gb547, 0, none⟩ = some (.int .i64 a0_0) := (blk_cell BK547.out 0).trans rfl; have hcz5_1 : w4.cell? ⟨gb547, 1, none⟩ = some (.int .i64 a0_1) := (blk_cell BK547.out 1).trans rfl; have hcz5_2 : w4.cell? ⟨gb547, 2, none⟩ = some (.slice A0_2 l0_2.length c0_2) := (blk_cell BK547.out 2).trans rfl; have hfz5_0 := blk_frozen BK547.out 0; have hfz5_1 := blk_frozen BK547.out 1; have hfz5_2 := blk_frozen BK547.out 2) | ((with_reducible refine gate_callee (f := 23) rfl ?_); refine goesL_ (some 11) rfl rfl Try.func23 (by kernel_rfl) rfl #[.agg #[.int .i64 a0_0, .int .i64 a0_1, .slice A0_2 l0_2.length c0_2], .int .i64 1048576] rfl (by (try simp only [List.map_toArray, List.map_cons, List.map_nil]); first | done | rfl | (simp only [List.length_drop, List.length_take]; rfl)) ?_; (with_reducible refine (laws_szPuzzle.calls a0_0 a0_1 _ _ l0_2 1048576 t548 _ ?side1 ?side2 A2.out).mono ?_); (case side1 => repeat (first | exact (Kd.C_below HR0_2.out HB.out) | (with_reducible refine Kd.C_alloc ?_ _) | (with_reducible refine Kd.C_drewN ?_ _) | (with_reducible refine Kd.C_drew ?_))); (case side2 => exact HC0_2.out); rintro e w6 ⟨rfl, hb⟩; refine ⟨_, rfl, ?_⟩; have n0_ := Aside0.mk (blk_below (g := gb547) (o := .cells #[.int .i64 a0_0, .int .i64 a0_1, .slice A0_2 l0_2.length c0_2] 43 (0, 0)) (by (with_reducible repeat (first | refine blk_drewN ?_ _ | refine blk_drew ?_ | refine blk_alloc ?_ _)); exact BK547.out) hb); have n1_ := Aside0.mk (below_step (by repeat (first | (with_reducible first | exact HB.out | apply below_alloc | apply pw_below_drewN | apply below_drew1 | refine below_set ?_ GE547.out) | exact HB.out)) hb); clear BK547; clear HB; have BK547 := n0_; have HB := n1_; clear n0_ n1_; (try clear hb); (try clear hb2); (try clear hk); (try clear hi)))
    go_ret
    exact ⟨by first | rfl | (simp [errW_none, errW_some] <;> rfl) | (simp [*, errW_none, errW_some] <;> rfl), by repeat (first | (with_reducible first | exact HB.out | apply below_alloc | apply pw_below_drewN | apply below_drew1 | refine below_set ?_ GE547.out) | exact HB.out)⟩
  · rw [if_neg c3] at H
    have c3b0 : decide (t548 < 0) = false := decide_eq_false c3
    clear c3
    replace H := Option.bind_eq_some_iff.mp H
    obtain ⟨⟨t549, t550, t551⟩, A70, H⟩ := H
    replace H : ((spec_BestClue.f k t549 t550 t551).bind fun bt554 => ((laws_toPuzzle.f k a0_0 a0_1 l0_2).bind fun bt556 => ((impl_BestClue.f k bt556.1 bt556.2.1 bt556.2.2).bind fun bt562 => (if bt562.1 = bt554.1 then (laws_FnExactBestClue.j0 k (bt562.2 != bt554.2) a0_0 a0_1 l0_2 bt556.1 bt556.2.1 bt556.2.2) else (laws_FnExactBestClue.j0 k true a0_0 a0_1 l0_2 bt556.1 bt556.2.1 bt556.2.2))))) = some r := H
    have A7 := Aside0.mk A70
    clear A70
    replace H := Option.bind_eq_some_iff.mp H
    obtain ⟨⟨t554, t555⟩, A80, H⟩ := H
    replace H : ((laws_toPuzzle.f k a0_0 a0_1 l0_2).bind fun bt556 => ((impl_BestClue.f k bt556.1 bt556.2.1 bt556.2.2).bind fun bt562 => (if bt562.1 = t554 then (laws_FnExactBestClue.j0 k (bt562.2 != t555) a0_0 a0_1 l0_2 bt556.1 bt556.2.1 bt556.2.2) else (laws_FnExactBestClue.j0 k true a0_0 a0_1 l0_2 bt556.1 bt556.2.1 bt556.2.2)))) = some r := H
    have A8 := Aside0.mk A80
    clear A80
    replace H := Option.bind_eq_some_iff.mp H
    obtain ⟨⟨t556, t557, t558⟩, A90, H⟩ := H
    replace H : ((impl_BestClue.f k t556 t557 t558).bind fun bt562 => (if bt562.1 = t554 then (laws_FnExactBestClue.j0 k (bt562.2 != t555) a0_0 a0_1 l0_2 t556 t557 t558) else (laws_FnExactBestClue.j0 k true a0_0 a0_1 l0_2 t556 t557 t558))) = some r := H
    have A9 := Aside0.mk A90
    clear A90
    replace H := Option.bind_eq_some_iff.mp H
    obtain ⟨⟨t562, t563⟩, A100, H⟩ := H
    replace H : (if t562 = t554 then (laws_FnExactBestClue.j0 k (t563 != t555) a0_0 a0_1 l0_2 t556 t557 t558) else (laws_FnExactBestClue.j0 k true a0_0 a0_1 l0_2 t556 t557 t558)) = some r := H
    have A10 := Aside0.mk A100
    clear A100
    have HC11 := Aside0.mk H
    clear H
    go_enter Try.func8, Try.ntmps8
    go_upto_region 8 with (first | ((with_reducible refine gate_dst (N := 1) rfl ?_); refine box_event ?hg (N := 1) ?hd (cs := #[.int .i64 a0_0, .int .i64 a0_1, .slice A0_2 l0_2.length c0_2]) (t := 43) ?hr ?_; (case hd => rfl); (case hg => rfl); (case hr => first | (go_simp; done) | (go_simp; rfl)); intro gb547 hg w12 hbox hb; have n0_ := Aside0.mk (below_step (by repeat (first | (with_reducible first | exact HB.out | apply below_alloc | apply pw_below_drewN | apply below_drew1) | exact HB.out)) hb); have n1_ := Aside0.mk (hbox); have n2_ := Aside0.mk ((by rw [hg]; exact (below_size (by repeat (first | (with_reducible first | exact HB.out | apply below_alloc | apply pw_below_drewN | apply below_drew1) | exact HB.out))) : w.heap.size ≤ gb547)); have n3_ := Aside0.mk ((by rw [hg]; exact (below_size (by repeat (first | (with_reducible first | exact HB.out | apply below_alloc | apply pw_below_drewN | apply below_drew1) | exact HB.out))) : w.heap.size ≤ gb547)); clear HB; have HB := n0_; have BK547 := n1_; have GW547 := n2_; have GE547 := n3_; clear n0_ n1_ n2_ n3_; clear hb hbox hg; have hcz13_0 : w12.cell? ⟨gb547, 0, none⟩ = some (.int .i64 a0_0) := (blk_cell BK547.out 0).trans rfl; have hcz13_1 : w12.cell? ⟨gb547, 1, none⟩ = some (.int .i64 a0_1) := (blk_cell BK547.out 1).trans rfl; have hcz13_2 : w12.cell? ⟨gb547, 2, none⟩ = some (.slice A0_2 l0_2.length c0_2) := (blk_cell BK547.out 2).trans rfl; have hfz13_0 := blk_frozen BK547.out 0; have hfz13_1 := blk_frozen BK547.out 1; have hfz13_2 := blk_frozen BK547.out 2) | ((with_reducible refine gate_callee (f := 23) rfl ?_); refine goesL_ (some 11) rfl rfl Try.func23 (by kernel_rfl) rfl #[.agg #[.int .i64 a0_0, .int .i64 a0_1, .slice A0_2 l0_2.length c0_2], .int .i64 1048576] rfl (by (try simp only [List.map_toArray, List.map_cons, List.map_nil]); first | done | rfl | (simp only [List.length_drop, List.length_take]; rfl)) ?_; (with_reducible refine (laws_szPuzzle.calls a0_0 a0_1 _ _ l0_2 1048576 t548 _ ?side1 ?side2 A2.out).mono ?_); (case side1 => repeat (first | exact (Kd.C_below HR0_2.out HB.out) | (with_reducible refine Kd.C_alloc ?_ _) | (with_reducible refine Kd.C_drewN ?_ _) | (with_reducible refine Kd.C_drew ?_))); (case side2 => exact HC0_2.out); rintro e w14 ⟨rfl, hb⟩; refine ⟨_, rfl, ?_⟩; have n0_ := Aside0.mk (blk_below (g := gb547) (o := .cells #[.int .i64 a0_0, .int .i64 a0_1, .slice A0_2 l0_2.length c0_2] 43 (0, 0)) (by (with_reducible repeat (first | refine blk_drewN ?_ _ | refine blk_drew ?_ | refine blk_alloc ?_ _)); exact BK547.out) hb); have n1_ := Aside0.mk (below_step (by repeat (first | (with_reducible first | exact HB.out | apply below_alloc | apply pw_below_drewN | apply below_drew1 | refine below_set ?_ GE547.out) | exact HB.out)) hb); clear BK547; clear HB; have BK547 := n0_; have HB := n1_; clear n0_ n1_; (try clear hb); (try clear hb2); (try clear hk); (try clear hi); have hcz15_0 : w14.cell? ⟨gb547, 0, none⟩ = some (.int .i64 a0_0) := (blk_cell BK547.out 0).trans rfl; have hcz15_1 : w14.cell? ⟨gb547, 1, none⟩ = some (.int .i64 a0_1) := (blk_cell BK547.out 1).trans rfl; have hcz15_2 : w14.cell? ⟨gb547, 2, none⟩ = some (.slice A0_2 l0_2.length c0_2) := (blk_cell BK547.out 2).trans rfl; have hfz15_0 := blk_frozen BK547.out 0; have hfz15_1 := blk_frozen BK547.out 1; have hfz15_2 := blk_frozen BK547.out 2) | ((with_reducible refine gate_callee (f := 25) rfl ?_); refine goesL_ (some 16) rfl rfl Try.func25 (by kernel_rfl) rfl #[.agg #[.int .i64 a0_0, .int .i64 a0_1, .slice A0_2 l0_2.length c0_2]] rfl (by (try simp only [List.map_toArray, List.map_cons, List.map_nil]); first | done | rfl | (simp only [List.length_drop, List.length_take]; rfl)) ?_; (with_reducible refine (laws_toPuzzle.calls k a0_0 a0_1 _ _ l0_2 t549 t550 t551 _ ?side1 ?side2 A7.out).mono ?_); (case side1 => repeat (first | exact (Kd.C_below HR0_2.out HB.out) | (with_reducible refine Kd.C_alloc ?_ _) | (with_reducible refine Kd.C_drewN ?_ _) | (with_reducible refine Kd.C_drew ?_))); (case side2 => exact HC0_2.out); rintro e w16 ⟨v552, rfl, ho0, hb⟩; refine ⟨_, rfl, ?_⟩; have n0_ := Aside0.mk (Kd.R_lower ho0 (below_size (by repeat (first | (with_reducible first | exact HB.out | apply below_alloc | apply pw_below_drewN | apply below_drew1 | refine below_set ?_ GE547.out) | exact HB.out)))); have n1_ := Aside0.mk (blk_below (g := gb547) (o := .cells #[.int .i64 a0_0, .int .i64 a0_1, .slice A0_2 l0_2.length c0_2] 43 (0, 0)) (by (with_reducible repeat (first | refine blk_drewN ?_ _ | refine blk_drew ?_ | refine blk_alloc ?_ _)); exact BK547.out) hb); have n2_ := Aside0.mk (below_step (by repeat (first | (with_reducible first | exact HB.out | apply below_alloc | apply pw_below_drewN | apply below_drew1 | refine below_set ?_ GE547.out) | exact HB.out)) hb); clear BK547; clear HB; have HO553 := n0_; have BK547 := n1_; have HB := n2_; clear n0_ n1_ n2_; (try clear hb); (try clear hb2); (try clear hk); (try clear hi); (try clear ho0); obtain ⟨Ao17, co17, eo17⟩ := Kd.R_slice HO553.out; subst eo17) | ((with_reducible refine gate_callee (f := 31) rfl ?_); refine goesL_ (some 17) rfl rfl Try.func31 (by kernel_rfl) rfl #[.agg #[.int .i64 t549, .int .i64 t550, .slice Ao17 t551.length co17]] rfl (by (try simp only [List.map_toArray, List.map_cons, List.map_nil]); first | done | rfl | (simp only [List.length_drop, List.length_take]; rfl)) ?_; (with_reducible refine (spec_BestClue.calls k t549 t550 _ _ t551 t554 t555 _ ?side1 ?side2 A8.out).mono ?_); (case side1 => repeat (first | exact (Kd.R_reads' HO553.out).2.2 | (with_reducible refine Kd.C_alloc ?_ _) | (with_reducible refine Kd.C_drewN ?_ _) | (with_reducible refine Kd.C_drew ?_))); (case side2 => exact (Kd.R_reads' HO553.out).2.1); rintro e w18 ⟨rfl, hb⟩; refine ⟨_, rfl, ?_⟩; have n0_ := Aside0.mk (Kd.R_below (by (with_reducible repeat (first | apply Kd.R_alloc | apply Kd.R_drewN | apply Kd.R_drew)); exact HO553.out) hb); have n1_ := Aside0.mk (blk_below (g := gb547) (o := .cells #[.int .i64 a0_0, .int .i64 a0_1, .slice A0_2 l0_2.length c0_2] 43 (0, 0)) (by (with_reducible repeat (first | refine blk_drewN ?_ _ | refine blk_drew ?_ | refine blk_alloc ?_ _)); exact BK547.out) hb); have n2_ := Aside0.mk (below_step (by repeat (first | (with_reducible first | exact HB.out | apply below_alloc | apply pw_below_drewN | apply below_drew1 | refine below_set ?_ GE547.out) | exact HB.out)) hb); clear HO553; clear BK547; clear HB; have HO553 := n0_; have BK547 := n1_; have HB := n2_; clear n0_ n1_ n2_; (try clear hb); (try clear hb2); (try clear hk); (try clear hi); have hcz19_0 : w18.cell? ⟨gb547, 0, none⟩ = some (.int .i64 a0_0) := (blk_cell BK547.out 0).trans rfl; have hcz19_1 : w18.cell? ⟨gb547, 1, none⟩ = some (.int .i64 a0_1) := (blk_cell BK547.out 1).trans rfl; have hcz19_2 : w18.cell? ⟨gb547, 2, none⟩ = some (.slice A0_2 l0_2.length c0_2) := (blk_cell BK547.out 2).trans rfl; have hfz19_0 := blk_frozen BK547.out 0; have hfz19_1 := blk_frozen BK547.out 1; have hfz19_2 := blk_frozen BK547.out 2) | ((with_reducible refine gate_callee (f := 25) rfl ?_); refine goesL_ (some 21) rfl rfl Try.func25 (by kernel_rfl) rfl #[.agg #[.int .i64 a0_0, .int .i64 a0_1, .slice A0_2 l0_2.length c0_2]] rfl (by (try simp only [List.map_toArray, List.map_cons, List.map_nil]); first | done | rfl | (simp only [List.length_drop, List.length_take]; rfl)) ?_; (with_reducible refine (laws_toPuzzle.calls k a0_0 a0_1 _ _ l0_2 t556 t557 t558 _ ?side1 ?side2 A9.out).mono ?_); (case side1 => repeat (first | exact (Kd.C_below HR0_2.out HB.out) | (with_reducible refine Kd.C_alloc ?_ _) | (with_reducible refine Kd.C_drewN ?_ _) | (with_reducible refine Kd.C_drew ?_))); (case side2 => exact HC0_2.out); rintro e w20 ⟨v559, rfl, ho0, hb⟩; refine ⟨_, rfl, ?_⟩; have n0_ := Aside0.mk (Kd.R_elder' (by (with_reducible repeat (first | apply Kd.R_alloc | apply Kd.R_drewN | apply Kd.R_drew)); exact HO553.out) (Kd.R_base ho0) hb); have n1_ := Aside0.mk (Kd.R_lower (Kd.R_new' ho0 (Kd.R_lt (by (with_reducible repeat (first | apply Kd.R_alloc | apply Kd.R_drewN | apply Kd.R_drew)); exact HO553.out))) (below_size (by repeat (first | (with_reducible first | exact HB.out | apply below_alloc | apply pw_below_drewN | apply below_drew1 | refine below_set ?_ GE547.out) | exact HB.out)))); have n2_ := Aside0.mk (blk_below (g := gb547) (o := .cells #[.int .i64 a0_0, .int .i64 a0_1, .slice A0_2 l0_2.length c0_2] 43 (0, 0)) (by (with_reducible repeat (first | refine blk_drewN ?_ _ | refine blk_drew ?_ | refine blk_alloc ?_ _)); exact BK547.out) hb); have n3_ := Aside0.mk (below_step (by repeat (first | (with_reducible first | exact HB.out | apply below_alloc | apply pw_below_drewN | apply below_drew1 | refine below_set ?_ GE547.out) | exact HB.out)) hb); clear HO553; clear BK547; clear HB; have HO553 := n0_; have HO560 := n1_; have BK547 := n2_; have HB := n3_; clear n0_ n1_ n2_ n3_; (try clear hb); (try clear hb2); (try clear hk); (try clear hi); (try clear ho0)) | ((with_reducible refine gate_dst (N := 6) rfl ?_); refine box_event ?hg (N := 6) ?hd (cs := #[.int .i64 0, .int .i64 0, .slice none 0 0]) (t := 35) ?hr ?_; (case hd => rfl); (case hg => rfl); (case hr => first | (go_simp; done) | (go_simp; rfl)); intro gb561 hg w21 hbox hb; have n0_ := Aside0.mk (Kd.R_below (by (with_reducible repeat (first | apply Kd.R_alloc | apply Kd.R_drewN | apply Kd.R_drew)); exact HO553.out) hb); have n1_ := Aside0.mk (Kd.R_below (by (with_reducible repeat (first | apply Kd.R_alloc | apply Kd.R_drewN | apply Kd.R_drew)); exact HO560.out) hb); have n2_ := Aside0.mk (blk_below (g := gb547) (o := .cells #[.int .i64 a0_0, .int .i64 a0_1, .slice A0_2 l0_2.length c0_2] 43 (0, 0)) (by (with_reducible repeat (first | refine blk_drewN ?_ _ | refine blk_drew ?_ | refine blk_alloc ?_ _)); exact BK547.out) hb); have n3_ := Aside0.mk (below_step (by repeat (first | (with_reducible first | exact HB.out | apply below_alloc | apply pw_below_drewN | apply below_drew1 | refine below_set ?_ GE547.out) | exact HB.out)) hb); have n4_ := Aside0.mk (hbox); have n5_ := Aside0.mk ((by rw [hg]; exact (below_size (by repeat (first | (with_reducible first | exact HB.out | apply below_alloc | apply pw_below_drewN | apply below_drew1 | refine below_set ?_ GE547.out) | exact HB.out))) : w.heap.size ≤ gb561)); have n6_ := Aside0.mk ((by rw [hg]; exact (below_size (by repeat (first | (with_reducible first | exact HB.out | apply below_alloc | apply pw_below_drewN | apply below_drew1 | refine below_set ?_ GE547.out) | exact HB.out))) : w.heap.size ≤ gb561)); have n7_ := Aside0.mk ((by rw [hg]; exact Nat.ne_of_lt (blk_lt (g := gb547) (o := .cells #[.int .i64 a0_0, .int .i64 a0_1, .slice A0_2 l0_2.length c0_2] 43 (0, 0)) (by (with_reducible repeat (first | refine blk_drewN ?_ _ | refine blk_drew ?_ | refine blk_alloc ?_ _)); exact BK547.out)) : gb547 ≠ gb561)); have n8_ := Aside0.mk ((by rw [hg]; exact Nat.ne_of_gt (blk_lt (g := gb547) (o := .cells #[.int .i64 a0_0, .int .i64 a0_1, .slice A0_2 l0_2.length c0_2] 43 (0, 0)) (by (with_reducible repeat (first | refine blk_drewN ?_ _ | refine blk_drew ?_ | refine blk_alloc ?_ _)); exact BK547.out)) : gb561 ≠ gb547)); clear HO553; clear HO560; clear BK547; clear HB; have HO553 := n0_; have HO560 := n1_; have BK547 := n2_; have HB := n3_; have BK561 := n4_; have GW561 := n5_; have GE561 := n6_; have NB547_561 := n7_; have NB561_547 := n8_; clear n0_ n1_ n2_ n3_ n4_ n5_ n6_ n7_ n8_; clear hb hbox hg; have hnb22 := NB561_547.out; have hnc22 := NB547_561.out; have hcz23_0 : w21.cell? ⟨gb561, 0, none⟩ = some (.int .i64 0) := (blk_cell BK561.out 0).trans rfl; have hcz23_1 : w21.cell? ⟨gb561, 1, none⟩ = some (.int .i64 0) := (blk_cell BK561.out 1).trans rfl; have hcz23_2 : w21.cell? ⟨gb561, 2, none⟩ = some (.slice none 0 0) := (blk_cell BK561.out 2).trans rfl; have hfz23_0 := blk_frozen BK561.out 0; have hfz23_1 := blk_frozen BK561.out 1; have hfz23_2 := blk_frozen BK561.out 2; obtain ⟨Ao24, co24, eo24⟩ := Kd.R_slice HO560.out; subst eo24) | ((with_reducible refine gate_callee (f := 32) rfl ?_); refine goesL_ (some 24) rfl rfl Try.func32 (by kernel_rfl) rfl #[.agg #[.int .i64 t556, .int .i64 t557, .slice Ao24 t558.length co24]] rfl (by (try simp only [List.map_toArray, List.map_cons, List.map_nil]); first | done | rfl | (simp only [List.length_drop, List.length_take]; rfl)) ?_; (with_reducible refine (impl_BestClue.calls k t556 t557 _ _ t558 t562 t563 _ ?side1 ?side2 A10.out).mono ?_); (case side1 => refine (Kd.R_reads' (e := 30) (base := w.heap.size) (ok := fun k_ => (True ∧ some k_ ≠ (.slice Ao17 t551.length co17 : Value).ownBlock)) (n := t558.length) (c := co24) ?_).2.2; exact (by (with_reducible repeat (first | apply Kd.R_alloc | apply Kd.R_drewN | apply Kd.R_drew)); exact (Kd.R_mono (Kd.R_far (p := ⟨gb561, 2, none⟩) (Kd.R_far (p := ⟨gb561, 1, none⟩) (Kd.R_far (p := ⟨gb561, 0, none⟩) (Kd.R_types HO560.out BK561.out (by decide)) (fun _ hk => hk.2) (.int .i64 t556)) (fun _ hk => hk.2) (.int .i64 t557)) (fun _ hk => hk.2) (.slice Ao24 t558.length co24)) (fun _ h_ => h_.1)))); (case side2 => exact (Kd.R_reads' HO560.out).2.1); rintro e w25 ⟨rfl, hb⟩; refine ⟨_, rfl, ?_⟩; have n0_ := Aside0.mk (Kd.R_below (by (with_reducible repeat (first | apply Kd.R_alloc | apply Kd.R_drewN | apply Kd.R_drew)); exact (Kd.R_mono (Kd.R_far (p := ⟨gb561, 2, none⟩) (Kd.R_far (p := ⟨gb561, 1, none⟩) (Kd.R_far (p := ⟨gb561, 0, none⟩) (Kd.R_types HO553.out BK561.out (by decide)) (fun _ hk => hk.2) (.int .i64 t556)) (fun _ hk => hk.2) (.int .i64 t557)) (fun _ hk => hk.2) (.slice Ao24 t558.length co24)) (fun _ h_ => h_.1))) hb); have n1_ := Aside0.mk (Kd.R_below (by (with_reducible repeat (first | apply Kd.R_alloc | apply Kd.R_drewN | apply Kd.R_drew)); exact (Kd.R_mono (Kd.R_far (p := ⟨gb561, 2, none⟩) (Kd.R_far (p := ⟨gb561, 1, none⟩) (Kd.R_far (p := ⟨gb561, 0, none⟩) (Kd.R_types HO560.out BK561.out (by decide)) (fun _ hk => hk.2) (.int .i64 t556)) (fun _ hk => hk.2) (.int .i64 t557)) (fun _ hk => hk.2) (.slice Ao24 t558.length co24)) (fun _ h_ => h_.1))) hb); have n2_ := Aside0.mk (blk_below (g := gb547) (o := .cells #[.int .i64 a0_0, .int .i64 a0_1, .slice A0_2 l0_2.length c0_2] 43 (0, 0)) (by (with_reducible repeat (first | refine blk_drewN ?_ _ | refine blk_drew ?_ | refine blk_alloc ?_ _)); refine blk_far ?_ NB547_561.out _; (with_reducible repeat (first | refine blk_drewN ?_ _ | refine blk_drew ?_ | refine blk_alloc ?_ _)); refine blk_far ?_ NB547_561.out _; (with_reducible repeat (first | refine blk_drewN ?_ _ | refine blk_drew ?_ | refine blk_alloc ?_ _)); refine blk_far ?_ NB547_561.out _; (with_reducible repeat (first | refine blk_drewN ?_ _ | refine blk_drew ?_ | refine blk_alloc ?_ _)); exact BK547.out) hb); have n3_ := Aside0.mk (blk_below (g := gb561) (o := .cells #[.int .i64 t556, .int .i64 t557, .slice Ao24 t558.length co24] 35 (0, 0)) (by (with_reducible repeat (first | refine blk_drewN ?_ _ | refine blk_drew ?_ | refine blk_alloc ?_ _)); refine blk_put (cs := #[.int .i64 t556, .int .i64 t557, .slice none 0 0]) ?_ 2 _ rfl; (with_reducible repeat (first | refine blk_drewN ?_ _ | refine blk_drew ?_ | refine blk_alloc ?_ _)); refine blk_put (cs := #[.int .i64 t556, .int .i64 0, .slice none 0 0]) ?_ 1 _ rfl; (with_reducible repeat (first | refine blk_drewN ?_ _ | refine blk_drew ?_ | refine blk_alloc ?_ _)); refine blk_put (cs := #[.int .i64 0, .int .i64 0, .slice none 0 0]) ?_ 0 _ rfl; (with_reducible repeat (first | refine blk_drewN ?_ _ | refine blk_drew ?_ | refine blk_alloc ?_ _)); exact BK561.out) hb); have n4_ := Aside0.mk (below_step (by repeat (first | (with_reducible first | exact HB.out | apply below_alloc | apply pw_below_drewN | apply below_drew1 | refine below_set ?_ GE547.out | refine below_set ?_ GE561.out) | exact HB.out)) hb); clear HO553; clear HO560; clear BK547; clear BK561; clear HB; have HO553 := n0_; have HO560 := n1_; have BK547 := n2_; have BK561 := n3_; have HB := n4_; clear n0_ n1_ n2_ n3_ n4_; (try clear hb); (try clear hb2); (try clear hk); (try clear hi)))
    (try simp only [Act.put, List.setIfInBounds_toArray, List.set_cons_zero, List.set_cons_succ])
    go_cut [34] (fun v34 wc => ∃ (kq : Nat) (x34_10 : Bool), v34 = .bool x34_10 ∧ Aside0 (laws_FnExactBestClue.j0 kq x34_10 a0_0 a0_1 l0_2 t556 t557 t558 = some r) ∧ Aside0 (kq ≤ k) ∧ Aside0 (Kd.R k30 30 wc w.heap.size (fun _ => True) (.slice Ao24 t558.length co24) t558) ∧ Aside0 (wc.heap[gb547]? = some (.cells #[.int .i64 a0_0, .int .i64 a0_1, (.slice A0_2 l0_2.length c0_2)] 43 (0, 0))) ∧ Aside0 (wc.heap[gb561]? = some (.cells #[.int .i64 t556, .int .i64 t557, (.slice Ao24 t558.length co24)] 35 (0, 0))) ∧ Aside0 (Below w.heap.size w wc))
    case first =>
      have H := HC11.out
      clear HC11
      by_cases c26 : t562 = t554
      · rw [if_pos c26] at H
        have c26b0 : (t562 == t554) = true := beq_iff_eq.mpr c26
        have c26b1 : (t562 != t554) = false := bne_eq_false_iff_eq.mpr c26
        clear c26
        (first | rw [c26b0] | (simp only [i64_w, i32_w]; rw [c26b0]) | skip)
        have H' := Aside0.mk H
        clear H
        go_wp2
        go_meet
        case rel => exact ⟨_, ((t563 != t555)), (by first | rfl | (simp; done) | (simp [*]; done)), H', ⟨by first | omega | exact Nat.le_refl _⟩, ⟨by (with_reducible repeat (first | apply Kd.R_alloc | apply Kd.R_drewN | apply Kd.R_drew)); exact Kd.R_mono HO560.out (fun _ hk => trivial)⟩, ⟨by (with_reducible repeat (first | refine blk_drewN ?_ _ | refine blk_drew ?_ | refine blk_alloc ?_ _)); exact BK547.out⟩, ⟨by (with_reducible repeat (first | refine blk_drewN ?_ _ | refine blk_drew ?_ | refine blk_alloc ?_ _)); exact BK561.out⟩, ⟨by repeat (first | (with_reducible first | exact HB.out | apply below_alloc | apply pw_below_drewN | apply below_drew1 | refine below_set ?_ GE547.out | refine below_set ?_ GE561.out) | exact HB.out)⟩⟩
      · rw [if_neg c26] at H
        have c26b0 : (t562 == t554) = false := beq_eq_false_iff_ne.mpr c26
        have c26b1 : (t562 != t554) = true := bne_iff_ne.mpr c26
        (first | rw [c26b0] | (simp only [i64_w, i32_w]; rw [c26b0]) | skip)
        have H' := Aside0.mk H
        clear H
        go_wp2
        go_meet
        case rel => exact ⟨_, (true), (by first | rfl | (simp; done) | (simp [*]; done)), H', ⟨by first | omega | exact Nat.le_refl _⟩, ⟨by (with_reducible repeat (first | apply Kd.R_alloc | apply Kd.R_drewN | apply Kd.R_drew)); exact Kd.R_mono HO560.out (fun _ hk => trivial)⟩, ⟨by (with_reducible repeat (first | refine blk_drewN ?_ _ | refine blk_drew ?_ | refine blk_alloc ?_ _)); exact BK547.out⟩, ⟨by (with_reducible repeat (first | refine blk_drewN ?_ _ | refine blk_drew ?_ | refine blk_alloc ?_ _)); exact BK561.out⟩, ⟨by repeat (first | (with_reducible first | exact HB.out | apply below_alloc | apply pw_below_drewN | apply below_drew1 | refine below_set ?_ GE547.out | refine below_set ?_ GE561.out) | exact HB.out)⟩⟩
    case rest =>
      clear HC11
      try clear c2; try clear p2; try clear c3; try clear c3b0; try clear c8; try clear c22; try clear c23; try clear c25; try clear c26; try clear c26b0; try clear c26b1; try clear hcz13_0; try clear hcz13_1; try clear hcz13_2; try clear hcz15_0; try clear hcz15_1; try clear hcz15_2; try clear hcz19_0; try clear hcz19_1; try clear hcz19_2; try clear hcz23_0; try clear hcz23_1; try clear hcz23_2; try clear hcz5_0; try clear hcz5_1; try clear hcz5_2; try clear hfz13_0; try clear hfz13_1; try clear hfz13_2; try clear hfz15_0; try clear hfz15_1; try clear hfz15_2; try clear hfz19_0; try clear hfz19_1; try clear hfz19_2; try clear hfz23_0; try clear hfz23_1; try clear hfz23_2; try clear hfz5_0; try clear hfz5_1; try clear hfz5_2
      obtain ⟨kq, x34_10, rfl, HA, HJ10, HO_562002, BK547, BK561, HB⟩ := hcut
      cases kq with
      | zero => exact absurd HA.out (by simp [laws_FnExactBestClue.j0])
      | succ kj10 =>
        have H := HA.out
        clear HA
        simp only [laws_FnExactBestClue.j0] at H
        by_cases c27 : x34_10 = true
        · subst c27
          have H1 : (some false) = some r := by rw [if_pos rfl] at H; exact H
          clear H
          have H := H1
          clear H1
          obtain rfl := Option.some.inj H
          go_wp2
          go_ret
          exact ⟨by first | rfl | (simp [errW_none, errW_some] <;> rfl) | (simp [*, errW_none, errW_some] <;> rfl), by repeat (first | (with_reducible first | exact HB.out | apply below_alloc | apply pw_below_drewN | apply below_drew1 | refine below_set ?_ GE547.out | refine below_set ?_ GE561.out) | exact HB.out)⟩
        · replace c27 := Bool.eq_false_iff.mpr c27
          subst c27
          have H1 : ((laws_toPuzzle.f kj10 a0_0 a0_1 l0_2).bind fun bt564 => ((laws_eqPuzzle.f kj10 t556 t557 t558 bt564.1 bt564.2.1 bt564.2.2).bind fun t569 => (if t569 = true then (some true) else (some false)))) = some r := by rw [if_neg (show ¬ (false = true) by decide)] at H; exact H
          clear H
          have H := H1
          clear H1
          replace H := Option.bind_eq_some_iff.mp H
          obtain ⟨⟨t564, t565, t566⟩, A280, H⟩ := H
          replace H : ((laws_eqPuzzle.f kj10 t556 t557 t558 t564 t565 t566).bind fun t569 => (if t569 = true then (some true) else (some false))) = some r := H
          have A28 := Aside0.mk A280
          clear A280
          replace H := Option.bind_eq_some_iff.mp H
          obtain ⟨t569, A290, H⟩ := H
          replace H : (if t569 = true then (some true) else (some false)) = some r := H
          have A29 := Aside0.mk A290
          clear A290
          by_cases c30 : t569 = true
          · subst c30
            have H1 : (some true) = some r := by rw [if_pos rfl] at H; exact H
            clear H
            have H := H1
            clear H1
            obtain rfl := Option.some.inj H
            try go_wp2
            have n0_ := Aside0.mk (Kd.R_drew HO_562002.out)
            have n1_ := Aside0.mk (blk_drew BK547.out)
            have n2_ := Aside0.mk (blk_drew BK561.out)
            have n3_ := Aside0.mk (below_drew1 HB.out)
            clear HO_562002
            clear BK547
            clear BK561
            clear HB
            have HO_562002 := n0_
            have BK547 := n1_
            have BK561 := n2_
            have HB := n3_
            clear n0_ n1_ n2_ n3_
            refine start_ (n := 5) (S := fun w' => w'.cell? ⟨gb561, 0, none⟩ = some (.int .i64 t556) ∧ w'.cell? ⟨gb561, 1, none⟩ = some (.int .i64 t557) ∧ w'.cell? ⟨gb561, 2, none⟩ = some (.slice Ao24 t558.length co24) ∧ w'.cell? ⟨gb547, 0, none⟩ = some (.int .i64 a0_0) ∧ w'.cell? ⟨gb547, 1, none⟩ = some (.int .i64 a0_1) ∧ w'.cell? ⟨gb547, 2, none⟩ = some (.slice A0_2 l0_2.length c0_2)) (ds := []) #[false, false, false, false, false] (by kernel_rfl) rfl rfl ⟨(blk_cell BK561.out 0).trans rfl, (blk_cell BK561.out 1).trans rfl, (blk_cell BK561.out 2).trans rfl, (blk_cell BK547.out 0).trans rfl, (blk_cell BK547.out 1).trans rfl, (blk_cell BK547.out 2).trans rfl⟩ (fun hHeld => ?_)
            generalize wc.drew = w31 at HO_562002 BK547 BK561 HB hHeld ⊢
            refine take_ (i := 0) (N := some 35) (v := ?_) (a' := ?_) #[true, false, false, false, false] rfl rfl (by kernel_rfl) (fun _ _ _ h => h) (Or.inl ⟨by rfl, ?_⟩) hHeld ?_ ?_
            rotate_left
            · rintro w' ⟨s0, s1, s2, s3, s4, s5⟩
              go_simp
              with_reducible rfl
            rotate_left
            · simp only [Act.put, List.setIfInBounds_toArray, List.set_cons_zero, List.set_cons_succ, i64_w, i32_w]
              rfl
            refine take_ (i := 1) (N := some 36) (v := ?_) (a' := ?_) #[true, true, false, false, false] rfl rfl (by kernel_rfl) (fun _ _ _ h => h) (Or.inl ⟨by rfl, ?_⟩) hHeld ?_ ?_
            rotate_left
            · rintro w' ⟨s0, s1, s2, s3, s4, s5⟩
              go_simp
              with_reducible rfl
            rotate_left
            · simp only [Act.put, List.setIfInBounds_toArray, List.set_cons_zero, List.set_cons_succ, i64_w, i32_w]
              rfl
            refine one_ (i := 2) (N := some 37) #[true, true, true, false, false] rfl rfl (by kernel_rfl) (by decide) (fun K hK => ?_)
            refine goes_ Try.func25 (by kernel_rfl) rfl #[.agg #[.int .i64 a0_0, .int .i64 a0_1, .slice A0_2 l0_2.length c0_2]] (by rfl) rfl rfl (by (try simp only [List.map_toArray, List.map_cons, List.map_nil]); first | done | rfl | (simp only [List.length_drop, List.length_take]; rfl)) ?_
            with_reducible refine (laws_toPuzzle.calls kj10 a0_0 a0_1 _ _ l0_2 t564 t565 t566 _ ?side1 ?side2 A28.out).mono ?_
            (case side1 => repeat (first | exact (Kd.C_below HR0_2.out HB.out) | (with_reducible refine Kd.C_alloc ?_ _) | (with_reducible refine Kd.C_drewN ?_ _) | (with_reducible refine Kd.C_drew ?_)))
            (case side2 => exact HC0_2.out)
            rintro e w32 ⟨v567, rfl, ho0, hb⟩
            refine ⟨_, rfl, ?_⟩
            have n0_ := Aside0.mk (Kd.R_elder' (by (with_reducible repeat (first | apply Kd.R_alloc | apply Kd.R_drewN | apply Kd.R_drew)); exact HO_562002.out) (Kd.R_base ho0) hb)
            have n1_ := Aside0.mk (Kd.R_lower (Kd.R_new' ho0 (Kd.R_lt (by (with_reducible repeat (first | apply Kd.R_alloc | apply Kd.R_drewN | apply Kd.R_drew)); exact HO_562002.out))) (below_size (by repeat (first | (with_reducible first | exact HB.out | apply below_alloc | apply pw_below_drewN | apply below_drew1 | refine below_set ?_ GE547.out | refine below_set ?_ GE561.out) | exact HB.out))))
            have n2_ := Aside0.mk (blk_below (g := gb547) (o := .cells #[.int .i64 a0_0, .int .i64 a0_1, .slice A0_2 l0_2.length c0_2] 43 (0, 0)) (by (with_reducible repeat (first | refine blk_drewN ?_ _ | refine blk_drew ?_ | refine blk_alloc ?_ _)); exact BK547.out) hb)
            have n3_ := Aside0.mk (blk_below (g := gb561) (o := .cells #[.int .i64 t556, .int .i64 t557, .slice Ao24 t558.length co24] 35 (0, 0)) (by (with_reducible repeat (first | refine blk_drewN ?_ _ | refine blk_drew ?_ | refine blk_alloc ?_ _)); exact BK561.out) hb)
            have n4_ := Aside0.mk (below_step (by repeat (first | (with_reducible first | exact HB.out | apply below_alloc | apply pw_below_drewN | apply below_drew1 | refine below_set ?_ GE547.out | refine below_set ?_ GE561.out) | exact HB.out)) hb)
            clear HO_562002
            clear BK547
            clear BK561
            clear HB
            have HO_562002 := n0_
            have HO568 := n1_
            have BK547 := n2_
            have BK561 := n3_
            have HB := n4_
            clear n0_ n1_ n2_ n3_ n4_
            (try clear hb)
            (try clear hb2)
            (try clear hk)
            (try clear hi)
            (try clear ho0)
            obtain ⟨Ao33, co33, eo33⟩ := Kd.R_slice HO568.out
            (first | subst eo33 | (injection eo33 with f1_ f2_ f3_; have f4_ := f1_.symm; have f5_ := f3_.symm; clear f1_ f2_ f3_; subst f4_; subst f5_))
            refine hK.out _ _ ⟨(blk_cell BK561.out 0).trans rfl, (blk_cell BK561.out 1).trans rfl, (blk_cell BK561.out 2).trans rfl, (blk_cell BK547.out 0).trans rfl, (blk_cell BK547.out 1).trans rfl, (blk_cell BK547.out 2).trans rfl⟩ (fun hHeld => ?_)
            clear hK K
            refine norm_ (a' := ?_) ?_ ?_
            rotate_left
            · show Act.put _ (some 37) _ = _
              simp only [Act.put, List.setIfInBounds_toArray, List.set_cons_zero, List.set_cons_succ, i64_w, i32_w]
              rfl
            refine one_ (i := 3) (N := some 38) #[true, true, true, true, false] rfl rfl (by kernel_rfl) (by decide) (fun K hK => ?_)
            refine goes_ Try.func20 (by kernel_rfl) rfl #[.agg #[.int .i64 t556, .int .i64 t557, .slice Ao24 t558.length co24], .agg #[.int .i64 t564, .int .i64 t565, .slice Ao33 t566.length co33]] (by rfl) rfl rfl (by (try simp only [List.map_toArray, List.map_cons, List.map_nil]); first | done | rfl | (simp only [List.length_drop, List.length_take]; rfl)) ?_
            with_reducible refine (laws_eqPuzzle.calls kj10 t556 t557 _ _ t558 t564 t565 _ _ t566 true _ ?side1 ?side2 ?side3 ?side4 A29.out).mono ?_
            (case side1 => repeat (first | exact (Kd.R_reads' HO_562002.out).2.2 | (with_reducible refine Kd.C_alloc ?_ _) | (with_reducible refine Kd.C_drewN ?_ _) | (with_reducible refine Kd.C_drew ?_)))
            (case side2 => exact (Kd.R_reads' HO_562002.out).2.1)
            (case side3 => repeat (first | exact (Kd.R_reads' HO568.out).2.2 | (with_reducible refine Kd.C_alloc ?_ _) | (with_reducible refine Kd.C_drewN ?_ _) | (with_reducible refine Kd.C_drew ?_)))
            (case side4 => exact (Kd.R_reads' HO568.out).2.1)
            rintro e w34 ⟨rfl, hb⟩
            refine ⟨_, rfl, ?_⟩
            have n0_ := Aside0.mk (Kd.R_below (by (with_reducible repeat (first | apply Kd.R_alloc | apply Kd.R_drewN | apply Kd.R_drew)); exact HO_562002.out) hb)
            have n1_ := Aside0.mk (Kd.R_below (by (with_reducible repeat (first | apply Kd.R_alloc | apply Kd.R_drewN | apply Kd.R_drew)); exact HO568.out) hb)
            have n2_ := Aside0.mk (blk_below (g := gb547) (o := .cells #[.int .i64 a0_0, .int .i64 a0_1, .slice A0_2 l0_2.length c0_2] 43 (0, 0)) (by (with_reducible repeat (first | refine blk_drewN ?_ _ | refine blk_drew ?_ | refine blk_alloc ?_ _)); exact BK547.out) hb)
            have n3_ := Aside0.mk (blk_below (g := gb561) (o := .cells #[.int .i64 t556, .int .i64 t557, .slice Ao24 t558.length co24] 35 (0, 0)) (by (with_reducible repeat (first | refine blk_drewN ?_ _ | refine blk_drew ?_ | refine blk_alloc ?_ _)); exact BK561.out) hb)
            have n4_ := Aside0.mk (below_step (by repeat (first | (with_reducible first | exact HB.out | apply below_alloc | apply pw_below_drewN | apply below_drew1 | refine below_set ?_ GE547.out | refine below_set ?_ GE561.out) | exact HB.out)) hb)
            clear HO_562002
            clear HO568
            clear BK547
            clear BK561
            clear HB
            have HO_562002 := n0_
            have HO568 := n1_
            have BK547 := n2_
            have BK561 := n3_
            have HB := n4_
            clear n0_ n1_ n2_ n3_ n4_
            (try clear hb)
            (try clear hb2)
            (try clear hk)
            (try clear hi)
            refine hK.out _ _ ⟨(blk_cell BK561.out 0).trans rfl, (blk_cell BK561.out 1).trans rfl, (blk_cell BK561.out 2).trans rfl, (blk_cell BK547.out 0).trans rfl, (blk_cell BK547.out 1).trans rfl, (blk_cell BK547.out 2).trans rfl⟩ (fun hHeld => ?_)
            clear hK K
            refine norm_ (a' := ?_) ?_ ?_
            rotate_left
            · show Act.put _ (some 38) _ = _
              simp only [Act.put, List.setIfInBounds_toArray, List.set_cons_zero, List.set_cons_succ, i64_w, i32_w]
              rfl
            refine pure_ (i := 4) (N := some 39) (v := ?_) (a' := ?_) #[true, true, true, true, true] rfl rfl (by kernel_rfl) (fun _ _ _ h => h) (Or.inl ⟨by rfl, ?_⟩) ?_ ?_
            rotate_left
            · intro w'
              go_simp
              with_reducible rfl
            rotate_left
            · simp only [Act.put, List.setIfInBounds_toArray, List.set_cons_zero, List.set_cons_succ, i64_w, i32_w]
              rfl
            refine done_ (by kernel_rfl) ?_
            try go_wp2
            go_ret
            exact ⟨by first | rfl | (simp [errW_none, errW_some] <;> rfl) | (simp [*, errW_none, errW_some] <;> rfl), by repeat (first | (with_reducible first | exact HB.out | apply below_alloc | apply pw_below_drewN | apply below_drew1 | refine below_set ?_ GE547.out | refine below_set ?_ GE561.out) | exact HB.out)⟩
          · replace c30 := Bool.eq_false_iff.mpr c30
            subst c30
            have H1 : (some false) = some r := by rw [if_neg (show ¬ (false = true) by decide)] at H; exact H
            clear H
            have H := H1
            clear H1
            obtain rfl := Option.some.inj H
            try go_wp2
            have n0_ := Aside0.mk (Kd.R_drew HO_562002.out)
            have n1_ := Aside0.mk (blk_drew BK547.out)
            have n2_ := Aside0.mk (blk_drew BK561.out)
            have n3_ := Aside0.mk (below_drew1 HB.out)
            clear HO_562002
            clear BK547
            clear BK561
            clear HB
            have HO_562002 := n0_
            have BK547 := n1_
            have BK561 := n2_
            have HB := n3_
            clear n0_ n1_ n2_ n3_
            refine start_ (n := 5) (S := fun w' => w'.cell? ⟨gb561, 0, none⟩ = some (.int .i64 t556) ∧ w'.cell? ⟨gb561, 1, none⟩ = some (.int .i64 t557) ∧ w'.cell? ⟨gb561, 2, none⟩ = some (.slice Ao24 t558.length co24) ∧ w'.cell? ⟨gb547, 0, none⟩ = some (.int .i64 a0_0) ∧ w'.cell? ⟨gb547, 1, none⟩ = some (.int .i64 a0_1) ∧ w'.cell? ⟨gb547, 2, none⟩ = some (.slice A0_2 l0_2.length c0_2)) (ds := []) #[false, false, false, false, false] (by kernel_rfl) rfl rfl ⟨(blk_cell BK561.out 0).trans rfl, (blk_cell BK561.out 1).trans rfl, (blk_cell BK561.out 2).trans rfl, (blk_cell BK547.out 0).trans rfl, (blk_cell BK547.out 1).trans rfl, (blk_cell BK547.out 2).trans rfl⟩ (fun hHeld => ?_)
            generalize wc.drew = w35 at HO_562002 BK547 BK561 HB hHeld ⊢
            refine take_ (i := 0) (N := some 35) (v := ?_) (a' := ?_) #[true, false, false, false, false] rfl rfl (by kernel_rfl) (fun _ _ _ h => h) (Or.inl ⟨by rfl, ?_⟩) hHeld ?_ ?_
            rotate_left
            · rintro w' ⟨s0, s1, s2, s3, s4, s5⟩
              go_simp
              with_reducible rfl
            rotate_left
            · simp only [Act.put, List.setIfInBounds_toArray, List.set_cons_zero, List.set_cons_succ, i64_w, i32_w]
              rfl
            refine take_ (i := 1) (N := some 36) (v := ?_) (a' := ?_) #[true, true, false, false, false] rfl rfl (by kernel_rfl) (fun _ _ _ h => h) (Or.inl ⟨by rfl, ?_⟩) hHeld ?_ ?_
            rotate_left
            · rintro w' ⟨s0, s1, s2, s3, s4, s5⟩
              go_simp
              with_reducible rfl
            rotate_left
            · simp only [Act.put, List.setIfInBounds_toArray, List.set_cons_zero, List.set_cons_succ, i64_w, i32_w]
              rfl
            refine one_ (i := 2) (N := some 37) #[true, true, true, false, false] rfl rfl (by kernel_rfl) (by decide) (fun K hK => ?_)
            refine goes_ Try.func25 (by kernel_rfl) rfl #[.agg #[.int .i64 a0_0, .int .i64 a0_1, .slice A0_2 l0_2.length c0_2]] (by rfl) rfl rfl (by (try simp only [List.map_toArray, List.map_cons, List.map_nil]); first | done | rfl | (simp only [List.length_drop, List.length_take]; rfl)) ?_
            with_reducible refine (laws_toPuzzle.calls kj10 a0_0 a0_1 _ _ l0_2 t564 t565 t566 _ ?side1 ?side2 A28.out).mono ?_
            (case side1 => repeat (first | exact (Kd.C_below HR0_2.out HB.out) | (with_reducible refine Kd.C_alloc ?_ _) | (with_reducible refine Kd.C_drewN ?_ _) | (with_reducible refine Kd.C_drew ?_)))
            (case side2 => exact HC0_2.out)
            rintro e w36 ⟨v567, rfl, ho0, hb⟩
            refine ⟨_, rfl, ?_⟩
            have n0_ := Aside0.mk (Kd.R_elder' (by (with_reducible repeat (first | apply Kd.R_alloc | apply Kd.R_drewN | apply Kd.R_drew)); exact HO_562002.out) (Kd.R_base ho0) hb)
            have n1_ := Aside0.mk (Kd.R_lower (Kd.R_new' ho0 (Kd.R_lt (by (with_reducible repeat (first | apply Kd.R_alloc | apply Kd.R_drewN | apply Kd.R_drew)); exact HO_562002.out))) (below_size (by repeat (first | (with_reducible first | exact HB.out | apply below_alloc | apply pw_below_drewN | apply below_drew1 | refine below_set ?_ GE547.out | refine below_set ?_ GE561.out) | exact HB.out))))
            have n2_ := Aside0.mk (blk_below (g := gb547) (o := .cells #[.int .i64 a0_0, .int .i64 a0_1, .slice A0_2 l0_2.length c0_2] 43 (0, 0)) (by (with_reducible repeat (first | refine blk_drewN ?_ _ | refine blk_drew ?_ | refine blk_alloc ?_ _)); exact BK547.out) hb)
            have n3_ := Aside0.mk (blk_below (g := gb561) (o := .cells #[.int .i64 t556, .int .i64 t557, .slice Ao24 t558.length co24] 35 (0, 0)) (by (with_reducible repeat (first | refine blk_drewN ?_ _ | refine blk_drew ?_ | refine blk_alloc ?_ _)); exact BK561.out) hb)
            have n4_ := Aside0.mk (below_step (by repeat (first | (with_reducible first | exact HB.out | apply below_alloc | apply pw_below_drewN | apply below_drew1 | refine below_set ?_ GE547.out | refine below_set ?_ GE561.out) | exact HB.out)) hb)
            clear HO_562002
            clear BK547
            clear BK561
            clear HB
            have HO_562002 := n0_
            have HO568 := n1_
            have BK547 := n2_
            have BK561 := n3_
            have HB := n4_
            clear n0_ n1_ n2_ n3_ n4_
            (try clear hb)
            (try clear hb2)
            (try clear hk)
            (try clear hi)
            (try clear ho0)
            obtain ⟨Ao37, co37, eo37⟩ := Kd.R_slice HO568.out
            (first | subst eo37 | (injection eo37 with f1_ f2_ f3_; have f4_ := f1_.symm; have f5_ := f3_.symm; clear f1_ f2_ f3_; subst f4_; subst f5_))
            refine hK.out _ _ ⟨(blk_cell BK561.out 0).trans rfl, (blk_cell BK561.out 1).trans rfl, (blk_cell BK561.out 2).trans rfl, (blk_cell BK547.out 0).trans rfl, (blk_cell BK547.out 1).trans rfl, (blk_cell BK547.out 2).trans rfl⟩ (fun hHeld => ?_)
            clear hK K
            refine norm_ (a' := ?_) ?_ ?_
            rotate_left
            · show Act.put _ (some 37) _ = _
              simp only [Act.put, List.setIfInBounds_toArray, List.set_cons_zero, List.set_cons_succ, i64_w, i32_w]
              rfl
            refine one_ (i := 3) (N := some 38) #[true, true, true, true, false] rfl rfl (by kernel_rfl) (by decide) (fun K hK => ?_)
            refine goes_ Try.func20 (by kernel_rfl) rfl #[.agg #[.int .i64 t556, .int .i64 t557, .slice Ao24 t558.length co24], .agg #[.int .i64 t564, .int .i64 t565, .slice Ao37 t566.length co37]] (by rfl) rfl rfl (by (try simp only [List.map_toArray, List.map_cons, List.map_nil]); first | done | rfl | (simp only [List.length_drop, List.length_take]; rfl)) ?_
            with_reducible refine (laws_eqPuzzle.calls kj10 t556 t557 _ _ t558 t564 t565 _ _ t566 false _ ?side1 ?side2 ?side3 ?side4 A29.out).mono ?_
            (case side1 => repeat (first | exact (Kd.R_reads' HO_562002.out).2.2 | (with_reducible refine Kd.C_alloc ?_ _) | (with_reducible refine Kd.C_drewN ?_ _) | (with_reducible refine Kd.C_drew ?_)))
            (case side2 => exact (Kd.R_reads' HO_562002.out).2.1)
            (case side3 => repeat (first | exact (Kd.R_reads' HO568.out).2.2 | (with_reducible refine Kd.C_alloc ?_ _) | (with_reducible refine Kd.C_drewN ?_ _) | (with_reducible refine Kd.C_drew ?_)))
            (case side4 => exact (Kd.R_reads' HO568.out).2.1)
            rintro e w38 ⟨rfl, hb⟩
            refine ⟨_, rfl, ?_⟩
            have n0_ := Aside0.mk (Kd.R_below (by (with_reducible repeat (first | apply Kd.R_alloc | apply Kd.R_drewN | apply Kd.R_drew)); exact HO_562002.out) hb)
            have n1_ := Aside0.mk (Kd.R_below (by (with_reducible repeat (first | apply Kd.R_alloc | apply Kd.R_drewN | apply Kd.R_drew)); exact HO568.out) hb)
            have n2_ := Aside0.mk (blk_below (g := gb547) (o := .cells #[.int .i64 a0_0, .int .i64 a0_1, .slice A0_2 l0_2.length c0_2] 43 (0, 0)) (by (with_reducible repeat (first | refine blk_drewN ?_ _ | refine blk_drew ?_ | refine blk_alloc ?_ _)); exact BK547.out) hb)
            have n3_ := Aside0.mk (blk_below (g := gb561) (o := .cells #[.int .i64 t556, .int .i64 t557, .slice Ao24 t558.length co24] 35 (0, 0)) (by (with_reducible repeat (first | refine blk_drewN ?_ _ | refine blk_drew ?_ | refine blk_alloc ?_ _)); exact BK561.out) hb)
            have n4_ := Aside0.mk (below_step (by repeat (first | (with_reducible first | exact HB.out | apply below_alloc | apply pw_below_drewN | apply below_drew1 | refine below_set ?_ GE547.out | refine below_set ?_ GE561.out) | exact HB.out)) hb)
            clear HO_562002
            clear HO568
            clear BK547
            clear BK561
            clear HB
            have HO_562002 := n0_
            have HO568 := n1_
            have BK547 := n2_
            have BK561 := n3_
            have HB := n4_
            clear n0_ n1_ n2_ n3_ n4_
            (try clear hb)
            (try clear hb2)
            (try clear hk)
            (try clear hi)
            refine hK.out _ _ ⟨(blk_cell BK561.out 0).trans rfl, (blk_cell BK561.out 1).trans rfl, (blk_cell BK561.out 2).trans rfl, (blk_cell BK547.out 0).trans rfl, (blk_cell BK547.out 1).trans rfl, (blk_cell BK547.out 2).trans rfl⟩ (fun hHeld => ?_)
            clear hK K
            refine norm_ (a' := ?_) ?_ ?_
            rotate_left
            · show Act.put _ (some 38) _ = _
              simp only [Act.put, List.setIfInBounds_toArray, List.set_cons_zero, List.set_cons_succ, i64_w, i32_w]
              rfl
            refine pure_ (i := 4) (N := some 39) (v := ?_) (a' := ?_) #[true, true, true, true, true] rfl rfl (by kernel_rfl) (fun _ _ _ h => h) (Or.inl ⟨by rfl, ?_⟩) ?_ ?_
            rotate_left
            · intro w'
              go_simp
              with_reducible rfl
            rotate_left
            · simp only [Act.put, List.setIfInBounds_toArray, List.set_cons_zero, List.set_cons_succ, i64_w, i32_w]
              rfl
            refine done_ (by kernel_rfl) ?_
            try go_wp2
            go_ret
            exact ⟨by first | rfl | (simp [errW_none, errW_some] <;> rfl) | (simp [*, errW_none, errW_some] <;> rfl), by repeat (first | (with_reducible first | exact HB.out | apply below_alloc | apply pw_below_drewN | apply below_drew1 | refine below_set ?_ GE547.out | refine below_set ?_ GE561.out) | exact HB.out)⟩
end Go.Proofs.Ytagiekcfnmhgjaa.P

namespace Go.Proofs.Ytagiekcfnmhgjaa.P
open Go.RowKit Go.Proofs.YtagiekcfnmhgjaaW.PrintWords Go.Proofs.YtagiekcfnmhgjaaW.PrintLast Go.Proofs.YtagiekcfnmhgjaaW.PrintMore
attribute [local go_sem] max2_int min2_int max_two min_two max_three min_three max_four min_four   -- for this text's walks alone
set_option linter.unusedVariables false
set_option linter.unusedSimpArgs false

/-! Codes of a lock as texts, their digits, what clues tell of them. -/
def codeS (w d : Int) (s : ByteArray) : Prop := s.size = w.toNat ∧ ∀ i < s.size, 48 ≤ bt s (i : Nat) ∧ bt s (i : Nat) < 48 + d
def dg (s : ByteArray) : List Int := (List.range s.size).map fun i => bt s (i : Nat) - 48
theorem dg_length (s : ByteArray) : (dg s).length = s.size := by simp [dg]
theorem dg_at {s : ByteArray} {i : Nat} (h : i < s.size) : rd (dg s) (i : Nat) = bt s (i : Nat) - 48 := by
  rw [rd_at (by simpa [dg] using h)]; simp [dg]
theorem bt_textB {D : List Int} (h : ∀ x ∈ D, 0 ≤ x ∧ x < 10) {i : Nat} (hi : i < D.length) : bt (textB D) (i : Nat) = 48 + D[i] := by
  have hx := h D[i] (List.getElem_mem hi)
  have hs : (textB D).size = D.length := by unfold textB; rw [strOfNums_size, List.length_map]
  unfold bt
  rw [dif_pos (by rw [hs]; simpa using hi)]
  have e1 : ((textB D)[(i : Int).toNat]'(by rw [hs]; simpa using hi)) = UInt8.ofNat (wrap64 (48 + D[i]) % 256).toNat := by
    show (textB D).data[(i : Int).toNat]'_ = _
    have : (textB D).data = ((D.map fun x => wrap64 (48 + x) % 256).map fun n => UInt8.ofNat n.toNat).toArray := rfl
    simp [this]
  rw [e1, w64 (by omega) (by omega)]
  simp
  omega
theorem codeB_code {w d a : Int} (hl : lockB w d = true) : codeS w d (codeB w d a) := by
  obtain ⟨w1, w2, d1, d2⟩ := lockB_iff.mp hl
  have hs : (codeB w d a).size = w.toNat := by unfold codeB textB; rw [strOfNums_size, List.length_map, digs_length]
  refine ⟨hs, fun i hi => ?_⟩
  have hr := digs_range (d := d) (by omega) w.toNat a
  unfold codeB
  rw [bt_textB (fun x hx => by have := hr x hx; omega) (by rw [digs_length, ← hs]; exact hi)]
  have := hr _ (List.getElem_mem (by rw [digs_length, ← hs]; exact hi) : (digs d w.toNat a)[i]'(by rw [digs_length, ← hs]; exact hi) ∈ _)
  omega
def sumF : Int → List Int → Int
  | acc, [] => acc
  | acc, x :: xs => sumF (wrap64 (acc + x)) xs
def numF (d : Int) : Int → List Int → Int
  | acc, [] => acc
  | acc, x :: xs => numF d (wrap64 (wrap64 (acc * d) + x)) xs
def turnV (d x y : Int) : Int := Int.tmod (wrap64 (Int.tmod (wrap64 (y - x)) d + d)) d
def nearV (d x y : Int) : Int := lst (turnV d x y) (Int.tmod (wrap64 (d - turnV d x y)) d)
def distF (d : Int) (s t : ByteArray) : Nat → Int
  | 0 => 0
  | i + 1 => wrap64 (distF d s t i + nearV d (bt s (i : Nat)) (bt t (i : Nat)))
def valV (w d k a : Int) (s : ByteArray) : Int :=
  if k = 0 then bt s a - 48 else if k = 1 then sumF 0 (dg s) else if k = 2 then plN (codeB w d a) s w.toNat
  else if k = 3 then distF d (codeB w d a) s w.toNat else Int.tmod (numF d 0 (dg s)) a
def fitV (w d : Int) (c : Int × Int × Int) (s : ByteArray) : Bool := if c.1 = 1 then decide (valV w d 1 0 s = c.2.1) else decide (valV w d c.1 c.2.1 s = c.2.2)
theorem codeS_hint {w d : Int} {s t : ByteArray} (hl : lockB w d = true) (hs : codeS w d s) (ht : codeS w d t) : hintB s t = true := by
  obtain ⟨w1, w2, d1, d2⟩ := lockB_iff.mp hl
  have h1 := hs.1
  have h2 := ht.1
  refine hintB_iff.mpr ⟨by omega, by omega, by omega, fun i hi => ?_, fun i hi => ?_⟩
  · have := hs.2 i hi; omega
  · have := ht.2 i hi; omega
end Go.Proofs.Ytagiekcfnmhgjaa.P

namespace Go.Proofs.Ytagiekcfnmhgjaa.P
open Go.RowKit Go.Proofs.YtagiekcfnmhgjaaW.PrintWords Go.Proofs.YtagiekcfnmhgjaaW.PrintLast Go.Proofs.YtagiekcfnmhgjaaW.PrintMore
attribute [local go_sem] max2_int min2_int max_two min_two max_three min_three max_four min_four   -- for this text's walks alone
set_option linter.unusedVariables false
set_option linter.unusedSimpArgs false

/-! The statements' own helpers on clues and puzzles: what they come to. -/
def clueOf (x : S25) : S30 := ⟨x.f0, x.f1, x.f2⟩
theorem laws_szClueS.is (l : List S25) (a : Int) (h0 : 0 ≤ a) (h1 : a ≤ 1048576) (hl : l.length ≤ 9223372036854775807) : laws_szClueS.f l a = some (if (l.length : Int) ≤ a then a - l.length else -1) := by
  unfold laws_szClueS.f
  rw [w64 (x := a - (l.length : Int)) (by omega) (by omega)]
  by_cases h : (l.length : Int) ≤ a
  · rw [if_neg (by omega), if_pos h]
  · rw [if_pos (by omega), if_neg h]
theorem laws_szPuzzle.is (w d : Int) (l : List S25) (hl : l.length ≤ 9223372036854775807) : laws_szPuzzle.f w d l 1048576 = some (if (l.length : Int) ≤ 1048576 then (1048576 : Int) - (l.length : Int) else (-1 : Int)) := by
  unfold laws_szPuzzle.f
  rw [laws_szClueS.is l 1048576 (by omega) (by omega) hl]
  simp only [Option.bind_some]
  by_cases h : (l.length : Int) ≤ 1048576
  · rw [if_pos h, if_neg (by omega)]
  · rw [if_neg h, if_pos (by omega)]
theorem rd_laws_clue {xs : List S25} {i : Int} (h : i.toNat < xs.length) : rd_T25 xs i = xs[i.toNat] := by unfold rd_T25; exact getD_at h
theorem rd_clue {xs : List S30} {i : Int} (h : i.toNat < xs.length) : rd_T30 xs i = xs[i.toNat] := by unfold rd_T30; exact getD_at h
theorem laws_toClueS.lev (l : List S25) (hl : l.length ≤ 1048576) : ∀ (j : Nat) (i : Int), 0 ≤ i → i ≤ l.length → (l.length : Int) - i = j →
    Ev (fun k => laws_toClueS.l0 k l ((l.take i.toNat).map clueOf ++ List.replicate (l.length - i.toNat) z30) i) (l.map clueOf) := by
  intro j
  induction j with
  | zero =>
    intro i h0 hi hj
    obtain rfl : i = (l.length : Int) := by omega
    exact Ev.step (fun k => rfl) (Ev.no (by omega) (Ev.id (by simp)))
  | succ j ih =>
    intro i h0 hi hj
    have hlt : i.toNat < l.length := by omega
    refine Ev.step (fun k => rfl) (Ev.yes (by omega) (Ev.yes h0 ?_))
    simp only [laws_toClue.f, Option.bind_some, rd_laws_clue hlt]
    refine Ev.yes (by simp; omega) ?_
    have := fill_step clueOf l z30 i.toNat hlt
    unfold clueOf at this ⊢
    rw [this, w64 (x := i + 1) (by omega) (by omega), ← toNat_succ h0]
    exact ih (i + 1) (by omega) (by omega) (by omega)
theorem laws_toClueS.ev (l : List S25) (hl : l.length ≤ 1048576) : Ev (fun k => laws_toClueS.f k l) (l.map clueOf) := by
  unfold laws_toClueS.f
  refine Ev.yes (by omega) (Ev.yes (by omega) ?_)
  have := laws_toClueS.lev l hl l.length 0 (by omega) (by omega) (by omega)
  simpa using this
theorem laws_toPuzzle.ev (w d : Int) (l : List S25) (hl : l.length ≤ 1048576) : Ev (fun k => laws_toPuzzle.f k w d l) (w, d, l.map clueOf) := by
  unfold laws_toPuzzle.f
  simp only [laws_toLock.f, Option.bind_some]
  exact Ev.bind (laws_toClueS.ev l hl) (Ev.now _)
theorem laws_eqClueS.lev (l : List S30) (hl : l.length ≤ 9223372036854775807) : ∀ (j : Nat) (i : Int), 0 ≤ i → i ≤ l.length → (l.length : Int) - i = j → Ev (fun k => laws_eqClueS.l0 k l l i) true := by
  intro j
  induction j with
  | zero =>
    intro i h0 hi hj
    exact Ev.step (fun k => rfl) (Ev.no (by omega) (Ev.now _))
  | succ j ih =>
    intro i h0 hi hj
    refine Ev.step (fun k => rfl) (Ev.yes (by omega) (Ev.yes h0 (Ev.yes (by omega) ?_)))
    simp only [laws_eqClue.f, if_true, Option.bind_some]
    rw [w64 (x := i + 1) (by omega) (by omega)]
    exact ih (i + 1) (by omega) (by omega) (by omega)
theorem laws_eqClueS.ev (l : List S30) (hl : l.length ≤ 9223372036854775807) : Ev (fun k => laws_eqClueS.f k l l) true := by
  unfold laws_eqClueS.f
  exact Ev.yes rfl (laws_eqClueS.lev l hl l.length 0 (by omega) (by omega) (by omega))
theorem laws_eqPuzzle.ev (w d : Int) (l : List S30) (hl : l.length ≤ 9223372036854775807) : Ev (fun k => laws_eqPuzzle.f k w d l w d l) true := by
  unfold laws_eqPuzzle.f
  simp only [laws_eqLock.f, if_true, Option.bind_some]
  exact Ev.bind (laws_eqClueS.ev l hl) (Ev.yes rfl (Ev.now _))
end Go.Proofs.Ytagiekcfnmhgjaa.P

namespace Go.Proofs.Ytagiekcfnmhgjaa.P
open Go.RowKit Go.Proofs.YtagiekcfnmhgjaaW.PrintWords Go.Proofs.YtagiekcfnmhgjaaW.PrintLast Go.Proofs.YtagiekcfnmhgjaaW.PrintMore
attribute [local go_sem] max2_int min2_int max_two min_two max_three min_three max_four min_four   -- for this text's walks alone
set_option linter.unusedVariables false
set_option linter.unusedSimpArgs false

/-! spec's functions on locks and clues: what they come to. -/
theorem spec_l1In.is (a b c : Int) : spec_l1In.f a b c = some (decide (b ≤ a ∧ a ≤ c)) := by
  unfold spec_l1In.f
  by_cases h : a ≥ b
  · rw [if_pos h]; have h' : b ≤ a := h; congr 1; simp [h']
  · rw [if_neg h]; have h' : ¬ b ≤ a := h; congr 1; simp [h']
theorem spec_whGood.is (w d : Int) : spec_whGood.f w d = some (lockB w d) := by
  unfold spec_whGood.f lockB
  simp only [spec_l1In.is, Option.bind_some]
  by_cases h : 1 ≤ w ∧ w ≤ 6 <;> simp [h]
theorem spec_whCount.lev (w d : Int) (h1 : 1 ≤ d) (h2 : d ≤ 10) (hn : w ≤ 6) : ∀ (j : Nat) (i : Int), 0 ≤ i → i ≤ w → i = j → Ev (fun k => spec_whCount.l0 k (d ^ (w - i).toNat) i w d) (d ^ w.toNat) := by
  intro j
  induction j with
  | zero =>
    intro i h0 hi hj
    obtain rfl : i = 0 := by omega
    exact Ev.step (fun k => rfl) (Ev.no (by omega) (Ev.id (by simp)))
  | succ j ih =>
    intro i h0 hi hj
    refine Ev.step (fun k => rfl) (Ev.yes (by omega) ?_)
    have hb := pow_bound h1 h2 (n := (w - i).toNat) (by omega)
    have hm : d ^ (w - i).toNat * d = d ^ (w - (i - 1)).toNat := by rw [show (w - (i - 1)).toNat = (w - i).toNat + 1 by omega, Int.pow_succ]
    have hb' := pow_bound h1 h2 (n := (w - (i - 1)).toNat) (by omega)
    rw [w64 (x := i - 1) (by omega) (by omega), hm, w64 (x := d ^ (w - (i - 1)).toNat) (by omega) (by omega)]
    exact ih (i - 1) (by omega) (by omega) (by omega)
theorem spec_whCount.ev {w d : Int} (h : lockB w d = true) : Ev (fun k => spec_whCount.f k w d) (d ^ w.toNat) := by
  obtain ⟨a, b, c, e⟩ := lockB_iff.mp h
  have := spec_whCount.lev w d (by omega) e b w.toNat w (by omega) (by omega) (by omega)
  unfold spec_whCount.f
  simpa using this
theorem spec_hiLock.ev (w d m : Int) : Ev (fun k => spec_hiLock.f k w d m) (smallB w d m) := by
  unfold spec_hiLock.f smallB
  refine Ev.bindc (spec_whGood.is w d) ?_
  cases h : lockB w d with
  | true => exact Ev.yes rfl (Ev.bind (spec_whCount.ev h) (Ev.id (by simp)))
  | false => exact Ev.no (by simp) (Ev.id (by simp))
end Go.Proofs.Ytagiekcfnmhgjaa.P

namespace Go.Proofs.Ytagiekcfnmhgjaa.P
open Go.RowKit Go.Proofs.YtagiekcfnmhgjaaW.PrintWords Go.Proofs.YtagiekcfnmhgjaaW.PrintLast Go.Proofs.YtagiekcfnmhgjaaW.PrintMore
attribute [local go_sem] max2_int min2_int max_two min_two max_three min_three max_four min_four   -- for this text's walks alone
set_option linter.unusedVariables false
set_option linter.unusedSimpArgs false

/-! What clues tell of codes: impl's and spec's agree. -/
theorem spec_whDigits.ev {s : ByteArray} (h6 : s.size ≤ 6) (h : ∀ i < s.size, 48 ≤ bt s (i : Nat) ∧ bt s (i : Nat) ≤ 57) : Ev (fun k => spec_whDigits.f k s) (dg s) := by
  have : ∀ m i : Nat, i + m = s.size → ∀ xs : List Int, xs.length = i → Ev (fun k => spec_whDigits.l0 k s xs (i : Nat)) (xs ++ (List.range' i m).map fun i => bt s (i : Nat) - 48) := by
    intro m
    induction m with
    | zero =>
      intro i hi xs hx
      refine Ev.step (fun k => rfl) ?_
      refine Ev.no (by omega) ?_
      exact Ev.id (by simp)
    | succ m ih =>
      intro i hi xs hx
      refine Ev.step (fun k => rfl) ?_
      refine Ev.yes (by omega) (Ev.yes (by omega) (Ev.yes (by omega) ?_))
      have := ih (i + 1) (by omega) (xs ++ [bt s (i : Nat) - 48]) (by simp [hx])
      have hb := h i (by omega)
      rw [show ((bt s (i : Nat)) - 48) % 256 = bt s (i : Nat) - 48 by omega, show wrap64 ((i : Int) + 1) = ((i + 1 : Nat) : Int) from w64 (by omega) (by omega)]
      refine Ev.eq this ?_
      rw [List.range'_succ]
      simp
  have := this s.size 0 (by omega) [] rfl
  refine Ev.eq this ?_
  simp [dg, List.range_eq_range']
theorem impl_digits.ev {w d : Int} {s : ByteArray} (hl : lockB w d = true) (hs : codeS w d s) : Ev (fun k => impl_digits.f k s) (dg s) := by
  obtain ⟨w1, w2, d1, d2⟩ := lockB_iff.mp hl
  have h1 := hs.1
  exact impl_digits_of (by omega) (fun i hi => by have := hs.2 i hi; omega)
theorem spec_whDigits.evc {w d : Int} {s : ByteArray} (hl : lockB w d = true) (hs : codeS w d s) : Ev (fun k => spec_whDigits.f k s) (dg s) := by
  obtain ⟨w1, w2, d1, d2⟩ := lockB_iff.mp hl
  have h1 := hs.1
  exact spec_whDigits.ev (by omega) (fun i hi => by have := hs.2 i hi; omega)
theorem impl_Lock_number.lev (w d : Int) (D : List Int) (hD : D.length ≤ 6) : ∀ (m i : Nat), i + m = D.length → ∀ acc, Ev (fun k => impl_Lock_number.l0 k acc D (D.length : Int) (i : Nat) w d) (numF d acc (D.drop i)) := by
  intro m
  induction m with
  | zero =>
    intro i hi acc
    refine Ev.step (fun k => rfl) (Ev.no (by omega) (Ev.id ?_))
    rw [List.drop_eq_nil_of_le (by omega)]; rfl
  | succ m ih =>
    intro i hi acc
    refine Ev.step (fun k => rfl) (Ev.yes (by omega) (Ev.yes (by omega) (Ev.yes (by omega) ?_)))
    have hlt : i < D.length := by omega
    rw [show wrap64 ((i : Int) + 1) = ((i + 1 : Nat) : Int) from w64 (by omega) (by omega), List.drop_eq_getElem_cons hlt, rd_at (by simpa using hlt)]
    exact ih (i + 1) (by omega) _
theorem spec_whNumber.lev (w d : Int) (D : List Int) (hD : D.length ≤ 6) : ∀ (m i : Nat), i + m = D.length → ∀ acc, Ev (fun k => spec_whNumber.l0 k acc D (D.length : Int) (i : Nat) w d) (numF d acc (D.drop i)) := by
  intro m
  induction m with
  | zero =>
    intro i hi acc
    refine Ev.step (fun k => rfl) (Ev.no (by omega) (Ev.id ?_))
    rw [List.drop_eq_nil_of_le (by omega)]; rfl
  | succ m ih =>
    intro i hi acc
    refine Ev.step (fun k => rfl) (Ev.yes (by omega) (Ev.yes (by omega) (Ev.yes (by omega) ?_)))
    have hlt : i < D.length := by omega
    rw [show wrap64 ((i : Int) + 1) = ((i + 1 : Nat) : Int) from w64 (by omega) (by omega), List.drop_eq_getElem_cons hlt, rd_at (by simpa using hlt)]
    exact ih (i + 1) (by omega) _
theorem spec_pzValue.lev (D : List Int) (hD : D.length ≤ 6) : ∀ (m i : Nat), i + m = D.length → ∀ acc, Ev (fun k => spec_pzValue.l0 k acc D (D.length : Int) (i : Nat)) (sumF acc (D.drop i)) := by
  intro m
  induction m with
  | zero =>
    intro i hi acc
    refine Ev.step (fun k => rfl) (Ev.no (by omega) (Ev.id ?_))
    rw [List.drop_eq_nil_of_le (by omega)]; rfl
  | succ m ih =>
    intro i hi acc
    refine Ev.step (fun k => rfl) (Ev.yes (by omega) (Ev.yes (by omega) (Ev.yes (by omega) ?_)))
    have hlt : i < D.length := by omega
    rw [show wrap64 ((i : Int) + 1) = ((i + 1 : Nat) : Int) from w64 (by omega) (by omega), List.drop_eq_getElem_cons hlt, rd_at (by simpa using hlt)]
    exact ih (i + 1) (by omega) _
theorem impl_Lock_told.lev (D : List Int) (hD : D.length ≤ 6) : ∀ (m i : Nat), i + m = D.length → ∀ acc, Ev (fun k => impl_Lock_told.l0 k acc D (D.length : Int) (i : Nat)) (1, sumF acc (D.drop i), 0) := by
  intro m
  induction m with
  | zero =>
    intro i hi acc
    refine Ev.step (fun k => rfl) (Ev.no (by omega) (Ev.id ?_))
    rw [List.drop_eq_nil_of_le (by omega)]; rfl
  | succ m ih =>
    intro i hi acc
    refine Ev.step (fun k => rfl) (Ev.yes (by omega) (Ev.yes (by omega) (Ev.yes (by omega) ?_)))
    have hlt : i < D.length := by omega
    rw [show wrap64 ((i : Int) + 1) = ((i + 1 : Nat) : Int) from w64 (by omega) (by omega), List.drop_eq_getElem_cons hlt, rd_at (by simpa using hlt)]
    exact ih (i + 1) (by omega) _
theorem impl_Lock_number.ev {w d : Int} {s : ByteArray} (hl : lockB w d = true) (hs : codeS w d s) : Ev (fun k => impl_Lock_number.f k w d s) (numF d 0 (dg s)) := by
  have h6 : (dg s).length ≤ 6 := by rw [dg_length, hs.1]; have := lockB_iff.mp hl; omega
  unfold impl_Lock_number.f
  exact Ev.bind (impl_digits.ev hl hs) (impl_Lock_number.lev w d _ h6 (dg s).length 0 (by omega) 0)
theorem spec_whNumber.ev {w d : Int} {s : ByteArray} (hl : lockB w d = true) (hs : codeS w d s) : Ev (fun k => spec_whNumber.f k w d s) (numF d 0 (dg s)) := by
  have h6 : (dg s).length ≤ 6 := by rw [dg_length, hs.1]; have := lockB_iff.mp hl; omega
  unfold spec_whNumber.f
  exact Ev.bind (spec_whDigits.evc hl hs) (spec_whNumber.lev w d _ h6 (dg s).length 0 (by omega) 0)
end Go.Proofs.Ytagiekcfnmhgjaa.P

namespace Go.Proofs.Ytagiekcfnmhgjaa.P
open Go.RowKit Go.Proofs.YtagiekcfnmhgjaaW.PrintWords Go.Proofs.YtagiekcfnmhgjaaW.PrintLast Go.Proofs.YtagiekcfnmhgjaaW.PrintMore
attribute [local go_sem] max2_int min2_int max_two min_two max_three min_three max_four min_four   -- for this text's walks alone
set_option linter.unusedVariables false
set_option linter.unusedSimpArgs false

/-! spec's texts of codes, distances: what they come to. -/
theorem strOfNums_app (a b : List Int) : strOfNums (a ++ b) = strOfNums a ++ strOfNums b := by
  apply ByteArray.ext
  simp [strOfNums, ByteArray.data_append]
theorem textB_app (a : List Int) (x : Int) : textB (a ++ [x]) = textB a ++ strOfNums [wrap64 (48 + x) % 256] := by
  unfold textB; rw [List.map_append, strOfNums_app]; rfl
theorem spec_l1Num.one {x : Int} (h : x < 10) : Ev (fun k => spec_l1Num.f k x) (strOfNums [wrap64 (48 + x) % 256]) :=
  Ev.step (fun k => rfl) (Ev.yes h (Ev.now _))
theorem textB_size (l : List Int) : (textB l).size = l.length := by unfold textB; rw [strOfNums_size, List.length_map]
theorem spec_whText.lev (D : List Int) (hD : D.length ≤ 6) (h : ∀ x ∈ D, 0 ≤ x ∧ x < 10) : ∀ (m i : Nat), i + m = D.length → Ev (fun k => spec_whText.l0 k (textB (D.take i)) D (D.length : Int) (i : Nat)) (textB D) := by
  intro m
  induction m with
  | zero =>
    intro i hi
    refine Ev.step (fun k => rfl) (Ev.no (by omega) (Ev.id ?_))
    rw [List.take_of_length_le (by omega)]
  | succ m ih =>
    intro i hi
    have hlt : i < D.length := by omega
    have hx := h D[i] (List.getElem_mem hlt)
    refine Ev.step (fun k => rfl) (Ev.yes (by omega) (Ev.yes (by omega) (Ev.yes (by omega) ?_)))
    rw [rd_at (by simpa using hlt)]
    refine Ev.bind (spec_l1Num.one (by simpa using hx.2)) ?_
    refine Ev.yes (by rw [textB_size, strOfNums_size, List.length_take]; simp; omega) ?_
    rw [show wrap64 ((i : Int) + 1) = ((i + 1 : Nat) : Int) from w64 (by omega) (by omega)]
    have := ih (i + 1) (by omega)
    rw [List.take_succ_eq_append_getElem hlt, textB_app] at this
    exact this
theorem spec_whText.ev (D : List Int) (hD : D.length ≤ 6) (h : ∀ x ∈ D, 0 ≤ x ∧ x < 10) : Ev (fun k => spec_whText.f k D) (textB D) := by
  unfold spec_whText.f
  exact spec_whText.lev D hD h D.length 0 (by omega)
theorem spec_whOf.lev {w d : Int} (hl : lockB w d = true) (D : List Int) (hD : D.length = w.toNat) (h : ∀ x ∈ D, 0 ≤ x ∧ x < 10) : ∀ (m : Nat) (n : Int) (T : List Int), 0 ≤ n → n ≤ 9223372036854775807 → digs d m n ++ T = D → Ev (fun k => spec_whOf.l0 k n (List.replicate m 0 ++ T) ((m : Int) - 1) w d) (textB D) := by
  obtain ⟨w1, w2, d1, d2⟩ := lockB_iff.mp hl
  intro m
  induction m with
  | zero =>
    intro n T h0 h1 hT
    refine Ev.step (fun k => rfl) (Ev.no (by omega) ?_)
    have : List.replicate 0 (0 : Int) ++ T = D := hT
    rw [this]
    exact Ev.bind (spec_whText.ev D (by omega) h) (Ev.now _)
  | succ m ih =>
    intro n T h0 h1 hT
    have hlen : m + 1 + T.length = D.length := by rw [← hT, List.length_append, digs_length]
    refine Ev.step (fun k => rfl) (Ev.yes (by omega) (Ev.no (by omega) (Ev.yes (by omega) (Ev.yes (by rw [List.length_append, List.length_replicate]; omega) ?_))))
    rw [show ((m + 1 : Nat) : Int) - 1 = (m : Nat) by omega, Int.toNat_natCast, rep_set, Int.tmod_eq_emod_of_nonneg h0, Int.tdiv_eq_ediv_of_nonneg h0]
    have r3 : 0 ≤ n / d := Int.ediv_nonneg h0 (by omega)
    have r4 : n / d ≤ n := Int.ediv_le_self _ h0
    rw [w64 (x := n / d) (by omega) (by omega), w64 (x := (m : Int) - 1) (by omega) (by omega)]
    refine ih (n / d) (n % d :: T) r3 (by omega) ?_
    rw [digs, List.append_assoc] at hT
    exact hT
theorem spec_whOf.ev {w d a : Int} (hl : lockB w d = true) (h0 : 0 ≤ a) (h1 : a ≤ 9223372036854775807) : Ev (fun k => spec_whOf.f k w d a) (codeB w d a) := by
  obtain ⟨w1, w2, d1, d2⟩ := lockB_iff.mp hl
  unfold spec_whOf.f
  refine Ev.yes (by omega) (Ev.yes (by omega) ?_)
  rw [w64 (x := w - 1) (by omega) (by omega)]
  have := spec_whOf.lev hl (digs d w.toNat a) (by rw [digs_length]) (fun x hx => by have := digs_range (d := d) (by omega) w.toNat a x hx; omega) w.toNat a [] h0 h1 (by rw [List.append_nil])
  rw [List.append_nil, show ((w.toNat : Nat) : Int) - 1 = w - 1 by omega] at this
  exact this
theorem spec_l1Least.is (a b : Int) : spec_l1Least.f a b = some (lst a b) := by unfold spec_l1Least.f lst; split <;> rfl
theorem turnV_range {d x y : Int} (hd : 2 ≤ d) (hd2 : d ≤ 10) (hx : -300 ≤ x ∧ x ≤ 300) (hy : -300 ≤ y ∧ y ≤ 300) : 0 ≤ turnV d x y ∧ turnV d x y < d := by
  unfold turnV
  have e1 : wrap64 (y - x) = y - x := w64 (by omega) (by omega)
  have h1 : -d < Int.tmod (y - x) d := Int.lt_tmod_of_pos _ (by omega)
  have h2 : Int.tmod (y - x) d < d := Int.tmod_lt_of_pos _ (by omega)
  rw [e1, w64 (by omega) (by omega), Int.tmod_eq_emod_of_nonneg (by omega)]
  exact ⟨Int.emod_nonneg _ (by omega), Int.emod_lt_of_pos _ (by omega)⟩
theorem spec_whDistance.lev {w d : Int} (hl : lockB w d = true) {s t : ByteArray} (hs : codeS w d s) (ht : codeS w d t) : ∀ (m i : Nat), i + m = s.size → Ev (fun k => spec_whDistance.l0 k (dg s) (dg t) (distF d s t i) ((dg s).length : Int) (i : Nat) w d) (distF d s t s.size) := by
  obtain ⟨w1, w2, d1, d2⟩ := lockB_iff.mp hl
  have hsz := hs.1
  have htz := ht.1
  intro m
  induction m with
  | zero =>
    intro i hi
    refine Ev.step (fun k => rfl) (Ev.no (by rw [dg_length]; omega) (Ev.id ?_))
    rw [show i = s.size by omega]
  | succ m ih =>
    intro i hi
    have a1 := hs.2 i (by omega)
    have a2 := ht.2 i (by omega)
    refine Ev.step (fun k => rfl) (Ev.yes (by rw [dg_length]; omega) (Ev.yes (by omega) (Ev.yes (by rw [dg_length]; omega) (Ev.yes (by rw [dg_length]; omega) ?_))))
    rw [dg_at (by omega), dg_at (by omega)]
    have hf : spec_whFar.f w d (bt s (i : Nat) - 48) (bt t (i : Nat) - 48) = some (turnV d (bt s (i : Nat)) (bt t (i : Nat)), Int.tmod (wrap64 (d - turnV d (bt s (i : Nat)) (bt t (i : Nat)))) d) := by
      unfold spec_whFar.f spec_l1Mod.f turnV
      rw [if_neg (by omega), show bt t (i : Nat) - 48 - (bt s (i : Nat) - 48) = bt t (i : Nat) - bt s (i : Nat) by omega]
      simp only [Option.bind_some]
      rw [if_neg (by omega)]
    refine Ev.bindc hf (Ev.bindc (spec_l1Least.is _ _) ?_)
    rw [show wrap64 ((i : Int) + 1) = ((i + 1 : Nat) : Int) from w64 (by omega) (by omega)]
    exact ih (i + 1) (by omega)
theorem impl_Lock_distance.lev {w d : Int} (hl : lockB w d = true) {s t : ByteArray} (hs : codeS w d s) (ht : codeS w d t) : ∀ (m i : Nat), i + m = s.size → Ev (fun k => impl_Lock_distance.l0 k s t (distF d s t i) (s.size : Int) (i : Nat) w d) (distF d s t s.size) := by
  obtain ⟨w1, w2, d1, d2⟩ := lockB_iff.mp hl
  have hsz := hs.1
  have htz := ht.1
  intro m
  induction m with
  | zero =>
    intro i hi
    refine Ev.step (fun k => rfl) (Ev.no (by omega) (Ev.id ?_))
    rw [show i = s.size by omega]
  | succ m ih =>
    intro i hi
    have a1 := hs.2 i (by omega)
    have a2 := ht.2 i (by omega)
    refine Ev.step (fun k => rfl) (Ev.yes (by omega) (Ev.yes (by omega) (Ev.yes (by omega) (Ev.yes (by omega) ?_))))
    have hr := turnV_range (d := d) (x := bt s (i : Nat)) (y := bt t (i : Nat)) d1 d2 (by omega) (by omega)
    have hf : impl_Lock_near.f w d (wrap64 (bt s (i : Nat))) (wrap64 (bt t (i : Nat))) = some (nearV d (bt s (i : Nat)) (bt t (i : Nat))) := by
      unfold impl_Lock_near.f impl_Lock_gap.f impl_around.f
      rw [if_neg (by omega), w64 (x := bt s (i : Nat)) (by omega) (by omega), w64 (x := bt t (i : Nat)) (by omega) (by omega)]
      simp only [Option.bind_some]
      show some (mn (turnV d (bt s (i : Nat)) (bt t (i : Nat))) (wrap64 (d - turnV d (bt s (i : Nat)) (bt t (i : Nat))))) = _
      unfold nearV
      generalize turnV d (bt s (i : Nat)) (bt t (i : Nat)) = q at hr
      rw [w64 (x := d - q) (by omega) (by omega)]
      congr 1
      by_cases hq : q = 0
      · subst hq
        rw [Int.sub_zero, Int.tmod_self]
        unfold mn lst
        simp
        omega
      · rw [Int.tmod_eq_of_lt (by omega) (by omega)]
        unfold mn lst
        by_cases e : q < d - q
        · simp [e]; omega
        · simp [e]; omega
    refine Ev.bindc hf ?_
    rw [show wrap64 ((i : Int) + 1) = ((i + 1 : Nat) : Int) from w64 (by omega) (by omega)]
    exact ih (i + 1) (by omega)
theorem spec_whDistance.ev {w d : Int} (hl : lockB w d = true) {s t : ByteArray} (hs : codeS w d s) (ht : codeS w d t) : Ev (fun k => spec_whDistance.f k w d s t) (distF d s t w.toNat) := by
  unfold spec_whDistance.f
  rw [← hs.1]
  exact Ev.bind (spec_whDigits.evc hl hs) (Ev.bind (spec_whDigits.evc hl ht) (spec_whDistance.lev hl hs ht s.size 0 (by omega)))
theorem impl_Lock_distance.ev {w d : Int} (hl : lockB w d = true) {s t : ByteArray} (hs : codeS w d s) (ht : codeS w d t) : Ev (fun k => impl_Lock_distance.f k w d s t) (distF d s t w.toNat) := by
  unfold impl_Lock_distance.f
  rw [← hs.1]
  exact impl_Lock_distance.lev hl hs ht s.size 0 (by omega)
end Go.Proofs.Ytagiekcfnmhgjaa.P

namespace Go.Proofs.Ytagiekcfnmhgjaa.P
open Go.RowKit Go.Proofs.YtagiekcfnmhgjaaW.PrintWords Go.Proofs.YtagiekcfnmhgjaaW.PrintLast Go.Proofs.YtagiekcfnmhgjaaW.PrintMore
attribute [local go_sem] max2_int min2_int max_two min_two max_three min_three max_four min_four
set_option linter.unusedVariables false
set_option linter.unusedSimpArgs false
/-! ### impl_Solutions: function 41 -/
def impl_Solutions.f (k : Nat) (a0_0 : Int) (a0_1 : Int) (l0_2 : List (S30)) : Option (List ByteArray × Bool) := (impl_IsPuzzle.f a0_0 a0_1 l0_2).bind fun t426 => (if t426 = true then ((impl_Lock_solutions.f k a0_0 a0_1 l0_2).bind fun t427 => (some (t427, true))) else (some (([] : List ByteArray), false)))
theorem impl_Solutions.mono : ∀ a0 a1 a2 k, LeO (impl_Solutions.f k a0 a1 a2) (impl_Solutions.f (k + 1) a0 a1 a2) := by
  intro a0 a1 a2 k
  unfold impl_Solutions.f
  repeat' first
      | (with_reducible exact impl_Lock_solutions.mono _ _ _ _)
      | (with_reducible exact LeO.refl _)
      | (with_reducible exact LeO.none _)
      | (with_reducible refine LeO.ite ?_ ?_)
      | (with_reducible refine LeO.bind ?_ (fun _ => ?_))
      | exact impl_Lock_solutions.mono _ _ _ _
      | exact LeO.none _
      | refine LeO.ite ?_ ?_
      | refine LeO.bind ?_ (fun _ => ?_)
set_option maxHeartbeats 8000000 in
set_option maxRecDepth 100000 in
theorem impl_Solutions.calls (k : Nat) (a0_0 : Int) (a0_1 : Int) (A0_2 : Option Addr) (c0_2 : Nat) (l0_2 : List (S30)) (r1 : List ByteArray) (r2 : Bool) (w : World) (hr0_2 : Kd.C k30 w A0_2 l0_2.length l0_2) (hc0_2 : l0_2.length ≤ c0_2) (h : impl_Solutions.f k a0_0 a0_1 l0_2 = some (r1, r2)) :
    Calls Try.prog 41 #[.agg #[.int .i64 a0_0, .int .i64 a0_1, .slice A0_2 l0_2.length c0_2]] w fun e w' => ∃ v0_ : Value, e = .returned (.tuple #[v0_, .bool r2]) ∧ Kd.R Kd.string 9 w' w.heap.size (fun _ => True) v0_ r1 ∧ Below w.heap.size w w' := by
  have hu35 := Try.underlying35
  have hu28 := Try.underlying28
  have HR0_2 := Aside0.mk hr0_2
  have HC0_2 := Aside0.mk hc0_2
  clear hr0_2 hc0_2
  have HB := Aside0.mk (Below.refl w.heap.size w)
  have H : ((impl_IsPuzzle.f a0_0 a0_1 l0_2).bind fun t426 => (if t426 = true then ((impl_Lock_solutions.f k a0_0 a0_1 l0_2).bind fun t427 => (some (t427, true))) else (some (([] : List ByteArray), false)))) = some (r1, r2) := h
  clear h
  replace H := Option.bind_eq_some_iff.mp H
  obtain ⟨t426, A20, H⟩ := H
  replace H : (if t426 = true then ((impl_Lock_solutions.f k a0_0 a0_1 l0_2).bind fun t427 => (some (t427, true))) else (some (([] : List ByteArray), false))) = some (r1, r2) := H
  have A2 := Aside0.mk A20
  clear A20
  by_cases c3 : t426 = true
  · subst c3
    have H1 : ((impl_Lock_solutions.f k a0_0 a0_1 l0_2).bind fun t427 => (some (t427, true))) = some (r1, r2) := by rw [if_pos rfl] at H; exact H
    clear H
    have H := H1
    clear H1
    replace H := Option.bind_eq_some_iff.mp H
    obtain ⟨t427, A40, H⟩ := H
    replace H : (some (t427, true)) = some (r1, r2) := H
    have A4 := Aside0.mk A40
    clear A40
    simp only [Option.some.injEq, Prod.mk.injEq] at H
    obtain ⟨rfl, rfl⟩ := H
    go_enter Try.func41, Try.ntmps41
    go_wp2_with (first | ((with_reducible refine gate_dst (N := 1) rfl ?_); refine box_event ?hg (N := 1) ?hd (cs := #[.int .i64 a0_0, .int .i64 a0_1, .slice A0_2 l0_2.length c0_2]) (t := 35) ?hr ?_; (case hd => rfl); (case hg => rfl); (case hr => first | (go_simp; done) | (go_simp; rfl)); intro gb425 hg w5 hbox hb; have n0_ := Aside0.mk (below_step (by repeat (first | (with_reducible first | exact HB.out | apply below_alloc | apply pw_below_drewN | apply below_drew1) | exact HB.out)) hb); have n1_ := Aside0.mk (hbox); have n2_ := Aside0.mk ((by rw [hg]; exact (below_size (by repeat (first | (with_reducible first | exact HB.out | apply below_alloc | apply pw_below_drewN | apply below_drew1) | exact HB.out))) : w.heap.size ≤ gb425)); have n3_ := Aside0.mk ((by rw [hg]; exact (below_size (by repeat (first | (with_reducible first | exact HB.out | apply below_alloc | apply pw_below_drewN | apply below_drew1) | exact HB.out))) : w.heap.size ≤ gb425)); clear HB; have HB := n0_; have BK425 := n1_; have GW425 := n2_; have GE425 := n3_; clear n0_ n1_ n2_ n3_; clear hb hbox hg; have hcz6_0 : w5.cell? ⟨gb425, 0, none⟩ = some (.int .i64 a0_0) := (blk_cell BK425.out 0).trans rfl; have hcz6_1 : w5.cell? ⟨gb425, 1, none⟩ = some (.int .i64 a0_1) := (blk_cell BK425.out 1).trans rfl; have hcz6_2 : w5.cell? ⟨gb425, 2, none⟩ = some (.slice A0_2 l0_2.length c0_2) := (blk_cell BK425.out 2).trans rfl; have hfz6_0 := blk_frozen BK425.out 0; have hfz6_1 := blk_frozen BK425.out 1; have hfz6_2 := blk_frozen BK425.out 2) | ((with_reducible refine gate_callee (f := 74) rfl ?_); refine goesL_ (some 5) rfl rfl Try.func74 (by kernel_rfl) rfl #[.agg #[.int .i64 a0_0, .int .i64 a0_1, .slice A0_2 l0_2.length c0_2]] rfl (by (try simp only [List.map_toArray, List.map_cons, List.map_nil]); first | done | rfl | (simp only [List.length_drop, List.length_take]; rfl)) ?_; (with_reducible refine (impl_IsPuzzle.calls a0_0 a0_1 _ _ l0_2 true _ ?side1 ?side2 A2.out).mono ?_); (case side1 => repeat (first | exact (Kd.C_below HR0_2.out HB.out) | (with_reducible refine Kd.C_alloc ?_ _) | (with_reducible refine Kd.C_drewN ?_ _) | (with_reducible refine Kd.C_drew ?_))); (case side2 => exact HC0_2.out); rintro e w7 ⟨rfl, hb⟩; refine ⟨_, rfl, ?_⟩; have n0_ := Aside0.mk (blk_below (g := gb425) (o := .cells #[.int .i64 a0_0, .int .i64 a0_1, .slice A0_2 l0_2.length c0_2] 35 (0, 0)) (by (with_reducible repeat (first | refine blk_drewN ?_ _ | refine blk_drew ?_ | refine blk_alloc ?_ _)); exact BK425.out) hb); have n1_ := Aside0.mk (below_step (by repeat (first | (with_reducible first | exact HB.out | apply below_alloc | apply pw_below_drewN | apply below_drew1 | refine below_set ?_ GE425.out) | exact HB.out)) hb); clear BK425; clear HB; have BK425 := n0_; have HB := n1_; clear n0_ n1_; (try clear hb); (try clear hb2); (try clear hk); (try clear hi); have hcz8_0 : w7.cell? ⟨gb425, 0, none⟩ = some (.int .i64 a0_0) := (blk_cell BK425.out 0).trans rfl; have hcz8_1 : w7.cell? ⟨gb425, 1, none⟩ = some (.int .i64 a0_1) := (blk_cell BK425.out 1).trans rfl; have hcz8_2 : w7.cell? ⟨gb425, 2, none⟩ = some (.slice A0_2 l0_2.length c0_2) := (blk_cell BK425.out 2).trans rfl; have hfz8_0 := blk_frozen BK425.out 0; have hfz8_1 := blk_frozen BK425.out 1; have hfz8_2 := blk_frozen BK425.out 2) | ((with_reducible refine gate_callee (f := 75) rfl ?_); refine goesL_ (some 11) rfl rfl Try.func75 (by kernel_rfl) rfl #[.agg #[.int .i64 a0_0, .int .i64 a0_1], .slice A0_2 l0_2.length c0_2] rfl (by (try simp only [List.map_toArray, List.map_cons, List.map_nil]); first | done | rfl | (simp only [List.length_drop, List.length_take]; rfl)) ?_; (with_reducible refine (impl_Lock_solutions.calls k a0_0 a0_1 _ _ l0_2 t427 _ ?side1 ?side2 A4.out).mono ?_); (case side1 => repeat (first | exact (Kd.C_below HR0_2.out HB.out) | (with_reducible refine Kd.C_alloc ?_ _) | (with_reducible refine Kd.C_drewN ?_ _) | (with_reducible refine Kd.C_drew ?_))); (case side2 => exact HC0_2.out); rintro e w9 ⟨v428, rfl, ho0, hb⟩; refine ⟨_, rfl, ?_⟩; have n0_ := Aside0.mk (Kd.R_lower ho0 (below_size (by repeat (first | (with_reducible first | exact HB.out | apply below_alloc | apply pw_below_drewN | apply below_drew1 | refine below_set ?_ GE425.out) | exact HB.out)))); have n1_ := Aside0.mk (blk_below (g := gb425) (o := .cells #[.int .i64 a0_0, .int .i64 a0_1, .slice A0_2 l0_2.length c0_2] 35 (0, 0)) (by (with_reducible repeat (first | refine blk_drewN ?_ _ | refine blk_drew ?_ | refine blk_alloc ?_ _)); exact BK425.out) hb); have n2_ := Aside0.mk (below_step (by repeat (first | (with_reducible first | exact HB.out | apply below_alloc | apply pw_below_drewN | apply below_drew1 | refine below_set ?_ GE425.out) | exact HB.out)) hb); clear BK425; clear HB; have HO429 := n0_; have BK425 := n1_; have HB := n2_; clear n0_ n1_ n2_; (try clear hb); (try clear hb2); (try clear hk); (try clear hi); (try clear ho0)))
    go_ret2
    exact ⟨_, by first | rfl | (simp [errW_none, errW_some] <;> rfl) | (simp [*, errW_none, errW_some] <;> rfl), by (with_reducible repeat (first | apply Kd.R_alloc | apply Kd.R_drewN | apply Kd.R_drew)); exact HO429.out, by repeat (first | (with_reducible first | exact HB.out | apply below_alloc | apply pw_below_drewN | apply below_drew1 | refine below_set ?_ GE425.out) | exact HB.out)⟩
  · replace c3 := Bool.eq_false_iff.mpr c3
    subst c3
    have H1 : (some (([] : List ByteArray), false)) = some (r1, r2) := by rw [if_neg (show ¬ (false = true) by decide)] at H; exact H
    clear H
    have H := H1
    clear H1
    simp only [Option.some.injEq, Prod.mk.injEq] at H
    obtain ⟨rfl, rfl⟩ := H
    go_enter Try.func41, Try.ntmps41
    go_wp2_with (first | ((with_reducible refine gate_dst (N := 1) rfl ?_); refine box_event ?hg (N := 1) ?hd (cs := #[.int .i64 a0_0, .int .i64 a0_1, .slice A0_2 l0_2.length c0_2]) (t := 35) ?hr ?_; (case hd => rfl); (case hg => rfl); (case hr => first | (go_simp; done) | (go_simp; rfl)); intro gb425 hg w10 hbox hb; have n0_ := Aside0.mk (below_step (by repeat (first | (with_reducible first | exact HB.out | apply below_alloc | apply pw_below_drewN | apply below_drew1) | exact HB.out)) hb); have n1_ := Aside0.mk (hbox); have n2_ := Aside0.mk ((by rw [hg]; exact (below_size (by repeat (first | (with_reducible first | exact HB.out | apply below_alloc | apply pw_below_drewN | apply below_drew1) | exact HB.out))) : w.heap.size ≤ gb425)); have n3_ := Aside0.mk ((by rw [hg]; exact (below_size (by repeat (first | (with_reducible first | exact HB.out | apply below_alloc | apply pw_below_drewN | apply below_drew1) | exact HB.out))) : w.heap.size ≤ gb425)); clear HB; have HB := n0_; have BK425 := n1_; have GW425 := n2_; have GE425 := n3_; clear n0_ n1_ n2_ n3_; clear hb hbox hg; have hcz11_0 : w10.cell? ⟨gb425, 0, none⟩ = some (.int .i64 a0_0) := (blk_cell BK425.out 0).trans rfl; have hcz11_1 : w10.cell? ⟨gb425, 1, none⟩ = some (.int .i64 a0_1) := (blk_cell BK425.out 1).trans rfl; have hcz11_2 : w10.cell? ⟨gb425, 2, none⟩ = some (.slice A0_2 l0_2.length c0_2) := (blk_cell BK425.out 2).trans rfl; have hfz11_0 := blk_frozen BK425.out 0; have hfz11_1 := blk_frozen BK425.out 1; have hfz11_2 := blk_frozen BK425.out 2) | ((with_reducible refine gate_callee (f := 74) rfl ?_); refine goesL_ (some 5) rfl rfl Try.func74 (by kernel_rfl) rfl #[.agg #[.int .i64 a0_0, .int .i64 a0_1, .slice A0_2 l0_2.length c0_2]] rfl (by (try simp only [List.map_toArray, List.map_cons, List.map_nil]); first | done | rfl | (simp only [List.length_drop, List.length_take]; rfl)) ?_; (with_reducible refine (impl_IsPuzzle.calls a0_0 a0_1 _ _ l0_2 false _ ?side1 ?side2 A2.out).mono ?_); (case side1 => repeat (first | exact (Kd.C_below HR0_2.out HB.out) | (with_reducible refine Kd.C_alloc ?_ _) | (with_reducible refine Kd.C_drewN ?_ _) | (with_reducible refine Kd.C_drew ?_))); (case side2 => exact HC0_2.out); rintro e w12 ⟨rfl, hb⟩; refine ⟨_, rfl, ?_⟩; have n0_ := Aside0.mk (blk_below (g := gb425) (o := .cells #[.int .i64 a0_0, .int .i64 a0_1, .slice A0_2 l0_2.length c0_2] 35 (0, 0)) (by (with_reducible repeat (first | refine blk_drewN ?_ _ | refine blk_drew ?_ | refine blk_alloc ?_ _)); exact BK425.out) hb); have n1_ := Aside0.mk (below_step (by repeat (first | (with_reducible first | exact HB.out | apply below_alloc | apply pw_below_drewN | apply below_drew1 | refine below_set ?_ GE425.out) | exact HB.out)) hb); clear BK425; clear HB; have BK425 := n0_; have HB := n1_; clear n0_ n1_; (try clear hb); (try clear hb2); (try clear hk); (try clear hi)))
    go_ret2
    exact ⟨_, by first | rfl | (simp [errW_none, errW_some] <;> rfl) | (simp [*, errW_none, errW_some] <;> rfl), by first | exact Kd.R_nil _ _ _ _ _ | exact Kd.N_nil _ _ _ _ _ | exact Kd.V_nil _ _ _ _ _ | exact Kd.Q_nil _ _ _ _ _ | exact Kd.S_nil _ _ _ _ _, by repeat (first | (with_reducible first | exact HB.out | apply below_alloc | apply pw_below_drewN | apply below_drew1 | refine below_set ?_ GE425.out) | exact HB.out)⟩
end Go.Proofs.Ytagiekcfnmhgjaa.P

namespace Go.Proofs.Ytagiekcfnmhgjaa.P
open Go.RowKit Go.Proofs.YtagiekcfnmhgjaaW.PrintWords Go.Proofs.YtagiekcfnmhgjaaW.PrintLast Go.Proofs.YtagiekcfnmhgjaaW.PrintMore
attribute [local go_sem] max2_int min2_int max_two min_two max_three min_three max_four min_four   -- for this text's walks alone
set_option linter.unusedVariables false
set_option linter.unusedSimpArgs false

/-! Whether codes fit clues; all solutions: what both sides come to. -/
theorem clueB_cases {w d a b c : Int} (h : clueB w d a b c = true) : (a = 0 ∧ 0 ≤ b ∧ b ≤ w - 1) ∨ (a = 1 ∧ c = 0) ∨ (a = 2 ∧ 0 ≤ b ∧ b ≤ d ^ w.toNat - 1) ∨ (a = 3 ∧ 0 ≤ b ∧ b ≤ d ^ w.toNat - 1) ∨ (a = 4 ∧ 2 ≤ b ∧ b ≤ 9) := by
  unfold clueB at h
  by_cases h0 : a = 0
  · rw [if_pos h0] at h; simp at h; omega
  rw [if_neg h0] at h
  by_cases h1 : a = 1
  · rw [if_pos h1] at h; simp at h; omega
  rw [if_neg h1] at h
  by_cases h2 : a = 2
  · rw [if_pos h2] at h; simp at h; omega
  rw [if_neg h2] at h
  by_cases h3 : a = 3
  · rw [if_pos h3] at h; simp at h; omega
  rw [if_neg h3] at h
  by_cases h4 : a = 4
  · rw [if_pos h4] at h; simp at h; omega
  rw [if_neg h4] at h; cases h
theorem spec_hiOf.is {a b : ByteArray} (h : hintB a b = true) : spec_hiOf.f a b = some (plN a b a.size, cmN a b a.size 10 - plN a b a.size) := by unfold spec_hiOf.f; rw [if_pos h]
theorem impl_hint.is {a b : ByteArray} (h : hintB a b = true) : impl_hint.f a b = some (plN a b a.size, cmN a b a.size 10 - plN a b a.size) := by unfold impl_hint.f; rw [if_pos h]
theorem spec_pzValue.ev {w d a b : Int} (hl : lockB w d = true) {s : ByteArray} (hs : codeS w d s) (h : (a = 0 ∧ 0 ≤ b ∧ b ≤ w - 1) ∨ a = 1 ∨ (a = 2 ∧ 0 ≤ b ∧ b ≤ d ^ w.toNat - 1) ∨ (a = 3 ∧ 0 ≤ b ∧ b ≤ d ^ w.toNat - 1) ∨ (a = 4 ∧ 2 ≤ b ∧ b ≤ 9)) :
    Ev (fun k => spec_pzValue.f k w d a b s) (valV w d a b s) := by
  obtain ⟨w1, w2, d1, d2⟩ := lockB_iff.mp hl
  have hsz := hs.1
  have hcb := count_bound hl
  have h6 : (dg s).length ≤ 6 := by rw [dg_length]; omega
  unfold spec_pzValue.f
  rcases h with ⟨rfl, h1, h2⟩ | rfl | ⟨rfl, h1, h2⟩ | ⟨rfl, h1, h2⟩ | ⟨rfl, h1, h2⟩
  · rw [show valV w d 0 b s = bt s b - 48 by simp [valV]]
    have hb := hs.2 b.toNat (by omega)
    rw [show ((b.toNat : Nat) : Int) = b by omega] at hb
    refine Ev.yes rfl (Ev.yes h1 (Ev.yes (by omega) (Ev.id (by omega))))
  · rw [show valV w d 1 b s = sumF 0 (dg s) by simp [valV]]
    exact Ev.no (by omega) (Ev.yes rfl (Ev.bind (spec_whDigits.evc hl hs) (spec_pzValue.lev _ h6 (dg s).length 0 (by omega) 0)))
  · rw [show valV w d 2 b s = plN (codeB w d b) s w.toNat by simp [valV]]
    have hc := codeB_code (a := b) hl
    refine Ev.no (by omega) (Ev.no (by omega) (Ev.yes rfl (Ev.bind (spec_whOf.ev hl h1 (by omega)) (Ev.bindc (spec_hiOf.is (codeS_hint hl hc hs)) (Ev.id ?_)))))
    rw [hc.1]
  · rw [show valV w d 3 b s = distF d (codeB w d b) s w.toNat by simp [valV]]
    have hc := codeB_code (a := b) hl
    exact Ev.no (by omega) (Ev.no (by omega) (Ev.no (by omega) (Ev.yes rfl (Ev.bind (spec_whOf.ev hl h1 (by omega)) (Ev.bind (spec_whDistance.ev hl hc hs) (Ev.now _))))))
  · rw [show valV w d 4 b s = Int.tmod (numF d 0 (dg s)) b by simp [valV]]
    exact Ev.no (by omega) (Ev.no (by omega) (Ev.no (by omega) (Ev.no (by omega) (Ev.bind (spec_whNumber.ev hl hs) (Ev.no (by omega) (Ev.now _))))))
theorem impl_Lock_told.ev {w d a b c : Int} (hl : lockB w d = true) {s : ByteArray} (hs : codeS w d s) (h : clueB w d a b c = true) :
    Ev (fun k => impl_Lock_told.f k w d a b s) (if a = 1 then (1, valV w d 1 0 s, 0) else (a, b, valV w d a b s)) := by
  obtain ⟨w1, w2, d1, d2⟩ := lockB_iff.mp hl
  have hsz := hs.1
  have hcb := count_bound hl
  have h6 : (dg s).length ≤ 6 := by rw [dg_length]; omega
  unfold impl_Lock_told.f
  rcases clueB_cases h with ⟨rfl, h1, h2⟩ | ⟨rfl, h1⟩ | ⟨rfl, h1, h2⟩ | ⟨rfl, h1, h2⟩ | ⟨rfl, h1, h2⟩
  · rw [if_neg (show ¬ (0 : Int) = 1 by omega), show valV w d 0 b s = bt s b - 48 by simp [valV]]
    refine Ev.yes rfl (Ev.bind (impl_digits.ev hl hs) (Ev.yes h1 (Ev.yes (by rw [dg_length]; omega) (Ev.id ?_))))
    have := dg_at (s := s) (i := b.toNat) (by omega)
    rw [show ((b.toNat : Nat) : Int) = b by omega] at this
    rw [this]
  · rw [if_pos rfl, show valV w d 1 0 s = sumF 0 (dg s) by simp [valV]]
    exact Ev.no (by omega) (Ev.yes rfl (Ev.bind (impl_digits.ev hl hs) (impl_Lock_told.lev _ h6 (dg s).length 0 (by omega) 0)))
  · rw [if_neg (show ¬ (2 : Int) = 1 by omega), show valV w d 2 b s = plN (codeB w d b) s w.toNat by simp [valV]]
    have hc := codeB_code (a := b) hl
    refine Ev.no (by omega) (Ev.no (by omega) (Ev.yes rfl (Ev.bindc (impl_Lock_code.is hl h1 (by omega)) (Ev.bindc (impl_hint.is (codeS_hint hl hc hs)) (Ev.id ?_)))))
    rw [hc.1]
  · rw [if_neg (show ¬ (3 : Int) = 1 by omega), show valV w d 3 b s = distF d (codeB w d b) s w.toNat by simp [valV]]
    have hc := codeB_code (a := b) hl
    exact Ev.no (by omega) (Ev.no (by omega) (Ev.no (by omega) (Ev.yes rfl (Ev.bindc (impl_Lock_code.is hl h1 (by omega)) (Ev.bind (impl_Lock_distance.ev hl hc hs) (Ev.now _))))))
  · rw [if_neg (show ¬ (4 : Int) = 1 by omega), show valV w d 4 b s = Int.tmod (numF d 0 (dg s)) b by simp [valV]]
    exact Ev.no (by omega) (Ev.no (by omega) (Ev.no (by omega) (Ev.no (by omega) (Ev.bind (impl_Lock_number.ev hl hs) (Ev.no (by omega) (Ev.now _))))))
theorem spec_pzFits.ev {w d a b c : Int} (hl : lockB w d = true) {s : ByteArray} (hs : codeS w d s) (h : clueB w d a b c = true) : Ev (fun k => spec_pzFits.f k w d a b c s) (fitV w d (a, b, c) s) := by
  unfold spec_pzFits.f fitV
  by_cases h1 : a = 1
  · rw [if_pos h1]
    exact Ev.yes h1 (Ev.bind (spec_pzValue.ev hl hs (Or.inr (Or.inl rfl))) (Ev.id (beq_of _ _)))
  · rw [if_neg h1]
    refine Ev.no h1 (Ev.bind (spec_pzValue.ev hl hs ?_) (Ev.id (beq_of _ _)))
    rcases clueB_cases h with h | h | h | h | h
    · exact Or.inl h
    · exact absurd h.1 h1
    · exact Or.inr (Or.inr (Or.inl h))
    · exact Or.inr (Or.inr (Or.inr (Or.inl h)))
    · exact Or.inr (Or.inr (Or.inr (Or.inr h)))
theorem told_fit {w d a b c : Int} {s : ByteArray} (h : clueB w d a b c = true) : decide ((if a = 1 then (1, valV w d 1 0 s, 0) else (a, b, valV w d a b s)) = (a, b, c)) = fitV w d (a, b, c) s := by
  unfold fitV
  by_cases h1 : a = 1
  · rw [if_pos h1, if_pos h1]
    rcases clueB_cases h with h | h | h | h | h
    · omega
    · subst h1; rw [h.2]; simp
    · omega
    · omega
    · omega
  · rw [if_neg h1, if_neg h1]; simp
def fitA (w d : Int) (l : List S30) (s : ByteArray) : Bool := l.all fun c => fitV w d (c.f0, c.f1, c.f2) s
theorem impl_Lock_fit.ev {w d : Int} (hl : lockB w d = true) {s : ByteArray} (hs : codeS w d s) (l : List S30) (h : ∀ c ∈ l, clueB w d c.f0 c.f1 c.f2 = true) : Ev (fun k => impl_Lock_fit.f k w d l s) (fitA w d l s) := by
  obtain ⟨K, hK⟩ : ∃ K, ∀ k ≥ K, ∀ c ∈ l, impl_Lock_told.f k w d c.f0 c.f1 s = some (if c.f0 = 1 then (1, valV w d 1 0 s, 0) else (c.f0, c.f1, valV w d c.f0 c.f1 s)) := by
    induction l with
    | nil => exact ⟨0, fun _ _ c hc => by cases hc⟩
    | cons x xs ih =>
      obtain ⟨K1, h1⟩ := ih (fun c hc => h c (List.mem_cons_of_mem _ hc))
      obtain ⟨K2, h2⟩ := impl_Lock_told.ev hl hs (h x (List.mem_cons_self ..))
      refine ⟨max K1 K2, fun k hk c hc => ?_⟩
      rcases List.mem_cons.mp hc with rfl | hc
      · exact h2 k (by omega)
      · exact h1 k (by omega) c hc
  refine ⟨K, fun k hk => ?_⟩
  have hk := hK k hk
  show impl_Lock_fit.f k w d l s = _
  unfold impl_Lock_fit.f
  rw [if_pos (List.all_eq_true.mpr fun c hc => by rw [hk c hc]; rfl)]
  congr 1
  unfold fitA
  rw [Bool.eq_iff_iff, List.all_eq_true, List.all_eq_true]
  have e : ∀ c ∈ l, decide (impl_Lock_told.f k w d c.f0 c.f1 s = some (c.f0, c.f1, c.f2)) = fitV w d (c.f0, c.f1, c.f2) s := by
    intro c hc
    rw [hk c hc, ← told_fit (h c hc)]
    simp
  exact ⟨fun h c hc => by rw [← e c hc]; exact h c hc, fun h c hc => by rw [e c hc]; exact h c hc⟩
def solA (w d : Int) (l : List S30) : Nat → List ByteArray
  | 0 => []
  | n + 1 => solA w d l n ++ if fitA w d l (codeB w d (n : Nat)) = true then [codeB w d (n : Nat)] else []
theorem solA_len (w d : Int) (l : List S30) : ∀ n, (solA w d l n).length ≤ n
  | 0 => by simp [solA]
  | n + 1 => by
    have := solA_len w d l n
    simp only [solA, List.length_append]
    split <;> simp <;> omega
theorem impl_Lock_solutions.lev {w d : Int} (hl : lockB w d = true) (l : List S30) (h : ∀ c ∈ l, clueB w d c.f0 c.f1 c.f2 = true) (N : Nat) (hN : (N : Int) ≤ 1000000) : ∀ (m i : Nat), i + m = N → Ev (fun k => impl_Lock_solutions.l0 k l (solA w d l i) (N : Int) (i : Nat) w d) (solA w d l N) := by
  intro m
  induction m with
  | zero =>
    intro i hi
    refine Ev.step (fun k => rfl) (Ev.no (by omega) (Ev.id ?_))
    rw [show i = N by omega]
  | succ m ih =>
    intro i hi
    have hx := solA_len w d l i
    refine Ev.step (fun k => rfl) (Ev.yes (by omega) (Ev.bindc (impl_Lock_code.is hl (by omega) (by omega)) (Ev.bind (impl_Lock_fit.ev hl (codeB_code hl) l h) ?_)))
    rw [show wrap64 ((i : Int) + 1) = ((i + 1 : Nat) : Int) from w64 (by omega) (by omega)]
    have hh := ih (i + 1) (by omega)
    rw [solA] at hh
    cases hf : fitA w d l (codeB w d (i : Nat)) with
    | true =>
      rw [hf, if_pos rfl] at hh
      exact Ev.yes rfl (Ev.yes (by omega) hh)
    | false =>
      rw [hf, if_neg (by simp), List.append_nil] at hh
      exact Ev.no (by simp) hh
theorem impl_Lock_solutions.ev {w d : Int} (hl : lockB w d = true) (l : List S30) (h : ∀ c ∈ l, clueB w d c.f0 c.f1 c.f2 = true) : Ev (fun k => impl_Lock_solutions.f k w d l) (solA w d l (d ^ w.toNat).toNat) := by
  have hcb := count_bound hl
  unfold impl_Lock_solutions.f
  refine Ev.bind (impl_Lock_count.ev hl) ?_
  have := impl_Lock_solutions.lev hl l h (d ^ w.toNat).toNat (by omega) (d ^ w.toNat).toNat 0 (by omega)
  rw [show (((d ^ w.toNat).toNat : Nat) : Int) = d ^ w.toNat by omega] at this
  exact this
def allC (w d : Int) (n : Nat) : List ByteArray := (List.range n).map fun i => codeB w d (i : Nat)
theorem spec_hiAll.lev {w d : Int} (hl : lockB w d = true) (N : Nat) (hN : (N : Int) = d ^ w.toNat) : ∀ (m i : Nat), i + m = N → Ev (fun k => spec_hiAll.l0 k (allC w d i) (i : Nat) w d) (allC w d N) := by
  have hcb := count_bound hl
  intro m
  induction m with
  | zero =>
    intro i hi
    refine Ev.step (fun k => rfl) (Ev.bind (spec_whCount.ev hl) (Ev.no (by omega) (Ev.id ?_)))
    rw [show i = N by omega]
  | succ m ih =>
    intro i hi
    refine Ev.step (fun k => rfl) (Ev.bind (spec_whCount.ev hl) (Ev.yes (by omega) (Ev.bind (spec_whOf.ev hl (by omega) (by omega)) (Ev.yes (by simp [allC]; omega) ?_))))
    rw [show wrap64 ((i : Int) + 1) = ((i + 1 : Nat) : Int) from w64 (by omega) (by omega)]
    have hh := ih (i + 1) (by omega)
    rw [show allC w d (i + 1) = allC w d i ++ [codeB w d (i : Nat)] by simp [allC, List.range_succ]] at hh
    exact hh
theorem spec_hiAll.ev {w d : Int} (hl : lockB w d = true) : Ev (fun k => spec_hiAll.f k w d) (allC w d (d ^ w.toNat).toNat) := by
  have hcb := count_bound hl
  unfold spec_hiAll.f
  exact spec_hiAll.lev hl (d ^ w.toNat).toNat (by omega) (d ^ w.toNat).toNat 0 (by omega)
theorem spec_pzAll.lev1 {w d : Int} (hl : lockB w d = true) (l : List S30) (hln : l.length ≤ 6) (h : ∀ c ∈ l, clueB w d c.f0 c.f1 c.f2 = true) {s : ByteArray} (hs : codeS w d s) (N i : Nat) (xs : List ByteArray) (r : List ByteArray) (C : List ByteArray)
    (hr : Ev (fun k => if fitA w d l s = true then (if xs.length < 8796093022208 then (spec_pzAll.l0 k l (xs ++ [s]) C (N : Int) (wrap64 ((i : Int) + 1)) w d) else none) else (spec_pzAll.l0 k l xs C (N : Int) (wrap64 ((i : Int) + 1)) w d)) r) : ∀ (m j : Nat) (b : Bool), j + m = l.length → b = (l.take j).all (fun c => fitV w d (c.f0, c.f1, c.f2) s) →
    Ev (fun k => spec_pzAll.l1 k l xs s b C (N : Int) (i : Int) l (l.length : Int) (j : Nat) w d) r := by
  intro m
  induction m with
  | zero =>
    intro j b hj hb
    refine Ev.step (fun k => rfl) (Ev.no (by omega) ?_)
    rw [List.take_of_length_le (by omega)] at hb
    have : b = fitA w d l s := hb
    rw [this]; exact hr
  | succ m ih =>
    intro j b hj hb
    have hlt : j < l.length := by omega
    refine Ev.step (fun k => rfl) (Ev.yes (by omega) (Ev.yes (by omega) (Ev.yes (by omega) ?_)))
    rw [show wrap64 ((j : Int) + 1) = ((j + 1 : Nat) : Int) from w64 (by omega) (by omega), rd_clue (i := (j : Int)) (by simpa using hlt)]
    have ht : (l.take (j + 1)).all (fun c => fitV w d (c.f0, c.f1, c.f2) s) = (b && fitV w d (l[j].f0, l[j].f1, l[j].f2) s) := by
      rw [List.take_succ_eq_append_getElem hlt, List.all_append, ← hb]; simp
    cases hbb : b with
    | true =>
      rw [hbb, Bool.true_and] at ht
      exact Ev.yes rfl (Ev.bind (spec_pzFits.ev hl hs (h _ (List.getElem_mem hlt))) (ih (j + 1) _ (by omega) ht.symm))
    | false =>
      rw [hbb, Bool.false_and] at ht
      exact Ev.no (by simp) (ih (j + 1) _ (by omega) ht.symm)
theorem spec_pzAll.lev {w d : Int} (hl : lockB w d = true) (l : List S30) (hln : l.length ≤ 6) (h : ∀ c ∈ l, clueB w d c.f0 c.f1 c.f2 = true) (N : Nat) (hN : (N : Int) ≤ 1000000) : ∀ (m i : Nat), i + m = N → Ev (fun k => spec_pzAll.l0 k l (solA w d l i) (allC w d N) (N : Int) (i : Nat) w d) (solA w d l N) := by
  intro m
  induction m with
  | zero =>
    intro i hi
    refine Ev.step (fun k => rfl) (Ev.no (by omega) (Ev.id ?_))
    rw [show i = N by omega]
  | succ m ih =>
    intro i hi
    have hx := solA_len w d l i
    have hcl : (allC w d N).length = N := by simp [allC]
    refine Ev.step (fun k => rfl) (Ev.yes (by omega) (Ev.yes (by omega) (Ev.yes (by omega) ?_)))
    have hrd : rdOf ByteArray.empty (allC w d N) (i : Int) = codeB w d (i : Nat) := by
      rw [rdOf_at (by rw [hcl]; omega)]; simp [allC]
    rw [hrd]
    refine spec_pzAll.lev1 hl l hln h (codeB_code hl) N i (solA w d l i) _ (allC w d N) ?_ l.length 0 true (by omega) (by simp)
    rw [show wrap64 ((i : Int) + 1) = ((i + 1 : Nat) : Int) from w64 (by omega) (by omega)]
    have hh := ih (i + 1) (by omega)
    rw [solA] at hh
    cases hf : fitA w d l (codeB w d (i : Nat)) with
    | true =>
      rw [hf, if_pos rfl] at hh
      exact Ev.yes rfl (Ev.yes (by omega) hh)
    | false =>
      rw [hf, if_neg (by simp), List.append_nil] at hh
      exact Ev.no (by simp) hh
theorem spec_pzAll.ev {w d : Int} (hl : lockB w d = true) (l : List S30) (hln : l.length ≤ 6) (h : ∀ c ∈ l, clueB w d c.f0 c.f1 c.f2 = true) : Ev (fun k => spec_pzAll.f k w d l) (solA w d l (d ^ w.toNat).toNat) := by
  have hcb := count_bound hl
  unfold spec_pzAll.f
  refine Ev.bind (spec_hiAll.ev hl) ?_
  have := spec_pzAll.lev hl l hln h (d ^ w.toNat).toNat (by omega) (d ^ w.toNat).toNat 0 (by omega)
  rw [show ((allC w d (d ^ w.toNat).toNat).length : Int) = (((d ^ w.toNat).toNat : Nat) : Int) by simp [allC]]
  exact this
theorem puzzleB_parts {w d : Int} {l : List S30} (h : puzzleB w d l = true) : lockB w d = true ∧ l.length ≤ 6 ∧ ∀ c ∈ l, clueB w d c.f0 c.f1 c.f2 = true := by
  unfold puzzleB at h
  rw [Bool.and_eq_true, Bool.and_eq_true] at h
  exact ⟨smallB_lock h.1.1, of_decide_eq_true h.1.2, fun c hc => List.all_eq_true.mp h.2 c hc⟩
theorem impl_Solutions.ev (w d : Int) (l : List S30) : Ev (fun k => impl_Solutions.f k w d l) (if puzzleB w d l = true then (solA w d l (d ^ w.toNat).toNat, true) else ([], false)) := by
  unfold impl_Solutions.f
  refine Ev.bindc (show impl_IsPuzzle.f w d l = some (puzzleB w d l) from rfl) ?_
  cases h : puzzleB w d l with
  | true =>
    obtain ⟨h1, h2, h3⟩ := puzzleB_parts h
    rw [if_pos rfl]
    exact Ev.yes rfl (Ev.bind (impl_Lock_solutions.ev h1 l h3) (Ev.now _))
  | false =>
    rw [if_neg (by simp)]
    exact Ev.no (by simp) (Ev.now _)
end Go.Proofs.Ytagiekcfnmhgjaa.P

namespace Go.Proofs.Ytagiekcfnmhgjaa.P
open Go.RowKit Go.Proofs.YtagiekcfnmhgjaaW.PrintWords Go.Proofs.YtagiekcfnmhgjaaW.PrintLast Go.Proofs.YtagiekcfnmhgjaaW.PrintMore
attribute [local go_sem] max2_int min2_int max_two min_two max_three min_three max_four min_four   -- for this text's walks alone
set_option linter.unusedVariables false
set_option linter.unusedSimpArgs false

/-! spec's clues: what they come to. -/
theorem spec_pzLock.ev (w d : Int) : Ev (fun k => spec_pzLock.f k w d) (smallB w d 125) := by
  unfold spec_pzLock.f
  exact Ev.bind (spec_hiLock.ev w d 125) (Ev.now _)
theorem spec_pzClue.ev (w d a b c : Int) (hl : lockB w d = true) : Ev (fun k => spec_pzClue.f k w d a b c) (clueB w d a b c) := by
  unfold spec_pzClue.f clueB
  obtain ⟨w1, w2, d1, d2⟩ := lockB_iff.mp hl
  have hc := count_bound hl
  simp only [spec_l1In.is, Option.bind_some, w64 (x := w - 1) (by omega) (by omega), w64 (x := d - 1) (by omega) (by omega)]
  refine Ev.both (fun e => ?_) (fun e => ?_)
  · rw [if_pos e]
    exact Ev.both (fun h => Ev.id (by simp [of_decide_eq_true h])) (fun h => Ev.id (by have := decide_eq_false_iff_not.mp (Bool.eq_false_iff.mpr h); simp [this]))
  rw [if_neg e]
  refine Ev.both (fun e => ?_) (fun e => ?_)
  · rw [if_pos e]
    exact Ev.both (fun h => Ev.id (by simp [of_decide_eq_true h])) (fun h => Ev.id (by have := decide_eq_false_iff_not.mp (Bool.eq_false_iff.mpr h); simp [this]))
  rw [if_neg e]
  refine Ev.both (fun e => ?_) (fun e => ?_)
  · rw [if_pos e]
    refine Ev.bind (spec_whCount.ev hl) ?_
    rw [w64 (x := d ^ w.toNat - 1) (by omega) (by omega)]
    exact Ev.both (fun h => Ev.id (by simp [of_decide_eq_true h])) (fun h => Ev.id (by have := decide_eq_false_iff_not.mp (Bool.eq_false_iff.mpr h); simp [this]))
  rw [if_neg e]
  refine Ev.both (fun e => ?_) (fun e => ?_)
  · rw [if_pos e]
    refine Ev.bind (spec_whCount.ev hl) ?_
    rw [w64 (x := d ^ w.toNat - 1) (by omega) (by omega)]
    exact Ev.both (fun h => Ev.id (by simp [of_decide_eq_true h])) (fun h => Ev.id (by have := decide_eq_false_iff_not.mp (Bool.eq_false_iff.mpr h); simp [this]))
  rw [if_neg e]
  refine Ev.both (fun e => ?_) (fun e => ?_)
  · rw [if_pos e]
    refine Ev.both (fun h => ?_) (fun h => Ev.id (by have := decide_eq_false_iff_not.mp (Bool.eq_false_iff.mpr h); simp [this]))
    have h' := of_decide_eq_true h
    rw [w64 (x := b - 1) (by omega) (by omega)]
    exact Ev.id (by simp [h'])
  rw [if_neg e]
  exact Ev.id (by simp)
end Go.Proofs.Ytagiekcfnmhgjaa.P

namespace Go.Proofs.Ytagiekcfnmhgjaa.P
open Go.RowKit Go.Proofs.YtagiekcfnmhgjaaW.PrintWords Go.Proofs.YtagiekcfnmhgjaaW.PrintLast Go.Proofs.YtagiekcfnmhgjaaW.PrintMore
attribute [local go_sem] max2_int min2_int max_two min_two max_three min_three max_four min_four   -- for this text's walks alone
set_option linter.unusedVariables false
set_option linter.unusedSimpArgs false

/-! spec's puzzles: what they come to. -/
theorem spec_pzGood.lev (w d : Int) (hl : lockB w d = true) (l : List S30) (hn : l.length ≤ 9223372036854775807) : ∀ (j : Nat) (i : Int), 0 ≤ i → i ≤ l.length → (l.length : Int) - i = j →
    Ev (fun k => spec_pzGood.l0 k l (l.length : Int) i w d l) ((l.drop i.toNat).all fun c => clueB w d c.f0 c.f1 c.f2) := by
  intro j
  induction j with
  | zero =>
    intro i h0 hi hj
    refine Ev.step (fun k => rfl) (Ev.no (by omega) (Ev.id ?_))
    rw [List.drop_eq_nil_of_le (by omega)]; rfl
  | succ j ih =>
    intro i h0 hi hj
    have hlt : i.toNat < l.length := by omega
    refine Ev.step (fun k => rfl) (Ev.yes (by omega) (Ev.yes h0 (Ev.yes (by omega) ?_)))
    refine Ev.bind (spec_pzClue.ev w d _ _ _ hl) ?_
    rw [List.drop_eq_getElem_cons hlt, List.all_cons, ← rd_clue hlt]
    cases clueB w d (rd_T30 l i).f0 (rd_T30 l i).f1 (rd_T30 l i).f2 with
    | false => exact Ev.no (by simp) (Ev.id (by simp))
    | true =>
      refine Ev.yes rfl ?_
      rw [w64 (x := i + 1) (by omega) (by omega), Bool.true_and, ← toNat_succ h0]
      exact ih (i + 1) (by omega) (by omega) (by omega)
theorem spec_pzGood.ev (w d : Int) (l : List S30) (hn : l.length ≤ 9223372036854775807) : Ev (fun k => spec_pzGood.f k w d l) (puzzleB w d l) := by
  unfold spec_pzGood.f puzzleB
  refine Ev.bind (spec_pzLock.ev w d) ?_
  cases h : smallB w d 125 with
  | false =>
    refine Ev.no (by simp) (Ev.step (fun k => rfl) ?_)
    simp only [spec_pzGood.j0]
    exact Ev.id (by simp)
  | true =>
    refine Ev.yes rfl (Ev.step (fun k => rfl) ?_)
    simp only [spec_pzGood.j0]
    by_cases h6 : l.length ≤ 6
    · refine Ev.no (by simp; omega) ?_
      have := spec_pzGood.lev w d (smallB_lock h) l hn l.length 0 (by omega) (by omega) (by omega)
      simpa [h6] using this
    · exact Ev.yes (by simp; omega) (Ev.id (by simp [h6]))
end Go.Proofs.Ytagiekcfnmhgjaa.P

namespace Go.Proofs.Ytagiekcfnmhgjaa.P
open Go.RowKit Go.Proofs.YtagiekcfnmhgjaaW.PrintWords Go.Proofs.YtagiekcfnmhgjaaW.PrintLast Go.Proofs.YtagiekcfnmhgjaaW.PrintMore
attribute [local go_sem] max2_int min2_int max_two min_two max_three min_three max_four min_four   -- for this text's walks alone
set_option linter.unusedVariables false
set_option linter.unusedSimpArgs false

/-! What a readable argument holds, told by kinds: the bridge from a statement's reading to the print's words. -/
open Go.WideShapes in
def Opens {α : Type} (P : Program) (t : TypeId) (d : Kd α) (V : α → Prop) : Prop :=
  ∀ (H : Type) (enc : TypeId × Value → H) (w : World) (base : Nat) (spare : Nat → Bool) (held : Bool) (fuel : Nat) (cs : List Value) (x : DataW H × List MemPlace),
    DataW.trod enc P w base spare held fuel t cs = some x → ∃ a : α, d.K w a cs ∧ V a
def IntV (a : Int) : Prop := -9223372036854775808 ≤ a ∧ a ≤ 9223372036854775807
def StrV (s : ByteArray) : Prop := s.size ≤ 9223372036854775807
def ListV {α : Type} (V : α → Prop) (l : List α) : Prop := l.length ≤ 9223372036854775807 ∧ ∀ x ∈ l, V x
theorem opens_int {P : Program} {t : TypeId} (ht : P.underlying t = some (.int .i64)) : Opens P t (Kd.int .i64) IntV := by
  intro H enc w base spare held fuel cs x h
  obtain ⟨n, rfl, _, hw⟩ := DataW.trod_int ht h
  refine ⟨n, rfl, ?_⟩
  have hb : (IntKind.i64.min ≤ n ∧ n ≤ IntKind.i64.max) := by simpa [Lit.wf] using hw
  have e1 : IntKind.i64.min = -9223372036854775808 := rfl
  have e2 : IntKind.i64.max = 9223372036854775807 := rfl
  rw [e1, e2] at hb
  unfold IntV
  omega
theorem opens_bool {P : Program} {t : TypeId} (ht : P.underlying t = some .bool) : Opens P t Kd.bool (fun _ => True) := by
  intro H enc w base spare held fuel cs x h
  obtain ⟨n, rfl, _⟩ := DataW.trod_bool ht h
  exact ⟨n, rfl, trivial⟩
theorem opens_string {P : Program} {t : TypeId} (ht : P.underlying t = some .string) : Opens P t Kd.string StrV := by
  intro H enc w base spare held fuel cs x h
  obtain ⟨n, rfl, _, hw⟩ := DataW.trod_string ht h
  unfold maxLen at hw
  exact ⟨n, rfl, hw⟩
theorem cells_list {w : World} {base : Nat} {a : Addr} {n : Nat} {cs : List Value} (h : w.cells? base a n = some cs) : cs.length = n ∧ ∀ i u, cs[i]? = some u → w.cell? (a.add i) = some u := by
  unfold World.cells? at h
  split at h
  · have hl := mapM_some_length h
    refine ⟨by simpa using hl, fun i u hu => ?_⟩
    have hi : i < n := by
      have := (List.getElem?_eq_some_iff.1 hu).1
      rw [hl] at this; simpa using this
    have := mapM_some_get h i i (by simp [hi])
    rw [hu] at this
    exact this
  · cases h
theorem opens_slice {α : Type} {P : Program} {t e : TypeId} {d : Kd α} {V : α → Prop} (ht : P.underlying t = some (.slice e)) (hd : Opens P e d V) (hsz : P.cellsOf e = d.sz) : Opens P t (Kd.slice e d) (ListV V) := by
  intro H enc w base spare held fuel cs x h
  rcases Go.Deep.open_slice ht h with ⟨rfl, _⟩ | ⟨a, len, cap, m, n, D, Pl, rfl, _, hl, hm, hmm, _, hel⟩
  · exact ⟨[], ⟨none, 0, rfl, Nat.le_refl _, ⟨rfl, by simp, fun h0 => absurd h0 (by simp)⟩⟩, ⟨by simp, fun x hx => by simp at hx⟩⟩
  · have hle : len ≤ m := by rw [hmm]; split <;> omega
    have each : ∀ i : Nat, ∃ a' : Option α, i < len → ∃ z cs', a' = some z ∧ V z ∧ d.K w z cs' ∧ ∀ j u, cs'[j]? = some u → w.cell? (a.add (i * d.sz + j)) = some u := by
      intro i
      by_cases hi : i < len
      · obtain ⟨cs', h1, h2⟩ := hel i (by omega)
        obtain ⟨z, hK, hV⟩ := hd H enc w base spare held n cs' _ h2
        refine ⟨some z, fun _ => ⟨z, cs', rfl, hV, hK, fun j u hu => ?_⟩⟩
        obtain ⟨_, hc⟩ := cells_list h1
        have := hc j u hu
        rw [Go.Deep.add_add, hsz] at this
        exact this
      · exact ⟨none, fun h0 => absurd h0 hi⟩
    have ⟨f, hf⟩ := Classical.axiomOfChoice each
    have hz : ∀ i, i < len → ∃ z, f i = some z ∧ V z ∧ ∃ cs', d.K w z cs' ∧ ∀ j u, cs'[j]? = some u → w.cell? (a.add (i * d.sz + j)) = some u := by
      intro i hi
      obtain ⟨z, cs', h1, h2, h3, h4⟩ := hf i hi
      exact ⟨z, h1, h2, cs', h3, h4⟩
    have hlist : ∃ l : List α, l.length = len ∧ ∀ i, i < len → f i = l[i]? := by
      clear hf each hel hmm hle
      have : ∀ n, n ≤ len → ∃ l : List α, l.length = n ∧ ∀ i, i < n → f i = l[i]? := by
        intro n
        induction n with
        | zero => intro _; exact ⟨[], rfl, fun i hi => by omega⟩
        | succ n ih =>
          intro hn
          obtain ⟨l, hl1, hl2⟩ := ih (by omega)
          obtain ⟨z, h1, _⟩ := hz n (by omega)
          refine ⟨l ++ [z], by simp [hl1], fun i hi => ?_⟩
          by_cases e : i < n
          · rw [List.getElem?_append_left (by omega)]; exact hl2 i e
          · obtain rfl : i = n := by omega
            rw [h1, ← hl1]; simp
      exact this len (Nat.le_refl _)
    obtain ⟨l, hlen, hget⟩ := hlist
    have hV : ∀ x ∈ l, V x := by
      intro x hx
      obtain ⟨i, hi, rfl⟩ := List.getElem_of_mem hx
      obtain ⟨z, h1, h2, _⟩ := hz i (by omega)
      have h3 := hget i (by omega)
      rw [h1, List.getElem?_eq_getElem hi] at h3
      injection h3 with h3
      rw [← h3]; exact h2
    unfold maxLen at hm
    subst hlen
    refine ⟨l, ⟨some a, cap, rfl, hl, ⟨rfl, by omega, fun _ => ⟨a, rfl, fun j p hp => ?_⟩⟩⟩, ⟨by omega, hV⟩⟩
    have hj : j < l.length := (List.getElem?_eq_some_iff.1 hp).1
    obtain ⟨z, h1, _, cs', h3, h4⟩ := hz j hj
    have h5 := hget j hj
    rw [h1, hp] at h5
    injection h5 with h5
    subst h5
    exact ⟨cs', d.K_len h3, h3, h4⟩
theorem opens_pair {α β : Type} {P : Program} {t : TypeId} {f0 f1 : Field} {d0 : Kd α} {d1 : Kd β} {V0 : α → Prop} {V1 : β → Prop} (ht : P.underlying t = some (.struct #[f0, f1]))
    (h0 : Opens P f0.type d0 V0) (h1 : Opens P f1.type d1 V1) (o0 : f0.offset = 0) (o1 : f1.offset = d0.sz) (z0 : P.cellsOf f0.type = d0.sz) (z1 : P.cellsOf f1.type = d1.sz) (zt : P.cellsOf t = d0.sz + d1.sz) :
    Opens P t (Kd.pair d0 d1) (fun x => V0 x.1 ∧ V1 x.2) := by
  intro H enc w base spare held fuel cs x h
  obtain ⟨y0, y1, n, _, hl, g0, g1⟩ := ChangeShapes.trod_struct2 ht h
  rw [o0, z0, List.drop_zero] at g0
  rw [o1, z1] at g1
  obtain ⟨a, ka, va⟩ := h0 H enc w base spare held n _ _ g0
  obtain ⟨b, kb, vb⟩ := h1 H enc w base spare held n _ _ g1
  refine ⟨(a, b), ⟨_, _, ?_, ka, kb⟩, va, vb⟩
  rw [List.take_of_length_le (l := cs.drop d0.sz) (by rw [List.length_drop, hl, zt]; omega), List.take_append_drop]
theorem opens_trip {α β γ : Type} {P : Program} {t : TypeId} {f0 f1 f2 : Field} {d0 : Kd α} {d1 : Kd β} {d2 : Kd γ} {V0 : α → Prop} {V1 : β → Prop} {V2 : γ → Prop} (ht : P.underlying t = some (.struct #[f0, f1, f2]))
    (h0 : Opens P f0.type d0 V0) (h1 : Opens P f1.type d1 V1) (h2 : Opens P f2.type d2 V2) (o0 : f0.offset = 0) (o1 : f1.offset = d0.sz) (o2 : f2.offset = d0.sz + d1.sz)
    (z0 : P.cellsOf f0.type = d0.sz) (z1 : P.cellsOf f1.type = d1.sz) (z2 : P.cellsOf f2.type = d2.sz) (zt : P.cellsOf t = d0.sz + d1.sz + d2.sz) :
    Opens P t (Kd.pair d0 (Kd.pair d1 d2)) (fun x => V0 x.1 ∧ V1 x.2.1 ∧ V2 x.2.2) := by
  intro H enc w base spare held fuel cs x h
  obtain ⟨xs, n, _, _, hl, hxl, hf⟩ := DataW.trod_struct ht h
  match xs, hxl with
  | [y0, y1, y2], _ =>
    have g0 := hf 0 f0 rfl
    have g1 := hf 1 f1 rfl
    have g2 := hf 2 f2 rfl
    rw [o0, z0, List.drop_zero] at g0
    rw [o1, z1] at g1
    rw [o2, z2] at g2
    obtain ⟨a, ka, va⟩ := h0 H enc w base spare held n _ _ g0
    obtain ⟨b, kb, vb⟩ := h1 H enc w base spare held n _ _ g1
    obtain ⟨c, kc, vc⟩ := h2 H enc w base spare held n _ _ g2
    refine ⟨(a, b, c), ⟨_, _, ?_, ka, ⟨_, _, rfl, kb, kc⟩⟩, va, vb, vc⟩
    rw [List.take_of_length_le (l := cs.drop (d0.sz + d1.sz)) (by rw [List.length_drop, hl, zt]; omega)]
    rw [← List.drop_drop, List.take_append_drop, List.take_append_drop]
theorem opens_iso {α β : Type} {P : Program} {t : TypeId} {d : Kd α} {V : α → Prop} (h : Opens P t d V) (f : β → α) (g : α → β) (e : ∀ a, f (g a) = a) : Opens P t (Kd.iso d f) (fun x => V (f x)) := by
  intro H enc w base spare held fuel cs x hx
  obtain ⟨a, ka, va⟩ := h H enc w base spare held fuel cs x hx
  exact ⟨g a, by show d.K w (f (g a)) cs; rw [e]; exact ka, by show V (f (g a)); rw [e]; exact va⟩
theorem opens_mono {α : Type} {P : Program} {t : TypeId} {d : Kd α} {V V' : α → Prop} (h : Opens P t d V) (hv : ∀ a, V a → V' a) : Opens P t d V' := by
  intro H enc w base spare held fuel cs x hx
  obtain ⟨a, ka, va⟩ := h H enc w base spare held fuel cs x hx
  exact ⟨a, ka, hv a va⟩
section
variable {H : Type} {enc : TypeId × Value → H} {P : Program} {w : World} {base : Nat} {spare : Nat → Bool} {held : Bool} {r : Reach} {b0 : Nat} {t : TypeId} {v : Value} {x : DataW H} {p : List MemPlace}
theorem arg_struct {α : Type} {d : Kd α} {V : α → Prop} (ho : Opens P t d V) {fs : Array Field} (hs : P.underlying t = some (.struct fs)) (hv : Value.okWide P w r b0 t v) (h : DataW.Trod enc P w base spare held t v x p) :
    ∃ a cs, v = .agg (List.toArray cs) ∧ d.K w a cs ∧ V a := by
  obtain ⟨cs, rfl, _⟩ := WideShapes.okWide_struct hs hv
  obtain ⟨fuel, hf⟩ := h
  obtain ⟨a, hk, hV⟩ := ho H enc w base spare held fuel _ _ hf
  exact ⟨a, cs.toList, by simp, by simpa [Value.cells] using hk, hV⟩
theorem arg_slice {α : Type} {d : Kd α} {e : TypeId} {V : List α → Prop} (ho : Opens P t (Kd.slice e d) V) (ht : P.underlying t = some (.slice e)) (hv : Value.okWide P w r b0 t v) (h : DataW.Trod enc P w base spare held t v x p) :
    ∃ A l c, v = .slice A (List.length l) c ∧ l.length ≤ c ∧ d.C w A l.length l ∧ V l := by
  obtain ⟨a, len, cap, rfl⟩ := WideShapes.okWide_slice ht hv
  obtain ⟨fuel, hf⟩ := h
  obtain ⟨l, ⟨A, c, hc, hl, hC⟩, hV⟩ := ho H enc w base spare held fuel _ _ hf
  simp only [Value.cells, List.cons.injEq, and_true] at hc
  injection hc with e1 e2 e3
  subst e1 e2 e3
  exact ⟨_, l, _, rfl, hl, hC, hV⟩
theorem arg_int (ht : P.underlying t = some (.int .i64)) (hv : Value.okWide P w r b0 t v) (h : DataW.Trod enc P w base spare held t v x p) : ∃ a, v = .int .i64 a ∧ IntV a := by
  obtain ⟨a, rfl, _, _, hw⟩ := ChangeShapes.open_int ht hv h
  have hb : (IntKind.i64.min ≤ a ∧ a ≤ IntKind.i64.max) := by simpa [Lit.wf] using hw
  exact ⟨a, rfl, hb.1, hb.2⟩
theorem arg_bool (ht : P.underlying t = some .bool) (hv : Value.okWide P w r b0 t v) (h : DataW.Trod enc P w base spare held t v x p) : ∃ a, v = .bool a := by
  obtain ⟨a, rfl, _, _⟩ := RowKit.open_bool ht hv h
  exact ⟨a, rfl⟩
theorem arg_string (ht : P.underlying t = some .string) (hv : Value.okWide P w r b0 t v) (h : DataW.Trod enc P w base spare held t v x p) : ∃ a, v = .string a ∧ StrV a := by
  obtain ⟨a, rfl, _, _, hw⟩ := ChangeMaps.open_string ht hv h
  unfold maxLen at hw
  exact ⟨a, rfl, hw⟩
theorem arg_lt (h : DataW.Trod enc P w base spare held t v x p) : ∀ y ∈ p, y.block < w.heap.size := by
  obtain ⟨m, hm⟩ := h
  exact DataW.trod_lt m _ _ _ hm
end
end Go.Proofs.Ytagiekcfnmhgjaa.P

namespace Go.Proofs.Ytagiekcfnmhgjaa.P
open Go.RowKit Go.Proofs.YtagiekcfnmhgjaaW.PrintWords Go.Proofs.YtagiekcfnmhgjaaW.PrintLast Go.Proofs.YtagiekcfnmhgjaaW.PrintMore
attribute [local go_sem] max2_int min2_int max_two min_two max_three min_three max_four min_four   -- for this text's walks alone
set_option linter.unusedVariables false
set_option linter.unusedSimpArgs false

theorem opens_t3 : Opens Try.prog 3 (Kd.int .i64) IntV := opens_int Try.underlying3
def V23 (x : S23) : Prop := IntV x.f0 ∧ IntV x.f1
theorem opens_t23 : Opens Try.prog 23 k23 V23 := opens_iso (opens_pair Try.underlying23 opens_t3 opens_t3 (by kernel_rfl) (by kernel_rfl) (by kernel_rfl) (by kernel_rfl) (by kernel_rfl)) (fun x : S23 => (x.f0, x.f1)) (fun p => ⟨p.1, p.2⟩) (fun _ => rfl)
def V25 (x : S25) : Prop := IntV x.f0 ∧ IntV x.f1 ∧ IntV x.f2
theorem opens_t25 : Opens Try.prog 25 k25 V25 := opens_iso (opens_trip Try.underlying25 opens_t3 opens_t3 opens_t3 (by kernel_rfl) (by kernel_rfl) (by kernel_rfl) (by kernel_rfl) (by kernel_rfl) (by kernel_rfl) (by kernel_rfl)) (fun x : S25 => (x.f0, x.f1, x.f2)) (fun p => ⟨p.1, p.2.1, p.2.2⟩) (fun _ => rfl)
theorem opens_t9 : Opens Try.prog 9 Kd.string StrV := opens_string Try.underlying9
theorem opens_t41 : Opens Try.prog 41 (Kd.slice 25 k25) (ListV V25) := opens_slice Try.underlying41 opens_t25 (by kernel_rfl)
def V43 (x : S43) : Prop := V23 x.f0 ∧ (ListV V25) x.f1
theorem opens_t43 : Opens Try.prog 43 k43 V43 := opens_iso (opens_pair Try.underlying43 opens_t23 opens_t41 (by kernel_rfl) (by kernel_rfl) (by kernel_rfl) (by kernel_rfl) (by kernel_rfl)) (fun x : S43 => (x.f0, x.f1)) (fun p => ⟨p.1, p.2⟩) (fun _ => rfl)
end Go.Proofs.Ytagiekcfnmhgjaa.P

namespace Go.Proofs.Ytagiekcfnmhgjaa.P
open Go.RowKit Go.Proofs.YtagiekcfnmhgjaaW.PrintWords Go.Proofs.YtagiekcfnmhgjaaW.PrintLast Go.Proofs.YtagiekcfnmhgjaaW.PrintMore
attribute [local go_sem] max2_int min2_int max_two min_two max_three min_three max_four min_four   -- for this text's walks alone
set_option linter.unusedVariables false
set_option linter.unusedSimpArgs false

/-! The law FnExactBestClue, over numbers and lists alone. -/
def bestV (f : Nat → Int) : Nat → Nat → Int → Int → Int
  | 0, _, b, _ => b
  | m + 1, i, b, x => if f i < x then bestV f m (i + 1) (i : Nat) (f i) else bestV f m (i + 1) b x
def oneV (w d : Int) (l : List S30) (i : Nat) : Int := ((solA w d ((l.take (i + 1)).drop i) (d ^ w.toNat).toNat).length : Int)
theorem one_ok {w d : Int} {l : List S30} (h : ∀ c ∈ l, clueB w d c.f0 c.f1 c.f2 = true) (i : Nat) : ∀ c ∈ (l.take (i + 1)).drop i, clueB w d c.f0 c.f1 c.f2 = true :=
  fun c hc => h c (List.mem_of_mem_take (List.mem_of_mem_drop hc))
theorem impl_BestClue.lev {w d : Int} (hl : lockB w d = true) (l : List S30) (h6 : l.length ≤ 6) (h : ∀ c ∈ l, clueB w d c.f0 c.f1 c.f2 = true) : ∀ (m i : Nat) (b x : Int), i + m = l.length → Ev (fun k => impl_BestClue.l0 k b x (l.length : Int) (i : Nat) w d l) (bestV (oneV w d l) m i b x, true) := by
  intro m
  induction m with
  | zero =>
    intro i b x hi
    exact Ev.step (fun k => rfl) (Ev.no (by omega) (Ev.now _))
  | succ m ih =>
    intro i b x hi
    have hw : wrap64 ((i : Int) + 1) = ((i + 1 : Nat) : Int) := w64 (by omega) (by omega)
    refine Ev.step (fun k => rfl) (Ev.yes (by omega) (Ev.yes (by omega) ?_))
    rw [hw]
    refine Ev.yes (by omega) (Ev.yes (by omega) ?_)
    rw [Int.toNat_natCast, Int.toNat_natCast]
    refine Ev.bind (impl_Lock_solutions.ev hl _ (one_ok h i)) ?_
    show Ev _ (if oneV w d l i < x then _ else _, true)
    by_cases e : oneV w d l i < x
    · rw [if_pos e]; exact Ev.yes e (ih (i + 1) _ _ (by omega))
    · rw [if_neg e]; exact Ev.no e (ih (i + 1) _ _ (by omega))
theorem spec_BestClue.lev {w d : Int} (hl : lockB w d = true) (l : List S30) (h6 : l.length ≤ 6) (h : ∀ c ∈ l, clueB w d c.f0 c.f1 c.f2 = true) : ∀ (m i : Nat) (b x : Int), i + m = l.length → (i = 0 → oneV w d l 0 < x) → Ev (fun k => spec_BestClue.l0 k b (if i = 0 then 0 else x) (l.length : Int) (i : Nat) w d l) (bestV (oneV w d l) m i b x, true) := by
  intro m
  induction m with
  | zero =>
    intro i b x hi h0
    exact Ev.step (fun k => rfl) (Ev.no (by omega) (Ev.now _))
  | succ m ih =>
    intro i b x hi h0
    have hw : wrap64 ((i : Int) + 1) = ((i + 1 : Nat) : Int) := w64 (by omega) (by omega)
    refine Ev.step (fun k => rfl) (Ev.yes (by omega) (Ev.yes (by omega) ?_))
    rw [hw]
    refine Ev.yes (by omega) (Ev.yes (by omega) ?_)
    rw [Int.toNat_natCast, Int.toNat_natCast]
    refine Ev.bind (spec_pzAll.ev hl _ (by rw [List.length_drop, List.length_take]; omega) (one_ok h i)) ?_
    show Ev _ (if oneV w d l i < x then _ else _, true)
    by_cases hz : i = 0
    · subst hz
      rw [if_pos (h0 rfl)]
      exact Ev.yes rfl (ih 1 _ _ (by omega) (by omega))
    · rw [if_neg hz]
      refine Ev.no (by omega) ?_
      by_cases e : oneV w d l i < x
      · rw [if_pos e]; exact Ev.yes e (ih (i + 1) _ _ (by omega) (by omega))
      · rw [if_neg e]; exact Ev.no e (ih (i + 1) _ _ (by omega) (by omega))
def bestR (w d : Int) (l : List S30) : Int × Bool := if puzzleB w d l = true then (if l.length = 0 then (0, false) else (bestV (oneV w d l) l.length 0 0 (d ^ w.toNat + 1), true)) else (0, false)
theorem impl_BestClue.ev (w d : Int) (l : List S30) : Ev (fun k => impl_BestClue.f k w d l) (bestR w d l) := by
  unfold impl_BestClue.f bestR
  refine Ev.bindc (show impl_IsPuzzle.f w d l = some (puzzleB w d l) from rfl) ?_
  cases h : puzzleB w d l with
  | true =>
    obtain ⟨h1, h2, h3⟩ := puzzleB_parts h
    have hcb := count_bound h1
    rw [if_pos rfl]
    refine Ev.yes rfl (Ev.step (fun k => rfl) ?_)
    simp only [impl_BestClue.j0]
    by_cases e : l.length = 0
    · rw [if_pos e]; exact Ev.yes (by simp [e]) (Ev.now _)
    · rw [if_neg e]
      refine Ev.no (by simp; intro h; exact e (by rw [h]; rfl)) (Ev.bind (impl_Lock_count.ev h1) ?_)
      rw [w64 (x := d ^ w.toNat + 1) (by omega) (by omega)]
      exact impl_BestClue.lev h1 l h2 h3 l.length 0 0 _ (by omega)
  | false =>
    rw [if_neg (by simp)]
    refine Ev.no (by simp) (Ev.step (fun k => rfl) ?_)
    simp only [impl_BestClue.j0]
    exact Ev.yes trivial (Ev.now _)
theorem spec_BestClue.ev (w d : Int) (l : List S30) (hn : l.length ≤ 9223372036854775807) : Ev (fun k => spec_BestClue.f k w d l) (bestR w d l) := by
  unfold spec_BestClue.f bestR
  refine Ev.bind (spec_pzGood.ev w d l hn) ?_
  cases h : puzzleB w d l with
  | true =>
    obtain ⟨h1, h2, h3⟩ := puzzleB_parts h
    have hcb := count_bound h1
    rw [if_pos rfl]
    refine Ev.yes rfl (Ev.step (fun k => rfl) ?_)
    simp only [spec_BestClue.j0]
    by_cases e : l.length = 0
    · rw [if_pos e]; exact Ev.yes (by simp [e]) (Ev.now _)
    · rw [if_neg e]
      refine Ev.no (by simp; intro h; exact e (by rw [h]; rfl)) ?_
      have := spec_BestClue.lev h1 l h2 h3 l.length 0 0 (d ^ w.toNat + 1) (by omega) (fun _ => by
        have := solA_len w d ((l.take (0 + 1)).drop 0) (d ^ w.toNat).toNat
        unfold oneV; omega)
      rw [if_pos rfl] at this
      exact this
  | false =>
    rw [if_neg (by simp)]
    refine Ev.no (by simp) (Ev.step (fun k => rfl) ?_)
    simp only [spec_BestClue.j0]
    exact Ev.yes trivial (Ev.now _)
theorem pure_FnExactBestClue (p : S43) (hp : V43 p) : ∃ k, laws_FnExactBestClue.f k p.f0.f0 p.f0.f1 p.f1 = some true := by
  refine Ev.rounds ?_
  obtain ⟨_, hn, _⟩ := hp
  unfold laws_FnExactBestClue.f
  refine Ev.bindc (laws_szPuzzle.is _ _ _ hn) ?_
  by_cases hl : (p.f1.length : Int) ≤ 1048576
  · rw [if_pos hl]
    refine Ev.no (by omega) ?_
    refine Ev.bind (laws_toPuzzle.ev _ _ _ (by omega)) ?_
    refine Ev.bind (spec_BestClue.ev _ _ _ (by simpa using hn)) ?_
    refine Ev.bind (laws_toPuzzle.ev _ _ _ (by omega)) ?_
    refine Ev.bind (impl_BestClue.ev _ _ _) ?_
    refine Ev.yes rfl (Ev.step (fun k => rfl) ?_)
    simp only [laws_FnExactBestClue.j0]
    refine Ev.no (by simp) ?_
    refine Ev.bind (laws_toPuzzle.ev _ _ _ (by omega)) ?_
    exact Ev.bind (laws_eqPuzzle.ev _ _ _ (by simpa using hn)) (Ev.yes rfl (Ev.now _))
  · rw [if_neg hl]
    exact Ev.yes (by omega) (Ev.now _)
end Go.Proofs.Ytagiekcfnmhgjaa.P
