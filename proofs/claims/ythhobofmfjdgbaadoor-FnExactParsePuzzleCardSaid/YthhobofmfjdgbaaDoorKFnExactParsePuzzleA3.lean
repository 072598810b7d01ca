import Derived.Test.YthhobofmfjdgbaaDoorKFnExactParsePuzzleA0
import Derived.Test.YthhobofmfjdgbaaDoorKFnExactParsePuzzleA1
import Derived.Test.YthhobofmfjdgbaaDoorKFnExactParsePuzzleA2
namespace Go.Proofs.YthhobofmfjdgbaaDoor.P
open Go.RowKit Go.Proofs.YthhobofmfjdgbaaDoorW.PrintWords Go.Proofs.YthhobofmfjdgbaaDoorW.PrintLast Go.Proofs.YthhobofmfjdgbaaDoorW.PrintMore
attribute [local go_sem] max2_int min2_int max_two min_two max_three min_three max_four min_four
set_option linter.unusedVariables false
set_option linter.unusedSimpArgs false
/-! ### spec_pzParse: function 48 -/
mutual
def spec_pzParse.j0 : Nat → ByteArray → List ByteArray → Bool → Option (Int × Int × (List (S77)) × Bool)
  | 0, _, _, _ => none
  | k + 1, x0, x4, x19 => if x19 = true then (some (0, 0, ([] : List (S77)), false)) else (if 0 < (x4.length : Int) then ((spec_l1Split.f k (rdOf ByteArray.empty x4 0) 120).bind fun t323 => (if (t323.length : Int) = 2 then (if 0 < (t323.length : Int) then ((spec_l1Read.f k (rdOf ByteArray.empty t323 0)).bind fun t327 => (if 1 < (t323.length : Int) then ((spec_l1Read.f k (rdOf ByteArray.empty t323 1)).bind fun t329 => (if 1 < (x4.length : Int) then (if ((rdOf ByteArray.empty x4 1).size : Int) > 0 then ((spec_l1Split.f k (rdOf ByteArray.empty x4 1) 44).bind fun t333 => (spec_pzParse.l0 k x0 t333 (t333.length : Int) 0 t327 t329 ([] : List (S77)))) else ((spec_pzGood.f k t327 t329 ([] : List (S77))).bind fun t351 => (if t351 = true then ((spec_pzText.f k t327 t329 ([] : List (S77))).bind fun t352 => (some (t327, t329, ([] : List (S77)), (t352.toList == x0.toList)))) else (some (t327, t329, ([] : List (S77)), false))))) else (none))) else (none))) else (none)) else (some (0, 0, ([] : List (S77)), false)))) else (none))
def spec_pzParse.l0 : Nat → ByteArray → List ByteArray → Int → Int → Int → Int → List (S77) → Option (Int × Int × (List (S77)) × Bool)
  | 0, _, _, _, _, _, _, _ => none
  | k + 1, x0, x47, x48, x49, x331000, x331001, x331002 => if x49 < x48 then (if 0 ≤ x49 then (if x49 < (x47.length : Int) then ((spec_l1Split.f k (rdOf ByteArray.empty x47 x49) 46).bind fun t339 => (if (t339.length : Int) = 3 then (if 0 < (t339.length : Int) then ((spec_l1Read.f k (rdOf ByteArray.empty t339 0)).bind fun t343 => (if 1 < (t339.length : Int) then ((spec_l1Read.f k (rdOf ByteArray.empty t339 1)).bind fun t345 => (if 2 < (t339.length : Int) then ((spec_l1Read.f k (rdOf ByteArray.empty t339 2)).bind fun t347 => (if x331002.length < 5864062014805 then (spec_pzParse.l0 k x0 x47 x48 (wrap64 (x49 + 1)) x331000 x331001 (x331002 ++ [(⟨t343, t345, t347⟩ : S77)])) else (none))) else (none))) else (none))) else (none)) else (some (0, 0, ([] : List (S77)), false)))) else (none)) else (none)) else ((spec_pzGood.f k x331000 x331001 x331002).bind fun t336 => (if t336 = true then ((spec_pzText.f k x331000 x331001 x331002).bind fun t337 => (some (x331000, x331001, x331002, (t337.toList == x0.toList)))) else (some (x331000, x331001, x331002, false))))
end
def spec_pzParse.f (k : Nat) (a0 : ByteArray) : Option (Int × Int × (List (S77)) × Bool) := (spec_l1Split.f k a0 58).bind fun t319 => (if (a0.size : Int) > 100 then (spec_pzParse.j0 k a0 t319 true) else (spec_pzParse.j0 k a0 t319 ((t319.length : Int) != 2)))
def spec_pzParse.T7 : Bool × List (List Nat × List Nat) := (true, [([], []), ([0], [0]), ([1], [1]), ([2], [2]), ([], []), ([4], [4]), ([5], [5]), ([6, 3], [6]), ([3, 7], [3, 7]), ([8], [8]), ([], []), ([10, 9, 7, 0, 1, 2, 3, 4, 5, 6, 7, 8, 9, 10], [9, 10])])
def spec_pzParse.B7 : List Nat := [0, 1, 3, 7, 0, 16, 48, 127, 255, 511, 0, 2047]
theorem spec_pzParse.tab7 : rtab .any (opsOf Tryd.f48 7) = spec_pzParse.T7 := by kernel_rfl
theorem spec_pzParse.bits7 : waitsOk spec_pzParse.T7.2 spec_pzParse.B7 = true := by kernel_rfl
def spec_pzParse.T15 : Bool × List (List Nat × List Nat) := (true, [([], []), ([0], [0]), ([], []), ([2], [2]), ([3], [3]), ([4], [4]), ([], []), ([6], [6]), ([7], [7]), ([8, 5], [8]), ([], []), ([10], [10]), ([11], [11]), ([12, 9], [12]), ([5, 9, 13], [5, 9, 13]), ([14], [14]), ([1, 15, 13], [1, 15]), ([0, 1, 2, 3, 4, 5, 6, 7, 8, 9, 10, 11, 12, 13, 14, 15, 16], []), ([17, 16, 16, 0, 1, 2, 3, 4, 5, 6, 7, 8, 9, 10, 11, 12, 13, 14, 15, 16], [16, 17])])
def spec_pzParse.B15 : List Nat := [0, 1, 0, 4, 12, 28, 0, 64, 192, 508, 0, 1024, 3072, 8188, 16380, 32764, 65535, 131071, 262143]
theorem spec_pzParse.tab15 : rtab .any (opsOf Tryd.f48 15) = spec_pzParse.T15 := by kernel_rfl
theorem spec_pzParse.bits15 : waitsOk spec_pzParse.T15.2 spec_pzParse.B15 = true := by kernel_rfl
def spec_pzParse.T17 : Bool × List (List Nat × List Nat) := (true, [([], []), ([], []), ([1], [1]), ([2, 2], [2]), ([3], [3]), ([4, 3, 3], [3, 4]), ([3], [3]), ([5, 6, 3], [3, 5, 6]), ([3, 7], [3, 7]), ([0, 5, 0], [0]), ([8, 9, 0, 1, 2, 3, 4, 5, 6, 7, 8, 9], [8])])
def spec_pzParse.B17 : List Nat := [0, 0, 2, 6, 14, 30, 14, 126, 254, 63, 1023]
theorem spec_pzParse.tab17 : rtab .any (opsOf Tryd.f48 17) = spec_pzParse.T17 := by kernel_rfl
theorem spec_pzParse.bits17 : waitsOk spec_pzParse.T17.2 spec_pzParse.B17 = true := by kernel_rfl
set_option maxHeartbeats 8000000 in
set_option maxRecDepth 100000 in
theorem spec_pzParse.calls (k : Nat) (a0 : ByteArray) (r1 : Int) (r2 : Int) (r3 : List (S77)) (r4 : Bool) (w : World) (h : spec_pzParse.f k a0 = some (r1, r2, r3, r4)) :
    Calls Tryd.prog 48 #[.string a0] w fun e w' => ∃ v2_ : Value, e = .returned (.tuple #[.agg #[.int .i64 r1, .int .i64 r2, v2_], .bool r4]) ∧ Kd.R k77 77 w' w.heap.size (fun _ => True) v2_ r3 ∧ Below w.heap.size w w' := by
  have hu42 := Tryd.underlying42
  have hu39 := Tryd.underlying39
  have hu77 := Tryd.underlying77
  have HB := amk (Below.refl w.heap.size w)
  have H : ((spec_l1Split.f k a0 58).bind fun t319 => (if (a0.size : Int) > 100 then (spec_pzParse.j0 k a0 t319 true) else (spec_pzParse.j0 k a0 t319 ((t319.length : Int) != 2)))) = some (r1, r2, r3, r4) := h
  clear h
  replace H := Option.bind_eq_some_iff.mp H
  obtain ⟨t319, A20, H⟩ := H
  replace H : (if (a0.size : Int) > 100 then (spec_pzParse.j0 k a0 t319 true) else (spec_pzParse.j0 k a0 t319 ((t319.length : Int) != 2))) = some (r1, r2, r3, r4) := H
  have A2 := amk A20
  clear A20
  have HC3 := amk H
  clear H
  go_enter Tryd.func48, Tryd.ntmps48
  go_upto_region 2 with (first | ((with_reducible refine gate_dst (N := 2) rfl ?_); (try (refine gate_guard (by rfl) ?_; dsimp only)); refine box_event ?hg (N := 2) ?hd (cs := #[.int .i64 0, .int .i64 0, .slice none 0 0]) (t := 42) ?hr ?_; (case hd => rfl); (case hg => rfl); (case hr => first | (go_simp; done) | (go_simp; rfl)); intro gb318 hg w4 hbox hb; have n0_ := amk (bp_ (by repeat (first | (with_reducible first | exact HB.out | apply ba_ | apply bn_ | apply bd_) | exact HB.out)) hb); have n1_ := amk (hbox); have n2_ := amk ((by rw [hg]; exact (below_size (by repeat (first | (with_reducible first | exact HB.out | apply ba_ | apply bn_ | apply bd_) | exact HB.out))) : w.heap.size ≤ gb318)); have n3_ := amk ((by rw [hg]; exact (below_size (by repeat (first | (with_reducible first | exact HB.out | apply ba_ | apply bn_ | apply bd_) | exact HB.out))) : w.heap.size ≤ gb318)); clear HB; have HB := n0_; have BK318 := n1_; have GW318 := n2_; have GE318 := n3_; clear n0_ n1_ n2_ n3_; clear hb hbox hg) | ((with_reducible refine gate_callee (f := 75) rfl ?_); refine goesL_ (some 11) rfl rfl Tryd.func75 (by kernel_rfl) rfl #[.string a0, .int .u8 58] rfl (by (try simp only [List.map_toArray, List.map_cons, List.map_nil]); first | done | rfl | (simp only [List.length_drop, List.length_take]; rfl)) ?_; (with_reducible refine (spec_l1Split.calls k a0 58 t319 _ A2.out).mono ?_); rintro e w5 ⟨v320, rfl, ho0, hb⟩; refine ⟨_, rfl, ?_⟩; have n0_ := amk (Kd.R_lower ho0 (below_size (by repeat (first | (with_reducible first | exact HB.out | apply ba_ | apply bn_ | apply bd_ | refine bs_ ?_ GE318.out) | exact HB.out)))); have n1_ := amk (blk_below (g := gb318) (o := .cells #[.int .i64 0, .int .i64 0, .slice none 0 0] 42 (0, 0)) (by (with_reducible repeat (first | refine kn_ ?_ _ | refine blk_drew ?_ | refine ka_ ?_ _)); exact BK318.out) hb); have n2_ := amk (bp_ (by repeat (first | (with_reducible first | exact HB.out | apply ba_ | apply bn_ | apply bd_ | refine bs_ ?_ GE318.out) | exact HB.out)) hb); clear BK318; clear HB; have HO321 := n0_; have BK318 := n1_; have HB := n2_; clear n0_ n1_ n2_; (try clear hb); (try clear hb2); (try clear hk); (try clear hi); (try clear ho0)))
  (try simp only [Act.put, List.setIfInBounds_toArray, List.set_cons_zero, List.set_cons_succ])
  go_cut [19] (fun v19 wc => ∃ (kq : Nat) (x19_2 : Bool), v19 = .bool x19_2 ∧ Aside0 (spec_pzParse.j0 kq a0 t319 x19_2 = some (r1, r2, r3, r4)) ∧ Aside0 (kq ≤ k) ∧ Aside0 (Kd.R Kd.string 9 wc w.heap.size (fun _ => True) v320 t319) ∧ Aside0 (wc.heap[gb318]? = some (.cells #[.int .i64 0, .int .i64 0, (.slice none 0 0)] 42 (0, 0))) ∧ Aside0 (Below w.heap.size w wc))
  case first =>
    have H := HC3.out
    clear HC3
    by_cases c6 : (a0.size : Int) > 100
    · rw [if_pos c6] at H
      have c6b0 : decide (100 < (a0.size : Int)) = true := decide_eq_true c6
      have c6b1 : decide (100 < a0.size) = true := decide_eq_true (by omega)
      clear c6
      (first | rw [c6b0] | (simp only [i64_w, i32_w]; rw [c6b0]) | skip)
      have H' := amk H
      clear H
      go_wp2
      go_meet
      case rel => exact ⟨_, (true), (by first | rfl | (simp; done) | (simp [*]; done)), H', ⟨by first | omega | exact Nat.le_refl _⟩, ⟨by (with_reducible repeat (first | apply Kd.R_alloc | apply Kd.R_drewN | apply Kd.R_drew)); exact HO321.out⟩, ⟨by (with_reducible repeat (first | refine kn_ ?_ _ | refine blk_drew ?_ | refine ka_ ?_ _)); exact BK318.out⟩, ⟨by repeat (first | (with_reducible first | exact HB.out | apply ba_ | apply bn_ | apply bd_ | refine bs_ ?_ GE318.out) | exact HB.out)⟩⟩
    · rw [if_neg c6] at H
      have c6b0 : decide (100 < (a0.size : Int)) = false := decide_eq_false c6
      have c6b1 : decide (100 < a0.size) = false := decide_eq_false (by omega)
      clear c6
      (first | rw [c6b0] | (simp only [i64_w, i32_w]; rw [c6b0]) | skip)
      have H' := amk H
      clear H
      obtain ⟨Ao7, co7, eo7⟩ := Kd.R_slice HO321.out
      subst eo7
      go_wp2
      go_meet
      case rel => exact ⟨_, (((t319.length : Int) != 2)), (by first | rfl | (simp; done) | (simp [*]; done)), H', ⟨by first | omega | exact Nat.le_refl _⟩, ⟨by (with_reducible repeat (first | apply Kd.R_alloc | apply Kd.R_drewN | apply Kd.R_drew)); exact HO321.out⟩, ⟨by (with_reducible repeat (first | refine kn_ ?_ _ | refine blk_drew ?_ | refine ka_ ?_ _)); exact BK318.out⟩, ⟨by repeat (first | (with_reducible first | exact HB.out | apply ba_ | apply bn_ | apply bd_ | refine bs_ ?_ GE318.out) | exact HB.out)⟩⟩
  case rest =>
    clear HC3
    try clear p2; try clear c4; try clear c6; try clear c6b0; try clear c6b1; try clear c7
    obtain ⟨kq, x19_2, rfl, HA, HJ2, HO_4, BK318, HB⟩ := hcut
    cases kq with
    | zero => exact absurd HA.out (by simp [spec_pzParse.j0])
    | succ kj2 =>
      have H := HA.out
      clear HA
      simp only [spec_pzParse.j0] at H
      by_cases c8 : x19_2 = true
      · subst c8
        have H1 : (some (0, 0, ([] : List (S77)), false)) = some (r1, r2, r3, r4) := by rw [if_pos rfl] at H; exact H
        clear H
        have H := H1
        clear H1
        simp only [Option.some.injEq, Prod.mk.injEq] at H
        obtain ⟨rfl, rfl, rfl, rfl⟩ := H
        have hcz9_0 : wc.cell? ⟨gb318, 0, none⟩ = some (.int .i64 0) := (blk_cell BK318.out 0).trans rfl
        have hcz9_1 : wc.cell? ⟨gb318, 1, none⟩ = some (.int .i64 0) := (blk_cell BK318.out 1).trans rfl
        have hcz9_2 : wc.cell? ⟨gb318, 2, none⟩ = some (.slice none 0 0) := (blk_cell BK318.out 2).trans rfl
        have hfz9_0 := blk_frozen BK318.out 0
        have hfz9_1 := blk_frozen BK318.out 1
        have hfz9_2 := blk_frozen BK318.out 2
        go_wp2
        refine bodyPost_ret (results_ct rfl _ _ gb318 42 #[.int .i64 0, .int .i64 0, .slice none 0 0] (0, 0) _ rfl (by (with_reducible repeat (first | refine kn_ ?_ _ | refine blk_drew ?_ | refine ka_ ?_ _)); refine blk_put (cs := #[.int .i64 0, .int .i64 0, .slice none 0 0]) ?_ 2 _ rfl; (with_reducible repeat (first | refine kn_ ?_ _ | refine blk_drew ?_ | refine ka_ ?_ _)); refine blk_put (cs := #[.int .i64 0, .int .i64 0, .slice none 0 0]) ?_ 1 _ rfl; (with_reducible repeat (first | refine kn_ ?_ _ | refine blk_drew ?_ | refine ka_ ?_ _)); refine blk_put (cs := #[.int .i64 0, .int .i64 0, .slice none 0 0]) ?_ 0 _ rfl; (with_reducible repeat (first | refine kn_ ?_ _ | refine blk_drew ?_ | refine ka_ ?_ _)); exact BK318.out) Tryd.underlying42 rfl (by kernel_rfl)) rfl ?_
        exact ⟨_, by first | rfl | (simp [errW_none, errW_some] <;> rfl) | (simp [*, errW_none, errW_some] <;> rfl), by first | exact Kd.R_nil _ _ _ _ _ | exact Kd.N_nil _ _ _ _ _ | exact Kd.V_nil _ _ _ _ _ | exact Kd.Q_nil _ _ _ _ _ | exact Kd.S_nil _ _ _ _ _, by repeat (first | (with_reducible first | exact HB.out | apply ba_ | apply bn_ | apply bd_ | refine bs_ ?_ GE318.out) | exact HB.out)⟩
      · replace c8 := Bool.eq_false_iff.mpr c8
        subst c8
        have H1 : (if 0 < (t319.length : Int) then ((spec_l1Split.f kj2 (rdOf ByteArray.empty t319 0) 120).bind fun t323 => (if (t323.length : Int) = 2 then (if 0 < (t323.length : Int) then ((spec_l1Read.f kj2 (rdOf ByteArray.empty t323 0)).bind fun t327 => (if 1 < (t323.length : Int) then ((spec_l1Read.f kj2 (rdOf ByteArray.empty t323 1)).bind fun t329 => (if 1 < (t319.length : Int) then (if ((rdOf ByteArray.empty t319 1).size : Int) > 0 then ((spec_l1Split.f kj2 (rdOf ByteArray.empty t319 1) 44).bind fun t333 => (spec_pzParse.l0 kj2 a0 t333 (t333.length : Int) 0 t327 t329 ([] : List (S77)))) else ((spec_pzGood.f kj2 t327 t329 ([] : List (S77))).bind fun t351 => (if t351 = true then ((spec_pzText.f kj2 t327 t329 ([] : List (S77))).bind fun t352 => (some (t327, t329, ([] : List (S77)), (t352.toList == a0.toList)))) else (some (t327, t329, ([] : List (S77)), false))))) else (none))) else (none))) else (none)) else (some (0, 0, ([] : List (S77)), false)))) else (none)) = some (r1, r2, r3, r4) := by rw [if_neg (show ¬ (false = true) by decide)] at H; exact H
        clear H
        have H := H1
        clear H1
        by_cases c10 : 0 < (t319.length : Int)
        · rw [if_pos c10] at H
          have c10b0 : decide (0 < (t319.length : Int)) = true := decide_eq_true c10
          have c10b1 : decide (0 < t319.length) = true := decide_eq_true (by omega)
          clear c10
          replace H := Option.bind_eq_some_iff.mp H
          obtain ⟨t323, A110, H⟩ := H
          replace H : (if (t323.length : Int) = 2 then (if 0 < (t323.length : Int) then ((spec_l1Read.f kj2 (rdOf ByteArray.empty t323 0)).bind fun t327 => (if 1 < (t323.length : Int) then ((spec_l1Read.f kj2 (rdOf ByteArray.empty t323 1)).bind fun t329 => (if 1 < (t319.length : Int) then (if ((rdOf ByteArray.empty t319 1).size : Int) > 0 then ((spec_l1Split.f kj2 (rdOf ByteArray.empty t319 1) 44).bind fun t333 => (spec_pzParse.l0 kj2 a0 t333 (t333.length : Int) 0 t327 t329 ([] : List (S77)))) else ((spec_pzGood.f kj2 t327 t329 ([] : List (S77))).bind fun t351 => (if t351 = true then ((spec_pzText.f kj2 t327 t329 ([] : List (S77))).bind fun t352 => (some (t327, t329, ([] : List (S77)), (t352.toList == a0.toList)))) else (some (t327, t329, ([] : List (S77)), false))))) else (none))) else (none))) else (none)) else (some (0, 0, ([] : List (S77)), false))) = some (r1, r2, r3, r4) := H
          have A11 := amk A110
          clear A110
          by_cases c12 : (t323.length : Int) = 2
          · rw [if_pos c12] at H
            have c12b0 : ((t323.length : Int) == 2) = true := beq_iff_eq.mpr c12
            have c12b1 : ((t323.length : Int) != 2) = false := bne_eq_false_iff_eq.mpr c12
            clear c12
            by_cases c13 : 0 < (t323.length : Int)
            · rw [if_pos c13] at H
              have c13b0 : decide (0 < (t323.length : Int)) = true := decide_eq_true c13
              have c13b1 : decide (0 < t323.length) = true := decide_eq_true (by omega)
              clear c13
              replace H := Option.bind_eq_some_iff.mp H
              obtain ⟨t327, A140, H⟩ := H
              replace H : (if 1 < (t323.length : Int) then ((spec_l1Read.f kj2 (rdOf ByteArray.empty t323 1)).bind fun t329 => (if 1 < (t319.length : Int) then (if ((rdOf ByteArray.empty t319 1).size : Int) > 0 then ((spec_l1Split.f kj2 (rdOf ByteArray.empty t319 1) 44).bind fun t333 => (spec_pzParse.l0 kj2 a0 t333 (t333.length : Int) 0 t327 t329 ([] : List (S77)))) else ((spec_pzGood.f kj2 t327 t329 ([] : List (S77))).bind fun t351 => (if t351 = true then ((spec_pzText.f kj2 t327 t329 ([] : List (S77))).bind fun t352 => (some (t327, t329, ([] : List (S77)), (t352.toList == a0.toList)))) else (some (t327, t329, ([] : List (S77)), false))))) else (none))) else (none)) = some (r1, r2, r3, r4) := H
              have A14 := amk A140
              clear A140
              by_cases c15 : 1 < (t323.length : Int)
              · rw [if_pos c15] at H
                have c15b0 : decide (1 < (t323.length : Int)) = true := decide_eq_true c15
                have c15b1 : decide (1 < t323.length) = true := decide_eq_true (by omega)
                clear c15
                replace H := Option.bind_eq_some_iff.mp H
                obtain ⟨t329, A160, H⟩ := H
                replace H : (if 1 < (t319.length : Int) then (if ((rdOf ByteArray.empty t319 1).size : Int) > 0 then ((spec_l1Split.f kj2 (rdOf ByteArray.empty t319 1) 44).bind fun t333 => (spec_pzParse.l0 kj2 a0 t333 (t333.length : Int) 0 t327 t329 ([] : List (S77)))) else ((spec_pzGood.f kj2 t327 t329 ([] : List (S77))).bind fun t351 => (if t351 = true then ((spec_pzText.f kj2 t327 t329 ([] : List (S77))).bind fun t352 => (some (t327, t329, ([] : List (S77)), (t352.toList == a0.toList)))) else (some (t327, t329, ([] : List (S77)), false))))) else (none)) = some (r1, r2, r3, r4) := H
                have A16 := amk A160
                clear A160
                by_cases c17 : 1 < (t319.length : Int)
                · rw [if_pos c17] at H
                  have c17b0 : decide (1 < (t319.length : Int)) = true := decide_eq_true c17
                  have c17b1 : decide (1 < t319.length) = true := decide_eq_true (by omega)
                  clear c17
                  by_cases c18 : ((rdOf ByteArray.empty t319 1).size : Int) > 0
                  · rw [if_pos c18] at H
                    have c18b0 : decide (0 < ((rdOf ByteArray.empty t319 1).size : Int)) = true := decide_eq_true c18
                    have c18b1 : decide (0 < (rdOf ByteArray.empty t319 1).size) = true := decide_eq_true (by omega)
                    clear c18
                    replace H := Option.bind_eq_some_iff.mp H
                    obtain ⟨t333, A190, H⟩ := H
                    replace H : (spec_pzParse.l0 kj2 a0 t333 (t333.length : Int) 0 t327 t329 ([] : List (S77))) = some (r1, r2, r3, r4) := H
                    have A19 := amk A190
                    clear A190
                    have H' := amk H
                    clear H
                    obtain ⟨Ao20, co20, eo20⟩ := Kd.R_slice HO_4.out
                    subst eo20
                    have p322 : 0 ≤ (0 : Int) := (by omega)
                    have q322 : 0 < (t319.length : Int) := of_decide_eq_true (by first | (with_reducible assumption) | assumption)
                    obtain ⟨ad322, e322, hx322_0⟩ := Kd.at_string (Kd.R_reads' HO_4.out).2.2 0 p322 q322
                    cases e322
                    have qi322 : (0 < t319.length) = True := eq_true (by omega)
                    (try rw [show ((0 : Int)).toNat = 0 from rfl] at hx322_0)
                    (try rw [Addr.add_zero'] at hx322_0)
                    replace p322 := eq_true p322
                    replace q322 := eq_true q322
                    try go_wp2_with (first | ((with_reducible refine gate_callee (f := 75) rfl ?_); refine goesL_ (some 24) rfl rfl Tryd.func75 (by kernel_rfl) rfl #[.string (rdOf ByteArray.empty t319 0), .int .u8 120] rfl (by (try simp only [List.map_toArray, List.map_cons, List.map_nil]); first | done | rfl | (simp only [List.length_drop, List.length_take]; rfl)) ?_; (with_reducible refine (spec_l1Split.calls kj2 (rdOf ByteArray.empty t319 0) 120 t323 _ A11.out).mono ?_); rintro e w21 ⟨v324, rfl, ho0, hb⟩; refine ⟨_, rfl, ?_⟩; have n0_ := amk (Kd.R_elder' (by (with_reducible repeat (first | apply Kd.R_alloc | apply Kd.R_drewN | apply Kd.R_drew)); exact HO_4.out) (Kd.R_base ho0) hb); have n1_ := amk (Kd.R_lower (Kd.R_new' ho0 (Kd.R_lt (by (with_reducible repeat (first | apply Kd.R_alloc | apply Kd.R_drewN | apply Kd.R_drew)); exact HO_4.out))) (below_size (by repeat (first | (with_reducible first | exact HB.out | apply ba_ | apply bn_ | apply bd_ | refine bs_ ?_ GE318.out) | exact HB.out)))); have n2_ := amk (blk_below (g := gb318) (o := .cells #[.int .i64 0, .int .i64 0, .slice none 0 0] 42 (0, 0)) (by (with_reducible repeat (first | refine kn_ ?_ _ | refine blk_drew ?_ | refine ka_ ?_ _)); exact BK318.out) hb); have n3_ := amk (bp_ (by repeat (first | (with_reducible first | exact HB.out | apply ba_ | apply bn_ | apply bd_ | refine bs_ ?_ GE318.out) | exact HB.out)) hb); clear HO_4; clear BK318; clear HB; have HO_4 := n0_; have HO325 := n1_; have BK318 := n2_; have HB := n3_; clear n0_ n1_ n2_ n3_; (try clear hb); (try clear hb2); (try clear hk); (try clear hi); (try clear ho0); obtain ⟨Ao22, co22, eo22⟩ := Kd.R_slice HO325.out; subst eo22))
                    have n0_ := amk (Kd.R_drew HO_4.out)
                    have n1_ := amk (Kd.R_drew HO325.out)
                    have n2_ := amk (blk_drew BK318.out)
                    have n3_ := amk (bd_ HB.out)
                    clear HO_4
                    clear HO325
                    clear BK318
                    clear HB
                    have HO_4 := n0_
                    have HO325 := n1_
                    have BK318 := n2_
                    have HB := n3_
                    clear n0_ n1_ n2_ n3_
                    have p326 : 0 ≤ (0 : Int) := (by omega)
                    have q326 : 0 < (t323.length : Int) := of_decide_eq_true (by first | (with_reducible assumption) | assumption)
                    obtain ⟨ad326, e326, hx326_0⟩ := Kd.at_string (Kd.R_reads' HO325.out).2.2 0 p326 q326
                    cases e326
                    have qi326 : (0 < t323.length) = True := eq_true (by omega)
                    (try rw [show ((0 : Int)).toNat = 0 from rfl] at hx326_0)
                    (try rw [Addr.add_zero'] at hx326_0)
                    replace p326 := eq_true p326
                    replace q326 := eq_true q326
                    have p328 : 0 ≤ (1 : Int) := (by omega)
                    have q328 : 1 < (t323.length : Int) := of_decide_eq_true (by first | (with_reducible assumption) | assumption)
                    obtain ⟨ad328, e328, hx328_0⟩ := Kd.at_string (Kd.R_reads' HO325.out).2.2 1 p328 q328
                    obtain rfl : ad326 = ad328 := (by injection e328)
                    (try simp only [show (1 : Int).toNat = 1 from rfl, Nat.reduceMul, Nat.reduceEqDiff, Go.Addr.add, ↓reduceIte] at hx328_0)
                    have qi328 : (1 < t323.length) = True := eq_true (by omega)
                    (try rw [show ((1 : Int)).toNat = 1 from rfl] at hx328_0)
                    replace p328 := eq_true p328
                    replace q328 := eq_true q328
                    refine start_ (n := 12) (S := fun w' => w'.cell? ad326 = some (.string (rdOf ByteArray.empty t323 0)) ∧ w'.cell? ⟨ad326.block, ad326.off + 1, none⟩ = some (.string (rdOf ByteArray.empty t323 1))) (ds := []) #[false, false, false, false, false, false, false, false, false, false, false, false] (by kernel_rfl) rfl rfl ⟨hx326_0, hx328_0⟩ (fun hHeld => ?_); refine with_tabW spec_pzParse.tab7 spec_pzParse.bits7 (fun HT_ HW_ => ?_)
                    generalize w21.drew = w23 at HO_4 HO325 BK318 HB hx326_0 hx328_0 hHeld ⊢
                    refine pure_ (i := 0) (N := some 29) (v := ?_) (a' := ?_) #[true, false, false, false, false, false, false, false, false, false, false, false] rfl rfl (any_of HT_.out (by kernel_rfl)) (fun _ _ _ h => h) (Or.inl ⟨by rfl, ?_⟩) ?_ ?_
                    rotate_left
                    · intro w'
                      go_simp
                      with_reducible rfl
                    rotate_left
                    · simp only [Act.put, List.setIfInBounds_toArray, List.set_cons_zero, List.set_cons_succ, i64_w, i32_w]
                      rfl
                    refine pure_ (i := 1) (N := some 30) (v := ?_) (a' := ?_) #[true, true, false, false, false, false, false, false, false, false, false, false] rfl rfl (any_of HT_.out (by kernel_rfl)) (fun _ _ _ h => h) (Or.inl ⟨by rfl, ?_⟩) ?_ ?_
                    rotate_left
                    · intro w'
                      go_simp
                      with_reducible rfl
                    rotate_left
                    · simp only [Act.put, List.setIfInBounds_toArray, List.set_cons_zero, List.set_cons_succ, i64_w, i32_w]
                      rfl
                    refine pure_ (i := 4) (N := some 33) (v := ?_) (a' := ?_) #[true, true, false, false, true, false, false, false, false, false, false, false] rfl rfl (any_of HT_.out (by kernel_rfl)) (fun _ _ _ h => h) (Or.inl ⟨by rfl, ?_⟩) ?_ ?_
                    rotate_left
                    · intro w'
                      go_simp
                      with_reducible rfl
                    rotate_left
                    · simp only [Act.put, List.setIfInBounds_toArray, List.set_cons_zero, List.set_cons_succ, i64_w, i32_w]
                      rfl
                    refine pure_ (i := 5) (N := some 34) (v := ?_) (a' := ?_) #[true, true, false, false, true, true, false, false, false, false, false, false] rfl rfl (any_of HT_.out (by kernel_rfl)) (fun _ _ _ h => h) (Or.inl ⟨by rfl, ?_⟩) ?_ ?_
                    rotate_left
                    · intro w'
                      go_simp
                      with_reducible rfl
                    rotate_left
                    · simp only [Act.put, List.setIfInBounds_toArray, List.set_cons_zero, List.set_cons_succ, i64_w, i32_w]
                      rfl
                    refine take_ (i := 2) (N := some 31) (v := ?_) (a' := ?_) #[true, true, true, false, true, true, false, false, false, false, false, false] rfl rfl (take_ofW HT_.out HW_.out (by kernel_rfl)) (fun _ _ _ h => h) (Or.inl ⟨by rfl, ?_⟩) hHeld ?_ ?_
                    rotate_left
                    · rintro w' ⟨s0, s1⟩
                      go_simp
                      with_reducible rfl
                    rotate_left
                    · simp only [Act.put, List.setIfInBounds_toArray, List.set_cons_zero, List.set_cons_succ, i64_w, i32_w]
                      rfl
                    refine take_ (i := 6) (N := some 35) (v := ?_) (a' := ?_) #[true, true, true, false, true, true, true, false, false, false, false, false] rfl rfl (take_ofW HT_.out HW_.out (by kernel_rfl)) (fun _ _ _ h => h) (Or.inl ⟨by rfl, ?_⟩) hHeld ?_ ?_
                    rotate_left
                    · rintro w' ⟨s0, s1⟩
                      go_simp
                      with_reducible rfl
                    rotate_left
                    · simp only [Act.put, List.setIfInBounds_toArray, List.set_cons_zero, List.set_cons_succ, i64_w, i32_w]
                      rfl
                    refine join_ (σ := Nat) 1 #[true, true, true, true, true, true, true, true, true, true, true, false] (fun s_ => [(32, .int .i64 t327), (36, .int .i64 t329), (6, .pointer (some ⟨s_, 0, none⟩)), (37, .agg #[.int .i64 t327, .int .i64 t329]), (38, .agg #[.int .i64 t327, .int .i64 t329, .slice none 0 0])]) (fun s_ w' => (w'.cell? ad326 = some (.string (rdOf ByteArray.empty t323 0)) ∧ w'.cell? ⟨ad326.block, ad326.off + 1, none⟩ = some (.string (rdOf ByteArray.empty t323 1))) ∧ (Kd.R Kd.string 9 w' w.heap.size (fun k_ => some k_ ≠ (.slice (some ad322) t319.length co20 : Value).ownBlock) (.slice (some ad326) t323.length co22) t323) ∧ (Kd.R Kd.string 9 w' w.heap.size (fun k_ => some k_ ≠ (.slice (some ad326) t323.length co22 : Value).ownBlock) (.slice (some ad322) t319.length co20) t319) ∧ (w'.heap[gb318]? = some (.cells #[.int .i64 0, .int .i64 0, .slice none 0 0] 42 (0, 0))) ∧ (w'.heap[s_]? = some (.cells #[.int .i64 0, .int .i64 0, .slice none 0 0] 42 (0, 0))) ∧ (w.heap.size ≤ s_) ∧ (w.heap.size ≤ s_) ∧ (gb318 ≠ s_) ∧ (s_ ≠ gb318) ∧ (Below w.heap.size w w')) ?_ ?_
                    rotate_left
                    · intro hCont
                      refine two_ (i := 3) (j := 10) (Ni := some 32) (Nj := some 6) #[true, true, true, true, true, true, true, false, false, false, false, false] #[true, true, true, false, true, true, true, false, false, false, true, false] rfl rfl rfl rfl (two_of HT_.out (by kernel_rfl)) (by decide) (by decide) (fun K hK => ?_) (fun K hK => ?_)
                      · skip
                        refine goes_ Tryd.func76 (by kernel_rfl) rfl #[.string (rdOf ByteArray.empty t323 0)] (by rfl) rfl rfl (by (try simp only [List.map_toArray, List.map_cons, List.map_nil]); first | done | rfl | (simp only [List.length_drop, List.length_take]; rfl)) ?_
                        with_reducible refine (spec_l1Read.calls kj2 (rdOf ByteArray.empty t323 0) t327 _ A14.out).mono ?_
                        rintro e w' ⟨rfl, ⟨nd, rfl⟩⟩
                        refine ⟨_, rfl, ?_⟩
                        refine hK.out _ _ ⟨hHeld.1, hHeld.2⟩ (fun hHeld => ?_)
                        clear hK K
                        refine norm_ (a' := ?_) ?_ ?_
                        rotate_left
                        · show Act.put _ (some 32) _ = _
                          simp only [Act.put, List.setIfInBounds_toArray, List.set_cons_zero, List.set_cons_succ, i64_w, i32_w]
                          rfl
                        refine two_ (i := 7) (j := 10) (Ni := some 36) (Nj := some 6) #[true, true, true, true, true, true, true, true, false, false, false, false] #[true, true, true, true, true, true, true, false, false, false, true, false] rfl rfl rfl rfl (two_of HT_.out (by kernel_rfl)) (by decide) (by decide) (fun K hK => ?_) (fun K hK => ?_)
                        · skip
                          refine goes_ Tryd.func76 (by kernel_rfl) rfl #[.string (rdOf ByteArray.empty t323 1)] (by rfl) rfl rfl (by (try simp only [List.map_toArray, List.map_cons, List.map_nil]); first | done | rfl | (simp only [List.length_drop, List.length_take]; rfl)) ?_
                          with_reducible refine (spec_l1Read.calls kj2 (rdOf ByteArray.empty t323 1) t329 _ A16.out).mono ?_
                          rintro e w' ⟨rfl, ⟨nd, rfl⟩⟩
                          refine ⟨_, rfl, ?_⟩
                          refine hK.out _ _ ⟨hHeld.1, hHeld.2⟩ (fun hHeld => ?_)
                          clear hK K
                          refine norm_ (a' := ?_) ?_ ?_
                          rotate_left
                          · show Act.put _ (some 36) _ = _
                            simp only [Act.put, List.setIfInBounds_toArray, List.set_cons_zero, List.set_cons_succ, i64_w, i32_w]
                            rfl
                          refine pure_ (i := 8) (N := some 37) (v := ?_) (a' := ?_) #[true, true, true, true, true, true, true, true, true, false, false, false] rfl rfl (any_of HT_.out (by kernel_rfl)) (fun _ _ _ h => h) (Or.inl ⟨by rfl, ?_⟩) ?_ ?_
                          rotate_left
                          · intro w'
                            go_simp
                            with_reducible rfl
                          rotate_left
                          · simp only [Act.put, List.setIfInBounds_toArray, List.set_cons_zero, List.set_cons_succ, i64_w, i32_w]
                            rfl
                          refine pure_ (i := 9) (N := some 38) (v := ?_) (a' := ?_) #[true, true, true, true, true, true, true, true, true, true, false, false] rfl rfl (any_of HT_.out (by kernel_rfl)) (fun _ _ _ h => h) (Or.inl ⟨by rfl, ?_⟩) ?_ ?_
                          rotate_left
                          · intro w'
                            go_simp
                            with_reducible rfl
                          rotate_left
                          · simp only [Act.put, List.setIfInBounds_toArray, List.set_cons_zero, List.set_cons_succ, i64_w, i32_w]
                            rfl
                          refine one_ (i := 10) (N := some 6) #[true, true, true, true, true, true, true, true, true, true, true, false] rfl rfl (one_of HT_.out (by kernel_rfl)) (by decide) (fun K hK => ?_)
                          refine box_step ?hg (N := 6) ?hd (cs := #[.int .i64 0, .int .i64 0, .slice none 0 0]) (t := 42) ?hr ?_; (case hd => rfl); (case hg => rfl); (case hr => first | (go_simp; done) | (go_simp; rfl))
                          intro gb330 hg w24 hbox hb
                          have HS0_ := (hb.cell (World.block_lt_of_cell? _ _ (hHeld.1))).trans (hHeld.1)
                          have HS1_ := (hb.cell (World.block_lt_of_cell? _ _ (hHeld.2))).trans (hHeld.2)
                          have n0_ := amk (Kd.R_below (by (with_reducible repeat (first | apply Kd.R_alloc | apply Kd.R_drewN | apply Kd.R_drew)); exact HO_4.out) hb)
                          have n1_ := amk (Kd.R_below (by (with_reducible repeat (first | apply Kd.R_alloc | apply Kd.R_drewN | apply Kd.R_drew)); exact HO325.out) hb)
                          have n2_ := amk (blk_below (g := gb318) (o := .cells #[.int .i64 0, .int .i64 0, .slice none 0 0] 42 (0, 0)) (by (with_reducible repeat (first | refine kn_ ?_ _ | refine blk_drew ?_ | refine ka_ ?_ _)); exact BK318.out) hb)
                          have n3_ := amk (bp_ (by repeat (first | (with_reducible first | exact HB.out | apply ba_ | apply bn_ | apply bd_ | refine bs_ ?_ GE318.out) | exact HB.out)) hb)
                          have n4_ := amk (hbox)
                          have n5_ := amk ((by rw [hg]; exact (below_size (by repeat (first | (with_reducible first | exact HB.out | apply ba_ | apply bn_ | apply bd_ | refine bs_ ?_ GE318.out) | exact HB.out))) : w.heap.size ≤ gb330))
                          have n6_ := amk ((by rw [hg]; exact (below_size (by repeat (first | (with_reducible first | exact HB.out | apply ba_ | apply bn_ | apply bd_ | refine bs_ ?_ GE318.out) | exact HB.out))) : w.heap.size ≤ gb330))
                          have n7_ := amk ((by rw [hg]; exact Nat.ne_of_lt (blk_lt (g := gb318) (o := .cells #[.int .i64 0, .int .i64 0, .slice none 0 0] 42 (0, 0)) (by (with_reducible repeat (first | refine kn_ ?_ _ | refine blk_drew ?_ | refine ka_ ?_ _)); exact BK318.out)) : gb318 ≠ gb330))
                          have n8_ := amk ((by rw [hg]; exact Nat.ne_of_gt (blk_lt (g := gb318) (o := .cells #[.int .i64 0, .int .i64 0, .slice none 0 0] 42 (0, 0)) (by (with_reducible repeat (first | refine kn_ ?_ _ | refine blk_drew ?_ | refine ka_ ?_ _)); exact BK318.out)) : gb330 ≠ gb318))
                          clear HO_4
                          clear HO325
                          clear BK318
                          clear HB
                          have HO_4 := n0_
                          have HO325 := n1_
                          have BK318 := n2_
                          have HB := n3_
                          have BK330 := n4_
                          have GW330 := n5_
                          have GE330 := n6_
                          have NB318_330 := n7_
                          have NB330_318 := n8_
                          clear n0_ n1_ n2_ n3_ n4_ n5_ n6_ n7_ n8_
                          clear hb hbox hg
                          refine hK.out _ _ ⟨HS0_, HS1_⟩ (fun hHeld => ?_)
                          clear hK K
                          refine norm_ (a' := ?_) ?_ ?_
                          rotate_left
                          · show Act.put _ (some 6) _ = _
                            simp only [Act.put, List.setIfInBounds_toArray, List.set_cons_zero, List.set_cons_succ, i64_w, i32_w]
                            rfl
                          exact norm_ (by simp only [putAll, Act.put, List.setIfInBounds_toArray, List.set_cons_zero, List.set_cons_succ]) (hCont (gb330) _ ⟨hHeld, (by (with_reducible repeat (first | apply Kd.R_alloc | apply Kd.R_drewN | apply Kd.R_drew)); exact Kd.R_mono HO325.out (fun _ hk => hk.2)), (by (with_reducible repeat (first | apply Kd.R_alloc | apply Kd.R_drewN | apply Kd.R_drew)); exact Kd.R_mono HO_4.out (fun _ hk => hk.2)), (by (with_reducible repeat (first | refine kn_ ?_ _ | refine blk_drew ?_ | refine ka_ ?_ _)); exact BK318.out), (by (with_reducible repeat (first | refine kn_ ?_ _ | refine blk_drew ?_ | refine ka_ ?_ _)); exact BK330.out), GW330.out, GE330.out, NB318_330.out, NB330_318.out, (by repeat (first | (with_reducible first | exact HB.out | apply ba_ | apply bn_ | apply bd_ | refine bs_ ?_ GE318.out | refine bs_ ?_ GE330.out) | exact HB.out))⟩)
                        · skip
                          refine box_step ?hg (N := 6) ?hd (cs := #[.int .i64 0, .int .i64 0, .slice none 0 0]) (t := 42) ?hr ?_; (case hd => rfl); (case hg => rfl); (case hr => first | (go_simp; done) | (go_simp; rfl))
                          intro gb330 hg w24 hbox hb
                          have HS0_ := (hb.cell (World.block_lt_of_cell? _ _ (hHeld.1))).trans (hHeld.1)
                          have HS1_ := (hb.cell (World.block_lt_of_cell? _ _ (hHeld.2))).trans (hHeld.2)
                          have n0_ := amk (Kd.R_below (by (with_reducible repeat (first | apply Kd.R_alloc | apply Kd.R_drewN | apply Kd.R_drew)); exact HO_4.out) hb)
                          have n1_ := amk (Kd.R_below (by (with_reducible repeat (first | apply Kd.R_alloc | apply Kd.R_drewN | apply Kd.R_drew)); exact HO325.out) hb)
                          have n2_ := amk (blk_below (g := gb318) (o := .cells #[.int .i64 0, .int .i64 0, .slice none 0 0] 42 (0, 0)) (by (with_reducible repeat (first | refine kn_ ?_ _ | refine blk_drew ?_ | refine ka_ ?_ _)); exact BK318.out) hb)
                          have n3_ := amk (bp_ (by repeat (first | (with_reducible first | exact HB.out | apply ba_ | apply bn_ | apply bd_ | refine bs_ ?_ GE318.out) | exact HB.out)) hb)
                          have n4_ := amk (hbox)
                          have n5_ := amk ((by rw [hg]; exact (below_size (by repeat (first | (with_reducible first | exact HB.out | apply ba_ | apply bn_ | apply bd_ | refine bs_ ?_ GE318.out) | exact HB.out))) : w.heap.size ≤ gb330))
                          have n6_ := amk ((by rw [hg]; exact (below_size (by repeat (first | (with_reducible first | exact HB.out | apply ba_ | apply bn_ | apply bd_ | refine bs_ ?_ GE318.out) | exact HB.out))) : w.heap.size ≤ gb330))
                          have n7_ := amk ((by rw [hg]; exact Nat.ne_of_lt (blk_lt (g := gb318) (o := .cells #[.int .i64 0, .int .i64 0, .slice none 0 0] 42 (0, 0)) (by (with_reducible repeat (first | refine kn_ ?_ _ | refine blk_drew ?_ | refine ka_ ?_ _)); exact BK318.out)) : gb318 ≠ gb330))
                          have n8_ := amk ((by rw [hg]; exact Nat.ne_of_gt (blk_lt (g := gb318) (o := .cells #[.int .i64 0, .int .i64 0, .slice none 0 0] 42 (0, 0)) (by (with_reducible repeat (first | refine kn_ ?_ _ | refine blk_drew ?_ | refine ka_ ?_ _)); exact BK318.out)) : gb330 ≠ gb318))
                          clear HO_4
                          clear HO325
                          clear BK318
                          clear HB
                          have HO_4 := n0_
                          have HO325 := n1_
                          have BK318 := n2_
                          have HB := n3_
                          have BK330 := n4_
                          have GW330 := n5_
                          have GE330 := n6_
                          have NB318_330 := n7_
                          have NB330_318 := n8_
                          clear n0_ n1_ n2_ n3_ n4_ n5_ n6_ n7_ n8_
                          clear hb hbox hg
                          refine hK.out _ _ ⟨HS0_, HS1_⟩ (fun hHeld => ?_)
                          clear hK K
                          refine norm_ (a' := ?_) ?_ ?_
                          rotate_left
                          · show Act.put _ (some 6) _ = _
                            simp only [Act.put, List.setIfInBounds_toArray, List.set_cons_zero, List.set_cons_succ, i64_w, i32_w]
                            rfl
                          refine one_ (i := 7) (N := some 36) #[true, true, true, true, true, true, true, true, false, false, true, false] rfl rfl (one_of HT_.out (by kernel_rfl)) (by decide) (fun K hK => ?_)
                          refine goes_ Tryd.func76 (by kernel_rfl) rfl #[.string (rdOf ByteArray.empty t323 1)] (by rfl) rfl rfl (by (try simp only [List.map_toArray, List.map_cons, List.map_nil]); first | done | rfl | (simp only [List.length_drop, List.length_take]; rfl)) ?_
                          with_reducible refine (spec_l1Read.calls kj2 (rdOf ByteArray.empty t323 1) t329 _ A16.out).mono ?_
                          rintro e w' ⟨rfl, ⟨nd, rfl⟩⟩
                          refine ⟨_, rfl, ?_⟩
                          refine hK.out _ _ ⟨hHeld.1, hHeld.2⟩ (fun hHeld => ?_)
                          clear hK K
                          refine norm_ (a' := ?_) ?_ ?_
                          rotate_left
                          · show Act.put _ (some 36) _ = _
                            simp only [Act.put, List.setIfInBounds_toArray, List.set_cons_zero, List.set_cons_succ, i64_w, i32_w]
                            rfl
                          refine pure_ (i := 8) (N := some 37) (v := ?_) (a' := ?_) #[true, true, true, true, true, true, true, true, true, false, true, false] rfl rfl (any_of HT_.out (by kernel_rfl)) (fun _ _ _ h => h) (Or.inl ⟨by rfl, ?_⟩) ?_ ?_
                          rotate_left
                          · intro w'
                            go_simp
                            with_reducible rfl
                          rotate_left
                          · simp only [Act.put, List.setIfInBounds_toArray, List.set_cons_zero, List.set_cons_succ, i64_w, i32_w]
                            rfl
                          refine pure_ (i := 9) (N := some 38) (v := ?_) (a' := ?_) #[true, true, true, true, true, true, true, true, true, true, true, false] rfl rfl (any_of HT_.out (by kernel_rfl)) (fun _ _ _ h => h) (Or.inl ⟨by rfl, ?_⟩) ?_ ?_
                          rotate_left
                          · intro w'
                            go_simp
                            with_reducible rfl
                          rotate_left
                          · simp only [Act.put, List.setIfInBounds_toArray, List.set_cons_zero, List.set_cons_succ, i64_w, i32_w]
                            rfl
                          exact norm_ (by simp only [putAll, Act.put, List.setIfInBounds_toArray, List.set_cons_zero, List.set_cons_succ]) (hCont (gb330) _ ⟨hHeld, (by (with_reducible repeat (first | apply Kd.R_alloc | apply Kd.R_drewN | apply Kd.R_drew)); exact Kd.R_mono HO325.out (fun _ hk => hk.2)), (by (with_reducible repeat (first | apply Kd.R_alloc | apply Kd.R_drewN | apply Kd.R_drew)); exact Kd.R_mono HO_4.out (fun _ hk => hk.2)), (by (with_reducible repeat (first | refine kn_ ?_ _ | refine blk_drew ?_ | refine ka_ ?_ _)); exact BK318.out), (by (with_reducible repeat (first | refine kn_ ?_ _ | refine blk_drew ?_ | refine ka_ ?_ _)); exact BK330.out), GW330.out, GE330.out, NB318_330.out, NB330_318.out, (by repeat (first | (with_reducible first | exact HB.out | apply ba_ | apply bn_ | apply bd_ | refine bs_ ?_ GE318.out | refine bs_ ?_ GE330.out) | exact HB.out))⟩)
                      · skip
                        refine box_step ?hg (N := 6) ?hd (cs := #[.int .i64 0, .int .i64 0, .slice none 0 0]) (t := 42) ?hr ?_; (case hd => rfl); (case hg => rfl); (case hr => first | (go_simp; done) | (go_simp; rfl))
                        intro gb330 hg w24 hbox hb
                        have HS0_ := (hb.cell (World.block_lt_of_cell? _ _ (hHeld.1))).trans (hHeld.1)
                        have HS1_ := (hb.cell (World.block_lt_of_cell? _ _ (hHeld.2))).trans (hHeld.2)
                        have n0_ := amk (Kd.R_below (by (with_reducible repeat (first | apply Kd.R_alloc | apply Kd.R_drewN | apply Kd.R_drew)); exact HO_4.out) hb)
                        have n1_ := amk (Kd.R_below (by (with_reducible repeat (first | apply Kd.R_alloc | apply Kd.R_drewN | apply Kd.R_drew)); exact HO325.out) hb)
                        have n2_ := amk (blk_below (g := gb318) (o := .cells #[.int .i64 0, .int .i64 0, .slice none 0 0] 42 (0, 0)) (by (with_reducible repeat (first | refine kn_ ?_ _ | refine blk_drew ?_ | refine ka_ ?_ _)); exact BK318.out) hb)
                        have n3_ := amk (bp_ (by repeat (first | (with_reducible first | exact HB.out | apply ba_ | apply bn_ | apply bd_ | refine bs_ ?_ GE318.out) | exact HB.out)) hb)
                        have n4_ := amk (hbox)
                        have n5_ := amk ((by rw [hg]; exact (below_size (by repeat (first | (with_reducible first | exact HB.out | apply ba_ | apply bn_ | apply bd_ | refine bs_ ?_ GE318.out) | exact HB.out))) : w.heap.size ≤ gb330))
                        have n6_ := amk ((by rw [hg]; exact (below_size (by repeat (first | (with_reducible first | exact HB.out | apply ba_ | apply bn_ | apply bd_ | refine bs_ ?_ GE318.out) | exact HB.out))) : w.heap.size ≤ gb330))
                        have n7_ := amk ((by rw [hg]; exact Nat.ne_of_lt (blk_lt (g := gb318) (o := .cells #[.int .i64 0, .int .i64 0, .slice none 0 0] 42 (0, 0)) (by (with_reducible repeat (first | refine kn_ ?_ _ | refine blk_drew ?_ | refine ka_ ?_ _)); exact BK318.out)) : gb318 ≠ gb330))
                        have n8_ := amk ((by rw [hg]; exact Nat.ne_of_gt (blk_lt (g := gb318) (o := .cells #[.int .i64 0, .int .i64 0, .slice none 0 0] 42 (0, 0)) (by (with_reducible repeat (first | refine kn_ ?_ _ | refine blk_drew ?_ | refine ka_ ?_ _)); exact BK318.out)) : gb330 ≠ gb318))
                        clear HO_4
                        clear HO325
                        clear BK318
                        clear HB
                        have HO_4 := n0_
                        have HO325 := n1_
                        have BK318 := n2_
                        have HB := n3_
                        have BK330 := n4_
                        have GW330 := n5_
                        have GE330 := n6_
                        have NB318_330 := n7_
                        have NB330_318 := n8_
                        clear n0_ n1_ n2_ n3_ n4_ n5_ n6_ n7_ n8_
                        clear hb hbox hg
                        refine hK.out _ _ ⟨HS0_, HS1_⟩ (fun hHeld => ?_)
                        clear hK K
                        refine norm_ (a' := ?_) ?_ ?_
                        rotate_left
                        · show Act.put _ (some 6) _ = _
                          simp only [Act.put, List.setIfInBounds_toArray, List.set_cons_zero, List.set_cons_succ, i64_w, i32_w]
                          rfl
                        refine one_ (i := 3) (N := some 32) #[true, true, true, true, true, true, true, false, false, false, true, false] rfl rfl (one_of HT_.out (by kernel_rfl)) (by decide) (fun K hK => ?_)
                        refine goes_ Tryd.func76 (by kernel_rfl) rfl #[.string (rdOf ByteArray.empty t323 0)] (by rfl) rfl rfl (by (try simp only [List.map_toArray, List.map_cons, List.map_nil]); first | done | rfl | (simp only [List.length_drop, List.length_take]; rfl)) ?_
                        with_reducible refine (spec_l1Read.calls kj2 (rdOf ByteArray.empty t323 0) t327 _ A14.out).mono ?_
                        rintro e w' ⟨rfl, ⟨nd, rfl⟩⟩
                        refine ⟨_, rfl, ?_⟩
                        refine hK.out _ _ ⟨hHeld.1, hHeld.2⟩ (fun hHeld => ?_)
                        clear hK K
                        refine norm_ (a' := ?_) ?_ ?_
                        rotate_left
                        · show Act.put _ (some 32) _ = _
                          simp only [Act.put, List.setIfInBounds_toArray, List.set_cons_zero, List.set_cons_succ, i64_w, i32_w]
                          rfl
                        refine one_ (i := 7) (N := some 36) #[true, true, true, true, true, true, true, true, false, false, true, false] rfl rfl (one_of HT_.out (by kernel_rfl)) (by decide) (fun K hK => ?_)
                        refine goes_ Tryd.func76 (by kernel_rfl) rfl #[.string (rdOf ByteArray.empty t323 1)] (by rfl) rfl rfl (by (try simp only [List.map_toArray, List.map_cons, List.map_nil]); first | done | rfl | (simp only [List.length_drop, List.length_take]; rfl)) ?_
                        with_reducible refine (spec_l1Read.calls kj2 (rdOf ByteArray.empty t323 1) t329 _ A16.out).mono ?_
                        rintro e w' ⟨rfl, ⟨nd, rfl⟩⟩
                        refine ⟨_, rfl, ?_⟩
                        refine hK.out _ _ ⟨hHeld.1, hHeld.2⟩ (fun hHeld => ?_)
                        clear hK K
                        refine norm_ (a' := ?_) ?_ ?_
                        rotate_left
                        · show Act.put _ (some 36) _ = _
                          simp only [Act.put, List.setIfInBounds_toArray, List.set_cons_zero, List.set_cons_succ, i64_w, i32_w]
                          rfl
                        refine pure_ (i := 8) (N := some 37) (v := ?_) (a' := ?_) #[true, true, true, true, true, true, true, true, true, false, true, false] rfl rfl (any_of HT_.out (by kernel_rfl)) (fun _ _ _ h => h) (Or.inl ⟨by rfl, ?_⟩) ?_ ?_
                        rotate_left
                        · intro w'
                          go_simp
                          with_reducible rfl
                        rotate_left
                        · simp only [Act.put, List.setIfInBounds_toArray, List.set_cons_zero, List.set_cons_succ, i64_w, i32_w]
                          rfl
                        refine pure_ (i := 9) (N := some 38) (v := ?_) (a' := ?_) #[true, true, true, true, true, true, true, true, true, true, true, false] rfl rfl (any_of HT_.out (by kernel_rfl)) (fun _ _ _ h => h) (Or.inl ⟨by rfl, ?_⟩) ?_ ?_
                        rotate_left
                        · intro w'
                          go_simp
                          with_reducible rfl
                        rotate_left
                        · simp only [Act.put, List.setIfInBounds_toArray, List.set_cons_zero, List.set_cons_succ, i64_w, i32_w]
                          rfl
                        exact norm_ (by simp only [putAll, Act.put, List.setIfInBounds_toArray, List.set_cons_zero, List.set_cons_succ]) (hCont (gb330) _ ⟨hHeld, (by (with_reducible repeat (first | apply Kd.R_alloc | apply Kd.R_drewN | apply Kd.R_drew)); exact Kd.R_mono HO325.out (fun _ hk => hk.2)), (by (with_reducible repeat (first | apply Kd.R_alloc | apply Kd.R_drewN | apply Kd.R_drew)); exact Kd.R_mono HO_4.out (fun _ hk => hk.2)), (by (with_reducible repeat (first | refine kn_ ?_ _ | refine blk_drew ?_ | refine ka_ ?_ _)); exact BK318.out), (by (with_reducible repeat (first | refine kn_ ?_ _ | refine blk_drew ?_ | refine ka_ ?_ _)); exact BK330.out), GW330.out, GE330.out, NB318_330.out, NB330_318.out, (by repeat (first | (with_reducible first | exact HB.out | apply ba_ | apply bn_ | apply bd_ | refine bs_ ?_ GE318.out | refine bs_ ?_ GE330.out) | exact HB.out))⟩)
                    rintro gb330 w25 ⟨hS_, h0_, h1_, h2_, h3_, h4_, h5_, h6_, h7_, h8_⟩
                    have n0_ : Aside0 (Kd.R Kd.string 9 w25 w.heap.size (fun k_ => some k_ ≠ (.slice (some ad322) t319.length co20 : Value).ownBlock) (.slice (some ad326) t323.length co22) t323) := ⟨h0_⟩
                    have n1_ : Aside0 (Kd.R Kd.string 9 w25 w.heap.size (fun k_ => some k_ ≠ (.slice (some ad326) t323.length co22 : Value).ownBlock) (.slice (some ad322) t319.length co20) t319) := ⟨h1_⟩
                    have n2_ : Aside0 (w25.heap[gb318]? = some (.cells #[.int .i64 0, .int .i64 0, .slice none 0 0] 42 (0, 0))) := ⟨h2_⟩
                    have n3_ : Aside0 (w25.heap[gb330]? = some (.cells #[.int .i64 0, .int .i64 0, .slice none 0 0] 42 (0, 0))) := ⟨h3_⟩
                    have n4_ : Aside0 (w.heap.size ≤ gb330) := ⟨h4_⟩
                    have n5_ : Aside0 (w.heap.size ≤ gb330) := ⟨h5_⟩
                    have n6_ : Aside0 (gb318 ≠ gb330) := ⟨h6_⟩
                    have n7_ : Aside0 (gb330 ≠ gb318) := ⟨h7_⟩
                    have n8_ : Aside0 (Below w.heap.size w w25) := ⟨h8_⟩
                    clear HO_4
                    clear HO325
                    clear BK318
                    clear HB
                    clear h0_ h1_ h2_ h3_ h4_ h5_ h6_ h7_ h8_
                    have HO325 := n0_
                    have HO_4 := n1_
                    have BK318 := n2_
                    have BK330 := n3_
                    have GW330 := n4_
                    have GE330 := n5_
                    have NB318_330 := n6_
                    have NB330_318 := n7_
                    have HB := n8_
                    clear n0_ n1_ n2_ n3_ n4_ n5_ n6_ n7_ n8_
                    have hHeld : w25.cell? ad326 = some (.string (rdOf ByteArray.empty t323 0)) ∧ w25.cell? ⟨ad326.block, ad326.off + 1, none⟩ = some (.string (rdOf ByteArray.empty t323 1)) := hS_
                    refine norm_ (a' := ?_) ?_ ?_
                    rotate_left
                    · simp only [putAll, Act.put, List.setIfInBounds_toArray, List.set_cons_zero, List.set_cons_succ]
                      rfl
                    refine one_ (i := 11) (N := none) #[true, true, true, true, true, true, true, true, true, true, true, true] rfl rfl (one_of HT_.out (by kernel_rfl)) (by decide) (fun K hK => ?_)
                    have hs26 : w25.cell? ⟨gb330, 0, none⟩ = some (.int .i64 0) := (blk_cell BK330.out 0).trans rfl
                    have hfs26 := blk_frozen BK330.out 0
                    have hns26_0 := NB318_330.out
                    have hms26_0 := NB330_318.out
                    have hs27 : w25.cell? ⟨gb330, 1, none⟩ = some (.int .i64 0) := (blk_cell BK330.out 1).trans rfl
                    have hfs27 := blk_frozen BK330.out 1
                    have hns27_0 := NB318_330.out
                    have hms27_0 := NB330_318.out
                    have hs28 : w25.cell? ⟨gb330, 2, none⟩ = some (.slice none 0 0) := (blk_cell BK330.out 2).trans rfl
                    have hfs28 := blk_frozen BK330.out 2
                    have hns28_0 := NB318_330.out
                    have hms28_0 := NB330_318.out
                    refine skip_ (w1 := ?_) (by rfl) rfl ?_ ?_
                    rotate_left
                    · go_simp
                      rfl
                    refine hK.out _ _ ⟨((cell_far (p := ⟨gb330, _, none⟩) (by first | exact Kd.own_blk (Kd.R_ne HO325.out BK330.out (by decide)) | (rw [add_block]; exact Kd.own_blk (Kd.R_ne HO325.out BK330.out (by decide))) | (show (Addr.add _ _).block ≠ _; rw [add_block]; exact Kd.own_blk (Kd.R_ne HO325.out BK330.out (by decide))) | (dsimp only; exact Kd.own_blk (Kd.R_ne HO325.out BK330.out (by decide)))) _).trans (((cell_far (p := ⟨gb330, _, none⟩) (by first | exact Kd.own_blk (Kd.R_ne HO325.out BK330.out (by decide)) | (rw [add_block]; exact Kd.own_blk (Kd.R_ne HO325.out BK330.out (by decide))) | (show (Addr.add _ _).block ≠ _; rw [add_block]; exact Kd.own_blk (Kd.R_ne HO325.out BK330.out (by decide))) | (dsimp only; exact Kd.own_blk (Kd.R_ne HO325.out BK330.out (by decide)))) _).trans (((cell_far (p := ⟨gb330, _, none⟩) (by first | exact Kd.own_blk (Kd.R_ne HO325.out BK330.out (by decide)) | (rw [add_block]; exact Kd.own_blk (Kd.R_ne HO325.out BK330.out (by decide))) | (show (Addr.add _ _).block ≠ _; rw [add_block]; exact Kd.own_blk (Kd.R_ne HO325.out BK330.out (by decide))) | (dsimp only; exact Kd.own_blk (Kd.R_ne HO325.out BK330.out (by decide)))) _).trans (hHeld.1)))))), ((cell_far (p := ⟨gb330, _, none⟩) (by first | exact Kd.own_blk (Kd.R_ne HO325.out BK330.out (by decide)) | (rw [add_block]; exact Kd.own_blk (Kd.R_ne HO325.out BK330.out (by decide))) | (show (Addr.add _ _).block ≠ _; rw [add_block]; exact Kd.own_blk (Kd.R_ne HO325.out BK330.out (by decide))) | (dsimp only; exact Kd.own_blk (Kd.R_ne HO325.out BK330.out (by decide)))) _).trans (((cell_far (p := ⟨gb330, _, none⟩) (by first | exact Kd.own_blk (Kd.R_ne HO325.out BK330.out (by decide)) | (rw [add_block]; exact Kd.own_blk (Kd.R_ne HO325.out BK330.out (by decide))) | (show (Addr.add _ _).block ≠ _; rw [add_block]; exact Kd.own_blk (Kd.R_ne HO325.out BK330.out (by decide))) | (dsimp only; exact Kd.own_blk (Kd.R_ne HO325.out BK330.out (by decide)))) _).trans (((cell_far (p := ⟨gb330, _, none⟩) (by first | exact Kd.own_blk (Kd.R_ne HO325.out BK330.out (by decide)) | (rw [add_block]; exact Kd.own_blk (Kd.R_ne HO325.out BK330.out (by decide))) | (show (Addr.add _ _).block ≠ _; rw [add_block]; exact Kd.own_blk (Kd.R_ne HO325.out BK330.out (by decide))) | (dsimp only; exact Kd.own_blk (Kd.R_ne HO325.out BK330.out (by decide)))) _).trans (hHeld.2))))))⟩ (fun hHeld => ?_)
                    clear hK K
                    refine done_ (done_of HT_.out (by kernel_rfl)) ?_
                    have p331 : 0 ≤ (1 : Int) := (by omega)
                    have q331 : 1 < (t319.length : Int) := of_decide_eq_true (by first | (with_reducible assumption) | assumption)
                    obtain ⟨ad331, e331, hx331_0⟩ := Kd.at_string (Kd.R_reads' HO_4.out).2.2 1 p331 q331
                    obtain rfl : ad322 = ad331 := (by injection e331)
                    (try simp only [show (1 : Int).toNat = 1 from rfl, Nat.reduceMul, Nat.reduceEqDiff, Go.Addr.add, ↓reduceIte] at hx331_0)
                    have qi331 : (1 < t319.length) = True := eq_true (by omega)
                    (try rw [show ((1 : Int)).toNat = 1 from rfl] at hx331_0)
                    have hn331_0 : ad322.block ≠ gb330 := Kd.own_blk (Kd.R_ne HO_4.out BK330.out (by decide))
                    have hn331_1 : ad322.block ≠ gb330 := Kd.own_blk (Kd.R_ne HO_4.out BK330.out (by decide))
                    have hn331_2 : ad322.block ≠ gb330 := Kd.own_blk (Kd.R_ne HO_4.out BK330.out (by decide))
                    replace hx331_0 := (cell_far (p := ⟨gb330, 0, none⟩) (by first | (rw [add_block]; exact hn331_0) | (show (Addr.add _ _).block ≠ _; rw [add_block]; exact hn331_0) | exact hn331_0) (.int .i64 t327)).trans hx331_0
                    replace hx331_0 := (cell_far (p := ⟨gb330, 1, none⟩) (by first | (rw [add_block]; exact hn331_1) | (show (Addr.add _ _).block ≠ _; rw [add_block]; exact hn331_1) | exact hn331_1) (.int .i64 t329)).trans hx331_0
                    replace hx331_0 := (cell_far (p := ⟨gb330, 2, none⟩) (by first | (rw [add_block]; exact hn331_2) | (show (Addr.add _ _).block ≠ _; rw [add_block]; exact hn331_2) | exact hn331_2) (.slice none 0 0)).trans hx331_0
                    clear hn331_0
                    clear hn331_1
                    clear hn331_2
                    replace p331 := eq_true p331
                    replace q331 := eq_true q331
                    have p332 : 0 ≤ (1 : Int) := (by omega)
                    have q332 : 1 < (t319.length : Int) := of_decide_eq_true (by first | (with_reducible assumption) | assumption)
                    obtain ⟨ad332, e332, hx332_0⟩ := Kd.at_string (Kd.R_reads' HO_4.out).2.2 1 p332 q332
                    obtain rfl : ad322 = ad332 := (by injection e332)
                    (try simp only [show (1 : Int).toNat = 1 from rfl, Nat.reduceMul, Nat.reduceEqDiff, Go.Addr.add, ↓reduceIte] at hx332_0)
                    have qi332 : (1 < t319.length) = True := eq_true (by omega)
                    (try rw [show ((1 : Int)).toNat = 1 from rfl] at hx332_0)
                    have hn332_0 : ad322.block ≠ gb330 := Kd.own_blk (Kd.R_ne HO_4.out BK330.out (by decide))
                    have hn332_1 : ad322.block ≠ gb330 := Kd.own_blk (Kd.R_ne HO_4.out BK330.out (by decide))
                    have hn332_2 : ad322.block ≠ gb330 := Kd.own_blk (Kd.R_ne HO_4.out BK330.out (by decide))
                    replace hx332_0 := (cell_far (p := ⟨gb330, 0, none⟩) (by first | (rw [add_block]; exact hn332_0) | (show (Addr.add _ _).block ≠ _; rw [add_block]; exact hn332_0) | exact hn332_0) (.int .i64 t327)).trans hx332_0
                    replace hx332_0 := (cell_far (p := ⟨gb330, 1, none⟩) (by first | (rw [add_block]; exact hn332_1) | (show (Addr.add _ _).block ≠ _; rw [add_block]; exact hn332_1) | exact hn332_1) (.int .i64 t329)).trans hx332_0
                    replace hx332_0 := (cell_far (p := ⟨gb330, 2, none⟩) (by first | (rw [add_block]; exact hn332_2) | (show (Addr.add _ _).block ≠ _; rw [add_block]; exact hn332_2) | exact hn332_2) (.slice none 0 0)).trans hx332_0
                    clear hn332_0
                    clear hn332_1
                    clear hn332_2
                    replace p332 := eq_true p332
                    replace q332 := eq_true q332
                    try go_wp2_with (first | ((with_reducible refine gate_callee (f := 75) rfl ?_); refine goesL_ (some 47) rfl rfl Tryd.func75 (by kernel_rfl) rfl #[.string (rdOf ByteArray.empty t319 1), .int .u8 44] rfl (by (try simp only [List.map_toArray, List.map_cons, List.map_nil]); first | done | rfl | (simp only [List.length_drop, List.length_take]; rfl)) ?_; (with_reducible refine (spec_l1Split.calls kj2 (rdOf ByteArray.empty t319 1) 44 t333 _ A19.out).mono ?_); rintro e w29 ⟨v334, rfl, ho0, hb⟩; refine ⟨_, rfl, ?_⟩; have n0_ := amk (Kd.R_elder' (by (with_reducible repeat (first | apply Kd.R_alloc | apply Kd.R_drewN | apply Kd.R_drew)); exact (Kd.R_mono (Kd.R_far (p := ⟨gb330, 2, none⟩) (Kd.R_far (p := ⟨gb330, 1, none⟩) (Kd.R_far (p := ⟨gb330, 0, none⟩) (Kd.R_types HO_4.out BK330.out (by decide)) (fun _ hk => hk.2) (.int .i64 t327)) (fun _ hk => hk.2) (.int .i64 t329)) (fun _ hk => hk.2) (.slice none 0 0)) (fun _ h_ => h_.1))) (Kd.R_base ho0) hb); have n1_ := amk (Kd.R_elder' (by (with_reducible repeat (first | apply Kd.R_alloc | apply Kd.R_drewN | apply Kd.R_drew)); exact (Kd.R_mono (Kd.R_far (p := ⟨gb330, 2, none⟩) (Kd.R_far (p := ⟨gb330, 1, none⟩) (Kd.R_far (p := ⟨gb330, 0, none⟩) (Kd.R_types HO325.out BK330.out (by decide)) (fun _ hk => hk.2) (.int .i64 t327)) (fun _ hk => hk.2) (.int .i64 t329)) (fun _ hk => hk.2) (.slice none 0 0)) (fun _ h_ => h_.1))) (Kd.R_base ho0) hb); have n2_ := amk (Kd.R_lower (Kd.R_new' (Kd.R_new' ho0 (Kd.R_lt (by (with_reducible repeat (first | apply Kd.R_alloc | apply Kd.R_drewN | apply Kd.R_drew)); exact (Kd.R_mono (Kd.R_far (p := ⟨gb330, 2, none⟩) (Kd.R_far (p := ⟨gb330, 1, none⟩) (Kd.R_far (p := ⟨gb330, 0, none⟩) (Kd.R_types HO_4.out BK330.out (by decide)) (fun _ hk => hk.2) (.int .i64 t327)) (fun _ hk => hk.2) (.int .i64 t329)) (fun _ hk => hk.2) (.slice none 0 0)) (fun _ h_ => h_.1))))) (Kd.R_lt (by (with_reducible repeat (first | apply Kd.R_alloc | apply Kd.R_drewN | apply Kd.R_drew)); exact (Kd.R_mono (Kd.R_far (p := ⟨gb330, 2, none⟩) (Kd.R_far (p := ⟨gb330, 1, none⟩) (Kd.R_far (p := ⟨gb330, 0, none⟩) (Kd.R_types HO325.out BK330.out (by decide)) (fun _ hk => hk.2) (.int .i64 t327)) (fun _ hk => hk.2) (.int .i64 t329)) (fun _ hk => hk.2) (.slice none 0 0)) (fun _ h_ => h_.1))))) (below_size (by repeat (first | (with_reducible first | exact HB.out | apply ba_ | apply bn_ | apply bd_ | refine bs_ ?_ GE318.out | refine bs_ ?_ GE330.out) | exact HB.out)))); have n3_ := amk (blk_below (g := gb318) (o := .cells #[.int .i64 0, .int .i64 0, .slice none 0 0] 42 (0, 0)) (by (with_reducible repeat (first | refine kn_ ?_ _ | refine blk_drew ?_ | refine ka_ ?_ _)); refine blk_far ?_ NB318_330.out _; (with_reducible repeat (first | refine kn_ ?_ _ | refine blk_drew ?_ | refine ka_ ?_ _)); refine blk_far ?_ NB318_330.out _; (with_reducible repeat (first | refine kn_ ?_ _ | refine blk_drew ?_ | refine ka_ ?_ _)); refine blk_far ?_ NB318_330.out _; (with_reducible repeat (first | refine kn_ ?_ _ | refine blk_drew ?_ | refine ka_ ?_ _)); exact BK318.out) hb); have n4_ := amk (blk_below (g := gb330) (o := .cells #[.int .i64 t327, .int .i64 t329, .slice none 0 0] 42 (0, 0)) (by (with_reducible repeat (first | refine kn_ ?_ _ | refine blk_drew ?_ | refine ka_ ?_ _)); refine blk_put (cs := #[.int .i64 t327, .int .i64 t329, .slice none 0 0]) ?_ 2 _ rfl; (with_reducible repeat (first | refine kn_ ?_ _ | refine blk_drew ?_ | refine ka_ ?_ _)); refine blk_put (cs := #[.int .i64 t327, .int .i64 0, .slice none 0 0]) ?_ 1 _ rfl; (with_reducible repeat (first | refine kn_ ?_ _ | refine blk_drew ?_ | refine ka_ ?_ _)); refine blk_put (cs := #[.int .i64 0, .int .i64 0, .slice none 0 0]) ?_ 0 _ rfl; (with_reducible repeat (first | refine kn_ ?_ _ | refine blk_drew ?_ | refine ka_ ?_ _)); exact BK330.out) hb); have n5_ := amk (bp_ (by repeat (first | (with_reducible first | exact HB.out | apply ba_ | apply bn_ | apply bd_ | refine bs_ ?_ GE318.out | refine bs_ ?_ GE330.out) | exact HB.out)) hb); clear HO_4; clear HO325; clear BK318; clear BK330; clear HB; have HO_4 := n0_; have HO325 := n1_; have HO335 := n2_; have BK318 := n3_; have BK330 := n4_; have HB := n5_; clear n0_ n1_ n2_ n3_ n4_ n5_; (try clear hb); (try clear hb2); (try clear hk); (try clear hi); (try clear ho0); obtain ⟨Ao30, co30, eo30⟩ := Kd.R_slice HO335.out; subst eo30))
                    go_loopg [49] kj2 (fun kq v49 w' => ∃ (x49_2 : Int) (x319000_2 : Int) (x319001_2 : Int) (x331002_2 : List (S77)) (u331002 : Value), v49 = .int .i64 x49_2 ∧ Aside0 (spec_pzParse.l0 kq a0 t333 (t333.length : Int) x49_2 t327 t329 x331002_2 = some (r1, r2, r3, r4)) ∧ Aside0 (kq ≤ kj2) ∧ Aside0 (Kd.R Kd.string 9 w' w.heap.size (fun _ => True) (.slice Ao30 t333.length co30) t333) ∧ Aside0 (Kd.R k77 77 w' w.heap.size (fun _ => True) u331002 x331002_2) ∧ Aside0 (w'.heap[gb318]? = some (.cells #[.int .i64 x319000_2, .int .i64 x319001_2, (.slice none 0 0)] 42 (0, 0))) ∧ Aside0 (w'.heap[gb330]? = some (.cells #[.int .i64 t327, .int .i64 t329, u331002] 42 (0, 0))) ∧ Aside0 (Below w.heap.size w w'))
                    case atStart => exact ⟨(0), (0), (0), (([] : List (S77))), (.slice none 0 0), (by first | rfl | (simp; done) | (simp [*]; done)), H', ⟨Nat.le_refl _⟩, ⟨by (with_reducible repeat (first | apply Kd.R_alloc | apply Kd.R_drewN | apply Kd.R_drew)); exact Kd.R_mono HO335.out (fun _ hk => trivial)⟩, ⟨by first | exact Kd.R_nil _ _ _ _ _ | exact Kd.N_nil _ _ _ _ _ | exact Kd.V_nil _ _ _ _ _ | exact Kd.Q_nil _ _ _ _ _ | exact Kd.S_nil _ _ _ _ _⟩, ⟨by (with_reducible repeat (first | refine kn_ ?_ _ | refine blk_drew ?_ | refine ka_ ?_ _)); exact BK318.out⟩, ⟨by (with_reducible repeat (first | refine kn_ ?_ _ | refine blk_drew ?_ | refine ka_ ?_ _)); exact BK330.out⟩, ⟨by repeat (first | (with_reducible first | exact HB.out | apply ba_ | apply bn_ | apply bd_ | refine bs_ ?_ GE318.out | refine bs_ ?_ GE330.out) | exact HB.out)⟩⟩
                    case round =>
                      clear H'
                      try clear c1; try clear p2; try clear p3; try clear q3; try clear hx3; try clear qi3; try clear c4; try clear c6; try clear c6b0; try clear c6b1; try clear c7; try clear c8; try clear c10; try clear c10b0; try clear c10b1; try clear c12; try clear c12b0; try clear c12b1; try clear c13; try clear c13b0; try clear c13b1; try clear c15; try clear c15b0; try clear c15b1; try clear c17; try clear c17b0; try clear c17b1; try clear c18; try clear c18b0; try clear c18b1; try clear hcz9_0; try clear hcz9_1; try clear hcz9_2; try clear hfz9_0; try clear hfz9_1; try clear hfz9_2; try clear hx322_0; try clear hx326_0; try clear hx328_0; try clear hx331_0; try clear hx332_0; try clear p2; try clear p322; try clear p326; try clear p328; try clear p331; try clear p332; try clear q322; try clear q326; try clear q328; try clear q331; try clear q332
                      obtain ⟨x49_2, x319000_2, x319001_2, x331002_2, u331002, rfl, HA, HK2, HO_47, HO_331002, BK318, BK330, HB⟩ := hrel
                      cases gk with
                      | zero => exact absurd HA.out (by simp [spec_pzParse.l0])
                      | succ k2 =>
                        have H := HA.out
                        clear HA
                        simp only [spec_pzParse.l0] at H
                        by_cases c31 : x49_2 < (t333.length : Int)
                        · rw [if_pos c31] at H
                          have c31b0 : decide (x49_2 < (t333.length : Int)) = true := decide_eq_true c31
                          clear c31
                          by_cases c32 : 0 ≤ x49_2
                          · rw [if_pos c32] at H
                            have c32b0 : decide (0 ≤ x49_2) = true := decide_eq_true c32
                            clear c32
                            by_cases c33 : x49_2 < (t333.length : Int)
                            · rw [if_pos c33] at H
                              have c33b0 : decide (x49_2 < (t333.length : Int)) = true := decide_eq_true c33
                              clear c33
                              replace H := Option.bind_eq_some_iff.mp H
                              obtain ⟨t339, A340, H⟩ := H
                              replace H : (if (t339.length : Int) = 3 then (if 0 < (t339.length : Int) then ((spec_l1Read.f k2 (rdOf ByteArray.empty t339 0)).bind fun t343 => (if 1 < (t339.length : Int) then ((spec_l1Read.f k2 (rdOf ByteArray.empty t339 1)).bind fun t345 => (if 2 < (t339.length : Int) then ((spec_l1Read.f k2 (rdOf ByteArray.empty t339 2)).bind fun t347 => (if x331002_2.length < 5864062014805 then (spec_pzParse.l0 k2 a0 t333 (t333.length : Int) (wrap64 (x49_2 + 1)) t327 t329 (x331002_2 ++ [(⟨t343, t345, t347⟩ : S77)])) else (none))) else (none))) else (none))) else (none)) else (some (0, 0, ([] : List (S77)), false))) = some (r1, r2, r3, r4) := H
                              have A34 := amk A340
                              clear A340
                              by_cases c35 : (t339.length : Int) = 3
                              · rw [if_pos c35] at H
                                have c35b0 : ((t339.length : Int) == 3) = true := beq_iff_eq.mpr c35
                                have c35b1 : ((t339.length : Int) != 3) = false := bne_eq_false_iff_eq.mpr c35
                                clear c35
                                by_cases c36 : 0 < (t339.length : Int)
                                · rw [if_pos c36] at H
                                  have c36b0 : decide (0 < (t339.length : Int)) = true := decide_eq_true c36
                                  have c36b1 : decide (0 < t339.length) = true := decide_eq_true (by omega)
                                  clear c36
                                  replace H := Option.bind_eq_some_iff.mp H
                                  obtain ⟨t343, A370, H⟩ := H
                                  replace H : (if 1 < (t339.length : Int) then ((spec_l1Read.f k2 (rdOf ByteArray.empty t339 1)).bind fun t345 => (if 2 < (t339.length : Int) then ((spec_l1Read.f k2 (rdOf ByteArray.empty t339 2)).bind fun t347 => (if x331002_2.length < 5864062014805 then (spec_pzParse.l0 k2 a0 t333 (t333.length : Int) (wrap64 (x49_2 + 1)) t327 t329 (x331002_2 ++ [(⟨t343, t345, t347⟩ : S77)])) else (none))) else (none))) else (none)) = some (r1, r2, r3, r4) := H
                                  have A37 := amk A370
                                  clear A370
                                  by_cases c38 : 1 < (t339.length : Int)
                                  · rw [if_pos c38] at H
                                    have c38b0 : decide (1 < (t339.length : Int)) = true := decide_eq_true c38
                                    have c38b1 : decide (1 < t339.length) = true := decide_eq_true (by omega)
                                    clear c38
                                    replace H := Option.bind_eq_some_iff.mp H
                                    obtain ⟨t345, A390, H⟩ := H
                                    replace H : (if 2 < (t339.length : Int) then ((spec_l1Read.f k2 (rdOf ByteArray.empty t339 2)).bind fun t347 => (if x331002_2.length < 5864062014805 then (spec_pzParse.l0 k2 a0 t333 (t333.length : Int) (wrap64 (x49_2 + 1)) t327 t329 (x331002_2 ++ [(⟨t343, t345, t347⟩ : S77)])) else (none))) else (none)) = some (r1, r2, r3, r4) := H
                                    have A39 := amk A390
                                    clear A390
                                    by_cases c40 : 2 < (t339.length : Int)
                                    · rw [if_pos c40] at H
                                      have c40b0 : decide (2 < (t339.length : Int)) = true := decide_eq_true c40
                                      have c40b1 : decide (2 < t339.length) = true := decide_eq_true (by omega)
                                      clear c40
                                      replace H := Option.bind_eq_some_iff.mp H
                                      obtain ⟨t347, A410, H⟩ := H
                                      replace H : (if x331002_2.length < 5864062014805 then (spec_pzParse.l0 k2 a0 t333 (t333.length : Int) (wrap64 (x49_2 + 1)) t327 t329 (x331002_2 ++ [(⟨t343, t345, t347⟩ : S77)])) else (none)) = some (r1, r2, r3, r4) := H
                                      have A41 := amk A410
                                      clear A410
                                      by_cases c42 : x331002_2.length < 5864062014805
                                      · rw [if_pos c42] at H
                                        have LMc42 := amk c42
                                        clear c42
                                        obtain ⟨y348, hy348⟩ : ∃ y_ : List (S77), y_ = (x331002_2 ++ [(⟨t343, t345, t347⟩ : S77)]) := ⟨_, rfl⟩
                                        replace H : (spec_pzParse.l0 k2 a0 t333 (t333.length : Int) (wrap64 (x49_2 + 1)) t327 t329 y348) = some (r1, r2, r3, r4) := by first | (rw [hy348]; with_reducible exact H) | (have H2_ := (Option.bind_some _ _).symm.trans H; rw [hy348]; with_reducible exact H2_) | (have H2_ := (Option.bind_some _ _).symm.trans H; with_reducible exact H2_) | with_reducible exact H | (rw [hy348]; exact H) | exact H
                                        have Ny348 := amk hy348
                                        clear hy348
                                        have H' := amk H
                                        clear H
                                        have p338 : 0 ≤ (x49_2 : Int) := of_decide_eq_true (by first | (with_reducible assumption) | assumption)
                                        have q338 : x49_2 < (t333.length : Int) := of_decide_eq_true (by first | (with_reducible assumption) | assumption)
                                        obtain ⟨ad338, e338, hx338_0⟩ := Kd.at_string (Kd.R_reads' HO_47.out).2.2 x49_2 p338 q338
                                        cases e338
                                        replace p338 := eq_true p338
                                        replace q338 := eq_true q338
                                        try go_wp2_with (first | ((with_reducible refine gate_callee (f := 75) rfl ?_); refine goesL_ (some 54) rfl rfl Tryd.func75 (by kernel_rfl) rfl #[.string (rdOf ByteArray.empty t333 x49_2), .int .u8 46] rfl (by (try simp only [List.map_toArray, List.map_cons, List.map_nil]); first | done | rfl | (simp only [List.length_drop, List.length_take]; rfl)) ?_; (with_reducible refine (spec_l1Split.calls k2 (rdOf ByteArray.empty t333 x49_2) 46 t339 _ A34.out).mono ?_); rintro e w43 ⟨v340, rfl, ho0, hb⟩; refine ⟨_, rfl, ?_⟩; have n0_ := amk (Kd.R_elder' (by (with_reducible repeat (first | apply Kd.R_alloc | apply Kd.R_drewN | apply Kd.R_drew)); exact HO_47.out) (Kd.R_base ho0) hb); have n1_ := amk (Kd.R_below (by (with_reducible repeat (first | apply Kd.R_alloc | apply Kd.R_drewN | apply Kd.R_drew)); exact HO_331002.out) hb); have n2_ := amk (Kd.R_lower (Kd.R_new' ho0 (Kd.R_lt (by (with_reducible repeat (first | apply Kd.R_alloc | apply Kd.R_drewN | apply Kd.R_drew)); exact HO_47.out))) (below_size (by repeat (first | (with_reducible first | exact HB.out | apply ba_ | apply bn_ | apply bd_ | refine bs_ ?_ GE318.out | refine bs_ ?_ GE330.out) | exact HB.out)))); have n3_ := amk (blk_below (g := gb318) (o := .cells #[.int .i64 x319000_2, .int .i64 x319001_2, .slice none 0 0] 42 (0, 0)) (by (with_reducible repeat (first | refine kn_ ?_ _ | refine blk_drew ?_ | refine ka_ ?_ _)); exact BK318.out) hb); have n4_ := amk (blk_below (g := gb330) (o := .cells #[.int .i64 t327, .int .i64 t329, u331002] 42 (0, 0)) (by (with_reducible repeat (first | refine kn_ ?_ _ | refine blk_drew ?_ | refine ka_ ?_ _)); exact BK330.out) hb); have n5_ := amk (bp_ (by repeat (first | (with_reducible first | exact HB.out | apply ba_ | apply bn_ | apply bd_ | refine bs_ ?_ GE318.out | refine bs_ ?_ GE330.out) | exact HB.out)) hb); clear HO_47; clear HO_331002; clear BK318; clear BK330; clear HB; have HO_47 := n0_; have HO_331002 := n1_; have HO341 := n2_; have BK318 := n3_; have BK330 := n4_; have HB := n5_; clear n0_ n1_ n2_ n3_ n4_ n5_; (try clear hb); (try clear hb2); (try clear hk); (try clear hi); (try clear ho0); obtain ⟨Ao44, co44, eo44⟩ := Kd.R_slice HO341.out; subst eo44))
                                        have n0_ := amk (Kd.R_drew HO_47.out)
                                        have n1_ := amk (Kd.R_drew HO_331002.out)
                                        have n2_ := amk (Kd.R_drew HO341.out)
                                        have n3_ := amk (blk_drew BK318.out)
                                        have n4_ := amk (blk_drew BK330.out)
                                        have n5_ := amk (bd_ HB.out)
                                        clear HO_47
                                        clear HO_331002
                                        clear HO341
                                        clear BK318
                                        clear BK330
                                        clear HB
                                        have HO_47 := n0_
                                        have HO_331002 := n1_
                                        have HO341 := n2_
                                        have BK318 := n3_
                                        have BK330 := n4_
                                        have HB := n5_
                                        clear n0_ n1_ n2_ n3_ n4_ n5_
                                        have p342 : 0 ≤ (0 : Int) := (by omega)
                                        have q342 : 0 < (t339.length : Int) := of_decide_eq_true (by first | (with_reducible assumption) | assumption)
                                        obtain ⟨ad342, e342, hx342_0⟩ := Kd.at_string (Kd.R_reads' HO341.out).2.2 0 p342 q342
                                        cases e342
                                        have qi342 : (0 < t339.length) = True := eq_true (by omega)
                                        (try rw [show ((0 : Int)).toNat = 0 from rfl] at hx342_0)
                                        (try rw [Addr.add_zero'] at hx342_0)
                                        replace p342 := eq_true p342
                                        replace q342 := eq_true q342
                                        have p344 : 0 ≤ (1 : Int) := (by omega)
                                        have q344 : 1 < (t339.length : Int) := of_decide_eq_true (by first | (with_reducible assumption) | assumption)
                                        obtain ⟨ad344, e344, hx344_0⟩ := Kd.at_string (Kd.R_reads' HO341.out).2.2 1 p344 q344
                                        obtain rfl : ad342 = ad344 := (by injection e344)
                                        (try simp only [show (1 : Int).toNat = 1 from rfl, Nat.reduceMul, Nat.reduceEqDiff, Go.Addr.add, ↓reduceIte] at hx344_0)
                                        have qi344 : (1 < t339.length) = True := eq_true (by omega)
                                        (try rw [show ((1 : Int)).toNat = 1 from rfl] at hx344_0)
                                        replace p344 := eq_true p344
                                        replace q344 := eq_true q344
                                        have p346 : 0 ≤ (2 : Int) := (by omega)
                                        have q346 : 2 < (t339.length : Int) := of_decide_eq_true (by first | (with_reducible assumption) | assumption)
                                        obtain ⟨ad346, e346, hx346_0⟩ := Kd.at_string (Kd.R_reads' HO341.out).2.2 2 p346 q346
                                        obtain rfl : ad342 = ad346 := (by injection e346)
                                        (try simp only [show (2 : Int).toNat = 2 from rfl, Nat.reduceMul, Nat.reduceEqDiff, Go.Addr.add, ↓reduceIte] at hx346_0)
                                        have qi346 : (2 < t339.length) = True := eq_true (by omega)
                                        (try rw [show ((2 : Int)).toNat = 2 from rfl] at hx346_0)
                                        replace p346 := eq_true p346
                                        replace q346 := eq_true q346
                                        refine start_ (n := 19) (S := fun w' => w'.cell? ⟨gb330, 0, none⟩ = some (.int .i64 t327) ∧ w'.cell? ⟨gb330, 1, none⟩ = some (.int .i64 t329) ∧ w'.cell? ⟨gb330, 2, none⟩ = some (u331002) ∧ w'.cell? ad342 = some (.string (rdOf ByteArray.empty t339 0)) ∧ w'.cell? ⟨ad342.block, ad342.off + 1, none⟩ = some (.string (rdOf ByteArray.empty t339 1)) ∧ w'.cell? ⟨ad342.block, ad342.off + 2, none⟩ = some (.string (rdOf ByteArray.empty t339 2))) (ds := [16, 18]) #[false, false, false, false, false, false, false, false, false, false, false, false, false, false, false, false, false, false, false] (by kernel_rfl) rfl rfl ⟨(blk_cell BK330.out 0).trans rfl, (blk_cell BK330.out 1).trans rfl, (blk_cell BK330.out 2).trans rfl, hx342_0, hx344_0, hx346_0⟩ (fun hHeld => ?_); refine with_tabW spec_pzParse.tab15 spec_pzParse.bits15 (fun HT_ HW_ => ?_)
                                        generalize w43.drew = w45 at HO_47 HO_331002 HO341 BK318 BK330 HB hx342_0 hx344_0 hx346_0 hHeld ⊢
                                        refine pure_ (i := 0) (N := some 59) (v := ?_) (a' := ?_) #[true, false, false, false, false, false, false, false, false, false, false, false, false, false, false, false, false, false, false] rfl rfl (any_of HT_.out (by kernel_rfl)) (fun _ _ _ h => h) (Or.inl ⟨by rfl, ?_⟩) ?_ ?_
                                        rotate_left
                                        · intro w'
                                          go_simp
                                          with_reducible rfl
                                        rotate_left
                                        · simp only [Act.put, List.setIfInBounds_toArray, List.set_cons_zero, List.set_cons_succ, i64_w, i32_w]
                                          rfl
                                        refine pure_ (i := 2) (N := some 61) (v := ?_) (a' := ?_) #[true, false, true, false, false, false, false, false, false, false, false, false, false, false, false, false, false, false, false] rfl rfl (any_of HT_.out (by kernel_rfl)) (fun _ _ _ h => h) (Or.inl ⟨by rfl, ?_⟩) ?_ ?_
                                        rotate_left
                                        · intro w'
                                          go_simp
                                          with_reducible rfl
                                        rotate_left
                                        · simp only [Act.put, List.setIfInBounds_toArray, List.set_cons_zero, List.set_cons_succ, i64_w, i32_w]
                                          rfl
                                        refine pure_ (i := 3) (N := some 62) (v := ?_) (a' := ?_) #[true, false, true, true, false, false, false, false, false, false, false, false, false, false, false, false, false, false, false] rfl rfl (any_of HT_.out (by kernel_rfl)) (fun _ _ _ h => h) (Or.inl ⟨by rfl, ?_⟩) ?_ ?_
                                        rotate_left
                                        · intro w'
                                          go_simp
                                          with_reducible rfl
                                        rotate_left
                                        · simp only [Act.put, List.setIfInBounds_toArray, List.set_cons_zero, List.set_cons_succ, i64_w, i32_w]
                                          rfl
                                        refine pure_ (i := 6) (N := some 65) (v := ?_) (a' := ?_) #[true, false, true, true, false, false, true, false, false, false, false, false, false, false, false, false, false, false, false] rfl rfl (any_of HT_.out (by kernel_rfl)) (fun _ _ _ h => h) (Or.inl ⟨by rfl, ?_⟩) ?_ ?_
                                        rotate_left
                                        · intro w'
                                          go_simp
                                          with_reducible rfl
                                        rotate_left
                                        · simp only [Act.put, List.setIfInBounds_toArray, List.set_cons_zero, List.set_cons_succ, i64_w, i32_w]
                                          rfl
                                        refine pure_ (i := 7) (N := some 66) (v := ?_) (a' := ?_) #[true, false, true, true, false, false, true, true, false, false, false, false, false, false, false, false, false, false, false] rfl rfl (any_of HT_.out (by kernel_rfl)) (fun _ _ _ h => h) (Or.inl ⟨by rfl, ?_⟩) ?_ ?_
                                        rotate_left
                                        · intro w'
                                          go_simp
                                          with_reducible rfl
                                        rotate_left
                                        · simp only [Act.put, List.setIfInBounds_toArray, List.set_cons_zero, List.set_cons_succ, i64_w, i32_w]
                                          rfl
                                        refine pure_ (i := 10) (N := some 69) (v := ?_) (a' := ?_) #[true, false, true, true, false, false, true, true, false, false, true, false, false, false, false, false, false, false, false] rfl rfl (any_of HT_.out (by kernel_rfl)) (fun _ _ _ h => h) (Or.inl ⟨by rfl, ?_⟩) ?_ ?_
                                        rotate_left
                                        · intro w'
                                          go_simp
                                          with_reducible rfl
                                        rotate_left
                                        · simp only [Act.put, List.setIfInBounds_toArray, List.set_cons_zero, List.set_cons_succ, i64_w, i32_w]
                                          rfl
                                        refine pure_ (i := 11) (N := some 70) (v := ?_) (a' := ?_) #[true, false, true, true, false, false, true, true, false, false, true, true, false, false, false, false, false, false, false] rfl rfl (any_of HT_.out (by kernel_rfl)) (fun _ _ _ h => h) (Or.inl ⟨by rfl, ?_⟩) ?_ ?_
                                        rotate_left
                                        · intro w'
                                          go_simp
                                          with_reducible rfl
                                        rotate_left
                                        · simp only [Act.put, List.setIfInBounds_toArray, List.set_cons_zero, List.set_cons_succ, i64_w, i32_w]
                                          rfl
                                        refine take_ (i := 1) (N := some 60) (v := ?_) (a' := ?_) #[true, true, true, true, false, false, true, true, false, false, true, true, false, false, false, false, false, false, false] rfl rfl (take_ofW HT_.out HW_.out (by kernel_rfl)) (fun _ _ _ h => h) (Or.inl ⟨by rfl, ?_⟩) hHeld ?_ ?_
                                        rotate_left
                                        · rintro w' ⟨s0, s1, s2, s3, s4, s5⟩
                                          go_simp
                                          with_reducible rfl
                                        rotate_left
                                        · simp only [Act.put, List.setIfInBounds_toArray, List.set_cons_zero, List.set_cons_succ, i64_w, i32_w]
                                          rfl
                                        refine take_ (i := 4) (N := some 63) (v := ?_) (a' := ?_) #[true, true, true, true, true, false, true, true, false, false, true, true, false, false, false, false, false, false, false] rfl rfl (take_ofW HT_.out HW_.out (by kernel_rfl)) (fun _ _ _ h => h) (Or.inl ⟨by rfl, ?_⟩) hHeld ?_ ?_
                                        rotate_left
                                        · rintro w' ⟨s0, s1, s2, s3, s4, s5⟩
                                          go_simp
                                          with_reducible rfl
                                        rotate_left
                                        · simp only [Act.put, List.setIfInBounds_toArray, List.set_cons_zero, List.set_cons_succ, i64_w, i32_w]
                                          rfl
                                        refine take_ (i := 8) (N := some 67) (v := ?_) (a' := ?_) #[true, true, true, true, true, false, true, true, true, false, true, true, false, false, false, false, false, false, false] rfl rfl (take_ofW HT_.out HW_.out (by kernel_rfl)) (fun _ _ _ h => h) (Or.inl ⟨by rfl, ?_⟩) hHeld ?_ ?_
                                        rotate_left
                                        · rintro w' ⟨s0, s1, s2, s3, s4, s5⟩
                                          go_simp
                                          with_reducible rfl
                                        rotate_left
                                        · simp only [Act.put, List.setIfInBounds_toArray, List.set_cons_zero, List.set_cons_succ, i64_w, i32_w]
                                          rfl
                                        refine take_ (i := 12) (N := some 71) (v := ?_) (a' := ?_) #[true, true, true, true, true, false, true, true, true, false, true, true, true, false, false, false, false, false, false] rfl rfl (take_ofW HT_.out HW_.out (by kernel_rfl)) (fun _ _ _ h => h) (Or.inl ⟨by rfl, ?_⟩) hHeld ?_ ?_
                                        rotate_left
                                        · rintro w' ⟨s0, s1, s2, s3, s4, s5⟩
                                          go_simp
                                          with_reducible rfl
                                        rotate_left
                                        · simp only [Act.put, List.setIfInBounds_toArray, List.set_cons_zero, List.set_cons_succ, i64_w, i32_w]
                                          rfl
                                        refine one_ (i := 5) (N := some 64) #[true, true, true, true, true, true, true, true, true, false, true, true, true, false, false, false, false, false, false] rfl rfl (one_of HT_.out (by kernel_rfl)) (by decide) (fun K hK => ?_)
                                        refine goes_ Tryd.func76 (by kernel_rfl) rfl #[.string (rdOf ByteArray.empty t339 0)] (by rfl) rfl rfl (by (try simp only [List.map_toArray, List.map_cons, List.map_nil]); first | done | rfl | (simp only [List.length_drop, List.length_take]; rfl)) ?_
                                        with_reducible refine (spec_l1Read.calls k2 (rdOf ByteArray.empty t339 0) t343 _ A37.out).mono ?_
                                        rintro e w' ⟨rfl, ⟨nd, rfl⟩⟩
                                        refine ⟨_, rfl, ?_⟩
                                        refine hK.out _ _ ⟨(blk_cell BK330.out 0).trans rfl, (blk_cell BK330.out 1).trans rfl, (blk_cell BK330.out 2).trans rfl, hHeld.2.2.2.1, hHeld.2.2.2.2.1, hHeld.2.2.2.2.2⟩ (fun hHeld => ?_)
                                        clear hK K
                                        refine norm_ (a' := ?_) ?_ ?_
                                        rotate_left
                                        · show Act.put _ (some 64) _ = _
                                          simp only [Act.put, List.setIfInBounds_toArray, List.set_cons_zero, List.set_cons_succ, i64_w, i32_w]
                                          rfl
                                        refine one_ (i := 9) (N := some 68) #[true, true, true, true, true, true, true, true, true, true, true, true, true, false, false, false, false, false, false] rfl rfl (one_of HT_.out (by kernel_rfl)) (by decide) (fun K hK => ?_)
                                        refine goes_ Tryd.func76 (by kernel_rfl) rfl #[.string (rdOf ByteArray.empty t339 1)] (by rfl) rfl rfl (by (try simp only [List.map_toArray, List.map_cons, List.map_nil]); first | done | rfl | (simp only [List.length_drop, List.length_take]; rfl)) ?_
                                        with_reducible refine (spec_l1Read.calls k2 (rdOf ByteArray.empty t339 1) t345 _ A39.out).mono ?_
                                        rintro e w' ⟨rfl, ⟨nd, rfl⟩⟩
                                        refine ⟨_, rfl, ?_⟩
                                        refine hK.out _ _ ⟨(blk_cell BK330.out 0).trans rfl, (blk_cell BK330.out 1).trans rfl, (blk_cell BK330.out 2).trans rfl, hHeld.2.2.2.1, hHeld.2.2.2.2.1, hHeld.2.2.2.2.2⟩ (fun hHeld => ?_)
                                        clear hK K
                                        refine norm_ (a' := ?_) ?_ ?_
                                        rotate_left
                                        · show Act.put _ (some 68) _ = _
                                          simp only [Act.put, List.setIfInBounds_toArray, List.set_cons_zero, List.set_cons_succ, i64_w, i32_w]
                                          rfl
                                        refine one_ (i := 13) (N := some 72) #[true, true, true, true, true, true, true, true, true, true, true, true, true, true, false, false, false, false, false] rfl rfl (one_of HT_.out (by kernel_rfl)) (by decide) (fun K hK => ?_)
                                        refine goes_ Tryd.func76 (by kernel_rfl) rfl #[.string (rdOf ByteArray.empty t339 2)] (by rfl) rfl rfl (by (try simp only [List.map_toArray, List.map_cons, List.map_nil]); first | done | rfl | (simp only [List.length_drop, List.length_take]; rfl)) ?_
                                        with_reducible refine (spec_l1Read.calls k2 (rdOf ByteArray.empty t339 2) t347 _ A41.out).mono ?_
                                        rintro e w' ⟨rfl, ⟨nd, rfl⟩⟩
                                        refine ⟨_, rfl, ?_⟩
                                        refine hK.out _ _ ⟨(blk_cell BK330.out 0).trans rfl, (blk_cell BK330.out 1).trans rfl, (blk_cell BK330.out 2).trans rfl, hHeld.2.2.2.1, hHeld.2.2.2.2.1, hHeld.2.2.2.2.2⟩ (fun hHeld => ?_)
                                        clear hK K
                                        refine norm_ (a' := ?_) ?_ ?_
                                        rotate_left
                                        · show Act.put _ (some 72) _ = _
                                          simp only [Act.put, List.setIfInBounds_toArray, List.set_cons_zero, List.set_cons_succ, i64_w, i32_w]
                                          rfl
                                        refine pure_ (i := 14) (N := some 73) (v := ?_) (a' := ?_) #[true, true, true, true, true, true, true, true, true, true, true, true, true, true, true, false, false, false, false] rfl rfl (any_of HT_.out (by kernel_rfl)) (fun _ _ _ h => h) (Or.inl ⟨by rfl, ?_⟩) ?_ ?_
                                        rotate_left
                                        · intro w'
                                          go_simp
                                          with_reducible rfl
                                        rotate_left
                                        · simp only [Act.put, List.setIfInBounds_toArray, List.set_cons_zero, List.set_cons_succ, i64_w, i32_w]
                                          rfl
                                        refine one_ (i := 15) (N := some 74) #[true, true, true, true, true, true, true, true, true, true, true, true, true, true, true, true, false, false, false] rfl rfl (one_of HT_.out (by kernel_rfl)) (by decide) (fun K hK => ?_)
                                        refine value_ (w1 := ?_) (v := ?_) (by rfl) rfl ?_ ?_
                                        rotate_left 2
                                        · go_simp
                                          constructor
                                          · rfl
                                          · rfl
                                        refine hK.out _ _ ⟨(blk_cell (ka_ BK330.out _) 0).trans rfl, (blk_cell (ka_ BK330.out _) 1).trans rfl, (blk_cell (ka_ BK330.out _) 2).trans rfl, (World.cell?_alloc_lt _ _ _ (World.block_lt_of_cell? _ _ (hHeld.2.2.2.1))).trans (hHeld.2.2.2.1), (World.cell?_alloc_lt _ _ _ (World.block_lt_of_cell? _ _ (hHeld.2.2.2.2.1))).trans (hHeld.2.2.2.2.1), (World.cell?_alloc_lt _ _ _ (World.block_lt_of_cell? _ _ (hHeld.2.2.2.2.2))).trans (hHeld.2.2.2.2.2)⟩ (fun hHeld => ?_)
                                        clear hK K
                                        refine norm_ (a' := ?_) ?_ ?_
                                        rotate_left
                                        · show Act.put _ (some 74) _ = _
                                          simp only [Act.put, List.setIfInBounds_toArray, List.set_cons_zero, List.set_cons_succ, i64_w, i32_w]
                                          rfl
                                        refine last_ (i := 16) (N := some 75) #[true, true, true, true, true, true, true, true, true, true, true, true, true, true, true, true, true, false, false] rfl rfl (one_of HT_.out (by kernel_rfl)) (by decide) (fun K hK => ?_)
                                        refine Kd.R_append_step k77 (w0 := w) w.heap.size (by rfl) (.tmp 60) (.tmp 74) 40 77 (.agg #[(.int .i64 0), (.int .i64 0), (.int .i64 0)]) 24 rfl Tryd.underlying40 info77 rfl (by decide) (by omega) u331002 x331002_2 (⟨t343, t345, t347⟩ : S77) [.int .i64 t343, .int .i64 t345, .int .i64 t347] (fun _ => True) (fun _ => False) rfl rfl ?aP (fun _ hk => hk.elim) ?aF ?aO ?aB ?aS ?aL ?_
                                        (case aP => exact k77_mkM _ _ _ (⟨t343, t345, t347⟩ : S77))
                                        (case aB => exact (by repeat (first | (with_reducible first | exact HB.out | apply ba_ | apply bn_ | apply bd_ | refine bs_ ?_ GE318.out | refine bs_ ?_ GE330.out) | exact HB.out)))
                                        (case aF => exact (fun _ _ => trivial))
                                        (case aO => exact (by (with_reducible repeat (first | apply Kd.R_alloc | apply Kd.R_drewN | apply Kd.R_drew)); exact HO_331002.out))
                                        (case aS => exact (below_size (by repeat (first | (with_reducible first | exact HB.out | apply ba_ | apply bn_ | apply bd_ | refine bs_ ?_ GE318.out | refine bs_ ?_ GE330.out) | exact HB.out))))
                                        (case aL => have := LMc42.out; omega)
                                        intro v349 w46 ho hb hg hat
                                        rw [← Ny348.out] at ho
                                        have n0_ := amk (Kd.R_over' (by (with_reducible repeat (first | apply Kd.R_alloc | apply Kd.R_drewN | apply Kd.R_drew)); exact HO_47.out) (Kd.R_typed (by (with_reducible repeat (first | apply Kd.R_alloc | apply Kd.R_drewN | apply Kd.R_drew)); exact HO_331002.out)) (by decide) hg)
                                        have n1_ := amk (blk_grown (g := gb318) (o := .cells #[.int .i64 x319000_2, .int .i64 x319001_2, .slice none 0 0] 42 (0, 0)) (by (with_reducible repeat (first | refine kn_ ?_ _ | refine blk_drew ?_ | refine ka_ ?_ _)); exact BK318.out) hg (Kd.R_ne HO_331002.out BK318.out (by decide)))
                                        have n2_ := amk (blk_grown (g := gb330) (o := .cells #[.int .i64 t327, .int .i64 t329, u331002] 42 (0, 0)) (by (with_reducible repeat (first | refine kn_ ?_ _ | refine blk_drew ?_ | refine ka_ ?_ _)); exact BK330.out) hg (Kd.R_ne HO_331002.out BK330.out (by decide)))
                                        have n3_ := amk (Kd.R_over' (by (with_reducible repeat (first | apply Kd.R_alloc | apply Kd.R_drewN | apply Kd.R_drew)); exact HO341.out) (Kd.R_typed (by (with_reducible repeat (first | apply Kd.R_alloc | apply Kd.R_drewN | apply Kd.R_drew)); exact HO_331002.out)) (by decide) hg)
                                        have n4_ := amk (hb)
                                        have n5_ := amk (ho)
                                        clear HO_47
                                        clear BK318
                                        clear BK330
                                        clear HO341
                                        clear HB
                                        clear HO_331002
                                        have HO_47 := n0_
                                        have BK318 := n1_
                                        have BK330 := n2_
                                        have HO341 := n3_
                                        have HB := n4_
                                        have HO350 := n5_
                                        clear n0_ n1_ n2_ n3_ n4_ n5_
                                        clear ho hb hg hat
                                        obtain ⟨Ao47, co47, eo47⟩ := Kd.R_slice HO350.out
                                        (first | subst eo47 | (injection eo47 with f1_ f2_ f3_; have f4_ := f1_.symm; have f5_ := f3_.symm; clear f1_ f2_ f3_; subst f4_; subst f5_))
                                        refine hK.out _ _ ?_
                                        clear hK K
                                        refine norm_ (a' := ?_) ?_ ?_
                                        rotate_left
                                        · show Act.put _ (some 75) _ = _
                                          simp only [Act.put, List.setIfInBounds_toArray, List.set_cons_zero, List.set_cons_succ, i64_w, i32_w]
                                          rfl
                                        refine pure_ (i := 17) (N := some 76) (v := ?_) (a' := ?_) #[true, true, true, true, true, true, true, true, true, true, true, true, true, true, true, true, true, true, false] rfl rfl (any_of HT_.out (by kernel_rfl)) (fun _ _ _ h => h) (Or.inl ⟨by rfl, ?_⟩) ?_ ?_
                                        rotate_left
                                        · intro w'
                                          go_simp
                                          with_reducible rfl
                                        rotate_left
                                        · simp only [Act.put, List.setIfInBounds_toArray, List.set_cons_zero, List.set_cons_succ, i64_w, i32_w]
                                          rfl
                                        refine last_ (i := 18) (N := none) #[true, true, true, true, true, true, true, true, true, true, true, true, true, true, true, true, true, true, true] rfl rfl (one_of HT_.out (by kernel_rfl)) (by decide) (fun K hK => ?_)
                                        have hs48 : w46.cell? ⟨gb330, 2, none⟩ = some (u331002) := (blk_cell BK330.out 2).trans rfl
                                        have hfs48 := blk_frozen BK330.out 2
                                        have hns48_0 := NB318_330.out
                                        have hms48_0 := NB330_318.out
                                        refine skip_ (w1 := ?_) (by rfl) rfl ?_ ?_
                                        rotate_left
                                        · go_simp
                                          rfl
                                        refine hK.out _ _ ?_
                                        clear hK K
                                        refine done_ (done_of HT_.out (by kernel_rfl)) ?_
                                        try go_wp2
                                        go_roundg k2
                                        case measure => have := HJ2.out; have := HK2.out; omega
                                        case rel => exact ⟨(wrap64 (x49_2 + 1)), (x319000_2), (x319001_2), (y348), (.slice Ao47 y348.length co47), (by first | rfl | (simp; done) | (simp [*]; done)), H', ⟨by have := HJ2.out; have := HK2.out; omega⟩, ⟨by (with_reducible repeat (first | apply Kd.R_alloc | apply Kd.R_drewN | apply Kd.R_drew)); exact Kd.R_mono (Kd.R_far (p := ⟨gb330, 2, none⟩) (Kd.R_types HO_47.out BK330.out (by decide)) (fun _ hk => hk.2) (.slice Ao47 y348.length co47)) (fun _ hk => trivial)⟩, ⟨by (with_reducible repeat (first | apply Kd.R_alloc | apply Kd.R_drewN | apply Kd.R_drew)); exact Kd.R_mono (Kd.R_far (p := ⟨gb330, 2, none⟩) (Kd.R_types HO350.out BK330.out (by decide)) (fun _ hk => hk.2) (.slice Ao47 y348.length co47)) (fun _ hk => trivial)⟩, ⟨by (with_reducible repeat (first | refine kn_ ?_ _ | refine blk_drew ?_ | refine ka_ ?_ _)); refine blk_far ?_ NB318_330.out _; (with_reducible repeat (first | refine kn_ ?_ _ | refine blk_drew ?_ | refine ka_ ?_ _)); exact BK318.out⟩, ⟨by (with_reducible repeat (first | refine kn_ ?_ _ | refine blk_drew ?_ | refine ka_ ?_ _)); refine blk_put (cs := #[.int .i64 t327, .int .i64 t329, u331002]) ?_ 2 _ rfl; (with_reducible repeat (first | refine kn_ ?_ _ | refine blk_drew ?_ | refine ka_ ?_ _)); exact BK330.out⟩, ⟨by repeat (first | (with_reducible first | exact HB.out | apply ba_ | apply bn_ | apply bd_ | refine bs_ ?_ GE318.out | refine bs_ ?_ GE330.out) | exact HB.out)⟩⟩
                                      · rw [if_neg c42] at H
                                        exact absurd H (by simp)
                                    · rw [if_neg c40] at H
                                      exact absurd H (by simp)
                                  · rw [if_neg c38] at H
                                    exact absurd H (by simp)
                                · rw [if_neg c36] at H
                                  exact absurd H (by simp)
                              · rw [if_neg c35] at H
                                have c35b0 : ((t339.length : Int) == 3) = false := beq_eq_false_iff_ne.mpr c35
                                have c35b1 : ((t339.length : Int) != 3) = true := bne_iff_ne.mpr c35
                                simp only [Option.some.injEq, Prod.mk.injEq] at H
                                obtain ⟨rfl, rfl, rfl, rfl⟩ := H
                                have p338 : 0 ≤ (x49_2 : Int) := of_decide_eq_true (by first | (with_reducible assumption) | assumption)
                                have q338 : x49_2 < (t333.length : Int) := of_decide_eq_true (by first | (with_reducible assumption) | assumption)
                                obtain ⟨ad338, e338, hx338_0⟩ := Kd.at_string (Kd.R_reads' HO_47.out).2.2 x49_2 p338 q338
                                cases e338
                                replace p338 := eq_true p338
                                replace q338 := eq_true q338
                                go_wp2_with (first | ((with_reducible refine gate_callee (f := 75) rfl ?_); refine goesL_ (some 54) rfl rfl Tryd.func75 (by kernel_rfl) rfl #[.string (rdOf ByteArray.empty t333 x49_2), .int .u8 46] rfl (by (try simp only [List.map_toArray, List.map_cons, List.map_nil]); first | done | rfl | (simp only [List.length_drop, List.length_take]; rfl)) ?_; (with_reducible refine (spec_l1Split.calls k2 (rdOf ByteArray.empty t333 x49_2) 46 t339 _ A34.out).mono ?_); rintro e w49 ⟨v340, rfl, ho0, hb⟩; refine ⟨_, rfl, ?_⟩; have n0_ := amk (Kd.R_elder' (by (with_reducible repeat (first | apply Kd.R_alloc | apply Kd.R_drewN | apply Kd.R_drew)); exact HO_47.out) (Kd.R_base ho0) hb); have n1_ := amk (Kd.R_below (by (with_reducible repeat (first | apply Kd.R_alloc | apply Kd.R_drewN | apply Kd.R_drew)); exact HO_331002.out) hb); have n2_ := amk (Kd.R_lower (Kd.R_new' ho0 (Kd.R_lt (by (with_reducible repeat (first | apply Kd.R_alloc | apply Kd.R_drewN | apply Kd.R_drew)); exact HO_47.out))) (below_size (by repeat (first | (with_reducible first | exact HB.out | apply ba_ | apply bn_ | apply bd_ | refine bs_ ?_ GE318.out | refine bs_ ?_ GE330.out) | exact HB.out)))); have n3_ := amk (blk_below (g := gb318) (o := .cells #[.int .i64 x319000_2, .int .i64 x319001_2, .slice none 0 0] 42 (0, 0)) (by (with_reducible repeat (first | refine kn_ ?_ _ | refine blk_drew ?_ | refine ka_ ?_ _)); exact BK318.out) hb); have n4_ := amk (blk_below (g := gb330) (o := .cells #[.int .i64 t327, .int .i64 t329, u331002] 42 (0, 0)) (by (with_reducible repeat (first | refine kn_ ?_ _ | refine blk_drew ?_ | refine ka_ ?_ _)); exact BK330.out) hb); have n5_ := amk (bp_ (by repeat (first | (with_reducible first | exact HB.out | apply ba_ | apply bn_ | apply bd_ | refine bs_ ?_ GE318.out | refine bs_ ?_ GE330.out) | exact HB.out)) hb); clear HO_47; clear HO_331002; clear BK318; clear BK330; clear HB; have HO_47 := n0_; have HO_331002 := n1_; have HO341 := n2_; have BK318 := n3_; have BK330 := n4_; have HB := n5_; clear n0_ n1_ n2_ n3_ n4_ n5_; (try clear hb); (try clear hb2); (try clear hk); (try clear hi); (try clear ho0); obtain ⟨Ao50, co50, eo50⟩ := Kd.R_slice HO341.out; subst eo50; have hnb51 := NB318_330.out; have hnc51 := NB330_318.out; have hcz52_0 : w49.cell? ⟨gb318, 0, none⟩ = some (.int .i64 x319000_2) := (blk_cell BK318.out 0).trans rfl; have hcz52_1 : w49.cell? ⟨gb318, 1, none⟩ = some (.int .i64 x319001_2) := (blk_cell BK318.out 1).trans rfl; have hcz52_2 : w49.cell? ⟨gb318, 2, none⟩ = some (.slice none 0 0) := (blk_cell BK318.out 2).trans rfl; have hfz52_0 := blk_frozen BK318.out 0; have hfz52_1 := blk_frozen BK318.out 1; have hfz52_2 := blk_frozen BK318.out 2))
                                refine bodyPost_ret (results_ct rfl _ _ gb318 42 #[.int .i64 0, .int .i64 0, .slice none 0 0] (0, 0) _ rfl (by (with_reducible repeat (first | refine kn_ ?_ _ | refine blk_drew ?_ | refine ka_ ?_ _)); refine blk_put (cs := #[.int .i64 0, .int .i64 0, .slice none 0 0]) ?_ 2 _ rfl; (with_reducible repeat (first | refine kn_ ?_ _ | refine blk_drew ?_ | refine ka_ ?_ _)); refine blk_put (cs := #[.int .i64 0, .int .i64 x319001_2, .slice none 0 0]) ?_ 1 _ rfl; (with_reducible repeat (first | refine kn_ ?_ _ | refine blk_drew ?_ | refine ka_ ?_ _)); refine blk_put (cs := #[.int .i64 x319000_2, .int .i64 x319001_2, .slice none 0 0]) ?_ 0 _ rfl; (with_reducible repeat (first | refine kn_ ?_ _ | refine blk_drew ?_ | refine ka_ ?_ _)); exact BK318.out) Tryd.underlying42 rfl (by kernel_rfl)) rfl ?_
                                exact ⟨_, by first | rfl | (simp [errW_none, errW_some] <;> rfl) | (simp [*, errW_none, errW_some] <;> rfl), by first | exact Kd.R_nil _ _ _ _ _ | exact Kd.N_nil _ _ _ _ _ | exact Kd.V_nil _ _ _ _ _ | exact Kd.Q_nil _ _ _ _ _ | exact Kd.S_nil _ _ _ _ _, by repeat (first | (with_reducible first | exact HB.out | apply ba_ | apply bn_ | apply bd_ | refine bs_ ?_ GE318.out | refine bs_ ?_ GE330.out) | exact HB.out)⟩
                            · rw [if_neg c33] at H
                              exact absurd H (by simp)
                          · rw [if_neg c32] at H
                            exact absurd H (by simp)
                        · rw [if_neg c31] at H
                          have c31b0 : decide (x49_2 < (t333.length : Int)) = false := decide_eq_false c31
                          clear c31
                          replace H := Option.bind_eq_some_iff.mp H
                          obtain ⟨t336, A530, H⟩ := H
                          replace H : (if t336 = true then ((spec_pzText.f k2 t327 t329 x331002_2).bind fun t337 => (some (t327, t329, x331002_2, (t337.toList == a0.toList)))) else (some (t327, t329, x331002_2, false))) = some (r1, r2, r3, r4) := H
                          have A53 := amk A530
                          clear A530
                          by_cases c54 : t336 = true
                          · subst c54
                            have H1 : ((spec_pzText.f k2 t327 t329 x331002_2).bind fun t337 => (some (t327, t329, x331002_2, (t337.toList == a0.toList)))) = some (r1, r2, r3, r4) := by rw [if_pos rfl] at H; exact H
                            clear H
                            have H := H1
                            clear H1
                            replace H := Option.bind_eq_some_iff.mp H
                            obtain ⟨t337, A550, H⟩ := H
                            replace H : (some (t327, t329, x331002_2, (t337.toList == a0.toList))) = some (r1, r2, r3, r4) := H
                            have A55 := amk A550
                            clear A550
                            simp only [Option.some.injEq, Prod.mk.injEq] at H
                            obtain ⟨rfl, rfl, rfl, rfl⟩ := H
                            try go_wp2
                            have n0_ := amk (Kd.R_drew HO_47.out)
                            have n1_ := amk (Kd.R_drew HO_331002.out)
                            have n2_ := amk (blk_drew BK318.out)
                            have n3_ := amk (blk_drew BK330.out)
                            have n4_ := amk (bd_ HB.out)
                            clear HO_47
                            clear HO_331002
                            clear BK318
                            clear BK330
                            clear HB
                            have HO_47 := n0_
                            have HO_331002 := n1_
                            have BK318 := n2_
                            have BK330 := n3_
                            have HB := n4_
                            clear n0_ n1_ n2_ n3_ n4_
                            obtain ⟨Ao57, co57, eo57⟩ := Kd.R_slice HO_331002.out
                            (first | subst eo57 | (injection eo57 with f1_ f2_ f3_; have f4_ := f1_.symm; have f5_ := f3_.symm; clear f1_ f2_ f3_; subst f4_; subst f5_))
                            refine start_ (n := 11) (S := fun w' => w'.cell? ⟨gb330, 0, none⟩ = some (.int .i64 t327) ∧ w'.cell? ⟨gb330, 1, none⟩ = some (.int .i64 t329) ∧ w'.cell? ⟨gb330, 2, none⟩ = some (.slice Ao57 x331002_2.length co57)) (ds := []) #[false, false, false, false, false, false, false, false, false, false, false] (by kernel_rfl) rfl rfl ⟨(blk_cell BK330.out 0).trans rfl, (blk_cell BK330.out 1).trans rfl, (blk_cell BK330.out 2).trans rfl⟩ (fun hHeld => ?_); refine with_tabW spec_pzParse.tab17 spec_pzParse.bits17 (fun HT_ HW_ => ?_)
                            generalize wr.drew = w56 at HO_47 HO_331002 BK318 BK330 HB hHeld ⊢
                            refine take_ (i := 0) (N := some 78) (v := ?_) (a' := ?_) #[true, false, false, false, false, false, false, false, false, false, false] rfl rfl (take_ofW HT_.out HW_.out (by kernel_rfl)) (fun _ _ _ h => h) (Or.inl ⟨by rfl, ?_⟩) hHeld ?_ ?_
                            rotate_left
                            · rintro w' ⟨s0, s1, s2⟩
                              go_simp
                              with_reducible rfl
                            rotate_left
                            · simp only [Act.put, List.setIfInBounds_toArray, List.set_cons_zero, List.set_cons_succ, i64_w, i32_w]
                              rfl
                            refine take_ (i := 1) (N := some 79) (v := ?_) (a' := ?_) #[true, true, false, false, false, false, false, false, false, false, false] rfl rfl (take_ofW HT_.out HW_.out (by kernel_rfl)) (fun _ _ _ h => h) (Or.inl ⟨by rfl, ?_⟩) hHeld ?_ ?_
                            rotate_left
                            · rintro w' ⟨s0, s1, s2⟩
                              go_simp
                              with_reducible rfl
                            rotate_left
                            · simp only [Act.put, List.setIfInBounds_toArray, List.set_cons_zero, List.set_cons_succ, i64_w, i32_w]
                              rfl
                            refine one_ (i := 2) (N := some 80) #[true, true, true, false, false, false, false, false, false, false, false] rfl rfl (one_of HT_.out (by kernel_rfl)) (by decide) (fun K hK => ?_)
                            refine goes_ Tryd.func33 (by kernel_rfl) rfl #[.agg #[.int .i64 t327, .int .i64 t329, .slice Ao57 x331002_2.length co57]] (by rfl) rfl rfl (by (try simp only [List.map_toArray, List.map_cons, List.map_nil]); first | done | rfl | (simp only [List.length_drop, List.length_take]; rfl)) ?_
                            with_reducible refine (spec_pzGood.calls k2 t327 t329 _ _ x331002_2 true _ ?side1 ?side2 A53.out).mono ?_
                            (case side1 => repeat (first | exact (Kd.R_reads' HO_331002.out).2.2 | (with_reducible refine Kd.C_alloc ?_ _) | (with_reducible refine Kd.C_drewN ?_ _) | (with_reducible refine Kd.C_drew ?_)))
                            (case side2 => exact (Kd.R_reads' HO_331002.out).2.1)
                            rintro e w58 ⟨rfl, hb⟩
                            refine ⟨_, rfl, ?_⟩
                            have n0_ := amk (Kd.R_below (by (with_reducible repeat (first | apply Kd.R_alloc | apply Kd.R_drewN | apply Kd.R_drew)); exact HO_47.out) hb)
                            have n1_ := amk (Kd.R_below (by (with_reducible repeat (first | apply Kd.R_alloc | apply Kd.R_drewN | apply Kd.R_drew)); exact HO_331002.out) hb)
                            have n2_ := amk (blk_below (g := gb318) (o := .cells #[.int .i64 x319000_2, .int .i64 x319001_2, .slice none 0 0] 42 (0, 0)) (by (with_reducible repeat (first | refine kn_ ?_ _ | refine blk_drew ?_ | refine ka_ ?_ _)); exact BK318.out) hb)
                            have n3_ := amk (blk_below (g := gb330) (o := .cells #[.int .i64 t327, .int .i64 t329, .slice Ao57 x331002_2.length co57] 42 (0, 0)) (by (with_reducible repeat (first | refine kn_ ?_ _ | refine blk_drew ?_ | refine ka_ ?_ _)); exact BK330.out) hb)
                            have n4_ := amk (bp_ (by repeat (first | (with_reducible first | exact HB.out | apply ba_ | apply bn_ | apply bd_ | refine bs_ ?_ GE318.out | refine bs_ ?_ GE330.out) | exact HB.out)) hb)
                            clear HO_47
                            clear HO_331002
                            clear BK318
                            clear BK330
                            clear HB
                            have HO_47 := n0_
                            have HO_331002 := n1_
                            have BK318 := n2_
                            have BK330 := n3_
                            have HB := n4_
                            clear n0_ n1_ n2_ n3_ n4_
                            (try clear hb)
                            (try clear hb2)
                            (try clear hk)
                            (try clear hi)
                            refine hK.out _ _ ⟨(blk_cell BK330.out 0).trans rfl, (blk_cell BK330.out 1).trans rfl, (blk_cell BK330.out 2).trans rfl⟩ (fun hHeld => ?_)
                            clear hK K
                            refine norm_ (a' := ?_) ?_ ?_
                            rotate_left
                            · show Act.put _ (some 80) _ = _
                              simp only [Act.put, List.setIfInBounds_toArray, List.set_cons_zero, List.set_cons_succ, i64_w, i32_w]
                              rfl
                            refine pure_ (i := 3) (N := some 81) (v := ?_) (a' := ?_) #[true, true, true, true, false, false, false, false, false, false, false] rfl rfl (any_of HT_.out (by kernel_rfl)) (fun _ _ _ h => h) (Or.inl ⟨by rfl, ?_⟩) ?_ ?_
                            rotate_left
                            · intro w'
                              go_simp
                              with_reducible rfl
                            rotate_left
                            · simp only [Act.put, List.setIfInBounds_toArray, List.set_cons_zero, List.set_cons_succ, i64_w, i32_w]
                              rfl
                            refine pure_ (i := 6) (N := some 84) (v := ?_) (a' := ?_) #[true, true, true, true, false, false, true, false, false, false, false] rfl rfl (any_of HT_.out (by kernel_rfl)) (fun _ _ _ h => h) (Or.inl ⟨by rfl, ?_⟩) ?_ ?_
                            rotate_left
                            · intro w'
                              go_simp
                              with_reducible rfl
                            rotate_left
                            · simp only [Act.put, List.setIfInBounds_toArray, List.set_cons_zero, List.set_cons_succ, i64_w, i32_w]
                              rfl
                            refine take_ (i := 4) (N := some 82) (v := ?_) (a' := ?_) #[true, true, true, true, true, false, true, false, false, false, false] rfl rfl (take_ofW HT_.out HW_.out (by kernel_rfl)) (fun _ _ _ h => h) (Or.inl ⟨by rfl, ?_⟩) hHeld ?_ ?_
                            rotate_left
                            · rintro w' ⟨s0, s1, s2⟩
                              go_simp
                              with_reducible rfl
                            rotate_left
                            · simp only [Act.put, List.setIfInBounds_toArray, List.set_cons_zero, List.set_cons_succ, i64_w, i32_w]
                              rfl
                            refine one_ (i := 5) (N := some 83) #[true, true, true, true, true, true, true, false, false, false, false] rfl rfl (one_of HT_.out (by kernel_rfl)) (by decide) (fun K hK => ?_)
                            refine goes_ Tryd.func34 (by kernel_rfl) rfl #[.agg #[.int .i64 t327, .int .i64 t329, .slice Ao57 x331002_2.length co57]] (by rfl) rfl rfl (by (try simp only [List.map_toArray, List.map_cons, List.map_nil]); first | done | rfl | (simp only [List.length_drop, List.length_take]; rfl)) ?_
                            with_reducible refine (spec_pzText.calls k2 t327 t329 _ _ x331002_2 t337 _ ?side1 ?side2 A55.out).mono ?_
                            (case side1 => repeat (first | exact (Kd.R_reads' HO_331002.out).2.2 | (with_reducible refine Kd.C_alloc ?_ _) | (with_reducible refine Kd.C_drewN ?_ _) | (with_reducible refine Kd.C_drew ?_)))
                            (case side2 => exact (Kd.R_reads' HO_331002.out).2.1)
                            rintro e w59 ⟨rfl, hb⟩
                            refine ⟨_, rfl, ?_⟩
                            have n0_ := amk (Kd.R_below (by (with_reducible repeat (first | apply Kd.R_alloc | apply Kd.R_drewN | apply Kd.R_drew)); exact HO_47.out) hb)
                            have n1_ := amk (Kd.R_below (by (with_reducible repeat (first | apply Kd.R_alloc | apply Kd.R_drewN | apply Kd.R_drew)); exact HO_331002.out) hb)
                            have n2_ := amk (blk_below (g := gb318) (o := .cells #[.int .i64 x319000_2, .int .i64 x319001_2, .slice none 0 0] 42 (0, 0)) (by (with_reducible repeat (first | refine kn_ ?_ _ | refine blk_drew ?_ | refine ka_ ?_ _)); exact BK318.out) hb)
                            have n3_ := amk (blk_below (g := gb330) (o := .cells #[.int .i64 t327, .int .i64 t329, .slice Ao57 x331002_2.length co57] 42 (0, 0)) (by (with_reducible repeat (first | refine kn_ ?_ _ | refine blk_drew ?_ | refine ka_ ?_ _)); exact BK330.out) hb)
                            have n4_ := amk (bp_ (by repeat (first | (with_reducible first | exact HB.out | apply ba_ | apply bn_ | apply bd_ | refine bs_ ?_ GE318.out | refine bs_ ?_ GE330.out) | exact HB.out)) hb)
                            clear HO_47
                            clear HO_331002
                            clear BK318
                            clear BK330
                            clear HB
                            have HO_47 := n0_
                            have HO_331002 := n1_
                            have BK318 := n2_
                            have BK330 := n3_
                            have HB := n4_
                            clear n0_ n1_ n2_ n3_ n4_
                            (try clear hb)
                            (try clear hb2)
                            (try clear hk)
                            (try clear hi)
                            refine hK.out _ _ ⟨(blk_cell BK330.out 0).trans rfl, (blk_cell BK330.out 1).trans rfl, (blk_cell BK330.out 2).trans rfl⟩ (fun hHeld => ?_)
                            clear hK K
                            refine norm_ (a' := ?_) ?_ ?_
                            rotate_left
                            · show Act.put _ (some 83) _ = _
                              simp only [Act.put, List.setIfInBounds_toArray, List.set_cons_zero, List.set_cons_succ, i64_w, i32_w]
                              rfl
                            refine pure_ (i := 7) (N := some 85) (v := ?_) (a' := ?_) #[true, true, true, true, true, true, true, true, false, false, false] rfl rfl (any_of HT_.out (by kernel_rfl)) (fun _ _ _ h => h) (Or.inl ⟨by rfl, ?_⟩) ?_ ?_
                            rotate_left
                            · intro w'
                              go_simp
                              with_reducible rfl
                            rotate_left
                            · simp only [Act.put, List.setIfInBounds_toArray, List.set_cons_zero, List.set_cons_succ, i64_w, i32_w]
                              rfl
                            refine pure_ (i := 8) (N := some 86) (v := ?_) (a' := ?_) #[true, true, true, true, true, true, true, true, true, false, false] rfl rfl (any_of HT_.out (by kernel_rfl)) (fun _ _ _ h => h) (Or.inl ⟨by rfl, ?_⟩) ?_ ?_
                            rotate_left
                            · intro w'
                              go_simp
                              with_reducible rfl
                            rotate_left
                            · simp only [Act.put, List.setIfInBounds_toArray, List.set_cons_zero, List.set_cons_succ, i64_w, i32_w]
                              rfl
                            refine one_ (i := 9) (N := none) #[true, true, true, true, true, true, true, true, true, true, false] rfl rfl (one_of HT_.out (by kernel_rfl)) (by decide) (fun K hK => ?_)
                            have hs60 : w59.cell? ⟨gb318, 0, none⟩ = some (.int .i64 x319000_2) := (blk_cell BK318.out 0).trans rfl
                            have hfs60 := blk_frozen BK318.out 0
                            have hns60_1 := NB330_318.out
                            have hms60_1 := NB318_330.out
                            have hs61 : w59.cell? ⟨gb318, 1, none⟩ = some (.int .i64 x319001_2) := (blk_cell BK318.out 1).trans rfl
                            have hfs61 := blk_frozen BK318.out 1
                            have hns61_1 := NB330_318.out
                            have hms61_1 := NB318_330.out
                            have hs62 : w59.cell? ⟨gb318, 2, none⟩ = some (.slice none 0 0) := (blk_cell BK318.out 2).trans rfl
                            have hfs62 := blk_frozen BK318.out 2
                            have hns62_1 := NB330_318.out
                            have hms62_1 := NB318_330.out
                            refine skip_ (w1 := ?_) (by rfl) rfl ?_ ?_
                            rotate_left
                            · go_simp
                              rfl
                            refine hK.out _ _ ⟨((cell_far (p := ⟨gb318, _, none⟩) NB330_318.out _).trans (((cell_far (p := ⟨gb318, _, none⟩) NB330_318.out _).trans (((cell_far (p := ⟨gb318, _, none⟩) NB330_318.out _).trans (hHeld.1)))))), ((cell_far (p := ⟨gb318, _, none⟩) NB330_318.out _).trans (((cell_far (p := ⟨gb318, _, none⟩) NB330_318.out _).trans (((cell_far (p := ⟨gb318, _, none⟩) NB330_318.out _).trans (hHeld.2.1)))))), ((cell_far (p := ⟨gb318, _, none⟩) NB330_318.out _).trans (((cell_far (p := ⟨gb318, _, none⟩) NB330_318.out _).trans (((cell_far (p := ⟨gb318, _, none⟩) NB330_318.out _).trans (hHeld.2.2))))))⟩ (fun hHeld => ?_)
                            clear hK K
                            refine pure_ (i := 10) (N := some 3) (v := ?_) (a' := ?_) #[true, true, true, true, true, true, true, true, true, true, true] rfl rfl (any_of HT_.out (by kernel_rfl)) (fun _ _ _ h => h) (Or.inl ⟨by rfl, ?_⟩) ?_ ?_
                            rotate_left
                            · intro w'
                              go_simp
                              with_reducible rfl
                            rotate_left
                            · simp only [Act.put, List.setIfInBounds_toArray, List.set_cons_zero, List.set_cons_succ, i64_w, i32_w]
                              rfl
                            refine done_ (done_of HT_.out (by kernel_rfl)) ?_
                            try go_wp2
                            refine bodyPost_ret (results_ct rfl _ _ gb318 42 #[.int .i64 t327, .int .i64 t329, .slice Ao57 x331002_2.length co57] (0, 0) _ rfl (by (with_reducible repeat (first | refine kn_ ?_ _ | refine blk_drew ?_ | refine ka_ ?_ _)); refine blk_put (cs := #[.int .i64 t327, .int .i64 t329, .slice none 0 0]) ?_ 2 _ rfl; (with_reducible repeat (first | refine kn_ ?_ _ | refine blk_drew ?_ | refine ka_ ?_ _)); refine blk_put (cs := #[.int .i64 t327, .int .i64 x319001_2, .slice none 0 0]) ?_ 1 _ rfl; (with_reducible repeat (first | refine kn_ ?_ _ | refine blk_drew ?_ | refine ka_ ?_ _)); refine blk_put (cs := #[.int .i64 x319000_2, .int .i64 x319001_2, .slice none 0 0]) ?_ 0 _ rfl; (with_reducible repeat (first | refine kn_ ?_ _ | refine blk_drew ?_ | refine ka_ ?_ _)); exact BK318.out) Tryd.underlying42 rfl (by kernel_rfl)) rfl ?_
                            exact ⟨_, by first | rfl | (simp [errW_none, errW_some] <;> rfl) | (simp [*, errW_none, errW_some] <;> rfl), by (with_reducible repeat (first | apply Kd.R_alloc | apply Kd.R_drewN | apply Kd.R_drew)); exact Kd.R_mono (Kd.R_far (p := ⟨gb318, 2, none⟩) (Kd.R_far (p := ⟨gb318, 1, none⟩) (Kd.R_far (p := ⟨gb318, 0, none⟩) (Kd.R_types HO_331002.out BK318.out (by decide)) (fun _ hk => hk.2) (.int .i64 t327)) (fun _ hk => hk.2) (.int .i64 t329)) (fun _ hk => hk.2) (.slice Ao57 x331002_2.length co57)) (fun _ hk => trivial), by repeat (first | (with_reducible first | exact HB.out | apply ba_ | apply bn_ | apply bd_ | refine bs_ ?_ GE318.out | refine bs_ ?_ GE330.out) | exact HB.out)⟩
                          · replace c54 := Bool.eq_false_iff.mpr c54
                            subst c54
                            have H1 : (some (t327, t329, x331002_2, false)) = some (r1, r2, r3, r4) := by rw [if_neg (show ¬ (false = true) by decide)] at H; exact H
                            clear H
                            have H := H1
                            clear H1
                            simp only [Option.some.injEq, Prod.mk.injEq] at H
                            obtain ⟨rfl, rfl, rfl, rfl⟩ := H
                            try go_wp2
                            have n0_ := amk (Kd.R_drew HO_47.out)
                            have n1_ := amk (Kd.R_drew HO_331002.out)
                            have n2_ := amk (blk_drew BK318.out)
                            have n3_ := amk (blk_drew BK330.out)
                            have n4_ := amk (bd_ HB.out)
                            clear HO_47
                            clear HO_331002
                            clear BK318
                            clear BK330
                            clear HB
                            have HO_47 := n0_
                            have HO_331002 := n1_
                            have BK318 := n2_
                            have BK330 := n3_
                            have HB := n4_
                            clear n0_ n1_ n2_ n3_ n4_
                            obtain ⟨Ao64, co64, eo64⟩ := Kd.R_slice HO_331002.out
                            (first | subst eo64 | (injection eo64 with f1_ f2_ f3_; have f4_ := f1_.symm; have f5_ := f3_.symm; clear f1_ f2_ f3_; subst f4_; subst f5_))
                            refine start_ (n := 11) (S := fun w' => w'.cell? ⟨gb330, 0, none⟩ = some (.int .i64 t327) ∧ w'.cell? ⟨gb330, 1, none⟩ = some (.int .i64 t329) ∧ w'.cell? ⟨gb330, 2, none⟩ = some (.slice Ao64 x331002_2.length co64)) (ds := []) #[false, false, false, false, false, false, false, false, false, false, false] (by kernel_rfl) rfl rfl ⟨(blk_cell BK330.out 0).trans rfl, (blk_cell BK330.out 1).trans rfl, (blk_cell BK330.out 2).trans rfl⟩ (fun hHeld => ?_); refine with_tabW spec_pzParse.tab17 spec_pzParse.bits17 (fun HT_ HW_ => ?_)
                            generalize wr.drew = w63 at HO_47 HO_331002 BK318 BK330 HB hHeld ⊢
                            refine take_ (i := 0) (N := some 78) (v := ?_) (a' := ?_) #[true, false, false, false, false, false, false, false, false, false, false] rfl rfl (take_ofW HT_.out HW_.out (by kernel_rfl)) (fun _ _ _ h => h) (Or.inl ⟨by rfl, ?_⟩) hHeld ?_ ?_
                            rotate_left
                            · rintro w' ⟨s0, s1, s2⟩
                              go_simp
                              with_reducible rfl
                            rotate_left
                            · simp only [Act.put, List.setIfInBounds_toArray, List.set_cons_zero, List.set_cons_succ, i64_w, i32_w]
                              rfl
                            refine take_ (i := 1) (N := some 79) (v := ?_) (a' := ?_) #[true, true, false, false, false, false, false, false, false, false, false] rfl rfl (take_ofW HT_.out HW_.out (by kernel_rfl)) (fun _ _ _ h => h) (Or.inl ⟨by rfl, ?_⟩) hHeld ?_ ?_
                            rotate_left
                            · rintro w' ⟨s0, s1, s2⟩
                              go_simp
                              with_reducible rfl
                            rotate_left
                            · simp only [Act.put, List.setIfInBounds_toArray, List.set_cons_zero, List.set_cons_succ, i64_w, i32_w]
                              rfl
                            refine one_ (i := 2) (N := some 80) #[true, true, true, false, false, false, false, false, false, false, false] rfl rfl (one_of HT_.out (by kernel_rfl)) (by decide) (fun K hK => ?_)
                            refine goes_ Tryd.func33 (by kernel_rfl) rfl #[.agg #[.int .i64 t327, .int .i64 t329, .slice Ao64 x331002_2.length co64]] (by rfl) rfl rfl (by (try simp only [List.map_toArray, List.map_cons, List.map_nil]); first | done | rfl | (simp only [List.length_drop, List.length_take]; rfl)) ?_
                            with_reducible refine (spec_pzGood.calls k2 t327 t329 _ _ x331002_2 false _ ?side1 ?side2 A53.out).mono ?_
                            (case side1 => repeat (first | exact (Kd.R_reads' HO_331002.out).2.2 | (with_reducible refine Kd.C_alloc ?_ _) | (with_reducible refine Kd.C_drewN ?_ _) | (with_reducible refine Kd.C_drew ?_)))
                            (case side2 => exact (Kd.R_reads' HO_331002.out).2.1)
                            rintro e w65 ⟨rfl, hb⟩
                            refine ⟨_, rfl, ?_⟩
                            have n0_ := amk (Kd.R_below (by (with_reducible repeat (first | apply Kd.R_alloc | apply Kd.R_drewN | apply Kd.R_drew)); exact HO_47.out) hb)
                            have n1_ := amk (Kd.R_below (by (with_reducible repeat (first | apply Kd.R_alloc | apply Kd.R_drewN | apply Kd.R_drew)); exact HO_331002.out) hb)
                            have n2_ := amk (blk_below (g := gb318) (o := .cells #[.int .i64 x319000_2, .int .i64 x319001_2, .slice none 0 0] 42 (0, 0)) (by (with_reducible repeat (first | refine kn_ ?_ _ | refine blk_drew ?_ | refine ka_ ?_ _)); exact BK318.out) hb)
                            have n3_ := amk (blk_below (g := gb330) (o := .cells #[.int .i64 t327, .int .i64 t329, .slice Ao64 x331002_2.length co64] 42 (0, 0)) (by (with_reducible repeat (first | refine kn_ ?_ _ | refine blk_drew ?_ | refine ka_ ?_ _)); exact BK330.out) hb)
                            have n4_ := amk (bp_ (by repeat (first | (with_reducible first | exact HB.out | apply ba_ | apply bn_ | apply bd_ | refine bs_ ?_ GE318.out | refine bs_ ?_ GE330.out) | exact HB.out)) hb)
                            clear HO_47
                            clear HO_331002
                            clear BK318
                            clear BK330
                            clear HB
                            have HO_47 := n0_
                            have HO_331002 := n1_
                            have BK318 := n2_
                            have BK330 := n3_
                            have HB := n4_
                            clear n0_ n1_ n2_ n3_ n4_
                            (try clear hb)
                            (try clear hb2)
                            (try clear hk)
                            (try clear hi)
                            refine hK.out _ _ ⟨(blk_cell BK330.out 0).trans rfl, (blk_cell BK330.out 1).trans rfl, (blk_cell BK330.out 2).trans rfl⟩ (fun hHeld => ?_)
                            clear hK K
                            refine norm_ (a' := ?_) ?_ ?_
                            rotate_left
                            · show Act.put _ (some 80) _ = _
                              simp only [Act.put, List.setIfInBounds_toArray, List.set_cons_zero, List.set_cons_succ, i64_w, i32_w]
                              rfl
                            refine pure_ (i := 3) (N := some 81) (v := ?_) (a' := ?_) #[true, true, true, true, false, false, false, false, false, false, false] rfl rfl (any_of HT_.out (by kernel_rfl)) (fun _ _ _ h => h) (Or.inl ⟨by rfl, ?_⟩) ?_ ?_
                            rotate_left
                            · intro w'
                              go_simp
                              with_reducible rfl
                            rotate_left
                            · simp only [Act.put, List.setIfInBounds_toArray, List.set_cons_zero, List.set_cons_succ, i64_w, i32_w]
                              rfl
                            refine pure_ (i := 4) (N := some 82) (v := undef) (a' := ?_) #[true, true, true, true, true, false, false, false, false, false, false] rfl rfl (any_of HT_.out (by kernel_rfl)) (fun _ _ _ h => h) (Or.inr ⟨by rfl, rfl⟩) ?_ ?_
                            rotate_left
                            · simp only [Act.put, List.setIfInBounds_toArray, List.set_cons_zero, List.set_cons_succ, i64_w, i32_w]
                              rfl
                            refine pure_ (i := 5) (N := some 83) (v := undef) (a' := ?_) #[true, true, true, true, true, true, false, false, false, false, false] rfl rfl (any_of HT_.out (by kernel_rfl)) (fun _ _ _ h => h) (Or.inr ⟨by rfl, rfl⟩) ?_ ?_
                            rotate_left
                            · simp only [Act.put, List.setIfInBounds_toArray, List.set_cons_zero, List.set_cons_succ, i64_w, i32_w]
                              rfl
                            refine pure_ (i := 6) (N := some 84) (v := undef) (a' := ?_) #[true, true, true, true, true, true, true, false, false, false, false] rfl rfl (any_of HT_.out (by kernel_rfl)) (fun _ _ _ h => h) (Or.inr ⟨by rfl, rfl⟩) ?_ ?_
                            rotate_left
                            · simp only [Act.put, List.setIfInBounds_toArray, List.set_cons_zero, List.set_cons_succ, i64_w, i32_w]
                              rfl
                            refine pure_ (i := 7) (N := some 85) (v := undef) (a' := ?_) #[true, true, true, true, true, true, true, true, false, false, false] rfl rfl (any_of HT_.out (by kernel_rfl)) (fun _ _ _ h => h) (Or.inr ⟨by rfl, rfl⟩) ?_ ?_
                            rotate_left
                            · simp only [Act.put, List.setIfInBounds_toArray, List.set_cons_zero, List.set_cons_succ, i64_w, i32_w]
                              rfl
                            refine pure_ (i := 8) (N := some 86) (v := ?_) (a' := ?_) #[true, true, true, true, true, true, true, true, true, false, false] rfl rfl (any_of HT_.out (by kernel_rfl)) (fun _ _ _ h => h) (Or.inl ⟨by rfl, ?_⟩) ?_ ?_
                            rotate_left
                            · intro w'
                              go_simp
                              with_reducible rfl
                            rotate_left
                            · simp only [Act.put, List.setIfInBounds_toArray, List.set_cons_zero, List.set_cons_succ, i64_w, i32_w]
                              rfl
                            refine one_ (i := 9) (N := none) #[true, true, true, true, true, true, true, true, true, true, false] rfl rfl (one_of HT_.out (by kernel_rfl)) (by decide) (fun K hK => ?_)
                            have hs66 : w65.cell? ⟨gb318, 0, none⟩ = some (.int .i64 x319000_2) := (blk_cell BK318.out 0).trans rfl
                            have hfs66 := blk_frozen BK318.out 0
                            have hns66_1 := NB330_318.out
                            have hms66_1 := NB318_330.out
                            have hs67 : w65.cell? ⟨gb318, 1, none⟩ = some (.int .i64 x319001_2) := (blk_cell BK318.out 1).trans rfl
                            have hfs67 := blk_frozen BK318.out 1
                            have hns67_1 := NB330_318.out
                            have hms67_1 := NB318_330.out
                            have hs68 : w65.cell? ⟨gb318, 2, none⟩ = some (.slice none 0 0) := (blk_cell BK318.out 2).trans rfl
                            have hfs68 := blk_frozen BK318.out 2
                            have hns68_1 := NB330_318.out
                            have hms68_1 := NB318_330.out
                            refine skip_ (w1 := ?_) (by rfl) rfl ?_ ?_
                            rotate_left
                            · go_simp
                              rfl
                            refine hK.out _ _ ⟨((cell_far (p := ⟨gb318, _, none⟩) NB330_318.out _).trans (((cell_far (p := ⟨gb318, _, none⟩) NB330_318.out _).trans (((cell_far (p := ⟨gb318, _, none⟩) NB330_318.out _).trans (hHeld.1)))))), ((cell_far (p := ⟨gb318, _, none⟩) NB330_318.out _).trans (((cell_far (p := ⟨gb318, _, none⟩) NB330_318.out _).trans (((cell_far (p := ⟨gb318, _, none⟩) NB330_318.out _).trans (hHeld.2.1)))))), ((cell_far (p := ⟨gb318, _, none⟩) NB330_318.out _).trans (((cell_far (p := ⟨gb318, _, none⟩) NB330_318.out _).trans (((cell_far (p := ⟨gb318, _, none⟩) NB330_318.out _).trans (hHeld.2.2))))))⟩ (fun hHeld => ?_)
                            clear hK K
                            refine pure_ (i := 10) (N := some 3) (v := ?_) (a' := ?_) #[true, true, true, true, true, true, true, true, true, true, true] rfl rfl (any_of HT_.out (by kernel_rfl)) (fun _ _ _ h => h) (Or.inl ⟨by rfl, ?_⟩) ?_ ?_
                            rotate_left
                            · intro w'
                              go_simp
                              with_reducible rfl
                            rotate_left
                            · simp only [Act.put, List.setIfInBounds_toArray, List.set_cons_zero, List.set_cons_succ, i64_w, i32_w]
                              rfl
                            refine done_ (done_of HT_.out (by kernel_rfl)) ?_
                            try go_wp2
                            refine bodyPost_ret (results_ct rfl _ _ gb318 42 #[.int .i64 t327, .int .i64 t329, .slice Ao64 x331002_2.length co64] (0, 0) _ rfl (by (with_reducible repeat (first | refine kn_ ?_ _ | refine blk_drew ?_ | refine ka_ ?_ _)); refine blk_put (cs := #[.int .i64 t327, .int .i64 t329, .slice none 0 0]) ?_ 2 _ rfl; (with_reducible repeat (first | refine kn_ ?_ _ | refine blk_drew ?_ | refine ka_ ?_ _)); refine blk_put (cs := #[.int .i64 t327, .int .i64 x319001_2, .slice none 0 0]) ?_ 1 _ rfl; (with_reducible repeat (first | refine kn_ ?_ _ | refine blk_drew ?_ | refine ka_ ?_ _)); refine blk_put (cs := #[.int .i64 x319000_2, .int .i64 x319001_2, .slice none 0 0]) ?_ 0 _ rfl; (with_reducible repeat (first | refine kn_ ?_ _ | refine blk_drew ?_ | refine ka_ ?_ _)); exact BK318.out) Tryd.underlying42 rfl (by kernel_rfl)) rfl ?_
                            exact ⟨_, by first | rfl | (simp [errW_none, errW_some] <;> rfl) | (simp [*, errW_none, errW_some] <;> rfl), by (with_reducible repeat (first | apply Kd.R_alloc | apply Kd.R_drewN | apply Kd.R_drew)); exact Kd.R_mono (Kd.R_far (p := ⟨gb318, 2, none⟩) (Kd.R_far (p := ⟨gb318, 1, none⟩) (Kd.R_far (p := ⟨gb318, 0, none⟩) (Kd.R_types HO_331002.out BK318.out (by decide)) (fun _ hk => hk.2) (.int .i64 t327)) (fun _ hk => hk.2) (.int .i64 t329)) (fun _ hk => hk.2) (.slice Ao64 x331002_2.length co64)) (fun _ hk => trivial), by repeat (first | (with_reducible first | exact HB.out | apply ba_ | apply bn_ | apply bd_ | refine bs_ ?_ GE318.out | refine bs_ ?_ GE330.out) | exact HB.out)⟩
                  · rw [if_neg c18] at H
                    have c18b0 : decide (0 < ((rdOf ByteArray.empty t319 1).size : Int)) = false := decide_eq_false c18
                    have c18b1 : decide (0 < (rdOf ByteArray.empty t319 1).size) = false := decide_eq_false (by omega)
                    clear c18
                    replace H := Option.bind_eq_some_iff.mp H
                    obtain ⟨t351, A690, H⟩ := H
                    replace H : (if t351 = true then ((spec_pzText.f kj2 t327 t329 ([] : List (S77))).bind fun t352 => (some (t327, t329, ([] : List (S77)), (t352.toList == a0.toList)))) else (some (t327, t329, ([] : List (S77)), false))) = some (r1, r2, r3, r4) := H
                    have A69 := amk A690
                    clear A690
                    by_cases c70 : t351 = true
                    · subst c70
                      have H1 : ((spec_pzText.f kj2 t327 t329 ([] : List (S77))).bind fun t352 => (some (t327, t329, ([] : List (S77)), (t352.toList == a0.toList)))) = some (r1, r2, r3, r4) := by rw [if_pos rfl] at H; exact H
                      clear H
                      have H := H1
                      clear H1
                      replace H := Option.bind_eq_some_iff.mp H
                      obtain ⟨t352, A710, H⟩ := H
                      replace H : (some (t327, t329, ([] : List (S77)), (t352.toList == a0.toList))) = some (r1, r2, r3, r4) := H
                      have A71 := amk A710
                      clear A710
                      simp only [Option.some.injEq, Prod.mk.injEq] at H
                      obtain ⟨rfl, rfl, rfl, rfl⟩ := H
                      obtain ⟨Ao72, co72, eo72⟩ := Kd.R_slice HO_4.out
                      subst eo72
                      have p322 : 0 ≤ (0 : Int) := (by omega)
                      have q322 : 0 < (t319.length : Int) := of_decide_eq_true (by first | (with_reducible assumption) | assumption)
                      obtain ⟨ad322, e322, hx322_0⟩ := Kd.at_string (Kd.R_reads' HO_4.out).2.2 0 p322 q322
                      cases e322
                      have qi322 : (0 < t319.length) = True := eq_true (by omega)
                      (try rw [show ((0 : Int)).toNat = 0 from rfl] at hx322_0)
                      (try rw [Addr.add_zero'] at hx322_0)
                      replace p322 := eq_true p322
                      replace q322 := eq_true q322
                      try go_wp2_with (first | ((with_reducible refine gate_callee (f := 75) rfl ?_); refine goesL_ (some 24) rfl rfl Tryd.func75 (by kernel_rfl) rfl #[.string (rdOf ByteArray.empty t319 0), .int .u8 120] rfl (by (try simp only [List.map_toArray, List.map_cons, List.map_nil]); first | done | rfl | (simp only [List.length_drop, List.length_take]; rfl)) ?_; (with_reducible refine (spec_l1Split.calls kj2 (rdOf ByteArray.empty t319 0) 120 t323 _ A11.out).mono ?_); rintro e w73 ⟨v324, rfl, ho0, hb⟩; refine ⟨_, rfl, ?_⟩; have n0_ := amk (Kd.R_elder' (by (with_reducible repeat (first | apply Kd.R_alloc | apply Kd.R_drewN | apply Kd.R_drew)); exact HO_4.out) (Kd.R_base ho0) hb); have n1_ := amk (Kd.R_lower (Kd.R_new' ho0 (Kd.R_lt (by (with_reducible repeat (first | apply Kd.R_alloc | apply Kd.R_drewN | apply Kd.R_drew)); exact HO_4.out))) (below_size (by repeat (first | (with_reducible first | exact HB.out | apply ba_ | apply bn_ | apply bd_ | refine bs_ ?_ GE318.out) | exact HB.out)))); have n2_ := amk (blk_below (g := gb318) (o := .cells #[.int .i64 0, .int .i64 0, .slice none 0 0] 42 (0, 0)) (by (with_reducible repeat (first | refine kn_ ?_ _ | refine blk_drew ?_ | refine ka_ ?_ _)); exact BK318.out) hb); have n3_ := amk (bp_ (by repeat (first | (with_reducible first | exact HB.out | apply ba_ | apply bn_ | apply bd_ | refine bs_ ?_ GE318.out) | exact HB.out)) hb); clear HO_4; clear BK318; clear HB; have HO_4 := n0_; have HO325 := n1_; have BK318 := n2_; have HB := n3_; clear n0_ n1_ n2_ n3_; (try clear hb); (try clear hb2); (try clear hk); (try clear hi); (try clear ho0); obtain ⟨Ao74, co74, eo74⟩ := Kd.R_slice HO325.out; subst eo74))
                      have n0_ := amk (Kd.R_drew HO_4.out)
                      have n1_ := amk (Kd.R_drew HO325.out)
                      have n2_ := amk (blk_drew BK318.out)
                      have n3_ := amk (bd_ HB.out)
                      clear HO_4
                      clear HO325
                      clear BK318
                      clear HB
                      have HO_4 := n0_
                      have HO325 := n1_
                      have BK318 := n2_
                      have HB := n3_
                      clear n0_ n1_ n2_ n3_
                      have p326 : 0 ≤ (0 : Int) := (by omega)
                      have q326 : 0 < (t323.length : Int) := of_decide_eq_true (by first | (with_reducible assumption) | assumption)
                      obtain ⟨ad326, e326, hx326_0⟩ := Kd.at_string (Kd.R_reads' HO325.out).2.2 0 p326 q326
                      cases e326
                      have qi326 : (0 < t323.length) = True := eq_true (by omega)
                      (try rw [show ((0 : Int)).toNat = 0 from rfl] at hx326_0)
                      (try rw [Addr.add_zero'] at hx326_0)
                      replace p326 := eq_true p326
                      replace q326 := eq_true q326
                      have p328 : 0 ≤ (1 : Int) := (by omega)
                      have q328 : 1 < (t323.length : Int) := of_decide_eq_true (by first | (with_reducible assumption) | assumption)
                      obtain ⟨ad328, e328, hx328_0⟩ := Kd.at_string (Kd.R_reads' HO325.out).2.2 1 p328 q328
                      obtain rfl : ad326 = ad328 := (by injection e328)
                      (try simp only [show (1 : Int).toNat = 1 from rfl, Nat.reduceMul, Nat.reduceEqDiff, Go.Addr.add, ↓reduceIte] at hx328_0)
                      have qi328 : (1 < t323.length) = True := eq_true (by omega)
                      (try rw [show ((1 : Int)).toNat = 1 from rfl] at hx328_0)
                      replace p328 := eq_true p328
                      replace q328 := eq_true q328
                      refine start_ (n := 12) (S := fun w' => w'.cell? ad326 = some (.string (rdOf ByteArray.empty t323 0)) ∧ w'.cell? ⟨ad326.block, ad326.off + 1, none⟩ = some (.string (rdOf ByteArray.empty t323 1))) (ds := []) #[false, false, false, false, false, false, false, false, false, false, false, false] (by kernel_rfl) rfl rfl ⟨hx326_0, hx328_0⟩ (fun hHeld => ?_); refine with_tabW spec_pzParse.tab7 spec_pzParse.bits7 (fun HT_ HW_ => ?_)
                      generalize w73.drew = w75 at HO_4 HO325 BK318 HB hx326_0 hx328_0 hHeld ⊢
                      refine pure_ (i := 0) (N := some 29) (v := ?_) (a' := ?_) #[true, false, false, false, false, false, false, false, false, false, false, false] rfl rfl (any_of HT_.out (by kernel_rfl)) (fun _ _ _ h => h) (Or.inl ⟨by rfl, ?_⟩) ?_ ?_
                      rotate_left
                      · intro w'
                        go_simp
                        with_reducible rfl
                      rotate_left
                      · simp only [Act.put, List.setIfInBounds_toArray, List.set_cons_zero, List.set_cons_succ, i64_w, i32_w]
                        rfl
                      refine pure_ (i := 1) (N := some 30) (v := ?_) (a' := ?_) #[true, true, false, false, false, false, false, false, false, false, false, false] rfl rfl (any_of HT_.out (by kernel_rfl)) (fun _ _ _ h => h) (Or.inl ⟨by rfl, ?_⟩) ?_ ?_
                      rotate_left
                      · intro w'
                        go_simp
                        with_reducible rfl
                      rotate_left
                      · simp only [Act.put, List.setIfInBounds_toArray, List.set_cons_zero, List.set_cons_succ, i64_w, i32_w]
                        rfl
                      refine pure_ (i := 4) (N := some 33) (v := ?_) (a' := ?_) #[true, true, false, false, true, false, false, false, false, false, false, false] rfl rfl (any_of HT_.out (by kernel_rfl)) (fun _ _ _ h => h) (Or.inl ⟨by rfl, ?_⟩) ?_ ?_
                      rotate_left
                      · intro w'
                        go_simp
                        with_reducible rfl
                      rotate_left
                      · simp only [Act.put, List.setIfInBounds_toArray, List.set_cons_zero, List.set_cons_succ, i64_w, i32_w]
                        rfl
                      refine pure_ (i := 5) (N := some 34) (v := ?_) (a' := ?_) #[true, true, false, false, true, true, false, false, false, false, false, false] rfl rfl (any_of HT_.out (by kernel_rfl)) (fun _ _ _ h => h) (Or.inl ⟨by rfl, ?_⟩) ?_ ?_
                      rotate_left
                      · intro w'
                        go_simp
                        with_reducible rfl
                      rotate_left
                      · simp only [Act.put, List.setIfInBounds_toArray, List.set_cons_zero, List.set_cons_succ, i64_w, i32_w]
                        rfl
                      refine take_ (i := 2) (N := some 31) (v := ?_) (a' := ?_) #[true, true, true, false, true, true, false, false, false, false, false, false] rfl rfl (take_ofW HT_.out HW_.out (by kernel_rfl)) (fun _ _ _ h => h) (Or.inl ⟨by rfl, ?_⟩) hHeld ?_ ?_
                      rotate_left
                      · rintro w' ⟨s0, s1⟩
                        go_simp
                        with_reducible rfl
                      rotate_left
                      · simp only [Act.put, List.setIfInBounds_toArray, List.set_cons_zero, List.set_cons_succ, i64_w, i32_w]
                        rfl
                      refine take_ (i := 6) (N := some 35) (v := ?_) (a' := ?_) #[true, true, true, false, true, true, true, false, false, false, false, false] rfl rfl (take_ofW HT_.out HW_.out (by kernel_rfl)) (fun _ _ _ h => h) (Or.inl ⟨by rfl, ?_⟩) hHeld ?_ ?_
                      rotate_left
                      · rintro w' ⟨s0, s1⟩
                        go_simp
                        with_reducible rfl
                      rotate_left
                      · simp only [Act.put, List.setIfInBounds_toArray, List.set_cons_zero, List.set_cons_succ, i64_w, i32_w]
                        rfl
                      refine join_ (σ := Nat) 1 #[true, true, true, true, true, true, true, true, true, true, true, false] (fun s_ => [(32, .int .i64 t327), (36, .int .i64 t329), (6, .pointer (some ⟨s_, 0, none⟩)), (37, .agg #[.int .i64 t327, .int .i64 t329]), (38, .agg #[.int .i64 t327, .int .i64 t329, .slice none 0 0])]) (fun s_ w' => (w'.cell? ad326 = some (.string (rdOf ByteArray.empty t323 0)) ∧ w'.cell? ⟨ad326.block, ad326.off + 1, none⟩ = some (.string (rdOf ByteArray.empty t323 1))) ∧ (Kd.R Kd.string 9 w' w.heap.size (fun k_ => some k_ ≠ (.slice (some ad322) t319.length co72 : Value).ownBlock) (.slice (some ad326) t323.length co74) t323) ∧ (Kd.R Kd.string 9 w' w.heap.size (fun k_ => some k_ ≠ (.slice (some ad326) t323.length co74 : Value).ownBlock) (.slice (some ad322) t319.length co72) t319) ∧ (w'.heap[gb318]? = some (.cells #[.int .i64 0, .int .i64 0, .slice none 0 0] 42 (0, 0))) ∧ (w'.heap[s_]? = some (.cells #[.int .i64 0, .int .i64 0, .slice none 0 0] 42 (0, 0))) ∧ (w.heap.size ≤ s_) ∧ (w.heap.size ≤ s_) ∧ (gb318 ≠ s_) ∧ (s_ ≠ gb318) ∧ (Below w.heap.size w w')) ?_ ?_
                      rotate_left
                      · intro hCont
                        refine two_ (i := 3) (j := 10) (Ni := some 32) (Nj := some 6) #[true, true, true, true, true, true, true, false, false, false, false, false] #[true, true, true, false, true, true, true, false, false, false, true, false] rfl rfl rfl rfl (two_of HT_.out (by kernel_rfl)) (by decide) (by decide) (fun K hK => ?_) (fun K hK => ?_)
                        · skip
                          refine goes_ Tryd.func76 (by kernel_rfl) rfl #[.string (rdOf ByteArray.empty t323 0)] (by rfl) rfl rfl (by (try simp only [List.map_toArray, List.map_cons, List.map_nil]); first | done | rfl | (simp only [List.length_drop, List.length_take]; rfl)) ?_
                          with_reducible refine (spec_l1Read.calls kj2 (rdOf ByteArray.empty t323 0) t327 _ A14.out).mono ?_
                          rintro e w' ⟨rfl, ⟨nd, rfl⟩⟩
                          refine ⟨_, rfl, ?_⟩
                          refine hK.out _ _ ⟨hHeld.1, hHeld.2⟩ (fun hHeld => ?_)
                          clear hK K
                          refine norm_ (a' := ?_) ?_ ?_
                          rotate_left
                          · show Act.put _ (some 32) _ = _
                            simp only [Act.put, List.setIfInBounds_toArray, List.set_cons_zero, List.set_cons_succ, i64_w, i32_w]
                            rfl
                          refine two_ (i := 7) (j := 10) (Ni := some 36) (Nj := some 6) #[true, true, true, true, true, true, true, true, false, false, false, false] #[true, true, true, true, true, true, true, false, false, false, true, false] rfl rfl rfl rfl (two_of HT_.out (by kernel_rfl)) (by decide) (by decide) (fun K hK => ?_) (fun K hK => ?_)
                          · skip
                            refine goes_ Tryd.func76 (by kernel_rfl) rfl #[.string (rdOf ByteArray.empty t323 1)] (by rfl) rfl rfl (by (try simp only [List.map_toArray, List.map_cons, List.map_nil]); first | done | rfl | (simp only [List.length_drop, List.length_take]; rfl)) ?_
                            with_reducible refine (spec_l1Read.calls kj2 (rdOf ByteArray.empty t323 1) t329 _ A16.out).mono ?_
                            rintro e w' ⟨rfl, ⟨nd, rfl⟩⟩
                            refine ⟨_, rfl, ?_⟩
                            refine hK.out _ _ ⟨hHeld.1, hHeld.2⟩ (fun hHeld => ?_)
                            clear hK K
                            refine norm_ (a' := ?_) ?_ ?_
                            rotate_left
                            · show Act.put _ (some 36) _ = _
                              simp only [Act.put, List.setIfInBounds_toArray, List.set_cons_zero, List.set_cons_succ, i64_w, i32_w]
                              rfl
                            refine pure_ (i := 8) (N := some 37) (v := ?_) (a' := ?_) #[true, true, true, true, true, true, true, true, true, false, false, false] rfl rfl (any_of HT_.out (by kernel_rfl)) (fun _ _ _ h => h) (Or.inl ⟨by rfl, ?_⟩) ?_ ?_
                            rotate_left
                            · intro w'
                              go_simp
                              with_reducible rfl
                            rotate_left
                            · simp only [Act.put, List.setIfInBounds_toArray, List.set_cons_zero, List.set_cons_succ, i64_w, i32_w]
                              rfl
                            refine pure_ (i := 9) (N := some 38) (v := ?_) (a' := ?_) #[true, true, true, true, true, true, true, true, true, true, false, false] rfl rfl (any_of HT_.out (by kernel_rfl)) (fun _ _ _ h => h) (Or.inl ⟨by rfl, ?_⟩) ?_ ?_
                            rotate_left
                            · intro w'
                              go_simp
                              with_reducible rfl
                            rotate_left
                            · simp only [Act.put, List.setIfInBounds_toArray, List.set_cons_zero, List.set_cons_succ, i64_w, i32_w]
                              rfl
                            refine one_ (i := 10) (N := some 6) #[true, true, true, true, true, true, true, true, true, true, true, false] rfl rfl (one_of HT_.out (by kernel_rfl)) (by decide) (fun K hK => ?_)
                            refine box_step ?hg (N := 6) ?hd (cs := #[.int .i64 0, .int .i64 0, .slice none 0 0]) (t := 42) ?hr ?_; (case hd => rfl); (case hg => rfl); (case hr => first | (go_simp; done) | (go_simp; rfl))
                            intro gb330 hg w76 hbox hb
                            have HS0_ := (hb.cell (World.block_lt_of_cell? _ _ (hHeld.1))).trans (hHeld.1)
                            have HS1_ := (hb.cell (World.block_lt_of_cell? _ _ (hHeld.2))).trans (hHeld.2)
                            have n0_ := amk (Kd.R_below (by (with_reducible repeat (first | apply Kd.R_alloc | apply Kd.R_drewN | apply Kd.R_drew)); exact HO_4.out) hb)
                            have n1_ := amk (Kd.R_below (by (with_reducible repeat (first | apply Kd.R_alloc | apply Kd.R_drewN | apply Kd.R_drew)); exact HO325.out) hb)
                            have n2_ := amk (blk_below (g := gb318) (o := .cells #[.int .i64 0, .int .i64 0, .slice none 0 0] 42 (0, 0)) (by (with_reducible repeat (first | refine kn_ ?_ _ | refine blk_drew ?_ | refine ka_ ?_ _)); exact BK318.out) hb)
                            have n3_ := amk (bp_ (by repeat (first | (with_reducible first | exact HB.out | apply ba_ | apply bn_ | apply bd_ | refine bs_ ?_ GE318.out) | exact HB.out)) hb)
                            have n4_ := amk (hbox)
                            have n5_ := amk ((by rw [hg]; exact (below_size (by repeat (first | (with_reducible first | exact HB.out | apply ba_ | apply bn_ | apply bd_ | refine bs_ ?_ GE318.out) | exact HB.out))) : w.heap.size ≤ gb330))
                            have n6_ := amk ((by rw [hg]; exact (below_size (by repeat (first | (with_reducible first | exact HB.out | apply ba_ | apply bn_ | apply bd_ | refine bs_ ?_ GE318.out) | exact HB.out))) : w.heap.size ≤ gb330))
                            have n7_ := amk ((by rw [hg]; exact Nat.ne_of_lt (blk_lt (g := gb318) (o := .cells #[.int .i64 0, .int .i64 0, .slice none 0 0] 42 (0, 0)) (by (with_reducible repeat (first | refine kn_ ?_ _ | refine blk_drew ?_ | refine ka_ ?_ _)); exact BK318.out)) : gb318 ≠ gb330))
                            have n8_ := amk ((by rw [hg]; exact Nat.ne_of_gt (blk_lt (g := gb318) (o := .cells #[.int .i64 0, .int .i64 0, .slice none 0 0] 42 (0, 0)) (by (with_reducible repeat (first | refine kn_ ?_ _ | refine blk_drew ?_ | refine ka_ ?_ _)); exact BK318.out)) : gb330 ≠ gb318))
                            clear HO_4
                            clear HO325
                            clear BK318
                            clear HB
                            have HO_4 := n0_
                            have HO325 := n1_
                            have BK318 := n2_
                            have HB := n3_
                            have BK330 := n4_
                            have GW330 := n5_
                            have GE330 := n6_
                            have NB318_330 := n7_
                            have NB330_318 := n8_
                            clear n0_ n1_ n2_ n3_ n4_ n5_ n6_ n7_ n8_
                            clear hb hbox hg
                            refine hK.out _ _ ⟨HS0_, HS1_⟩ (fun hHeld => ?_)
                            clear hK K
                            refine norm_ (a' := ?_) ?_ ?_
                            rotate_left
                            · show Act.put _ (some 6) _ = _
                              simp only [Act.put, List.setIfInBounds_toArray, List.set_cons_zero, List.set_cons_succ, i64_w, i32_w]
                              rfl
                            exact norm_ (by simp only [putAll, Act.put, List.setIfInBounds_toArray, List.set_cons_zero, List.set_cons_succ]) (hCont (gb330) _ ⟨hHeld, (by (with_reducible repeat (first | apply Kd.R_alloc | apply Kd.R_drewN | apply Kd.R_drew)); exact Kd.R_mono HO325.out (fun _ hk => hk.2)), (by (with_reducible repeat (first | apply Kd.R_alloc | apply Kd.R_drewN | apply Kd.R_drew)); exact Kd.R_mono HO_4.out (fun _ hk => hk.2)), (by (with_reducible repeat (first | refine kn_ ?_ _ | refine blk_drew ?_ | refine ka_ ?_ _)); exact BK318.out), (by (with_reducible repeat (first | refine kn_ ?_ _ | refine blk_drew ?_ | refine ka_ ?_ _)); exact BK330.out), GW330.out, GE330.out, NB318_330.out, NB330_318.out, (by repeat (first | (with_reducible first | exact HB.out | apply ba_ | apply bn_ | apply bd_ | refine bs_ ?_ GE318.out | refine bs_ ?_ GE330.out) | exact HB.out))⟩)
                          · skip
                            refine box_step ?hg (N := 6) ?hd (cs := #[.int .i64 0, .int .i64 0, .slice none 0 0]) (t := 42) ?hr ?_; (case hd => rfl); (case hg => rfl); (case hr => first | (go_simp; done) | (go_simp; rfl))
                            intro gb330 hg w76 hbox hb
                            have HS0_ := (hb.cell (World.block_lt_of_cell? _ _ (hHeld.1))).trans (hHeld.1)
                            have HS1_ := (hb.cell (World.block_lt_of_cell? _ _ (hHeld.2))).trans (hHeld.2)
                            have n0_ := amk (Kd.R_below (by (with_reducible repeat (first | apply Kd.R_alloc | apply Kd.R_drewN | apply Kd.R_drew)); exact HO_4.out) hb)
                            have n1_ := amk (Kd.R_below (by (with_reducible repeat (first | apply Kd.R_alloc | apply Kd.R_drewN | apply Kd.R_drew)); exact HO325.out) hb)
                            have n2_ := amk (blk_below (g := gb318) (o := .cells #[.int .i64 0, .int .i64 0, .slice none 0 0] 42 (0, 0)) (by (with_reducible repeat (first | refine kn_ ?_ _ | refine blk_drew ?_ | refine ka_ ?_ _)); exact BK318.out) hb)
                            have n3_ := amk (bp_ (by repeat (first | (with_reducible first | exact HB.out | apply ba_ | apply bn_ | apply bd_ | refine bs_ ?_ GE318.out) | exact HB.out)) hb)
                            have n4_ := amk (hbox)
                            have n5_ := amk ((by rw [hg]; exact (below_size (by repeat (first | (with_reducible first | exact HB.out | apply ba_ | apply bn_ | apply bd_ | refine bs_ ?_ GE318.out) | exact HB.out))) : w.heap.size ≤ gb330))
                            have n6_ := amk ((by rw [hg]; exact (below_size (by repeat (first | (with_reducible first | exact HB.out | apply ba_ | apply bn_ | apply bd_ | refine bs_ ?_ GE318.out) | exact HB.out))) : w.heap.size ≤ gb330))
                            have n7_ := amk ((by rw [hg]; exact Nat.ne_of_lt (blk_lt (g := gb318) (o := .cells #[.int .i64 0, .int .i64 0, .slice none 0 0] 42 (0, 0)) (by (with_reducible repeat (first | refine kn_ ?_ _ | refine blk_drew ?_ | refine ka_ ?_ _)); exact BK318.out)) : gb318 ≠ gb330))
                            have n8_ := amk ((by rw [hg]; exact Nat.ne_of_gt (blk_lt (g := gb318) (o := .cells #[.int .i64 0, .int .i64 0, .slice none 0 0] 42 (0, 0)) (by (with_reducible repeat (first | refine kn_ ?_ _ | refine blk_drew ?_ | refine ka_ ?_ _)); exact BK318.out)) : gb330 ≠ gb318))
                            clear HO_4
                            clear HO325
                            clear BK318
                            clear HB
                            have HO_4 := n0_
                            have HO325 := n1_
                            have BK318 := n2_
                            have HB := n3_
                            have BK330 := n4_
                            have GW330 := n5_
                            have GE330 := n6_
                            have NB318_330 := n7_
                            have NB330_318 := n8_
                            clear n0_ n1_ n2_ n3_ n4_ n5_ n6_ n7_ n8_
                            clear hb hbox hg
                            refine hK.out _ _ ⟨HS0_, HS1_⟩ (fun hHeld => ?_)
                            clear hK K
                            refine norm_ (a' := ?_) ?_ ?_
                            rotate_left
                            · show Act.put _ (some 6) _ = _
                              simp only [Act.put, List.setIfInBounds_toArray, List.set_cons_zero, List.set_cons_succ, i64_w, i32_w]
                              rfl
                            refine one_ (i := 7) (N := some 36) #[true, true, true, true, true, true, true, true, false, false, true, false] rfl rfl (one_of HT_.out (by kernel_rfl)) (by decide) (fun K hK => ?_)
                            refine goes_ Tryd.func76 (by kernel_rfl) rfl #[.string (rdOf ByteArray.empty t323 1)] (by rfl) rfl rfl (by (try simp only [List.map_toArray, List.map_cons, List.map_nil]); first | done | rfl | (simp only [List.length_drop, List.length_take]; rfl)) ?_
                            with_reducible refine (spec_l1Read.calls kj2 (rdOf ByteArray.empty t323 1) t329 _ A16.out).mono ?_
                            rintro e w' ⟨rfl, ⟨nd, rfl⟩⟩
                            refine ⟨_, rfl, ?_⟩
                            refine hK.out _ _ ⟨hHeld.1, hHeld.2⟩ (fun hHeld => ?_)
                            clear hK K
                            refine norm_ (a' := ?_) ?_ ?_
                            rotate_left
                            · show Act.put _ (some 36) _ = _
                              simp only [Act.put, List.setIfInBounds_toArray, List.set_cons_zero, List.set_cons_succ, i64_w, i32_w]
                              rfl
                            refine pure_ (i := 8) (N := some 37) (v := ?_) (a' := ?_) #[true, true, true, true, true, true, true, true, true, false, true, false] rfl rfl (any_of HT_.out (by kernel_rfl)) (fun _ _ _ h => h) (Or.inl ⟨by rfl, ?_⟩) ?_ ?_
                            rotate_left
                            · intro w'
                              go_simp
                              with_reducible rfl
                            rotate_left
                            · simp only [Act.put, List.setIfInBounds_toArray, List.set_cons_zero, List.set_cons_succ, i64_w, i32_w]
                              rfl
                            refine pure_ (i := 9) (N := some 38) (v := ?_) (a' := ?_) #[true, true, true, true, true, true, true, true, true, true, true, false] rfl rfl (any_of HT_.out (by kernel_rfl)) (fun _ _ _ h => h) (Or.inl ⟨by rfl, ?_⟩) ?_ ?_
                            rotate_left
                            · intro w'
                              go_simp
                              with_reducible rfl
                            rotate_left
                            · simp only [Act.put, List.setIfInBounds_toArray, List.set_cons_zero, List.set_cons_succ, i64_w, i32_w]
                              rfl
                            exact norm_ (by simp only [putAll, Act.put, List.setIfInBounds_toArray, List.set_cons_zero, List.set_cons_succ]) (hCont (gb330) _ ⟨hHeld, (by (with_reducible repeat (first | apply Kd.R_alloc | apply Kd.R_drewN | apply Kd.R_drew)); exact Kd.R_mono HO325.out (fun _ hk => hk.2)), (by (with_reducible repeat (first | apply Kd.R_alloc | apply Kd.R_drewN | apply Kd.R_drew)); exact Kd.R_mono HO_4.out (fun _ hk => hk.2)), (by (with_reducible repeat (first | refine kn_ ?_ _ | refine blk_drew ?_ | refine ka_ ?_ _)); exact BK318.out), (by (with_reducible repeat (first | refine kn_ ?_ _ | refine blk_drew ?_ | refine ka_ ?_ _)); exact BK330.out), GW330.out, GE330.out, NB318_330.out, NB330_318.out, (by repeat (first | (with_reducible first | exact HB.out | apply ba_ | apply bn_ | apply bd_ | refine bs_ ?_ GE318.out | refine bs_ ?_ GE330.out) | exact HB.out))⟩)
                        · skip
                          refine box_step ?hg (N := 6) ?hd (cs := #[.int .i64 0, .int .i64 0, .slice none 0 0]) (t := 42) ?hr ?_; (case hd => rfl); (case hg => rfl); (case hr => first | (go_simp; done) | (go_simp; rfl))
                          intro gb330 hg w76 hbox hb
                          have HS0_ := (hb.cell (World.block_lt_of_cell? _ _ (hHeld.1))).trans (hHeld.1)
                          have HS1_ := (hb.cell (World.block_lt_of_cell? _ _ (hHeld.2))).trans (hHeld.2)
                          have n0_ := amk (Kd.R_below (by (with_reducible repeat (first | apply Kd.R_alloc | apply Kd.R_drewN | apply Kd.R_drew)); exact HO_4.out) hb)
                          have n1_ := amk (Kd.R_below (by (with_reducible repeat (first | apply Kd.R_alloc | apply Kd.R_drewN | apply Kd.R_drew)); exact HO325.out) hb)
                          have n2_ := amk (blk_below (g := gb318) (o := .cells #[.int .i64 0, .int .i64 0, .slice none 0 0] 42 (0, 0)) (by (with_reducible repeat (first | refine kn_ ?_ _ | refine blk_drew ?_ | refine ka_ ?_ _)); exact BK318.out) hb)
                          have n3_ := amk (bp_ (by repeat (first | (with_reducible first | exact HB.out | apply ba_ | apply bn_ | apply bd_ | refine bs_ ?_ GE318.out) | exact HB.out)) hb)
                          have n4_ := amk (hbox)
                          have n5_ := amk ((by rw [hg]; exact (below_size (by repeat (first | (with_reducible first | exact HB.out | apply ba_ | apply bn_ | apply bd_ | refine bs_ ?_ GE318.out) | exact HB.out))) : w.heap.size ≤ gb330))
                          have n6_ := amk ((by rw [hg]; exact (below_size (by repeat (first | (with_reducible first | exact HB.out | apply ba_ | apply bn_ | apply bd_ | refine bs_ ?_ GE318.out) | exact HB.out))) : w.heap.size ≤ gb330))
                          have n7_ := amk ((by rw [hg]; exact Nat.ne_of_lt (blk_lt (g := gb318) (o := .cells #[.int .i64 0, .int .i64 0, .slice none 0 0] 42 (0, 0)) (by (with_reducible repeat (first | refine kn_ ?_ _ | refine blk_drew ?_ | refine ka_ ?_ _)); exact BK318.out)) : gb318 ≠ gb330))
                          have n8_ := amk ((by rw [hg]; exact Nat.ne_of_gt (blk_lt (g := gb318) (o := .cells #[.int .i64 0, .int .i64 0, .slice none 0 0] 42 (0, 0)) (by (with_reducible repeat (first | refine kn_ ?_ _ | refine blk_drew ?_ | refine ka_ ?_ _)); exact BK318.out)) : gb330 ≠ gb318))
                          clear HO_4
                          clear HO325
                          clear BK318
                          clear HB
                          have HO_4 := n0_
                          have HO325 := n1_
                          have BK318 := n2_
                          have HB := n3_
                          have BK330 := n4_
                          have GW330 := n5_
                          have GE330 := n6_
                          have NB318_330 := n7_
                          have NB330_318 := n8_
                          clear n0_ n1_ n2_ n3_ n4_ n5_ n6_ n7_ n8_
                          clear hb hbox hg
                          refine hK.out _ _ ⟨HS0_, HS1_⟩ (fun hHeld => ?_)
                          clear hK K
                          refine norm_ (a' := ?_) ?_ ?_
                          rotate_left
                          · show Act.put _ (some 6) _ = _
                            simp only [Act.put, List.setIfInBounds_toArray, List.set_cons_zero, List.set_cons_succ, i64_w, i32_w]
                            rfl
                          refine one_ (i := 3) (N := some 32) #[true, true, true, true, true, true, true, false, false, false, true, false] rfl rfl (one_of HT_.out (by kernel_rfl)) (by decide) (fun K hK => ?_)
                          refine goes_ Tryd.func76 (by kernel_rfl) rfl #[.string (rdOf ByteArray.empty t323 0)] (by rfl) rfl rfl (by (try simp only [List.map_toArray, List.map_cons, List.map_nil]); first | done | rfl | (simp only [List.length_drop, List.length_take]; rfl)) ?_
                          with_reducible refine (spec_l1Read.calls kj2 (rdOf ByteArray.empty t323 0) t327 _ A14.out).mono ?_
                          rintro e w' ⟨rfl, ⟨nd, rfl⟩⟩
                          refine ⟨_, rfl, ?_⟩
                          refine hK.out _ _ ⟨hHeld.1, hHeld.2⟩ (fun hHeld => ?_)
                          clear hK K
                          refine norm_ (a' := ?_) ?_ ?_
                          rotate_left
                          · show Act.put _ (some 32) _ = _
                            simp only [Act.put, List.setIfInBounds_toArray, List.set_cons_zero, List.set_cons_succ, i64_w, i32_w]
                            rfl
                          refine one_ (i := 7) (N := some 36) #[true, true, true, true, true, true, true, true, false, false, true, false] rfl rfl (one_of HT_.out (by kernel_rfl)) (by decide) (fun K hK => ?_)
                          refine goes_ Tryd.func76 (by kernel_rfl) rfl #[.string (rdOf ByteArray.empty t323 1)] (by rfl) rfl rfl (by (try simp only [List.map_toArray, List.map_cons, List.map_nil]); first | done | rfl | (simp only [List.length_drop, List.length_take]; rfl)) ?_
                          with_reducible refine (spec_l1Read.calls kj2 (rdOf ByteArray.empty t323 1) t329 _ A16.out).mono ?_
                          rintro e w' ⟨rfl, ⟨nd, rfl⟩⟩
                          refine ⟨_, rfl, ?_⟩
                          refine hK.out _ _ ⟨hHeld.1, hHeld.2⟩ (fun hHeld => ?_)
                          clear hK K
                          refine norm_ (a' := ?_) ?_ ?_
                          rotate_left
                          · show Act.put _ (some 36) _ = _
                            simp only [Act.put, List.setIfInBounds_toArray, List.set_cons_zero, List.set_cons_succ, i64_w, i32_w]
                            rfl
                          refine pure_ (i := 8) (N := some 37) (v := ?_) (a' := ?_) #[true, true, true, true, true, true, true, true, true, false, true, false] rfl rfl (any_of HT_.out (by kernel_rfl)) (fun _ _ _ h => h) (Or.inl ⟨by rfl, ?_⟩) ?_ ?_
                          rotate_left
                          · intro w'
                            go_simp
                            with_reducible rfl
                          rotate_left
                          · simp only [Act.put, List.setIfInBounds_toArray, List.set_cons_zero, List.set_cons_succ, i64_w, i32_w]
                            rfl
                          refine pure_ (i := 9) (N := some 38) (v := ?_) (a' := ?_) #[true, true, true, true, true, true, true, true, true, true, true, false] rfl rfl (any_of HT_.out (by kernel_rfl)) (fun _ _ _ h => h) (Or.inl ⟨by rfl, ?_⟩) ?_ ?_
                          rotate_left
                          · intro w'
                            go_simp
                            with_reducible rfl
                          rotate_left
                          · simp only [Act.put, List.setIfInBounds_toArray, List.set_cons_zero, List.set_cons_succ, i64_w, i32_w]
                            rfl
                          exact norm_ (by simp only [putAll, Act.put, List.setIfInBounds_toArray, List.set_cons_zero, List.set_cons_succ]) (hCont (gb330) _ ⟨hHeld, (by (with_reducible repeat (first | apply Kd.R_alloc | apply Kd.R_drewN | apply Kd.R_drew)); exact Kd.R_mono HO325.out (fun _ hk => hk.2)), (by (with_reducible repeat (first | apply Kd.R_alloc | apply Kd.R_drewN | apply Kd.R_drew)); exact Kd.R_mono HO_4.out (fun _ hk => hk.2)), (by (with_reducible repeat (first | refine kn_ ?_ _ | refine blk_drew ?_ | refine ka_ ?_ _)); exact BK318.out), (by (with_reducible repeat (first | refine kn_ ?_ _ | refine blk_drew ?_ | refine ka_ ?_ _)); exact BK330.out), GW330.out, GE330.out, NB318_330.out, NB330_318.out, (by repeat (first | (with_reducible first | exact HB.out | apply ba_ | apply bn_ | apply bd_ | refine bs_ ?_ GE318.out | refine bs_ ?_ GE330.out) | exact HB.out))⟩)
                      rintro gb330 w77 ⟨hS_, h0_, h1_, h2_, h3_, h4_, h5_, h6_, h7_, h8_⟩
                      have n0_ : Aside0 (Kd.R Kd.string 9 w77 w.heap.size (fun k_ => some k_ ≠ (.slice (some ad322) t319.length co72 : Value).ownBlock) (.slice (some ad326) t323.length co74) t323) := ⟨h0_⟩
                      have n1_ : Aside0 (Kd.R Kd.string 9 w77 w.heap.size (fun k_ => some k_ ≠ (.slice (some ad326) t323.length co74 : Value).ownBlock) (.slice (some ad322) t319.length co72) t319) := ⟨h1_⟩
                      have n2_ : Aside0 (w77.heap[gb318]? = some (.cells #[.int .i64 0, .int .i64 0, .slice none 0 0] 42 (0, 0))) := ⟨h2_⟩
                      have n3_ : Aside0 (w77.heap[gb330]? = some (.cells #[.int .i64 0, .int .i64 0, .slice none 0 0] 42 (0, 0))) := ⟨h3_⟩
                      have n4_ : Aside0 (w.heap.size ≤ gb330) := ⟨h4_⟩
                      have n5_ : Aside0 (w.heap.size ≤ gb330) := ⟨h5_⟩
                      have n6_ : Aside0 (gb318 ≠ gb330) := ⟨h6_⟩
                      have n7_ : Aside0 (gb330 ≠ gb318) := ⟨h7_⟩
                      have n8_ : Aside0 (Below w.heap.size w w77) := ⟨h8_⟩
                      clear HO_4
                      clear HO325
                      clear BK318
                      clear HB
                      clear h0_ h1_ h2_ h3_ h4_ h5_ h6_ h7_ h8_
                      have HO325 := n0_
                      have HO_4 := n1_
                      have BK318 := n2_
                      have BK330 := n3_
                      have GW330 := n4_
                      have GE330 := n5_
                      have NB318_330 := n6_
                      have NB330_318 := n7_
                      have HB := n8_
                      clear n0_ n1_ n2_ n3_ n4_ n5_ n6_ n7_ n8_
                      have hHeld : w77.cell? ad326 = some (.string (rdOf ByteArray.empty t323 0)) ∧ w77.cell? ⟨ad326.block, ad326.off + 1, none⟩ = some (.string (rdOf ByteArray.empty t323 1)) := hS_
                      refine norm_ (a' := ?_) ?_ ?_
                      rotate_left
                      · simp only [putAll, Act.put, List.setIfInBounds_toArray, List.set_cons_zero, List.set_cons_succ]
                        rfl
                      refine one_ (i := 11) (N := none) #[true, true, true, true, true, true, true, true, true, true, true, true] rfl rfl (one_of HT_.out (by kernel_rfl)) (by decide) (fun K hK => ?_)
                      have hs78 : w77.cell? ⟨gb330, 0, none⟩ = some (.int .i64 0) := (blk_cell BK330.out 0).trans rfl
                      have hfs78 := blk_frozen BK330.out 0
                      have hns78_0 := NB318_330.out
                      have hms78_0 := NB330_318.out
                      have hs79 : w77.cell? ⟨gb330, 1, none⟩ = some (.int .i64 0) := (blk_cell BK330.out 1).trans rfl
                      have hfs79 := blk_frozen BK330.out 1
                      have hns79_0 := NB318_330.out
                      have hms79_0 := NB330_318.out
                      have hs80 : w77.cell? ⟨gb330, 2, none⟩ = some (.slice none 0 0) := (blk_cell BK330.out 2).trans rfl
                      have hfs80 := blk_frozen BK330.out 2
                      have hns80_0 := NB318_330.out
                      have hms80_0 := NB330_318.out
                      refine skip_ (w1 := ?_) (by rfl) rfl ?_ ?_
                      rotate_left
                      · go_simp
                        rfl
                      refine hK.out _ _ ⟨((cell_far (p := ⟨gb330, _, none⟩) (by first | exact Kd.own_blk (Kd.R_ne HO325.out BK330.out (by decide)) | (rw [add_block]; exact Kd.own_blk (Kd.R_ne HO325.out BK330.out (by decide))) | (show (Addr.add _ _).block ≠ _; rw [add_block]; exact Kd.own_blk (Kd.R_ne HO325.out BK330.out (by decide))) | (dsimp only; exact Kd.own_blk (Kd.R_ne HO325.out BK330.out (by decide)))) _).trans (((cell_far (p := ⟨gb330, _, none⟩) (by first | exact Kd.own_blk (Kd.R_ne HO325.out BK330.out (by decide)) | (rw [add_block]; exact Kd.own_blk (Kd.R_ne HO325.out BK330.out (by decide))) | (show (Addr.add _ _).block ≠ _; rw [add_block]; exact Kd.own_blk (Kd.R_ne HO325.out BK330.out (by decide))) | (dsimp only; exact Kd.own_blk (Kd.R_ne HO325.out BK330.out (by decide)))) _).trans (((cell_far (p := ⟨gb330, _, none⟩) (by first | exact Kd.own_blk (Kd.R_ne HO325.out BK330.out (by decide)) | (rw [add_block]; exact Kd.own_blk (Kd.R_ne HO325.out BK330.out (by decide))) | (show (Addr.add _ _).block ≠ _; rw [add_block]; exact Kd.own_blk (Kd.R_ne HO325.out BK330.out (by decide))) | (dsimp only; exact Kd.own_blk (Kd.R_ne HO325.out BK330.out (by decide)))) _).trans (hHeld.1)))))), ((cell_far (p := ⟨gb330, _, none⟩) (by first | exact Kd.own_blk (Kd.R_ne HO325.out BK330.out (by decide)) | (rw [add_block]; exact Kd.own_blk (Kd.R_ne HO325.out BK330.out (by decide))) | (show (Addr.add _ _).block ≠ _; rw [add_block]; exact Kd.own_blk (Kd.R_ne HO325.out BK330.out (by decide))) | (dsimp only; exact Kd.own_blk (Kd.R_ne HO325.out BK330.out (by decide)))) _).trans (((cell_far (p := ⟨gb330, _, none⟩) (by first | exact Kd.own_blk (Kd.R_ne HO325.out BK330.out (by decide)) | (rw [add_block]; exact Kd.own_blk (Kd.R_ne HO325.out BK330.out (by decide))) | (show (Addr.add _ _).block ≠ _; rw [add_block]; exact Kd.own_blk (Kd.R_ne HO325.out BK330.out (by decide))) | (dsimp only; exact Kd.own_blk (Kd.R_ne HO325.out BK330.out (by decide)))) _).trans (((cell_far (p := ⟨gb330, _, none⟩) (by first | exact Kd.own_blk (Kd.R_ne HO325.out BK330.out (by decide)) | (rw [add_block]; exact Kd.own_blk (Kd.R_ne HO325.out BK330.out (by decide))) | (show (Addr.add _ _).block ≠ _; rw [add_block]; exact Kd.own_blk (Kd.R_ne HO325.out BK330.out (by decide))) | (dsimp only; exact Kd.own_blk (Kd.R_ne HO325.out BK330.out (by decide)))) _).trans (hHeld.2))))))⟩ (fun hHeld => ?_)
                      clear hK K
                      refine done_ (done_of HT_.out (by kernel_rfl)) ?_
                      have p331 : 0 ≤ (1 : Int) := (by omega)
                      have q331 : 1 < (t319.length : Int) := of_decide_eq_true (by first | (with_reducible assumption) | assumption)
                      obtain ⟨ad331, e331, hx331_0⟩ := Kd.at_string (Kd.R_reads' HO_4.out).2.2 1 p331 q331
                      obtain rfl : ad322 = ad331 := (by injection e331)
                      (try simp only [show (1 : Int).toNat = 1 from rfl, Nat.reduceMul, Nat.reduceEqDiff, Go.Addr.add, ↓reduceIte] at hx331_0)
                      have qi331 : (1 < t319.length) = True := eq_true (by omega)
                      (try rw [show ((1 : Int)).toNat = 1 from rfl] at hx331_0)
                      have hn331_0 : ad322.block ≠ gb330 := Kd.own_blk (Kd.R_ne HO_4.out BK330.out (by decide))
                      have hn331_1 : ad322.block ≠ gb330 := Kd.own_blk (Kd.R_ne HO_4.out BK330.out (by decide))
                      have hn331_2 : ad322.block ≠ gb330 := Kd.own_blk (Kd.R_ne HO_4.out BK330.out (by decide))
                      replace hx331_0 := (cell_far (p := ⟨gb330, 0, none⟩) (by first | (rw [add_block]; exact hn331_0) | (show (Addr.add _ _).block ≠ _; rw [add_block]; exact hn331_0) | exact hn331_0) (.int .i64 t327)).trans hx331_0
                      replace hx331_0 := (cell_far (p := ⟨gb330, 1, none⟩) (by first | (rw [add_block]; exact hn331_1) | (show (Addr.add _ _).block ≠ _; rw [add_block]; exact hn331_1) | exact hn331_1) (.int .i64 t329)).trans hx331_0
                      replace hx331_0 := (cell_far (p := ⟨gb330, 2, none⟩) (by first | (rw [add_block]; exact hn331_2) | (show (Addr.add _ _).block ≠ _; rw [add_block]; exact hn331_2) | exact hn331_2) (.slice none 0 0)).trans hx331_0
                      clear hn331_0
                      clear hn331_1
                      clear hn331_2
                      replace p331 := eq_true p331
                      replace q331 := eq_true q331
                      try go_wp2
                      have n0_ : Aside0 (Kd.R Kd.string 9 (((w77.setCell ⟨gb330, 0, none⟩ (.int .i64 t327)).setCell ⟨gb330, 1, none⟩ (.int .i64 t329)).setCell ⟨gb330, 2, none⟩ (.slice none 0 0)) w.heap.size (fun k_ => some k_ ≠ (.slice (some ad326) t323.length co74 : Value).ownBlock) (.slice (some ad322) t319.length co72) t319) := ⟨by (with_reducible repeat (first | apply Kd.R_alloc | apply Kd.R_drewN | apply Kd.R_drew)); exact Kd.R_mono (Kd.R_far (p := ⟨gb330, 2, none⟩) (Kd.R_far (p := ⟨gb330, 1, none⟩) (Kd.R_far (p := ⟨gb330, 0, none⟩) (Kd.R_types HO_4.out BK330.out (by decide)) (fun _ hk => hk.2) (.int .i64 t327)) (fun _ hk => hk.2) (.int .i64 t329)) (fun _ hk => hk.2) (.slice none 0 0)) (fun _ hk => hk.1)⟩
                      have n1_ : Aside0 (Kd.R Kd.string 9 (((w77.setCell ⟨gb330, 0, none⟩ (.int .i64 t327)).setCell ⟨gb330, 1, none⟩ (.int .i64 t329)).setCell ⟨gb330, 2, none⟩ (.slice none 0 0)) w.heap.size (fun k_ => some k_ ≠ (.slice (some ad322) t319.length co72 : Value).ownBlock) (.slice (some ad326) t323.length co74) t323) := ⟨by (with_reducible repeat (first | apply Kd.R_alloc | apply Kd.R_drewN | apply Kd.R_drew)); exact Kd.R_mono (Kd.R_far (p := ⟨gb330, 2, none⟩) (Kd.R_far (p := ⟨gb330, 1, none⟩) (Kd.R_far (p := ⟨gb330, 0, none⟩) (Kd.R_types HO325.out BK330.out (by decide)) (fun _ hk => hk.2) (.int .i64 t327)) (fun _ hk => hk.2) (.int .i64 t329)) (fun _ hk => hk.2) (.slice none 0 0)) (fun _ hk => hk.1)⟩
                      have n2_ : Aside0 ((((w77.setCell ⟨gb330, 0, none⟩ (.int .i64 t327)).setCell ⟨gb330, 1, none⟩ (.int .i64 t329)).setCell ⟨gb330, 2, none⟩ (.slice none 0 0)).heap[gb318]? = some (.cells #[.int .i64 0, .int .i64 0, .slice none 0 0] 42 (0, 0))) := ⟨by (with_reducible repeat (first | refine kn_ ?_ _ | refine blk_drew ?_ | refine ka_ ?_ _)); refine blk_far ?_ NB318_330.out _; (with_reducible repeat (first | refine kn_ ?_ _ | refine blk_drew ?_ | refine ka_ ?_ _)); refine blk_far ?_ NB318_330.out _; (with_reducible repeat (first | refine kn_ ?_ _ | refine blk_drew ?_ | refine ka_ ?_ _)); refine blk_far ?_ NB318_330.out _; (with_reducible repeat (first | refine kn_ ?_ _ | refine blk_drew ?_ | refine ka_ ?_ _)); exact BK318.out⟩
                      have n3_ : Aside0 ((((w77.setCell ⟨gb330, 0, none⟩ (.int .i64 t327)).setCell ⟨gb330, 1, none⟩ (.int .i64 t329)).setCell ⟨gb330, 2, none⟩ (.slice none 0 0)).heap[gb330]? = some (.cells #[.int .i64 t327, .int .i64 t329, .slice none 0 0] 42 (0, 0))) := ⟨by (with_reducible repeat (first | refine kn_ ?_ _ | refine blk_drew ?_ | refine ka_ ?_ _)); refine blk_put (cs := #[.int .i64 t327, .int .i64 t329, .slice none 0 0]) ?_ 2 _ rfl; (with_reducible repeat (first | refine kn_ ?_ _ | refine blk_drew ?_ | refine ka_ ?_ _)); refine blk_put (cs := #[.int .i64 t327, .int .i64 0, .slice none 0 0]) ?_ 1 _ rfl; (with_reducible repeat (first | refine kn_ ?_ _ | refine blk_drew ?_ | refine ka_ ?_ _)); refine blk_put (cs := #[.int .i64 0, .int .i64 0, .slice none 0 0]) ?_ 0 _ rfl; (with_reducible repeat (first | refine kn_ ?_ _ | refine blk_drew ?_ | refine ka_ ?_ _)); exact BK330.out⟩
                      have n4_ : Aside0 (Below w.heap.size w (((w77.setCell ⟨gb330, 0, none⟩ (.int .i64 t327)).setCell ⟨gb330, 1, none⟩ (.int .i64 t329)).setCell ⟨gb330, 2, none⟩ (.slice none 0 0))) := ⟨by repeat (first | (with_reducible first | exact HB.out | apply ba_ | apply bn_ | apply bd_ | refine bs_ ?_ GE318.out | refine bs_ ?_ GE330.out) | exact HB.out)⟩
                      (try clear HO_4)
                      (try clear HO325)
                      (try clear BK318)
                      (try clear BK330)
                      (try clear HB)
                      generalize (((w77.setCell ⟨gb330, 0, none⟩ (.int .i64 t327)).setCell ⟨gb330, 1, none⟩ (.int .i64 t329)).setCell ⟨gb330, 2, none⟩ (.slice none 0 0)) = w81 at n0_ n1_ n2_ n3_ n4_ ⊢
                      have HO_4 := n0_
                      have HO325 := n1_
                      have BK318 := n2_
                      have BK330 := n3_
                      have HB := n4_
                      clear n0_ n1_ n2_ n3_ n4_
                      have n0_ := amk (Kd.R_drew HO_4.out)
                      have n1_ := amk (Kd.R_drew HO325.out)
                      have n2_ := amk (blk_drew BK318.out)
                      have n3_ := amk (blk_drew BK330.out)
                      have n4_ := amk (bd_ HB.out)
                      clear HO_4
                      clear HO325
                      clear BK318
                      clear BK330
                      clear HB
                      have HO_4 := n0_
                      have HO325 := n1_
                      have BK318 := n2_
                      have BK330 := n3_
                      have HB := n4_
                      clear n0_ n1_ n2_ n3_ n4_
                      refine start_ (n := 11) (S := fun w' => w'.cell? ⟨gb330, 0, none⟩ = some (.int .i64 t327) ∧ w'.cell? ⟨gb330, 1, none⟩ = some (.int .i64 t329) ∧ w'.cell? ⟨gb330, 2, none⟩ = some (.slice none 0 0)) (ds := []) #[false, false, false, false, false, false, false, false, false, false, false] (by kernel_rfl) rfl rfl ⟨(blk_cell BK330.out 0).trans rfl, (blk_cell BK330.out 1).trans rfl, (blk_cell BK330.out 2).trans rfl⟩ (fun hHeld => ?_); refine with_tabW spec_pzParse.tab17 spec_pzParse.bits17 (fun HT_ HW_ => ?_)
                      generalize w81.drew = w82 at HO_4 HO325 BK318 BK330 HB hHeld ⊢
                      refine take_ (i := 0) (N := some 78) (v := ?_) (a' := ?_) #[true, false, false, false, false, false, false, false, false, false, false] rfl rfl (take_ofW HT_.out HW_.out (by kernel_rfl)) (fun _ _ _ h => h) (Or.inl ⟨by rfl, ?_⟩) hHeld ?_ ?_
                      rotate_left
                      · rintro w' ⟨s0, s1, s2⟩
                        go_simp
                        with_reducible rfl
                      rotate_left
                      · simp only [Act.put, List.setIfInBounds_toArray, List.set_cons_zero, List.set_cons_succ, i64_w, i32_w]
                        rfl
                      refine take_ (i := 1) (N := some 79) (v := ?_) (a' := ?_) #[true, true, false, false, false, false, false, false, false, false, false] rfl rfl (take_ofW HT_.out HW_.out (by kernel_rfl)) (fun _ _ _ h => h) (Or.inl ⟨by rfl, ?_⟩) hHeld ?_ ?_
                      rotate_left
                      · rintro w' ⟨s0, s1, s2⟩
                        go_simp
                        with_reducible rfl
                      rotate_left
                      · simp only [Act.put, List.setIfInBounds_toArray, List.set_cons_zero, List.set_cons_succ, i64_w, i32_w]
                        rfl
                      refine one_ (i := 2) (N := some 80) #[true, true, true, false, false, false, false, false, false, false, false] rfl rfl (one_of HT_.out (by kernel_rfl)) (by decide) (fun K hK => ?_)
                      refine goes_ Tryd.func33 (by kernel_rfl) rfl #[.agg #[.int .i64 t327, .int .i64 t329, .slice none 0 0]] (by rfl) rfl rfl (by (try simp only [List.map_toArray, List.map_cons, List.map_nil]); first | done | rfl | (simp only [List.length_drop, List.length_take]; rfl)) ?_
                      refine (spec_pzGood.calls kj2 t327 t329 _ _ ([] : List (S77)) true _ ?side1 ?side2 A69.out).mono ?_
                      (case side1 => exact Kd.C_nil _ _)
                      (case side2 => exact Nat.le_refl _)
                      rintro e w83 ⟨rfl, hb⟩
                      refine ⟨_, rfl, ?_⟩
                      have n0_ := amk (Kd.R_below (by (with_reducible repeat (first | apply Kd.R_alloc | apply Kd.R_drewN | apply Kd.R_drew)); exact HO_4.out) hb)
                      have n1_ := amk (Kd.R_below (by (with_reducible repeat (first | apply Kd.R_alloc | apply Kd.R_drewN | apply Kd.R_drew)); exact HO325.out) hb)
                      have n2_ := amk (blk_below (g := gb318) (o := .cells #[.int .i64 0, .int .i64 0, .slice none 0 0] 42 (0, 0)) (by (with_reducible repeat (first | refine kn_ ?_ _ | refine blk_drew ?_ | refine ka_ ?_ _)); exact BK318.out) hb)
                      have n3_ := amk (blk_below (g := gb330) (o := .cells #[.int .i64 t327, .int .i64 t329, .slice none 0 0] 42 (0, 0)) (by (with_reducible repeat (first | refine kn_ ?_ _ | refine blk_drew ?_ | refine ka_ ?_ _)); exact BK330.out) hb)
                      have n4_ := amk (bp_ (by repeat (first | (with_reducible first | exact HB.out | apply ba_ | apply bn_ | apply bd_ | refine bs_ ?_ GE318.out | refine bs_ ?_ GE330.out) | exact HB.out)) hb)
                      clear HO_4
                      clear HO325
                      clear BK318
                      clear BK330
                      clear HB
                      have HO_4 := n0_
                      have HO325 := n1_
                      have BK318 := n2_
                      have BK330 := n3_
                      have HB := n4_
                      clear n0_ n1_ n2_ n3_ n4_
                      (try clear hb)
                      (try clear hb2)
                      (try clear hk)
                      (try clear hi)
                      refine hK.out _ _ ⟨(blk_cell BK330.out 0).trans rfl, (blk_cell BK330.out 1).trans rfl, (blk_cell BK330.out 2).trans rfl⟩ (fun hHeld => ?_)
                      clear hK K
                      refine norm_ (a' := ?_) ?_ ?_
                      rotate_left
                      · show Act.put _ (some 80) _ = _
                        simp only [Act.put, List.setIfInBounds_toArray, List.set_cons_zero, List.set_cons_succ, i64_w, i32_w]
                        rfl
                      refine pure_ (i := 3) (N := some 81) (v := ?_) (a' := ?_) #[true, true, true, true, false, false, false, false, false, false, false] rfl rfl (any_of HT_.out (by kernel_rfl)) (fun _ _ _ h => h) (Or.inl ⟨by rfl, ?_⟩) ?_ ?_
                      rotate_left
                      · intro w'
                        go_simp
                        with_reducible rfl
                      rotate_left
                      · simp only [Act.put, List.setIfInBounds_toArray, List.set_cons_zero, List.set_cons_succ, i64_w, i32_w]
                        rfl
                      refine pure_ (i := 6) (N := some 84) (v := ?_) (a' := ?_) #[true, true, true, true, false, false, true, false, false, false, false] rfl rfl (any_of HT_.out (by kernel_rfl)) (fun _ _ _ h => h) (Or.inl ⟨by rfl, ?_⟩) ?_ ?_
                      rotate_left
                      · intro w'
                        go_simp
                        with_reducible rfl
                      rotate_left
                      · simp only [Act.put, List.setIfInBounds_toArray, List.set_cons_zero, List.set_cons_succ, i64_w, i32_w]
                        rfl
                      refine take_ (i := 4) (N := some 82) (v := ?_) (a' := ?_) #[true, true, true, true, true, false, true, false, false, false, false] rfl rfl (take_ofW HT_.out HW_.out (by kernel_rfl)) (fun _ _ _ h => h) (Or.inl ⟨by rfl, ?_⟩) hHeld ?_ ?_
                      rotate_left
                      · rintro w' ⟨s0, s1, s2⟩
                        go_simp
                        with_reducible rfl
                      rotate_left
                      · simp only [Act.put, List.setIfInBounds_toArray, List.set_cons_zero, List.set_cons_succ, i64_w, i32_w]
                        rfl
                      refine one_ (i := 5) (N := some 83) #[true, true, true, true, true, true, true, false, false, false, false] rfl rfl (one_of HT_.out (by kernel_rfl)) (by decide) (fun K hK => ?_)
                      refine goes_ Tryd.func34 (by kernel_rfl) rfl #[.agg #[.int .i64 t327, .int .i64 t329, .slice none 0 0]] (by rfl) rfl rfl (by (try simp only [List.map_toArray, List.map_cons, List.map_nil]); first | done | rfl | (simp only [List.length_drop, List.length_take]; rfl)) ?_
                      refine (spec_pzText.calls kj2 t327 t329 _ _ ([] : List (S77)) t352 _ ?side1 ?side2 A71.out).mono ?_
                      (case side1 => exact Kd.C_nil _ _)
                      (case side2 => exact Nat.le_refl _)
                      rintro e w84 ⟨rfl, hb⟩
                      refine ⟨_, rfl, ?_⟩
                      have n0_ := amk (Kd.R_below (by (with_reducible repeat (first | apply Kd.R_alloc | apply Kd.R_drewN | apply Kd.R_drew)); exact HO_4.out) hb)
                      have n1_ := amk (Kd.R_below (by (with_reducible repeat (first | apply Kd.R_alloc | apply Kd.R_drewN | apply Kd.R_drew)); exact HO325.out) hb)
                      have n2_ := amk (blk_below (g := gb318) (o := .cells #[.int .i64 0, .int .i64 0, .slice none 0 0] 42 (0, 0)) (by (with_reducible repeat (first | refine kn_ ?_ _ | refine blk_drew ?_ | refine ka_ ?_ _)); exact BK318.out) hb)
                      have n3_ := amk (blk_below (g := gb330) (o := .cells #[.int .i64 t327, .int .i64 t329, .slice none 0 0] 42 (0, 0)) (by (with_reducible repeat (first | refine kn_ ?_ _ | refine blk_drew ?_ | refine ka_ ?_ _)); exact BK330.out) hb)
                      have n4_ := amk (bp_ (by repeat (first | (with_reducible first | exact HB.out | apply ba_ | apply bn_ | apply bd_ | refine bs_ ?_ GE318.out | refine bs_ ?_ GE330.out) | exact HB.out)) hb)
                      clear HO_4
                      clear HO325
                      clear BK318
                      clear BK330
                      clear HB
                      have HO_4 := n0_
                      have HO325 := n1_
                      have BK318 := n2_
                      have BK330 := n3_
                      have HB := n4_
                      clear n0_ n1_ n2_ n3_ n4_
                      (try clear hb)
                      (try clear hb2)
                      (try clear hk)
                      (try clear hi)
                      refine hK.out _ _ ⟨(blk_cell BK330.out 0).trans rfl, (blk_cell BK330.out 1).trans rfl, (blk_cell BK330.out 2).trans rfl⟩ (fun hHeld => ?_)
                      clear hK K
                      refine norm_ (a' := ?_) ?_ ?_
                      rotate_left
                      · show Act.put _ (some 83) _ = _
                        simp only [Act.put, List.setIfInBounds_toArray, List.set_cons_zero, List.set_cons_succ, i64_w, i32_w]
                        rfl
                      refine pure_ (i := 7) (N := some 85) (v := ?_) (a' := ?_) #[true, true, true, true, true, true, true, true, false, false, false] rfl rfl (any_of HT_.out (by kernel_rfl)) (fun _ _ _ h => h) (Or.inl ⟨by rfl, ?_⟩) ?_ ?_
                      rotate_left
                      · intro w'
                        go_simp
                        with_reducible rfl
                      rotate_left
                      · simp only [Act.put, List.setIfInBounds_toArray, List.set_cons_zero, List.set_cons_succ, i64_w, i32_w]
                        rfl
                      refine pure_ (i := 8) (N := some 86) (v := ?_) (a' := ?_) #[true, true, true, true, true, true, true, true, true, false, false] rfl rfl (any_of HT_.out (by kernel_rfl)) (fun _ _ _ h => h) (Or.inl ⟨by rfl, ?_⟩) ?_ ?_
                      rotate_left
                      · intro w'
                        go_simp
                        with_reducible rfl
                      rotate_left
                      · simp only [Act.put, List.setIfInBounds_toArray, List.set_cons_zero, List.set_cons_succ, i64_w, i32_w]
                        rfl
                      refine one_ (i := 9) (N := none) #[true, true, true, true, true, true, true, true, true, true, false] rfl rfl (one_of HT_.out (by kernel_rfl)) (by decide) (fun K hK => ?_)
                      have hs85 : w84.cell? ⟨gb318, 0, none⟩ = some (.int .i64 0) := (blk_cell BK318.out 0).trans rfl
                      have hfs85 := blk_frozen BK318.out 0
                      have hns85_1 := NB330_318.out
                      have hms85_1 := NB318_330.out
                      have hs86 : w84.cell? ⟨gb318, 1, none⟩ = some (.int .i64 0) := (blk_cell BK318.out 1).trans rfl
                      have hfs86 := blk_frozen BK318.out 1
                      have hns86_1 := NB330_318.out
                      have hms86_1 := NB318_330.out
                      have hs87 : w84.cell? ⟨gb318, 2, none⟩ = some (.slice none 0 0) := (blk_cell BK318.out 2).trans rfl
                      have hfs87 := blk_frozen BK318.out 2
                      have hns87_1 := NB330_318.out
                      have hms87_1 := NB318_330.out
                      refine skip_ (w1 := ?_) (by rfl) rfl ?_ ?_
                      rotate_left
                      · go_simp
                        rfl
                      refine hK.out _ _ ⟨((cell_far (p := ⟨gb318, _, none⟩) NB330_318.out _).trans (((cell_far (p := ⟨gb318, _, none⟩) NB330_318.out _).trans (((cell_far (p := ⟨gb318, _, none⟩) NB330_318.out _).trans (hHeld.1)))))), ((cell_far (p := ⟨gb318, _, none⟩) NB330_318.out _).trans (((cell_far (p := ⟨gb318, _, none⟩) NB330_318.out _).trans (((cell_far (p := ⟨gb318, _, none⟩) NB330_318.out _).trans (hHeld.2.1)))))), ((cell_far (p := ⟨gb318, _, none⟩) NB330_318.out _).trans (((cell_far (p := ⟨gb318, _, none⟩) NB330_318.out _).trans (((cell_far (p := ⟨gb318, _, none⟩) NB330_318.out _).trans (hHeld.2.2))))))⟩ (fun hHeld => ?_)
                      clear hK K
                      refine pure_ (i := 10) (N := some 3) (v := ?_) (a' := ?_) #[true, true, true, true, true, true, true, true, true, true, true] rfl rfl (any_of HT_.out (by kernel_rfl)) (fun _ _ _ h => h) (Or.inl ⟨by rfl, ?_⟩) ?_ ?_
                      rotate_left
                      · intro w'
                        go_simp
                        with_reducible rfl
                      rotate_left
                      · simp only [Act.put, List.setIfInBounds_toArray, List.set_cons_zero, List.set_cons_succ, i64_w, i32_w]
                        rfl
                      refine done_ (done_of HT_.out (by kernel_rfl)) ?_
                      try go_wp2
                      refine bodyPost_ret (results_ct rfl _ _ gb318 42 #[.int .i64 t327, .int .i64 t329, .slice none 0 0] (0, 0) _ rfl (by (with_reducible repeat (first | refine kn_ ?_ _ | refine blk_drew ?_ | refine ka_ ?_ _)); refine blk_put (cs := #[.int .i64 t327, .int .i64 t329, .slice none 0 0]) ?_ 2 _ rfl; (with_reducible repeat (first | refine kn_ ?_ _ | refine blk_drew ?_ | refine ka_ ?_ _)); refine blk_put (cs := #[.int .i64 t327, .int .i64 0, .slice none 0 0]) ?_ 1 _ rfl; (with_reducible repeat (first | refine kn_ ?_ _ | refine blk_drew ?_ | refine ka_ ?_ _)); refine blk_put (cs := #[.int .i64 0, .int .i64 0, .slice none 0 0]) ?_ 0 _ rfl; (with_reducible repeat (first | refine kn_ ?_ _ | refine blk_drew ?_ | refine ka_ ?_ _)); exact BK318.out) Tryd.underlying42 rfl (by kernel_rfl)) rfl ?_
                      exact ⟨_, by first | rfl | (simp [errW_none, errW_some] <;> rfl) | (simp [*, errW_none, errW_some] <;> rfl), by first | exact Kd.R_nil _ _ _ _ _ | exact Kd.N_nil _ _ _ _ _ | exact Kd.V_nil _ _ _ _ _ | exact Kd.Q_nil _ _ _ _ _ | exact Kd.S_nil _ _ _ _ _, by repeat (first | (with_reducible first | exact HB.out | apply ba_ | apply bn_ | apply bd_ | refine bs_ ?_ GE318.out | refine bs_ ?_ GE330.out) | exact HB.out)⟩
                    · replace c70 := Bool.eq_false_iff.mpr c70
                      subst c70
                      have H1 : (some (t327, t329, ([] : List (S77)), false)) = some (r1, r2, r3, r4) := by rw [if_neg (show ¬ (false = true) by decide)] at H; exact H
                      clear H
                      have H := H1
                      clear H1
                      simp only [Option.some.injEq, Prod.mk.injEq] at H
                      obtain ⟨rfl, rfl, rfl, rfl⟩ := H
                      obtain ⟨Ao88, co88, eo88⟩ := Kd.R_slice HO_4.out
                      subst eo88
                      have p322 : 0 ≤ (0 : Int) := (by omega)
                      have q322 : 0 < (t319.length : Int) := of_decide_eq_true (by first | (with_reducible assumption) | assumption)
                      obtain ⟨ad322, e322, hx322_0⟩ := Kd.at_string (Kd.R_reads' HO_4.out).2.2 0 p322 q322
                      cases e322
                      have qi322 : (0 < t319.length) = True := eq_true (by omega)
                      (try rw [show ((0 : Int)).toNat = 0 from rfl] at hx322_0)
                      (try rw [Addr.add_zero'] at hx322_0)
                      replace p322 := eq_true p322
                      replace q322 := eq_true q322
                      try go_wp2_with (first | ((with_reducible refine gate_callee (f := 75) rfl ?_); refine goesL_ (some 24) rfl rfl Tryd.func75 (by kernel_rfl) rfl #[.string (rdOf ByteArray.empty t319 0), .int .u8 120] rfl (by (try simp only [List.map_toArray, List.map_cons, List.map_nil]); first | done | rfl | (simp only [List.length_drop, List.length_take]; rfl)) ?_; (with_reducible refine (spec_l1Split.calls kj2 (rdOf ByteArray.empty t319 0) 120 t323 _ A11.out).mono ?_); rintro e w89 ⟨v324, rfl, ho0, hb⟩; refine ⟨_, rfl, ?_⟩; have n0_ := amk (Kd.R_elder' (by (with_reducible repeat (first | apply Kd.R_alloc | apply Kd.R_drewN | apply Kd.R_drew)); exact HO_4.out) (Kd.R_base ho0) hb); have n1_ := amk (Kd.R_lower (Kd.R_new' ho0 (Kd.R_lt (by (with_reducible repeat (first | apply Kd.R_alloc | apply Kd.R_drewN | apply Kd.R_drew)); exact HO_4.out))) (below_size (by repeat (first | (with_reducible first | exact HB.out | apply ba_ | apply bn_ | apply bd_ | refine bs_ ?_ GE318.out) | exact HB.out)))); have n2_ := amk (blk_below (g := gb318) (o := .cells #[.int .i64 0, .int .i64 0, .slice none 0 0] 42 (0, 0)) (by (with_reducible repeat (first | refine kn_ ?_ _ | refine blk_drew ?_ | refine ka_ ?_ _)); exact BK318.out) hb); have n3_ := amk (bp_ (by repeat (first | (with_reducible first | exact HB.out | apply ba_ | apply bn_ | apply bd_ | refine bs_ ?_ GE318.out) | exact HB.out)) hb); clear HO_4; clear BK318; clear HB; have HO_4 := n0_; have HO325 := n1_; have BK318 := n2_; have HB := n3_; clear n0_ n1_ n2_ n3_; (try clear hb); (try clear hb2); (try clear hk); (try clear hi); (try clear ho0); obtain ⟨Ao90, co90, eo90⟩ := Kd.R_slice HO325.out; subst eo90))
                      have n0_ := amk (Kd.R_drew HO_4.out)
                      have n1_ := amk (Kd.R_drew HO325.out)
                      have n2_ := amk (blk_drew BK318.out)
                      have n3_ := amk (bd_ HB.out)
                      clear HO_4
                      clear HO325
                      clear BK318
                      clear HB
                      have HO_4 := n0_
                      have HO325 := n1_
                      have BK318 := n2_
                      have HB := n3_
                      clear n0_ n1_ n2_ n3_
                      have p326 : 0 ≤ (0 : Int) := (by omega)
                      have q326 : 0 < (t323.length : Int) := of_decide_eq_true (by first | (with_reducible assumption) | assumption)
                      obtain ⟨ad326, e326, hx326_0⟩ := Kd.at_string (Kd.R_reads' HO325.out).2.2 0 p326 q326
                      cases e326
                      have qi326 : (0 < t323.length) = True := eq_true (by omega)
                      (try rw [show ((0 : Int)).toNat = 0 from rfl] at hx326_0)
                      (try rw [Addr.add_zero'] at hx326_0)
                      replace p326 := eq_true p326
                      replace q326 := eq_true q326
                      have p328 : 0 ≤ (1 : Int) := (by omega)
                      have q328 : 1 < (t323.length : Int) := of_decide_eq_true (by first | (with_reducible assumption) | assumption)
                      obtain ⟨ad328, e328, hx328_0⟩ := Kd.at_string (Kd.R_reads' HO325.out).2.2 1 p328 q328
                      obtain rfl : ad326 = ad328 := (by injection e328)
                      (try simp only [show (1 : Int).toNat = 1 from rfl, Nat.reduceMul, Nat.reduceEqDiff, Go.Addr.add, ↓reduceIte] at hx328_0)
                      have qi328 : (1 < t323.length) = True := eq_true (by omega)
                      (try rw [show ((1 : Int)).toNat = 1 from rfl] at hx328_0)
                      replace p328 := eq_true p328
                      replace q328 := eq_true q328
                      refine start_ (n := 12) (S := fun w' => w'.cell? ad326 = some (.string (rdOf ByteArray.empty t323 0)) ∧ w'.cell? ⟨ad326.block, ad326.off + 1, none⟩ = some (.string (rdOf ByteArray.empty t323 1))) (ds := []) #[false, false, false, false, false, false, false, false, false, false, false, false] (by kernel_rfl) rfl rfl ⟨hx326_0, hx328_0⟩ (fun hHeld => ?_); refine with_tabW spec_pzParse.tab7 spec_pzParse.bits7 (fun HT_ HW_ => ?_)
                      generalize w89.drew = w91 at HO_4 HO325 BK318 HB hx326_0 hx328_0 hHeld ⊢
                      refine pure_ (i := 0) (N := some 29) (v := ?_) (a' := ?_) #[true, false, false, false, false, false, false, false, false, false, false, false] rfl rfl (any_of HT_.out (by kernel_rfl)) (fun _ _ _ h => h) (Or.inl ⟨by rfl, ?_⟩) ?_ ?_
                      rotate_left
                      · intro w'
                        go_simp
                        with_reducible rfl
                      rotate_left
                      · simp only [Act.put, List.setIfInBounds_toArray, List.set_cons_zero, List.set_cons_succ, i64_w, i32_w]
                        rfl
                      refine pure_ (i := 1) (N := some 30) (v := ?_) (a' := ?_) #[true, true, false, false, false, false, false, false, false, false, false, false] rfl rfl (any_of HT_.out (by kernel_rfl)) (fun _ _ _ h => h) (Or.inl ⟨by rfl, ?_⟩) ?_ ?_
                      rotate_left
                      · intro w'
                        go_simp
                        with_reducible rfl
                      rotate_left
                      · simp only [Act.put, List.setIfInBounds_toArray, List.set_cons_zero, List.set_cons_succ, i64_w, i32_w]
                        rfl
                      refine pure_ (i := 4) (N := some 33) (v := ?_) (a' := ?_) #[true, true, false, false, true, false, false, false, false, false, false, false] rfl rfl (any_of HT_.out (by kernel_rfl)) (fun _ _ _ h => h) (Or.inl ⟨by rfl, ?_⟩) ?_ ?_
                      rotate_left
                      · intro w'
                        go_simp
                        with_reducible rfl
                      rotate_left
                      · simp only [Act.put, List.setIfInBounds_toArray, List.set_cons_zero, List.set_cons_succ, i64_w, i32_w]
                        rfl
                      refine pure_ (i := 5) (N := some 34) (v := ?_) (a' := ?_) #[true, true, false, false, true, true, false, false, false, false, false, false] rfl rfl (any_of HT_.out (by kernel_rfl)) (fun _ _ _ h => h) (Or.inl ⟨by rfl, ?_⟩) ?_ ?_
                      rotate_left
                      · intro w'
                        go_simp
                        with_reducible rfl
                      rotate_left
                      · simp only [Act.put, List.setIfInBounds_toArray, List.set_cons_zero, List.set_cons_succ, i64_w, i32_w]
                        rfl
                      refine take_ (i := 2) (N := some 31) (v := ?_) (a' := ?_) #[true, true, true, false, true, true, false, false, false, false, false, false] rfl rfl (take_ofW HT_.out HW_.out (by kernel_rfl)) (fun _ _ _ h => h) (Or.inl ⟨by rfl, ?_⟩) hHeld ?_ ?_
                      rotate_left
                      · rintro w' ⟨s0, s1⟩
                        go_simp
                        with_reducible rfl
                      rotate_left
                      · simp only [Act.put, List.setIfInBounds_toArray, List.set_cons_zero, List.set_cons_succ, i64_w, i32_w]
                        rfl
                      refine take_ (i := 6) (N := some 35) (v := ?_) (a' := ?_) #[true, true, true, false, true, true, true, false, false, false, false, false] rfl rfl (take_ofW HT_.out HW_.out (by kernel_rfl)) (fun _ _ _ h => h) (Or.inl ⟨by rfl, ?_⟩) hHeld ?_ ?_
                      rotate_left
                      · rintro w' ⟨s0, s1⟩
                        go_simp
                        with_reducible rfl
                      rotate_left
                      · simp only [Act.put, List.setIfInBounds_toArray, List.set_cons_zero, List.set_cons_succ, i64_w, i32_w]
                        rfl
                      refine join_ (σ := Nat) 1 #[true, true, true, true, true, true, true, true, true, true, true, false] (fun s_ => [(32, .int .i64 t327), (36, .int .i64 t329), (6, .pointer (some ⟨s_, 0, none⟩)), (37, .agg #[.int .i64 t327, .int .i64 t329]), (38, .agg #[.int .i64 t327, .int .i64 t329, .slice none 0 0])]) (fun s_ w' => (w'.cell? ad326 = some (.string (rdOf ByteArray.empty t323 0)) ∧ w'.cell? ⟨ad326.block, ad326.off + 1, none⟩ = some (.string (rdOf ByteArray.empty t323 1))) ∧ (Kd.R Kd.string 9 w' w.heap.size (fun k_ => some k_ ≠ (.slice (some ad322) t319.length co88 : Value).ownBlock) (.slice (some ad326) t323.length co90) t323) ∧ (Kd.R Kd.string 9 w' w.heap.size (fun k_ => some k_ ≠ (.slice (some ad326) t323.length co90 : Value).ownBlock) (.slice (some ad322) t319.length co88) t319) ∧ (w'.heap[gb318]? = some (.cells #[.int .i64 0, .int .i64 0, .slice none 0 0] 42 (0, 0))) ∧ (w'.heap[s_]? = some (.cells #[.int .i64 0, .int .i64 0, .slice none 0 0] 42 (0, 0))) ∧ (w.heap.size ≤ s_) ∧ (w.heap.size ≤ s_) ∧ (gb318 ≠ s_) ∧ (s_ ≠ gb318) ∧ (Below w.heap.size w w')) ?_ ?_
                      rotate_left
                      · intro hCont
                        refine two_ (i := 3) (j := 10) (Ni := some 32) (Nj := some 6) #[true, true, true, true, true, true, true, false, false, false, false, false] #[true, true, true, false, true, true, true, false, false, false, true, false] rfl rfl rfl rfl (two_of HT_.out (by kernel_rfl)) (by decide) (by decide) (fun K hK => ?_) (fun K hK => ?_)
                        · skip
                          refine goes_ Tryd.func76 (by kernel_rfl) rfl #[.string (rdOf ByteArray.empty t323 0)] (by rfl) rfl rfl (by (try simp only [List.map_toArray, List.map_cons, List.map_nil]); first | done | rfl | (simp only [List.length_drop, List.length_take]; rfl)) ?_
                          with_reducible refine (spec_l1Read.calls kj2 (rdOf ByteArray.empty t323 0) t327 _ A14.out).mono ?_
                          rintro e w' ⟨rfl, ⟨nd, rfl⟩⟩
                          refine ⟨_, rfl, ?_⟩
                          refine hK.out _ _ ⟨hHeld.1, hHeld.2⟩ (fun hHeld => ?_)
                          clear hK K
                          refine norm_ (a' := ?_) ?_ ?_
                          rotate_left
                          · show Act.put _ (some 32) _ = _
                            simp only [Act.put, List.setIfInBounds_toArray, List.set_cons_zero, List.set_cons_succ, i64_w, i32_w]
                            rfl
                          refine two_ (i := 7) (j := 10) (Ni := some 36) (Nj := some 6) #[true, true, true, true, true, true, true, true, false, false, false, false] #[true, true, true, true, true, true, true, false, false, false, true, false] rfl rfl rfl rfl (two_of HT_.out (by kernel_rfl)) (by decide) (by decide) (fun K hK => ?_) (fun K hK => ?_)
                          · skip
                            refine goes_ Tryd.func76 (by kernel_rfl) rfl #[.string (rdOf ByteArray.empty t323 1)] (by rfl) rfl rfl (by (try simp only [List.map_toArray, List.map_cons, List.map_nil]); first | done | rfl | (simp only [List.length_drop, List.length_take]; rfl)) ?_
                            with_reducible refine (spec_l1Read.calls kj2 (rdOf ByteArray.empty t323 1) t329 _ A16.out).mono ?_
                            rintro e w' ⟨rfl, ⟨nd, rfl⟩⟩
                            refine ⟨_, rfl, ?_⟩
                            refine hK.out _ _ ⟨hHeld.1, hHeld.2⟩ (fun hHeld => ?_)
                            clear hK K
                            refine norm_ (a' := ?_) ?_ ?_
                            rotate_left
                            · show Act.put _ (some 36) _ = _
                              simp only [Act.put, List.setIfInBounds_toArray, List.set_cons_zero, List.set_cons_succ, i64_w, i32_w]
                              rfl
                            refine pure_ (i := 8) (N := some 37) (v := ?_) (a' := ?_) #[true, true, true, true, true, true, true, true, true, false, false, false] rfl rfl (any_of HT_.out (by kernel_rfl)) (fun _ _ _ h => h) (Or.inl ⟨by rfl, ?_⟩) ?_ ?_
                            rotate_left
                            · intro w'
                              go_simp
                              with_reducible rfl
                            rotate_left
                            · simp only [Act.put, List.setIfInBounds_toArray, List.set_cons_zero, List.set_cons_succ, i64_w, i32_w]
                              rfl
                            refine pure_ (i := 9) (N := some 38) (v := ?_) (a' := ?_) #[true, true, true, true, true, true, true, true, true, true, false, false] rfl rfl (any_of HT_.out (by kernel_rfl)) (fun _ _ _ h => h) (Or.inl ⟨by rfl, ?_⟩) ?_ ?_
                            rotate_left
                            · intro w'
                              go_simp
                              with_reducible rfl
                            rotate_left
                            · simp only [Act.put, List.setIfInBounds_toArray, List.set_cons_zero, List.set_cons_succ, i64_w, i32_w]
                              rfl
                            refine one_ (i := 10) (N := some 6) #[true, true, true, true, true, true, true, true, true, true, true, false] rfl rfl (one_of HT_.out (by kernel_rfl)) (by decide) (fun K hK => ?_)
                            refine box_step ?hg (N := 6) ?hd (cs := #[.int .i64 0, .int .i64 0, .slice none 0 0]) (t := 42) ?hr ?_; (case hd => rfl); (case hg => rfl); (case hr => first | (go_simp; done) | (go_simp; rfl))
                            intro gb330 hg w92 hbox hb
                            have HS0_ := (hb.cell (World.block_lt_of_cell? _ _ (hHeld.1))).trans (hHeld.1)
                            have HS1_ := (hb.cell (World.block_lt_of_cell? _ _ (hHeld.2))).trans (hHeld.2)
                            have n0_ := amk (Kd.R_below (by (with_reducible repeat (first | apply Kd.R_alloc | apply Kd.R_drewN | apply Kd.R_drew)); exact HO_4.out) hb)
                            have n1_ := amk (Kd.R_below (by (with_reducible repeat (first | apply Kd.R_alloc | apply Kd.R_drewN | apply Kd.R_drew)); exact HO325.out) hb)
                            have n2_ := amk (blk_below (g := gb318) (o := .cells #[.int .i64 0, .int .i64 0, .slice none 0 0] 42 (0, 0)) (by (with_reducible repeat (first | refine kn_ ?_ _ | refine blk_drew ?_ | refine ka_ ?_ _)); exact BK318.out) hb)
                            have n3_ := amk (bp_ (by repeat (first | (with_reducible first | exact HB.out | apply ba_ | apply bn_ | apply bd_ | refine bs_ ?_ GE318.out) | exact HB.out)) hb)
                            have n4_ := amk (hbox)
                            have n5_ := amk ((by rw [hg]; exact (below_size (by repeat (first | (with_reducible first | exact HB.out | apply ba_ | apply bn_ | apply bd_ | refine bs_ ?_ GE318.out) | exact HB.out))) : w.heap.size ≤ gb330))
                            have n6_ := amk ((by rw [hg]; exact (below_size (by repeat (first | (with_reducible first | exact HB.out | apply ba_ | apply bn_ | apply bd_ | refine bs_ ?_ GE318.out) | exact HB.out))) : w.heap.size ≤ gb330))
                            have n7_ := amk ((by rw [hg]; exact Nat.ne_of_lt (blk_lt (g := gb318) (o := .cells #[.int .i64 0, .int .i64 0, .slice none 0 0] 42 (0, 0)) (by (with_reducible repeat (first | refine kn_ ?_ _ | refine blk_drew ?_ | refine ka_ ?_ _)); exact BK318.out)) : gb318 ≠ gb330))
                            have n8_ := amk ((by rw [hg]; exact Nat.ne_of_gt (blk_lt (g := gb318) (o := .cells #[.int .i64 0, .int .i64 0, .slice none 0 0] 42 (0, 0)) (by (with_reducible repeat (first | refine kn_ ?_ _ | refine blk_drew ?_ | refine ka_ ?_ _)); exact BK318.out)) : gb330 ≠ gb318))
                            clear HO_4
                            clear HO325
                            clear BK318
                            clear HB
                            have HO_4 := n0_
                            have HO325 := n1_
                            have BK318 := n2_
                            have HB := n3_
                            have BK330 := n4_
                            have GW330 := n5_
                            have GE330 := n6_
                            have NB318_330 := n7_
                            have NB330_318 := n8_
                            clear n0_ n1_ n2_ n3_ n4_ n5_ n6_ n7_ n8_
                            clear hb hbox hg
                            refine hK.out _ _ ⟨HS0_, HS1_⟩ (fun hHeld => ?_)
                            clear hK K
                            refine norm_ (a' := ?_) ?_ ?_
                            rotate_left
                            · show Act.put _ (some 6) _ = _
                              simp only [Act.put, List.setIfInBounds_toArray, List.set_cons_zero, List.set_cons_succ, i64_w, i32_w]
                              rfl
                            exact norm_ (by simp only [putAll, Act.put, List.setIfInBounds_toArray, List.set_cons_zero, List.set_cons_succ]) (hCont (gb330) _ ⟨hHeld, (by (with_reducible repeat (first | apply Kd.R_alloc | apply Kd.R_drewN | apply Kd.R_drew)); exact Kd.R_mono HO325.out (fun _ hk => hk.2)), (by (with_reducible repeat (first | apply Kd.R_alloc | apply Kd.R_drewN | apply Kd.R_drew)); exact Kd.R_mono HO_4.out (fun _ hk => hk.2)), (by (with_reducible repeat (first | refine kn_ ?_ _ | refine blk_drew ?_ | refine ka_ ?_ _)); exact BK318.out), (by (with_reducible repeat (first | refine kn_ ?_ _ | refine blk_drew ?_ | refine ka_ ?_ _)); exact BK330.out), GW330.out, GE330.out, NB318_330.out, NB330_318.out, (by repeat (first | (with_reducible first | exact HB.out | apply ba_ | apply bn_ | apply bd_ | refine bs_ ?_ GE318.out | refine bs_ ?_ GE330.out) | exact HB.out))⟩)
                          · skip
                            refine box_step ?hg (N := 6) ?hd (cs := #[.int .i64 0, .int .i64 0, .slice none 0 0]) (t := 42) ?hr ?_; (case hd => rfl); (case hg => rfl); (case hr => first | (go_simp; done) | (go_simp; rfl))
                            intro gb330 hg w92 hbox hb
                            have HS0_ := (hb.cell (World.block_lt_of_cell? _ _ (hHeld.1))).trans (hHeld.1)
                            have HS1_ := (hb.cell (World.block_lt_of_cell? _ _ (hHeld.2))).trans (hHeld.2)
                            have n0_ := amk (Kd.R_below (by (with_reducible repeat (first | apply Kd.R_alloc | apply Kd.R_drewN | apply Kd.R_drew)); exact HO_4.out) hb)
                            have n1_ := amk (Kd.R_below (by (with_reducible repeat (first | apply Kd.R_alloc | apply Kd.R_drewN | apply Kd.R_drew)); exact HO325.out) hb)
                            have n2_ := amk (blk_below (g := gb318) (o := .cells #[.int .i64 0, .int .i64 0, .slice none 0 0] 42 (0, 0)) (by (with_reducible repeat (first | refine kn_ ?_ _ | refine blk_drew ?_ | refine ka_ ?_ _)); exact BK318.out) hb)
                            have n3_ := amk (bp_ (by repeat (first | (with_reducible first | exact HB.out | apply ba_ | apply bn_ | apply bd_ | refine bs_ ?_ GE318.out) | exact HB.out)) hb)
                            have n4_ := amk (hbox)
                            have n5_ := amk ((by rw [hg]; exact (below_size (by repeat (first | (with_reducible first | exact HB.out | apply ba_ | apply bn_ | apply bd_ | refine bs_ ?_ GE318.out) | exact HB.out))) : w.heap.size ≤ gb330))
                            have n6_ := amk ((by rw [hg]; exact (below_size (by repeat (first | (with_reducible first | exact HB.out | apply ba_ | apply bn_ | apply bd_ | refine bs_ ?_ GE318.out) | exact HB.out))) : w.heap.size ≤ gb330))
                            have n7_ := amk ((by rw [hg]; exact Nat.ne_of_lt (blk_lt (g := gb318) (o := .cells #[.int .i64 0, .int .i64 0, .slice none 0 0] 42 (0, 0)) (by (with_reducible repeat (first | refine kn_ ?_ _ | refine blk_drew ?_ | refine ka_ ?_ _)); exact BK318.out)) : gb318 ≠ gb330))
                            have n8_ := amk ((by rw [hg]; exact Nat.ne_of_gt (blk_lt (g := gb318) (o := .cells #[.int .i64 0, .int .i64 0, .slice none 0 0] 42 (0, 0)) (by (with_reducible repeat (first | refine kn_ ?_ _ | refine blk_drew ?_ | refine ka_ ?_ _)); exact BK318.out)) : gb330 ≠ gb318))
                            clear HO_4
                            clear HO325
                            clear BK318
                            clear HB
                            have HO_4 := n0_
                            have HO325 := n1_
                            have BK318 := n2_
                            have HB := n3_
                            have BK330 := n4_
                            have GW330 := n5_
                            have GE330 := n6_
                            have NB318_330 := n7_
                            have NB330_318 := n8_
                            clear n0_ n1_ n2_ n3_ n4_ n5_ n6_ n7_ n8_
                            clear hb hbox hg
                            refine hK.out _ _ ⟨HS0_, HS1_⟩ (fun hHeld => ?_)
                            clear hK K
                            refine norm_ (a' := ?_) ?_ ?_
                            rotate_left
                            · show Act.put _ (some 6) _ = _
                              simp only [Act.put, List.setIfInBounds_toArray, List.set_cons_zero, List.set_cons_succ, i64_w, i32_w]
                              rfl
                            refine one_ (i := 7) (N := some 36) #[true, true, true, true, true, true, true, true, false, false, true, false] rfl rfl (one_of HT_.out (by kernel_rfl)) (by decide) (fun K hK => ?_)
                            refine goes_ Tryd.func76 (by kernel_rfl) rfl #[.string (rdOf ByteArray.empty t323 1)] (by rfl) rfl rfl (by (try simp only [List.map_toArray, List.map_cons, List.map_nil]); first | done | rfl | (simp only [List.length_drop, List.length_take]; rfl)) ?_
                            with_reducible refine (spec_l1Read.calls kj2 (rdOf ByteArray.empty t323 1) t329 _ A16.out).mono ?_
                            rintro e w' ⟨rfl, ⟨nd, rfl⟩⟩
                            refine ⟨_, rfl, ?_⟩
                            refine hK.out _ _ ⟨hHeld.1, hHeld.2⟩ (fun hHeld => ?_)
                            clear hK K
                            refine norm_ (a' := ?_) ?_ ?_
                            rotate_left
                            · show Act.put _ (some 36) _ = _
                              simp only [Act.put, List.setIfInBounds_toArray, List.set_cons_zero, List.set_cons_succ, i64_w, i32_w]
                              rfl
                            refine pure_ (i := 8) (N := some 37) (v := ?_) (a' := ?_) #[true, true, true, true, true, true, true, true, true, false, true, false] rfl rfl (any_of HT_.out (by kernel_rfl)) (fun _ _ _ h => h) (Or.inl ⟨by rfl, ?_⟩) ?_ ?_
                            rotate_left
                            · intro w'
                              go_simp
                              with_reducible rfl
                            rotate_left
                            · simp only [Act.put, List.setIfInBounds_toArray, List.set_cons_zero, List.set_cons_succ, i64_w, i32_w]
                              rfl
                            refine pure_ (i := 9) (N := some 38) (v := ?_) (a' := ?_) #[true, true, true, true, true, true, true, true, true, true, true, false] rfl rfl (any_of HT_.out (by kernel_rfl)) (fun _ _ _ h => h) (Or.inl ⟨by rfl, ?_⟩) ?_ ?_
                            rotate_left
                            · intro w'
                              go_simp
                              with_reducible rfl
                            rotate_left
                            · simp only [Act.put, List.setIfInBounds_toArray, List.set_cons_zero, List.set_cons_succ, i64_w, i32_w]
                              rfl
                            exact norm_ (by simp only [putAll, Act.put, List.setIfInBounds_toArray, List.set_cons_zero, List.set_cons_succ]) (hCont (gb330) _ ⟨hHeld, (by (with_reducible repeat (first | apply Kd.R_alloc | apply Kd.R_drewN | apply Kd.R_drew)); exact Kd.R_mono HO325.out (fun _ hk => hk.2)), (by (with_reducible repeat (first | apply Kd.R_alloc | apply Kd.R_drewN | apply Kd.R_drew)); exact Kd.R_mono HO_4.out (fun _ hk => hk.2)), (by (with_reducible repeat (first | refine kn_ ?_ _ | refine blk_drew ?_ | refine ka_ ?_ _)); exact BK318.out), (by (with_reducible repeat (first | refine kn_ ?_ _ | refine blk_drew ?_ | refine ka_ ?_ _)); exact BK330.out), GW330.out, GE330.out, NB318_330.out, NB330_318.out, (by repeat (first | (with_reducible first | exact HB.out | apply ba_ | apply bn_ | apply bd_ | refine bs_ ?_ GE318.out | refine bs_ ?_ GE330.out) | exact HB.out))⟩)
                        · skip
                          refine box_step ?hg (N := 6) ?hd (cs := #[.int .i64 0, .int .i64 0, .slice none 0 0]) (t := 42) ?hr ?_; (case hd => rfl); (case hg => rfl); (case hr => first | (go_simp; done) | (go_simp; rfl))
                          intro gb330 hg w92 hbox hb
                          have HS0_ := (hb.cell (World.block_lt_of_cell? _ _ (hHeld.1))).trans (hHeld.1)
                          have HS1_ := (hb.cell (World.block_lt_of_cell? _ _ (hHeld.2))).trans (hHeld.2)
                          have n0_ := amk (Kd.R_below (by (with_reducible repeat (first | apply Kd.R_alloc | apply Kd.R_drewN | apply Kd.R_drew)); exact HO_4.out) hb)
                          have n1_ := amk (Kd.R_below (by (with_reducible repeat (first | apply Kd.R_alloc | apply Kd.R_drewN | apply Kd.R_drew)); exact HO325.out) hb)
                          have n2_ := amk (blk_below (g := gb318) (o := .cells #[.int .i64 0, .int .i64 0, .slice none 0 0] 42 (0, 0)) (by (with_reducible repeat (first | refine kn_ ?_ _ | refine blk_drew ?_ | refine ka_ ?_ _)); exact BK318.out) hb)
                          have n3_ := amk (bp_ (by repeat (first | (with_reducible first | exact HB.out | apply ba_ | apply bn_ | apply bd_ | refine bs_ ?_ GE318.out) | exact HB.out)) hb)
                          have n4_ := amk (hbox)
                          have n5_ := amk ((by rw [hg]; exact (below_size (by repeat (first | (with_reducible first | exact HB.out | apply ba_ | apply bn_ | apply bd_ | refine bs_ ?_ GE318.out) | exact HB.out))) : w.heap.size ≤ gb330))
                          have n6_ := amk ((by rw [hg]; exact (below_size (by repeat (first | (with_reducible first | exact HB.out | apply ba_ | apply bn_ | apply bd_ | refine bs_ ?_ GE318.out) | exact HB.out))) : w.heap.size ≤ gb330))
                          have n7_ := amk ((by rw [hg]; exact Nat.ne_of_lt (blk_lt (g := gb318) (o := .cells #[.int .i64 0, .int .i64 0, .slice none 0 0] 42 (0, 0)) (by (with_reducible repeat (first | refine kn_ ?_ _ | refine blk_drew ?_ | refine ka_ ?_ _)); exact BK318.out)) : gb318 ≠ gb330))
                          have n8_ := amk ((by rw [hg]; exact Nat.ne_of_gt (blk_lt (g := gb318) (o := .cells #[.int .i64 0, .int .i64 0, .slice none 0 0] 42 (0, 0)) (by (with_reducible repeat (first | refine kn_ ?_ _ | refine blk_drew ?_ | refine ka_ ?_ _)); exact BK318.out)) : gb330 ≠ gb318))
                          clear HO_4
                          clear HO325
                          clear BK318
                          clear HB
                          have HO_4 := n0_
                          have HO325 := n1_
                          have BK318 := n2_
                          have HB := n3_
                          have BK330 := n4_
                          have GW330 := n5_
                          have GE330 := n6_
                          have NB318_330 := n7_
                          have NB330_318 := n8_
                          clear n0_ n1_ n2_ n3_ n4_ n5_ n6_ n7_ n8_
                          clear hb hbox hg
                          refine hK.out _ _ ⟨HS0_, HS1_⟩ (fun hHeld => ?_)
                          clear hK K
                          refine norm_ (a' := ?_) ?_ ?_
                          rotate_left
                          · show Act.put _ (some 6) _ = _
                            simp only [Act.put, List.setIfInBounds_toArray, List.set_cons_zero, List.set_cons_succ, i64_w, i32_w]
                            rfl
                          refine one_ (i := 3) (N := some 32) #[true, true, true, true, true, true, true, false, false, false, true, false] rfl rfl (one_of HT_.out (by kernel_rfl)) (by decide) (fun K hK => ?_)
                          refine goes_ Tryd.func76 (by kernel_rfl) rfl #[.string (rdOf ByteArray.empty t323 0)] (by rfl) rfl rfl (by (try simp only [List.map_toArray, List.map_cons, List.map_nil]); first | done | rfl | (simp only [List.length_drop, List.length_take]; rfl)) ?_
                          with_reducible refine (spec_l1Read.calls kj2 (rdOf ByteArray.empty t323 0) t327 _ A14.out).mono ?_
                          rintro e w' ⟨rfl, ⟨nd, rfl⟩⟩
                          refine ⟨_, rfl, ?_⟩
                          refine hK.out _ _ ⟨hHeld.1, hHeld.2⟩ (fun hHeld => ?_)
                          clear hK K
                          refine norm_ (a' := ?_) ?_ ?_
                          rotate_left
                          · show Act.put _ (some 32) _ = _
                            simp only [Act.put, List.setIfInBounds_toArray, List.set_cons_zero, List.set_cons_succ, i64_w, i32_w]
                            rfl
                          refine one_ (i := 7) (N := some 36) #[true, true, true, true, true, true, true, true, false, false, true, false] rfl rfl (one_of HT_.out (by kernel_rfl)) (by decide) (fun K hK => ?_)
                          refine goes_ Tryd.func76 (by kernel_rfl) rfl #[.string (rdOf ByteArray.empty t323 1)] (by rfl) rfl rfl (by (try simp only [List.map_toArray, List.map_cons, List.map_nil]); first | done | rfl | (simp only [List.length_drop, List.length_take]; rfl)) ?_
                          with_reducible refine (spec_l1Read.calls kj2 (rdOf ByteArray.empty t323 1) t329 _ A16.out).mono ?_
                          rintro e w' ⟨rfl, ⟨nd, rfl⟩⟩
                          refine ⟨_, rfl, ?_⟩
                          refine hK.out _ _ ⟨hHeld.1, hHeld.2⟩ (fun hHeld => ?_)
                          clear hK K
                          refine norm_ (a' := ?_) ?_ ?_
                          rotate_left
                          · show Act.put _ (some 36) _ = _
                            simp only [Act.put, List.setIfInBounds_toArray, List.set_cons_zero, List.set_cons_succ, i64_w, i32_w]
                            rfl
                          refine pure_ (i := 8) (N := some 37) (v := ?_) (a' := ?_) #[true, true, true, true, true, true, true, true, true, false, true, false] rfl rfl (any_of HT_.out (by kernel_rfl)) (fun _ _ _ h => h) (Or.inl ⟨by rfl, ?_⟩) ?_ ?_
                          rotate_left
                          · intro w'
                            go_simp
                            with_reducible rfl
                          rotate_left
                          · simp only [Act.put, List.setIfInBounds_toArray, List.set_cons_zero, List.set_cons_succ, i64_w, i32_w]
                            rfl
                          refine pure_ (i := 9) (N := some 38) (v := ?_) (a' := ?_) #[true, true, true, true, true, true, true, true, true, true, true, false] rfl rfl (any_of HT_.out (by kernel_rfl)) (fun _ _ _ h => h) (Or.inl ⟨by rfl, ?_⟩) ?_ ?_
                          rotate_left
                          · intro w'
                            go_simp
                            with_reducible rfl
                          rotate_left
                          · simp only [Act.put, List.setIfInBounds_toArray, List.set_cons_zero, List.set_cons_succ, i64_w, i32_w]
                            rfl
                          exact norm_ (by simp only [putAll, Act.put, List.setIfInBounds_toArray, List.set_cons_zero, List.set_cons_succ]) (hCont (gb330) _ ⟨hHeld, (by (with_reducible repeat (first | apply Kd.R_alloc | apply Kd.R_drewN | apply Kd.R_drew)); exact Kd.R_mono HO325.out (fun _ hk => hk.2)), (by (with_reducible repeat (first | apply Kd.R_alloc | apply Kd.R_drewN | apply Kd.R_drew)); exact Kd.R_mono HO_4.out (fun _ hk => hk.2)), (by (with_reducible repeat (first | refine kn_ ?_ _ | refine blk_drew ?_ | refine ka_ ?_ _)); exact BK318.out), (by (with_reducible repeat (first | refine kn_ ?_ _ | refine blk_drew ?_ | refine ka_ ?_ _)); exact BK330.out), GW330.out, GE330.out, NB318_330.out, NB330_318.out, (by repeat (first | (with_reducible first | exact HB.out | apply ba_ | apply bn_ | apply bd_ | refine bs_ ?_ GE318.out | refine bs_ ?_ GE330.out) | exact HB.out))⟩)
                      rintro gb330 w93 ⟨hS_, h0_, h1_, h2_, h3_, h4_, h5_, h6_, h7_, h8_⟩
                      have n0_ : Aside0 (Kd.R Kd.string 9 w93 w.heap.size (fun k_ => some k_ ≠ (.slice (some ad322) t319.length co88 : Value).ownBlock) (.slice (some ad326) t323.length co90) t323) := ⟨h0_⟩
                      have n1_ : Aside0 (Kd.R Kd.string 9 w93 w.heap.size (fun k_ => some k_ ≠ (.slice (some ad326) t323.length co90 : Value).ownBlock) (.slice (some ad322) t319.length co88) t319) := ⟨h1_⟩
                      have n2_ : Aside0 (w93.heap[gb318]? = some (.cells #[.int .i64 0, .int .i64 0, .slice none 0 0] 42 (0, 0))) := ⟨h2_⟩
                      have n3_ : Aside0 (w93.heap[gb330]? = some (.cells #[.int .i64 0, .int .i64 0, .slice none 0 0] 42 (0, 0))) := ⟨h3_⟩
                      have n4_ : Aside0 (w.heap.size ≤ gb330) := ⟨h4_⟩
                      have n5_ : Aside0 (w.heap.size ≤ gb330) := ⟨h5_⟩
                      have n6_ : Aside0 (gb318 ≠ gb330) := ⟨h6_⟩
                      have n7_ : Aside0 (gb330 ≠ gb318) := ⟨h7_⟩
                      have n8_ : Aside0 (Below w.heap.size w w93) := ⟨h8_⟩
                      clear HO_4
                      clear HO325
                      clear BK318
                      clear HB
                      clear h0_ h1_ h2_ h3_ h4_ h5_ h6_ h7_ h8_
                      have HO325 := n0_
                      have HO_4 := n1_
                      have BK318 := n2_
                      have BK330 := n3_
                      have GW330 := n4_
                      have GE330 := n5_
                      have NB318_330 := n6_
                      have NB330_318 := n7_
                      have HB := n8_
                      clear n0_ n1_ n2_ n3_ n4_ n5_ n6_ n7_ n8_
                      have hHeld : w93.cell? ad326 = some (.string (rdOf ByteArray.empty t323 0)) ∧ w93.cell? ⟨ad326.block, ad326.off + 1, none⟩ = some (.string (rdOf ByteArray.empty t323 1)) := hS_
                      refine norm_ (a' := ?_) ?_ ?_
                      rotate_left
                      · simp only [putAll, Act.put, List.setIfInBounds_toArray, List.set_cons_zero, List.set_cons_succ]
                        rfl
                      refine one_ (i := 11) (N := none) #[true, true, true, true, true, true, true, true, true, true, true, true] rfl rfl (one_of HT_.out (by kernel_rfl)) (by decide) (fun K hK => ?_)
                      have hs94 : w93.cell? ⟨gb330, 0, none⟩ = some (.int .i64 0) := (blk_cell BK330.out 0).trans rfl
                      have hfs94 := blk_frozen BK330.out 0
                      have hns94_0 := NB318_330.out
                      have hms94_0 := NB330_318.out
                      have hs95 : w93.cell? ⟨gb330, 1, none⟩ = some (.int .i64 0) := (blk_cell BK330.out 1).trans rfl
                      have hfs95 := blk_frozen BK330.out 1
                      have hns95_0 := NB318_330.out
                      have hms95_0 := NB330_318.out
                      have hs96 : w93.cell? ⟨gb330, 2, none⟩ = some (.slice none 0 0) := (blk_cell BK330.out 2).trans rfl
                      have hfs96 := blk_frozen BK330.out 2
                      have hns96_0 := NB318_330.out
                      have hms96_0 := NB330_318.out
                      refine skip_ (w1 := ?_) (by rfl) rfl ?_ ?_
                      rotate_left
                      · go_simp
                        rfl
                      refine hK.out _ _ ⟨((cell_far (p := ⟨gb330, _, none⟩) (by first | exact Kd.own_blk (Kd.R_ne HO325.out BK330.out (by decide)) | (rw [add_block]; exact Kd.own_blk (Kd.R_ne HO325.out BK330.out (by decide))) | (show (Addr.add _ _).block ≠ _; rw [add_block]; exact Kd.own_blk (Kd.R_ne HO325.out BK330.out (by decide))) | (dsimp only; exact Kd.own_blk (Kd.R_ne HO325.out BK330.out (by decide)))) _).trans (((cell_far (p := ⟨gb330, _, none⟩) (by first | exact Kd.own_blk (Kd.R_ne HO325.out BK330.out (by decide)) | (rw [add_block]; exact Kd.own_blk (Kd.R_ne HO325.out BK330.out (by decide))) | (show (Addr.add _ _).block ≠ _; rw [add_block]; exact Kd.own_blk (Kd.R_ne HO325.out BK330.out (by decide))) | (dsimp only; exact Kd.own_blk (Kd.R_ne HO325.out BK330.out (by decide)))) _).trans (((cell_far (p := ⟨gb330, _, none⟩) (by first | exact Kd.own_blk (Kd.R_ne HO325.out BK330.out (by decide)) | (rw [add_block]; exact Kd.own_blk (Kd.R_ne HO325.out BK330.out (by decide))) | (show (Addr.add _ _).block ≠ _; rw [add_block]; exact Kd.own_blk (Kd.R_ne HO325.out BK330.out (by decide))) | (dsimp only; exact Kd.own_blk (Kd.R_ne HO325.out BK330.out (by decide)))) _).trans (hHeld.1)))))), ((cell_far (p := ⟨gb330, _, none⟩) (by first | exact Kd.own_blk (Kd.R_ne HO325.out BK330.out (by decide)) | (rw [add_block]; exact Kd.own_blk (Kd.R_ne HO325.out BK330.out (by decide))) | (show (Addr.add _ _).block ≠ _; rw [add_block]; exact Kd.own_blk (Kd.R_ne HO325.out BK330.out (by decide))) | (dsimp only; exact Kd.own_blk (Kd.R_ne HO325.out BK330.out (by decide)))) _).trans (((cell_far (p := ⟨gb330, _, none⟩) (by first | exact Kd.own_blk (Kd.R_ne HO325.out BK330.out (by decide)) | (rw [add_block]; exact Kd.own_blk (Kd.R_ne HO325.out BK330.out (by decide))) | (show (Addr.add _ _).block ≠ _; rw [add_block]; exact Kd.own_blk (Kd.R_ne HO325.out BK330.out (by decide))) | (dsimp only; exact Kd.own_blk (Kd.R_ne HO325.out BK330.out (by decide)))) _).trans (((cell_far (p := ⟨gb330, _, none⟩) (by first | exact Kd.own_blk (Kd.R_ne HO325.out BK330.out (by decide)) | (rw [add_block]; exact Kd.own_blk (Kd.R_ne HO325.out BK330.out (by decide))) | (show (Addr.add _ _).block ≠ _; rw [add_block]; exact Kd.own_blk (Kd.R_ne HO325.out BK330.out (by decide))) | (dsimp only; exact Kd.own_blk (Kd.R_ne HO325.out BK330.out (by decide)))) _).trans (hHeld.2))))))⟩ (fun hHeld => ?_)
                      clear hK K
                      refine done_ (done_of HT_.out (by kernel_rfl)) ?_
                      have p331 : 0 ≤ (1 : Int) := (by omega)
                      have q331 : 1 < (t319.length : Int) := of_decide_eq_true (by first | (with_reducible assumption) | assumption)
                      obtain ⟨ad331, e331, hx331_0⟩ := Kd.at_string (Kd.R_reads' HO_4.out).2.2 1 p331 q331
                      obtain rfl : ad322 = ad331 := (by injection e331)
                      (try simp only [show (1 : Int).toNat = 1 from rfl, Nat.reduceMul, Nat.reduceEqDiff, Go.Addr.add, ↓reduceIte] at hx331_0)
                      have qi331 : (1 < t319.length) = True := eq_true (by omega)
                      (try rw [show ((1 : Int)).toNat = 1 from rfl] at hx331_0)
                      have hn331_0 : ad322.block ≠ gb330 := Kd.own_blk (Kd.R_ne HO_4.out BK330.out (by decide))
                      have hn331_1 : ad322.block ≠ gb330 := Kd.own_blk (Kd.R_ne HO_4.out BK330.out (by decide))
                      have hn331_2 : ad322.block ≠ gb330 := Kd.own_blk (Kd.R_ne HO_4.out BK330.out (by decide))
                      replace hx331_0 := (cell_far (p := ⟨gb330, 0, none⟩) (by first | (rw [add_block]; exact hn331_0) | (show (Addr.add _ _).block ≠ _; rw [add_block]; exact hn331_0) | exact hn331_0) (.int .i64 t327)).trans hx331_0
                      replace hx331_0 := (cell_far (p := ⟨gb330, 1, none⟩) (by first | (rw [add_block]; exact hn331_1) | (show (Addr.add _ _).block ≠ _; rw [add_block]; exact hn331_1) | exact hn331_1) (.int .i64 t329)).trans hx331_0
                      replace hx331_0 := (cell_far (p := ⟨gb330, 2, none⟩) (by first | (rw [add_block]; exact hn331_2) | (show (Addr.add _ _).block ≠ _; rw [add_block]; exact hn331_2) | exact hn331_2) (.slice none 0 0)).trans hx331_0
                      clear hn331_0
                      clear hn331_1
                      clear hn331_2
                      replace p331 := eq_true p331
                      replace q331 := eq_true q331
                      try go_wp2
                      have n0_ : Aside0 (Kd.R Kd.string 9 (((w93.setCell ⟨gb330, 0, none⟩ (.int .i64 t327)).setCell ⟨gb330, 1, none⟩ (.int .i64 t329)).setCell ⟨gb330, 2, none⟩ (.slice none 0 0)) w.heap.size (fun k_ => some k_ ≠ (.slice (some ad326) t323.length co90 : Value).ownBlock) (.slice (some ad322) t319.length co88) t319) := ⟨by (with_reducible repeat (first | apply Kd.R_alloc | apply Kd.R_drewN | apply Kd.R_drew)); exact Kd.R_mono (Kd.R_far (p := ⟨gb330, 2, none⟩) (Kd.R_far (p := ⟨gb330, 1, none⟩) (Kd.R_far (p := ⟨gb330, 0, none⟩) (Kd.R_types HO_4.out BK330.out (by decide)) (fun _ hk => hk.2) (.int .i64 t327)) (fun _ hk => hk.2) (.int .i64 t329)) (fun _ hk => hk.2) (.slice none 0 0)) (fun _ hk => hk.1)⟩
                      have n1_ : Aside0 (Kd.R Kd.string 9 (((w93.setCell ⟨gb330, 0, none⟩ (.int .i64 t327)).setCell ⟨gb330, 1, none⟩ (.int .i64 t329)).setCell ⟨gb330, 2, none⟩ (.slice none 0 0)) w.heap.size (fun k_ => some k_ ≠ (.slice (some ad322) t319.length co88 : Value).ownBlock) (.slice (some ad326) t323.length co90) t323) := ⟨by (with_reducible repeat (first | apply Kd.R_alloc | apply Kd.R_drewN | apply Kd.R_drew)); exact Kd.R_mono (Kd.R_far (p := ⟨gb330, 2, none⟩) (Kd.R_far (p := ⟨gb330, 1, none⟩) (Kd.R_far (p := ⟨gb330, 0, none⟩) (Kd.R_types HO325.out BK330.out (by decide)) (fun _ hk => hk.2) (.int .i64 t327)) (fun _ hk => hk.2) (.int .i64 t329)) (fun _ hk => hk.2) (.slice none 0 0)) (fun _ hk => hk.1)⟩
                      have n2_ : Aside0 ((((w93.setCell ⟨gb330, 0, none⟩ (.int .i64 t327)).setCell ⟨gb330, 1, none⟩ (.int .i64 t329)).setCell ⟨gb330, 2, none⟩ (.slice none 0 0)).heap[gb318]? = some (.cells #[.int .i64 0, .int .i64 0, .slice none 0 0] 42 (0, 0))) := ⟨by (with_reducible repeat (first | refine kn_ ?_ _ | refine blk_drew ?_ | refine ka_ ?_ _)); refine blk_far ?_ NB318_330.out _; (with_reducible repeat (first | refine kn_ ?_ _ | refine blk_drew ?_ | refine ka_ ?_ _)); refine blk_far ?_ NB318_330.out _; (with_reducible repeat (first | refine kn_ ?_ _ | refine blk_drew ?_ | refine ka_ ?_ _)); refine blk_far ?_ NB318_330.out _; (with_reducible repeat (first | refine kn_ ?_ _ | refine blk_drew ?_ | refine ka_ ?_ _)); exact BK318.out⟩
                      have n3_ : Aside0 ((((w93.setCell ⟨gb330, 0, none⟩ (.int .i64 t327)).setCell ⟨gb330, 1, none⟩ (.int .i64 t329)).setCell ⟨gb330, 2, none⟩ (.slice none 0 0)).heap[gb330]? = some (.cells #[.int .i64 t327, .int .i64 t329, .slice none 0 0] 42 (0, 0))) := ⟨by (with_reducible repeat (first | refine kn_ ?_ _ | refine blk_drew ?_ | refine ka_ ?_ _)); refine blk_put (cs := #[.int .i64 t327, .int .i64 t329, .slice none 0 0]) ?_ 2 _ rfl; (with_reducible repeat (first | refine kn_ ?_ _ | refine blk_drew ?_ | refine ka_ ?_ _)); refine blk_put (cs := #[.int .i64 t327, .int .i64 0, .slice none 0 0]) ?_ 1 _ rfl; (with_reducible repeat (first | refine kn_ ?_ _ | refine blk_drew ?_ | refine ka_ ?_ _)); refine blk_put (cs := #[.int .i64 0, .int .i64 0, .slice none 0 0]) ?_ 0 _ rfl; (with_reducible repeat (first | refine kn_ ?_ _ | refine blk_drew ?_ | refine ka_ ?_ _)); exact BK330.out⟩
                      have n4_ : Aside0 (Below w.heap.size w (((w93.setCell ⟨gb330, 0, none⟩ (.int .i64 t327)).setCell ⟨gb330, 1, none⟩ (.int .i64 t329)).setCell ⟨gb330, 2, none⟩ (.slice none 0 0))) := ⟨by repeat (first | (with_reducible first | exact HB.out | apply ba_ | apply bn_ | apply bd_ | refine bs_ ?_ GE318.out | refine bs_ ?_ GE330.out) | exact HB.out)⟩
                      (try clear HO_4)
                      (try clear HO325)
                      (try clear BK318)
                      (try clear BK330)
                      (try clear HB)
                      generalize (((w93.setCell ⟨gb330, 0, none⟩ (.int .i64 t327)).setCell ⟨gb330, 1, none⟩ (.int .i64 t329)).setCell ⟨gb330, 2, none⟩ (.slice none 0 0)) = w97 at n0_ n1_ n2_ n3_ n4_ ⊢
                      have HO_4 := n0_
                      have HO325 := n1_
                      have BK318 := n2_
                      have BK330 := n3_
                      have HB := n4_
                      clear n0_ n1_ n2_ n3_ n4_
                      have n0_ := amk (Kd.R_drew HO_4.out)
                      have n1_ := amk (Kd.R_drew HO325.out)
                      have n2_ := amk (blk_drew BK318.out)
                      have n3_ := amk (blk_drew BK330.out)
                      have n4_ := amk (bd_ HB.out)
                      clear HO_4
                      clear HO325
                      clear BK318
                      clear BK330
                      clear HB
                      have HO_4 := n0_
                      have HO325 := n1_
                      have BK318 := n2_
                      have BK330 := n3_
                      have HB := n4_
                      clear n0_ n1_ n2_ n3_ n4_
                      refine start_ (n := 11) (S := fun w' => w'.cell? ⟨gb330, 0, none⟩ = some (.int .i64 t327) ∧ w'.cell? ⟨gb330, 1, none⟩ = some (.int .i64 t329) ∧ w'.cell? ⟨gb330, 2, none⟩ = some (.slice none 0 0)) (ds := []) #[false, false, false, false, false, false, false, false, false, false, false] (by kernel_rfl) rfl rfl ⟨(blk_cell BK330.out 0).trans rfl, (blk_cell BK330.out 1).trans rfl, (blk_cell BK330.out 2).trans rfl⟩ (fun hHeld => ?_); refine with_tabW spec_pzParse.tab17 spec_pzParse.bits17 (fun HT_ HW_ => ?_)
                      generalize w97.drew = w98 at HO_4 HO325 BK318 BK330 HB hHeld ⊢
                      refine take_ (i := 0) (N := some 78) (v := ?_) (a' := ?_) #[true, false, false, false, false, false, false, false, false, false, false] rfl rfl (take_ofW HT_.out HW_.out (by kernel_rfl)) (fun _ _ _ h => h) (Or.inl ⟨by rfl, ?_⟩) hHeld ?_ ?_
                      rotate_left
                      · rintro w' ⟨s0, s1, s2⟩
                        go_simp
                        with_reducible rfl
                      rotate_left
                      · simp only [Act.put, List.setIfInBounds_toArray, List.set_cons_zero, List.set_cons_succ, i64_w, i32_w]
                        rfl
                      refine take_ (i := 1) (N := some 79) (v := ?_) (a' := ?_) #[true, true, false, false, false, false, false, false, false, false, false] rfl rfl (take_ofW HT_.out HW_.out (by kernel_rfl)) (fun _ _ _ h => h) (Or.inl ⟨by rfl, ?_⟩) hHeld ?_ ?_
                      rotate_left
                      · rintro w' ⟨s0, s1, s2⟩
                        go_simp
                        with_reducible rfl
                      rotate_left
                      · simp only [Act.put, List.setIfInBounds_toArray, List.set_cons_zero, List.set_cons_succ, i64_w, i32_w]
                        rfl
                      refine one_ (i := 2) (N := some 80) #[true, true, true, false, false, false, false, false, false, false, false] rfl rfl (one_of HT_.out (by kernel_rfl)) (by decide) (fun K hK => ?_)
                      refine goes_ Tryd.func33 (by kernel_rfl) rfl #[.agg #[.int .i64 t327, .int .i64 t329, .slice none 0 0]] (by rfl) rfl rfl (by (try simp only [List.map_toArray, List.map_cons, List.map_nil]); first | done | rfl | (simp only [List.length_drop, List.length_take]; rfl)) ?_
                      refine (spec_pzGood.calls kj2 t327 t329 _ _ ([] : List (S77)) false _ ?side1 ?side2 A69.out).mono ?_
                      (case side1 => exact Kd.C_nil _ _)
                      (case side2 => exact Nat.le_refl _)
                      rintro e w99 ⟨rfl, hb⟩
                      refine ⟨_, rfl, ?_⟩
                      have n0_ := amk (Kd.R_below (by (with_reducible repeat (first | apply Kd.R_alloc | apply Kd.R_drewN | apply Kd.R_drew)); exact HO_4.out) hb)
                      have n1_ := amk (Kd.R_below (by (with_reducible repeat (first | apply Kd.R_alloc | apply Kd.R_drewN | apply Kd.R_drew)); exact HO325.out) hb)
                      have n2_ := amk (blk_below (g := gb318) (o := .cells #[.int .i64 0, .int .i64 0, .slice none 0 0] 42 (0, 0)) (by (with_reducible repeat (first | refine kn_ ?_ _ | refine blk_drew ?_ | refine ka_ ?_ _)); exact BK318.out) hb)
                      have n3_ := amk (blk_below (g := gb330) (o := .cells #[.int .i64 t327, .int .i64 t329, .slice none 0 0] 42 (0, 0)) (by (with_reducible repeat (first | refine kn_ ?_ _ | refine blk_drew ?_ | refine ka_ ?_ _)); exact BK330.out) hb)
                      have n4_ := amk (bp_ (by repeat (first | (with_reducible first | exact HB.out | apply ba_ | apply bn_ | apply bd_ | refine bs_ ?_ GE318.out | refine bs_ ?_ GE330.out) | exact HB.out)) hb)
                      clear HO_4
                      clear HO325
                      clear BK318
                      clear BK330
                      clear HB
                      have HO_4 := n0_
                      have HO325 := n1_
                      have BK318 := n2_
                      have BK330 := n3_
                      have HB := n4_
                      clear n0_ n1_ n2_ n3_ n4_
                      (try clear hb)
                      (try clear hb2)
                      (try clear hk)
                      (try clear hi)
                      refine hK.out _ _ ⟨(blk_cell BK330.out 0).trans rfl, (blk_cell BK330.out 1).trans rfl, (blk_cell BK330.out 2).trans rfl⟩ (fun hHeld => ?_)
                      clear hK K
                      refine norm_ (a' := ?_) ?_ ?_
                      rotate_left
                      · show Act.put _ (some 80) _ = _
                        simp only [Act.put, List.setIfInBounds_toArray, List.set_cons_zero, List.set_cons_succ, i64_w, i32_w]
                        rfl
                      refine pure_ (i := 3) (N := some 81) (v := ?_) (a' := ?_) #[true, true, true, true, false, false, false, false, false, false, false] rfl rfl (any_of HT_.out (by kernel_rfl)) (fun _ _ _ h => h) (Or.inl ⟨by rfl, ?_⟩) ?_ ?_
                      rotate_left
                      · intro w'
                        go_simp
                        with_reducible rfl
                      rotate_left
                      · simp only [Act.put, List.setIfInBounds_toArray, List.set_cons_zero, List.set_cons_succ, i64_w, i32_w]
                        rfl
                      refine pure_ (i := 4) (N := some 82) (v := undef) (a' := ?_) #[true, true, true, true, true, false, false, false, false, false, false] rfl rfl (any_of HT_.out (by kernel_rfl)) (fun _ _ _ h => h) (Or.inr ⟨by rfl, rfl⟩) ?_ ?_
                      rotate_left
                      · simp only [Act.put, List.setIfInBounds_toArray, List.set_cons_zero, List.set_cons_succ, i64_w, i32_w]
                        rfl
                      refine pure_ (i := 5) (N := some 83) (v := undef) (a' := ?_) #[true, true, true, true, true, true, false, false, false, false, false] rfl rfl (any_of HT_.out (by kernel_rfl)) (fun _ _ _ h => h) (Or.inr ⟨by rfl, rfl⟩) ?_ ?_
                      rotate_left
                      · simp only [Act.put, List.setIfInBounds_toArray, List.set_cons_zero, List.set_cons_succ, i64_w, i32_w]
                        rfl
                      refine pure_ (i := 6) (N := some 84) (v := undef) (a' := ?_) #[true, true, true, true, true, true, true, false, false, false, false] rfl rfl (any_of HT_.out (by kernel_rfl)) (fun _ _ _ h => h) (Or.inr ⟨by rfl, rfl⟩) ?_ ?_
                      rotate_left
                      · simp only [Act.put, List.setIfInBounds_toArray, List.set_cons_zero, List.set_cons_succ, i64_w, i32_w]
                        rfl
                      refine pure_ (i := 7) (N := some 85) (v := undef) (a' := ?_) #[true, true, true, true, true, true, true, true, false, false, false] rfl rfl (any_of HT_.out (by kernel_rfl)) (fun _ _ _ h => h) (Or.inr ⟨by rfl, rfl⟩) ?_ ?_
                      rotate_left
                      · simp only [Act.put, List.setIfInBounds_toArray, List.set_cons_zero, List.set_cons_succ, i64_w, i32_w]
                        rfl
                      refine pure_ (i := 8) (N := some 86) (v := ?_) (a' := ?_) #[true, true, true, true, true, true, true, true, true, false, false] rfl rfl (any_of HT_.out (by kernel_rfl)) (fun _ _ _ h => h) (Or.inl ⟨by rfl, ?_⟩) ?_ ?_
                      rotate_left
                      · intro w'
                        go_simp
                        with_reducible rfl
                      rotate_left
                      · simp only [Act.put, List.setIfInBounds_toArray, List.set_cons_zero, List.set_cons_succ, i64_w, i32_w]
                        rfl
                      refine one_ (i := 9) (N := none) #[true, true, true, true, true, true, true, true, true, true, false] rfl rfl (one_of HT_.out (by kernel_rfl)) (by decide) (fun K hK => ?_)
                      have hs100 : w99.cell? ⟨gb318, 0, none⟩ = some (.int .i64 0) := (blk_cell BK318.out 0).trans rfl
                      have hfs100 := blk_frozen BK318.out 0
                      have hns100_1 := NB330_318.out
                      have hms100_1 := NB318_330.out
                      have hs101 : w99.cell? ⟨gb318, 1, none⟩ = some (.int .i64 0) := (blk_cell BK318.out 1).trans rfl
                      have hfs101 := blk_frozen BK318.out 1
                      have hns101_1 := NB330_318.out
                      have hms101_1 := NB318_330.out
                      have hs102 : w99.cell? ⟨gb318, 2, none⟩ = some (.slice none 0 0) := (blk_cell BK318.out 2).trans rfl
                      have hfs102 := blk_frozen BK318.out 2
                      have hns102_1 := NB330_318.out
                      have hms102_1 := NB318_330.out
                      refine skip_ (w1 := ?_) (by rfl) rfl ?_ ?_
                      rotate_left
                      · go_simp
                        rfl
                      refine hK.out _ _ ⟨((cell_far (p := ⟨gb318, _, none⟩) NB330_318.out _).trans (((cell_far (p := ⟨gb318, _, none⟩) NB330_318.out _).trans (((cell_far (p := ⟨gb318, _, none⟩) NB330_318.out _).trans (hHeld.1)))))), ((cell_far (p := ⟨gb318, _, none⟩) NB330_318.out _).trans (((cell_far (p := ⟨gb318, _, none⟩) NB330_318.out _).trans (((cell_far (p := ⟨gb318, _, none⟩) NB330_318.out _).trans (hHeld.2.1)))))), ((cell_far (p := ⟨gb318, _, none⟩) NB330_318.out _).trans (((cell_far (p := ⟨gb318, _, none⟩) NB330_318.out _).trans (((cell_far (p := ⟨gb318, _, none⟩) NB330_318.out _).trans (hHeld.2.2))))))⟩ (fun hHeld => ?_)
                      clear hK K
                      refine pure_ (i := 10) (N := some 3) (v := ?_) (a' := ?_) #[true, true, true, true, true, true, true, true, true, true, true] rfl rfl (any_of HT_.out (by kernel_rfl)) (fun _ _ _ h => h) (Or.inl ⟨by rfl, ?_⟩) ?_ ?_
                      rotate_left
                      · intro w'
                        go_simp
                        with_reducible rfl
                      rotate_left
                      · simp only [Act.put, List.setIfInBounds_toArray, List.set_cons_zero, List.set_cons_succ, i64_w, i32_w]
                        rfl
                      refine done_ (done_of HT_.out (by kernel_rfl)) ?_
                      try go_wp2
                      refine bodyPost_ret (results_ct rfl _ _ gb318 42 #[.int .i64 t327, .int .i64 t329, .slice none 0 0] (0, 0) _ rfl (by (with_reducible repeat (first | refine kn_ ?_ _ | refine blk_drew ?_ | refine ka_ ?_ _)); refine blk_put (cs := #[.int .i64 t327, .int .i64 t329, .slice none 0 0]) ?_ 2 _ rfl; (with_reducible repeat (first | refine kn_ ?_ _ | refine blk_drew ?_ | refine ka_ ?_ _)); refine blk_put (cs := #[.int .i64 t327, .int .i64 0, .slice none 0 0]) ?_ 1 _ rfl; (with_reducible repeat (first | refine kn_ ?_ _ | refine blk_drew ?_ | refine ka_ ?_ _)); refine blk_put (cs := #[.int .i64 0, .int .i64 0, .slice none 0 0]) ?_ 0 _ rfl; (with_reducible repeat (first | refine kn_ ?_ _ | refine blk_drew ?_ | refine ka_ ?_ _)); exact BK318.out) Tryd.underlying42 rfl (by kernel_rfl)) rfl ?_
                      exact ⟨_, by first | rfl | (simp [errW_none, errW_some] <;> rfl) | (simp [*, errW_none, errW_some] <;> rfl), by first | exact Kd.R_nil _ _ _ _ _ | exact Kd.N_nil _ _ _ _ _ | exact Kd.V_nil _ _ _ _ _ | exact Kd.Q_nil _ _ _ _ _ | exact Kd.S_nil _ _ _ _ _, by repeat (first | (with_reducible first | exact HB.out | apply ba_ | apply bn_ | apply bd_ | refine bs_ ?_ GE318.out | refine bs_ ?_ GE330.out) | exact HB.out)⟩
                · rw [if_neg c17] at H
                  exact absurd H (by simp)
              · rw [if_neg c15] at H
                exact absurd H (by simp)
            · rw [if_neg c13] at H
              exact absurd H (by simp)
          · rw [if_neg c12] at H
            have c12b0 : ((t323.length : Int) == 2) = false := beq_eq_false_iff_ne.mpr c12
            have c12b1 : ((t323.length : Int) != 2) = true := bne_iff_ne.mpr c12
            simp only [Option.some.injEq, Prod.mk.injEq] at H
            obtain ⟨rfl, rfl, rfl, rfl⟩ := H
            obtain ⟨Ao103, co103, eo103⟩ := Kd.R_slice HO_4.out
            subst eo103
            have p322 : 0 ≤ (0 : Int) := (by omega)
            have q322 : 0 < (t319.length : Int) := of_decide_eq_true (by first | (with_reducible assumption) | assumption)
            obtain ⟨ad322, e322, hx322_0⟩ := Kd.at_string (Kd.R_reads' HO_4.out).2.2 0 p322 q322
            cases e322
            have qi322 : (0 < t319.length) = True := eq_true (by omega)
            (try rw [show ((0 : Int)).toNat = 0 from rfl] at hx322_0)
            (try rw [Addr.add_zero'] at hx322_0)
            replace p322 := eq_true p322
            replace q322 := eq_true q322
            go_wp2_with (first | ((with_reducible refine gate_callee (f := 75) rfl ?_); refine goesL_ (some 24) rfl rfl Tryd.func75 (by kernel_rfl) rfl #[.string (rdOf ByteArray.empty t319 0), .int .u8 120] rfl (by (try simp only [List.map_toArray, List.map_cons, List.map_nil]); first | done | rfl | (simp only [List.length_drop, List.length_take]; rfl)) ?_; (with_reducible refine (spec_l1Split.calls kj2 (rdOf ByteArray.empty t319 0) 120 t323 _ A11.out).mono ?_); rintro e w104 ⟨v324, rfl, ho0, hb⟩; refine ⟨_, rfl, ?_⟩; have n0_ := amk (Kd.R_elder' (by (with_reducible repeat (first | apply Kd.R_alloc | apply Kd.R_drewN | apply Kd.R_drew)); exact HO_4.out) (Kd.R_base ho0) hb); have n1_ := amk (Kd.R_lower (Kd.R_new' ho0 (Kd.R_lt (by (with_reducible repeat (first | apply Kd.R_alloc | apply Kd.R_drewN | apply Kd.R_drew)); exact HO_4.out))) (below_size (by repeat (first | (with_reducible first | exact HB.out | apply ba_ | apply bn_ | apply bd_ | refine bs_ ?_ GE318.out) | exact HB.out)))); have n2_ := amk (blk_below (g := gb318) (o := .cells #[.int .i64 0, .int .i64 0, .slice none 0 0] 42 (0, 0)) (by (with_reducible repeat (first | refine kn_ ?_ _ | refine blk_drew ?_ | refine ka_ ?_ _)); exact BK318.out) hb); have n3_ := amk (bp_ (by repeat (first | (with_reducible first | exact HB.out | apply ba_ | apply bn_ | apply bd_ | refine bs_ ?_ GE318.out) | exact HB.out)) hb); clear HO_4; clear BK318; clear HB; have HO_4 := n0_; have HO325 := n1_; have BK318 := n2_; have HB := n3_; clear n0_ n1_ n2_ n3_; (try clear hb); (try clear hb2); (try clear hk); (try clear hi); (try clear ho0); obtain ⟨Ao105, co105, eo105⟩ := Kd.R_slice HO325.out; subst eo105; have hcz106_0 : w104.cell? ⟨gb318, 0, none⟩ = some (.int .i64 0) := (blk_cell BK318.out 0).trans rfl; have hcz106_1 : w104.cell? ⟨gb318, 1, none⟩ = some (.int .i64 0) := (blk_cell BK318.out 1).trans rfl; have hcz106_2 : w104.cell? ⟨gb318, 2, none⟩ = some (.slice none 0 0) := (blk_cell BK318.out 2).trans rfl; have hfz106_0 := blk_frozen BK318.out 0; have hfz106_1 := blk_frozen BK318.out 1; have hfz106_2 := blk_frozen BK318.out 2))
            refine bodyPost_ret (results_ct rfl _ _ gb318 42 #[.int .i64 0, .int .i64 0, .slice none 0 0] (0, 0) _ rfl (by (with_reducible repeat (first | refine kn_ ?_ _ | refine blk_drew ?_ | refine ka_ ?_ _)); refine blk_put (cs := #[.int .i64 0, .int .i64 0, .slice none 0 0]) ?_ 2 _ rfl; (with_reducible repeat (first | refine kn_ ?_ _ | refine blk_drew ?_ | refine ka_ ?_ _)); refine blk_put (cs := #[.int .i64 0, .int .i64 0, .slice none 0 0]) ?_ 1 _ rfl; (with_reducible repeat (first | refine kn_ ?_ _ | refine blk_drew ?_ | refine ka_ ?_ _)); refine blk_put (cs := #[.int .i64 0, .int .i64 0, .slice none 0 0]) ?_ 0 _ rfl; (with_reducible repeat (first | refine kn_ ?_ _ | refine blk_drew ?_ | refine ka_ ?_ _)); exact BK318.out) Tryd.underlying42 rfl (by kernel_rfl)) rfl ?_
            exact ⟨_, by first | rfl | (simp [errW_none, errW_some] <;> rfl) | (simp [*, errW_none, errW_some] <;> rfl), by first | exact Kd.R_nil _ _ _ _ _ | exact Kd.N_nil _ _ _ _ _ | exact Kd.V_nil _ _ _ _ _ | exact Kd.Q_nil _ _ _ _ _ | exact Kd.S_nil _ _ _ _ _, by repeat (first | (with_reducible first | exact HB.out | apply ba_ | apply bn_ | apply bd_ | refine bs_ ?_ GE318.out) | exact HB.out)⟩
        · rw [if_neg c10] at H
          exact absurd H (by simp)
end Go.Proofs.YthhobofmfjdgbaaDoor.P