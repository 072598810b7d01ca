import Derived.Test.YtcnjiffoghganaaKFnExactCountSharedA0
import Derived.Test.YtcnjiffoghganaaKFnExactCountSharedA1
import Derived.ProofKit
import Derived.Lib.SmallJoins
import Derived.Deep.Slices
namespace Go.Proofs.Ytcnjiffoghganaa.P
open Go.RowKit Go.Proofs.YtcnjiffoghganaaW.PrintWords Go.Proofs.YtcnjiffoghganaaW.PrintLast Go.Proofs.YtcnjiffoghganaaW.PrintMore
attribute [local go_sem] max2_int min2_int max_two min_two max_three min_three max_four min_four
set_option linter.unusedVariables false
set_option linter.unusedSimpArgs false
/-! ### laws_FnExactCountShared: function 7 -/
def laws_FnExactCountShared.j0 : Nat → List (S37) → List (S41) → Bool → Option (Bool)
  | 0, _, _, _ => none
  | k + 1, x0, x6, x34 => if x34 = true then (some false) else ((laws_toPinsS.f k x0).bind fun t570 => ((laws_eqPinsS.f k x6 t570).bind fun t573 => (if t573 = true then (some true) else (some false))))
def laws_FnExactCountShared.f (k : Nat) (l0 : List (S37)) : Option (Bool) := (laws_szPinsS.f k l0 1048576).bind fun t559 => (if t559 < 0 then (some true) else ((laws_toPinsS.f k l0).bind fun t560 => ((spec_CountShared.f k t560).bind fun bt563 => ((laws_toPinsS.f k l0).bind fun t565 => ((impl_CountShared.f k t565).bind fun bt568 => (if bt568.1 = bt563.1 then (laws_FnExactCountShared.j0 k l0 t565 (bt568.2 != bt563.2)) else (laws_FnExactCountShared.j0 k l0 t565 true)))))))
set_option maxHeartbeats 8000000 in
set_option maxRecDepth 100000 in
theorem laws_FnExactCountShared.calls (k : Nat) (A0 : Option Addr) (c0 : Nat) (l0 : List (S37)) (r : Bool) (w : World) (hr0 : Kd.C k37 w A0 l0.length l0) (hc0 : l0.length ≤ c0) (h : laws_FnExactCountShared.f k l0 = some r) :
    Calls Try.prog 7 #[.slice A0 l0.length c0] w fun e w' => e = .returned (.bool r) ∧ Below w.heap.size w w' := by
  have HR0 := amk hr0
  have HC0 := amk hc0
  clear hr0 hc0
  have HB := amk (Below.refl w.heap.size w)
  have H : ((laws_szPinsS.f k l0 1048576).bind fun t559 => (if t559 < 0 then (some true) else ((laws_toPinsS.f k l0).bind fun t560 => ((spec_CountShared.f k t560).bind fun bt563 => ((laws_toPinsS.f k l0).bind fun t565 => ((impl_CountShared.f k t565).bind fun bt568 => (if bt568.1 = bt563.1 then (laws_FnExactCountShared.j0 k l0 t565 (bt568.2 != bt563.2)) else (laws_FnExactCountShared.j0 k l0 t565 true)))))))) = some r := h
  clear h
  replace H := Option.bind_eq_some_iff.mp H
  obtain ⟨t559, A20, H⟩ := H
  replace H : (if t559 < 0 then (some true) else ((laws_toPinsS.f k l0).bind fun t560 => ((spec_CountShared.f k t560).bind fun bt563 => ((laws_toPinsS.f k l0).bind fun t565 => ((impl_CountShared.f k t565).bind fun bt568 => (if bt568.1 = bt563.1 then (laws_FnExactCountShared.j0 k l0 t565 (bt568.2 != bt563.2)) else (laws_FnExactCountShared.j0 k l0 t565 true))))))) = some r := H
  have A2 := amk A20
  clear A20
  by_cases c3 : t559 < 0
  · rw [if_pos c3] at H
    have c3b0 : decide (t559 < 0) = true := decide_eq_true c3
    clear c3
    obtain rfl := Option.some.inj H
    go_enter Try.func7, Try.ntmps7
    go_wp2_with (first | ((with_reducible refine gate_callee (f := 34) rfl ?_); refine goesL_ (some 11) rfl rfl Try.func34 (by kernel_rfl) rfl #[.slice A0 l0.length c0, .int .i64 1048576] rfl (by (try simp only [List.map_toArray, List.map_cons, List.map_nil]); first | done | rfl | (simp only [List.length_drop, List.length_take]; rfl)) ?_; (with_reducible refine (laws_szPinsS.calls k _ _ l0 1048576 t559 _ ?side1 ?side2 A2.out).mono ?_); (case side1 => repeat (first | exact HR0.out | (with_reducible refine Kd.C_alloc ?_ _) | (with_reducible refine Kd.C_drewN ?_ _) | (with_reducible refine Kd.C_drew ?_))); (case side2 => exact HC0.out); rintro e w4 ⟨rfl, hb⟩; refine ⟨_, rfl, ?_⟩; have n0_ := amk (bp_ (by repeat (first | (with_reducible first | exact HB.out | apply ba_ | apply bn_ | apply bd_) | exact HB.out)) hb); clear HB; have HB := n0_; clear n0_; (try clear hb); (try clear hb2); (try clear hk); (try clear hi)))
    go_ret
    exact ⟨by first | rfl | (simp [errW_none, errW_some] <;> rfl) | (simp [*, errW_none, errW_some] <;> rfl), by repeat (first | (with_reducible first | exact HB.out | apply ba_ | apply bn_ | apply bd_) | exact HB.out)⟩
  · rw [if_neg c3] at H
    have c3b0 : decide (t559 < 0) = false := decide_eq_false c3
    clear c3
    replace H := Option.bind_eq_some_iff.mp H
    obtain ⟨t560, A50, H⟩ := H
    replace H : ((spec_CountShared.f k t560).bind fun bt563 => ((laws_toPinsS.f k l0).bind fun t565 => ((impl_CountShared.f k t565).bind fun bt568 => (if bt568.1 = bt563.1 then (laws_FnExactCountShared.j0 k l0 t565 (bt568.2 != bt563.2)) else (laws_FnExactCountShared.j0 k l0 t565 true))))) = some r := H
    have A5 := amk A50
    clear A50
    replace H := Option.bind_eq_some_iff.mp H
    obtain ⟨⟨t563, t564⟩, A60, H⟩ := H
    replace H : ((laws_toPinsS.f k l0).bind fun t565 => ((impl_CountShared.f k t565).bind fun bt568 => (if bt568.1 = t563 then (laws_FnExactCountShared.j0 k l0 t565 (bt568.2 != t564)) else (laws_FnExactCountShared.j0 k l0 t565 true)))) = some r := H
    have A6 := amk A60
    clear A60
    replace H := Option.bind_eq_some_iff.mp H
    obtain ⟨t565, A70, H⟩ := H
    replace H : ((impl_CountShared.f k t565).bind fun bt568 => (if bt568.1 = t563 then (laws_FnExactCountShared.j0 k l0 t565 (bt568.2 != t564)) else (laws_FnExactCountShared.j0 k l0 t565 true))) = some r := H
    have A7 := amk A70
    clear A70
    replace H := Option.bind_eq_some_iff.mp H
    obtain ⟨⟨t568, t569⟩, A80, H⟩ := H
    replace H : (if t568 = t563 then (laws_FnExactCountShared.j0 k l0 t565 (t569 != t564)) else (laws_FnExactCountShared.j0 k l0 t565 true)) = some r := H
    have A8 := amk A80
    clear A80
    have HC9 := amk H
    clear H
    go_enter Try.func7, Try.ntmps7
    go_upto_region 8 with (first | ((with_reducible refine gate_callee (f := 34) rfl ?_); refine goesL_ (some 11) rfl rfl Try.func34 (by kernel_rfl) rfl #[.slice A0 l0.length c0, .int .i64 1048576] rfl (by (try simp only [List.map_toArray, List.map_cons, List.map_nil]); first | done | rfl | (simp only [List.length_drop, List.length_take]; rfl)) ?_; (with_reducible refine (laws_szPinsS.calls k _ _ l0 1048576 t559 _ ?side1 ?side2 A2.out).mono ?_); (case side1 => repeat (first | exact HR0.out | (with_reducible refine Kd.C_alloc ?_ _) | (with_reducible refine Kd.C_drewN ?_ _) | (with_reducible refine Kd.C_drew ?_))); (case side2 => exact HC0.out); rintro e w10 ⟨rfl, hb⟩; refine ⟨_, rfl, ?_⟩; have n0_ := amk (bp_ (by repeat (first | (with_reducible first | exact HB.out | apply ba_ | apply bn_ | apply bd_) | exact HB.out)) hb); clear HB; have HB := n0_; clear n0_; (try clear hb); (try clear hb2); (try clear hk); (try clear hi)) | ((with_reducible refine gate_callee (f := 36) rfl ?_); refine goesL_ (some 16) rfl rfl Try.func36 (by kernel_rfl) rfl #[.slice A0 l0.length c0] rfl (by (try simp only [List.map_toArray, List.map_cons, List.map_nil]); first | done | rfl | (simp only [List.length_drop, List.length_take]; rfl)) ?_; (with_reducible refine (laws_toPinsS.calls k _ _ l0 t560 _ ?side1 ?side2 A5.out).mono ?_); (case side1 => repeat (first | exact (Kd.C_below HR0.out HB.out) | (with_reducible refine Kd.C_alloc ?_ _) | (with_reducible refine Kd.C_drewN ?_ _) | (with_reducible refine Kd.C_drew ?_))); (case side2 => exact HC0.out); rintro e w11 ⟨v561, rfl, ho0, hb⟩; refine ⟨_, rfl, ?_⟩; have n0_ := amk (Kd.R_lower ho0 (below_size (by repeat (first | (with_reducible first | exact HB.out | apply ba_ | apply bn_ | apply bd_) | exact HB.out)))); have n1_ := amk (bp_ (by repeat (first | (with_reducible first | exact HB.out | apply ba_ | apply bn_ | apply bd_) | exact HB.out)) hb); clear HB; have HO562 := n0_; have HB := n1_; clear n0_ n1_; (try clear hb); (try clear hb2); (try clear hk); (try clear hi); (try clear ho0); obtain ⟨Ao12, co12, eo12⟩ := Kd.R_slice HO562.out; subst eo12) | ((with_reducible refine gate_callee (f := 35) rfl ?_); refine goesL_ (some 17) rfl rfl Try.func35 (by kernel_rfl) rfl #[.slice Ao12 t560.length co12] rfl (by (try simp only [List.map_toArray, List.map_cons, List.map_nil]); first | done | rfl | (simp only [List.length_drop, List.length_take]; rfl)) ?_; (with_reducible refine (spec_CountShared.calls k _ _ t560 t563 t564 _ ?side1 ?side2 A6.out).mono ?_); (case side1 => repeat (first | exact (Kd.R_reads' HO562.out).2.2 | (with_reducible refine Kd.C_alloc ?_ _) | (with_reducible refine Kd.C_drewN ?_ _) | (with_reducible refine Kd.C_drew ?_))); (case side2 => exact (Kd.R_reads' HO562.out).2.1); rintro e w13 ⟨rfl, hb⟩; refine ⟨_, rfl, ?_⟩; have n0_ := amk (Kd.R_below (by (with_reducible repeat (first | apply Kd.R_alloc | apply Kd.R_drewN | apply Kd.R_drew)); exact HO562.out) hb); have n1_ := amk (bp_ (by repeat (first | (with_reducible first | exact HB.out | apply ba_ | apply bn_ | apply bd_) | exact HB.out)) hb); clear HO562; clear HB; have HO562 := n0_; have HB := n1_; clear n0_ n1_; (try clear hb); (try clear hb2); (try clear hk); (try clear hi)) | ((with_reducible refine gate_callee (f := 36) rfl ?_); refine goesL_ (some 21) rfl rfl Try.func36 (by kernel_rfl) rfl #[.slice A0 l0.length c0] rfl (by (try simp only [List.map_toArray, List.map_cons, List.map_nil]); first | done | rfl | (simp only [List.length_drop, List.length_take]; rfl)) ?_; (with_reducible refine (laws_toPinsS.calls k _ _ l0 t565 _ ?side1 ?side2 A7.out).mono ?_); (case side1 => repeat (first | exact (Kd.C_below HR0.out HB.out) | (with_reducible refine Kd.C_alloc ?_ _) | (with_reducible refine Kd.C_drewN ?_ _) | (with_reducible refine Kd.C_drew ?_))); (case side2 => exact HC0.out); rintro e w14 ⟨v566, rfl, ho0, hb⟩; refine ⟨_, rfl, ?_⟩; have n0_ := amk (Kd.R_elder' (by (with_reducible repeat (first | apply Kd.R_alloc | apply Kd.R_drewN | apply Kd.R_drew)); exact HO562.out) (Kd.R_base ho0) hb); have n1_ := amk (Kd.R_lower (Kd.R_new' ho0 (Kd.R_lt (by (with_reducible repeat (first | apply Kd.R_alloc | apply Kd.R_drewN | apply Kd.R_drew)); exact HO562.out))) (below_size (by repeat (first | (with_reducible first | exact HB.out | apply ba_ | apply bn_ | apply bd_) | exact HB.out)))); have n2_ := amk (bp_ (by repeat (first | (with_reducible first | exact HB.out | apply ba_ | apply bn_ | apply bd_) | exact HB.out)) hb); clear HO562; clear HB; have HO562 := n0_; have HO567 := n1_; have HB := n2_; clear n0_ n1_ n2_; (try clear hb); (try clear hb2); (try clear hk); (try clear hi); (try clear ho0); obtain ⟨Ao15, co15, eo15⟩ := Kd.R_slice HO567.out; subst eo15) | ((with_reducible refine gate_callee (f := 37) rfl ?_); refine goesL_ (some 24) rfl rfl Try.func37 (by kernel_rfl) rfl #[.slice Ao15 t565.length co15] rfl (by (try simp only [List.map_toArray, List.map_cons, List.map_nil]); first | done | rfl | (simp only [List.length_drop, List.length_take]; rfl)) ?_; (with_reducible refine (impl_CountShared.calls k _ _ t565 t568 t569 _ ?side1 ?side2 A8.out).mono ?_); (case side1 => repeat (first | exact (Kd.R_reads' HO567.out).2.2 | (with_reducible refine Kd.C_alloc ?_ _) | (with_reducible refine Kd.C_drewN ?_ _) | (with_reducible refine Kd.C_drew ?_))); (case side2 => exact (Kd.R_reads' HO567.out).2.1); rintro e w16 ⟨rfl, hb⟩; refine ⟨_, rfl, ?_⟩; have n0_ := amk (Kd.R_below (by (with_reducible repeat (first | apply Kd.R_alloc | apply Kd.R_drewN | apply Kd.R_drew)); exact HO562.out) hb); have n1_ := amk (Kd.R_below (by (with_reducible repeat (first | apply Kd.R_alloc | apply Kd.R_drewN | apply Kd.R_drew)); exact HO567.out) hb); have n2_ := amk (bp_ (by repeat (first | (with_reducible first | exact HB.out | apply ba_ | apply bn_ | apply bd_) | exact HB.out)) hb); clear HO562; clear HO567; clear HB; have HO562 := n0_; have HO567 := n1_; have HB := n2_; clear n0_ n1_ n2_; (try clear hb); (try clear hb2); (try clear hk); (try clear hi)))
    (try simp only [Act.put, List.setIfInBounds_toArray, List.set_cons_zero, List.set_cons_succ])
    go_cut [34] (fun v34 wc => ∃ (kq : Nat) (x34_8 : Bool), v34 = .bool x34_8 ∧ Aside0 (laws_FnExactCountShared.j0 kq l0 t565 x34_8 = some r) ∧ Aside0 (kq ≤ k) ∧ Aside0 (Kd.R k41 41 wc w.heap.size (fun _ => True) (.slice Ao15 t565.length co15) t565) ∧ Aside0 (Below w.heap.size w wc))
    case first =>
      have H := HC9.out
      clear HC9
      by_cases c17 : t568 = t563
      · rw [if_pos c17] at H
        have c17b0 : (t568 == t563) = true := beq_iff_eq.mpr c17
        have c17b1 : (t568 != t563) = false := bne_eq_false_iff_eq.mpr c17
        clear c17
        (first | rw [c17b0] | (simp only [i64_w, i32_w]; rw [c17b0]) | skip)
        have H' := amk H
        clear H
        go_wp2
        go_meet
        case rel => exact ⟨_, ((t569 != t564)), (by first | rfl | (simp; done) | (simp [*]; done)), H', ⟨by first | omega | exact Nat.le_refl _⟩, ⟨by (with_reducible repeat (first | apply Kd.R_alloc | apply Kd.R_drewN | apply Kd.R_drew)); exact Kd.R_mono HO567.out (fun _ hk => trivial)⟩, ⟨by repeat (first | (with_reducible first | exact HB.out | apply ba_ | apply bn_ | apply bd_) | exact HB.out)⟩⟩
      · rw [if_neg c17] at H
        have c17b0 : (t568 == t563) = false := beq_eq_false_iff_ne.mpr c17
        have c17b1 : (t568 != t563) = true := bne_iff_ne.mpr c17
        (first | rw [c17b0] | (simp only [i64_w, i32_w]; rw [c17b0]) | skip)
        have H' := amk H
        clear H
        go_wp2
        go_meet
        case rel => exact ⟨_, (true), (by first | rfl | (simp; done) | (simp [*]; done)), H', ⟨by first | omega | exact Nat.le_refl _⟩, ⟨by (with_reducible repeat (first | apply Kd.R_alloc | apply Kd.R_drewN | apply Kd.R_drew)); exact Kd.R_mono HO567.out (fun _ hk => trivial)⟩, ⟨by repeat (first | (with_reducible first | exact HB.out | apply ba_ | apply bn_ | apply bd_) | exact HB.out)⟩⟩
    case rest =>
      clear HC9
      try clear c1; try clear p2; try clear c3; try clear c3b0; try clear c7; try clear c17; try clear c17b0; try clear c17b1
      obtain ⟨kq, x34_8, rfl, HA, HJ8, HO_6, HB⟩ := hcut
      cases kq with
      | zero => exact absurd HA.out (by simp [laws_FnExactCountShared.j0])
      | succ kj8 =>
        have H := HA.out
        clear HA
        simp only [laws_FnExactCountShared.j0] at H
        by_cases c18 : x34_8 = true
        · subst c18
          have H1 : (some false) = some r := by rw [if_pos rfl] at H; exact H
          clear H
          have H := H1
          clear H1
          obtain rfl := Option.some.inj H
          go_wp2
          go_ret
          exact ⟨by first | rfl | (simp [errW_none, errW_some] <;> rfl) | (simp [*, errW_none, errW_some] <;> rfl), by repeat (first | (with_reducible first | exact HB.out | apply ba_ | apply bn_ | apply bd_) | exact HB.out)⟩
        · replace c18 := Bool.eq_false_iff.mpr c18
          subst c18
          have H1 : ((laws_toPinsS.f kj8 l0).bind fun t570 => ((laws_eqPinsS.f kj8 t565 t570).bind fun t573 => (if t573 = true then (some true) else (some false)))) = some r := by rw [if_neg (show ¬ (false = true) by decide)] at H; exact H
          clear H
          have H := H1
          clear H1
          replace H := Option.bind_eq_some_iff.mp H
          obtain ⟨t570, A190, H⟩ := H
          replace H : ((laws_eqPinsS.f kj8 t565 t570).bind fun t573 => (if t573 = true then (some true) else (some false))) = some r := H
          have A19 := amk A190
          clear A190
          replace H := Option.bind_eq_some_iff.mp H
          obtain ⟨t573, A200, H⟩ := H
          replace H : (if t573 = true then (some true) else (some false)) = some r := H
          have A20 := amk A200
          clear A200
          by_cases c21 : t573 = true
          · subst c21
            have H1 : (some true) = some r := by rw [if_pos rfl] at H; exact H
            clear H
            have H := H1
            clear H1
            obtain rfl := Option.some.inj H
            go_wp2_with (first | ((with_reducible refine gate_callee (f := 36) rfl ?_); refine goesL_ (some 37) rfl rfl Try.func36 (by kernel_rfl) rfl #[.slice A0 l0.length c0] rfl (by (try simp only [List.map_toArray, List.map_cons, List.map_nil]); first | done | rfl | (simp only [List.length_drop, List.length_take]; rfl)) ?_; (with_reducible refine (laws_toPinsS.calls kj8 _ _ l0 t570 _ ?side1 ?side2 A19.out).mono ?_); (case side1 => repeat (first | exact (Kd.C_below HR0.out HB.out) | (with_reducible refine Kd.C_alloc ?_ _) | (with_reducible refine Kd.C_drewN ?_ _) | (with_reducible refine Kd.C_drew ?_))); (case side2 => exact HC0.out); rintro e w22 ⟨v571, rfl, ho0, hb⟩; refine ⟨_, rfl, ?_⟩; have n0_ := amk (Kd.R_elder' (by (with_reducible repeat (first | apply Kd.R_alloc | apply Kd.R_drewN | apply Kd.R_drew)); exact HO_6.out) (Kd.R_base ho0) hb); have n1_ := amk (Kd.R_lower (Kd.R_new' ho0 (Kd.R_lt (by (with_reducible repeat (first | apply Kd.R_alloc | apply Kd.R_drewN | apply Kd.R_drew)); exact HO_6.out))) (below_size (by repeat (first | (with_reducible first | exact HB.out | apply ba_ | apply bn_ | apply bd_) | exact HB.out)))); have n2_ := amk (bp_ (by repeat (first | (with_reducible first | exact HB.out | apply ba_ | apply bn_ | apply bd_) | exact HB.out)) hb); clear HO_6; clear HB; have HO_6 := n0_; have HO572 := n1_; have HB := n2_; clear n0_ n1_ n2_; (try clear hb); (try clear hb2); (try clear hk); (try clear hi); (try clear ho0); obtain ⟨Ao23, co23, eo23⟩ := Kd.R_slice HO572.out; subst eo23) | ((with_reducible refine gate_callee (f := 38) rfl ?_); refine goesL_ (some 38) rfl rfl Try.func38 (by kernel_rfl) rfl #[.slice Ao15 t565.length co15, .slice Ao23 t570.length co23] rfl (by (try simp only [List.map_toArray, List.map_cons, List.map_nil]); first | done | rfl | (simp only [List.length_drop, List.length_take]; rfl)) ?_; (with_reducible refine (laws_eqPinsS.calls kj8 _ _ t565 _ _ t570 true _ ?side1 ?side2 ?side3 ?side4 A20.out).mono ?_); (case side1 => repeat (first | exact (Kd.R_reads' HO_6.out).2.2 | (with_reducible refine Kd.C_alloc ?_ _) | (with_reducible refine Kd.C_drewN ?_ _) | (with_reducible refine Kd.C_drew ?_))); (case side2 => exact (Kd.R_reads' HO_6.out).2.1); (case side3 => repeat (first | exact (Kd.R_reads' HO572.out).2.2 | (with_reducible refine Kd.C_alloc ?_ _) | (with_reducible refine Kd.C_drewN ?_ _) | (with_reducible refine Kd.C_drew ?_))); (case side4 => exact (Kd.R_reads' HO572.out).2.1); rintro e w24 ⟨rfl, hb⟩; refine ⟨_, rfl, ?_⟩; have n0_ := amk (Kd.R_below (by (with_reducible repeat (first | apply Kd.R_alloc | apply Kd.R_drewN | apply Kd.R_drew)); exact HO_6.out) hb); have n1_ := amk (Kd.R_below (by (with_reducible repeat (first | apply Kd.R_alloc | apply Kd.R_drewN | apply Kd.R_drew)); exact HO572.out) hb); have n2_ := amk (bp_ (by repeat (first | (with_reducible first | exact HB.out | apply ba_ | apply bn_ | apply bd_) | exact HB.out)) hb); clear HO_6; clear HO572; clear HB; have HO_6 := n0_; have HO572 := n1_; have HB := n2_; clear n0_ n1_ n2_; (try clear hb); (try clear hb2); (try clear hk); (try clear hi)))
            go_ret
            exact ⟨by first | rfl | (simp [errW_none, errW_some] <;> rfl) | (simp [*, errW_none, errW_some] <;> rfl), by repeat (first | (with_reducible first | exact HB.out | apply ba_ | apply bn_ | apply bd_) | exact HB.out)⟩
          · replace c21 := Bool.eq_false_iff.mpr c21
            subst c21
            have H1 : (some false) = some r := by rw [if_neg (show ¬ (false = true) by decide)] at H; exact H
            clear H
            have H := H1
            clear H1
            obtain rfl := Option.some.inj H
            go_wp2_with (first | ((with_reducible refine gate_callee (f := 36) rfl ?_); refine goesL_ (some 37) rfl rfl Try.func36 (by kernel_rfl) rfl #[.slice A0 l0.length c0] rfl (by (try simp only [List.map_toArray, List.map_cons, List.map_nil]); first | done | rfl | (simp only [List.length_drop, List.length_take]; rfl)) ?_; (with_reducible refine (laws_toPinsS.calls kj8 _ _ l0 t570 _ ?side1 ?side2 A19.out).mono ?_); (case side1 => repeat (first | exact (Kd.C_below HR0.out HB.out) | (with_reducible refine Kd.C_alloc ?_ _) | (with_reducible refine Kd.C_drewN ?_ _) | (with_reducible refine Kd.C_drew ?_))); (case side2 => exact HC0.out); rintro e w25 ⟨v571, rfl, ho0, hb⟩; refine ⟨_, rfl, ?_⟩; have n0_ := amk (Kd.R_elder' (by (with_reducible repeat (first | apply Kd.R_alloc | apply Kd.R_drewN | apply Kd.R_drew)); exact HO_6.out) (Kd.R_base ho0) hb); have n1_ := amk (Kd.R_lower (Kd.R_new' ho0 (Kd.R_lt (by (with_reducible repeat (first | apply Kd.R_alloc | apply Kd.R_drewN | apply Kd.R_drew)); exact HO_6.out))) (below_size (by repeat (first | (with_reducible first | exact HB.out | apply ba_ | apply bn_ | apply bd_) | exact HB.out)))); have n2_ := amk (bp_ (by repeat (first | (with_reducible first | exact HB.out | apply ba_ | apply bn_ | apply bd_) | exact HB.out)) hb); clear HO_6; clear HB; have HO_6 := n0_; have HO572 := n1_; have HB := n2_; clear n0_ n1_ n2_; (try clear hb); (try clear hb2); (try clear hk); (try clear hi); (try clear ho0); obtain ⟨Ao26, co26, eo26⟩ := Kd.R_slice HO572.out; subst eo26) | ((with_reducible refine gate_callee (f := 38) rfl ?_); refine goesL_ (some 38) rfl rfl Try.func38 (by kernel_rfl) rfl #[.slice Ao15 t565.length co15, .slice Ao26 t570.length co26] rfl (by (try simp only [List.map_toArray, List.map_cons, List.map_nil]); first | done | rfl | (simp only [List.length_drop, List.length_take]; rfl)) ?_; (with_reducible refine (laws_eqPinsS.calls kj8 _ _ t565 _ _ t570 false _ ?side1 ?side2 ?side3 ?side4 A20.out).mono ?_); (case side1 => repeat (first | exact (Kd.R_reads' HO_6.out).2.2 | (with_reducible refine Kd.C_alloc ?_ _) | (with_reducible refine Kd.C_drewN ?_ _) | (with_reducible refine Kd.C_drew ?_))); (case side2 => exact (Kd.R_reads' HO_6.out).2.1); (case side3 => repeat (first | exact (Kd.R_reads' HO572.out).2.2 | (with_reducible refine Kd.C_alloc ?_ _) | (with_reducible refine Kd.C_drewN ?_ _) | (with_reducible refine Kd.C_drew ?_))); (case side4 => exact (Kd.R_reads' HO572.out).2.1); rintro e w27 ⟨rfl, hb⟩; refine ⟨_, rfl, ?_⟩; have n0_ := amk (Kd.R_below (by (with_reducible repeat (first | apply Kd.R_alloc | apply Kd.R_drewN | apply Kd.R_drew)); exact HO_6.out) hb); have n1_ := amk (Kd.R_below (by (with_reducible repeat (first | apply Kd.R_alloc | apply Kd.R_drewN | apply Kd.R_drew)); exact HO572.out) hb); have n2_ := amk (bp_ (by repeat (first | (with_reducible first | exact HB.out | apply ba_ | apply bn_ | apply bd_) | exact HB.out)) hb); clear HO_6; clear HO572; clear HB; have HO_6 := n0_; have HO572 := n1_; have HB := n2_; clear n0_ n1_ n2_; (try clear hb); (try clear hb2); (try clear hk); (try clear hi)))
            go_ret
            exact ⟨by first | rfl | (simp [errW_none, errW_some] <;> rfl) | (simp [*, errW_none, errW_some] <;> rfl), by repeat (first | (with_reducible first | exact HB.out | apply ba_ | apply bn_ | apply bd_) | exact HB.out)⟩
/-! Joined pins, over lists alone. -/
def rngFrom (s m : Nat) : List Int := (List.range' s m).map fun (d : Nat) => (d : Int)
theorem rngFrom_zero (s : Nat) : rngFrom s 0 = [] := rfl
theorem rngFrom_len (s m : Nat) : (rngFrom s m).length = m := by unfold rngFrom; simp
theorem filter_len_le {α : Type} (p : α → Bool) (l : List α) : (l.filter p).length ≤ l.length := List.length_filter_le p l
/-- A depth of both rows, or of one. -/
def joinT (b : Bool) (r s : List Int) (d : Int) : Bool := (r.contains d && s.contains d) || (!b && (r.contains d || s.contains d))
def joinRows (b : Bool) (n : Nat) (x y : List (List Int)) : List (List Int) := (List.range' 0 x.length).map fun i => (rngFrom 0 n).filter (joinT b (x.getD i []) (y.getD i []))
def rowsOf (n m : Nat) (f : Nat → Int → Bool) : List (List Int) := (List.range' 0 m).map fun i => (rngFrom 0 n).filter (f i)
theorem rowsOf_len (n m : Nat) (f : Nat → Int → Bool) : (rowsOf n m f).length = m := by unfold rowsOf; simp
theorem rowsOf_get (n m : Nat) (f : Nat → Int → Bool) (i : Nat) (hi : i < m) : (rowsOf n m f).getD i [] = (rngFrom 0 n).filter (f i) := by
  unfold rowsOf
  simp [List.getD, hi]
theorem rowsOf_congr {n m : Nat} {f g : Nat → Int → Bool} (h : ∀ i < m, ∀ d ∈ rngFrom 0 n, f i d = g i d) : rowsOf n m f = rowsOf n m g := by
  unfold rowsOf
  apply List.map_congr_left
  intro i hi
  rw [List.mem_range'_1] at hi
  exact List.filter_congr (fun d hd => h i (by omega) d hd)
theorem contains_filter {f : Int → Bool} {n : Nat} {d : Int} (hd : d ∈ rngFrom 0 n) : ((rngFrom 0 n).filter f).contains d = f d := by
  rw [Bool.eq_iff_iff, List.contains_iff_mem, List.mem_filter]
  exact ⟨fun h => h.2, fun h => ⟨hd, h⟩⟩
theorem joinRows_is (b : Bool) (n : Nat) (x y : List (List Int)) : joinRows b n x y = rowsOf n x.length fun i => joinT b (x.getD i []) (y.getD i []) := rfl
/-- Whether a depth is in all of a list's pins at a place, or in one of them. -/
def inB (b : Bool) (l : List S41) (i : Nat) (d : Int) : Bool := if b then l.all fun p => (p.f1.getD i []).contains d else l.any fun p => (p.f1.getD i []).contains d
theorem inB_snoc (b : Bool) (q : S41) (l : List S41) (i : Nat) (d : Int) : inB b (l ++ [q]) i d = if b then inB b l i d && (q.f1.getD i []).contains d else inB b l i d || (q.f1.getD i []).contains d := by
  cases b <;> simp [inB]
theorem joinT_in (b : Bool) (r s : List Int) (d : Int) : joinT b r s d = if b then r.contains d && s.contains d else r.contains d || s.contains d := by
  unfold joinT
  cases b <;> cases r.contains d <;> cases s.contains d <;> rfl
/-- Joining on, behind what was joined before. -/
theorem joinRows_step (b : Bool) (n m : Nat) (P : List S41) (q : S41) : joinRows b n (rowsOf n m (inB b P)) q.f1 = rowsOf n m (inB b (P ++ [q])) := by
  rw [joinRows_is, rowsOf_len]
  apply rowsOf_congr
  intro i hi d hd
  rw [rowsOf_get n m _ i hi, joinT_in, contains_filter hd, inB_snoc]
theorem joinRows_first (b : Bool) (n : Nat) (q : S41) : joinRows b n q.f1 q.f1 = rowsOf n q.f1.length (inB b [q]) := by
  rw [joinRows_is]
  apply rowsOf_congr
  intro i hi d hd
  rw [joinT_in]
  cases b <;> simp [inB]
/-- What impl counts: in how many of them. -/
theorem inB_count_all (l : List S41) (i : Nat) (d : Int) : decide (l.length ≤ l.countP fun p => (p.f1.getD i []).contains d) = inB true l i d := by
  unfold inB
  rw [if_pos rfl, Bool.eq_iff_iff, decide_eq_true_eq, List.all_eq_true]
  have h := List.countP_le_length (p := fun p : S41 => (p.f1.getD i []).contains d) (l := l)
  constructor
  · intro h1
    exact List.countP_eq_length.mp (by omega)
  · intro h1
    rw [List.countP_eq_length.mpr h1]; exact Nat.le_refl _
/-- How many keys open. -/
def keysF (l : List (List Int)) : Int := l.foldl (fun n r => wrap64 (n * r.length)) 1
section
/-! What a readable argument holds, told by kinds: the bridge from a statement's reading to the print's words. -/
open Go.WideShapes in
def Opens {α : Type} (P : Program) (t : TypeId) (d : Kd α) (V : α → Prop) : Prop :=
  ∀ (H : Type) (enc : TypeId × Value → H) (w : World) (base : Nat) (spare : Nat → Bool) (held : Bool) (fuel : Nat) (cs : List Value) (x : DataW H × List MemPlace),
    DataW.trod enc P w base spare held fuel t cs = some x → ∃ a : α, d.K w a cs ∧ V a
def IntV (a : Int) : Prop := -9223372036854775808 ≤ a ∧ a ≤ 9223372036854775807
def ListV {α : Type} (V : α → Prop) (l : List α) : Prop := l.length ≤ 9223372036854775807 ∧ ∀ x ∈ l, V x
theorem opens_int {P : Program} {t : TypeId} (ht : P.underlying t = some (.int .i64)) : Opens P t (Kd.int .i64) IntV := by
  intro H enc w base spare held fuel cs x h
  obtain ⟨n, rfl, _, hw⟩ := DataW.trod_int ht h
  refine ⟨n, rfl, ?_⟩
  have hb : (IntKind.i64.min ≤ n ∧ n ≤ IntKind.i64.max) := by simpa [Lit.wf] using hw
  have e1 : IntKind.i64.min = -9223372036854775808 := rfl
  have e2 : IntKind.i64.max = 9223372036854775807 := rfl
  rw [e1, e2] at hb
  unfold IntV
  omega
theorem cells_list {w : World} {base : Nat} {a : Addr} {n : Nat} {cs : List Value} (h : w.cells? base a n = some cs) : cs.length = n ∧ ∀ i u, cs[i]? = some u → w.cell? (a.add i) = some u := by
  unfold World.cells? at h
  split at h
  · have hl := mapM_some_length h
    refine ⟨by simpa using hl, fun i u hu => ?_⟩
    have hi : i < n := by
      have := (List.getElem?_eq_some_iff.1 hu).1
      rw [hl] at this; simpa using this
    have := mapM_some_get h i i (by simp [hi])
    rw [hu] at this
    exact this
  · cases h
theorem opens_slice {α : Type} {P : Program} {t e : TypeId} {d : Kd α} {V : α → Prop} (ht : P.underlying t = some (.slice e)) (hd : Opens P e d V) (hsz : P.cellsOf e = d.sz) : Opens P t (Kd.slice e d) (ListV V) := by
  intro H enc w base spare held fuel cs x h
  rcases Go.Deep.open_slice ht h with ⟨rfl, _⟩ | ⟨a, len, cap, m, n, D, Pl, rfl, _, hl, hm, hmm, _, hel⟩
  · exact ⟨[], ⟨none, 0, rfl, Nat.le_refl _, ⟨rfl, by simp, fun h0 => absurd h0 (by simp)⟩⟩, ⟨by simp, fun x hx => by simp at hx⟩⟩
  · have hle : len ≤ m := by rw [hmm]; split <;> omega
    have each : ∀ i : Nat, ∃ a' : Option α, i < len → ∃ z cs', a' = some z ∧ V z ∧ d.K w z cs' ∧ ∀ j u, cs'[j]? = some u → w.cell? (a.add (i * d.sz + j)) = some u := by
      intro i
      by_cases hi : i < len
      · obtain ⟨cs', h1, h2⟩ := hel i (by omega)
        obtain ⟨z, hK, hV⟩ := hd H enc w base spare held n cs' _ h2
        refine ⟨some z, fun _ => ⟨z, cs', rfl, hV, hK, fun j u hu => ?_⟩⟩
        obtain ⟨_, hc⟩ := cells_list h1
        have := hc j u hu
        rw [Go.Deep.add_add, hsz] at this
        exact this
      · exact ⟨none, fun h0 => absurd h0 hi⟩
    have ⟨f, hf⟩ := Classical.axiomOfChoice each
    have hz : ∀ i, i < len → ∃ z, f i = some z ∧ V z ∧ ∃ cs', d.K w z cs' ∧ ∀ j u, cs'[j]? = some u → w.cell? (a.add (i * d.sz + j)) = some u := by
      intro i hi
      obtain ⟨z, cs', h1, h2, h3, h4⟩ := hf i hi
      exact ⟨z, h1, h2, cs', h3, h4⟩
    have hlist : ∃ l : List α, l.length = len ∧ ∀ i, i < len → f i = l[i]? := by
      clear hf each hel hmm hle
      have : ∀ n, n ≤ len → ∃ l : List α, l.length = n ∧ ∀ i, i < n → f i = l[i]? := by
        intro n
        induction n with
        | zero => intro _; exact ⟨[], rfl, fun i hi => by omega⟩
        | succ n ih =>
          intro hn
          obtain ⟨l, hl1, hl2⟩ := ih (by omega)
          obtain ⟨z, h1, _⟩ := hz n (by omega)
          refine ⟨l ++ [z], by simp [hl1], fun i hi => ?_⟩
          by_cases e : i < n
          · rw [List.getElem?_append_left (by omega)]; exact hl2 i e
          · obtain rfl : i = n := by omega
            rw [h1, ← hl1]; simp
      exact this len (Nat.le_refl _)
    obtain ⟨l, hlen, hget⟩ := hlist
    have hV : ∀ x ∈ l, V x := by
      intro x hx
      obtain ⟨i, hi, rfl⟩ := List.getElem_of_mem hx
      obtain ⟨z, h1, h2, _⟩ := hz i (by omega)
      have h3 := hget i (by omega)
      rw [h1, List.getElem?_eq_getElem hi] at h3
      injection h3 with h3
      rw [← h3]; exact h2
    unfold maxLen at hm
    subst hlen
    refine ⟨l, ⟨some a, cap, rfl, hl, ⟨rfl, by omega, fun _ => ⟨a, rfl, fun j p hp => ?_⟩⟩⟩, ⟨by omega, hV⟩⟩
    have hj : j < l.length := (List.getElem?_eq_some_iff.1 hp).1
    obtain ⟨z, h1, _, cs', h3, h4⟩ := hz j hj
    have h5 := hget j hj
    rw [h1, hp] at h5
    injection h5 with h5
    subst h5
    exact ⟨cs', d.K_len h3, h3, h4⟩
theorem opens_pair {α β : Type} {P : Program} {t : TypeId} {f0 f1 : Field} {d0 : Kd α} {d1 : Kd β} {V0 : α → Prop} {V1 : β → Prop} (ht : P.underlying t = some (.struct #[f0, f1]))
    (h0 : Opens P f0.type d0 V0) (h1 : Opens P f1.type d1 V1) (o0 : f0.offset = 0) (o1 : f1.offset = d0.sz) (z0 : P.cellsOf f0.type = d0.sz) (z1 : P.cellsOf f1.type = d1.sz) (zt : P.cellsOf t = d0.sz + d1.sz) :
    Opens P t (Kd.pair d0 d1) (fun x => V0 x.1 ∧ V1 x.2) := by
  intro H enc w base spare held fuel cs x h
  obtain ⟨y0, y1, n, _, hl, g0, g1⟩ := ChangeShapes.trod_struct2 ht h
  rw [o0, z0, List.drop_zero] at g0
  rw [o1, z1] at g1
  obtain ⟨a, ka, va⟩ := h0 H enc w base spare held n _ _ g0
  obtain ⟨b, kb, vb⟩ := h1 H enc w base spare held n _ _ g1
  refine ⟨(a, b), ⟨_, _, ?_, ka, kb⟩, va, vb⟩
  rw [List.take_of_length_le (l := cs.drop d0.sz) (by rw [List.length_drop, hl, zt]; omega), List.take_append_drop]
theorem opens_iso {α β : Type} {P : Program} {t : TypeId} {d : Kd α} {V : α → Prop} (h : Opens P t d V) (f : β → α) (g : α → β) (e : ∀ a, f (g a) = a) : Opens P t (Kd.iso d f) (fun x => V (f x)) := by
  intro H enc w base spare held fuel cs x hx
  obtain ⟨a, ka, va⟩ := h H enc w base spare held fuel cs x hx
  exact ⟨g a, by show d.K w (f (g a)) cs; rw [e]; exact ka, by show V (f (g a)); rw [e]; exact va⟩
section
variable {H : Type} {enc : TypeId × Value → H} {P : Program} {w : World} {base : Nat} {spare : Nat → Bool} {held : Bool} {r : Reach} {b0 : Nat} {t : TypeId} {v : Value} {x : DataW H} {p : List MemPlace}
theorem arg_slice {α : Type} {d : Kd α} {e : TypeId} {V : List α → Prop} (ho : Opens P t (Kd.slice e d) V) (ht : P.underlying t = some (.slice e)) (hv : Value.okWide P w r b0 t v) (h : DataW.Trod enc P w base spare held t v x p) :
    ∃ A l c, v = .slice A (List.length l) c ∧ l.length ≤ c ∧ d.C w A l.length l ∧ V l := by
  obtain ⟨a, len, cap, rfl⟩ := WideShapes.okWide_slice ht hv
  obtain ⟨fuel, hf⟩ := h
  obtain ⟨l, ⟨A, c, hc, hl, hC⟩, hV⟩ := ho H enc w base spare held fuel _ _ hf
  simp only [Value.cells, List.cons.injEq, and_true] at hc
  injection hc with e1 e2 e3
  subst e1 e2 e3
  exact ⟨_, l, _, rfl, hl, hC, hV⟩
theorem arg_lt (h : DataW.Trod enc P w base spare held t v x p) : ∀ y ∈ p, y.block < w.heap.size := by
  obtain ⟨m, hm⟩ := h
  exact DataW.trod_lt m _ _ _ hm
end
end
/-! The statements' own helpers on rows and pins: what they come to. -/
def pinsOf (x : S37) : S41 := ⟨x.f0, x.f1⟩
theorem rd_row {xs : List (List Int)} {i : Nat} (h : i < xs.length) : rd_L5 xs (i : Nat) = xs[i] := by unfold rd_L5; simp [List.getD, h]
theorem rd_lpins {xs : List S37} {i : Nat} (h : i < xs.length) : rd_T37 xs (i : Nat) = xs[i] := by unfold rd_T37; simp [List.getD, h]
theorem rd_pins {xs : List S41} {i : Nat} (h : i < xs.length) : rd_T41 xs (i : Nat) = xs[i] := by unfold rd_T41; simp [List.getD, h]
theorem rd_int {xs : List Int} {i : Nat} (h : i < xs.length) : rd xs (i : Nat) = xs[i] := by rw [rd_at (by simpa using h)]; simp
/-- The lengths are numbers of Go. -/
def RowsV (x : List (List Int)) : Prop := x.length ≤ 9223372036854775807 ∧ ∀ r ∈ x, r.length ≤ 9223372036854775807
/-- No longer than a million. -/
def RowsM (x : List (List Int)) : Prop := x.length ≤ 1048576 ∧ ∀ r ∈ x, r.length ≤ 1048576
theorem RowsM.v {x : List (List Int)} (h : RowsM x) : RowsV x := ⟨by have := h.1; omega, fun r hr => by have := h.2 r hr; omega⟩
theorem laws_szIntS.is (l : List Int) (a : Int) (h0 : 0 ≤ a) (h1 : a ≤ 1048576) (hl : l.length ≤ 9223372036854775807) : laws_szIntS.f l a = some (if (l.length : Int) ≤ a then a - l.length else -1) := by
  unfold laws_szIntS.f
  rw [w64 (x := a - (l.length : Int)) (by omega) (by omega)]
  by_cases h : (l.length : Int) ≤ a
  · rw [if_neg (by omega), if_pos h]
  · rw [if_pos (by omega), if_neg h]
theorem laws_szIntSS.lev (l : List (List Int)) (hl : RowsV l) : ∀ (m i : Nat) (a : Int), i + m = l.length → 0 ≤ a → a ≤ 1048576 → ∃ r, r ≤ a ∧ Ev (fun k => laws_szIntSS.l0 k l a (i : Nat)) r ∧ (0 ≤ r → ∀ x ∈ l.drop i, (x.length : Int) ≤ 1048576) := by
  have hl1 := hl.1
  intro m
  induction m with
  | zero =>
    intro i a hi h0 h1
    refine ⟨a, Int.le_refl _, Ev.step (fun k => rfl) (Ev.no (by omega) (Ev.now _)), fun _ x hx => ?_⟩
    rw [List.drop_eq_nil_of_le (by omega)] at hx
    simp at hx
  | succ m ih =>
    intro i a hi h0 h1
    have hlt : i < l.length := by omega
    have hx := hl.2 l[i] (List.getElem_mem hlt)
    by_cases h : (l[i].length : Int) ≤ a
    · obtain ⟨r, hr, he, hf⟩ := ih (i + 1) (a - l[i].length) (by omega) (by omega) (by omega)
      refine ⟨r, by omega, Ev.step (fun k => rfl) (Ev.yes (by omega) (Ev.yes (by omega) ?_)), fun hr0 x hx => ?_⟩
      · rw [rd_row hlt]
        refine Ev.bindc (laws_szIntS.is _ _ h0 h1 hx) ?_
        rw [if_pos h, w64 (x := (i : Int) + 1) (by omega) (by omega)]
        exact Ev.no (by omega) he
      · rw [List.drop_eq_getElem_cons hlt] at hx
        rcases List.mem_cons.mp hx with rfl | hx
        · omega
        · exact hf hr0 x hx
    · refine ⟨-1, by omega, Ev.step (fun k => rfl) (Ev.yes (by omega) (Ev.yes (by omega) ?_)), fun hr0 => by omega⟩
      rw [rd_row hlt]
      refine Ev.bindc (laws_szIntS.is _ _ h0 h1 hx) ?_
      rw [if_neg h]
      exact Ev.yes (by omega) (Ev.now _)
theorem laws_szIntSS.ev (l : List (List Int)) (hl : RowsV l) (a : Int) (h0 : 0 ≤ a) (h1 : a ≤ 1048576) : ∃ r, r ≤ a ∧ Ev (fun k => laws_szIntSS.f k l a) r ∧ (0 ≤ r → RowsM l) := by
  have hl1 := hl.1
  unfold laws_szIntSS.f
  rw [w64 (x := a - (l.length : Int)) (by omega) (by omega)]
  by_cases h : (l.length : Int) ≤ a
  · obtain ⟨r, hr, he, hf⟩ := laws_szIntSS.lev l hl l.length 0 (a - l.length) (by omega) (by omega) (by omega)
    refine ⟨r, by omega, Ev.no (by omega) he, fun hr0 => ⟨by omega, fun x hx => ?_⟩⟩
    have := hf hr0 x (by simpa using hx)
    omega
  · exact ⟨-1, by omega, Ev.yes (by omega) (Ev.now _), fun hr0 => by omega⟩
theorem laws_szPins.ev (n : Int) (l : List (List Int)) (hl : RowsV l) (a : Int) (h0 : 0 ≤ a) (h1 : a ≤ 1048576) : ∃ r, r ≤ a ∧ Ev (fun k => laws_szPins.f k n l a) r ∧ (0 ≤ r → RowsM l) := by
  obtain ⟨r, hr, he, hf⟩ := laws_szIntSS.ev l hl a h0 h1
  by_cases h : 0 ≤ r
  · exact ⟨r, hr, Ev.bind he (Ev.no (by omega) (Ev.now _)), hf⟩
  · exact ⟨-1, by omega, Ev.bind he (Ev.yes (by omega) (Ev.now _)), fun hr0 => by omega⟩
theorem laws_szPinsS.lev (l : List S37) (hl1 : l.length ≤ 9223372036854775807) (hl : ∀ p ∈ l, RowsV p.f1) : ∀ (m i : Nat) (a : Int), i + m = l.length → 0 ≤ a → a ≤ 1048576 → ∃ r, r ≤ a ∧ Ev (fun k => laws_szPinsS.l0 k l a (i : Nat)) r ∧ (0 ≤ r → ∀ p ∈ l.drop i, RowsM p.f1) := by
  intro m
  induction m with
  | zero =>
    intro i a hi h0 h1
    refine ⟨a, Int.le_refl _, Ev.step (fun k => rfl) (Ev.no (by omega) (Ev.now _)), fun _ x hx => ?_⟩
    rw [List.drop_eq_nil_of_le (by omega)] at hx
    simp at hx
  | succ m ih =>
    intro i a hi h0 h1
    have hlt : i < l.length := by omega
    have hx := hl l[i] (List.getElem_mem hlt)
    obtain ⟨s, hs, hse, hsf⟩ := laws_szPins.ev l[i].f0 l[i].f1 hx a h0 h1
    by_cases h : 0 ≤ s
    · obtain ⟨r, hr, he, hf⟩ := ih (i + 1) s (by omega) h (by omega)
      refine ⟨r, by omega, Ev.step (fun k => rfl) (Ev.yes (by omega) (Ev.yes (by omega) ?_)), fun hr0 x hx => ?_⟩
      · rw [rd_lpins hlt]
        refine Ev.bind hse (Ev.no (by omega) ?_)
        rw [w64 (x := (i : Int) + 1) (by omega) (by omega)]
        exact he
      · rw [List.drop_eq_getElem_cons hlt] at hx
        rcases List.mem_cons.mp hx with rfl | hx
        · exact hsf h
        · exact hf hr0 x hx
    · refine ⟨-1, by omega, Ev.step (fun k => rfl) (Ev.yes (by omega) (Ev.yes (by omega) ?_)), fun hr0 => by omega⟩
      rw [rd_lpins hlt]
      exact Ev.bind hse (Ev.yes (by omega) (Ev.now _))
theorem laws_szPinsS.ev (l : List S37) (hl1 : l.length ≤ 9223372036854775807) (hl : ∀ p ∈ l, RowsV p.f1) : ∃ r, Ev (fun k => laws_szPinsS.f k l 1048576) r ∧ (0 ≤ r → l.length ≤ 1048576 ∧ ∀ p ∈ l, RowsM p.f1) := by
  unfold laws_szPinsS.f
  rw [w64 (x := (1048576 : Int) - (l.length : Int)) (by omega) (by omega)]
  by_cases h : (l.length : Int) ≤ 1048576
  · obtain ⟨r, hr, he, hf⟩ := laws_szPinsS.lev l hl1 hl l.length 0 (1048576 - l.length) (by omega) (by omega) (by omega)
    exact ⟨r, Ev.no (by omega) he, fun hr0 => ⟨by omega, fun x hx => hf hr0 x (by simpa using hx)⟩⟩
  · exact ⟨-1, Ev.yes (by omega) (Ev.now _), fun hr0 => by omega⟩
theorem laws_toIntS.lev (l : List Int) (hl : l.length ≤ 1048576) : ∀ (m i : Nat), i + m = l.length → Ev (fun k => laws_toIntS.l0 k l ((l.take i).map id ++ List.replicate (l.length - i) 0) (i : Nat)) l := by
  intro m
  induction m with
  | zero => intro i hi; exact Ev.step (fun k => rfl) (Ev.no (by omega) (Ev.id (by rw [show i = l.length by omega]; simp)))
  | succ m ih =>
    intro i hi
    have hlt : i < l.length := by omega
    refine Ev.step (fun k => rfl) (Ev.yes (by omega) (Ev.yes (by omega) (Ev.yes (by simp; omega) ?_)))
    rw [rd_int hlt, Int.toNat_natCast]
    have this : ((l.take i).map id ++ List.replicate (l.length - i) 0).set i l[i] = (l.take (i + 1)).map id ++ List.replicate (l.length - (i + 1)) 0 := fill_step id l 0 i hlt
    rw [this, w64 (x := (i : Int) + 1) (by omega) (by omega)]
    exact ih (i + 1) (by omega)
theorem laws_toIntS.ev (l : List Int) (hl : l.length ≤ 1048576) : Ev (fun k => laws_toIntS.f k l) l := by
  unfold laws_toIntS.f
  refine Ev.yes (by omega) (Ev.yes (by simp; omega) ?_)
  have := laws_toIntS.lev l hl l.length 0 (by omega)
  simpa using this
theorem laws_toIntSS.lev (l : List (List Int)) (hl : RowsM l) : ∀ (m i : Nat), i + m = l.length → Ev (fun k => laws_toIntSS.l0 k l ((l.take i).map id ++ List.replicate (l.length - i) []) (i : Nat)) l := by
  have hl1 := hl.1
  intro m
  induction m with
  | zero => intro i hi; exact Ev.step (fun k => rfl) (Ev.no (by omega) (Ev.id (by rw [show i = l.length by omega]; simp)))
  | succ m ih =>
    intro i hi
    have hlt : i < l.length := by omega
    refine Ev.step (fun k => rfl) (Ev.yes (by omega) (Ev.yes (by omega) ?_))
    rw [rd_row hlt]
    refine Ev.bind (laws_toIntS.ev _ (hl.2 _ (List.getElem_mem hlt))) (Ev.yes (by simp; omega) ?_)
    rw [Int.toNat_natCast]
    have this : ((l.take i).map id ++ List.replicate (l.length - i) []).set i l[i] = (l.take (i + 1)).map id ++ List.replicate (l.length - (i + 1)) [] := fill_step id l [] i hlt
    rw [this, w64 (x := (i : Int) + 1) (by omega) (by omega)]
    exact ih (i + 1) (by omega)
theorem laws_toIntSS.ev (l : List (List Int)) (hl : RowsM l) : Ev (fun k => laws_toIntSS.f k l) l := by
  have hl1 := hl.1
  unfold laws_toIntSS.f
  refine Ev.yes (by omega) (Ev.yes (by simp; omega) ?_)
  have := laws_toIntSS.lev l hl l.length 0 (by omega)
  simpa using this
theorem laws_toPins.ev (n : Int) (l : List (List Int)) (hl : RowsM l) : Ev (fun k => laws_toPins.f k n l) (n, l) := by
  unfold laws_toPins.f
  exact Ev.bind (laws_toIntSS.ev l hl) (Ev.now _)
theorem laws_toPinsS.lev (l : List S37) (hl1 : l.length ≤ 1048576) (hl : ∀ p ∈ l, RowsM p.f1) : ∀ (m i : Nat), i + m = l.length → Ev (fun k => laws_toPinsS.l0 k l ((l.take i).map pinsOf ++ List.replicate (l.length - i) z41) (i : Nat)) (l.map pinsOf) := by
  intro m
  induction m with
  | zero => intro i hi; exact Ev.step (fun k => rfl) (Ev.no (by omega) (Ev.id (by rw [show i = l.length by omega]; simp)))
  | succ m ih =>
    intro i hi
    have hlt : i < l.length := by omega
    refine Ev.step (fun k => rfl) (Ev.yes (by omega) (Ev.yes (by omega) ?_))
    rw [rd_lpins hlt]
    refine Ev.bind (laws_toPins.ev _ _ (hl _ (List.getElem_mem hlt))) (Ev.yes (by simp; omega) ?_)
    rw [Int.toNat_natCast]
    have := fill_step pinsOf l z41 i hlt
    unfold pinsOf at this ⊢
    rw [this, w64 (x := (i : Int) + 1) (by omega) (by omega)]
    exact ih (i + 1) (by omega)
theorem laws_toPinsS.ev (l : List S37) (hl1 : l.length ≤ 1048576) (hl : ∀ p ∈ l, RowsM p.f1) : Ev (fun k => laws_toPinsS.f k l) (l.map pinsOf) := by
  unfold laws_toPinsS.f
  refine Ev.yes (by omega) (Ev.yes (by simp; omega) ?_)
  have := laws_toPinsS.lev l hl1 hl l.length 0 (by omega)
  simpa using this
theorem laws_eqIntS.levB (l : List Int) (hn : l.length ≤ 9223372036854775807) : ∀ (m i : Nat), i + m = l.length → Ev (fun k => laws_eqIntS.l0 k l l (i : Nat)) true := by
  intro m
  induction m with
  | zero => intro i hi; exact Ev.step (fun k => rfl) (Ev.no (by omega) (Ev.now _))
  | succ m ih =>
    intro i hi
    refine Ev.step (fun k => rfl) (Ev.yes (by omega) (Ev.yes (by omega) (Ev.yes (by omega) (Ev.yes rfl ?_))))
    rw [w64 (x := (i : Int) + 1) (by omega) (by omega)]
    exact ih (i + 1) (by omega)
theorem laws_eqIntS.evB (l : List Int) (hn : l.length ≤ 9223372036854775807) : Ev (fun k => laws_eqIntS.f k l l) true := by
  unfold laws_eqIntS.f
  exact Ev.yes rfl (laws_eqIntS.levB l hn l.length 0 (by omega))
theorem laws_eqIntSS.lev (l : List (List Int)) (hl : RowsV l) : ∀ (m i : Nat), i + m = l.length → Ev (fun k => laws_eqIntSS.l0 k l l (i : Nat)) true := by
  have hl1 := hl.1
  intro m
  induction m with
  | zero => intro i hi; exact Ev.step (fun k => rfl) (Ev.no (by omega) (Ev.now _))
  | succ m ih =>
    intro i hi
    have hlt : i < l.length := by omega
    refine Ev.step (fun k => rfl) (Ev.yes (by omega) (Ev.yes (by omega) (Ev.yes (by omega) ?_)))
    rw [rd_row hlt]
    refine Ev.bind (laws_eqIntS.evB _ (hl.2 _ (List.getElem_mem hlt))) (Ev.yes rfl ?_)
    rw [w64 (x := (i : Int) + 1) (by omega) (by omega)]
    exact ih (i + 1) (by omega)
theorem laws_eqIntSS.ev (l : List (List Int)) (hl : RowsV l) : Ev (fun k => laws_eqIntSS.f k l l) true := by
  unfold laws_eqIntSS.f
  exact Ev.yes rfl (laws_eqIntSS.lev l hl l.length 0 (by omega))
theorem laws_eqPins.ev (n : Int) (l : List (List Int)) (hl : RowsV l) : Ev (fun k => laws_eqPins.f k n l n l) true := by
  unfold laws_eqPins.f
  exact Ev.yes rfl (Ev.bind (laws_eqIntSS.ev l hl) (Ev.yes rfl (Ev.now _)))
theorem laws_eqPinsS.lev (l : List S41) (hl1 : l.length ≤ 9223372036854775807) (hl : ∀ p ∈ l, RowsV p.f1) : ∀ (m i : Nat), i + m = l.length → Ev (fun k => laws_eqPinsS.l0 k l l (i : Nat)) true := by
  intro m
  induction m with
  | zero => intro i hi; exact Ev.step (fun k => rfl) (Ev.no (by omega) (Ev.now _))
  | succ m ih =>
    intro i hi
    have hlt : i < l.length := by omega
    refine Ev.step (fun k => rfl) (Ev.yes (by omega) (Ev.yes (by omega) (Ev.yes (by omega) ?_)))
    rw [rd_pins hlt]
    refine Ev.bind (laws_eqPins.ev _ _ (hl _ (List.getElem_mem hlt))) (Ev.yes rfl ?_)
    rw [w64 (x := (i : Int) + 1) (by omega) (by omega)]
    exact ih (i + 1) (by omega)
theorem laws_eqPinsS.ev (l : List S41) (hl1 : l.length ≤ 9223372036854775807) (hl : ∀ p ∈ l, RowsV p.f1) : Ev (fun k => laws_eqPinsS.f k l l) true := by
  unfold laws_eqPinsS.f
  exact Ev.yes rfl (laws_eqPinsS.lev l hl1 hl l.length 0 (by omega))
/-! Joined pins and counted keys: what they come to. -/
theorem spec_l1Has.lev (a : Int) (l : List Int) (hl : l.length ≤ 9223372036854775807) : ∀ (m i : Nat), i + m = l.length → Ev (fun k => spec_l1Has.l0 k a l (l.length : Int) (i : Nat)) ((l.drop i).contains a) := by
  intro m
  induction m with
  | zero =>
    intro i hi
    refine Ev.step (fun k => rfl) (Ev.no (by omega) (Ev.id ?_))
    rw [List.drop_eq_nil_of_le (by omega)]; rfl
  | succ m ih =>
    intro i hi
    have hlt : i < l.length := by omega
    refine Ev.step (fun k => rfl) (Ev.yes (by omega) (Ev.yes (by omega) (Ev.yes (by omega) ?_)))
    rw [rd_int hlt, List.drop_eq_getElem_cons hlt, List.contains_cons]
    by_cases h : l[i] = a
    · exact Ev.yes h (Ev.id (by simp [h]))
    · refine Ev.no h ?_
      rw [w64 (x := (i : Int) + 1) (by omega) (by omega), show (a == l[i]) = false from beq_eq_false_iff_ne.mpr (fun e => h e.symm), Bool.false_or]
      exact ih (i + 1) (by omega)
theorem spec_l1Has.ev (l : List Int) (a : Int) (hl : l.length ≤ 9223372036854775807) : Ev (fun k => spec_l1Has.f k l a) (l.contains a) := by
  unfold spec_l1Has.f
  have := spec_l1Has.lev a l hl l.length 0 (by omega)
  simpa using this
theorem slices_Index_int_int.lev (a : Int) (l : List Int) (hl : l.length ≤ 9223372036854775807) : ∀ (m i : Nat), i + m = l.length → ∃ r : Int, Ev (fun k => slices_Index_int_int.l0 k l a (l.length : Int) (i : Nat)) r ∧ decide (r ≥ 0) = (l.drop i).contains a := by
  intro m
  induction m with
  | zero =>
    intro i hi
    refine ⟨-1, Ev.step (fun k => rfl) (Ev.no (by omega) (Ev.now _)), ?_⟩
    rw [List.drop_eq_nil_of_le (by omega)]; rfl
  | succ m ih =>
    intro i hi
    have hlt : i < l.length := by omega
    rw [List.drop_eq_getElem_cons hlt, List.contains_cons]
    by_cases h : a = l[i]
    · refine ⟨(i : Nat), Ev.step (fun k => rfl) (Ev.yes (by omega) (Ev.yes (by omega) (Ev.yes (by omega) ?_))), ?_⟩
      · rw [rd_int hlt]; exact Ev.yes h (Ev.now _)
      · rw [show (a == l[i]) = true from beq_iff_eq.mpr h]; simp
    · obtain ⟨r, he, hr⟩ := ih (i + 1) (by omega)
      refine ⟨r, Ev.step (fun k => rfl) (Ev.yes (by omega) (Ev.yes (by omega) (Ev.yes (by omega) ?_))), ?_⟩
      · rw [rd_int hlt, w64 (x := (i : Int) + 1) (by omega) (by omega)]; exact Ev.no h he
      · rw [show (a == l[i]) = false from beq_eq_false_iff_ne.mpr h, Bool.false_or]; exact hr
theorem slices_Contains_int_int.ev (l : List Int) (a : Int) (hl : l.length ≤ 9223372036854775807) : Ev (fun k => slices_Contains_int_int.f k l a) (l.contains a) := by
  unfold slices_Contains_int_int.f slices_Index_int_int.f
  obtain ⟨r, he, hr⟩ := slices_Index_int_int.lev a l hl l.length 0 (by omega)
  refine Ev.bind he (Ev.id ?_)
  rw [hr]; simp
theorem impl_Pins_keys.lev (l : List (List Int)) (hl1 : l.length ≤ 9223372036854775807) : ∀ (m i : Nat) (a : Int), i + m = l.length → Ev (fun k => impl_Pins_keys.l0 k a l (l.length : Int) (i : Nat)) ((l.drop i).foldl (fun n r => wrap64 (n * r.length)) a) := by
  intro m
  induction m with
  | zero =>
    intro i a hi
    refine Ev.step (fun k => rfl) (Ev.no (by omega) (Ev.id ?_))
    rw [List.drop_eq_nil_of_le (by omega)]; rfl
  | succ m ih =>
    intro i a hi
    have hlt : i < l.length := by omega
    refine Ev.step (fun k => rfl) (Ev.yes (by omega) (Ev.yes (by omega) (Ev.yes (by omega) ?_)))
    rw [rd_row hlt, List.drop_eq_getElem_cons hlt, List.foldl_cons, w64 (x := (i : Int) + 1) (by omega) (by omega)]
    exact ih (i + 1) _ (by omega)
theorem impl_Pins_keys.ev (n : Int) (l : List (List Int)) (hl1 : l.length ≤ 9223372036854775807) : Ev (fun k => impl_Pins_keys.f k n l) (keysF l) := by
  unfold impl_Pins_keys.f keysF
  have := impl_Pins_keys.lev l hl1 l.length 0 1 (by omega)
  simpa using this
theorem spec_keCount.lev (l : List (List Int)) (hl1 : l.length ≤ 9223372036854775807) : ∀ (m i : Nat) (a : Int), i + m = l.length → Ev (fun k => spec_keCount.l0 k a l (l.length : Int) (i : Nat)) ((l.drop i).foldl (fun n r => wrap64 (n * r.length)) a) := by
  intro m
  induction m with
  | zero =>
    intro i a hi
    refine Ev.step (fun k => rfl) (Ev.no (by omega) (Ev.id ?_))
    rw [List.drop_eq_nil_of_le (by omega)]; rfl
  | succ m ih =>
    intro i a hi
    have hlt : i < l.length := by omega
    refine Ev.step (fun k => rfl) (Ev.yes (by omega) (Ev.yes (by omega) (Ev.yes (by omega) ?_)))
    rw [rd_row hlt, List.drop_eq_getElem_cons hlt, List.foldl_cons, w64 (x := (i : Int) + 1) (by omega) (by omega)]
    exact ih (i + 1) _ (by omega)
theorem spec_keCount.ev (n : Int) (l : List (List Int)) (hl1 : l.length ≤ 9223372036854775807) : Ev (fun k => spec_keCount.f k n l) (keysF l) := by
  unfold spec_keCount.f keysF
  have := spec_keCount.lev l hl1 l.length 0 1 (by omega)
  simpa using this
/-! spec.keJoin -/
theorem spec_keJoin.lev1 (b : Bool) (n : Nat) (hn : n ≤ 9) (x y : List (List Int)) (m' : Int) (i : Nat) (hi : i < x.length) (hiy : i < y.length) (hx : RowsV x) (hy : RowsV y) (R : List (List Int)) (hR : R.length ≤ 1000) (o : Int × List (List Int))
    (hgo : Ev (fun k => spec_keJoin.l0 k b x (x.length : Int) (wrap64 ((i : Int) + 1)) (n : Int) x m' y (n : Int) (R ++ [(rngFrom 0 n).filter (joinT b x[i] y[i])])) o) :
    ∀ (m d : Nat), d + m = n → Ev (fun k => spec_keJoin.l1 k b (i : Int) x[i] ((rngFrom 0 d).filter (joinT b x[i] y[i])) (d : Int) x (x.length : Int) (i : Int) (n : Int) x m' y (n : Int) R) o := by
  intro m
  induction m with
  | zero =>
    intro d hd
    obtain rfl : d = n := by omega
    refine Ev.step (fun k => rfl) (Ev.no (by omega) (Ev.yes (by omega) hgo))
  | succ m ih =>
    intro d hd
    have hx1 := hx.1
    refine Ev.step (fun k => rfl) (Ev.yes (by omega) (Ev.bind (spec_l1Has.ev _ _ (hx.2 _ (List.getElem_mem hi))) (Ev.yes (by omega) (Ev.yes (by omega) ?_))))
    rw [rd_row hiy]
    refine Ev.bind (spec_l1Has.ev _ _ (hy.2 _ (List.getElem_mem hiy))) ?_
    have hw : wrap64 ((d : Int) + 1) = ((d + 1 : Nat) : Int) := w64 (by omega) (by omega)
    have hl := filter_len_le (joinT b x[i] y[i]) (rngFrom 0 d)
    rw [rngFrom_len] at hl
    have hgo' := ih (d + 1) (by omega)
    have hs : rngFrom 0 (d + 1) = rngFrom 0 d ++ [(d : Int)] := by unfold rngFrom; rw [List.range'_concat]; simp
    rw [hs, List.filter_append] at hgo'
    rw [hw]
    cases e1 : x[i].contains (d : Int) <;> cases e2 : y[i].contains (d : Int) <;> cases b
    · rw [show List.filter (joinT false x[i] y[i]) [(d : Int)] = [] by rw [List.filter_cons]; simp only [joinT, e1, e2]; rfl, List.append_nil] at hgo'
      exact Ev.no (by simp) (Ev.no (by simp) (Ev.no (by simp) hgo'))
    · rw [show List.filter (joinT true x[i] y[i]) [(d : Int)] = [] by rw [List.filter_cons]; simp only [joinT, e1, e2]; rfl, List.append_nil] at hgo'
      exact Ev.no (by simp) (Ev.yes rfl hgo')
    · rw [show List.filter (joinT false x[i] y[i]) [(d : Int)] = [(d : Int)] by rw [List.filter_cons]; simp only [joinT, e1, e2]; rfl] at hgo'
      exact Ev.no (by simp) (Ev.no (by simp) (Ev.yes rfl (Ev.yes (by omega) hgo')))
    · rw [show List.filter (joinT true x[i] y[i]) [(d : Int)] = [] by rw [List.filter_cons]; simp only [joinT, e1, e2]; rfl, List.append_nil] at hgo'
      exact Ev.no (by simp) (Ev.yes rfl hgo')
    · rw [show List.filter (joinT false x[i] y[i]) [(d : Int)] = [(d : Int)] by rw [List.filter_cons]; simp only [joinT, e1, e2]; rfl] at hgo'
      exact Ev.yes rfl (Ev.no (by simp) (Ev.no (by simp) (Ev.yes (by omega) hgo')))
    · rw [show List.filter (joinT true x[i] y[i]) [(d : Int)] = [] by rw [List.filter_cons]; simp only [joinT, e1, e2]; rfl, List.append_nil] at hgo'
      exact Ev.yes rfl (Ev.no (by simp) (Ev.yes rfl hgo'))
    · rw [show List.filter (joinT false x[i] y[i]) [(d : Int)] = [(d : Int)] by rw [List.filter_cons]; simp only [joinT, e1, e2]; rfl] at hgo'
      exact Ev.yes rfl (Ev.yes rfl (Ev.yes (by omega) hgo'))
    · rw [show List.filter (joinT true x[i] y[i]) [(d : Int)] = [(d : Int)] by rw [List.filter_cons]; simp only [joinT, e1, e2]; rfl] at hgo'
      exact Ev.yes rfl (Ev.yes rfl (Ev.yes (by omega) hgo'))
theorem spec_keJoin.lev0 (b : Bool) (n : Nat) (hn : n ≤ 9) (x y : List (List Int)) (m' : Int) (hxy : x.length ≤ y.length) (hx9 : x.length ≤ 1000) (hx : RowsV x) (hy : RowsV y) :
    ∀ (m i : Nat), i + m = x.length → Ev (fun k => spec_keJoin.l0 k b x (x.length : Int) (i : Int) (n : Int) x m' y (n : Int) ((List.range' 0 i).map fun j => (rngFrom 0 n).filter (joinT b (x.getD j []) (y.getD j [])))) ((n : Int), joinRows b n x y) := by
  intro m
  induction m with
  | zero =>
    intro i hi
    obtain rfl : i = x.length := by omega
    exact Ev.step (fun k => rfl) (Ev.no (by omega) (Ev.now _))
  | succ m ih =>
    intro i hi
    have hlt : i < x.length := by omega
    have hly : i < y.length := by omega
    refine Ev.step (fun k => rfl) (Ev.yes (by omega) (Ev.yes (by omega) (Ev.yes (by omega) ?_)))
    rw [rd_row hlt]
    have h0 : ([] : List Int) = (rngFrom 0 0).filter (joinT b x[i] y[i]) := rfl
    rw [h0]
    refine spec_keJoin.lev1 b n hn x y m' i hlt hly hx hy _ (by simp; omega) _ ?_ n 0 (by omega)
    have hgo := ih (i + 1) (by omega)
    rw [List.range'_concat, List.map_append, List.map_cons, List.map_nil, Nat.zero_add, Nat.one_mul, show x.getD i [] = x[i] from getD_at hlt, show y.getD i [] = y[i] from getD_at hly] at hgo
    rw [w64 (x := (i : Int) + 1) (by omega) (by omega)]
    exact hgo
theorem spec_keJoin.ev (b : Bool) (n : Nat) (hn : n ≤ 9) (x y : List (List Int)) (m' : Int) (hxy : x.length ≤ y.length) (hx9 : x.length ≤ 1000) (hx : RowsV x) (hy : RowsV y) : Ev (fun k => spec_keJoin.f k (n : Int) x m' y b) ((n : Int), joinRows b n x y) := by
  unfold spec_keJoin.f
  exact spec_keJoin.lev0 b n hn x y m' hxy hx9 hx hy x.length 0 (by omega)
theorem rowsOf_v (n m : Nat) (hn : n ≤ 1000) (hm : m ≤ 1000) (f : Nat → Int → Bool) : RowsV (rowsOf n m f) := by
  refine ⟨by rw [rowsOf_len]; omega, fun r hr => ?_⟩
  unfold rowsOf at hr
  obtain ⟨i, _, rfl⟩ := List.mem_map.mp hr
  have := filter_len_le (f i) (rngFrom 0 n)
  rw [rngFrom_len] at this
  omega
/-- Pins of one kind: n depths, m places. -/
def KindL (n m : Nat) (l : List S41) : Prop := n ≤ 9 ∧ m ≤ 7 ∧ ∀ p ∈ l, p.f0 = (n : Int) ∧ p.f1.length = m ∧ RowsV p.f1
theorem keStep_lev (b : Bool) (n m : Nat) : ∀ (l : List S41) (P : List S41), KindL n m l → Ev (fun k => keStep k b (n : Int) (rowsOf n m (inB b P)) l) ((n : Int), rowsOf n m (inB b (P ++ l))) := by
  intro l
  induction l with
  | nil => intro P h; rw [List.append_nil]; exact Ev.now _
  | cons p t ih =>
    intro P h
    obtain ⟨hn, hm, hp⟩ := h
    obtain ⟨h0, h1, h2⟩ := hp p List.mem_cons_self
    have hj := spec_keJoin.ev b n hn (rowsOf n m (inB b P)) p.f1 p.f0 (by rw [rowsOf_len]; omega) (by rw [rowsOf_len]; omega) (rowsOf_v n m (by omega) (by omega) _) h2
    rw [joinRows_step] at hj
    have hgo := ih (P ++ [p]) ⟨hn, hm, fun q hq => hp q (List.mem_cons_of_mem _ hq)⟩
    rw [List.append_assoc] at hgo
    exact Ev.bind hj hgo
theorem spec_keJoined.ev (b : Bool) (n m : Nat) (l : List S41) (hne : 0 < l.length) (h : KindL n m l) : Ev (fun k => spec_keJoined.f k l b) ((n : Int), rowsOf n m (inB b l)) := by
  unfold spec_keJoined.f
  refine Ev.no (by omega) ?_
  cases l with
  | nil => simp at hne
  | cons q t =>
    obtain ⟨hn, hm, hp⟩ := h
    obtain ⟨h0, h1, h2⟩ := hp q List.mem_cons_self
    have hq : rd_T41 (q :: t) 0 = q := rfl
    rw [hq, h0]
    have hj := spec_keJoin.ev b n hn q.f1 q.f1 q.f0 (Nat.le_refl _) (by omega) h2 h2
    rw [joinRows_first, h1] at hj
    have hgo := keStep_lev b n m t [q] ⟨hn, hm, fun p hq => hp p (List.mem_cons_of_mem _ hq)⟩
    exact Ev.bind hj hgo
/-! impl.joined -/
def cntP (l : List S41) (i : Nat) (d : Int) : Nat := l.countP fun p => (p.f1.getD i []).contains d
theorem wr_succ {c : Nat} (h : c ≤ 1000) : wrap64 ((c : Int) + 1) = ((c + 1 : Nat) : Int) := w64 (by omega) (by omega)
theorem impl_joined.lev2 (l : List S41) (a : Int) (n m : Nat) (h : KindL n m l) (hl1 : l.length ≤ 1000) (i : Nat) (him : i < m) (row : List Int) (d : Nat) (mI : Int) (R : List (List Int)) (hrow : row.length ≤ 1000) (o : Int × List (List Int)) (t : Nat)
    (hgo : Ev (fun k => impl_joined.l1 k l a (i : Int) (if a ≤ (t : Int) then row ++ [(d : Int)] else row) mI (i : Int) (n : Int) (wrap64 ((d : Int) + 1)) (n : Int) R) o) :
    ∀ (q j : Nat) (c : Nat), j + q = l.length → c ≤ j → c + ((l.drop j).countP fun p => (p.f1.getD i []).contains (d : Int)) = t → Ev (fun k => impl_joined.l2 k l a (i : Int) row (d : Int) (c : Int) mI (i : Int) (n : Int) (d : Int) l (l.length : Int) (j : Int) (n : Int) R) o := by
  intro q
  induction q with
  | zero =>
    intro j c hj hc hcnt
    rw [List.drop_eq_nil_of_le (by omega)] at hcnt
    simp at hcnt
    refine Ev.step (fun k => rfl) (Ev.no (by omega) ?_)
    rw [← hcnt] at hgo
    by_cases e : a ≤ (c : Int)
    · rw [if_pos e] at hgo
      exact Ev.yes (by omega) (Ev.yes (by omega) hgo)
    · rw [if_neg e] at hgo
      exact Ev.no (by omega) hgo
  | succ q ih =>
    intro j c hj hc hcnt
    have hlt : j < l.length := by omega
    have hw := amk (wr_succ (c := j) (by omega))
    have hw2 := amk (wr_succ (c := c) (by omega))
    have u1 : j + 1 + q = l.length := by omega
    have u2 : c + 1 ≤ j + 1 := by omega
    have u3 : c ≤ j + 1 := by omega
    obtain ⟨hn, hm, hp⟩ := h
    obtain ⟨p0, p1, p2⟩ := hp l[j] (List.getElem_mem hlt)
    refine Ev.step (fun k => rfl) (Ev.yes (by omega) (Ev.yes (by omega) (Ev.yes (by omega) (Ev.yes (by omega) ?_))))
    rw [rd_pins hlt]
    refine Ev.yes (by omega) ?_
    rw [rd_row (by omega)]
    refine Ev.bind (slices_Contains_int_int.ev _ _ (p2.2 _ (List.getElem_mem _))) ?_
    rw [List.drop_eq_getElem_cons hlt, List.countP_cons, show l[j].f1.getD i [] = l[j].f1[i] from getD_at (by omega)] at hcnt
    rw [hw.out]
    have ih1 := ih (j + 1)
    clear ih
    generalize (l.drop (j + 1)).countP (fun p => (p.f1.getD i []).contains (d : Int)) = v at hcnt ih1
    cases e : l[j].f1[i].contains (d : Int) with
    | true =>
      rw [e] at hcnt
      refine Ev.yes rfl ?_
      rw [if_pos rfl] at hcnt
      rw [hw2.out]
      exact ih1 (c + 1) u1 u2 (by rw [← hcnt, Nat.add_assoc, Nat.add_comm 1 v])
    | false =>
      rw [e] at hcnt
      refine Ev.no (by simp) ?_
      rw [if_neg (by simp)] at hcnt
      exact ih1 c u1 u3 hcnt
theorem impl_joined.lev1 (l : List S41) (a : Int) (n m : Nat) (h : KindL n m l) (hl1 : l.length ≤ 1000) (i : Nat) (him : i < m) (mI : Int) (R : List (List Int)) (hR : R.length ≤ 1000) (o : Int × List (List Int))
    (hgo : Ev (fun k => impl_joined.l0 k l a mI (wrap64 ((i : Int) + 1)) (n : Int) (R ++ [(rngFrom 0 n).filter fun d => decide (a ≤ (cntP l i d : Int))])) o) :
    ∀ (q d : Nat), d + q = n → Ev (fun k => impl_joined.l1 k l a (i : Int) ((rngFrom 0 d).filter fun d => decide (a ≤ (cntP l i d : Int))) mI (i : Int) (n : Int) (d : Int) (n : Int) R) o := by
  have hn := h.1
  intro q
  induction q with
  | zero =>
    intro d hd
    obtain rfl : d = n := by omega
    exact Ev.step (fun k => rfl) (Ev.no (by omega) (Ev.yes (by omega) hgo))
  | succ q ih =>
    intro d hd
    have hl := filter_len_le (fun d => decide (a ≤ (cntP l i d : Int))) (rngFrom 0 d)
    rw [rngFrom_len] at hl
    refine Ev.step (fun k => rfl) (Ev.yes (by omega) ?_)
    refine impl_joined.lev2 l a n m h hl1 i him _ d mI R (by omega) o (cntP l i (d : Int)) ?_ l.length 0 0 (by omega) (by omega) (by rw [List.drop_zero, Nat.zero_add]; rfl)
    rw [w64 (x := (d : Int) + 1) (by omega) (by omega)]
    have hgo' := ih (d + 1) (by omega)
    have hs : rngFrom 0 (d + 1) = rngFrom 0 d ++ [(d : Int)] := by unfold rngFrom; rw [List.range'_concat]; simp
    rw [hs, List.filter_append] at hgo'
    by_cases e : a ≤ (cntP l i (d : Int) : Int)
    · rw [if_pos e]
      rw [show List.filter (fun d => decide (a ≤ (cntP l i d : Int))) [(d : Int)] = [(d : Int)] by simp [e]] at hgo'
      exact hgo'
    · rw [if_neg e]
      rw [show List.filter (fun d => decide (a ≤ (cntP l i d : Int))) [(d : Int)] = [] by simp [e], List.append_nil] at hgo'
      exact hgo'
theorem impl_joined.lev0 (l : List S41) (a : Int) (n m : Nat) (h : KindL n m l) (hl1 : l.length ≤ 1000) :
    ∀ (q i : Nat), i + q = m → Ev (fun k => impl_joined.l0 k l a (m : Int) (i : Int) (n : Int) (rowsOf n i fun i d => decide (a ≤ (cntP l i d : Int)))) ((n : Int), rowsOf n m fun i d => decide (a ≤ (cntP l i d : Int))) := by
  have hm := h.2.1
  intro q
  induction q with
  | zero =>
    intro i hi
    obtain rfl : i = m := by omega
    exact Ev.step (fun k => rfl) (Ev.no (by omega) (Ev.now _))
  | succ q ih =>
    intro i hi
    refine Ev.step (fun k => rfl) (Ev.yes (by omega) ?_)
    have hgo := ih (i + 1) (by omega)
    have hs : rowsOf n (i + 1) (fun i d => decide (a ≤ (cntP l i d : Int))) = rowsOf n i (fun i d => decide (a ≤ (cntP l i d : Int))) ++ [(rngFrom 0 n).filter fun d => decide (a ≤ (cntP l i d : Int))] := by
      unfold rowsOf
      rw [List.range'_concat, List.map_append, List.map_cons, List.map_nil, Nat.zero_add, Nat.one_mul]
    rw [hs, show ((i + 1 : Nat) : Int) = wrap64 ((i : Int) + 1) from (w64 (by omega) (by omega)).symm] at hgo
    have h1 := impl_joined.lev1 l a n m h hl1 i (by omega) (m : Int) _ (by rw [rowsOf_len]; omega) _ hgo n 0 (by omega)
    rw [rngFrom_zero, List.filter_nil] at h1
    exact h1
theorem impl_joined.ev (l : List S41) (a : Int) (n m : Nat) (hne : 0 < l.length) (h : KindL n m l) (hl1 : l.length ≤ 1000) : Ev (fun k => impl_joined.f k l a) ((n : Int), rowsOf n m fun i d => decide (a ≤ (cntP l i d : Int))) := by
  unfold impl_joined.f
  refine Ev.yes (by omega) ?_
  have hq : rd_T41 l 0 = l[0] := rd_pins hne
  obtain ⟨h0, h1, _⟩ := h.2.2 l[0] (List.getElem_mem hne)
  rw [hq, h0, h1]
  exact impl_joined.lev0 l a n m h hl1 m 0 (by omega)
theorem impl_shared.ev (l : List S41) (n m : Nat) (hne : 0 < l.length) (h : KindL n m l) (hl1 : l.length ≤ 1000) : Ev (fun k => impl_shared.f k l) ((n : Int), rowsOf n m (inB true l)) := by
  unfold impl_shared.f
  refine Ev.bind (impl_joined.ev l _ n m hne h hl1) (Ev.id ?_)
  rw [Prod.mk.injEq]
  refine ⟨rfl, ?_⟩
  apply rowsOf_congr
  intro i _ d _
  rw [← inB_count_all l i d]
  unfold cntP
  simp
theorem kindB_KindL {l : List S41} (h : kindB l = true) (hv : ∀ p ∈ l, RowsV p.f1) : ∃ n m : Nat, KindL n m l ∧ 0 < l.length ∧ l.length ≤ 6 := by
  obtain ⟨⟨h1, h2⟩, h3⟩ := kindB_parts h
  obtain ⟨a1, a2, a3⟩ := pinsB_parts (h3 l[0] (List.getElem_mem h1)).1
  refine ⟨l[0].f0.toNat, l[0].f1.length, ⟨by omega, a2.2, fun p hp => ?_⟩, h1, h2⟩
  obtain ⟨_, b2, b3⟩ := h3 p hp
  have hq : rd_T41 l 0 = l[0] := rd_pins h1
  rw [hq] at b2 b3
  exact ⟨by omega, b3, hv p hp⟩
/-! spec's pins: what they come to. -/
theorem spec_l1Rising.lev (n : Int) (hn : 1 ≤ n ∧ n ≤ 9) (l : List Int) (hl : l.length ≤ 9223372036854775807) : ∀ (m i : Nat), i + m = l.length → (-1 ≤ lastI l i) → Ev (fun k => spec_l1Rising.l0 k l 0 (n - 1) l (l.length : Int) (i : Nat)) (risF n (lastI l i) (l.drop i)) := by
  intro m
  induction m with
  | zero =>
    intro i hi _
    refine Ev.step (fun k => rfl) (Ev.no (by omega) (Ev.id ?_))
    rw [List.drop_eq_nil_of_le (by omega)]
    rfl
  | succ m ih =>
    intro i hi hq
    have hlt : i < l.length := by omega
    have hr : rd l (i : Nat) = l[i] := rd_int hlt
    refine Ev.step (fun k => rfl) (Ev.yes (by omega) (Ev.yes (by omega) (Ev.yes (by omega) (Ev.bindc (spec_l1In.bs _ _ _) ?_))))
    rw [hr, List.drop_eq_getElem_cons hlt]
    unfold risF
    have hw : wrap64 ((i : Int) + 1) = ((i + 1 : Nat) : Int) := w64 (by omega) (by omega)
    have hla : lastI l (i + 1) = l[i] := lastI_at hlt
    by_cases h1 : 0 ≤ l[i] ∧ l[i] ≤ n - 1
    · refine Ev.yes (decide_eq_true h1) ?_
      have hgo := ih (i + 1) (by omega) (by rw [hla]; omega)
      rw [hla] at hgo
      cases i with
      | zero =>
        refine Ev.no (by omega) ?_
        rw [hw]
        refine Ev.eq hgo ?_
        have h2 : decide (lastI l 0 < l[0]) = true := decide_eq_true (show (-1 : Int) < l[0] by omega)
        have h3 : decide (l[0] ≤ n - 1) = true := decide_eq_true h1.2
        rw [h2, h3]; rfl
      | succ i =>
        have hp : wrap64 (((i + 1 : Nat) : Int) - 1) = (i : Nat) := by rw [w64 (by omega) (by omega)]; omega
        have hr1 : rd l (i : Nat) = l[i] := rd_int (by omega)
        have hlb : lastI l (i + 1) = l[i] := lastI_at (by omega)
        refine Ev.yes (by omega) ?_
        rw [hp, hr1, hlb]
        refine Ev.yes (by omega) (Ev.yes (by omega) ?_)
        by_cases h2 : l[i] ≥ l[i + 1]
        · refine Ev.yes h2 (Ev.id ?_)
          rw [decide_eq_false (by omega : ¬ l[i] < l[i + 1])]; rfl
        · refine Ev.no h2 ?_
          rw [hw]
          refine Ev.eq hgo ?_
          rw [decide_eq_true (by omega : l[i] < l[i + 1]), decide_eq_true h1.2]; rfl
    · refine Ev.no (by rw [decide_eq_false h1]; simp) (Ev.id ?_)
      by_cases h2 : lastI l i < l[i]
      · have h3 : ¬ l[i] ≤ n - 1 := fun h => h1 ⟨by omega, h⟩
        rw [decide_eq_false h3]; simp
      · rw [decide_eq_false h2]; rfl
theorem spec_l1Rising.ev (n : Int) (hn : 1 ≤ n ∧ n ≤ 9) (l : List Int) (hl : l.length ≤ 9223372036854775807) : Ev (fun k => spec_l1Rising.f k l 0 (n - 1)) (risF n (-1) l) := by
  unfold spec_l1Rising.f
  exact spec_l1Rising.lev n hn l hl l.length 0 (by omega) (show (-1 : Int) ≤ -1 by omega)
theorem spec_keGood.lev (n : Int) (hn : 1 ≤ n ∧ n ≤ 9) (l : List (List Int)) (hl : RowsV l) : ∀ (m i : Nat), i + m = l.length → Ev (fun k => spec_keGood.l0 k l (l.length : Int) (i : Nat) n l) ((l.drop i).all (rowB n)) := by
  have hl1 := hl.1
  intro m
  induction m with
  | zero =>
    intro i hi
    refine Ev.step (fun k => rfl) (Ev.no (by omega) (Ev.id ?_))
    rw [List.drop_eq_nil_of_le (by omega)]; rfl
  | succ m ih =>
    intro i hi
    have hlt : i < l.length := by omega
    refine Ev.step (fun k => rfl) (Ev.yes (by omega) (Ev.yes (by omega) (Ev.yes (by omega) ?_)))
    rw [rd_row hlt, List.drop_eq_getElem_cons hlt, List.all_cons]
    have hx := hl.2 l[i] (List.getElem_mem hlt)
    have hgo := ih (i + 1) (by omega)
    generalize l[i] = x at hx ⊢
    unfold rowB
    by_cases h0 : (x.length : Int) = 0
    · refine Ev.yes h0 (Ev.id ?_)
      obtain rfl : x = [] := List.length_eq_zero_iff.mp (by omega)
      rfl
    · refine Ev.no h0 ?_
      have h1 : (!x.isEmpty) = true := by cases x <;> simp_all
      rw [w64 (x := n - 1) (by omega) (by omega), h1, Bool.true_and]
      refine Ev.bind (spec_l1Rising.ev n hn x hx) ?_
      cases risF n (-1) x with
      | false => exact Ev.no (by simp) (Ev.id rfl)
      | true =>
        refine Ev.yes rfl ?_
        rw [w64 (x := (i : Int) + 1) (by omega) (by omega), Bool.true_and]
        exact hgo
theorem spec_keGood.ev (n : Int) (l : List (List Int)) (hl : RowsV l) : Ev (fun k => spec_keGood.f k n l) (pinsB n l) := by
  unfold spec_keGood.f pinsB
  refine Ev.bindc (spec_l1In.bs _ _ _) ?_
  by_cases h1 : 1 ≤ n ∧ n ≤ 9
  · rw [decide_eq_true h1]
    refine Ev.yes rfl (Ev.bindc (spec_l1In.bs _ _ _) (Ev.step (fun k => rfl) ?_))
    simp only [spec_keGood.j0]
    by_cases h2 : 1 ≤ (l.length : Int) ∧ (l.length : Int) ≤ 7
    · rw [decide_eq_true h2]
      refine Ev.no (by simp) ?_
      have := spec_keGood.lev n h1 l hl l.length 0 (by omega)
      simpa using this
    · rw [decide_eq_false h2]
      exact Ev.yes (by simp) (Ev.id (by simp))
  · rw [decide_eq_false h1]
    refine Ev.no (by simp) (Ev.step (fun k => rfl) ?_)
    simp only [spec_keGood.j0]
    exact Ev.yes trivial (Ev.id (by simp))
theorem spec_keKind.is (n : Int) (x : List (List Int)) (m : Int) (y : List (List Int)) : spec_keKind.f n x m y = some ((n == m) && (x.length == y.length)) := by
  unfold spec_keKind.f
  by_cases h : n = m
  · rw [if_pos h, h]
    congr 1
    rw [Bool.eq_iff_iff]
    simp only [beq_iff_eq, Bool.and_eq_true, true_and]
    omega
  · rw [if_neg h]
    simp [h]
theorem spec_keList.lev (l : List S41) (hl1 : l.length ≤ 9223372036854775807) (hl : ∀ p ∈ l, RowsV p.f1) : ∀ (m i : Nat), i + m = l.length → Ev (fun k => spec_keList.l0 k l l (l.length : Int) (i : Nat)) ((l.drop i).all fun p => pinsB p.f0 p.f1 && (p.f0 == (rd_T41 l 0).f0) && (p.f1.length == (rd_T41 l 0).f1.length)) := by
  intro m
  induction m with
  | zero =>
    intro i hi
    refine Ev.step (fun k => rfl) (Ev.no (by omega) (Ev.id ?_))
    rw [List.drop_eq_nil_of_le (by omega)]; rfl
  | succ m ih =>
    intro i hi
    have hlt : i < l.length := by omega
    refine Ev.step (fun k => rfl) (Ev.yes (by omega) (Ev.yes (by omega) (Ev.yes (by omega) ?_)))
    rw [rd_pins hlt, List.drop_eq_getElem_cons hlt, List.all_cons]
    refine Ev.bind (spec_keGood.ev _ _ (hl _ (List.getElem_mem hlt))) ?_
    have hgo := ih (i + 1) (by omega)
    cases pinsB l[i].f0 l[i].f1 with
    | false => exact Ev.no (by simp) (Ev.id (by simp))
    | true =>
      refine Ev.yes rfl (Ev.yes (by omega) (Ev.bindc (spec_keKind.is _ _ _ _) ?_))
      rw [Bool.true_and]
      cases (l[i].f0 == (rd_T41 l 0).f0) && (l[i].f1.length == (rd_T41 l 0).f1.length) with
      | false => exact Ev.no (by simp) (Ev.id rfl)
      | true =>
        refine Ev.yes rfl ?_
        rw [w64 (x := (i : Int) + 1) (by omega) (by omega), Bool.true_and]
        exact hgo
theorem spec_keList.ev (l : List S41) (hl1 : l.length ≤ 9223372036854775807) (hl : ∀ p ∈ l, RowsV p.f1) : Ev (fun k => spec_keList.f k l) (kindB l) := by
  unfold spec_keList.f kindB
  refine Ev.bindc (spec_l1In.bs _ _ _) ?_
  by_cases h1 : 1 ≤ (l.length : Int) ∧ (l.length : Int) ≤ 6
  · rw [decide_eq_true h1]
    refine Ev.yes rfl ?_
    have := spec_keList.lev l hl1 hl l.length 0 (by omega)
    simpa using this
  · rw [decide_eq_false h1]
    exact Ev.no (by simp) (Ev.id (by simp))
theorem opens_t3 : Opens Try.prog 3 (Kd.int .i64) IntV := opens_int Try.underlying3
theorem opens_t86 : Opens Try.prog 86 (Kd.slice 3 (Kd.int .i64)) (ListV IntV) := opens_slice Try.underlying86 opens_t3 (by kernel_rfl)
theorem opens_t35 : Opens Try.prog 35 (Kd.slice 86 (Kd.slice 3 (Kd.int .i64))) (ListV (ListV IntV)) := opens_slice Try.underlying35 opens_t86 (by kernel_rfl)
def V37 (x : S37) : Prop := IntV x.f0 ∧ (ListV (ListV IntV)) x.f1
theorem opens_t37 : Opens Try.prog 37 k37 V37 := opens_iso (opens_pair Try.underlying37 opens_t3 opens_t35 (by kernel_rfl) (by kernel_rfl) (by kernel_rfl) (by kernel_rfl) (by kernel_rfl)) (fun x : S37 => (x.f0, x.f1)) (fun p => ⟨p.1, p.2⟩) (fun _ => rfl)
theorem opens_t54 : Opens Try.prog 54 (Kd.slice 37 k37) (ListV V37) := opens_slice Try.underlying54 opens_t37 (by kernel_rfl)
/-! The law FnExactCountShared, over numbers and lists alone. -/
theorem pure_FnExactCountShared (l : List S37) (hp : ListV V37 l) : ∃ k, laws_FnExactCountShared.f k l = some true := by
  refine Ev.rounds ?_
  obtain ⟨hn, hv⟩ := hp
  unfold laws_FnExactCountShared.f
  have hrows : ∀ p ∈ l, RowsV p.f1 := fun p hp => ⟨(hv p hp).2.1, fun r hr => ((hv p hp).2.2 r hr).1⟩
  obtain ⟨r, he, hf⟩ := laws_szPinsS.ev l hn hrows
  refine Ev.bind he ?_
  by_cases h : 0 ≤ r
  · obtain ⟨f1, f2⟩ := hf h
    have hto := laws_toPinsS.ev l f1 f2
    have hv2 : ∀ p ∈ l.map pinsOf, RowsV p.f1 := by
      intro p hp
      obtain ⟨q, hq, rfl⟩ := List.mem_map.mp hp
      exact (f2 q hq).v
    have hl2 : (l.map pinsOf).length ≤ 9223372036854775807 := by simpa using hn
    have heq := laws_eqPinsS.ev (l.map pinsOf) hl2 hv2
    have hsp : Ev (fun k => spec_CountShared.f k (l.map pinsOf)) (if kindB (l.map pinsOf) = true then (keysF (rowsOf (rd_T41 (l.map pinsOf) 0).f0.toNat (rd_T41 (l.map pinsOf) 0).f1.length (inB true (l.map pinsOf))), true) else (0, false)) ∧ Ev (fun k => impl_CountShared.f k (l.map pinsOf)) (if kindB (l.map pinsOf) = true then (keysF (rowsOf (rd_T41 (l.map pinsOf) 0).f0.toNat (rd_T41 (l.map pinsOf) 0).f1.length (inB true (l.map pinsOf))), true) else (0, false)) := by
      generalize l.map pinsOf = L at hv2 hl2
      unfold spec_CountShared.f impl_CountShared.f impl_ofKind.f
      cases hk : kindB L with
      | false =>
        refine ⟨Ev.bind (spec_keList.ev L hl2 hv2) (Ev.no (by rw [hk]; simp) (Ev.id (by simp))), Ev.bindc rfl (Ev.no (by simp) (Ev.id (by simp)))⟩
      | true =>
        obtain ⟨n, m, hkl, hne, h6⟩ := kindB_KindL hk hv2
        obtain ⟨h0, h1, _⟩ := hkl.2.2 L[0] (List.getElem_mem hne)
        have hq : rd_T41 L 0 = L[0] := rd_pins hne
        have hn0 : L[0].f0.toNat = n := by omega
        have hlen : (rowsOf n m (inB true L)).length ≤ 9223372036854775807 := by rw [rowsOf_len]; have := hkl.2.1; omega
        rw [hq, hn0, h1, if_pos rfl]
        refine ⟨Ev.bind (spec_keList.ev L hl2 hv2) (Ev.yes hk (Ev.bind (spec_keJoined.ev true n m L hne hkl) (Ev.bind (spec_keCount.ev _ _ hlen) (Ev.now _)))), Ev.bindc rfl (Ev.yes rfl (Ev.bind (impl_shared.ev L n m hne hkl (by omega)) (Ev.bind (impl_Pins_keys.ev _ _ hlen) (Ev.now _))))⟩
    refine Ev.no (by omega) (Ev.bind hto (Ev.bind hsp.1 (Ev.bind hto (Ev.bind hsp.2 (Ev.yes rfl (Ev.step (fun k => rfl) ?_))))))
    simp only [laws_FnExactCountShared.j0]
    exact Ev.no (by simp) (Ev.bind hto (Ev.bind heq (Ev.yes rfl (Ev.now _))))
  · exact Ev.yes (by omega) (Ev.now _)
end Go.Proofs.Ytcnjiffoghganaa.P