import Derived.Test.YtcnjiffoghganaaKFnExactAllKeysA0
import Derived.Deep.RegionHeld3
import Derived.ProofKit
import Derived.Lib.SmallJoins
import Derived.Deep.Slices
namespace Go.Proofs.Ytcnjiffoghganaa.P
open Go.RowKit Go.Proofs.YtcnjiffoghganaaW.PrintWords Go.Proofs.YtcnjiffoghganaaW.PrintLast Go.Proofs.YtcnjiffoghganaaW.PrintMore
attribute [local go_sem] max2_int min2_int max_two min_two max_three min_three max_four min_four
set_option linter.unusedVariables false
set_option linter.unusedSimpArgs false
/-! ### spec_keCount: function 84 -/
def spec_keCount.l0 : Nat → Int → List (List Int) → Int → Int → Option (Int)
  | 0, _, _, _, _ => none
  | k + 1, x3, x7, x8, x9 => if x9 < x8 then (if 0 ≤ x9 then (if x9 < (x7.length : Int) then (spec_keCount.l0 k (wrap64 (x3 * ((rd_L5 x7 x9).length : Int))) x7 x8 (wrap64 (x9 + 1))) else (none)) else (none)) else (some x3)
def spec_keCount.f (k : Nat) (a0_0 : Int) (l0_1 : List (List Int)) : Option (Int) := spec_keCount.l0 k 1 l0_1 (l0_1.length : Int) 0
set_option maxHeartbeats 8000000 in
set_option maxRecDepth 100000 in
theorem spec_keCount.calls (k : Nat) (a0_0 : Int) (A0_1 : Option Addr) (c0_1 : Nat) (l0_1 : List (List Int)) (r : Int) (w : World) (hr0_1 : Kd.C (Kd.slice 3 (Kd.int .i64)) w A0_1 l0_1.length l0_1) (hc0_1 : l0_1.length ≤ c0_1) (h : spec_keCount.f k a0_0 l0_1 = some r) :
    Calls Try.prog 84 #[.agg #[.int .i64 a0_0, .slice A0_1 l0_1.length c0_1]] w fun e w' => e = .returned (.int .i64 r) ∧ Below w.heap.size w w' := by
  have hu41 := Try.underlying41
  have HR0_1 := amk hr0_1
  have HC0_1 := amk hc0_1
  clear hr0_1 hc0_1
  have HB := amk (Below.refl w.heap.size w)
  have H : (spec_keCount.l0 k 1 l0_1 (l0_1.length : Int) 0) = some r := h
  clear h
  have H' := amk H
  clear H
  go_enter Try.func84, Try.ntmps84
  go_wp2_with (first | ((with_reducible refine gate_dst (N := 1) rfl ?_); refine box_event ?hg (N := 1) ?hd (cs := #[.int .i64 a0_0, .slice A0_1 l0_1.length c0_1]) (t := 41) ?hr ?_; (case hd => rfl); (case hg => rfl); (case hr => first | (go_simp; done) | (go_simp; rfl)); intro gb461 hg w2 hbox hb; have n0_ := amk (bp_ (by repeat (first | (with_reducible first | exact HB.out | apply ba_ | apply bn_ | apply bd_) | exact HB.out)) hb); have n1_ := amk (hbox); have n2_ := amk ((by rw [hg]; exact (below_size (by repeat (first | (with_reducible first | exact HB.out | apply ba_ | apply bn_ | apply bd_) | exact HB.out))) : w.heap.size ≤ gb461)); have n3_ := amk ((by rw [hg]; exact (below_size (by repeat (first | (with_reducible first | exact HB.out | apply ba_ | apply bn_ | apply bd_) | exact HB.out))) : w.heap.size ≤ gb461)); clear HB; have HB := n0_; have BK461 := n1_; have GW461 := n2_; have GE461 := n3_; clear n0_ n1_ n2_ n3_; clear hb hbox hg; have hcz3_0 : w2.cell? ⟨gb461, 0, none⟩ = some (.int .i64 a0_0) := (blk_cell BK461.out 0).trans rfl; have hcz3_1 : w2.cell? ⟨gb461, 1, none⟩ = some (.slice A0_1 l0_1.length c0_1) := (blk_cell BK461.out 1).trans rfl; have hfz3_0 := blk_frozen BK461.out 0; have hfz3_1 := blk_frozen BK461.out 1))
  go_loopg [3, 9] k (fun kq v3 v9 w' => ∃ (x3_1 : Int) (x9_1 : Int), v3 = .int .i64 x3_1 ∧ v9 = .int .i64 x9_1 ∧ Aside0 (spec_keCount.l0 kq x3_1 l0_1 (l0_1.length : Int) x9_1 = some r) ∧ Aside0 (kq ≤ k) ∧ Aside0 (w'.heap[gb461]? = some (.cells #[.int .i64 a0_0, (.slice A0_1 l0_1.length c0_1)] 41 (0, 0))) ∧ Aside0 (Below w.heap.size w w'))
  case atStart => exact ⟨(1), (0), (by first | rfl | (simp; done) | (simp [*]; done)), (by first | rfl | (simp; done) | (simp [*]; done)), H', ⟨Nat.le_refl _⟩, ⟨by (with_reducible repeat (first | refine kn_ ?_ _ | refine blk_drew ?_ | refine ka_ ?_ _)); exact BK461.out⟩, ⟨by repeat (first | (with_reducible first | exact HB.out | apply ba_ | apply bn_ | apply bd_ | refine bs_ ?_ GE461.out) | exact HB.out)⟩⟩
  case round =>
    clear H'
    try clear p2; try clear hcz3_0; try clear hcz3_1; try clear hfz3_0; try clear hfz3_1
    obtain ⟨x3_1, x9_1, rfl, rfl, HA, HK1, BK461, HB⟩ := hrel
    cases gk with
    | zero => exact absurd HA.out (by simp [spec_keCount.l0])
    | succ k1 =>
      have H := HA.out
      clear HA
      simp only [spec_keCount.l0] at H
      by_cases c4 : x9_1 < (l0_1.length : Int)
      · rw [if_pos c4] at H
        have c4b0 : decide (x9_1 < (l0_1.length : Int)) = true := decide_eq_true c4
        clear c4
        by_cases c5 : 0 ≤ x9_1
        · rw [if_pos c5] at H
          have c5b0 : decide (0 ≤ x9_1) = true := decide_eq_true c5
          clear c5
          by_cases c6 : x9_1 < (l0_1.length : Int)
          · rw [if_pos c6] at H
            have c6b0 : decide (x9_1 < (l0_1.length : Int)) = true := decide_eq_true c6
            clear c6
            have H' := amk H
            clear H
            have p462 : 0 ≤ (x9_1 : Int) := of_decide_eq_true (by first | (with_reducible assumption) | assumption)
            have q462 : x9_1 < (l0_1.length : Int) := of_decide_eq_true (by first | (with_reducible assumption) | assumption)
            obtain ⟨ad462, A462_0, c462_0, e462, hx462_0, hl462_0, hi462_0⟩ := at_L5 HR0_1.out x9_1 p462 q462
            cases e462
            replace hx462_0 := (HB.out.cell (World.block_lt_of_cell? w _ hx462_0)).trans hx462_0
            have HR462_0 := amk hi462_0
            have HC462_0 := amk hl462_0
            clear hi462_0 hl462_0
            replace p462 := eq_true p462
            replace q462 := eq_true q462
            go_wp2
            go_roundg k1
            case measure => have := HK1.out; omega
            case rel => exact ⟨(wrap64 (x3_1 * ((rd_L5 l0_1 x9_1).length : Int))), (wrap64 (x9_1 + 1)), (by first | rfl | (simp; done) | (simp [*]; done)), (by first | rfl | (simp; done) | (simp [*]; done)), H', ⟨by have := HK1.out; omega⟩, ⟨by (with_reducible repeat (first | refine kn_ ?_ _ | refine blk_drew ?_ | refine ka_ ?_ _)); exact BK461.out⟩, ⟨by repeat (first | (with_reducible first | exact HB.out | apply ba_ | apply bn_ | apply bd_ | refine bs_ ?_ GE461.out) | exact HB.out)⟩⟩
          · rw [if_neg c6] at H
            exact absurd H (by simp)
        · rw [if_neg c5] at H
          exact absurd H (by simp)
      · rw [if_neg c4] at H
        have c4b0 : decide (x9_1 < (l0_1.length : Int)) = false := decide_eq_false c4
        clear c4
        obtain rfl := Option.some.inj H
        go_wp2
        go_ret
        exact ⟨by first | rfl | (simp [errW_none, errW_some] <;> rfl) | (simp [*, errW_none, errW_some] <;> rfl), by repeat (first | (with_reducible first | exact HB.out | apply ba_ | apply bn_ | apply bd_ | refine bs_ ?_ GE461.out) | exact HB.out)⟩
/-! ### spec_l1Rising: function 127 -/
def spec_l1Rising.l0 : Nat → List Int → Int → Int → List Int → Int → Int → Option (Bool)
  | 0, _, _, _, _, _, _ => none
  | k + 1, x0, x1, x2, x9, x10, x11 => if x11 < x10 then (if 0 ≤ x11 then (if x11 < (x9.length : Int) then ((spec_l1In.f (rd x9 x11) x1 x2).bind fun t211 => (if t211 = true then (if x11 > 0 then (if 0 ≤ (wrap64 (x11 - 1)) then (if (wrap64 (x11 - 1)) < (x0.length : Int) then (if (rd x0 (wrap64 (x11 - 1))) ≥ (rd x9 x11) then (some false) else (spec_l1Rising.l0 k x0 x1 x2 x9 x10 (wrap64 (x11 + 1)))) else (none)) else (none)) else (spec_l1Rising.l0 k x0 x1 x2 x9 x10 (wrap64 (x11 + 1)))) else (some false))) else (none)) else (none)) else (some true)
def spec_l1Rising.f (k : Nat) (l0 : List Int) (a1 : Int) (a2 : Int) : Option (Bool) := spec_l1Rising.l0 k l0 a1 a2 l0 (l0.length : Int) 0
set_option maxHeartbeats 8000000 in
set_option maxRecDepth 100000 in
theorem spec_l1Rising.calls (k : Nat) (A0 : Option Addr) (c0 : Nat) (l0 : List Int) (a1 : Int) (a2 : Int) (r : Bool) (w : World) (hr0 : Kd.C (Kd.int .i64) w A0 l0.length l0) (hc0 : l0.length ≤ c0) (h : spec_l1Rising.f k l0 a1 a2 = some r) :
    Calls Try.prog 127 #[.slice A0 l0.length c0, .int .i64 a1, .int .i64 a2] w fun e w' => e = .returned (.bool r) ∧ Drawn0 w w' := by
  have HR0 := amk hr0
  have HC0 := amk hc0
  clear hr0 hc0
  have H : (spec_l1Rising.l0 k l0 a1 a2 l0 (l0.length : Int) 0) = some r := h
  clear h
  have H' := amk H
  clear H
  go_enter Try.func127, Try.ntmps127
  go_wp2
  go_loopg [11] k (fun kq v11 w' => ∃ (x11_1 : Int), v11 = .int .i64 x11_1 ∧ Aside0 (spec_l1Rising.l0 kq l0 a1 a2 l0 (l0.length : Int) x11_1 = some r) ∧ Aside0 (kq ≤ k) ∧ Drawn0 w w')
  case atStart => exact ⟨(0), (by first | rfl | (simp; done) | (simp [*]; done)), H', ⟨Nat.le_refl _⟩, by repeat (first | exact Drawn0.refl _ | apply Drawn0.step)⟩
  case round =>
    clear H'
    try clear c1; try clear p2
    obtain ⟨x11_1, rfl, HA, HK1, ⟨m1, rfl⟩⟩ := hrel
    cases gk with
    | zero => exact absurd HA.out (by simp [spec_l1Rising.l0])
    | succ k1 =>
      have H := HA.out
      clear HA
      simp only [spec_l1Rising.l0] at H
      by_cases c4 : x11_1 < (l0.length : Int)
      · rw [if_pos c4] at H
        have c4b0 : decide (x11_1 < (l0.length : Int)) = true := decide_eq_true c4
        clear c4
        by_cases c5 : 0 ≤ x11_1
        · rw [if_pos c5] at H
          have c5b0 : decide (0 ≤ x11_1) = true := decide_eq_true c5
          clear c5
          by_cases c6 : x11_1 < (l0.length : Int)
          · rw [if_pos c6] at H
            have c6b0 : decide (x11_1 < (l0.length : Int)) = true := decide_eq_true c6
            clear c6
            replace H := Option.bind_eq_some_iff.mp H
            obtain ⟨t211, A70, H⟩ := H
            replace H : (if t211 = true then (if x11_1 > 0 then (if 0 ≤ (wrap64 (x11_1 - 1)) then (if (wrap64 (x11_1 - 1)) < (l0.length : Int) then (if (rd l0 (wrap64 (x11_1 - 1))) ≥ (rd l0 x11_1) then (some false) else (spec_l1Rising.l0 k1 l0 a1 a2 l0 (l0.length : Int) (wrap64 (x11_1 + 1)))) else (none)) else (none)) else (spec_l1Rising.l0 k1 l0 a1 a2 l0 (l0.length : Int) (wrap64 (x11_1 + 1)))) else (some false)) = some r := H
            have A7 := amk A70
            clear A70
            by_cases c8 : t211 = true
            · subst c8
              have H1 : (if x11_1 > 0 then (if 0 ≤ (wrap64 (x11_1 - 1)) then (if (wrap64 (x11_1 - 1)) < (l0.length : Int) then (if (rd l0 (wrap64 (x11_1 - 1))) ≥ (rd l0 x11_1) then (some false) else (spec_l1Rising.l0 k1 l0 a1 a2 l0 (l0.length : Int) (wrap64 (x11_1 + 1)))) else (none)) else (none)) else (spec_l1Rising.l0 k1 l0 a1 a2 l0 (l0.length : Int) (wrap64 (x11_1 + 1)))) = some r := by rw [if_pos rfl] at H; exact H
              clear H
              have H := H1
              clear H1
              by_cases c9 : x11_1 > 0
              · rw [if_pos c9] at H
                have c9b0 : decide (0 < x11_1) = true := decide_eq_true c9
                clear c9
                obtain ⟨ji10, hji10⟩ : ∃ j_ : Int, (wrap64 (x11_1 - 1)) = j_ := ⟨_, rfl⟩
                replace H : (if 0 ≤ (ji10) then (if (ji10) < (l0.length : Int) then (if (rd l0 (ji10)) ≥ (rd l0 x11_1) then (some false) else (spec_l1Rising.l0 k1 l0 a1 a2 l0 (l0.length : Int) (wrap64 (x11_1 + 1)))) else (none)) else (none)) = some r := by first | (rw [hji10] at H; exact H) | (simp only [hji10] at H ⊢; exact H)
                (try rw [hji10] at A7)
                have hji10w : (IntKind.i64.wrap (x11_1 - 1)) = ji10 := (i64_w _).trans hji10
                by_cases c11 : 0 ≤ (ji10)
                · rw [if_pos c11] at H
                  have c11b0 : decide (0 ≤ (ji10)) = true := decide_eq_true c11
                  clear c11
                  by_cases c12 : (ji10) < (l0.length : Int)
                  · rw [if_pos c12] at H
                    have c12b0 : decide ((ji10) < (l0.length : Int)) = true := decide_eq_true c12
                    clear c12
                    by_cases c13 : (rd l0 (ji10)) ≥ (rd l0 x11_1)
                    · rw [if_pos c13] at H
                      have c13b0 : decide ((rd l0 x11_1) ≤ (rd l0 (ji10))) = true := decide_eq_true c13
                      clear c13
                      obtain rfl := Option.some.inj H
                      have p210 : 0 ≤ (x11_1 : Int) := of_decide_eq_true (by first | (with_reducible assumption) | assumption)
                      have q210 : x11_1 < (l0.length : Int) := of_decide_eq_true (by first | (with_reducible assumption) | assumption)
                      obtain ⟨ad210, e210, hx210_0⟩ := Kd.at_int HR0.out x11_1 p210 q210
                      cases e210
                      replace p210 := eq_true p210
                      replace q210 := eq_true q210
                      go_wp2_with (first | ((with_reducible refine gate_callee (f := 74) rfl ?_); refine goesL_ (some 19) rfl rfl Try.func74 (by kernel_rfl) rfl #[.int .i64 (rd l0 x11_1), .int .i64 a1, .int .i64 a2] rfl (by (try simp only [List.map_toArray, List.map_cons, List.map_nil]); first | done | rfl | (simp only [List.length_drop, List.length_take]; rfl)) ?_; (with_reducible refine (spec_l1In.calls (rd l0 x11_1) a1 a2 true _ A7.out).mono ?_); rintro e w' ⟨rfl, ⟨nd, rfl⟩⟩; refine ⟨_, rfl, ?_⟩; have p212 : 0 ≤ ((ji10) : Int) := of_decide_eq_true (by first | (with_reducible assumption) | assumption); have q212 : (ji10) < (l0.length : Int) := of_decide_eq_true (by first | (with_reducible assumption) | assumption); obtain ⟨ad212, e212, hx212_0⟩ := Kd.at_int HR0.out (ji10) p212 q212; obtain rfl : ad210 = ad212 := (by injection e212); replace p212 := eq_true p212; replace q212 := eq_true q212))
                      go_ret
                      exact ⟨by first | rfl | (simp; done) | (simp only [← hji10] <;> (first | rfl | simp)) | (simp [*]; done), by repeat (first | exact Drawn0.refl _ | apply Drawn0.step)⟩
                    · rw [if_neg c13] at H
                      have c13b0 : decide ((rd l0 x11_1) ≤ (rd l0 (ji10))) = false := decide_eq_false c13
                      clear c13
                      have H' := amk H
                      clear H
                      have p210 : 0 ≤ (x11_1 : Int) := of_decide_eq_true (by first | (with_reducible assumption) | assumption)
                      have q210 : x11_1 < (l0.length : Int) := of_decide_eq_true (by first | (with_reducible assumption) | assumption)
                      obtain ⟨ad210, e210, hx210_0⟩ := Kd.at_int HR0.out x11_1 p210 q210
                      cases e210
                      replace p210 := eq_true p210
                      replace q210 := eq_true q210
                      go_wp2_with (first | ((with_reducible refine gate_callee (f := 74) rfl ?_); refine goesL_ (some 19) rfl rfl Try.func74 (by kernel_rfl) rfl #[.int .i64 (rd l0 x11_1), .int .i64 a1, .int .i64 a2] rfl (by (try simp only [List.map_toArray, List.map_cons, List.map_nil]); first | done | rfl | (simp only [List.length_drop, List.length_take]; rfl)) ?_; (with_reducible refine (spec_l1In.calls (rd l0 x11_1) a1 a2 true _ A7.out).mono ?_); rintro e w' ⟨rfl, ⟨nd, rfl⟩⟩; refine ⟨_, rfl, ?_⟩; have p212 : 0 ≤ ((ji10) : Int) := of_decide_eq_true (by first | (with_reducible assumption) | assumption); have q212 : (ji10) < (l0.length : Int) := of_decide_eq_true (by first | (with_reducible assumption) | assumption); obtain ⟨ad212, e212, hx212_0⟩ := Kd.at_int HR0.out (ji10) p212 q212; obtain rfl : ad210 = ad212 := (by injection e212); replace p212 := eq_true p212; replace q212 := eq_true q212))
                      go_roundg k1
                      case measure => have := HK1.out; omega
                      case rel => exact ⟨(wrap64 (x11_1 + 1)), (by first | rfl | (simp; done) | (simp [*]; done)), H', ⟨by have := HK1.out; omega⟩, by repeat (first | exact Drawn0.refl _ | apply Drawn0.step)⟩
                  · rw [if_neg c12] at H
                    exact absurd H (by simp)
                · rw [if_neg c11] at H
                  exact absurd H (by simp)
              · rw [if_neg c9] at H
                have c9b0 : decide (0 < x11_1) = false := decide_eq_false c9
                clear c9
                have H' := amk H
                clear H
                have p210 : 0 ≤ (x11_1 : Int) := of_decide_eq_true (by first | (with_reducible assumption) | assumption)
                have q210 : x11_1 < (l0.length : Int) := of_decide_eq_true (by first | (with_reducible assumption) | assumption)
                obtain ⟨ad210, e210, hx210_0⟩ := Kd.at_int HR0.out x11_1 p210 q210
                cases e210
                replace p210 := eq_true p210
                replace q210 := eq_true q210
                go_wp2_with (first | ((with_reducible refine gate_callee (f := 74) rfl ?_); refine goesL_ (some 19) rfl rfl Try.func74 (by kernel_rfl) rfl #[.int .i64 (rd l0 x11_1), .int .i64 a1, .int .i64 a2] rfl (by (try simp only [List.map_toArray, List.map_cons, List.map_nil]); first | done | rfl | (simp only [List.length_drop, List.length_take]; rfl)) ?_; (with_reducible refine (spec_l1In.calls (rd l0 x11_1) a1 a2 true _ A7.out).mono ?_); rintro e w' ⟨rfl, ⟨nd, rfl⟩⟩; refine ⟨_, rfl, ?_⟩))
                go_roundg k1
                case measure => have := HK1.out; omega
                case rel => exact ⟨(wrap64 (x11_1 + 1)), (by first | rfl | (simp; done) | (simp [*]; done)), H', ⟨by have := HK1.out; omega⟩, by repeat (first | exact Drawn0.refl _ | apply Drawn0.step)⟩
            · replace c8 := Bool.eq_false_iff.mpr c8
              subst c8
              have H1 : (some false) = some r := by rw [if_neg (show ¬ (false = true) by decide)] at H; exact H
              clear H
              have H := H1
              clear H1
              obtain rfl := Option.some.inj H
              have p210 : 0 ≤ (x11_1 : Int) := of_decide_eq_true (by first | (with_reducible assumption) | assumption)
              have q210 : x11_1 < (l0.length : Int) := of_decide_eq_true (by first | (with_reducible assumption) | assumption)
              obtain ⟨ad210, e210, hx210_0⟩ := Kd.at_int HR0.out x11_1 p210 q210
              cases e210
              replace p210 := eq_true p210
              replace q210 := eq_true q210
              go_wp2_with (first | ((with_reducible refine gate_callee (f := 74) rfl ?_); refine goesL_ (some 19) rfl rfl Try.func74 (by kernel_rfl) rfl #[.int .i64 (rd l0 x11_1), .int .i64 a1, .int .i64 a2] rfl (by (try simp only [List.map_toArray, List.map_cons, List.map_nil]); first | done | rfl | (simp only [List.length_drop, List.length_take]; rfl)) ?_; (with_reducible refine (spec_l1In.calls (rd l0 x11_1) a1 a2 false _ A7.out).mono ?_); rintro e w' ⟨rfl, ⟨nd, rfl⟩⟩; refine ⟨_, rfl, ?_⟩))
              go_ret
              exact ⟨by first | rfl | (simp; done) | (simp [*]; done), by repeat (first | exact Drawn0.refl _ | apply Drawn0.step)⟩
          · rw [if_neg c6] at H
            exact absurd H (by simp)
        · rw [if_neg c5] at H
          exact absurd H (by simp)
      · rw [if_neg c4] at H
        have c4b0 : decide (x11_1 < (l0.length : Int)) = false := decide_eq_false c4
        clear c4
        obtain rfl := Option.some.inj H
        go_wp2
        go_ret
        exact ⟨by first | rfl | (simp; done) | (simp [*]; done), by repeat (first | exact Drawn0.refl _ | apply Drawn0.step)⟩
/-! ### spec_keGood: function 73 -/
mutual
def spec_keGood.j0 : Nat → Bool → Int → List (List Int) → Option (Bool)
  | 0, _, _, _ => none
  | k + 1, x15, x214000, x214001 => if x15 = true then (some false) else (spec_keGood.l0 k x214001 (x214001.length : Int) 0 x214000 x214001)
def spec_keGood.l0 : Nat → List (List Int) → Int → Int → Int → List (List Int) → Option (Bool)
  | 0, _, _, _, _, _ => none
  | k + 1, x17, x18, x19, x214000, x214001 => if x19 < x18 then (if 0 ≤ x19 then (if x19 < (x17.length : Int) then (if ((rd_L5 x17 x19).length : Int) = 0 then (some false) else ((spec_l1Rising.f k (rd_L5 x17 x19) 0 (wrap64 (x214000 - 1))).bind fun t217 => (if t217 = true then (spec_keGood.l0 k x17 x18 (wrap64 (x19 + 1)) x214000 x214001) else (some false)))) else (none)) else (none)) else (some true)
end
def spec_keGood.f (k : Nat) (a0_0 : Int) (l0_1 : List (List Int)) : Option (Bool) := (spec_l1In.f a0_0 1 9).bind fun t214 => (if t214 = true then ((spec_l1In.f (l0_1.length : Int) 1 7).bind fun t215 => (spec_keGood.j0 k (!t215) a0_0 l0_1)) else (spec_keGood.j0 k true a0_0 l0_1))
set_option maxHeartbeats 8000000 in
set_option maxRecDepth 100000 in
theorem spec_keGood.calls (k : Nat) (a0_0 : Int) (A0_1 : Option Addr) (c0_1 : Nat) (l0_1 : List (List Int)) (r : Bool) (w : World) (hr0_1 : Kd.C (Kd.slice 3 (Kd.int .i64)) w A0_1 l0_1.length l0_1) (hc0_1 : l0_1.length ≤ c0_1) (h : spec_keGood.f k a0_0 l0_1 = some r) :
    Calls Try.prog 73 #[.agg #[.int .i64 a0_0, .slice A0_1 l0_1.length c0_1]] w fun e w' => e = .returned (.bool r) ∧ Below w.heap.size w w' := by
  have hu41 := Try.underlying41
  have HR0_1 := amk hr0_1
  have HC0_1 := amk hc0_1
  clear hr0_1 hc0_1
  have HB := amk (Below.refl w.heap.size w)
  have H : ((spec_l1In.f a0_0 1 9).bind fun t214 => (if t214 = true then ((spec_l1In.f (l0_1.length : Int) 1 7).bind fun t215 => (spec_keGood.j0 k (!t215) a0_0 l0_1)) else (spec_keGood.j0 k true a0_0 l0_1))) = some r := h
  clear h
  have HC2 := amk H
  clear H
  go_enter Try.func73, Try.ntmps73
  go_upto_region 1 with (first | ((with_reducible refine gate_dst (N := 1) rfl ?_); (try (refine gate_guard (by rfl) ?_; dsimp only)); refine box_event ?hg (N := 1) ?hd (cs := #[.int .i64 a0_0, .slice A0_1 l0_1.length c0_1]) (t := 41) ?hr ?_; (case hd => rfl); (case hg => rfl); (case hr => first | (go_simp; done) | (go_simp; rfl)); intro gb213 hg w3 hbox hb; have n0_ := amk (bp_ (by repeat (first | (with_reducible first | exact HB.out | apply ba_ | apply bn_ | apply bd_) | exact HB.out)) hb); have n1_ := amk (hbox); have n2_ := amk ((by rw [hg]; exact (below_size (by repeat (first | (with_reducible first | exact HB.out | apply ba_ | apply bn_ | apply bd_) | exact HB.out))) : w.heap.size ≤ gb213)); have n3_ := amk ((by rw [hg]; exact (below_size (by repeat (first | (with_reducible first | exact HB.out | apply ba_ | apply bn_ | apply bd_) | exact HB.out))) : w.heap.size ≤ gb213)); clear HB; have HB := n0_; have BK213 := n1_; have GW213 := n2_; have GE213 := n3_; clear n0_ n1_ n2_ n3_; clear hb hbox hg))
  (try simp only [Act.put, List.setIfInBounds_toArray, List.set_cons_zero, List.set_cons_succ])
  go_cut [15] (fun v15 wc => ∃ (kq : Nat) (x15_1 : Bool), v15 = .bool x15_1 ∧ Aside0 (spec_keGood.j0 kq x15_1 a0_0 l0_1 = some r) ∧ Aside0 (kq ≤ k) ∧ Aside0 (wc.heap[gb213]? = some (.cells #[.int .i64 a0_0, (.slice A0_1 l0_1.length c0_1)] 41 (0, 0))) ∧ Aside0 (Below w.heap.size w wc))
  case first =>
    have H := HC2.out
    clear HC2
    replace H := Option.bind_eq_some_iff.mp H
    obtain ⟨t214, A40, H⟩ := H
    replace H : (if t214 = true then ((spec_l1In.f (l0_1.length : Int) 1 7).bind fun t215 => (spec_keGood.j0 k (!t215) a0_0 l0_1)) else (spec_keGood.j0 k true a0_0 l0_1)) = some r := H
    have A4 := amk A40
    clear A40
    by_cases c5 : t214 = true
    · subst c5
      have H1 : ((spec_l1In.f (l0_1.length : Int) 1 7).bind fun t215 => (spec_keGood.j0 k (!t215) a0_0 l0_1)) = some r := by rw [if_pos rfl] at H; exact H
      clear H
      have H := H1
      clear H1
      replace H := Option.bind_eq_some_iff.mp H
      obtain ⟨t215, A60, H⟩ := H
      replace H : (spec_keGood.j0 k (!t215) a0_0 l0_1) = some r := H
      have A6 := amk A60
      clear A60
      have H' := amk H
      clear H
      have hcz7_0 : w3.cell? ⟨gb213, 0, none⟩ = some (.int .i64 a0_0) := (blk_cell BK213.out 0).trans rfl
      have hcz7_1 : w3.cell? ⟨gb213, 1, none⟩ = some (.slice A0_1 l0_1.length c0_1) := (blk_cell BK213.out 1).trans rfl
      have hfz7_0 := blk_frozen BK213.out 0
      have hfz7_1 := blk_frozen BK213.out 1
      go_wp2_with (first | ((with_reducible refine gate_callee (f := 74) rfl ?_); refine goesL_ (some 7) rfl rfl Try.func74 (by kernel_rfl) rfl #[.int .i64 a0_0, .int .i64 1, .int .i64 9] rfl (by (try simp only [List.map_toArray, List.map_cons, List.map_nil]); first | done | rfl | (simp only [List.length_drop, List.length_take]; rfl)) ?_; (with_reducible refine (spec_l1In.calls a0_0 1 9 true _ A4.out).mono ?_); rintro e w' ⟨rfl, ⟨nd, rfl⟩⟩; refine ⟨_, rfl, ?_⟩) | (go_at_call 74; (with_reducible refine (spec_l1In.calls (l0_1.length : Int) 1 7 t215 _ A6.out).mono ?_); rintro e w' ⟨rfl, ⟨nd, rfl⟩⟩))
      go_meet
      case rel => exact ⟨_, (!t215), (by first | rfl | (simp; done) | (simp [*]; done)), H', ⟨by first | omega | exact Nat.le_refl _⟩, ⟨by (with_reducible repeat (first | refine kn_ ?_ _ | refine blk_drew ?_ | refine ka_ ?_ _)); exact BK213.out⟩, ⟨by repeat (first | (with_reducible first | exact HB.out | apply ba_ | apply bn_ | apply bd_ | refine bs_ ?_ GE213.out) | exact HB.out)⟩⟩
    · replace c5 := Bool.eq_false_iff.mpr c5
      subst c5
      have H1 : (spec_keGood.j0 k true a0_0 l0_1) = some r := by rw [if_neg (show ¬ (false = true) by decide)] at H; exact H
      clear H
      have H := H1
      clear H1
      have H' := amk H
      clear H
      have hcz8_0 : w3.cell? ⟨gb213, 0, none⟩ = some (.int .i64 a0_0) := (blk_cell BK213.out 0).trans rfl
      have hcz8_1 : w3.cell? ⟨gb213, 1, none⟩ = some (.slice A0_1 l0_1.length c0_1) := (blk_cell BK213.out 1).trans rfl
      have hfz8_0 := blk_frozen BK213.out 0
      have hfz8_1 := blk_frozen BK213.out 1
      go_wp2_with (first | ((with_reducible refine gate_callee (f := 74) rfl ?_); refine goesL_ (some 7) rfl rfl Try.func74 (by kernel_rfl) rfl #[.int .i64 a0_0, .int .i64 1, .int .i64 9] rfl (by (try simp only [List.map_toArray, List.map_cons, List.map_nil]); first | done | rfl | (simp only [List.length_drop, List.length_take]; rfl)) ?_; (with_reducible refine (spec_l1In.calls a0_0 1 9 false _ A4.out).mono ?_); rintro e w' ⟨rfl, ⟨nd, rfl⟩⟩; refine ⟨_, rfl, ?_⟩))
      go_meet
      case rel => exact ⟨_, (true), (by first | rfl | (simp; done) | (simp [*]; done)), H', ⟨by first | omega | exact Nat.le_refl _⟩, ⟨by (with_reducible repeat (first | refine kn_ ?_ _ | refine blk_drew ?_ | refine ka_ ?_ _)); exact BK213.out⟩, ⟨by repeat (first | (with_reducible first | exact HB.out | apply ba_ | apply bn_ | apply bd_ | refine bs_ ?_ GE213.out) | exact HB.out)⟩⟩
  case rest =>
    clear HC2
    try clear p2; try clear c5; try clear c7; try clear hcz7_0; try clear hcz7_1; try clear hcz8_0; try clear hcz8_1; try clear hfz7_0; try clear hfz7_1; try clear hfz8_0; try clear hfz8_1
    obtain ⟨kq, x15_1, rfl, HA, HJ1, BK213, HB⟩ := hcut
    cases kq with
    | zero => exact absurd HA.out (by simp [spec_keGood.j0])
    | succ kj1 =>
      have H := HA.out
      clear HA
      simp only [spec_keGood.j0] at H
      by_cases c9 : x15_1 = true
      · subst c9
        have H1 : (some false) = some r := by rw [if_pos rfl] at H; exact H
        clear H
        have H := H1
        clear H1
        obtain rfl := Option.some.inj H
        go_wp2
        go_ret
        exact ⟨by first | rfl | (simp [errW_none, errW_some] <;> rfl) | (simp [*, errW_none, errW_some] <;> rfl), by repeat (first | (with_reducible first | exact HB.out | apply ba_ | apply bn_ | apply bd_ | refine bs_ ?_ GE213.out) | exact HB.out)⟩
      · replace c9 := Bool.eq_false_iff.mpr c9
        subst c9
        have H1 : (spec_keGood.l0 kj1 l0_1 (l0_1.length : Int) 0 a0_0 l0_1) = some r := by rw [if_neg (show ¬ (false = true) by decide)] at H; exact H
        clear H
        have H := H1
        clear H1
        have H' := amk H
        clear H
        have hcz10_0 : wc.cell? ⟨gb213, 0, none⟩ = some (.int .i64 a0_0) := (blk_cell BK213.out 0).trans rfl
        have hcz10_1 : wc.cell? ⟨gb213, 1, none⟩ = some (.slice A0_1 l0_1.length c0_1) := (blk_cell BK213.out 1).trans rfl
        have hfz10_0 := blk_frozen BK213.out 0
        have hfz10_1 := blk_frozen BK213.out 1
        go_wp2
        go_loopg [19] kj1 (fun kq v19 w' => ∃ (x19_2 : Int), v19 = .int .i64 x19_2 ∧ Aside0 (spec_keGood.l0 kq l0_1 (l0_1.length : Int) x19_2 a0_0 l0_1 = some r) ∧ Aside0 (kq ≤ kj1) ∧ Aside0 (w'.heap[gb213]? = some (.cells #[.int .i64 a0_0, (.slice A0_1 l0_1.length c0_1)] 41 (0, 0))) ∧ Aside0 (Below w.heap.size w w'))
        case atStart => exact ⟨(0), (by first | rfl | (simp; done) | (simp [*]; done)), H', ⟨Nat.le_refl _⟩, ⟨by (with_reducible repeat (first | refine kn_ ?_ _ | refine blk_drew ?_ | refine ka_ ?_ _)); exact BK213.out⟩, ⟨by repeat (first | (with_reducible first | exact HB.out | apply ba_ | apply bn_ | apply bd_ | refine bs_ ?_ GE213.out) | exact HB.out)⟩⟩
        case round =>
          clear H'
          try clear p2; try clear c5; try clear c7; try clear c9; try clear hcz10_0; try clear hcz10_1; try clear hcz7_0; try clear hcz7_1; try clear hcz8_0; try clear hcz8_1; try clear hfz10_0; try clear hfz10_1; try clear hfz7_0; try clear hfz7_1; try clear hfz8_0; try clear hfz8_1; try clear p2
          obtain ⟨x19_2, rfl, HA, HK2, BK213, HB⟩ := hrel
          cases gk with
          | zero => exact absurd HA.out (by simp [spec_keGood.l0])
          | succ k2 =>
            have H := HA.out
            clear HA
            simp only [spec_keGood.l0] at H
            by_cases c11 : x19_2 < (l0_1.length : Int)
            · rw [if_pos c11] at H
              have c11b0 : decide (x19_2 < (l0_1.length : Int)) = true := decide_eq_true c11
              clear c11
              by_cases c12 : 0 ≤ x19_2
              · rw [if_pos c12] at H
                have c12b0 : decide (0 ≤ x19_2) = true := decide_eq_true c12
                clear c12
                by_cases c13 : x19_2 < (l0_1.length : Int)
                · rw [if_pos c13] at H
                  have c13b0 : decide (x19_2 < (l0_1.length : Int)) = true := decide_eq_true c13
                  clear c13
                  by_cases c14 : ((rd_L5 l0_1 x19_2).length : Int) = 0
                  · rw [if_pos c14] at H
                    have c14b0 : (((rd_L5 l0_1 x19_2).length : Int) == 0) = true := beq_iff_eq.mpr c14
                    have c14b1 : (((rd_L5 l0_1 x19_2).length : Int) != 0) = false := bne_eq_false_iff_eq.mpr c14
                    clear c14
                    obtain rfl := Option.some.inj H
                    have p216 : 0 ≤ (x19_2 : Int) := of_decide_eq_true (by first | (with_reducible assumption) | assumption)
                    have q216 : x19_2 < (l0_1.length : Int) := of_decide_eq_true (by first | (with_reducible assumption) | assumption)
                    obtain ⟨ad216, A216_0, c216_0, e216, hx216_0, hl216_0, hi216_0⟩ := at_L5 HR0_1.out x19_2 p216 q216
                    cases e216
                    replace hx216_0 := (HB.out.cell (World.block_lt_of_cell? w _ hx216_0)).trans hx216_0
                    have HR216_0 := amk hi216_0
                    have HC216_0 := amk hl216_0
                    clear hi216_0 hl216_0
                    replace p216 := eq_true p216
                    replace q216 := eq_true q216
                    go_wp2
                    go_ret
                    exact ⟨by first | rfl | (simp [errW_none, errW_some] <;> rfl) | (simp [*, errW_none, errW_some] <;> rfl), by repeat (first | (with_reducible first | exact HB.out | apply ba_ | apply bn_ | apply bd_ | refine bs_ ?_ GE213.out) | exact HB.out)⟩
                  · rw [if_neg c14] at H
                    have c14b0 : (((rd_L5 l0_1 x19_2).length : Int) == 0) = false := beq_eq_false_iff_ne.mpr c14
                    have c14b1 : (((rd_L5 l0_1 x19_2).length : Int) != 0) = true := bne_iff_ne.mpr c14
                    have c14b2 : ¬ ((rd_L5 l0_1 x19_2) = []) := fun h_ => c14 (by rw [h_]; rfl)
                    replace H := Option.bind_eq_some_iff.mp H
                    obtain ⟨t217, A150, H⟩ := H
                    replace H : (if t217 = true then (spec_keGood.l0 k2 l0_1 (l0_1.length : Int) (wrap64 (x19_2 + 1)) a0_0 l0_1) else (some false)) = some r := H
                    have A15 := amk A150
                    clear A150
                    by_cases c16 : t217 = true
                    · subst c16
                      have H1 : (spec_keGood.l0 k2 l0_1 (l0_1.length : Int) (wrap64 (x19_2 + 1)) a0_0 l0_1) = some r := by rw [if_pos rfl] at H; exact H
                      clear H
                      have H := H1
                      clear H1
                      have H' := amk H
                      clear H
                      have p216 : 0 ≤ (x19_2 : Int) := of_decide_eq_true (by first | (with_reducible assumption) | assumption)
                      have q216 : x19_2 < (l0_1.length : Int) := of_decide_eq_true (by first | (with_reducible assumption) | assumption)
                      obtain ⟨ad216, A216_0, c216_0, e216, hx216_0, hl216_0, hi216_0⟩ := at_L5 HR0_1.out x19_2 p216 q216
                      cases e216
                      replace hx216_0 := (HB.out.cell (World.block_lt_of_cell? w _ hx216_0)).trans hx216_0
                      have HR216_0 := amk hi216_0
                      have HC216_0 := amk hl216_0
                      clear hi216_0 hl216_0
                      replace p216 := eq_true p216
                      replace q216 := eq_true q216
                      have hcz17_0 : wr.cell? ⟨gb213, 0, none⟩ = some (.int .i64 a0_0) := (blk_cell BK213.out 0).trans rfl
                      have hcz17_1 : wr.cell? ⟨gb213, 1, none⟩ = some (.slice (some ad216) l0_1.length c0_1) := (blk_cell BK213.out 1).trans rfl
                      have hfz17_0 := blk_frozen BK213.out 0
                      have hfz17_1 := blk_frozen BK213.out 1
                      go_wp2_with (first | (go_at_call 127; (with_reducible refine (spec_l1Rising.calls k2 _ _ (rd_L5 l0_1 x19_2) 0 (wrap64 (a0_0 - 1)) true _ ?side1 ?side2 A15.out).mono ?_); (case side1 => repeat (first | exact (Kd.C_below HR216_0.out HB.out) | (with_reducible refine Kd.C_alloc ?_ _) | (with_reducible refine Kd.C_drewN ?_ _) | (with_reducible refine Kd.C_drew ?_))); (case side2 => exact HC216_0.out); rintro e w' ⟨rfl, ⟨nd, rfl⟩⟩))
                      go_roundg k2
                      case measure => have := HJ1.out; have := HK2.out; omega
                      case rel => exact ⟨(wrap64 (x19_2 + 1)), (by first | rfl | (simp; done) | (simp [*]; done)), H', ⟨by have := HJ1.out; have := HK2.out; omega⟩, ⟨by (with_reducible repeat (first | refine kn_ ?_ _ | refine blk_drew ?_ | refine ka_ ?_ _)); exact BK213.out⟩, ⟨by repeat (first | (with_reducible first | exact HB.out | apply ba_ | apply bn_ | apply bd_ | refine bs_ ?_ GE213.out) | exact HB.out)⟩⟩
                    · replace c16 := Bool.eq_false_iff.mpr c16
                      subst c16
                      have H1 : (some false) = some r := by rw [if_neg (show ¬ (false = true) by decide)] at H; exact H
                      clear H
                      have H := H1
                      clear H1
                      obtain rfl := Option.some.inj H
                      have p216 : 0 ≤ (x19_2 : Int) := of_decide_eq_true (by first | (with_reducible assumption) | assumption)
                      have q216 : x19_2 < (l0_1.length : Int) := of_decide_eq_true (by first | (with_reducible assumption) | assumption)
                      obtain ⟨ad216, A216_0, c216_0, e216, hx216_0, hl216_0, hi216_0⟩ := at_L5 HR0_1.out x19_2 p216 q216
                      cases e216
                      replace hx216_0 := (HB.out.cell (World.block_lt_of_cell? w _ hx216_0)).trans hx216_0
                      have HR216_0 := amk hi216_0
                      have HC216_0 := amk hl216_0
                      clear hi216_0 hl216_0
                      replace p216 := eq_true p216
                      replace q216 := eq_true q216
                      have hcz18_0 : wr.cell? ⟨gb213, 0, none⟩ = some (.int .i64 a0_0) := (blk_cell BK213.out 0).trans rfl
                      have hcz18_1 : wr.cell? ⟨gb213, 1, none⟩ = some (.slice (some ad216) l0_1.length c0_1) := (blk_cell BK213.out 1).trans rfl
                      have hfz18_0 := blk_frozen BK213.out 0
                      have hfz18_1 := blk_frozen BK213.out 1
                      go_wp2_with (first | (go_at_call 127; (with_reducible refine (spec_l1Rising.calls k2 _ _ (rd_L5 l0_1 x19_2) 0 (wrap64 (a0_0 - 1)) false _ ?side1 ?side2 A15.out).mono ?_); (case side1 => repeat (first | exact (Kd.C_below HR216_0.out HB.out) | (with_reducible refine Kd.C_alloc ?_ _) | (with_reducible refine Kd.C_drewN ?_ _) | (with_reducible refine Kd.C_drew ?_))); (case side2 => exact HC216_0.out); rintro e w' ⟨rfl, ⟨nd, rfl⟩⟩))
                      go_ret
                      exact ⟨by first | rfl | (simp [errW_none, errW_some] <;> rfl) | (simp [*, errW_none, errW_some] <;> rfl), by repeat (first | (with_reducible first | exact HB.out | apply ba_ | apply bn_ | apply bd_ | refine bs_ ?_ GE213.out) | exact HB.out)⟩
                · rw [if_neg c13] at H
                  exact absurd H (by simp)
              · rw [if_neg c12] at H
                exact absurd H (by simp)
            · rw [if_neg c11] at H
              have c11b0 : decide (x19_2 < (l0_1.length : Int)) = false := decide_eq_false c11
              clear c11
              obtain rfl := Option.some.inj H
              go_wp2
              go_ret
              exact ⟨by first | rfl | (simp [errW_none, errW_some] <;> rfl) | (simp [*, errW_none, errW_some] <;> rfl), by repeat (first | (with_reducible first | exact HB.out | apply ba_ | apply bn_ | apply bd_ | refine bs_ ?_ GE213.out) | exact HB.out)⟩
/-! ### spec_AllKeys: function 29 -/
def spec_AllKeys.f (k : Nat) (a0_0 : Int) (l0_1 : List (List Int)) : Option (List ByteArray × Bool) := (spec_keGood.f k a0_0 l0_1).bind fun t484 => (if t484 = true then ((spec_keCount.f k a0_0 l0_1).bind fun t485 => (if t485 > 200 then (some (([] : List ByteArray), false)) else ((spec_keAll.f k a0_0 l0_1 (⟨#[]⟩ : ByteArray)).bind fun t486 => (some (t486, true))))) else (some (([] : List ByteArray), false)))
set_option maxHeartbeats 8000000 in
set_option maxRecDepth 100000 in
theorem spec_AllKeys.calls (k : Nat) (a0_0 : Int) (A0_1 : Option Addr) (c0_1 : Nat) (l0_1 : List (List Int)) (r1 : List ByteArray) (r2 : Bool) (w : World) (hr0_1 : Kd.C (Kd.slice 3 (Kd.int .i64)) w A0_1 l0_1.length l0_1) (hc0_1 : l0_1.length ≤ c0_1) (h : spec_AllKeys.f k a0_0 l0_1 = some (r1, r2)) :
    Calls Try.prog 29 #[.agg #[.int .i64 a0_0, .slice A0_1 l0_1.length c0_1]] w fun e w' => ∃ v0_ : Value, e = .returned (.tuple #[v0_, .bool r2]) ∧ Kd.R Kd.string 9 w' w.heap.size (fun _ => True) v0_ r1 ∧ Below w.heap.size w w' := by
  have hu41 := Try.underlying41
  have HR0_1 := amk hr0_1
  have HC0_1 := amk hc0_1
  clear hr0_1 hc0_1
  have HB := amk (Below.refl w.heap.size w)
  have H : ((spec_keGood.f k a0_0 l0_1).bind fun t484 => (if t484 = true then ((spec_keCount.f k a0_0 l0_1).bind fun t485 => (if t485 > 200 then (some (([] : List ByteArray), false)) else ((spec_keAll.f k a0_0 l0_1 (⟨#[]⟩ : ByteArray)).bind fun t486 => (some (t486, true))))) else (some (([] : List ByteArray), false)))) = some (r1, r2) := h
  clear h
  replace H := Option.bind_eq_some_iff.mp H
  obtain ⟨t484, A20, H⟩ := H
  replace H : (if t484 = true then ((spec_keCount.f k a0_0 l0_1).bind fun t485 => (if t485 > 200 then (some (([] : List ByteArray), false)) else ((spec_keAll.f k a0_0 l0_1 (⟨#[]⟩ : ByteArray)).bind fun t486 => (some (t486, true))))) else (some (([] : List ByteArray), false))) = some (r1, r2) := H
  have A2 := amk A20
  clear A20
  by_cases c3 : t484 = true
  · subst c3
    have H1 : ((spec_keCount.f k a0_0 l0_1).bind fun t485 => (if t485 > 200 then (some (([] : List ByteArray), false)) else ((spec_keAll.f k a0_0 l0_1 (⟨#[]⟩ : ByteArray)).bind fun t486 => (some (t486, true))))) = some (r1, r2) := by rw [if_pos rfl] at H; exact H
    clear H
    have H := H1
    clear H1
    replace H := Option.bind_eq_some_iff.mp H
    obtain ⟨t485, A40, H⟩ := H
    replace H : (if t485 > 200 then (some (([] : List ByteArray), false)) else ((spec_keAll.f k a0_0 l0_1 (⟨#[]⟩ : ByteArray)).bind fun t486 => (some (t486, true)))) = some (r1, r2) := H
    have A4 := amk A40
    clear A40
    by_cases c5 : t485 > 200
    · rw [if_pos c5] at H
      have c5b0 : decide (200 < t485) = true := decide_eq_true c5
      clear c5
      simp only [Option.some.injEq, Prod.mk.injEq] at H
      obtain ⟨rfl, rfl⟩ := H
      go_enter Try.func29, Try.ntmps29
      go_wp2_with (first | ((with_reducible refine gate_dst (N := 1) rfl ?_); refine box_event ?hg (N := 1) ?hd (cs := #[.int .i64 a0_0, .slice A0_1 l0_1.length c0_1]) (t := 41) ?hr ?_; (case hd => rfl); (case hg => rfl); (case hr => first | (go_simp; done) | (go_simp; rfl)); intro gb483 hg w6 hbox hb; have n0_ := amk (bp_ (by repeat (first | (with_reducible first | exact HB.out | apply ba_ | apply bn_ | apply bd_) | exact HB.out)) hb); have n1_ := amk (hbox); have n2_ := amk ((by rw [hg]; exact (below_size (by repeat (first | (with_reducible first | exact HB.out | apply ba_ | apply bn_ | apply bd_) | exact HB.out))) : w.heap.size ≤ gb483)); have n3_ := amk ((by rw [hg]; exact (below_size (by repeat (first | (with_reducible first | exact HB.out | apply ba_ | apply bn_ | apply bd_) | exact HB.out))) : w.heap.size ≤ gb483)); clear HB; have HB := n0_; have BK483 := n1_; have GW483 := n2_; have GE483 := n3_; clear n0_ n1_ n2_ n3_; clear hb hbox hg; have hcz7_0 : w6.cell? ⟨gb483, 0, none⟩ = some (.int .i64 a0_0) := (blk_cell BK483.out 0).trans rfl; have hcz7_1 : w6.cell? ⟨gb483, 1, none⟩ = some (.slice A0_1 l0_1.length c0_1) := (blk_cell BK483.out 1).trans rfl; have hfz7_0 := blk_frozen BK483.out 0; have hfz7_1 := blk_frozen BK483.out 1) | ((with_reducible refine gate_callee (f := 73) rfl ?_); refine goesL_ (some 5) rfl rfl Try.func73 (by kernel_rfl) rfl #[.agg #[.int .i64 a0_0, .slice A0_1 l0_1.length c0_1]] rfl (by (try simp only [List.map_toArray, List.map_cons, List.map_nil]); first | done | rfl | (simp only [List.length_drop, List.length_take]; rfl)) ?_; (with_reducible refine (spec_keGood.calls k a0_0 _ _ l0_1 true _ ?side1 ?side2 A2.out).mono ?_); (case side1 => repeat (first | exact (Kd.C_below HR0_1.out HB.out) | (with_reducible refine Kd.C_alloc ?_ _) | (with_reducible refine Kd.C_drewN ?_ _) | (with_reducible refine Kd.C_drew ?_))); (case side2 => exact HC0_1.out); rintro e w8 ⟨rfl, hb⟩; refine ⟨_, rfl, ?_⟩; have n0_ := amk (blk_below (g := gb483) (o := .cells #[.int .i64 a0_0, .slice A0_1 l0_1.length c0_1] 41 (0, 0)) (by (with_reducible repeat (first | refine kn_ ?_ _ | refine blk_drew ?_ | refine ka_ ?_ _)); exact BK483.out) hb); have n1_ := amk (bp_ (by repeat (first | (with_reducible first | exact HB.out | apply ba_ | apply bn_ | apply bd_ | refine bs_ ?_ GE483.out) | exact HB.out)) hb); clear BK483; clear HB; have BK483 := n0_; have HB := n1_; clear n0_ n1_; (try clear hb); (try clear hb2); (try clear hk); (try clear hi); have hcz9_0 : w8.cell? ⟨gb483, 0, none⟩ = some (.int .i64 a0_0) := (blk_cell BK483.out 0).trans rfl; have hcz9_1 : w8.cell? ⟨gb483, 1, none⟩ = some (.slice A0_1 l0_1.length c0_1) := (blk_cell BK483.out 1).trans rfl; have hfz9_0 := blk_frozen BK483.out 0; have hfz9_1 := blk_frozen BK483.out 1) | (go_at_call 84; (with_reducible refine (spec_keCount.calls k a0_0 _ _ l0_1 t485 _ ?side1 ?side2 A4.out).mono ?_); (case side1 => repeat (first | exact (Kd.C_below HR0_1.out HB.out) | (with_reducible refine Kd.C_alloc ?_ _) | (with_reducible refine Kd.C_drewN ?_ _) | (with_reducible refine Kd.C_drew ?_))); (case side2 => exact HC0_1.out); rintro e w10 ⟨rfl, hb⟩; have n0_ := amk (blk_below (g := gb483) (o := .cells #[.int .i64 a0_0, .slice A0_1 l0_1.length c0_1] 41 (0, 0)) (by (with_reducible repeat (first | refine kn_ ?_ _ | refine blk_drew ?_ | refine ka_ ?_ _)); exact BK483.out) hb); have n1_ := amk (bp_ (by repeat (first | (with_reducible first | exact HB.out | apply ba_ | apply bn_ | apply bd_ | refine bs_ ?_ GE483.out) | exact HB.out)) hb); clear BK483; clear HB; have BK483 := n0_; have HB := n1_; clear n0_ n1_; (try clear hb); (try clear hb2); (try clear hk); (try clear hi)))
      go_ret2
      exact ⟨_, by first | rfl | (simp [errW_none, errW_some] <;> rfl) | (simp [*, errW_none, errW_some] <;> rfl), by first | exact Kd.R_nil _ _ _ _ _ | exact Kd.N_nil _ _ _ _ _ | exact Kd.V_nil _ _ _ _ _ | exact Kd.Q_nil _ _ _ _ _ | exact Kd.S_nil _ _ _ _ _, by repeat (first | (with_reducible first | exact HB.out | apply ba_ | apply bn_ | apply bd_ | refine bs_ ?_ GE483.out) | exact HB.out)⟩
    · rw [if_neg c5] at H
      have c5b0 : decide (200 < t485) = false := decide_eq_false c5
      clear c5
      replace H := Option.bind_eq_some_iff.mp H
      obtain ⟨t486, A110, H⟩ := H
      replace H : (some (t486, true)) = some (r1, r2) := H
      have A11 := amk A110
      clear A110
      simp only [Option.some.injEq, Prod.mk.injEq] at H
      obtain ⟨rfl, rfl⟩ := H
      go_enter Try.func29, Try.ntmps29
      go_wp2_with (first | ((with_reducible refine gate_dst (N := 1) rfl ?_); refine box_event ?hg (N := 1) ?hd (cs := #[.int .i64 a0_0, .slice A0_1 l0_1.length c0_1]) (t := 41) ?hr ?_; (case hd => rfl); (case hg => rfl); (case hr => first | (go_simp; done) | (go_simp; rfl)); intro gb483 hg w12 hbox hb; have n0_ := amk (bp_ (by repeat (first | (with_reducible first | exact HB.out | apply ba_ | apply bn_ | apply bd_) | exact HB.out)) hb); have n1_ := amk (hbox); have n2_ := amk ((by rw [hg]; exact (below_size (by repeat (first | (with_reducible first | exact HB.out | apply ba_ | apply bn_ | apply bd_) | exact HB.out))) : w.heap.size ≤ gb483)); have n3_ := amk ((by rw [hg]; exact (below_size (by repeat (first | (with_reducible first | exact HB.out | apply ba_ | apply bn_ | apply bd_) | exact HB.out))) : w.heap.size ≤ gb483)); clear HB; have HB := n0_; have BK483 := n1_; have GW483 := n2_; have GE483 := n3_; clear n0_ n1_ n2_ n3_; clear hb hbox hg; have hcz13_0 : w12.cell? ⟨gb483, 0, none⟩ = some (.int .i64 a0_0) := (blk_cell BK483.out 0).trans rfl; have hcz13_1 : w12.cell? ⟨gb483, 1, none⟩ = some (.slice A0_1 l0_1.length c0_1) := (blk_cell BK483.out 1).trans rfl; have hfz13_0 := blk_frozen BK483.out 0; have hfz13_1 := blk_frozen BK483.out 1) | ((with_reducible refine gate_callee (f := 73) rfl ?_); refine goesL_ (some 5) rfl rfl Try.func73 (by kernel_rfl) rfl #[.agg #[.int .i64 a0_0, .slice A0_1 l0_1.length c0_1]] rfl (by (try simp only [List.map_toArray, List.map_cons, List.map_nil]); first | done | rfl | (simp only [List.length_drop, List.length_take]; rfl)) ?_; (with_reducible refine (spec_keGood.calls k a0_0 _ _ l0_1 true _ ?side1 ?side2 A2.out).mono ?_); (case side1 => repeat (first | exact (Kd.C_below HR0_1.out HB.out) | (with_reducible refine Kd.C_alloc ?_ _) | (with_reducible refine Kd.C_drewN ?_ _) | (with_reducible refine Kd.C_drew ?_))); (case side2 => exact HC0_1.out); rintro e w14 ⟨rfl, hb⟩; refine ⟨_, rfl, ?_⟩; have n0_ := amk (blk_below (g := gb483) (o := .cells #[.int .i64 a0_0, .slice A0_1 l0_1.length c0_1] 41 (0, 0)) (by (with_reducible repeat (first | refine kn_ ?_ _ | refine blk_drew ?_ | refine ka_ ?_ _)); exact BK483.out) hb); have n1_ := amk (bp_ (by repeat (first | (with_reducible first | exact HB.out | apply ba_ | apply bn_ | apply bd_ | refine bs_ ?_ GE483.out) | exact HB.out)) hb); clear BK483; clear HB; have BK483 := n0_; have HB := n1_; clear n0_ n1_; (try clear hb); (try clear hb2); (try clear hk); (try clear hi); have hcz15_0 : w14.cell? ⟨gb483, 0, none⟩ = some (.int .i64 a0_0) := (blk_cell BK483.out 0).trans rfl; have hcz15_1 : w14.cell? ⟨gb483, 1, none⟩ = some (.slice A0_1 l0_1.length c0_1) := (blk_cell BK483.out 1).trans rfl; have hfz15_0 := blk_frozen BK483.out 0; have hfz15_1 := blk_frozen BK483.out 1) | (go_at_call 84; (with_reducible refine (spec_keCount.calls k a0_0 _ _ l0_1 t485 _ ?side1 ?side2 A4.out).mono ?_); (case side1 => repeat (first | exact (Kd.C_below HR0_1.out HB.out) | (with_reducible refine Kd.C_alloc ?_ _) | (with_reducible refine Kd.C_drewN ?_ _) | (with_reducible refine Kd.C_drew ?_))); (case side2 => exact HC0_1.out); rintro e w16 ⟨rfl, hb⟩; have n0_ := amk (blk_below (g := gb483) (o := .cells #[.int .i64 a0_0, .slice A0_1 l0_1.length c0_1] 41 (0, 0)) (by (with_reducible repeat (first | refine kn_ ?_ _ | refine blk_drew ?_ | refine ka_ ?_ _)); exact BK483.out) hb); have n1_ := amk (bp_ (by repeat (first | (with_reducible first | exact HB.out | apply ba_ | apply bn_ | apply bd_ | refine bs_ ?_ GE483.out) | exact HB.out)) hb); clear BK483; clear HB; have BK483 := n0_; have HB := n1_; clear n0_ n1_; (try clear hb); (try clear hb2); (try clear hk); (try clear hi); have hcz17_0 : w16.cell? ⟨gb483, 0, none⟩ = some (.int .i64 a0_0) := (blk_cell BK483.out 0).trans rfl; have hcz17_1 : w16.cell? ⟨gb483, 1, none⟩ = some (.slice A0_1 l0_1.length c0_1) := (blk_cell BK483.out 1).trans rfl; have hfz17_0 := blk_frozen BK483.out 0; have hfz17_1 := blk_frozen BK483.out 1) | ((with_reducible refine gate_callee (f := 85) rfl ?_); refine goesL_ (some 13) rfl rfl Try.func85 (by kernel_rfl) rfl #[.agg #[.int .i64 a0_0, .slice A0_1 l0_1.length c0_1], .string (⟨#[]⟩ : ByteArray)] rfl (by (try simp only [List.map_toArray, List.map_cons, List.map_nil]); first | done | rfl | (simp only [List.length_drop, List.length_take]; rfl)) ?_; (with_reducible refine (spec_keAll.calls k a0_0 _ _ l0_1 (⟨#[]⟩ : ByteArray) t486 _ ?side1 ?side2 A11.out).mono ?_); (case side1 => repeat (first | exact (Kd.C_below HR0_1.out HB.out) | (with_reducible refine Kd.C_alloc ?_ _) | (with_reducible refine Kd.C_drewN ?_ _) | (with_reducible refine Kd.C_drew ?_))); (case side2 => exact HC0_1.out); rintro e w18 ⟨v487, rfl, ho0, hb⟩; refine ⟨_, rfl, ?_⟩; have n0_ := amk (Kd.R_lower ho0 (below_size (by repeat (first | (with_reducible first | exact HB.out | apply ba_ | apply bn_ | apply bd_ | refine bs_ ?_ GE483.out) | exact HB.out)))); have n1_ := amk (blk_below (g := gb483) (o := .cells #[.int .i64 a0_0, .slice A0_1 l0_1.length c0_1] 41 (0, 0)) (by (with_reducible repeat (first | refine kn_ ?_ _ | refine blk_drew ?_ | refine ka_ ?_ _)); exact BK483.out) hb); have n2_ := amk (bp_ (by repeat (first | (with_reducible first | exact HB.out | apply ba_ | apply bn_ | apply bd_ | refine bs_ ?_ GE483.out) | exact HB.out)) hb); clear BK483; clear HB; have HO488 := n0_; have BK483 := n1_; have HB := n2_; clear n0_ n1_ n2_; (try clear hb); (try clear hb2); (try clear hk); (try clear hi); (try clear ho0)))
      go_ret2
      exact ⟨_, by first | rfl | (simp [errW_none, errW_some] <;> rfl) | (simp [*, errW_none, errW_some] <;> rfl), by (with_reducible repeat (first | apply Kd.R_alloc | apply Kd.R_drewN | apply Kd.R_drew)); exact HO488.out, by repeat (first | (with_reducible first | exact HB.out | apply ba_ | apply bn_ | apply bd_ | refine bs_ ?_ GE483.out) | exact HB.out)⟩
  · replace c3 := Bool.eq_false_iff.mpr c3
    subst c3
    have H1 : (some (([] : List ByteArray), false)) = some (r1, r2) := by rw [if_neg (show ¬ (false = true) by decide)] at H; exact H
    clear H
    have H := H1
    clear H1
    simp only [Option.some.injEq, Prod.mk.injEq] at H
    obtain ⟨rfl, rfl⟩ := H
    go_enter Try.func29, Try.ntmps29
    go_wp2_with (first | ((with_reducible refine gate_dst (N := 1) rfl ?_); refine box_event ?hg (N := 1) ?hd (cs := #[.int .i64 a0_0, .slice A0_1 l0_1.length c0_1]) (t := 41) ?hr ?_; (case hd => rfl); (case hg => rfl); (case hr => first | (go_simp; done) | (go_simp; rfl)); intro gb483 hg w19 hbox hb; have n0_ := amk (bp_ (by repeat (first | (with_reducible first | exact HB.out | apply ba_ | apply bn_ | apply bd_) | exact HB.out)) hb); have n1_ := amk (hbox); have n2_ := amk ((by rw [hg]; exact (below_size (by repeat (first | (with_reducible first | exact HB.out | apply ba_ | apply bn_ | apply bd_) | exact HB.out))) : w.heap.size ≤ gb483)); have n3_ := amk ((by rw [hg]; exact (below_size (by repeat (first | (with_reducible first | exact HB.out | apply ba_ | apply bn_ | apply bd_) | exact HB.out))) : w.heap.size ≤ gb483)); clear HB; have HB := n0_; have BK483 := n1_; have GW483 := n2_; have GE483 := n3_; clear n0_ n1_ n2_ n3_; clear hb hbox hg; have hcz20_0 : w19.cell? ⟨gb483, 0, none⟩ = some (.int .i64 a0_0) := (blk_cell BK483.out 0).trans rfl; have hcz20_1 : w19.cell? ⟨gb483, 1, none⟩ = some (.slice A0_1 l0_1.length c0_1) := (blk_cell BK483.out 1).trans rfl; have hfz20_0 := blk_frozen BK483.out 0; have hfz20_1 := blk_frozen BK483.out 1) | ((with_reducible refine gate_callee (f := 73) rfl ?_); refine goesL_ (some 5) rfl rfl Try.func73 (by kernel_rfl) rfl #[.agg #[.int .i64 a0_0, .slice A0_1 l0_1.length c0_1]] rfl (by (try simp only [List.map_toArray, List.map_cons, List.map_nil]); first | done | rfl | (simp only [List.length_drop, List.length_take]; rfl)) ?_; (with_reducible refine (spec_keGood.calls k a0_0 _ _ l0_1 false _ ?side1 ?side2 A2.out).mono ?_); (case side1 => repeat (first | exact (Kd.C_below HR0_1.out HB.out) | (with_reducible refine Kd.C_alloc ?_ _) | (with_reducible refine Kd.C_drewN ?_ _) | (with_reducible refine Kd.C_drew ?_))); (case side2 => exact HC0_1.out); rintro e w21 ⟨rfl, hb⟩; refine ⟨_, rfl, ?_⟩; have n0_ := amk (blk_below (g := gb483) (o := .cells #[.int .i64 a0_0, .slice A0_1 l0_1.length c0_1] 41 (0, 0)) (by (with_reducible repeat (first | refine kn_ ?_ _ | refine blk_drew ?_ | refine ka_ ?_ _)); exact BK483.out) hb); have n1_ := amk (bp_ (by repeat (first | (with_reducible first | exact HB.out | apply ba_ | apply bn_ | apply bd_ | refine bs_ ?_ GE483.out) | exact HB.out)) hb); clear BK483; clear HB; have BK483 := n0_; have HB := n1_; clear n0_ n1_; (try clear hb); (try clear hb2); (try clear hk); (try clear hi)))
    go_ret2
    exact ⟨_, by first | rfl | (simp [errW_none, errW_some] <;> rfl) | (simp [*, errW_none, errW_some] <;> rfl), by first | exact Kd.R_nil _ _ _ _ _ | exact Kd.N_nil _ _ _ _ _ | exact Kd.V_nil _ _ _ _ _ | exact Kd.Q_nil _ _ _ _ _ | exact Kd.S_nil _ _ _ _ _, by repeat (first | (with_reducible first | exact HB.out | apply ba_ | apply bn_ | apply bd_ | refine bs_ ?_ GE483.out) | exact HB.out)⟩
/-! ### spec_l1Has: function 94 -/
/-! ### spec_keJoin: function 81 -/
/-! spec.keJoined, by hand: it begins with a pin that came in, and goes on with what was made. -/
theorem two_cells {w : World} {g t : Nat} {a b : Value} (h : w.heap[g]? = some (.cells #[a, b] t (0, 0))) : w.cell? ⟨g, 0, none⟩ = some a ∧ w.cell? ⟨g, 1, none⟩ = some b ∧ w.frozen? ⟨g, 0, none⟩ = false ∧ w.frozen? ⟨g, 1, none⟩ = false ∧ g < w.heap.size :=
  ⟨by simp [World.cell?, h], by simp [World.cell?, h], by simp [World.frozen?, h], by simp [World.frozen?, h], (Array.getElem?_eq_some_iff.mp h).1⟩
/-! ### laws_markIntS: function 133 -/
def laws_markIntS.l0 : Nat → List Int → Int → Int → Option (Int × List Int)
  | 0, _, _, _ => none
  | k + 1, x0, x1, x5 => if x5 < (x0.length : Int) then (if 0 ≤ x5 then (laws_markIntS.l0 k (x0.set (x5 : Int).toNat x1) (wrap64 (x1 + 1)) (wrap64 (x5 + 1))) else (none)) else (some (x1, x0))
def laws_markIntS.f (k : Nat) (l0 : List Int) (a1 : Int) : Option (Int × List Int) := laws_markIntS.l0 k l0 a1 0
set_option maxHeartbeats 8000000 in
set_option maxRecDepth 100000 in
theorem laws_markIntS.calls (k : Nat) (P0_ : Nat → Prop) (u9000_ : Value) (l0 : List Int) (a1 : Int) (r1 : Int) (r2 : List Int) (w0 w : World) (hB : Below w0.heap.size w0 w) (ho0 : Kd.R (Kd.int .i64) 3 w w0.heap.size P0_ u9000_ l0) (h : laws_markIntS.f k l0 a1 = some (r1, r2)) :
    Calls Try.prog 133 #[u9000_, .int .i64 a1] w fun e w' => e = .returned (.int .i64 r1) ∧ Kd.R (Kd.int .i64) 3 w' w0.heap.size (fun k_ => (P0_ k_ ∨ w.heap.size ≤ k_)) u9000_ r2 ∧ Below w0.heap.size w0 w' ∧ Kept w w' (fun k_ => P0_ k_) := by
  have HO0 := amk (show Kd.R (Kd.int .i64) 3 w w0.heap.size (fun k_ => (P0_ k_ ∨ w.heap.size ≤ k_)) u9000_ l0 from Kd.R_mono ho0 (fun k_ hk => (.inl hk)))
  have HK := amk (Kept.refl w (fun k_ => P0_ k_))
  have HW0 := amk hB.size
  have HB := amk hB
  clear hB
  have H : (laws_markIntS.l0 k l0 a1 0) = some (r1, r2) := h
  clear h
  have H' := amk H
  clear H
  go_enter Try.func133, Try.ntmps133
  go_wp2
  go_loopg [1, 5] k (fun kq v1 v5 w' => ∃ (x0_1 : List Int) (x1_1 : Int) (x5_1 : Int), v1 = .int .i64 x1_1 ∧ v5 = .int .i64 x5_1 ∧ Aside0 (laws_markIntS.l0 kq x0_1 x1_1 x5_1 = some (r1, r2)) ∧ Aside0 (kq ≤ k) ∧ Aside0 (Kd.R (Kd.int .i64) 3 w' w0.heap.size (fun k_ => (P0_ k_ ∨ w.heap.size ≤ k_)) u9000_ x0_1) ∧ Aside0 (Kept w w' (fun k_ => P0_ k_)) ∧ Aside0 (Below w0.heap.size w0 w'))
  case atStart => exact ⟨(l0), (a1), (0), (by first | rfl | (simp; done) | (simp [*]; done)), (by first | rfl | (simp; done) | (simp [*]; done)), H', ⟨Nat.le_refl _⟩, ⟨by (with_reducible repeat (first | apply Kd.R_alloc | apply Kd.R_drewN | apply Kd.R_drew)); exact HO0.out⟩, ⟨by repeat (first | (with_reducible first | exact HK.out | apply Kept.alloc | apply Kept.drewN | apply Kept.drew) | exact HK.out)⟩, ⟨by repeat (first | (with_reducible first | exact HB.out | apply ba_ | apply bn_ | apply bd_) | exact HB.out)⟩⟩
  case round =>
    clear H'
    try clear c1; try clear p2
    obtain ⟨x0_1, x1_1, x5_1, rfl, rfl, HA, HK1, HO_0, HK, HB⟩ := hrel
    cases gk with
    | zero => exact absurd HA.out (by simp [laws_markIntS.l0])
    | succ k1 =>
      have H := HA.out
      clear HA
      simp only [laws_markIntS.l0] at H
      by_cases c3 : x5_1 < (x0_1.length : Int)
      · rw [if_pos c3] at H
        have c3b0 : decide (x5_1 < (x0_1.length : Int)) = true := decide_eq_true c3
        clear c3
        by_cases c4 : 0 ≤ x5_1
        · rw [if_pos c4] at H
          have c4b0 : decide (0 ≤ x5_1) = true := decide_eq_true c4
          clear c4
          obtain ⟨y386, hy386⟩ : ∃ y_ : List Int, y_ = (x0_1.set (x5_1 : Int).toNat x1_1) := ⟨_, rfl⟩
          replace H : (laws_markIntS.l0 k1 y386 (wrap64 (x1_1 + 1)) (wrap64 (x5_1 + 1))) = some (r1, r2) := by first | (rw [hy386]; with_reducible exact H) | (have H2_ := (Option.bind_some _ _).symm.trans H; rw [hy386]; with_reducible exact H2_) | (have H2_ := (Option.bind_some _ _).symm.trans H; with_reducible exact H2_) | with_reducible exact H | (rw [hy386]; exact H) | exact H
          have Ny386 := amk hy386
          clear hy386
          have H' := amk H
          clear H
          obtain ⟨Ao6, co6, eo6⟩ := Kd.R_slice HO_0.out
          subst eo6
          have p5 : 0 ≤ (x5_1 : Int) := of_decide_eq_true (by first | (with_reducible assumption) | assumption)
          have q5 : (x5_1 : Int) < ((x0_1.length : Int) : Int) := of_decide_eq_true (by first | (with_reducible assumption) | assumption)
          obtain ⟨go5, co5, eo5, gb5, gl5, cl5, HG5⟩ := Kd.R_form HO_0.out (by omega)
          (first | cases eo5 | (injection eo5 with ea_ en_ ec_; (first | subst ea_ | (injection ea_ with ea_; subst ea_)); subst ec_; clear en_))
          have GB5 := amk gb5
          have GG5 := amk HG5
          clear gb5 gl5 HG5
          have HMgo5 := amk (show (P0_ go5 ∨ w.heap.size ≤ go5) from (HO_0.out.1 _ rfl))
          obtain ⟨hx5_0, hf5_0⟩ := Kd.R_celln 0 HO_0.out (x5_1 : Int) p5 q5
          replace p5 := eq_true p5
          replace q5 := eq_true q5
          have HP7 := Kd.R_putg HO_0.out (x5_1 : Int) x1_1
          go_wp2_with (first | ((with_reducible refine gate_store (t := 3) (p := 15) rfl ?_); refine store_event (t := 3) (p := 15) (v := ?vo_w8) (w1 := (wr.setCell ⟨go5, (x5_1 : Int).toNat, none⟩ (.int .i64 x1_1))) ?hg ?ho ?hn ?hr ?_; (case ho => rfl); (case hg => rfl); (case hn => rfl); (case hr => first | (go_simp; done) | (go_simp; rfl)); intro w8 hw; have hg : wr.grownBy w8 (some go5) := (by rw [hw]; exact HP7.2); have hp_ : Kd.R (Kd.int .i64) 3 w8 w0.heap.size (fun k_ => (P0_ k_ ∨ w.heap.size ≤ k_)) (.slice (some ⟨go5, 0, none⟩) x0_1.length co6) y386 := (by rw [hw, Ny386.out]; exact HP7.1); clear HP7; have n0_ := amk (hp_); have n1_ := amk ((by rw [hw]; exact bs_ (HB.out) GB5.out : Below w0.heap.size w0 w8)); have n2_ := amk (Kept.of_grown (S := (fun k_ => P0_ k_)) hg (by repeat (first | (with_reducible first | exact HK.out | apply Kept.alloc | apply Kept.drewN | apply Kept.drew) | exact HK.out)) (fun k_ e_ => (HO_0.out.1 k_ e_))); clear HO_0; clear HB; clear HK; have HO_0 := n0_; have HB := n1_; have HK := n2_; clear n0_ n1_ n2_; clear hg hw hp_))
          go_roundg k1
          case measure => have := HK1.out; omega
          case rel => exact ⟨(y386), (wrap64 (x1_1 + 1)), (wrap64 (x5_1 + 1)), (by first | rfl | (simp; done) | (simp [*]; done)), (by first | rfl | (simp; done) | (simp [*]; done)), H', ⟨by have := HK1.out; omega⟩, ⟨by (with_reducible repeat (first | apply Kd.R_alloc | apply Kd.R_drewN | apply Kd.R_drew)); exact HO_0.out⟩, ⟨by repeat (first | (with_reducible first | exact HK.out | apply Kept.alloc | apply Kept.drewN | apply Kept.drew) | exact HK.out)⟩, ⟨by repeat (first | (with_reducible first | exact HB.out | apply ba_ | apply bn_ | apply bd_) | exact HB.out)⟩⟩
        · rw [if_neg c4] at H
          exact absurd H (by simp)
      · rw [if_neg c3] at H
        have c3b0 : decide (x5_1 < (x0_1.length : Int)) = false := decide_eq_false c3
        clear c3
        simp only [Option.some.injEq, Prod.mk.injEq] at H
        obtain ⟨rfl, rfl⟩ := H
        obtain ⟨Ao9, co9, eo9⟩ := Kd.R_slice HO_0.out
        subst eo9
        go_wp2
        go_ret
        exact ⟨by first | rfl | (simp [errW_none, errW_some] <;> rfl) | (simp [*, errW_none, errW_some] <;> rfl), by (with_reducible repeat (first | apply Kd.R_alloc | apply Kd.R_drewN | apply Kd.R_drew)); exact HO_0.out, by repeat (first | (with_reducible first | exact HB.out | apply ba_ | apply bn_ | apply bd_) | exact HB.out), by repeat (first | (with_reducible first | exact HK.out | apply Kept.alloc | apply Kept.drewN | apply Kept.drew) | exact HK.out)⟩
/-! laws.markIntSS, by hand: each row is lent, written, and given back. -/
def markRows (k : Nat) : List (List Int) → Int → Option (Int × List (List Int))
  | [], a => some (a, [])
  | x :: t, a => (laws_markIntS.f k x a).bind fun p => (markRows k t p.1).bind fun q => some (q.1, p.2 :: q.2)
def laws_markIntSS.f (k : Nat) (l : List (List Int)) (a : Int) : Option (Int × List (List Int)) := markRows k l a
theorem laws_markIntSS.empty (u : Value) (a1 : Int) (w : World) (A : Option Addr) (c : Nat) (hu : u = .slice A 0 c) : Calls Try.prog 82 #[u, .int .i64 a1] w fun e w' => e = .returned (.int .i64 a1) ∧ w' = w := by
  subst hu
  have hu35 := Try.underlying35
  go_enter Try.func82, Try.ntmps82
  go_wp2
  go_loopg [1, 5] 0 (fun gg s1 s5 wr => s1 = .int .i64 a1 ∧ s5 = .int .i64 0 ∧ wr = w)
  case atStart => exact ⟨rfl, rfl, rfl⟩
  case round =>
    obtain ⟨rfl, rfl, rfl⟩ := hrel
    go_wp2
    go_ret
    exact ⟨rfl, rfl⟩
set_option maxHeartbeats 4000000 in
set_option maxRecDepth 100000 in
theorem laws_markIntSS.calls (k : Nat) (P0_ : Nat → Prop) (u9000_ : Value) (l0 : List (List Int)) (a1 : Int) (r1 : Int) (r2 : List (List Int)) (w0 w : World) (hB : Below w0.heap.size w0 w) (ho0 : Kd.S (Kd.slice 3 (Kd.int .i64)) 86 w w0.heap.size P0_ u9000_ l0) (h : laws_markIntSS.f k l0 a1 = some (r1, r2)) :
    Calls Try.prog 82 #[u9000_, .int .i64 a1] w fun e w' => e = .returned (.int .i64 r1) ∧ Kd.S (Kd.slice 3 (Kd.int .i64)) 86 w' w0.heap.size P0_ u9000_ r2 ∧ Below w0.heap.size w0 w' ∧ Kept w w' P0_ := by
  by_cases hpos : 0 < l0.length
  · obtain ⟨g, cap, rfl, hg1, hg2, _⟩ := Kd.S_form ho0 hpos
    have hbig := (Kd.S_reads' ho0).2.2.2.1
    have hu35 := Try.underlying35
    unfold laws_markIntSS.f at h
    have HO := amk ho0
    have H := amk h
    have HB := amk hB
    clear ho0 h hB hg1 hg2 hpos
    generalize hn : l0.length = n at hbig
    have HN := amk hn
    clear hn
    go_enter Try.func82, Try.ntmps82
    go_wp2
    go_loopg [1, 5] n (fun gg s1 s5 wr => ∃ (i : Nat) (a : Int) (D R' : List (List Int)), s1 = .int .i64 a ∧ s5 = .int .i64 (i : Int) ∧ Aside0 (i ≤ n) ∧ Aside0 (n - i ≤ gg) ∧ Aside0 (D.length = i) ∧ Aside0 (markRows k (l0.drop i) a = some (r1, R')) ∧ Aside0 (r2 = D ++ R') ∧ Aside0 (Kd.S (Kd.slice 3 (Kd.int .i64)) 86 wr w0.heap.size P0_ (.slice (some ⟨g, 0, none⟩) n cap) (D ++ l0.drop i)) ∧ Aside0 (Below w0.heap.size w0 wr) ∧ Aside0 (Kept w wr P0_))
    case atStart => exact ⟨0, a1, [], r2, rfl, rfl, ⟨by omega⟩, ⟨by omega⟩, ⟨rfl⟩, H, ⟨rfl⟩, ⟨by have := HO.out; rw [HN.out] at this; exact this⟩, HB, ⟨Kept.refl _ _⟩⟩
    case round =>
      obtain ⟨i, a, D, R', rfl, rfl, HI, HG, HD, HM, HR2, HS, HBB, HK⟩ := hrel
      by_cases hlt : i < n
      · have hlw : decide ((i : Int) < (n : Int)) = true := decide_eq_true (by omega)
        have hlwn : decide (i < n) = true := decide_eq_true hlt
        have hiz : ((0 : Int) ≤ (i : Int)) = True := eq_true (by omega)
        have hlz2 : ((i : Int) < (n : Int)) = True := eq_true (by omega)
        have hnl := HN.out
        have hdr : l0.drop i = l0[i] :: l0.drop (i + 1) := List.drop_eq_getElem_cons (by omega)
        have hm := HM.out
        rw [hdr] at hm
        unfold markRows at hm
        obtain ⟨p, hp, hm⟩ := Option.bind_eq_some_iff.mp hm
        obtain ⟨q, hq, hm⟩ := Option.bind_eq_some_iff.mp hm
        obtain ⟨pa, px⟩ := p
        obtain ⟨qa, qx⟩ := q
        injection hm with hm
        injection hm with e1 e2
        subst e1
        obtain ⟨oki, cs, hcl, hMx, hcc, hoki, hH⟩ := Kd.S_lend HS.out [] (i : Int) (by omega) (by omega)
        have hx : (D ++ l0.drop i).getD (i : Int).toNat [] = l0[i] := by
          have hd := HD.out
          rw [Int.toNat_natCast, hdr, List.getD_eq_getElem?_getD, List.getElem?_append_right (by omega), hd, Nat.sub_self]
          rfl
        rw [hx] at hMx
        obtain ⟨v, rfl, hRv⟩ := hMx
        have hcell := hcc 0 v rfl
        simp only [Int.toNat_natCast] at hcell
        rw [show i * (Kd.slice 3 (Kd.int .i64)).sz + 0 = i from Nat.mul_one i] at hcell
        have HV := amk hRv
        have HH := amk hH
        have HP := amk hp
        have HQ := amk hq
        have HE2 := amk e2
        have HOK := amk hoki
        have HDR := amk hdr
        have hw1 : wrap64 ((i : Int) + 1) = ((i + 1 : Nat) : Int) := by unfold wrap64; omega
        clear hRv hH hp hq hm e2 hcc hcl hx hdr hoki
        have HLT := amk hlt
        go_wp2_with (go_at_call 133; refine (laws_markIntS.calls k oki _ _ _ _ _ w0 _ HBB.out HV.out HP.out).mono ?_; rintro e w9 ⟨rfl, hr9, hb9, hk9⟩)
        go_roundg (n - (i + 1))
        case measure => have := HG.out; have := HLT.out; omega
        case rel =>
          have hd := HD.out
          have hR9 : (Kd.int .i64).R 3 w9 w0.heap.size oki v px := Kd.R_reok rfl hr9 (fun k_ e_ => HV.out.1 k_ e_)
          have hM9 : (Kd.slice 3 (Kd.int .i64)).M w9 w0.heap.size oki px [v] := ⟨v, rfl, hR9⟩
          have hH9 := Kd.H_kept HH.out hk9 (fun k_ _ hn => hn)
          have hS9 := Kd.H_back hH9 hM9 (fun _ h => h)
          have hset : (D ++ l0.drop i).set (i : Int).toNat px = (D ++ [px]) ++ l0.drop (i + 1) := by
            rw [Int.toNat_natCast, HDR.out, List.set_append_right _ _ (by omega), hd, Nat.sub_self, List.set_cons_zero, List.append_assoc]
            rfl
          rw [hset] at hS9
          refine ⟨i + 1, pa, D ++ [px], qx, rfl, rfl, ⟨by have := HLT.out; omega⟩, ⟨by omega⟩, ⟨by rw [List.length_append, hd]; rfl⟩, HQ, ⟨by rw [HR2.out, ← HE2.out, List.append_assoc]; rfl⟩, ⟨hS9⟩, ⟨hb9⟩, ⟨HK.out.then_ hk9 (fun k_ hk => .inl (HOK.out k_ hk).1)⟩⟩
      · have hlw : decide ((i : Int) < (n : Int)) = false := decide_eq_false (by omega)
        have hlwn : decide (i < n) = false := decide_eq_false hlt
        have hin : i = n := by have := HI.out; omega
        have hm := HM.out
        rw [List.drop_eq_nil_of_le (by rw [HN.out]; omega)] at hm
        unfold markRows at hm
        injection hm with hm
        injection hm with e1 e2
        subst e1
        have HSX := HS.out
        rw [List.drop_eq_nil_of_le (by rw [HN.out]; omega), e2, ← HR2.out] at HSX
        have HSXX := amk HSX
        clear HSX hin hlt e2
        go_wp2
        go_ret
        exact ⟨rfl, HSXX.out, HBB.out, HK.out⟩
  · obtain rfl : l0 = [] := List.length_eq_zero_iff.mp (by omega)
    obtain ⟨A, c, he⟩ := Kd.S_slice ho0
    unfold laws_markIntSS.f markRows at h
    injection h with h
    injection h with e1 e2
    subst e1 e2
    refine (laws_markIntSS.empty u9000_ a1 w A c he).mono ?_
    rintro e w' ⟨rfl, rfl⟩
    exact ⟨rfl, ho0, hB, Kept.refl _ _⟩
/-! laws.markPins, by hand. -/
def laws_markPins.f (k : Nat) (n : Int) (l : List (List Int)) (a : Int) : Option (Int × List (List Int)) := laws_markIntSS.f k l a
set_option maxRecDepth 100000 in
theorem laws_markPins.calls (k : Nat) (P0_ : Nat → Prop) (n : Int) (A : Option Addr) (m c : Nat) (l0 : List (List Int)) (a1 : Int) (r1 : Int) (r2 : List (List Int)) (w0 w : World) (hB : Below w0.heap.size w0 w) (hP : ∀ j, P0_ j → j < w.heap.size) (ho0 : Kd.S (Kd.slice 3 (Kd.int .i64)) 86 w w0.heap.size P0_ (.slice A m c) l0) (h : laws_markPins.f k n l0 a1 = some (r1, r2)) :
    Calls Try.prog 27 #[.agg #[.int .i64 n, .slice A m c], .int .i64 a1] w fun e w' => e = .returned (.int .i64 r1) ∧ Kd.S (Kd.slice 3 (Kd.int .i64)) 86 w' w0.heap.size P0_ (.slice A m c) r2 ∧ Below w0.heap.size w0 w' ∧ Kept w w' P0_ := by
  have hu41 := Try.underlying41
  have hu35 := Try.underlying35
  have HO := amk (Kd.S_alloc ho0 (.cells #[.int .i64 n, .slice A m c] 41 (0, 0)))
  have H := amk h
  have HB := amk (hB.alloc hB.size (.cells #[.int .i64 n, .slice A m c] 41 (0, 0)))
  clear ho0 h hB
  go_enter Try.func27, Try.ntmps27
  go_wp2_with (go_at_call 82; refine (laws_markIntSS.calls k P0_ _ _ _ _ _ w0 _ HB.out HO.out H.out).mono ?_; rintro e w9 ⟨rfl, hs9, hb9, hk9⟩)
  go_ret
  exact ⟨rfl, hs9, hb9, ⟨by have := hk9.1; simp at this; omega, fun i hi hn => (hk9.2 i (by simp; omega) hn).trans (((Below.refl _ w).alloc (Nat.le_refl _) _).block i hi)⟩⟩
/-! laws.FnExactAllKeys, by hand: the arguments' rows are marked. -/
theorem R_iv {α : Type} {d : Kd α} {e : Nat} {w : World} {base : Nat} {ok : Nat → Prop} {v : Value} {xs : List α} (h : d.R e w base ok v xs) : d.R e w base (fun j => base ≤ j ∧ j < w.heap.size) v xs := Kd.R_mono (Kd.R_bound h) (fun _ hk => ⟨hk.2.1, hk.2.2.1⟩)
theorem S_iv {α : Type} {d : Kd α} {e : Nat} {w : World} {base : Nat} {ok : Nat → Prop} {v : Value} {xs : List α} (h : Kd.S d e w base ok v xs) : Kd.S d e w base (fun j => base ≤ j ∧ j < w.heap.size) v xs := Kd.S_mono (Kd.S_bound h) (fun _ hk => ⟨hk.2.1, hk.2.2.1⟩)
def AKst (w W : World) (n : Int) (A : Option Addr) (c : Nat) (L Lx : List (List Int)) (bx ax : Nat) (Ax : Option Addr) (cx : Nat) (aw bw : Nat) (Aw : Option Addr) (cw : Nat) (V : List ByteArray) (ag bg : Nat) (Ag : Option Addr) (cg : Nat) (Vg : List ByteArray) : Prop :=
  Below w.heap.size w W ∧ W.heap[w.heap.size]? = some (.cells #[.int .i64 n, .slice A L.length c] 37 (0, 0)) ∧ W.heap[bx]? = some (.cells #[.int .i64 n, .slice Ax L.length cx] 41 (0, 0)) ∧ Kd.S (Kd.slice 3 (Kd.int .i64)) 86 W w.heap.size (fun j => ax ≤ j ∧ j < bx) (.slice Ax L.length cx) Lx ∧ Kd.R Kd.string 9 W w.heap.size (fun j => aw ≤ j ∧ j < bw) (.slice Aw V.length cw) V ∧ Kd.R Kd.string 9 W w.heap.size (fun j => ag ≤ j ∧ j < bg) (.slice Ag V.length cg) Vg ∧ (w.heap.size < aw ∧ aw ≤ bw ∧ bw ≤ ax ∧ ax ≤ bx ∧ bx < ag ∧ ag ≤ bg ∧ bg ≤ W.heap.size)
section
variable {w W W2 : World} {n : Int} {A : Option Addr} {c : Nat} {L Lx Lx' : List (List Int)} {bx ax : Nat} {Ax : Option Addr} {cx aw bw : Nat} {Aw : Option Addr} {cw : Nat} {V : List ByteArray} {ag bg : Nat} {Ag : Option Addr} {cg : Nat} {Vg Vg' : List ByteArray}
theorem AKst_below (h : AKst w W n A c L Lx bx ax Ax cx aw bw Aw cw V ag bg Ag cg Vg) (hb : Below W.heap.size W W2) : AKst w W2 n A c L Lx bx ax Ax cx aw bw Aw cw V ag bg Ag cg Vg := by
  obtain ⟨h1, h2, h3, h4, h5, h6, h7⟩ := h
  have hs := hb.size
  exact ⟨h1.trans (hb.mono h1.size), (hb.block _ (by omega)).trans h2, (hb.block _ (by omega)).trans h3, Kd.S_below h4 hb, Kd.R_below h5 hb, Kd.R_below h6 hb, by omega⟩
theorem AKst_markX (h : AKst w W n A c L Lx bx ax Ax cx aw bw Aw cw V ag bg Ag cg Vg) (hk : Kept W W2 (fun j => ax ≤ j ∧ j < bx)) (hb : Below w.heap.size w W2) (hs : Kd.S (Kd.slice 3 (Kd.int .i64)) 86 W2 w.heap.size (fun j => ax ≤ j ∧ j < bx) (.slice Ax L.length cx) Lx') : AKst w W2 n A c L Lx' bx ax Ax cx aw bw Aw cw V ag bg Ag cg Vg := by
  obtain ⟨h1, h2, h3, h4, h5, h6, h7⟩ := h
  have hz := hk.1
  exact ⟨hb, (hk.2 _ (by omega) (by omega)).trans h2, (hk.2 _ (by omega) (by omega)).trans h3, hs, Kd.R_kept h5 hk (fun j h1 h2 => by omega), Kd.R_kept h6 hk (fun j h1 h2 => by omega), by omega⟩
theorem AKst_markG (h : AKst w W n A c L Lx bx ax Ax cx aw bw Aw cw V ag bg Ag cg Vg) (hk : Kept W W2 (fun j => ag ≤ j ∧ j < bg)) (hb : Below w.heap.size w W2) (hs : Kd.R Kd.string 9 W2 w.heap.size (fun j => ag ≤ j ∧ j < bg) (.slice Ag V.length cg) Vg') : AKst w W2 n A c L Lx bx ax Ax cx aw bw Aw cw V ag bg Ag cg Vg' := by
  obtain ⟨h1, h2, h3, h4, h5, h6, h7⟩ := h
  have hz := hk.1
  exact ⟨hb, (hk.2 _ (by omega) (by omega)).trans h2, (hk.2 _ (by omega) (by omega)).trans h3, Kd.S_kept h4 hk (fun j h1 h2 => by omega), Kd.R_kept h5 hk (fun j h1 h2 => by omega), hs, by omega⟩
end
def laws_FnExactAllKeys.f (n : Int) (l : List (List Int)) : Option Bool := some true
set_option maxHeartbeats 8000000 in
set_option maxRecDepth 100000 in
theorem laws_FnExactAllKeys.walk (k : Nat) (n : Int) (L : List (List Int)) (V V' : List ByteArray) (ok : Bool) (r0 m' m : Int) (L' : List (List Int)) (A : Option Addr) (c : Nat) (w : World) (hr : Kd.C (Kd.slice 3 (Kd.int .i64)) w A L.length L) (hc : L.length ≤ c)
    (e1 : laws_szPins.f k n L 1048576 = some r0) (h0 : 0 ≤ r0) (e2 : laws_toPins.f k n L = some (n, L)) (e3 : spec_AllKeys.f k n L = some (V, ok)) (e4 : impl_AllKeys.f k n L = some (V, ok)) (e5 : laws_eqStringS.f k V V = some true) (e6 : laws_eqPins.f k n L n L = some true) (e7 : laws_markPins.f k n L 1 = some (m', L')) (h7 : 0 ≤ m') (e8 : laws_markStringS.f k V 1 = some (m, V')) (h8 : 0 ≤ m) (e9 : laws_heldStringS.f k V' 1 = some m) :
    Calls Try.prog 6 #[.agg #[.int .i64 n, .slice A L.length c]] w fun e w' => e = .returned (.bool true) ∧ Below w.heap.size w w' := by
  have hu37 := Try.underlying37
  have hu41 := Try.underlying41
  have hu35 := Try.underlying35
  have hu24 := Try.underlying24
  have hd0 : decide (r0 < 0) = false := decide_eq_false (by omega)
  have hd7 : decide (m' < 0) = false := decide_eq_false (by omega)
  have hd8 : decide (m < 0) = false := decide_eq_false (by omega)
  have hok : (ok != ok) = false := by cases ok <;> rfl
  have hmm : (m != m) = false := by simp
  have E1 := amk e1
  have E2 := amk e2
  have E3 := amk e3
  have E4 := amk e4
  have E5 := amk e5
  have E6 := amk e6
  have E7 := amk e7
  have E8 := amk e8
  have E9 := amk e9
  have HC := amk hc
  have HR := amk (Kd.C_alloc hr (.cells #[.int .i64 n, .slice A L.length c] 37 (0, 0)))
  have HB := amk ((Below.refl w.heap.size w).alloc (Nat.le_refl _) (.cells #[.int .i64 n, .slice A L.length c] 37 (0, 0)))
  have B1 := amk (blk_new w (.cells #[.int .i64 n, .slice A L.length c] 37 (0, 0)))
  have hHR := amk hr
  clear e1 e2 e3 e4 e5 e6 e7 e8 e9 hc hr h0 h7 h8
  go_enter Try.func6, Try.ntmps6
  go_wp2_with (go_at_call 20; refine (laws_szPins.calls k n _ _ L _ r0 _ HR.out HC.out E1.out).mono ?_; rintro e w2 ⟨rfl, hb⟩; have HB2 := amk (HB.out.trans (hb.mono HB.out.size)); have B12 := amk ((hb.block w.heap.size (by simp)).trans B1.out); obtain ⟨hq0, hq1, _, _, _⟩ := two_cells B12.out; clear hb)
  go_wp2_with (go_at_call 22; refine (laws_toPins.calls k n _ _ L n L _ (Kd.C_below hHR.out HB2.out) HC.out E2.out).mono ?_; rintro e w3 ⟨v3, rfl, hs, hb⟩; have HB3 := amk (HB2.out.trans (hb.mono HB2.out.size)); have B13 := amk ((hb.block w.heap.size (by have := two_cells B12.out; omega)).trans B12.out); obtain ⟨A3, c3, rfl⟩ := Kd.S_slice hs; have S3 := amk hs; clear hs hb)
  go_wp2_with (go_at_call 29; refine (spec_AllKeys.calls k n _ _ L V ok _ (Kd.S_reads' S3.out).2.2 (Kd.S_reads' S3.out).2.1 E3.out).mono ?_; rintro e w4 ⟨v4, rfl, hs, hb⟩; have HB4 := amk (HB3.out.trans (hb.mono HB3.out.size)); have SZ3 := amk (two_cells B13.out).2.2.2.2; have B14 := amk ((hb.block w.heap.size SZ3.out).trans B13.out); clear hq0 hq1; obtain ⟨hq0, hq1, _, _, _⟩ := two_cells B14.out; obtain ⟨A4, c4, rfl⟩ := Kd.R_slice hs; have R4 := amk (R_iv hs); have Z4 := amk hb.size; clear hs hb)
  go_wp2_with (go_at_call 22; refine (laws_toPins.calls k n _ _ L n L _ (Kd.C_below hHR.out HB4.out) HC.out E2.out).mono ?_; rintro e w5 ⟨v5, rfl, hs, hb⟩; have HB5 := amk (HB4.out.trans (hb.mono HB4.out.size)); have B15 := amk ((hb.block w.heap.size (two_cells B14.out).2.2.2.2).trans B14.out); obtain ⟨A5, c5, rfl⟩ := Kd.S_slice hs; have S5 := amk (S_iv hs); have R5 := amk (Kd.R_below R4.out hb); have Z5 := amk hb.size; have hl5 := (Kd.S_reads' hs).2.2.2.1; clear hs hb)
  go_wp2_with (go_at_call 30; refine (impl_AllKeys.calls k n _ _ L V ok _ (Kd.C_alloc (Kd.S_reads' S5.out).2.2 _) (Kd.S_reads' S5.out).2.1 E4.out).mono ?_; rintro e w7 ⟨v7, rfl, hs, hb⟩; obtain ⟨A7, c7, rfl⟩ := Kd.R_slice hs; have ST := amk (show AKst w w7 n A c L L w5.heap.size w4.heap.size A5 c5 w3.heap.size w4.heap.size A4 c4 V (w5.heap.size + 1) w7.heap.size A7 c7 V from ⟨(HB5.out.alloc HB5.out.size _).trans (hb.mono (by have := HB5.out.size; simp; omega)), (hb.block w.heap.size (by have := (two_cells B15.out).2.2.2.2; simp; omega)).trans ((((Below.refl _ w5).alloc (Nat.le_refl _) _).block w.heap.size (two_cells B15.out).2.2.2.2).trans B15.out), (hb.block w5.heap.size (by simp)).trans (blk_new w5 _), Kd.S_lower (Kd.S_below (Kd.S_alloc S5.out _) hb) HB4.out.size, Kd.R_lower (Kd.R_below (Kd.R_alloc R5.out _) hb) HB3.out.size, Kd.R_lower (base := (w5.heap.size + 1)) (by have := R_iv hs; simpa using this) (by have := HB5.out.size; omega), (by have := SZ3.out; have := Z4.out; have := Z5.out; have := hb.size; simp at this; omega)⟩); clear hq0 hq1; obtain ⟨hq0, hq1, _, _, _⟩ := two_cells ST.out.2.1; obtain ⟨hx0, hx1, _, _, _⟩ := two_cells ST.out.2.2.1; clear hs hb)
  go_wp2_with (go_at_call 31; refine (laws_eqStringS.calls k _ _ V _ _ V true _ (Kd.R_reads' ST.out.2.2.2.2.2.1).2.2 (Kd.R_reads' ST.out.2.2.2.2.2.1).2.1 (Kd.R_reads' ST.out.2.2.2.2.1).2.2 (Kd.R_reads' ST.out.2.2.2.2.1).2.1 E5.out).mono ?_; rintro e w8 ⟨rfl, hb⟩; have ST8 := amk (AKst_below ST.out hb.below); clear hq0 hq1 hx0 hx1; obtain ⟨hq0, hq1, _, _, _⟩ := two_cells ST8.out.2.1; obtain ⟨hx0, hx1, _, _, _⟩ := two_cells ST8.out.2.2.1; clear hb)
  have ST8d := amk (AKst_below ST8.out (Below.refl _ w8).drew)
  have HS1 : Aside0 (w8.drew.cell? ⟨w5.heap.size, 0, none⟩ = some (.int .i64 n) ∧ w8.drew.cell? ⟨w5.heap.size, 1, none⟩ = some (.slice A5 L.length c5) ∧ w8.drew.cell? ⟨w.heap.size, 0, none⟩ = some (.int .i64 n) ∧ w8.drew.cell? ⟨w.heap.size, 1, none⟩ = some (.slice A L.length c)) := ⟨⟨(two_cells ST8d.out.2.2.1).1, (two_cells ST8d.out.2.2.1).2.1, (two_cells ST8d.out.2.1).1, (two_cells ST8d.out.2.1).2.1⟩⟩
  go_region_held3 (fun w' => w'.cell? ⟨w5.heap.size, 0, none⟩ = some (.int .i64 n) ∧ w'.cell? ⟨w5.heap.size, 1, none⟩ = some (.slice A5 L.length c5) ∧ w'.cell? ⟨w.heap.size, 0, none⟩ = some (.int .i64 n) ∧ w'.cell? ⟨w.heap.size, 1, none⟩ = some (.slice A L.length c)) (first | exact ⟨(two_cells ST10.out.2.2.1).1, (two_cells ST10.out.2.2.1).2.1, (two_cells ST10.out.2.1).1, (two_cells ST10.out.2.1).2.1⟩ | exact ⟨(two_cells ST9.out.2.2.1).1, (two_cells ST9.out.2.2.1).2.1, (two_cells ST9.out.2.1).1, (two_cells ST9.out.2.1).2.1⟩ | exact HS1.out) ((first | (go_at_call 22; refine (laws_toPins.calls k n _ _ L n L _ (Kd.C_below hHR.out ST8d.out.1) HC.out E2.out).mono ?_; rintro e w9 ⟨v9, rfl, hs, hb⟩; have ST9 := amk (AKst_below ST8d.out hb); obtain ⟨A9, c9, rfl⟩ := Kd.S_slice hs; have S9 := amk hs; clear hs hb) | (go_at_call 24; refine (laws_eqPins.calls k n _ _ L n _ _ L true _ (Kd.S_reads' ST9.out.2.2.2.1).2.2 (Kd.S_reads' ST9.out.2.2.2.1).2.1 (Kd.S_reads' S9.out).2.2 (Kd.S_reads' S9.out).2.1 E6.out).mono ?_; rintro e w10 ⟨rfl, hb⟩; have ST10 := amk (AKst_below ST9.out hb); clear hb)))
  clear hq0 hq1 hx0 hx1
  obtain ⟨hq0, hq1, _, _, _⟩ := two_cells ST10.out.2.1
  obtain ⟨hx0, hx1, _, _, _⟩ := two_cells ST10.out.2.2.1
  go_wp2_with (go_at_call 27; refine (laws_markPins.calls k (fun j => w4.heap.size ≤ j ∧ j < w5.heap.size) n _ _ _ L 1 m' L' w _ ST10.out.1 (fun j hj => by have := ST10.out.2.2.2.2.2.2; omega) ST10.out.2.2.2.1 E7.out).mono ?_; rintro e w11 ⟨rfl, hs, hb, hk⟩; have ST11 := amk (AKst_markX ST10.out hk hb hs); clear hq0 hq1 hx0 hx1; obtain ⟨hq0, hq1, _, _, _⟩ := two_cells ST11.out.2.1; obtain ⟨hx0, hx1, _, _, _⟩ := two_cells ST11.out.2.2.1; clear hs hb hk)
  go_wp2_with (go_at_call 31; refine (laws_eqStringS.calls k _ _ V _ _ V true _ (Kd.R_reads' ST11.out.2.2.2.2.2.1).2.2 (Kd.R_reads' ST11.out.2.2.2.2.2.1).2.1 (Kd.R_reads' ST11.out.2.2.2.2.1).2.2 (Kd.R_reads' ST11.out.2.2.2.2.1).2.1 E5.out).mono ?_; rintro e w12 ⟨rfl, hb⟩; have ST12 := amk (AKst_below ST11.out hb.below); clear hq0 hq1 hx0 hx1; obtain ⟨hq0, hq1, _, _, _⟩ := two_cells ST12.out.2.1; obtain ⟨hx0, hx1, _, _, _⟩ := two_cells ST12.out.2.2.1; clear hb)
  go_wp2_with (go_at_call 32; refine (laws_markStringS.calls k (fun j => w5.heap.size + 1 ≤ j ∧ j < w7.heap.size) _ V 1 m V' w _ ST12.out.1 ST12.out.2.2.2.2.2.1 E8.out).mono ?_; rintro e w13 ⟨rfl, hs, hb, hk⟩; have ST13 := amk (AKst_markG ST12.out hk hb (Kd.R_reok rfl hs (fun k_ e_ => ST12.out.2.2.2.2.2.1.1 k_ e_))); clear hq0 hq1 hx0 hx1; obtain ⟨hq0, hq1, _, _, _⟩ := two_cells ST13.out.2.1; obtain ⟨hx0, hx1, _, _, _⟩ := two_cells ST13.out.2.2.1; clear hs hb hk)
  have hlen : V'.length = V.length := (Kd.R_reads' ST13.out.2.2.2.2.2.1).1.symm
  have HH : ∀ W, Kd.C Kd.string W A7 V'.length V' → Calls Try.prog 33 #[.slice A7 V.length c7, .int .i64 1] W fun e w' => e = .returned (.int .i64 m) ∧ Below W.heap.size W w' := fun W hC => by
    have := laws_heldStringS.calls k A7 c7 V' 1 m W hC (by have := (Kd.R_reads' ST13.out.2.2.2.2.2.1).2.1; omega) E9.out
    rw [hlen] at this
    exact this
  have HHA := amk HH
  have HLN := amk hlen
  clear HH hlen
  go_wp2_with (go_at_call 33; refine (HHA.out _ (Kd.R_reads' ST13.out.2.2.2.2.2.1).2.2).mono ?_; rintro e w14 ⟨rfl, hb⟩; have ST14 := amk (AKst_below ST13.out hb); clear hq0 hq1 hx0 hx1; obtain ⟨hq0, hq1, _, _, _⟩ := two_cells ST14.out.2.1; obtain ⟨hx0, hx1, _, _, _⟩ := two_cells ST14.out.2.2.1; clear hb)
  go_wp2_with (go_at_call 22; refine (laws_toPins.calls k n _ _ L n L _ (Kd.C_below hHR.out ST14.out.1) HC.out E2.out).mono ?_; rintro e w15 ⟨v15, rfl, hs, hb⟩; have ST15 := amk (AKst_below ST14.out hb); obtain ⟨A15, c15, rfl⟩ := Kd.S_slice hs; have S15 := amk hs; clear hq0 hq1 hx0 hx1; obtain ⟨hq0, hq1, _, _, _⟩ := two_cells ST15.out.2.1; obtain ⟨hx0, hx1, _, _, _⟩ := two_cells ST15.out.2.2.1; clear hs hb)
  go_wp2_with (go_at_call 30; refine (impl_AllKeys.calls k n _ _ L V ok _ (Kd.S_reads' S15.out).2.2 (Kd.S_reads' S15.out).2.1 E4.out).mono ?_; rintro e w16 ⟨v16, rfl, hs, hb⟩; have ST16 := amk (AKst_below ST15.out hb); obtain ⟨A16, c16, rfl⟩ := Kd.R_slice hs; have R16 := amk hs; clear hq0 hq1 hx0 hx1; obtain ⟨hq0, hq1, _, _, _⟩ := two_cells ST16.out.2.1; obtain ⟨hx0, hx1, _, _, _⟩ := two_cells ST16.out.2.2.1; clear hs hb)
  go_wp2_with (go_at_call 31; refine (laws_eqStringS.calls k _ _ V _ _ V true _ (Kd.R_reads' R16.out).2.2 (Kd.R_reads' R16.out).2.1 (Kd.R_reads' ST16.out.2.2.2.2.1).2.2 (Kd.R_reads' ST16.out.2.2.2.2.1).2.1 E5.out).mono ?_; rintro e w17 ⟨rfl, hb⟩; have ST17 := amk (AKst_below ST16.out hb.below); clear hq0 hq1 hx0 hx1; obtain ⟨hq0, hq1, _, _, _⟩ := two_cells ST17.out.2.1; obtain ⟨hx0, hx1, _, _, _⟩ := two_cells ST17.out.2.2.1; clear hb)
  go_wp2_with (go_at_call 33; refine (HHA.out _ (Kd.R_reads' ST17.out.2.2.2.2.2.1).2.2).mono ?_; rintro e w18 ⟨rfl, hb⟩; have ST18 := amk (AKst_below ST17.out hb); clear hb)
  go_ret
  exact ⟨rfl, ST18.out.1⟩
/-! Numbers told by digits. -/
def textB (l : List Int) : ByteArray := strOfNums (l.map fun x => wrap64 (48 + x) % 256)
/-! Joined pins, over lists alone. -/
/-- How many keys open. -/
def keysF (l : List (List Int)) : Int := l.foldl (fun n r => wrap64 (n * r.length)) 1
/-! Texts of digits: their sizes. -/
theorem textB_size (l : List Int) : (textB l).size = l.length := by unfold textB; rw [strOfNums_size, List.length_map]
/-! Locks: which numbers are one, how many codes there are. -/
/-! The places and the digits that two codes share. -/
/-! Codes of a lock as texts, their digits, what clues tell of them. -/
/-! ### impl_IsLock: function 155 -/
/-! ### impl_power: function 186 -/
/-! ### impl_Lock_count: function 176 -/
/-! ### impl_isSmall: function 154 -/
/-! impl's functions on locks: what they come to. -/
/-! ### spec_whCount: function 175 -/
/-! ### spec_whGood: function 174 -/
/-! spec's functions on locks and clues: what they come to. -/
/-! ### impl_Lock_isText: function 177 -/
/-! ### impl_Lock_isCode: function 156 -/
/-! ### impl_has: function 122 -/
/-! ### spec_whCode: function 152 -/
/-! Which texts are codes: both sides. -/
/-! Texts compared by '<=', '>', '>=', told by '<' alone. -/
theorem less_le : ∀ x y : List UInt8, (Op.bytesLess x y || x == y) = !(Op.bytesLess y x)
  | [], [] => rfl
  | [], _ :: _ => rfl
  | _ :: _, [] => rfl
  | a :: x, b :: y => by
    have ih := less_le x y
    simp only [Op.bytesLess, List.cons_beq_cons]
    by_cases h1 : a < b
    · have h2 : ¬ b < a := fun h => absurd h1 (UInt8.lt_asymm h)
      have h3 : (b == a) = false := beq_eq_false_iff_ne.mpr (fun e => by subst e; exact UInt8.lt_irrefl _ h1)
      simp [h1, h2, h3]
    · by_cases h2 : b < a
      · have h3 : (a == b) = false := beq_eq_false_iff_ne.mpr (fun e => by subst e; exact UInt8.lt_irrefl _ h2)
        simp [h1, h2, h3]
      · have h3 : a = b := UInt8.le_antisymm (UInt8.not_lt.mp h2) (UInt8.not_lt.mp h1)
        subst h3
        simp only [h1, decide_false, Bool.false_or, BEq.rfl, Bool.true_and]
        exact ih
theorem binOp_leq_n (t : TypeId) (a b : ByteArray) : binOp .leq t (.string a) (.string b) = pure (.bool !(Op.bytesLess b.toList a.toList)) := by
  rw [← less_le]; simp [binOp, Op.stringOp]
theorem binOp_gtr_n (t : TypeId) (a b : ByteArray) : binOp .gtr t (.string a) (.string b) = pure (.bool (Op.bytesLess b.toList a.toList)) := by
  rw [show Op.bytesLess b.toList a.toList = !(Op.bytesLess a.toList b.toList || a.toList == b.toList) by rw [less_le]; simp]; simp [binOp, Op.stringOp]
theorem binOp_geq_n (t : TypeId) (a b : ByteArray) : binOp .geq t (.string a) (.string b) = pure (.bool !(Op.bytesLess a.toList b.toList)) := by simp [binOp, Op.stringOp]
section
attribute [local go_sem high] binOp_leq_n binOp_gtr_n binOp_geq_n
/-! ### impl_areDead: function 121 -/
end
/-! ### slices_Index_string_string: function 158 -/
/-! ### slices_Contains_string_string: function 125 -/
section
attribute [local go_sem high] binOp_leq_n binOp_gtr_n binOp_geq_n
/-! ### spec_deList: function 151 -/
end
/-! ### spec_l1HasS: function 153 -/
/-! Dead codes: what is asked of them. -/
theorem rd_str {xs : List ByteArray} {i : Nat} (h : i < xs.length) : rdOf ByteArray.empty xs (i : Nat) = xs[i] := by rw [rdOf_at (by simpa using h)]; simp
theorem wr_big {c : Nat} (h : c ≤ 9223372036854775806) : wrap64 ((c : Int) + 1) = ((c + 1 : Nat) : Int) := w64 (by omega) (by omega)
/-! ### laws_eqPinsS: function 38 -/
/-! ### laws_szPinsS: function 34 -/
/-! ### laws_toPinsS: function 36 -/
/-! The statements' own helpers on rows and pins: what they come to. -/
theorem rd_row {xs : List (List Int)} {i : Nat} (h : i < xs.length) : rd_L5 xs (i : Nat) = xs[i] := by unfold rd_L5; simp [List.getD, h]
theorem rd_int {xs : List Int} {i : Nat} (h : i < xs.length) : rd xs (i : Nat) = xs[i] := by rw [rd_at (by simpa using h)]; simp
/-- The lengths are numbers of Go. -/
def RowsV (x : List (List Int)) : Prop := x.length ≤ 9223372036854775807 ∧ ∀ r ∈ x, r.length ≤ 9223372036854775807
/-- No longer than a million. -/
def RowsM (x : List (List Int)) : Prop := x.length ≤ 1048576 ∧ ∀ r ∈ x, r.length ≤ 1048576
theorem RowsM.v {x : List (List Int)} (h : RowsM x) : RowsV x := ⟨by have := h.1; omega, fun r hr => by have := h.2 r hr; omega⟩
theorem laws_szIntS.is (l : List Int) (a : Int) (h0 : 0 ≤ a) (h1 : a ≤ 1048576) (hl : l.length ≤ 9223372036854775807) : laws_szIntS.f l a = some (if (l.length : Int) ≤ a then a - l.length else -1) := by
  unfold laws_szIntS.f
  rw [w64 (x := a - (l.length : Int)) (by omega) (by omega)]
  by_cases h : (l.length : Int) ≤ a
  · rw [if_neg (by omega), if_pos h]
  · rw [if_pos (by omega), if_neg h]
theorem laws_szIntSS.lev (l : List (List Int)) (hl : RowsV l) : ∀ (m i : Nat) (a : Int), i + m = l.length → 0 ≤ a → a ≤ 1048576 → ∃ r, r ≤ a ∧ Ev (fun k => laws_szIntSS.l0 k l a (i : Nat)) r ∧ (0 ≤ r → ∀ x ∈ l.drop i, (x.length : Int) ≤ 1048576) := by
  have hl1 := hl.1
  intro m
  induction m with
  | zero =>
    intro i a hi h0 h1
    refine ⟨a, Int.le_refl _, Ev.step (fun k => rfl) (Ev.no (by omega) (Ev.now _)), fun _ x hx => ?_⟩
    rw [List.drop_eq_nil_of_le (by omega)] at hx
    simp at hx
  | succ m ih =>
    intro i a hi h0 h1
    have hlt : i < l.length := by omega
    have hx := hl.2 l[i] (List.getElem_mem hlt)
    by_cases h : (l[i].length : Int) ≤ a
    · obtain ⟨r, hr, he, hf⟩ := ih (i + 1) (a - l[i].length) (by omega) (by omega) (by omega)
      refine ⟨r, by omega, Ev.step (fun k => rfl) (Ev.yes (by omega) (Ev.yes (by omega) ?_)), fun hr0 x hx => ?_⟩
      · rw [rd_row hlt]
        refine Ev.bindc (laws_szIntS.is _ _ h0 h1 hx) ?_
        rw [if_pos h, w64 (x := (i : Int) + 1) (by omega) (by omega)]
        exact Ev.no (by omega) he
      · rw [List.drop_eq_getElem_cons hlt] at hx
        rcases List.mem_cons.mp hx with rfl | hx
        · omega
        · exact hf hr0 x hx
    · refine ⟨-1, by omega, Ev.step (fun k => rfl) (Ev.yes (by omega) (Ev.yes (by omega) ?_)), fun hr0 => by omega⟩
      rw [rd_row hlt]
      refine Ev.bindc (laws_szIntS.is _ _ h0 h1 hx) ?_
      rw [if_neg h]
      exact Ev.yes (by omega) (Ev.now _)
theorem laws_szIntSS.ev (l : List (List Int)) (hl : RowsV l) (a : Int) (h0 : 0 ≤ a) (h1 : a ≤ 1048576) : ∃ r, r ≤ a ∧ Ev (fun k => laws_szIntSS.f k l a) r ∧ (0 ≤ r → RowsM l) := by
  have hl1 := hl.1
  unfold laws_szIntSS.f
  rw [w64 (x := a - (l.length : Int)) (by omega) (by omega)]
  by_cases h : (l.length : Int) ≤ a
  · obtain ⟨r, hr, he, hf⟩ := laws_szIntSS.lev l hl l.length 0 (a - l.length) (by omega) (by omega) (by omega)
    refine ⟨r, by omega, Ev.no (by omega) he, fun hr0 => ⟨by omega, fun x hx => ?_⟩⟩
    have := hf hr0 x (by simpa using hx)
    omega
  · exact ⟨-1, by omega, Ev.yes (by omega) (Ev.now _), fun hr0 => by omega⟩
theorem laws_szPins.ev (n : Int) (l : List (List Int)) (hl : RowsV l) (a : Int) (h0 : 0 ≤ a) (h1 : a ≤ 1048576) : ∃ r, r ≤ a ∧ Ev (fun k => laws_szPins.f k n l a) r ∧ (0 ≤ r → RowsM l) := by
  obtain ⟨r, hr, he, hf⟩ := laws_szIntSS.ev l hl a h0 h1
  by_cases h : 0 ≤ r
  · exact ⟨r, hr, Ev.bind he (Ev.no (by omega) (Ev.now _)), hf⟩
  · exact ⟨-1, by omega, Ev.bind he (Ev.yes (by omega) (Ev.now _)), fun hr0 => by omega⟩
theorem laws_toIntS.lev (l : List Int) (hl : l.length ≤ 1048576) : ∀ (m i : Nat), i + m = l.length → Ev (fun k => laws_toIntS.l0 k l ((l.take i).map id ++ List.replicate (l.length - i) 0) (i : Nat)) l := by
  intro m
  induction m with
  | zero => intro i hi; exact Ev.step (fun k => rfl) (Ev.no (by omega) (Ev.id (by rw [show i = l.length by omega]; simp)))
  | succ m ih =>
    intro i hi
    have hlt : i < l.length := by omega
    refine Ev.step (fun k => rfl) (Ev.yes (by omega) (Ev.yes (by omega) (Ev.yes (by simp; omega) ?_)))
    rw [rd_int hlt, Int.toNat_natCast]
    have this : ((l.take i).map id ++ List.replicate (l.length - i) 0).set i l[i] = (l.take (i + 1)).map id ++ List.replicate (l.length - (i + 1)) 0 := fill_step id l 0 i hlt
    rw [this, w64 (x := (i : Int) + 1) (by omega) (by omega)]
    exact ih (i + 1) (by omega)
theorem laws_toIntS.ev (l : List Int) (hl : l.length ≤ 1048576) : Ev (fun k => laws_toIntS.f k l) l := by
  unfold laws_toIntS.f
  refine Ev.yes (by omega) (Ev.yes (by simp; omega) ?_)
  have := laws_toIntS.lev l hl l.length 0 (by omega)
  simpa using this
theorem laws_toIntSS.lev (l : List (List Int)) (hl : RowsM l) : ∀ (m i : Nat), i + m = l.length → Ev (fun k => laws_toIntSS.l0 k l ((l.take i).map id ++ List.replicate (l.length - i) []) (i : Nat)) l := by
  have hl1 := hl.1
  intro m
  induction m with
  | zero => intro i hi; exact Ev.step (fun k => rfl) (Ev.no (by omega) (Ev.id (by rw [show i = l.length by omega]; simp)))
  | succ m ih =>
    intro i hi
    have hlt : i < l.length := by omega
    refine Ev.step (fun k => rfl) (Ev.yes (by omega) (Ev.yes (by omega) ?_))
    rw [rd_row hlt]
    refine Ev.bind (laws_toIntS.ev _ (hl.2 _ (List.getElem_mem hlt))) (Ev.yes (by simp; omega) ?_)
    rw [Int.toNat_natCast]
    have this : ((l.take i).map id ++ List.replicate (l.length - i) []).set i l[i] = (l.take (i + 1)).map id ++ List.replicate (l.length - (i + 1)) [] := fill_step id l [] i hlt
    rw [this, w64 (x := (i : Int) + 1) (by omega) (by omega)]
    exact ih (i + 1) (by omega)
theorem laws_toIntSS.ev (l : List (List Int)) (hl : RowsM l) : Ev (fun k => laws_toIntSS.f k l) l := by
  have hl1 := hl.1
  unfold laws_toIntSS.f
  refine Ev.yes (by omega) (Ev.yes (by simp; omega) ?_)
  have := laws_toIntSS.lev l hl l.length 0 (by omega)
  simpa using this
theorem laws_toPins.ev (n : Int) (l : List (List Int)) (hl : RowsM l) : Ev (fun k => laws_toPins.f k n l) (n, l) := by
  unfold laws_toPins.f
  exact Ev.bind (laws_toIntSS.ev l hl) (Ev.now _)
theorem laws_eqIntS.levB (l : List Int) (hn : l.length ≤ 9223372036854775807) : ∀ (m i : Nat), i + m = l.length → Ev (fun k => laws_eqIntS.l0 k l l (i : Nat)) true := by
  intro m
  induction m with
  | zero => intro i hi; exact Ev.step (fun k => rfl) (Ev.no (by omega) (Ev.now _))
  | succ m ih =>
    intro i hi
    refine Ev.step (fun k => rfl) (Ev.yes (by omega) (Ev.yes (by omega) (Ev.yes (by omega) (Ev.yes rfl ?_))))
    rw [w64 (x := (i : Int) + 1) (by omega) (by omega)]
    exact ih (i + 1) (by omega)
theorem laws_eqIntS.evB (l : List Int) (hn : l.length ≤ 9223372036854775807) : Ev (fun k => laws_eqIntS.f k l l) true := by
  unfold laws_eqIntS.f
  exact Ev.yes rfl (laws_eqIntS.levB l hn l.length 0 (by omega))
theorem laws_eqIntSS.lev (l : List (List Int)) (hl : RowsV l) : ∀ (m i : Nat), i + m = l.length → Ev (fun k => laws_eqIntSS.l0 k l l (i : Nat)) true := by
  have hl1 := hl.1
  intro m
  induction m with
  | zero => intro i hi; exact Ev.step (fun k => rfl) (Ev.no (by omega) (Ev.now _))
  | succ m ih =>
    intro i hi
    have hlt : i < l.length := by omega
    refine Ev.step (fun k => rfl) (Ev.yes (by omega) (Ev.yes (by omega) (Ev.yes (by omega) ?_)))
    rw [rd_row hlt]
    refine Ev.bind (laws_eqIntS.evB _ (hl.2 _ (List.getElem_mem hlt))) (Ev.yes rfl ?_)
    rw [w64 (x := (i : Int) + 1) (by omega) (by omega)]
    exact ih (i + 1) (by omega)
theorem laws_eqIntSS.ev (l : List (List Int)) (hl : RowsV l) : Ev (fun k => laws_eqIntSS.f k l l) true := by
  unfold laws_eqIntSS.f
  exact Ev.yes rfl (laws_eqIntSS.lev l hl l.length 0 (by omega))
theorem laws_eqPins.ev (n : Int) (l : List (List Int)) (hl : RowsV l) : Ev (fun k => laws_eqPins.f k n l n l) true := by
  unfold laws_eqPins.f
  exact Ev.yes rfl (Ev.bind (laws_eqIntSS.ev l hl) (Ev.yes rfl (Ev.now _)))
/-! Lists of pins: which are of one kind, what is joined. -/
/-! ### slices_Index_int_int: function 97 -/
/-! ### slices_Contains_int_int: function 104 -/
/-! ### impl_joined: function 101 -/
/-! ### impl_shared: function 91 -/
/-! Joined pins and counted keys: what they come to. -/
theorem impl_Pins_keys.lev (l : List (List Int)) (hl1 : l.length ≤ 9223372036854775807) : ∀ (m i : Nat) (a : Int), i + m = l.length → Ev (fun k => impl_Pins_keys.l0 k a l (l.length : Int) (i : Nat)) ((l.drop i).foldl (fun n r => wrap64 (n * r.length)) a) := by
  intro m
  induction m with
  | zero =>
    intro i a hi
    refine Ev.step (fun k => rfl) (Ev.no (by omega) (Ev.id ?_))
    rw [List.drop_eq_nil_of_le (by omega)]; rfl
  | succ m ih =>
    intro i a hi
    have hlt : i < l.length := by omega
    refine Ev.step (fun k => rfl) (Ev.yes (by omega) (Ev.yes (by omega) (Ev.yes (by omega) ?_)))
    rw [rd_row hlt, List.drop_eq_getElem_cons hlt, List.foldl_cons, w64 (x := (i : Int) + 1) (by omega) (by omega)]
    exact ih (i + 1) _ (by omega)
theorem impl_Pins_keys.ev (n : Int) (l : List (List Int)) (hl1 : l.length ≤ 9223372036854775807) : Ev (fun k => impl_Pins_keys.f k n l) (keysF l) := by
  unfold impl_Pins_keys.f keysF
  have := impl_Pins_keys.lev l hl1 l.length 0 1 (by omega)
  simpa using this
theorem spec_keCount.lev (l : List (List Int)) (hl1 : l.length ≤ 9223372036854775807) : ∀ (m i : Nat) (a : Int), i + m = l.length → Ev (fun k => spec_keCount.l0 k a l (l.length : Int) (i : Nat)) ((l.drop i).foldl (fun n r => wrap64 (n * r.length)) a) := by
  intro m
  induction m with
  | zero =>
    intro i a hi
    refine Ev.step (fun k => rfl) (Ev.no (by omega) (Ev.id ?_))
    rw [List.drop_eq_nil_of_le (by omega)]; rfl
  | succ m ih =>
    intro i a hi
    have hlt : i < l.length := by omega
    refine Ev.step (fun k => rfl) (Ev.yes (by omega) (Ev.yes (by omega) (Ev.yes (by omega) ?_)))
    rw [rd_row hlt, List.drop_eq_getElem_cons hlt, List.foldl_cons, w64 (x := (i : Int) + 1) (by omega) (by omega)]
    exact ih (i + 1) _ (by omega)
theorem spec_keCount.ev (n : Int) (l : List (List Int)) (hl1 : l.length ≤ 9223372036854775807) : Ev (fun k => spec_keCount.f k n l) (keysF l) := by
  unfold spec_keCount.f keysF
  have := spec_keCount.lev l hl1 l.length 0 1 (by omega)
  simpa using this
/-! spec.keJoin -/
/-! impl.joined -/
theorem wr_succ {c : Nat} (h : c ≤ 1000) : wrap64 ((c : Int) + 1) = ((c + 1 : Nat) : Int) := w64 (by omega) (by omega)
/-! spec's numbers of one digit. -/
theorem spec_l1Num.one {x : Int} (h : x < 10) : Ev (fun k => spec_l1Num.f k x) (strOfNums [wrap64 (48 + x) % 256]) :=
  Ev.step (fun k => rfl) (Ev.yes h (Ev.now _))
/-! ### spec_keKind: function 80 -/
/-! ### spec_keList: function 88 -/
/-! spec's pins: what they come to. -/
theorem spec_l1Rising.lev (n : Int) (hn : 1 ≤ n ∧ n ≤ 9) (l : List Int) (hl : l.length ≤ 9223372036854775807) : ∀ (m i : Nat), i + m = l.length → (-1 ≤ lastI l i) → Ev (fun k => spec_l1Rising.l0 k l 0 (n - 1) l (l.length : Int) (i : Nat)) (risF n (lastI l i) (l.drop i)) := by
  intro m
  induction m with
  | zero =>
    intro i hi _
    refine Ev.step (fun k => rfl) (Ev.no (by omega) (Ev.id ?_))
    rw [List.drop_eq_nil_of_le (by omega)]
    rfl
  | succ m ih =>
    intro i hi hq
    have hlt : i < l.length := by omega
    have hr : rd l (i : Nat) = l[i] := rd_int hlt
    refine Ev.step (fun k => rfl) (Ev.yes (by omega) (Ev.yes (by omega) (Ev.yes (by omega) (Ev.bindc (spec_l1In.bs _ _ _) ?_))))
    rw [hr, List.drop_eq_getElem_cons hlt]
    unfold risF
    have hw : wrap64 ((i : Int) + 1) = ((i + 1 : Nat) : Int) := w64 (by omega) (by omega)
    have hla : lastI l (i + 1) = l[i] := lastI_at hlt
    by_cases h1 : 0 ≤ l[i] ∧ l[i] ≤ n - 1
    · refine Ev.yes (decide_eq_true h1) ?_
      have hgo := ih (i + 1) (by omega) (by rw [hla]; omega)
      rw [hla] at hgo
      cases i with
      | zero =>
        refine Ev.no (by omega) ?_
        rw [hw]
        refine Ev.eq hgo ?_
        have h2 : decide (lastI l 0 < l[0]) = true := decide_eq_true (show (-1 : Int) < l[0] by omega)
        have h3 : decide (l[0] ≤ n - 1) = true := decide_eq_true h1.2
        rw [h2, h3]; rfl
      | succ i =>
        have hp : wrap64 (((i + 1 : Nat) : Int) - 1) = (i : Nat) := by rw [w64 (by omega) (by omega)]; omega
        have hr1 : rd l (i : Nat) = l[i] := rd_int (by omega)
        have hlb : lastI l (i + 1) = l[i] := lastI_at (by omega)
        refine Ev.yes (by omega) ?_
        rw [hp, hr1, hlb]
        refine Ev.yes (by omega) (Ev.yes (by omega) ?_)
        by_cases h2 : l[i] ≥ l[i + 1]
        · refine Ev.yes h2 (Ev.id ?_)
          rw [decide_eq_false (by omega : ¬ l[i] < l[i + 1])]; rfl
        · refine Ev.no h2 ?_
          rw [hw]
          refine Ev.eq hgo ?_
          rw [decide_eq_true (by omega : l[i] < l[i + 1]), decide_eq_true h1.2]; rfl
    · refine Ev.no (by rw [decide_eq_false h1]; simp) (Ev.id ?_)
      by_cases h2 : lastI l i < l[i]
      · have h3 : ¬ l[i] ≤ n - 1 := fun h => h1 ⟨by omega, h⟩
        rw [decide_eq_false h3]; simp
      · rw [decide_eq_false h2]; rfl
theorem spec_l1Rising.ev (n : Int) (hn : 1 ≤ n ∧ n ≤ 9) (l : List Int) (hl : l.length ≤ 9223372036854775807) : Ev (fun k => spec_l1Rising.f k l 0 (n - 1)) (risF n (-1) l) := by
  unfold spec_l1Rising.f
  exact spec_l1Rising.lev n hn l hl l.length 0 (by omega) (show (-1 : Int) ≤ -1 by omega)
theorem spec_keGood.lev (n : Int) (hn : 1 ≤ n ∧ n ≤ 9) (l : List (List Int)) (hl : RowsV l) : ∀ (m i : Nat), i + m = l.length → Ev (fun k => spec_keGood.l0 k l (l.length : Int) (i : Nat) n l) ((l.drop i).all (rowB n)) := by
  have hl1 := hl.1
  intro m
  induction m with
  | zero =>
    intro i hi
    refine Ev.step (fun k => rfl) (Ev.no (by omega) (Ev.id ?_))
    rw [List.drop_eq_nil_of_le (by omega)]; rfl
  | succ m ih =>
    intro i hi
    have hlt : i < l.length := by omega
    refine Ev.step (fun k => rfl) (Ev.yes (by omega) (Ev.yes (by omega) (Ev.yes (by omega) ?_)))
    rw [rd_row hlt, List.drop_eq_getElem_cons hlt, List.all_cons]
    have hx := hl.2 l[i] (List.getElem_mem hlt)
    have hgo := ih (i + 1) (by omega)
    generalize l[i] = x at hx ⊢
    unfold rowB
    by_cases h0 : (x.length : Int) = 0
    · refine Ev.yes h0 (Ev.id ?_)
      obtain rfl : x = [] := List.length_eq_zero_iff.mp (by omega)
      rfl
    · refine Ev.no h0 ?_
      have h1 : (!x.isEmpty) = true := by cases x <;> simp_all
      rw [w64 (x := n - 1) (by omega) (by omega), h1, Bool.true_and]
      refine Ev.bind (spec_l1Rising.ev n hn x hx) ?_
      cases risF n (-1) x with
      | false => exact Ev.no (by simp) (Ev.id rfl)
      | true =>
        refine Ev.yes rfl ?_
        rw [w64 (x := (i : Int) + 1) (by omega) (by omega), Bool.true_and]
        exact hgo
theorem spec_keGood.ev (n : Int) (l : List (List Int)) (hl : RowsV l) : Ev (fun k => spec_keGood.f k n l) (pinsB n l) := by
  unfold spec_keGood.f pinsB
  refine Ev.bindc (spec_l1In.bs _ _ _) ?_
  by_cases h1 : 1 ≤ n ∧ n ≤ 9
  · rw [decide_eq_true h1]
    refine Ev.yes rfl (Ev.bindc (spec_l1In.bs _ _ _) (Ev.step (fun k => rfl) ?_))
    simp only [spec_keGood.j0]
    by_cases h2 : 1 ≤ (l.length : Int) ∧ (l.length : Int) ≤ 7
    · rw [decide_eq_true h2]
      refine Ev.no (by simp) ?_
      have := spec_keGood.lev n h1 l hl l.length 0 (by omega)
      simpa using this
    · rw [decide_eq_false h2]
      exact Ev.yes (by simp) (Ev.id (by simp))
  · rw [decide_eq_false h1]
    refine Ev.no (by simp) (Ev.step (fun k => rfl) ?_)
    simp only [spec_keGood.j0]
    exact Ev.yes trivial (Ev.id (by simp))
/-! Digits of texts, texts of digits: what they come to. -/
theorem impl_text.lev (l : List Int) (hl : l.length ≤ 1000000) : ∀ (j : Nat) (i : Int) (x : List Int), 0 ≤ i → i ≤ l.length → (l.length : Int) - i = j → x = (l.take i.toNat).map (fun x => wrap64 (48 + x) % 256) →
    Ev (fun k => impl_text.l0 k x l (l.length : Int) i) (textB l) := by
  intro j
  induction j with
  | zero =>
    intro i x h0 hi hj hx
    refine Ev.step (fun k => rfl) (Ev.no (by omega) (Ev.id ?_))
    rw [hx, List.take_of_length_le (by omega)]; rfl
  | succ j ih =>
    intro i x h0 hi hj hx
    have hlt : i.toNat < l.length := by omega
    have hxl : x.length ≤ 1000000 := by rw [hx, List.length_map, List.length_take]; omega
    refine Ev.step (fun k => rfl) (Ev.yes (by omega) (Ev.yes h0 (Ev.yes (by omega) (Ev.yes (by omega) ?_))))
    rw [w64 (x := i + 1) (by omega) (by omega)]
    refine ih (i + 1) _ (by omega) (by omega) (by omega) ?_
    rw [toNat_succ h0, List.take_succ_eq_append_getElem hlt, List.map_append, hx, rd_at hlt]; rfl
theorem impl_text.ev (l : List Int) (hl : l.length ≤ 1000000) : Ev (fun k => impl_text.f k l) (textB l) := by
  unfold impl_text.f
  exact impl_text.lev l hl l.length 0 [] (by omega) (by omega) (by omega) (by simp)
/-! All keys that open: what impl (place after place) and spec (key after key) come to. -/
def dT (d : Int) : ByteArray := textB [d]
theorem dT_size (d : Int) : (dT d).size = 1 := by unfold dT; rw [textB_size]; rfl
def extK : List (List Int) → ByteArray → List ByteArray
  | [], s => [s]
  | r :: t, s => r.flatMap fun d => extK t (s ++ dT d)
def bfsK : List (List Int) → List ByteArray → List ByteArray
  | [], L => L
  | r :: t, L => bfsK t (L.flatMap fun s => r.map fun d => s ++ dT d)
theorem bfsK_ext : ∀ (l : List (List Int)) (L : List ByteArray), bfsK l L = L.flatMap (extK l) := by
  intro l
  induction l with
  | nil => intro L; show L = L.flatMap (fun s => [s]); rw [List.flatMap_singleton']
  | cons r t ih =>
    intro L
    show bfsK t (L.flatMap fun s => r.map fun d => s ++ dT d) = L.flatMap fun s => r.flatMap fun d => extK t (s ++ dT d)
    rw [ih, List.flatMap_assoc]
    congr 1
    funext s
    rw [List.flatMap_map]
def prodK (l : List (List Int)) : Nat := l.foldr (fun r n => r.length * n) 1
theorem flatMap_len {α β : Type} (f : α → List β) (c : Nat) : ∀ (l : List α), (∀ x ∈ l, (f x).length = c) → (l.flatMap f).length = l.length * c := by
  intro l
  induction l with
  | nil => intro _; simp
  | cons a t ih =>
    intro h
    rw [List.flatMap_cons, List.length_append, h a List.mem_cons_self, ih (fun x hx => h x (List.mem_cons_of_mem _ hx)), List.length_cons, Nat.succ_mul, Nat.add_comm]
theorem extK_len : ∀ (l : List (List Int)) (s : ByteArray), (extK l s).length = prodK l := by
  intro l
  induction l with
  | nil => intro s; rfl
  | cons r t ih =>
    intro s
    show (r.flatMap fun d => extK t (s ++ dT d)).length = r.length * prodK t
    exact flatMap_len _ _ _ (fun d _ => ih _)
/-- Rows of pins: short ones. -/
def Short (l : List (List Int)) : Prop := l.length ≤ 7 ∧ ∀ r ∈ l, r.length ≤ 9 ∧ ∀ x ∈ r, 0 ≤ x ∧ x < 10
theorem prodK_le : ∀ (l : List (List Int)), (∀ r ∈ l, r.length ≤ 9) → prodK l ≤ 9 ^ l.length := by
  intro l
  induction l with
  | nil => intro _; exact Nat.le_refl _
  | cons r t ih =>
    intro h
    show r.length * prodK t ≤ 9 ^ (t.length + 1)
    rw [Nat.pow_succ, Nat.mul_comm]
    exact Nat.mul_le_mul (ih (fun x hx => h x (List.mem_cons_of_mem _ hx))) (h r List.mem_cons_self)
theorem prodK_big {l : List (List Int)} (h : Short l) : prodK l ≤ 4782969 := Nat.le_trans (prodK_le l (fun r hr => (h.2 r hr).1)) (Nat.le_trans (Nat.pow_le_pow_right (by omega) h.1) (by decide))
theorem keysF_prod : ∀ (l : List (List Int)) (a : Nat), (∀ r ∈ l, r.length ≤ 9) → a * 9 ^ l.length ≤ 4782969 → l.foldl (fun n r => wrap64 (n * r.length)) (a : Int) = ((a * prodK l : Nat) : Int) := by
  intro l
  induction l with
  | nil => intro a _ _; show (a : Int) = ((a * 1 : Nat) : Int); rw [Nat.mul_one]
  | cons r t ih =>
    intro a h hb
    have hr := h r List.mem_cons_self
    rw [List.foldl_cons]
    have h1 : a * r.length * 9 ^ t.length ≤ 4782969 := by
      refine Nat.le_trans ?_ hb
      rw [List.length_cons, Nat.pow_succ, Nat.mul_assoc]
      refine Nat.mul_le_mul_left a ?_
      rw [Nat.mul_comm]
      exact Nat.mul_le_mul_left _ hr
    have h2 : a * r.length ≤ 4782969 := Nat.le_trans (Nat.le_mul_of_pos_right _ (Nat.pow_pos (by omega))) h1
    have hw : wrap64 ((a : Int) * (r.length : Int)) = ((a * r.length : Nat) : Int) := by
      rw [Int.natCast_mul a r.length |>.symm]
      exact w64 (by omega) (by omega)
    rw [hw, ih (a * r.length) (fun x hx => h x (List.mem_cons_of_mem _ hx)) h1]
    show ((a * r.length * prodK t : Nat) : Int) = ((a * (r.length * prodK t) : Nat) : Int)
    rw [Nat.mul_assoc]
theorem keysF_is {l : List (List Int)} (h : Short l) : keysF l = (prodK l : Int) := by
  have := keysF_prod l 1 (fun r hr => (h.2 r hr).1) (by rw [Nat.one_mul]; exact Nat.le_trans (Nat.pow_le_pow_right (by omega) h.1) (by decide))
  rw [Nat.one_mul] at this
  exact this
/-! spec -/
theorem spec_keAll.lev (n : Int) (L : List (List Int)) (hS : Short L) : ∀ (m : Nat) (s : ByteArray), s.size + m = L.length → Ev (fun k => spec_keAll.f k n L s) (extK (L.drop s.size) s) := by
  have h7 := hS.1
  intro m
  induction m with
  | zero =>
    intro s hs
    refine Ev.step (fun k => rfl) (Ev.yes (by omega) (Ev.id ?_))
    rw [List.drop_eq_nil_of_le (by omega)]; rfl
  | succ m ih =>
    intro s hs
    have hlt : s.size < L.length := by omega
    refine Ev.step (fun k => rfl) (Ev.no (by omega) (Ev.yes (by omega) (Ev.yes (by omega) ?_)))
    rw [rd_row hlt, List.drop_eq_getElem_cons hlt]
    have hrow := hS.2 L[s.size] (List.getElem_mem hlt)
    have hbig : (extK (L[s.size] :: L.drop (s.size + 1)) s).length ≤ 4782969 := by
      rw [extK_len]
      refine prodK_big ⟨?_, fun r hr => ?_⟩
      · rw [List.length_cons, List.length_drop]; omega
      · rcases List.mem_cons.mp hr with rfl | hr
        · exact hrow
        · exact hS.2 r (List.mem_of_mem_drop hr)
    have hT : extK (L[s.size] :: L.drop (s.size + 1)) s = L[s.size].flatMap fun d => extK (L.drop (s.size + 1)) (s ++ dT d) := rfl
    rw [hT] at hbig ⊢
    generalize L[s.size] = row at hrow hbig ⊢
    have hlev : ∀ (q i : Nat) (acc : List ByteArray), i + q = row.length → acc ++ ((row.drop i).flatMap fun d => extK (L.drop (s.size + 1)) (s ++ dT d)) = (row.flatMap fun d => extK (L.drop (s.size + 1)) (s ++ dT d)) → Ev (fun k => spec_keAll.l0 k s acc row (row.length : Int) (i : Nat) n L) (row.flatMap fun d => extK (L.drop (s.size + 1)) (s ++ dT d)) := by
      intro q
      induction q with
      | zero =>
        intro i acc hi hacc
        rw [show row.drop i = [] from List.drop_eq_nil_of_le (by omega), List.flatMap_nil, List.append_nil] at hacc
        exact Ev.step (fun k => rfl) (Ev.no (by omega) (Ev.id hacc))
      | succ q ihq =>
        intro i acc hi hacc
        have hil : i < row.length := by omega
        have hx := hrow.2 row[i] (List.getElem_mem hil)
        have hlen := hacc
        rw [List.drop_eq_getElem_cons hil, List.flatMap_cons] at hacc
        have hl2 : acc.length + (extK (L.drop (s.size + 1)) (s ++ dT row[i])).length ≤ 4782969 := by
          refine Nat.le_trans ?_ hbig
          rw [← hacc, List.length_append, List.length_append]
          omega
        have hsz : (s ++ dT row[i]).size = s.size + 1 := by rw [ByteArray.size_append, dT_size]
        have hr9 := hrow.1
        have hgo := ih (s ++ dT row[i]) (by omega)
        rw [hsz] at hgo
        have hw := amk (wr_succ (c := i) (by omega))
        have hd1 := dT_size row[i]
        refine Ev.step (fun k => rfl) (Ev.yes (by omega) (Ev.yes (by omega) (Ev.yes (by omega) ?_)))
        rw [rd_int hil, hw.out]
        refine Ev.bind (spec_l1Num.one hx.2) (Ev.yes ?_ (Ev.bind hgo (Ev.yes (by omega) ?_)))
        · show s.size + (dT row[i]).size ≤ 9223372036854775807
          omega
        · exact ihq (i + 1) _ (by omega) (by rw [List.append_assoc]; exact hacc)
    exact hlev row.length 0 [] (by omega) (by rw [List.drop_zero]; rfl)
theorem spec_keAll.ev (n : Int) (L : List (List Int)) (hS : Short L) : Ev (fun k => spec_keAll.f k n L ⟨#[]⟩) (extK L ⟨#[]⟩) := by
  have := spec_keAll.lev n L hS L.length ⟨#[]⟩ (by show 0 + L.length = L.length; omega)
  exact this
/-! impl -/
theorem impl_text.one (d : Int) : Ev (fun k => impl_text.f k [d]) (dT d) := impl_text.ev [d] (by show 1 ≤ 1000000; omega)
theorem impl_Pins_all.lev2 (L : List (List Int)) (li : Int) (row : List Int) (hrow : row.length ≤ 9) (s : ByteArray) (hs : s.size ≤ 7) (X : List ByteArray) (j : Nat) (N : Nat) (hN : N ≤ 4782969 * 9) (o : List ByteArray × Bool) (T : List ByteArray) (hT : T.length ≤ N)
    (hgo : Ev (fun k => impl_Pins_all.l1 k row T L (L.length : Int) li X (X.length : Int) (wrap64 ((j : Int) + 1))) o) :
    ∀ (q i : Nat) (acc : List ByteArray), i + q = row.length → acc ++ ((row.drop i).map fun d => s ++ dT d) = T → Ev (fun k => impl_Pins_all.l2 k row acc s L (L.length : Int) li X (X.length : Int) (j : Int) row (row.length : Int) (i : Int)) o := by
  intro q
  induction q with
  | zero =>
    intro i acc hi hacc
    rw [List.drop_eq_nil_of_le (by omega), List.map_nil, List.append_nil] at hacc
    subst hacc
    exact Ev.step (fun k => rfl) (Ev.no (by omega) hgo)
  | succ q ih =>
    intro i acc hi hacc
    have hil : i < row.length := by omega
    rw [List.drop_eq_getElem_cons hil, List.map_cons] at hacc
    have hl2 : acc.length ≤ N := by
      refine Nat.le_trans ?_ hT
      rw [← hacc, List.length_append]
      omega
    have hw := amk (wr_succ (c := i) (by omega))
    have hd1 := dT_size row[i]
    refine Ev.step (fun k => rfl) (Ev.yes (by omega) (Ev.yes (by omega) (Ev.yes (by omega) ?_)))
    rw [rd_int hil, hw.out]
    refine Ev.bind (impl_text.one _) (Ev.yes (by omega) (Ev.yes (by omega) ?_))
    exact ih (i + 1) _ (by omega) (by rw [List.append_assoc]; exact hacc)
theorem impl_Pins_all.lev1 (L : List (List Int)) (li : Int) (row : List Int) (hrow : row.length ≤ 9) (X : List ByteArray) (hX : X.length ≤ 4782969) (hXs : ∀ s ∈ X, s.size ≤ 7) (o : List ByteArray × Bool)
    (hgo : Ev (fun k => impl_Pins_all.l0 k (X.flatMap fun s => row.map fun d => s ++ dT d) L (L.length : Int) (wrap64 (li + 1))) o) :
    ∀ (q j : Nat) (acc : List ByteArray), j + q = X.length → acc.length ≤ j * 9 → acc ++ ((X.drop j).flatMap fun s => row.map fun d => s ++ dT d) = (X.flatMap fun s => row.map fun d => s ++ dT d) → Ev (fun k => impl_Pins_all.l1 k row acc L (L.length : Int) li X (X.length : Int) (j : Int)) o := by
  intro q
  induction q with
  | zero =>
    intro j acc hj hal hacc
    rw [List.drop_eq_nil_of_le (by omega), List.flatMap_nil, List.append_nil] at hacc
    rw [← hacc] at hgo
    exact Ev.step (fun k => rfl) (Ev.no (by omega) hgo)
  | succ q ih =>
    intro j acc hj hal hacc
    have hjl : j < X.length := by omega
    rw [List.drop_eq_getElem_cons hjl, List.flatMap_cons] at hacc
    have hw := amk (wr_big (c := j) (by omega))
    have hs7 := hXs X[j] (List.getElem_mem hjl)
    refine Ev.step (fun k => rfl) (Ev.yes (by omega) (Ev.yes (by omega) (Ev.yes (by omega) ?_)))
    rw [rd_str hjl]
    have hml : (row.map fun d => X[j] ++ dT d).length = row.length := List.length_map _
    refine impl_Pins_all.lev2 L li row hrow X[j] hs7 X j (4782969 * 9) (Nat.le_refl _) o (acc ++ (row.map fun d => X[j] ++ dT d)) (by rw [List.length_append, hml]; omega) ?_ row.length 0 acc (by omega) (by rw [List.drop_zero])
    rw [hw.out]
    exact ih (j + 1) _ (by omega) (by rw [List.length_append, hml]; omega) (by rw [List.append_assoc]; exact hacc)
theorem impl_Pins_all.lev0 (L : List (List Int)) (hS : Short L) : ∀ (q i : Nat) (X : List ByteArray), i + q = L.length → X.length ≤ 9 ^ i → (∀ s ∈ X, s.size = i) → Ev (fun k => impl_Pins_all.l0 k X L (L.length : Int) (i : Int)) (bfsK (L.drop i) X, true) := by
  have h7 := hS.1
  intro q
  induction q with
  | zero =>
    intro i X hi hX hXs
    refine Ev.step (fun k => rfl) (Ev.no (by omega) (Ev.id ?_))
    rw [List.drop_eq_nil_of_le (by omega)]; rfl
  | succ q ih =>
    intro i X hi hX hXs
    have hil : i < L.length := by omega
    have hrow := hS.2 L[i] (List.getElem_mem hil)
    have h9 : 9 ^ i ≤ 4782969 := Nat.le_trans (Nat.pow_le_pow_right (by omega) (by omega : i ≤ 7)) (by decide)
    have hw := amk (wr_succ (c := i) (by omega))
    refine Ev.step (fun k => rfl) (Ev.yes (by omega) (Ev.yes (by omega) (Ev.yes (by omega) ?_)))
    rw [rd_row hil, List.drop_eq_getElem_cons hil]
    refine impl_Pins_all.lev1 L i L[i] hrow.1 X (by omega) (fun s hs => by have := hXs s hs; omega) _ ?_ X.length 0 [] (by omega) (Nat.zero_le _) (by rw [List.drop_zero]; rfl)
    rw [hw.out]
    refine ih (i + 1) _ (by omega) ?_ ?_
    · rw [flatMap_len _ L[i].length X (fun s _ => List.length_map _), Nat.pow_succ]
      exact Nat.mul_le_mul hX hrow.1
    · intro s hs
      obtain ⟨t, ht, hs⟩ := List.mem_flatMap.mp hs
      obtain ⟨d, _, rfl⟩ := List.mem_map.mp hs
      rw [ByteArray.size_append, dT_size, hXs t ht]
def allV (n : Int) (L : List (List Int)) : List ByteArray × Bool := if pinsB n L = true ∧ prodK L ≤ 200 then (extK L ⟨#[]⟩, true) else ([], false)
theorem pinsB_Short {n : Int} {L : List (List Int)} (h : pinsB n L = true) : Short L := by
  obtain ⟨h1, h2, h3⟩ := pinsB_parts h
  refine ⟨h2.2, fun r hr => ⟨?_, fun x hx => ?_⟩⟩
  · have := (rowB_len (by omega) (h3 r hr)).2
    omega
  · have := rowB_mem (h3 r hr) x hx
    omega
theorem allV_len (n : Int) (L : List (List Int)) : (allV n L).1.length ≤ 200 := by
  unfold allV
  by_cases h : pinsB n L = true ∧ prodK L ≤ 200
  · rw [if_pos h]
    show (extK L ⟨#[]⟩).length ≤ 200
    rw [extK_len]; exact h.2
  · rw [if_neg h]; exact Nat.zero_le _
theorem allV_no1 {n : Int} {L : List (List Int)} (h : pinsB n L = false) : allV n L = ([], false) := if_neg (fun hh => by rw [h] at hh; cases hh.1)
theorem allV_no2 {n : Int} {L : List (List Int)} (h : ¬ prodK L ≤ 200) : allV n L = ([], false) := if_neg (fun hh => h hh.2)
theorem allV_yes {n : Int} {L : List (List Int)} (h : pinsB n L = true) (h2 : prodK L ≤ 200) : allV n L = (extK L ⟨#[]⟩, true) := if_pos ⟨h, h2⟩
theorem spec_AllKeys.ev (n : Int) (L : List (List Int)) (hl : RowsV L) : Ev (fun k => spec_AllKeys.f k n L) (allV n L) := by
  unfold spec_AllKeys.f
  refine Ev.bind (spec_keGood.ev n L hl) ?_
  cases h : pinsB n L with
  | false => rw [allV_no1 h]; exact Ev.no (by simp) (Ev.now _)
  | true =>
    have hS := pinsB_Short h
    refine Ev.yes rfl (Ev.bind (spec_keCount.ev n L hl.1) ?_)
    rw [keysF_is hS]
    by_cases h2 : prodK L ≤ 200
    · rw [allV_yes h h2]
      exact Ev.no (by omega) (Ev.bind (spec_keAll.ev n L hS) (Ev.now _))
    · rw [allV_no2 h2]
      exact Ev.yes (by omega) (Ev.now _)
theorem impl_AllKeys.ev (n : Int) (L : List (List Int)) (hl : RowsV L) : Ev (fun k => impl_AllKeys.f k n L) (allV n L) := by
  unfold impl_AllKeys.f impl_ArePins.f
  refine Ev.bindc rfl ?_
  cases h : pinsB n L with
  | false => rw [allV_no1 h]; exact Ev.no (by simp) (Ev.now _)
  | true =>
    have hS := pinsB_Short h
    refine Ev.yes rfl ?_
    unfold impl_Pins_all.f
    by_cases h2 : prodK L ≤ 200
    · rw [allV_yes h h2]
      have hb := impl_Pins_all.lev0 L hS L.length 0 [⟨#[]⟩] (by omega) (by show 1 ≤ 9 ^ 0; decide) (fun s hs => by rw [List.mem_singleton.mp hs]; rfl)
      rw [List.drop_zero, bfsK_ext, List.flatMap_cons, List.flatMap_nil, List.append_nil] at hb
      refine Ev.bind (Ev.bind (impl_Pins_keys.ev n L hl.1) (Ev.no ?_ hb)) (Ev.now _)
      rw [keysF_is hS]; omega
    · rw [allV_no2 h2]
      refine Ev.bind (Ev.bind (impl_Pins_keys.ev n L hl.1) (Ev.yes ?_ (Ev.now _))) (Ev.now _)
      rw [keysF_is hS]; omega
/-! ### laws_heldIntS: function 134 -/
def laws_heldIntS.l0 : Nat → List Int → Int → Int → Option (Int)
  | 0, _, _, _ => none
  | k + 1, x0, x1, x5 => if x5 < (x0.length : Int) then (if 0 ≤ x5 then (if (rd x0 x5) = x1 then (laws_heldIntS.l0 k x0 (wrap64 (x1 + 1)) (wrap64 (x5 + 1))) else (some (-1))) else (none)) else (some x1)
/-! Marks on numbers, that they are held, lists of numbers compared. -/
theorem laws_markIntS.lev : ∀ (j : Nat) (l : List Int) (a : Int) (i : Nat), i + j = l.length → l.length ≤ 1048576 → 0 ≤ a → a + j ≤ 2000000 →
    ∃ l' : List Int, l'.length = l.length ∧ (∀ m : Nat, m < i → l'[m]? = l[m]?) ∧ Ev (fun k => laws_markIntS.l0 k l a (i : Nat)) (a + j, l') ∧ Ev (fun k => laws_heldIntS.l0 k l' a (i : Nat)) (a + j) := by
  intro j
  induction j with
  | zero =>
    intro l a i hi hn ha hb
    exact ⟨l, rfl, fun _ _ => rfl, Ev.step (fun k => rfl) (Ev.no (by omega) (Ev.id (by simp))), Ev.step (fun k => rfl) (Ev.no (by omega) (Ev.id (by simp)))⟩
  | succ j ih =>
    intro l a i hi hn ha hb
    have hlt : i < l.length := by omega
    have e1 : wrap64 (a + 1) = a + 1 := w64 (by omega) (by omega)
    have e4 : wrap64 ((i : Int) + 1) = ((i + 1 : Nat) : Int) := w64 (by omega) (by omega)
    obtain ⟨l', hl, hk, hm, hh⟩ := ih (l.set i a) (a + 1) (i + 1) (by simp; omega) (by simpa using hn) (by omega) (by omega)
    rw [List.length_set] at hl
    have hat : l'[i]? = some a := by
      rw [hk i (by omega)]
      simp [hlt]
    have hat' : rd l' (i : Nat) = a := by
      unfold rd
      simp [List.getD, hat]
    refine ⟨l', hl, fun m hmi => ?_, ?_, ?_⟩
    · rw [hk m (by omega), List.getElem?_set_ne (by omega)]
    · refine Ev.step (fun k => rfl) (Ev.yes (by omega) (Ev.yes (by omega) ?_))
      rw [e1, e4, Int.toNat_natCast]
      exact Ev.eq hm (by rw [Prod.mk.injEq]; exact ⟨by omega, rfl⟩)
    · refine Ev.step (fun k => rfl) (Ev.yes (by omega) (Ev.yes (by omega) ?_))
      rw [e1, e4]
      exact Ev.yes hat' (Ev.eq hh (by omega))
/-! Marks on texts, that they are held, lists of texts compared. -/
theorem laws_markText.lev : ∀ (n : Nat) (x : Int) (s : ByteArray), 0 ≤ x → x ≤ n → s.size + n ≤ 2000000 → ∃ t, Ev (fun k => laws_markText.l0 k x s) t := by
  intro n
  induction n with
  | zero =>
    intro x s h0 hx hs
    exact ⟨_, Ev.step (fun k => rfl) (Ev.no (by omega) (Ev.yes (by omega) (Ev.now _)))⟩
  | succ n ih =>
    intro x s h0 hx hs
    by_cases e : x > 0
    · have hd : Int.tdiv x 10 = x / 10 := Int.tdiv_eq_ediv_of_nonneg h0
      have hq : wrap64 (Int.tdiv x 10) = x / 10 := by rw [hd]; exact w64 (by omega) (by omega)
      have hsz : (strOfNums [wrap64 (48 + Int.tmod x 10) % 256]).size = 1 := by rw [strOfNums_size]; rfl
      obtain ⟨t, ht⟩ := ih (x / 10) (strOfNums [wrap64 (48 + Int.tmod x 10) % 256] ++ s) (by omega) (by omega) (by rw [ByteArray.size_append, hsz]; omega)
      refine ⟨t, Ev.step (fun k => rfl) (Ev.yes e ?_)⟩
      simp only [Option.bind_some, hq]
      exact Ev.yes (by rw [hsz]; omega) ht
    · exact ⟨_, Ev.step (fun k => rfl) (Ev.no e (Ev.yes (by omega) (Ev.now _)))⟩
theorem laws_markText.ev (a : Int) (h0 : 0 ≤ a) (h1 : a ≤ 1000000) : ∃ t, Ev (fun k => laws_markText.f k a) t := by
  by_cases e : a ≤ 0
  · exact ⟨_, by unfold laws_markText.f; exact Ev.yes e (Ev.now _)⟩
  · obtain ⟨t, ht⟩ := laws_markText.lev a.toNat a ⟨#[]⟩ (by omega) (by omega) (by show 0 + _ ≤ _; omega)
    exact ⟨t, by unfold laws_markText.f; exact Ev.no e ht⟩
theorem laws_eqStringS.lev (l : List ByteArray) (hn : l.length ≤ 1000000) : ∀ (m i : Nat), i + m = l.length → Ev (fun k => laws_eqStringS.l0 k l l (i : Nat)) true := by
  intro m
  induction m with
  | zero => intro i hi; exact Ev.step (fun k => rfl) (Ev.no (by omega) (Ev.now _))
  | succ m ih =>
    intro i hi
    refine Ev.step (fun k => rfl) (Ev.yes (by omega) (Ev.yes (by omega) (Ev.yes (by omega) (Ev.yes rfl ?_))))
    rw [show wrap64 ((i : Int) + 1) = ((i + 1 : Nat) : Int) from w64 (by omega) (by omega)]
    exact ih (i + 1) (by omega)
theorem laws_eqStringS.ev (l : List ByteArray) (hn : l.length ≤ 1000000) : Ev (fun k => laws_eqStringS.f k l l) true := by
  unfold laws_eqStringS.f
  exact Ev.yes rfl (laws_eqStringS.lev l hn l.length 0 (by omega))
theorem laws_markStringS.lev : ∀ (j : Nat) (l : List ByteArray) (a : Int) (i : Nat), i + j = l.length → l.length ≤ 1000 → 0 ≤ a → a + j ≤ 2000 →
    ∃ l' : List ByteArray, l'.length = l.length ∧ (∀ m : Nat, m < i → l'[m]? = l[m]?) ∧ Ev (fun k => laws_markStringS.l0 k l a (i : Nat)) (a + j, l') ∧ Ev (fun k => laws_heldStringS.l0 k l' a (i : Nat)) (a + j) := by
  intro j
  induction j with
  | zero =>
    intro l a i hi hn ha hb
    exact ⟨l, rfl, fun _ _ => rfl, Ev.step (fun k => rfl) (Ev.no (by omega) (Ev.id (by simp))), Ev.step (fun k => rfl) (Ev.no (by omega) (Ev.id (by simp)))⟩
  | succ j ih =>
    intro l a i hi hn ha hb
    have hlt : i < l.length := by omega
    have e1 : wrap64 (a + 1) = a + 1 := w64 (by omega) (by omega)
    have e4 : wrap64 ((i : Int) + 1) = ((i + 1 : Nat) : Int) := w64 (by omega) (by omega)
    obtain ⟨t, ht⟩ := laws_markText.ev a ha (by omega)
    obtain ⟨l', hl, hk, hm, hh⟩ := ih (l.set i t) (a + 1) (i + 1) (by simp; omega) (by simpa using hn) (by omega) (by omega)
    rw [List.length_set] at hl
    have hat : l'[i]? = some t := by
      rw [hk i (by omega)]
      simp [hlt]
    have hat' : rdOf ByteArray.empty l' (i : Nat) = t := by
      unfold rdOf
      simp [List.getD, hat]
    refine ⟨l', hl, fun m hmi => ?_, ?_, ?_⟩
    · rw [hk m (by omega), List.getElem?_set_ne (by omega)]
    · refine Ev.step (fun k => rfl) (Ev.yes (by omega) (Ev.bind ht (Ev.yes (by omega) ?_)))
      rw [e1, e4, Int.toNat_natCast]
      exact Ev.eq hm (by rw [Prod.mk.injEq]; exact ⟨by omega, rfl⟩)
    · refine Ev.step (fun k => rfl) (Ev.yes (by omega) (Ev.yes (by omega) (Ev.bind ht ?_)))
      rw [e1, e4]
      exact Ev.yes (by rw [hat']) (Ev.eq hh (by omega))
theorem laws_markStringS.ev (l : List ByteArray) (hn : l.length ≤ 1000) : ∃ l' : List ByteArray, Ev (fun k => laws_markStringS.f k l 1) (1 + (l.length : Nat), l') ∧ Ev (fun k => laws_heldStringS.f k l' 1) (1 + (l.length : Nat)) := by
  obtain ⟨l', _, _, hm, hh⟩ := laws_markStringS.lev l.length l 1 0 (by omega) hn (by omega) (by omega)
  exact ⟨l', hm, hh⟩
section
/-! What a readable argument holds, told by kinds: the bridge from a statement's reading to the print's words. -/
open Go.WideShapes in
def Opens {α : Type} (P : Program) (t : TypeId) (d : Kd α) (V : α → Prop) : Prop :=
  ∀ (H : Type) (enc : TypeId × Value → H) (w : World) (base : Nat) (spare : Nat → Bool) (held : Bool) (fuel : Nat) (cs : List Value) (x : DataW H × List MemPlace),
    DataW.trod enc P w base spare held fuel t cs = some x → ∃ a : α, d.K w a cs ∧ V a
def IntV (a : Int) : Prop := -9223372036854775808 ≤ a ∧ a ≤ 9223372036854775807
def ListV {α : Type} (V : α → Prop) (l : List α) : Prop := l.length ≤ 9223372036854775807 ∧ ∀ x ∈ l, V x
theorem opens_int {P : Program} {t : TypeId} (ht : P.underlying t = some (.int .i64)) : Opens P t (Kd.int .i64) IntV := by
  intro H enc w base spare held fuel cs x h
  obtain ⟨n, rfl, _, hw⟩ := DataW.trod_int ht h
  refine ⟨n, rfl, ?_⟩
  have hb : (IntKind.i64.min ≤ n ∧ n ≤ IntKind.i64.max) := by simpa [Lit.wf] using hw
  have e1 : IntKind.i64.min = -9223372036854775808 := rfl
  have e2 : IntKind.i64.max = 9223372036854775807 := rfl
  rw [e1, e2] at hb
  unfold IntV
  omega
theorem cells_list {w : World} {base : Nat} {a : Addr} {n : Nat} {cs : List Value} (h : w.cells? base a n = some cs) : cs.length = n ∧ ∀ i u, cs[i]? = some u → w.cell? (a.add i) = some u := by
  unfold World.cells? at h
  split at h
  · have hl := mapM_some_length h
    refine ⟨by simpa using hl, fun i u hu => ?_⟩
    have hi : i < n := by
      have := (List.getElem?_eq_some_iff.1 hu).1
      rw [hl] at this; simpa using this
    have := mapM_some_get h i i (by simp [hi])
    rw [hu] at this
    exact this
  · cases h
theorem opens_slice {α : Type} {P : Program} {t e : TypeId} {d : Kd α} {V : α → Prop} (ht : P.underlying t = some (.slice e)) (hd : Opens P e d V) (hsz : P.cellsOf e = d.sz) : Opens P t (Kd.slice e d) (ListV V) := by
  intro H enc w base spare held fuel cs x h
  rcases Go.Deep.open_slice ht h with ⟨rfl, _⟩ | ⟨a, len, cap, m, n, D, Pl, rfl, _, hl, hm, hmm, _, hel⟩
  · exact ⟨[], ⟨none, 0, rfl, Nat.le_refl _, ⟨rfl, by simp, fun h0 => absurd h0 (by simp)⟩⟩, ⟨by simp, fun x hx => by simp at hx⟩⟩
  · have hle : len ≤ m := by rw [hmm]; split <;> omega
    have each : ∀ i : Nat, ∃ a' : Option α, i < len → ∃ z cs', a' = some z ∧ V z ∧ d.K w z cs' ∧ ∀ j u, cs'[j]? = some u → w.cell? (a.add (i * d.sz + j)) = some u := by
      intro i
      by_cases hi : i < len
      · obtain ⟨cs', h1, h2⟩ := hel i (by omega)
        obtain ⟨z, hK, hV⟩ := hd H enc w base spare held n cs' _ h2
        refine ⟨some z, fun _ => ⟨z, cs', rfl, hV, hK, fun j u hu => ?_⟩⟩
        obtain ⟨_, hc⟩ := cells_list h1
        have := hc j u hu
        rw [Go.Deep.add_add, hsz] at this
        exact this
      · exact ⟨none, fun h0 => absurd h0 hi⟩
    have ⟨f, hf⟩ := Classical.axiomOfChoice each
    have hz : ∀ i, i < len → ∃ z, f i = some z ∧ V z ∧ ∃ cs', d.K w z cs' ∧ ∀ j u, cs'[j]? = some u → w.cell? (a.add (i * d.sz + j)) = some u := by
      intro i hi
      obtain ⟨z, cs', h1, h2, h3, h4⟩ := hf i hi
      exact ⟨z, h1, h2, cs', h3, h4⟩
    have hlist : ∃ l : List α, l.length = len ∧ ∀ i, i < len → f i = l[i]? := by
      clear hf each hel hmm hle
      have : ∀ n, n ≤ len → ∃ l : List α, l.length = n ∧ ∀ i, i < n → f i = l[i]? := by
        intro n
        induction n with
        | zero => intro _; exact ⟨[], rfl, fun i hi => by omega⟩
        | succ n ih =>
          intro hn
          obtain ⟨l, hl1, hl2⟩ := ih (by omega)
          obtain ⟨z, h1, _⟩ := hz n (by omega)
          refine ⟨l ++ [z], by simp [hl1], fun i hi => ?_⟩
          by_cases e : i < n
          · rw [List.getElem?_append_left (by omega)]; exact hl2 i e
          · obtain rfl : i = n := by omega
            rw [h1, ← hl1]; simp
      exact this len (Nat.le_refl _)
    obtain ⟨l, hlen, hget⟩ := hlist
    have hV : ∀ x ∈ l, V x := by
      intro x hx
      obtain ⟨i, hi, rfl⟩ := List.getElem_of_mem hx
      obtain ⟨z, h1, h2, _⟩ := hz i (by omega)
      have h3 := hget i (by omega)
      rw [h1, List.getElem?_eq_getElem hi] at h3
      injection h3 with h3
      rw [← h3]; exact h2
    unfold maxLen at hm
    subst hlen
    refine ⟨l, ⟨some a, cap, rfl, hl, ⟨rfl, by omega, fun _ => ⟨a, rfl, fun j p hp => ?_⟩⟩⟩, ⟨by omega, hV⟩⟩
    have hj : j < l.length := (List.getElem?_eq_some_iff.1 hp).1
    obtain ⟨z, h1, _, cs', h3, h4⟩ := hz j hj
    have h5 := hget j hj
    rw [h1, hp] at h5
    injection h5 with h5
    subst h5
    exact ⟨cs', d.K_len h3, h3, h4⟩
theorem opens_pair {α β : Type} {P : Program} {t : TypeId} {f0 f1 : Field} {d0 : Kd α} {d1 : Kd β} {V0 : α → Prop} {V1 : β → Prop} (ht : P.underlying t = some (.struct #[f0, f1]))
    (h0 : Opens P f0.type d0 V0) (h1 : Opens P f1.type d1 V1) (o0 : f0.offset = 0) (o1 : f1.offset = d0.sz) (z0 : P.cellsOf f0.type = d0.sz) (z1 : P.cellsOf f1.type = d1.sz) (zt : P.cellsOf t = d0.sz + d1.sz) :
    Opens P t (Kd.pair d0 d1) (fun x => V0 x.1 ∧ V1 x.2) := by
  intro H enc w base spare held fuel cs x h
  obtain ⟨y0, y1, n, _, hl, g0, g1⟩ := ChangeShapes.trod_struct2 ht h
  rw [o0, z0, List.drop_zero] at g0
  rw [o1, z1] at g1
  obtain ⟨a, ka, va⟩ := h0 H enc w base spare held n _ _ g0
  obtain ⟨b, kb, vb⟩ := h1 H enc w base spare held n _ _ g1
  refine ⟨(a, b), ⟨_, _, ?_, ka, kb⟩, va, vb⟩
  rw [List.take_of_length_le (l := cs.drop d0.sz) (by rw [List.length_drop, hl, zt]; omega), List.take_append_drop]
theorem opens_iso {α β : Type} {P : Program} {t : TypeId} {d : Kd α} {V : α → Prop} (h : Opens P t d V) (f : β → α) (g : α → β) (e : ∀ a, f (g a) = a) : Opens P t (Kd.iso d f) (fun x => V (f x)) := by
  intro H enc w base spare held fuel cs x hx
  obtain ⟨a, ka, va⟩ := h H enc w base spare held fuel cs x hx
  exact ⟨g a, by show d.K w (f (g a)) cs; rw [e]; exact ka, by show V (f (g a)); rw [e]; exact va⟩
section
variable {H : Type} {enc : TypeId × Value → H} {P : Program} {w : World} {base : Nat} {spare : Nat → Bool} {held : Bool} {r : Reach} {b0 : Nat} {t : TypeId} {v : Value} {x : DataW H} {p : List MemPlace}
theorem arg_struct {α : Type} {d : Kd α} {V : α → Prop} (ho : Opens P t d V) {fs : Array Field} (hs : P.underlying t = some (.struct fs)) (hv : Value.okWide P w r b0 t v) (h : DataW.Trod enc P w base spare held t v x p) :
    ∃ a cs, v = .agg (List.toArray cs) ∧ d.K w a cs ∧ V a := by
  obtain ⟨cs, rfl, _⟩ := WideShapes.okWide_struct hs hv
  obtain ⟨fuel, hf⟩ := h
  obtain ⟨a, hk, hV⟩ := ho H enc w base spare held fuel _ _ hf
  exact ⟨a, cs.toList, by simp, by simpa [Value.cells] using hk, hV⟩
theorem arg_lt (h : DataW.Trod enc P w base spare held t v x p) : ∀ y ∈ p, y.block < w.heap.size := by
  obtain ⟨m, hm⟩ := h
  exact DataW.trod_lt m _ _ _ hm
end
end
theorem opens_t3 : Opens Try.prog 3 (Kd.int .i64) IntV := opens_int Try.underlying3
theorem opens_t86 : Opens Try.prog 86 (Kd.slice 3 (Kd.int .i64)) (ListV IntV) := opens_slice Try.underlying86 opens_t3 (by kernel_rfl)
theorem opens_t35 : Opens Try.prog 35 (Kd.slice 86 (Kd.slice 3 (Kd.int .i64))) (ListV (ListV IntV)) := opens_slice Try.underlying35 opens_t86 (by kernel_rfl)
def V37 (x : S37) : Prop := IntV x.f0 ∧ (ListV (ListV IntV)) x.f1
theorem opens_t37 : Opens Try.prog 37 k37 V37 := opens_iso (opens_pair Try.underlying37 opens_t3 opens_t35 (by kernel_rfl) (by kernel_rfl) (by kernel_rfl) (by kernel_rfl) (by kernel_rfl)) (fun x : S37 => (x.f0, x.f1)) (fun p => ⟨p.1, p.2⟩) (fun _ => rfl)
/-! The law FnExactAllKeys: its calls, all told. -/
def totL (l : List (List Int)) : Nat := l.foldr (fun r n => r.length + n) 0
theorem laws_szIntSS.levT (l : List (List Int)) (hl : RowsV l) : ∀ (m i : Nat) (a : Int), i + m = l.length → 0 ≤ a → a ≤ 1048576 → ∃ r, r ≤ a ∧ Ev (fun k => laws_szIntSS.l0 k l a (i : Nat)) r ∧ (0 ≤ r → (totL (l.drop i) : Int) ≤ a) := by
  have hl1 := hl.1
  intro m
  induction m with
  | zero =>
    intro i a hi h0 h1
    refine ⟨a, Int.le_refl _, Ev.step (fun k => rfl) (Ev.no (by omega) (Ev.now _)), fun _ => ?_⟩
    rw [List.drop_eq_nil_of_le (by omega)]
    exact h0
  | succ m ih =>
    intro i a hi h0 h1
    have hlt : i < l.length := by omega
    have hx := hl.2 l[i] (List.getElem_mem hlt)
    by_cases h : (l[i].length : Int) ≤ a
    · obtain ⟨r, hr, he, hf⟩ := ih (i + 1) (a - l[i].length) (by omega) (by omega) (by omega)
      refine ⟨r, by omega, Ev.step (fun k => rfl) (Ev.yes (by omega) (Ev.yes (by omega) ?_)), fun hr0 => ?_⟩
      · rw [rd_row hlt]
        refine Ev.bindc (laws_szIntS.is _ _ h0 h1 hx) ?_
        rw [if_pos h, w64 (x := (i : Int) + 1) (by omega) (by omega)]
        exact Ev.no (by omega) he
      · rw [List.drop_eq_getElem_cons hlt]
        have := hf hr0
        show ((l[i].length + totL (l.drop (i + 1)) : Nat) : Int) ≤ a
        omega
    · refine ⟨-1, by omega, Ev.step (fun k => rfl) (Ev.yes (by omega) (Ev.yes (by omega) ?_)), fun hr0 => by omega⟩
      rw [rd_row hlt]
      refine Ev.bindc (laws_szIntS.is _ _ h0 h1 hx) ?_
      rw [if_neg h]
      exact Ev.yes (by omega) (Ev.now _)
theorem laws_szPins.evT (n : Int) (l : List (List Int)) (hl : RowsV l) : ∃ r, Ev (fun k => laws_szPins.f k n l 1048576) r ∧ (0 ≤ r → totL l ≤ 1048576) := by
  have hl1 := hl.1
  unfold laws_szPins.f laws_szIntSS.f
  rw [w64 (x := (1048576 : Int) - (l.length : Int)) (by omega) (by omega)]
  by_cases h : (l.length : Int) ≤ 1048576
  · obtain ⟨r, hr, he, hf⟩ := laws_szIntSS.levT l hl l.length 0 (1048576 - l.length) (by omega) (by omega) (by omega)
    by_cases h2 : 0 ≤ r
    · refine ⟨r, Ev.bind (Ev.no (by omega) he) (Ev.no (by omega) (Ev.now _)), fun hr0 => ?_⟩
      have := hf hr0
      rw [List.drop_zero] at this
      omega
    · exact ⟨-1, Ev.bind (Ev.no (by omega) he) (Ev.yes (by omega) (Ev.now _)), fun hr0 => by omega⟩
  · exact ⟨-1, Ev.bind (Ev.yes (by omega) (Ev.now _)) (Ev.yes (by omega) (Ev.now _)), fun hr0 => by omega⟩
theorem markRows_ev : ∀ (l : List (List Int)) (a : Int), 0 ≤ a → a + (totL l : Int) ≤ 2000000 → totL l ≤ 1048576 → ∃ l', Ev (fun k => markRows k l a) (a + (totL l : Int), l') := by
  intro l
  induction l with
  | nil => intro a h0 _ _; exact ⟨[], Ev.id (by rw [Prod.mk.injEq]; exact ⟨by show a = a + 0; omega, rfl⟩)⟩
  | cons x t ih =>
    intro a h0 h1 h2
    have ht : totL (x :: t) = x.length + totL t := rfl
    rw [ht] at h1 h2 ⊢
    obtain ⟨x', _, _, hm, _⟩ := laws_markIntS.lev x.length x a 0 (by omega) (by omega) h0 (by omega)
    obtain ⟨t', ht'⟩ := ih (a + x.length) (by omega) (by omega) (by omega)
    refine ⟨x' :: t', Ev.bind hm (Ev.bind ht' (Ev.id ?_))⟩
    rw [Prod.mk.injEq]
    exact ⟨by omega, rfl⟩
theorem C_rowsV {w : World} {A : Option Addr} {l : List (List Int)} (h : Kd.C (Kd.slice 3 (Kd.int .i64)) w A l.length l) : RowsV l := by
  refine ⟨h.2.1, fun r hr => ?_⟩
  obtain ⟨i, hi, rfl⟩ := List.getElem_of_mem hr
  obtain ⟨ad, cs, e, _, hK, _⟩ := Kd.C_get h ([] : List Int) (i : Int) (by omega) (by omega)
  obtain ⟨A0, c0, _, l0, g0⟩ := hK
  rw [Int.toNat_natCast, getD_at hi] at g0
  exact g0.2.1
set_option maxRecDepth 100000 in
theorem laws_FnExactAllKeys.walk0 (k : Nat) (n : Int) (L : List (List Int)) (r0 : Int) (A : Option Addr) (c : Nat) (w : World) (hr : Kd.C (Kd.slice 3 (Kd.int .i64)) w A L.length L) (hc : L.length ≤ c) (e1 : laws_szPins.f k n L 1048576 = some r0) (h0 : r0 < 0) :
    Calls Try.prog 6 #[.agg #[.int .i64 n, .slice A L.length c]] w fun e w' => e = .returned (.bool true) ∧ Below w.heap.size w w' := by
  have hu37 := Try.underlying37
  have hu35 := Try.underlying35
  have hd0 : decide (r0 < 0) = true := decide_eq_true h0
  have E1 := amk e1
  have HC := amk hc
  have HR := amk (Kd.C_alloc hr (.cells #[.int .i64 n, .slice A L.length c] 37 (0, 0)))
  have HB := amk ((Below.refl w.heap.size w).alloc (Nat.le_refl _) (.cells #[.int .i64 n, .slice A L.length c] 37 (0, 0)))
  clear e1 hc hr h0
  go_enter Try.func6, Try.ntmps6
  go_wp2_with (go_at_call 20; refine (laws_szPins.calls k n _ _ L _ r0 _ HR.out HC.out E1.out).mono ?_; rintro e w2 ⟨rfl, hb⟩; have HB2 := amk (HB.out.trans (hb.mono HB.out.size)); clear hb)
  go_ret
  exact ⟨rfl, HB2.out⟩
theorem laws_FnExactAllKeys.calls (a0_0 : Int) (A0_1 : Option Addr) (c0_1 : Nat) (l0_1 : List (List Int)) (r : Bool) (w : World) (hr0_1 : Kd.C (Kd.slice 3 (Kd.int .i64)) w A0_1 l0_1.length l0_1) (hc0_1 : l0_1.length ≤ c0_1) (h : laws_FnExactAllKeys.f a0_0 l0_1 = some r) :
    Calls Try.prog 6 #[.agg #[.int .i64 a0_0, .slice A0_1 l0_1.length c0_1]] w fun e w' => e = .returned (.bool r) ∧ Below w.heap.size w w' := by
  obtain rfl := Option.some.inj h
  have hV := C_rowsV hr0_1
  obtain ⟨r0, he0, hf0⟩ := laws_szPins.evT a0_0 l0_1 hV
  obtain ⟨r1, _, he1, hf1⟩ := laws_szPins.ev a0_0 l0_1 hV 1048576 (by omega) (by omega)
  have hrr : r1 = r0 := Ev.un he1 he0
  by_cases h0 : 0 ≤ r0
  · have hM := hf1 (by omega)
    have hlen := allV_len a0_0 l0_1
    obtain ⟨k2, e2⟩ := laws_toPins.ev a0_0 l0_1 hM
    obtain ⟨k3, e3⟩ := spec_AllKeys.ev a0_0 l0_1 hV
    obtain ⟨k4, e4⟩ := impl_AllKeys.ev a0_0 l0_1 hV
    obtain ⟨k5, e5⟩ := laws_eqStringS.ev (allV a0_0 l0_1).1 (by omega)
    obtain ⟨k6, e6⟩ := laws_eqPins.ev a0_0 l0_1 hV
    obtain ⟨L', hL'⟩ := markRows_ev l0_1 1 (by omega) (by have := hf0 h0; omega) (hf0 h0)
    obtain ⟨k7, e7⟩ := hL'
    obtain ⟨V', hm, hh⟩ := laws_markStringS.ev (allV a0_0 l0_1).1 (by omega)
    obtain ⟨k8, e8⟩ := hm
    obtain ⟨k9, e9⟩ := hh
    obtain ⟨k1, e1⟩ := he0
    have hk : ∃ k, k1 ≤ k ∧ k2 ≤ k ∧ k3 ≤ k ∧ k4 ≤ k ∧ k5 ≤ k ∧ k6 ≤ k ∧ k7 ≤ k ∧ k8 ≤ k ∧ k9 ≤ k := ⟨k1 + k2 + k3 + k4 + k5 + k6 + k7 + k8 + k9, by omega⟩
    obtain ⟨k, i1, i2, i3, i4, i5, i6, i7, i8, i9⟩ := hk
    exact laws_FnExactAllKeys.walk k a0_0 l0_1 (allV a0_0 l0_1).1 V' (allV a0_0 l0_1).2 r0 _ _ L' A0_1 c0_1 w hr0_1 hc0_1 (e1 k i1) h0 (e2 k i2) (e3 k i3) (e4 k i4) (e5 k i5) (e6 k i6) (e7 k i7) (by omega) (e8 k i8) (by omega) (e9 k i9)
  · obtain ⟨k1, e1⟩ := he0
    exact laws_FnExactAllKeys.walk0 k1 a0_0 l0_1 r0 A0_1 c0_1 w hr0_1 hc0_1 (e1 k1 (Nat.le_refl _)) (by omega)
theorem pure_FnExactAllKeys (p : S37) (_ : V37 p) : laws_FnExactAllKeys.f p.f0 p.f1 = some true := rfl
end Go.Proofs.Ytcnjiffoghganaa.P