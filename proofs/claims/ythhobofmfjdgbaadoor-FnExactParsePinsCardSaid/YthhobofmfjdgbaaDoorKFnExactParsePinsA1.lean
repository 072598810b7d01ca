import Derived.Test.YthhobofmfjdgbaaDoorKFnExactParsePinsA0
import Derived.Deep.RegionHeld3
import Derived.ProofKit
import Derived.Lib.SmallJoins
import Derived.Deep.Slices
import Derived.Lib.Join
import Derived.Lib.SplitLaws
import Derived.HandedShaped
import Derived.LaidMore
import Derived.LaidLaws
import Derived.Lay
namespace Go.Proofs.YthhobofmfjdgbaaDoor.P
open Go.RowKit Go.Proofs.YthhobofmfjdgbaaDoorW.PrintWords Go.Proofs.YthhobofmfjdgbaaDoorW.PrintLast Go.Proofs.YthhobofmfjdgbaaDoorW.PrintMore
attribute [local go_sem] max2_int min2_int max_two min_two max_three min_three max_four min_four
set_option linter.unusedVariables false
set_option linter.unusedSimpArgs false
/-! ### spec_l1Split: function 75 -/
def spec_l1Split.l0 : Nat → ByteArray → Int → List ByteArray → Int → Int → Option (List ByteArray)
  | 0, _, _, _, _, _ => none
  | k + 1, x0, x1, x5, x6, x7 => if x7 < (x0.size : Int) then (if 0 ≤ x7 then (if (bt x0 x7) = x1 then (if 0 ≤ x6 then (if x6 ≤ x7 then (if x7 ≤ (x0.size : Int) then (if x5.length < 8796093022208 then (spec_l1Split.l0 k x0 x1 (x5 ++ [x0.extract (x6 : Int).toNat (x7 : Int).toNat]) (wrap64 (x7 + 1)) (wrap64 (x7 + 1))) else (none)) else (none)) else (none)) else (none)) else (spec_l1Split.l0 k x0 x1 x5 x6 (wrap64 (x7 + 1)))) else (none)) else (if 0 ≤ x6 then (if x6 ≤ (x0.size : Int) then (if x5.length < 8796093022208 then (some (x5 ++ [x0.extract (x6 : Int).toNat x0.size])) else (none)) else (none)) else (none))
def spec_l1Split.f (k : Nat) (a0 : ByteArray) (a1 : Int) : Option (List ByteArray) := spec_l1Split.l0 k a0 a1 ([] : List ByteArray) 0 0
set_option maxHeartbeats 8000000 in
set_option maxRecDepth 100000 in
theorem spec_l1Split.calls (k : Nat) (a0 : ByteArray) (a1 : Int) (r : List ByteArray) (w : World) (h : spec_l1Split.f k a0 a1 = some r) :
    Calls Tryd.prog 75 #[.string a0, .int .u8 a1] w fun e w' => ∃ v0_ : Value, e = .returned (v0_) ∧ Kd.R Kd.string 9 w' w.heap.size (fun _ => True) v0_ r ∧ Below w.heap.size w w' := by
  have HB := amk (Below.refl w.heap.size w)
  have H : (spec_l1Split.l0 k a0 a1 ([] : List ByteArray) 0 0) = some r := h
  clear h
  have H' := amk H
  clear H
  go_enter Tryd.func75, Tryd.ntmps75
  go_wp2
  go_loopg [5, 6, 7] k (fun kq v5 v6 v7 w' => ∃ (x5_1 : List ByteArray) (x6_1 : Int) (x7_1 : Int), v6 = .int .i64 x6_1 ∧ v7 = .int .i64 x7_1 ∧ Aside0 (spec_l1Split.l0 kq a0 a1 x5_1 x6_1 x7_1 = some r) ∧ Aside0 (kq ≤ k) ∧ Aside0 (Kd.R Kd.string 9 w' w.heap.size (fun _ => True) v5 x5_1) ∧ Aside0 (Below w.heap.size w w'))
  case atStart => exact ⟨(([] : List ByteArray)), (0), (0), (by first | rfl | (simp; done) | (simp [*]; done)), (by first | rfl | (simp; done) | (simp [*]; done)), H', ⟨Nat.le_refl _⟩, ⟨by first | exact Kd.R_nil _ _ _ _ _ | exact Kd.N_nil _ _ _ _ _ | exact Kd.V_nil _ _ _ _ _ | exact Kd.Q_nil _ _ _ _ _ | exact Kd.S_nil _ _ _ _ _⟩, ⟨by repeat (first | (with_reducible first | exact HB.out | apply ba_ | apply bn_ | apply bd_) | exact HB.out)⟩⟩
  case round =>
    clear H'
    try clear p2
    obtain ⟨x5_1, x6_1, x7_1, rfl, rfl, HA, HK1, HO_5, HB⟩ := hrel
    cases gk with
    | zero => exact absurd HA.out (by simp [spec_l1Split.l0])
    | succ k1 =>
      have H := HA.out
      clear HA
      simp only [spec_l1Split.l0] at H
      by_cases c3 : x7_1 < (a0.size : Int)
      · rw [if_pos c3] at H
        have c3b0 : decide (x7_1 < (a0.size : Int)) = true := decide_eq_true c3
        clear c3
        by_cases c4 : 0 ≤ x7_1
        · rw [if_pos c4] at H
          have c4b0 : decide (0 ≤ x7_1) = true := decide_eq_true c4
          clear c4
          by_cases c6 : (bt a0 x7_1) = a1
          · rw [if_pos c6] at H
            have c6b0 : ((bt a0 x7_1) == a1) = true := beq_iff_eq.mpr c6
            have c6b1 : ((bt a0 x7_1) != a1) = false := bne_eq_false_iff_eq.mpr c6
            clear c6
            by_cases c7 : 0 ≤ x6_1
            · rw [if_pos c7] at H
              have c7b0 := eq_true c7
              have c7b1 : decide (0 ≤ x6_1) = true := decide_eq_true c7
              clear c7
              by_cases c8 : x6_1 ≤ x7_1
              · rw [if_pos c8] at H
                have c8b0 := eq_true c8
                have c8b1 : decide (x6_1 ≤ x7_1) = true := decide_eq_true c8
                clear c8
                by_cases c9 : x7_1 ≤ (a0.size : Int)
                · rw [if_pos c9] at H
                  have c9b0 := eq_true c9
                  have c9b1 : decide (x7_1 ≤ (a0.size : Int)) = true := decide_eq_true c9
                  clear c9
                  by_cases c10 : x5_1.length < 8796093022208
                  · rw [if_pos c10] at H
                    have LMc10 := amk c10
                    clear c10
                    obtain ⟨y150, hy150⟩ : ∃ y_ : List ByteArray, y_ = (x5_1 ++ [a0.extract (x6_1 : Int).toNat (x7_1 : Int).toNat]) := ⟨_, rfl⟩
                    replace H : (spec_l1Split.l0 k1 a0 a1 y150 (wrap64 (x7_1 + 1)) (wrap64 (x7_1 + 1))) = some r := by first | (rw [hy150]; with_reducible exact H) | (have H2_ := (Option.bind_some _ _).symm.trans H; rw [hy150]; with_reducible exact H2_) | (have H2_ := (Option.bind_some _ _).symm.trans H; with_reducible exact H2_) | with_reducible exact H | (rw [hy150]; exact H) | exact H
                    have Ny150 := amk hy150
                    clear hy150
                    have H' := amk H
                    clear H
                    have p5 : 0 ≤ (x7_1 : Int) := of_decide_eq_true (by first | (with_reducible assumption) | assumption)
                    have q5 : x7_1 < (a0.size : Int) := of_decide_eq_true (by first | (with_reducible assumption) | assumption)
                    have hx5 := bt_at a0 x7_1
                    replace p5 := eq_true p5
                    replace q5 := eq_true q5
                    go_wp2_with (first | ((with_reducible refine gate_builtin (b := .append) (xs := #[.tmp 19, .tmp 24]) rfl ?_); at_builtin; refine Kd.R_append Kd.string (w0 := w) w.heap.size rfl (.tmp 19) (.tmp 24) 71 9 (.string ⟨#[]⟩) 16 rfl Tryd.underlying71 info9 rfl (by decide) (by omega) u5 x5_1 (a0.extract (x6_1 : Int).toNat (x7_1 : Int).toNat) [.string (a0.extract (x6_1 : Int).toNat (x7_1 : Int).toNat)] (fun _ => True) (fun _ => False) rfl rfl ?aP (fun _ hk => hk.elim) ?aF ?aO ?aB ?aS ?aL ?_; (case aP => exact rfl); (case aB => exact (by repeat (first | (with_reducible first | exact HB.out | apply ba_ | apply bn_ | apply bd_) | exact HB.out))); (case aF => exact (fun _ _ => trivial)); (case aO => exact (by (with_reducible repeat (first | apply Kd.R_alloc | apply Kd.R_drewN | apply Kd.R_drew)); exact HO_5.out)); (case aS => exact (below_size (by repeat (first | (with_reducible first | exact HB.out | apply ba_ | apply bn_ | apply bd_) | exact HB.out)))); (case aL => have := LMc10.out; omega); intro v151 w11 ho hb hg hat; rw [← Ny150.out] at ho; have n0_ := amk (hb); have n1_ := amk (ho); clear HB; clear HO_5; have HB := n0_; have HO152 := n1_; clear n0_ n1_; clear ho hb hg hat))
                    go_roundg k1
                    case measure => have := HK1.out; omega
                    case rel => exact ⟨(y150), (wrap64 (x7_1 + 1)), (wrap64 (x7_1 + 1)), (by first | rfl | (simp; done) | (simp [*]; done)), (by first | rfl | (simp; done) | (simp [*]; done)), H', ⟨by have := HK1.out; omega⟩, ⟨by (with_reducible repeat (first | apply Kd.R_alloc | apply Kd.R_drewN | apply Kd.R_drew)); exact HO152.out⟩, ⟨by repeat (first | (with_reducible first | exact HB.out | apply ba_ | apply bn_ | apply bd_) | exact HB.out)⟩⟩
                  · rw [if_neg c10] at H
                    exact absurd H (by simp)
                · rw [if_neg c9] at H
                  exact absurd H (by simp)
              · rw [if_neg c8] at H
                exact absurd H (by simp)
            · rw [if_neg c7] at H
              exact absurd H (by simp)
          · rw [if_neg c6] at H
            have c6b0 : ((bt a0 x7_1) == a1) = false := beq_eq_false_iff_ne.mpr c6
            have c6b1 : ((bt a0 x7_1) != a1) = true := bne_iff_ne.mpr c6
            have H' := amk H
            clear H
            have p5 : 0 ≤ (x7_1 : Int) := of_decide_eq_true (by first | (with_reducible assumption) | assumption)
            have q5 : x7_1 < (a0.size : Int) := of_decide_eq_true (by first | (with_reducible assumption) | assumption)
            have hx5 := bt_at a0 x7_1
            replace p5 := eq_true p5
            replace q5 := eq_true q5
            go_wp2
            go_roundg k1
            case measure => have := HK1.out; omega
            case rel => exact ⟨(x5_1), (x6_1), (wrap64 (x7_1 + 1)), (by first | rfl | (simp; done) | (simp [*]; done)), (by first | rfl | (simp; done) | (simp [*]; done)), H', ⟨by have := HK1.out; omega⟩, ⟨by (with_reducible repeat (first | apply Kd.R_alloc | apply Kd.R_drewN | apply Kd.R_drew)); exact HO_5.out⟩, ⟨by repeat (first | (with_reducible first | exact HB.out | apply ba_ | apply bn_ | apply bd_) | exact HB.out)⟩⟩
        · rw [if_neg c4] at H
          exact absurd H (by simp)
      · rw [if_neg c3] at H
        have c3b0 : decide (x7_1 < (a0.size : Int)) = false := decide_eq_false c3
        clear c3
        by_cases c12 : 0 ≤ x6_1
        · rw [if_pos c12] at H
          have c12b0 := eq_true c12
          have c12b1 : decide (0 ≤ x6_1) = true := decide_eq_true c12
          clear c12
          by_cases c13 : x6_1 ≤ (a0.size : Int)
          · rw [if_pos c13] at H
            have c13b0 := eq_true c13
            have c13b1 : decide (x6_1 ≤ (a0.size : Int)) = true := decide_eq_true c13
            clear c13
            by_cases c14 : x5_1.length < 8796093022208
            · rw [if_pos c14] at H
              have LMc14 := amk c14
              clear c14
              obtain ⟨y153, hy153⟩ : ∃ y_ : List ByteArray, y_ = (x5_1 ++ [a0.extract (x6_1 : Int).toNat a0.size]) := ⟨_, rfl⟩
              replace H : (some y153) = some r := by first | (rw [hy153]; with_reducible exact H) | (have H2_ := (Option.bind_some _ _).symm.trans H; rw [hy153]; with_reducible exact H2_) | (have H2_ := (Option.bind_some _ _).symm.trans H; with_reducible exact H2_) | with_reducible exact H | (rw [hy153]; exact H) | exact H
              have Ny153 := amk hy153
              clear hy153
              obtain rfl := Option.some.inj H
              go_wp2_with (first | ((with_reducible refine gate_builtin (b := .append) (xs := #[.tmp 28, .tmp 32]) rfl ?_); at_builtin; refine Kd.R_append Kd.string (w0 := w) w.heap.size rfl (.tmp 28) (.tmp 32) 71 9 (.string ⟨#[]⟩) 16 rfl Tryd.underlying71 info9 rfl (by decide) (by omega) u5 x5_1 (a0.extract (x6_1 : Int).toNat a0.size) [.string (a0.extract (x6_1 : Int).toNat a0.size)] (fun _ => True) (fun _ => False) rfl rfl ?aP (fun _ hk => hk.elim) ?aF ?aO ?aB ?aS ?aL ?_; (case aP => exact rfl); (case aB => exact (by repeat (first | (with_reducible first | exact HB.out | apply ba_ | apply bn_ | apply bd_) | exact HB.out))); (case aF => exact (fun _ _ => trivial)); (case aO => exact (by (with_reducible repeat (first | apply Kd.R_alloc | apply Kd.R_drewN | apply Kd.R_drew)); exact HO_5.out)); (case aS => exact (below_size (by repeat (first | (with_reducible first | exact HB.out | apply ba_ | apply bn_ | apply bd_) | exact HB.out)))); (case aL => have := LMc14.out; omega); intro v154 w15 ho hb hg hat; rw [← Ny153.out] at ho; have n0_ := amk (hb); have n1_ := amk (ho); clear HB; clear HO_5; have HB := n0_; have HO155 := n1_; clear n0_ n1_; clear ho hb hg hat))
              go_ret
              exact ⟨_, by first | rfl | (simp [errW_none, errW_some] <;> rfl) | (simp [*, errW_none, errW_some] <;> rfl), by (with_reducible repeat (first | apply Kd.R_alloc | apply Kd.R_drewN | apply Kd.R_drew)); exact HO155.out, by repeat (first | (with_reducible first | exact HB.out | apply ba_ | apply bn_ | apply bd_) | exact HB.out)⟩
            · rw [if_neg c14] at H
              exact absurd H (by simp)
          · rw [if_neg c13] at H
            exact absurd H (by simp)
        · rw [if_neg c12] at H
          exact absurd H (by simp)
/-! ### spec_whDigits: function 77 -/
def spec_whDigits.l0 : Nat → ByteArray → List Int → Int → Option (List Int)
  | 0, _, _, _ => none
  | k + 1, x0, x3, x4 => if x4 < (x0.size : Int) then (if 0 ≤ x4 then (if x3.length < 17592186044416 then (spec_whDigits.l0 k x0 (x3 ++ [((bt x0 x4) - 48) % 256]) (wrap64 (x4 + 1))) else (none)) else (none)) else (some x3)
def spec_whDigits.f (k : Nat) (a0 : ByteArray) : Option (List Int) := spec_whDigits.l0 k a0 ([] : List Int) 0
set_option maxHeartbeats 8000000 in
set_option maxRecDepth 100000 in
theorem spec_whDigits.calls (k : Nat) (a0 : ByteArray) (r : List Int) (w : World) (h : spec_whDigits.f k a0 = some r) :
    Calls Tryd.prog 77 #[.string a0] w fun e w' => ∃ v0_ : Value, e = .returned (v0_) ∧ Kd.R (Kd.int .i64) 3 w' w.heap.size (fun _ => True) v0_ r ∧ Below w.heap.size w w' := by
  have HB := amk (Below.refl w.heap.size w)
  have H : (spec_whDigits.l0 k a0 ([] : List Int) 0) = some r := h
  clear h
  have H' := amk H
  clear H
  go_enter Tryd.func77, Tryd.ntmps77
  go_wp2
  go_loopg [3, 4] k (fun kq v3 v4 w' => ∃ (x3_1 : List Int) (x4_1 : Int), v4 = .int .i64 x4_1 ∧ Aside0 (spec_whDigits.l0 kq a0 x3_1 x4_1 = some r) ∧ Aside0 (kq ≤ k) ∧ Aside0 (Kd.R (Kd.int .i64) 3 w' w.heap.size (fun _ => True) v3 x3_1) ∧ Aside0 (Below w.heap.size w w'))
  case atStart => exact ⟨(([] : List Int)), (0), (by first | rfl | (simp; done) | (simp [*]; done)), H', ⟨Nat.le_refl _⟩, ⟨by first | exact Kd.R_nil _ _ _ _ _ | exact Kd.N_nil _ _ _ _ _ | exact Kd.V_nil _ _ _ _ _ | exact Kd.Q_nil _ _ _ _ _ | exact Kd.S_nil _ _ _ _ _⟩, ⟨by repeat (first | (with_reducible first | exact HB.out | apply ba_ | apply bn_ | apply bd_) | exact HB.out)⟩⟩
  case round =>
    clear H'
    obtain ⟨x3_1, x4_1, rfl, HA, HK1, HO_3, HB⟩ := hrel
    cases gk with
    | zero => exact absurd HA.out (by simp [spec_whDigits.l0])
    | succ k1 =>
      have H := HA.out
      clear HA
      simp only [spec_whDigits.l0] at H
      by_cases c2 : x4_1 < (a0.size : Int)
      · rw [if_pos c2] at H
        have c2b0 : decide (x4_1 < (a0.size : Int)) = true := decide_eq_true c2
        clear c2
        by_cases c3 : 0 ≤ x4_1
        · rw [if_pos c3] at H
          have c3b0 : decide (0 ≤ x4_1) = true := decide_eq_true c3
          clear c3
          by_cases c5 : x3_1.length < 17592186044416
          · rw [if_pos c5] at H
            have LMc5 := amk c5
            clear c5
            obtain ⟨y157, hy157⟩ : ∃ y_ : List Int, y_ = (x3_1 ++ [((bt a0 x4_1) - 48) % 256]) := ⟨_, rfl⟩
            replace H : (spec_whDigits.l0 k1 a0 y157 (wrap64 (x4_1 + 1))) = some r := by first | (rw [hy157]; with_reducible exact H) | (have H2_ := (Option.bind_some _ _).symm.trans H; rw [hy157]; with_reducible exact H2_) | (have H2_ := (Option.bind_some _ _).symm.trans H; with_reducible exact H2_) | with_reducible exact H | (rw [hy157]; exact H) | exact H
            have Ny157 := amk hy157
            clear hy157
            have H' := amk H
            clear H
            have p4 : 0 ≤ (x4_1 : Int) := of_decide_eq_true (by first | (with_reducible assumption) | assumption)
            have q4 : x4_1 < (a0.size : Int) := of_decide_eq_true (by first | (with_reducible assumption) | assumption)
            have hx4 := bt_at a0 x4_1
            replace p4 := eq_true p4
            replace q4 := eq_true q4
            go_wp2_with (first | ((with_reducible refine gate_builtin (b := .append) (xs := #[.tmp 11, .tmp 17]) rfl ?_); at_builtin; refine Kd.R_append (Kd.int .i64) (w0 := w) w.heap.size rfl (.tmp 11) (.tmp 17) 73 3 (.int .i64 0) 8 rfl Tryd.underlying73 info3 rfl (by decide) (by omega) u3 x3_1 (((bt a0 x4_1) - 48) % 256) [.int .i64 (((bt a0 x4_1) - 48) % 256)] (fun _ => True) (fun _ => False) rfl rfl ?aP (fun _ hk => hk.elim) ?aF ?aO ?aB ?aS ?aL ?_; (case aP => exact rfl); (case aB => exact (by repeat (first | (with_reducible first | exact HB.out | apply ba_ | apply bn_ | apply bd_) | exact HB.out))); (case aF => exact (fun _ _ => trivial)); (case aO => exact (by (with_reducible repeat (first | apply Kd.R_alloc | apply Kd.R_drewN | apply Kd.R_drew)); exact HO_3.out)); (case aS => exact (below_size (by repeat (first | (with_reducible first | exact HB.out | apply ba_ | apply bn_ | apply bd_) | exact HB.out)))); (case aL => have := LMc5.out; omega); intro v158 w6 ho hb hg hat; rw [← Ny157.out] at ho; have n0_ := amk (hb); have n1_ := amk (ho); clear HB; clear HO_3; have HB := n0_; have HO159 := n1_; clear n0_ n1_; clear ho hb hg hat))
            go_roundg k1
            case measure => have := HK1.out; omega
            case rel => exact ⟨(y157), (wrap64 (x4_1 + 1)), (by first | rfl | (simp; done) | (simp [*]; done)), H', ⟨by have := HK1.out; omega⟩, ⟨by (with_reducible repeat (first | apply Kd.R_alloc | apply Kd.R_drewN | apply Kd.R_drew)); exact HO159.out⟩, ⟨by repeat (first | (with_reducible first | exact HB.out | apply ba_ | apply bn_ | apply bd_) | exact HB.out)⟩⟩
          · rw [if_neg c5] at H
            exact absurd H (by simp)
        · rw [if_neg c3] at H
          exact absurd H (by simp)
      · rw [if_neg c2] at H
        have c2b0 : decide (x4_1 < (a0.size : Int)) = false := decide_eq_false c2
        clear c2
        obtain rfl := Option.some.inj H
        go_wp2
        go_ret
        exact ⟨_, by first | rfl | (simp [errW_none, errW_some] <;> rfl) | (simp [*, errW_none, errW_some] <;> rfl), by (with_reducible repeat (first | apply Kd.R_alloc | apply Kd.R_drewN | apply Kd.R_drew)); exact HO_3.out, by repeat (first | (with_reducible first | exact HB.out | apply ba_ | apply bn_ | apply bd_) | exact HB.out)⟩
/-! ### spec_keParse: function 41 -/
mutual
def spec_keParse.j0 : Nat → ByteArray → List ByteArray → Bool → Option (Int × (List (List Int)) × Bool)
  | 0, _, _, _ => none
  | k + 1, x0, x4, x17 => if x17 = true then (some (0, ([] : List (List Int)), false)) else (if 0 < (x4.length : Int) then ((spec_l1Read.f k (rdOf ByteArray.empty x4 0)).bind fun t165 => (if 1 < (x4.length : Int) then ((spec_l1Split.f k (rdOf ByteArray.empty x4 1) 44).bind fun t168 => (spec_keParse.l0 k x0 t168 (t168.length : Int) 0 t165 ([] : List (List Int)))) else (none))) else (none))
def spec_keParse.l0 : Nat → ByteArray → List ByteArray → Int → Int → Int → List (List Int) → Option (Int × (List (List Int)) × Bool)
  | 0, _, _, _, _, _, _ => none
  | k + 1, x0, x27, x28, x29, x167000, x167001 => if x29 < x28 then (if 0 ≤ x29 then (if x29 < (x27.length : Int) then ((spec_whDigits.f k (rdOf ByteArray.empty x27 x29)).bind fun t172 => (if x167001.length < 5864062014805 then (spec_keParse.l0 k x0 x27 x28 (wrap64 (x29 + 1)) x167000 (x167001 ++ [t172])) else (none))) else (none)) else (none)) else ((spec_keGood.f k x167000 x167001).bind fun t178 => (if t178 = true then ((spec_keText.f k x167000 x167001).bind fun t179 => (some (x167000, x167001, (t179.toList == x0.toList)))) else (some (x167000, x167001, false))))
end
def spec_keParse.f (k : Nat) (a0 : ByteArray) : Option (Int × (List (List Int)) × Bool) := (spec_l1Split.f k a0 61).bind fun t161 => (if (a0.size : Int) > 100 then (spec_keParse.j0 k a0 t161 true) else (spec_keParse.j0 k a0 t161 ((t161.length : Int) != 2)))
def spec_keParse.T8 : Bool × List (List Nat × List Nat) := (true, [([], []), ([0], [0]), ([], []), ([2], [2]), ([3], [3]), ([1, 4, 3], [1, 4]), ([0, 1, 2, 3, 4, 5], []), ([6, 5, 5, 0, 1, 2, 3, 4, 5], [5, 6])])
def spec_keParse.B8 : List Nat := [0, 1, 0, 4, 12, 31, 63, 127]
theorem spec_keParse.tab8 : rtab .any (opsOf Tryd.f41 8) = spec_keParse.T8 := by kernel_rfl
theorem spec_keParse.bits8 : waitsOk spec_keParse.T8.2 spec_keParse.B8 = true := by kernel_rfl
def spec_keParse.T10 : Bool × List (List Nat × List Nat) := (true, [([], []), ([], []), ([1], [1]), ([2, 2], [2]), ([3], [3]), ([4, 3, 3], [3, 4]), ([3], [3]), ([5, 6, 3], [3, 5, 6]), ([3, 7], [3, 7]), ([0, 5, 0], [0]), ([8, 9, 0, 1, 2, 3, 4, 5, 6, 7, 8, 9], [8])])
def spec_keParse.B10 : List Nat := [0, 0, 2, 6, 14, 30, 14, 126, 254, 63, 1023]
theorem spec_keParse.tab10 : rtab .any (opsOf Tryd.f41 10) = spec_keParse.T10 := by kernel_rfl
theorem spec_keParse.bits10 : waitsOk spec_keParse.T10.2 spec_keParse.B10 = true := by kernel_rfl
set_option maxHeartbeats 8000000 in
set_option maxRecDepth 100000 in
theorem spec_keParse.calls (k : Nat) (a0 : ByteArray) (r1 : Int) (r2 : List (List Int)) (r3 : Bool) (w : World) (h : spec_keParse.f k a0 = some (r1, r2, r3)) :
    Calls Tryd.prog 41 #[.string a0] w fun e w' => ∃ v1_ : Value, e = .returned (.tuple #[.agg #[.int .i64 r1, v1_], .bool r3]) ∧ Kd.S (Kd.slice 3 (Kd.int .i64)) 73 w' w.heap.size (fun _ => True) v1_ r2 ∧ Below w.heap.size w w' := by
  have hu28 := Tryd.underlying28
  have HB := amk (Below.refl w.heap.size w)
  have H : ((spec_l1Split.f k a0 61).bind fun t161 => (if (a0.size : Int) > 100 then (spec_keParse.j0 k a0 t161 true) else (spec_keParse.j0 k a0 t161 ((t161.length : Int) != 2)))) = some (r1, r2, r3) := h
  clear h
  replace H := Option.bind_eq_some_iff.mp H
  obtain ⟨t161, A20, H⟩ := H
  replace H : (if (a0.size : Int) > 100 then (spec_keParse.j0 k a0 t161 true) else (spec_keParse.j0 k a0 t161 ((t161.length : Int) != 2))) = some (r1, r2, r3) := H
  have A2 := amk A20
  clear A20
  have HC3 := amk H
  clear H
  go_enter Tryd.func41, Tryd.ntmps41
  go_upto_region 2 with (first | ((with_reducible refine gate_dst (N := 2) rfl ?_); (try (refine gate_guard (by rfl) ?_; dsimp only)); refine box_event ?hg (N := 2) ?hd (cs := #[.int .i64 0, .slice none 0 0]) (t := 28) ?hr ?_; (case hd => rfl); (case hg => rfl); (case hr => first | (go_simp; done) | (go_simp; rfl)); intro gb160 hg w4 hbox hb; have n0_ := amk (bp_ (by repeat (first | (with_reducible first | exact HB.out | apply ba_ | apply bn_ | apply bd_) | exact HB.out)) hb); have n1_ := amk (hbox); have n2_ := amk ((by rw [hg]; exact (below_size (by repeat (first | (with_reducible first | exact HB.out | apply ba_ | apply bn_ | apply bd_) | exact HB.out))) : w.heap.size ≤ gb160)); have n3_ := amk ((by rw [hg]; exact (below_size (by repeat (first | (with_reducible first | exact HB.out | apply ba_ | apply bn_ | apply bd_) | exact HB.out))) : w.heap.size ≤ gb160)); clear HB; have HB := n0_; have BK160 := n1_; have GW160 := n2_; have GE160 := n3_; clear n0_ n1_ n2_ n3_; clear hb hbox hg) | ((with_reducible refine gate_callee (f := 75) rfl ?_); refine goesL_ (some 9) rfl rfl Tryd.func75 (by kernel_rfl) rfl #[.string a0, .int .u8 61] rfl (by (try simp only [List.map_toArray, List.map_cons, List.map_nil]); first | done | rfl | (simp only [List.length_drop, List.length_take]; rfl)) ?_; (with_reducible refine (spec_l1Split.calls k a0 61 t161 _ A2.out).mono ?_); rintro e w5 ⟨v162, rfl, ho0, hb⟩; refine ⟨_, rfl, ?_⟩; have n0_ := amk (Kd.R_lower ho0 (below_size (by repeat (first | (with_reducible first | exact HB.out | apply ba_ | apply bn_ | apply bd_ | refine bs_ ?_ GE160.out) | exact HB.out)))); have n1_ := amk (blk_below (g := gb160) (o := .cells #[.int .i64 0, .slice none 0 0] 28 (0, 0)) (by (with_reducible repeat (first | refine kn_ ?_ _ | refine blk_drew ?_ | refine ka_ ?_ _)); exact BK160.out) hb); have n2_ := amk (bp_ (by repeat (first | (with_reducible first | exact HB.out | apply ba_ | apply bn_ | apply bd_ | refine bs_ ?_ GE160.out) | exact HB.out)) hb); clear BK160; clear HB; have HO163 := n0_; have BK160 := n1_; have HB := n2_; clear n0_ n1_ n2_; (try clear hb); (try clear hb2); (try clear hk); (try clear hi); (try clear ho0)))
  (try simp only [Act.put, List.setIfInBounds_toArray, List.set_cons_zero, List.set_cons_succ])
  go_cut [17] (fun v17 wc => ∃ (kq : Nat) (x17_2 : Bool), v17 = .bool x17_2 ∧ Aside0 (spec_keParse.j0 kq a0 t161 x17_2 = some (r1, r2, r3)) ∧ Aside0 (kq ≤ k) ∧ Aside0 (Kd.R Kd.string 9 wc w.heap.size (fun _ => True) v162 t161) ∧ Aside0 (wc.heap[gb160]? = some (.cells #[.int .i64 0, (.slice none 0 0)] 28 (0, 0))) ∧ Aside0 (Below w.heap.size w wc))
  case first =>
    have H := HC3.out
    clear HC3
    by_cases c6 : (a0.size : Int) > 100
    · rw [if_pos c6] at H
      have c6b0 : decide (100 < (a0.size : Int)) = true := decide_eq_true c6
      have c6b1 : decide (100 < a0.size) = true := decide_eq_true (by omega)
      clear c6
      (first | rw [c6b0] | (simp only [i64_w, i32_w]; rw [c6b0]) | skip)
      have H' := amk H
      clear H
      go_wp2
      go_meet
      case rel => exact ⟨_, (true), (by first | rfl | (simp; done) | (simp [*]; done)), H', ⟨by first | omega | exact Nat.le_refl _⟩, ⟨by (with_reducible repeat (first | apply Kd.R_alloc | apply Kd.R_drewN | apply Kd.R_drew)); exact HO163.out⟩, ⟨by (with_reducible repeat (first | refine kn_ ?_ _ | refine blk_drew ?_ | refine ka_ ?_ _)); exact BK160.out⟩, ⟨by repeat (first | (with_reducible first | exact HB.out | apply ba_ | apply bn_ | apply bd_ | refine bs_ ?_ GE160.out) | exact HB.out)⟩⟩
    · rw [if_neg c6] at H
      have c6b0 : decide (100 < (a0.size : Int)) = false := decide_eq_false c6
      have c6b1 : decide (100 < a0.size) = false := decide_eq_false (by omega)
      clear c6
      (first | rw [c6b0] | (simp only [i64_w, i32_w]; rw [c6b0]) | skip)
      have H' := amk H
      clear H
      obtain ⟨Ao7, co7, eo7⟩ := Kd.R_slice HO163.out
      subst eo7
      go_wp2
      go_meet
      case rel => exact ⟨_, (((t161.length : Int) != 2)), (by first | rfl | (simp; done) | (simp [*]; done)), H', ⟨by first | omega | exact Nat.le_refl _⟩, ⟨by (with_reducible repeat (first | apply Kd.R_alloc | apply Kd.R_drewN | apply Kd.R_drew)); exact HO163.out⟩, ⟨by (with_reducible repeat (first | refine kn_ ?_ _ | refine blk_drew ?_ | refine ka_ ?_ _)); exact BK160.out⟩, ⟨by repeat (first | (with_reducible first | exact HB.out | apply ba_ | apply bn_ | apply bd_ | refine bs_ ?_ GE160.out) | exact HB.out)⟩⟩
  case rest =>
    clear HC3
    try clear p2; try clear c4; try clear c6; try clear c6b0; try clear c6b1; try clear c7
    obtain ⟨kq, x17_2, rfl, HA, HJ2, HO_4, BK160, HB⟩ := hcut
    cases kq with
    | zero => exact absurd HA.out (by simp [spec_keParse.j0])
    | succ kj2 =>
      have H := HA.out
      clear HA
      simp only [spec_keParse.j0] at H
      by_cases c8 : x17_2 = true
      · subst c8
        have H1 : (some (0, ([] : List (List Int)), false)) = some (r1, r2, r3) := by rw [if_pos rfl] at H; exact H
        clear H
        have H := H1
        clear H1
        simp only [Option.some.injEq, Prod.mk.injEq] at H
        obtain ⟨rfl, rfl, rfl⟩ := H
        have hcz9_0 : wc.cell? ⟨gb160, 0, none⟩ = some (.int .i64 0) := (blk_cell BK160.out 0).trans rfl
        have hcz9_1 : wc.cell? ⟨gb160, 1, none⟩ = some (.slice none 0 0) := (blk_cell BK160.out 1).trans rfl
        have hfz9_0 := blk_frozen BK160.out 0
        have hfz9_1 := blk_frozen BK160.out 1
        go_wp2
        refine bodyPost_ret (results_ct rfl _ _ gb160 28 #[.int .i64 0, .slice none 0 0] (0, 0) _ rfl (by (with_reducible repeat (first | refine kn_ ?_ _ | refine blk_drew ?_ | refine ka_ ?_ _)); refine blk_put (cs := #[.int .i64 0, .slice none 0 0]) ?_ 1 _ rfl; (with_reducible repeat (first | refine kn_ ?_ _ | refine blk_drew ?_ | refine ka_ ?_ _)); refine blk_put (cs := #[.int .i64 0, .slice none 0 0]) ?_ 0 _ rfl; (with_reducible repeat (first | refine kn_ ?_ _ | refine blk_drew ?_ | refine ka_ ?_ _)); exact BK160.out) Tryd.underlying28 rfl (by kernel_rfl)) rfl ?_
        exact ⟨_, by first | rfl | (simp [errW_none, errW_some] <;> rfl) | (simp [*, errW_none, errW_some] <;> rfl), by first | exact Kd.S_nil _ _ _ _ _ | exact Kd.N_nil _ _ _ _ _ | exact Kd.V_nil _ _ _ _ _ | exact Kd.Q_nil _ _ _ _ _ | exact Kd.R_nil _ _ _ _ _, by repeat (first | (with_reducible first | exact HB.out | apply ba_ | apply bn_ | apply bd_ | refine bs_ ?_ GE160.out) | exact HB.out)⟩
      · replace c8 := Bool.eq_false_iff.mpr c8
        subst c8
        have H1 : (if 0 < (t161.length : Int) then ((spec_l1Read.f kj2 (rdOf ByteArray.empty t161 0)).bind fun t165 => (if 1 < (t161.length : Int) then ((spec_l1Split.f kj2 (rdOf ByteArray.empty t161 1) 44).bind fun t168 => (spec_keParse.l0 kj2 a0 t168 (t168.length : Int) 0 t165 ([] : List (List Int)))) else (none))) else (none)) = some (r1, r2, r3) := by rw [if_neg (show ¬ (false = true) by decide)] at H; exact H
        clear H
        have H := H1
        clear H1
        by_cases c10 : 0 < (t161.length : Int)
        · rw [if_pos c10] at H
          have c10b0 : decide (0 < (t161.length : Int)) = true := decide_eq_true c10
          have c10b1 : decide (0 < t161.length) = true := decide_eq_true (by omega)
          clear c10
          replace H := Option.bind_eq_some_iff.mp H
          obtain ⟨t165, A110, H⟩ := H
          replace H : (if 1 < (t161.length : Int) then ((spec_l1Split.f kj2 (rdOf ByteArray.empty t161 1) 44).bind fun t168 => (spec_keParse.l0 kj2 a0 t168 (t168.length : Int) 0 t165 ([] : List (List Int)))) else (none)) = some (r1, r2, r3) := H
          have A11 := amk A110
          clear A110
          by_cases c12 : 1 < (t161.length : Int)
          · rw [if_pos c12] at H
            have c12b0 : decide (1 < (t161.length : Int)) = true := decide_eq_true c12
            have c12b1 : decide (1 < t161.length) = true := decide_eq_true (by omega)
            clear c12
            replace H := Option.bind_eq_some_iff.mp H
            obtain ⟨t168, A130, H⟩ := H
            replace H : (spec_keParse.l0 kj2 a0 t168 (t168.length : Int) 0 t165 ([] : List (List Int))) = some (r1, r2, r3) := H
            have A13 := amk A130
            clear A130
            have H' := amk H
            clear H
            obtain ⟨Ao14, co14, eo14⟩ := Kd.R_slice HO_4.out
            subst eo14
            have p164 : 0 ≤ (0 : Int) := (by omega)
            have q164 : 0 < (t161.length : Int) := of_decide_eq_true (by first | (with_reducible assumption) | assumption)
            obtain ⟨ad164, e164, hx164_0⟩ := Kd.at_string (Kd.R_reads' HO_4.out).2.2 0 p164 q164
            cases e164
            have qi164 : (0 < t161.length) = True := eq_true (by omega)
            (try rw [show ((0 : Int)).toNat = 0 from rfl] at hx164_0)
            (try rw [Addr.add_zero'] at hx164_0)
            replace p164 := eq_true p164
            replace q164 := eq_true q164
            go_wp2_with (first | ((with_reducible refine gate_callee (f := 76) rfl ?_); refine goesL_ (some 22) rfl rfl Tryd.func76 (by kernel_rfl) rfl #[.string (rdOf ByteArray.empty t161 0)] rfl (by (try simp only [List.map_toArray, List.map_cons, List.map_nil]); first | done | rfl | (simp only [List.length_drop, List.length_take]; rfl)) ?_; (with_reducible refine (spec_l1Read.calls kj2 (rdOf ByteArray.empty t161 0) t165 _ A11.out).mono ?_); rintro e w' ⟨rfl, ⟨nd, rfl⟩⟩; refine ⟨_, rfl, ?_⟩; (try (rw [drewN_self wc]; generalize hq_ : World.drewN wc _ = wc; have n0_ : Aside0 (Kd.R Kd.string 9 wc w.heap.size (fun _ => True) (.slice (some ad164) t161.length co14) t161) := ⟨by rw [← hq_]; exact (by (with_reducible repeat (first | apply Kd.R_alloc | apply Kd.R_drewN | apply Kd.R_drew)); exact HO_4.out)⟩; have n1_ : Aside0 (wc.heap[gb160]? = some (.cells #[.int .i64 0, .slice none 0 0] 28 (0, 0))) := ⟨by rw [← hq_]; exact (by (with_reducible repeat (first | refine kn_ ?_ _ | refine blk_drew ?_ | refine ka_ ?_ _)); exact BK160.out)⟩; have n2_ : Aside0 (Below w.heap.size w wc) := ⟨by rw [← hq_]; exact (by repeat (first | (with_reducible first | exact HB.out | apply ba_ | apply bn_ | apply bd_ | refine bs_ ?_ GE160.out) | exact HB.out))⟩; clear HO_4 BK160 HB hq_; have HO_4 := n0_; have BK160 := n1_; have HB := n2_; clear n0_ n1_ n2_))) | ((with_reducible refine gate_dst (N := 5) rfl ?_); (try (refine gate_guard (by rfl) ?_; dsimp only)); refine box_event ?hg (N := 5) ?hd (cs := #[.int .i64 0, .slice none 0 0]) (t := 28) ?hr ?_; (case hd => rfl); (case hg => rfl); (case hr => first | (go_simp; done) | (go_simp; rfl)); intro gb166 hg w15 hbox hb; have n0_ := amk (Kd.R_below (by (with_reducible repeat (first | apply Kd.R_alloc | apply Kd.R_drewN | apply Kd.R_drew)); exact HO_4.out) hb); have n1_ := amk (blk_below (g := gb160) (o := .cells #[.int .i64 0, .slice none 0 0] 28 (0, 0)) (by (with_reducible repeat (first | refine kn_ ?_ _ | refine blk_drew ?_ | refine ka_ ?_ _)); exact BK160.out) hb); have n2_ := amk (bp_ (by repeat (first | (with_reducible first | exact HB.out | apply ba_ | apply bn_ | apply bd_ | refine bs_ ?_ GE160.out) | exact HB.out)) hb); have n3_ := amk (hbox); have n4_ := amk ((by rw [hg]; exact (below_size (by repeat (first | (with_reducible first | exact HB.out | apply ba_ | apply bn_ | apply bd_ | refine bs_ ?_ GE160.out) | exact HB.out))) : w.heap.size ≤ gb166)); have n5_ := amk ((by rw [hg]; exact (below_size (by repeat (first | (with_reducible first | exact HB.out | apply ba_ | apply bn_ | apply bd_ | refine bs_ ?_ GE160.out) | exact HB.out))) : w.heap.size ≤ gb166)); have n6_ := amk ((by rw [hg]; exact Nat.ne_of_lt (blk_lt (g := gb160) (o := .cells #[.int .i64 0, .slice none 0 0] 28 (0, 0)) (by (with_reducible repeat (first | refine kn_ ?_ _ | refine blk_drew ?_ | refine ka_ ?_ _)); exact BK160.out)) : gb160 ≠ gb166)); have n7_ := amk ((by rw [hg]; exact Nat.ne_of_gt (blk_lt (g := gb160) (o := .cells #[.int .i64 0, .slice none 0 0] 28 (0, 0)) (by (with_reducible repeat (first | refine kn_ ?_ _ | refine blk_drew ?_ | refine ka_ ?_ _)); exact BK160.out)) : gb166 ≠ gb160)); clear HO_4; clear BK160; clear HB; have HO_4 := n0_; have BK160 := n1_; have HB := n2_; have BK166 := n3_; have GW166 := n4_; have GE166 := n5_; have NB160_166 := n6_; have NB166_160 := n7_; clear n0_ n1_ n2_ n3_ n4_ n5_ n6_ n7_; clear hb hbox hg; have hnb16 := NB166_160.out; have hnc16 := NB160_166.out; have hcz17_0 : w15.cell? ⟨gb166, 0, none⟩ = some (.int .i64 0) := (blk_cell BK166.out 0).trans rfl; have hcz17_1 : w15.cell? ⟨gb166, 1, none⟩ = some (.slice none 0 0) := (blk_cell BK166.out 1).trans rfl; have hfz17_0 := blk_frozen BK166.out 0; have hfz17_1 := blk_frozen BK166.out 1; have p167 : 0 ≤ (1 : Int) := (by omega); have q167 : 1 < (t161.length : Int) := of_decide_eq_true (by first | (with_reducible assumption) | assumption); obtain ⟨ad167, e167, hx167_0⟩ := Kd.at_string (Kd.R_reads' HO_4.out).2.2 1 p167 q167; obtain rfl : ad164 = ad167 := (by injection e167); (try simp only [show (1 : Int).toNat = 1 from rfl, Nat.reduceMul, Nat.reduceEqDiff, Go.Addr.add, ↓reduceIte] at hx167_0); have qi167 : (1 < t161.length) = True := eq_true (by omega); (try rw [show ((1 : Int)).toNat = 1 from rfl] at hx167_0); have hn167_0 : ad164.block ≠ gb166 := Kd.own_blk (Kd.R_ne HO_4.out BK166.out (by decide)); have hn167_1 : ad164.block ≠ gb166 := Kd.own_blk (Kd.R_ne HO_4.out BK166.out (by decide)); replace hx167_0 := (cell_far (p := ⟨gb166, 0, none⟩) (by first | (rw [add_block]; exact hn167_0) | (show (Addr.add _ _).block ≠ _; rw [add_block]; exact hn167_0) | exact hn167_0) (.int .i64 t165)).trans hx167_0; replace hx167_0 := (cell_far (p := ⟨gb166, 1, none⟩) (by first | (rw [add_block]; exact hn167_1) | (show (Addr.add _ _).block ≠ _; rw [add_block]; exact hn167_1) | exact hn167_1) (.slice none 0 0)).trans hx167_0; clear hn167_0; clear hn167_1; replace p167 := eq_true p167; replace q167 := eq_true q167) | ((with_reducible refine gate_callee (f := 75) rfl ?_); refine goesL_ (some 27) rfl rfl Tryd.func75 (by kernel_rfl) rfl #[.string (rdOf ByteArray.empty t161 1), .int .u8 44] rfl (by (try simp only [List.map_toArray, List.map_cons, List.map_nil]); first | done | rfl | (simp only [List.length_drop, List.length_take]; rfl)) ?_; (with_reducible refine (spec_l1Split.calls kj2 (rdOf ByteArray.empty t161 1) 44 t168 _ A13.out).mono ?_); rintro e w18 ⟨v169, rfl, ho0, hb⟩; refine ⟨_, rfl, ?_⟩; have n0_ := amk (Kd.R_elder' (by (with_reducible repeat (first | apply Kd.R_alloc | apply Kd.R_drewN | apply Kd.R_drew)); exact (Kd.R_mono (Kd.R_far (p := ⟨gb166, 1, none⟩) (Kd.R_far (p := ⟨gb166, 0, none⟩) (Kd.R_types HO_4.out BK166.out (by decide)) (fun _ hk => hk.2) (.int .i64 t165)) (fun _ hk => hk.2) (.slice none 0 0)) (fun _ h_ => h_.1))) (Kd.R_base ho0) hb); have n1_ := amk (Kd.R_lower (Kd.R_new' ho0 (Kd.R_lt (by (with_reducible repeat (first | apply Kd.R_alloc | apply Kd.R_drewN | apply Kd.R_drew)); exact (Kd.R_mono (Kd.R_far (p := ⟨gb166, 1, none⟩) (Kd.R_far (p := ⟨gb166, 0, none⟩) (Kd.R_types HO_4.out BK166.out (by decide)) (fun _ hk => hk.2) (.int .i64 t165)) (fun _ hk => hk.2) (.slice none 0 0)) (fun _ h_ => h_.1))))) (below_size (by repeat (first | (with_reducible first | exact HB.out | apply ba_ | apply bn_ | apply bd_ | refine bs_ ?_ GE160.out | refine bs_ ?_ GE166.out) | exact HB.out)))); have n2_ := amk (blk_below (g := gb160) (o := .cells #[.int .i64 0, .slice none 0 0] 28 (0, 0)) (by (with_reducible repeat (first | refine kn_ ?_ _ | refine blk_drew ?_ | refine ka_ ?_ _)); refine blk_far ?_ NB160_166.out _; (with_reducible repeat (first | refine kn_ ?_ _ | refine blk_drew ?_ | refine ka_ ?_ _)); refine blk_far ?_ NB160_166.out _; (with_reducible repeat (first | refine kn_ ?_ _ | refine blk_drew ?_ | refine ka_ ?_ _)); exact BK160.out) hb); have n3_ := amk (blk_below (g := gb166) (o := .cells #[.int .i64 t165, .slice none 0 0] 28 (0, 0)) (by (with_reducible repeat (first | refine kn_ ?_ _ | refine blk_drew ?_ | refine ka_ ?_ _)); refine blk_put (cs := #[.int .i64 t165, .slice none 0 0]) ?_ 1 _ rfl; (with_reducible repeat (first | refine kn_ ?_ _ | refine blk_drew ?_ | refine ka_ ?_ _)); refine blk_put (cs := #[.int .i64 0, .slice none 0 0]) ?_ 0 _ rfl; (with_reducible repeat (first | refine kn_ ?_ _ | refine blk_drew ?_ | refine ka_ ?_ _)); exact BK166.out) hb); have n4_ := amk (bp_ (by repeat (first | (with_reducible first | exact HB.out | apply ba_ | apply bn_ | apply bd_ | refine bs_ ?_ GE160.out | refine bs_ ?_ GE166.out) | exact HB.out)) hb); clear HO_4; clear BK160; clear BK166; clear HB; have HO_4 := n0_; have HO170 := n1_; have BK160 := n2_; have BK166 := n3_; have HB := n4_; clear n0_ n1_ n2_ n3_ n4_; (try clear hb); (try clear hb2); (try clear hk); (try clear hi); (try clear ho0); obtain ⟨Ao19, co19, eo19⟩ := Kd.R_slice HO170.out; subst eo19))
            go_loopg [29] kj2 (fun kq v29 w' => ∃ (x29_2 : Int) (x167001_2 : List (List Int)) (u167001 : Value), v29 = .int .i64 x29_2 ∧ Aside0 (spec_keParse.l0 kq a0 t168 (t168.length : Int) x29_2 t165 x167001_2 = some (r1, r2, r3)) ∧ Aside0 (kq ≤ kj2) ∧ Aside0 (Kd.R Kd.string 9 w' w.heap.size (fun _ => True) (.slice Ao19 t168.length co19) t168) ∧ Aside0 (Kd.S (Kd.slice 3 (Kd.int .i64)) 73 w' w.heap.size (fun _ => True) u167001 x167001_2) ∧ Aside0 (w'.heap[gb160]? = some (.cells #[.int .i64 0, (.slice none 0 0)] 28 (0, 0))) ∧ Aside0 (w'.heap[gb166]? = some (.cells #[.int .i64 t165, u167001] 28 (0, 0))) ∧ Aside0 (Below w.heap.size w w'))
            case atStart => exact ⟨(0), (([] : List (List Int))), (.slice none 0 0), (by first | rfl | (simp; done) | (simp [*]; done)), H', ⟨Nat.le_refl _⟩, ⟨by (with_reducible repeat (first | apply Kd.R_alloc | apply Kd.R_drewN | apply Kd.R_drew)); exact Kd.R_mono HO170.out (fun _ hk => trivial)⟩, ⟨by first | exact Kd.S_nil _ _ _ _ _ | exact Kd.N_nil _ _ _ _ _ | exact Kd.V_nil _ _ _ _ _ | exact Kd.Q_nil _ _ _ _ _ | exact Kd.R_nil _ _ _ _ _⟩, ⟨by (with_reducible repeat (first | refine kn_ ?_ _ | refine blk_drew ?_ | refine ka_ ?_ _)); exact BK160.out⟩, ⟨by (with_reducible repeat (first | refine kn_ ?_ _ | refine blk_drew ?_ | refine ka_ ?_ _)); exact BK166.out⟩, ⟨by repeat (first | (with_reducible first | exact HB.out | apply ba_ | apply bn_ | apply bd_ | refine bs_ ?_ GE160.out | refine bs_ ?_ GE166.out) | exact HB.out)⟩⟩
            case round =>
              clear H'
              try clear c1; try clear p1; try clear q1; try clear hx1; try clear qi1; try clear p2; try clear c4; try clear c6; try clear c6b0; try clear c6b1; try clear c7; try clear c8; try clear c10; try clear c10b0; try clear c10b1; try clear c12; try clear c12b0; try clear c12b1; try clear c16; try clear p16; try clear q16; try clear hx16; try clear qi16; try clear hcz17_0; try clear hcz17_1; try clear hcz9_0; try clear hcz9_1; try clear hfz17_0; try clear hfz17_1; try clear hfz9_0; try clear hfz9_1; try clear hx164_0; try clear hx167_0; try clear p164; try clear p167; try clear p2; try clear q164; try clear q167
              obtain ⟨x29_2, x167001_2, u167001, rfl, HA, HK2, HO_27, HO_167001, BK160, BK166, HB⟩ := hrel
              cases gk with
              | zero => exact absurd HA.out (by simp [spec_keParse.l0])
              | succ k2 =>
                have H := HA.out
                clear HA
                simp only [spec_keParse.l0] at H
                by_cases c20 : x29_2 < (t168.length : Int)
                · rw [if_pos c20] at H
                  have c20b0 : decide (x29_2 < (t168.length : Int)) = true := decide_eq_true c20
                  clear c20
                  by_cases c21 : 0 ≤ x29_2
                  · rw [if_pos c21] at H
                    have c21b0 : decide (0 ≤ x29_2) = true := decide_eq_true c21
                    clear c21
                    by_cases c22 : x29_2 < (t168.length : Int)
                    · rw [if_pos c22] at H
                      have c22b0 : decide (x29_2 < (t168.length : Int)) = true := decide_eq_true c22
                      clear c22
                      replace H := Option.bind_eq_some_iff.mp H
                      obtain ⟨t172, A230, H⟩ := H
                      replace H : (if x167001_2.length < 5864062014805 then (spec_keParse.l0 k2 a0 t168 (t168.length : Int) (wrap64 (x29_2 + 1)) t165 (x167001_2 ++ [t172])) else (none)) = some (r1, r2, r3) := H
                      have A23 := amk A230
                      clear A230
                      by_cases c24 : x167001_2.length < 5864062014805
                      · rw [if_pos c24] at H
                        have LMc24 := amk c24
                        clear c24
                        obtain ⟨y175, hy175⟩ : ∃ y_ : List (List Int), y_ = (x167001_2 ++ [t172]) := ⟨_, rfl⟩
                        replace H : (spec_keParse.l0 k2 a0 t168 (t168.length : Int) (wrap64 (x29_2 + 1)) t165 y175) = some (r1, r2, r3) := by first | (rw [hy175]; with_reducible exact H) | (have H2_ := (Option.bind_some _ _).symm.trans H; rw [hy175]; with_reducible exact H2_) | (have H2_ := (Option.bind_some _ _).symm.trans H; with_reducible exact H2_) | with_reducible exact H | (rw [hy175]; exact H) | exact H
                        have Ny175 := amk hy175
                        clear hy175
                        have H' := amk H
                        clear H
                        have p171 : 0 ≤ (x29_2 : Int) := of_decide_eq_true (by first | (with_reducible assumption) | assumption)
                        have q171 : x29_2 < (t168.length : Int) := of_decide_eq_true (by first | (with_reducible assumption) | assumption)
                        obtain ⟨ad171, e171, hx171_0⟩ := Kd.at_string (Kd.R_reads' HO_27.out).2.2 x29_2 p171 q171
                        cases e171
                        replace p171 := eq_true p171
                        replace q171 := eq_true q171
                        try go_wp2
                        have n0_ := amk (Kd.R_drew HO_27.out)
                        have n1_ := amk (Kd.S_drew HO_167001.out)
                        have n2_ := amk (blk_drew BK160.out)
                        have n3_ := amk (blk_drew BK166.out)
                        have n4_ := amk (bd_ HB.out)
                        clear HO_27
                        clear HO_167001
                        clear BK160
                        clear BK166
                        clear HB
                        have HO_27 := n0_
                        have HO_167001 := n1_
                        have BK160 := n2_
                        have BK166 := n3_
                        have HB := n4_
                        clear n0_ n1_ n2_ n3_ n4_
                        refine start_ (n := 8) (S := fun w' => w'.cell? ⟨gb166, 0, none⟩ = some (.int .i64 t165) ∧ w'.cell? ⟨gb166, 1, none⟩ = some (u167001)) (ds := [7]) #[false, false, false, false, false, false, false, false] (by kernel_rfl) rfl rfl ⟨(blk_cell BK166.out 0).trans rfl, (blk_cell BK166.out 1).trans rfl⟩ (fun hHeld => ?_); refine with_tabW spec_keParse.tab8 spec_keParse.bits8 (fun HT_ HW_ => ?_)
                        generalize wr.drew = w25 at HO_27 HO_167001 BK160 BK166 HB hHeld ⊢
                        refine pure_ (i := 0) (N := some 33) (v := ?_) (a' := ?_) #[true, false, false, false, false, false, false, false] rfl rfl (any_of HT_.out (by kernel_rfl)) (fun _ _ _ h => h) (Or.inl ⟨by rfl, ?_⟩) ?_ ?_
                        rotate_left
                        · intro w'
                          go_simp
                          with_reducible rfl
                        rotate_left
                        · simp only [Act.put, List.setIfInBounds_toArray, List.set_cons_zero, List.set_cons_succ, i64_w, i32_w]
                          rfl
                        refine pure_ (i := 2) (N := some 35) (v := ?_) (a' := ?_) #[true, false, true, false, false, false, false, false] rfl rfl (any_of HT_.out (by kernel_rfl)) (fun _ _ _ h => h) (Or.inl ⟨by rfl, ?_⟩) ?_ ?_
                        rotate_left
                        · intro w'
                          go_simp
                          with_reducible rfl
                        rotate_left
                        · simp only [Act.put, List.setIfInBounds_toArray, List.set_cons_zero, List.set_cons_succ, i64_w, i32_w]
                          rfl
                        refine take_ (i := 1) (N := some 34) (v := ?_) (a' := ?_) #[true, true, true, false, false, false, false, false] rfl rfl (take_ofW HT_.out HW_.out (by kernel_rfl)) (fun _ _ _ h => h) (Or.inl ⟨by rfl, ?_⟩) hHeld ?_ ?_
                        rotate_left
                        · rintro w' ⟨s0, s1⟩
                          go_simp
                          with_reducible rfl
                        rotate_left
                        · simp only [Act.put, List.setIfInBounds_toArray, List.set_cons_zero, List.set_cons_succ, i64_w, i32_w]
                          rfl
                        refine one_ (i := 3) (N := some 36) #[true, true, true, true, false, false, false, false] rfl rfl (one_of HT_.out (by kernel_rfl)) (by decide) (fun K hK => ?_)
                        refine goes_ Tryd.func77 (by kernel_rfl) rfl #[.string (rdOf ByteArray.empty t168 x29_2)] (by rfl) rfl rfl (by (try simp only [List.map_toArray, List.map_cons, List.map_nil]); first | done | rfl | (simp only [List.length_drop, List.length_take]; rfl)) ?_
                        with_reducible refine (spec_whDigits.calls k2 (rdOf ByteArray.empty t168 x29_2) t172 _ A23.out).mono ?_
                        rintro e w26 ⟨v173, rfl, ho0, hb⟩
                        refine ⟨_, rfl, ?_⟩
                        have n0_ := amk (Kd.R_below (by (with_reducible repeat (first | apply Kd.R_alloc | apply Kd.R_drewN | apply Kd.R_drew)); exact HO_27.out) hb)
                        have n1_ := amk (Kd.S_elder' (by (with_reducible repeat (first | apply Kd.S_alloc | apply Kd.S_drewN | apply Kd.S_drew)); exact HO_167001.out) (Kd.R_base ho0) hb)
                        have n2_ := amk (Kd.R_lower ho0 (below_size (by repeat (first | (with_reducible first | exact HB.out | apply ba_ | apply bn_ | apply bd_ | refine bs_ ?_ GE160.out | refine bs_ ?_ GE166.out) | exact HB.out))))
                        have n3_ := amk (blk_below (g := gb160) (o := .cells #[.int .i64 0, .slice none 0 0] 28 (0, 0)) (by (with_reducible repeat (first | refine kn_ ?_ _ | refine blk_drew ?_ | refine ka_ ?_ _)); exact BK160.out) hb)
                        have n4_ := amk (blk_below (g := gb166) (o := .cells #[.int .i64 t165, u167001] 28 (0, 0)) (by (with_reducible repeat (first | refine kn_ ?_ _ | refine blk_drew ?_ | refine ka_ ?_ _)); exact BK166.out) hb)
                        have n5_ := amk (bp_ (by repeat (first | (with_reducible first | exact HB.out | apply ba_ | apply bn_ | apply bd_ | refine bs_ ?_ GE160.out | refine bs_ ?_ GE166.out) | exact HB.out)) hb)
                        clear HO_27
                        clear HO_167001
                        clear BK160
                        clear BK166
                        clear HB
                        have HO_27 := n0_
                        have HO_167001 := n1_
                        have HO174 := n2_
                        have BK160 := n3_
                        have BK166 := n4_
                        have HB := n5_
                        clear n0_ n1_ n2_ n3_ n4_ n5_
                        (try clear hb)
                        (try clear hb2)
                        (try clear hk)
                        (try clear hi)
                        (try clear ho0)
                        obtain ⟨Ao28, co28, eo28⟩ := Kd.R_slice HO174.out
                        (first | subst eo28 | (injection eo28 with f1_ f2_ f3_; have f4_ := f1_.symm; have f5_ := f3_.symm; clear f1_ f2_ f3_; subst f4_; subst f5_))
                        refine hK.out _ _ ⟨(blk_cell BK166.out 0).trans rfl, (blk_cell BK166.out 1).trans rfl⟩ (fun hHeld => ?_)
                        clear hK K
                        refine norm_ (a' := ?_) ?_ ?_
                        rotate_left
                        · show Act.put _ (some 36) _ = _
                          simp only [Act.put, List.setIfInBounds_toArray, List.set_cons_zero, List.set_cons_succ, i64_w, i32_w]
                          rfl
                        refine one_ (i := 4) (N := some 37) #[true, true, true, true, true, false, false, false] rfl rfl (one_of HT_.out (by kernel_rfl)) (by decide) (fun K hK => ?_)
                        refine value_ (w1 := ?_) (v := ?_) (by rfl) rfl ?_ ?_
                        rotate_left 2
                        · go_simp
                          constructor
                          · rfl
                          · rfl
                        refine hK.out _ _ ⟨(blk_cell (ka_ BK166.out _) 0).trans rfl, (blk_cell (ka_ BK166.out _) 1).trans rfl⟩ (fun hHeld => ?_)
                        clear hK K
                        refine norm_ (a' := ?_) ?_ ?_
                        rotate_left
                        · show Act.put _ (some 37) _ = _
                          simp only [Act.put, List.setIfInBounds_toArray, List.set_cons_zero, List.set_cons_succ, i64_w, i32_w]
                          rfl
                        refine one_ (i := 5) (N := some 38) #[true, true, true, true, true, true, false, false] rfl rfl (one_of HT_.out (by kernel_rfl)) (by decide) (fun K hK => ?_)
                        refine Kd.S_append_step (Kd.slice 3 (Kd.int .i64)) (w0 := w) w.heap.size (by rfl) (.tmp 34) (.tmp 37) 22 73 (.slice none 0 0) 24 rfl Tryd.underlying22 info73 rfl (by decide) (by omega) u167001 x167001_2 t172 [.slice Ao28 t172.length co28] (fun _ => True) (fun k_ => some k_ = (.slice Ao28 t172.length co28 : Value).ownBlock) rfl rfl ?aP (fun k_ hk_ => ((Kd.R_mono (ok' := fun k_ => ((fun _ => True)) k_ ∧ some k_ ≠ (u167001 : Value).ownBlock) (Kd.R_apart' (HO174.out) (Kd.S_typed HO_167001.out) (by decide)) (fun k_ hk => ⟨trivial, hk.2⟩))).1 k_ hk_.symm) ?aF ?aO ?aB ?aS ?aL ?_
                        (case aP => exact Kd.M_row (Kd.R_mono (Kd.R_tight rfl (Kd.R_mono (ok' := fun k_ => ((fun _ => True)) k_ ∧ some k_ ≠ (u167001 : Value).ownBlock) (Kd.R_apart' (HO174.out) (Kd.S_typed HO_167001.out) (by decide)) (fun k_ hk => ⟨trivial, hk.2⟩))) (fun _ h_ => h_)))
                        (case aB => exact (by repeat (first | (with_reducible first | exact HB.out | apply ba_ | apply bn_ | apply bd_ | refine bs_ ?_ GE160.out | refine bs_ ?_ GE166.out) | exact HB.out)))
                        (case aF => exact (fun _ _ => trivial))
                        (case aO => exact (by (with_reducible repeat (first | apply Kd.S_alloc | apply Kd.S_drewN | apply Kd.S_drew)); exact Kd.S_mono HO_167001.out (fun k_ hk => ⟨trivial, fun e_ => hk.2 e_⟩)))
                        (case aS => exact (below_size (by repeat (first | (with_reducible first | exact HB.out | apply ba_ | apply bn_ | apply bd_ | refine bs_ ?_ GE160.out | refine bs_ ?_ GE166.out) | exact HB.out))))
                        (case aL => have := LMc24.out; omega)
                        intro v176 w27 ho hb hg hat
                        rw [← Ny175.out] at ho
                        have n0_ := amk (Kd.R_over' (by (with_reducible repeat (first | apply Kd.R_alloc | apply Kd.R_drewN | apply Kd.R_drew)); exact HO_27.out) (Kd.S_typed (by (with_reducible repeat (first | apply Kd.S_alloc | apply Kd.S_drewN | apply Kd.S_drew)); exact HO_167001.out)) (by decide) hg)
                        have n1_ := amk (blk_grown (g := gb160) (o := .cells #[.int .i64 0, .slice none 0 0] 28 (0, 0)) (by (with_reducible repeat (first | refine kn_ ?_ _ | refine blk_drew ?_ | refine ka_ ?_ _)); exact BK160.out) hg (Kd.S_ne HO_167001.out BK160.out (by decide)))
                        have n2_ := amk (blk_grown (g := gb166) (o := .cells #[.int .i64 t165, u167001] 28 (0, 0)) (by (with_reducible repeat (first | refine kn_ ?_ _ | refine blk_drew ?_ | refine ka_ ?_ _)); exact BK166.out) hg (Kd.S_ne HO_167001.out BK166.out (by decide)))
                        have n3_ := amk (hb)
                        have n4_ := amk (ho)
                        clear HO_27
                        clear BK160
                        clear BK166
                        clear HB
                        clear HO_167001
                        clear HO174
                        have HO_27 := n0_
                        have BK160 := n1_
                        have BK166 := n2_
                        have HB := n3_
                        have HO177 := n4_
                        clear n0_ n1_ n2_ n3_ n4_
                        clear ho hb hg hat
                        obtain ⟨Ao29, co29, eo29⟩ := Kd.S_slice HO177.out
                        (first | subst eo29 | (injection eo29 with f1_ f2_ f3_; have f4_ := f1_.symm; have f5_ := f3_.symm; clear f1_ f2_ f3_; subst f4_; subst f5_))
                        refine hK.out _ _ ⟨(blk_cell BK166.out 0).trans rfl, (blk_cell BK166.out 1).trans rfl⟩ (fun hHeld => ?_)
                        clear hK K
                        refine norm_ (a' := ?_) ?_ ?_
                        rotate_left
                        · show Act.put _ (some 38) _ = _
                          simp only [Act.put, List.setIfInBounds_toArray, List.set_cons_zero, List.set_cons_succ, i64_w, i32_w]
                          rfl
                        refine pure_ (i := 6) (N := some 39) (v := ?_) (a' := ?_) #[true, true, true, true, true, true, true, false] rfl rfl (any_of HT_.out (by kernel_rfl)) (fun _ _ _ h => h) (Or.inl ⟨by rfl, ?_⟩) ?_ ?_
                        rotate_left
                        · intro w'
                          go_simp
                          with_reducible rfl
                        rotate_left
                        · simp only [Act.put, List.setIfInBounds_toArray, List.set_cons_zero, List.set_cons_succ, i64_w, i32_w]
                          rfl
                        refine last_ (i := 7) (N := none) #[true, true, true, true, true, true, true, true] rfl rfl (one_of HT_.out (by kernel_rfl)) (by decide) (fun K hK => ?_)
                        have hs30 : w27.cell? ⟨gb166, 1, none⟩ = some (u167001) := (blk_cell BK166.out 1).trans rfl
                        have hfs30 := blk_frozen BK166.out 1
                        have hns30_0 := NB160_166.out
                        have hms30_0 := NB166_160.out
                        refine skip_ (w1 := ?_) (by rfl) rfl ?_ ?_
                        rotate_left
                        · go_simp
                          rfl
                        refine hK.out _ _ ?_
                        clear hK K
                        refine done_ (done_of HT_.out (by kernel_rfl)) ?_
                        try go_wp2
                        go_roundg k2
                        case measure => have := HJ2.out; have := HK2.out; omega
                        case rel => exact ⟨(wrap64 (x29_2 + 1)), (y175), (.slice Ao29 y175.length co29), (by first | rfl | (simp; done) | (simp [*]; done)), H', ⟨by have := HJ2.out; have := HK2.out; omega⟩, ⟨by (with_reducible repeat (first | apply Kd.R_alloc | apply Kd.R_drewN | apply Kd.R_drew)); exact Kd.R_mono (Kd.R_far (p := ⟨gb166, 1, none⟩) (Kd.R_types HO_27.out BK166.out (by decide)) (fun _ hk => hk.2) (.slice Ao29 y175.length co29)) (fun _ hk => trivial)⟩, ⟨by (with_reducible repeat (first | apply Kd.S_alloc | apply Kd.S_drewN | apply Kd.S_drew)); exact Kd.S_mono (Kd.S_far (p := ⟨gb166, 1, none⟩) (Kd.S_types HO177.out BK166.out (by decide)) (fun _ hk => hk.2) (.slice Ao29 y175.length co29)) (fun _ hk => trivial)⟩, ⟨by (with_reducible repeat (first | refine kn_ ?_ _ | refine blk_drew ?_ | refine ka_ ?_ _)); refine blk_far ?_ NB160_166.out _; (with_reducible repeat (first | refine kn_ ?_ _ | refine blk_drew ?_ | refine ka_ ?_ _)); exact BK160.out⟩, ⟨by (with_reducible repeat (first | refine kn_ ?_ _ | refine blk_drew ?_ | refine ka_ ?_ _)); refine blk_put (cs := #[.int .i64 t165, u167001]) ?_ 1 _ rfl; (with_reducible repeat (first | refine kn_ ?_ _ | refine blk_drew ?_ | refine ka_ ?_ _)); exact BK166.out⟩, ⟨by repeat (first | (with_reducible first | exact HB.out | apply ba_ | apply bn_ | apply bd_ | refine bs_ ?_ GE160.out | refine bs_ ?_ GE166.out) | exact HB.out)⟩⟩
                      · rw [if_neg c24] at H
                        exact absurd H (by simp)
                    · rw [if_neg c22] at H
                      exact absurd H (by simp)
                  · rw [if_neg c21] at H
                    exact absurd H (by simp)
                · rw [if_neg c20] at H
                  have c20b0 : decide (x29_2 < (t168.length : Int)) = false := decide_eq_false c20
                  clear c20
                  replace H := Option.bind_eq_some_iff.mp H
                  obtain ⟨t178, A310, H⟩ := H
                  replace H : (if t178 = true then ((spec_keText.f k2 t165 x167001_2).bind fun t179 => (some (t165, x167001_2, (t179.toList == a0.toList)))) else (some (t165, x167001_2, false))) = some (r1, r2, r3) := H
                  have A31 := amk A310
                  clear A310
                  by_cases c32 : t178 = true
                  · subst c32
                    have H1 : ((spec_keText.f k2 t165 x167001_2).bind fun t179 => (some (t165, x167001_2, (t179.toList == a0.toList)))) = some (r1, r2, r3) := by rw [if_pos rfl] at H; exact H
                    clear H
                    have H := H1
                    clear H1
                    replace H := Option.bind_eq_some_iff.mp H
                    obtain ⟨t179, A330, H⟩ := H
                    replace H : (some (t165, x167001_2, (t179.toList == a0.toList))) = some (r1, r2, r3) := H
                    have A33 := amk A330
                    clear A330
                    simp only [Option.some.injEq, Prod.mk.injEq] at H
                    obtain ⟨rfl, rfl, rfl⟩ := H
                    try go_wp2
                    have n0_ := amk (Kd.R_drew HO_27.out)
                    have n1_ := amk (Kd.S_drew HO_167001.out)
                    have n2_ := amk (blk_drew BK160.out)
                    have n3_ := amk (blk_drew BK166.out)
                    have n4_ := amk (bd_ HB.out)
                    clear HO_27
                    clear HO_167001
                    clear BK160
                    clear BK166
                    clear HB
                    have HO_27 := n0_
                    have HO_167001 := n1_
                    have BK160 := n2_
                    have BK166 := n3_
                    have HB := n4_
                    clear n0_ n1_ n2_ n3_ n4_
                    obtain ⟨Ao35, co35, eo35⟩ := Kd.S_slice HO_167001.out
                    (first | subst eo35 | (injection eo35 with f1_ f2_ f3_; have f4_ := f1_.symm; have f5_ := f3_.symm; clear f1_ f2_ f3_; subst f4_; subst f5_))
                    refine start_ (n := 11) (S := fun w' => w'.cell? ⟨gb166, 0, none⟩ = some (.int .i64 t165) ∧ w'.cell? ⟨gb166, 1, none⟩ = some (.slice Ao35 x167001_2.length co35)) (ds := []) #[false, false, false, false, false, false, false, false, false, false, false] (by kernel_rfl) rfl rfl ⟨(blk_cell BK166.out 0).trans rfl, (blk_cell BK166.out 1).trans rfl⟩ (fun hHeld => ?_); refine with_tabW spec_keParse.tab10 spec_keParse.bits10 (fun HT_ HW_ => ?_)
                    generalize wr.drew = w34 at HO_27 HO_167001 BK160 BK166 HB hHeld ⊢
                    refine take_ (i := 0) (N := some 41) (v := ?_) (a' := ?_) #[true, false, false, false, false, false, false, false, false, false, false] rfl rfl (take_ofW HT_.out HW_.out (by kernel_rfl)) (fun _ _ _ h => h) (Or.inl ⟨by rfl, ?_⟩) hHeld ?_ ?_
                    rotate_left
                    · rintro w' ⟨s0, s1⟩
                      go_simp
                      with_reducible rfl
                    rotate_left
                    · simp only [Act.put, List.setIfInBounds_toArray, List.set_cons_zero, List.set_cons_succ, i64_w, i32_w]
                      rfl
                    refine take_ (i := 1) (N := some 42) (v := ?_) (a' := ?_) #[true, true, false, false, false, false, false, false, false, false, false] rfl rfl (take_ofW HT_.out HW_.out (by kernel_rfl)) (fun _ _ _ h => h) (Or.inl ⟨by rfl, ?_⟩) hHeld ?_ ?_
                    rotate_left
                    · rintro w' ⟨s0, s1⟩
                      go_simp
                      with_reducible rfl
                    rotate_left
                    · simp only [Act.put, List.setIfInBounds_toArray, List.set_cons_zero, List.set_cons_succ, i64_w, i32_w]
                      rfl
                    refine one_ (i := 2) (N := some 43) #[true, true, true, false, false, false, false, false, false, false, false] rfl rfl (one_of HT_.out (by kernel_rfl)) (by decide) (fun K hK => ?_)
                    refine goes_ Tryd.func26 (by kernel_rfl) rfl #[.agg #[.int .i64 t165, .slice Ao35 x167001_2.length co35]] (by rfl) rfl rfl (by (try simp only [List.map_toArray, List.map_cons, List.map_nil]); first | done | rfl | (simp only [List.length_drop, List.length_take]; rfl)) ?_
                    with_reducible refine (spec_keGood.calls k2 t165 _ _ x167001_2 true _ ?side1 ?side2 A31.out).mono ?_
                    (case side1 => repeat (first | exact (Kd.S_reads' HO_167001.out).2.2 | (with_reducible refine Kd.C_alloc ?_ _) | (with_reducible refine Kd.C_drewN ?_ _) | (with_reducible refine Kd.C_drew ?_)))
                    (case side2 => exact (Kd.S_reads' HO_167001.out).2.1)
                    rintro e w36 ⟨rfl, hb⟩
                    refine ⟨_, rfl, ?_⟩
                    have n0_ := amk (Kd.R_below (by (with_reducible repeat (first | apply Kd.R_alloc | apply Kd.R_drewN | apply Kd.R_drew)); exact HO_27.out) hb)
                    have n1_ := amk (Kd.S_below (by (with_reducible repeat (first | apply Kd.S_alloc | apply Kd.S_drewN | apply Kd.S_drew)); exact HO_167001.out) hb)
                    have n2_ := amk (blk_below (g := gb160) (o := .cells #[.int .i64 0, .slice none 0 0] 28 (0, 0)) (by (with_reducible repeat (first | refine kn_ ?_ _ | refine blk_drew ?_ | refine ka_ ?_ _)); exact BK160.out) hb)
                    have n3_ := amk (blk_below (g := gb166) (o := .cells #[.int .i64 t165, .slice Ao35 x167001_2.length co35] 28 (0, 0)) (by (with_reducible repeat (first | refine kn_ ?_ _ | refine blk_drew ?_ | refine ka_ ?_ _)); exact BK166.out) hb)
                    have n4_ := amk (bp_ (by repeat (first | (with_reducible first | exact HB.out | apply ba_ | apply bn_ | apply bd_ | refine bs_ ?_ GE160.out | refine bs_ ?_ GE166.out) | exact HB.out)) hb)
                    clear HO_27
                    clear HO_167001
                    clear BK160
                    clear BK166
                    clear HB
                    have HO_27 := n0_
                    have HO_167001 := n1_
                    have BK160 := n2_
                    have BK166 := n3_
                    have HB := n4_
                    clear n0_ n1_ n2_ n3_ n4_
                    (try clear hb)
                    (try clear hb2)
                    (try clear hk)
                    (try clear hi)
                    refine hK.out _ _ ⟨(blk_cell BK166.out 0).trans rfl, (blk_cell BK166.out 1).trans rfl⟩ (fun hHeld => ?_)
                    clear hK K
                    refine norm_ (a' := ?_) ?_ ?_
                    rotate_left
                    · show Act.put _ (some 43) _ = _
                      simp only [Act.put, List.setIfInBounds_toArray, List.set_cons_zero, List.set_cons_succ, i64_w, i32_w]
                      rfl
                    refine pure_ (i := 3) (N := some 44) (v := ?_) (a' := ?_) #[true, true, true, true, false, false, false, false, false, false, false] rfl rfl (any_of HT_.out (by kernel_rfl)) (fun _ _ _ h => h) (Or.inl ⟨by rfl, ?_⟩) ?_ ?_
                    rotate_left
                    · intro w'
                      go_simp
                      with_reducible rfl
                    rotate_left
                    · simp only [Act.put, List.setIfInBounds_toArray, List.set_cons_zero, List.set_cons_succ, i64_w, i32_w]
                      rfl
                    refine pure_ (i := 6) (N := some 47) (v := ?_) (a' := ?_) #[true, true, true, true, false, false, true, false, false, false, false] rfl rfl (any_of HT_.out (by kernel_rfl)) (fun _ _ _ h => h) (Or.inl ⟨by rfl, ?_⟩) ?_ ?_
                    rotate_left
                    · intro w'
                      go_simp
                      with_reducible rfl
                    rotate_left
                    · simp only [Act.put, List.setIfInBounds_toArray, List.set_cons_zero, List.set_cons_succ, i64_w, i32_w]
                      rfl
                    refine take_ (i := 4) (N := some 45) (v := ?_) (a' := ?_) #[true, true, true, true, true, false, true, false, false, false, false] rfl rfl (take_ofW HT_.out HW_.out (by kernel_rfl)) (fun _ _ _ h => h) (Or.inl ⟨by rfl, ?_⟩) hHeld ?_ ?_
                    rotate_left
                    · rintro w' ⟨s0, s1⟩
                      go_simp
                      with_reducible rfl
                    rotate_left
                    · simp only [Act.put, List.setIfInBounds_toArray, List.set_cons_zero, List.set_cons_succ, i64_w, i32_w]
                      rfl
                    refine one_ (i := 5) (N := some 46) #[true, true, true, true, true, true, true, false, false, false, false] rfl rfl (one_of HT_.out (by kernel_rfl)) (by decide) (fun K hK => ?_)
                    refine goes_ Tryd.func27 (by kernel_rfl) rfl #[.agg #[.int .i64 t165, .slice Ao35 x167001_2.length co35]] (by rfl) rfl rfl (by (try simp only [List.map_toArray, List.map_cons, List.map_nil]); first | done | rfl | (simp only [List.length_drop, List.length_take]; rfl)) ?_
                    with_reducible refine (spec_keText.calls k2 t165 _ _ x167001_2 t179 _ ?side1 ?side2 A33.out).mono ?_
                    (case side1 => repeat (first | exact (Kd.S_reads' HO_167001.out).2.2 | (with_reducible refine Kd.C_alloc ?_ _) | (with_reducible refine Kd.C_drewN ?_ _) | (with_reducible refine Kd.C_drew ?_)))
                    (case side2 => exact (Kd.S_reads' HO_167001.out).2.1)
                    rintro e w37 ⟨rfl, hb⟩
                    refine ⟨_, rfl, ?_⟩
                    have n0_ := amk (Kd.R_below (by (with_reducible repeat (first | apply Kd.R_alloc | apply Kd.R_drewN | apply Kd.R_drew)); exact HO_27.out) hb)
                    have n1_ := amk (Kd.S_below (by (with_reducible repeat (first | apply Kd.S_alloc | apply Kd.S_drewN | apply Kd.S_drew)); exact HO_167001.out) hb)
                    have n2_ := amk (blk_below (g := gb160) (o := .cells #[.int .i64 0, .slice none 0 0] 28 (0, 0)) (by (with_reducible repeat (first | refine kn_ ?_ _ | refine blk_drew ?_ | refine ka_ ?_ _)); exact BK160.out) hb)
                    have n3_ := amk (blk_below (g := gb166) (o := .cells #[.int .i64 t165, .slice Ao35 x167001_2.length co35] 28 (0, 0)) (by (with_reducible repeat (first | refine kn_ ?_ _ | refine blk_drew ?_ | refine ka_ ?_ _)); exact BK166.out) hb)
                    have n4_ := amk (bp_ (by repeat (first | (with_reducible first | exact HB.out | apply ba_ | apply bn_ | apply bd_ | refine bs_ ?_ GE160.out | refine bs_ ?_ GE166.out) | exact HB.out)) hb)
                    clear HO_27
                    clear HO_167001
                    clear BK160
                    clear BK166
                    clear HB
                    have HO_27 := n0_
                    have HO_167001 := n1_
                    have BK160 := n2_
                    have BK166 := n3_
                    have HB := n4_
                    clear n0_ n1_ n2_ n3_ n4_
                    (try clear hb)
                    (try clear hb2)
                    (try clear hk)
                    (try clear hi)
                    refine hK.out _ _ ⟨(blk_cell BK166.out 0).trans rfl, (blk_cell BK166.out 1).trans rfl⟩ (fun hHeld => ?_)
                    clear hK K
                    refine norm_ (a' := ?_) ?_ ?_
                    rotate_left
                    · show Act.put _ (some 46) _ = _
                      simp only [Act.put, List.setIfInBounds_toArray, List.set_cons_zero, List.set_cons_succ, i64_w, i32_w]
                      rfl
                    refine pure_ (i := 7) (N := some 48) (v := ?_) (a' := ?_) #[true, true, true, true, true, true, true, true, false, false, false] rfl rfl (any_of HT_.out (by kernel_rfl)) (fun _ _ _ h => h) (Or.inl ⟨by rfl, ?_⟩) ?_ ?_
                    rotate_left
                    · intro w'
                      go_simp
                      with_reducible rfl
                    rotate_left
                    · simp only [Act.put, List.setIfInBounds_toArray, List.set_cons_zero, List.set_cons_succ, i64_w, i32_w]
                      rfl
                    refine pure_ (i := 8) (N := some 49) (v := ?_) (a' := ?_) #[true, true, true, true, true, true, true, true, true, false, false] rfl rfl (any_of HT_.out (by kernel_rfl)) (fun _ _ _ h => h) (Or.inl ⟨by rfl, ?_⟩) ?_ ?_
                    rotate_left
                    · intro w'
                      go_simp
                      with_reducible rfl
                    rotate_left
                    · simp only [Act.put, List.setIfInBounds_toArray, List.set_cons_zero, List.set_cons_succ, i64_w, i32_w]
                      rfl
                    refine one_ (i := 9) (N := none) #[true, true, true, true, true, true, true, true, true, true, false] rfl rfl (one_of HT_.out (by kernel_rfl)) (by decide) (fun K hK => ?_)
                    have hs38 : w37.cell? ⟨gb160, 0, none⟩ = some (.int .i64 0) := (blk_cell BK160.out 0).trans rfl
                    have hfs38 := blk_frozen BK160.out 0
                    have hns38_1 := NB166_160.out
                    have hms38_1 := NB160_166.out
                    have hs39 : w37.cell? ⟨gb160, 1, none⟩ = some (.slice none 0 0) := (blk_cell BK160.out 1).trans rfl
                    have hfs39 := blk_frozen BK160.out 1
                    have hns39_1 := NB166_160.out
                    have hms39_1 := NB160_166.out
                    refine skip_ (w1 := ?_) (by rfl) rfl ?_ ?_
                    rotate_left
                    · go_simp
                      rfl
                    refine hK.out _ _ ⟨((cell_far (p := ⟨gb160, _, none⟩) NB166_160.out _).trans (((cell_far (p := ⟨gb160, _, none⟩) NB166_160.out _).trans (hHeld.1)))), ((cell_far (p := ⟨gb160, _, none⟩) NB166_160.out _).trans (((cell_far (p := ⟨gb160, _, none⟩) NB166_160.out _).trans (hHeld.2))))⟩ (fun hHeld => ?_)
                    clear hK K
                    refine pure_ (i := 10) (N := some 3) (v := ?_) (a' := ?_) #[true, true, true, true, true, true, true, true, true, true, true] rfl rfl (any_of HT_.out (by kernel_rfl)) (fun _ _ _ h => h) (Or.inl ⟨by rfl, ?_⟩) ?_ ?_
                    rotate_left
                    · intro w'
                      go_simp
                      with_reducible rfl
                    rotate_left
                    · simp only [Act.put, List.setIfInBounds_toArray, List.set_cons_zero, List.set_cons_succ, i64_w, i32_w]
                      rfl
                    refine done_ (done_of HT_.out (by kernel_rfl)) ?_
                    try go_wp2
                    refine bodyPost_ret (results_ct rfl _ _ gb160 28 #[.int .i64 t165, .slice Ao35 x167001_2.length co35] (0, 0) _ rfl (by (with_reducible repeat (first | refine kn_ ?_ _ | refine blk_drew ?_ | refine ka_ ?_ _)); refine blk_put (cs := #[.int .i64 t165, .slice none 0 0]) ?_ 1 _ rfl; (with_reducible repeat (first | refine kn_ ?_ _ | refine blk_drew ?_ | refine ka_ ?_ _)); refine blk_put (cs := #[.int .i64 0, .slice none 0 0]) ?_ 0 _ rfl; (with_reducible repeat (first | refine kn_ ?_ _ | refine blk_drew ?_ | refine ka_ ?_ _)); exact BK160.out) Tryd.underlying28 rfl (by kernel_rfl)) rfl ?_
                    exact ⟨_, by first | rfl | (simp [errW_none, errW_some] <;> rfl) | (simp [*, errW_none, errW_some] <;> rfl), by (with_reducible repeat (first | apply Kd.S_alloc | apply Kd.S_drewN | apply Kd.S_drew)); exact Kd.S_mono (Kd.S_far (p := ⟨gb160, 1, none⟩) (Kd.S_far (p := ⟨gb160, 0, none⟩) (Kd.S_types HO_167001.out BK160.out (by decide)) (fun _ hk => hk.2) (.int .i64 t165)) (fun _ hk => hk.2) (.slice Ao35 x167001_2.length co35)) (fun _ hk => trivial), by repeat (first | (with_reducible first | exact HB.out | apply ba_ | apply bn_ | apply bd_ | refine bs_ ?_ GE160.out | refine bs_ ?_ GE166.out) | exact HB.out)⟩
                  · replace c32 := Bool.eq_false_iff.mpr c32
                    subst c32
                    have H1 : (some (t165, x167001_2, false)) = some (r1, r2, r3) := by rw [if_neg (show ¬ (false = true) by decide)] at H; exact H
                    clear H
                    have H := H1
                    clear H1
                    simp only [Option.some.injEq, Prod.mk.injEq] at H
                    obtain ⟨rfl, rfl, rfl⟩ := H
                    try go_wp2
                    have n0_ := amk (Kd.R_drew HO_27.out)
                    have n1_ := amk (Kd.S_drew HO_167001.out)
                    have n2_ := amk (blk_drew BK160.out)
                    have n3_ := amk (blk_drew BK166.out)
                    have n4_ := amk (bd_ HB.out)
                    clear HO_27
                    clear HO_167001
                    clear BK160
                    clear BK166
                    clear HB
                    have HO_27 := n0_
                    have HO_167001 := n1_
                    have BK160 := n2_
                    have BK166 := n3_
                    have HB := n4_
                    clear n0_ n1_ n2_ n3_ n4_
                    obtain ⟨Ao41, co41, eo41⟩ := Kd.S_slice HO_167001.out
                    (first | subst eo41 | (injection eo41 with f1_ f2_ f3_; have f4_ := f1_.symm; have f5_ := f3_.symm; clear f1_ f2_ f3_; subst f4_; subst f5_))
                    refine start_ (n := 11) (S := fun w' => w'.cell? ⟨gb166, 0, none⟩ = some (.int .i64 t165) ∧ w'.cell? ⟨gb166, 1, none⟩ = some (.slice Ao41 x167001_2.length co41)) (ds := []) #[false, false, false, false, false, false, false, false, false, false, false] (by kernel_rfl) rfl rfl ⟨(blk_cell BK166.out 0).trans rfl, (blk_cell BK166.out 1).trans rfl⟩ (fun hHeld => ?_); refine with_tabW spec_keParse.tab10 spec_keParse.bits10 (fun HT_ HW_ => ?_)
                    generalize wr.drew = w40 at HO_27 HO_167001 BK160 BK166 HB hHeld ⊢
                    refine take_ (i := 0) (N := some 41) (v := ?_) (a' := ?_) #[true, false, false, false, false, false, false, false, false, false, false] rfl rfl (take_ofW HT_.out HW_.out (by kernel_rfl)) (fun _ _ _ h => h) (Or.inl ⟨by rfl, ?_⟩) hHeld ?_ ?_
                    rotate_left
                    · rintro w' ⟨s0, s1⟩
                      go_simp
                      with_reducible rfl
                    rotate_left
                    · simp only [Act.put, List.setIfInBounds_toArray, List.set_cons_zero, List.set_cons_succ, i64_w, i32_w]
                      rfl
                    refine take_ (i := 1) (N := some 42) (v := ?_) (a' := ?_) #[true, true, false, false, false, false, false, false, false, false, false] rfl rfl (take_ofW HT_.out HW_.out (by kernel_rfl)) (fun _ _ _ h => h) (Or.inl ⟨by rfl, ?_⟩) hHeld ?_ ?_
                    rotate_left
                    · rintro w' ⟨s0, s1⟩
                      go_simp
                      with_reducible rfl
                    rotate_left
                    · simp only [Act.put, List.setIfInBounds_toArray, List.set_cons_zero, List.set_cons_succ, i64_w, i32_w]
                      rfl
                    refine one_ (i := 2) (N := some 43) #[true, true, true, false, false, false, false, false, false, false, false] rfl rfl (one_of HT_.out (by kernel_rfl)) (by decide) (fun K hK => ?_)
                    refine goes_ Tryd.func26 (by kernel_rfl) rfl #[.agg #[.int .i64 t165, .slice Ao41 x167001_2.length co41]] (by rfl) rfl rfl (by (try simp only [List.map_toArray, List.map_cons, List.map_nil]); first | done | rfl | (simp only [List.length_drop, List.length_take]; rfl)) ?_
                    with_reducible refine (spec_keGood.calls k2 t165 _ _ x167001_2 false _ ?side1 ?side2 A31.out).mono ?_
                    (case side1 => repeat (first | exact (Kd.S_reads' HO_167001.out).2.2 | (with_reducible refine Kd.C_alloc ?_ _) | (with_reducible refine Kd.C_drewN ?_ _) | (with_reducible refine Kd.C_drew ?_)))
                    (case side2 => exact (Kd.S_reads' HO_167001.out).2.1)
                    rintro e w42 ⟨rfl, hb⟩
                    refine ⟨_, rfl, ?_⟩
                    have n0_ := amk (Kd.R_below (by (with_reducible repeat (first | apply Kd.R_alloc | apply Kd.R_drewN | apply Kd.R_drew)); exact HO_27.out) hb)
                    have n1_ := amk (Kd.S_below (by (with_reducible repeat (first | apply Kd.S_alloc | apply Kd.S_drewN | apply Kd.S_drew)); exact HO_167001.out) hb)
                    have n2_ := amk (blk_below (g := gb160) (o := .cells #[.int .i64 0, .slice none 0 0] 28 (0, 0)) (by (with_reducible repeat (first | refine kn_ ?_ _ | refine blk_drew ?_ | refine ka_ ?_ _)); exact BK160.out) hb)
                    have n3_ := amk (blk_below (g := gb166) (o := .cells #[.int .i64 t165, .slice Ao41 x167001_2.length co41] 28 (0, 0)) (by (with_reducible repeat (first | refine kn_ ?_ _ | refine blk_drew ?_ | refine ka_ ?_ _)); exact BK166.out) hb)
                    have n4_ := amk (bp_ (by repeat (first | (with_reducible first | exact HB.out | apply ba_ | apply bn_ | apply bd_ | refine bs_ ?_ GE160.out | refine bs_ ?_ GE166.out) | exact HB.out)) hb)
                    clear HO_27
                    clear HO_167001
                    clear BK160
                    clear BK166
                    clear HB
                    have HO_27 := n0_
                    have HO_167001 := n1_
                    have BK160 := n2_
                    have BK166 := n3_
                    have HB := n4_
                    clear n0_ n1_ n2_ n3_ n4_
                    (try clear hb)
                    (try clear hb2)
                    (try clear hk)
                    (try clear hi)
                    refine hK.out _ _ ⟨(blk_cell BK166.out 0).trans rfl, (blk_cell BK166.out 1).trans rfl⟩ (fun hHeld => ?_)
                    clear hK K
                    refine norm_ (a' := ?_) ?_ ?_
                    rotate_left
                    · show Act.put _ (some 43) _ = _
                      simp only [Act.put, List.setIfInBounds_toArray, List.set_cons_zero, List.set_cons_succ, i64_w, i32_w]
                      rfl
                    refine pure_ (i := 3) (N := some 44) (v := ?_) (a' := ?_) #[true, true, true, true, false, false, false, false, false, false, false] rfl rfl (any_of HT_.out (by kernel_rfl)) (fun _ _ _ h => h) (Or.inl ⟨by rfl, ?_⟩) ?_ ?_
                    rotate_left
                    · intro w'
                      go_simp
                      with_reducible rfl
                    rotate_left
                    · simp only [Act.put, List.setIfInBounds_toArray, List.set_cons_zero, List.set_cons_succ, i64_w, i32_w]
                      rfl
                    refine pure_ (i := 4) (N := some 45) (v := undef) (a' := ?_) #[true, true, true, true, true, false, false, false, false, false, false] rfl rfl (any_of HT_.out (by kernel_rfl)) (fun _ _ _ h => h) (Or.inr ⟨by rfl, rfl⟩) ?_ ?_
                    rotate_left
                    · simp only [Act.put, List.setIfInBounds_toArray, List.set_cons_zero, List.set_cons_succ, i64_w, i32_w]
                      rfl
                    refine pure_ (i := 5) (N := some 46) (v := undef) (a' := ?_) #[true, true, true, true, true, true, false, false, false, false, false] rfl rfl (any_of HT_.out (by kernel_rfl)) (fun _ _ _ h => h) (Or.inr ⟨by rfl, rfl⟩) ?_ ?_
                    rotate_left
                    · simp only [Act.put, List.setIfInBounds_toArray, List.set_cons_zero, List.set_cons_succ, i64_w, i32_w]
                      rfl
                    refine pure_ (i := 6) (N := some 47) (v := undef) (a' := ?_) #[true, true, true, true, true, true, true, false, false, false, false] rfl rfl (any_of HT_.out (by kernel_rfl)) (fun _ _ _ h => h) (Or.inr ⟨by rfl, rfl⟩) ?_ ?_
                    rotate_left
                    · simp only [Act.put, List.setIfInBounds_toArray, List.set_cons_zero, List.set_cons_succ, i64_w, i32_w]
                      rfl
                    refine pure_ (i := 7) (N := some 48) (v := undef) (a' := ?_) #[true, true, true, true, true, true, true, true, false, false, false] rfl rfl (any_of HT_.out (by kernel_rfl)) (fun _ _ _ h => h) (Or.inr ⟨by rfl, rfl⟩) ?_ ?_
                    rotate_left
                    · simp only [Act.put, List.setIfInBounds_toArray, List.set_cons_zero, List.set_cons_succ, i64_w, i32_w]
                      rfl
                    refine pure_ (i := 8) (N := some 49) (v := ?_) (a' := ?_) #[true, true, true, true, true, true, true, true, true, false, false] rfl rfl (any_of HT_.out (by kernel_rfl)) (fun _ _ _ h => h) (Or.inl ⟨by rfl, ?_⟩) ?_ ?_
                    rotate_left
                    · intro w'
                      go_simp
                      with_reducible rfl
                    rotate_left
                    · simp only [Act.put, List.setIfInBounds_toArray, List.set_cons_zero, List.set_cons_succ, i64_w, i32_w]
                      rfl
                    refine one_ (i := 9) (N := none) #[true, true, true, true, true, true, true, true, true, true, false] rfl rfl (one_of HT_.out (by kernel_rfl)) (by decide) (fun K hK => ?_)
                    have hs43 : w42.cell? ⟨gb160, 0, none⟩ = some (.int .i64 0) := (blk_cell BK160.out 0).trans rfl
                    have hfs43 := blk_frozen BK160.out 0
                    have hns43_1 := NB166_160.out
                    have hms43_1 := NB160_166.out
                    have hs44 : w42.cell? ⟨gb160, 1, none⟩ = some (.slice none 0 0) := (blk_cell BK160.out 1).trans rfl
                    have hfs44 := blk_frozen BK160.out 1
                    have hns44_1 := NB166_160.out
                    have hms44_1 := NB160_166.out
                    refine skip_ (w1 := ?_) (by rfl) rfl ?_ ?_
                    rotate_left
                    · go_simp
                      rfl
                    refine hK.out _ _ ⟨((cell_far (p := ⟨gb160, _, none⟩) NB166_160.out _).trans (((cell_far (p := ⟨gb160, _, none⟩) NB166_160.out _).trans (hHeld.1)))), ((cell_far (p := ⟨gb160, _, none⟩) NB166_160.out _).trans (((cell_far (p := ⟨gb160, _, none⟩) NB166_160.out _).trans (hHeld.2))))⟩ (fun hHeld => ?_)
                    clear hK K
                    refine pure_ (i := 10) (N := some 3) (v := ?_) (a' := ?_) #[true, true, true, true, true, true, true, true, true, true, true] rfl rfl (any_of HT_.out (by kernel_rfl)) (fun _ _ _ h => h) (Or.inl ⟨by rfl, ?_⟩) ?_ ?_
                    rotate_left
                    · intro w'
                      go_simp
                      with_reducible rfl
                    rotate_left
                    · simp only [Act.put, List.setIfInBounds_toArray, List.set_cons_zero, List.set_cons_succ, i64_w, i32_w]
                      rfl
                    refine done_ (done_of HT_.out (by kernel_rfl)) ?_
                    try go_wp2
                    refine bodyPost_ret (results_ct rfl _ _ gb160 28 #[.int .i64 t165, .slice Ao41 x167001_2.length co41] (0, 0) _ rfl (by (with_reducible repeat (first | refine kn_ ?_ _ | refine blk_drew ?_ | refine ka_ ?_ _)); refine blk_put (cs := #[.int .i64 t165, .slice none 0 0]) ?_ 1 _ rfl; (with_reducible repeat (first | refine kn_ ?_ _ | refine blk_drew ?_ | refine ka_ ?_ _)); refine blk_put (cs := #[.int .i64 0, .slice none 0 0]) ?_ 0 _ rfl; (with_reducible repeat (first | refine kn_ ?_ _ | refine blk_drew ?_ | refine ka_ ?_ _)); exact BK160.out) Tryd.underlying28 rfl (by kernel_rfl)) rfl ?_
                    exact ⟨_, by first | rfl | (simp [errW_none, errW_some] <;> rfl) | (simp [*, errW_none, errW_some] <;> rfl), by (with_reducible repeat (first | apply Kd.S_alloc | apply Kd.S_drewN | apply Kd.S_drew)); exact Kd.S_mono (Kd.S_far (p := ⟨gb160, 1, none⟩) (Kd.S_far (p := ⟨gb160, 0, none⟩) (Kd.S_types HO_167001.out BK160.out (by decide)) (fun _ hk => hk.2) (.int .i64 t165)) (fun _ hk => hk.2) (.slice Ao41 x167001_2.length co41)) (fun _ hk => trivial), by repeat (first | (with_reducible first | exact HB.out | apply ba_ | apply bn_ | apply bd_ | refine bs_ ?_ GE160.out | refine bs_ ?_ GE166.out) | exact HB.out)⟩
          · rw [if_neg c12] at H
            exact absurd H (by simp)
        · rw [if_neg c10] at H
          exact absurd H (by simp)
/-! ### spec_ParsePins: function 17 -/
def spec_ParsePins.f (k : Nat) (a0 : ByteArray) : Option (Int × (List (List Int)) × Bool) := (spec_keParse.f k a0).bind fun bt181 => (if bt181.2.2 = true then (some (bt181.1, bt181.2.1, true)) else (some (0, ([] : List (List Int)), false)))
set_option maxHeartbeats 8000000 in
set_option maxRecDepth 100000 in
theorem spec_ParsePins.calls (k : Nat) (a0 : ByteArray) (r1 : Int) (r2 : List (List Int)) (r3 : Bool) (w : World) (h : spec_ParsePins.f k a0 = some (r1, r2, r3)) :
    Calls Tryd.prog 17 #[.string a0] w fun e w' => ∃ v1_ : Value, e = .returned (.tuple #[.agg #[.int .i64 r1, v1_], .bool r3]) ∧ Kd.S (Kd.slice 3 (Kd.int .i64)) 73 w' w.heap.size (fun _ => True) v1_ r2 ∧ Below w.heap.size w w' := by
  have hu28 := Tryd.underlying28
  have HB := amk (Below.refl w.heap.size w)
  have H : ((spec_keParse.f k a0).bind fun bt181 => (if bt181.2.2 = true then (some (bt181.1, bt181.2.1, true)) else (some (0, ([] : List (List Int)), false)))) = some (r1, r2, r3) := h
  clear h
  replace H := Option.bind_eq_some_iff.mp H
  obtain ⟨⟨t181, t182, t185⟩, A20, H⟩ := H
  replace H : (if t185 = true then (some (t181, t182, true)) else (some (0, ([] : List (List Int)), false))) = some (r1, r2, r3) := H
  have A2 := amk A20
  clear A20
  by_cases c3 : t185 = true
  · subst c3
    have H1 : (some (t181, t182, true)) = some (r1, r2, r3) := by rw [if_pos rfl] at H; exact H
    clear H
    have H := H1
    clear H1
    simp only [Option.some.injEq, Prod.mk.injEq] at H
    obtain ⟨rfl, rfl, rfl⟩ := H
    go_enter Tryd.func17, Tryd.ntmps17
    go_wp2_with (first | ((with_reducible refine gate_dst (N := 2) rfl ?_); refine box_event ?hg (N := 2) ?hd (cs := #[.int .i64 0, .slice none 0 0]) (t := 28) ?hr ?_; (case hd => rfl); (case hg => rfl); (case hr => first | (go_simp; done) | (go_simp; rfl)); intro gb180 hg w4 hbox hb; have n0_ := amk (bp_ (by repeat (first | (with_reducible first | exact HB.out | apply ba_ | apply bn_ | apply bd_) | exact HB.out)) hb); have n1_ := amk (hbox); have n2_ := amk ((by rw [hg]; exact (below_size (by repeat (first | (with_reducible first | exact HB.out | apply ba_ | apply bn_ | apply bd_) | exact HB.out))) : w.heap.size ≤ gb180)); have n3_ := amk ((by rw [hg]; exact (below_size (by repeat (first | (with_reducible first | exact HB.out | apply ba_ | apply bn_ | apply bd_) | exact HB.out))) : w.heap.size ≤ gb180)); clear HB; have HB := n0_; have BK180 := n1_; have GW180 := n2_; have GE180 := n3_; clear n0_ n1_ n2_ n3_; clear hb hbox hg) | ((with_reducible refine gate_callee (f := 41) rfl ?_); refine goesL_ (some 8) rfl rfl Tryd.func41 (by kernel_rfl) rfl #[.string a0] rfl (by (try simp only [List.map_toArray, List.map_cons, List.map_nil]); first | done | rfl | (simp only [List.length_drop, List.length_take]; rfl)) ?_; (with_reducible refine (spec_keParse.calls k a0 t181 t182 true _ A2.out).mono ?_); rintro e w5 ⟨v183, rfl, ho0, hb⟩; refine ⟨_, rfl, ?_⟩; have n0_ := amk (Kd.S_lower ho0 (below_size (by repeat (first | (with_reducible first | exact HB.out | apply ba_ | apply bn_ | apply bd_ | refine bs_ ?_ GE180.out) | exact HB.out)))); have n1_ := amk (blk_below (g := gb180) (o := .cells #[.int .i64 0, .slice none 0 0] 28 (0, 0)) (by (with_reducible repeat (first | refine kn_ ?_ _ | refine blk_drew ?_ | refine ka_ ?_ _)); exact BK180.out) hb); have n2_ := amk (bp_ (by repeat (first | (with_reducible first | exact HB.out | apply ba_ | apply bn_ | apply bd_ | refine bs_ ?_ GE180.out) | exact HB.out)) hb); clear BK180; clear HB; have HO184 := n0_; have BK180 := n1_; have HB := n2_; clear n0_ n1_ n2_; (try clear hb); (try clear hb2); (try clear hk); (try clear hi); (try clear ho0)) | ((with_reducible refine gate_dst (N := 4) rfl ?_); refine box_event ?hg (N := 4) ?hd (cs := #[.int .i64 0, .slice none 0 0]) (t := 28) ?hr ?_; (case hd => rfl); (case hg => rfl); (case hr => first | (go_simp; done) | (go_simp; rfl)); intro gb186 hg w6 hbox hb; have n0_ := amk (Kd.S_below (by (with_reducible repeat (first | apply Kd.S_alloc | apply Kd.S_drewN | apply Kd.S_drew)); exact HO184.out) hb); have n1_ := amk (blk_below (g := gb180) (o := .cells #[.int .i64 0, .slice none 0 0] 28 (0, 0)) (by (with_reducible repeat (first | refine kn_ ?_ _ | refine blk_drew ?_ | refine ka_ ?_ _)); exact BK180.out) hb); have n2_ := amk (bp_ (by repeat (first | (with_reducible first | exact HB.out | apply ba_ | apply bn_ | apply bd_ | refine bs_ ?_ GE180.out) | exact HB.out)) hb); have n3_ := amk (hbox); have n4_ := amk ((by rw [hg]; exact (below_size (by repeat (first | (with_reducible first | exact HB.out | apply ba_ | apply bn_ | apply bd_ | refine bs_ ?_ GE180.out) | exact HB.out))) : w.heap.size ≤ gb186)); have n5_ := amk ((by rw [hg]; exact (below_size (by repeat (first | (with_reducible first | exact HB.out | apply ba_ | apply bn_ | apply bd_ | refine bs_ ?_ GE180.out) | exact HB.out))) : w.heap.size ≤ gb186)); have n6_ := amk ((by rw [hg]; exact Nat.ne_of_lt (blk_lt (g := gb180) (o := .cells #[.int .i64 0, .slice none 0 0] 28 (0, 0)) (by (with_reducible repeat (first | refine kn_ ?_ _ | refine blk_drew ?_ | refine ka_ ?_ _)); exact BK180.out)) : gb180 ≠ gb186)); have n7_ := amk ((by rw [hg]; exact Nat.ne_of_gt (blk_lt (g := gb180) (o := .cells #[.int .i64 0, .slice none 0 0] 28 (0, 0)) (by (with_reducible repeat (first | refine kn_ ?_ _ | refine blk_drew ?_ | refine ka_ ?_ _)); exact BK180.out)) : gb186 ≠ gb180)); clear HO184; clear BK180; clear HB; have HO184 := n0_; have BK180 := n1_; have HB := n2_; have BK186 := n3_; have GW186 := n4_; have GE186 := n5_; have NB180_186 := n6_; have NB186_180 := n7_; clear n0_ n1_ n2_ n3_ n4_ n5_ n6_ n7_; clear hb hbox hg; have hnb7 := NB186_180.out; have hnc7 := NB180_186.out; have hcz8_0 : w6.cell? ⟨gb186, 0, none⟩ = some (.int .i64 0) := (blk_cell BK186.out 0).trans rfl; have hcz8_1 : w6.cell? ⟨gb186, 1, none⟩ = some (.slice none 0 0) := (blk_cell BK186.out 1).trans rfl; have hfz8_0 := blk_frozen BK186.out 0; have hfz8_1 := blk_frozen BK186.out 1; obtain ⟨Ao9, co9, eo9⟩ := Kd.S_slice HO184.out; subst eo9; have hcz10_0 : w6.cell? ⟨gb180, 0, none⟩ = some (.int .i64 0) := (blk_cell BK180.out 0).trans rfl; have hcz10_1 : w6.cell? ⟨gb180, 1, none⟩ = some (.slice none 0 0) := (blk_cell BK180.out 1).trans rfl; have hfz10_0 := blk_frozen BK180.out 0; have hfz10_1 := blk_frozen BK180.out 1))
    refine bodyPost_ret (results_ct rfl _ _ gb180 28 #[.int .i64 t181, .slice Ao9 t182.length co9] (0, 0) _ rfl (by (with_reducible repeat (first | refine kn_ ?_ _ | refine blk_drew ?_ | refine ka_ ?_ _)); refine blk_put (cs := #[.int .i64 t181, .slice none 0 0]) ?_ 1 _ rfl; (with_reducible repeat (first | refine kn_ ?_ _ | refine blk_drew ?_ | refine ka_ ?_ _)); refine blk_put (cs := #[.int .i64 0, .slice none 0 0]) ?_ 0 _ rfl; (with_reducible repeat (first | refine kn_ ?_ _ | refine blk_drew ?_ | refine ka_ ?_ _)); refine blk_far ?_ NB180_186.out _; (with_reducible repeat (first | refine kn_ ?_ _ | refine blk_drew ?_ | refine ka_ ?_ _)); refine blk_far ?_ NB180_186.out _; (with_reducible repeat (first | refine kn_ ?_ _ | refine blk_drew ?_ | refine ka_ ?_ _)); exact BK180.out) Tryd.underlying28 rfl (by kernel_rfl)) rfl ?_
    exact ⟨_, by first | rfl | (simp [errW_none, errW_some] <;> rfl) | (simp [*, errW_none, errW_some] <;> rfl), by (with_reducible repeat (first | apply Kd.S_alloc | apply Kd.S_drewN | apply Kd.S_drew)); exact Kd.S_mono (Kd.S_far (p := ⟨gb180, 1, none⟩) (Kd.S_far (p := ⟨gb180, 0, none⟩) (Kd.S_far (p := ⟨gb186, 1, none⟩) (Kd.S_far (p := ⟨gb186, 0, none⟩) (Kd.S_types (Kd.S_types HO184.out BK186.out (by decide)) BK180.out (by decide)) (fun _ hk => hk.1.2) (.int .i64 t181)) (fun _ hk => hk.1.2) (.slice Ao9 t182.length co9)) (fun _ hk => hk.2) (.int .i64 t181)) (fun _ hk => hk.2) (.slice Ao9 t182.length co9)) (fun _ hk => trivial), by repeat (first | (with_reducible first | exact HB.out | apply ba_ | apply bn_ | apply bd_ | refine bs_ ?_ GE180.out | refine bs_ ?_ GE186.out) | exact HB.out)⟩
  · replace c3 := Bool.eq_false_iff.mpr c3
    subst c3
    have H1 : (some (0, ([] : List (List Int)), false)) = some (r1, r2, r3) := by rw [if_neg (show ¬ (false = true) by decide)] at H; exact H
    clear H
    have H := H1
    clear H1
    simp only [Option.some.injEq, Prod.mk.injEq] at H
    obtain ⟨rfl, rfl, rfl⟩ := H
    go_enter Tryd.func17, Tryd.ntmps17
    go_wp2_with (first | ((with_reducible refine gate_dst (N := 2) rfl ?_); refine box_event ?hg (N := 2) ?hd (cs := #[.int .i64 0, .slice none 0 0]) (t := 28) ?hr ?_; (case hd => rfl); (case hg => rfl); (case hr => first | (go_simp; done) | (go_simp; rfl)); intro gb180 hg w11 hbox hb; have n0_ := amk (bp_ (by repeat (first | (with_reducible first | exact HB.out | apply ba_ | apply bn_ | apply bd_) | exact HB.out)) hb); have n1_ := amk (hbox); have n2_ := amk ((by rw [hg]; exact (below_size (by repeat (first | (with_reducible first | exact HB.out | apply ba_ | apply bn_ | apply bd_) | exact HB.out))) : w.heap.size ≤ gb180)); have n3_ := amk ((by rw [hg]; exact (below_size (by repeat (first | (with_reducible first | exact HB.out | apply ba_ | apply bn_ | apply bd_) | exact HB.out))) : w.heap.size ≤ gb180)); clear HB; have HB := n0_; have BK180 := n1_; have GW180 := n2_; have GE180 := n3_; clear n0_ n1_ n2_ n3_; clear hb hbox hg) | ((with_reducible refine gate_callee (f := 41) rfl ?_); refine goesL_ (some 8) rfl rfl Tryd.func41 (by kernel_rfl) rfl #[.string a0] rfl (by (try simp only [List.map_toArray, List.map_cons, List.map_nil]); first | done | rfl | (simp only [List.length_drop, List.length_take]; rfl)) ?_; (with_reducible refine (spec_keParse.calls k a0 t181 t182 false _ A2.out).mono ?_); rintro e w12 ⟨v183, rfl, ho0, hb⟩; refine ⟨_, rfl, ?_⟩; have n0_ := amk (Kd.S_lower ho0 (below_size (by repeat (first | (with_reducible first | exact HB.out | apply ba_ | apply bn_ | apply bd_ | refine bs_ ?_ GE180.out) | exact HB.out)))); have n1_ := amk (blk_below (g := gb180) (o := .cells #[.int .i64 0, .slice none 0 0] 28 (0, 0)) (by (with_reducible repeat (first | refine kn_ ?_ _ | refine blk_drew ?_ | refine ka_ ?_ _)); exact BK180.out) hb); have n2_ := amk (bp_ (by repeat (first | (with_reducible first | exact HB.out | apply ba_ | apply bn_ | apply bd_ | refine bs_ ?_ GE180.out) | exact HB.out)) hb); clear BK180; clear HB; have HO184 := n0_; have BK180 := n1_; have HB := n2_; clear n0_ n1_ n2_; (try clear hb); (try clear hb2); (try clear hk); (try clear hi); (try clear ho0)) | ((with_reducible refine gate_dst (N := 4) rfl ?_); refine box_event ?hg (N := 4) ?hd (cs := #[.int .i64 0, .slice none 0 0]) (t := 28) ?hr ?_; (case hd => rfl); (case hg => rfl); (case hr => first | (go_simp; done) | (go_simp; rfl)); intro gb186 hg w13 hbox hb; have n0_ := amk (Kd.S_below (by (with_reducible repeat (first | apply Kd.S_alloc | apply Kd.S_drewN | apply Kd.S_drew)); exact HO184.out) hb); have n1_ := amk (blk_below (g := gb180) (o := .cells #[.int .i64 0, .slice none 0 0] 28 (0, 0)) (by (with_reducible repeat (first | refine kn_ ?_ _ | refine blk_drew ?_ | refine ka_ ?_ _)); exact BK180.out) hb); have n2_ := amk (bp_ (by repeat (first | (with_reducible first | exact HB.out | apply ba_ | apply bn_ | apply bd_ | refine bs_ ?_ GE180.out) | exact HB.out)) hb); have n3_ := amk (hbox); have n4_ := amk ((by rw [hg]; exact (below_size (by repeat (first | (with_reducible first | exact HB.out | apply ba_ | apply bn_ | apply bd_ | refine bs_ ?_ GE180.out) | exact HB.out))) : w.heap.size ≤ gb186)); have n5_ := amk ((by rw [hg]; exact (below_size (by repeat (first | (with_reducible first | exact HB.out | apply ba_ | apply bn_ | apply bd_ | refine bs_ ?_ GE180.out) | exact HB.out))) : w.heap.size ≤ gb186)); have n6_ := amk ((by rw [hg]; exact Nat.ne_of_lt (blk_lt (g := gb180) (o := .cells #[.int .i64 0, .slice none 0 0] 28 (0, 0)) (by (with_reducible repeat (first | refine kn_ ?_ _ | refine blk_drew ?_ | refine ka_ ?_ _)); exact BK180.out)) : gb180 ≠ gb186)); have n7_ := amk ((by rw [hg]; exact Nat.ne_of_gt (blk_lt (g := gb180) (o := .cells #[.int .i64 0, .slice none 0 0] 28 (0, 0)) (by (with_reducible repeat (first | refine kn_ ?_ _ | refine blk_drew ?_ | refine ka_ ?_ _)); exact BK180.out)) : gb186 ≠ gb180)); clear HO184; clear BK180; clear HB; have HO184 := n0_; have BK180 := n1_; have HB := n2_; have BK186 := n3_; have GW186 := n4_; have GE186 := n5_; have NB180_186 := n6_; have NB186_180 := n7_; clear n0_ n1_ n2_ n3_ n4_ n5_ n6_ n7_; clear hb hbox hg; have hnb14 := NB186_180.out; have hnc14 := NB180_186.out; have hcz15_0 : w13.cell? ⟨gb186, 0, none⟩ = some (.int .i64 0) := (blk_cell BK186.out 0).trans rfl; have hcz15_1 : w13.cell? ⟨gb186, 1, none⟩ = some (.slice none 0 0) := (blk_cell BK186.out 1).trans rfl; have hfz15_0 := blk_frozen BK186.out 0; have hfz15_1 := blk_frozen BK186.out 1; obtain ⟨Ao16, co16, eo16⟩ := Kd.S_slice HO184.out; subst eo16; have hcz17_0 : w13.cell? ⟨gb180, 0, none⟩ = some (.int .i64 0) := (blk_cell BK180.out 0).trans rfl; have hcz17_1 : w13.cell? ⟨gb180, 1, none⟩ = some (.slice none 0 0) := (blk_cell BK180.out 1).trans rfl; have hfz17_0 := blk_frozen BK180.out 0; have hfz17_1 := blk_frozen BK180.out 1))
    refine bodyPost_ret (results_ct rfl _ _ gb180 28 #[.int .i64 0, .slice none 0 0] (0, 0) _ rfl (by (with_reducible repeat (first | refine kn_ ?_ _ | refine blk_drew ?_ | refine ka_ ?_ _)); refine blk_put (cs := #[.int .i64 0, .slice none 0 0]) ?_ 1 _ rfl; (with_reducible repeat (first | refine kn_ ?_ _ | refine blk_drew ?_ | refine ka_ ?_ _)); refine blk_put (cs := #[.int .i64 0, .slice none 0 0]) ?_ 0 _ rfl; (with_reducible repeat (first | refine kn_ ?_ _ | refine blk_drew ?_ | refine ka_ ?_ _)); refine blk_far ?_ NB180_186.out _; (with_reducible repeat (first | refine kn_ ?_ _ | refine blk_drew ?_ | refine ka_ ?_ _)); refine blk_far ?_ NB180_186.out _; (with_reducible repeat (first | refine kn_ ?_ _ | refine blk_drew ?_ | refine ka_ ?_ _)); exact BK180.out) Tryd.underlying28 rfl (by kernel_rfl)) rfl ?_
    exact ⟨_, by first | rfl | (simp [errW_none, errW_some] <;> rfl) | (simp [*, errW_none, errW_some] <;> rfl), by first | exact Kd.S_nil _ _ _ _ _ | exact Kd.N_nil _ _ _ _ _ | exact Kd.V_nil _ _ _ _ _ | exact Kd.Q_nil _ _ _ _ _ | exact Kd.R_nil _ _ _ _ _, by repeat (first | (with_reducible first | exact HB.out | apply ba_ | apply bn_ | apply bd_ | refine bs_ ?_ GE180.out | refine bs_ ?_ GE186.out) | exact HB.out)⟩
/-! ### laws_markIntS: function 82 -/
def laws_markIntS.l0 : Nat → List Int → Int → Int → Option (Int × List Int)
  | 0, _, _, _ => none
  | k + 1, x0, x1, x5 => if x5 < (x0.length : Int) then (if 0 ≤ x5 then (laws_markIntS.l0 k (x0.set (x5 : Int).toNat x1) (wrap64 (x1 + 1)) (wrap64 (x5 + 1))) else (none)) else (some (x1, x0))
def laws_markIntS.f (k : Nat) (l0 : List Int) (a1 : Int) : Option (Int × List Int) := laws_markIntS.l0 k l0 a1 0
set_option maxHeartbeats 8000000 in
set_option maxRecDepth 100000 in
theorem laws_markIntS.calls (k : Nat) (P0_ : Nat → Prop) (u9000_ : Value) (l0 : List Int) (a1 : Int) (r1 : Int) (r2 : List Int) (w0 w : World) (hB : Below w0.heap.size w0 w) (ho0 : Kd.R (Kd.int .i64) 3 w w0.heap.size P0_ u9000_ l0) (h : laws_markIntS.f k l0 a1 = some (r1, r2)) :
    Calls Tryd.prog 82 #[u9000_, .int .i64 a1] w fun e w' => e = .returned (.int .i64 r1) ∧ Kd.R (Kd.int .i64) 3 w' w0.heap.size (fun k_ => (P0_ k_ ∨ w.heap.size ≤ k_)) u9000_ r2 ∧ Below w0.heap.size w0 w' ∧ Kept w w' (fun k_ => P0_ k_) := by
  have HO0 := amk (show Kd.R (Kd.int .i64) 3 w w0.heap.size (fun k_ => (P0_ k_ ∨ w.heap.size ≤ k_)) u9000_ l0 from Kd.R_mono ho0 (fun k_ hk => (.inl hk)))
  have HK := amk (Kept.refl w (fun k_ => P0_ k_))
  have HW0 := amk hB.size
  have HB := amk hB
  clear hB
  have H : (laws_markIntS.l0 k l0 a1 0) = some (r1, r2) := h
  clear h
  have H' := amk H
  clear H
  go_enter Tryd.func82, Tryd.ntmps82
  go_wp2
  go_loopg [1, 5] k (fun kq v1 v5 w' => ∃ (x0_1 : List Int) (x1_1 : Int) (x5_1 : Int), v1 = .int .i64 x1_1 ∧ v5 = .int .i64 x5_1 ∧ Aside0 (laws_markIntS.l0 kq x0_1 x1_1 x5_1 = some (r1, r2)) ∧ Aside0 (kq ≤ k) ∧ Aside0 (Kd.R (Kd.int .i64) 3 w' w0.heap.size (fun k_ => (P0_ k_ ∨ w.heap.size ≤ k_)) u9000_ x0_1) ∧ Aside0 (Kept w w' (fun k_ => P0_ k_)) ∧ Aside0 (Below w0.heap.size w0 w'))
  case atStart => exact ⟨(l0), (a1), (0), (by first | rfl | (simp; done) | (simp [*]; done)), (by first | rfl | (simp; done) | (simp [*]; done)), H', ⟨Nat.le_refl _⟩, ⟨by (with_reducible repeat (first | apply Kd.R_alloc | apply Kd.R_drewN | apply Kd.R_drew)); exact HO0.out⟩, ⟨by repeat (first | (with_reducible first | exact HK.out | apply Kept.alloc | apply Kept.drewN | apply Kept.drew) | exact HK.out)⟩, ⟨by repeat (first | (with_reducible first | exact HB.out | apply ba_ | apply bn_ | apply bd_) | exact HB.out)⟩⟩
  case round =>
    clear H'
    try clear p2
    obtain ⟨x0_1, x1_1, x5_1, rfl, rfl, HA, HK1, HO_0, HK, HB⟩ := hrel
    cases gk with
    | zero => exact absurd HA.out (by simp [laws_markIntS.l0])
    | succ k1 =>
      have H := HA.out
      clear HA
      simp only [laws_markIntS.l0] at H
      by_cases c3 : x5_1 < (x0_1.length : Int)
      · rw [if_pos c3] at H
        have c3b0 : decide (x5_1 < (x0_1.length : Int)) = true := decide_eq_true c3
        clear c3
        by_cases c4 : 0 ≤ x5_1
        · rw [if_pos c4] at H
          have c4b0 : decide (0 ≤ x5_1) = true := decide_eq_true c4
          clear c4
          obtain ⟨y271, hy271⟩ : ∃ y_ : List Int, y_ = (x0_1.set (x5_1 : Int).toNat x1_1) := ⟨_, rfl⟩
          replace H : (laws_markIntS.l0 k1 y271 (wrap64 (x1_1 + 1)) (wrap64 (x5_1 + 1))) = some (r1, r2) := by first | (rw [hy271]; with_reducible exact H) | (have H2_ := (Option.bind_some _ _).symm.trans H; rw [hy271]; with_reducible exact H2_) | (have H2_ := (Option.bind_some _ _).symm.trans H; with_reducible exact H2_) | with_reducible exact H | (rw [hy271]; exact H) | exact H
          have Ny271 := amk hy271
          clear hy271
          have H' := amk H
          clear H
          obtain ⟨Ao6, co6, eo6⟩ := Kd.R_slice HO_0.out
          subst eo6
          have p5 : 0 ≤ (x5_1 : Int) := of_decide_eq_true (by first | (with_reducible assumption) | assumption)
          have q5 : (x5_1 : Int) < ((x0_1.length : Int) : Int) := of_decide_eq_true (by first | (with_reducible assumption) | assumption)
          obtain ⟨go5, co5, eo5, gb5, gl5, cl5, HG5⟩ := Kd.R_form HO_0.out (by omega)
          (first | cases eo5 | (injection eo5 with ea_ en_ ec_; (first | subst ea_ | (injection ea_ with ea_; subst ea_)); subst ec_; clear en_))
          have GB5 := amk gb5
          have GG5 := amk HG5
          clear gb5 gl5 HG5
          have HMgo5 := amk (show (P0_ go5 ∨ w.heap.size ≤ go5) from (HO_0.out.1 _ rfl))
          obtain ⟨hx5_0, hf5_0⟩ := Kd.R_celln 0 HO_0.out (x5_1 : Int) p5 q5
          replace p5 := eq_true p5
          replace q5 := eq_true q5
          have HP7 := Kd.R_putg HO_0.out (x5_1 : Int) x1_1
          go_wp2_with (first | ((with_reducible refine gate_store (t := 3) (p := 15) rfl ?_); refine store_event (t := 3) (p := 15) (v := ?vo_w8) (w1 := (wr.setCell ⟨go5, (x5_1 : Int).toNat, none⟩ (.int .i64 x1_1))) ?hg ?ho ?hn ?hr ?_; (case ho => rfl); (case hg => rfl); (case hn => rfl); (case hr => first | (go_simp; done) | (go_simp; rfl)); intro w8 hw; have hg : wr.grownBy w8 (some go5) := (by rw [hw]; exact HP7.2); have hp_ : Kd.R (Kd.int .i64) 3 w8 w0.heap.size (fun k_ => (P0_ k_ ∨ w.heap.size ≤ k_)) (.slice (some ⟨go5, 0, none⟩) x0_1.length co6) y271 := (by rw [hw, Ny271.out]; exact HP7.1); clear HP7; have n0_ := amk (hp_); have n1_ := amk ((by rw [hw]; exact bs_ (HB.out) GB5.out : Below w0.heap.size w0 w8)); have n2_ := amk (Kept.of_grown (S := (fun k_ => P0_ k_)) hg (by repeat (first | (with_reducible first | exact HK.out | apply Kept.alloc | apply Kept.drewN | apply Kept.drew) | exact HK.out)) (fun k_ e_ => (HO_0.out.1 k_ e_))); clear HO_0; clear HB; clear HK; have HO_0 := n0_; have HB := n1_; have HK := n2_; clear n0_ n1_ n2_; clear hg hw hp_))
          go_roundg k1
          case measure => have := HK1.out; omega
          case rel => exact ⟨(y271), (wrap64 (x1_1 + 1)), (wrap64 (x5_1 + 1)), (by first | rfl | (simp; done) | (simp [*]; done)), (by first | rfl | (simp; done) | (simp [*]; done)), H', ⟨by have := HK1.out; omega⟩, ⟨by (with_reducible repeat (first | apply Kd.R_alloc | apply Kd.R_drewN | apply Kd.R_drew)); exact HO_0.out⟩, ⟨by repeat (first | (with_reducible first | exact HK.out | apply Kept.alloc | apply Kept.drewN | apply Kept.drew) | exact HK.out)⟩, ⟨by repeat (first | (with_reducible first | exact HB.out | apply ba_ | apply bn_ | apply bd_) | exact HB.out)⟩⟩
        · rw [if_neg c4] at H
          exact absurd H (by simp)
      · rw [if_neg c3] at H
        have c3b0 : decide (x5_1 < (x0_1.length : Int)) = false := decide_eq_false c3
        clear c3
        simp only [Option.some.injEq, Prod.mk.injEq] at H
        obtain ⟨rfl, rfl⟩ := H
        obtain ⟨Ao9, co9, eo9⟩ := Kd.R_slice HO_0.out
        subst eo9
        go_wp2
        go_ret
        exact ⟨by first | rfl | (simp [errW_none, errW_some] <;> rfl) | (simp [*, errW_none, errW_some] <;> rfl), by (with_reducible repeat (first | apply Kd.R_alloc | apply Kd.R_drewN | apply Kd.R_drew)); exact HO_0.out, by repeat (first | (with_reducible first | exact HB.out | apply ba_ | apply bn_ | apply bd_) | exact HB.out), by repeat (first | (with_reducible first | exact HK.out | apply Kept.alloc | apply Kept.drewN | apply Kept.drew) | exact HK.out)⟩
/-! laws.markIntSS, by hand: each row is lent, written, and given back. -/
def markRows (k : Nat) : List (List Int) → Int → Option (Int × List (List Int))
  | [], a => some (a, [])
  | x :: t, a => (laws_markIntS.f k x a).bind fun p => (markRows k t p.1).bind fun q => some (q.1, p.2 :: q.2)
def laws_markIntSS.f (k : Nat) (l : List (List Int)) (a : Int) : Option (Int × List (List Int)) := markRows k l a
theorem laws_markIntSS.empty (u : Value) (a1 : Int) (w : World) (A : Option Addr) (c : Nat) (hu : u = .slice A 0 c) : Calls Tryd.prog 46 #[u, .int .i64 a1] w fun e w' => e = .returned (.int .i64 a1) ∧ w' = w := by
  subst hu
  have hu35 := Tryd.underlying22
  go_enter Tryd.func46, Tryd.ntmps46
  go_wp2
  go_loopg [1, 5] 0 (fun gg s1 s5 wr => s1 = .int .i64 a1 ∧ s5 = .int .i64 0 ∧ wr = w)
  case atStart => exact ⟨rfl, rfl, rfl⟩
  case round =>
    obtain ⟨rfl, rfl, rfl⟩ := hrel
    go_wp2
    go_ret
    exact ⟨rfl, rfl⟩
set_option maxHeartbeats 4000000 in
set_option maxRecDepth 100000 in
theorem laws_markIntSS.calls (k : Nat) (P0_ : Nat → Prop) (u9000_ : Value) (l0 : List (List Int)) (a1 : Int) (r1 : Int) (r2 : List (List Int)) (w0 w : World) (hB : Below w0.heap.size w0 w) (ho0 : Kd.S (Kd.slice 3 (Kd.int .i64)) 73 w w0.heap.size P0_ u9000_ l0) (h : laws_markIntSS.f k l0 a1 = some (r1, r2)) :
    Calls Tryd.prog 46 #[u9000_, .int .i64 a1] w fun e w' => e = .returned (.int .i64 r1) ∧ Kd.S (Kd.slice 3 (Kd.int .i64)) 73 w' w0.heap.size P0_ u9000_ r2 ∧ Below w0.heap.size w0 w' ∧ Kept w w' P0_ := by
  by_cases hpos : 0 < l0.length
  · obtain ⟨g, cap, rfl, hg1, hg2, _⟩ := Kd.S_form ho0 hpos
    have hbig := (Kd.S_reads' ho0).2.2.2.1
    have hu35 := Tryd.underlying22
    unfold laws_markIntSS.f at h
    have HO := amk ho0
    have H := amk h
    have HB := amk hB
    clear ho0 h hB hg1 hg2 hpos
    generalize hn : l0.length = n at hbig
    have HN := amk hn
    clear hn
    go_enter Tryd.func46, Tryd.ntmps46
    go_wp2
    go_loopg [1, 5] n (fun gg s1 s5 wr => ∃ (i : Nat) (a : Int) (D R' : List (List Int)), s1 = .int .i64 a ∧ s5 = .int .i64 (i : Int) ∧ Aside0 (i ≤ n) ∧ Aside0 (n - i ≤ gg) ∧ Aside0 (D.length = i) ∧ Aside0 (markRows k (l0.drop i) a = some (r1, R')) ∧ Aside0 (r2 = D ++ R') ∧ Aside0 (Kd.S (Kd.slice 3 (Kd.int .i64)) 73 wr w0.heap.size P0_ (.slice (some ⟨g, 0, none⟩) n cap) (D ++ l0.drop i)) ∧ Aside0 (Below w0.heap.size w0 wr) ∧ Aside0 (Kept w wr P0_))
    case atStart => exact ⟨0, a1, [], r2, rfl, rfl, ⟨by omega⟩, ⟨by omega⟩, ⟨rfl⟩, H, ⟨rfl⟩, ⟨by have := HO.out; rw [HN.out] at this; exact this⟩, HB, ⟨Kept.refl _ _⟩⟩
    case round =>
      obtain ⟨i, a, D, R', rfl, rfl, HI, HG, HD, HM, HR2, HS, HBB, HK⟩ := hrel
      by_cases hlt : i < n
      · have hlw : decide ((i : Int) < (n : Int)) = true := decide_eq_true (by omega)
        have hlwn : decide (i < n) = true := decide_eq_true hlt
        have hiz : ((0 : Int) ≤ (i : Int)) = True := eq_true (by omega)
        have hlz2 : ((i : Int) < (n : Int)) = True := eq_true (by omega)
        have hnl := HN.out
        have hdr : l0.drop i = l0[i] :: l0.drop (i + 1) := List.drop_eq_getElem_cons (by omega)
        have hm := HM.out
        rw [hdr] at hm
        unfold markRows at hm
        obtain ⟨p, hp, hm⟩ := Option.bind_eq_some_iff.mp hm
        obtain ⟨q, hq, hm⟩ := Option.bind_eq_some_iff.mp hm
        obtain ⟨pa, px⟩ := p
        obtain ⟨qa, qx⟩ := q
        injection hm with hm
        injection hm with e1 e2
        subst e1
        obtain ⟨oki, cs, hcl, hMx, hcc, hoki, hH⟩ := Kd.S_lend HS.out [] (i : Int) (by omega) (by omega)
        have hx : (D ++ l0.drop i).getD (i : Int).toNat [] = l0[i] := by
          have hd := HD.out
          rw [Int.toNat_natCast, hdr, List.getD_eq_getElem?_getD, List.getElem?_append_right (by omega), hd, Nat.sub_self]
          rfl
        rw [hx] at hMx
        obtain ⟨v, rfl, hRv⟩ := hMx
        have hcell := hcc 0 v rfl
        simp only [Int.toNat_natCast] at hcell
        rw [show i * (Kd.slice 3 (Kd.int .i64)).sz + 0 = i from Nat.mul_one i] at hcell
        have HV := amk hRv
        have HH := amk hH
        have HP := amk hp
        have HQ := amk hq
        have HE2 := amk e2
        have HOK := amk hoki
        have HDR := amk hdr
        have hw1 : wrap64 ((i : Int) + 1) = ((i + 1 : Nat) : Int) := by unfold wrap64; omega
        clear hRv hH hp hq hm e2 hcc hcl hx hdr hoki
        have HLT := amk hlt
        go_wp2_with (go_at_call 82; refine (laws_markIntS.calls k oki _ _ _ _ _ w0 _ HBB.out HV.out HP.out).mono ?_; rintro e w9 ⟨rfl, hr9, hb9, hk9⟩)
        go_roundg (n - (i + 1))
        case measure => have := HG.out; have := HLT.out; omega
        case rel =>
          have hd := HD.out
          have hR9 : (Kd.int .i64).R 3 w9 w0.heap.size oki v px := Kd.R_reok rfl hr9 (fun k_ e_ => HV.out.1 k_ e_)
          have hM9 : (Kd.slice 3 (Kd.int .i64)).M w9 w0.heap.size oki px [v] := ⟨v, rfl, hR9⟩
          have hH9 := Kd.H_kept HH.out hk9 (fun k_ _ hn => hn)
          have hS9 := Kd.H_back hH9 hM9 (fun _ h => h)
          have hset : (D ++ l0.drop i).set (i : Int).toNat px = (D ++ [px]) ++ l0.drop (i + 1) := by
            rw [Int.toNat_natCast, HDR.out, List.set_append_right _ _ (by omega), hd, Nat.sub_self, List.set_cons_zero, List.append_assoc]
            rfl
          rw [hset] at hS9
          refine ⟨i + 1, pa, D ++ [px], qx, rfl, rfl, ⟨by have := HLT.out; omega⟩, ⟨by omega⟩, ⟨by rw [List.length_append, hd]; rfl⟩, HQ, ⟨by rw [HR2.out, ← HE2.out, List.append_assoc]; rfl⟩, ⟨hS9⟩, ⟨hb9⟩, ⟨HK.out.then_ hk9 (fun k_ hk => .inl (HOK.out k_ hk).1)⟩⟩
      · have hlw : decide ((i : Int) < (n : Int)) = false := decide_eq_false (by omega)
        have hlwn : decide (i < n) = false := decide_eq_false hlt
        have hin : i = n := by have := HI.out; omega
        have hm := HM.out
        rw [List.drop_eq_nil_of_le (by rw [HN.out]; omega)] at hm
        unfold markRows at hm
        injection hm with hm
        injection hm with e1 e2
        subst e1
        have HSX := HS.out
        rw [List.drop_eq_nil_of_le (by rw [HN.out]; omega), e2, ← HR2.out] at HSX
        have HSXX := amk HSX
        clear HSX hin hlt e2
        go_wp2
        go_ret
        exact ⟨rfl, HSXX.out, HBB.out, HK.out⟩
  · obtain rfl : l0 = [] := List.length_eq_zero_iff.mp (by omega)
    obtain ⟨A, c, he⟩ := Kd.S_slice ho0
    unfold laws_markIntSS.f markRows at h
    injection h with h
    injection h with e1 e2
    subst e1 e2
    refine (laws_markIntSS.empty u9000_ a1 w A c he).mono ?_
    rintro e w' ⟨rfl, rfl⟩
    exact ⟨rfl, ho0, hB, Kept.refl _ _⟩
/-! laws.markPins, by hand. -/
def laws_markPins.f (k : Nat) (n : Int) (l : List (List Int)) (a : Int) : Option (Int × List (List Int)) := laws_markIntSS.f k l a
set_option maxRecDepth 100000 in
theorem laws_markPins.calls (k : Nat) (P0_ : Nat → Prop) (n : Int) (A : Option Addr) (m c : Nat) (l0 : List (List Int)) (a1 : Int) (r1 : Int) (r2 : List (List Int)) (w0 w : World) (hB : Below w0.heap.size w0 w) (hP : ∀ j, P0_ j → j < w.heap.size) (ho0 : Kd.S (Kd.slice 3 (Kd.int .i64)) 73 w w0.heap.size P0_ (.slice A m c) l0) (h : laws_markPins.f k n l0 a1 = some (r1, r2)) :
    Calls Tryd.prog 19 #[.agg #[.int .i64 n, .slice A m c], .int .i64 a1] w fun e w' => e = .returned (.int .i64 r1) ∧ Kd.S (Kd.slice 3 (Kd.int .i64)) 73 w' w0.heap.size P0_ (.slice A m c) r2 ∧ Below w0.heap.size w0 w' ∧ Kept w w' P0_ := by
  have hu41 := Tryd.underlying28
  have hu35 := Tryd.underlying22
  have HO := amk (Kd.S_alloc ho0 (.cells #[.int .i64 n, .slice A m c] 28 (0, 0)))
  have H := amk h
  have HB := amk (hB.alloc hB.size (.cells #[.int .i64 n, .slice A m c] 28 (0, 0)))
  clear ho0 h hB
  go_enter Tryd.func19, Tryd.ntmps19
  go_wp2_with (go_at_call 46; refine (laws_markIntSS.calls k P0_ _ _ _ _ _ w0 _ HB.out HO.out H.out).mono ?_; rintro e w9 ⟨rfl, hs9, hb9, hk9⟩)
  go_ret
  exact ⟨rfl, hs9, hb9, ⟨by have := hk9.1; simp at this; omega, fun i hi hn => (hk9.2 i (by simp; omega) hn).trans (((Below.refl _ w).alloc (Nat.le_refl _) _).block i hi)⟩⟩
/-! laws.FnExactParsePins, by hand: the result's rows are marked. -/
def PQ (w : World) (rn : Int) (X : List (List Int)) (A : Option Addr) (l c b aw ew c8 : Nat) (W : World) : Prop := Below w.heap.size w W ∧ W.heap[b]? = some (.cells #[.int .i64 rn, .slice A l c] 28 (0, 0)) ∧ Kd.S (Kd.slice 3 (Kd.int .i64)) 73 W w.heap.size (fun j => aw ≤ j ∧ j < ew) (.slice A l c) X ∧ (w.heap.size ≤ aw ∧ aw ≤ ew ∧ ew ≤ c8 ∧ (b < aw ∨ ew ≤ b) ∧ w.heap.size ≤ b ∧ b < c8 ∧ c8 ≤ W.heap.size)
def PAL (W : World) (b : Nat) : Prop := W.heap[b]? = some (.cells #[.int .i64 0, .slice none 0 0] 28 (0, 0))
section
variable {w W W2 : World} {rn : Int} {X X' : List (List Int)} {A : Option Addr} {l c b aw ew c8 : Nat}
theorem PAL_below (h : PAL W b) (hb : Below W.heap.size W W2) : PAL W2 b := (hb.block _ (two_cells h).2.2.2.2).trans h
theorem PAL_new (W : World) : PAL (W.alloc (.cells #[.int .i64 0, .slice none 0 0] 28 (0, 0))) W.heap.size := blk_new W _
theorem PAL_drew (h : PAL W b) : PAL W.drew b := h
theorem PQ_below (h : PQ w rn X A l c b aw ew c8 W) (hb : Below W.heap.size W W2) : PQ w rn X A l c b aw ew c8 W2 := by
  obtain ⟨h1, h2, h3, h4⟩ := h
  have hs := hb.size
  exact ⟨bp_ h1 hb, (hb.block _ (two_cells h2).2.2.2.2).trans h2, Kd.S_below h3 hb, by omega⟩
theorem PQ_last {base : Nat} (h : Below w.heap.size w W) (hs : Kd.S (Kd.slice 3 (Kd.int .i64)) 73 W base (fun j => base ≤ j ∧ j < W.heap.size) (.slice A l c) X) (hb : w.heap.size ≤ base) (h2 : base ≤ W.heap.size) : PQ w rn X A l c W.heap.size base W.heap.size (W.alloc (.cells #[.int .i64 rn, .slice A l c] 28 (0, 0))).heap.size (W.alloc (.cells #[.int .i64 rn, .slice A l c] 28 (0, 0))) :=
  ⟨h.alloc h.size _, blk_new _ _, Kd.S_alloc (Kd.S_lower hs (by omega)) _, by simp; omega⟩
theorem PQ_kept {ag eg : Nat} (h : PQ w rn X A l c b aw ew c8 W) (hk : Kept W W2 (fun j => ag ≤ j ∧ j < eg)) (h8 : c8 ≤ ag) (hb : Below w.heap.size w W2) : PQ w rn X A l c b aw ew c8 W2 := by
  obtain ⟨h1, h2, h3, h4⟩ := h
  have hz := hk.1
  exact ⟨hb, blk_kept h2 hk (by omega), Kd.S_kept h3 hk (fun j h1 h2 => by omega), by omega⟩
theorem PQ_mark (h : PQ w rn X A l c b aw ew c8 W) (hk : Kept W W2 (fun j => aw ≤ j ∧ j < ew)) (hb : Below w.heap.size w W2) (hs : Kd.S (Kd.slice 3 (Kd.int .i64)) 73 W2 w.heap.size (fun j => aw ≤ j ∧ j < ew) (.slice A l c) X') : PQ w rn X' A l c b aw ew c8 W2 := by
  obtain ⟨h1, h2, h3, h4⟩ := h
  have hz := hk.1
  exact ⟨hb, blk_kept h2 hk (by omega), hs, by omega⟩
end
def laws_FnExactParsePins.f (a0 : ByteArray) : Option Bool := some true
set_option maxHeartbeats 16000000 in
set_option maxRecDepth 100000 in
theorem laws_FnExactParsePins.walk (k : Nat) (a0 : ByteArray) (rn : Int) (R R' : List (List Int)) (ok : Bool) (m : Int) (w : World) (htp : EnvP w) (hz : (a0.size : Int) ≤ 1048576) (e3 : spec_ParsePins.f k a0 = some (rn, R, ok)) (e4 : impl_ParsePins.f k a0 = some (rn, R, ok)) (e5 : laws_eqPins.f k rn R rn R = some true) (e8 : laws_markPins.f k rn R 1 = some (m, R')) (h8 : 0 ≤ m) (e9 : laws_heldPins.f k rn R' 1 = some m) :
    Calls Tryd.prog 5 #[.string a0] w fun e w' => e = .returned (.bool true) ∧ Below w.heap.size w w' := by
  have hu28 := Tryd.underlying28
  have hu35 := Tryd.underlying22
  have hd0 : decide ((a0.size : Int) > 1048576) = false := decide_eq_false (by omega)
  have hd1 : (a0.size : Int) ≤ 1048576 := hz
  have hd8 : decide (m < 0) = false := decide_eq_false (by omega)
  have hokk : (ok != ok) = false := by simp
  have HTP := amk htp
  have E3 := amk e3
  have E4 := amk e4
  have E5 := amk e5
  have E8 := amk e8
  have E9 := amk e9
  have HB := amk (Below.refl w.heap.size w)
  clear htp e3 e4 e5 e8 e9 h8 hz
  go_enter Tryd.func5, Tryd.ntmps5
  go_wp2_with ((go_at_call 17; refine Calls.mono (spec_ParsePins.calls k a0 rn R ok _ E3.out) ?_; rintro e w4 ⟨v4, rfl, hs, hb⟩; obtain ⟨A4, c4, rfl⟩ := Kd.S_slice hs; have B4 := amk (bp_ (by repeat (first | with_reducible exact HB.out | with_reducible refine ba_ ?_ _ | with_reducible refine bd_ ?_ | exact HB.out)) hb); (first | (have AL4 := amk (PAL_below (PAL_new _) hb)) | (have AL4 := amk (PAL_below (PAL_drew (PAL_new _)) hb)) | skip); have S4 := amk (S_iv hs); have Z4 := amk hb.size; clear hs hb))
  have FIN := PQ_last (rn := rn) (l := R.length) B4.out S4.out (by first | exact Nat.le_refl _ | simp) Z4.out
  generalize w4.alloc _ = W8 at FIN ⊢
  generalize w4.heap.size = b8 at FIN ⊢
  have T8 := amk FIN
  clear FIN B4 S4 Z4
  have HB8 := amk T8.out.1
  have HC8 := amk (Below.refl W8.heap.size W8)
  have hw0 := (two_cells T8.out.2.1).1
  have hw1 := (two_cells T8.out.2.1).2.1
  go_wp2_with ((go_at_call 18; refine Calls.mono (impl_ParsePins.calls k a0 rn R ok _ (HTP.out.below (by repeat (first | with_reducible exact HB8.out | with_reducible refine ba_ ?_ _ | with_reducible refine bd_ ?_ | exact HB8.out))) E4.out) ?_; rintro e w11 ⟨v11, rfl, hs, hb⟩; obtain ⟨A11, c11, rfl⟩ := Kd.S_slice hs; have B11 := amk (bp_ (by repeat (first | with_reducible exact HC8.out | with_reducible refine ba_ ?_ _ | with_reducible refine bd_ ?_ | exact HC8.out)) hb); (first | (have AL11 := amk (PAL_below (PAL_new _) hb)) | (have AL11 := amk (PAL_below (PAL_drew (PAL_new _)) hb)) | skip); have S11 := amk (S_iv hs); have Z11 := amk hb.size; have G12 := amk (PQ_last (rn := rn) (l := R.length) B11.out S11.out (by first | exact Nat.le_refl _ | simp) Z11.out); have Q12 := amk (PQ_below T8.out G12.out.1); clear hw0 hw1; have hw0 := (two_cells Q12.out.2.1).1; have hw1 := (two_cells Q12.out.2.1).2.1; have hg0 := (two_cells G12.out.2.1).1; have hg1 := (two_cells G12.out.2.1).2.1; clear hs hb))
  go_wp2_with (go_at_call 11; refine Calls.mono (laws_eqPins.calls k rn _ _ R rn _ _ R true _ (Kd.S_reads' G12.out.2.2.1).2.2 (Kd.S_reads' G12.out.2.2.1).2.1 (Kd.S_reads' Q12.out.2.2.1).2.2 (Kd.S_reads' Q12.out.2.2.1).2.1 E5.out) ?_; rintro e w13 ⟨rfl, hb⟩; have Q13 := amk (PQ_below Q12.out hb); have G13 := amk (PQ_below G12.out hb); clear hw0 hw1 hg0 hg1; have hw0 := (two_cells Q13.out.2.1).1; have hw1 := (two_cells Q13.out.2.1).2.1; have hg0 := (two_cells G13.out.2.1).1; have hg1 := (two_cells G13.out.2.1).2.1; clear hb)
  go_wp2_with (go_at_call 19; refine Calls.mono (laws_markPins.calls k _ rn _ _ _ R 1 m R' W8 _ G13.out.1 (fun j hj => by have := G13.out.2.2.2; omega) G13.out.2.2.1 E8.out) ?_; rintro e w14 ⟨rfl, hs, hb, hk⟩; have Q14 := amk (PQ_kept Q13.out hk (by have := G13.out.2.2.2; omega) (bp_ HB8.out hb)); have G14 := amk (PQ_mark G13.out hk hb hs); clear hw0 hw1 hg0 hg1; have hw0 := (two_cells Q14.out.2.1).1; have hw1 := (two_cells Q14.out.2.1).2.1; have hg0 := (two_cells G14.out.2.1).1; have hg1 := (two_cells G14.out.2.1).2.1; clear hs hb hk)
  have hlen : R'.length = R.length := (Kd.S_reads' G14.out.2.2.1).1.symm
  have HH : ∀ W, Kd.C (Kd.slice 3 (Kd.int .i64)) W A11 R'.length R' → Calls Tryd.prog 20 #[.agg #[.int .i64 rn, .slice A11 R.length c11], .int .i64 1] W fun e w' => e = .returned (.int .i64 m) ∧ Below W.heap.size W w' := fun W hC => by
    have := laws_heldPins.calls k rn A11 c11 R' 1 m W hC (by have := (Kd.S_reads' G14.out.2.2.1).2.1; omega) E9.out
    rw [hlen] at this
    exact this
  have HHA := amk HH
  clear HH hlen
  go_wp2_with (go_at_call 20; refine Calls.mono (HHA.out _ (Kd.S_reads' G14.out.2.2.1).2.2) ?_; rintro e w20 ⟨rfl, hb⟩; have Q20 := amk (PQ_below Q14.out hb); have G20 := amk (PQ_below G14.out hb); clear hw0 hw1 hg0 hg1; have hw0 := (two_cells Q20.out.2.1).1; have hw1 := (two_cells Q20.out.2.1).2.1; have hg0 := (two_cells G20.out.2.1).1; have hg1 := (two_cells G20.out.2.1).2.1; clear hb)
  have HB20 := amk Q20.out.1
  have HC20 := amk (Below.refl w20.heap.size w20)
  go_wp2_with ((go_at_call 18; refine Calls.mono (impl_ParsePins.calls k a0 rn R ok _ (HTP.out.below (by repeat (first | with_reducible exact HB20.out | with_reducible refine ba_ ?_ _ | with_reducible refine bd_ ?_ | exact HB20.out))) E4.out) ?_; rintro e w30 ⟨v30, rfl, hs, hb⟩; obtain ⟨A30, c30, rfl⟩ := Kd.S_slice hs; have B30 := amk (bp_ (by repeat (first | with_reducible exact HC20.out | with_reducible refine ba_ ?_ _ | with_reducible refine bd_ ?_ | exact HC20.out)) hb); (first | (have AL30 := amk (PAL_below (PAL_new _) hb)) | (have AL30 := amk (PAL_below (PAL_drew (PAL_new _)) hb)) | skip); have S30 := amk (S_iv hs); have Z30 := amk hb.size; have H31 := amk (PQ_last (rn := rn) (l := R.length) B30.out S30.out (by first | exact Nat.le_refl _ | simp) Z30.out); have Q31 := amk (PQ_below Q20.out H31.out.1); have G31 := amk (PQ_below G20.out H31.out.1); clear hw0 hw1 hg0 hg1; have hw0 := (two_cells Q31.out.2.1).1; have hw1 := (two_cells Q31.out.2.1).2.1; have hg0 := (two_cells G31.out.2.1).1; have hg1 := (two_cells G31.out.2.1).2.1; have hh0 := (two_cells H31.out.2.1).1; have hh1 := (two_cells H31.out.2.1).2.1; clear hs hb))
  go_wp2_with (go_at_call 11; refine Calls.mono (laws_eqPins.calls k rn _ _ R rn _ _ R true _ (Kd.S_reads' H31.out.2.2.1).2.2 (Kd.S_reads' H31.out.2.2.1).2.1 (Kd.S_reads' Q31.out.2.2.1).2.2 (Kd.S_reads' Q31.out.2.2.1).2.1 E5.out) ?_; rintro e w32 ⟨rfl, hb⟩; have Q32 := amk (PQ_below Q31.out hb); have G32 := amk (PQ_below G31.out hb); clear hw0 hw1 hg0 hg1 hh0 hh1; have hw0 := (two_cells Q32.out.2.1).1; have hw1 := (two_cells Q32.out.2.1).2.1; have hg0 := (two_cells G32.out.2.1).1; have hg1 := (two_cells G32.out.2.1).2.1; clear hb)
  go_wp2_with (go_at_call 20; refine Calls.mono (HHA.out _ (Kd.S_reads' G32.out.2.2.1).2.2) ?_; rintro e w35 ⟨rfl, hb⟩; have Q35 := amk (PQ_below Q32.out hb); have G35 := amk (PQ_below G32.out hb); clear hw0 hw1 hg0 hg1; have hw0 := (two_cells Q35.out.2.1).1; have hw1 := (two_cells Q35.out.2.1).2.1; have hg0 := (two_cells G35.out.2.1).1; have hg1 := (two_cells G35.out.2.1).2.1; clear hb)
  go_ret
  exact ⟨rfl, Q35.out.1⟩
/-! Numbers told by digits. -/
def textB (l : List Int) : ByteArray := strOfNums (l.map fun x => wrap64 (48 + x) % 256)
/-! Joined texts, as Lean's lists tell them. -/
theorem joinB_nil (s : ByteArray) : joinB [] s = ⟨#[]⟩ := by unfold joinB; rfl
theorem joinB_one (x s : ByteArray) : joinB [x] s = x := by
  apply ByteArray.ext
  unfold joinB
  simp [Lib.join_one]
theorem joinTail_snoc (sep : List UInt8) (r : List (List UInt8)) (x : List UInt8) : Lib.joinTail sep (r ++ [x]) = Lib.joinTail sep r ++ (sep ++ x) := by
  simp [Lib.joinTail]
theorem joinB_snoc (l : List ByteArray) (x s : ByteArray) (h : l ≠ []) : joinB (l ++ [x]) s = joinB l s ++ s ++ x := by
  cases l with
  | nil => exact absurd rfl h
  | cons y r =>
    apply ByteArray.ext
    unfold joinB
    simp only [List.cons_append, List.map_cons, List.map_append, List.map_nil, Lib.join_cons, joinTail_snoc, ByteArray.data_append]
    apply Array.ext'
    simp [List.append_assoc]
theorem lens_le (m : Nat) : ∀ (r : List ByteArray), (∀ x ∈ r, x.size ≤ m) → Lib.lens (r.map (·.data.toList)) ≤ m * r.length
  | [], _ => by simp [Lib.lens]
  | y :: r, h => by
    have := lens_le m r (fun x hx => h x (List.mem_cons_of_mem _ hx))
    have h1 := h y List.mem_cons_self
    have h2 : y.data.toList.length = y.size := Array.length_toList
    unfold Lib.lens at this ⊢
    rw [List.map_cons, List.map_cons, List.sum_cons, h2, List.length_cons, Nat.mul_succ]
    omega
theorem joinB_size (m : Nat) (s : ByteArray) (l : List ByteArray) (h : ∀ x ∈ l, x.size ≤ m) : (joinB l s).size ≤ (m + s.size) * l.length := by
  cases l with
  | nil => rw [joinB_nil]; exact Nat.zero_le _
  | cons y r =>
    have h1 := h y List.mem_cons_self
    have h3 := lens_le m r (fun x hx => h x (List.mem_cons_of_mem _ hx))
    have e : (joinB (y :: r) s).size = y.size + (s.size * r.length + Lib.lens (r.map (·.data.toList))) := by
      have e2 : (joinB (y :: r) s).size = (Lib.join ((y :: r).map (·.data.toList)) s.data.toList).length := List.size_toArray
      have e3 : s.data.toList.length = s.size := Array.length_toList
      have e4 : y.data.toList.length = y.size := Array.length_toList
      rw [e2, List.map_cons, Lib.join_cons, List.length_append, Lib.joinTail_length, List.length_map, e3, e4]
    rw [e, List.length_cons, Nat.add_mul, Nat.mul_succ, Nat.mul_succ]
    omega
theorem decB_one {n : Int} (h0 : 0 ≤ n) (h : n < 10) : decB n = strOfNums [wrap64 (48 + n) % 256] := by
  obtain ⟨n, rfl⟩ := Int.eq_ofNat_of_zero_le h0
  have h2 : n < 10 := by omega
  unfold decB
  rw [Int.toNat_natCast]
  unfold Lib.decDigits
  rw [dif_pos h2]
  have key : ∀ m : Fin 10, ([UInt8.ofNat (48 + m.val)] : List UInt8) = (strOfNums [wrap64 (48 + (m.val : Int)) % 256]).data.toList := by decide +kernel
  have := key ⟨n, h2⟩
  apply ByteArray.ext
  rw [this]
/-! What a readable argument holds, told by kinds: the bridge from a statement's reading to the print's words. -/
def StrV (s : ByteArray) : Prop := s.size ≤ 9223372036854775807
section
variable {H : Type} {enc : TypeId × Value → H} {P : Program} {w : World} {base : Nat} {spare : Nat → Bool} {held : Bool} {r : Reach} {b0 : Nat} {t : TypeId} {v : Value} {x : DataW H} {p : List MemPlace}
theorem arg_string (ht : P.underlying t = some .string) (hv : Value.okWide P w r b0 t v) (h : DataW.Trod enc P w base spare held t v x p) : ∃ a, v = .string a ∧ StrV a := by
  obtain ⟨a, rfl, _, _, hw⟩ := ChangeMaps.open_string ht hv h
  unfold maxLen at hw
  exact ⟨a, rfl, hw⟩
theorem arg_lt (h : DataW.Trod enc P w base spare held t v x p) : ∀ y ∈ p, y.block < w.heap.size := by
  obtain ⟨m, hm⟩ := h
  exact DataW.trod_lt m _ _ _ hm
end
/-! Texts split at a byte: over lists of bytes. -/
def splL (c : UInt8) : List UInt8 → List (List UInt8)
  | [] => [[]]
  | b :: t => if b = c then [] :: splL c t else (b :: (splL c t).headD []) :: (splL c t).tail
theorem splL_no {c : UInt8} : ∀ {l : List UInt8}, (∀ b ∈ l, b ≠ c) → splL c l = [l]
  | [], _ => rfl
  | b :: t, h => by
    have ih := splL_no (l := t) (fun x hx => h x (List.mem_cons_of_mem _ hx))
    show (if b = c then [] :: splL c t else (b :: (splL c t).headD []) :: (splL c t).tail) = _
    rw [if_neg (h b List.mem_cons_self), ih]; rfl
theorem splL_app {c : UInt8} {t : List UInt8} : ∀ {l : List UInt8}, (∀ b ∈ l, b ≠ c) → splL c (l ++ c :: t) = l :: splL c t
  | [], _ => by
    show (if c = c then [] :: splL c t else (c :: (splL c t).headD []) :: (splL c t).tail) = _
    exact if_pos rfl
  | b :: l, h => by
    have ih := splL_app (t := t) (l := l) (fun x hx => h x (List.mem_cons_of_mem _ hx))
    show (if b = c then [] :: splL c (l ++ c :: t) else (b :: (splL c (l ++ c :: t)).headD []) :: (splL c (l ++ c :: t)).tail) = _
    rw [if_neg (h b List.mem_cons_self), ih]; rfl
theorem splL_join {c : UInt8} : ∀ (r : List (List UInt8)) (x : List UInt8), (∀ b ∈ x, b ≠ c) → (∀ y ∈ r, ∀ b ∈ y, b ≠ c) → splL c (Lib.join (x :: r) [c]) = x :: r
  | [], x, h, _ => by
    rw [Lib.join_one]; exact splL_no h
  | y :: r, x, h, h2 => by
    have ih := splL_join r y (h2 y List.mem_cons_self) (fun z hz => h2 z (List.mem_cons_of_mem _ hz))
    rw [Lib.join_cons] at ih ⊢
    have e : Lib.joinTail [c] (y :: r) = c :: (y ++ Lib.joinTail [c] r) := by simp [Lib.joinTail]
    rw [e, splL_app h, ih]
theorem index_one (c : UInt8) : ∀ (l : List UInt8), (Lib.index l [c] = -1 ∧ ∀ b ∈ l, b ≠ c) ∨ ∃ p t, l = p ++ c :: t ∧ (∀ b ∈ p, b ≠ c) ∧ Lib.index l [c] = (p.length : Int)
  | [] => .inl ⟨rfl, fun b hb => absurd hb (by simp)⟩
  | b :: l => by
    have e : Lib.index (b :: l) [c] = if ([c].isPrefixOf (b :: l)) = true then 0 else if (Lib.index l [c] == -1) = true then -1 else Lib.index l [c] + 1 := rfl
    have e2 : [c].isPrefixOf (b :: l) = (c == b) := by simp [List.isPrefixOf]
    rw [e, e2]
    by_cases hb : b = c
    · subst hb
      exact .inr ⟨[], l, rfl, fun x hx => absurd hx (by simp), by rw [if_pos (beq_self_eq_true b)]; rfl⟩
    · have hn : ¬ ((c == b) = true) := fun h => hb (beq_iff_eq.mp h).symm
      rw [if_neg hn]
      rcases index_one c l with ⟨h1, h2⟩ | ⟨p, t, h1, h2, h3⟩
      · refine .inl ⟨by rw [h1]; rfl, fun x hx => ?_⟩
        rcases List.mem_cons.mp hx with rfl | hx
        · exact hb
        · exact h2 x hx
      · refine .inr ⟨b :: p, t, by rw [h1]; rfl, fun x hx => ?_, ?_⟩
        · rcases List.mem_cons.mp hx with rfl | hx
          · exact hb
          · exact h2 x hx
        · rw [h3, if_neg (by intro h; have := beq_iff_eq.mp h; omega), List.length_cons]; omega
theorem cut_one {c : UInt8} {p t : List UInt8} (h : ∀ b ∈ p, b ≠ c) : Lib.cut (p ++ c :: t) [c] = (p, t, true) := by
  rcases index_one c (p ++ c :: t) with ⟨_, h2⟩ | ⟨p2, t2, h1, h2, h3⟩
  · exact absurd rfl (h2 c (by simp))
  · have hs := splL_app (t := t) h
    rw [h1, splL_app h2] at hs
    have hp : p2 = p := (List.cons.inj hs).1
    subst hp
    unfold Lib.cut
    rw [if_pos (by omega), h3, Int.toNat_natCast]
    simp
theorem splitB_spl {c : UInt8} {sep : ByteArray} (hsep : sep.data.toList = [c]) : ∀ (k : Nat) (s : ByteArray), Lib.countB s sep = k → (Lib.splitB sep 0 k s).map (·.data.toList) = splL c s.data.toList := by
  have hz : sep.size = 1 := by rw [Lib.size_eq, hsep]; rfl
  have hix : ∀ s : ByteArray, Lib.indexB s sep = Lib.index s.data.toList [c] := fun s => by rw [← hsep]
  intro k
  induction k with
  | zero =>
    intro s hk
    rw [Lib.splitB_zero]
    rcases index_one c s.data.toList with ⟨_, h2⟩ | ⟨p, t, _, _, h3⟩
    · rw [splL_no h2]; rfl
    · rw [Lib.countB_hit s sep p.length (by omega) ((hix s).trans h3)] at hk; omega
  | succ k ih =>
    intro s hk
    rcases index_one c s.data.toList with ⟨h1, _⟩ | ⟨p, t, h1, h2, h3⟩
    · rw [Lib.countB_miss s sep ((hix s).trans h1)] at hk; omega
    · rw [Lib.countB_hit s sep p.length (by omega) ((hix s).trans h3)] at hk
      rw [Lib.splitB_hit _ _ _ _ p.length ((hix s).trans h3), List.map_cons, ih _ (by omega), Lib.extract_from_zero, Lib.extract_to_end, hz, h1, splL_app h2]
      simp
/-! Declarations moved out of LFnExactAllKeys. -/
def totL (l : List (List Int)) : Nat := l.foldr (fun r n => r.length + n) 0
theorem totL_le (c : Nat) : ∀ l : List (List Int), (∀ r ∈ l, r.length ≤ c) → totL l ≤ l.length * c := by
  intro l
  induction l with
  | nil => intro _; exact Nat.zero_le _
  | cons r t ih =>
    intro h
    have h1 := ih (fun q hq => h q (List.mem_cons_of_mem _ hq))
    have h2 := h r List.mem_cons_self
    show r.length + totL t ≤ (t.length + 1) * c
    rw [Nat.succ_mul]
    omega
/-! Declarations moved out of EDead. -/
theorem wr_big {c : Nat} (h : c ≤ 9223372036854775806) : wrap64 ((c : Int) + 1) = ((c + 1 : Nat) : Int) := w64 (by omega) (by omega)
/-! ### laws_szIntS: function 52 -/
/-! ### laws_szIntSS: function 25 -/
/-! ### laws_szPins: function 7 -/
/-! ### laws_toIntS: function 57 -/
/-! ### laws_toIntSS: function 28 -/
/-! ### laws_toPins: function 9 -/
/-! The statements' own helpers on rows and pins: what they come to. -/
theorem rd_row {xs : List (List Int)} {i : Nat} (h : i < xs.length) : rd_L1 xs (i : Nat) = xs[i] := by unfold rd_L1; simp [List.getD, h]
theorem rd_int {xs : List Int} {i : Nat} (h : i < xs.length) : rd xs (i : Nat) = xs[i] := by rw [rd_at (by simpa using h)]; simp
/-- The lengths are numbers of Go. -/
def RowsV (x : List (List Int)) : Prop := x.length ≤ 9223372036854775807 ∧ ∀ r ∈ x, r.length ≤ 9223372036854775807
/-- No longer than a million. -/
def RowsM (x : List (List Int)) : Prop := x.length ≤ 1048576 ∧ ∀ r ∈ x, r.length ≤ 1048576
theorem RowsM.v {x : List (List Int)} (h : RowsM x) : RowsV x := ⟨by have := h.1; omega, fun r hr => by have := h.2 r hr; omega⟩
theorem laws_eqIntS.levB (l : List Int) (hn : l.length ≤ 9223372036854775807) : ∀ (m i : Nat), i + m = l.length → Ev (fun k => laws_eqIntS.l0 k l l (i : Nat)) true := by
  intro m
  induction m with
  | zero => intro i hi; exact Ev.step (fun k => rfl) (Ev.no (by omega) (Ev.now _))
  | succ m ih =>
    intro i hi
    refine Ev.step (fun k => rfl) (Ev.yes (by omega) (Ev.yes (by omega) (Ev.yes (by omega) (Ev.yes rfl ?_))))
    rw [w64 (x := (i : Int) + 1) (by omega) (by omega)]
    exact ih (i + 1) (by omega)
theorem laws_eqIntS.evB (l : List Int) (hn : l.length ≤ 9223372036854775807) : Ev (fun k => laws_eqIntS.f k l l) true := by
  unfold laws_eqIntS.f
  exact Ev.yes rfl (laws_eqIntS.levB l hn l.length 0 (by omega))
theorem laws_eqIntSS.lev (l : List (List Int)) (hl : RowsV l) : ∀ (m i : Nat), i + m = l.length → Ev (fun k => laws_eqIntSS.l0 k l l (i : Nat)) true := by
  have hl1 := hl.1
  intro m
  induction m with
  | zero => intro i hi; exact Ev.step (fun k => rfl) (Ev.no (by omega) (Ev.now _))
  | succ m ih =>
    intro i hi
    have hlt : i < l.length := by omega
    refine Ev.step (fun k => rfl) (Ev.yes (by omega) (Ev.yes (by omega) (Ev.yes (by omega) ?_)))
    rw [rd_row hlt]
    refine Ev.bind (laws_eqIntS.evB _ (hl.2 _ (List.getElem_mem hlt))) (Ev.yes rfl ?_)
    rw [w64 (x := (i : Int) + 1) (by omega) (by omega)]
    exact ih (i + 1) (by omega)
theorem laws_eqIntSS.ev (l : List (List Int)) (hl : RowsV l) : Ev (fun k => laws_eqIntSS.f k l l) true := by
  unfold laws_eqIntSS.f
  exact Ev.yes rfl (laws_eqIntSS.lev l hl l.length 0 (by omega))
theorem laws_eqPins.ev (n : Int) (l : List (List Int)) (hl : RowsV l) : Ev (fun k => laws_eqPins.f k n l n l) true := by
  unfold laws_eqPins.f
  exact Ev.yes rfl (Ev.bind (laws_eqIntSS.ev l hl) (Ev.yes rfl (Ev.now _)))
/-! Marks on numbers, that they are held, lists of numbers compared. -/
theorem laws_markIntS.lev : ∀ (j : Nat) (l : List Int) (a : Int) (i : Nat), i + j = l.length → l.length ≤ 1048576 → 0 ≤ a → a + j ≤ 2000000 →
    ∃ l' : List Int, l'.length = l.length ∧ (∀ m : Nat, m < i → l'[m]? = l[m]?) ∧ Ev (fun k => laws_markIntS.l0 k l a (i : Nat)) (a + j, l') ∧ Ev (fun k => laws_heldIntS.l0 k l' a (i : Nat)) (a + j) := by
  intro j
  induction j with
  | zero =>
    intro l a i hi hn ha hb
    exact ⟨l, rfl, fun _ _ => rfl, Ev.step (fun k => rfl) (Ev.no (by omega) (Ev.id (by simp))), Ev.step (fun k => rfl) (Ev.no (by omega) (Ev.id (by simp)))⟩
  | succ j ih =>
    intro l a i hi hn ha hb
    have hlt : i < l.length := by omega
    have e1 : wrap64 (a + 1) = a + 1 := w64 (by omega) (by omega)
    have e4 : wrap64 ((i : Int) + 1) = ((i + 1 : Nat) : Int) := w64 (by omega) (by omega)
    obtain ⟨l', hl, hk, hm, hh⟩ := ih (l.set i a) (a + 1) (i + 1) (by simp; omega) (by simpa using hn) (by omega) (by omega)
    rw [List.length_set] at hl
    have hat : l'[i]? = some a := by
      rw [hk i (by omega)]
      simp [hlt]
    have hat' : rd l' (i : Nat) = a := by
      unfold rd
      simp [List.getD, hat]
    refine ⟨l', hl, fun m hmi => ?_, ?_, ?_⟩
    · rw [hk m (by omega), List.getElem?_set_ne (by omega)]
    · refine Ev.step (fun k => rfl) (Ev.yes (by omega) (Ev.yes (by omega) ?_))
      rw [e1, e4, Int.toNat_natCast]
      exact Ev.eq hm (by rw [Prod.mk.injEq]; exact ⟨by omega, rfl⟩)
    · refine Ev.step (fun k => rfl) (Ev.yes (by omega) (Ev.yes (by omega) ?_))
      rw [e1, e4]
      exact Ev.yes hat' (Ev.eq hh (by omega))
/-! Marks on rows of numbers: what is marked is held. -/
/-- What markRows leaves is held, whatever stands ahead of it. -/
theorem markRows_held : ∀ (l : List (List Int)) (a : Int), 0 ≤ a → a + (totL l : Int) ≤ 2000000 → totL l ≤ 1048576 → l.length ≤ 1048576 → ∃ l' : List (List Int), l'.length = l.length ∧ Ev (fun k => markRows k l a) (a + (totL l : Int), l') ∧ ∀ D : List (List Int), D.length + l.length ≤ 1048576 → Ev (fun k => laws_heldIntSS.l0 k (D ++ l') a (D.length : Int)) (a + (totL l : Int)) := by
  intro l
  induction l with
  | nil =>
    intro a h0 _ _ _
    refine ⟨[], rfl, Ev.id (by rw [Prod.mk.injEq]; exact ⟨by show a = a + 0; omega, rfl⟩), fun D hD => Ev.step (fun k => rfl) (Ev.no (by simp) (Ev.id (by show a = a + 0; omega)))⟩
  | cons x t ih =>
    intro a h0 h1 h2 h3
    have ht : totL (x :: t) = x.length + totL t := rfl
    rw [ht] at h1 h2 ⊢
    rw [List.length_cons] at h3
    obtain ⟨x', hx1, _, hm, hh⟩ := laws_markIntS.lev x.length x a 0 (by omega) (by omega) h0 (by omega)
    obtain ⟨t', ht1, ht2, ht3⟩ := ih (a + x.length) (by omega) (by omega) (by omega) (by omega)
    refine ⟨x' :: t', by rw [List.length_cons, List.length_cons, ht1], Ev.bind hm (Ev.bind ht2 (Ev.id ?_)), fun D hD => ?_⟩
    · rw [Prod.mk.injEq]
      exact ⟨by omega, rfl⟩
    · have hlt : D.length < (D ++ x' :: t').length := by rw [List.length_append, List.length_cons]; omega
      have hget : (D ++ x' :: t')[D.length] = x' := by rw [List.getElem_append_right (Nat.le_refl _)]; simp
      rw [List.length_cons] at hD
      have hw := amk (wr_big (c := D.length) (by omega))
      have hgo := ht3 (D ++ [x']) (by rw [List.length_append, List.length_singleton]; omega)
      rw [List.append_assoc, List.length_append, List.length_singleton] at hgo
      refine Ev.step (fun k => rfl) (Ev.yes (by omega) (Ev.yes (by omega) ?_))
      rw [rd_row hlt, hget, hw.out]
      refine Ev.bind (a := a + x.length) hh (Ev.no (by omega) ?_)
      exact Ev.eq hgo (by omega)
theorem laws_markPins.evH (n : Int) (l : List (List Int)) (h2 : totL l ≤ 1048576) (h3 : l.length ≤ 1048576) : ∃ l', Ev (fun k => laws_markPins.f k n l 1) (1 + (totL l : Int), l') ∧ Ev (fun k => laws_heldPins.f k n l' 1) (1 + (totL l : Int)) := by
  obtain ⟨l', hl, hm, hh⟩ := markRows_held l 1 (by omega) (by omega) h2 h3
  refine ⟨l', hm, ?_⟩
  have := hh [] (by show 0 + l.length ≤ 1048576; omega)
  unfold laws_heldPins.f laws_heldIntSS.f
  exact Ev.bind this (Ev.no (by omega) (Ev.now _))
/-! The places and the digits that two codes share. -/
/-! Locks: which numbers are one, how many codes there are. -/
/-! Codes of a lock as texts, their digits, what clues tell of them. -/
theorem bt_textB {D : List Int} (h : ∀ x ∈ D, 0 ≤ x ∧ x < 10) {i : Nat} (hi : i < D.length) : bt (textB D) (i : Nat) = 48 + D[i] := by
  have hx := h D[i] (List.getElem_mem hi)
  have hs : (textB D).size = D.length := by unfold textB; rw [strOfNums_size, List.length_map]
  unfold bt
  rw [dif_pos (by rw [hs]; simpa using hi)]
  have e1 : ((textB D)[(i : Int).toNat]'(by rw [hs]; simpa using hi)) = UInt8.ofNat (wrap64 (48 + D[i]) % 256).toNat := by
    show (textB D).data[(i : Int).toNat]'_ = _
    have : (textB D).data = ((D.map fun x => wrap64 (48 + x) % 256).map fun n => UInt8.ofNat n.toNat).toArray := rfl
    simp [this]
  rw [e1, w64 (by omega) (by omega)]
  simp
  omega
/-! Texts of digits: their sizes. -/
theorem strOfNums_app (a b : List Int) : strOfNums (a ++ b) = strOfNums a ++ strOfNums b := by
  apply ByteArray.ext
  simp [strOfNums, ByteArray.data_append]
theorem textB_app (a : List Int) (x : Int) : textB (a ++ [x]) = textB a ++ strOfNums [wrap64 (48 + x) % 256] := by
  unfold textB; rw [List.map_append, strOfNums_app]; rfl
theorem textB_size (l : List Int) : (textB l).size = l.length := by unfold textB; rw [strOfNums_size, List.length_map]
/-! spec's pins: what they come to. -/
theorem spec_l1Rising.lev (n : Int) (hn : 1 ≤ n ∧ n ≤ 9) (l : List Int) (hl : l.length ≤ 9223372036854775807) : ∀ (m i : Nat), i + m = l.length → (-1 ≤ lastI l i) → Ev (fun k => spec_l1Rising.l0 k l 0 (n - 1) l (l.length : Int) (i : Nat)) (risF n (lastI l i) (l.drop i)) := by
  intro m
  induction m with
  | zero =>
    intro i hi _
    refine Ev.step (fun k => rfl) (Ev.no (by omega) (Ev.id ?_))
    rw [List.drop_eq_nil_of_le (by omega)]
    rfl
  | succ m ih =>
    intro i hi hq
    have hlt : i < l.length := by omega
    have hr : rd l (i : Nat) = l[i] := rd_int hlt
    refine Ev.step (fun k => rfl) (Ev.yes (by omega) (Ev.yes (by omega) (Ev.yes (by omega) (Ev.bindc (spec_l1In.bs _ _ _) ?_))))
    rw [hr, List.drop_eq_getElem_cons hlt]
    unfold risF
    have hw : wrap64 ((i : Int) + 1) = ((i + 1 : Nat) : Int) := w64 (by omega) (by omega)
    have hla : lastI l (i + 1) = l[i] := lastI_at hlt
    by_cases h1 : 0 ≤ l[i] ∧ l[i] ≤ n - 1
    · refine Ev.yes (decide_eq_true h1) ?_
      have hgo := ih (i + 1) (by omega) (by rw [hla]; omega)
      rw [hla] at hgo
      cases i with
      | zero =>
        refine Ev.no (by omega) ?_
        rw [hw]
        refine Ev.eq hgo ?_
        have h2 : decide (lastI l 0 < l[0]) = true := decide_eq_true (show (-1 : Int) < l[0] by omega)
        have h3 : decide (l[0] ≤ n - 1) = true := decide_eq_true h1.2
        rw [h2, h3]; rfl
      | succ i =>
        have hp : wrap64 (((i + 1 : Nat) : Int) - 1) = (i : Nat) := by rw [w64 (by omega) (by omega)]; omega
        have hr1 : rd l (i : Nat) = l[i] := rd_int (by omega)
        have hlb : lastI l (i + 1) = l[i] := lastI_at (by omega)
        refine Ev.yes (by omega) ?_
        rw [hp, hr1, hlb]
        refine Ev.yes (by omega) (Ev.yes (by omega) ?_)
        by_cases h2 : l[i] ≥ l[i + 1]
        · refine Ev.yes h2 (Ev.id ?_)
          rw [decide_eq_false (by omega : ¬ l[i] < l[i + 1])]; rfl
        · refine Ev.no h2 ?_
          rw [hw]
          refine Ev.eq hgo ?_
          rw [decide_eq_true (by omega : l[i] < l[i + 1]), decide_eq_true h1.2]; rfl
    · refine Ev.no (by rw [decide_eq_false h1]; simp) (Ev.id ?_)
      by_cases h2 : lastI l i < l[i]
      · have h3 : ¬ l[i] ≤ n - 1 := fun h => h1 ⟨by omega, h⟩
        rw [decide_eq_false h3]; simp
      · rw [decide_eq_false h2]; rfl
theorem spec_l1Rising.ev (n : Int) (hn : 1 ≤ n ∧ n ≤ 9) (l : List Int) (hl : l.length ≤ 9223372036854775807) : Ev (fun k => spec_l1Rising.f k l 0 (n - 1)) (risF n (-1) l) := by
  unfold spec_l1Rising.f
  exact spec_l1Rising.lev n hn l hl l.length 0 (by omega) (show (-1 : Int) ≤ -1 by omega)
theorem spec_keGood.lev (n : Int) (hn : 1 ≤ n ∧ n ≤ 9) (l : List (List Int)) (hl : RowsV l) : ∀ (m i : Nat), i + m = l.length → Ev (fun k => spec_keGood.l0 k l (l.length : Int) (i : Nat) n l) ((l.drop i).all (rowB n)) := by
  have hl1 := hl.1
  intro m
  induction m with
  | zero =>
    intro i hi
    refine Ev.step (fun k => rfl) (Ev.no (by omega) (Ev.id ?_))
    rw [List.drop_eq_nil_of_le (by omega)]; rfl
  | succ m ih =>
    intro i hi
    have hlt : i < l.length := by omega
    refine Ev.step (fun k => rfl) (Ev.yes (by omega) (Ev.yes (by omega) (Ev.yes (by omega) ?_)))
    rw [rd_row hlt, List.drop_eq_getElem_cons hlt, List.all_cons]
    have hx := hl.2 l[i] (List.getElem_mem hlt)
    have hgo := ih (i + 1) (by omega)
    generalize l[i] = x at hx ⊢
    unfold rowB
    by_cases h0 : (x.length : Int) = 0
    · refine Ev.yes h0 (Ev.id ?_)
      obtain rfl : x = [] := List.length_eq_zero_iff.mp (by omega)
      rfl
    · refine Ev.no h0 ?_
      have h1 : (!x.isEmpty) = true := by cases x <;> simp_all
      rw [w64 (x := n - 1) (by omega) (by omega), h1, Bool.true_and]
      refine Ev.bind (spec_l1Rising.ev n hn x hx) ?_
      cases risF n (-1) x with
      | false => exact Ev.no (by simp) (Ev.id rfl)
      | true =>
        refine Ev.yes rfl ?_
        rw [w64 (x := (i : Int) + 1) (by omega) (by omega), Bool.true_and]
        exact hgo
theorem spec_keGood.ev (n : Int) (l : List (List Int)) (hl : RowsV l) : Ev (fun k => spec_keGood.f k n l) (pinsB n l) := by
  unfold spec_keGood.f pinsB
  refine Ev.bindc (spec_l1In.bs _ _ _) ?_
  by_cases h1 : 1 ≤ n ∧ n ≤ 9
  · rw [decide_eq_true h1]
    refine Ev.yes rfl (Ev.bindc (spec_l1In.bs _ _ _) (Ev.step (fun k => rfl) ?_))
    simp only [spec_keGood.j0]
    by_cases h2 : 1 ≤ (l.length : Int) ∧ (l.length : Int) ≤ 7
    · rw [decide_eq_true h2]
      refine Ev.no (by simp) ?_
      have := spec_keGood.lev n h1 l hl l.length 0 (by omega)
      simpa using this
    · rw [decide_eq_false h2]
      exact Ev.yes (by simp) (Ev.id (by simp))
  · rw [decide_eq_false h1]
    refine Ev.no (by simp) (Ev.step (fun k => rfl) ?_)
    simp only [spec_keGood.j0]
    exact Ev.yes trivial (Ev.id (by simp))
/-! spec's split at a byte; digits of any text: what they come to. -/
theorem bytes_eq {a : ByteArray} {l : List UInt8} (h : a.data.toList = l) : a = bytesOf l := by
  apply ByteArray.ext
  apply Array.ext'
  unfold bytesOf
  rw [h]
theorem bytesOf_data (l : List UInt8) : (bytesOf l).data.toList = l := by unfold bytesOf; simp
theorem bytesOf_size (l : List UInt8) : (bytesOf l).size = l.length := by rw [Lib.size_eq, bytesOf_data]
theorem bt_list {s : ByteArray} {i : Nat} (h : i < s.data.toList.length) : bt s (i : Nat) = ((s.data.toList[i]'h).toNat : Int) := by
  have h2 : i < s.size := by rw [Lib.size_eq]; exact h
  rw [← bt_at s (i : Nat) (by simpa using h2)]
  rfl
def dvL (l : List UInt8) : List Int := l.map fun b => ((b.toNat : Int) - 48) % 256
theorem impl_digits.any (s : ByteArray) (hs : s.size ≤ 1048576) : Ev (fun k => impl_digits.f k s) (dvL s.data.toList) := by
  have hz := Lib.size_eq s
  have key : ∀ m i : Nat, i + m = s.size → Ev (fun k => impl_digits.l0 k s (dvL (s.data.toList.take i)) (s.size : Int) (i : Nat)) (dvL s.data.toList) := by
    intro m
    induction m with
    | zero =>
      intro i hi
      refine Ev.step (fun k => rfl) (Ev.no (by omega) (Ev.id ?_))
      rw [List.take_of_length_le (by omega)]
    | succ m ih =>
      intro i hi
      have hlt : i < s.data.toList.length := by omega
      refine Ev.step (fun k => rfl) (Ev.yes (by omega) (Ev.yes (by omega) (Ev.yes (by omega) (Ev.yes (by unfold dvL; rw [List.length_map, List.length_take]; omega) ?_))))
      rw [bt_list hlt, show wrap64 ((i : Int) + 1) = ((i + 1 : Nat) : Int) from w64 (by omega) (by omega)]
      have := ih (i + 1) (by omega)
      rw [List.take_succ_eq_append_getElem hlt] at this
      unfold dvL at this ⊢
      rw [List.map_append] at this
      exact this
  exact key s.size 0 (by omega)
theorem spec_whDigits.any (s : ByteArray) (hs : s.size ≤ 1048576) : Ev (fun k => spec_whDigits.f k s) (dvL s.data.toList) := by
  have hz := Lib.size_eq s
  have key : ∀ m i : Nat, i + m = s.size → Ev (fun k => spec_whDigits.l0 k s (dvL (s.data.toList.take i)) (i : Nat)) (dvL s.data.toList) := by
    intro m
    induction m with
    | zero =>
      intro i hi
      refine Ev.step (fun k => rfl) (Ev.no (by omega) (Ev.id ?_))
      rw [List.take_of_length_le (by omega)]
    | succ m ih =>
      intro i hi
      have hlt : i < s.data.toList.length := by omega
      refine Ev.step (fun k => rfl) (Ev.yes (by omega) (Ev.yes (by omega) (Ev.yes (by unfold dvL; rw [List.length_map, List.length_take]; omega) ?_)))
      rw [bt_list hlt, show wrap64 ((i : Int) + 1) = ((i + 1 : Nat) : Int) from w64 (by omega) (by omega)]
      have := ih (i + 1) (by omega)
      rw [List.take_succ_eq_append_getElem hlt] at this
      unfold dvL at this ⊢
      rw [List.map_append] at this
      exact this
  exact key s.size 0 (by omega)
theorem spec_l1Split.lev (c : UInt8) (s : ByteArray) (hs : s.size ≤ 1048576) : ∀ (m from_ i : Nat) (acc : List ByteArray), i + m = s.size → from_ ≤ i → (∀ b ∈ (s.data.toList.drop from_).take (i - from_), b ≠ c) → acc.length ≤ from_ → Ev (fun k => spec_l1Split.l0 k s (c.toNat : Int) acc (from_ : Nat) (i : Nat)) (acc ++ (splL c (s.data.toList.drop from_)).map bytesOf) := by
  have hz := Lib.size_eq s
  intro m
  induction m with
  | zero =>
    intro from_ i acc hi hf hb ha
    rw [List.take_of_length_le (by rw [List.length_drop]; omega)] at hb
    refine Ev.step (fun k => rfl) (Ev.no (by omega) (Ev.yes (by omega) (Ev.yes (by omega) (Ev.yes (by omega) (Ev.id ?_)))))
    rw [splL_no hb, Int.toNat_natCast, bytes_eq (Lib.extract_to_end s from_)]; rfl
  | succ m ih =>
    intro from_ i acc hi hf hb ha
    have hlt : i < s.data.toList.length := by omega
    have e : wrap64 ((i : Int) + 1) = ((i + 1 : Nat) : Int) := w64 (by omega) (by omega)
    have hd : (s.data.toList.drop from_) = (s.data.toList.drop from_).take (i - from_) ++ s.data.toList[i] :: s.data.toList.drop (i + 1) := by
      rw [← List.drop_eq_getElem_cons hlt]
      have h1 : s.data.toList.drop i = (s.data.toList.drop from_).drop (i - from_) := by rw [List.drop_drop]; congr 1; omega
      rw [h1, List.take_append_drop]
    refine Ev.step (fun k => rfl) (Ev.yes (by omega) (Ev.yes (by omega) ?_))
    rw [bt_list hlt, e]
    by_cases h : s.data.toList[i] = c
    · refine Ev.yes (by rw [h]) (Ev.yes (by omega) (Ev.yes (by omega) (Ev.yes (by omega) (Ev.yes (by omega) ?_))))
      have hgo := ih (i + 1) (i + 1) (acc ++ [s.extract from_ i]) (by omega) (by omega) (by rw [Nat.sub_self, List.take_zero]; intro b hb; cases hb) (by rw [List.length_append, List.length_singleton]; omega)
      rw [Int.toNat_natCast, Int.toNat_natCast]
      refine Ev.eq hgo ?_
      rw [hd, h, splL_app hb, List.map_cons, bytes_eq (Lib.extract_data s from_ i), List.append_assoc]; rfl
    · refine Ev.no (fun h2 => h (UInt8.toNat_inj.mp (by omega))) ?_
      refine ih from_ (i + 1) acc (by omega) (by omega) ?_ ha
      intro b hb2
      rw [show i + 1 - from_ = (i - from_) + 1 by omega, List.take_succ_eq_append_getElem (by rw [List.length_drop]; omega)] at hb2
      rcases List.mem_append.mp hb2 with h3 | h3
      · exact hb b h3
      · rw [List.mem_singleton.mp h3, List.getElem_drop]
        have e2 : from_ + (i - from_) = i := by omega
        simp only [e2]
        exact h
theorem spec_l1Split.ev (c : UInt8) (s : ByteArray) (hs : s.size ≤ 1048576) : Ev (fun k => spec_l1Split.f k s (c.toNat : Int)) ((splL c s.data.toList).map bytesOf) := by
  unfold spec_l1Split.f
  have := spec_l1Split.lev c s hs s.size 0 0 [] (by omega) (by omega) (by rw [Nat.sub_self, List.take_zero]; intro b hb; cases hb) (by simp)
  rw [List.nil_append, List.drop_zero] at this
  exact this
/-! spec's numbers of one digit. -/
theorem spec_l1Num.one {x : Int} (h : x < 10) : Ev (fun k => spec_l1Num.f k x) (strOfNums [wrap64 (48 + x) % 256]) :=
  Ev.step (fun k => rfl) (Ev.yes h (Ev.now _))
/-! Digits of texts, texts of digits: what they come to. -/
theorem impl_text.lev (l : List Int) (hl : l.length ≤ 1000000) : ∀ (j : Nat) (i : Int) (x : List Int), 0 ≤ i → i ≤ l.length → (l.length : Int) - i = j → x = (l.take i.toNat).map (fun x => wrap64 (48 + x) % 256) →
    Ev (fun k => impl_text.l0 k x l (l.length : Int) i) (textB l) := by
  intro j
  induction j with
  | zero =>
    intro i x h0 hi hj hx
    refine Ev.step (fun k => rfl) (Ev.no (by omega) (Ev.id ?_))
    rw [hx, List.take_of_length_le (by omega)]; rfl
  | succ j ih =>
    intro i x h0 hi hj hx
    have hlt : i.toNat < l.length := by omega
    have hxl : x.length ≤ 1000000 := by rw [hx, List.length_map, List.length_take]; omega
    refine Ev.step (fun k => rfl) (Ev.yes (by omega) (Ev.yes h0 (Ev.yes (by omega) (Ev.yes (by omega) ?_))))
    rw [w64 (x := i + 1) (by omega) (by omega)]
    refine ih (i + 1) _ (by omega) (by omega) (by omega) ?_
    rw [toNat_succ h0, List.take_succ_eq_append_getElem hlt, List.map_append, hx, rd_at hlt]; rfl
theorem impl_text.ev (l : List Int) (hl : l.length ≤ 1000000) : Ev (fun k => impl_text.f k l) (textB l) := by
  unfold impl_text.f
  exact impl_text.lev l hl l.length 0 [] (by omega) (by omega) (by omega) (by simp)
/-! Declarations moved out of ETexts. -/
theorem spec_whText.lev (D : List Int) (hD : D.length ≤ 1000) (h : ∀ x ∈ D, 0 ≤ x ∧ x < 10) : ∀ (m i : Nat), i + m = D.length → Ev (fun k => spec_whText.l0 k (textB (D.take i)) D (D.length : Int) (i : Nat)) (textB D) := by
  intro m
  induction m with
  | zero =>
    intro i hi
    refine Ev.step (fun k => rfl) (Ev.no (by omega) (Ev.id ?_))
    rw [List.take_of_length_le (by omega)]
  | succ m ih =>
    intro i hi
    have hlt : i < D.length := by omega
    have hx := h D[i] (List.getElem_mem hlt)
    refine Ev.step (fun k => rfl) (Ev.yes (by omega) (Ev.yes (by omega) (Ev.yes (by omega) ?_)))
    rw [rd_at (by simpa using hlt)]
    refine Ev.bind (spec_l1Num.one (by simpa using hx.2)) ?_
    refine Ev.yes (by rw [textB_size, strOfNums_size, List.length_take]; simp; omega) ?_
    rw [show wrap64 ((i : Int) + 1) = ((i + 1 : Nat) : Int) from w64 (by omega) (by omega)]
    have := ih (i + 1) (by omega)
    rw [List.take_succ_eq_append_getElem hlt, textB_app] at this
    exact this
theorem spec_whText.ev (D : List Int) (hD : D.length ≤ 1000) (h : ∀ x ∈ D, 0 ≤ x ∧ x < 10) : Ev (fun k => spec_whText.f k D) (textB D) := by
  unfold spec_whText.f
  exact spec_whText.lev D hD h D.length 0 (by omega)
/-! ### impl_PinsText: function 10 -/
/-! ### spec_PinsText: function 8 -/
/-! ### laws_FnExactPinsText: function 3 -/

/-! PinsText: the pins' text; and that the program's and the reference's are one. -/
def pinsT (n : Int) (L : List (List Int)) : ByteArray := decB n ++ ⟨#[61]⟩ ++ joinB (L.map textB) ⟨#[44]⟩
def TxtRow (r : List Int) : Prop := r.length ≤ 9 ∧ ∀ x ∈ r, 0 ≤ x ∧ x < 10
theorem pinsB_txt {n : Int} {L : List (List Int)} (h : pinsB n L = true) : ∀ r ∈ L, TxtRow r := by
  obtain ⟨h1, h2, h3⟩ := pinsB_parts h
  intro r hr
  have h4 := rowB_len (by omega) (h3 r hr)
  refine ⟨by omega, fun x hx => ?_⟩
  have := rowB_mem (h3 r hr) x hx
  omega
theorem txt_joined (L : List (List Int)) (h : ∀ r ∈ L, TxtRow r) (s : ByteArray) (hs : s.size = 1) : (joinB (L.map textB) s).size ≤ 10 * L.length := by
  have := joinB_size 9 s (L.map textB) (fun x hx => by
    obtain ⟨r, hr, rfl⟩ := List.mem_map.mp hx
    rw [textB_size]; exact (h r hr).1)
  rw [hs, List.length_map] at this
  exact this
theorem impl_pinsText.lev (n : Int) (hn : 1 ≤ n ∧ n ≤ 9) (L : List (List Int)) (hL : L.length ≤ 7) (h : ∀ r ∈ L, TxtRow r) : ∀ (m i : Nat), i + m = L.length → Ev (fun k => impl_pinsText.l0 k ((L.take i).map textB) L (L.length : Int) (i : Nat) n L) (pinsT n L) := by
  intro m
  induction m with
  | zero =>
    intro i hi
    have hd : (decB n).size = 1 := by rw [decB_one (by omega) (by omega), strOfNums_size]; rfl
    have h1 : ((⟨#[61]⟩ : ByteArray)).size = 1 := rfl
    have hj := txt_joined L h ⟨#[44]⟩ rfl
    refine Ev.step (fun k => rfl) (Ev.no (by omega) (Ev.bindc (show strconv_Itoa.f n = some (decB n) from if_pos (by omega)) (Ev.yes (by omega) (Ev.bindc (a := joinB (L.map textB) ⟨#[44]⟩) ?_ (Ev.yes (by rw [ByteArray.size_append]; omega) (Ev.id rfl))))))
    rw [List.take_of_length_le (by omega)]
    unfold strings_Join.f
    exact if_pos ⟨by rw [List.length_map]; omega, by omega⟩
  | succ m ih =>
    intro i hi
    have hlt : i < L.length := by omega
    have hx := h L[i] (List.getElem_mem hlt)
    refine Ev.step (fun k => rfl) (Ev.yes (by omega) (Ev.yes (by omega) (Ev.yes (by omega) ?_)))
    rw [rd_row hlt]
    refine Ev.bind (impl_text.ev L[i] (by have := hx.1; omega)) (Ev.yes (by rw [List.length_map, List.length_take]; omega) ?_)
    rw [show wrap64 ((i : Int) + 1) = ((i + 1 : Nat) : Int) from w64 (by omega) (by omega)]
    have := ih (i + 1) (by omega)
    rw [List.take_succ_eq_append_getElem hlt, List.map_append] at this
    exact this
theorem impl_pinsText.ev (n : Int) (hn : 1 ≤ n ∧ n ≤ 9) (L : List (List Int)) (hL : L.length ≤ 7) (h : ∀ r ∈ L, TxtRow r) : Ev (fun k => impl_pinsText.f k n L) (pinsT n L) := by
  unfold impl_pinsText.f
  exact impl_pinsText.lev n hn L hL h L.length 0 (by omega)
theorem spec_keText.lev (L : List (List Int)) (hL : L.length ≤ 7) (h : ∀ r ∈ L, TxtRow r) (t : ByteArray) (ht : t.size = 2) : ∀ (m i : Nat), i + m = L.length → Ev (fun k => spec_keText.l0 k (t ++ joinB ((L.take i).map textB) ⟨#[44]⟩) L (L.length : Int) (i : Nat)) (t ++ joinB (L.map textB) ⟨#[44]⟩) := by
  intro m
  induction m with
  | zero =>
    intro i hi
    refine Ev.step (fun k => rfl) (Ev.no (by omega) (Ev.id ?_))
    rw [List.take_of_length_le (by omega)]
  | succ m ih =>
    intro i hi
    have hlt : i < L.length := by omega
    have hx := h L[i] (List.getElem_mem hlt)
    have hz := txt_joined (L.take i) (fun r hr => h r (List.mem_of_mem_take hr)) ⟨#[44]⟩ rfl
    rw [List.length_take] at hz
    have hs : (t ++ joinB ((L.take i).map textB) ⟨#[44]⟩).size ≤ 100 := by rw [ByteArray.size_append]; omega
    have hw := spec_whText.ev L[i] (by have := hx.1; omega) hx.2
    have ht2 : (textB L[i]).size ≤ 9 := by rw [textB_size]; exact hx.1
    have h1 : ((⟨#[44]⟩ : ByteArray)).size = 1 := rfl
    have e : wrap64 ((i : Int) + 1) = ((i + 1 : Nat) : Int) := w64 (by omega) (by omega)
    have hgo := ih (i + 1) (by omega)
    rw [List.take_succ_eq_append_getElem hlt, List.map_append] at hgo
    refine Ev.step (fun k => rfl) (Ev.yes (by omega) (Ev.yes (by omega) (Ev.yes (by omega) ?_)))
    rw [rd_row hlt, e]
    by_cases h0 : i = 0
    · subst h0
      refine Ev.no (by omega) (Ev.bind hw (Ev.yes (by omega) ?_))
      rw [List.take_zero, List.map_nil, List.nil_append, List.map_cons, List.map_nil, joinB_one] at hgo
      rw [List.take_zero, List.map_nil, joinB_nil, show t ++ (⟨#[]⟩ : ByteArray) = t from ByteArray.append_empty]
      exact hgo
    · refine Ev.yes (by omega) (Ev.yes (by omega) (Ev.bind hw (Ev.yes (by rw [ByteArray.size_append]; omega) ?_)))
      rw [List.map_cons, List.map_nil, joinB_snoc _ _ _ (by
        intro h2
        have := congrArg List.length h2
        rw [List.length_map, List.length_take, List.length_nil] at this
        omega), ← ByteArray.append_assoc, ← ByteArray.append_assoc] at hgo
      exact hgo
theorem spec_keText.ev (n : Int) (hn : 1 ≤ n ∧ n ≤ 9) (L : List (List Int)) (hL : L.length ≤ 7) (h : ∀ r ∈ L, TxtRow r) : Ev (fun k => spec_keText.f k n L) (pinsT n L) := by
  unfold spec_keText.f pinsT
  have e := decB_one (n := n) (by omega) (by omega)
  refine Ev.bind (spec_l1Num.one (x := n) (by omega)) ?_
  rw [← e]
  have hd : (decB n).size = 1 := by rw [e, strOfNums_size]; rfl
  refine Ev.yes (by omega) ?_
  have := spec_keText.lev L hL h (decB n ++ ⟨#[61]⟩) (by rw [ByteArray.size_append, hd]; rfl) L.length 0 (by omega)
  rw [List.take_zero, List.map_nil, joinB_nil, show decB n ++ ⟨#[61]⟩ ++ (⟨#[]⟩ : ByteArray) = decB n ++ ⟨#[61]⟩ from ByteArray.append_empty] at this
  exact this
/-! ParsePins: what the program's and the reference's come to. -/
theorem bl_eq {a b : ByteArray} : a.toList = b.toList ↔ a = b := by
  constructor
  · intro h
    rw [ByteArray.toList_eq, ByteArray.toList_eq] at h
    exact ByteArray.ext (Array.toList_inj.mp h)
  · intro h; rw [h]
theorem splL_len (c : UInt8) : ∀ l : List UInt8, splL c l ≠ [] ∧ (splL c l).length ≤ l.length + 1 ∧ ∀ x ∈ splL c l, x.length ≤ l.length
  | [] => ⟨by unfold splL; simp, by unfold splL; simp, fun x hx => by unfold splL at hx; rw [List.mem_singleton.mp hx]; simp⟩
  | b :: t => by
    obtain ⟨h1, h2, h3⟩ := splL_len c t
    have e : splL c (b :: t) = if b = c then [] :: splL c t else (b :: (splL c t).headD []) :: (splL c t).tail := rfl
    rw [e]
    by_cases h : b = c
    · rw [if_pos h]
      refine ⟨by simp, by simp; omega, fun x hx => ?_⟩
      rcases List.mem_cons.mp hx with rfl | hx
      · simp
      · have := h3 x hx; simp; omega
    · rw [if_neg h]
      cases hc : splL c t with
      | nil => exact absurd hc h1
      | cons y r =>
        rw [hc] at h2 h3
        refine ⟨by simp, by simp at h2 ⊢; omega, fun x hx => ?_⟩
        rcases List.mem_cons.mp hx with rfl | hx
        · have := h3 y List.mem_cons_self; simp; omega
        · have := h3 x (List.mem_cons_of_mem _ hx); simp; omega
def dvB (b : ByteArray) : List Int := dvL b.data.toList
theorem dvB_length (b : ByteArray) : (dvB b).length = b.size := by unfold dvB dvL; rw [List.length_map, Lib.size_eq]
theorem rowsV_dv (xs : List ByteArray) (hx : ∀ x ∈ xs, x.size ≤ 1048576) (hl : xs.length ≤ 1048577) : RowsV (xs.map dvB) := by
  refine ⟨by rw [List.length_map]; omega, fun r hr => ?_⟩
  obtain ⟨x, h1, rfl⟩ := List.mem_map.mp hr
  rw [dvB_length]
  have := hx x h1
  omega
theorem rdOf_nat {α : Type} {d : α} {xs : List α} {i : Nat} (h : i < xs.length) : rdOf d xs (i : Nat) = xs[i] := by
  rw [rdOf_at (by simpa using h)]; simp
def ppV (n : Int) (L : List (List Int)) (s : ByteArray) : Int × List (List Int) × Bool := if pinsB n L = true ∧ pinsT n L = s then (n, L, true) else (0, [], false)
def kpV (n : Int) (L : List (List Int)) (s : ByteArray) : Int × List (List Int) × Bool := if pinsB n L = true then (n, L, ((pinsT n L).toList == s.toList)) else (n, L, false)
theorem impl_ParsePins.lev (s : ByteArray) (n : Int) (xs : List ByteArray) (hx : ∀ x ∈ xs, x.size ≤ 1048576) (hl : xs.length ≤ 1048577) : ∀ (m i : Nat), i + m = xs.length → Ev (fun k => impl_ParsePins.l0 k s xs (xs.length : Int) (i : Nat) n ((xs.take i).map dvB)) (ppV n (xs.map dvB) s) := by
  intro m
  induction m with
  | zero =>
    intro i hi
    refine Ev.step (fun k => rfl) (Ev.no (by omega) ?_)
    rw [List.take_of_length_le (by omega)]
    refine Ev.bindc (show impl_ArePins.f n (xs.map dvB) = some (pinsB n (xs.map dvB)) from rfl) ?_
    unfold ppV
    by_cases h1 : pinsB n (xs.map dvB) = true
    · obtain ⟨a1, a2, a3⟩ := pinsB_parts h1
      refine Ev.yes h1 (Ev.bind (impl_pinsText.ev n a1 _ (by omega) (pinsB_txt h1)) ?_)
      by_cases h2 : pinsT n (xs.map dvB) = s
      · refine Ev.yes (bl_eq.mpr h2) (Ev.id ?_)
        rw [if_pos ⟨h1, h2⟩]
      · refine Ev.no (fun h => h2 (bl_eq.mp h)) (Ev.id ?_)
        rw [if_neg (fun h => h2 h.2)]
    · refine Ev.no h1 (Ev.id ?_)
      rw [if_neg (fun h => h1 h.1)]
  | succ m ih =>
    intro i hi
    have hlt : i < xs.length := by omega
    refine Ev.step (fun k => rfl) (Ev.yes (by omega) (Ev.yes (by omega) (Ev.yes (by omega) ?_)))
    rw [rdOf_nat hlt]
    refine Ev.bind (impl_digits.any _ (hx _ (List.getElem_mem hlt))) (Ev.yes (by rw [List.length_map, List.length_take]; omega) ?_)
    rw [show wrap64 ((i : Int) + 1) = ((i + 1 : Nat) : Int) from w64 (by omega) (by omega)]
    have := ih (i + 1) (by omega)
    rw [List.take_succ_eq_append_getElem hlt, List.map_append] at this
    exact this
theorem spec_keParse.lev (s : ByteArray) (n : Int) (xs : List ByteArray) (hx : ∀ x ∈ xs, x.size ≤ 1048576) (hl : xs.length ≤ 1048577) : ∀ (m i : Nat), i + m = xs.length → Ev (fun k => spec_keParse.l0 k s xs (xs.length : Int) (i : Nat) n ((xs.take i).map dvB)) (kpV n (xs.map dvB) s) := by
  intro m
  induction m with
  | zero =>
    intro i hi
    refine Ev.step (fun k => rfl) (Ev.no (by omega) ?_)
    rw [List.take_of_length_le (by omega)]
    refine Ev.bind (spec_keGood.ev n _ (rowsV_dv xs hx hl)) ?_
    unfold kpV
    by_cases h1 : pinsB n (xs.map dvB) = true
    · obtain ⟨a1, a2, a3⟩ := pinsB_parts h1
      refine Ev.yes h1 (Ev.bind (spec_keText.ev n a1 _ (by omega) (pinsB_txt h1)) (Ev.id ?_))
      rw [if_pos h1]
    · refine Ev.no h1 (Ev.id ?_)
      rw [if_neg h1]
  | succ m ih =>
    intro i hi
    have hlt : i < xs.length := by omega
    refine Ev.step (fun k => rfl) (Ev.yes (by omega) (Ev.yes (by omega) (Ev.yes (by omega) ?_)))
    rw [rdOf_nat hlt]
    refine Ev.bind (spec_whDigits.any _ (hx _ (List.getElem_mem hlt))) (Ev.yes (by rw [List.length_map, List.length_take]; omega) ?_)
    rw [show wrap64 ((i : Int) + 1) = ((i + 1 : Nat) : Int) from w64 (by omega) (by omega)]
    have := ih (i + 1) (by omega)
    rw [List.take_succ_eq_append_getElem hlt, List.map_append] at this
    exact this
theorem spec_l1Read.lev (s : ByteArray) (hs : s.size ≤ 1048576) : ∀ (m i : Nat) (x : Int), i + m = s.size → ∃ v, Ev (fun k => spec_l1Read.l0 k s x (i : Nat)) v := by
  intro m
  induction m with
  | zero =>
    intro i x hi
    exact ⟨x, Ev.step (fun k => rfl) (Ev.no (by omega) (Ev.now _))⟩
  | succ m ih =>
    intro i x hi
    obtain ⟨v, hv⟩ := ih (i + 1) (wrap64 ((wrap64 (10 * x)) + (((bt s (i : Nat)) - 48) % 256))) (by omega)
    by_cases h1 : bt s (i : Nat) < 48
    · exact ⟨-1, Ev.step (fun k => rfl) (Ev.yes (by omega) (Ev.yes (by omega) (Ev.yes h1 (Ev.now _))))⟩
    · by_cases h2 : bt s (i : Nat) > 57
      · exact ⟨-1, Ev.step (fun k => rfl) (Ev.yes (by omega) (Ev.yes (by omega) (Ev.no h1 (Ev.yes h2 (Ev.now _)))))⟩
      · refine ⟨v, Ev.step (fun k => rfl) (Ev.yes (by omega) (Ev.yes (by omega) (Ev.no h1 (Ev.no h2 ?_))))⟩
        rw [show wrap64 ((i : Int) + 1) = ((i + 1 : Nat) : Int) from w64 (by omega) (by omega)]
        exact hv
theorem spec_l1Read.j0ev (s : ByteArray) (hs : s.size ≤ 1048576) (b : Bool) : ∃ v, Ev (fun k => spec_l1Read.j0 k s b) v := by
  cases b with
  | true =>
    refine ⟨-1, Ev.step (fun k => rfl) ?_⟩
    simp only [spec_l1Read.j0]
    first | exact Ev.yes rfl (Ev.now _) | exact Ev.yes trivial (Ev.now _) | exact Ev.now _
  | false =>
    obtain ⟨v, hv⟩ := spec_l1Read.lev s hs s.size 0 0 (by omega)
    refine ⟨v, Ev.step (fun k => rfl) ?_⟩
    simp only [spec_l1Read.j0]
    exact Ev.no (by simp) hv
theorem spec_l1Read.ex (s : ByteArray) (hs : s.size ≤ 1048576) : ∃ v, Ev (fun k => spec_l1Read.f k s) v := by
  unfold spec_l1Read.f
  by_cases h : 1 ≤ (s.size : Int) ∧ (s.size : Int) ≤ 6
  · by_cases h2 : bt s 0 = 48
    · obtain ⟨v, hv⟩ := spec_l1Read.j0ev s hs (decide ((s.size : Int) > 1))
      exact ⟨v, Ev.bindc (spec_l1In.bs _ _ _) (Ev.yes (decide_eq_true h) (Ev.yes (by omega) (Ev.yes h2 hv)))⟩
    · obtain ⟨v, hv⟩ := spec_l1Read.j0ev s hs false
      exact ⟨v, Ev.bindc (spec_l1In.bs _ _ _) (Ev.yes (decide_eq_true h) (Ev.yes (by omega) (Ev.no h2 hv)))⟩
  · obtain ⟨v, hv⟩ := spec_l1Read.j0ev s hs true
    exact ⟨v, Ev.bindc (spec_l1In.bs _ _ _) (Ev.no (by simpa using h) hv)⟩
theorem spec_l1Read.one {n : Int} (h1 : 1 ≤ n) (h9 : n ≤ 9) : Ev (fun k => spec_l1Read.f k (textB [n])) n := by
  have hz : (textB [n]).size = 1 := by rw [textB_size]; rfl
  have hb : bt (textB [n]) ((0 : Nat) : Int) = 48 + n := bt_textB (D := [n]) (fun x hx => by rw [List.mem_singleton.mp hx]; omega) (i := 0) (by simp)
  have hb : bt (textB [n]) 0 = 48 + n := hb
  unfold spec_l1Read.f
  refine Ev.bindc (spec_l1In.bs _ _ _) (Ev.yes (decide_eq_true (by omega)) (Ev.yes (by omega) (Ev.no (by omega) (Ev.step (fun k => rfl) ?_))))
  simp only [spec_l1Read.j0]
  refine Ev.no (by simp) (Ev.step (fun k => rfl) (Ev.yes (by omega) (Ev.yes (by omega) (Ev.no (by omega) (Ev.no (by omega) ?_)))))
  rw [hb, show wrap64 ((wrap64 (10 * 0)) + ((48 + n - 48) % 256)) = n by rw [w64 (x := 10 * 0) (by omega) (by omega), w64 (by omega) (by omega)]; omega, show wrap64 (0 + 1) = 1 from w64 (by omega) (by omega)]
  exact Ev.step (fun k => rfl) (Ev.no (by omega) (Ev.now _))
/-! ParsePins: texts are read back; and that the program's and the reference's are one. -/
theorem textB_bytes {r : List Int} (h : ∀ x ∈ r, 0 ≤ x ∧ x < 10) : (textB r).data.toList = r.map (fun x => UInt8.ofNat (48 + x.toNat)) := by
  unfold textB strOfNums
  rw [List.toList_toArray, List.map_map]
  refine List.map_congr_left (fun x hx => ?_)
  have hx2 := h x hx
  have e : wrap64 (48 + x) % 256 = 48 + x := by rw [w64 (by omega) (by omega)]; omega
  show UInt8.ofNat (wrap64 (48 + x) % 256).toNat = _
  rw [e]
  congr 1
  omega
theorem digB (n : Nat) (h : n < 10) : (UInt8.ofNat (48 + n)).toNat = 48 + n := by
  rw [UInt8.toNat_ofNat']
  omega
theorem textB_ne {r : List Int} (h : ∀ x ∈ r, 0 ≤ x ∧ x < 10) {c : UInt8} (hc : c.toNat < 48) : ∀ b ∈ (textB r).data.toList, b ≠ c := by
  rw [textB_bytes h]
  intro b hb e
  obtain ⟨x, hx, rfl⟩ := List.mem_map.mp hb
  have hx2 := h x hx
  have := digB x.toNat (by omega)
  rw [e] at this
  omega
theorem textB_ne2 {r : List Int} (h : ∀ x ∈ r, 0 ≤ x ∧ x < 10) {c : UInt8} (hc : 57 < c.toNat) : ∀ b ∈ (textB r).data.toList, b ≠ c := by
  rw [textB_bytes h]
  intro b hb e
  obtain ⟨x, hx, rfl⟩ := List.mem_map.mp hb
  have hx2 := h x hx
  have := digB x.toNat (by omega)
  rw [e] at this
  omega
theorem dvB_textB {r : List Int} (h : ∀ x ∈ r, 0 ≤ x ∧ x < 10) : dvB (textB r) = r := by
  unfold dvB dvL
  rw [textB_bytes h, List.map_map]
  conv => rhs; rw [← List.map_id r]
  refine List.map_congr_left (fun x hx => ?_)
  have hx2 := h x hx
  show (((UInt8.ofNat (48 + x.toNat)).toNat : Int) - 48) % 256 = x
  rw [digB x.toNat (by omega)]
  omega
theorem mem_join {sep : List UInt8} {b : UInt8} : ∀ (xs : List (List UInt8)), b ∈ Lib.join xs sep → b ∈ sep ∨ ∃ x ∈ xs, b ∈ x
  | [], h => by rw [Lib.join_nil] at h; cases h
  | x :: r, h => by
    rw [Lib.join_cons] at h
    rcases List.mem_append.mp h with h | h
    · exact .inr ⟨x, List.mem_cons_self, h⟩
    · unfold Lib.joinTail at h
      obtain ⟨l, hl, hb⟩ := List.mem_flatten.mp h
      obtain ⟨y, hy, rfl⟩ := List.mem_map.mp hl
      rcases List.mem_append.mp hb with hb | hb
      · exact .inl hb
      · exact .inr ⟨y, List.mem_cons_of_mem _ hy, hb⟩
def rowsU (L : List (List Int)) : List (List UInt8) := L.map fun r => (textB r).data.toList
theorem pinsT_bytes {n : Int} (h1 : 1 ≤ n) (h9 : n ≤ 9) (L : List (List Int)) : (pinsT n L).data.toList = (textB [n]).data.toList ++ 61 :: Lib.join (rowsU L) [44] := by
  unfold pinsT joinB rowsU
  rw [decB_one (by omega) (by omega), List.map_map]
  simp only [ByteArray.data_append, Array.toList_append, List.append_assoc]
  rfl
theorem one_dig {n : Int} (h1 : 1 ≤ n) (h9 : n ≤ 9) : ∀ x ∈ [n], 0 ≤ x ∧ x < 10 := fun x hx => by rw [List.mem_singleton.mp hx]; omega
theorem rowsU_split {L : List (List Int)} (hL : 1 ≤ L.length) (h : ∀ r ∈ L, TxtRow r) : splL 44 (Lib.join (rowsU L) [44]) = rowsU L := by
  cases L with
  | nil => simp at hL
  | cons r t =>
    unfold rowsU
    rw [List.map_cons]
    refine splL_join _ _ (textB_ne (h r List.mem_cons_self).2 (by decide)) (fun y hy => ?_)
    obtain ⟨q, hq, rfl⟩ := List.mem_map.mp hy
    exact textB_ne (h q (List.mem_cons_of_mem _ hq)).2 (by decide)
theorem rowsU_ne {L : List (List Int)} (h : ∀ r ∈ L, TxtRow r) : ∀ b ∈ Lib.join (rowsU L) [44], b ≠ 61 := by
  intro b hb
  rcases mem_join _ hb with h2 | ⟨x, hx, h2⟩
  · rw [List.mem_singleton.mp h2]; decide
  · unfold rowsU at hx
    obtain ⟨q, hq, rfl⟩ := List.mem_map.mp hx
    exact textB_ne2 (h q hq).2 (by decide) b h2
theorem rowsU_dv {L : List (List Int)} (h : ∀ r ∈ L, TxtRow r) : (rowsU L).map dvL = L := by
  unfold rowsU
  rw [List.map_map]
  conv => rhs; rw [← List.map_id L]
  exact List.map_congr_left (fun r hr => dvB_textB (h r hr).2)
theorem dvB_bytesOf (l : List UInt8) : dvB (bytesOf l) = dvL l := by unfold dvB; rw [bytesOf_data]
theorem map_dv (xs : List (List UInt8)) : (xs.map bytesOf).map dvB = xs.map dvL := by
  rw [List.map_map]
  exact List.map_congr_left (fun l _ => dvB_bytesOf l)
def Own (n : Int) (L : List (List Int)) (s : ByteArray) : Prop := ∀ n' L', pinsB n' L' = true → pinsT n' L' = s → n = n' ∧ L = L'
theorem ppV_own {n1 n2 : Int} {L1 L2 : List (List Int)} {s : ByteArray} (h1 : Own n1 L1 s) (h2 : Own n2 L2 s) : ppV n1 L1 s = ppV n2 L2 s := by
  unfold ppV
  by_cases c1 : pinsB n1 L1 = true ∧ pinsT n1 L1 = s
  · obtain ⟨e1, e2⟩ := h2 n1 L1 c1.1 c1.2
    rw [e1, e2]
  · by_cases c2 : pinsB n2 L2 = true ∧ pinsT n2 L2 = s
    · obtain ⟨e1, e2⟩ := h1 n2 L2 c2.1 c2.2
      rw [e1, e2]
    · rw [if_neg c1, if_neg c2]
theorem pinsT_small {n : Int} {L : List (List Int)} (h : pinsB n L = true) : (pinsT n L).size ≤ 100 := by
  obtain ⟨a1, a2, a3⟩ := pinsB_parts h
  have hj := txt_joined L (pinsB_txt h) ⟨#[44]⟩ rfl
  have hd : (decB n).size = 1 := by rw [decB_one (by omega) (by omega), strOfNums_size]; rfl
  have h1 : ((⟨#[61]⟩ : ByteArray)).size = 1 := rfl
  unfold pinsT
  rw [ByteArray.size_append, ByteArray.size_append]
  omega
theorem ppV_none (s : ByteArray) : ppV 0 [] s = (0, [], false) := by
  unfold ppV
  exact if_neg (fun h => absurd h.1 (by decide))
theorem Own.of_big {s : ByteArray} (h : (s.size : Int) > 100) : Own 0 [] s := fun n' L' h1 h2 => by
  have := pinsT_small h1
  rw [h2] at this
  omega
theorem cut_len (l sep : List UInt8) : (Lib.cut l sep).1.length ≤ l.length ∧ (Lib.cut l sep).2.1.length ≤ l.length := by
  unfold Lib.cut
  split
  · simp only [List.length_take, List.length_drop]; omega
  · simp
theorem atoi_dig (n : Nat) (h : n < 10) : Lib.atoiAll [UInt8.ofNat (48 + n)] = .ok (n : Int) := by
  have hb := digB n h
  generalize UInt8.ofNat (48 + n) = b at hb
  have hm : Lib.parseMag [b] = .ok n := by
    unfold Lib.parseMag
    rw [if_neg (by simp)]
    unfold Lib.parseUint10
    rw [if_pos (by omega), if_neg (by omega), if_neg (by omega)]
    unfold Lib.parseUint10
    congr 1
    omega
  unfold Lib.atoiAll
  simp only
  rw [if_neg (by omega), hm]
  simp only
  rw [if_neg (by omega), if_neg (by omega), if_neg (by omega)]
theorem atoiV_of {s : ByteArray} {v : Int} (h : Lib.atoiAll s.data.toList = .ok v) : atoiV s = v := by
  unfold atoiV
  split
  · rename_i u e
    rw [h] at e
    exact (Lib.NumEnd.ok.inj e).symm
  · rename_i e
    rw [h] at e
    cases e
  · rename_i e1 e2
    exact absurd h (e1 _)
theorem textB_one (n : Nat) (h : n < 10) : (textB [(n : Int)]).data.toList = [UInt8.ofNat (48 + n)] := by
  rw [textB_bytes (fun x hx => by rw [List.mem_singleton.mp hx]; omega), List.map_cons, List.map_nil, Int.toNat_natCast]
theorem atoiV_dig {n : Int} (h1 : 1 ≤ n) (h9 : n ≤ 9) : atoiV (textB [n]) = n := by
  obtain ⟨n, rfl⟩ := Int.eq_ofNat_of_zero_le (show 0 ≤ n by omega)
  have h := atoi_dig n (by omega)
  rw [← textB_one n (by omega)] at h
  exact atoiV_of h
theorem splitL_map (s : ByteArray) : (splitL s ⟨#[44]⟩).map (·.data.toList) = splL 44 s.data.toList := splitB_spl (sep := ⟨#[44]⟩) rfl _ s rfl
theorem splitL_dv (s : ByteArray) : (splitL s ⟨#[44]⟩).map dvB = (splL 44 s.data.toList).map dvL := by
  rw [← splitL_map, List.map_map]; rfl
theorem impl_ParsePins.ev (s : ByteArray) (hs : s.size ≤ 1048576) : ∃ n L, Ev (fun k => impl_ParsePins.f k s) (ppV n L s) ∧ Own n L s := by
  unfold impl_ParsePins.f
  by_cases hb : (s.size : Int) > 100
  · exact ⟨0, [], Ev.yes hb (Ev.id (ppV_none s).symm), Own.of_big hb⟩
  · have hz := Lib.size_eq s
    obtain ⟨q1, q2⟩ := cut_len s.data.toList [61]
    have e0 : strings_Cut.f s ⟨#[61]⟩ = some (bytesOf (Lib.cut s.data.toList [61]).1, bytesOf (Lib.cut s.data.toList [61]).2.1, (Lib.cut s.data.toList [61]).2.2) := if_pos (by omega)
    have e1 : strconv_Atoi.f (bytesOf (Lib.cut s.data.toList [61]).1) = some (atoiV (bytesOf (Lib.cut s.data.toList [61]).1), true) := if_pos (by rw [bytesOf_size]; omega)
    have e2 : strings_Split.f (bytesOf (Lib.cut s.data.toList [61]).2.1) ⟨#[44]⟩ = some (splitL (bytesOf (Lib.cut s.data.toList [61]).2.1) ⟨#[44]⟩) := if_pos ⟨by rw [bytesOf_size]; omega, by decide⟩
    have hsp := splitL_map (bytesOf (Lib.cut s.data.toList [61]).2.1)
    rw [bytesOf_data] at hsp
    obtain ⟨_, s2, s3⟩ := splL_len 44 (Lib.cut s.data.toList [61]).2.1
    have hl : (splitL (bytesOf (Lib.cut s.data.toList [61]).2.1) ⟨#[44]⟩).length ≤ 1048577 := by
      rw [← List.length_map (f := fun b : ByteArray => b.data.toList), hsp]; omega
    have hx : ∀ x ∈ splitL (bytesOf (Lib.cut s.data.toList [61]).2.1) ⟨#[44]⟩, x.size ≤ 1048576 := fun x hx => by
      have := s3 x.data.toList (by rw [← hsp]; exact List.mem_map_of_mem (f := fun b : ByteArray => b.data.toList) hx)
      rw [Lib.size_eq]; omega
    have hgo := impl_ParsePins.lev s (atoiV (bytesOf (Lib.cut s.data.toList [61]).1)) _ hx hl (splitL (bytesOf (Lib.cut s.data.toList [61]).2.1) ⟨#[44]⟩).length 0 (by omega)
    rw [List.take_zero, List.map_nil] at hgo
    refine ⟨_, _, Ev.no hb (Ev.bindc e0 (Ev.bindc e1 (Ev.bindc e2 hgo))), fun n' L' h1 h2 => ?_⟩
    obtain ⟨a1, a2, a3⟩ := pinsB_parts h1
    have ht := pinsB_txt h1
    have hb2 := pinsT_bytes a1.1 a1.2 L'
    rw [h2] at hb2
    rw [splitL_dv, bytesOf_data, hb2, cut_one (textB_ne2 (one_dig a1.1 a1.2) (by decide)), rowsU_split a2.1 ht, rowsU_dv ht, ← bytes_eq (a := textB [n']) rfl]
    exact ⟨atoiV_dig a1.1 a1.2, rfl⟩
theorem kp_pp (n : Int) (L : List (List Int)) (s : ByteArray) : (if (kpV n L s).2.2 = true then ((kpV n L s).1, (kpV n L s).2.1, true) else (0, [], false)) = ppV n L s := by
  unfold kpV ppV
  by_cases c : pinsB n L = true
  · by_cases c2 : pinsT n L = s
    · have h3 : ((pinsT n L).toList == s.toList) = true := beq_iff_eq.mpr (bl_eq.mpr c2)
      simp [c, c2, h3]
    · have h3 : ((pinsT n L).toList == s.toList) = false := beq_eq_false_iff_ne.mpr (fun h => c2 (bl_eq.mp h))
      simp [c, c2, h3]
  · simp [c]
theorem spec_ParsePins.ev (s : ByteArray) (hs : s.size ≤ 1048576) : ∃ n L, Ev (fun k => spec_ParsePins.f k s) (ppV n L s) ∧ Own n L s := by
  unfold spec_ParsePins.f spec_keParse.f
  have hz := Lib.size_eq s
  obtain ⟨p1, p2, p3⟩ := splL_len 61 s.data.toList
  have hsp := spec_l1Split.ev 61 s hs
  have fin : ∀ (o : Int × List (List Int) × Bool) (n : Int) (L : List (List Int)), (if o.2.2 = true then (o.1, o.2.1, true) else (0, [], false)) = ppV n L s → Ev (fun _ => if o.2.2 = true then some (o.1, o.2.1, true) else some (0, [], false)) (ppV n L s) := fun o n L h => by
    rw [← h]
    by_cases c : o.2.2 = true
    · exact Ev.yes c (Ev.id (if_pos c).symm)
    · exact Ev.no c (Ev.id (if_neg c).symm)
  have bad : Ev (fun k => spec_keParse.j0 k s ((splL 61 s.data.toList).map bytesOf) true) ((0, [], false) : Int × List (List Int) × Bool) := by
    refine Ev.step (fun k => rfl) ?_
    simp only [spec_keParse.j0]
    first | exact Ev.yes rfl (Ev.now _) | exact Ev.yes trivial (Ev.now _) | exact Ev.now _
  by_cases hb : (s.size : Int) > 100
  · exact ⟨0, [], Ev.bind (Ev.bind hsp (Ev.yes hb bad)) (fin _ _ _ (ppV_none s).symm), Own.of_big hb⟩
  · by_cases h2 : (splL 61 s.data.toList).length = 2
    · obtain ⟨P0, P1, hP⟩ : ∃ P0 P1, splL 61 s.data.toList = [P0, P1] := by
        match hc : splL 61 s.data.toList, h2 with
        | [a, b], _ => exact ⟨a, b, rfl⟩
      rw [hP] at p3
      have b0 := p3 P0 (by simp)
      have b1 := p3 P1 (by simp)
      obtain ⟨v, hv⟩ := spec_l1Read.ex (bytesOf P0) (by rw [bytesOf_size]; omega)
      have hs1 := spec_l1Split.ev 44 (bytesOf P1) (by rw [bytesOf_size]; omega)
      rw [bytesOf_data] at hs1
      obtain ⟨_, s2, s3⟩ := splL_len 44 P1
      have hx : ∀ x ∈ (splL 44 P1).map bytesOf, x.size ≤ 1048576 := fun x hx => by
        obtain ⟨y, hy, rfl⟩ := List.mem_map.mp hx
        have := s3 y hy
        rw [bytesOf_size]; omega
      have hgo := spec_keParse.lev s v _ hx (by rw [List.length_map]; omega) ((splL 44 P1).map bytesOf).length 0 (by omega)
      rw [List.take_zero, List.map_nil, map_dv] at hgo
      refine ⟨v, (splL 44 P1).map dvL, Ev.bind (Ev.bind hsp (Ev.no hb ?_)) (fin (kpV v ((splL 44 P1).map dvL) s) _ _ ?_), fun n' L' h1 h3 => ?_⟩
      · refine Ev.step (fun k => rfl) ?_
        rw [hP]
        simp only [spec_keParse.j0]
        exact Ev.no (by simp) (Ev.yes (by simp) (Ev.bind hv (Ev.yes (by simp) (Ev.bind hs1 hgo))))
      · exact kp_pp _ _ _
      · obtain ⟨a1, a2, a3⟩ := pinsB_parts h1
        have ht := pinsB_txt h1
        have hb2 := pinsT_bytes a1.1 a1.2 L'
        rw [h3] at hb2
        rw [hb2, splL_app (textB_ne2 (one_dig a1.1 a1.2) (by decide)), splL_no (rowsU_ne ht)] at hP
        have g0 := (List.cons.inj hP).1
        have g1 := (List.cons.inj (List.cons.inj hP).2).1
        subst g0
        subst g1
        rw [← bytes_eq (a := textB [n']) rfl] at hv
        rw [rowsU_split a2.1 ht, rowsU_dv ht]
        exact ⟨Ev.un hv (spec_l1Read.one a1.1 a1.2), rfl⟩
    · refine ⟨0, [], Ev.bind (Ev.bind hsp (Ev.no hb (Ev.eq ?_ rfl))) (fin (0, [], false) _ _ (ppV_none s).symm), fun n' L' h1 h3 => ?_⟩
      · have e : ((((splL 61 s.data.toList).map bytesOf).length : Int) != 2) = true := by
          rw [List.length_map, bne_iff_ne]; omega
        rw [e]; exact bad
      · obtain ⟨a1, a2, a3⟩ := pinsB_parts h1
        have ht := pinsB_txt h1
        have hb2 := pinsT_bytes a1.1 a1.2 L'
        rw [h3] at hb2
        rw [hb2, splL_app (textB_ne2 (one_dig a1.1 a1.2) (by decide)), splL_no (rowsU_ne ht)] at h2
        exact absurd rfl h2
theorem ppV_small (n : Int) (L : List (List Int)) (s : ByteArray) : (ppV n L s).2.1.length ≤ 7 ∧ totL (ppV n L s).2.1 ≤ 63 ∧ RowsV (ppV n L s).2.1 := by
  unfold ppV
  by_cases h : pinsB n L = true ∧ pinsT n L = s
  · rw [if_pos h]
    obtain ⟨a1, a2, a3⟩ := pinsB_parts h.1
    have ht := pinsB_txt h.1
    have hl : L.length ≤ 7 := by omega
    refine ⟨hl, Nat.le_trans (totL_le 9 L (fun r hr => (ht r hr).1)) (Nat.mul_le_mul_right 9 hl), ⟨by show L.length ≤ 9223372036854775807; omega, fun r hr => by have := (ht r hr).1; omega⟩⟩
  · rw [if_neg h]
    exact ⟨by decide, by decide, ⟨by decide, fun r hr => by cases hr⟩⟩
set_option maxHeartbeats 4000000 in
set_option maxRecDepth 100000 in
theorem laws_FnExactParsePins.walk0 (a0 : ByteArray) (w : World) (hz : (a0.size : Int) > 1048576) :
    Calls Tryd.prog 5 #[.string a0] w fun e w' => e = .returned (.bool true) ∧ Below w.heap.size w w' := by
  have hd0 : decide ((a0.size : Int) > 1048576) = true := decide_eq_true hz
  have hd1 : 1048576 < (a0.size : Int) := hz
  clear hz
  go_enter Tryd.func5, Tryd.ntmps5
  go_wp2
  go_ret
  exact ⟨rfl, Below.refl _ _⟩
theorem laws_FnExactParsePins.calls (a0 : ByteArray) (r : Bool) (w : World) (htp : EnvP w) (h : laws_FnExactParsePins.f a0 = some r) :
    Calls Tryd.prog 5 #[.string a0] w fun e w' => e = .returned (.bool r) ∧ Below w.heap.size w w' := by
  obtain rfl := Option.some.inj h
  by_cases hz : (a0.size : Int) > 1048576
  · exact laws_FnExactParsePins.walk0 a0 w hz
  · obtain ⟨n1, L1, hi, o1⟩ := impl_ParsePins.ev a0 (by omega)
    obtain ⟨n2, L2, hs, o2⟩ := spec_ParsePins.ev a0 (by omega)
    rw [ppV_own o2 o1] at hs
    obtain ⟨q1, q2, q3⟩ := ppV_small n1 L1 a0
    generalize ppV n1 L1 a0 = V at hs hi q1 q2 q3
    obtain ⟨rn, R, ok⟩ := V
    have q1 : R.length ≤ 7 := q1
    have q2 : totL R ≤ 63 := q2
    have q3 : RowsV R := q3
    obtain ⟨k3, e3⟩ := hs
    obtain ⟨k4, e4⟩ := hi
    obtain ⟨k5, e5⟩ := laws_eqPins.ev rn R q3
    obtain ⟨R', ⟨k8, e8⟩, k9, e9⟩ := laws_markPins.evH rn R (by omega) (by omega)
    have hk : ∃ k, k3 ≤ k ∧ k4 ≤ k ∧ k5 ≤ k ∧ k8 ≤ k ∧ k9 ≤ k := ⟨k3 + k4 + k5 + k8 + k9, by omega⟩
    obtain ⟨k, i3, i4, i5, i8, i9⟩ := hk
    exact laws_FnExactParsePins.walk k a0 rn R R' ok _ w htp (by omega) (e3 k i3) (e4 k i4) (e5 k i5) (e8 k i8) (by omega) (e9 k i9)
theorem pure_FnExactParsePins (s : ByteArray) (_ : StrV s) : laws_FnExactParsePins.f s = some true := rfl
/-! A row that lists variables and keeps the world's shape; what a listed variable of an interface type holds. -/
section
variable {H : Type} {enc : TypeId × Value → H}
theorem handed_and_shaped {a : Assume} {C : Checked} {os : Os} {f : FuncId} {fn : Func} {s : ChangeSpec} {conds : List PathCond} {apart fresh handsOn again : Bool} {X : World → Array Value → Prop}
    (hX : ∀ (w w' : World) (args : Array Value), w.heap = w'.heap → X w args → X w' args)
    (own : ownKnob C.prog.godebug = none) (started : os.Started) (noInit : C.prog.inits.idxOf? f = none) (hfn : C.prog.funcs[f]? = some fn)
    (witness : ∃ (w : World) (tape : Tape) (i : Input), w.os = os ∧ (w.forCall tape i).Shaped C.prog ∧ i.vars = [] ∧ Input.okWide C.prog (w.forCall tape i) .any w.heap.size f i ∧
      ((s.pre enc C.prog fn conds apart (w.forCall tape i).memory i.args ∧ X (w.forCall tape i).memory i.args) ∧ sizedMet enc C.prog fn (OpenSpec.ofChange s) apart (w.forCall tape i).memory i.args) ∧ a.holds C.prog (lone (Frame.enter C.prog f i.args .normal) [] (w.forCall tape i)))
    (contract : ∀ (W : World) (base : Nat) (args : Array Value) (ds gs : List (DataW H)) (before : List MemPlace),
      (∀ (j : Nat) t v, fn.params[j]? = some t → args[j]? = some v → Value.okWide C.prog W .any base t v) →
      DataW.Whole enc C.prog fn.params.toList s.vars apart W args.toList ds gs before →
      conds.all (PathCond.test C.prog ⟨fn.params.toList, ds, s.plain.varTypes C.prog, gs⟩) = true →
      (DataW.weightsEach C.prog (fn.params.toList ++ s.plain.varTypes C.prog) (ds ++ gs)).all (· ≤ reachBytes) = true → X W args → W.ShapedOpen C.prog →
      a.holds C.prog (lone (Frame.enter C.prog f args .normal) [] W) →
      Calls C.prog f args W fun e W' => ∃ v, e = .returned v ∧ s.post enc C.prog fn apart fresh handsOn again W args v W') :
    ReturnsInHanded a C os f .any (fun w args => (s.pre enc C.prog fn conds apart w args ∧ X w args) ∧ sizedMet enc C.prog fn (OpenSpec.ofChange s) apart w args) (s.post enc C.prog fn apart fresh handsOn again) := by
  refine returnsInHanded_of_calls own started noInit witness ?_
  intro w tape i _ hsh _ hok hpre hholds
  obtain ⟨_, _, _, fn', hfn', _, _, _, _, hval⟩ := hok
  have e : fn' = fn := Option.some.inj (hfn'.symm.trans hfn)
  subst e
  obtain ⟨⟨⟨ds, gs, before, hw, hc⟩, hx⟩, hz⟩ := hpre
  have hw' := DataW.Whole.of_heap (w' := w.forCall tape i) (by rfl) hw
  refine (contract (w.forCall tape i) w.heap.size i.args ds gs before hval hw' hc (hz.weights hw) (hX _ _ _ (by rfl) hx) hsh hholds).mono fun e W' ⟨v, he, hp⟩ => ?_
  subst he
  exact ChangeSpec.post_blind hp
end
theorem laid_iface {P : Program} {n nm : String} {d : DataW Unit} {r : List (String × DataW Unit)} {W : World} {g : Nat} {ti : TypeId} {ms : Array (String × TypeId)}
    (h : laidMet P ((n, .iface nm d) :: r) W) (hg : P.globalNamed n = some g) (ht : (P.globals[g]?).map (·.type) = some ti) (hi : P.underlying ti = some (.interface ms)) : ∃ te pe, W.cell? ⟨g, 0, none⟩ = some (.iface te pe) := by
  obtain ⟨ps, ⟨g0, t0, cs0, f0, p0, q0, hg0, ht0, hv0, hd0, _, e0⟩, _, hrows⟩ := h
  obtain rfl := Option.some.inj (hg.symm.trans hg0)
  obtain rfl := Option.some.inj (ht.symm.trans ht0)
  obtain ⟨l0⟩ := cs0
  obtain ⟨_, u, v, rfl, _⟩ := iface_of_trod hi hd0
  exact ⟨u, v, by simpa using World.var?_cell hg0 hv0 0⟩
end Go.Proofs.YthhobofmfjdgbaaDoor.P