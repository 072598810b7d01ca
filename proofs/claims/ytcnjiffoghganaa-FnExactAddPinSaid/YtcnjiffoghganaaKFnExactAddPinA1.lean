import Derived.Test.YtcnjiffoghganaaKFnExactAddPinA0
import Derived.Lib.SliceRun
import Derived.Deep.RegionLaw
import Derived.Deep.RegionHeld3
namespace Go.Proofs.Ytcnjiffoghganaa.P
open Go.RowKit Go.Proofs.YtcnjiffoghganaaW.PrintWords Go.Proofs.YtcnjiffoghganaaW.PrintLast Go.Proofs.YtcnjiffoghganaaW.PrintMore
attribute [local go_sem] max2_int min2_int max_two min_two max_three min_three max_four min_four
set_option linter.unusedVariables false
set_option linter.unusedSimpArgs false
/-! ### slices_insertionSortOrdered_int: function 163 -/
mutual
def slices_insertionSortOrdered_int.l0 : Nat → List Int → Int → Int → Int → Option (List Int)
  | 0, _, _, _, _ => none
  | k + 1, x0, x1, x2, x6 => if x6 < x2 then (slices_insertionSortOrdered_int.l1 k x0 x1 x2 x6 x6) else (some x0)
def slices_insertionSortOrdered_int.l1 : Nat → List Int → Int → Int → Int → Int → Option (List Int)
  | 0, _, _, _, _, _ => none
  | k + 1, x0, x1, x2, x6, x7 => if x7 > x1 then (if 0 ≤ x7 then (if x7 < (x0.length : Int) then (if 0 ≤ (wrap64 (x7 - 1)) then (if (wrap64 (x7 - 1)) < (x0.length : Int) then ((cmp_Less_int.f (rd x0 x7) (rd x0 (wrap64 (x7 - 1)))).bind fun t924 => (if t924 = true then (slices_insertionSortOrdered_int.l1 k ((x0.set (x7 : Int).toNat (rd x0 (wrap64 (x7 - 1)))).set ((wrap64 (x7 - 1)) : Int).toNat (rd x0 x7)) x1 x2 x6 (wrap64 (x7 - 1))) else (slices_insertionSortOrdered_int.l0 k x0 x1 x2 (wrap64 (x6 + 1))))) else (none)) else (none)) else (none)) else (none)) else (slices_insertionSortOrdered_int.l0 k x0 x1 x2 (wrap64 (x6 + 1)))
end
def slices_insertionSortOrdered_int.f (k : Nat) (l0 : List Int) (a1 : Int) (a2 : Int) : Option (List Int) := slices_insertionSortOrdered_int.l0 k l0 a1 a2 (wrap64 (a1 + 1))
def slices_insertionSortOrdered_int.T4 : Bool × List (List Nat × List Nat) := (true, [([], []), ([], []), ([0, 1], [0, 1]), ([2], [2]), ([3], [3]), ([3], [3]), ([4, 5, 3], [3, 4, 5]), ([6, 3], [3, 6]), ([3], [3]), ([3], [3]), ([9, 3], [3, 9]), ([8, 10, 3], [3, 8, 10]), ([11, 3], [3, 11]), ([7, 12, 3, 3], [3, 7, 12]), ([3, 13], [3, 13])])
def slices_insertionSortOrdered_int.B4 : List Nat := [0, 0, 3, 7, 15, 15, 63, 127, 15, 15, 527, 1807, 3855, 8191, 16383]
theorem slices_insertionSortOrdered_int.tab4 : rtab .any (opsOf Try.f163 4) = slices_insertionSortOrdered_int.T4 := by kernel_rfl
theorem slices_insertionSortOrdered_int.bits4 : waitsOk slices_insertionSortOrdered_int.T4.2 slices_insertionSortOrdered_int.B4 = true := by kernel_rfl
def slices_insertionSortOrdered_int.T6 : Bool × List (List Nat × List Nat) := (true, [([], []), ([], []), ([], []), ([], []), ([3], [3]), ([], []), ([], []), ([6], [6]), ([5, 7], [5, 7]), ([8], [8]), ([], []), ([], []), ([10, 11], [10, 11]), ([12], [12]), ([0, 1, 0, 1, 5, 6, 7, 8, 9, 13], [0, 1]), ([14, 9, 0, 1, 5, 6, 7, 8, 9, 13], [9, 14]), ([2, 4, 0, 1, 2, 3, 4, 5, 6, 7, 8, 9, 10, 11, 12, 13, 14, 15], [2, 4]), ([16, 13, 15, 0, 1, 2, 3, 4, 5, 6, 7, 8, 9, 10, 11, 12, 13, 14, 15], [13, 16])])
def slices_insertionSortOrdered_int.B6 : List Nat := [0, 0, 0, 0, 8, 0, 0, 64, 224, 480, 0, 0, 3072, 7168, 16355, 32739, 65535, 131071]
theorem slices_insertionSortOrdered_int.tab6 : rtab .any (opsOf Try.f163 6) = slices_insertionSortOrdered_int.T6 := by kernel_rfl
theorem slices_insertionSortOrdered_int.bits6 : waitsOk slices_insertionSortOrdered_int.T6.2 slices_insertionSortOrdered_int.B6 = true := by kernel_rfl
set_option maxHeartbeats 8000000 in
set_option maxRecDepth 100000 in
theorem slices_insertionSortOrdered_int.calls (k : Nat) (P0_ : Nat → Prop) (u9000_ : Value) (l0 : List Int) (a1 : Int) (a2 : Int) (r : List Int) (w0 w : World) (hB : Below w0.heap.size w0 w) (ho0 : Kd.R (Kd.int .i64) 3 w w0.heap.size P0_ u9000_ l0) (h : slices_insertionSortOrdered_int.f k l0 a1 a2 = some r) :
    Calls Try.prog 163 #[u9000_, .int .i64 a1, .int .i64 a2] w fun e w' => e = .returned (.tuple #[]) ∧ Kd.R (Kd.int .i64) 3 w' w0.heap.size (fun k_ => (P0_ k_ ∨ w.heap.size ≤ k_)) u9000_ r ∧ Below w0.heap.size w0 w' ∧ Kept w w' (fun k_ => P0_ k_) := by
  have HO0 := amk (show Kd.R (Kd.int .i64) 3 w w0.heap.size (fun k_ => (P0_ k_ ∨ w.heap.size ≤ k_)) u9000_ l0 from Kd.R_mono ho0 (fun k_ hk => (.inl hk)))
  have HK := amk (Kept.refl w (fun k_ => P0_ k_))
  have HW0 := amk hB.size
  have HB := amk hB
  clear hB
  have H : (slices_insertionSortOrdered_int.l0 k l0 a1 a2 (wrap64 (a1 + 1))) = some r := h
  clear h
  have H' := amk H
  clear H
  go_enter Try.func163, Try.ntmps163
  go_wp2
  go_loopg [6] k (fun kq v6 w' => ∃ (x0_1 : List Int) (x6_1 : Int), v6 = .int .i64 x6_1 ∧ Aside0 (slices_insertionSortOrdered_int.l0 kq x0_1 a1 a2 x6_1 = some r) ∧ Aside0 (kq ≤ k) ∧ Aside0 (Kd.R (Kd.int .i64) 3 w' w0.heap.size (fun k_ => (P0_ k_ ∨ w.heap.size ≤ k_)) u9000_ x0_1) ∧ Aside0 (Kept w w' (fun k_ => P0_ k_)) ∧ Aside0 (Below w0.heap.size w0 w'))
  case atStart => exact ⟨(l0), (wrap64 (a1 + 1)), (by first | rfl | (simp; done) | (simp [*]; done)), H', ⟨Nat.le_refl _⟩, ⟨by (with_reducible repeat (first | apply Kd.R_alloc | apply Kd.R_drewN | apply Kd.R_drew)); exact HO0.out⟩, ⟨by repeat (first | (with_reducible first | exact HK.out | apply Kept.alloc | apply Kept.drewN | apply Kept.drew) | exact HK.out)⟩, ⟨by repeat (first | (with_reducible first | exact HB.out | apply ba_ | apply bn_ | apply bd_) | exact HB.out)⟩⟩
  case round =>
    clear H'
    try clear c1; try clear p2
    obtain ⟨x0_1, x6_1, rfl, HA, HK1, HO_0, HK, HB⟩ := hrel
    cases gk with
    | zero => exact absurd HA.out (by simp [slices_insertionSortOrdered_int.l0])
    | succ k1 =>
      have H := HA.out
      clear HA
      simp only [slices_insertionSortOrdered_int.l0] at H
      by_cases c4 : x6_1 < a2
      · rw [if_pos c4] at H
        have c4b0 : decide (x6_1 < a2) = true := decide_eq_true c4
        clear c4
        have H' := amk H
        clear H
        go_wp2
        go_loopg [7] k1 (fun kq v7 w' => ∃ (x0_2 : List Int) (x7_2 : Int), v7 = .int .i64 x7_2 ∧ Aside0 (slices_insertionSortOrdered_int.l1 kq x0_2 a1 a2 x6_1 x7_2 = some r) ∧ Aside0 (kq ≤ k1) ∧ Aside0 (Kd.R (Kd.int .i64) 3 w' w0.heap.size (fun k_ => (P0_ k_ ∨ w.heap.size ≤ k_)) u9000_ x0_2) ∧ Aside0 (Kept w w' (fun k_ => P0_ k_)) ∧ Aside0 (Below w0.heap.size w0 w'))
        case atStart => exact ⟨(x0_1), (x6_1), (by first | rfl | (simp; done) | (simp [*]; done)), H', ⟨Nat.le_refl _⟩, ⟨by (with_reducible repeat (first | apply Kd.R_alloc | apply Kd.R_drewN | apply Kd.R_drew)); exact HO_0.out⟩, ⟨by repeat (first | (with_reducible first | exact HK.out | apply Kept.alloc | apply Kept.drewN | apply Kept.drew) | exact HK.out)⟩, ⟨by repeat (first | (with_reducible first | exact HB.out | apply ba_ | apply bn_ | apply bd_) | exact HB.out)⟩⟩
        case round =>
          clear H'
          try clear c1; try clear p2; try clear c4; try clear c4b0; try clear p2
          obtain ⟨x0_2, x7_2, rfl, HA, HK2, HO_0, HK, HB⟩ := hrel
          cases gk with
          | zero => exact absurd HA.out (by simp [slices_insertionSortOrdered_int.l1])
          | succ k2 =>
            have H := HA.out
            clear HA
            simp only [slices_insertionSortOrdered_int.l1] at H
            by_cases c5 : x7_2 > a1
            · rw [if_pos c5] at H
              have c5b0 : decide (a1 < x7_2) = true := decide_eq_true c5
              clear c5
              by_cases c6 : 0 ≤ x7_2
              · rw [if_pos c6] at H
                have c6b0 : decide (0 ≤ x7_2) = true := decide_eq_true c6
                clear c6
                by_cases c7 : x7_2 < (x0_2.length : Int)
                · rw [if_pos c7] at H
                  have c7b0 : decide (x7_2 < (x0_2.length : Int)) = true := decide_eq_true c7
                  clear c7
                  obtain ⟨ji8, hji8⟩ : ∃ j_ : Int, (wrap64 (x7_2 - 1)) = j_ := ⟨_, rfl⟩
                  replace H : (if 0 ≤ (ji8) then (if (ji8) < (x0_2.length : Int) then ((cmp_Less_int.f (rd x0_2 x7_2) (rd x0_2 (ji8))).bind fun t924 => (if t924 = true then (slices_insertionSortOrdered_int.l1 k2 ((x0_2.set (x7_2 : Int).toNat (rd x0_2 (ji8))).set ((ji8) : Int).toNat (rd x0_2 x7_2)) a1 a2 x6_1 ji8) else (slices_insertionSortOrdered_int.l0 k2 x0_2 a1 a2 (wrap64 (x6_1 + 1))))) else (none)) else (none)) = some r := by first | (rw [hji8] at H; exact H) | (simp only [hji8] at H ⊢; exact H)
                  have hji8w : (IntKind.i64.wrap (x7_2 - 1)) = ji8 := (i64_w _).trans hji8
                  by_cases c9 : 0 ≤ (ji8)
                  · rw [if_pos c9] at H
                    have c9b0 : decide (0 ≤ (ji8)) = true := decide_eq_true c9
                    clear c9
                    by_cases c10 : (ji8) < (x0_2.length : Int)
                    · rw [if_pos c10] at H
                      have c10b0 : decide ((ji8) < (x0_2.length : Int)) = true := decide_eq_true c10
                      clear c10
                      replace H := Option.bind_eq_some_iff.mp H
                      obtain ⟨t924, A110, H⟩ := H
                      replace H : (if t924 = true then (slices_insertionSortOrdered_int.l1 k2 ((x0_2.set (x7_2 : Int).toNat (rd x0_2 (ji8))).set ((ji8) : Int).toNat (rd x0_2 x7_2)) a1 a2 x6_1 ji8) else (slices_insertionSortOrdered_int.l0 k2 x0_2 a1 a2 (wrap64 (x6_1 + 1)))) = some r := H
                      have A11 := amk A110
                      clear A110
                      by_cases c12 : t924 = true
                      · subst c12
                        have H1 : (slices_insertionSortOrdered_int.l1 k2 ((x0_2.set (x7_2 : Int).toNat (rd x0_2 (ji8))).set ((ji8) : Int).toNat (rd x0_2 x7_2)) a1 a2 x6_1 ji8) = some r := by rw [if_pos rfl] at H; exact H
                        clear H
                        have H := H1
                        clear H1
                        obtain ⟨y927, hy927⟩ : ∃ y_ : List Int, y_ = (x0_2.set (x7_2 : Int).toNat (rd x0_2 (ji8))) := ⟨_, rfl⟩
                        replace H : (slices_insertionSortOrdered_int.l1 k2 (y927.set ((ji8) : Int).toNat (rd x0_2 x7_2)) a1 a2 x6_1 ji8) = some r := by first | (rw [hy927]; with_reducible exact H) | (have H2_ := (Option.bind_some _ _).symm.trans H; rw [hy927]; with_reducible exact H2_) | (have H2_ := (Option.bind_some _ _).symm.trans H; with_reducible exact H2_) | with_reducible exact H | (rw [hy927]; exact H) | exact H
                        have Ny927 := amk hy927
                        clear hy927
                        obtain ⟨y928, hy928⟩ : ∃ y_ : List Int, y_ = (y927.set ((ji8) : Int).toNat (rd x0_2 x7_2)) := ⟨_, rfl⟩
                        replace H : (slices_insertionSortOrdered_int.l1 k2 y928 a1 a2 x6_1 ji8) = some r := by first | (rw [hy928]; with_reducible exact H) | (have H2_ := (Option.bind_some _ _).symm.trans H; rw [hy928]; with_reducible exact H2_) | (have H2_ := (Option.bind_some _ _).symm.trans H; with_reducible exact H2_) | with_reducible exact H | (rw [hy928]; exact H) | exact H
                        have Ny928 := amk hy928
                        clear hy928
                        have H' := amk H
                        clear H
                        try go_wp2
                        have n0_ := amk (Kd.R_drew HO_0.out)
                        have n1_ := amk (Kept.drew HK.out)
                        have n2_ := amk (bd_ HB.out)
                        clear HO_0
                        clear HK
                        clear HB
                        have HO_0 := n0_
                        have HK := n1_
                        have HB := n2_
                        clear n0_ n1_ n2_
                        obtain ⟨Ao16, co16, eo16⟩ := Kd.R_slice HO_0.out
                        (first | subst eo16 | (injection eo16 with f1_ f2_ f3_; have f4_ := f1_.symm; have f5_ := f3_.symm; clear f1_ f2_ f3_; subst f4_; subst f5_))
                        have p922 : 0 ≤ (x7_2 : Int) := of_decide_eq_true (by first | (with_reducible assumption) | assumption)
                        have q922 : x7_2 < (x0_2.length : Int) := of_decide_eq_true (by first | (with_reducible assumption) | assumption)
                        obtain ⟨ad922, e922, hx922_0⟩ := Kd.at_int (Kd.R_reads' HO_0.out).2.2 x7_2 p922 q922
                        cases e922
                        replace p922 := eq_true p922
                        replace q922 := eq_true q922
                        have p923 : 0 ≤ ((ji8) : Int) := of_decide_eq_true (by first | (with_reducible assumption) | assumption)
                        have q923 : (ji8) < (x0_2.length : Int) := of_decide_eq_true (by first | (with_reducible assumption) | assumption)
                        obtain ⟨ad923, e923, hx923_0⟩ := Kd.at_int (Kd.R_reads' HO_0.out).2.2 (ji8) p923 q923
                        obtain rfl : ad922 = ad923 := (by injection e923)
                        replace p923 := eq_true p923
                        replace q923 := eq_true q923
                        refine start_ (n := 15) (S := fun w' => w'.cell? (ad922.add (x7_2).toNat) = some (.int .i64 (rd x0_2 x7_2)) ∧ w'.cell? (ad922.add ((ji8)).toNat) = some (.int .i64 (rd x0_2 (ji8)))) (ds := []) #[false, false, false, false, false, false, false, false, false, false, false, false, false, false, false] (by kernel_rfl) rfl rfl ⟨hx922_0, hx923_0⟩ (fun hHeld => ?_); refine with_tabW slices_insertionSortOrdered_int.tab4 slices_insertionSortOrdered_int.bits4 (fun HT_ HW_ => ?_)
                        generalize wr.drew = w15 at HO_0 HK HB hx922_0 hx923_0 hHeld ⊢
                        refine pure_ (i := 0) (N := some 16) (v := ?_) (a' := ?_) #[true, false, false, false, false, false, false, false, false, false, false, false, false, false, false] rfl rfl (any_of HT_.out (by kernel_rfl)) (fun _ _ _ h => h) (Or.inl ⟨by rfl, ?_⟩) ?_ ?_
                        rotate_left
                        · intro w'
                          go_simp
                          with_reducible rfl
                        rotate_left
                        · simp only [Act.put, List.setIfInBounds_toArray, List.set_cons_zero, List.set_cons_succ, i64_w, i32_w]
                          rfl
                        refine pure_ (i := 1) (N := some 17) (v := ?_) (a' := ?_) #[true, true, false, false, false, false, false, false, false, false, false, false, false, false, false] rfl rfl (any_of HT_.out (by kernel_rfl)) (fun _ _ _ h => h) (Or.inl ⟨by rfl, ?_⟩) ?_ ?_
                        rotate_left
                        · intro w'
                          go_simp
                          with_reducible rfl
                        rotate_left
                        · simp only [Act.put, List.setIfInBounds_toArray, List.set_cons_zero, List.set_cons_succ, i64_w, i32_w]
                          rfl
                        refine pure_ (i := 2) (N := some 18) (v := ?_) (a' := ?_) #[true, true, true, false, false, false, false, false, false, false, false, false, false, false, false] rfl rfl (any_of HT_.out (by kernel_rfl)) (fun _ _ _ h => h) (Or.inl ⟨by rfl, ?_⟩) ?_ ?_
                        rotate_left
                        · intro w'
                          go_simp
                          with_reducible rfl
                        rotate_left
                        · simp only [Act.put, List.setIfInBounds_toArray, List.set_cons_zero, List.set_cons_succ, i64_w, i32_w]
                          rfl
                        refine pure_ (i := 3) (N := some 19) (v := ?_) (a' := ?_) #[true, true, true, true, false, false, false, false, false, false, false, false, false, false, false] rfl rfl (any_of HT_.out (by kernel_rfl)) (fun _ _ _ h => h) (Or.inl ⟨by rfl, ?_⟩) ?_ ?_
                        rotate_left
                        · intro w'
                          go_simp
                          with_reducible rfl
                        rotate_left
                        · simp only [Act.put, List.setIfInBounds_toArray, List.set_cons_zero, List.set_cons_succ, i64_w, i32_w]
                          rfl
                        refine pure_ (i := 4) (N := some 20) (v := ?_) (a' := ?_) #[true, true, true, true, true, false, false, false, false, false, false, false, false, false, false] rfl rfl (any_of HT_.out (by kernel_rfl)) (fun _ _ _ h => h) (Or.inl ⟨by rfl, ?_⟩) ?_ ?_
                        rotate_left
                        · intro w'
                          go_simp
                          with_reducible rfl
                        rotate_left
                        · simp only [Act.put, List.setIfInBounds_toArray, List.set_cons_zero, List.set_cons_succ, i64_w, i32_w]
                          rfl
                        refine pure_ (i := 5) (N := some 21) (v := ?_) (a' := ?_) #[true, true, true, true, true, true, false, false, false, false, false, false, false, false, false] rfl rfl (any_of HT_.out (by kernel_rfl)) (fun _ _ _ h => h) (Or.inl ⟨by rfl, ?_⟩) ?_ ?_
                        rotate_left
                        · intro w'
                          go_simp
                          with_reducible rfl
                        rotate_left
                        · simp only [Act.put, List.setIfInBounds_toArray, List.set_cons_zero, List.set_cons_succ, i64_w, i32_w]
                          rfl
                        refine pure_ (i := 6) (N := some 22) (v := ?_) (a' := ?_) #[true, true, true, true, true, true, true, false, false, false, false, false, false, false, false] rfl rfl (any_of HT_.out (by kernel_rfl)) (fun _ _ _ h => h) (Or.inl ⟨by rfl, ?_⟩) ?_ ?_
                        rotate_left
                        · intro w'
                          go_simp
                          with_reducible rfl
                        rotate_left
                        · simp only [Act.put, List.setIfInBounds_toArray, List.set_cons_zero, List.set_cons_succ, i64_w, i32_w]
                          rfl
                        refine pure_ (i := 8) (N := some 24) (v := ?_) (a' := ?_) #[true, true, true, true, true, true, true, false, true, false, false, false, false, false, false] rfl rfl (any_of HT_.out (by kernel_rfl)) (fun _ _ _ h => h) (Or.inl ⟨by rfl, ?_⟩) ?_ ?_
                        rotate_left
                        · intro w'
                          go_simp
                          with_reducible rfl
                        rotate_left
                        · simp only [Act.put, List.setIfInBounds_toArray, List.set_cons_zero, List.set_cons_succ, i64_w, i32_w]
                          rfl
                        refine pure_ (i := 9) (N := some 25) (v := ?_) (a' := ?_) #[true, true, true, true, true, true, true, false, true, true, false, false, false, false, false] rfl rfl (any_of HT_.out (by kernel_rfl)) (fun _ _ _ h => h) (Or.inl ⟨by rfl, ?_⟩) ?_ ?_
                        rotate_left
                        · intro w'
                          go_simp
                          with_reducible rfl
                        rotate_left
                        · simp only [Act.put, List.setIfInBounds_toArray, List.set_cons_zero, List.set_cons_succ, i64_w, i32_w]
                          rfl
                        refine pure_ (i := 10) (N := some 26) (v := ?_) (a' := ?_) #[true, true, true, true, true, true, true, false, true, true, true, false, false, false, false] rfl rfl (any_of HT_.out (by kernel_rfl)) (fun _ _ _ h => h) (Or.inl ⟨by rfl, ?_⟩) ?_ ?_
                        rotate_left
                        · intro w'
                          go_simp
                          with_reducible rfl
                        rotate_left
                        · simp only [Act.put, List.setIfInBounds_toArray, List.set_cons_zero, List.set_cons_succ, i64_w, i32_w]
                          rfl
                        refine pure_ (i := 11) (N := some 27) (v := ?_) (a' := ?_) #[true, true, true, true, true, true, true, false, true, true, true, true, false, false, false] rfl rfl (any_of HT_.out (by kernel_rfl)) (fun _ _ _ h => h) (Or.inl ⟨by rfl, ?_⟩) ?_ ?_
                        rotate_left
                        · intro w'
                          go_simp
                          with_reducible rfl
                        rotate_left
                        · simp only [Act.put, List.setIfInBounds_toArray, List.set_cons_zero, List.set_cons_succ, i64_w, i32_w]
                          rfl
                        refine take_ (i := 7) (N := some 23) (v := ?_) (a' := ?_) #[true, true, true, true, true, true, true, true, true, true, true, true, false, false, false] rfl rfl (take_ofW HT_.out HW_.out (by kernel_rfl)) (fun _ _ _ h => h) (Or.inl ⟨by rfl, ?_⟩) hHeld ?_ ?_
                        rotate_left
                        · rintro w' ⟨s0, s1⟩
                          go_simp
                          with_reducible rfl
                        rotate_left
                        · simp only [Act.put, List.setIfInBounds_toArray, List.set_cons_zero, List.set_cons_succ, i64_w, i32_w]
                          rfl
                        refine take_ (i := 12) (N := some 28) (v := ?_) (a' := ?_) #[true, true, true, true, true, true, true, true, true, true, true, true, true, false, false] rfl rfl (take_ofW HT_.out HW_.out (by kernel_rfl)) (fun _ _ _ h => h) (Or.inl ⟨by rfl, ?_⟩) hHeld ?_ ?_
                        rotate_left
                        · rintro w' ⟨s0, s1⟩
                          go_simp
                          with_reducible rfl
                        rotate_left
                        · simp only [Act.put, List.setIfInBounds_toArray, List.set_cons_zero, List.set_cons_succ, i64_w, i32_w]
                          rfl
                        refine one_ (i := 13) (N := some 29) #[true, true, true, true, true, true, true, true, true, true, true, true, true, true, false] rfl rfl (one_of HT_.out (by kernel_rfl)) (by decide) (fun K hK => ?_)
                        refine goes_ Try.func169 (by kernel_rfl) rfl #[.int .i64 (rd x0_2 x7_2), .int .i64 (rd x0_2 (ji8))] (by rfl) rfl rfl (by (try simp only [List.map_toArray, List.map_cons, List.map_nil]); first | done | (simp only [hji8]; rfl) | rfl | (simp only [List.length_drop, List.length_take]; rfl)) ?_
                        with_reducible refine (cmp_Less_int.calls (rd x0_2 x7_2) (rd x0_2 (ji8)) true _ A11.out).mono ?_
                        rintro e w' ⟨rfl, ⟨nd, rfl⟩⟩
                        refine ⟨_, rfl, ?_⟩
                        refine hK.out _ _ ⟨hHeld.1, hHeld.2⟩ (fun hHeld => ?_)
                        clear hK K
                        refine norm_ (a' := ?_) ?_ ?_
                        rotate_left
                        · show Act.put _ (some 29) _ = _
                          simp only [Act.put, List.setIfInBounds_toArray, List.set_cons_zero, List.set_cons_succ, i64_w, i32_w]
                          rfl
                        refine pure_ (i := 14) (N := some 30) (v := ?_) (a' := ?_) #[true, true, true, true, true, true, true, true, true, true, true, true, true, true, true] rfl rfl (any_of HT_.out (by kernel_rfl)) (fun _ _ _ h => h) (Or.inl ⟨by rfl, ?_⟩) ?_ ?_
                        rotate_left
                        · intro w'
                          go_simp
                          with_reducible rfl
                        rotate_left
                        · simp only [Act.put, List.setIfInBounds_toArray, List.set_cons_zero, List.set_cons_succ, i64_w, i32_w]
                          rfl
                        refine done_ (done_of HT_.out (by kernel_rfl)) ?_
                        try go_wp2
                        (try (rw [drewN_self w15]; generalize hq_ : World.drewN w15 _ = w15; have n0_ : Aside0 (Kd.R (Kd.int .i64) 3 w15 w0.heap.size (fun k_ => (P0_ k_ ∨ w.heap.size ≤ k_)) (.slice (some ad922) x0_2.length co16) x0_2) := ⟨by rw [← hq_]; exact (by (with_reducible repeat (first | apply Kd.R_alloc | apply Kd.R_drewN | apply Kd.R_drew)); exact HO_0.out)⟩; have n1_ : Aside0 (Kept w w15 (fun k_ => P0_ k_)) := ⟨by rw [← hq_]; exact (by repeat (first | (with_reducible first | exact HK.out | apply Kept.alloc | apply Kept.drewN | apply Kept.drew) | exact HK.out))⟩; have n2_ : Aside0 (Below w0.heap.size w0 w15) := ⟨by rw [← hq_]; exact (by repeat (first | (with_reducible first | exact HB.out | apply ba_ | apply bn_ | apply bd_) | exact HB.out))⟩; clear HO_0 HK HB hq_; have HO_0 := n0_; have HK := n1_; have HB := n2_; clear n0_ n1_ n2_))
                        have n0_ := amk (Kd.R_drew HO_0.out)
                        have n1_ := amk (Kept.drew HK.out)
                        have n2_ := amk (bd_ HB.out)
                        clear HO_0
                        clear HK
                        clear HB
                        have HO_0 := n0_
                        have HK := n1_
                        have HB := n2_
                        clear n0_ n1_ n2_
                        have p925 : 0 ≤ ((ji8) : Int) := of_decide_eq_true (by first | (with_reducible assumption) | assumption)
                        have q925 : (ji8) < (x0_2.length : Int) := of_decide_eq_true (by first | (with_reducible assumption) | assumption)
                        obtain ⟨ad925, e925, hx925_0⟩ := Kd.at_int (Kd.R_reads' HO_0.out).2.2 (ji8) p925 q925
                        obtain rfl : ad922 = ad925 := (by injection e925)
                        replace p925 := eq_true p925
                        replace q925 := eq_true q925
                        have p926 : 0 ≤ (x7_2 : Int) := of_decide_eq_true (by first | (with_reducible assumption) | assumption)
                        have q926 : x7_2 < (x0_2.length : Int) := of_decide_eq_true (by first | (with_reducible assumption) | assumption)
                        obtain ⟨ad926, e926, hx926_0⟩ := Kd.at_int (Kd.R_reads' HO_0.out).2.2 x7_2 p926 q926
                        obtain rfl : ad922 = ad926 := (by injection e926)
                        replace p926 := eq_true p926
                        replace q926 := eq_true q926
                        have p13 : 0 ≤ (x7_2 : Int) := of_decide_eq_true (by first | (with_reducible assumption) | assumption)
                        have q13 : (x7_2 : Int) < ((x0_2.length : Int) : Int) := of_decide_eq_true (by first | (with_reducible assumption) | assumption)
                        obtain ⟨go13, co13, eo13, gb13, gl13, cl13, HG13⟩ := Kd.R_form HO_0.out (by omega)
                        (first | cases eo13 | (injection eo13 with ea_ en_ ec_; (first | subst ea_ | (injection ea_ with ea_; subst ea_)); subst ec_; clear en_))
                        have GB13 := amk gb13
                        have GG13 := amk HG13
                        clear gb13 gl13 HG13
                        have HMgo13 := amk (show (P0_ go13 ∨ w.heap.size ≤ go13) from (HO_0.out.1 _ rfl))
                        (first | simp only [add_plain] at hx922_0 | skip)
                        (first | simp only [add_plain] at hx923_0 | skip)
                        (first | simp only [add_plain] at hx925_0 | skip)
                        (first | simp only [add_plain] at hx926_0 | skip)
                        obtain ⟨hx13_0, hf13_0⟩ := Kd.R_celln 0 HO_0.out (x7_2 : Int) p13 q13
                        replace p13 := eq_true p13
                        replace q13 := eq_true q13
                        have HP18 := Kd.R_putn HO_0.out (x7_2 : Int) (rd x0_2 (ji8))
                        rw [← Ny927.out] at HP18
                        have HQ18 := amk HP18
                        clear HP18
                        have p14 : 0 ≤ ((ji8) : Int) := of_decide_eq_true (by first | (with_reducible assumption) | assumption)
                        have q14 : ((ji8) : Int) < ((x0_2.length : Int) : Int) := of_decide_eq_true (by first | (with_reducible assumption) | assumption)
                        obtain ⟨hx14_0, hf14_0⟩ := Kd.R_celln 0 HQ18.out ((ji8) : Int) p14 q14
                        replace p14 := eq_true p14
                        replace q14 := eq_true q14
                        have HP19 := Kd.R_putn HQ18.out ((ji8) : Int) (rd x0_2 x7_2)
                        rw [← Ny928.out] at HP19
                        have HQ19 := amk HP19
                        clear HP19
                        refine start_ (n := 18) (S := fun w' => w'.cell? ⟨go13, ((ji8)).toNat, none⟩ = some (.int .i64 (rd x0_2 (ji8))) ∧ w'.cell? ⟨go13, (x7_2).toNat, none⟩ = some (.int .i64 (rd x0_2 x7_2))) (ds := [15, 17]) #[false, false, false, false, false, false, false, false, false, false, false, false, false, false, false, false, false, false] (by kernel_rfl) rfl rfl ⟨hx925_0, hx926_0⟩ (fun hHeld => ?_); refine with_tabW slices_insertionSortOrdered_int.tab6 slices_insertionSortOrdered_int.bits6 (fun HT_ HW_ => ?_)
                        generalize w15.drew = w17 at HO_0 HK HB GG13 HQ18 HQ19 hf13_0 hf14_0 hx13_0 hx14_0 hx922_0 hx923_0 hx925_0 hx926_0 hHeld ⊢
                        refine pure_ (i := 0) (N := some 33) (v := ?_) (a' := ?_) #[true, false, false, false, false, false, false, false, false, false, false, false, false, false, false, false, false, false] rfl rfl (any_of HT_.out (by kernel_rfl)) (fun _ _ _ h => h) (Or.inl ⟨by rfl, ?_⟩) ?_ ?_
                        rotate_left
                        · intro w'
                          go_simp
                          with_reducible rfl
                        rotate_left
                        · simp only [Act.put, List.setIfInBounds_toArray, List.set_cons_zero, List.set_cons_succ, i64_w, i32_w]
                          rfl
                        refine pure_ (i := 1) (N := some 34) (v := ?_) (a' := ?_) #[true, true, false, false, false, false, false, false, false, false, false, false, false, false, false, false, false, false] rfl rfl (any_of HT_.out (by kernel_rfl)) (fun _ _ _ h => h) (Or.inl ⟨by rfl, ?_⟩) ?_ ?_
                        rotate_left
                        · intro w'
                          go_simp
                          with_reducible rfl
                        rotate_left
                        · simp only [Act.put, List.setIfInBounds_toArray, List.set_cons_zero, List.set_cons_succ, i64_w, i32_w]
                          rfl
                        refine pure_ (i := 2) (N := some 35) (v := ?_) (a' := ?_) #[true, true, true, false, false, false, false, false, false, false, false, false, false, false, false, false, false, false] rfl rfl (any_of HT_.out (by kernel_rfl)) (fun _ _ _ h => h) (Or.inl ⟨by rfl, ?_⟩) ?_ ?_
                        rotate_left
                        · intro w'
                          go_simp
                          with_reducible rfl
                        rotate_left
                        · simp only [Act.put, List.setIfInBounds_toArray, List.set_cons_zero, List.set_cons_succ, i64_w, i32_w]
                          rfl
                        refine pure_ (i := 3) (N := some 36) (v := ?_) (a' := ?_) #[true, true, true, true, false, false, false, false, false, false, false, false, false, false, false, false, false, false] rfl rfl (any_of HT_.out (by kernel_rfl)) (fun _ _ _ h => h) (Or.inl ⟨by rfl, ?_⟩) ?_ ?_
                        rotate_left
                        · intro w'
                          go_simp
                          with_reducible rfl
                        rotate_left
                        · simp only [Act.put, List.setIfInBounds_toArray, List.set_cons_zero, List.set_cons_succ, i64_w, i32_w]
                          rfl
                        refine pure_ (i := 4) (N := some 37) (v := ?_) (a' := ?_) #[true, true, true, true, true, false, false, false, false, false, false, false, false, false, false, false, false, false] rfl rfl (any_of HT_.out (by kernel_rfl)) (fun _ _ _ h => h) (Or.inl ⟨by rfl, ?_⟩) ?_ ?_
                        rotate_left
                        · intro w'
                          go_simp
                          with_reducible rfl
                        rotate_left
                        · simp only [Act.put, List.setIfInBounds_toArray, List.set_cons_zero, List.set_cons_succ, i64_w, i32_w]
                          rfl
                        refine pure_ (i := 5) (N := some 38) (v := ?_) (a' := ?_) #[true, true, true, true, true, true, false, false, false, false, false, false, false, false, false, false, false, false] rfl rfl (any_of HT_.out (by kernel_rfl)) (fun _ _ _ h => h) (Or.inl ⟨by rfl, ?_⟩) ?_ ?_
                        rotate_left
                        · intro w'
                          go_simp
                          with_reducible rfl
                        rotate_left
                        · simp only [Act.put, List.setIfInBounds_toArray, List.set_cons_zero, List.set_cons_succ, i64_w, i32_w]
                          rfl
                        refine pure_ (i := 6) (N := some 39) (v := ?_) (a' := ?_) #[true, true, true, true, true, true, true, false, false, false, false, false, false, false, false, false, false, false] rfl rfl (any_of HT_.out (by kernel_rfl)) (fun _ _ _ h => h) (Or.inl ⟨by rfl, ?_⟩) ?_ ?_
                        rotate_left
                        · intro w'
                          go_simp
                          with_reducible rfl
                        rotate_left
                        · simp only [Act.put, List.setIfInBounds_toArray, List.set_cons_zero, List.set_cons_succ, i64_w, i32_w]
                          rfl
                        refine pure_ (i := 7) (N := some 40) (v := ?_) (a' := ?_) #[true, true, true, true, true, true, true, true, false, false, false, false, false, false, false, false, false, false] rfl rfl (any_of HT_.out (by kernel_rfl)) (fun _ _ _ h => h) (Or.inl ⟨by rfl, ?_⟩) ?_ ?_
                        rotate_left
                        · intro w'
                          go_simp
                          with_reducible rfl
                        rotate_left
                        · simp only [Act.put, List.setIfInBounds_toArray, List.set_cons_zero, List.set_cons_succ, i64_w, i32_w]
                          rfl
                        refine pure_ (i := 8) (N := some 41) (v := ?_) (a' := ?_) #[true, true, true, true, true, true, true, true, true, false, false, false, false, false, false, false, false, false] rfl rfl (any_of HT_.out (by kernel_rfl)) (fun _ _ _ h => h) (Or.inl ⟨by rfl, ?_⟩) ?_ ?_
                        rotate_left
                        · intro w'
                          go_simp
                          with_reducible rfl
                        rotate_left
                        · simp only [Act.put, List.setIfInBounds_toArray, List.set_cons_zero, List.set_cons_succ, i64_w, i32_w]
                          rfl
                        refine pure_ (i := 10) (N := some 43) (v := ?_) (a' := ?_) #[true, true, true, true, true, true, true, true, true, false, true, false, false, false, false, false, false, false] rfl rfl (any_of HT_.out (by kernel_rfl)) (fun _ _ _ h => h) (Or.inl ⟨by rfl, ?_⟩) ?_ ?_
                        rotate_left
                        · intro w'
                          go_simp
                          with_reducible rfl
                        rotate_left
                        · simp only [Act.put, List.setIfInBounds_toArray, List.set_cons_zero, List.set_cons_succ, i64_w, i32_w]
                          rfl
                        refine pure_ (i := 11) (N := some 44) (v := ?_) (a' := ?_) #[true, true, true, true, true, true, true, true, true, false, true, true, false, false, false, false, false, false] rfl rfl (any_of HT_.out (by kernel_rfl)) (fun _ _ _ h => h) (Or.inl ⟨by rfl, ?_⟩) ?_ ?_
                        rotate_left
                        · intro w'
                          go_simp
                          with_reducible rfl
                        rotate_left
                        · simp only [Act.put, List.setIfInBounds_toArray, List.set_cons_zero, List.set_cons_succ, i64_w, i32_w]
                          rfl
                        refine pure_ (i := 12) (N := some 45) (v := ?_) (a' := ?_) #[true, true, true, true, true, true, true, true, true, false, true, true, true, false, false, false, false, false] rfl rfl (any_of HT_.out (by kernel_rfl)) (fun _ _ _ h => h) (Or.inl ⟨by rfl, ?_⟩) ?_ ?_
                        rotate_left
                        · intro w'
                          go_simp
                          with_reducible rfl
                        rotate_left
                        · simp only [Act.put, List.setIfInBounds_toArray, List.set_cons_zero, List.set_cons_succ, i64_w, i32_w]
                          rfl
                        refine take_ (i := 9) (N := some 42) (v := ?_) (a' := ?_) #[true, true, true, true, true, true, true, true, true, true, true, true, true, false, false, false, false, false] rfl rfl (take_ofW HT_.out HW_.out (by kernel_rfl)) (fun _ _ _ h => h) (Or.inl ⟨by rfl, ?_⟩) hHeld ?_ ?_
                        rotate_left
                        · rintro w' ⟨s0, s1⟩
                          go_simp
                          with_reducible rfl
                        rotate_left
                        · simp only [Act.put, List.setIfInBounds_toArray, List.set_cons_zero, List.set_cons_succ, i64_w, i32_w]
                          rfl
                        refine take_ (i := 13) (N := some 46) (v := ?_) (a' := ?_) #[true, true, true, true, true, true, true, true, true, true, true, true, true, true, false, false, false, false] rfl rfl (take_ofW HT_.out HW_.out (by kernel_rfl)) (fun _ _ _ h => h) (Or.inl ⟨by rfl, ?_⟩) hHeld ?_ ?_
                        rotate_left
                        · rintro w' ⟨s0, s1⟩
                          go_simp
                          with_reducible rfl
                        rotate_left
                        · simp only [Act.put, List.setIfInBounds_toArray, List.set_cons_zero, List.set_cons_succ, i64_w, i32_w]
                          rfl
                        refine pure_ (i := 14) (N := some 47) (v := ?_) (a' := ?_) #[true, true, true, true, true, true, true, true, true, true, true, true, true, true, true, false, false, false] rfl rfl (any_of HT_.out (by kernel_rfl)) (fun _ _ _ h => h) (Or.inl ⟨by rfl, ?_⟩) ?_ ?_
                        rotate_left
                        · intro w'
                          go_simp
                          with_reducible rfl
                        rotate_left
                        · simp only [Act.put, List.setIfInBounds_toArray, List.set_cons_zero, List.set_cons_succ, i64_w, i32_w]
                          rfl
                        refine last_ (i := 15) (N := none) #[true, true, true, true, true, true, true, true, true, true, true, true, true, true, true, true, false, false] rfl rfl (one_of HT_.out (by kernel_rfl)) (by decide) (fun K hK => ?_)
                        refine skip_ (w1 := ?_) (by rfl) rfl ?_ ?_
                        rotate_left
                        · go_simp
                          rfl
                        refine hK.out _ _ ?_
                        clear hK K
                        refine pure_ (i := 16) (N := some 48) (v := ?_) (a' := ?_) #[true, true, true, true, true, true, true, true, true, true, true, true, true, true, true, true, true, false] rfl rfl (any_of HT_.out (by kernel_rfl)) (fun _ _ _ h => h) (Or.inl ⟨by rfl, ?_⟩) ?_ ?_
                        rotate_left
                        · intro w'
                          go_simp
                          with_reducible rfl
                        rotate_left
                        · simp only [Act.put, List.setIfInBounds_toArray, List.set_cons_zero, List.set_cons_succ, i64_w, i32_w]
                          rfl
                        refine last_ (i := 17) (N := none) #[true, true, true, true, true, true, true, true, true, true, true, true, true, true, true, true, true, true] rfl rfl (one_of HT_.out (by kernel_rfl)) (by decide) (fun K hK => ?_)
                        refine skip_ (w1 := ?_) (by rfl) rfl ?_ ?_
                        rotate_left
                        · go_simp
                          rfl
                        refine hK.out _ _ ?_
                        clear hK K
                        refine done_ (done_of HT_.out (by kernel_rfl)) ?_
                        try go_wp2
                        go_roundg k2
                        case measure => have := HK1.out; have := HK2.out; omega
                        case rel => exact ⟨(y928), (ji8), (by first | rfl | (simp; done) | (simp only [← hji8] <;> (first | rfl | simp)) | (simp [*]; done)), H', ⟨by have := HK1.out; have := HK2.out; omega⟩, ⟨by (with_reducible repeat (first | apply Kd.R_alloc | apply Kd.R_drewN | apply Kd.R_drew)); exact HQ19.out⟩, ⟨by repeat (first | (with_reducible first | exact HK.out | apply Kept.alloc | apply Kept.drewN | apply Kept.drew | refine Kept.setCell ?_ HMgo13.out _ | refine Kept.setCell ?_ HMgo13.out _) | exact HK.out)⟩, ⟨by repeat (first | (with_reducible first | exact HB.out | apply ba_ | apply bn_ | apply bd_ | refine bs_ ?_ GB13.out | refine bs_ ?_ GB13.out) | exact HB.out)⟩⟩
                      · replace c12 := Bool.eq_false_iff.mpr c12
                        subst c12
                        have H1 : (slices_insertionSortOrdered_int.l0 k2 x0_2 a1 a2 (wrap64 (x6_1 + 1))) = some r := by rw [if_neg (show ¬ (false = true) by decide)] at H; exact H
                        clear H
                        have H := H1
                        clear H1
                        have H' := amk H
                        clear H
                        try go_wp2
                        have n0_ := amk (Kd.R_drew HO_0.out)
                        have n1_ := amk (Kept.drew HK.out)
                        have n2_ := amk (bd_ HB.out)
                        clear HO_0
                        clear HK
                        clear HB
                        have HO_0 := n0_
                        have HK := n1_
                        have HB := n2_
                        clear n0_ n1_ n2_
                        obtain ⟨Ao21, co21, eo21⟩ := Kd.R_slice HO_0.out
                        (first | subst eo21 | (injection eo21 with f1_ f2_ f3_; have f4_ := f1_.symm; have f5_ := f3_.symm; clear f1_ f2_ f3_; subst f4_; subst f5_))
                        have p922 : 0 ≤ (x7_2 : Int) := of_decide_eq_true (by first | (with_reducible assumption) | assumption)
                        have q922 : x7_2 < (x0_2.length : Int) := of_decide_eq_true (by first | (with_reducible assumption) | assumption)
                        obtain ⟨ad922, e922, hx922_0⟩ := Kd.at_int (Kd.R_reads' HO_0.out).2.2 x7_2 p922 q922
                        cases e922
                        replace p922 := eq_true p922
                        replace q922 := eq_true q922
                        have p923 : 0 ≤ ((ji8) : Int) := of_decide_eq_true (by first | (with_reducible assumption) | assumption)
                        have q923 : (ji8) < (x0_2.length : Int) := of_decide_eq_true (by first | (with_reducible assumption) | assumption)
                        obtain ⟨ad923, e923, hx923_0⟩ := Kd.at_int (Kd.R_reads' HO_0.out).2.2 (ji8) p923 q923
                        obtain rfl : ad922 = ad923 := (by injection e923)
                        replace p923 := eq_true p923
                        replace q923 := eq_true q923
                        refine start_ (n := 15) (S := fun w' => w'.cell? (ad922.add (x7_2).toNat) = some (.int .i64 (rd x0_2 x7_2)) ∧ w'.cell? (ad922.add ((ji8)).toNat) = some (.int .i64 (rd x0_2 (ji8)))) (ds := []) #[false, false, false, false, false, false, false, false, false, false, false, false, false, false, false] (by kernel_rfl) rfl rfl ⟨hx922_0, hx923_0⟩ (fun hHeld => ?_); refine with_tabW slices_insertionSortOrdered_int.tab4 slices_insertionSortOrdered_int.bits4 (fun HT_ HW_ => ?_)
                        generalize wr.drew = w20 at HO_0 HK HB hx922_0 hx923_0 hHeld ⊢
                        refine pure_ (i := 0) (N := some 16) (v := ?_) (a' := ?_) #[true, false, false, false, false, false, false, false, false, false, false, false, false, false, false] rfl rfl (any_of HT_.out (by kernel_rfl)) (fun _ _ _ h => h) (Or.inl ⟨by rfl, ?_⟩) ?_ ?_
                        rotate_left
                        · intro w'
                          go_simp
                          with_reducible rfl
                        rotate_left
                        · simp only [Act.put, List.setIfInBounds_toArray, List.set_cons_zero, List.set_cons_succ, i64_w, i32_w]
                          rfl
                        refine pure_ (i := 1) (N := some 17) (v := ?_) (a' := ?_) #[true, true, false, false, false, false, false, false, false, false, false, false, false, false, false] rfl rfl (any_of HT_.out (by kernel_rfl)) (fun _ _ _ h => h) (Or.inl ⟨by rfl, ?_⟩) ?_ ?_
                        rotate_left
                        · intro w'
                          go_simp
                          with_reducible rfl
                        rotate_left
                        · simp only [Act.put, List.setIfInBounds_toArray, List.set_cons_zero, List.set_cons_succ, i64_w, i32_w]
                          rfl
                        refine pure_ (i := 2) (N := some 18) (v := ?_) (a' := ?_) #[true, true, true, false, false, false, false, false, false, false, false, false, false, false, false] rfl rfl (any_of HT_.out (by kernel_rfl)) (fun _ _ _ h => h) (Or.inl ⟨by rfl, ?_⟩) ?_ ?_
                        rotate_left
                        · intro w'
                          go_simp
                          with_reducible rfl
                        rotate_left
                        · simp only [Act.put, List.setIfInBounds_toArray, List.set_cons_zero, List.set_cons_succ, i64_w, i32_w]
                          rfl
                        refine pure_ (i := 3) (N := some 19) (v := ?_) (a' := ?_) #[true, true, true, true, false, false, false, false, false, false, false, false, false, false, false] rfl rfl (any_of HT_.out (by kernel_rfl)) (fun _ _ _ h => h) (Or.inl ⟨by rfl, ?_⟩) ?_ ?_
                        rotate_left
                        · intro w'
                          go_simp
                          with_reducible rfl
                        rotate_left
                        · simp only [Act.put, List.setIfInBounds_toArray, List.set_cons_zero, List.set_cons_succ, i64_w, i32_w]
                          rfl
                        refine pure_ (i := 4) (N := some 20) (v := ?_) (a' := ?_) #[true, true, true, true, true, false, false, false, false, false, false, false, false, false, false] rfl rfl (any_of HT_.out (by kernel_rfl)) (fun _ _ _ h => h) (Or.inl ⟨by rfl, ?_⟩) ?_ ?_
                        rotate_left
                        · intro w'
                          go_simp
                          with_reducible rfl
                        rotate_left
                        · simp only [Act.put, List.setIfInBounds_toArray, List.set_cons_zero, List.set_cons_succ, i64_w, i32_w]
                          rfl
                        refine pure_ (i := 5) (N := some 21) (v := ?_) (a' := ?_) #[true, true, true, true, true, true, false, false, false, false, false, false, false, false, false] rfl rfl (any_of HT_.out (by kernel_rfl)) (fun _ _ _ h => h) (Or.inl ⟨by rfl, ?_⟩) ?_ ?_
                        rotate_left
                        · intro w'
                          go_simp
                          with_reducible rfl
                        rotate_left
                        · simp only [Act.put, List.setIfInBounds_toArray, List.set_cons_zero, List.set_cons_succ, i64_w, i32_w]
                          rfl
                        refine pure_ (i := 6) (N := some 22) (v := ?_) (a' := ?_) #[true, true, true, true, true, true, true, false, false, false, false, false, false, false, false] rfl rfl (any_of HT_.out (by kernel_rfl)) (fun _ _ _ h => h) (Or.inl ⟨by rfl, ?_⟩) ?_ ?_
                        rotate_left
                        · intro w'
                          go_simp
                          with_reducible rfl
                        rotate_left
                        · simp only [Act.put, List.setIfInBounds_toArray, List.set_cons_zero, List.set_cons_succ, i64_w, i32_w]
                          rfl
                        refine pure_ (i := 8) (N := some 24) (v := ?_) (a' := ?_) #[true, true, true, true, true, true, true, false, true, false, false, false, false, false, false] rfl rfl (any_of HT_.out (by kernel_rfl)) (fun _ _ _ h => h) (Or.inl ⟨by rfl, ?_⟩) ?_ ?_
                        rotate_left
                        · intro w'
                          go_simp
                          with_reducible rfl
                        rotate_left
                        · simp only [Act.put, List.setIfInBounds_toArray, List.set_cons_zero, List.set_cons_succ, i64_w, i32_w]
                          rfl
                        refine pure_ (i := 9) (N := some 25) (v := ?_) (a' := ?_) #[true, true, true, true, true, true, true, false, true, true, false, false, false, false, false] rfl rfl (any_of HT_.out (by kernel_rfl)) (fun _ _ _ h => h) (Or.inl ⟨by rfl, ?_⟩) ?_ ?_
                        rotate_left
                        · intro w'
                          go_simp
                          with_reducible rfl
                        rotate_left
                        · simp only [Act.put, List.setIfInBounds_toArray, List.set_cons_zero, List.set_cons_succ, i64_w, i32_w]
                          rfl
                        refine pure_ (i := 10) (N := some 26) (v := ?_) (a' := ?_) #[true, true, true, true, true, true, true, false, true, true, true, false, false, false, false] rfl rfl (any_of HT_.out (by kernel_rfl)) (fun _ _ _ h => h) (Or.inl ⟨by rfl, ?_⟩) ?_ ?_
                        rotate_left
                        · intro w'
                          go_simp
                          with_reducible rfl
                        rotate_left
                        · simp only [Act.put, List.setIfInBounds_toArray, List.set_cons_zero, List.set_cons_succ, i64_w, i32_w]
                          rfl
                        refine pure_ (i := 11) (N := some 27) (v := ?_) (a' := ?_) #[true, true, true, true, true, true, true, false, true, true, true, true, false, false, false] rfl rfl (any_of HT_.out (by kernel_rfl)) (fun _ _ _ h => h) (Or.inl ⟨by rfl, ?_⟩) ?_ ?_
                        rotate_left
                        · intro w'
                          go_simp
                          with_reducible rfl
                        rotate_left
                        · simp only [Act.put, List.setIfInBounds_toArray, List.set_cons_zero, List.set_cons_succ, i64_w, i32_w]
                          rfl
                        refine take_ (i := 7) (N := some 23) (v := ?_) (a' := ?_) #[true, true, true, true, true, true, true, true, true, true, true, true, false, false, false] rfl rfl (take_ofW HT_.out HW_.out (by kernel_rfl)) (fun _ _ _ h => h) (Or.inl ⟨by rfl, ?_⟩) hHeld ?_ ?_
                        rotate_left
                        · rintro w' ⟨s0, s1⟩
                          go_simp
                          with_reducible rfl
                        rotate_left
                        · simp only [Act.put, List.setIfInBounds_toArray, List.set_cons_zero, List.set_cons_succ, i64_w, i32_w]
                          rfl
                        refine take_ (i := 12) (N := some 28) (v := ?_) (a' := ?_) #[true, true, true, true, true, true, true, true, true, true, true, true, true, false, false] rfl rfl (take_ofW HT_.out HW_.out (by kernel_rfl)) (fun _ _ _ h => h) (Or.inl ⟨by rfl, ?_⟩) hHeld ?_ ?_
                        rotate_left
                        · rintro w' ⟨s0, s1⟩
                          go_simp
                          with_reducible rfl
                        rotate_left
                        · simp only [Act.put, List.setIfInBounds_toArray, List.set_cons_zero, List.set_cons_succ, i64_w, i32_w]
                          rfl
                        refine one_ (i := 13) (N := some 29) #[true, true, true, true, true, true, true, true, true, true, true, true, true, true, false] rfl rfl (one_of HT_.out (by kernel_rfl)) (by decide) (fun K hK => ?_)
                        refine goes_ Try.func169 (by kernel_rfl) rfl #[.int .i64 (rd x0_2 x7_2), .int .i64 (rd x0_2 (ji8))] (by rfl) rfl rfl (by (try simp only [List.map_toArray, List.map_cons, List.map_nil]); first | done | (simp only [hji8]; rfl) | rfl | (simp only [List.length_drop, List.length_take]; rfl)) ?_
                        with_reducible refine (cmp_Less_int.calls (rd x0_2 x7_2) (rd x0_2 (ji8)) false _ A11.out).mono ?_
                        rintro e w' ⟨rfl, ⟨nd, rfl⟩⟩
                        refine ⟨_, rfl, ?_⟩
                        refine hK.out _ _ ⟨hHeld.1, hHeld.2⟩ (fun hHeld => ?_)
                        clear hK K
                        refine norm_ (a' := ?_) ?_ ?_
                        rotate_left
                        · show Act.put _ (some 29) _ = _
                          simp only [Act.put, List.setIfInBounds_toArray, List.set_cons_zero, List.set_cons_succ, i64_w, i32_w]
                          rfl
                        refine pure_ (i := 14) (N := some 30) (v := ?_) (a' := ?_) #[true, true, true, true, true, true, true, true, true, true, true, true, true, true, true] rfl rfl (any_of HT_.out (by kernel_rfl)) (fun _ _ _ h => h) (Or.inl ⟨by rfl, ?_⟩) ?_ ?_
                        rotate_left
                        · intro w'
                          go_simp
                          with_reducible rfl
                        rotate_left
                        · simp only [Act.put, List.setIfInBounds_toArray, List.set_cons_zero, List.set_cons_succ, i64_w, i32_w]
                          rfl
                        refine done_ (done_of HT_.out (by kernel_rfl)) ?_
                        try go_wp2
                        go_roundg k2
                        case measure => have := HK1.out; have := HK2.out; omega
                        case rel => exact ⟨(x0_2), (wrap64 (x6_1 + 1)), (by first | rfl | (simp; done) | (simp [*]; done)), H', ⟨by have := HK1.out; have := HK2.out; omega⟩, ⟨by (with_reducible repeat (first | apply Kd.R_alloc | apply Kd.R_drewN | apply Kd.R_drew)); exact HO_0.out⟩, ⟨by repeat (first | (with_reducible first | exact HK.out | apply Kept.alloc | apply Kept.drewN | apply Kept.drew) | exact HK.out)⟩, ⟨by repeat (first | (with_reducible first | exact HB.out | apply ba_ | apply bn_ | apply bd_) | exact HB.out)⟩⟩
                    · rw [if_neg c10] at H
                      exact absurd H (by simp)
                  · rw [if_neg c9] at H
                    exact absurd H (by simp)
                · rw [if_neg c7] at H
                  exact absurd H (by simp)
              · rw [if_neg c6] at H
                exact absurd H (by simp)
            · rw [if_neg c5] at H
              have c5b0 : decide (a1 < x7_2) = false := decide_eq_false c5
              clear c5
              have H' := amk H
              clear H
              try go_wp2
              have n0_ := amk (Kd.R_drew HO_0.out)
              have n1_ := amk (Kept.drew HK.out)
              have n2_ := amk (bd_ HB.out)
              clear HO_0
              clear HK
              clear HB
              have HO_0 := n0_
              have HK := n1_
              have HB := n2_
              clear n0_ n1_ n2_
              refine start_ (n := 15) (S := fun w' => True) (ds := []) #[false, false, false, false, false, false, false, false, false, false, false, false, false, false, false] (by kernel_rfl) rfl rfl trivial (fun hHeld => ?_); refine with_tabW slices_insertionSortOrdered_int.tab4 slices_insertionSortOrdered_int.bits4 (fun HT_ HW_ => ?_)
              generalize wr.drew = w22 at HO_0 HK HB hHeld ⊢
              refine pure_ (i := 0) (N := some 16) (v := ?_) (a' := ?_) #[true, false, false, false, false, false, false, false, false, false, false, false, false, false, false] rfl rfl (any_of HT_.out (by kernel_rfl)) (fun _ _ _ h => h) (Or.inl ⟨by rfl, ?_⟩) ?_ ?_
              rotate_left
              · intro w'
                go_simp
                with_reducible rfl
              rotate_left
              · simp only [Act.put, List.setIfInBounds_toArray, List.set_cons_zero, List.set_cons_succ, i64_w, i32_w]
                rfl
              refine pure_ (i := 1) (N := some 17) (v := ?_) (a' := ?_) #[true, true, false, false, false, false, false, false, false, false, false, false, false, false, false] rfl rfl (any_of HT_.out (by kernel_rfl)) (fun _ _ _ h => h) (Or.inl ⟨by rfl, ?_⟩) ?_ ?_
              rotate_left
              · intro w'
                go_simp
                with_reducible rfl
              rotate_left
              · simp only [Act.put, List.setIfInBounds_toArray, List.set_cons_zero, List.set_cons_succ, i64_w, i32_w]
                rfl
              refine pure_ (i := 2) (N := some 18) (v := ?_) (a' := ?_) #[true, true, true, false, false, false, false, false, false, false, false, false, false, false, false] rfl rfl (any_of HT_.out (by kernel_rfl)) (fun _ _ _ h => h) (Or.inl ⟨by rfl, ?_⟩) ?_ ?_
              rotate_left
              · intro w'
                go_simp
                with_reducible rfl
              rotate_left
              · simp only [Act.put, List.setIfInBounds_toArray, List.set_cons_zero, List.set_cons_succ, i64_w, i32_w]
                rfl
              refine pure_ (i := 3) (N := some 19) (v := ?_) (a' := ?_) #[true, true, true, true, false, false, false, false, false, false, false, false, false, false, false] rfl rfl (any_of HT_.out (by kernel_rfl)) (fun _ _ _ h => h) (Or.inl ⟨by rfl, ?_⟩) ?_ ?_
              rotate_left
              · intro w'
                go_simp
                with_reducible rfl
              rotate_left
              · simp only [Act.put, List.setIfInBounds_toArray, List.set_cons_zero, List.set_cons_succ, i64_w, i32_w]
                rfl
              refine pure_ (i := 4) (N := some 20) (v := undef) (a' := ?_) #[true, true, true, true, true, false, false, false, false, false, false, false, false, false, false] rfl rfl (any_of HT_.out (by kernel_rfl)) (fun _ _ _ h => h) (Or.inr ⟨by rfl, rfl⟩) ?_ ?_
              rotate_left
              · simp only [Act.put, List.setIfInBounds_toArray, List.set_cons_zero, List.set_cons_succ, i64_w, i32_w]
                rfl
              refine pure_ (i := 5) (N := some 21) (v := undef) (a' := ?_) #[true, true, true, true, true, true, false, false, false, false, false, false, false, false, false] rfl rfl (any_of HT_.out (by kernel_rfl)) (fun _ _ _ h => h) (Or.inr ⟨by rfl, rfl⟩) ?_ ?_
              rotate_left
              · simp only [Act.put, List.setIfInBounds_toArray, List.set_cons_zero, List.set_cons_succ, i64_w, i32_w]
                rfl
              refine pure_ (i := 6) (N := some 22) (v := undef) (a' := ?_) #[true, true, true, true, true, true, true, false, false, false, false, false, false, false, false] rfl rfl (any_of HT_.out (by kernel_rfl)) (fun _ _ _ h => h) (Or.inr ⟨by rfl, rfl⟩) ?_ ?_
              rotate_left
              · simp only [Act.put, List.setIfInBounds_toArray, List.set_cons_zero, List.set_cons_succ, i64_w, i32_w]
                rfl
              refine pure_ (i := 7) (N := some 23) (v := undef) (a' := ?_) #[true, true, true, true, true, true, true, true, false, false, false, false, false, false, false] rfl rfl (any_of HT_.out (by kernel_rfl)) (fun _ _ _ h => h) (Or.inr ⟨by rfl, rfl⟩) ?_ ?_
              rotate_left
              · simp only [Act.put, List.setIfInBounds_toArray, List.set_cons_zero, List.set_cons_succ, i64_w, i32_w]
                rfl
              refine pure_ (i := 8) (N := some 24) (v := undef) (a' := ?_) #[true, true, true, true, true, true, true, true, true, false, false, false, false, false, false] rfl rfl (any_of HT_.out (by kernel_rfl)) (fun _ _ _ h => h) (Or.inr ⟨by rfl, rfl⟩) ?_ ?_
              rotate_left
              · simp only [Act.put, List.setIfInBounds_toArray, List.set_cons_zero, List.set_cons_succ, i64_w, i32_w]
                rfl
              refine pure_ (i := 9) (N := some 25) (v := undef) (a' := ?_) #[true, true, true, true, true, true, true, true, true, true, false, false, false, false, false] rfl rfl (any_of HT_.out (by kernel_rfl)) (fun _ _ _ h => h) (Or.inr ⟨by rfl, rfl⟩) ?_ ?_
              rotate_left
              · simp only [Act.put, List.setIfInBounds_toArray, List.set_cons_zero, List.set_cons_succ, i64_w, i32_w]
                rfl
              refine pure_ (i := 10) (N := some 26) (v := undef) (a' := ?_) #[true, true, true, true, true, true, true, true, true, true, true, false, false, false, false] rfl rfl (any_of HT_.out (by kernel_rfl)) (fun _ _ _ h => h) (Or.inr ⟨by rfl, rfl⟩) ?_ ?_
              rotate_left
              · simp only [Act.put, List.setIfInBounds_toArray, List.set_cons_zero, List.set_cons_succ, i64_w, i32_w]
                rfl
              refine pure_ (i := 11) (N := some 27) (v := undef) (a' := ?_) #[true, true, true, true, true, true, true, true, true, true, true, true, false, false, false] rfl rfl (any_of HT_.out (by kernel_rfl)) (fun _ _ _ h => h) (Or.inr ⟨by rfl, rfl⟩) ?_ ?_
              rotate_left
              · simp only [Act.put, List.setIfInBounds_toArray, List.set_cons_zero, List.set_cons_succ, i64_w, i32_w]
                rfl
              refine pure_ (i := 12) (N := some 28) (v := undef) (a' := ?_) #[true, true, true, true, true, true, true, true, true, true, true, true, true, false, false] rfl rfl (any_of HT_.out (by kernel_rfl)) (fun _ _ _ h => h) (Or.inr ⟨by rfl, rfl⟩) ?_ ?_
              rotate_left
              · simp only [Act.put, List.setIfInBounds_toArray, List.set_cons_zero, List.set_cons_succ, i64_w, i32_w]
                rfl
              refine pure_ (i := 13) (N := some 29) (v := undef) (a' := ?_) #[true, true, true, true, true, true, true, true, true, true, true, true, true, true, false] rfl rfl (any_of HT_.out (by kernel_rfl)) (fun _ _ _ h => h) (Or.inr ⟨by rfl, rfl⟩) ?_ ?_
              rotate_left
              · simp only [Act.put, List.setIfInBounds_toArray, List.set_cons_zero, List.set_cons_succ, i64_w, i32_w]
                rfl
              refine pure_ (i := 14) (N := some 30) (v := ?_) (a' := ?_) #[true, true, true, true, true, true, true, true, true, true, true, true, true, true, true] rfl rfl (any_of HT_.out (by kernel_rfl)) (fun _ _ _ h => h) (Or.inl ⟨by rfl, ?_⟩) ?_ ?_
              rotate_left
              · intro w'
                go_simp
                with_reducible rfl
              rotate_left
              · simp only [Act.put, List.setIfInBounds_toArray, List.set_cons_zero, List.set_cons_succ, i64_w, i32_w]
                rfl
              refine done_ (done_of HT_.out (by kernel_rfl)) ?_
              try go_wp2
              go_roundg k2
              case measure => have := HK1.out; have := HK2.out; omega
              case rel => exact ⟨(x0_2), (wrap64 (x6_1 + 1)), (by first | rfl | (simp; done) | (simp [*]; done)), H', ⟨by have := HK1.out; have := HK2.out; omega⟩, ⟨by (with_reducible repeat (first | apply Kd.R_alloc | apply Kd.R_drewN | apply Kd.R_drew)); exact HO_0.out⟩, ⟨by repeat (first | (with_reducible first | exact HK.out | apply Kept.alloc | apply Kept.drewN | apply Kept.drew) | exact HK.out)⟩, ⟨by repeat (first | (with_reducible first | exact HB.out | apply ba_ | apply bn_ | apply bd_) | exact HB.out)⟩⟩
      · rw [if_neg c4] at H
        have c4b0 : decide (x6_1 < a2) = false := decide_eq_false c4
        clear c4
        obtain rfl := Option.some.inj H
        go_wp2
        first | go_end0 | ((try simp only [Exit.inBlock, Exit.then]); refine bodyPost_ret (results_none rfl _ _ _) rfl ?_)
        exact ⟨by first | rfl | (simp [errW_none, errW_some] <;> rfl) | (simp [*, errW_none, errW_some] <;> rfl), by (with_reducible repeat (first | apply Kd.R_alloc | apply Kd.R_drewN | apply Kd.R_drew)); exact HO_0.out, by repeat (first | (with_reducible first | exact HB.out | apply ba_ | apply bn_ | apply bd_) | exact HB.out), by repeat (first | (with_reducible first | exact HK.out | apply Kept.alloc | apply Kept.drewN | apply Kept.drew) | exact HK.out)⟩
/-! ### spec_l1Has: function 94 -/
def spec_l1Has.l0 : Nat → Int → List Int → Int → Int → Option (Bool)
  | 0, _, _, _, _ => none
  | k + 1, x1, x7, x8, x9 => if x9 < x8 then (if 0 ≤ x9 then (if x9 < (x7.length : Int) then (if (rd x7 x9) = x1 then (some true) else (spec_l1Has.l0 k x1 x7 x8 (wrap64 (x9 + 1)))) else (none)) else (none)) else (some false)
def spec_l1Has.f (k : Nat) (l0 : List Int) (a1 : Int) : Option (Bool) := spec_l1Has.l0 k a1 l0 (l0.length : Int) 0
set_option maxHeartbeats 8000000 in
set_option maxRecDepth 100000 in
theorem spec_l1Has.calls (k : Nat) (A0 : Option Addr) (c0 : Nat) (l0 : List Int) (a1 : Int) (r : Bool) (w : World) (hr0 : Kd.C (Kd.int .i64) w A0 l0.length l0) (hc0 : l0.length ≤ c0) (h : spec_l1Has.f k l0 a1 = some r) :
    Calls Try.prog 94 #[.slice A0 l0.length c0, .int .i64 a1] w fun e w' => e = .returned (.bool r) ∧ Drawn0 w w' := by
  have HR0 := amk hr0
  have HC0 := amk hc0
  clear hr0 hc0
  have H : (spec_l1Has.l0 k a1 l0 (l0.length : Int) 0) = some r := h
  clear h
  have H' := amk H
  clear H
  go_enter Try.func94, Try.ntmps94
  go_wp2
  go_loopg [9] k (fun kq v9 w' => ∃ (x9_1 : Int), v9 = .int .i64 x9_1 ∧ Aside0 (spec_l1Has.l0 kq a1 l0 (l0.length : Int) x9_1 = some r) ∧ Aside0 (kq ≤ k) ∧ Drawn0 w w')
  case atStart => exact ⟨(0), (by first | rfl | (simp; done) | (simp [*]; done)), H', ⟨Nat.le_refl _⟩, by repeat (first | exact Drawn0.refl _ | apply Drawn0.step)⟩
  case round =>
    clear H'
    try clear p2
    obtain ⟨x9_1, rfl, HA, HK1, ⟨m1, rfl⟩⟩ := hrel
    cases gk with
    | zero => exact absurd HA.out (by simp [spec_l1Has.l0])
    | succ k1 =>
      have H := HA.out
      clear HA
      simp only [spec_l1Has.l0] at H
      by_cases c3 : x9_1 < (l0.length : Int)
      · rw [if_pos c3] at H
        have c3b0 : decide (x9_1 < (l0.length : Int)) = true := decide_eq_true c3
        clear c3
        by_cases c4 : 0 ≤ x9_1
        · rw [if_pos c4] at H
          have c4b0 : decide (0 ≤ x9_1) = true := decide_eq_true c4
          clear c4
          by_cases c5 : x9_1 < (l0.length : Int)
          · rw [if_pos c5] at H
            have c5b0 : decide (x9_1 < (l0.length : Int)) = true := decide_eq_true c5
            clear c5
            by_cases c6 : (rd l0 x9_1) = a1
            · rw [if_pos c6] at H
              have c6b0 : ((rd l0 x9_1) == a1) = true := beq_iff_eq.mpr c6
              have c6b1 : ((rd l0 x9_1) != a1) = false := bne_eq_false_iff_eq.mpr c6
              clear c6
              obtain rfl := Option.some.inj H
              have p319 : 0 ≤ (x9_1 : Int) := of_decide_eq_true (by first | (with_reducible assumption) | assumption)
              have q319 : x9_1 < (l0.length : Int) := of_decide_eq_true (by first | (with_reducible assumption) | assumption)
              obtain ⟨ad319, e319, hx319_0⟩ := Kd.at_int HR0.out x9_1 p319 q319
              cases e319
              replace p319 := eq_true p319
              replace q319 := eq_true q319
              go_wp2
              go_ret
              exact ⟨by first | rfl | (simp; done) | (simp [*]; done), by repeat (first | exact Drawn0.refl _ | apply Drawn0.step)⟩
            · rw [if_neg c6] at H
              have c6b0 : ((rd l0 x9_1) == a1) = false := beq_eq_false_iff_ne.mpr c6
              have c6b1 : ((rd l0 x9_1) != a1) = true := bne_iff_ne.mpr c6
              have H' := amk H
              clear H
              have p319 : 0 ≤ (x9_1 : Int) := of_decide_eq_true (by first | (with_reducible assumption) | assumption)
              have q319 : x9_1 < (l0.length : Int) := of_decide_eq_true (by first | (with_reducible assumption) | assumption)
              obtain ⟨ad319, e319, hx319_0⟩ := Kd.at_int HR0.out x9_1 p319 q319
              cases e319
              replace p319 := eq_true p319
              replace q319 := eq_true q319
              go_wp2
              go_roundg k1
              case measure => have := HK1.out; omega
              case rel => exact ⟨(wrap64 (x9_1 + 1)), (by first | rfl | (simp; done) | (simp [*]; done)), H', ⟨by have := HK1.out; omega⟩, by repeat (first | exact Drawn0.refl _ | apply Drawn0.step)⟩
          · rw [if_neg c5] at H
            exact absurd H (by simp)
        · rw [if_neg c4] at H
          exact absurd H (by simp)
      · rw [if_neg c3] at H
        have c3b0 : decide (x9_1 < (l0.length : Int)) = false := decide_eq_false c3
        clear c3
        obtain rfl := Option.some.inj H
        go_wp2
        go_ret
        exact ⟨by first | rfl | (simp; done) | (simp [*]; done), by repeat (first | exact Drawn0.refl _ | apply Drawn0.step)⟩
/-! ### spec_keJoin: function 81 -/
/-! spec.keJoined, by hand: it begins with a pin that came in, and goes on with what was made. -/
theorem two_cells {w : World} {g t : Nat} {a b : Value} (h : w.heap[g]? = some (.cells #[a, b] t (0, 0))) : w.cell? ⟨g, 0, none⟩ = some a ∧ w.cell? ⟨g, 1, none⟩ = some b ∧ w.frozen? ⟨g, 0, none⟩ = false ∧ w.frozen? ⟨g, 1, none⟩ = false ∧ g < w.heap.size :=
  ⟨by simp [World.cell?, h], by simp [World.cell?, h], by simp [World.frozen?, h], by simp [World.frozen?, h], (Array.getElem?_eq_some_iff.mp h).1⟩
theorem two_set {w : World} {g t : Nat} {a b : Value} (h : w.heap[g]? = some (.cells #[a, b] t (0, 0))) (c d : Value) : ((w.setCell ⟨g, 0, none⟩ c).setCell ⟨g, 1, none⟩ d).heap[g]? = some (.cells #[c, d] t (0, 0)) := by
  have h1 := heap_setCell_same w g 0 #[a, b] t c h
  have h2 := heap_setCell_same (w.setCell ⟨g, 0, none⟩ c) g 1 _ t d h1
  rw [h2]
  rfl
/-! impl.changed, by hand: a row of the call's own is stored into the rows it makes. -/
theorem S_row_put {α : Type} {d : Kd α} {e e0 : Nat} {W : World} {base g n cap : Nat} {ok okR : Nat → Prop} {xs : List (List α)} {v : Value} {x : List α} (hE : d.E = []) (hne : e ≠ e0)
    (h : Kd.S (Kd.slice e d) e0 W base (fun k => ok k ∧ ¬ okR k) (.slice (some ⟨g, 0, none⟩) n cap) xs) (hr : Kd.R d e W base okR v x) (hsub : ∀ k, okR k → ok k ∧ k ≠ g) (i : Int) (h0 : 0 ≤ i) (h1 : i < n) :
    Kd.S (Kd.slice e d) e0 (W.setCell ⟨g, i.toNat, none⟩ v) base ok (.slice (some ⟨g, 0, none⟩) n cap) (xs.set i.toNat x) := by
  obtain ⟨oki, c, hcl, hM, hcc, hfr, hoki, hH⟩ := Kd.S_elem h ([] : List α) i h0 h1
  have hc1 : c.length = 1 := hcl
  have hP := Kd.S_seg hH h0 h1 (seg := [v]) (j := 0) (Nat.le_refl 1) (x' := x) (okp := okR) (by
    have : c.take 0 ++ [v] ++ c.drop (0 + [v].length) = [v] := by
      rw [show (0 + [v].length) = 1 from rfl, List.drop_eq_nil_of_le (by omega)]; rfl
    rw [this]; exact Kd.M_row hr) (fun k hk => Or.inr hk) hsub
  have h2 := hP.1
  have e1 : i.toNat * (Kd.slice e d).sz + 0 = i.toNat := by show i.toNat * 1 + 0 = i.toNat; omega
  rw [e1] at h2
  exact h2
theorem S_ivC {α : Type} {d : Kd α} {e : Nat} {w : World} {base : Nat} {ok : Nat → Prop} {v : Value} {xs : List α} (h : Kd.S d e w base ok v xs) : Kd.S d e w base (fun j => base ≤ j ∧ j < w.heap.size) v xs := Kd.S_mono (Kd.S_bound h) (fun _ hk => ⟨hk.2.1, hk.2.2.1⟩)
theorem one_pins {W : World} {g : Nat} {a0 : Int} {A0 : Option Addr} {c0 : Nat} {l0 : List (List Int)} (hg : W.heap[g]? = some (.cells #[.int .i64 a0, .slice A0 l0.length c0] 41 (0, 0)))
    (h0 : Kd.C (Kd.slice 3 (Kd.int .i64)) W A0 l0.length l0) (i0 : l0.length ≤ c0) : Kd.C k41 W (some ⟨g, 0, none⟩) 1 [(⟨a0, l0⟩ : S41)] := by
  have q0 : W.cell? ⟨g, 0, none⟩ = some (.int .i64 a0) := by simp [World.cell?, hg]
  have q1 : W.cell? ⟨g, 1, none⟩ = some (.slice A0 l0.length c0) := by simp [World.cell?, hg]
  refine ⟨rfl, by omega, fun _ => ⟨_, rfl, fun j p hj => ?_⟩⟩
  match j, hj with
  | 0, hj =>
    injection hj with hj
    subst hj
    refine ⟨[.int .i64 a0, .slice A0 l0.length c0], rfl, k41_mk W ⟨a0, l0⟩ i0 h0, fun i u hi => ?_⟩
    match i, hi with
    | 0, hi => injection hi with hi; subst hi; exact q0
    | 1, hi => injection hi with hi; subst hi; exact q1
set_option maxHeartbeats 4000000 in
set_option maxRecDepth 100000 in
theorem impl_Pins_changed_own (k : Nat) (a0 : Int) (A0 : Option Addr) (c0 : Nat) (l0 : List (List Int)) (a1 : Int) (A2 : Option Addr) (c2 : Nat) (l2 : List Int) (r1 : Int) (r2 : List (List Int)) (r3 : Bool) (w0 w : World) (okR : Nat → Prop) (hB : Below w0.heap.size w0 w) (h0 : Kd.C (Kd.slice 3 (Kd.int .i64)) w A0 l0.length l0) (i0 : l0.length ≤ c0) (h2 : Kd.R (Kd.int .i64) 3 w w0.heap.size okR (.slice A2 l2.length c2) l2) (h : impl_Pins_changed.f k a0 l0 a1 l2 = some (r1, r2, r3)) :
    Calls Try.prog 98 #[.agg #[.int .i64 a0, .slice A0 l0.length c0], .int .i64 a1, .slice A2 l2.length c2] w fun e w' => ∃ v1_ : Value, e = .returned (.tuple #[.agg #[.int .i64 r1, v1_], .bool r3]) ∧ Kd.S (Kd.slice 3 (Kd.int .i64)) 86 w' w0.heap.size (fun _ => True) v1_ r2 ∧ Below w0.heap.size w0 w' := by
  have hu41 := Try.underlying41
  have hu35 := Try.underlying35
  have hu57 := Try.underlying57
  have hu86 := Try.underlying86
  unfold impl_Pins_changed.f at h
  obtain ⟨⟨n, J⟩, hj, h⟩ := Option.bind_eq_some_iff.mp h
  simp only [] at h
  by_cases p1 : 0 ≤ a1
  · rw [if_pos p1] at h
    by_cases p2 : a1 < (J.length : Int)
    · rw [if_pos p2] at h
      obtain ⟨i, rfl⟩ := Int.eq_ofNat_of_zero_le p1
      have hJ : i < J.length := by omega
      simp only [Option.bind_some, Int.toNat_natCast] at h
      obtain ⟨t, ht, h⟩ := Option.bind_eq_some_iff.mp h
      have hd0 : decide ((0 : Int) ≤ (i : Int)) = true := decide_eq_true (by omega)
      have hd1 : decide ((i : Int) < (J.length : Int)) = true := decide_eq_true p2
      have hz0 : ((0 : Int) ≤ (i : Int)) = True := eq_true (by omega)
      have hz1 : ((i : Int) < (J.length : Int)) = True := eq_true p2
      have hz2 : (i < J.length) = True := eq_true hJ
      have HJ := amk hJ
      have HJJ := amk hj
      have HT := amk ht
      have H := amk h
      have H0 := amk h0
      have I0 := amk i0
      have H2 := amk h2
      have HB := amk hB
      clear h hj ht h0 i0 h2 hB p1 p2 hJ
      have HB2 := amk (((Below.refl w.heap.size w).alloc (Nat.le_refl _) (.cells #[.int .i64 a0, .slice A0 l0.length c0] 41 (0, 0))).alloc (by simp) (.cells #[.int .i64 0, .slice none 0 0] 41 (0, 0)))
      have HB3 := amk (HB2.out.alloc HB2.out.size (.cells #[.int .i64 a0, .slice A0 l0.length c0] 41 (0, 0)))
      have N2 := amk (blk_new (w.alloc (.cells #[.int .i64 a0, .slice A0 l0.length c0] 41 (0, 0))) (.cells #[.int .i64 0, .slice none 0 0] 41 (0, 0)))
      have N3 := amk (blk_new ((w.alloc (.cells #[.int .i64 a0, .slice A0 l0.length c0] 41 (0, 0))).alloc (.cells #[.int .i64 0, .slice none 0 0] 41 (0, 0))) (.cells #[.int .i64 a0, .slice A0 l0.length c0] 41 (0, 0)))
      go_enter Try.func98, Try.ntmps98
      go_wp2_with (go_at_call 101; refine Calls.mono (impl_joined.calls k _ 1 [(⟨a0, l0⟩ : S41)] 1 n J _ (one_pins (g := w.heap.size + 1 + 1) (by simpa using N3.out) (Kd.C_below H0.out HB3.out) I0.out) (Nat.le_refl _) HJJ.out) ?_; rintro e w9 ⟨v9, rfl, hs9, hb9⟩; obtain ⟨g9, c9, rfl, hg9, hg9b, _⟩ := Kd.S_form hs9 (Nat.lt_of_le_of_lt (Nat.zero_le _) HJ.out); have S9 := amk (S_ivC hs9); have G9 := amk hg9; have HB9 := amk (HB3.out.trans (hb9.mono HB3.out.size)); have BK9 := amk (show w9.heap[w.heap.size + 1]? = some (.cells #[.int .i64 0, .slice none 0 0] 41 (0, 0)) from (hb9.block _ (by simp)).trans ((((Below.refl _ _).alloc (Nat.le_refl _) _).block _ (by simp)).trans (by simpa using N2.out))); have hS10 := Kd.S_alloc S9.out (.cells #[.int .i64 n, .slice (some ⟨g9, 0, none⟩) J.length c9] 41 (0, 0)); obtain ⟨_, ce, hcl, _, hcc, hfr, _, _⟩ := Kd.S_elem hS10 ([] : List Int) (i : Int) (by omega) (by have := HJ.out; omega); obtain ⟨u, rfl⟩ : ∃ u, ce = [u] := List.length_eq_one_iff.mp hcl; have hx0 := hcc 0 u rfl; have hx1 := hfr 0; simp only [show (Kd.slice 3 (Kd.int .i64)).sz = 1 from rfl, Nat.mul_one, Nat.add_zero, Int.toNat_natCast] at hx0 hx1; have hne1 : g9 ≠ w9.heap.size := Nat.ne_of_lt hg9b; have hne2 : w9.heap.size ≠ g9 := Nat.ne_of_gt hg9b; have NE := amk hg9b; clear hs9 hb9 hcc hfr hcl hS10 hg9 hg9b)
      have R2 : Aside0 (Kd.R (Kd.int .i64) 3 (w9.alloc (.cells #[.int .i64 n, .slice (some ⟨g9, 0, none⟩) J.length c9] 41 (0, 0))) w0.heap.size (fun j => j < w.heap.size) (.slice A2 l2.length c2) l2) := ⟨Kd.R_mono (Kd.R_alloc (Kd.R_below (Kd.R_bound H2.out) HB9.out) _) (fun _ hk => hk.2.2.1)⟩
      have S11 := amk (S_row_put (okR := fun j => j < w.heap.size) (ok := fun _ => True) rfl (by decide) (Kd.S_mono (Kd.S_alloc (Kd.S_lower S9.out (base' := w0.heap.size) (by have := HB.out.size; simp; omega)) (.cells #[.int .i64 n, .slice (some ⟨g9, 0, none⟩) J.length c9] 41 (0, 0))) (fun k hk => ⟨trivial, by have := hk.1; simp at this; omega⟩)) R2.out (fun k hk => ⟨trivial, by have := G9.out; simp at this; omega⟩) (i : Int) (by omega) (by have := HJ.out; omega))
      have hSS := S11.out
      simp only [Int.toNat_natCast] at hSS
      have S11' := amk hSS
      clear hSS
      have HHA := amk (show ∀ W, Kd.C (Kd.slice 3 (Kd.int .i64)) W (some ⟨g9, 0, none⟩) (J.set i l2).length (J.set i l2) → Calls Try.prog 55 #[.agg #[.int .i64 n, .slice (some ⟨g9, 0, none⟩) J.length c9]] W fun e w' => e = .returned (.bool t) ∧ Below W.heap.size W w' from fun W hC => by
        have := impl_ArePins.calls n (some ⟨g9, 0, none⟩) c9 (J.set i l2) t W hC (by have := (Kd.S_reads' S9.out).2.1; rw [List.length_set]; exact this) HT.out
        rw [List.length_set] at this
        exact this)
      have BO := amk (show ((w9.alloc (.cells #[.int .i64 n, .slice (some ⟨g9, 0, none⟩) J.length c9] 41 (0, 0))).setCell ⟨g9, i, none⟩ (.slice A2 l2.length c2)).heap[w9.heap.size]? = some (.cells #[.int .i64 n, .slice (some ⟨g9, 0, none⟩) J.length c9] 41 (0, 0)) from (Below.heap_setCell (w9.alloc (.cells #[.int .i64 n, .slice (some ⟨g9, 0, none⟩) J.length c9] 41 (0, 0))) ⟨g9, i, none⟩ _ w9.heap.size hne2).trans (blk_new w9 _))
      have BK11 := amk (show ((w9.alloc (.cells #[.int .i64 n, .slice (some ⟨g9, 0, none⟩) J.length c9] 41 (0, 0))).setCell ⟨g9, i, none⟩ (.slice A2 l2.length c2)).heap[w.heap.size + 1]? = some (.cells #[.int .i64 0, .slice none 0 0] 41 (0, 0)) from (Below.heap_setCell (w9.alloc (.cells #[.int .i64 n, .slice (some ⟨g9, 0, none⟩) J.length c9] 41 (0, 0))) ⟨g9, i, none⟩ _ (w.heap.size + 1) (by have := G9.out; simp at this; show w.heap.size + 1 ≠ g9; omega)).trans ((((Below.refl _ w9).alloc (Nat.le_refl _) _).block _ (two_cells BK9.out).2.2.2.2).trans BK9.out))
      have HB11 := amk (show Below w.heap.size w ((w9.alloc (.cells #[.int .i64 n, .slice (some ⟨g9, 0, none⟩) J.length c9] 41 (0, 0))).setCell ⟨g9, i, none⟩ (.slice A2 l2.length c2)) from (HB9.out.alloc HB9.out.size _).setCell (p := ⟨g9, i, none⟩) (by have := G9.out; simp at this; show w.heap.size ≤ g9; omega) _)
      have hty : ∀ q, q ∈ 86 :: (Kd.slice 3 (Kd.int .i64)).E → q ≠ 41 := by intro q hq; simp [Kd.slice, Kd.int, Kd.scalar] at hq; omega
      have HTY := amk hty
      have HBX := amk hu86
      clear hty
      cases t with
      | true =>
        have hh := H.out
        simp only [if_true, Option.some.injEq, Prod.mk.injEq] at hh
        obtain ⟨rfl, rfl, rfl⟩ := hh
        go_wp2_with (go_at_call 55; refine Calls.mono (HHA.out _ (Kd.S_reads' S11'.out).2.2) ?_; rintro e w12 ⟨rfl, hb⟩; have BO12 := amk ((hb.block _ (two_cells BO.out).2.2.2.2).trans BO.out); have BK12 := amk ((hb.block _ (two_cells BK11.out).2.2.2.2).trans BK11.out); have S12 := amk (Kd.S_below S11'.out hb); have HB12 := amk (HB11.out.trans (hb.mono HB11.out.size)); clear hx0 hx1; obtain ⟨hq0, hq1, hq2, hq3, hq4⟩ := two_cells BO12.out; obtain ⟨hp0, hp1, hp2, hp3, hp4⟩ := two_cells BK12.out; clear hq4 hp4 hb)
        (try simp only [Exit.inBlock, Exit.then])
        refine bodyPost_ret (results_ct rfl _ _ (w.heap.size + 1) 41 #[.int .i64 n, .slice (some ⟨g9, 0, none⟩) J.length c9] (0, 0) _ rfl (two_set BK12.out _ _) Try.underlying41 rfl (by kernel_rfl)) rfl ?_
        refine ⟨_, rfl, Kd.S_set (Kd.S_set S12.out BK12.out HTY.out 0 _) (heap_setCell_same _ _ 0 _ _ _ BK12.out) HTY.out 1 _, ?_⟩
        exact HB.out.trans (((HB12.out.setCell (p := ⟨w.heap.size + 1, 0, none⟩) (by show w.heap.size ≤ w.heap.size + 1; omega) _).setCell (p := ⟨w.heap.size + 1, 1, none⟩) (by show w.heap.size ≤ w.heap.size + 1; omega) _).mono HB.out.size)
      | false =>
        have hh := H.out
        simp only [Bool.false_eq_true, if_false, Option.some.injEq, Prod.mk.injEq] at hh
        obtain ⟨rfl, rfl, rfl⟩ := hh
        go_wp2_with (go_at_call 55; refine Calls.mono (HHA.out _ (Kd.S_reads' S11'.out).2.2) ?_; rintro e w12 ⟨rfl, hb⟩; have BO12 := amk ((hb.block _ (two_cells BO.out).2.2.2.2).trans BO.out); have BK12 := amk ((hb.block _ (two_cells BK11.out).2.2.2.2).trans BK11.out); have HB12 := amk (HB11.out.trans (hb.mono HB11.out.size)); clear hx0 hx1; obtain ⟨hq0, hq1, hq2, hq3, hq4⟩ := two_cells BO12.out; obtain ⟨hp0, hp1, hp2, hp3, hp4⟩ := two_cells BK12.out; clear hq4 hp4 hb)
        (try simp only [Exit.inBlock, Exit.then])
        refine bodyPost_ret (results_ct rfl _ _ (w.heap.size + 1) 41 #[.int .i64 0, .slice none 0 0] (0, 0) _ rfl (two_set BK12.out _ _) Try.underlying41 rfl (by kernel_rfl)) rfl ?_
        refine ⟨_, rfl, Kd.S_nil _ _ _ _ _, ?_⟩
        exact HB.out.trans (((HB12.out.setCell (p := ⟨w.heap.size + 1, 0, none⟩) (by show w.heap.size ≤ w.heap.size + 1; omega) _).setCell (p := ⟨w.heap.size + 1, 1, none⟩) (by show w.heap.size ≤ w.heap.size + 1; omega) _).mono HB.out.size)
    · rw [if_neg p2] at h; cases h
  · rw [if_neg p1] at h; cases h
/-! slices.Clone at []int, by hand: a row of its own with the same elements. -/
def slices_Clone_int_int.f (l : List Int) : Option (List Int) := if l.length < 17592186044416 then some l else none
set_option maxHeartbeats 2000000 in
set_option maxRecDepth 100000 in
theorem slices_Clone_int_int.calls (A0 : Option Addr) (c0 : Nat) (l0 : List Int) (r : List Int) (w : World) (hr0 : Kd.C (Kd.int .i64) w A0 l0.length l0) (hc0 : l0.length ≤ c0) (h : slices_Clone_int_int.f l0 = some r) :
    Calls Try.prog 100 #[.slice A0 l0.length c0] w fun e w' => ∃ v0_ : Value, e = .returned v0_ ∧ Kd.R (Kd.int .i64) 3 w' w.heap.size (fun _ => True) v0_ r ∧ Below w.heap.size w w' := by
  unfold slices_Clone_int_int.f at h
  by_cases hl : l0.length < 17592186044416
  · rw [if_pos hl] at h
    obtain rfl := Option.some.inj h
    clear h
    have hinfo : (Try.prog.info? 3).map (fun i => (i.zero, i.size, i.bytes)) = some (some (.int .i64 0), 1, 8) := by kernel_rfl
    have HI := amk hinfo
    clear hinfo
    have HR := amk hr0
    have HL := amk hl
    clear hl
    cases A0 with
    | none =>
      have hz : l0 = [] := by
        rcases Nat.eq_zero_or_pos l0.length with h0 | h0
        · exact List.length_eq_zero_iff.1 h0
        · obtain ⟨ad, e, _⟩ := HR.out.2.2 h0
          cases e
      have HZ := amk hz
      clear hz hr0
      have hnil := fun (w : World) (n c : Nat) => Lib.run_eql_slice_nil (P := Try.prog) w 86 3 none n c 0 0 Try.underlying86
      generalize l0.length = n at *
      go_enter Try.func100, Try.ntmps100
      go_wp2
      go_ret
      refine ⟨.slice none 0 0, rfl, ?_, Below.refl _ _⟩
      rw [HZ.out]
      exact Kd.R_nil _ _ _ _ _
    | some ad =>
      clear hr0
      have hnil := fun (w : World) (n c : Nat) => Lib.run_eql_slice_nil (P := Try.prog) w 86 3 (some ad) n c 0 0 Try.underlying86
      have hu := Try.underlying86
      go_enter Try.func100, Try.ntmps100
      go_wp2_with (first | ((with_reducible refine gate_dst (N := 5) rfl ?_); refine Kd.R_lit (Kd.int .i64) (w0 := w) w.heap.size 3 ?hg (N := 5) ?hd (xs := ([] : List Int)) (inner := []) (ok := fun _ => True) (okp := fun _ => True) ?hr ?hp (fun _ hk => hk) trivial (Below.refl _ _) (Nat.le_refl _) (by simp) ?_; (case hd => rfl); (case hg => rfl); (case hr => first | (go_simp; done) | (go_simp; rfl)); (case hp => exact (Reps.none _ _)); intro v1 w1 ho hb hg_ hnew_; have HO := amk ho; have HB := amk hb; clear ho hb hg_ hnew_) | ((with_reducible refine gate_dst (N := 7) rfl ?_); refine Kd.R_append_rows (Kd.int .i64) (w0 := w) w.heap.size (by rfl) (.tmp 5) (.tmp 6) 86 3 (.int .i64 0) 8 rfl Try.underlying86 HI.out rfl (by decide) (by omega) v1 ([] : List Int) l0 _ _ _ (fun _ => True) (fun _ => False) rfl rfl ?aO ?aR (fun _ _ h => h) (fun _ h => h.elim) ?aF ?aB ?aS ?aL ?_; (case aR => exact (Kd.C_below HR.out HB.out)); (case aB => exact HB.out); (case aF => exact (fun _ _ => trivial)); (case aO => exact HO.out); (case aS => exact HB.out.size); (case aL => have := HL.out; simp only [List.length_nil]; omega); intro v2 w2 ho2 hb2 hg2 hat2; have HO2 := amk ho2; have HB2 := amk hb2; clear ho2 hb2 hg2 hat2))
      go_ret
      exact ⟨v2, rfl, by have := HO2.out; rwa [List.nil_append] at this, HB2.out⟩
  · rw [if_neg hl] at h
    cases h
theorem slices_Clone_int_int.is {l : List Int} (h : l.length < 17592186044416) : slices_Clone_int_int.f l = some l := by unfold slices_Clone_int_int.f; rw [if_pos h]
/-! slices.Sort at []int, by hand: of not more than twelve numbers, in a row of the call's own. -/
set_option maxHeartbeats 4000000 in
set_option maxRecDepth 100000 in
theorem slices_pdqsort_small (k : Nat) (P0_ : Nat → Prop) (u : Value) (l0 : List Int) (n : Nat) (lim : Int) (r : List Int) (w0 w : World) (hn : n ≤ 12) (hB : Below w0.heap.size w0 w) (ho0 : Kd.R (Kd.int .i64) 3 w w0.heap.size P0_ u l0) (h : slices_insertionSortOrdered_int.f k l0 0 (n : Int) = some r) :
    Calls Try.prog 148 #[u, .int .i64 0, .int .i64 (n : Int), .int .i64 lim] w fun e w' => e = .returned (.tuple #[]) ∧ Kd.R (Kd.int .i64) 3 w' w0.heap.size (fun k_ => (P0_ k_ ∨ w.heap.size ≤ k_)) u r ∧ Below w0.heap.size w0 w' ∧ Kept w w' (fun k_ => P0_ k_) := by
  have HC := amk (slices_insertionSortOrdered_int.calls k P0_ u l0 0 (n : Int) r w0 w hB ho0 h)
  have hd : decide ((n : Int) ≤ 12) = true := decide_eq_true (by omega)
  have hz : ((n : Int) ≤ 12) = True := eq_true (by omega)
  have hz2 : (n ≤ 12) = True := eq_true hn
  have hw : wrap64 (n : Int) = (n : Int) := w64 (by omega) (by omega)
  clear h ho0 hB
  go_enter Try.func148, Try.ntmps148
  go_wp2
  go_loopg [1, 2, 3, 8, 9] 0 (fun gg s1 s2 s3 s8 s9 wr => s1 = .int .i64 0 ∧ s2 = .int .i64 (n : Int) ∧ s3 = .int .i64 lim ∧ s8 = .bool true ∧ s9 = .bool true ∧ wr = w)
  case atStart => exact ⟨rfl, rfl, rfl, rfl, rfl, rfl⟩
  case round =>
    obtain ⟨rfl, rfl, rfl, rfl, rfl, rfl⟩ := hrel
    go_wp2_with (go_at_call 163; refine Calls.mono HC.out ?_; rintro e w2 ⟨rfl, hs, hb, hk⟩; have HS := amk hs; have HB := amk hb; have HK := amk hk; clear hs hb hk)
    (try simp only [Exit.inBlock, Exit.then])
    refine bodyPost_ret (results_none rfl _ _ _) rfl ?_
    exact ⟨rfl, HS.out, HB.out, HK.out⟩
set_option maxHeartbeats 4000000 in
set_option maxRecDepth 100000 in
theorem bits_Len64_small (n : Int) (h0 : 0 ≤ n) (h12 : n ≤ 12) (w : World) : Calls Try.prog 173 #[.int .u64 n] w fun e w' => (∃ lim : Int, e = .returned (.int .i64 lim)) ∧ Below w.heap.size w w' := by
  have hn : n = 0 ∨ n = 1 ∨ n = 2 ∨ n = 3 ∨ n = 4 ∨ n = 5 ∨ n = 6 ∨ n = 7 ∨ n = 8 ∨ n = 9 ∨ n = 10 ∨ n = 11 ∨ n = 12 := by omega
  clear h0 h12
  rcases hn with rfl | rfl | rfl | rfl | rfl | rfl | rfl | rfl | rfl | rfl | rfl | rfl | rfl <;> (
    go_enter Try.func173, Try.ntmps173
    go_wp2
    go_ret
    exact ⟨⟨_, rfl⟩, Below.refl _ _⟩)
theorem bits_Len_small (n : Int) (h0 : 0 ≤ n) (h12 : n ≤ 12) (w : World) : Calls Try.prog 149 #[.int .u64 n] w fun e w' => (∃ lim : Int, e = .returned (.int .i64 lim)) ∧ Below w.heap.size w w' := by
  have HC := amk (fun W => bits_Len64_small n h0 h12 W)
  clear h0 h12
  go_enter Try.func149, Try.ntmps149
  go_wp2_with (go_at_call 173; refine Calls.mono (HC.out _) ?_; rintro e w1 ⟨⟨lim, rfl⟩, hb⟩; have HB := amk hb; clear hb)
  go_ret
  exact ⟨⟨_, rfl⟩, HB.out⟩
set_option maxHeartbeats 4000000 in
set_option maxRecDepth 100000 in
theorem slices_Sort_small (k : Nat) (P0_ : Nat → Prop) (A : Option Addr) (c : Nat) (l0 : List Int) (n : Nat) (r : List Int) (w0 w : World) (hn : n ≤ 12) (hB : Below w0.heap.size w0 w) (ho0 : Kd.R (Kd.int .i64) 3 w w0.heap.size P0_ (.slice A n c) l0) (h : slices_insertionSortOrdered_int.f k l0 0 (n : Int) = some r) :
    Calls Try.prog 119 #[.slice A n c] w fun e w' => e = .returned (.tuple #[]) ∧ Kd.R (Kd.int .i64) 3 w' w0.heap.size (fun k_ => (P0_ k_ ∨ w.heap.size ≤ k_)) (.slice A n c) r ∧ Below w0.heap.size w0 w' ∧ Kept w w' (fun k_ => P0_ k_) := by
  have hu86 := Try.underlying86
  have HLEN := amk (fun W => bits_Len_small (n : Int) (by omega) (by omega) W)
  have HO := amk ho0
  have HB := amk hB
  have H := amk h
  have hw1 : IntKind.u64.wrap (n : Int) = (n : Int) := by simp [IntKind.wrap, IntKind.bits, IntKind.signed]; omega
  clear ho0 hB h
  go_enter Try.func119, Try.ntmps119
  go_wp2_with (first | (go_at_call 149; refine Calls.mono (HLEN.out _) ?_; rintro e w1 ⟨⟨lim, rfl⟩, hb⟩; have HD := amk hb; clear hb) | (go_at_call 148; refine Calls.mono (slices_pdqsort_small k P0_ _ l0 n lim r w0 _ hn (HB.out.trans (HD.out.mono HB.out.size)) (Kd.R_below HO.out HD.out) H.out) ?_; rintro e w2 ⟨rfl, hs, hb, hk⟩; have HS := amk hs; have HB2 := amk hb; have HK := amk hk; clear hs hb hk))
  go_end0
  exact ⟨rfl, Kd.R_mono HS.out (fun q hq => hq.imp id (fun h => Nat.le_trans HD.out.size h)), HB2.out, (Kept.of_below HD.out _).then_ HK.out (fun q hq => .inl hq)⟩
/-! Behind a row's end: what is stored there turns nothing of the row; 'clear' at one element of several cells. -/
/-! slices.Delete at []int, of one element of a row of the call's own: taken out in place. -/
/-! impl.TakePin, by hand: a row's copy without an element, stored into rows of its own. -/
theorem row_at {w : World} {A : Option Addr} {l : List (List Int)} (h : Kd.C (Kd.slice 3 (Kd.int .i64)) w A l.length l) (i : Nat) (hi : i < l.length) :
    ∃ ad Ai ci, A = some ad ∧ w.cell? (ad.add i) = some (.slice Ai (l.getD i []).length ci) ∧ (l.getD i []).length ≤ ci ∧ Kd.C (Kd.int .i64) w Ai (l.getD i []).length (l.getD i []) := by
  obtain ⟨ad, cs, e, _, hK, hc⟩ := Kd.C_get h ([] : List Int) (i : Int) (by omega) (by omega)
  obtain ⟨Ai, ci, rfl, l1, g1⟩ := hK
  have := hc 0 _ rfl
  simp only [Int.toNat_natCast, show (Kd.slice 3 (Kd.int .i64)).sz = 1 from rfl, Nat.mul_one, Nat.add_zero] at this l1 g1
  exact ⟨ad, Ai, ci, e, this, l1, g1⟩
def TP (w : World) (a0 : Int) (A0 : Option Addr) (m0 c0 : Nat) (W : World) : Prop := Below w.heap.size w W ∧ W.heap[w.heap.size]? = some (.cells #[.int .i64 a0, .slice A0 m0 c0] 41 (0, 0)) ∧ W.heap[w.heap.size + 1]? = some (.cells #[.int .i64 0, .slice none 0 0] 41 (0, 0))
section
variable {w W W2 : World} {a0 : Int} {A0 : Option Addr} {m0 c0 : Nat}
theorem TP_below (h : TP w a0 A0 m0 c0 W) (hb : Below W.heap.size W W2) : TP w a0 A0 m0 c0 W2 := ⟨h.1.trans (hb.mono h.1.size), (hb.block _ (two_cells h.2.1).2.2.2.2).trans h.2.1, (hb.block _ (two_cells h.2.2).2.2.2.2).trans h.2.2⟩
theorem TP_cells (h : TP w a0 A0 m0 c0 W) {p : Addr} {v : Value} (hc : w.cell? p = some v) : W.cell? ⟨w.heap.size, 0, none⟩ = some (.int .i64 a0) ∧ W.cell? ⟨w.heap.size, 1, none⟩ = some (.slice A0 m0 c0) ∧ W.cell? p = some v := ⟨(two_cells h.2.1).1, (two_cells h.2.1).2.1, (h.1.cell (World.block_lt_of_cell? w _ hc)).trans hc⟩
end
/-! impl.AddPin, by hand: a row's copy with an element more, sorted, stored into rows of its own. -/
def impl_AddPin.f (k : Nat) (a0 : Int) (l0 : List (List Int)) (a1 : Int) (a2 : Int) : Option (Int × List (List Int) × Bool) :=
  (impl_hasDepth.f a0 l0 a1 a2).bind fun t => if t = true then (if 0 ≤ a1 ∧ a1 < (l0.length : Int) then (if (l0.getD a1.toNat []).length ≤ 11 then (slices_insertionSortOrdered_int.f k ((l0.getD a1.toNat []) ++ [a2]) 0 (((l0.getD a1.toNat []).length + 1 : Nat) : Int)).bind fun s => impl_Pins_changed.f k a0 l0 a1 s else none) else none) else some (0, [], false)
theorem impl_Pins_changed_ownN (k : Nat) (a0 : Int) (A0 : Option Addr) (c0 : Nat) (l0 : List (List Int)) (a1 : Int) (A2 : Option Addr) (n c2 : Nat) (l2 : List Int) (r1 : Int) (r2 : List (List Int)) (r3 : Bool) (w0 w : World) (okR : Nat → Prop) (hn : l2.length = n) (hB : Below w0.heap.size w0 w) (h0 : Kd.C (Kd.slice 3 (Kd.int .i64)) w A0 l0.length l0) (i0 : l0.length ≤ c0) (h2 : Kd.R (Kd.int .i64) 3 w w0.heap.size okR (.slice A2 n c2) l2) (h : impl_Pins_changed.f k a0 l0 a1 l2 = some (r1, r2, r3)) :
    Calls Try.prog 98 #[.agg #[.int .i64 a0, .slice A0 l0.length c0], .int .i64 a1, .slice A2 n c2] w fun e w' => ∃ v1_ : Value, e = .returned (.tuple #[.agg #[.int .i64 r1, v1_], .bool r3]) ∧ Kd.S (Kd.slice 3 (Kd.int .i64)) 86 w' w0.heap.size (fun _ => True) v1_ r2 ∧ Below w0.heap.size w0 w' := by
  subst hn
  exact impl_Pins_changed_own k a0 A0 c0 l0 a1 A2 c2 l2 r1 r2 r3 w0 w okR hB h0 i0 h2 h
set_option maxHeartbeats 4000000 in
set_option maxRecDepth 100000 in
theorem impl_AddPin.calls (k : Nat) (a0 : Int) (A0 : Option Addr) (c0 : Nat) (l0 : List (List Int)) (a1 : Int) (a2 : Int) (r1 : Int) (r2 : List (List Int)) (r3 : Bool) (w : World) (h0 : Kd.C (Kd.slice 3 (Kd.int .i64)) w A0 l0.length l0) (i0 : l0.length ≤ c0) (h : impl_AddPin.f k a0 l0 a1 a2 = some (r1, r2, r3)) :
    Calls Try.prog 65 #[.agg #[.int .i64 a0, .slice A0 l0.length c0], .int .i64 a1, .int .i64 a2] w fun e w' => ∃ v1_ : Value, e = .returned (.tuple #[.agg #[.int .i64 r1, v1_], .bool r3]) ∧ Kd.S (Kd.slice 3 (Kd.int .i64)) 86 w' w.heap.size (fun _ => True) v1_ r2 ∧ Below w.heap.size w w' := by
  have hu41 := Try.underlying41
  have hu35 := Try.underlying35
  have hu86 := Try.underlying86
  unfold impl_AddPin.f at h
  obtain ⟨t, ht, h⟩ := Option.bind_eq_some_iff.mp h
  have HT := amk ht
  have H0 := amk h0
  have I0 := amk i0
  have TP2 : Aside0 (TP w a0 A0 l0.length c0 ((w.alloc (.cells #[.int .i64 a0, .slice A0 l0.length c0] 41 (0, 0))).alloc (.cells #[.int .i64 0, .slice none 0 0] 41 (0, 0)))) := ⟨((Below.refl w.heap.size w).alloc (Nat.le_refl _) _).alloc (by simp) _, (((Below.refl _ _).alloc (Nat.le_refl _) _).block _ (by simp)).trans (blk_new _ _), by simpa using blk_new (w.alloc (.cells #[.int .i64 a0, .slice A0 l0.length c0] 41 (0, 0))) (.cells #[.int .i64 0, .slice none 0 0] 41 (0, 0))⟩
  have hty : ∀ q, q ∈ 86 :: (Kd.slice 3 (Kd.int .i64)).E → q ≠ 41 := by intro q hq; simp [Kd.slice, Kd.int, Kd.scalar] at hq; omega
  have HTY := amk hty
  clear ht i0 hty
  cases t with
  | false =>
    simp only [Bool.false_eq_true, if_false, Option.some.injEq, Prod.mk.injEq] at h
    obtain ⟨rfl, rfl, rfl⟩ := h
    clear h0
    go_enter Try.func65, Try.ntmps65
    go_wp2_with (go_at_call 96; refine Calls.mono (impl_hasDepth.calls _ _ _ _ _ _ _ _ (Kd.C_below H0.out TP2.out.1) I0.out HT.out) ?_; rintro e w3 ⟨rfl, hb⟩; have TP3 := amk (TP_below TP2.out hb); obtain ⟨hp0, hp1, hp2, hp3, _⟩ := two_cells TP3.out.2.2; clear hb)
    (try simp only [Exit.inBlock, Exit.then])
    refine bodyPost_ret (results_ct rfl _ _ (w.heap.size + 1) 41 #[.int .i64 0, .slice none 0 0] (0, 0) _ rfl (two_set TP3.out.2.2 _ _) Try.underlying41 rfl (by kernel_rfl)) rfl ?_
    exact ⟨_, rfl, Kd.S_nil _ _ _ _ _, (TP3.out.1.setCell (p := ⟨w.heap.size + 1, 0, none⟩) (by show w.heap.size ≤ w.heap.size + 1; omega) _).setCell (p := ⟨w.heap.size + 1, 1, none⟩) (by show w.heap.size ≤ w.heap.size + 1; omega) _⟩
  | true =>
    rw [if_pos rfl] at h
    by_cases p1 : 0 ≤ a1 ∧ a1 < (l0.length : Int)
    · rw [if_pos p1] at h
      obtain ⟨i, rfl⟩ := Int.eq_ofNat_of_zero_le p1.1
      have hi : i < l0.length := by omega
      simp only [Int.toNat_natCast] at h
      obtain ⟨ad, Ai, ci, rfl, hrow, l1, g1⟩ := row_at h0 i hi
      have hd0 : decide ((0 : Int) ≤ (i : Int)) = true := decide_eq_true (by omega)
      have hd1 : decide ((i : Int) < (l0.length : Int)) = true := decide_eq_true p1.2
      have hz0 : ((0 : Int) ≤ (i : Int)) = True := eq_true (by omega)
      have hz1 : ((i : Int) < (l0.length : Int)) = True := eq_true p1.2
      have hz2 : (i < l0.length) = True := eq_true hi
      generalize l0.getD i [] = row at hrow l1 g1 h
      by_cases p4 : row.length ≤ 11
      · rw [if_pos p4] at h
        obtain ⟨s, hs, h⟩ := Option.bind_eq_some_iff.mp h
        obtain ⟨N, hN⟩ : ∃ N, (row ++ [a2]).length = N := ⟨_, rfl⟩
        have hN2 : N = row.length + 1 := by rw [← hN]; simp
        rw [← hN2] at hs
        have HROW := amk hrow
        have L1 := amk l1
        have G1 := amk g1
        have HS := amk hs
        have H := amk h
        have HN := amk hN
        have HN2 := amk hN2
        have P4 := amk p4
        clear hrow l1 g1 hs h h0 p1 hi hN hN2 p4
        go_enter Try.func65, Try.ntmps65
        go_wp2_with (first | (go_at_call 96; refine Calls.mono (impl_hasDepth.calls _ _ _ _ _ _ _ _ (Kd.C_below H0.out TP2.out.1) I0.out HT.out) ?_; rintro e w3 ⟨rfl, hb⟩; have TP3 := amk (TP_below TP2.out hb); obtain ⟨hq0, hq1, hq2⟩ := TP_cells TP3.out HROW.out; clear hb) | (go_at_call 100; refine Calls.mono (slices_Clone_int_int.calls Ai ci row row _ (Kd.C_below G1.out TP3.out.1) L1.out (slices_Clone_int_int.is (by have := P4.out; omega))) ?_; rintro e w7 ⟨v7, rfl, hr, hb⟩; have R7 := amk hr; have B7 := amk hb; clear hr hb hq0 hq1 hq2) | ((with_reducible refine gate_builtin (b := .append) (xs := #[.tmp 20, .tmp 22]) rfl ?_); at_builtin; refine Kd.R_append (Kd.int .i64) (w0 := w3) w3.heap.size rfl (.tmp 20) (.tmp 22) 86 3 (.int .i64 0) 8 rfl Try.underlying86 info3 rfl (by decide) (by omega) v7 row a2 [.int .i64 a2] (fun _ => True) (fun _ => False) rfl rfl ?aP (fun _ hk => hk.elim) ?aF ?aO ?aB ?aS ?aL ?_; (case aP => exact rfl); (case aB => exact B7.out); (case aF => exact (fun _ _ => trivial)); (case aO => exact R7.out); (case aS => exact B7.out.size); (case aL => have := P4.out; omega); intro v8 w8 ho hb hg_ hat_; clear hg_ hat_; obtain ⟨A8, c8, hv⟩ := Kd.R_slice ho; rw [HN.out] at hv; subst hv; have R8 := amk ho; have B8 := amk hb; have TP8 := amk (TP_below TP3.out hb); clear ho hb) | (go_at_call 119; refine Calls.mono (slices_Sort_small k (fun _ => True) A8 c8 (row ++ [a2]) N s w3 _ (by have := P4.out; have := HN2.out; omega) B8.out R8.out HS.out) ?_; rintro e w9 ⟨rfl, hr, hb, hk⟩; have R9 := amk hr; have B9 := amk hb; have TP9 := amk (TP_below TP3.out hb); obtain ⟨hq0, hq1, hq2⟩ := TP_cells TP9.out HROW.out; clear hr hb hk) | (go_at_call 98; refine Calls.mono (impl_Pins_changed_ownN k a0 (some ad) c0 l0 (i : Int) A8 N c8 s r1 r2 r3 w3 _ _ (Kd.R_reads' R9.out).1.symm B9.out (Kd.C_below H0.out TP9.out.1) I0.out R9.out H.out) ?_; rintro e w10 ⟨v10, rfl, hs, hb⟩; obtain ⟨A10, c10, rfl⟩ := Kd.S_slice hs; have S10 := amk hs; have TP10 := amk (TP_below TP3.out hb); obtain ⟨hp0, hp1, hp2, hp3, _⟩ := two_cells TP10.out.2.2; clear hs hb))
        (try simp only [Exit.inBlock, Exit.then])
        refine bodyPost_ret (results_ct rfl _ _ (w.heap.size + 1) 41 #[.int .i64 r1, .slice A10 r2.length c10] (0, 0) _ rfl (two_set TP10.out.2.2 _ _) Try.underlying41 rfl (by kernel_rfl)) rfl ?_
        refine ⟨_, rfl, Kd.S_set (Kd.S_set (Kd.S_lower S10.out TP3.out.1.size) TP10.out.2.2 HTY.out 0 _) (heap_setCell_same _ _ 0 _ _ _ TP10.out.2.2) HTY.out 1 _, ?_⟩
        exact (TP10.out.1.setCell (p := ⟨w.heap.size + 1, 0, none⟩) (by show w.heap.size ≤ w.heap.size + 1; omega) _).setCell (p := ⟨w.heap.size + 1, 1, none⟩) (by show w.heap.size ≤ w.heap.size + 1; omega) _
      · rw [if_neg p4] at h; cases h
    · rw [if_neg p1] at h; cases h
/-! ### laws_markIntS: function 133 -/
def laws_markIntS.l0 : Nat → List Int → Int → Int → Option (Int × List Int)
  | 0, _, _, _ => none
  | k + 1, x0, x1, x5 => if x5 < (x0.length : Int) then (if 0 ≤ x5 then (laws_markIntS.l0 k (x0.set (x5 : Int).toNat x1) (wrap64 (x1 + 1)) (wrap64 (x5 + 1))) else (none)) else (some (x1, x0))
def laws_markIntS.f (k : Nat) (l0 : List Int) (a1 : Int) : Option (Int × List Int) := laws_markIntS.l0 k l0 a1 0
set_option maxHeartbeats 8000000 in
set_option maxRecDepth 100000 in
theorem laws_markIntS.calls (k : Nat) (P0_ : Nat → Prop) (u9000_ : Value) (l0 : List Int) (a1 : Int) (r1 : Int) (r2 : List Int) (w0 w : World) (hB : Below w0.heap.size w0 w) (ho0 : Kd.R (Kd.int .i64) 3 w w0.heap.size P0_ u9000_ l0) (h : laws_markIntS.f k l0 a1 = some (r1, r2)) :
    Calls Try.prog 133 #[u9000_, .int .i64 a1] w fun e w' => e = .returned (.int .i64 r1) ∧ Kd.R (Kd.int .i64) 3 w' w0.heap.size (fun k_ => (P0_ k_ ∨ w.heap.size ≤ k_)) u9000_ r2 ∧ Below w0.heap.size w0 w' ∧ Kept w w' (fun k_ => P0_ k_) := by
  have HO0 := amk (show Kd.R (Kd.int .i64) 3 w w0.heap.size (fun k_ => (P0_ k_ ∨ w.heap.size ≤ k_)) u9000_ l0 from Kd.R_mono ho0 (fun k_ hk => (.inl hk)))
  have HK := amk (Kept.refl w (fun k_ => P0_ k_))
  have HW0 := amk hB.size
  have HB := amk hB
  clear hB
  have H : (laws_markIntS.l0 k l0 a1 0) = some (r1, r2) := h
  clear h
  have H' := amk H
  clear H
  go_enter Try.func133, Try.ntmps133
  go_wp2
  go_loopg [1, 5] k (fun kq v1 v5 w' => ∃ (x0_1 : List Int) (x1_1 : Int) (x5_1 : Int), v1 = .int .i64 x1_1 ∧ v5 = .int .i64 x5_1 ∧ Aside0 (laws_markIntS.l0 kq x0_1 x1_1 x5_1 = some (r1, r2)) ∧ Aside0 (kq ≤ k) ∧ Aside0 (Kd.R (Kd.int .i64) 3 w' w0.heap.size (fun k_ => (P0_ k_ ∨ w.heap.size ≤ k_)) u9000_ x0_1) ∧ Aside0 (Kept w w' (fun k_ => P0_ k_)) ∧ Aside0 (Below w0.heap.size w0 w'))
  case atStart => exact ⟨(l0), (a1), (0), (by first | rfl | (simp; done) | (simp [*]; done)), (by first | rfl | (simp; done) | (simp [*]; done)), H', ⟨Nat.le_refl _⟩, ⟨by (with_reducible repeat (first | apply Kd.R_alloc | apply Kd.R_drewN | apply Kd.R_drew)); exact HO0.out⟩, ⟨by repeat (first | (with_reducible first | exact HK.out | apply Kept.alloc | apply Kept.drewN | apply Kept.drew) | exact HK.out)⟩, ⟨by repeat (first | (with_reducible first | exact HB.out | apply ba_ | apply bn_ | apply bd_) | exact HB.out)⟩⟩
  case round =>
    clear H'
    try clear c1; try clear p2
    obtain ⟨x0_1, x1_1, x5_1, rfl, rfl, HA, HK1, HO_0, HK, HB⟩ := hrel
    cases gk with
    | zero => exact absurd HA.out (by simp [laws_markIntS.l0])
    | succ k1 =>
      have H := HA.out
      clear HA
      simp only [laws_markIntS.l0] at H
      by_cases c3 : x5_1 < (x0_1.length : Int)
      · rw [if_pos c3] at H
        have c3b0 : decide (x5_1 < (x0_1.length : Int)) = true := decide_eq_true c3
        clear c3
        by_cases c4 : 0 ≤ x5_1
        · rw [if_pos c4] at H
          have c4b0 : decide (0 ≤ x5_1) = true := decide_eq_true c4
          clear c4
          obtain ⟨y375, hy375⟩ : ∃ y_ : List Int, y_ = (x0_1.set (x5_1 : Int).toNat x1_1) := ⟨_, rfl⟩
          replace H : (laws_markIntS.l0 k1 y375 (wrap64 (x1_1 + 1)) (wrap64 (x5_1 + 1))) = some (r1, r2) := by first | (rw [hy375]; with_reducible exact H) | (have H2_ := (Option.bind_some _ _).symm.trans H; rw [hy375]; with_reducible exact H2_) | (have H2_ := (Option.bind_some _ _).symm.trans H; with_reducible exact H2_) | with_reducible exact H | (rw [hy375]; exact H) | exact H
          have Ny375 := amk hy375
          clear hy375
          have H' := amk H
          clear H
          obtain ⟨Ao6, co6, eo6⟩ := Kd.R_slice HO_0.out
          subst eo6
          have p5 : 0 ≤ (x5_1 : Int) := of_decide_eq_true (by first | (with_reducible assumption) | assumption)
          have q5 : (x5_1 : Int) < ((x0_1.length : Int) : Int) := of_decide_eq_true (by first | (with_reducible assumption) | assumption)
          obtain ⟨go5, co5, eo5, gb5, gl5, cl5, HG5⟩ := Kd.R_form HO_0.out (by omega)
          (first | cases eo5 | (injection eo5 with ea_ en_ ec_; (first | subst ea_ | (injection ea_ with ea_; subst ea_)); subst ec_; clear en_))
          have GB5 := amk gb5
          have GG5 := amk HG5
          clear gb5 gl5 HG5
          have HMgo5 := amk (show (P0_ go5 ∨ w.heap.size ≤ go5) from (HO_0.out.1 _ rfl))
          obtain ⟨hx5_0, hf5_0⟩ := Kd.R_celln 0 HO_0.out (x5_1 : Int) p5 q5
          replace p5 := eq_true p5
          replace q5 := eq_true q5
          have HP7 := Kd.R_putg HO_0.out (x5_1 : Int) x1_1
          go_wp2_with (first | ((with_reducible refine gate_store (t := 3) (p := 15) rfl ?_); refine store_event (t := 3) (p := 15) (v := ?vo_w8) (w1 := (wr.setCell ⟨go5, (x5_1 : Int).toNat, none⟩ (.int .i64 x1_1))) ?hg ?ho ?hn ?hr ?_; (case ho => rfl); (case hg => rfl); (case hn => rfl); (case hr => first | (go_simp; done) | (go_simp; rfl)); intro w8 hw; have hg : wr.grownBy w8 (some go5) := (by rw [hw]; exact HP7.2); have hp_ : Kd.R (Kd.int .i64) 3 w8 w0.heap.size (fun k_ => (P0_ k_ ∨ w.heap.size ≤ k_)) (.slice (some ⟨go5, 0, none⟩) x0_1.length co6) y375 := (by rw [hw, Ny375.out]; exact HP7.1); clear HP7; have n0_ := amk (hp_); have n1_ := amk ((by rw [hw]; exact bs_ (HB.out) GB5.out : Below w0.heap.size w0 w8)); have n2_ := amk (Kept.of_grown (S := (fun k_ => P0_ k_)) hg (by repeat (first | (with_reducible first | exact HK.out | apply Kept.alloc | apply Kept.drewN | apply Kept.drew) | exact HK.out)) (fun k_ e_ => (HO_0.out.1 k_ e_))); clear HO_0; clear HB; clear HK; have HO_0 := n0_; have HB := n1_; have HK := n2_; clear n0_ n1_ n2_; clear hg hw hp_))
          go_roundg k1
          case measure => have := HK1.out; omega
          case rel => exact ⟨(y375), (wrap64 (x1_1 + 1)), (wrap64 (x5_1 + 1)), (by first | rfl | (simp; done) | (simp [*]; done)), (by first | rfl | (simp; done) | (simp [*]; done)), H', ⟨by have := HK1.out; omega⟩, ⟨by (with_reducible repeat (first | apply Kd.R_alloc | apply Kd.R_drewN | apply Kd.R_drew)); exact HO_0.out⟩, ⟨by repeat (first | (with_reducible first | exact HK.out | apply Kept.alloc | apply Kept.drewN | apply Kept.drew) | exact HK.out)⟩, ⟨by repeat (first | (with_reducible first | exact HB.out | apply ba_ | apply bn_ | apply bd_) | exact HB.out)⟩⟩
        · rw [if_neg c4] at H
          exact absurd H (by simp)
      · rw [if_neg c3] at H
        have c3b0 : decide (x5_1 < (x0_1.length : Int)) = false := decide_eq_false c3
        clear c3
        simp only [Option.some.injEq, Prod.mk.injEq] at H
        obtain ⟨rfl, rfl⟩ := H
        obtain ⟨Ao9, co9, eo9⟩ := Kd.R_slice HO_0.out
        subst eo9
        go_wp2
        go_ret
        exact ⟨by first | rfl | (simp [errW_none, errW_some] <;> rfl) | (simp [*, errW_none, errW_some] <;> rfl), by (with_reducible repeat (first | apply Kd.R_alloc | apply Kd.R_drewN | apply Kd.R_drew)); exact HO_0.out, by repeat (first | (with_reducible first | exact HB.out | apply ba_ | apply bn_ | apply bd_) | exact HB.out), by repeat (first | (with_reducible first | exact HK.out | apply Kept.alloc | apply Kept.drewN | apply Kept.drew) | exact HK.out)⟩
/-! laws.markIntSS, by hand: each row is lent, written, and given back. -/
def markRows (k : Nat) : List (List Int) → Int → Option (Int × List (List Int))
  | [], a => some (a, [])
  | x :: t, a => (laws_markIntS.f k x a).bind fun p => (markRows k t p.1).bind fun q => some (q.1, p.2 :: q.2)
def laws_markIntSS.f (k : Nat) (l : List (List Int)) (a : Int) : Option (Int × List (List Int)) := markRows k l a
theorem laws_markIntSS.empty (u : Value) (a1 : Int) (w : World) (A : Option Addr) (c : Nat) (hu : u = .slice A 0 c) : Calls Try.prog 82 #[u, .int .i64 a1] w fun e w' => e = .returned (.int .i64 a1) ∧ w' = w := by
  subst hu
  have hu35 := Try.underlying35
  go_enter Try.func82, Try.ntmps82
  go_wp2
  go_loopg [1, 5] 0 (fun gg s1 s5 wr => s1 = .int .i64 a1 ∧ s5 = .int .i64 0 ∧ wr = w)
  case atStart => exact ⟨rfl, rfl, rfl⟩
  case round =>
    obtain ⟨rfl, rfl, rfl⟩ := hrel
    go_wp2
    go_ret
    exact ⟨rfl, rfl⟩
set_option maxHeartbeats 4000000 in
set_option maxRecDepth 100000 in
theorem laws_markIntSS.calls (k : Nat) (P0_ : Nat → Prop) (u9000_ : Value) (l0 : List (List Int)) (a1 : Int) (r1 : Int) (r2 : List (List Int)) (w0 w : World) (hB : Below w0.heap.size w0 w) (ho0 : Kd.S (Kd.slice 3 (Kd.int .i64)) 86 w w0.heap.size P0_ u9000_ l0) (h : laws_markIntSS.f k l0 a1 = some (r1, r2)) :
    Calls Try.prog 82 #[u9000_, .int .i64 a1] w fun e w' => e = .returned (.int .i64 r1) ∧ Kd.S (Kd.slice 3 (Kd.int .i64)) 86 w' w0.heap.size P0_ u9000_ r2 ∧ Below w0.heap.size w0 w' ∧ Kept w w' P0_ := by
  by_cases hpos : 0 < l0.length
  · obtain ⟨g, cap, rfl, hg1, hg2, _⟩ := Kd.S_form ho0 hpos
    have hbig := (Kd.S_reads' ho0).2.2.2.1
    have hu35 := Try.underlying35
    unfold laws_markIntSS.f at h
    have HO := amk ho0
    have H := amk h
    have HB := amk hB
    clear ho0 h hB hg1 hg2 hpos
    generalize hn : l0.length = n at hbig
    have HN := amk hn
    clear hn
    go_enter Try.func82, Try.ntmps82
    go_wp2
    go_loopg [1, 5] n (fun gg s1 s5 wr => ∃ (i : Nat) (a : Int) (D R' : List (List Int)), s1 = .int .i64 a ∧ s5 = .int .i64 (i : Int) ∧ Aside0 (i ≤ n) ∧ Aside0 (n - i ≤ gg) ∧ Aside0 (D.length = i) ∧ Aside0 (markRows k (l0.drop i) a = some (r1, R')) ∧ Aside0 (r2 = D ++ R') ∧ Aside0 (Kd.S (Kd.slice 3 (Kd.int .i64)) 86 wr w0.heap.size P0_ (.slice (some ⟨g, 0, none⟩) n cap) (D ++ l0.drop i)) ∧ Aside0 (Below w0.heap.size w0 wr) ∧ Aside0 (Kept w wr P0_))
    case atStart => exact ⟨0, a1, [], r2, rfl, rfl, ⟨by omega⟩, ⟨by omega⟩, ⟨rfl⟩, H, ⟨rfl⟩, ⟨by have := HO.out; rw [HN.out] at this; exact this⟩, HB, ⟨Kept.refl _ _⟩⟩
    case round =>
      obtain ⟨i, a, D, R', rfl, rfl, HI, HG, HD, HM, HR2, HS, HBB, HK⟩ := hrel
      by_cases hlt : i < n
      · have hlw : decide ((i : Int) < (n : Int)) = true := decide_eq_true (by omega)
        have hlwn : decide (i < n) = true := decide_eq_true hlt
        have hiz : ((0 : Int) ≤ (i : Int)) = True := eq_true (by omega)
        have hlz2 : ((i : Int) < (n : Int)) = True := eq_true (by omega)
        have hnl := HN.out
        have hdr : l0.drop i = l0[i] :: l0.drop (i + 1) := List.drop_eq_getElem_cons (by omega)
        have hm := HM.out
        rw [hdr] at hm
        unfold markRows at hm
        obtain ⟨p, hp, hm⟩ := Option.bind_eq_some_iff.mp hm
        obtain ⟨q, hq, hm⟩ := Option.bind_eq_some_iff.mp hm
        obtain ⟨pa, px⟩ := p
        obtain ⟨qa, qx⟩ := q
        injection hm with hm
        injection hm with e1 e2
        subst e1
        obtain ⟨oki, cs, hcl, hMx, hcc, hoki, hH⟩ := Kd.S_lend HS.out [] (i : Int) (by omega) (by omega)
        have hx : (D ++ l0.drop i).getD (i : Int).toNat [] = l0[i] := by
          have hd := HD.out
          rw [Int.toNat_natCast, hdr, List.getD_eq_getElem?_getD, List.getElem?_append_right (by omega), hd, Nat.sub_self]
          rfl
        rw [hx] at hMx
        obtain ⟨v, rfl, hRv⟩ := hMx
        have hcell := hcc 0 v rfl
        simp only [Int.toNat_natCast] at hcell
        rw [show i * (Kd.slice 3 (Kd.int .i64)).sz + 0 = i from Nat.mul_one i] at hcell
        have HV := amk hRv
        have HH := amk hH
        have HP := amk hp
        have HQ := amk hq
        have HE2 := amk e2
        have HOK := amk hoki
        have HDR := amk hdr
        have hw1 : wrap64 ((i : Int) + 1) = ((i + 1 : Nat) : Int) := by unfold wrap64; omega
        clear hRv hH hp hq hm e2 hcc hcl hx hdr hoki
        have HLT := amk hlt
        go_wp2_with (go_at_call 133; refine (laws_markIntS.calls k oki _ _ _ _ _ w0 _ HBB.out HV.out HP.out).mono ?_; rintro e w9 ⟨rfl, hr9, hb9, hk9⟩)
        go_roundg (n - (i + 1))
        case measure => have := HG.out; have := HLT.out; omega
        case rel =>
          have hd := HD.out
          have hR9 : (Kd.int .i64).R 3 w9 w0.heap.size oki v px := Kd.R_reok rfl hr9 (fun k_ e_ => HV.out.1 k_ e_)
          have hM9 : (Kd.slice 3 (Kd.int .i64)).M w9 w0.heap.size oki px [v] := ⟨v, rfl, hR9⟩
          have hH9 := Kd.H_kept HH.out hk9 (fun k_ _ hn => hn)
          have hS9 := Kd.H_back hH9 hM9 (fun _ h => h)
          have hset : (D ++ l0.drop i).set (i : Int).toNat px = (D ++ [px]) ++ l0.drop (i + 1) := by
            rw [Int.toNat_natCast, HDR.out, List.set_append_right _ _ (by omega), hd, Nat.sub_self, List.set_cons_zero, List.append_assoc]
            rfl
          rw [hset] at hS9
          refine ⟨i + 1, pa, D ++ [px], qx, rfl, rfl, ⟨by have := HLT.out; omega⟩, ⟨by omega⟩, ⟨by rw [List.length_append, hd]; rfl⟩, HQ, ⟨by rw [HR2.out, ← HE2.out, List.append_assoc]; rfl⟩, ⟨hS9⟩, ⟨hb9⟩, ⟨HK.out.then_ hk9 (fun k_ hk => .inl (HOK.out k_ hk).1)⟩⟩
      · have hlw : decide ((i : Int) < (n : Int)) = false := decide_eq_false (by omega)
        have hlwn : decide (i < n) = false := decide_eq_false hlt
        have hin : i = n := by have := HI.out; omega
        have hm := HM.out
        rw [List.drop_eq_nil_of_le (by rw [HN.out]; omega)] at hm
        unfold markRows at hm
        injection hm with hm
        injection hm with e1 e2
        subst e1
        have HSX := HS.out
        rw [List.drop_eq_nil_of_le (by rw [HN.out]; omega), e2, ← HR2.out] at HSX
        have HSXX := amk HSX
        clear HSX hin hlt e2
        go_wp2
        go_ret
        exact ⟨rfl, HSXX.out, HBB.out, HK.out⟩
  · obtain rfl : l0 = [] := List.length_eq_zero_iff.mp (by omega)
    obtain ⟨A, c, he⟩ := Kd.S_slice ho0
    unfold laws_markIntSS.f markRows at h
    injection h with h
    injection h with e1 e2
    subst e1 e2
    refine (laws_markIntSS.empty u9000_ a1 w A c he).mono ?_
    rintro e w' ⟨rfl, rfl⟩
    exact ⟨rfl, ho0, hB, Kept.refl _ _⟩
/-! laws.markPins, by hand. -/
def laws_markPins.f (k : Nat) (n : Int) (l : List (List Int)) (a : Int) : Option (Int × List (List Int)) := laws_markIntSS.f k l a
set_option maxRecDepth 100000 in
theorem laws_markPins.calls (k : Nat) (P0_ : Nat → Prop) (n : Int) (A : Option Addr) (m c : Nat) (l0 : List (List Int)) (a1 : Int) (r1 : Int) (r2 : List (List Int)) (w0 w : World) (hB : Below w0.heap.size w0 w) (hP : ∀ j, P0_ j → j < w.heap.size) (ho0 : Kd.S (Kd.slice 3 (Kd.int .i64)) 86 w w0.heap.size P0_ (.slice A m c) l0) (h : laws_markPins.f k n l0 a1 = some (r1, r2)) :
    Calls Try.prog 27 #[.agg #[.int .i64 n, .slice A m c], .int .i64 a1] w fun e w' => e = .returned (.int .i64 r1) ∧ Kd.S (Kd.slice 3 (Kd.int .i64)) 86 w' w0.heap.size P0_ (.slice A m c) r2 ∧ Below w0.heap.size w0 w' ∧ Kept w w' P0_ := by
  have hu41 := Try.underlying41
  have hu35 := Try.underlying35
  have HO := amk (Kd.S_alloc ho0 (.cells #[.int .i64 n, .slice A m c] 41 (0, 0)))
  have H := amk h
  have HB := amk (hB.alloc hB.size (.cells #[.int .i64 n, .slice A m c] 41 (0, 0)))
  clear ho0 h hB
  go_enter Try.func27, Try.ntmps27
  go_wp2_with (go_at_call 82; refine (laws_markIntSS.calls k P0_ _ _ _ _ _ w0 _ HB.out HO.out H.out).mono ?_; rintro e w9 ⟨rfl, hs9, hb9, hk9⟩)
  go_ret
  exact ⟨rfl, hs9, hb9, ⟨by have := hk9.1; simp at this; omega, fun i hi hn => (hk9.2 i (by simp; omega) hn).trans (((Below.refl _ w).alloc (Nat.le_refl _) _).block i hi)⟩⟩
/-! ### spec_l1Own: function 139 -/
def spec_l1Own.f (l0 : List Int) : Option (List Int) := (some (([] : List Int) : List Int)).bind fun y505 => (if y505.length + l0.length < 17592186044416 then (some (y505 ++ l0)) else (none))
set_option maxHeartbeats 8000000 in
set_option maxRecDepth 100000 in
theorem spec_l1Own.calls (A0 : Option Addr) (c0 : Nat) (l0 : List Int) (r : List Int) (w : World) (hr0 : Kd.C (Kd.int .i64) w A0 l0.length l0) (hc0 : l0.length ≤ c0) (h : spec_l1Own.f l0 = some r) :
    Calls Try.prog 139 #[.slice A0 l0.length c0] w fun e w' => ∃ v0_ : Value, e = .returned (v0_) ∧ Kd.R (Kd.int .i64) 3 w' w.heap.size (fun _ => True) v0_ r ∧ Below w.heap.size w w' := by
  have HR0 := amk hr0
  have HC0 := amk hc0
  clear hr0 hc0
  have HB := amk (Below.refl w.heap.size w)
  have H : ((some (([] : List Int) : List Int)).bind fun y505 => (if y505.length + l0.length < 17592186044416 then (some (y505 ++ l0)) else (none))) = some r := h
  clear h
  obtain ⟨y505, hy505⟩ : ∃ y_ : List Int, y_ = (([] : List Int)) := ⟨_, rfl⟩
  replace H : (if y505.length + l0.length < 17592186044416 then (some (y505 ++ l0)) else (none)) = some r := by first | (rw [hy505]; with_reducible exact H) | (have H2_ := (Option.bind_some _ _).symm.trans H; rw [hy505]; with_reducible exact H2_) | (have H2_ := (Option.bind_some _ _).symm.trans H; with_reducible exact H2_) | with_reducible exact H | (rw [hy505]; exact H) | exact H
  have Ny505 := amk hy505
  clear hy505
  by_cases c2 : y505.length + l0.length < 17592186044416
  · rw [if_pos c2] at H
    have LMc2 := amk c2
    clear c2
    obtain ⟨y508, hy508⟩ : ∃ y_ : List Int, y_ = (y505 ++ l0) := ⟨_, rfl⟩
    replace H : (some y508) = some r := by first | (rw [hy508]; with_reducible exact H) | (have H2_ := (Option.bind_some _ _).symm.trans H; rw [hy508]; with_reducible exact H2_) | (have H2_ := (Option.bind_some _ _).symm.trans H; with_reducible exact H2_) | with_reducible exact H | (rw [hy508]; exact H) | exact H
    have Ny508 := amk hy508
    clear hy508
    obtain rfl := Option.some.inj H
    go_enter Try.func139, Try.ntmps139
    go_wp2_with (first | ((with_reducible refine gate_dst (N := 3) rfl ?_); refine Kd.R_lit (Kd.int .i64) _ 3 ?hg (N := 3) ?hd (xs := ([] : List Int)) (inner := []) (ok := fun _ => True) (okp := fun _ => True) ?hr ?hp (fun _ hk => hk) trivial (Below.refl _ _) (Nat.le_refl _) (by simp) ?_; (case hd => rfl); (case hg => rfl); (case hr => first | (go_simp; done) | (go_simp; rfl)); (case hp => exact (Reps.none _ _)); intro v506 w3 ho4 hb hg_ hnew_; clear hg_ hnew_; (first | rw [← Ny505.out] at ho4 | (simp only [Int.reduceToNat] at ho4; rw [← Ny505.out] at ho4)); have n0_ := amk (Kd.R_lower ho4 (below_size (by repeat (first | (with_reducible first | exact HB.out | apply ba_ | apply bn_ | apply bd_) | exact HB.out)))); have n1_ := amk (bp_ (by repeat (first | (with_reducible first | exact HB.out | apply ba_ | apply bn_ | apply bd_) | exact HB.out)) hb); clear HB; have HO507 := n0_; have HB := n1_; clear n0_ n1_; clear hb ho4) | ((with_reducible refine gate_builtin (b := .append) (xs := #[.tmp 3, .tmp 4]) rfl ?_); at_builtin; refine Kd.R_append_rows (Kd.int .i64) (w0 := w) w.heap.size rfl (.tmp 3) (.tmp 4) 86 3 (.int .i64 0) 8 rfl Try.underlying86 info3 rfl (by decide) (by omega) v506 y505 l0 _ _ _ (fun _ => True) (fun _ => False) rfl rfl ?aO ?aR (fun _ _ h => h) (fun _ h => h.elim) ?aF ?aB ?aS ?aL ?_; (case aR => repeat (first | exact (Kd.C_below HR0.out HB.out) | (with_reducible refine Kd.C_alloc ?_ _) | (with_reducible refine Kd.C_drewN ?_ _) | (with_reducible refine Kd.C_drew ?_))); (case aB => exact (by repeat (first | (with_reducible first | exact HB.out | apply ba_ | apply bn_ | apply bd_) | exact HB.out))); (case aF => exact (fun _ _ => trivial)); (case aO => exact (by (with_reducible repeat (first | apply Kd.R_alloc | apply Kd.R_drewN | apply Kd.R_drew)); exact HO507.out)); (case aS => exact (below_size (by repeat (first | (with_reducible first | exact HB.out | apply ba_ | apply bn_ | apply bd_) | exact HB.out)))); (case aL => have := LMc2.out; omega); intro v509 w5 ho hb hg hat; rw [← Ny508.out] at ho; have n0_ := amk (hb); have n1_ := amk (ho); clear HB; clear HO507; have HB := n0_; have HO510 := n1_; clear n0_ n1_; clear ho hb hg hat))
    go_ret
    exact ⟨_, by first | rfl | (simp [errW_none, errW_some] <;> rfl) | (simp [*, errW_none, errW_some] <;> rfl), by (with_reducible repeat (first | apply Kd.R_alloc | apply Kd.R_drewN | apply Kd.R_drew)); exact HO510.out, by repeat (first | (with_reducible first | exact HB.out | apply ba_ | apply bn_ | apply bd_) | exact HB.out)⟩
  · rw [if_neg c2] at H
    exact absurd H (by simp)
/-! ### spec_keOwn: function 95 -/
def spec_keOwn.l0 : Nat → List (List Int) → Int → Int → Int → List (List Int) → Option (Int × (List (List Int)))
  | 0, _, _, _, _, _ => none
  | k + 1, x10, x11, x12, x514000, x514001 => if x12 < x11 then (if 0 ≤ x12 then (if x12 < (x10.length : Int) then ((spec_l1Own.f (rd_L5 x10 x12)).bind fun t515 => (if x514001.length < 5864062014805 then (spec_keOwn.l0 k x10 x11 (wrap64 (x12 + 1)) x514000 (x514001 ++ [t515])) else (none))) else (none)) else (none)) else (some (x514000, x514001))
def spec_keOwn.f (k : Nat) (a0_0 : Int) (l0_1 : List (List Int)) : Option (Int × (List (List Int))) := spec_keOwn.l0 k l0_1 (l0_1.length : Int) 0 a0_0 ([] : List (List Int))
def spec_keOwn.T5 : Bool × List (List Nat × List Nat) := (true, [([], []), ([0], [0]), ([], []), ([2], [2]), ([3], [3]), ([1, 4, 3], [1, 4]), ([0, 1, 2, 3, 4, 5], []), ([6, 5, 5, 0, 1, 2, 3, 4, 5], [5, 6])])
def spec_keOwn.B5 : List Nat := [0, 1, 0, 4, 12, 31, 63, 127]
theorem spec_keOwn.tab5 : rtab .any (opsOf Try.f95 5) = spec_keOwn.T5 := by kernel_rfl
theorem spec_keOwn.bits5 : waitsOk spec_keOwn.T5.2 spec_keOwn.B5 = true := by kernel_rfl
set_option maxHeartbeats 8000000 in
set_option maxRecDepth 100000 in
theorem spec_keOwn.calls (k : Nat) (a0_0 : Int) (A0_1 : Option Addr) (c0_1 : Nat) (l0_1 : List (List Int)) (r1 : Int) (r2 : List (List Int)) (w : World) (hr0_1 : Kd.C (Kd.slice 3 (Kd.int .i64)) w A0_1 l0_1.length l0_1) (hc0_1 : l0_1.length ≤ c0_1) (h : spec_keOwn.f k a0_0 l0_1 = some (r1, r2)) :
    Calls Try.prog 95 #[.agg #[.int .i64 a0_0, .slice A0_1 l0_1.length c0_1]] w fun e w' => ∃ v1_ : Value, e = .returned (.agg #[.int .i64 r1, v1_]) ∧ Kd.S (Kd.slice 3 (Kd.int .i64)) 86 w' w.heap.size (fun _ => True) v1_ r2 ∧ Below w.heap.size w w' := by
  have hu41 := Try.underlying41
  have HR0_1 := amk hr0_1
  have HC0_1 := amk hc0_1
  clear hr0_1 hc0_1
  have HB := amk (Below.refl w.heap.size w)
  have H : (spec_keOwn.l0 k l0_1 (l0_1.length : Int) 0 a0_0 ([] : List (List Int))) = some (r1, r2) := h
  clear h
  have H' := amk H
  clear H
  go_enter Try.func95, Try.ntmps95
  go_wp2_with (first | ((with_reducible refine gate_dst (N := 1) rfl ?_); refine box_event ?hg (N := 1) ?hd (cs := #[.int .i64 a0_0, .slice A0_1 l0_1.length c0_1]) (t := 41) ?hr ?_; (case hd => rfl); (case hg => rfl); (case hr => first | (go_simp; done) | (go_simp; rfl)); intro gb511 hg w2 hbox hb; have n0_ := amk (bp_ (by repeat (first | (with_reducible first | exact HB.out | apply ba_ | apply bn_ | apply bd_) | exact HB.out)) hb); have n1_ := amk (hbox); have n2_ := amk ((by rw [hg]; exact (below_size (by repeat (first | (with_reducible first | exact HB.out | apply ba_ | apply bn_ | apply bd_) | exact HB.out))) : w.heap.size ≤ gb511)); have n3_ := amk ((by rw [hg]; exact (below_size (by repeat (first | (with_reducible first | exact HB.out | apply ba_ | apply bn_ | apply bd_) | exact HB.out))) : w.heap.size ≤ gb511)); clear HB; have HB := n0_; have BK511 := n1_; have GW511 := n2_; have GE511 := n3_; clear n0_ n1_ n2_ n3_; clear hb hbox hg) | ((with_reducible refine gate_dst (N := 2) rfl ?_); refine box_event ?hg (N := 2) ?hd (cs := #[.int .i64 0, .slice none 0 0]) (t := 41) ?hr ?_; (case hd => rfl); (case hg => rfl); (case hr => first | (go_simp; done) | (go_simp; rfl)); intro gb512 hg w3 hbox hb; have n0_ := amk (blk_below (g := gb511) (o := .cells #[.int .i64 a0_0, .slice A0_1 l0_1.length c0_1] 41 (0, 0)) (by (with_reducible repeat (first | refine kn_ ?_ _ | refine blk_drew ?_ | refine ka_ ?_ _)); exact BK511.out) hb); have n1_ := amk (bp_ (by repeat (first | (with_reducible first | exact HB.out | apply ba_ | apply bn_ | apply bd_ | refine bs_ ?_ GE511.out) | exact HB.out)) hb); have n2_ := amk (hbox); have n3_ := amk ((by rw [hg]; exact (below_size (by repeat (first | (with_reducible first | exact HB.out | apply ba_ | apply bn_ | apply bd_ | refine bs_ ?_ GE511.out) | exact HB.out))) : w.heap.size ≤ gb512)); have n4_ := amk ((by rw [hg]; exact (below_size (by repeat (first | (with_reducible first | exact HB.out | apply ba_ | apply bn_ | apply bd_ | refine bs_ ?_ GE511.out) | exact HB.out))) : w.heap.size ≤ gb512)); have n5_ := amk ((by rw [hg]; exact Nat.ne_of_lt (blk_lt (g := gb511) (o := .cells #[.int .i64 a0_0, .slice A0_1 l0_1.length c0_1] 41 (0, 0)) (by (with_reducible repeat (first | refine kn_ ?_ _ | refine blk_drew ?_ | refine ka_ ?_ _)); exact BK511.out)) : gb511 ≠ gb512)); have n6_ := amk ((by rw [hg]; exact Nat.ne_of_gt (blk_lt (g := gb511) (o := .cells #[.int .i64 a0_0, .slice A0_1 l0_1.length c0_1] 41 (0, 0)) (by (with_reducible repeat (first | refine kn_ ?_ _ | refine blk_drew ?_ | refine ka_ ?_ _)); exact BK511.out)) : gb512 ≠ gb511)); clear BK511; clear HB; have BK511 := n0_; have HB := n1_; have BK512 := n2_; have GW512 := n3_; have GE512 := n4_; have NB511_512 := n5_; have NB512_511 := n6_; clear n0_ n1_ n2_ n3_ n4_ n5_ n6_; clear hb hbox hg; have hnb4 := NB511_512.out; have hnc4 := NB512_511.out; have hcz5_0 : w3.cell? ⟨gb511, 0, none⟩ = some (.int .i64 a0_0) := (blk_cell BK511.out 0).trans rfl; have hcz5_1 : w3.cell? ⟨gb511, 1, none⟩ = some (.slice A0_1 l0_1.length c0_1) := (blk_cell BK511.out 1).trans rfl; have hfz5_0 := blk_frozen BK511.out 0; have hfz5_1 := blk_frozen BK511.out 1) | ((with_reducible refine gate_dst (N := 3) rfl ?_); refine box_event ?hg (N := 3) ?hd (cs := #[.int .i64 0, .slice none 0 0]) (t := 41) ?hr ?_; (case hd => rfl); (case hg => rfl); (case hr => first | (go_simp; done) | (go_simp; rfl)); intro gb513 hg w6 hbox hb; have n0_ := amk (blk_below (g := gb511) (o := .cells #[.int .i64 a0_0, .slice A0_1 l0_1.length c0_1] 41 (0, 0)) (by (with_reducible repeat (first | refine kn_ ?_ _ | refine blk_drew ?_ | refine ka_ ?_ _)); exact BK511.out) hb); have n1_ := amk (blk_below (g := gb512) (o := .cells #[.int .i64 0, .slice none 0 0] 41 (0, 0)) (by (with_reducible repeat (first | refine kn_ ?_ _ | refine blk_drew ?_ | refine ka_ ?_ _)); exact BK512.out) hb); have n2_ := amk (bp_ (by repeat (first | (with_reducible first | exact HB.out | apply ba_ | apply bn_ | apply bd_ | refine bs_ ?_ GE511.out | refine bs_ ?_ GE512.out) | exact HB.out)) hb); have n3_ := amk (hbox); have n4_ := amk ((by rw [hg]; exact (below_size (by repeat (first | (with_reducible first | exact HB.out | apply ba_ | apply bn_ | apply bd_ | refine bs_ ?_ GE511.out | refine bs_ ?_ GE512.out) | exact HB.out))) : w.heap.size ≤ gb513)); have n5_ := amk ((by rw [hg]; exact (below_size (by repeat (first | (with_reducible first | exact HB.out | apply ba_ | apply bn_ | apply bd_ | refine bs_ ?_ GE511.out | refine bs_ ?_ GE512.out) | exact HB.out))) : w.heap.size ≤ gb513)); have n6_ := amk ((by rw [hg]; exact Nat.ne_of_lt (blk_lt (g := gb511) (o := .cells #[.int .i64 a0_0, .slice A0_1 l0_1.length c0_1] 41 (0, 0)) (by (with_reducible repeat (first | refine kn_ ?_ _ | refine blk_drew ?_ | refine ka_ ?_ _)); exact BK511.out)) : gb511 ≠ gb513)); have n7_ := amk ((by rw [hg]; exact Nat.ne_of_gt (blk_lt (g := gb511) (o := .cells #[.int .i64 a0_0, .slice A0_1 l0_1.length c0_1] 41 (0, 0)) (by (with_reducible repeat (first | refine kn_ ?_ _ | refine blk_drew ?_ | refine ka_ ?_ _)); exact BK511.out)) : gb513 ≠ gb511)); have n8_ := amk ((by rw [hg]; exact Nat.ne_of_lt (blk_lt (g := gb512) (o := .cells #[.int .i64 0, .slice none 0 0] 41 (0, 0)) (by (with_reducible repeat (first | refine kn_ ?_ _ | refine blk_drew ?_ | refine ka_ ?_ _)); exact BK512.out)) : gb512 ≠ gb513)); have n9_ := amk ((by rw [hg]; exact Nat.ne_of_gt (blk_lt (g := gb512) (o := .cells #[.int .i64 0, .slice none 0 0] 41 (0, 0)) (by (with_reducible repeat (first | refine kn_ ?_ _ | refine blk_drew ?_ | refine ka_ ?_ _)); exact BK512.out)) : gb513 ≠ gb512)); clear BK511; clear BK512; clear HB; have BK511 := n0_; have BK512 := n1_; have HB := n2_; have BK513 := n3_; have GW513 := n4_; have GE513 := n5_; have NB511_513 := n6_; have NB513_511 := n7_; have NB512_513 := n8_; have NB513_512 := n9_; clear n0_ n1_ n2_ n3_ n4_ n5_ n6_ n7_ n8_ n9_; clear hb hbox hg; have hnb7 := NB513_511.out; have hnc7 := NB511_513.out; have hnb8 := NB513_512.out; have hnc8 := NB512_513.out; have hcz9_0 : w6.cell? ⟨gb513, 0, none⟩ = some (.int .i64 0) := (blk_cell BK513.out 0).trans rfl; have hcz9_1 : w6.cell? ⟨gb513, 1, none⟩ = some (.slice none 0 0) := (blk_cell BK513.out 1).trans rfl; have hfz9_0 := blk_frozen BK513.out 0; have hfz9_1 := blk_frozen BK513.out 1; have hcz10_0 : w6.cell? ⟨gb511, 0, none⟩ = some (.int .i64 a0_0) := (blk_cell BK511.out 0).trans rfl; have hcz10_1 : w6.cell? ⟨gb511, 1, none⟩ = some (.slice A0_1 l0_1.length c0_1) := (blk_cell BK511.out 1).trans rfl; have hfz10_0 := blk_frozen BK511.out 0; have hfz10_1 := blk_frozen BK511.out 1))
  go_loopg [12] k (fun kq v12 w' => ∃ (x12_1 : Int) (x514001_1 : List (List Int)) (u514001 : Value), v12 = .int .i64 x12_1 ∧ Aside0 (spec_keOwn.l0 kq l0_1 (l0_1.length : Int) x12_1 a0_0 x514001_1 = some (r1, r2)) ∧ Aside0 (kq ≤ k) ∧ Aside0 (Kd.S (Kd.slice 3 (Kd.int .i64)) 86 w' w.heap.size (fun _ => True) u514001 x514001_1) ∧ Aside0 (w'.heap[gb511]? = some (.cells #[.int .i64 a0_0, (.slice A0_1 l0_1.length c0_1)] 41 (0, 0))) ∧ Aside0 (w'.heap[gb512]? = some (.cells #[.int .i64 0, (.slice none 0 0)] 41 (0, 0))) ∧ Aside0 (w'.heap[gb513]? = some (.cells #[.int .i64 a0_0, u514001] 41 (0, 0))) ∧ Aside0 (Below w.heap.size w w'))
  case atStart => exact ⟨(0), (([] : List (List Int))), (.slice none 0 0), (by first | rfl | (simp; done) | (simp [*]; done)), H', ⟨Nat.le_refl _⟩, ⟨by first | exact Kd.S_nil _ _ _ _ _ | exact Kd.N_nil _ _ _ _ _ | exact Kd.V_nil _ _ _ _ _ | exact Kd.Q_nil _ _ _ _ _ | exact Kd.R_nil _ _ _ _ _⟩, ⟨by (with_reducible repeat (first | refine kn_ ?_ _ | refine blk_drew ?_ | refine ka_ ?_ _)); refine blk_far ?_ NB511_513.out _; (with_reducible repeat (first | refine kn_ ?_ _ | refine blk_drew ?_ | refine ka_ ?_ _)); refine blk_far ?_ NB511_513.out _; (with_reducible repeat (first | refine kn_ ?_ _ | refine blk_drew ?_ | refine ka_ ?_ _)); exact BK511.out⟩, ⟨by (with_reducible repeat (first | refine kn_ ?_ _ | refine blk_drew ?_ | refine ka_ ?_ _)); refine blk_far ?_ NB512_513.out _; (with_reducible repeat (first | refine kn_ ?_ _ | refine blk_drew ?_ | refine ka_ ?_ _)); refine blk_far ?_ NB512_513.out _; (with_reducible repeat (first | refine kn_ ?_ _ | refine blk_drew ?_ | refine ka_ ?_ _)); exact BK512.out⟩, ⟨by (with_reducible repeat (first | refine kn_ ?_ _ | refine blk_drew ?_ | refine ka_ ?_ _)); refine blk_put (cs := #[.int .i64 a0_0, .slice none 0 0]) ?_ 1 _ rfl; (with_reducible repeat (first | refine kn_ ?_ _ | refine blk_drew ?_ | refine ka_ ?_ _)); refine blk_put (cs := #[.int .i64 0, .slice none 0 0]) ?_ 0 _ rfl; (with_reducible repeat (first | refine kn_ ?_ _ | refine blk_drew ?_ | refine ka_ ?_ _)); exact BK513.out⟩, ⟨by repeat (first | (with_reducible first | exact HB.out | apply ba_ | apply bn_ | apply bd_ | refine bs_ ?_ GE511.out | refine bs_ ?_ GE512.out | refine bs_ ?_ GE513.out) | exact HB.out)⟩⟩
  case round =>
    clear H'
    try clear p2; try clear c4; try clear c7; try clear c8; try clear c9; try clear hcz10_0; try clear hcz10_1; try clear hcz5_0; try clear hcz5_1; try clear hcz9_0; try clear hcz9_1; try clear hfz10_0; try clear hfz10_1; try clear hfz5_0; try clear hfz5_1; try clear hfz9_0; try clear hfz9_1
    obtain ⟨x12_1, x514001_1, u514001, rfl, HA, HK1, HO_514001, BK511, BK512, BK513, HB⟩ := hrel
    cases gk with
    | zero => exact absurd HA.out (by simp [spec_keOwn.l0])
    | succ k1 =>
      have H := HA.out
      clear HA
      simp only [spec_keOwn.l0] at H
      by_cases c11 : x12_1 < (l0_1.length : Int)
      · rw [if_pos c11] at H
        have c11b0 : decide (x12_1 < (l0_1.length : Int)) = true := decide_eq_true c11
        clear c11
        by_cases c12 : 0 ≤ x12_1
        · rw [if_pos c12] at H
          have c12b0 : decide (0 ≤ x12_1) = true := decide_eq_true c12
          clear c12
          by_cases c13 : x12_1 < (l0_1.length : Int)
          · rw [if_pos c13] at H
            have c13b0 : decide (x12_1 < (l0_1.length : Int)) = true := decide_eq_true c13
            clear c13
            replace H := Option.bind_eq_some_iff.mp H
            obtain ⟨t515, A140, H⟩ := H
            replace H : (if x514001_1.length < 5864062014805 then (spec_keOwn.l0 k1 l0_1 (l0_1.length : Int) (wrap64 (x12_1 + 1)) a0_0 (x514001_1 ++ [t515])) else (none)) = some (r1, r2) := H
            have A14 := amk A140
            clear A140
            by_cases c15 : x514001_1.length < 5864062014805
            · rw [if_pos c15] at H
              have LMc15 := amk c15
              clear c15
              obtain ⟨y518, hy518⟩ : ∃ y_ : List (List Int), y_ = (x514001_1 ++ [t515]) := ⟨_, rfl⟩
              replace H : (spec_keOwn.l0 k1 l0_1 (l0_1.length : Int) (wrap64 (x12_1 + 1)) a0_0 y518) = some (r1, r2) := by first | (rw [hy518]; with_reducible exact H) | (have H2_ := (Option.bind_some _ _).symm.trans H; rw [hy518]; with_reducible exact H2_) | (have H2_ := (Option.bind_some _ _).symm.trans H; with_reducible exact H2_) | with_reducible exact H | (rw [hy518]; exact H) | exact H
              have Ny518 := amk hy518
              clear hy518
              have H' := amk H
              clear H
              have p514 : 0 ≤ (x12_1 : Int) := of_decide_eq_true (by first | (with_reducible assumption) | assumption)
              have q514 : x12_1 < (l0_1.length : Int) := of_decide_eq_true (by first | (with_reducible assumption) | assumption)
              obtain ⟨ad514, A514_0, c514_0, e514, hx514_0, hl514_0, hi514_0⟩ := at_L5 HR0_1.out x12_1 p514 q514
              cases e514
              replace hx514_0 := (HB.out.cell (World.block_lt_of_cell? w _ hx514_0)).trans hx514_0
              have HR514_0 := amk hi514_0
              have HC514_0 := amk hl514_0
              clear hi514_0 hl514_0
              replace p514 := eq_true p514
              replace q514 := eq_true q514
              try go_wp2
              have n0_ := amk (Kd.S_drew HO_514001.out)
              have n1_ := amk (blk_drew BK511.out)
              have n2_ := amk (blk_drew BK512.out)
              have n3_ := amk (blk_drew BK513.out)
              have n4_ := amk (bd_ HB.out)
              clear HO_514001
              clear BK511
              clear BK512
              clear BK513
              clear HB
              have HO_514001 := n0_
              have BK511 := n1_
              have BK512 := n2_
              have BK513 := n3_
              have HB := n4_
              clear n0_ n1_ n2_ n3_ n4_
              refine start_ (n := 8) (S := fun w' => w'.cell? ⟨gb513, 0, none⟩ = some (.int .i64 a0_0) ∧ w'.cell? ⟨gb513, 1, none⟩ = some (u514001)) (ds := [7]) #[false, false, false, false, false, false, false, false] (by kernel_rfl) rfl rfl ⟨(blk_cell BK513.out 0).trans rfl, (blk_cell BK513.out 1).trans rfl⟩ (fun hHeld => ?_); refine with_tabW spec_keOwn.tab5 spec_keOwn.bits5 (fun HT_ HW_ => ?_)
              generalize wr.drew = w16 at HO_514001 BK511 BK512 BK513 HB hHeld ⊢
              refine pure_ (i := 0) (N := some 16) (v := ?_) (a' := ?_) #[true, false, false, false, false, false, false, false] rfl rfl (any_of HT_.out (by kernel_rfl)) (fun _ _ _ h => h) (Or.inl ⟨by rfl, ?_⟩) ?_ ?_
              rotate_left
              · intro w'
                go_simp
                with_reducible rfl
              rotate_left
              · simp only [Act.put, List.setIfInBounds_toArray, List.set_cons_zero, List.set_cons_succ, i64_w, i32_w]
                rfl
              refine pure_ (i := 2) (N := some 18) (v := ?_) (a' := ?_) #[true, false, true, false, false, false, false, false] rfl rfl (any_of HT_.out (by kernel_rfl)) (fun _ _ _ h => h) (Or.inl ⟨by rfl, ?_⟩) ?_ ?_
              rotate_left
              · intro w'
                go_simp
                with_reducible rfl
              rotate_left
              · simp only [Act.put, List.setIfInBounds_toArray, List.set_cons_zero, List.set_cons_succ, i64_w, i32_w]
                rfl
              refine take_ (i := 1) (N := some 17) (v := ?_) (a' := ?_) #[true, true, true, false, false, false, false, false] rfl rfl (take_ofW HT_.out HW_.out (by kernel_rfl)) (fun _ _ _ h => h) (Or.inl ⟨by rfl, ?_⟩) hHeld ?_ ?_
              rotate_left
              · rintro w' ⟨s0, s1⟩
                go_simp
                with_reducible rfl
              rotate_left
              · simp only [Act.put, List.setIfInBounds_toArray, List.set_cons_zero, List.set_cons_succ, i64_w, i32_w]
                rfl
              refine one_ (i := 3) (N := some 19) #[true, true, true, true, false, false, false, false] rfl rfl (one_of HT_.out (by kernel_rfl)) (by decide) (fun K hK => ?_)
              refine goes_ Try.func139 (by kernel_rfl) rfl #[.slice A514_0 (rd_L5 l0_1 x12_1).length c514_0] (by rfl) rfl rfl (by (try simp only [List.map_toArray, List.map_cons, List.map_nil]); first | done | rfl | (simp only [List.length_drop, List.length_take]; rfl)) ?_
              with_reducible refine (spec_l1Own.calls _ _ (rd_L5 l0_1 x12_1) t515 _ ?side1 ?side2 A14.out).mono ?_
              (case side1 => repeat (first | exact (Kd.C_below HR514_0.out HB.out) | (with_reducible refine Kd.C_alloc ?_ _) | (with_reducible refine Kd.C_drewN ?_ _) | (with_reducible refine Kd.C_drew ?_)))
              (case side2 => exact HC514_0.out)
              rintro e w17 ⟨v516, rfl, ho0, hb⟩
              refine ⟨_, rfl, ?_⟩
              have n0_ := amk (Kd.S_elder' (by (with_reducible repeat (first | apply Kd.S_alloc | apply Kd.S_drewN | apply Kd.S_drew)); exact HO_514001.out) (Kd.R_base ho0) hb)
              have n1_ := amk (Kd.R_lower ho0 (below_size (by repeat (first | (with_reducible first | exact HB.out | apply ba_ | apply bn_ | apply bd_ | refine bs_ ?_ GE511.out | refine bs_ ?_ GE512.out | refine bs_ ?_ GE513.out) | exact HB.out))))
              have n2_ := amk (blk_below (g := gb511) (o := .cells #[.int .i64 a0_0, .slice (some ad514) l0_1.length c0_1] 41 (0, 0)) (by (with_reducible repeat (first | refine kn_ ?_ _ | refine blk_drew ?_ | refine ka_ ?_ _)); exact BK511.out) hb)
              have n3_ := amk (blk_below (g := gb512) (o := .cells #[.int .i64 0, .slice none 0 0] 41 (0, 0)) (by (with_reducible repeat (first | refine kn_ ?_ _ | refine blk_drew ?_ | refine ka_ ?_ _)); exact BK512.out) hb)
              have n4_ := amk (blk_below (g := gb513) (o := .cells #[.int .i64 a0_0, u514001] 41 (0, 0)) (by (with_reducible repeat (first | refine kn_ ?_ _ | refine blk_drew ?_ | refine ka_ ?_ _)); exact BK513.out) hb)
              have n5_ := amk (bp_ (by repeat (first | (with_reducible first | exact HB.out | apply ba_ | apply bn_ | apply bd_ | refine bs_ ?_ GE511.out | refine bs_ ?_ GE512.out | refine bs_ ?_ GE513.out) | exact HB.out)) hb)
              clear HO_514001
              clear BK511
              clear BK512
              clear BK513
              clear HB
              have HO_514001 := n0_
              have HO517 := n1_
              have BK511 := n2_
              have BK512 := n3_
              have BK513 := n4_
              have HB := n5_
              clear n0_ n1_ n2_ n3_ n4_ n5_
              (try clear hb)
              (try clear hb2)
              (try clear hk)
              (try clear hi)
              (try clear ho0)
              obtain ⟨Ao19, co19, eo19⟩ := Kd.R_slice HO517.out
              (first | subst eo19 | (injection eo19 with f1_ f2_ f3_; have f4_ := f1_.symm; have f5_ := f3_.symm; clear f1_ f2_ f3_; subst f4_; subst f5_))
              refine hK.out _ _ ⟨(blk_cell BK513.out 0).trans rfl, (blk_cell BK513.out 1).trans rfl⟩ (fun hHeld => ?_)
              clear hK K
              refine norm_ (a' := ?_) ?_ ?_
              rotate_left
              · show Act.put _ (some 19) _ = _
                simp only [Act.put, List.setIfInBounds_toArray, List.set_cons_zero, List.set_cons_succ, i64_w, i32_w]
                rfl
              refine one_ (i := 4) (N := some 20) #[true, true, true, true, true, false, false, false] rfl rfl (one_of HT_.out (by kernel_rfl)) (by decide) (fun K hK => ?_)
              refine value_ (w1 := ?_) (v := ?_) (by rfl) rfl ?_ ?_
              rotate_left 2
              · go_simp
                constructor
                · rfl
                · rfl
              refine hK.out _ _ ⟨(blk_cell (ka_ BK513.out _) 0).trans rfl, (blk_cell (ka_ BK513.out _) 1).trans rfl⟩ (fun hHeld => ?_)
              clear hK K
              refine norm_ (a' := ?_) ?_ ?_
              rotate_left
              · show Act.put _ (some 20) _ = _
                simp only [Act.put, List.setIfInBounds_toArray, List.set_cons_zero, List.set_cons_succ, i64_w, i32_w]
                rfl
              refine one_ (i := 5) (N := some 21) #[true, true, true, true, true, true, false, false] rfl rfl (one_of HT_.out (by kernel_rfl)) (by decide) (fun K hK => ?_)
              refine Kd.S_append_step (Kd.slice 3 (Kd.int .i64)) (w0 := w) w.heap.size (by rfl) (.tmp 17) (.tmp 20) 35 86 (.slice none 0 0) 24 rfl Try.underlying35 info86 rfl (by decide) (by omega) u514001 x514001_1 t515 [.slice Ao19 t515.length co19] (fun _ => True) (fun k_ => some k_ = (.slice Ao19 t515.length co19 : Value).ownBlock) rfl rfl ?aP (fun k_ hk_ => ((Kd.R_mono (ok' := fun k_ => ((fun _ => True)) k_ ∧ some k_ ≠ (u514001 : Value).ownBlock) (Kd.R_apart' (HO517.out) (Kd.S_typed HO_514001.out) (by decide)) (fun k_ hk => ⟨trivial, hk.2⟩))).1 k_ hk_.symm) ?aF ?aO ?aB ?aS ?aL ?_
              (case aP => exact Kd.M_row (Kd.R_mono (Kd.R_tight rfl (Kd.R_mono (ok' := fun k_ => ((fun _ => True)) k_ ∧ some k_ ≠ (u514001 : Value).ownBlock) (Kd.R_apart' (HO517.out) (Kd.S_typed HO_514001.out) (by decide)) (fun k_ hk => ⟨trivial, hk.2⟩))) (fun _ h_ => h_)))
              (case aB => exact (by repeat (first | (with_reducible first | exact HB.out | apply ba_ | apply bn_ | apply bd_ | refine bs_ ?_ GE511.out | refine bs_ ?_ GE512.out | refine bs_ ?_ GE513.out) | exact HB.out)))
              (case aF => exact (fun _ _ => trivial))
              (case aO => exact (by (with_reducible repeat (first | apply Kd.S_alloc | apply Kd.S_drewN | apply Kd.S_drew)); exact Kd.S_mono HO_514001.out (fun k_ hk => ⟨trivial, fun e_ => hk.2 e_⟩)))
              (case aS => exact (below_size (by repeat (first | (with_reducible first | exact HB.out | apply ba_ | apply bn_ | apply bd_ | refine bs_ ?_ GE511.out | refine bs_ ?_ GE512.out | refine bs_ ?_ GE513.out) | exact HB.out))))
              (case aL => have := LMc15.out; omega)
              intro v519 w18 ho hb hg hat
              rw [← Ny518.out] at ho
              have n0_ := amk (blk_grown (g := gb511) (o := .cells #[.int .i64 a0_0, .slice (some ad514) l0_1.length c0_1] 41 (0, 0)) (by (with_reducible repeat (first | refine kn_ ?_ _ | refine blk_drew ?_ | refine ka_ ?_ _)); exact BK511.out) hg (Kd.S_ne HO_514001.out BK511.out (by decide)))
              have n1_ := amk (blk_grown (g := gb512) (o := .cells #[.int .i64 0, .slice none 0 0] 41 (0, 0)) (by (with_reducible repeat (first | refine kn_ ?_ _ | refine blk_drew ?_ | refine ka_ ?_ _)); exact BK512.out) hg (Kd.S_ne HO_514001.out BK512.out (by decide)))
              have n2_ := amk (blk_grown (g := gb513) (o := .cells #[.int .i64 a0_0, u514001] 41 (0, 0)) (by (with_reducible repeat (first | refine kn_ ?_ _ | refine blk_drew ?_ | refine ka_ ?_ _)); exact BK513.out) hg (Kd.S_ne HO_514001.out BK513.out (by decide)))
              have n3_ := amk (hb)
              have n4_ := amk (ho)
              clear BK511
              clear BK512
              clear BK513
              clear HB
              clear HO_514001
              clear HO517
              have BK511 := n0_
              have BK512 := n1_
              have BK513 := n2_
              have HB := n3_
              have HO520 := n4_
              clear n0_ n1_ n2_ n3_ n4_
              clear ho hb hg hat
              obtain ⟨Ao20, co20, eo20⟩ := Kd.S_slice HO520.out
              (first | subst eo20 | (injection eo20 with f1_ f2_ f3_; have f4_ := f1_.symm; have f5_ := f3_.symm; clear f1_ f2_ f3_; subst f4_; subst f5_))
              refine hK.out _ _ ⟨(blk_cell BK513.out 0).trans rfl, (blk_cell BK513.out 1).trans rfl⟩ (fun hHeld => ?_)
              clear hK K
              refine norm_ (a' := ?_) ?_ ?_
              rotate_left
              · show Act.put _ (some 21) _ = _
                simp only [Act.put, List.setIfInBounds_toArray, List.set_cons_zero, List.set_cons_succ, i64_w, i32_w]
                rfl
              refine pure_ (i := 6) (N := some 22) (v := ?_) (a' := ?_) #[true, true, true, true, true, true, true, false] rfl rfl (any_of HT_.out (by kernel_rfl)) (fun _ _ _ h => h) (Or.inl ⟨by rfl, ?_⟩) ?_ ?_
              rotate_left
              · intro w'
                go_simp
                with_reducible rfl
              rotate_left
              · simp only [Act.put, List.setIfInBounds_toArray, List.set_cons_zero, List.set_cons_succ, i64_w, i32_w]
                rfl
              refine last_ (i := 7) (N := none) #[true, true, true, true, true, true, true, true] rfl rfl (one_of HT_.out (by kernel_rfl)) (by decide) (fun K hK => ?_)
              have hs21 : w18.cell? ⟨gb513, 1, none⟩ = some (u514001) := (blk_cell BK513.out 1).trans rfl
              have hfs21 := blk_frozen BK513.out 1
              have hns21_0 := NB511_513.out
              have hns21_1 := NB512_513.out
              have hms21_0 := NB513_511.out
              have hms21_1 := NB513_512.out
              refine skip_ (w1 := ?_) (by rfl) rfl ?_ ?_
              rotate_left
              · go_simp
                rfl
              refine hK.out _ _ ?_
              clear hK K
              refine done_ (done_of HT_.out (by kernel_rfl)) ?_
              try go_wp2
              go_roundg k1
              case measure => have := HK1.out; omega
              case rel => exact ⟨(wrap64 (x12_1 + 1)), (y518), (.slice Ao20 y518.length co20), (by first | rfl | (simp; done) | (simp [*]; done)), H', ⟨by have := HK1.out; omega⟩, ⟨by (with_reducible repeat (first | apply Kd.S_alloc | apply Kd.S_drewN | apply Kd.S_drew)); exact Kd.S_mono (Kd.S_far (p := ⟨gb513, 1, none⟩) (Kd.S_types HO520.out BK513.out (by decide)) (fun _ hk => hk.2) (.slice Ao20 y518.length co20)) (fun _ hk => trivial)⟩, ⟨by (with_reducible repeat (first | refine kn_ ?_ _ | refine blk_drew ?_ | refine ka_ ?_ _)); refine blk_far ?_ NB511_513.out _; (with_reducible repeat (first | refine kn_ ?_ _ | refine blk_drew ?_ | refine ka_ ?_ _)); exact BK511.out⟩, ⟨by (with_reducible repeat (first | refine kn_ ?_ _ | refine blk_drew ?_ | refine ka_ ?_ _)); refine blk_far ?_ NB512_513.out _; (with_reducible repeat (first | refine kn_ ?_ _ | refine blk_drew ?_ | refine ka_ ?_ _)); exact BK512.out⟩, ⟨by (with_reducible repeat (first | refine kn_ ?_ _ | refine blk_drew ?_ | refine ka_ ?_ _)); refine blk_put (cs := #[.int .i64 a0_0, u514001]) ?_ 1 _ rfl; (with_reducible repeat (first | refine kn_ ?_ _ | refine blk_drew ?_ | refine ka_ ?_ _)); exact BK513.out⟩, ⟨by repeat (first | (with_reducible first | exact HB.out | apply ba_ | apply bn_ | apply bd_ | refine bs_ ?_ GE511.out | refine bs_ ?_ GE512.out | refine bs_ ?_ GE513.out) | exact HB.out)⟩⟩
            · rw [if_neg c15] at H
              exact absurd H (by simp)
          · rw [if_neg c13] at H
            exact absurd H (by simp)
        · rw [if_neg c12] at H
          exact absurd H (by simp)
      · rw [if_neg c11] at H
        have c11b0 : decide (x12_1 < (l0_1.length : Int)) = false := decide_eq_false c11
        clear c11
        simp only [Option.some.injEq, Prod.mk.injEq] at H
        obtain ⟨rfl, rfl⟩ := H
        have hnb22 := NB513_511.out
        have hnc22 := NB511_513.out
        have hnb23 := NB513_512.out
        have hnc23 := NB512_513.out
        have hcz24_0 : wr.cell? ⟨gb513, 0, none⟩ = some (.int .i64 a0_0) := (blk_cell BK513.out 0).trans rfl
        have hcz24_1 : wr.cell? ⟨gb513, 1, none⟩ = some (u514001) := (blk_cell BK513.out 1).trans rfl
        have hfz24_0 := blk_frozen BK513.out 0
        have hfz24_1 := blk_frozen BK513.out 1
        have hnb25 := NB512_511.out
        have hnc25 := NB511_512.out
        have hcz26_0 : wr.cell? ⟨gb512, 0, none⟩ = some (.int .i64 0) := (blk_cell BK512.out 0).trans rfl
        have hcz26_1 : wr.cell? ⟨gb512, 1, none⟩ = some (.slice none 0 0) := (blk_cell BK512.out 1).trans rfl
        have hfz26_0 := blk_frozen BK512.out 0
        have hfz26_1 := blk_frozen BK512.out 1
        obtain ⟨Ao27, co27, eo27⟩ := Kd.S_slice HO_514001.out
        subst eo27
        go_wp2
        refine bodyPost_ret (results_cell_row rfl _ _ gb512 41 #[.int .i64 a0_0, .slice Ao27 x514001_1.length co27] (0, 0) _ rfl (by (with_reducible repeat (first | refine kn_ ?_ _ | refine blk_drew ?_ | refine ka_ ?_ _)); refine blk_put (cs := #[.int .i64 a0_0, .slice none 0 0]) ?_ 1 _ rfl; (with_reducible repeat (first | refine kn_ ?_ _ | refine blk_drew ?_ | refine ka_ ?_ _)); refine blk_put (cs := #[.int .i64 0, .slice none 0 0]) ?_ 0 _ rfl; (with_reducible repeat (first | refine kn_ ?_ _ | refine blk_drew ?_ | refine ka_ ?_ _)); exact BK512.out) Try.underlying41 rfl (by kernel_rfl)) rfl ?_
        exact ⟨_, by first | rfl | (simp [errW_none, errW_some] <;> rfl) | (simp [*, errW_none, errW_some] <;> rfl), by (with_reducible repeat (first | apply Kd.S_alloc | apply Kd.S_drewN | apply Kd.S_drew)); exact Kd.S_mono (Kd.S_far (p := ⟨gb512, 1, none⟩) (Kd.S_far (p := ⟨gb512, 0, none⟩) (Kd.S_types HO_514001.out BK512.out (by decide)) (fun _ hk => hk.2) (.int .i64 a0_0)) (fun _ hk => hk.2) (.slice Ao27 x514001_1.length co27)) (fun _ hk => trivial), by repeat (first | (with_reducible first | exact HB.out | apply ba_ | apply bn_ | apply bd_ | refine bs_ ?_ GE511.out | refine bs_ ?_ GE512.out | refine bs_ ?_ GE513.out) | exact HB.out)⟩
/-! ### spec_l1Rising: function 127 -/
def spec_l1Rising.l0 : Nat → List Int → Int → Int → List Int → Int → Int → Option (Bool)
  | 0, _, _, _, _, _, _ => none
  | k + 1, x0, x1, x2, x9, x10, x11 => if x11 < x10 then (if 0 ≤ x11 then (if x11 < (x9.length : Int) then ((spec_l1In.f (rd x9 x11) x1 x2).bind fun t211 => (if t211 = true then (if x11 > 0 then (if 0 ≤ (wrap64 (x11 - 1)) then (if (wrap64 (x11 - 1)) < (x0.length : Int) then (if (rd x0 (wrap64 (x11 - 1))) ≥ (rd x9 x11) then (some false) else (spec_l1Rising.l0 k x0 x1 x2 x9 x10 (wrap64 (x11 + 1)))) else (none)) else (none)) else (spec_l1Rising.l0 k x0 x1 x2 x9 x10 (wrap64 (x11 + 1)))) else (some false))) else (none)) else (none)) else (some true)
def spec_l1Rising.f (k : Nat) (l0 : List Int) (a1 : Int) (a2 : Int) : Option (Bool) := spec_l1Rising.l0 k l0 a1 a2 l0 (l0.length : Int) 0
set_option maxHeartbeats 8000000 in
set_option maxRecDepth 100000 in
theorem spec_l1Rising.calls (k : Nat) (A0 : Option Addr) (c0 : Nat) (l0 : List Int) (a1 : Int) (a2 : Int) (r : Bool) (w : World) (hr0 : Kd.C (Kd.int .i64) w A0 l0.length l0) (hc0 : l0.length ≤ c0) (h : spec_l1Rising.f k l0 a1 a2 = some r) :
    Calls Try.prog 127 #[.slice A0 l0.length c0, .int .i64 a1, .int .i64 a2] w fun e w' => e = .returned (.bool r) ∧ Drawn0 w w' := by
  have HR0 := amk hr0
  have HC0 := amk hc0
  clear hr0 hc0
  have H : (spec_l1Rising.l0 k l0 a1 a2 l0 (l0.length : Int) 0) = some r := h
  clear h
  have H' := amk H
  clear H
  go_enter Try.func127, Try.ntmps127
  go_wp2
  go_loopg [11] k (fun kq v11 w' => ∃ (x11_1 : Int), v11 = .int .i64 x11_1 ∧ Aside0 (spec_l1Rising.l0 kq l0 a1 a2 l0 (l0.length : Int) x11_1 = some r) ∧ Aside0 (kq ≤ k) ∧ Drawn0 w w')
  case atStart => exact ⟨(0), (by first | rfl | (simp; done) | (simp [*]; done)), H', ⟨Nat.le_refl _⟩, by repeat (first | exact Drawn0.refl _ | apply Drawn0.step)⟩
  case round =>
    clear H'
    try clear c1; try clear p2
    obtain ⟨x11_1, rfl, HA, HK1, ⟨m1, rfl⟩⟩ := hrel
    cases gk with
    | zero => exact absurd HA.out (by simp [spec_l1Rising.l0])
    | succ k1 =>
      have H := HA.out
      clear HA
      simp only [spec_l1Rising.l0] at H
      by_cases c4 : x11_1 < (l0.length : Int)
      · rw [if_pos c4] at H
        have c4b0 : decide (x11_1 < (l0.length : Int)) = true := decide_eq_true c4
        clear c4
        by_cases c5 : 0 ≤ x11_1
        · rw [if_pos c5] at H
          have c5b0 : decide (0 ≤ x11_1) = true := decide_eq_true c5
          clear c5
          by_cases c6 : x11_1 < (l0.length : Int)
          · rw [if_pos c6] at H
            have c6b0 : decide (x11_1 < (l0.length : Int)) = true := decide_eq_true c6
            clear c6
            replace H := Option.bind_eq_some_iff.mp H
            obtain ⟨t211, A70, H⟩ := H
            replace H : (if t211 = true then (if x11_1 > 0 then (if 0 ≤ (wrap64 (x11_1 - 1)) then (if (wrap64 (x11_1 - 1)) < (l0.length : Int) then (if (rd l0 (wrap64 (x11_1 - 1))) ≥ (rd l0 x11_1) then (some false) else (spec_l1Rising.l0 k1 l0 a1 a2 l0 (l0.length : Int) (wrap64 (x11_1 + 1)))) else (none)) else (none)) else (spec_l1Rising.l0 k1 l0 a1 a2 l0 (l0.length : Int) (wrap64 (x11_1 + 1)))) else (some false)) = some r := H
            have A7 := amk A70
            clear A70
            by_cases c8 : t211 = true
            · subst c8
              have H1 : (if x11_1 > 0 then (if 0 ≤ (wrap64 (x11_1 - 1)) then (if (wrap64 (x11_1 - 1)) < (l0.length : Int) then (if (rd l0 (wrap64 (x11_1 - 1))) ≥ (rd l0 x11_1) then (some false) else (spec_l1Rising.l0 k1 l0 a1 a2 l0 (l0.length : Int) (wrap64 (x11_1 + 1)))) else (none)) else (none)) else (spec_l1Rising.l0 k1 l0 a1 a2 l0 (l0.length : Int) (wrap64 (x11_1 + 1)))) = some r := by rw [if_pos rfl] at H; exact H
              clear H
              have H := H1
              clear H1
              by_cases c9 : x11_1 > 0
              · rw [if_pos c9] at H
                have c9b0 : decide (0 < x11_1) = true := decide_eq_true c9
                clear c9
                obtain ⟨ji10, hji10⟩ : ∃ j_ : Int, (wrap64 (x11_1 - 1)) = j_ := ⟨_, rfl⟩
                replace H : (if 0 ≤ (ji10) then (if (ji10) < (l0.length : Int) then (if (rd l0 (ji10)) ≥ (rd l0 x11_1) then (some false) else (spec_l1Rising.l0 k1 l0 a1 a2 l0 (l0.length : Int) (wrap64 (x11_1 + 1)))) else (none)) else (none)) = some r := by first | (rw [hji10] at H; exact H) | (simp only [hji10] at H ⊢; exact H)
                (try rw [hji10] at A7)
                have hji10w : (IntKind.i64.wrap (x11_1 - 1)) = ji10 := (i64_w _).trans hji10
                by_cases c11 : 0 ≤ (ji10)
                · rw [if_pos c11] at H
                  have c11b0 : decide (0 ≤ (ji10)) = true := decide_eq_true c11
                  clear c11
                  by_cases c12 : (ji10) < (l0.length : Int)
                  · rw [if_pos c12] at H
                    have c12b0 : decide ((ji10) < (l0.length : Int)) = true := decide_eq_true c12
                    clear c12
                    by_cases c13 : (rd l0 (ji10)) ≥ (rd l0 x11_1)
                    · rw [if_pos c13] at H
                      have c13b0 : decide ((rd l0 x11_1) ≤ (rd l0 (ji10))) = true := decide_eq_true c13
                      clear c13
                      obtain rfl := Option.some.inj H
                      have p210 : 0 ≤ (x11_1 : Int) := of_decide_eq_true (by first | (with_reducible assumption) | assumption)
                      have q210 : x11_1 < (l0.length : Int) := of_decide_eq_true (by first | (with_reducible assumption) | assumption)
                      obtain ⟨ad210, e210, hx210_0⟩ := Kd.at_int HR0.out x11_1 p210 q210
                      cases e210
                      replace p210 := eq_true p210
                      replace q210 := eq_true q210
                      go_wp2_with (first | ((with_reducible refine gate_callee (f := 74) rfl ?_); refine goesL_ (some 19) rfl rfl Try.func74 (by kernel_rfl) rfl #[.int .i64 (rd l0 x11_1), .int .i64 a1, .int .i64 a2] rfl (by (try simp only [List.map_toArray, List.map_cons, List.map_nil]); first | done | rfl | (simp only [List.length_drop, List.length_take]; rfl)) ?_; (with_reducible refine (spec_l1In.calls (rd l0 x11_1) a1 a2 true _ A7.out).mono ?_); rintro e w' ⟨rfl, ⟨nd, rfl⟩⟩; refine ⟨_, rfl, ?_⟩; have p212 : 0 ≤ ((ji10) : Int) := of_decide_eq_true (by first | (with_reducible assumption) | assumption); have q212 : (ji10) < (l0.length : Int) := of_decide_eq_true (by first | (with_reducible assumption) | assumption); obtain ⟨ad212, e212, hx212_0⟩ := Kd.at_int HR0.out (ji10) p212 q212; obtain rfl : ad210 = ad212 := (by injection e212); replace p212 := eq_true p212; replace q212 := eq_true q212))
                      go_ret
                      exact ⟨by first | rfl | (simp; done) | (simp only [← hji10] <;> (first | rfl | simp)) | (simp [*]; done), by repeat (first | exact Drawn0.refl _ | apply Drawn0.step)⟩
                    · rw [if_neg c13] at H
                      have c13b0 : decide ((rd l0 x11_1) ≤ (rd l0 (ji10))) = false := decide_eq_false c13
                      clear c13
                      have H' := amk H
                      clear H
                      have p210 : 0 ≤ (x11_1 : Int) := of_decide_eq_true (by first | (with_reducible assumption) | assumption)
                      have q210 : x11_1 < (l0.length : Int) := of_decide_eq_true (by first | (with_reducible assumption) | assumption)
                      obtain ⟨ad210, e210, hx210_0⟩ := Kd.at_int HR0.out x11_1 p210 q210
                      cases e210
                      replace p210 := eq_true p210
                      replace q210 := eq_true q210
                      go_wp2_with (first | ((with_reducible refine gate_callee (f := 74) rfl ?_); refine goesL_ (some 19) rfl rfl Try.func74 (by kernel_rfl) rfl #[.int .i64 (rd l0 x11_1), .int .i64 a1, .int .i64 a2] rfl (by (try simp only [List.map_toArray, List.map_cons, List.map_nil]); first | done | rfl | (simp only [List.length_drop, List.length_take]; rfl)) ?_; (with_reducible refine (spec_l1In.calls (rd l0 x11_1) a1 a2 true _ A7.out).mono ?_); rintro e w' ⟨rfl, ⟨nd, rfl⟩⟩; refine ⟨_, rfl, ?_⟩; have p212 : 0 ≤ ((ji10) : Int) := of_decide_eq_true (by first | (with_reducible assumption) | assumption); have q212 : (ji10) < (l0.length : Int) := of_decide_eq_true (by first | (with_reducible assumption) | assumption); obtain ⟨ad212, e212, hx212_0⟩ := Kd.at_int HR0.out (ji10) p212 q212; obtain rfl : ad210 = ad212 := (by injection e212); replace p212 := eq_true p212; replace q212 := eq_true q212))
                      go_roundg k1
                      case measure => have := HK1.out; omega
                      case rel => exact ⟨(wrap64 (x11_1 + 1)), (by first | rfl | (simp; done) | (simp [*]; done)), H', ⟨by have := HK1.out; omega⟩, by repeat (first | exact Drawn0.refl _ | apply Drawn0.step)⟩
                  · rw [if_neg c12] at H
                    exact absurd H (by simp)
                · rw [if_neg c11] at H
                  exact absurd H (by simp)
              · rw [if_neg c9] at H
                have c9b0 : decide (0 < x11_1) = false := decide_eq_false c9
                clear c9
                have H' := amk H
                clear H
                have p210 : 0 ≤ (x11_1 : Int) := of_decide_eq_true (by first | (with_reducible assumption) | assumption)
                have q210 : x11_1 < (l0.length : Int) := of_decide_eq_true (by first | (with_reducible assumption) | assumption)
                obtain ⟨ad210, e210, hx210_0⟩ := Kd.at_int HR0.out x11_1 p210 q210
                cases e210
                replace p210 := eq_true p210
                replace q210 := eq_true q210
                go_wp2_with (first | ((with_reducible refine gate_callee (f := 74) rfl ?_); refine goesL_ (some 19) rfl rfl Try.func74 (by kernel_rfl) rfl #[.int .i64 (rd l0 x11_1), .int .i64 a1, .int .i64 a2] rfl (by (try simp only [List.map_toArray, List.map_cons, List.map_nil]); first | done | rfl | (simp only [List.length_drop, List.length_take]; rfl)) ?_; (with_reducible refine (spec_l1In.calls (rd l0 x11_1) a1 a2 true _ A7.out).mono ?_); rintro e w' ⟨rfl, ⟨nd, rfl⟩⟩; refine ⟨_, rfl, ?_⟩))
                go_roundg k1
                case measure => have := HK1.out; omega
                case rel => exact ⟨(wrap64 (x11_1 + 1)), (by first | rfl | (simp; done) | (simp [*]; done)), H', ⟨by have := HK1.out; omega⟩, by repeat (first | exact Drawn0.refl _ | apply Drawn0.step)⟩
            · replace c8 := Bool.eq_false_iff.mpr c8
              subst c8
              have H1 : (some false) = some r := by rw [if_neg (show ¬ (false = true) by decide)] at H; exact H
              clear H
              have H := H1
              clear H1
              obtain rfl := Option.some.inj H
              have p210 : 0 ≤ (x11_1 : Int) := of_decide_eq_true (by first | (with_reducible assumption) | assumption)
              have q210 : x11_1 < (l0.length : Int) := of_decide_eq_true (by first | (with_reducible assumption) | assumption)
              obtain ⟨ad210, e210, hx210_0⟩ := Kd.at_int HR0.out x11_1 p210 q210
              cases e210
              replace p210 := eq_true p210
              replace q210 := eq_true q210
              go_wp2_with (first | ((with_reducible refine gate_callee (f := 74) rfl ?_); refine goesL_ (some 19) rfl rfl Try.func74 (by kernel_rfl) rfl #[.int .i64 (rd l0 x11_1), .int .i64 a1, .int .i64 a2] rfl (by (try simp only [List.map_toArray, List.map_cons, List.map_nil]); first | done | rfl | (simp only [List.length_drop, List.length_take]; rfl)) ?_; (with_reducible refine (spec_l1In.calls (rd l0 x11_1) a1 a2 false _ A7.out).mono ?_); rintro e w' ⟨rfl, ⟨nd, rfl⟩⟩; refine ⟨_, rfl, ?_⟩))
              go_ret
              exact ⟨by first | rfl | (simp; done) | (simp [*]; done), by repeat (first | exact Drawn0.refl _ | apply Drawn0.step)⟩
          · rw [if_neg c6] at H
            exact absurd H (by simp)
        · rw [if_neg c5] at H
          exact absurd H (by simp)
      · rw [if_neg c4] at H
        have c4b0 : decide (x11_1 < (l0.length : Int)) = false := decide_eq_false c4
        clear c4
        obtain rfl := Option.some.inj H
        go_wp2
        go_ret
        exact ⟨by first | rfl | (simp; done) | (simp [*]; done), by repeat (first | exact Drawn0.refl _ | apply Drawn0.step)⟩
/-! ### spec_keGood: function 73 -/
mutual
def spec_keGood.j0 : Nat → Bool → Int → List (List Int) → Option (Bool)
  | 0, _, _, _ => none
  | k + 1, x15, x214000, x214001 => if x15 = true then (some false) else (spec_keGood.l0 k x214001 (x214001.length : Int) 0 x214000 x214001)
def spec_keGood.l0 : Nat → List (List Int) → Int → Int → Int → List (List Int) → Option (Bool)
  | 0, _, _, _, _, _ => none
  | k + 1, x17, x18, x19, x214000, x214001 => if x19 < x18 then (if 0 ≤ x19 then (if x19 < (x17.length : Int) then (if ((rd_L5 x17 x19).length : Int) = 0 then (some false) else ((spec_l1Rising.f k (rd_L5 x17 x19) 0 (wrap64 (x214000 - 1))).bind fun t217 => (if t217 = true then (spec_keGood.l0 k x17 x18 (wrap64 (x19 + 1)) x214000 x214001) else (some false)))) else (none)) else (none)) else (some true)
end
def spec_keGood.f (k : Nat) (a0_0 : Int) (l0_1 : List (List Int)) : Option (Bool) := (spec_l1In.f a0_0 1 9).bind fun t214 => (if t214 = true then ((spec_l1In.f (l0_1.length : Int) 1 7).bind fun t215 => (spec_keGood.j0 k (!t215) a0_0 l0_1)) else (spec_keGood.j0 k true a0_0 l0_1))
set_option maxHeartbeats 8000000 in
set_option maxRecDepth 100000 in
theorem spec_keGood.calls (k : Nat) (a0_0 : Int) (A0_1 : Option Addr) (c0_1 : Nat) (l0_1 : List (List Int)) (r : Bool) (w : World) (hr0_1 : Kd.C (Kd.slice 3 (Kd.int .i64)) w A0_1 l0_1.length l0_1) (hc0_1 : l0_1.length ≤ c0_1) (h : spec_keGood.f k a0_0 l0_1 = some r) :
    Calls Try.prog 73 #[.agg #[.int .i64 a0_0, .slice A0_1 l0_1.length c0_1]] w fun e w' => e = .returned (.bool r) ∧ Below w.heap.size w w' := by
  have hu41 := Try.underlying41
  have HR0_1 := amk hr0_1
  have HC0_1 := amk hc0_1
  clear hr0_1 hc0_1
  have HB := amk (Below.refl w.heap.size w)
  have H : ((spec_l1In.f a0_0 1 9).bind fun t214 => (if t214 = true then ((spec_l1In.f (l0_1.length : Int) 1 7).bind fun t215 => (spec_keGood.j0 k (!t215) a0_0 l0_1)) else (spec_keGood.j0 k true a0_0 l0_1))) = some r := h
  clear h
  have HC2 := amk H
  clear H
  go_enter Try.func73, Try.ntmps73
  go_upto_region 1 with (first | ((with_reducible refine gate_dst (N := 1) rfl ?_); (try (refine gate_guard (by rfl) ?_; dsimp only)); refine box_event ?hg (N := 1) ?hd (cs := #[.int .i64 a0_0, .slice A0_1 l0_1.length c0_1]) (t := 41) ?hr ?_; (case hd => rfl); (case hg => rfl); (case hr => first | (go_simp; done) | (go_simp; rfl)); intro gb213 hg w3 hbox hb; have n0_ := amk (bp_ (by repeat (first | (with_reducible first | exact HB.out | apply ba_ | apply bn_ | apply bd_) | exact HB.out)) hb); have n1_ := amk (hbox); have n2_ := amk ((by rw [hg]; exact (below_size (by repeat (first | (with_reducible first | exact HB.out | apply ba_ | apply bn_ | apply bd_) | exact HB.out))) : w.heap.size ≤ gb213)); have n3_ := amk ((by rw [hg]; exact (below_size (by repeat (first | (with_reducible first | exact HB.out | apply ba_ | apply bn_ | apply bd_) | exact HB.out))) : w.heap.size ≤ gb213)); clear HB; have HB := n0_; have BK213 := n1_; have GW213 := n2_; have GE213 := n3_; clear n0_ n1_ n2_ n3_; clear hb hbox hg))
  (try simp only [Act.put, List.setIfInBounds_toArray, List.set_cons_zero, List.set_cons_succ])
  go_cut [15] (fun v15 wc => ∃ (kq : Nat) (x15_1 : Bool), v15 = .bool x15_1 ∧ Aside0 (spec_keGood.j0 kq x15_1 a0_0 l0_1 = some r) ∧ Aside0 (kq ≤ k) ∧ Aside0 (wc.heap[gb213]? = some (.cells #[.int .i64 a0_0, (.slice A0_1 l0_1.length c0_1)] 41 (0, 0))) ∧ Aside0 (Below w.heap.size w wc))
  case first =>
    have H := HC2.out
    clear HC2
    replace H := Option.bind_eq_some_iff.mp H
    obtain ⟨t214, A40, H⟩ := H
    replace H : (if t214 = true then ((spec_l1In.f (l0_1.length : Int) 1 7).bind fun t215 => (spec_keGood.j0 k (!t215) a0_0 l0_1)) else (spec_keGood.j0 k true a0_0 l0_1)) = some r := H
    have A4 := amk A40
    clear A40
    by_cases c5 : t214 = true
    · subst c5
      have H1 : ((spec_l1In.f (l0_1.length : Int) 1 7).bind fun t215 => (spec_keGood.j0 k (!t215) a0_0 l0_1)) = some r := by rw [if_pos rfl] at H; exact H
      clear H
      have H := H1
      clear H1
      replace H := Option.bind_eq_some_iff.mp H
      obtain ⟨t215, A60, H⟩ := H
      replace H : (spec_keGood.j0 k (!t215) a0_0 l0_1) = some r := H
      have A6 := amk A60
      clear A60
      have H' := amk H
      clear H
      have hcz7_0 : w3.cell? ⟨gb213, 0, none⟩ = some (.int .i64 a0_0) := (blk_cell BK213.out 0).trans rfl
      have hcz7_1 : w3.cell? ⟨gb213, 1, none⟩ = some (.slice A0_1 l0_1.length c0_1) := (blk_cell BK213.out 1).trans rfl
      have hfz7_0 := blk_frozen BK213.out 0
      have hfz7_1 := blk_frozen BK213.out 1
      go_wp2_with (first | ((with_reducible refine gate_callee (f := 74) rfl ?_); refine goesL_ (some 7) rfl rfl Try.func74 (by kernel_rfl) rfl #[.int .i64 a0_0, .int .i64 1, .int .i64 9] rfl (by (try simp only [List.map_toArray, List.map_cons, List.map_nil]); first | done | rfl | (simp only [List.length_drop, List.length_take]; rfl)) ?_; (with_reducible refine (spec_l1In.calls a0_0 1 9 true _ A4.out).mono ?_); rintro e w' ⟨rfl, ⟨nd, rfl⟩⟩; refine ⟨_, rfl, ?_⟩) | (go_at_call 74; (with_reducible refine (spec_l1In.calls (l0_1.length : Int) 1 7 t215 _ A6.out).mono ?_); rintro e w' ⟨rfl, ⟨nd, rfl⟩⟩))
      go_meet
      case rel => exact ⟨_, (!t215), (by first | rfl | (simp; done) | (simp [*]; done)), H', ⟨by first | omega | exact Nat.le_refl _⟩, ⟨by (with_reducible repeat (first | refine kn_ ?_ _ | refine blk_drew ?_ | refine ka_ ?_ _)); exact BK213.out⟩, ⟨by repeat (first | (with_reducible first | exact HB.out | apply ba_ | apply bn_ | apply bd_ | refine bs_ ?_ GE213.out) | exact HB.out)⟩⟩
    · replace c5 := Bool.eq_false_iff.mpr c5
      subst c5
      have H1 : (spec_keGood.j0 k true a0_0 l0_1) = some r := by rw [if_neg (show ¬ (false = true) by decide)] at H; exact H
      clear H
      have H := H1
      clear H1
      have H' := amk H
      clear H
      have hcz8_0 : w3.cell? ⟨gb213, 0, none⟩ = some (.int .i64 a0_0) := (blk_cell BK213.out 0).trans rfl
      have hcz8_1 : w3.cell? ⟨gb213, 1, none⟩ = some (.slice A0_1 l0_1.length c0_1) := (blk_cell BK213.out 1).trans rfl
      have hfz8_0 := blk_frozen BK213.out 0
      have hfz8_1 := blk_frozen BK213.out 1
      go_wp2_with (first | ((with_reducible refine gate_callee (f := 74) rfl ?_); refine goesL_ (some 7) rfl rfl Try.func74 (by kernel_rfl) rfl #[.int .i64 a0_0, .int .i64 1, .int .i64 9] rfl (by (try simp only [List.map_toArray, List.map_cons, List.map_nil]); first | done | rfl | (simp only [List.length_drop, List.length_take]; rfl)) ?_; (with_reducible refine (spec_l1In.calls a0_0 1 9 false _ A4.out).mono ?_); rintro e w' ⟨rfl, ⟨nd, rfl⟩⟩; refine ⟨_, rfl, ?_⟩))
      go_meet
      case rel => exact ⟨_, (true), (by first | rfl | (simp; done) | (simp [*]; done)), H', ⟨by first | omega | exact Nat.le_refl _⟩, ⟨by (with_reducible repeat (first | refine kn_ ?_ _ | refine blk_drew ?_ | refine ka_ ?_ _)); exact BK213.out⟩, ⟨by repeat (first | (with_reducible first | exact HB.out | apply ba_ | apply bn_ | apply bd_ | refine bs_ ?_ GE213.out) | exact HB.out)⟩⟩
  case rest =>
    clear HC2
    try clear p2; try clear c5; try clear c7; try clear hcz7_0; try clear hcz7_1; try clear hcz8_0; try clear hcz8_1; try clear hfz7_0; try clear hfz7_1; try clear hfz8_0; try clear hfz8_1
    obtain ⟨kq, x15_1, rfl, HA, HJ1, BK213, HB⟩ := hcut
    cases kq with
    | zero => exact absurd HA.out (by simp [spec_keGood.j0])
    | succ kj1 =>
      have H := HA.out
      clear HA
      simp only [spec_keGood.j0] at H
      by_cases c9 : x15_1 = true
      · subst c9
        have H1 : (some false) = some r := by rw [if_pos rfl] at H; exact H
        clear H
        have H := H1
        clear H1
        obtain rfl := Option.some.inj H
        go_wp2
        go_ret
        exact ⟨by first | rfl | (simp [errW_none, errW_some] <;> rfl) | (simp [*, errW_none, errW_some] <;> rfl), by repeat (first | (with_reducible first | exact HB.out | apply ba_ | apply bn_ | apply bd_ | refine bs_ ?_ GE213.out) | exact HB.out)⟩
      · replace c9 := Bool.eq_false_iff.mpr c9
        subst c9
        have H1 : (spec_keGood.l0 kj1 l0_1 (l0_1.length : Int) 0 a0_0 l0_1) = some r := by rw [if_neg (show ¬ (false = true) by decide)] at H; exact H
        clear H
        have H := H1
        clear H1
        have H' := amk H
        clear H
        have hcz10_0 : wc.cell? ⟨gb213, 0, none⟩ = some (.int .i64 a0_0) := (blk_cell BK213.out 0).trans rfl
        have hcz10_1 : wc.cell? ⟨gb213, 1, none⟩ = some (.slice A0_1 l0_1.length c0_1) := (blk_cell BK213.out 1).trans rfl
        have hfz10_0 := blk_frozen BK213.out 0
        have hfz10_1 := blk_frozen BK213.out 1
        go_wp2
        go_loopg [19] kj1 (fun kq v19 w' => ∃ (x19_2 : Int), v19 = .int .i64 x19_2 ∧ Aside0 (spec_keGood.l0 kq l0_1 (l0_1.length : Int) x19_2 a0_0 l0_1 = some r) ∧ Aside0 (kq ≤ kj1) ∧ Aside0 (w'.heap[gb213]? = some (.cells #[.int .i64 a0_0, (.slice A0_1 l0_1.length c0_1)] 41 (0, 0))) ∧ Aside0 (Below w.heap.size w w'))
        case atStart => exact ⟨(0), (by first | rfl | (simp; done) | (simp [*]; done)), H', ⟨Nat.le_refl _⟩, ⟨by (with_reducible repeat (first | refine kn_ ?_ _ | refine blk_drew ?_ | refine ka_ ?_ _)); exact BK213.out⟩, ⟨by repeat (first | (with_reducible first | exact HB.out | apply ba_ | apply bn_ | apply bd_ | refine bs_ ?_ GE213.out) | exact HB.out)⟩⟩
        case round =>
          clear H'
          try clear p2; try clear c5; try clear c7; try clear c9; try clear hcz10_0; try clear hcz10_1; try clear hcz7_0; try clear hcz7_1; try clear hcz8_0; try clear hcz8_1; try clear hfz10_0; try clear hfz10_1; try clear hfz7_0; try clear hfz7_1; try clear hfz8_0; try clear hfz8_1; try clear p2
          obtain ⟨x19_2, rfl, HA, HK2, BK213, HB⟩ := hrel
          cases gk with
          | zero => exact absurd HA.out (by simp [spec_keGood.l0])
          | succ k2 =>
            have H := HA.out
            clear HA
            simp only [spec_keGood.l0] at H
            by_cases c11 : x19_2 < (l0_1.length : Int)
            · rw [if_pos c11] at H
              have c11b0 : decide (x19_2 < (l0_1.length : Int)) = true := decide_eq_true c11
              clear c11
              by_cases c12 : 0 ≤ x19_2
              · rw [if_pos c12] at H
                have c12b0 : decide (0 ≤ x19_2) = true := decide_eq_true c12
                clear c12
                by_cases c13 : x19_2 < (l0_1.length : Int)
                · rw [if_pos c13] at H
                  have c13b0 : decide (x19_2 < (l0_1.length : Int)) = true := decide_eq_true c13
                  clear c13
                  by_cases c14 : ((rd_L5 l0_1 x19_2).length : Int) = 0
                  · rw [if_pos c14] at H
                    have c14b0 : (((rd_L5 l0_1 x19_2).length : Int) == 0) = true := beq_iff_eq.mpr c14
                    have c14b1 : (((rd_L5 l0_1 x19_2).length : Int) != 0) = false := bne_eq_false_iff_eq.mpr c14
                    clear c14
                    obtain rfl := Option.some.inj H
                    have p216 : 0 ≤ (x19_2 : Int) := of_decide_eq_true (by first | (with_reducible assumption) | assumption)
                    have q216 : x19_2 < (l0_1.length : Int) := of_decide_eq_true (by first | (with_reducible assumption) | assumption)
                    obtain ⟨ad216, A216_0, c216_0, e216, hx216_0, hl216_0, hi216_0⟩ := at_L5 HR0_1.out x19_2 p216 q216
                    cases e216
                    replace hx216_0 := (HB.out.cell (World.block_lt_of_cell? w _ hx216_0)).trans hx216_0
                    have HR216_0 := amk hi216_0
                    have HC216_0 := amk hl216_0
                    clear hi216_0 hl216_0
                    replace p216 := eq_true p216
                    replace q216 := eq_true q216
                    go_wp2
                    go_ret
                    exact ⟨by first | rfl | (simp [errW_none, errW_some] <;> rfl) | (simp [*, errW_none, errW_some] <;> rfl), by repeat (first | (with_reducible first | exact HB.out | apply ba_ | apply bn_ | apply bd_ | refine bs_ ?_ GE213.out) | exact HB.out)⟩
                  · rw [if_neg c14] at H
                    have c14b0 : (((rd_L5 l0_1 x19_2).length : Int) == 0) = false := beq_eq_false_iff_ne.mpr c14
                    have c14b1 : (((rd_L5 l0_1 x19_2).length : Int) != 0) = true := bne_iff_ne.mpr c14
                    have c14b2 : ¬ ((rd_L5 l0_1 x19_2) = []) := fun h_ => c14 (by rw [h_]; rfl)
                    replace H := Option.bind_eq_some_iff.mp H
                    obtain ⟨t217, A150, H⟩ := H
                    replace H : (if t217 = true then (spec_keGood.l0 k2 l0_1 (l0_1.length : Int) (wrap64 (x19_2 + 1)) a0_0 l0_1) else (some false)) = some r := H
                    have A15 := amk A150
                    clear A150
                    by_cases c16 : t217 = true
                    · subst c16
                      have H1 : (spec_keGood.l0 k2 l0_1 (l0_1.length : Int) (wrap64 (x19_2 + 1)) a0_0 l0_1) = some r := by rw [if_pos rfl] at H; exact H
                      clear H
                      have H := H1
                      clear H1
                      have H' := amk H
                      clear H
                      have p216 : 0 ≤ (x19_2 : Int) := of_decide_eq_true (by first | (with_reducible assumption) | assumption)
                      have q216 : x19_2 < (l0_1.length : Int) := of_decide_eq_true (by first | (with_reducible assumption) | assumption)
                      obtain ⟨ad216, A216_0, c216_0, e216, hx216_0, hl216_0, hi216_0⟩ := at_L5 HR0_1.out x19_2 p216 q216
                      cases e216
                      replace hx216_0 := (HB.out.cell (World.block_lt_of_cell? w _ hx216_0)).trans hx216_0
                      have HR216_0 := amk hi216_0
                      have HC216_0 := amk hl216_0
                      clear hi216_0 hl216_0
                      replace p216 := eq_true p216
                      replace q216 := eq_true q216
                      have hcz17_0 : wr.cell? ⟨gb213, 0, none⟩ = some (.int .i64 a0_0) := (blk_cell BK213.out 0).trans rfl
                      have hcz17_1 : wr.cell? ⟨gb213, 1, none⟩ = some (.slice (some ad216) l0_1.length c0_1) := (blk_cell BK213.out 1).trans rfl
                      have hfz17_0 := blk_frozen BK213.out 0
                      have hfz17_1 := blk_frozen BK213.out 1
                      go_wp2_with (first | (go_at_call 127; (with_reducible refine (spec_l1Rising.calls k2 _ _ (rd_L5 l0_1 x19_2) 0 (wrap64 (a0_0 - 1)) true _ ?side1 ?side2 A15.out).mono ?_); (case side1 => repeat (first | exact (Kd.C_below HR216_0.out HB.out) | (with_reducible refine Kd.C_alloc ?_ _) | (with_reducible refine Kd.C_drewN ?_ _) | (with_reducible refine Kd.C_drew ?_))); (case side2 => exact HC216_0.out); rintro e w' ⟨rfl, ⟨nd, rfl⟩⟩))
                      go_roundg k2
                      case measure => have := HJ1.out; have := HK2.out; omega
                      case rel => exact ⟨(wrap64 (x19_2 + 1)), (by first | rfl | (simp; done) | (simp [*]; done)), H', ⟨by have := HJ1.out; have := HK2.out; omega⟩, ⟨by (with_reducible repeat (first | refine kn_ ?_ _ | refine blk_drew ?_ | refine ka_ ?_ _)); exact BK213.out⟩, ⟨by repeat (first | (with_reducible first | exact HB.out | apply ba_ | apply bn_ | apply bd_ | refine bs_ ?_ GE213.out) | exact HB.out)⟩⟩
                    · replace c16 := Bool.eq_false_iff.mpr c16
                      subst c16
                      have H1 : (some false) = some r := by rw [if_neg (show ¬ (false = true) by decide)] at H; exact H
                      clear H
                      have H := H1
                      clear H1
                      obtain rfl := Option.some.inj H
                      have p216 : 0 ≤ (x19_2 : Int) := of_decide_eq_true (by first | (with_reducible assumption) | assumption)
                      have q216 : x19_2 < (l0_1.length : Int) := of_decide_eq_true (by first | (with_reducible assumption) | assumption)
                      obtain ⟨ad216, A216_0, c216_0, e216, hx216_0, hl216_0, hi216_0⟩ := at_L5 HR0_1.out x19_2 p216 q216
                      cases e216
                      replace hx216_0 := (HB.out.cell (World.block_lt_of_cell? w _ hx216_0)).trans hx216_0
                      have HR216_0 := amk hi216_0
                      have HC216_0 := amk hl216_0
                      clear hi216_0 hl216_0
                      replace p216 := eq_true p216
                      replace q216 := eq_true q216
                      have hcz18_0 : wr.cell? ⟨gb213, 0, none⟩ = some (.int .i64 a0_0) := (blk_cell BK213.out 0).trans rfl
                      have hcz18_1 : wr.cell? ⟨gb213, 1, none⟩ = some (.slice (some ad216) l0_1.length c0_1) := (blk_cell BK213.out 1).trans rfl
                      have hfz18_0 := blk_frozen BK213.out 0
                      have hfz18_1 := blk_frozen BK213.out 1
                      go_wp2_with (first | (go_at_call 127; (with_reducible refine (spec_l1Rising.calls k2 _ _ (rd_L5 l0_1 x19_2) 0 (wrap64 (a0_0 - 1)) false _ ?side1 ?side2 A15.out).mono ?_); (case side1 => repeat (first | exact (Kd.C_below HR216_0.out HB.out) | (with_reducible refine Kd.C_alloc ?_ _) | (with_reducible refine Kd.C_drewN ?_ _) | (with_reducible refine Kd.C_drew ?_))); (case side2 => exact HC216_0.out); rintro e w' ⟨rfl, ⟨nd, rfl⟩⟩))
                      go_ret
                      exact ⟨by first | rfl | (simp [errW_none, errW_some] <;> rfl) | (simp [*, errW_none, errW_some] <;> rfl), by repeat (first | (with_reducible first | exact HB.out | apply ba_ | apply bn_ | apply bd_ | refine bs_ ?_ GE213.out) | exact HB.out)⟩
                · rw [if_neg c13] at H
                  exact absurd H (by simp)
              · rw [if_neg c12] at H
                exact absurd H (by simp)
            · rw [if_neg c11] at H
              have c11b0 : decide (x19_2 < (l0_1.length : Int)) = false := decide_eq_false c11
              clear c11
              obtain rfl := Option.some.inj H
              go_wp2
              go_ret
              exact ⟨by first | rfl | (simp [errW_none, errW_some] <;> rfl) | (simp [*, errW_none, errW_some] <;> rfl), by repeat (first | (with_reducible first | exact HB.out | apply ba_ | apply bn_ | apply bd_ | refine bs_ ?_ GE213.out) | exact HB.out)⟩
/-! ### spec_kePlace: function 93 -/
def spec_kePlace.f (k : Nat) (a0_0 : Int) (l0_1 : List (List Int)) (a1 : Int) (a2 : Int) : Option (Bool) := (spec_keGood.f k a0_0 l0_1).bind fun t502 => (if t502 = true then ((spec_l1In.f a1 0 (wrap64 ((l0_1.length : Int) - 1))).bind fun t503 => (if t503 = true then ((spec_l1In.f a2 0 (wrap64 (a0_0 - 1))).bind fun t504 => (some t504)) else (some false))) else (some false))
set_option maxHeartbeats 8000000 in
set_option maxRecDepth 100000 in
theorem spec_kePlace.calls (k : Nat) (a0_0 : Int) (A0_1 : Option Addr) (c0_1 : Nat) (l0_1 : List (List Int)) (a1 : Int) (a2 : Int) (r : Bool) (w : World) (hr0_1 : Kd.C (Kd.slice 3 (Kd.int .i64)) w A0_1 l0_1.length l0_1) (hc0_1 : l0_1.length ≤ c0_1) (h : spec_kePlace.f k a0_0 l0_1 a1 a2 = some r) :
    Calls Try.prog 93 #[.agg #[.int .i64 a0_0, .slice A0_1 l0_1.length c0_1], .int .i64 a1, .int .i64 a2] w fun e w' => e = .returned (.bool r) ∧ Below w.heap.size w w' := by
  have hu41 := Try.underlying41
  have HR0_1 := amk hr0_1
  have HC0_1 := amk hc0_1
  clear hr0_1 hc0_1
  have HB := amk (Below.refl w.heap.size w)
  have H : ((spec_keGood.f k a0_0 l0_1).bind fun t502 => (if t502 = true then ((spec_l1In.f a1 0 (wrap64 ((l0_1.length : Int) - 1))).bind fun t503 => (if t503 = true then ((spec_l1In.f a2 0 (wrap64 (a0_0 - 1))).bind fun t504 => (some t504)) else (some false))) else (some false))) = some r := h
  clear h
  replace H := Option.bind_eq_some_iff.mp H
  obtain ⟨t502, A40, H⟩ := H
  replace H : (if t502 = true then ((spec_l1In.f a1 0 (wrap64 ((l0_1.length : Int) - 1))).bind fun t503 => (if t503 = true then ((spec_l1In.f a2 0 (wrap64 (a0_0 - 1))).bind fun t504 => (some t504)) else (some false))) else (some false)) = some r := H
  have A4 := amk A40
  clear A40
  by_cases c5 : t502 = true
  · subst c5
    have H1 : ((spec_l1In.f a1 0 (wrap64 ((l0_1.length : Int) - 1))).bind fun t503 => (if t503 = true then ((spec_l1In.f a2 0 (wrap64 (a0_0 - 1))).bind fun t504 => (some t504)) else (some false))) = some r := by rw [if_pos rfl] at H; exact H
    clear H
    have H := H1
    clear H1
    replace H := Option.bind_eq_some_iff.mp H
    obtain ⟨t503, A60, H⟩ := H
    replace H : (if t503 = true then ((spec_l1In.f a2 0 (wrap64 (a0_0 - 1))).bind fun t504 => (some t504)) else (some false)) = some r := H
    have A6 := amk A60
    clear A60
    by_cases c7 : t503 = true
    · subst c7
      have H1 : ((spec_l1In.f a2 0 (wrap64 (a0_0 - 1))).bind fun t504 => (some t504)) = some r := by rw [if_pos rfl] at H; exact H
      clear H
      have H := H1
      clear H1
      replace H := Option.bind_eq_some_iff.mp H
      obtain ⟨t504, A80, H⟩ := H
      replace H : (some t504) = some r := H
      have A8 := amk A80
      clear A80
      obtain rfl := Option.some.inj H
      go_enter Try.func93, Try.ntmps93
      go_wp2_with (first | ((with_reducible refine gate_dst (N := 3) rfl ?_); (try (refine gate_guard (by rfl) ?_; dsimp only)); refine box_event ?hg (N := 3) ?hd (cs := #[.int .i64 a0_0, .slice A0_1 l0_1.length c0_1]) (t := 41) ?hr ?_; (case hd => rfl); (case hg => rfl); (case hr => first | (go_simp; done) | (go_simp; rfl)); intro gb501 hg w9 hbox hb; have n0_ := amk (bp_ (by repeat (first | (with_reducible first | exact HB.out | apply ba_ | apply bn_ | apply bd_) | exact HB.out)) hb); have n1_ := amk (hbox); have n2_ := amk ((by rw [hg]; exact (below_size (by repeat (first | (with_reducible first | exact HB.out | apply ba_ | apply bn_ | apply bd_) | exact HB.out))) : w.heap.size ≤ gb501)); have n3_ := amk ((by rw [hg]; exact (below_size (by repeat (first | (with_reducible first | exact HB.out | apply ba_ | apply bn_ | apply bd_) | exact HB.out))) : w.heap.size ≤ gb501)); clear HB; have HB := n0_; have BK501 := n1_; have GW501 := n2_; have GE501 := n3_; clear n0_ n1_ n2_ n3_; clear hb hbox hg; have hcz10_0 : w9.cell? ⟨gb501, 0, none⟩ = some (.int .i64 a0_0) := (blk_cell BK501.out 0).trans rfl; have hcz10_1 : w9.cell? ⟨gb501, 1, none⟩ = some (.slice A0_1 l0_1.length c0_1) := (blk_cell BK501.out 1).trans rfl; have hfz10_0 := blk_frozen BK501.out 0; have hfz10_1 := blk_frozen BK501.out 1) | ((with_reducible refine gate_callee (f := 73) rfl ?_); refine goesL_ (some 8) rfl rfl Try.func73 (by kernel_rfl) rfl #[.agg #[.int .i64 a0_0, .slice A0_1 l0_1.length c0_1]] rfl (by (try simp only [List.map_toArray, List.map_cons, List.map_nil]); first | done | rfl | (simp only [List.length_drop, List.length_take]; rfl)) ?_; (with_reducible refine (spec_keGood.calls k a0_0 _ _ l0_1 true _ ?side1 ?side2 A4.out).mono ?_); (case side1 => repeat (first | exact (Kd.C_below HR0_1.out HB.out) | (with_reducible refine Kd.C_alloc ?_ _) | (with_reducible refine Kd.C_drewN ?_ _) | (with_reducible refine Kd.C_drew ?_))); (case side2 => exact HC0_1.out); rintro e w11 ⟨rfl, hb⟩; refine ⟨_, rfl, ?_⟩; have n0_ := amk (blk_below (g := gb501) (o := .cells #[.int .i64 a0_0, .slice A0_1 l0_1.length c0_1] 41 (0, 0)) (by (with_reducible repeat (first | refine kn_ ?_ _ | refine blk_drew ?_ | refine ka_ ?_ _)); exact BK501.out) hb); have n1_ := amk (bp_ (by repeat (first | (with_reducible first | exact HB.out | apply ba_ | apply bn_ | apply bd_ | refine bs_ ?_ GE501.out) | exact HB.out)) hb); clear BK501; clear HB; have BK501 := n0_; have HB := n1_; clear n0_ n1_; (try clear hb); (try clear hb2); (try clear hk); (try clear hi); have hcz12_0 : w11.cell? ⟨gb501, 0, none⟩ = some (.int .i64 a0_0) := (blk_cell BK501.out 0).trans rfl; have hcz12_1 : w11.cell? ⟨gb501, 1, none⟩ = some (.slice A0_1 l0_1.length c0_1) := (blk_cell BK501.out 1).trans rfl; have hfz12_0 := blk_frozen BK501.out 0; have hfz12_1 := blk_frozen BK501.out 1) | (go_at_call 74; (with_reducible refine (spec_l1In.calls a1 0 (wrap64 ((l0_1.length : Int) - 1)) true _ A6.out).mono ?_); rintro e w' ⟨rfl, ⟨nd, rfl⟩⟩) | (go_at_call 74; (with_reducible refine (spec_l1In.calls a2 0 (wrap64 (a0_0 - 1)) t504 _ A8.out).mono ?_); rintro e w' ⟨rfl, ⟨nd, rfl⟩⟩))
      go_ret
      exact ⟨by first | rfl | (simp [errW_none, errW_some] <;> rfl) | (simp [*, errW_none, errW_some] <;> rfl), by repeat (first | (with_reducible first | exact HB.out | apply ba_ | apply bn_ | apply bd_ | refine bs_ ?_ GE501.out) | exact HB.out)⟩
    · replace c7 := Bool.eq_false_iff.mpr c7
      subst c7
      have H1 : (some false) = some r := by rw [if_neg (show ¬ (false = true) by decide)] at H; exact H
      clear H
      have H := H1
      clear H1
      obtain rfl := Option.some.inj H
      go_enter Try.func93, Try.ntmps93
      go_wp2_with (first | ((with_reducible refine gate_dst (N := 3) rfl ?_); (try (refine gate_guard (by rfl) ?_; dsimp only)); refine box_event ?hg (N := 3) ?hd (cs := #[.int .i64 a0_0, .slice A0_1 l0_1.length c0_1]) (t := 41) ?hr ?_; (case hd => rfl); (case hg => rfl); (case hr => first | (go_simp; done) | (go_simp; rfl)); intro gb501 hg w13 hbox hb; have n0_ := amk (bp_ (by repeat (first | (with_reducible first | exact HB.out | apply ba_ | apply bn_ | apply bd_) | exact HB.out)) hb); have n1_ := amk (hbox); have n2_ := amk ((by rw [hg]; exact (below_size (by repeat (first | (with_reducible first | exact HB.out | apply ba_ | apply bn_ | apply bd_) | exact HB.out))) : w.heap.size ≤ gb501)); have n3_ := amk ((by rw [hg]; exact (below_size (by repeat (first | (with_reducible first | exact HB.out | apply ba_ | apply bn_ | apply bd_) | exact HB.out))) : w.heap.size ≤ gb501)); clear HB; have HB := n0_; have BK501 := n1_; have GW501 := n2_; have GE501 := n3_; clear n0_ n1_ n2_ n3_; clear hb hbox hg; have hcz14_0 : w13.cell? ⟨gb501, 0, none⟩ = some (.int .i64 a0_0) := (blk_cell BK501.out 0).trans rfl; have hcz14_1 : w13.cell? ⟨gb501, 1, none⟩ = some (.slice A0_1 l0_1.length c0_1) := (blk_cell BK501.out 1).trans rfl; have hfz14_0 := blk_frozen BK501.out 0; have hfz14_1 := blk_frozen BK501.out 1) | ((with_reducible refine gate_callee (f := 73) rfl ?_); refine goesL_ (some 8) rfl rfl Try.func73 (by kernel_rfl) rfl #[.agg #[.int .i64 a0_0, .slice A0_1 l0_1.length c0_1]] rfl (by (try simp only [List.map_toArray, List.map_cons, List.map_nil]); first | done | rfl | (simp only [List.length_drop, List.length_take]; rfl)) ?_; (with_reducible refine (spec_keGood.calls k a0_0 _ _ l0_1 true _ ?side1 ?side2 A4.out).mono ?_); (case side1 => repeat (first | exact (Kd.C_below HR0_1.out HB.out) | (with_reducible refine Kd.C_alloc ?_ _) | (with_reducible refine Kd.C_drewN ?_ _) | (with_reducible refine Kd.C_drew ?_))); (case side2 => exact HC0_1.out); rintro e w15 ⟨rfl, hb⟩; refine ⟨_, rfl, ?_⟩; have n0_ := amk (blk_below (g := gb501) (o := .cells #[.int .i64 a0_0, .slice A0_1 l0_1.length c0_1] 41 (0, 0)) (by (with_reducible repeat (first | refine kn_ ?_ _ | refine blk_drew ?_ | refine ka_ ?_ _)); exact BK501.out) hb); have n1_ := amk (bp_ (by repeat (first | (with_reducible first | exact HB.out | apply ba_ | apply bn_ | apply bd_ | refine bs_ ?_ GE501.out) | exact HB.out)) hb); clear BK501; clear HB; have BK501 := n0_; have HB := n1_; clear n0_ n1_; (try clear hb); (try clear hb2); (try clear hk); (try clear hi); have hcz16_0 : w15.cell? ⟨gb501, 0, none⟩ = some (.int .i64 a0_0) := (blk_cell BK501.out 0).trans rfl; have hcz16_1 : w15.cell? ⟨gb501, 1, none⟩ = some (.slice A0_1 l0_1.length c0_1) := (blk_cell BK501.out 1).trans rfl; have hfz16_0 := blk_frozen BK501.out 0; have hfz16_1 := blk_frozen BK501.out 1) | (go_at_call 74; (with_reducible refine (spec_l1In.calls a1 0 (wrap64 ((l0_1.length : Int) - 1)) false _ A6.out).mono ?_); rintro e w' ⟨rfl, ⟨nd, rfl⟩⟩))
      go_ret
      exact ⟨by first | rfl | (simp [errW_none, errW_some] <;> rfl) | (simp [*, errW_none, errW_some] <;> rfl), by repeat (first | (with_reducible first | exact HB.out | apply ba_ | apply bn_ | apply bd_ | refine bs_ ?_ GE501.out) | exact HB.out)⟩
  · replace c5 := Bool.eq_false_iff.mpr c5
    subst c5
    have H1 : (some false) = some r := by rw [if_neg (show ¬ (false = true) by decide)] at H; exact H
    clear H
    have H := H1
    clear H1
    obtain rfl := Option.some.inj H
    go_enter Try.func93, Try.ntmps93
    go_wp2_with (first | ((with_reducible refine gate_dst (N := 3) rfl ?_); (try (refine gate_guard (by rfl) ?_; dsimp only)); refine box_event ?hg (N := 3) ?hd (cs := #[.int .i64 a0_0, .slice A0_1 l0_1.length c0_1]) (t := 41) ?hr ?_; (case hd => rfl); (case hg => rfl); (case hr => first | (go_simp; done) | (go_simp; rfl)); intro gb501 hg w17 hbox hb; have n0_ := amk (bp_ (by repeat (first | (with_reducible first | exact HB.out | apply ba_ | apply bn_ | apply bd_) | exact HB.out)) hb); have n1_ := amk (hbox); have n2_ := amk ((by rw [hg]; exact (below_size (by repeat (first | (with_reducible first | exact HB.out | apply ba_ | apply bn_ | apply bd_) | exact HB.out))) : w.heap.size ≤ gb501)); have n3_ := amk ((by rw [hg]; exact (below_size (by repeat (first | (with_reducible first | exact HB.out | apply ba_ | apply bn_ | apply bd_) | exact HB.out))) : w.heap.size ≤ gb501)); clear HB; have HB := n0_; have BK501 := n1_; have GW501 := n2_; have GE501 := n3_; clear n0_ n1_ n2_ n3_; clear hb hbox hg; have hcz18_0 : w17.cell? ⟨gb501, 0, none⟩ = some (.int .i64 a0_0) := (blk_cell BK501.out 0).trans rfl; have hcz18_1 : w17.cell? ⟨gb501, 1, none⟩ = some (.slice A0_1 l0_1.length c0_1) := (blk_cell BK501.out 1).trans rfl; have hfz18_0 := blk_frozen BK501.out 0; have hfz18_1 := blk_frozen BK501.out 1) | ((with_reducible refine gate_callee (f := 73) rfl ?_); refine goesL_ (some 8) rfl rfl Try.func73 (by kernel_rfl) rfl #[.agg #[.int .i64 a0_0, .slice A0_1 l0_1.length c0_1]] rfl (by (try simp only [List.map_toArray, List.map_cons, List.map_nil]); first | done | rfl | (simp only [List.length_drop, List.length_take]; rfl)) ?_; (with_reducible refine (spec_keGood.calls k a0_0 _ _ l0_1 false _ ?side1 ?side2 A4.out).mono ?_); (case side1 => repeat (first | exact (Kd.C_below HR0_1.out HB.out) | (with_reducible refine Kd.C_alloc ?_ _) | (with_reducible refine Kd.C_drewN ?_ _) | (with_reducible refine Kd.C_drew ?_))); (case side2 => exact HC0_1.out); rintro e w19 ⟨rfl, hb⟩; refine ⟨_, rfl, ?_⟩; have n0_ := amk (blk_below (g := gb501) (o := .cells #[.int .i64 a0_0, .slice A0_1 l0_1.length c0_1] 41 (0, 0)) (by (with_reducible repeat (first | refine kn_ ?_ _ | refine blk_drew ?_ | refine ka_ ?_ _)); exact BK501.out) hb); have n1_ := amk (bp_ (by repeat (first | (with_reducible first | exact HB.out | apply ba_ | apply bn_ | apply bd_ | refine bs_ ?_ GE501.out) | exact HB.out)) hb); clear BK501; clear HB; have BK501 := n0_; have HB := n1_; clear n0_ n1_; (try clear hb); (try clear hb2); (try clear hk); (try clear hi)))
    go_ret
    exact ⟨by first | rfl | (simp [errW_none, errW_some] <;> rfl) | (simp [*, errW_none, errW_some] <;> rfl), by repeat (first | (with_reducible first | exact HB.out | apply ba_ | apply bn_ | apply bd_ | refine bs_ ?_ GE501.out) | exact HB.out)⟩
/-! ### spec_l1Put: function 118 -/
def spec_l1Put.l0 : Nat → List Int → Int → Int → Option (List Int)
  | 0, _, _, _ => none
  | k + 1, x0, x1, x5 => if x5 < (x0.length : Int) then (if 0 ≤ x5 then (if (rd x0 x5) < x1 then (spec_l1Put.l0 k x0 x1 (wrap64 (x5 + 1))) else (if (rd x0 x5) = x1 then (some x0) else ((some (([] : List Int) : List Int)).bind fun y869 => (if x5 ≤ (x0.length : Int) then ((some (x0.take (x5 : Int).toNat : List Int)).bind fun y872 => (if y869.length + y872.length < 17592186044416 then ((some (y869 ++ y872 : List Int)).bind fun y876 => (if y876.length < 17592186044416 then ((some (y876 ++ [x1] : List Int)).bind fun y879 => ((some (x0.drop (x5 : Int).toNat : List Int)).bind fun y882 => (if y879.length + y882.length < 17592186044416 then (some (y879 ++ y882)) else (none)))) else (none))) else (none))) else (none))))) else (none)) else ((some (([] : List Int) : List Int)).bind fun y889 => (if 0 ≤ x5 then (if x5 ≤ (x0.length : Int) then ((some (x0.take (x5 : Int).toNat : List Int)).bind fun y892 => (if y889.length + y892.length < 17592186044416 then ((some (y889 ++ y892 : List Int)).bind fun y896 => (if y896.length < 17592186044416 then ((some (y896 ++ [x1] : List Int)).bind fun y899 => ((some (x0.drop (x5 : Int).toNat : List Int)).bind fun y902 => (if y899.length + y902.length < 17592186044416 then (some (y899 ++ y902)) else (none)))) else (none))) else (none))) else (none)) else (none)))
def spec_l1Put.f (k : Nat) (l0 : List Int) (a1 : Int) : Option (List Int) := spec_l1Put.l0 k l0 a1 0
set_option maxHeartbeats 8000000 in
set_option maxRecDepth 100000 in
theorem spec_l1Put.calls (k : Nat) (P0_ : Nat → Prop) (u9000_ : Value) (l0 : List Int) (a1 : Int) (r : List Int) (w0 w : World) (hB : Below w0.heap.size w0 w) (ho0 : Kd.R (Kd.int .i64) 3 w w0.heap.size P0_ u9000_ l0) (h : spec_l1Put.f k l0 a1 = some r) :
    Calls Try.prog 118 #[u9000_, .int .i64 a1] w fun e w' => ∃ v0_ : Value, e = .returned (v0_) ∧ Kd.R (Kd.int .i64) 3 w' w0.heap.size (fun k_ => (P0_ k_ ∨ w.heap.size ≤ k_)) v0_ r ∧ Below w0.heap.size w0 w' ∧ Kept w w' (fun k_ => P0_ k_) := by
  have HO0 := amk (show Kd.R (Kd.int .i64) 3 w w0.heap.size (fun k_ => (P0_ k_ ∨ w.heap.size ≤ k_)) u9000_ l0 from Kd.R_mono ho0 (fun k_ hk => (.inl hk)))
  have HK := amk (Kept.refl w (fun k_ => P0_ k_))
  have HW0 := amk hB.size
  have HB := amk hB
  clear hB
  have H : (spec_l1Put.l0 k l0 a1 0) = some r := h
  clear h
  have H' := amk H
  clear H
  go_enter Try.func118, Try.ntmps118
  go_wp2
  go_loopg [5] k (fun kq v5 w' => ∃ (x5_1 : Int), v5 = .int .i64 x5_1 ∧ Aside0 (spec_l1Put.l0 kq l0 a1 x5_1 = some r) ∧ Aside0 (kq ≤ k) ∧ Aside0 (Kd.R (Kd.int .i64) 3 w' w0.heap.size (fun k_ => (P0_ k_ ∨ w.heap.size ≤ k_)) u9000_ l0) ∧ Aside0 (Kept w w' (fun k_ => P0_ k_)) ∧ Aside0 (Below w0.heap.size w0 w'))
  case atStart => exact ⟨(0), (by first | rfl | (simp; done) | (simp [*]; done)), H', ⟨Nat.le_refl _⟩, ⟨by (with_reducible repeat (first | apply Kd.R_alloc | apply Kd.R_drewN | apply Kd.R_drew)); exact HO0.out⟩, ⟨by repeat (first | (with_reducible first | exact HK.out | apply Kept.alloc | apply Kept.drewN | apply Kept.drew) | exact HK.out)⟩, ⟨by repeat (first | (with_reducible first | exact HB.out | apply ba_ | apply bn_ | apply bd_) | exact HB.out)⟩⟩
  case round =>
    clear H'
    try clear c1; try clear p2
    obtain ⟨x5_1, rfl, HA, HK1, HO_0, HK, HB⟩ := hrel
    cases gk with
    | zero => exact absurd HA.out (by simp [spec_l1Put.l0])
    | succ k1 =>
      have H := HA.out
      clear HA
      simp only [spec_l1Put.l0] at H
      by_cases c3 : x5_1 < (l0.length : Int)
      · rw [if_pos c3] at H
        have c3b0 : decide (x5_1 < (l0.length : Int)) = true := decide_eq_true c3
        clear c3
        by_cases c4 : 0 ≤ x5_1
        · rw [if_pos c4] at H
          have c4b0 : decide (0 ≤ x5_1) = true := decide_eq_true c4
          clear c4
          by_cases c5 : (rd l0 x5_1) < a1
          · rw [if_pos c5] at H
            have c5b0 : decide ((rd l0 x5_1) < a1) = true := decide_eq_true c5
            clear c5
            have H' := amk H
            clear H
            obtain ⟨Ao6, co6, eo6⟩ := Kd.R_slice HO_0.out
            subst eo6
            have p867 : 0 ≤ (x5_1 : Int) := of_decide_eq_true (by first | (with_reducible assumption) | assumption)
            have q867 : x5_1 < (l0.length : Int) := of_decide_eq_true (by first | (with_reducible assumption) | assumption)
            obtain ⟨ad867, e867, hx867_0⟩ := Kd.at_int (Kd.R_reads' HO_0.out).2.2 x5_1 p867 q867
            cases e867
            replace p867 := eq_true p867
            replace q867 := eq_true q867
            go_wp2
            go_roundg k1
            case measure => have := HK1.out; omega
            case rel => exact ⟨(wrap64 (x5_1 + 1)), (by first | rfl | (simp; done) | (simp [*]; done)), H', ⟨by have := HK1.out; omega⟩, ⟨by (with_reducible repeat (first | apply Kd.R_alloc | apply Kd.R_drewN | apply Kd.R_drew)); exact HO_0.out⟩, ⟨by repeat (first | (with_reducible first | exact HK.out | apply Kept.alloc | apply Kept.drewN | apply Kept.drew) | exact HK.out)⟩, ⟨by repeat (first | (with_reducible first | exact HB.out | apply ba_ | apply bn_ | apply bd_) | exact HB.out)⟩⟩
          · rw [if_neg c5] at H
            have c5b0 : decide ((rd l0 x5_1) < a1) = false := decide_eq_false c5
            clear c5
            by_cases c7 : (rd l0 x5_1) = a1
            · rw [if_pos c7] at H
              have c7b0 : ((rd l0 x5_1) == a1) = true := beq_iff_eq.mpr c7
              have c7b1 : ((rd l0 x5_1) != a1) = false := bne_eq_false_iff_eq.mpr c7
              clear c7
              obtain rfl := Option.some.inj H
              obtain ⟨Ao8, co8, eo8⟩ := Kd.R_slice HO_0.out
              subst eo8
              have p867 : 0 ≤ (x5_1 : Int) := of_decide_eq_true (by first | (with_reducible assumption) | assumption)
              have q867 : x5_1 < (l0.length : Int) := of_decide_eq_true (by first | (with_reducible assumption) | assumption)
              obtain ⟨ad867, e867, hx867_0⟩ := Kd.at_int (Kd.R_reads' HO_0.out).2.2 x5_1 p867 q867
              cases e867
              replace p867 := eq_true p867
              replace q867 := eq_true q867
              have p868 : 0 ≤ (x5_1 : Int) := of_decide_eq_true (by first | (with_reducible assumption) | assumption)
              have q868 : x5_1 < (l0.length : Int) := of_decide_eq_true (by first | (with_reducible assumption) | assumption)
              obtain ⟨ad868, e868, hx868_0⟩ := Kd.at_int (Kd.R_reads' HO_0.out).2.2 x5_1 p868 q868
              obtain rfl : ad867 = ad868 := (by injection e868)
              replace p868 := eq_true p868
              replace q868 := eq_true q868
              go_wp2
              go_ret
              exact ⟨_, by first | rfl | (simp [errW_none, errW_some] <;> rfl) | (simp [*, errW_none, errW_some] <;> rfl), by (with_reducible repeat (first | apply Kd.R_alloc | apply Kd.R_drewN | apply Kd.R_drew)); exact HO_0.out, by repeat (first | (with_reducible first | exact HB.out | apply ba_ | apply bn_ | apply bd_) | exact HB.out), by repeat (first | (with_reducible first | exact HK.out | apply Kept.alloc | apply Kept.drewN | apply Kept.drew) | exact HK.out)⟩
            · rw [if_neg c7] at H
              have c7b0 : ((rd l0 x5_1) == a1) = false := beq_eq_false_iff_ne.mpr c7
              have c7b1 : ((rd l0 x5_1) != a1) = true := bne_iff_ne.mpr c7
              obtain ⟨y869, hy869⟩ : ∃ y_ : List Int, y_ = (([] : List Int)) := ⟨_, rfl⟩
              replace H : (if x5_1 ≤ (l0.length : Int) then ((some (l0.take (x5_1 : Int).toNat : List Int)).bind fun y872 => (if y869.length + y872.length < 17592186044416 then ((some (y869 ++ y872 : List Int)).bind fun y876 => (if y876.length < 17592186044416 then ((some (y876 ++ [a1] : List Int)).bind fun y879 => ((some (l0.drop (x5_1 : Int).toNat : List Int)).bind fun y882 => (if y879.length + y882.length < 17592186044416 then (some (y879 ++ y882)) else (none)))) else (none))) else (none))) else (none)) = some r := by first | (rw [hy869]; with_reducible exact H) | (have H2_ := (Option.bind_some _ _).symm.trans H; rw [hy869]; with_reducible exact H2_) | (have H2_ := (Option.bind_some _ _).symm.trans H; with_reducible exact H2_) | with_reducible exact H | (rw [hy869]; exact H) | exact H
              have Ny869 := amk hy869
              clear hy869
              have c9b0 := eq_true (of_decide_eq_true (by first | (with_reducible assumption) | assumption) : 0 ≤ x5_1)
              by_cases c10 : x5_1 ≤ (l0.length : Int)
              · rw [if_pos c10] at H
                have c10b0 := eq_true c10
                have c10b1 : decide (x5_1 ≤ (l0.length : Int)) = true := decide_eq_true c10
                clear c10
                obtain ⟨y872, hy872⟩ : ∃ y_ : List Int, y_ = (l0.take (x5_1 : Int).toNat) := ⟨_, rfl⟩
                replace H : (if y869.length + y872.length < 17592186044416 then ((some (y869 ++ y872 : List Int)).bind fun y876 => (if y876.length < 17592186044416 then ((some (y876 ++ [a1] : List Int)).bind fun y879 => ((some (l0.drop (x5_1 : Int).toNat : List Int)).bind fun y882 => (if y879.length + y882.length < 17592186044416 then (some (y879 ++ y882)) else (none)))) else (none))) else (none)) = some r := by first | (rw [hy872]; with_reducible exact H) | (have H2_ := (Option.bind_some _ _).symm.trans H; rw [hy872]; with_reducible exact H2_) | (have H2_ := (Option.bind_some _ _).symm.trans H; with_reducible exact H2_) | with_reducible exact H | (rw [hy872]; exact H) | exact H
                have Ny872 := amk hy872
                clear hy872
                by_cases c11 : y869.length + y872.length < 17592186044416
                · rw [if_pos c11] at H
                  have LMc11 := amk c11
                  clear c11
                  obtain ⟨y876, hy876⟩ : ∃ y_ : List Int, y_ = (y869 ++ y872) := ⟨_, rfl⟩
                  replace H : (if y876.length < 17592186044416 then ((some (y876 ++ [a1] : List Int)).bind fun y879 => ((some (l0.drop (x5_1 : Int).toNat : List Int)).bind fun y882 => (if y879.length + y882.length < 17592186044416 then (some (y879 ++ y882)) else (none)))) else (none)) = some r := by first | (rw [hy876]; with_reducible exact H) | (have H2_ := (Option.bind_some _ _).symm.trans H; rw [hy876]; with_reducible exact H2_) | (have H2_ := (Option.bind_some _ _).symm.trans H; with_reducible exact H2_) | with_reducible exact H | (rw [hy876]; exact H) | exact H
                  have Ny876 := amk hy876
                  clear hy876
                  by_cases c12 : y876.length < 17592186044416
                  · rw [if_pos c12] at H
                    have LMc12 := amk c12
                    clear c12
                    obtain ⟨y879, hy879⟩ : ∃ y_ : List Int, y_ = (y876 ++ [a1]) := ⟨_, rfl⟩
                    replace H : ((some (l0.drop (x5_1 : Int).toNat : List Int)).bind fun y882 => (if y879.length + y882.length < 17592186044416 then (some (y879 ++ y882)) else (none))) = some r := by first | (rw [hy879]; with_reducible exact H) | (have H2_ := (Option.bind_some _ _).symm.trans H; rw [hy879]; with_reducible exact H2_) | (have H2_ := (Option.bind_some _ _).symm.trans H; with_reducible exact H2_) | with_reducible exact H | (rw [hy879]; exact H) | exact H
                    have Ny879 := amk hy879
                    clear hy879
                    have c13b0 := eq_true (of_decide_eq_true (by first | (with_reducible assumption) | assumption) : 0 ≤ x5_1)
                    have c14b0 := eq_true (of_decide_eq_true (by first | (with_reducible assumption) | assumption) : x5_1 ≤ (l0.length : Int))
                    obtain ⟨y882, hy882⟩ : ∃ y_ : List Int, y_ = (l0.drop (x5_1 : Int).toNat) := ⟨_, rfl⟩
                    replace H : (if y879.length + y882.length < 17592186044416 then (some (y879 ++ y882)) else (none)) = some r := by first | (rw [hy882]; with_reducible exact H) | (have H2_ := (Option.bind_some _ _).symm.trans H; rw [hy882]; with_reducible exact H2_) | (have H2_ := (Option.bind_some _ _).symm.trans H; with_reducible exact H2_) | with_reducible exact H | (rw [hy882]; exact H) | exact H
                    have Ny882 := amk hy882
                    clear hy882
                    by_cases c15 : y879.length + y882.length < 17592186044416
                    · rw [if_pos c15] at H
                      have LMc15 := amk c15
                      clear c15
                      obtain ⟨y886, hy886⟩ : ∃ y_ : List Int, y_ = (y879 ++ y882) := ⟨_, rfl⟩
                      replace H : (some y886) = some r := by first | (rw [hy886]; with_reducible exact H) | (have H2_ := (Option.bind_some _ _).symm.trans H; rw [hy886]; with_reducible exact H2_) | (have H2_ := (Option.bind_some _ _).symm.trans H; with_reducible exact H2_) | with_reducible exact H | (rw [hy886]; exact H) | exact H
                      have Ny886 := amk hy886
                      clear hy886
                      obtain rfl := Option.some.inj H
                      obtain ⟨Ao16, co16, eo16⟩ := Kd.R_slice HO_0.out
                      subst eo16
                      have p867 : 0 ≤ (x5_1 : Int) := of_decide_eq_true (by first | (with_reducible assumption) | assumption)
                      have q867 : x5_1 < (l0.length : Int) := of_decide_eq_true (by first | (with_reducible assumption) | assumption)
                      obtain ⟨ad867, e867, hx867_0⟩ := Kd.at_int (Kd.R_reads' HO_0.out).2.2 x5_1 p867 q867
                      cases e867
                      replace p867 := eq_true p867
                      replace q867 := eq_true q867
                      have p868 : 0 ≤ (x5_1 : Int) := of_decide_eq_true (by first | (with_reducible assumption) | assumption)
                      have q868 : x5_1 < (l0.length : Int) := of_decide_eq_true (by first | (with_reducible assumption) | assumption)
                      obtain ⟨ad868, e868, hx868_0⟩ := Kd.at_int (Kd.R_reads' HO_0.out).2.2 x5_1 p868 q868
                      obtain rfl : ad867 = ad868 := (by injection e868)
                      replace p868 := eq_true p868
                      replace q868 := eq_true q868
                      go_wp2_with (first | ((with_reducible refine gate_dst (N := 34) rfl ?_); refine Kd.R_lit (Kd.int .i64) _ 3 ?hg (N := 34) ?hd (xs := ([] : List Int)) (inner := []) (ok := fun _ => True) (okp := fun _ => True) ?hr ?hp (fun _ hk => hk) trivial (Below.refl _ _) (Nat.le_refl _) (by simp) ?_; (case hd => rfl); (case hg => rfl); (case hr => first | (go_simp; done) | (go_simp; rfl)); (case hp => exact (Reps.none _ _)); intro v870 w17 ho18 hb hg_ hnew_; clear hg_ hnew_; (first | rw [← Ny869.out] at ho18 | (simp only [Int.reduceToNat] at ho18; rw [← Ny869.out] at ho18)); have n0_ := amk (Kd.R_elder' (by (with_reducible repeat (first | apply Kd.R_alloc | apply Kd.R_drewN | apply Kd.R_drew)); exact HO_0.out) (Kd.R_base ho18) hb); have n1_ := amk (Kd.R_lower (Kd.R_new' (Kd.R_newM (M := fun k_ => (P0_ k_ ∨ w.heap.size ≤ k_)) ho18 (by first | exact HK.out.1 | exact (show Kept w _ (fun k_ => P0_ k_) from by repeat (first | (with_reducible first | exact HK.out | apply Kept.alloc | apply Kept.drewN | apply Kept.drew) | exact HK.out)).1) (fun k_ h_ => .inr h_)) (Kd.R_lt (by (with_reducible repeat (first | apply Kd.R_alloc | apply Kd.R_drewN | apply Kd.R_drew)); exact HO_0.out))) (below_size (by repeat (first | (with_reducible first | exact HB.out | apply ba_ | apply bn_ | apply bd_) | exact HB.out)))); have n2_ := amk (Kept.below (S := (fun k_ => P0_ k_)) (by repeat (first | (with_reducible first | exact HK.out | apply Kept.alloc | apply Kept.drewN | apply Kept.drew) | exact HK.out)) hb); have n3_ := amk (bp_ (by repeat (first | (with_reducible first | exact HB.out | apply ba_ | apply bn_ | apply bd_) | exact HB.out)) hb); clear HO_0; clear HK; clear HB; have HO_0 := n0_; have HO871 := n1_; have HK := n2_; have HB := n3_; clear n0_ n1_ n2_ n3_; clear hb ho18; have q19 : (x5_1 : Int) ≤ ((l0.length : Int) : Int) := of_decide_eq_true (by first | (with_reducible assumption) | assumption); obtain ⟨i019, hi019, _, hsz19, _⟩ := info_parts info3; have hroom19 : l0.length ≤ co16 := (Kd.R_reads' HO_0.out).2.1; have hC19 : Kd.C (Kd.int .i64) _ (some ad867) l0.length l0 := (Kd.R_reads' HO_0.out).2.2; have hcut19 := cut_to (P := Try.prog) 86 3 .i64 Try.underlying86 hi019 (some ad867) l0.length co16 x5_1 (of_decide_eq_true (by first | (with_reducible assumption) | assumption)) q19 hroom19; have hr19 := Kd.C_take (m := (x5_1 : Int).toNat) hC19 (by omega); have hy19 : y872.length = (x5_1 : Int).toNat := (by rw [Ny872.out, List.length_take]; omega); rw [← Ny872.out] at hr19; rw [← hy19] at hcut19; have HR875 := amk hr19; have HC875 := amk (show y872.length ≤ co16 from by omega); clear hr19 hC19 hroom19 hi019 hsz19; have KY19 := amk hy19; clear hy19; have KL19 := amk (show (x5_1 : Int).toNat ≤ l0.length from by omega); replace q19 := eq_true q19) | ((with_reducible refine gate_builtin (b := .append) (xs := #[.tmp 34, .tmp 37]) rfl ?_); at_builtin; refine Kd.R_append_rows (Kd.int .i64) (w0 := w0) w0.heap.size rfl (.tmp 34) (.tmp 37) 86 3 (.int .i64 0) 8 rfl Try.underlying86 info3 rfl (by decide) (by omega) v870 y869 y872 _ _ _ (fun k_ => (P0_ k_ ∨ w.heap.size ≤ k_) ∧ some k_ ≠ (.slice (some ad867) l0.length co16 : Value).ownBlock) (fun _ => False) rfl rfl ?aO ?aR (fun _ _ h => h) (fun _ h => h.elim) ?aF ?aB ?aS ?aL ?_; (case aR => repeat (first | exact (by repeat (first | (with_reducible exact HR875.out) | (with_reducible refine Kd.C_alloc ?_ _) | (with_reducible refine Kd.C_drewN ?_ _) | (with_reducible refine Kd.C_drew ?_) | exact HR875.out)) | (with_reducible refine Kd.C_alloc ?_ _) | (with_reducible refine Kd.C_drewN ?_ _) | (with_reducible refine Kd.C_drew ?_))); (case aB => exact (by repeat (first | (with_reducible first | exact HB.out | apply ba_ | apply bn_ | apply bd_) | exact HB.out))); (case aF => exact (fun k_ hk => ⟨(.inr (Nat.le_trans (by first | exact HK.out.1 | exact (show Kept w _ (fun k_ => P0_ k_) from by repeat (first | (with_reducible first | exact HK.out | apply Kept.alloc | apply Kept.drewN | apply Kept.drew) | exact HK.out)).1) hk)), Kd.fresh' (Kd.R_lt (by (with_reducible repeat (first | apply Kd.R_alloc | apply Kd.R_drewN | apply Kd.R_drew)); exact HO_0.out)) k_ hk⟩)); (case aO => exact (by (with_reducible repeat (first | apply Kd.R_alloc | apply Kd.R_drewN | apply Kd.R_drew)); exact Kd.R_mono HO871.out (fun _ hk => ⟨hk.1.1, hk.2⟩))); (case aS => exact (below_size (by repeat (first | (with_reducible first | exact HB.out | apply ba_ | apply bn_ | apply bd_) | exact HB.out)))); (case aL => have := LMc11.out; omega); intro v877 w20 ho hb hg hat; rw [← Ny876.out] at ho; have n0_ := amk (Kd.R_after (ok := (fun k_ => (P0_ k_ ∨ w.heap.size ≤ k_))) (by (with_reducible repeat (first | apply Kd.R_alloc | apply Kd.R_drewN | apply Kd.R_drew)); exact HO_0.out) hg hat); have n1_ := amk (hb); have n2_ := amk (Kept.of_grown (S := (fun k_ => P0_ k_)) hg (by repeat (first | (with_reducible first | exact HK.out | apply Kept.alloc | apply Kept.drewN | apply Kept.drew) | exact HK.out)) (fun k_ e_ => (HO871.out.1 k_ e_).1.1)); have n3_ := amk ((show Kd.C (Kd.int .i64) w20 (some ad867) y872.length y872 from by rw [Ny872.out]; exact Kd.C_take (m := (x5_1 : Int).toNat) ((Kd.R_reads' (Kd.R_after (ok := (fun k_ => (P0_ k_ ∨ w.heap.size ≤ k_))) (by (with_reducible repeat (first | apply Kd.R_alloc | apply Kd.R_drewN | apply Kd.R_drew)); exact HO_0.out) hg hat)).2.2) KL19.out)); have n4_ := amk (ho); clear HO_0; clear HB; clear HK; clear HR875; clear HO871; have HO_0 := n0_; have HB := n1_; have HK := n2_; have HR875 := n3_; have HO878 := n4_; clear n0_ n1_ n2_ n3_ n4_; clear ho hb hg hat) | ((with_reducible refine gate_builtin (b := .append) (xs := #[.tmp 39, .tmp 41]) rfl ?_); at_builtin; refine Kd.R_append (Kd.int .i64) (w0 := w0) w0.heap.size rfl (.tmp 39) (.tmp 41) 86 3 (.int .i64 0) 8 rfl Try.underlying86 info3 rfl (by decide) (by omega) v877 y876 a1 [.int .i64 a1] (fun k_ => (P0_ k_ ∨ w.heap.size ≤ k_) ∧ some k_ ≠ (.slice (some ad867) l0.length co16 : Value).ownBlock) (fun _ => False) rfl rfl ?aP (fun _ hk => hk.elim) ?aF ?aO ?aB ?aS ?aL ?_; (case aP => exact rfl); (case aB => exact (by repeat (first | (with_reducible first | exact HB.out | apply ba_ | apply bn_ | apply bd_) | exact HB.out))); (case aF => exact (fun k_ hk => ⟨(.inr (Nat.le_trans (by first | exact HK.out.1 | exact (show Kept w _ (fun k_ => P0_ k_) from by repeat (first | (with_reducible first | exact HK.out | apply Kept.alloc | apply Kept.drewN | apply Kept.drew) | exact HK.out)).1) hk)), Kd.fresh' (Kd.R_lt (by (with_reducible repeat (first | apply Kd.R_alloc | apply Kd.R_drewN | apply Kd.R_drew)); exact HO_0.out)) k_ hk⟩)); (case aO => exact (by (with_reducible repeat (first | apply Kd.R_alloc | apply Kd.R_drewN | apply Kd.R_drew)); exact HO878.out)); (case aS => exact (below_size (by repeat (first | (with_reducible first | exact HB.out | apply ba_ | apply bn_ | apply bd_) | exact HB.out)))); (case aL => have := LMc12.out; omega); intro v880 w21 ho hb hg hat; rw [← Ny879.out] at ho; have n0_ := amk (Kd.R_after (ok := (fun k_ => (P0_ k_ ∨ w.heap.size ≤ k_))) (by (with_reducible repeat (first | apply Kd.R_alloc | apply Kd.R_drewN | apply Kd.R_drew)); exact HO_0.out) hg hat); have n1_ := amk (hb); have n2_ := amk (Kept.of_grown (S := (fun k_ => P0_ k_)) hg (by repeat (first | (with_reducible first | exact HK.out | apply Kept.alloc | apply Kept.drewN | apply Kept.drew) | exact HK.out)) (fun k_ e_ => (HO878.out.1 k_ e_).1)); have n3_ := amk ((show Kd.C (Kd.int .i64) w21 (some ad867) y872.length y872 from by rw [Ny872.out]; exact Kd.C_take (m := (x5_1 : Int).toNat) ((Kd.R_reads' (Kd.R_after (ok := (fun k_ => (P0_ k_ ∨ w.heap.size ≤ k_))) (by (with_reducible repeat (first | apply Kd.R_alloc | apply Kd.R_drewN | apply Kd.R_drew)); exact HO_0.out) hg hat)).2.2) KL19.out)); have n4_ := amk (ho); clear HO_0; clear HB; clear HK; clear HR875; clear HO878; have HO_0 := n0_; have HB := n1_; have HK := n2_; have HR875 := n3_; have HO881 := n4_; clear n0_ n1_ n2_ n3_ n4_; clear ho hb hg hat; have q22 : (x5_1 : Int) ≤ ((l0.length : Int) : Int) := of_decide_eq_true (by first | (with_reducible assumption) | assumption); obtain ⟨i022, hi022, _, hsz22, _⟩ := info_parts info3; have hroom22 : l0.length ≤ co16 := (Kd.R_reads' HO_0.out).2.1; have hC22 : Kd.C (Kd.int .i64) _ (some ad867) l0.length l0 := (Kd.R_reads' HO_0.out).2.2; have q022 : (0 : Int) ≤ (x5_1 : Int) := of_decide_eq_true (by first | (with_reducible assumption) | assumption); have hcut22 := cut_from (P := Try.prog) 86 3 .i64 Try.underlying86 hi022 1 hsz22 (some ad867) l0.length co16 x5_1 q022 q22; have hr22 := Kd.C_drop (m := (x5_1 : Int).toNat) (c := co16) hC22 (by omega) hroom22; obtain ⟨A22, hA22⟩ : ∃ A1, A1 = (if co16 = (x5_1 : Int).toNat then (some ad867) else ((some ad867) : Option Addr).map (·.add ((x5_1 : Int).toNat * 1))) := ⟨_, rfl⟩; obtain ⟨c22, hc22⟩ : ∃ c1, c1 = co16 - (x5_1 : Int).toNat := ⟨_, rfl⟩; have hy22 : y882.length = l0.length - (x5_1 : Int).toNat := (by rw [Ny882.out, List.length_drop] <;> omega); rw [show (l0).drop (x5_1 : Int).toNat = y882 from Ny882.out.symm] at hr22; replace hr22 : Kd.C (Kd.int .i64) _ A22 y882.length y882 := (by rw [hA22]; exact hr22); rw [← hy22, ← hA22, ← hc22] at hcut22; have HR885 := amk hr22; have HC885 := amk (show y882.length ≤ c22 from by rw [hy22, hc22]; exact Nat.sub_le_sub_right hroom22 _); clear hr22 hC22 hroom22 hi022 hsz22 hc22; have KY22 := amk hy22; have KA22 := amk hA22; clear hy22 hA22; have KL22 := amk (show (x5_1 : Int).toNat ≤ l0.length from by omega); replace q22 := eq_true q22) | ((with_reducible refine gate_builtin (b := .append) (xs := #[.tmp 43, .tmp 46]) rfl ?_); at_builtin; refine Kd.R_append_rows (Kd.int .i64) (w0 := w0) w0.heap.size rfl (.tmp 43) (.tmp 46) 86 3 (.int .i64 0) 8 rfl Try.underlying86 info3 rfl (by decide) (by omega) v880 y879 y882 _ _ _ (fun k_ => (P0_ k_ ∨ w.heap.size ≤ k_) ∧ some k_ ≠ (.slice (some ad867) l0.length co16 : Value).ownBlock) (fun _ => False) rfl rfl ?aO ?aR (fun _ _ h => h) (fun _ h => h.elim) ?aF ?aB ?aS ?aL ?_; (case aR => repeat (first | exact (by repeat (first | (with_reducible exact HR885.out) | (with_reducible refine Kd.C_alloc ?_ _) | (with_reducible refine Kd.C_drewN ?_ _) | (with_reducible refine Kd.C_drew ?_) | exact HR885.out)) | (with_reducible refine Kd.C_alloc ?_ _) | (with_reducible refine Kd.C_drewN ?_ _) | (with_reducible refine Kd.C_drew ?_))); (case aB => exact (by repeat (first | (with_reducible first | exact HB.out | apply ba_ | apply bn_ | apply bd_) | exact HB.out))); (case aF => exact (fun k_ hk => ⟨(.inr (Nat.le_trans (by first | exact HK.out.1 | exact (show Kept w _ (fun k_ => P0_ k_) from by repeat (first | (with_reducible first | exact HK.out | apply Kept.alloc | apply Kept.drewN | apply Kept.drew) | exact HK.out)).1) hk)), Kd.fresh' (Kd.R_lt (by (with_reducible repeat (first | apply Kd.R_alloc | apply Kd.R_drewN | apply Kd.R_drew)); exact HO_0.out)) k_ hk⟩)); (case aO => exact (by (with_reducible repeat (first | apply Kd.R_alloc | apply Kd.R_drewN | apply Kd.R_drew)); exact HO881.out)); (case aS => exact (below_size (by repeat (first | (with_reducible first | exact HB.out | apply ba_ | apply bn_ | apply bd_) | exact HB.out)))); (case aL => have := LMc15.out; omega); intro v887 w23 ho hb hg hat; rw [← Ny886.out] at ho; have n0_ := amk (Kd.R_after (ok := (fun k_ => (P0_ k_ ∨ w.heap.size ≤ k_))) (by (with_reducible repeat (first | apply Kd.R_alloc | apply Kd.R_drewN | apply Kd.R_drew)); exact HO_0.out) hg hat); have n1_ := amk (hb); have n2_ := amk (Kept.of_grown (S := (fun k_ => P0_ k_)) hg (by repeat (first | (with_reducible first | exact HK.out | apply Kept.alloc | apply Kept.drewN | apply Kept.drew) | exact HK.out)) (fun k_ e_ => (HO881.out.1 k_ e_).1)); have n3_ := amk ((show Kd.C (Kd.int .i64) w23 (some ad867) y872.length y872 from by rw [Ny872.out]; exact Kd.C_take (m := (x5_1 : Int).toNat) ((Kd.R_reads' (Kd.R_after (ok := (fun k_ => (P0_ k_ ∨ w.heap.size ≤ k_))) (by (with_reducible repeat (first | apply Kd.R_alloc | apply Kd.R_drewN | apply Kd.R_drew)); exact HO_0.out) hg hat)).2.2) KL19.out)); have n4_ := amk ((show Kd.C (Kd.int .i64) w23 A22 y882.length y882 from by rw [Ny882.out, KA22.out]; exact Kd.C_drop (m := (x5_1 : Int).toNat) (c := co16) ((Kd.R_reads' (Kd.R_after (ok := (fun k_ => (P0_ k_ ∨ w.heap.size ≤ k_))) (by (with_reducible repeat (first | apply Kd.R_alloc | apply Kd.R_drewN | apply Kd.R_drew)); exact HO_0.out) hg hat)).2.2) KL22.out ((Kd.R_reads' (Kd.R_after (ok := (fun k_ => (P0_ k_ ∨ w.heap.size ≤ k_))) (by (with_reducible repeat (first | apply Kd.R_alloc | apply Kd.R_drewN | apply Kd.R_drew)); exact HO_0.out) hg hat)).2.1))); have n5_ := amk (ho); clear HO_0; clear HB; clear HK; clear HR875; clear HR885; clear HO881; have HO_0 := n0_; have HB := n1_; have HK := n2_; have HR875 := n3_; have HR885 := n4_; have HO888 := n5_; clear n0_ n1_ n2_ n3_ n4_ n5_; clear ho hb hg hat))
                      go_ret
                      exact ⟨_, by first | rfl | (simp [errW_none, errW_some] <;> rfl) | (simp [*, errW_none, errW_some] <;> rfl), by (with_reducible repeat (first | apply Kd.R_alloc | apply Kd.R_drewN | apply Kd.R_drew)); exact Kd.R_mono HO888.out (fun _ hk => hk.1), by repeat (first | (with_reducible first | exact HB.out | apply ba_ | apply bn_ | apply bd_) | exact HB.out), by repeat (first | (with_reducible first | exact HK.out | apply Kept.alloc | apply Kept.drewN | apply Kept.drew) | exact HK.out)⟩
                    · rw [if_neg c15] at H
                      exact absurd H (by simp)
                  · rw [if_neg c12] at H
                    exact absurd H (by simp)
                · rw [if_neg c11] at H
                  exact absurd H (by simp)
              · rw [if_neg c10] at H
                exact absurd H (by simp)
        · rw [if_neg c4] at H
          exact absurd H (by simp)
      · rw [if_neg c3] at H
        have c3b0 : decide (x5_1 < (l0.length : Int)) = false := decide_eq_false c3
        clear c3
        obtain ⟨y889, hy889⟩ : ∃ y_ : List Int, y_ = (([] : List Int)) := ⟨_, rfl⟩
        replace H : (if 0 ≤ x5_1 then (if x5_1 ≤ (l0.length : Int) then ((some (l0.take (x5_1 : Int).toNat : List Int)).bind fun y892 => (if y889.length + y892.length < 17592186044416 then ((some (y889 ++ y892 : List Int)).bind fun y896 => (if y896.length < 17592186044416 then ((some (y896 ++ [a1] : List Int)).bind fun y899 => ((some (l0.drop (x5_1 : Int).toNat : List Int)).bind fun y902 => (if y899.length + y902.length < 17592186044416 then (some (y899 ++ y902)) else (none)))) else (none))) else (none))) else (none)) else (none)) = some r := by first | (rw [hy889]; with_reducible exact H) | (have H2_ := (Option.bind_some _ _).symm.trans H; rw [hy889]; with_reducible exact H2_) | (have H2_ := (Option.bind_some _ _).symm.trans H; with_reducible exact H2_) | with_reducible exact H | (rw [hy889]; exact H) | exact H
        have Ny889 := amk hy889
        clear hy889
        by_cases c24 : 0 ≤ x5_1
        · rw [if_pos c24] at H
          have c24b0 := eq_true c24
          have c24b1 : decide (0 ≤ x5_1) = true := decide_eq_true c24
          clear c24
          by_cases c25 : x5_1 ≤ (l0.length : Int)
          · rw [if_pos c25] at H
            have c25b0 := eq_true c25
            have c25b1 : decide (x5_1 ≤ (l0.length : Int)) = true := decide_eq_true c25
            clear c25
            obtain ⟨y892, hy892⟩ : ∃ y_ : List Int, y_ = (l0.take (x5_1 : Int).toNat) := ⟨_, rfl⟩
            replace H : (if y889.length + y892.length < 17592186044416 then ((some (y889 ++ y892 : List Int)).bind fun y896 => (if y896.length < 17592186044416 then ((some (y896 ++ [a1] : List Int)).bind fun y899 => ((some (l0.drop (x5_1 : Int).toNat : List Int)).bind fun y902 => (if y899.length + y902.length < 17592186044416 then (some (y899 ++ y902)) else (none)))) else (none))) else (none)) = some r := by first | (rw [hy892]; with_reducible exact H) | (have H2_ := (Option.bind_some _ _).symm.trans H; rw [hy892]; with_reducible exact H2_) | (have H2_ := (Option.bind_some _ _).symm.trans H; with_reducible exact H2_) | with_reducible exact H | (rw [hy892]; exact H) | exact H
            have Ny892 := amk hy892
            clear hy892
            by_cases c26 : y889.length + y892.length < 17592186044416
            · rw [if_pos c26] at H
              have LMc26 := amk c26
              clear c26
              obtain ⟨y896, hy896⟩ : ∃ y_ : List Int, y_ = (y889 ++ y892) := ⟨_, rfl⟩
              replace H : (if y896.length < 17592186044416 then ((some (y896 ++ [a1] : List Int)).bind fun y899 => ((some (l0.drop (x5_1 : Int).toNat : List Int)).bind fun y902 => (if y899.length + y902.length < 17592186044416 then (some (y899 ++ y902)) else (none)))) else (none)) = some r := by first | (rw [hy896]; with_reducible exact H) | (have H2_ := (Option.bind_some _ _).symm.trans H; rw [hy896]; with_reducible exact H2_) | (have H2_ := (Option.bind_some _ _).symm.trans H; with_reducible exact H2_) | with_reducible exact H | (rw [hy896]; exact H) | exact H
              have Ny896 := amk hy896
              clear hy896
              by_cases c27 : y896.length < 17592186044416
              · rw [if_pos c27] at H
                have LMc27 := amk c27
                clear c27
                obtain ⟨y899, hy899⟩ : ∃ y_ : List Int, y_ = (y896 ++ [a1]) := ⟨_, rfl⟩
                replace H : ((some (l0.drop (x5_1 : Int).toNat : List Int)).bind fun y902 => (if y899.length + y902.length < 17592186044416 then (some (y899 ++ y902)) else (none))) = some r := by first | (rw [hy899]; with_reducible exact H) | (have H2_ := (Option.bind_some _ _).symm.trans H; rw [hy899]; with_reducible exact H2_) | (have H2_ := (Option.bind_some _ _).symm.trans H; with_reducible exact H2_) | with_reducible exact H | (rw [hy899]; exact H) | exact H
                have Ny899 := amk hy899
                clear hy899
                have c28b0 := eq_true (of_decide_eq_true (by first | (with_reducible assumption) | assumption) : 0 ≤ x5_1)
                have c29b0 := eq_true (of_decide_eq_true (by first | (with_reducible assumption) | assumption) : x5_1 ≤ (l0.length : Int))
                obtain ⟨y902, hy902⟩ : ∃ y_ : List Int, y_ = (l0.drop (x5_1 : Int).toNat) := ⟨_, rfl⟩
                replace H : (if y899.length + y902.length < 17592186044416 then (some (y899 ++ y902)) else (none)) = some r := by first | (rw [hy902]; with_reducible exact H) | (have H2_ := (Option.bind_some _ _).symm.trans H; rw [hy902]; with_reducible exact H2_) | (have H2_ := (Option.bind_some _ _).symm.trans H; with_reducible exact H2_) | with_reducible exact H | (rw [hy902]; exact H) | exact H
                have Ny902 := amk hy902
                clear hy902
                by_cases c30 : y899.length + y902.length < 17592186044416
                · rw [if_pos c30] at H
                  have LMc30 := amk c30
                  clear c30
                  obtain ⟨y906, hy906⟩ : ∃ y_ : List Int, y_ = (y899 ++ y902) := ⟨_, rfl⟩
                  replace H : (some y906) = some r := by first | (rw [hy906]; with_reducible exact H) | (have H2_ := (Option.bind_some _ _).symm.trans H; rw [hy906]; with_reducible exact H2_) | (have H2_ := (Option.bind_some _ _).symm.trans H; with_reducible exact H2_) | with_reducible exact H | (rw [hy906]; exact H) | exact H
                  have Ny906 := amk hy906
                  clear hy906
                  obtain rfl := Option.some.inj H
                  obtain ⟨Ao31, co31, eo31⟩ := Kd.R_slice HO_0.out
                  subst eo31
                  go_wp2_with (first | ((with_reducible refine gate_dst (N := 34) rfl ?_); refine Kd.R_lit (Kd.int .i64) _ 3 ?hg (N := 34) ?hd (xs := ([] : List Int)) (inner := []) (ok := fun _ => True) (okp := fun _ => True) ?hr ?hp (fun _ hk => hk) trivial (Below.refl _ _) (Nat.le_refl _) (by simp) ?_; (case hd => rfl); (case hg => rfl); (case hr => first | (go_simp; done) | (go_simp; rfl)); (case hp => exact (Reps.none _ _)); intro v890 w32 ho33 hb hg_ hnew_; clear hg_ hnew_; (first | rw [← Ny889.out] at ho33 | (simp only [Int.reduceToNat] at ho33; rw [← Ny889.out] at ho33)); have n0_ := amk (Kd.R_elder' (by (with_reducible repeat (first | apply Kd.R_alloc | apply Kd.R_drewN | apply Kd.R_drew)); exact HO_0.out) (Kd.R_base ho33) hb); have n1_ := amk (Kd.R_lower (Kd.R_new' (Kd.R_newM (M := fun k_ => (P0_ k_ ∨ w.heap.size ≤ k_)) ho33 (by first | exact HK.out.1 | exact (show Kept w _ (fun k_ => P0_ k_) from by repeat (first | (with_reducible first | exact HK.out | apply Kept.alloc | apply Kept.drewN | apply Kept.drew) | exact HK.out)).1) (fun k_ h_ => .inr h_)) (Kd.R_lt (by (with_reducible repeat (first | apply Kd.R_alloc | apply Kd.R_drewN | apply Kd.R_drew)); exact HO_0.out))) (below_size (by repeat (first | (with_reducible first | exact HB.out | apply ba_ | apply bn_ | apply bd_) | exact HB.out)))); have n2_ := amk (Kept.below (S := (fun k_ => P0_ k_)) (by repeat (first | (with_reducible first | exact HK.out | apply Kept.alloc | apply Kept.drewN | apply Kept.drew) | exact HK.out)) hb); have n3_ := amk (bp_ (by repeat (first | (with_reducible first | exact HB.out | apply ba_ | apply bn_ | apply bd_) | exact HB.out)) hb); clear HO_0; clear HK; clear HB; have HO_0 := n0_; have HO891 := n1_; have HK := n2_; have HB := n3_; clear n0_ n1_ n2_ n3_; clear hb ho33; have q34 : (x5_1 : Int) ≤ ((l0.length : Int) : Int) := of_decide_eq_true (by first | (with_reducible assumption) | assumption); obtain ⟨i034, hi034, _, hsz34, _⟩ := info_parts info3; have hroom34 : l0.length ≤ co31 := (Kd.R_reads' HO_0.out).2.1; have hC34 : Kd.C (Kd.int .i64) _ Ao31 l0.length l0 := (Kd.R_reads' HO_0.out).2.2; have hcut34 := cut_to (P := Try.prog) 86 3 .i64 Try.underlying86 hi034 Ao31 l0.length co31 x5_1 (of_decide_eq_true (by first | (with_reducible assumption) | assumption)) q34 hroom34; have hr34 := Kd.C_take (m := (x5_1 : Int).toNat) hC34 (by omega); have hy34 : y892.length = (x5_1 : Int).toNat := (by rw [Ny892.out, List.length_take]; omega); rw [← Ny892.out] at hr34; rw [← hy34] at hcut34; have HR895 := amk hr34; have HC895 := amk (show y892.length ≤ co31 from by omega); clear hr34 hC34 hroom34 hi034 hsz34; have KY34 := amk hy34; clear hy34; have KL34 := amk (show (x5_1 : Int).toNat ≤ l0.length from by omega); replace q34 := eq_true q34) | ((with_reducible refine gate_builtin (b := .append) (xs := #[.tmp 34, .tmp 37]) rfl ?_); at_builtin; refine Kd.R_append_rows (Kd.int .i64) (w0 := w0) w0.heap.size rfl (.tmp 34) (.tmp 37) 86 3 (.int .i64 0) 8 rfl Try.underlying86 info3 rfl (by decide) (by omega) v890 y889 y892 _ _ _ (fun k_ => (P0_ k_ ∨ w.heap.size ≤ k_) ∧ some k_ ≠ (.slice Ao31 l0.length co31 : Value).ownBlock) (fun _ => False) rfl rfl ?aO ?aR (fun _ _ h => h) (fun _ h => h.elim) ?aF ?aB ?aS ?aL ?_; (case aR => repeat (first | exact (by repeat (first | (with_reducible exact HR895.out) | (with_reducible refine Kd.C_alloc ?_ _) | (with_reducible refine Kd.C_drewN ?_ _) | (with_reducible refine Kd.C_drew ?_) | exact HR895.out)) | (with_reducible refine Kd.C_alloc ?_ _) | (with_reducible refine Kd.C_drewN ?_ _) | (with_reducible refine Kd.C_drew ?_))); (case aB => exact (by repeat (first | (with_reducible first | exact HB.out | apply ba_ | apply bn_ | apply bd_) | exact HB.out))); (case aF => exact (fun k_ hk => ⟨(.inr (Nat.le_trans (by first | exact HK.out.1 | exact (show Kept w _ (fun k_ => P0_ k_) from by repeat (first | (with_reducible first | exact HK.out | apply Kept.alloc | apply Kept.drewN | apply Kept.drew) | exact HK.out)).1) hk)), Kd.fresh' (Kd.R_lt (by (with_reducible repeat (first | apply Kd.R_alloc | apply Kd.R_drewN | apply Kd.R_drew)); exact HO_0.out)) k_ hk⟩)); (case aO => exact (by (with_reducible repeat (first | apply Kd.R_alloc | apply Kd.R_drewN | apply Kd.R_drew)); exact Kd.R_mono HO891.out (fun _ hk => ⟨hk.1.1, hk.2⟩))); (case aS => exact (below_size (by repeat (first | (with_reducible first | exact HB.out | apply ba_ | apply bn_ | apply bd_) | exact HB.out)))); (case aL => have := LMc26.out; omega); intro v897 w35 ho hb hg hat; rw [← Ny896.out] at ho; have n0_ := amk (Kd.R_after (ok := (fun k_ => (P0_ k_ ∨ w.heap.size ≤ k_))) (by (with_reducible repeat (first | apply Kd.R_alloc | apply Kd.R_drewN | apply Kd.R_drew)); exact HO_0.out) hg hat); have n1_ := amk (hb); have n2_ := amk (Kept.of_grown (S := (fun k_ => P0_ k_)) hg (by repeat (first | (with_reducible first | exact HK.out | apply Kept.alloc | apply Kept.drewN | apply Kept.drew) | exact HK.out)) (fun k_ e_ => (HO891.out.1 k_ e_).1.1)); have n3_ := amk ((show Kd.C (Kd.int .i64) w35 Ao31 y892.length y892 from by rw [Ny892.out]; exact Kd.C_take (m := (x5_1 : Int).toNat) ((Kd.R_reads' (Kd.R_after (ok := (fun k_ => (P0_ k_ ∨ w.heap.size ≤ k_))) (by (with_reducible repeat (first | apply Kd.R_alloc | apply Kd.R_drewN | apply Kd.R_drew)); exact HO_0.out) hg hat)).2.2) KL34.out)); have n4_ := amk (ho); clear HO_0; clear HB; clear HK; clear HR895; clear HO891; have HO_0 := n0_; have HB := n1_; have HK := n2_; have HR895 := n3_; have HO898 := n4_; clear n0_ n1_ n2_ n3_ n4_; clear ho hb hg hat) | ((with_reducible refine gate_builtin (b := .append) (xs := #[.tmp 39, .tmp 41]) rfl ?_); at_builtin; refine Kd.R_append (Kd.int .i64) (w0 := w0) w0.heap.size rfl (.tmp 39) (.tmp 41) 86 3 (.int .i64 0) 8 rfl Try.underlying86 info3 rfl (by decide) (by omega) v897 y896 a1 [.int .i64 a1] (fun k_ => (P0_ k_ ∨ w.heap.size ≤ k_) ∧ some k_ ≠ (.slice Ao31 l0.length co31 : Value).ownBlock) (fun _ => False) rfl rfl ?aP (fun _ hk => hk.elim) ?aF ?aO ?aB ?aS ?aL ?_; (case aP => exact rfl); (case aB => exact (by repeat (first | (with_reducible first | exact HB.out | apply ba_ | apply bn_ | apply bd_) | exact HB.out))); (case aF => exact (fun k_ hk => ⟨(.inr (Nat.le_trans (by first | exact HK.out.1 | exact (show Kept w _ (fun k_ => P0_ k_) from by repeat (first | (with_reducible first | exact HK.out | apply Kept.alloc | apply Kept.drewN | apply Kept.drew) | exact HK.out)).1) hk)), Kd.fresh' (Kd.R_lt (by (with_reducible repeat (first | apply Kd.R_alloc | apply Kd.R_drewN | apply Kd.R_drew)); exact HO_0.out)) k_ hk⟩)); (case aO => exact (by (with_reducible repeat (first | apply Kd.R_alloc | apply Kd.R_drewN | apply Kd.R_drew)); exact HO898.out)); (case aS => exact (below_size (by repeat (first | (with_reducible first | exact HB.out | apply ba_ | apply bn_ | apply bd_) | exact HB.out)))); (case aL => have := LMc27.out; omega); intro v900 w36 ho hb hg hat; rw [← Ny899.out] at ho; have n0_ := amk (Kd.R_after (ok := (fun k_ => (P0_ k_ ∨ w.heap.size ≤ k_))) (by (with_reducible repeat (first | apply Kd.R_alloc | apply Kd.R_drewN | apply Kd.R_drew)); exact HO_0.out) hg hat); have n1_ := amk (hb); have n2_ := amk (Kept.of_grown (S := (fun k_ => P0_ k_)) hg (by repeat (first | (with_reducible first | exact HK.out | apply Kept.alloc | apply Kept.drewN | apply Kept.drew) | exact HK.out)) (fun k_ e_ => (HO898.out.1 k_ e_).1)); have n3_ := amk ((show Kd.C (Kd.int .i64) w36 Ao31 y892.length y892 from by rw [Ny892.out]; exact Kd.C_take (m := (x5_1 : Int).toNat) ((Kd.R_reads' (Kd.R_after (ok := (fun k_ => (P0_ k_ ∨ w.heap.size ≤ k_))) (by (with_reducible repeat (first | apply Kd.R_alloc | apply Kd.R_drewN | apply Kd.R_drew)); exact HO_0.out) hg hat)).2.2) KL34.out)); have n4_ := amk (ho); clear HO_0; clear HB; clear HK; clear HR895; clear HO898; have HO_0 := n0_; have HB := n1_; have HK := n2_; have HR895 := n3_; have HO901 := n4_; clear n0_ n1_ n2_ n3_ n4_; clear ho hb hg hat; have q37 : (x5_1 : Int) ≤ ((l0.length : Int) : Int) := of_decide_eq_true (by first | (with_reducible assumption) | assumption); obtain ⟨i037, hi037, _, hsz37, _⟩ := info_parts info3; have hroom37 : l0.length ≤ co31 := (Kd.R_reads' HO_0.out).2.1; have hC37 : Kd.C (Kd.int .i64) _ Ao31 l0.length l0 := (Kd.R_reads' HO_0.out).2.2; have q037 : (0 : Int) ≤ (x5_1 : Int) := of_decide_eq_true (by first | (with_reducible assumption) | assumption); have hcut37 := cut_from (P := Try.prog) 86 3 .i64 Try.underlying86 hi037 1 hsz37 Ao31 l0.length co31 x5_1 q037 q37; have hr37 := Kd.C_drop (m := (x5_1 : Int).toNat) (c := co31) hC37 (by omega) hroom37; obtain ⟨A37, hA37⟩ : ∃ A1, A1 = (if co31 = (x5_1 : Int).toNat then Ao31 else (Ao31 : Option Addr).map (·.add ((x5_1 : Int).toNat * 1))) := ⟨_, rfl⟩; obtain ⟨c37, hc37⟩ : ∃ c1, c1 = co31 - (x5_1 : Int).toNat := ⟨_, rfl⟩; have hy37 : y902.length = l0.length - (x5_1 : Int).toNat := (by rw [Ny902.out, List.length_drop] <;> omega); rw [show (l0).drop (x5_1 : Int).toNat = y902 from Ny902.out.symm] at hr37; replace hr37 : Kd.C (Kd.int .i64) _ A37 y902.length y902 := (by rw [hA37]; exact hr37); rw [← hy37, ← hA37, ← hc37] at hcut37; have HR905 := amk hr37; have HC905 := amk (show y902.length ≤ c37 from by rw [hy37, hc37]; exact Nat.sub_le_sub_right hroom37 _); clear hr37 hC37 hroom37 hi037 hsz37 hc37; have KY37 := amk hy37; have KA37 := amk hA37; clear hy37 hA37; have KL37 := amk (show (x5_1 : Int).toNat ≤ l0.length from by omega); replace q37 := eq_true q37) | ((with_reducible refine gate_builtin (b := .append) (xs := #[.tmp 43, .tmp 46]) rfl ?_); at_builtin; refine Kd.R_append_rows (Kd.int .i64) (w0 := w0) w0.heap.size rfl (.tmp 43) (.tmp 46) 86 3 (.int .i64 0) 8 rfl Try.underlying86 info3 rfl (by decide) (by omega) v900 y899 y902 _ _ _ (fun k_ => (P0_ k_ ∨ w.heap.size ≤ k_) ∧ some k_ ≠ (.slice Ao31 l0.length co31 : Value).ownBlock) (fun _ => False) rfl rfl ?aO ?aR (fun _ _ h => h) (fun _ h => h.elim) ?aF ?aB ?aS ?aL ?_; (case aR => repeat (first | exact (by repeat (first | (with_reducible exact HR905.out) | (with_reducible refine Kd.C_alloc ?_ _) | (with_reducible refine Kd.C_drewN ?_ _) | (with_reducible refine Kd.C_drew ?_) | exact HR905.out)) | (with_reducible refine Kd.C_alloc ?_ _) | (with_reducible refine Kd.C_drewN ?_ _) | (with_reducible refine Kd.C_drew ?_))); (case aB => exact (by repeat (first | (with_reducible first | exact HB.out | apply ba_ | apply bn_ | apply bd_) | exact HB.out))); (case aF => exact (fun k_ hk => ⟨(.inr (Nat.le_trans (by first | exact HK.out.1 | exact (show Kept w _ (fun k_ => P0_ k_) from by repeat (first | (with_reducible first | exact HK.out | apply Kept.alloc | apply Kept.drewN | apply Kept.drew) | exact HK.out)).1) hk)), Kd.fresh' (Kd.R_lt (by (with_reducible repeat (first | apply Kd.R_alloc | apply Kd.R_drewN | apply Kd.R_drew)); exact HO_0.out)) k_ hk⟩)); (case aO => exact (by (with_reducible repeat (first | apply Kd.R_alloc | apply Kd.R_drewN | apply Kd.R_drew)); exact HO901.out)); (case aS => exact (below_size (by repeat (first | (with_reducible first | exact HB.out | apply ba_ | apply bn_ | apply bd_) | exact HB.out)))); (case aL => have := LMc30.out; omega); intro v907 w38 ho hb hg hat; rw [← Ny906.out] at ho; have n0_ := amk (Kd.R_after (ok := (fun k_ => (P0_ k_ ∨ w.heap.size ≤ k_))) (by (with_reducible repeat (first | apply Kd.R_alloc | apply Kd.R_drewN | apply Kd.R_drew)); exact HO_0.out) hg hat); have n1_ := amk (hb); have n2_ := amk (Kept.of_grown (S := (fun k_ => P0_ k_)) hg (by repeat (first | (with_reducible first | exact HK.out | apply Kept.alloc | apply Kept.drewN | apply Kept.drew) | exact HK.out)) (fun k_ e_ => (HO901.out.1 k_ e_).1)); have n3_ := amk ((show Kd.C (Kd.int .i64) w38 Ao31 y892.length y892 from by rw [Ny892.out]; exact Kd.C_take (m := (x5_1 : Int).toNat) ((Kd.R_reads' (Kd.R_after (ok := (fun k_ => (P0_ k_ ∨ w.heap.size ≤ k_))) (by (with_reducible repeat (first | apply Kd.R_alloc | apply Kd.R_drewN | apply Kd.R_drew)); exact HO_0.out) hg hat)).2.2) KL34.out)); have n4_ := amk ((show Kd.C (Kd.int .i64) w38 A37 y902.length y902 from by rw [Ny902.out, KA37.out]; exact Kd.C_drop (m := (x5_1 : Int).toNat) (c := co31) ((Kd.R_reads' (Kd.R_after (ok := (fun k_ => (P0_ k_ ∨ w.heap.size ≤ k_))) (by (with_reducible repeat (first | apply Kd.R_alloc | apply Kd.R_drewN | apply Kd.R_drew)); exact HO_0.out) hg hat)).2.2) KL37.out ((Kd.R_reads' (Kd.R_after (ok := (fun k_ => (P0_ k_ ∨ w.heap.size ≤ k_))) (by (with_reducible repeat (first | apply Kd.R_alloc | apply Kd.R_drewN | apply Kd.R_drew)); exact HO_0.out) hg hat)).2.1))); have n5_ := amk (ho); clear HO_0; clear HB; clear HK; clear HR895; clear HR905; clear HO901; have HO_0 := n0_; have HB := n1_; have HK := n2_; have HR895 := n3_; have HR905 := n4_; have HO908 := n5_; clear n0_ n1_ n2_ n3_ n4_ n5_; clear ho hb hg hat))
                  go_ret
                  exact ⟨_, by first | rfl | (simp [errW_none, errW_some] <;> rfl) | (simp [*, errW_none, errW_some] <;> rfl), by (with_reducible repeat (first | apply Kd.R_alloc | apply Kd.R_drewN | apply Kd.R_drew)); exact Kd.R_mono HO908.out (fun _ hk => hk.1), by repeat (first | (with_reducible first | exact HB.out | apply ba_ | apply bn_ | apply bd_) | exact HB.out), by repeat (first | (with_reducible first | exact HK.out | apply Kept.alloc | apply Kept.drewN | apply Kept.drew) | exact HK.out)⟩
                · rw [if_neg c30] at H
                  exact absurd H (by simp)
              · rw [if_neg c27] at H
                exact absurd H (by simp)
            · rw [if_neg c26] at H
              exact absurd H (by simp)
          · rw [if_neg c25] at H
            exact absurd H (by simp)
        · rw [if_neg c24] at H
          exact absurd H (by simp)
/-! spec.AddPin, by hand: a row of what it makes is written anew. -/
def spec_AddPin.f (k : Nat) (a0 : Int) (l0 : List (List Int)) (a1 : Int) (a2 : Int) : Option (Int × List (List Int) × Bool) :=
  (spec_kePlace.f k a0 l0 a1 a2).bind fun t => if t = true then (if 0 ≤ a1 ∧ a1 < (l0.length : Int) then (spec_l1Has.f k (l0.getD a1.toNat []) a2).bind fun b => if b = true then some (0, [], false) else (spec_keOwn.f k a0 l0).bind fun q => if a1 < (q.2.length : Int) then (spec_l1Put.f k (q.2.getD a1.toNat []) a2).bind fun s => some (q.1, q.2.set a1.toNat s, true) else none else none) else some (0, [], false)
set_option maxHeartbeats 4000000 in
set_option maxRecDepth 100000 in
theorem spec_AddPin.calls (k : Nat) (a0 : Int) (A0 : Option Addr) (c0 : Nat) (l0 : List (List Int)) (a1 : Int) (a2 : Int) (r1 : Int) (r2 : List (List Int)) (r3 : Bool) (w : World) (h0 : Kd.C (Kd.slice 3 (Kd.int .i64)) w A0 l0.length l0) (i0 : l0.length ≤ c0) (h : spec_AddPin.f k a0 l0 a1 a2 = some (r1, r2, r3)) :
    Calls Try.prog 64 #[.agg #[.int .i64 a0, .slice A0 l0.length c0], .int .i64 a1, .int .i64 a2] w fun e w' => ∃ v1_ : Value, e = .returned (.tuple #[.agg #[.int .i64 r1, v1_], .bool r3]) ∧ Kd.S (Kd.slice 3 (Kd.int .i64)) 86 w' w.heap.size (fun _ => True) v1_ r2 ∧ Below w.heap.size w w' := by
  have hu41 := Try.underlying41
  have hu35 := Try.underlying35
  have hu86 := Try.underlying86
  unfold spec_AddPin.f at h
  obtain ⟨t, ht, h⟩ := Option.bind_eq_some_iff.mp h
  have HT := amk ht
  have H0 := amk h0
  have I0 := amk i0
  have TP2 : Aside0 (TP w a0 A0 l0.length c0 ((w.alloc (.cells #[.int .i64 a0, .slice A0 l0.length c0] 41 (0, 0))).alloc (.cells #[.int .i64 0, .slice none 0 0] 41 (0, 0)))) := ⟨((Below.refl w.heap.size w).alloc (Nat.le_refl _) _).alloc (by simp) _, (((Below.refl _ _).alloc (Nat.le_refl _) _).block _ (by simp)).trans (blk_new _ _), by simpa using blk_new (w.alloc (.cells #[.int .i64 a0, .slice A0 l0.length c0] 41 (0, 0))) (.cells #[.int .i64 0, .slice none 0 0] 41 (0, 0))⟩
  have hty : ∀ q, q ∈ 86 :: (Kd.slice 3 (Kd.int .i64)).E → q ≠ 41 := by intro q hq; simp [Kd.slice, Kd.int, Kd.scalar] at hq; omega
  have HTY := amk hty
  clear ht i0 hty
  cases t with
  | false =>
    simp only [Bool.false_eq_true, if_false, Option.some.injEq, Prod.mk.injEq] at h
    obtain ⟨rfl, rfl, rfl⟩ := h
    clear h0
    go_enter Try.func64, Try.ntmps64
    go_wp2_with (go_at_call 93; refine Calls.mono (spec_kePlace.calls k _ _ _ _ _ _ _ _ (Kd.C_below H0.out TP2.out.1) I0.out HT.out) ?_; rintro e w3 ⟨rfl, hb⟩; have TP3 := amk (TP_below TP2.out hb); obtain ⟨hp0, hp1, hp2, hp3, _⟩ := two_cells TP3.out.2.2; clear hb)
    (try simp only [Exit.inBlock, Exit.then])
    refine bodyPost_ret (results_ct rfl _ _ (w.heap.size + 1) 41 #[.int .i64 0, .slice none 0 0] (0, 0) _ rfl (two_set TP3.out.2.2 _ _) Try.underlying41 rfl (by kernel_rfl)) rfl ?_
    exact ⟨_, rfl, Kd.S_nil _ _ _ _ _, (TP3.out.1.setCell (p := ⟨w.heap.size + 1, 0, none⟩) (by show w.heap.size ≤ w.heap.size + 1; omega) _).setCell (p := ⟨w.heap.size + 1, 1, none⟩) (by show w.heap.size ≤ w.heap.size + 1; omega) _⟩
  | true =>
    rw [if_pos rfl] at h
    by_cases p1 : 0 ≤ a1 ∧ a1 < (l0.length : Int)
    · rw [if_pos p1] at h
      obtain ⟨i, rfl⟩ := Int.eq_ofNat_of_zero_le p1.1
      have hi : i < l0.length := by omega
      simp only [Int.toNat_natCast] at h
      obtain ⟨ad, Ai, ci, rfl, hrow, l1, g1⟩ := row_at h0 i hi
      obtain ⟨b, hb, h⟩ := Option.bind_eq_some_iff.mp h
      have hd0 : decide ((0 : Int) ≤ (i : Int)) = true := decide_eq_true (by omega)
      have hd1 : decide ((i : Int) < (l0.length : Int)) = true := decide_eq_true p1.2
      have hz0 : ((0 : Int) ≤ (i : Int)) = True := eq_true (by omega)
      have hz1 : ((i : Int) < (l0.length : Int)) = True := eq_true p1.2
      have hz2 : (i < l0.length) = True := eq_true hi
      generalize l0.getD i [] = row at hrow l1 g1 hb
      have HROW := amk hrow
      have L1 := amk l1
      have G1 := amk g1
      have HHB := amk hb
      clear hrow l1 g1 hb h0 p1 hi
      cases b with
      | true =>
        simp only [if_true, Option.some.injEq, Prod.mk.injEq] at h
        obtain ⟨rfl, rfl, rfl⟩ := h
        go_enter Try.func64, Try.ntmps64
        go_wp2_with (first | (go_at_call 93; refine Calls.mono (spec_kePlace.calls k _ _ _ _ _ _ _ _ (Kd.C_below H0.out TP2.out.1) I0.out HT.out) ?_; rintro e w3 ⟨rfl, hb⟩; have TP3 := amk (TP_below TP2.out hb); obtain ⟨hq0, hq1, hq2⟩ := TP_cells TP3.out HROW.out; clear hb) | (go_at_call 94; refine Calls.mono (spec_l1Has.calls k _ _ row a2 _ _ (Kd.C_below G1.out TP3.out.1) L1.out HHB.out) ?_; rintro e w4 ⟨rfl, hb⟩; have TP4 := amk (TP_below TP3.out hb.below); clear hq0 hq1 hq2; obtain ⟨hp0, hp1, hp2, hp3, _⟩ := two_cells TP4.out.2.2; clear hb))
        (try simp only [Exit.inBlock, Exit.then])
        refine bodyPost_ret (results_ct rfl _ _ (w.heap.size + 1) 41 #[.int .i64 0, .slice none 0 0] (0, 0) _ rfl (two_set TP4.out.2.2 _ _) Try.underlying41 rfl (by kernel_rfl)) rfl ?_
        exact ⟨_, rfl, Kd.S_nil _ _ _ _ _, (TP4.out.1.setCell (p := ⟨w.heap.size + 1, 0, none⟩) (by show w.heap.size ≤ w.heap.size + 1; omega) _).setCell (p := ⟨w.heap.size + 1, 1, none⟩) (by show w.heap.size ≤ w.heap.size + 1; omega) _⟩
      | false =>
        simp only [Bool.false_eq_true, if_false] at h
        obtain ⟨⟨n5, J⟩, hj, h⟩ := Option.bind_eq_some_iff.mp h
        simp only [] at h
        by_cases p2 : (i : Int) < (J.length : Int)
        · rw [if_pos p2] at h
          obtain ⟨s, hs, h⟩ := Option.bind_eq_some_iff.mp h
          simp only [Option.some.injEq, Prod.mk.injEq] at h
          obtain ⟨rfl, rfl, rfl⟩ := h
          have hJ : i < J.length := by omega
          generalize hjr : J.getD i [] = rowJ at hs
          have HJR := amk hjr
          clear hjr
          have hy1 : decide ((i : Int) < (J.length : Int)) = true := decide_eq_true p2
          have hy2 : ((i : Int) < (J.length : Int)) = True := eq_true p2
          have hy3 : (i < J.length) = True := eq_true hJ
          have HJ := amk hJ
          have HJJ := amk hj
          have HPUT := amk hs
          clear hj hs hJ p2
          go_enter Try.func64, Try.ntmps64
          go_wp2_with (first | (go_at_call 93; refine Calls.mono (spec_kePlace.calls k _ _ _ _ _ _ _ _ (Kd.C_below H0.out TP2.out.1) I0.out HT.out) ?_; rintro e w3 ⟨rfl, hb⟩; have TP3 := amk (TP_below TP2.out hb); obtain ⟨hq0, hq1, hq2⟩ := TP_cells TP3.out HROW.out; clear hb) | (go_at_call 94; refine Calls.mono (spec_l1Has.calls k _ _ row a2 _ _ (Kd.C_below G1.out TP3.out.1) L1.out HHB.out) ?_; rintro e w4 ⟨rfl, hb⟩; have TP4 := amk (TP_below TP3.out hb.below); clear hq0 hq1 hq2; obtain ⟨hq0, hq1, hq2⟩ := TP_cells TP4.out HROW.out; clear hb) | (go_at_call 95; refine Calls.mono (spec_keOwn.calls k _ _ _ _ n5 J _ (Kd.C_below H0.out TP4.out.1) I0.out HJJ.out) ?_; rintro e w5 ⟨v5, rfl, hs5, hb5⟩; clear hq0 hq1 hq2; obtain ⟨g5, c5, rfl, hg5, hg5b, cs5, hcs5⟩ := Kd.S_form hs5 (Nat.lt_of_le_of_lt (Nat.zero_le _) HJ.out); have Z4 := amk (two_cells TP4.out.2.2).2.2.2.2; have TP5 := amk (TP_below TP4.out hb5); have TP6 := amk (TP_below TP5.out ((Below.refl _ w5).alloc (Nat.le_refl _) (.cells #[.int .i64 n5, .slice (some ⟨g5, 0, none⟩) J.length c5] 41 (0, 0)))); have S6 := amk (show Kd.S (Kd.slice 3 (Kd.int .i64)) 86 (w5.alloc (.cells #[.int .i64 n5, .slice (some ⟨g5, 0, none⟩) J.length c5] 41 (0, 0))) w.heap.size (fun k => (k ≠ w5.heap.size ∧ w4.heap.size ≤ k) ∧ ¬ (w5.heap.size + 1 ≤ k)) (.slice (some ⟨g5, 0, none⟩) J.length c5) J from Kd.S_mono (Kd.S_alloc (Kd.S_lower (Kd.S_bound hs5) TP4.out.1.size) (.cells #[.int .i64 n5, .slice (some ⟨g5, 0, none⟩) J.length c5] 41 (0, 0))) (fun k hk => ⟨⟨Nat.ne_of_lt hk.2.2.1, hk.2.1⟩, Nat.not_le_of_gt (Nat.lt_succ_of_lt hk.2.2.1)⟩)); obtain ⟨oki, ce, hcl, hM, hcc, hfr, hoki, hH⟩ := Kd.S_elem S6.out ([] : List Int) (i : Int) (Int.natCast_nonneg i) (by have := HJ.out; omega); obtain ⟨u, rfl, hRu⟩ := hM; have hx0 := hcc 0 u rfl; have hx1 := hfr 0; simp only [show (Kd.slice 3 (Kd.int .i64)).sz = 1 from rfl, Nat.mul_one, Nat.add_zero, Int.toNat_natCast] at hx0 hx1 hRu; rw [HJR.out] at hRu; obtain ⟨Au, cu, rfl⟩ := Kd.R_slice hRu; have HRU := amk hRu; have HH := amk hH; have HOK := amk hoki; have BO6 := amk (blk_new w5 (.cells #[.int .i64 n5, .slice (some ⟨g5, 0, none⟩) J.length c5] 41 (0, 0))); have BG6 := amk ((((Below.refl _ w5).alloc (Nat.le_refl _) (.cells #[.int .i64 n5, .slice (some ⟨g5, 0, none⟩) J.length c5] 41 (0, 0))).block g5 hg5b).trans hcs5); have HX0 := amk hx0; have G5 := amk (And.intro hg5 hg5b); have hne1 : g5 ≠ w5.heap.size := Nat.ne_of_lt hg5b; have hne2 : w5.heap.size ≠ g5 := Nat.ne_of_gt hg5b; clear hs5 hb5 hcc hfr hcl hoki hH hRu hg5 hg5b hcs5) | (go_at_call 118; refine Calls.mono (spec_l1Put.calls k oki _ rowJ a2 s w _ TP6.out.1 HRU.out HPUT.out) ?_; rintro e w7 ⟨v7, rfl, hr, hb, hk⟩; obtain ⟨A7, c7, rfl⟩ := Kd.R_slice hr; have R7 := amk hr; have K7 := amk hk; have BG7 := amk (blk_kept BG6.out hk (fun h => (HOK.out _ h).2 rfl)); have BO7 := amk (blk_kept BO6.out hk (fun h => (HOK.out _ h).1.1.1 rfl)); have TP7 := amk (show TP w a0 (some ad) l0.length c0 w7 from ⟨hb, blk_kept TP6.out.2.1 hk (fun h => by have := (HOK.out _ h).1.1.2; have := Z4.out; omega), blk_kept TP6.out.2.2 hk (fun h => by have := (HOK.out _ h).1.1.2; have := Z4.out; omega)⟩); clear hx0 hx1; have hx0 := cell_kept HX0.out hk (fun h => (HOK.out _ h).2 rfl); have hx1 := blk_frozen BG7.out i; obtain ⟨hq0, hq1, hq2, hq3, _⟩ := two_cells BO7.out; obtain ⟨hp0, hp1, hp2, hp3, _⟩ := two_cells TP7.out.2.2; have hne3 : g5 ≠ w.heap.size + 1 := (by have := G5.out.1; have := Z4.out; omega); have hne4 : w.heap.size + 1 ≠ g5 := Ne.symm hne3; clear hr hb hk))
          (try simp only [Exit.inBlock, Exit.then])
          have hok : ∀ q, oki q → q ≠ g5 := fun q hq => (HOK.out q hq).2
          have hH7 := Kd.H_kept HH.out K7.out (fun k_ _ hn => hn)
          have hg5 := G5.out
          have hz : (w5.alloc (.cells #[.int .i64 n5, .slice (some ⟨g5, 0, none⟩) J.length c5] 41 (0, 0))).heap.size = w5.heap.size + 1 := by simp
          have hR7 : Kd.R (Kd.int .i64) 3 w7 w.heap.size (fun q => oki q ∨ w5.heap.size + 1 ≤ q) (.slice A7 s.length c7) s := Kd.R_mono R7.out (fun q hq => hq.imp id (fun h => by rw [hz] at h; exact h))
          have hP := Kd.S_seg (okg := fun q => w5.heap.size + 1 ≤ q) hH7 (Int.natCast_nonneg i) (by have := HJ.out; omega) (seg := [.slice A7 s.length c7]) (j := 0) (Nat.le_refl 1) (x' := s) (okp := fun q => oki q ∨ w5.heap.size + 1 ≤ q) (Kd.M_row hR7) (fun q hq => hq) (fun q hq => ⟨⟨by omega, by omega⟩, by omega⟩)
          have hP1 := hP.1
          rw [show ((i : Int).toNat * (Kd.slice 3 (Kd.int .i64)).sz + 0) = i by show (i : Int).toNat * 1 + 0 = i; simp] at hP1
          have S8 := amk (show Kd.S (Kd.slice 3 (Kd.int .i64)) 86 (w7.setCell ⟨g5, i, none⟩ (.slice A7 s.length c7)) w.heap.size (fun q => q ≠ w5.heap.size ∧ w4.heap.size ≤ q) (.slice (some ⟨g5, 0, none⟩) J.length c5) (J.set i s) from by rw [Int.toNat_natCast] at hP1; exact hP1)
          have BK8 := amk (show (w7.setCell ⟨g5, i, none⟩ (.slice A7 s.length c7)).heap[w.heap.size + 1]? = some (.cells #[.int .i64 0, .slice none 0 0] 41 (0, 0)) from (Below.heap_setCell _ _ _ _ (show w.heap.size + 1 ≠ g5 from hne4)).trans TP7.out.2.2)
          have HB8 := amk (TP7.out.1.setCell (p := ⟨g5, i, none⟩) (by have := Z4.out; show w.heap.size ≤ g5; omega) (.slice A7 s.length c7))
          refine bodyPost_ret (results_ct rfl _ _ (w.heap.size + 1) 41 #[.int .i64 n5, .slice (some ⟨g5, 0, none⟩) J.length c5] (0, 0) _ rfl (two_set BK8.out _ _) Try.underlying41 rfl (by kernel_rfl)) rfl ?_
          refine ⟨_, rfl, Kd.S_mono (Kd.S_set (Kd.S_set S8.out BK8.out HTY.out 0 _) (heap_setCell_same _ _ 0 _ _ _ BK8.out) HTY.out 1 _) (fun _ _ => trivial), ?_⟩
          exact (HB8.out.setCell (p := ⟨w.heap.size + 1, 0, none⟩) (by show w.heap.size ≤ w.heap.size + 1; omega) _).setCell (p := ⟨w.heap.size + 1, 1, none⟩) (by show w.heap.size ≤ w.heap.size + 1; omega) _
        · rw [if_neg p2] at h; cases h
    · rw [if_neg p1] at h; cases h
/-! laws.FnExactAddPin, by hand: the argument's rows are marked. (Printed by genap.py) -/
def Q1a (w : World) (n : Int) (A : Option Addr) (l c : Nat) (W : World) : Prop := Below w.heap.size w W ∧ W.heap[w.heap.size]? = some (.cells #[.int .i64 n, .slice A l c] 37 (0, 0))
def T1a (w : World) (n : Int) (A : Option Addr) (c : Nat) (L : List (List Int)) (rn : Int) (R : List (List Int)) (aw bw : Nat) (Aw : Option Addr) (cw : Nat) (W : World) : Prop := Q1a w n A L.length c W ∧ W.heap[bw]? = some (.cells #[.int .i64 rn, .slice Aw R.length cw] 41 (0, 0)) ∧ Kd.S (Kd.slice 3 (Kd.int .i64)) 86 W w.heap.size (fun j => aw ≤ j ∧ j < bw) (.slice Aw R.length cw) R ∧ (w.heap.size + 1 ≤ aw ∧ aw ≤ bw ∧ bw < W.heap.size)
def T2a (w : World) (n : Int) (A : Option Addr) (c : Nat) (L : List (List Int)) (rn : Int) (R : List (List Int)) (aw bw : Nat) (Aw : Option Addr) (cw : Nat) (bx : Nat) (Ax : Option Addr) (cx : Nat) (X : List (List Int)) (W : World) : Prop := T1a w n A c L rn R aw bw Aw cw W ∧ W.heap[bx]? = some (.cells #[.int .i64 n, .slice Ax L.length cx] 41 (0, 0)) ∧ Kd.S (Kd.slice 3 (Kd.int .i64)) 86 W w.heap.size (fun j => bw + 1 ≤ j ∧ j < bx) (.slice Ax L.length cx) X ∧ (bw + 1 ≤ bx ∧ bx < W.heap.size)
def TKa (w : World) (n : Int) (A : Option Addr) (c : Nat) (L : List (List Int)) (rn : Int) (R : List (List Int)) (aw bw : Nat) (Aw : Option Addr) (cw : Nat) (bx : Nat) (Ax : Option Addr) (cx : Nat) (X : List (List Int)) (bg : Nat) (Ag : Option Addr) (cg : Nat) (G : List (List Int)) (W : World) : Prop := T2a w n A c L rn R aw bw Aw cw bx Ax cx X W ∧ W.heap[bg]? = some (.cells #[.int .i64 rn, .slice Ag R.length cg] 41 (0, 0)) ∧ Kd.S (Kd.slice 3 (Kd.int .i64)) 86 W w.heap.size (fun j => bx + 1 ≤ j ∧ j < bg) (.slice Ag R.length cg) G ∧ (bx + 1 ≤ bg ∧ bg < W.heap.size)
section
variable {w : World} {n : Int} {A : Option Addr} {c : Nat} {L : List (List Int)} {rn : Int} {R : List (List Int)} {aw bw : Nat} {Aw : Option Addr} {cw : Nat} {bx : Nat} {Ax : Option Addr} {cx : Nat} {X : List (List Int)} {bg : Nat} {Ag : Option Addr} {cg : Nat} {G : List (List Int)} {W W2 : World} {X' G' : List (List Int)} {l : Nat}
theorem Q1a_below (h : Q1a w n A l c W) (hb : Below W.heap.size W W2) : Q1a w n A l c W2 := ⟨h.1.trans (hb.mono h.1.size), (hb.block _ (two_cells h.2).2.2.2.2).trans h.2⟩
theorem T1a_below (h : T1a w n A c L rn R aw bw Aw cw W) (hb : Below W.heap.size W W2) : T1a w n A c L rn R aw bw Aw cw W2 := by
  obtain ⟨h1, h2, h3, h4⟩ := h
  have hs := hb.size
  exact ⟨Q1a_below h1 hb, (hb.block _ (by omega)).trans h2, Kd.S_below h3 hb, by omega⟩
theorem T2a_below (h : T2a w n A c L rn R aw bw Aw cw bx Ax cx X W) (hb : Below W.heap.size W W2) : T2a w n A c L rn R aw bw Aw cw bx Ax cx X W2 := by
  obtain ⟨h1, h2, h3, h4⟩ := h
  have hs := hb.size
  exact ⟨T1a_below h1 hb, (hb.block _ (by omega)).trans h2, Kd.S_below h3 hb, by omega⟩
theorem TKa_below (h : TKa w n A c L rn R aw bw Aw cw bx Ax cx X bg Ag cg G W) (hb : Below W.heap.size W W2) : TKa w n A c L rn R aw bw Aw cw bx Ax cx X bg Ag cg G W2 := by
  obtain ⟨h1, h2, h3, h4⟩ := h
  have hs := hb.size
  exact ⟨T2a_below h1 hb, (hb.block _ (by omega)).trans h2, Kd.S_below h3 hb, by omega⟩
theorem T1a_make (h : Q1a w n A L.length c W) (hs : Kd.S (Kd.slice 3 (Kd.int .i64)) 86 W aw (fun j => aw ≤ j ∧ j < W.heap.size) (.slice Aw R.length cw) R) (h1 : w.heap.size + 1 ≤ aw) (h2 : aw ≤ W.heap.size) : T1a w n A c L rn R aw W.heap.size Aw cw (W.alloc (.cells #[.int .i64 rn, .slice Aw R.length cw] 41 (0, 0))) :=
  ⟨Q1a_below h ((Below.refl _ W).alloc (Nat.le_refl _) _), blk_new _ _, Kd.S_alloc (Kd.S_lower hs (by omega)) _, by simp; omega⟩
theorem T2a_make (h : T1a w n A c L rn R aw bw Aw cw W) (hz : W.heap.size = bw + 1) (hb : Below W.heap.size W W2) (hs : Kd.S (Kd.slice 3 (Kd.int .i64)) 86 W2 W.heap.size (fun _ => True) (.slice Ax L.length cx) X) : T2a w n A c L rn R aw bw Aw cw W2.heap.size Ax cx X (W2.alloc (.cells #[.int .i64 n, .slice Ax L.length cx] 41 (0, 0))) := by
  have hz2 := hb.size
  have h0 := h.2.2.2
  have hi := S_ivC hs
  rw [hz] at hi
  exact ⟨T1a_below (T1a_below h hb) ((Below.refl _ W2).alloc (Nat.le_refl _) _), blk_new _ _, Kd.S_alloc (Kd.S_lower hi (by omega)) _, by simp; omega⟩
theorem TKa_make (h : T2a w n A c L rn R aw bw Aw cw bx Ax cx X W) (hz : W.heap.size = bx + 1) (hb : Below W.heap.size W W2) (hs : Kd.S (Kd.slice 3 (Kd.int .i64)) 86 W2 W.heap.size (fun _ => True) (.slice Ag R.length cg) G) : TKa w n A c L rn R aw bw Aw cw bx Ax cx X W2.heap.size Ag cg G (W2.alloc (.cells #[.int .i64 rn, .slice Ag R.length cg] 41 (0, 0))) := by
  have hz2 := hb.size
  have h0 := h.2.2.2
  have h00 := h.1.2.2.2
  have hi := S_ivC hs
  rw [hz] at hi
  exact ⟨T2a_below (T2a_below h hb) ((Below.refl _ W2).alloc (Nat.le_refl _) _), blk_new _ _, Kd.S_alloc (Kd.S_lower hi (by omega)) _, by simp; omega⟩
theorem TKa_markX (h : TKa w n A c L rn R aw bw Aw cw bx Ax cx X bg Ag cg G W) (hk : Kept W W2 (fun j => bw + 1 ≤ j ∧ j < bx)) (hb : Below w.heap.size w W2) (hs : Kd.S (Kd.slice 3 (Kd.int .i64)) 86 W2 w.heap.size (fun j => bw + 1 ≤ j ∧ j < bx) (.slice Ax L.length cx) X') : TKa w n A c L rn R aw bw Aw cw bx Ax cx X' bg Ag cg G W2 := by
  obtain ⟨⟨⟨⟨a1, a2⟩, b2, b3, b4⟩, c2, c3, c4⟩, d2, d3, d4⟩ := h
  have hz := hk.1
  exact ⟨⟨⟨⟨hb, (hk.2 _ (by omega) (by omega)).trans a2⟩, (hk.2 _ (by omega) (by omega)).trans b2, Kd.S_kept b3 hk (fun j h1 h2 => by omega), by omega⟩, (hk.2 _ (by omega) (by omega)).trans c2, hs, by omega⟩, (hk.2 _ (by omega) (by omega)).trans d2, Kd.S_kept d3 hk (fun j h1 h2 => by omega), by omega⟩
theorem TKa_markG (h : TKa w n A c L rn R aw bw Aw cw bx Ax cx X bg Ag cg G W) (hk : Kept W W2 (fun j => bx + 1 ≤ j ∧ j < bg)) (hb : Below w.heap.size w W2) (hs : Kd.S (Kd.slice 3 (Kd.int .i64)) 86 W2 w.heap.size (fun j => bx + 1 ≤ j ∧ j < bg) (.slice Ag R.length cg) G') : TKa w n A c L rn R aw bw Aw cw bx Ax cx X bg Ag cg G' W2 := by
  obtain ⟨⟨⟨⟨a1, a2⟩, b2, b3, b4⟩, c2, c3, c4⟩, d2, d3, d4⟩ := h
  have hz := hk.1
  exact ⟨⟨⟨⟨hb, (hk.2 _ (by omega) (by omega)).trans a2⟩, (hk.2 _ (by omega) (by omega)).trans b2, Kd.S_kept b3 hk (fun j h1 h2 => by omega), by omega⟩, (hk.2 _ (by omega) (by omega)).trans c2, Kd.S_kept c3 hk (fun j h1 h2 => by omega), by omega⟩, (hk.2 _ (by omega) (by omega)).trans d2, hs, by omega⟩
end
def laws_FnExactAddPin.f (n : Int) (l : List (List Int)) (p d : Int) : Option Bool := some true
set_option maxHeartbeats 16000000 in
set_option maxRecDepth 100000 in
theorem laws_FnExactAddPin.walk (k : Nat) (n : Int) (L : List (List Int)) (p d : Int) (rn : Int) (R R' X' : List (List Int)) (ok : Bool) (r0 m1 m : Int) (A : Option Addr) (c : Nat) (w : World) (hr : Kd.C (Kd.slice 3 (Kd.int .i64)) w A L.length L) (hc : L.length ≤ c)
    (e1 : laws_szPins.f k n L 1048576 = some r0) (h0 : 0 ≤ r0) (e2 : laws_toPins.f k n L = some (n, L)) (e3 : spec_AddPin.f k n L p d = some (rn, R, ok)) (e4 : impl_AddPin.f k n L p d = some (rn, R, ok)) (e5 : laws_eqPins.f k rn R rn R = some true) (e6 : laws_eqPins.f k n L n L = some true) (e7 : laws_markPins.f k n L 1 = some (m1, X')) (h7 : 0 ≤ m1) (e8 : laws_markPins.f k rn R 1 = some (m, R')) (h8 : 0 ≤ m) (e9 : laws_heldPins.f k rn R' 1 = some m) :
    Calls Try.prog 14 #[.agg #[.int .i64 n, .slice A L.length c], .int .i64 p, .int .i64 d] w fun e w' => e = .returned (.bool true) ∧ Below w.heap.size w w' := by
  have hu37 := Try.underlying37
  have hu41 := Try.underlying41
  have hu35 := Try.underlying35
  have hd0 : decide (r0 < 0) = false := decide_eq_false (by omega)
  have hd7 : decide (m1 < 0) = false := decide_eq_false (by omega)
  have hd8 : decide (m < 0) = false := decide_eq_false (by omega)
  have hok : (ok != ok) = false := by cases ok <;> rfl
  have hmm : (m != m) = false := by simp
  have E1 := amk e1
  have E2 := amk e2
  have E3 := amk e3
  have E4 := amk e4
  have E5 := amk e5
  have E6 := amk e6
  have E7 := amk e7
  have E8 := amk e8
  have E9 := amk e9
  have HC := amk hc
  have HR := amk hr
  have QA : Aside0 (Q1a w n A L.length c (w.alloc (.cells #[.int .i64 n, .slice A L.length c] 37 (0, 0)))) := ⟨(Below.refl w.heap.size w).alloc (Nat.le_refl _) _, blk_new _ _⟩
  clear e1 e2 e3 e4 e5 e6 e7 e8 e9 hc hr h0 h7 h8
  go_enter Try.func14, Try.ntmps14
  go_wp2_with (go_at_call 20; refine Calls.mono (laws_szPins.calls k n _ _ L _ r0 _ (Kd.C_below HR.out QA.out.1) HC.out E1.out) ?_; rintro e w2 ⟨rfl, hb⟩; have Q2 := amk (Q1a_below QA.out hb); have hq0 := (two_cells Q2.out.2).1; have hq1 := (two_cells Q2.out.2).2.1; clear hb)
  go_wp2_with (go_at_call 22; refine Calls.mono (laws_toPins.calls k n _ _ L n L _ (Kd.C_below HR.out Q2.out.1) HC.out E2.out) ?_; rintro e w3 ⟨v3, rfl, hs, hb⟩; have Q3 := amk (Q1a_below Q2.out hb); obtain ⟨A3, c3, rfl⟩ := Kd.S_slice hs; have S3 := amk hs; clear hq0 hq1; have hq0 := (two_cells Q3.out.2).1; have hq1 := (two_cells Q3.out.2).2.1; clear hs hb)
  go_wp2_with (go_at_call 64; refine Calls.mono (spec_AddPin.calls k n _ _ L p d rn R ok _ (Kd.S_reads' S3.out).2.2 (Kd.S_reads' S3.out).2.1 E3.out) ?_; rintro e w4 ⟨v4, rfl, hs, hb⟩; obtain ⟨A4, c4, rfl⟩ := Kd.S_slice hs; have TA := amk (T1a_make (rn := rn) (Q1a_below Q3.out hb) (S_ivC hs) (two_cells Q3.out.2).2.2.2.2 hb.size); clear hq0 hq1; have hq0 := (two_cells TA.out.1.2).1; have hq1 := (two_cells TA.out.1.2).2.1; have hw0 := (two_cells TA.out.2.1).1; have hw1 := (two_cells TA.out.2.1).2.1; clear hs hb)
  go_wp2_with (go_at_call 22; refine Calls.mono (laws_toPins.calls k n _ _ L n L _ (Kd.C_below HR.out TA.out.1.1) HC.out E2.out) ?_; rintro e w5 ⟨v5, rfl, hs, hb⟩; obtain ⟨A5, c5, rfl⟩ := Kd.S_slice hs; have S5 := amk hs; have TB := amk (T2a_make TA.out (by simp) hb hs); clear hq0 hq1 hw0 hw1; have hq0 := (two_cells TB.out.1.1.2).1; have hq1 := (two_cells TB.out.1.1.2).2.1; have hw0 := (two_cells TB.out.1.2.1).1; have hw1 := (two_cells TB.out.1.2.1).2.1; have hx0 := (two_cells TB.out.2.1).1; have hx1 := (two_cells TB.out.2.1).2.1; clear hs hb)
  go_wp2_with (go_at_call 65; refine Calls.mono (impl_AddPin.calls k n _ _ L p d rn R ok _ (Kd.C_alloc (Kd.S_reads' S5.out).2.2 _) (Kd.S_reads' S5.out).2.1 E4.out) ?_; rintro e w6 ⟨v6, rfl, hs, hb⟩; obtain ⟨A6, c6, rfl⟩ := Kd.S_slice hs; have ST7 := amk (TKa_make TB.out (by simp) hb hs); clear hq0 hq1 hw0 hw1 hx0 hx1; have hq0 := (two_cells ST7.out.1.1.1.2).1; have hq1 := (two_cells ST7.out.1.1.1.2).2.1; have hw0 := (two_cells ST7.out.1.1.2.1).1; have hw1 := (two_cells ST7.out.1.1.2.1).2.1; have hx0 := (two_cells ST7.out.1.2.1).1; have hx1 := (two_cells ST7.out.1.2.1).2.1; have hg0 := (two_cells ST7.out.2.1).1; have hg1 := (two_cells ST7.out.2.1).2.1; clear hs hb)
  go_wp2_with (go_at_call 24; refine Calls.mono (laws_eqPins.calls k rn _ _ R rn _ _ R true _ (Kd.S_reads' ST7.out.2.2.1).2.2 (Kd.S_reads' ST7.out.2.2.1).2.1 (Kd.S_reads' ST7.out.1.1.2.2.1).2.2 (Kd.S_reads' ST7.out.1.1.2.2.1).2.1 E5.out) ?_; rintro e w8 ⟨rfl, hb⟩; have ST8 := amk (TKa_below ST7.out hb); clear hq0 hq1 hw0 hw1 hx0 hx1 hg0 hg1; have hq0 := (two_cells ST8.out.1.1.1.2).1; have hq1 := (two_cells ST8.out.1.1.1.2).2.1; have hw0 := (two_cells ST8.out.1.1.2.1).1; have hw1 := (two_cells ST8.out.1.1.2.1).2.1; have hx0 := (two_cells ST8.out.1.2.1).1; have hx1 := (two_cells ST8.out.1.2.1).2.1; have hg0 := (two_cells ST8.out.2.1).1; have hg1 := (two_cells ST8.out.2.1).2.1; clear hb)
  have ST8d := amk (TKa_below ST8.out (Below.refl _ w8).drew)
  have HS : Aside0 (w8.drew.cell? ⟨w5.heap.size, 0, none⟩ = some (.int .i64 n) ∧ w8.drew.cell? ⟨w5.heap.size, 1, none⟩ = some (.slice A5 L.length c5) ∧ w8.drew.cell? ⟨w.heap.size, 0, none⟩ = some (.int .i64 n) ∧ w8.drew.cell? ⟨w.heap.size, 1, none⟩ = some (.slice A L.length c)) := ⟨⟨(two_cells ST8d.out.1.2.1).1, (two_cells ST8d.out.1.2.1).2.1, (two_cells ST8d.out.1.1.1.2).1, (two_cells ST8d.out.1.1.1.2).2.1⟩⟩
  go_region_held3 (fun w' => w'.cell? ⟨w5.heap.size, 0, none⟩ = some (.int .i64 n) ∧ w'.cell? ⟨w5.heap.size, 1, none⟩ = some (.slice A5 L.length c5) ∧ w'.cell? ⟨w.heap.size, 0, none⟩ = some (.int .i64 n) ∧ w'.cell? ⟨w.heap.size, 1, none⟩ = some (.slice A L.length c)) (first | exact ⟨(two_cells ST10.out.1.2.1).1, (two_cells ST10.out.1.2.1).2.1, (two_cells ST10.out.1.1.1.2).1, (two_cells ST10.out.1.1.1.2).2.1⟩ | exact ⟨(two_cells ST9.out.1.2.1).1, (two_cells ST9.out.1.2.1).2.1, (two_cells ST9.out.1.1.1.2).1, (two_cells ST9.out.1.1.1.2).2.1⟩ | exact HS.out) ((first | (go_at_call 22; refine Calls.mono (laws_toPins.calls k n _ _ L n L _ (Kd.C_below HR.out ST8d.out.1.1.1.1) HC.out E2.out) ?_; rintro e w9 ⟨v9, rfl, hs, hb⟩; have ST9 := amk (TKa_below ST8d.out hb); obtain ⟨A9, c9, rfl⟩ := Kd.S_slice hs; have S9 := amk hs; clear hs hb) | (go_at_call 24; refine Calls.mono (laws_eqPins.calls k n _ _ L n _ _ L true _ (Kd.S_reads' ST9.out.1.2.2.1).2.2 (Kd.S_reads' ST9.out.1.2.2.1).2.1 (Kd.S_reads' S9.out).2.2 (Kd.S_reads' S9.out).2.1 E6.out) ?_; rintro e w10 ⟨rfl, hb⟩; have ST10 := amk (TKa_below ST9.out hb); clear hb)))
  clear hq0 hq1 hw0 hw1 hx0 hx1 hg0 hg1
  have hq0 := (two_cells ST10.out.1.1.1.2).1
  have hq1 := (two_cells ST10.out.1.1.1.2).2.1
  have hw0 := (two_cells ST10.out.1.1.2.1).1
  have hw1 := (two_cells ST10.out.1.1.2.1).2.1
  have hx0 := (two_cells ST10.out.1.2.1).1
  have hx1 := (two_cells ST10.out.1.2.1).2.1
  have hg0 := (two_cells ST10.out.2.1).1
  have hg1 := (two_cells ST10.out.2.1).2.1;
  go_wp2_with (go_at_call_of 27 (Value.agg #[Value.int .i64 n, Value.slice A5 L.length c5]); refine Calls.mono (laws_markPins.calls k (fun j => w4.heap.size + 1 ≤ j ∧ j < w5.heap.size) n _ _ _ L 1 m1 X' w _ ST10.out.1.1.1.1 (fun j hj => by have h1 := ST10.out.1.1.2.2.2; have h2 := ST10.out.1.2.2.2; have h3 := ST10.out.2.2.2; omega) ST10.out.1.2.2.1 E7.out) ?_; rintro e w13 ⟨rfl, hs, hb, hk⟩; have ST13 := amk (TKa_markX ST10.out hk hb hs); clear hq0 hq1 hw0 hw1 hx0 hx1 hg0 hg1; have hq0 := (two_cells ST13.out.1.1.1.2).1; have hq1 := (two_cells ST13.out.1.1.1.2).2.1; have hw0 := (two_cells ST13.out.1.1.2.1).1; have hw1 := (two_cells ST13.out.1.1.2.1).2.1; have hx0 := (two_cells ST13.out.1.2.1).1; have hx1 := (two_cells ST13.out.1.2.1).2.1; have hg0 := (two_cells ST13.out.2.1).1; have hg1 := (two_cells ST13.out.2.1).2.1; clear hs hb hk)
  go_wp2_with (go_at_call 24; refine Calls.mono (laws_eqPins.calls k rn _ _ R rn _ _ R true _ (Kd.S_reads' ST13.out.2.2.1).2.2 (Kd.S_reads' ST13.out.2.2.1).2.1 (Kd.S_reads' ST13.out.1.1.2.2.1).2.2 (Kd.S_reads' ST13.out.1.1.2.2.1).2.1 E5.out) ?_; rintro e w14 ⟨rfl, hb⟩; have ST14 := amk (TKa_below ST13.out hb); clear hq0 hq1 hw0 hw1 hx0 hx1 hg0 hg1; have hq0 := (two_cells ST14.out.1.1.1.2).1; have hq1 := (two_cells ST14.out.1.1.1.2).2.1; have hw0 := (two_cells ST14.out.1.1.2.1).1; have hw1 := (two_cells ST14.out.1.1.2.1).2.1; have hx0 := (two_cells ST14.out.1.2.1).1; have hx1 := (two_cells ST14.out.1.2.1).2.1; have hg0 := (two_cells ST14.out.2.1).1; have hg1 := (two_cells ST14.out.2.1).2.1; clear hb)
  go_wp2_with (go_at_call_of 27 (Value.agg #[Value.int .i64 rn, Value.slice A6 R.length c6]); refine Calls.mono (laws_markPins.calls k (fun j => w5.heap.size + 1 ≤ j ∧ j < w6.heap.size) rn _ _ _ R 1 m R' w _ ST14.out.1.1.1.1 (fun j hj => by have h1 := ST14.out.1.1.2.2.2; have h2 := ST14.out.1.2.2.2; have h3 := ST14.out.2.2.2; omega) ST14.out.2.2.1 E8.out) ?_; rintro e w17 ⟨rfl, hs, hb, hk⟩; have ST17 := amk (TKa_markG ST14.out hk hb hs); clear hq0 hq1 hw0 hw1 hx0 hx1 hg0 hg1; have hq0 := (two_cells ST17.out.1.1.1.2).1; have hq1 := (two_cells ST17.out.1.1.1.2).2.1; have hw0 := (two_cells ST17.out.1.1.2.1).1; have hw1 := (two_cells ST17.out.1.1.2.1).2.1; have hx0 := (two_cells ST17.out.1.2.1).1; have hx1 := (two_cells ST17.out.1.2.1).2.1; have hg0 := (two_cells ST17.out.2.1).1; have hg1 := (two_cells ST17.out.2.1).2.1; clear hs hb hk)
  have hlen : R'.length = R.length := (Kd.S_reads' ST17.out.2.2.1).1.symm
  have HH : ∀ W, Kd.C (Kd.slice 3 (Kd.int .i64)) W A6 R'.length R' → Calls Try.prog 28 #[.agg #[.int .i64 rn, .slice A6 R.length c6], .int .i64 1] W fun e w' => e = .returned (.int .i64 m) ∧ Below W.heap.size W w' := fun W hC => by
    have := laws_heldPins.calls k rn A6 c6 R' 1 m W hC (by have := (Kd.S_reads' ST17.out.2.2.1).2.1; omega) E9.out
    rw [hlen] at this
    exact this
  have HHA := amk HH
  have HLN := amk hlen
  clear HH hlen
  go_wp2_with (go_at_call 28; refine Calls.mono (HHA.out _ (Kd.S_reads' ST17.out.2.2.1).2.2) ?_; rintro e w19 ⟨rfl, hb⟩; have ST19 := amk (TKa_below ST17.out hb); clear hq0 hq1 hw0 hw1 hx0 hx1 hg0 hg1; have hq0 := (two_cells ST19.out.1.1.1.2).1; have hq1 := (two_cells ST19.out.1.1.1.2).2.1; have hw0 := (two_cells ST19.out.1.1.2.1).1; have hw1 := (two_cells ST19.out.1.1.2.1).2.1; have hx0 := (two_cells ST19.out.1.2.1).1; have hx1 := (two_cells ST19.out.1.2.1).2.1; have hg0 := (two_cells ST19.out.2.1).1; have hg1 := (two_cells ST19.out.2.1).2.1; clear hb)
  go_wp2_with (go_at_call 22; refine Calls.mono (laws_toPins.calls k n _ _ L n L _ (Kd.C_below HR.out ST19.out.1.1.1.1) HC.out E2.out) ?_; rintro e w24 ⟨v24, rfl, hs, hb⟩; have ST24 := amk (TKa_below ST19.out hb); obtain ⟨A24, c24, rfl⟩ := Kd.S_slice hs; have S24 := amk hs; clear hq0 hq1 hw0 hw1 hx0 hx1 hg0 hg1; have hq0 := (two_cells ST24.out.1.1.1.2).1; have hq1 := (two_cells ST24.out.1.1.1.2).2.1; have hw0 := (two_cells ST24.out.1.1.2.1).1; have hw1 := (two_cells ST24.out.1.1.2.1).2.1; have hx0 := (two_cells ST24.out.1.2.1).1; have hx1 := (two_cells ST24.out.1.2.1).2.1; have hg0 := (two_cells ST24.out.2.1).1; have hg1 := (two_cells ST24.out.2.1).2.1; clear hs hb)
  go_wp2_with (go_at_call 65; refine Calls.mono (impl_AddPin.calls k n _ _ L p d rn R ok _ (Kd.S_reads' S24.out).2.2 (Kd.S_reads' S24.out).2.1 E4.out) ?_; rintro e w25 ⟨v25, rfl, hs, hb⟩; obtain ⟨A25, c25, rfl⟩ := Kd.S_slice hs; have ST25 := amk (TKa_below (TKa_below ST24.out hb) ((Below.refl _ w25).alloc (Nat.le_refl _) (.cells #[.int .i64 rn, .slice A25 R.length c25] 41 (0, 0)))); have S25 := amk (Kd.S_alloc hs (.cells #[.int .i64 rn, .slice A25 R.length c25] 41 (0, 0))); clear hq0 hq1 hw0 hw1 hx0 hx1 hg0 hg1; have hq0 := (two_cells ST25.out.1.1.1.2).1; have hq1 := (two_cells ST25.out.1.1.1.2).2.1; have hw0 := (two_cells ST25.out.1.1.2.1).1; have hw1 := (two_cells ST25.out.1.1.2.1).2.1; have hx0 := (two_cells ST25.out.1.2.1).1; have hx1 := (two_cells ST25.out.1.2.1).2.1; have hg0 := (two_cells ST25.out.2.1).1; have hg1 := (two_cells ST25.out.2.1).2.1; clear hs hb)
  go_wp2_with (go_at_call 24; refine Calls.mono (laws_eqPins.calls k rn _ _ R rn _ _ R true _ (Kd.S_reads' S25.out).2.2 (Kd.S_reads' S25.out).2.1 (Kd.S_reads' ST25.out.1.1.2.2.1).2.2 (Kd.S_reads' ST25.out.1.1.2.2.1).2.1 E5.out) ?_; rintro e w26 ⟨rfl, hb⟩; have ST26 := amk (TKa_below ST25.out hb); clear hq0 hq1 hw0 hw1 hx0 hx1 hg0 hg1; have hq0 := (two_cells ST26.out.1.1.1.2).1; have hq1 := (two_cells ST26.out.1.1.1.2).2.1; have hw0 := (two_cells ST26.out.1.1.2.1).1; have hw1 := (two_cells ST26.out.1.1.2.1).2.1; have hx0 := (two_cells ST26.out.1.2.1).1; have hx1 := (two_cells ST26.out.1.2.1).2.1; have hg0 := (two_cells ST26.out.2.1).1; have hg1 := (two_cells ST26.out.2.1).2.1; clear hb)
  go_wp2_with (go_at_call 28; refine Calls.mono (HHA.out _ (Kd.S_reads' ST26.out.2.2.1).2.2) ?_; rintro e w28 ⟨rfl, hb⟩; have ST28 := amk (TKa_below ST26.out hb); clear hq0 hq1 hw0 hw1 hx0 hx1 hg0 hg1; have hq0 := (two_cells ST28.out.1.1.1.2).1; have hq1 := (two_cells ST28.out.1.1.1.2).2.1; have hw0 := (two_cells ST28.out.1.1.2.1).1; have hw1 := (two_cells ST28.out.1.1.2.1).2.1; have hx0 := (two_cells ST28.out.1.2.1).1; have hx1 := (two_cells ST28.out.1.2.1).2.1; have hg0 := (two_cells ST28.out.2.1).1; have hg1 := (two_cells ST28.out.2.1).2.1; clear hb)
  go_ret
  exact ⟨rfl, ST28.out.1.1.1.1⟩
/-! Joined pins, over lists alone. -/
def rngFrom (s m : Nat) : List Int := (List.range' s m).map fun (d : Nat) => (d : Int)
theorem rngFrom_zero (s : Nat) : rngFrom s 0 = [] := rfl
theorem rngFrom_succ (s m : Nat) : rngFrom s (m + 1) = (s : Int) :: rngFrom (s + 1) m := by unfold rngFrom; rw [List.range'_succ, List.map_cons]
theorem rngFrom_len (s m : Nat) : (rngFrom s m).length = m := by unfold rngFrom; simp
theorem rngFrom_mem {s m : Nat} {x : Int} (h : x ∈ rngFrom s m) : (s : Int) ≤ x ∧ x < s + m := by
  unfold rngFrom at h
  obtain ⟨d, hd, rfl⟩ := List.mem_map.mp h
  rw [List.mem_range'_1] at hd
  omega
theorem filter_len_le {α : Type} (p : α → Bool) (l : List α) : (l.filter p).length ≤ l.length := List.length_filter_le p l
def rowsOf (n m : Nat) (f : Nat → Int → Bool) : List (List Int) := (List.range' 0 m).map fun i => (rngFrom 0 n).filter (f i)
theorem rowsOf_len (n m : Nat) (f : Nat → Int → Bool) : (rowsOf n m f).length = m := by unfold rowsOf; simp
theorem rowsOf_get (n m : Nat) (f : Nat → Int → Bool) (i : Nat) (hi : i < m) : (rowsOf n m f).getD i [] = (rngFrom 0 n).filter (f i) := by
  unfold rowsOf
  simp [List.getD, hi]
theorem rowsOf_congr {n m : Nat} {f g : Nat → Int → Bool} (h : ∀ i < m, ∀ d ∈ rngFrom 0 n, f i d = g i d) : rowsOf n m f = rowsOf n m g := by
  unfold rowsOf
  apply List.map_congr_left
  intro i hi
  rw [List.mem_range'_1] at hi
  exact List.filter_congr (fun d hd => h i (by omega) d hd)
/-- Whether a depth is in all of a list's pins at a place, or in one of them. -/
def inB (b : Bool) (l : List S41) (i : Nat) (d : Int) : Bool := if b then l.all fun p => (p.f1.getD i []).contains d else l.any fun p => (p.f1.getD i []).contains d
theorem inB_count_any (l : List S41) (i : Nat) (d : Int) : decide (1 ≤ l.countP fun p => (p.f1.getD i []).contains d) = inB false l i d := by
  unfold inB
  rw [if_neg (by simp), Bool.eq_iff_iff, decide_eq_true_eq, List.any_eq_true]
  rw [show (1 ≤ l.countP fun p => (p.f1.getD i []).contains d) ↔ 0 < l.countP (fun p => (p.f1.getD i []).contains d) from Iff.rfl, List.countP_pos_iff]
/-! A row without a depth: what is left is the row's filter; a rising row is told by what it contains. -/
theorem risF_cons {n q x : Int} {l : List Int} (h : risF n q (x :: l) = true) : q < x ∧ x ≤ n - 1 ∧ risF n x l = true := by
  unfold risF at h
  rw [Bool.and_eq_true, Bool.and_eq_true, decide_eq_true_eq, decide_eq_true_eq] at h
  exact ⟨h.1.1, h.1.2, h.2⟩
theorem risF_mk {n q x : Int} {l : List Int} (h1 : q < x) (h2 : x ≤ n - 1) (h3 : risF n x l = true) : risF n q (x :: l) = true := by
  unfold risF
  rw [decide_eq_true h1, decide_eq_true h2, h3]; rfl
theorem ris_not {n q d : Int} {l : List Int} (h : risF n q l = true) (hd : d ≤ q) : l.contains d = false := by
  cases e : l.contains d with
  | false => rfl
  | true => have := risF_mem h d (List.contains_iff_mem.mp e); omega
theorem ris_self : ∀ (m s : Nat) (l : List Int), risF ((s + m : Nat) : Int) ((s : Int) - 1) l = true → (rngFrom s m).filter (fun d => l.contains d) = l := by
  intro m
  induction m with
  | zero =>
    intro s l h
    cases l with
    | nil => rfl
    | cons x t => obtain ⟨h1, h2, _⟩ := risF_cons h; omega
  | succ m ih =>
    intro s l h
    rw [rngFrom_succ, List.filter_cons]
    have hsm : ((s + (m + 1) : Nat) : Int) = ((s + 1 + m : Nat) : Int) := by omega
    have hs1 : (((s + 1 : Nat) : Int) - 1) = (s : Int) := by omega
    cases l with
    | nil =>
      rw [if_neg (by simp)]
      exact ih (s + 1) [] rfl
    | cons x t =>
      obtain ⟨h1, h2, h3⟩ := risF_cons h
      by_cases e : x = (s : Int)
      · subst e
        rw [if_pos (by simp)]
        have hi := ih (s + 1) t (by rw [← hsm, hs1]; exact h3)
        have hcong : (rngFrom (s + 1) m).filter (fun d => ((s : Int) :: t).contains d) = (rngFrom (s + 1) m).filter (fun d => t.contains d) := by
          apply List.filter_congr
          intro d hd
          have := (rngFrom_mem hd).1
          rw [List.contains_cons, show (d == (s : Int)) = false from beq_eq_false_iff_ne.mpr (by omega), Bool.false_or]
        rw [hcong, hi]
      · rw [if_neg (by rw [ris_not (risF_mk (q := (s : Int)) (by omega) h2 h3) (Int.le_refl _)]; simp)]
        exact ih (s + 1) (x :: t) (by rw [← hsm, hs1]; exact risF_mk (by omega) h2 h3)
theorem pinsB_set {n : Int} {L : List (List Int)} (h : pinsB n L = true) (i : Nat) (hi : i < L.length) (r : List Int) : pinsB n (L.set i r) = rowB n r := by
  obtain ⟨h1, h2, h3⟩ := pinsB_parts h
  unfold pinsB
  rw [List.length_set, decide_eq_true h1, decide_eq_true (show 1 ≤ (L.length : Int) ∧ (L.length : Int) ≤ 7 by omega)]
  cases e : rowB n r with
  | true =>
    rw [show (L.set i r).all (rowB n) = true from List.all_eq_true.mpr (fun x hx => by
      rcases List.mem_or_eq_of_mem_set hx with hx | rfl
      · exact h3 x hx
      · exact e)]
    rfl
  | false =>
    rw [show (L.set i r).all (rowB n) = false from by
      rw [List.all_eq_false]
      exact ⟨r, List.mem_set hi r, by rw [e]; simp⟩]
    rfl
end Go.Proofs.Ytcnjiffoghganaa.P