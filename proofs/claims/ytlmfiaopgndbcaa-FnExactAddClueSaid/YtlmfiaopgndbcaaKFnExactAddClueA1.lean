import Derived.Test.YtlmfiaopgndbcaaKFnExactAddClueA0
namespace Go.Proofs.Ytlmfiaopgndbcaa.P
open Go.RowKit Go.Proofs.YtlmfiaopgndbcaaW.PrintWords Go.Proofs.YtlmfiaopgndbcaaW.PrintLast Go.Proofs.YtlmfiaopgndbcaaW.PrintMore
attribute [local go_sem] max2_int min2_int max_two min_two max_three min_three max_four min_four
set_option linter.unusedVariables false
set_option linter.unusedSimpArgs false
theorem aM {p : Prop} (h : p) : Aside0 p := ⟨h⟩
/-! ### impl_AddClue: function 10 -/
def impl_AddClue.f (a0_0 : Int) (a0_1 : Int) (l0_2 : List (S37)) (a1_0 : Int) (a1_1 : Int) (a1_2 : Int) : Option (Int × Int × (List (S37)) × Bool) := (slices_Clone_impl_Clue_impl_Clue.f l0_2).bind fun t328 => ((some (([(⟨a1_0, a1_1, a1_2⟩ : S37)] : List (S37)) : List (S37))).bind fun bL => (if t328.length + bL.length < 5864062014805 then ((some (t328 ++ bL : List (S37))).bind fun bP => ((impl_IsPuzzle.f a0_0 a0_1 l0_2).bind fun t338 => (if t338 = true then ((impl_IsPuzzle.f a0_0 a0_1 bP).bind fun t339 => (if t339 = true then (some (a0_0, a0_1, bP, true)) else (some (0, 0, ([] : List (S37)), false)))) else (some (0, 0, ([] : List (S37)), false))))) else (none)))
def impl_AddClue.T1 : Bool × List (List Nat × List Nat) := (true, [([], []), ([0], [0]), ([], []), ([2], [2]), ([3], [3]), ([], []), ([5], [5]), ([4, 6, 4], [4, 6]), ([1, 7], [1, 7]), ([], []), ([9, 8, 7, 0, 1, 2, 3, 4, 5, 6, 7, 8, 9], [8, 9])])
def impl_AddClue.B1 : List Nat := [0, 1, 0, 4, 12, 0, 32, 124, 255, 0, 1023]
theorem impl_AddClue.tab1 : rtab .any (opsOf Try.f10 1) = impl_AddClue.T1 := by kernel_rfl
theorem impl_AddClue.bits1 : waitsOk impl_AddClue.T1.2 impl_AddClue.B1 = true := by kernel_rfl
set_option maxHeartbeats 8000000 in
set_option maxRecDepth 100000 in
theorem impl_AddClue.calls (a0_0 : Int) (a0_1 : Int) (A0_2 : Option Addr) (c0_2 : Nat) (l0_2 : List (S37)) (a1_0 : Int) (a1_1 : Int) (a1_2 : Int) (r1 : Int) (r2 : Int) (r3 : List (S37)) (r4 : Bool) (w : World) (hr0_2 : Kd.C k37 w A0_2 l0_2.length l0_2) (hc0_2 : l0_2.length ≤ c0_2) (h : impl_AddClue.f a0_0 a0_1 l0_2 a1_0 a1_1 a1_2 = some (r1, r2, r3, r4)) :
    Calls Try.prog 10 #[.agg #[.int .i64 a0_0, .int .i64 a0_1, .slice A0_2 l0_2.length c0_2], .agg #[.int .i64 a1_0, .int .i64 a1_1, .int .i64 a1_2]] w fun e w' => ∃ v2_ : Value, e = .returned (.tuple #[.agg #[.int .i64 r1, .int .i64 r2, v2_], .bool r4]) ∧ Kd.R k37 37 w' w.heap.size (fun _ => True) v2_ r3 ∧ Below w.heap.size w w' := by
  have hu33 := Try.underlying33
  have hu37 := Try.underlying37
  have hu30 := Try.underlying30
  have HR0_2 := aM hr0_2
  have bT := aM hc0_2
  clear hr0_2 hc0_2
  have HB := aM (Below.refl w.heap.size w)
  have H : ((slices_Clone_impl_Clue_impl_Clue.f l0_2).bind fun t328 => ((some (([(⟨a1_0, a1_1, a1_2⟩ : S37)] : List (S37)) : List (S37))).bind fun bL => (if t328.length + bL.length < 5864062014805 then ((some (t328 ++ bL : List (S37))).bind fun bP => ((impl_IsPuzzle.f a0_0 a0_1 l0_2).bind fun t338 => (if t338 = true then ((impl_IsPuzzle.f a0_0 a0_1 bP).bind fun t339 => (if t339 = true then (some (a0_0, a0_1, bP, true)) else (some (0, 0, ([] : List (S37)), false)))) else (some (0, 0, ([] : List (S37)), false))))) else (none)))) = some (r1, r2, r3, r4) := h
  clear h
  replace H := Option.bind_eq_some_iff.mp H
  obtain ⟨t328, A30, H⟩ := H
  replace H : ((some (([(⟨a1_0, a1_1, a1_2⟩ : S37)] : List (S37)) : List (S37))).bind fun bL => (if t328.length + bL.length < 5864062014805 then ((some (t328 ++ bL : List (S37))).bind fun bP => ((impl_IsPuzzle.f a0_0 a0_1 l0_2).bind fun t338 => (if t338 = true then ((impl_IsPuzzle.f a0_0 a0_1 bP).bind fun t339 => (if t339 = true then (some (a0_0, a0_1, bP, true)) else (some (0, 0, ([] : List (S37)), false)))) else (some (0, 0, ([] : List (S37)), false))))) else (none))) = some (r1, r2, r3, r4) := H
  have A3 := aM A30
  clear A30
  obtain ⟨bL, cA⟩ : ∃ y_ : List (S37), y_ = (([(⟨a1_0, a1_1, a1_2⟩ : S37)] : List (S37))) := ⟨_, rfl⟩
  replace H : (if t328.length + bL.length < 5864062014805 then ((some (t328 ++ bL : List (S37))).bind fun bP => ((impl_IsPuzzle.f a0_0 a0_1 l0_2).bind fun t338 => (if t338 = true then ((impl_IsPuzzle.f a0_0 a0_1 bP).bind fun t339 => (if t339 = true then (some (a0_0, a0_1, bP, true)) else (some (0, 0, ([] : List (S37)), false)))) else (some (0, 0, ([] : List (S37)), false))))) else (none)) = some (r1, r2, r3, r4) := by first | (rw [cA]; with_reducible exact H) | (have H2_ := (Option.bind_some _ _).symm.trans H; rw [cA]; with_reducible exact H2_) | (have H2_ := (Option.bind_some _ _).symm.trans H; with_reducible exact H2_) | with_reducible exact H | (rw [cA]; exact H) | exact H
  have bS := aM cA
  clear cA
  by_cases c4 : t328.length + bL.length < 5864062014805
  · rw [if_pos c4] at H
    have LMc4 := aM c4
    clear c4
    obtain ⟨bP, cB⟩ : ∃ y_ : List (S37), y_ = (t328 ++ bL) := ⟨_, rfl⟩
    replace H : ((impl_IsPuzzle.f a0_0 a0_1 l0_2).bind fun t338 => (if t338 = true then ((impl_IsPuzzle.f a0_0 a0_1 bP).bind fun t339 => (if t339 = true then (some (a0_0, a0_1, bP, true)) else (some (0, 0, ([] : List (S37)), false)))) else (some (0, 0, ([] : List (S37)), false)))) = some (r1, r2, r3, r4) := by first | (rw [cB]; with_reducible exact H) | (have H2_ := (Option.bind_some _ _).symm.trans H; rw [cB]; with_reducible exact H2_) | (have H2_ := (Option.bind_some _ _).symm.trans H; with_reducible exact H2_) | with_reducible exact H | (rw [cB]; exact H) | exact H
    have bZ := aM cB
    clear cB
    replace H := Option.bind_eq_some_iff.mp H
    obtain ⟨t338, A50, H⟩ := H
    replace H : (if t338 = true then ((impl_IsPuzzle.f a0_0 a0_1 bP).bind fun t339 => (if t339 = true then (some (a0_0, a0_1, bP, true)) else (some (0, 0, ([] : List (S37)), false)))) else (some (0, 0, ([] : List (S37)), false))) = some (r1, r2, r3, r4) := H
    have A5 := aM A50
    clear A50
    by_cases c6 : t338 = true
    · subst c6
      have H1 : ((impl_IsPuzzle.f a0_0 a0_1 bP).bind fun t339 => (if t339 = true then (some (a0_0, a0_1, bP, true)) else (some (0, 0, ([] : List (S37)), false)))) = some (r1, r2, r3, r4) := by rw [if_pos rfl] at H; exact H
      clear H
      have H := H1
      clear H1
      replace H := Option.bind_eq_some_iff.mp H
      obtain ⟨t339, A70, H⟩ := H
      replace H : (if t339 = true then (some (a0_0, a0_1, bP, true)) else (some (0, 0, ([] : List (S37)), false))) = some (r1, r2, r3, r4) := H
      have A7 := aM A70
      clear A70
      by_cases c8 : t339 = true
      · subst c8
        have H1 : (some (a0_0, a0_1, bP, true)) = some (r1, r2, r3, r4) := by rw [if_pos rfl] at H; exact H
        clear H
        have H := H1
        clear H1
        simp only [Option.some.injEq, Prod.mk.injEq] at H
        obtain ⟨rfl, rfl, rfl, rfl⟩ := H
        go_enter Try.func10, Try.ntmps10
        try go_wp2_with (first | ((with_reducible refine gate_dst (N := 2) rfl ?_); refine box_event ?hg (N := 2) ?hd (cs := #[.int .i64 a0_0, .int .i64 a0_1, .slice A0_2 l0_2.length c0_2]) (t := 33) ?hr ?_; (case hd => rfl); (case hg => rfl); (case hr => first | (go_simp; done) | (go_simp; rfl)); intro aG hg w9 hbox hb; have aI := aM (bp_ HB.out hb); have aJ := aM (hbox); have aK := aM ((by rw [hg]; exact (below_size HB.out) : w.heap.size ≤ aG)); have aN := aM ((by rw [hg]; exact (below_size HB.out) : w.heap.size ≤ aG)); clear HB; have HB := aI; have aA := aJ; have dK := aK; have bU := aN; clear aI aJ aK aN; clear hb hbox hg) | ((with_reducible refine gate_dst (N := 3) rfl ?_); refine box_event ?hg (N := 3) ?hd (cs := #[.int .i64 a1_0, .int .i64 a1_1, .int .i64 a1_2]) (t := 37) ?hr ?_; (case hd => rfl); (case hg => rfl); (case hr => first | (go_simp; done) | (go_simp; rfl)); intro aD hg w10 hbox hb; have aI := aM (blk_below aA.out hb); have aJ := aM (bp_ HB.out hb); have aK := aM (hbox); have aN := aM ((by rw [hg]; exact (below_size HB.out) : w.heap.size ≤ aD)); have aP := aM ((by rw [hg]; exact (below_size HB.out) : w.heap.size ≤ aD)); have aQ := aM ((by rw [hg]; exact Nat.ne_of_lt (blk_lt aA.out) : aG ≠ aD)); have aX := aM ((by rw [hg]; exact Nat.ne_of_gt (blk_lt aA.out) : aD ≠ aG)); clear aA; clear HB; have aA := aI; have HB := aJ; have aC := aK; have dL := aN; have bV := aP; have cC := aQ; have cD := aX; clear aI aJ aK aN aP aQ aX; clear hb hbox hg) | ((with_reducible refine gate_dst (N := 4) rfl ?_); refine box_event ?hg (N := 4) ?hd (cs := #[.int .i64 0, .int .i64 0, .slice none 0 0]) (t := 33) ?hr ?_; (case hd => rfl); (case hg => rfl); (case hr => first | (go_simp; done) | (go_simp; rfl)); intro aT hg w11 hbox hb; have aI := aM (blk_below aA.out hb); have aJ := aM (blk_below aC.out hb); have aK := aM (bp_ HB.out hb); have aN := aM (hbox); have aP := aM ((by rw [hg]; exact (below_size HB.out) : w.heap.size ≤ aT)); have aQ := aM ((by rw [hg]; exact (below_size HB.out) : w.heap.size ≤ aT)); have aX := aM ((by rw [hg]; exact Nat.ne_of_lt (blk_lt aA.out) : aG ≠ aT)); have bB := aM ((by rw [hg]; exact Nat.ne_of_gt (blk_lt aA.out) : aT ≠ aG)); have bC := aM ((by rw [hg]; exact Nat.ne_of_lt (blk_lt aC.out) : aD ≠ aT)); have bD := aM ((by rw [hg]; exact Nat.ne_of_gt (blk_lt aC.out) : aT ≠ aD)); clear aA; clear aC; clear HB; have aA := aI; have aC := aJ; have HB := aK; have aH := aN; have dM := aP; have bW := aQ; have cE := aX; have cF := bB; have cG := bC; have cH := bD; clear aI aJ aK aN aP aQ aX bB bC bD; clear hb hbox hg))
        have aI := aM (blk_drew aA.out)
        have aJ := aM (blk_drew aC.out)
        have aK := aM (blk_drew aH.out)
        have aN := aM (bd_ HB.out)
        clear aA aC aH HB
        have aA := aI
        have aC := aJ
        have aH := aK
        have HB := aN
        clear aI aJ aK aN
        refine start_ (n := 11) (S := fun w' => w'.cell? ⟨aG, 0, none⟩ = some (.int .i64 a0_0) ∧ w'.cell? ⟨aG, 1, none⟩ = some (.int .i64 a0_1) ∧ w'.cell? ⟨aG, 2, none⟩ = some (.slice A0_2 l0_2.length c0_2) ∧ w'.cell? ⟨aD, 0, none⟩ = some (.int .i64 a1_0) ∧ w'.cell? ⟨aD, 1, none⟩ = some (.int .i64 a1_1) ∧ w'.cell? ⟨aD, 2, none⟩ = some (.int .i64 a1_2)) (ds := []) #[false, false, false, false, false, false, false, false, false, false, false] (by kernel_rfl) rfl rfl ⟨(blk_cell aA.out 0).trans rfl, (blk_cell aA.out 1).trans rfl, (blk_cell aA.out 2).trans rfl, (blk_cell aC.out 0).trans rfl, (blk_cell aC.out 1).trans rfl, (blk_cell aC.out 2).trans rfl⟩ (fun aW => ?_); refine with_tabW impl_AddClue.tab1 impl_AddClue.bits1 (fun HT_ HW_ => ?_)
        generalize w11.drew = w12 at aA aC aH HB aW ⊢
        refine pure_ (i := 0) (N := some 7) (v := ?_) (a' := ?_) #[true, false, false, false, false, false, false, false, false, false, false] rfl rfl (any_of HT_.out (by kernel_rfl)) (fun _ _ _ h => h) (Or.inl ⟨by rfl, ?_⟩) ?_ ?_
        rotate_left
        · intro w'
          go_simp
          with_reducible rfl
        rotate_left
        · simp only [Act.put, List.setIfInBounds_toArray, List.set_cons_zero, List.set_cons_succ, i64_w, i32_w]
          rfl
        refine pure_ (i := 2) (N := some 9) (v := ?_) (a' := ?_) #[true, false, true, false, false, false, false, false, false, false, false] rfl rfl (any_of HT_.out (by kernel_rfl)) (fun _ _ _ h => h) (Or.inl ⟨by rfl, ?_⟩) ?_ ?_
        rotate_left
        · intro w'
          go_simp
          with_reducible rfl
        rotate_left
        · simp only [Act.put, List.setIfInBounds_toArray, List.set_cons_zero, List.set_cons_succ, i64_w, i32_w]
          rfl
        refine take_ (i := 1) (N := some 8) (v := ?_) (a' := ?_) #[true, true, true, false, false, false, false, false, false, false, false] rfl rfl (take_ofW HT_.out HW_.out (by kernel_rfl)) (fun _ _ _ h => h) (Or.inl ⟨by rfl, ?_⟩) aW ?_ ?_
        rotate_left
        · rintro w' ⟨s0, s1, s2, s3, s4, s5⟩
          go_simp
          with_reducible rfl
        rotate_left
        · simp only [Act.put, List.setIfInBounds_toArray, List.set_cons_zero, List.set_cons_succ, i64_w, i32_w]
          rfl
        refine take_ (i := 3) (N := some 10) (v := ?_) (a' := ?_) #[true, true, true, true, false, false, false, false, false, false, false] rfl rfl (take_ofW HT_.out HW_.out (by kernel_rfl)) (fun _ _ _ h => h) (Or.inl ⟨by rfl, ?_⟩) aW ?_ ?_
        rotate_left
        · rintro w' ⟨s0, s1, s2, s3, s4, s5⟩
          go_simp
          with_reducible rfl
        rotate_left
        · simp only [Act.put, List.setIfInBounds_toArray, List.set_cons_zero, List.set_cons_succ, i64_w, i32_w]
          rfl
        refine take_ (i := 5) (N := some 12) (v := ?_) (a' := ?_) #[true, true, true, true, false, true, false, false, false, false, false] rfl rfl (take_ofW HT_.out HW_.out (by kernel_rfl)) (fun _ _ _ h => h) (Or.inl ⟨by rfl, ?_⟩) aW ?_ ?_
        rotate_left
        · rintro w' ⟨s0, s1, s2, s3, s4, s5⟩
          go_simp
          with_reducible rfl
        rotate_left
        · simp only [Act.put, List.setIfInBounds_toArray, List.set_cons_zero, List.set_cons_succ, i64_w, i32_w]
          rfl
        refine join_ (σ := Value × Value × Value × Nat) 1 #[true, true, true, true, true, true, true, true, true, true, false] (fun s_ => [(11, s_.1), (13, s_.2.1), (14, s_.2.2.1), (6, .pointer (some ⟨s_.2.2.2, 0, none⟩)), (15, .agg #[.int .i64 a0_0, .int .i64 a0_1, s_.2.2.1])]) (fun s_ w' => (w'.cell? ⟨aG, 0, none⟩ = some (.int .i64 a0_0) ∧ w'.cell? ⟨aG, 1, none⟩ = some (.int .i64 a0_1) ∧ w'.cell? ⟨aG, 2, none⟩ = some (.slice A0_2 l0_2.length c0_2) ∧ w'.cell? ⟨aD, 0, none⟩ = some (.int .i64 a1_0) ∧ w'.cell? ⟨aD, 1, none⟩ = some (.int .i64 a1_1) ∧ w'.cell? ⟨aD, 2, none⟩ = some (.int .i64 a1_2)) ∧ (Kd.R k37 37 w' w.heap.size (fun k_ => some k_ ≠ (s_.2.2.1 : Value).ownBlock ∧ k_ ≠ aD) s_.2.1 bL) ∧ (Kd.R k37 37 w' w.heap.size (fun k_ => some k_ ≠ (s_.2.1 : Value).ownBlock ∧ k_ ≠ aD) s_.2.2.1 bP) ∧ (w'.heap[aG]? = some (.cells #[.int .i64 a0_0, .int .i64 a0_1, .slice A0_2 l0_2.length c0_2] 33 (0, 0))) ∧ (w'.heap[aD]? = some (.cells #[.int .i64 a1_0, .int .i64 a1_1, .int .i64 a1_2] 37 (0, 0))) ∧ (w'.heap[aT]? = some (.cells #[.int .i64 0, .int .i64 0, .slice none 0 0] 33 (0, 0))) ∧ (w'.heap[s_.2.2.2]? = some (.cells #[.int .i64 0, .int .i64 0, .slice none 0 0] 33 (0, 0))) ∧ (w.heap.size ≤ s_.2.2.2) ∧ (w.heap.size ≤ s_.2.2.2) ∧ (aG ≠ s_.2.2.2) ∧ (s_.2.2.2 ≠ aG) ∧ (aD ≠ s_.2.2.2) ∧ (s_.2.2.2 ≠ aD) ∧ (aT ≠ s_.2.2.2) ∧ (s_.2.2.2 ≠ aT) ∧ (Below w.heap.size w w')) ?_ ?_
        rotate_left
        · intro hJ4_6_7_9
          refine join_ (σ := Value × Value × Value) 2 #[true, true, true, true, true, true, true, true, true, false, false] (fun s_ => [(11, s_.1), (13, s_.2.1), (14, s_.2.2), (15, .agg #[.int .i64 a0_0, .int .i64 a0_1, s_.2.2])]) (fun s_ w' => (w'.cell? ⟨aG, 0, none⟩ = some (.int .i64 a0_0) ∧ w'.cell? ⟨aG, 1, none⟩ = some (.int .i64 a0_1) ∧ w'.cell? ⟨aG, 2, none⟩ = some (.slice A0_2 l0_2.length c0_2) ∧ w'.cell? ⟨aD, 0, none⟩ = some (.int .i64 a1_0) ∧ w'.cell? ⟨aD, 1, none⟩ = some (.int .i64 a1_1) ∧ w'.cell? ⟨aD, 2, none⟩ = some (.int .i64 a1_2)) ∧ (Kd.R k37 37 w' w.heap.size (fun k_ => some k_ ≠ (s_.2.2 : Value).ownBlock ∧ k_ ≠ aD) s_.2.1 bL) ∧ (Kd.R k37 37 w' w.heap.size (fun k_ => some k_ ≠ (s_.2.1 : Value).ownBlock ∧ k_ ≠ aD) s_.2.2 bP) ∧ (w'.heap[aG]? = some (.cells #[.int .i64 a0_0, .int .i64 a0_1, .slice A0_2 l0_2.length c0_2] 33 (0, 0))) ∧ (w'.heap[aD]? = some (.cells #[.int .i64 a1_0, .int .i64 a1_1, .int .i64 a1_2] 37 (0, 0))) ∧ (w'.heap[aT]? = some (.cells #[.int .i64 0, .int .i64 0, .slice none 0 0] 33 (0, 0))) ∧ (Below w.heap.size w w')) ?_ ?_
          rotate_left
          · intro hJ4_6_7
            refine join_ (σ := Value × Value × Nat) 3 #[true, true, true, true, true, true, true, false, false, true, false] (fun s_ => [(11, s_.1), (13, s_.2.1), (6, .pointer (some ⟨s_.2.2, 0, none⟩))]) (fun s_ w' => (w'.cell? ⟨aG, 0, none⟩ = some (.int .i64 a0_0) ∧ w'.cell? ⟨aG, 1, none⟩ = some (.int .i64 a0_1) ∧ w'.cell? ⟨aG, 2, none⟩ = some (.slice A0_2 l0_2.length c0_2) ∧ w'.cell? ⟨aD, 0, none⟩ = some (.int .i64 a1_0) ∧ w'.cell? ⟨aD, 1, none⟩ = some (.int .i64 a1_1) ∧ w'.cell? ⟨aD, 2, none⟩ = some (.int .i64 a1_2)) ∧ (Kd.R k37 37 w' w.heap.size (fun k_ => some k_ ≠ (s_.2.1 : Value).ownBlock ∧ k_ ≠ aD) s_.1 t328) ∧ (Kd.R k37 37 w' w.heap.size (fun k_ => some k_ ≠ (s_.1 : Value).ownBlock ∧ k_ ≠ aD) s_.2.1 bL) ∧ (w'.heap[aG]? = some (.cells #[.int .i64 a0_0, .int .i64 a0_1, .slice A0_2 l0_2.length c0_2] 33 (0, 0))) ∧ (w'.heap[aD]? = some (.cells #[.int .i64 a1_0, .int .i64 a1_1, .int .i64 a1_2] 37 (0, 0))) ∧ (w'.heap[aT]? = some (.cells #[.int .i64 0, .int .i64 0, .slice none 0 0] 33 (0, 0))) ∧ (w'.heap[s_.2.2]? = some (.cells #[.int .i64 0, .int .i64 0, .slice none 0 0] 33 (0, 0))) ∧ (w.heap.size ≤ s_.2.2) ∧ (w.heap.size ≤ s_.2.2) ∧ (aG ≠ s_.2.2) ∧ (s_.2.2 ≠ aG) ∧ (aD ≠ s_.2.2) ∧ (s_.2.2 ≠ aD) ∧ (aT ≠ s_.2.2) ∧ (s_.2.2 ≠ aT) ∧ (Below w.heap.size w w')) ?_ ?_
            rotate_left
            · intro hJ4_6_9
              refine join_ (σ := Value × Value) 4 #[true, true, true, true, true, true, true, false, false, false, false] (fun s_ => [(11, s_.1), (13, s_.2)]) (fun s_ w' => (w'.cell? ⟨aG, 0, none⟩ = some (.int .i64 a0_0) ∧ w'.cell? ⟨aG, 1, none⟩ = some (.int .i64 a0_1) ∧ w'.cell? ⟨aG, 2, none⟩ = some (.slice A0_2 l0_2.length c0_2) ∧ w'.cell? ⟨aD, 0, none⟩ = some (.int .i64 a1_0) ∧ w'.cell? ⟨aD, 1, none⟩ = some (.int .i64 a1_1) ∧ w'.cell? ⟨aD, 2, none⟩ = some (.int .i64 a1_2)) ∧ (Kd.R k37 37 w' w.heap.size (fun k_ => some k_ ≠ (s_.2 : Value).ownBlock ∧ k_ ≠ aD) s_.1 t328) ∧ (Kd.R k37 37 w' w.heap.size (fun k_ => some k_ ≠ (s_.1 : Value).ownBlock ∧ k_ ≠ aD) s_.2 bL) ∧ (w'.heap[aG]? = some (.cells #[.int .i64 a0_0, .int .i64 a0_1, .slice A0_2 l0_2.length c0_2] 33 (0, 0))) ∧ (w'.heap[aD]? = some (.cells #[.int .i64 a1_0, .int .i64 a1_1, .int .i64 a1_2] 37 (0, 0))) ∧ (w'.heap[aT]? = some (.cells #[.int .i64 0, .int .i64 0, .slice none 0 0] 33 (0, 0))) ∧ (Below w.heap.size w w')) ?_ ?_
              rotate_left
              · intro hJ4_6
                refine join_ (σ := Value × Nat) 4 #[true, true, true, true, true, true, false, false, false, true, false] (fun s_ => [(11, s_.1), (6, .pointer (some ⟨s_.2, 0, none⟩))]) (fun s_ w' => (w'.cell? ⟨aG, 0, none⟩ = some (.int .i64 a0_0) ∧ w'.cell? ⟨aG, 1, none⟩ = some (.int .i64 a0_1) ∧ w'.cell? ⟨aG, 2, none⟩ = some (.slice A0_2 l0_2.length c0_2) ∧ w'.cell? ⟨aD, 0, none⟩ = some (.int .i64 a1_0) ∧ w'.cell? ⟨aD, 1, none⟩ = some (.int .i64 a1_1) ∧ w'.cell? ⟨aD, 2, none⟩ = some (.int .i64 a1_2)) ∧ (Kd.R k37 37 w' w.heap.size (fun k_ => k_ ≠ aD) s_.1 t328) ∧ (w'.heap[aG]? = some (.cells #[.int .i64 a0_0, .int .i64 a0_1, .slice A0_2 l0_2.length c0_2] 33 (0, 0))) ∧ (w'.heap[aD]? = some (.cells #[.int .i64 a1_0, .int .i64 a1_1, .int .i64 a1_2] 37 (0, 0))) ∧ (w'.heap[aT]? = some (.cells #[.int .i64 0, .int .i64 0, .slice none 0 0] 33 (0, 0))) ∧ (w'.heap[s_.2]? = some (.cells #[.int .i64 0, .int .i64 0, .slice none 0 0] 33 (0, 0))) ∧ (w.heap.size ≤ s_.2) ∧ (w.heap.size ≤ s_.2) ∧ (aG ≠ s_.2) ∧ (s_.2 ≠ aG) ∧ (aD ≠ s_.2) ∧ (s_.2 ≠ aD) ∧ (aT ≠ s_.2) ∧ (s_.2 ≠ aT) ∧ (Below w.heap.size w w')) ?_ ?_
                rotate_left
                · intro hJ4_9
                  refine join_ (σ := Value × Nat) 4 #[true, true, true, true, false, true, true, false, false, true, false] (fun s_ => [(13, s_.1), (6, .pointer (some ⟨s_.2, 0, none⟩))]) (fun s_ w' => (w'.cell? ⟨aG, 0, none⟩ = some (.int .i64 a0_0) ∧ w'.cell? ⟨aG, 1, none⟩ = some (.int .i64 a0_1) ∧ w'.cell? ⟨aG, 2, none⟩ = some (.slice A0_2 l0_2.length c0_2) ∧ w'.cell? ⟨aD, 0, none⟩ = some (.int .i64 a1_0) ∧ w'.cell? ⟨aD, 1, none⟩ = some (.int .i64 a1_1) ∧ w'.cell? ⟨aD, 2, none⟩ = some (.int .i64 a1_2)) ∧ (Kd.R k37 37 w' w.heap.size (fun k_ => k_ ≠ aD) s_.1 bL) ∧ (w'.heap[aG]? = some (.cells #[.int .i64 a0_0, .int .i64 a0_1, .slice A0_2 l0_2.length c0_2] 33 (0, 0))) ∧ (w'.heap[aD]? = some (.cells #[.int .i64 a1_0, .int .i64 a1_1, .int .i64 a1_2] 37 (0, 0))) ∧ (w'.heap[aT]? = some (.cells #[.int .i64 0, .int .i64 0, .slice none 0 0] 33 (0, 0))) ∧ (w'.heap[s_.2]? = some (.cells #[.int .i64 0, .int .i64 0, .slice none 0 0] 33 (0, 0))) ∧ (w.heap.size ≤ s_.2) ∧ (w.heap.size ≤ s_.2) ∧ (aG ≠ s_.2) ∧ (s_.2 ≠ aG) ∧ (aD ≠ s_.2) ∧ (s_.2 ≠ aD) ∧ (aT ≠ s_.2) ∧ (s_.2 ≠ aT) ∧ (Below w.heap.size w w')) ?_ ?_
                  rotate_left
                  · intro hJ6_9
                    refine join_ (σ := Value) 5 #[true, true, true, true, true, true, false, false, false, false, false] (fun s_ => [(11, s_)]) (fun s_ w' => (w'.cell? ⟨aG, 0, none⟩ = some (.int .i64 a0_0) ∧ w'.cell? ⟨aG, 1, none⟩ = some (.int .i64 a0_1) ∧ w'.cell? ⟨aG, 2, none⟩ = some (.slice A0_2 l0_2.length c0_2) ∧ w'.cell? ⟨aD, 0, none⟩ = some (.int .i64 a1_0) ∧ w'.cell? ⟨aD, 1, none⟩ = some (.int .i64 a1_1) ∧ w'.cell? ⟨aD, 2, none⟩ = some (.int .i64 a1_2)) ∧ (Kd.R k37 37 w' w.heap.size (fun k_ => k_ ≠ aD) s_ t328) ∧ (w'.heap[aG]? = some (.cells #[.int .i64 a0_0, .int .i64 a0_1, .slice A0_2 l0_2.length c0_2] 33 (0, 0))) ∧ (w'.heap[aD]? = some (.cells #[.int .i64 a1_0, .int .i64 a1_1, .int .i64 a1_2] 37 (0, 0))) ∧ (w'.heap[aT]? = some (.cells #[.int .i64 0, .int .i64 0, .slice none 0 0] 33 (0, 0))) ∧ (Below w.heap.size w w')) ?_ ?_
                    rotate_left
                    · intro hJ4
                      refine join_ (σ := Value) 5 #[true, true, true, true, false, true, true, false, false, false, false] (fun s_ => [(13, s_)]) (fun s_ w' => (w'.cell? ⟨aG, 0, none⟩ = some (.int .i64 a0_0) ∧ w'.cell? ⟨aG, 1, none⟩ = some (.int .i64 a0_1) ∧ w'.cell? ⟨aG, 2, none⟩ = some (.slice A0_2 l0_2.length c0_2) ∧ w'.cell? ⟨aD, 0, none⟩ = some (.int .i64 a1_0) ∧ w'.cell? ⟨aD, 1, none⟩ = some (.int .i64 a1_1) ∧ w'.cell? ⟨aD, 2, none⟩ = some (.int .i64 a1_2)) ∧ (Kd.R k37 37 w' w.heap.size (fun k_ => k_ ≠ aD) s_ bL) ∧ (w'.heap[aG]? = some (.cells #[.int .i64 a0_0, .int .i64 a0_1, .slice A0_2 l0_2.length c0_2] 33 (0, 0))) ∧ (w'.heap[aD]? = some (.cells #[.int .i64 a1_0, .int .i64 a1_1, .int .i64 a1_2] 37 (0, 0))) ∧ (w'.heap[aT]? = some (.cells #[.int .i64 0, .int .i64 0, .slice none 0 0] 33 (0, 0))) ∧ (Below w.heap.size w w')) ?_ ?_
                      rotate_left
                      · intro hJ6
                        refine join_ (σ := Nat) 5 #[true, true, true, true, false, true, false, false, false, true, false] (fun s_ => [(6, .pointer (some ⟨s_, 0, none⟩))]) (fun s_ w' => (w'.cell? ⟨aG, 0, none⟩ = some (.int .i64 a0_0) ∧ w'.cell? ⟨aG, 1, none⟩ = some (.int .i64 a0_1) ∧ w'.cell? ⟨aG, 2, none⟩ = some (.slice A0_2 l0_2.length c0_2) ∧ w'.cell? ⟨aD, 0, none⟩ = some (.int .i64 a1_0) ∧ w'.cell? ⟨aD, 1, none⟩ = some (.int .i64 a1_1) ∧ w'.cell? ⟨aD, 2, none⟩ = some (.int .i64 a1_2)) ∧ (w'.heap[aG]? = some (.cells #[.int .i64 a0_0, .int .i64 a0_1, .slice A0_2 l0_2.length c0_2] 33 (0, 0))) ∧ (w'.heap[aD]? = some (.cells #[.int .i64 a1_0, .int .i64 a1_1, .int .i64 a1_2] 37 (0, 0))) ∧ (w'.heap[aT]? = some (.cells #[.int .i64 0, .int .i64 0, .slice none 0 0] 33 (0, 0))) ∧ (w'.heap[s_]? = some (.cells #[.int .i64 0, .int .i64 0, .slice none 0 0] 33 (0, 0))) ∧ (w.heap.size ≤ s_) ∧ (w.heap.size ≤ s_) ∧ (aG ≠ s_) ∧ (s_ ≠ aG) ∧ (aD ≠ s_) ∧ (s_ ≠ aD) ∧ (aT ≠ s_) ∧ (s_ ≠ aT) ∧ (Below w.heap.size w w')) ?_ ?_
                        rotate_left
                        · intro hJ9
                          refine three_ (i := 4) (j := 6) (k := 9) (Ni := some 11) (Nj := some 13) (Nk := some 6) #[true, true, true, true, true, true, false, false, false, false, false] #[true, true, true, true, false, true, true, false, false, false, false] #[true, true, true, true, false, true, false, false, false, true, false] rfl rfl rfl rfl rfl rfl (three_of HT_.out (by kernel_rfl)) (by decide) (by decide) (by decide) (fun K hK => ?_) (fun K hK => ?_) (fun K hK => ?_)
                          · skip
                            refine goes_ Try.func23 (by kernel_rfl) rfl #[.slice A0_2 l0_2.length c0_2] (by rfl) rfl rfl (by (try simp only [List.map_toArray, List.map_cons, List.map_nil]); first | done | rfl | (simp only [List.length_drop, List.length_take]; rfl)) ?_
                            with_reducible refine (slices_Clone_impl_Clue_impl_Clue.calls _ _ l0_2 t328 _ ?side1 ?side2 A3.out).mono ?_
                            (case side1 => repeat (first | exact (Kd.C_below HR0_2.out HB.out) | (with_reducible refine Kd.C_alloc ?_ _) | (with_reducible refine Kd.C_drewN ?_ _) | (with_reducible refine Kd.C_drew ?_)))
                            (case side2 => exact bT.out)
                            rintro e w13 ⟨v329, rfl, ho0, hb⟩
                            refine ⟨_, rfl, ?_⟩
                            have aI := aM (Kd.R_lower (Kd.R_newB ho0 (g := aD) (o := .cells #[.int .i64 a1_0, .int .i64 a1_1, .int .i64 a1_2] 37 (0, 0)) aC.out) (below_size HB.out))
                            have aJ := aM (blk_below aA.out hb)
                            have aK := aM (blk_below aC.out hb)
                            have aN := aM (blk_below aH.out hb)
                            have aP := aM (bp_ HB.out hb)
                            clear aA aC aH HB
                            have aY := aI
                            have aA := aJ
                            have aC := aK
                            have aH := aN
                            have HB := aP
                            clear aI aJ aK aN aP
                            (try clear hb)
                            (try clear hb2)
                            (try clear hk)
                            (try clear hi)
                            (try clear ho0)
                            refine hK.out _ _ ⟨(blk_cell aA.out 0).trans rfl, (blk_cell aA.out 1).trans rfl, (blk_cell aA.out 2).trans rfl, (blk_cell aC.out 0).trans rfl, (blk_cell aC.out 1).trans rfl, (blk_cell aC.out 2).trans rfl⟩ (fun aW => ?_)
                            clear hK K
                            refine norm_ (a' := ?_) ?_ ?_
                            rotate_left
                            · show Act.put _ (some 11) _ = _
                              simp only [Act.put, List.setIfInBounds_toArray, List.set_cons_zero, List.set_cons_succ, i64_w, i32_w]
                              rfl
                            exact norm_ (by first | (simp only [putAll, Act.put, List.setIfInBounds_toArray, List.set_cons_zero, List.set_cons_succ]; done) | (simp only [putAll, Act.put, List.setIfInBounds_toArray, List.set_cons_zero, List.set_cons_succ]; rfl)) (hJ4 (v329) _ ⟨aW, (by (with_reducible repeat (first | apply Kd.R_alloc | apply Kd.R_drewN | apply Kd.R_drew)); exact Kd.R_mono aY.out (fun _ hk => hk.2)), aA.out, aC.out, aH.out, HB.out⟩)
                          · skip
                            refine Kd.R_lit_step k37 _ 37 ?hg (N := 13) ?hd (xs := ([(⟨a1_0, a1_1, a1_2⟩ : S37)] : List (S37))) (inner := [.int .i64 a1_0, .int .i64 a1_1, .int .i64 a1_2]) (ok := fun _ => True) (okp := fun _ => True) ?hr ?hp (fun _ hk => hk) trivial (Below.refl _ _) (Nat.le_refl _) (by simp) ?_; (case hd => rfl); (case hg => rfl); (case hr => first | (go_simp; done) | (go_simp; rfl)); (case hp => exact (Reps.c3 (show Kd.M k37 _ _ _ (⟨a1_0, a1_1, a1_2⟩ : S37) [.int .i64 a1_0, .int .i64 a1_1, .int .i64 a1_2] from (k37_mkM _ _ _ (⟨a1_0, a1_1, a1_2⟩ : S37) )) (Reps.none _ _)))
                            intro v332 w13 ho14 hb hg_ hnew_
                            clear hg_ hnew_
                            (first | rw [← bS.out] at ho14 | (simp only [Int.reduceToNat] at ho14; rw [← bS.out] at ho14))
                            have aI := aM (Kd.R_lower (Kd.R_newB ho14 (g := aD) (o := .cells #[.int .i64 a1_0, .int .i64 a1_1, .int .i64 a1_2] 37 (0, 0)) aC.out) (below_size HB.out))
                            have aJ := aM (blk_below aA.out hb)
                            have aK := aM (blk_below aC.out hb)
                            have aN := aM (blk_below aH.out hb)
                            have aP := aM (bp_ HB.out hb)
                            clear aA aC aH HB
                            have aU := aI
                            have aA := aJ
                            have aC := aK
                            have aH := aN
                            have HB := aP
                            clear aI aJ aK aN aP hb ho14
                            refine hK.out _ _ ⟨(blk_cell aA.out 0).trans rfl, (blk_cell aA.out 1).trans rfl, (blk_cell aA.out 2).trans rfl, (blk_cell aC.out 0).trans rfl, (blk_cell aC.out 1).trans rfl, (blk_cell aC.out 2).trans rfl⟩ (fun aW => ?_)
                            clear hK K
                            refine norm_ (a' := ?_) ?_ ?_
                            rotate_left
                            · show Act.put _ (some 13) _ = _
                              simp only [Act.put, List.setIfInBounds_toArray, List.set_cons_zero, List.set_cons_succ, i64_w, i32_w]
                              rfl
                            exact norm_ (by first | (simp only [putAll, Act.put, List.setIfInBounds_toArray, List.set_cons_zero, List.set_cons_succ]; done) | (simp only [putAll, Act.put, List.setIfInBounds_toArray, List.set_cons_zero, List.set_cons_succ]; rfl)) (hJ6 (v332) _ ⟨aW, (by (with_reducible repeat (first | apply Kd.R_alloc | apply Kd.R_drewN | apply Kd.R_drew)); exact Kd.R_mono aU.out (fun _ hk => hk.2)), aA.out, aC.out, aH.out, HB.out⟩)
                          · skip
                            refine box_step ?hg (N := 6) ?hd (cs := #[.int .i64 0, .int .i64 0, .slice none 0 0]) (t := 33) ?hr ?_; (case hd => rfl); (case hg => rfl); (case hr => first | (go_simp; done) | (go_simp; rfl))
                            intro aE hg w13 hbox hb
                            have aI := aM (blk_below aA.out hb)
                            have aJ := aM (blk_below aC.out hb)
                            have aK := aM (blk_below aH.out hb)
                            have aN := aM (bp_ HB.out hb)
                            have aP := aM (hbox)
                            have aQ := aM ((by rw [hg]; exact (below_size HB.out) : w.heap.size ≤ aE))
                            have aX := aM ((by rw [hg]; exact (below_size HB.out) : w.heap.size ≤ aE))
                            have bB := aM ((by rw [hg]; exact Nat.ne_of_lt (blk_lt aA.out) : aG ≠ aE))
                            have bC := aM ((by rw [hg]; exact Nat.ne_of_gt (blk_lt aA.out) : aE ≠ aG))
                            have bD := aM ((by rw [hg]; exact Nat.ne_of_lt (blk_lt aC.out) : aD ≠ aE))
                            have bE := aM ((by rw [hg]; exact Nat.ne_of_gt (blk_lt aC.out) : aE ≠ aD))
                            have bF := aM ((by rw [hg]; exact Nat.ne_of_lt (blk_lt aH.out) : aT ≠ aE))
                            have bG := aM ((by rw [hg]; exact Nat.ne_of_gt (blk_lt aH.out) : aE ≠ aT))
                            clear aA aC aH HB
                            have aA := aI
                            have aC := aJ
                            have aH := aK
                            have HB := aN
                            have aV := aP
                            have bQ := aQ
                            have bM := aX
                            have aZ := bB
                            have bI := bC
                            have bA := bD
                            have bN := bE
                            have bH := bF
                            have bJ := bG
                            clear aI aJ aK aN aP aQ aX bB bC bD bE bF bG hb hbox hg
                            refine hK.out _ _ ⟨(blk_cell aA.out 0).trans rfl, (blk_cell aA.out 1).trans rfl, (blk_cell aA.out 2).trans rfl, (blk_cell aC.out 0).trans rfl, (blk_cell aC.out 1).trans rfl, (blk_cell aC.out 2).trans rfl⟩ (fun aW => ?_)
                            clear hK K
                            refine norm_ (a' := ?_) ?_ ?_
                            rotate_left
                            · show Act.put _ (some 6) _ = _
                              simp only [Act.put, List.setIfInBounds_toArray, List.set_cons_zero, List.set_cons_succ, i64_w, i32_w]
                              rfl
                            exact norm_ (by first | (simp only [putAll, Act.put, List.setIfInBounds_toArray, List.set_cons_zero, List.set_cons_succ]; done) | (simp only [putAll, Act.put, List.setIfInBounds_toArray, List.set_cons_zero, List.set_cons_succ]; rfl)) (hJ9 (aE) _ ⟨aW, aA.out, aC.out, aH.out, aV.out, bQ.out, bM.out, aZ.out, bI.out, bA.out, bN.out, bH.out, bJ.out, HB.out⟩)
                        · skip
                          rintro aE w14 ⟨hS_, h0_, h1_, h2_, h3_, h4_, h5_, h6_, h7_, h8_, h9_, h10_, h11_, h12_⟩
                          have aI : Aside0 (w14.heap[aG]? = some (.cells #[.int .i64 a0_0, .int .i64 a0_1, .slice A0_2 l0_2.length c0_2] 33 (0, 0))) := ⟨h0_⟩
                          have aJ : Aside0 (w14.heap[aD]? = some (.cells #[.int .i64 a1_0, .int .i64 a1_1, .int .i64 a1_2] 37 (0, 0))) := ⟨h1_⟩
                          have aK : Aside0 (w14.heap[aT]? = some (.cells #[.int .i64 0, .int .i64 0, .slice none 0 0] 33 (0, 0))) := ⟨h2_⟩
                          have aN : Aside0 (w14.heap[aE]? = some (.cells #[.int .i64 0, .int .i64 0, .slice none 0 0] 33 (0, 0))) := ⟨h3_⟩
                          have aP : Aside0 (w.heap.size ≤ aE) := ⟨h4_⟩
                          have aQ : Aside0 (w.heap.size ≤ aE) := ⟨h5_⟩
                          have aX : Aside0 (aG ≠ aE) := ⟨h6_⟩
                          have bB : Aside0 (aE ≠ aG) := ⟨h7_⟩
                          have bC : Aside0 (aD ≠ aE) := ⟨h8_⟩
                          have bD : Aside0 (aE ≠ aD) := ⟨h9_⟩
                          have bE : Aside0 (aT ≠ aE) := ⟨h10_⟩
                          have bF : Aside0 (aE ≠ aT) := ⟨h11_⟩
                          have bG : Aside0 (Below w.heap.size w w14) := ⟨h12_⟩
                          clear aA aC aH HB h0_ h1_ h2_ h3_ h4_ h5_ h6_ h7_ h8_ h9_ h10_ h11_ h12_
                          have aA := aI
                          have aC := aJ
                          have aH := aK
                          have aV := aN
                          have bQ := aP
                          have bM := aQ
                          have aZ := aX
                          have bI := bB
                          have bA := bC
                          have bN := bD
                          have bH := bE
                          have bJ := bF
                          have HB := bG
                          clear aI aJ aK aN aP aQ aX bB bC bD bE bF bG
                          have aW : w14.cell? ⟨aG, 0, none⟩ = some (.int .i64 a0_0) ∧ w14.cell? ⟨aG, 1, none⟩ = some (.int .i64 a0_1) ∧ w14.cell? ⟨aG, 2, none⟩ = some (.slice A0_2 l0_2.length c0_2) ∧ w14.cell? ⟨aD, 0, none⟩ = some (.int .i64 a1_0) ∧ w14.cell? ⟨aD, 1, none⟩ = some (.int .i64 a1_1) ∧ w14.cell? ⟨aD, 2, none⟩ = some (.int .i64 a1_2) := hS_
                          refine norm_ (a' := ?_) ?_ ?_
                          rotate_left
                          · simp only [putAll, Act.put, List.setIfInBounds_toArray, List.set_cons_zero, List.set_cons_succ]
                            rfl
                          refine two_ (i := 4) (j := 6) (Ni := some 11) (Nj := some 13) #[true, true, true, true, true, true, false, false, false, true, false] #[true, true, true, true, false, true, true, false, false, true, false] rfl rfl rfl rfl (two_of HT_.out (by kernel_rfl)) (by decide) (by decide) (fun K hK => ?_) (fun K hK => ?_)
                          · skip
                            refine goes_ Try.func23 (by kernel_rfl) rfl #[.slice A0_2 l0_2.length c0_2] (by rfl) rfl rfl (by (try simp only [List.map_toArray, List.map_cons, List.map_nil]); first | done | rfl | (simp only [List.length_drop, List.length_take]; rfl)) ?_
                            with_reducible refine (slices_Clone_impl_Clue_impl_Clue.calls _ _ l0_2 t328 _ ?side1 ?side2 A3.out).mono ?_
                            (case side1 => repeat (first | exact (Kd.C_below HR0_2.out HB.out) | (with_reducible refine Kd.C_alloc ?_ _) | (with_reducible refine Kd.C_drewN ?_ _) | (with_reducible refine Kd.C_drew ?_)))
                            (case side2 => exact bT.out)
                            rintro e w15 ⟨v329, rfl, ho0, hb⟩
                            refine ⟨_, rfl, ?_⟩
                            have aI := aM (Kd.R_lower (Kd.R_newB ho0 (g := aD) (o := .cells #[.int .i64 a1_0, .int .i64 a1_1, .int .i64 a1_2] 37 (0, 0)) aC.out) (below_size HB.out))
                            have aJ := aM (blk_below aA.out hb)
                            have aK := aM (blk_below aC.out hb)
                            have aN := aM (blk_below aH.out hb)
                            have aP := aM (blk_below aV.out hb)
                            have aQ := aM (bp_ HB.out hb)
                            clear aA aC aH aV HB
                            have aY := aI
                            have aA := aJ
                            have aC := aK
                            have aH := aN
                            have aV := aP
                            have HB := aQ
                            clear aI aJ aK aN aP aQ
                            (try clear hb)
                            (try clear hb2)
                            (try clear hk)
                            (try clear hi)
                            (try clear ho0)
                            refine hK.out _ _ ⟨(blk_cell aA.out 0).trans rfl, (blk_cell aA.out 1).trans rfl, (blk_cell aA.out 2).trans rfl, (blk_cell aC.out 0).trans rfl, (blk_cell aC.out 1).trans rfl, (blk_cell aC.out 2).trans rfl⟩ (fun aW => ?_)
                            clear hK K
                            refine norm_ (a' := ?_) ?_ ?_
                            rotate_left
                            · show Act.put _ (some 11) _ = _
                              simp only [Act.put, List.setIfInBounds_toArray, List.set_cons_zero, List.set_cons_succ, i64_w, i32_w]
                              rfl
                            exact norm_ (by first | (simp only [putAll, Act.put, List.setIfInBounds_toArray, List.set_cons_zero, List.set_cons_succ]; done) | (simp only [putAll, Act.put, List.setIfInBounds_toArray, List.set_cons_zero, List.set_cons_succ]; rfl)) (hJ4_9 (v329, aE) _ ⟨aW, (by (with_reducible repeat (first | apply Kd.R_alloc | apply Kd.R_drewN | apply Kd.R_drew)); exact Kd.R_mono aY.out (fun _ hk => hk.2)), aA.out, aC.out, aH.out, aV.out, bQ.out, bM.out, aZ.out, bI.out, bA.out, bN.out, bH.out, bJ.out, HB.out⟩)
                          · skip
                            refine Kd.R_lit_step k37 _ 37 ?hg (N := 13) ?hd (xs := ([(⟨a1_0, a1_1, a1_2⟩ : S37)] : List (S37))) (inner := [.int .i64 a1_0, .int .i64 a1_1, .int .i64 a1_2]) (ok := fun _ => True) (okp := fun _ => True) ?hr ?hp (fun _ hk => hk) trivial (Below.refl _ _) (Nat.le_refl _) (by simp) ?_; (case hd => rfl); (case hg => rfl); (case hr => first | (go_simp; done) | (go_simp; rfl)); (case hp => exact (Reps.c3 (show Kd.M k37 _ _ _ (⟨a1_0, a1_1, a1_2⟩ : S37) [.int .i64 a1_0, .int .i64 a1_1, .int .i64 a1_2] from (k37_mkM _ _ _ (⟨a1_0, a1_1, a1_2⟩ : S37) )) (Reps.none _ _)))
                            intro v332 w15 ho16 hb hg_ hnew_
                            clear hg_ hnew_
                            (first | rw [← bS.out] at ho16 | (simp only [Int.reduceToNat] at ho16; rw [← bS.out] at ho16))
                            have aI := aM (Kd.R_lower (Kd.R_newB ho16 (g := aD) (o := .cells #[.int .i64 a1_0, .int .i64 a1_1, .int .i64 a1_2] 37 (0, 0)) aC.out) (below_size HB.out))
                            have aJ := aM (blk_below aA.out hb)
                            have aK := aM (blk_below aC.out hb)
                            have aN := aM (blk_below aH.out hb)
                            have aP := aM (blk_below aV.out hb)
                            have aQ := aM (bp_ HB.out hb)
                            clear aA aC aH aV HB
                            have aU := aI
                            have aA := aJ
                            have aC := aK
                            have aH := aN
                            have aV := aP
                            have HB := aQ
                            clear aI aJ aK aN aP aQ hb ho16
                            refine hK.out _ _ ⟨(blk_cell aA.out 0).trans rfl, (blk_cell aA.out 1).trans rfl, (blk_cell aA.out 2).trans rfl, (blk_cell aC.out 0).trans rfl, (blk_cell aC.out 1).trans rfl, (blk_cell aC.out 2).trans rfl⟩ (fun aW => ?_)
                            clear hK K
                            refine norm_ (a' := ?_) ?_ ?_
                            rotate_left
                            · show Act.put _ (some 13) _ = _
                              simp only [Act.put, List.setIfInBounds_toArray, List.set_cons_zero, List.set_cons_succ, i64_w, i32_w]
                              rfl
                            exact norm_ (by first | (simp only [putAll, Act.put, List.setIfInBounds_toArray, List.set_cons_zero, List.set_cons_succ]; done) | (simp only [putAll, Act.put, List.setIfInBounds_toArray, List.set_cons_zero, List.set_cons_succ]; rfl)) (hJ6_9 (v332, aE) _ ⟨aW, (by (with_reducible repeat (first | apply Kd.R_alloc | apply Kd.R_drewN | apply Kd.R_drew)); exact Kd.R_mono aU.out (fun _ hk => hk.2)), aA.out, aC.out, aH.out, aV.out, bQ.out, bM.out, aZ.out, bI.out, bA.out, bN.out, bH.out, bJ.out, HB.out⟩)
                      · skip
                        rintro v332 w15 ⟨hS_, h0_, h1_, h2_, h3_, h4_⟩
                        have aI : Aside0 (Kd.R k37 37 w15 w.heap.size (fun k_ => k_ ≠ aD) v332 bL) := ⟨h0_⟩
                        have aJ : Aside0 (w15.heap[aG]? = some (.cells #[.int .i64 a0_0, .int .i64 a0_1, .slice A0_2 l0_2.length c0_2] 33 (0, 0))) := ⟨h1_⟩
                        have aK : Aside0 (w15.heap[aD]? = some (.cells #[.int .i64 a1_0, .int .i64 a1_1, .int .i64 a1_2] 37 (0, 0))) := ⟨h2_⟩
                        have aN : Aside0 (w15.heap[aT]? = some (.cells #[.int .i64 0, .int .i64 0, .slice none 0 0] 33 (0, 0))) := ⟨h3_⟩
                        have aP : Aside0 (Below w.heap.size w w15) := ⟨h4_⟩
                        clear aA aC aH HB h0_ h1_ h2_ h3_ h4_
                        have aU := aI
                        have aA := aJ
                        have aC := aK
                        have aH := aN
                        have HB := aP
                        clear aI aJ aK aN aP
                        have aW : w15.cell? ⟨aG, 0, none⟩ = some (.int .i64 a0_0) ∧ w15.cell? ⟨aG, 1, none⟩ = some (.int .i64 a0_1) ∧ w15.cell? ⟨aG, 2, none⟩ = some (.slice A0_2 l0_2.length c0_2) ∧ w15.cell? ⟨aD, 0, none⟩ = some (.int .i64 a1_0) ∧ w15.cell? ⟨aD, 1, none⟩ = some (.int .i64 a1_1) ∧ w15.cell? ⟨aD, 2, none⟩ = some (.int .i64 a1_2) := hS_
                        refine norm_ (a' := ?_) ?_ ?_
                        rotate_left
                        · simp only [putAll, Act.put, List.setIfInBounds_toArray, List.set_cons_zero, List.set_cons_succ]
                          rfl
                        refine two_ (i := 4) (j := 9) (Ni := some 11) (Nj := some 6) #[true, true, true, true, true, true, true, false, false, false, false] #[true, true, true, true, false, true, true, false, false, true, false] rfl rfl rfl rfl (two_of HT_.out (by kernel_rfl)) (by decide) (by decide) (fun K hK => ?_) (fun K hK => ?_)
                        · skip
                          refine goes_ Try.func23 (by kernel_rfl) rfl #[.slice A0_2 l0_2.length c0_2] (by rfl) rfl rfl (by (try simp only [List.map_toArray, List.map_cons, List.map_nil]); first | done | rfl | (simp only [List.length_drop, List.length_take]; rfl)) ?_
                          with_reducible refine (slices_Clone_impl_Clue_impl_Clue.calls _ _ l0_2 t328 _ ?side1 ?side2 A3.out).mono ?_
                          (case side1 => repeat (first | exact (Kd.C_below HR0_2.out HB.out) | (with_reducible refine Kd.C_alloc ?_ _) | (with_reducible refine Kd.C_drewN ?_ _) | (with_reducible refine Kd.C_drew ?_)))
                          (case side2 => exact bT.out)
                          rintro e w16 ⟨v329, rfl, ho0, hb⟩
                          refine ⟨_, rfl, ?_⟩
                          have aI := aM (Kd.R_elder' aU.out (Kd.R_base ho0) hb)
                          have aJ := aM (Kd.R_lower (Kd.R_newB (Kd.R_new' ho0 (Kd.R_lt aU.out)) (g := aD) (o := .cells #[.int .i64 a1_0, .int .i64 a1_1, .int .i64 a1_2] 37 (0, 0)) aC.out) (below_size HB.out))
                          have aK := aM (blk_below aA.out hb)
                          have aN := aM (blk_below aC.out hb)
                          have aP := aM (blk_below aH.out hb)
                          have aQ := aM (bp_ HB.out hb)
                          clear aU aA aC aH HB
                          have aU := aI
                          have aY := aJ
                          have aA := aK
                          have aC := aN
                          have aH := aP
                          have HB := aQ
                          clear aI aJ aK aN aP aQ
                          (try clear hb)
                          (try clear hb2)
                          (try clear hk)
                          (try clear hi)
                          (try clear ho0)
                          refine hK.out _ _ ⟨(blk_cell aA.out 0).trans rfl, (blk_cell aA.out 1).trans rfl, (blk_cell aA.out 2).trans rfl, (blk_cell aC.out 0).trans rfl, (blk_cell aC.out 1).trans rfl, (blk_cell aC.out 2).trans rfl⟩ (fun aW => ?_)
                          clear hK K
                          refine norm_ (a' := ?_) ?_ ?_
                          rotate_left
                          · show Act.put _ (some 11) _ = _
                            simp only [Act.put, List.setIfInBounds_toArray, List.set_cons_zero, List.set_cons_succ, i64_w, i32_w]
                            rfl
                          exact norm_ (by first | (simp only [putAll, Act.put, List.setIfInBounds_toArray, List.set_cons_zero, List.set_cons_succ]; done) | (simp only [putAll, Act.put, List.setIfInBounds_toArray, List.set_cons_zero, List.set_cons_succ]; rfl)) (hJ4_6 (v329, v332) _ ⟨aW, (by (with_reducible repeat (first | apply Kd.R_alloc | apply Kd.R_drewN | apply Kd.R_drew)); exact Kd.R_mono aY.out (fun _ hk => ⟨hk.1.2, hk.2⟩)), (by (with_reducible repeat (first | apply Kd.R_alloc | apply Kd.R_drewN | apply Kd.R_drew)); exact Kd.R_mono aU.out (fun _ hk => ⟨hk.2, hk.1⟩)), aA.out, aC.out, aH.out, HB.out⟩)
                        · skip
                          refine box_step ?hg (N := 6) ?hd (cs := #[.int .i64 0, .int .i64 0, .slice none 0 0]) (t := 33) ?hr ?_; (case hd => rfl); (case hg => rfl); (case hr => first | (go_simp; done) | (go_simp; rfl))
                          intro aE hg w16 hbox hb
                          have aI := aM (Kd.R_below aU.out hb)
                          have aJ := aM (blk_below aA.out hb)
                          have aK := aM (blk_below aC.out hb)
                          have aN := aM (blk_below aH.out hb)
                          have aP := aM (bp_ HB.out hb)
                          have aQ := aM (hbox)
                          have aX := aM ((by rw [hg]; exact (below_size HB.out) : w.heap.size ≤ aE))
                          have bB := aM ((by rw [hg]; exact (below_size HB.out) : w.heap.size ≤ aE))
                          have bC := aM ((by rw [hg]; exact Nat.ne_of_lt (blk_lt aA.out) : aG ≠ aE))
                          have bD := aM ((by rw [hg]; exact Nat.ne_of_gt (blk_lt aA.out) : aE ≠ aG))
                          have bE := aM ((by rw [hg]; exact Nat.ne_of_lt (blk_lt aC.out) : aD ≠ aE))
                          have bF := aM ((by rw [hg]; exact Nat.ne_of_gt (blk_lt aC.out) : aE ≠ aD))
                          have bG := aM ((by rw [hg]; exact Nat.ne_of_lt (blk_lt aH.out) : aT ≠ aE))
                          have bK := aM ((by rw [hg]; exact Nat.ne_of_gt (blk_lt aH.out) : aE ≠ aT))
                          clear aU aA aC aH HB
                          have aU := aI
                          have aA := aJ
                          have aC := aK
                          have aH := aN
                          have HB := aP
                          have aV := aQ
                          have bQ := aX
                          have bM := bB
                          have aZ := bC
                          have bI := bD
                          have bA := bE
                          have bN := bF
                          have bH := bG
                          have bJ := bK
                          clear aI aJ aK aN aP aQ aX bB bC bD bE bF bG bK hb hbox hg
                          refine hK.out _ _ ⟨(blk_cell aA.out 0).trans rfl, (blk_cell aA.out 1).trans rfl, (blk_cell aA.out 2).trans rfl, (blk_cell aC.out 0).trans rfl, (blk_cell aC.out 1).trans rfl, (blk_cell aC.out 2).trans rfl⟩ (fun aW => ?_)
                          clear hK K
                          refine norm_ (a' := ?_) ?_ ?_
                          rotate_left
                          · show Act.put _ (some 6) _ = _
                            simp only [Act.put, List.setIfInBounds_toArray, List.set_cons_zero, List.set_cons_succ, i64_w, i32_w]
                            rfl
                          exact norm_ (by first | (simp only [putAll, Act.put, List.setIfInBounds_toArray, List.set_cons_zero, List.set_cons_succ]; done) | (simp only [putAll, Act.put, List.setIfInBounds_toArray, List.set_cons_zero, List.set_cons_succ]; rfl)) (hJ6_9 (v332, aE) _ ⟨aW, aU.out, aA.out, aC.out, aH.out, aV.out, bQ.out, bM.out, aZ.out, bI.out, bA.out, bN.out, bH.out, bJ.out, HB.out⟩)
                    · skip
                      rintro v329 w14 ⟨hS_, h0_, h1_, h2_, h3_, h4_⟩
                      have aI : Aside0 (Kd.R k37 37 w14 w.heap.size (fun k_ => k_ ≠ aD) v329 t328) := ⟨h0_⟩
                      have aJ : Aside0 (w14.heap[aG]? = some (.cells #[.int .i64 a0_0, .int .i64 a0_1, .slice A0_2 l0_2.length c0_2] 33 (0, 0))) := ⟨h1_⟩
                      have aK : Aside0 (w14.heap[aD]? = some (.cells #[.int .i64 a1_0, .int .i64 a1_1, .int .i64 a1_2] 37 (0, 0))) := ⟨h2_⟩
                      have aN : Aside0 (w14.heap[aT]? = some (.cells #[.int .i64 0, .int .i64 0, .slice none 0 0] 33 (0, 0))) := ⟨h3_⟩
                      have aP : Aside0 (Below w.heap.size w w14) := ⟨h4_⟩
                      clear aA aC aH HB h0_ h1_ h2_ h3_ h4_
                      have aY := aI
                      have aA := aJ
                      have aC := aK
                      have aH := aN
                      have HB := aP
                      clear aI aJ aK aN aP
                      have aW : w14.cell? ⟨aG, 0, none⟩ = some (.int .i64 a0_0) ∧ w14.cell? ⟨aG, 1, none⟩ = some (.int .i64 a0_1) ∧ w14.cell? ⟨aG, 2, none⟩ = some (.slice A0_2 l0_2.length c0_2) ∧ w14.cell? ⟨aD, 0, none⟩ = some (.int .i64 a1_0) ∧ w14.cell? ⟨aD, 1, none⟩ = some (.int .i64 a1_1) ∧ w14.cell? ⟨aD, 2, none⟩ = some (.int .i64 a1_2) := hS_
                      refine norm_ (a' := ?_) ?_ ?_
                      rotate_left
                      · simp only [putAll, Act.put, List.setIfInBounds_toArray, List.set_cons_zero, List.set_cons_succ]
                        rfl
                      refine two_ (i := 6) (j := 9) (Ni := some 13) (Nj := some 6) #[true, true, true, true, true, true, true, false, false, false, false] #[true, true, true, true, true, true, false, false, false, true, false] rfl rfl rfl rfl (two_of HT_.out (by kernel_rfl)) (by decide) (by decide) (fun K hK => ?_) (fun K hK => ?_)
                      · skip
                        refine Kd.R_lit_step k37 _ 37 ?hg (N := 13) ?hd (xs := ([(⟨a1_0, a1_1, a1_2⟩ : S37)] : List (S37))) (inner := [.int .i64 a1_0, .int .i64 a1_1, .int .i64 a1_2]) (ok := fun _ => True) (okp := fun _ => True) ?hr ?hp (fun _ hk => hk) trivial (Below.refl _ _) (Nat.le_refl _) (by simp) ?_; (case hd => rfl); (case hg => rfl); (case hr => first | (go_simp; done) | (go_simp; rfl)); (case hp => exact (Reps.c3 (show Kd.M k37 _ _ _ (⟨a1_0, a1_1, a1_2⟩ : S37) [.int .i64 a1_0, .int .i64 a1_1, .int .i64 a1_2] from (k37_mkM _ _ _ (⟨a1_0, a1_1, a1_2⟩ : S37) )) (Reps.none _ _)))
                        intro v332 w15 ho16 hb hg_ hnew_
                        clear hg_ hnew_
                        (first | rw [← bS.out] at ho16 | (simp only [Int.reduceToNat] at ho16; rw [← bS.out] at ho16))
                        have aI := aM (Kd.R_elder' aY.out (Kd.R_base ho16) hb)
                        have aJ := aM (Kd.R_lower (Kd.R_newB (Kd.R_new' ho16 (Kd.R_lt aY.out)) (g := aD) (o := .cells #[.int .i64 a1_0, .int .i64 a1_1, .int .i64 a1_2] 37 (0, 0)) aC.out) (below_size HB.out))
                        have aK := aM (blk_below aA.out hb)
                        have aN := aM (blk_below aC.out hb)
                        have aP := aM (blk_below aH.out hb)
                        have aQ := aM (bp_ HB.out hb)
                        clear aY aA aC aH HB
                        have aY := aI
                        have aU := aJ
                        have aA := aK
                        have aC := aN
                        have aH := aP
                        have HB := aQ
                        clear aI aJ aK aN aP aQ hb ho16
                        refine hK.out _ _ ⟨(blk_cell aA.out 0).trans rfl, (blk_cell aA.out 1).trans rfl, (blk_cell aA.out 2).trans rfl, (blk_cell aC.out 0).trans rfl, (blk_cell aC.out 1).trans rfl, (blk_cell aC.out 2).trans rfl⟩ (fun aW => ?_)
                        clear hK K
                        refine norm_ (a' := ?_) ?_ ?_
                        rotate_left
                        · show Act.put _ (some 13) _ = _
                          simp only [Act.put, List.setIfInBounds_toArray, List.set_cons_zero, List.set_cons_succ, i64_w, i32_w]
                          rfl
                        exact norm_ (by first | (simp only [putAll, Act.put, List.setIfInBounds_toArray, List.set_cons_zero, List.set_cons_succ]; done) | (simp only [putAll, Act.put, List.setIfInBounds_toArray, List.set_cons_zero, List.set_cons_succ]; rfl)) (hJ4_6 (v329, v332) _ ⟨aW, (by (with_reducible repeat (first | apply Kd.R_alloc | apply Kd.R_drewN | apply Kd.R_drew)); exact Kd.R_mono aY.out (fun _ hk => ⟨hk.2, hk.1⟩)), (by (with_reducible repeat (first | apply Kd.R_alloc | apply Kd.R_drewN | apply Kd.R_drew)); exact Kd.R_mono aU.out (fun _ hk => ⟨hk.1.2, hk.2⟩)), aA.out, aC.out, aH.out, HB.out⟩)
                      · skip
                        refine box_step ?hg (N := 6) ?hd (cs := #[.int .i64 0, .int .i64 0, .slice none 0 0]) (t := 33) ?hr ?_; (case hd => rfl); (case hg => rfl); (case hr => first | (go_simp; done) | (go_simp; rfl))
                        intro aE hg w15 hbox hb
                        have aI := aM (Kd.R_below aY.out hb)
                        have aJ := aM (blk_below aA.out hb)
                        have aK := aM (blk_below aC.out hb)
                        have aN := aM (blk_below aH.out hb)
                        have aP := aM (bp_ HB.out hb)
                        have aQ := aM (hbox)
                        have aX := aM ((by rw [hg]; exact (below_size HB.out) : w.heap.size ≤ aE))
                        have bB := aM ((by rw [hg]; exact (below_size HB.out) : w.heap.size ≤ aE))
                        have bC := aM ((by rw [hg]; exact Nat.ne_of_lt (blk_lt aA.out) : aG ≠ aE))
                        have bD := aM ((by rw [hg]; exact Nat.ne_of_gt (blk_lt aA.out) : aE ≠ aG))
                        have bE := aM ((by rw [hg]; exact Nat.ne_of_lt (blk_lt aC.out) : aD ≠ aE))
                        have bF := aM ((by rw [hg]; exact Nat.ne_of_gt (blk_lt aC.out) : aE ≠ aD))
                        have bG := aM ((by rw [hg]; exact Nat.ne_of_lt (blk_lt aH.out) : aT ≠ aE))
                        have bK := aM ((by rw [hg]; exact Nat.ne_of_gt (blk_lt aH.out) : aE ≠ aT))
                        clear aY aA aC aH HB
                        have aY := aI
                        have aA := aJ
                        have aC := aK
                        have aH := aN
                        have HB := aP
                        have aV := aQ
                        have bQ := aX
                        have bM := bB
                        have aZ := bC
                        have bI := bD
                        have bA := bE
                        have bN := bF
                        have bH := bG
                        have bJ := bK
                        clear aI aJ aK aN aP aQ aX bB bC bD bE bF bG bK hb hbox hg
                        refine hK.out _ _ ⟨(blk_cell aA.out 0).trans rfl, (blk_cell aA.out 1).trans rfl, (blk_cell aA.out 2).trans rfl, (blk_cell aC.out 0).trans rfl, (blk_cell aC.out 1).trans rfl, (blk_cell aC.out 2).trans rfl⟩ (fun aW => ?_)
                        clear hK K
                        refine norm_ (a' := ?_) ?_ ?_
                        rotate_left
                        · show Act.put _ (some 6) _ = _
                          simp only [Act.put, List.setIfInBounds_toArray, List.set_cons_zero, List.set_cons_succ, i64_w, i32_w]
                          rfl
                        exact norm_ (by first | (simp only [putAll, Act.put, List.setIfInBounds_toArray, List.set_cons_zero, List.set_cons_succ]; done) | (simp only [putAll, Act.put, List.setIfInBounds_toArray, List.set_cons_zero, List.set_cons_succ]; rfl)) (hJ4_9 (v329, aE) _ ⟨aW, aY.out, aA.out, aC.out, aH.out, aV.out, bQ.out, bM.out, aZ.out, bI.out, bA.out, bN.out, bH.out, bJ.out, HB.out⟩)
                  · skip
                    rintro ⟨v332, aE⟩ w16 ⟨hS_, h0_, h1_, h2_, h3_, h4_, h5_, h6_, h7_, h8_, h9_, h10_, h11_, h12_, h13_⟩
                    have aI : Aside0 (Kd.R k37 37 w16 w.heap.size (fun k_ => k_ ≠ aD) v332 bL) := ⟨h0_⟩
                    have aJ : Aside0 (w16.heap[aG]? = some (.cells #[.int .i64 a0_0, .int .i64 a0_1, .slice A0_2 l0_2.length c0_2] 33 (0, 0))) := ⟨h1_⟩
                    have aK : Aside0 (w16.heap[aD]? = some (.cells #[.int .i64 a1_0, .int .i64 a1_1, .int .i64 a1_2] 37 (0, 0))) := ⟨h2_⟩
                    have aN : Aside0 (w16.heap[aT]? = some (.cells #[.int .i64 0, .int .i64 0, .slice none 0 0] 33 (0, 0))) := ⟨h3_⟩
                    have aP : Aside0 (w16.heap[aE]? = some (.cells #[.int .i64 0, .int .i64 0, .slice none 0 0] 33 (0, 0))) := ⟨h4_⟩
                    have aQ : Aside0 (w.heap.size ≤ aE) := ⟨h5_⟩
                    have aX : Aside0 (w.heap.size ≤ aE) := ⟨h6_⟩
                    have bB : Aside0 (aG ≠ aE) := ⟨h7_⟩
                    have bC : Aside0 (aE ≠ aG) := ⟨h8_⟩
                    have bD : Aside0 (aD ≠ aE) := ⟨h9_⟩
                    have bE : Aside0 (aE ≠ aD) := ⟨h10_⟩
                    have bF : Aside0 (aT ≠ aE) := ⟨h11_⟩
                    have bG : Aside0 (aE ≠ aT) := ⟨h12_⟩
                    have bK : Aside0 (Below w.heap.size w w16) := ⟨h13_⟩
                    clear aA aC aH HB h0_ h1_ h2_ h3_ h4_ h5_ h6_ h7_ h8_ h9_ h10_ h11_ h12_ h13_
                    have aU := aI
                    have aA := aJ
                    have aC := aK
                    have aH := aN
                    have aV := aP
                    have bQ := aQ
                    have bM := aX
                    have aZ := bB
                    have bI := bC
                    have bA := bD
                    have bN := bE
                    have bH := bF
                    have bJ := bG
                    have HB := bK
                    clear aI aJ aK aN aP aQ aX bB bC bD bE bF bG bK
                    have aW : w16.cell? ⟨aG, 0, none⟩ = some (.int .i64 a0_0) ∧ w16.cell? ⟨aG, 1, none⟩ = some (.int .i64 a0_1) ∧ w16.cell? ⟨aG, 2, none⟩ = some (.slice A0_2 l0_2.length c0_2) ∧ w16.cell? ⟨aD, 0, none⟩ = some (.int .i64 a1_0) ∧ w16.cell? ⟨aD, 1, none⟩ = some (.int .i64 a1_1) ∧ w16.cell? ⟨aD, 2, none⟩ = some (.int .i64 a1_2) := hS_
                    refine norm_ (a' := ?_) ?_ ?_
                    rotate_left
                    · simp only [putAll, Act.put, List.setIfInBounds_toArray, List.set_cons_zero, List.set_cons_succ]
                      rfl
                    refine one_ (i := 4) (N := some 11) #[true, true, true, true, true, true, true, false, false, true, false] rfl rfl (one_of HT_.out (by kernel_rfl)) (by decide) (fun K hK => ?_)
                    refine goes_ Try.func23 (by kernel_rfl) rfl #[.slice A0_2 l0_2.length c0_2] (by rfl) rfl rfl (by (try simp only [List.map_toArray, List.map_cons, List.map_nil]); first | done | rfl | (simp only [List.length_drop, List.length_take]; rfl)) ?_
                    with_reducible refine (slices_Clone_impl_Clue_impl_Clue.calls _ _ l0_2 t328 _ ?side1 ?side2 A3.out).mono ?_
                    (case side1 => repeat (first | exact (Kd.C_below HR0_2.out HB.out) | (with_reducible refine Kd.C_alloc ?_ _) | (with_reducible refine Kd.C_drewN ?_ _) | (with_reducible refine Kd.C_drew ?_)))
                    (case side2 => exact bT.out)
                    rintro e w17 ⟨v329, rfl, ho0, hb⟩
                    refine ⟨_, rfl, ?_⟩
                    have aI := aM (Kd.R_elder' aU.out (Kd.R_base ho0) hb)
                    have aJ := aM (Kd.R_lower (Kd.R_newB (Kd.R_new' ho0 (Kd.R_lt aU.out)) (g := aD) (o := .cells #[.int .i64 a1_0, .int .i64 a1_1, .int .i64 a1_2] 37 (0, 0)) aC.out) (below_size HB.out))
                    have aK := aM (blk_below aA.out hb)
                    have aN := aM (blk_below aC.out hb)
                    have aP := aM (blk_below aH.out hb)
                    have aQ := aM (blk_below aV.out hb)
                    have aX := aM (bp_ HB.out hb)
                    clear aU aA aC aH aV HB
                    have aU := aI
                    have aY := aJ
                    have aA := aK
                    have aC := aN
                    have aH := aP
                    have aV := aQ
                    have HB := aX
                    clear aI aJ aK aN aP aQ aX
                    (try clear hb)
                    (try clear hb2)
                    (try clear hk)
                    (try clear hi)
                    (try clear ho0)
                    refine hK.out _ _ ⟨(blk_cell aA.out 0).trans rfl, (blk_cell aA.out 1).trans rfl, (blk_cell aA.out 2).trans rfl, (blk_cell aC.out 0).trans rfl, (blk_cell aC.out 1).trans rfl, (blk_cell aC.out 2).trans rfl⟩ (fun aW => ?_)
                    clear hK K
                    refine norm_ (a' := ?_) ?_ ?_
                    rotate_left
                    · show Act.put _ (some 11) _ = _
                      simp only [Act.put, List.setIfInBounds_toArray, List.set_cons_zero, List.set_cons_succ, i64_w, i32_w]
                      rfl
                    exact norm_ (by first | (simp only [putAll, Act.put, List.setIfInBounds_toArray, List.set_cons_zero, List.set_cons_succ]; done) | (simp only [putAll, Act.put, List.setIfInBounds_toArray, List.set_cons_zero, List.set_cons_succ]; rfl)) (hJ4_6_9 (v329, v332, aE) _ ⟨aW, (by (with_reducible repeat (first | apply Kd.R_alloc | apply Kd.R_drewN | apply Kd.R_drew)); exact Kd.R_mono aY.out (fun _ hk => ⟨hk.1.2, hk.2⟩)), (by (with_reducible repeat (first | apply Kd.R_alloc | apply Kd.R_drewN | apply Kd.R_drew)); exact Kd.R_mono aU.out (fun _ hk => ⟨hk.2, hk.1⟩)), aA.out, aC.out, aH.out, aV.out, bQ.out, bM.out, aZ.out, bI.out, bA.out, bN.out, bH.out, bJ.out, HB.out⟩)
                · skip
                  rintro ⟨v329, aE⟩ w15 ⟨hS_, h0_, h1_, h2_, h3_, h4_, h5_, h6_, h7_, h8_, h9_, h10_, h11_, h12_, h13_⟩
                  have aI : Aside0 (Kd.R k37 37 w15 w.heap.size (fun k_ => k_ ≠ aD) v329 t328) := ⟨h0_⟩
                  have aJ : Aside0 (w15.heap[aG]? = some (.cells #[.int .i64 a0_0, .int .i64 a0_1, .slice A0_2 l0_2.length c0_2] 33 (0, 0))) := ⟨h1_⟩
                  have aK : Aside0 (w15.heap[aD]? = some (.cells #[.int .i64 a1_0, .int .i64 a1_1, .int .i64 a1_2] 37 (0, 0))) := ⟨h2_⟩
                  have aN : Aside0 (w15.heap[aT]? = some (.cells #[.int .i64 0, .int .i64 0, .slice none 0 0] 33 (0, 0))) := ⟨h3_⟩
                  have aP : Aside0 (w15.heap[aE]? = some (.cells #[.int .i64 0, .int .i64 0, .slice none 0 0] 33 (0, 0))) := ⟨h4_⟩
                  have aQ : Aside0 (w.heap.size ≤ aE) := ⟨h5_⟩
                  have aX : Aside0 (w.heap.size ≤ aE) := ⟨h6_⟩
                  have bB : Aside0 (aG ≠ aE) := ⟨h7_⟩
                  have bC : Aside0 (aE ≠ aG) := ⟨h8_⟩
                  have bD : Aside0 (aD ≠ aE) := ⟨h9_⟩
                  have bE : Aside0 (aE ≠ aD) := ⟨h10_⟩
                  have bF : Aside0 (aT ≠ aE) := ⟨h11_⟩
                  have bG : Aside0 (aE ≠ aT) := ⟨h12_⟩
                  have bK : Aside0 (Below w.heap.size w w15) := ⟨h13_⟩
                  clear aA aC aH HB h0_ h1_ h2_ h3_ h4_ h5_ h6_ h7_ h8_ h9_ h10_ h11_ h12_ h13_
                  have aY := aI
                  have aA := aJ
                  have aC := aK
                  have aH := aN
                  have aV := aP
                  have bQ := aQ
                  have bM := aX
                  have aZ := bB
                  have bI := bC
                  have bA := bD
                  have bN := bE
                  have bH := bF
                  have bJ := bG
                  have HB := bK
                  clear aI aJ aK aN aP aQ aX bB bC bD bE bF bG bK
                  have aW : w15.cell? ⟨aG, 0, none⟩ = some (.int .i64 a0_0) ∧ w15.cell? ⟨aG, 1, none⟩ = some (.int .i64 a0_1) ∧ w15.cell? ⟨aG, 2, none⟩ = some (.slice A0_2 l0_2.length c0_2) ∧ w15.cell? ⟨aD, 0, none⟩ = some (.int .i64 a1_0) ∧ w15.cell? ⟨aD, 1, none⟩ = some (.int .i64 a1_1) ∧ w15.cell? ⟨aD, 2, none⟩ = some (.int .i64 a1_2) := hS_
                  refine norm_ (a' := ?_) ?_ ?_
                  rotate_left
                  · simp only [putAll, Act.put, List.setIfInBounds_toArray, List.set_cons_zero, List.set_cons_succ]
                    rfl
                  refine one_ (i := 6) (N := some 13) #[true, true, true, true, true, true, true, false, false, true, false] rfl rfl (one_of HT_.out (by kernel_rfl)) (by decide) (fun K hK => ?_)
                  refine Kd.R_lit_step k37 _ 37 ?hg (N := 13) ?hd (xs := ([(⟨a1_0, a1_1, a1_2⟩ : S37)] : List (S37))) (inner := [.int .i64 a1_0, .int .i64 a1_1, .int .i64 a1_2]) (ok := fun _ => True) (okp := fun _ => True) ?hr ?hp (fun _ hk => hk) trivial (Below.refl _ _) (Nat.le_refl _) (by simp) ?_; (case hd => rfl); (case hg => rfl); (case hr => first | (go_simp; done) | (go_simp; rfl)); (case hp => exact (Reps.c3 (show Kd.M k37 _ _ _ (⟨a1_0, a1_1, a1_2⟩ : S37) [.int .i64 a1_0, .int .i64 a1_1, .int .i64 a1_2] from (k37_mkM _ _ _ (⟨a1_0, a1_1, a1_2⟩ : S37) )) (Reps.none _ _)))
                  intro v332 w16 ho17 hb hg_ hnew_
                  clear hg_ hnew_
                  (first | rw [← bS.out] at ho17 | (simp only [Int.reduceToNat] at ho17; rw [← bS.out] at ho17))
                  have aI := aM (Kd.R_elder' aY.out (Kd.R_base ho17) hb)
                  have aJ := aM (Kd.R_lower (Kd.R_newB (Kd.R_new' ho17 (Kd.R_lt aY.out)) (g := aD) (o := .cells #[.int .i64 a1_0, .int .i64 a1_1, .int .i64 a1_2] 37 (0, 0)) aC.out) (below_size HB.out))
                  have aK := aM (blk_below aA.out hb)
                  have aN := aM (blk_below aC.out hb)
                  have aP := aM (blk_below aH.out hb)
                  have aQ := aM (blk_below aV.out hb)
                  have aX := aM (bp_ HB.out hb)
                  clear aY aA aC aH aV HB
                  have aY := aI
                  have aU := aJ
                  have aA := aK
                  have aC := aN
                  have aH := aP
                  have aV := aQ
                  have HB := aX
                  clear aI aJ aK aN aP aQ aX hb ho17
                  refine hK.out _ _ ⟨(blk_cell aA.out 0).trans rfl, (blk_cell aA.out 1).trans rfl, (blk_cell aA.out 2).trans rfl, (blk_cell aC.out 0).trans rfl, (blk_cell aC.out 1).trans rfl, (blk_cell aC.out 2).trans rfl⟩ (fun aW => ?_)
                  clear hK K
                  refine norm_ (a' := ?_) ?_ ?_
                  rotate_left
                  · show Act.put _ (some 13) _ = _
                    simp only [Act.put, List.setIfInBounds_toArray, List.set_cons_zero, List.set_cons_succ, i64_w, i32_w]
                    rfl
                  exact norm_ (by first | (simp only [putAll, Act.put, List.setIfInBounds_toArray, List.set_cons_zero, List.set_cons_succ]; done) | (simp only [putAll, Act.put, List.setIfInBounds_toArray, List.set_cons_zero, List.set_cons_succ]; rfl)) (hJ4_6_9 (v329, v332, aE) _ ⟨aW, (by (with_reducible repeat (first | apply Kd.R_alloc | apply Kd.R_drewN | apply Kd.R_drew)); exact Kd.R_mono aY.out (fun _ hk => ⟨hk.2, hk.1⟩)), (by (with_reducible repeat (first | apply Kd.R_alloc | apply Kd.R_drewN | apply Kd.R_drew)); exact Kd.R_mono aU.out (fun _ hk => ⟨hk.1.2, hk.2⟩)), aA.out, aC.out, aH.out, aV.out, bQ.out, bM.out, aZ.out, bI.out, bA.out, bN.out, bH.out, bJ.out, HB.out⟩)
              · skip
                rintro ⟨v329, v332⟩ w16 ⟨hS_, h0_, h1_, h2_, h3_, h4_, h5_⟩
                have aI : Aside0 (Kd.R k37 37 w16 w.heap.size (fun k_ => some k_ ≠ (v332 : Value).ownBlock ∧ k_ ≠ aD) v329 t328) := ⟨h0_⟩
                have aJ : Aside0 (Kd.R k37 37 w16 w.heap.size (fun k_ => some k_ ≠ (v329 : Value).ownBlock ∧ k_ ≠ aD) v332 bL) := ⟨h1_⟩
                have aK : Aside0 (w16.heap[aG]? = some (.cells #[.int .i64 a0_0, .int .i64 a0_1, .slice A0_2 l0_2.length c0_2] 33 (0, 0))) := ⟨h2_⟩
                have aN : Aside0 (w16.heap[aD]? = some (.cells #[.int .i64 a1_0, .int .i64 a1_1, .int .i64 a1_2] 37 (0, 0))) := ⟨h3_⟩
                have aP : Aside0 (w16.heap[aT]? = some (.cells #[.int .i64 0, .int .i64 0, .slice none 0 0] 33 (0, 0))) := ⟨h4_⟩
                have aQ : Aside0 (Below w.heap.size w w16) := ⟨h5_⟩
                clear aA aC aH HB h0_ h1_ h2_ h3_ h4_ h5_
                have aY := aI
                have aU := aJ
                have aA := aK
                have aC := aN
                have aH := aP
                have HB := aQ
                clear aI aJ aK aN aP aQ
                have aW : w16.cell? ⟨aG, 0, none⟩ = some (.int .i64 a0_0) ∧ w16.cell? ⟨aG, 1, none⟩ = some (.int .i64 a0_1) ∧ w16.cell? ⟨aG, 2, none⟩ = some (.slice A0_2 l0_2.length c0_2) ∧ w16.cell? ⟨aD, 0, none⟩ = some (.int .i64 a1_0) ∧ w16.cell? ⟨aD, 1, none⟩ = some (.int .i64 a1_1) ∧ w16.cell? ⟨aD, 2, none⟩ = some (.int .i64 a1_2) := hS_
                obtain ⟨cW, cX, dN⟩ := Kd.R_slice aU.out
                (first | subst dN | (injection dN with f1_ f2_ f3_; have f4_ := f1_.symm; have f5_ := f3_.symm; clear f1_ f2_ f3_; subst f4_; subst f5_))
                refine norm_ (a' := ?_) ?_ ?_
                rotate_left
                · simp only [putAll, Act.put, List.setIfInBounds_toArray, List.set_cons_zero, List.set_cons_succ]
                  rfl
                refine two_ (i := 7) (j := 9) (Ni := some 14) (Nj := some 6) #[true, true, true, true, true, true, true, true, false, false, false] #[true, true, true, true, true, true, true, false, false, true, false] rfl rfl rfl rfl (two_of HT_.out (by kernel_rfl)) (by decide) (by decide) (fun K hK => ?_) (fun K hK => ?_)
                · skip
                  refine Kd.R_append_rows_step k37 (w0 := w) w.heap.size (by rfl) (.tmp 11) (.tmp 13) 31 37 (.agg #[(.int .i64 0), (.int .i64 0), (.int .i64 0)]) 24 rfl Try.underlying31 info37 rfl (by decide) (by omega) v329 t328 bL _ _ _ (fun k_ => some k_ ≠ (.slice cW bL.length cX : Value).ownBlock ∧ k_ ≠ aD) (fun _ => False) rfl rfl ?aO ?aR (fun _ _ h => h) (fun _ h => h.elim) ?aF ?aB ?aS ?aL ?_
                  (case aR => repeat (first | exact (Kd.R_reads' aU.out).2.2 | (with_reducible refine Kd.C_alloc ?_ _) | (with_reducible refine Kd.C_drewN ?_ _) | (with_reducible refine Kd.C_drew ?_)))
                  (case aB => exact HB.out)
                  (case aF => exact (fun k_ hk => ⟨Kd.fresh' (Kd.R_lt aU.out) k_ hk, Kd.freshB (g := aD) (o := .cells #[.int .i64 a1_0, .int .i64 a1_1, .int .i64 a1_2] 37 (0, 0)) aC.out k_ hk⟩))
                  (case aO => exact aY.out)
                  (case aS => exact (below_size HB.out))
                  (case aL => have := LMc4.out; omega)
                  intro v335 w17 ho hb hg hat
                  rw [← bZ.out] at ho
                  have aI := aM (blk_grown aA.out hg (Kd.R_ne aY.out aA.out (by decide)))
                  have aJ := aM (blk_grown aC.out hg (Kd.R_away aY.out (fun _ hk => hk.2)))
                  have aK := aM (blk_grown aH.out hg (Kd.R_ne aY.out aH.out (by decide)))
                  have aN := aM (Kd.R_after (ok := (fun k_ => k_ ≠ aD)) (by (with_reducible repeat (first | apply Kd.R_alloc | apply Kd.R_drewN | apply Kd.R_drew)); exact Kd.R_mono aU.out (fun _ hk => ⟨hk.2, hk.1⟩)) hg hat)
                  have aP := aM (hb)
                  have aQ := aM (ho)
                  clear aA aC aH aU HB aY
                  have aA := aI
                  have aC := aJ
                  have aH := aK
                  have aU := aN
                  have HB := aP
                  have bO := aQ
                  clear aI aJ aK aN aP aQ ho hb hg hat
                  obtain ⟨cQ, cR, cI⟩ := Kd.R_slice bO.out
                  (first | subst cI | (injection cI with f1_ f2_ f3_; have f4_ := f1_.symm; have f5_ := f3_.symm; clear f1_ f2_ f3_; subst f4_; subst f5_))
                  refine hK.out _ _ ⟨(blk_cell aA.out 0).trans rfl, (blk_cell aA.out 1).trans rfl, (blk_cell aA.out 2).trans rfl, (blk_cell aC.out 0).trans rfl, (blk_cell aC.out 1).trans rfl, (blk_cell aC.out 2).trans rfl⟩ (fun aW => ?_)
                  clear hK K
                  refine norm_ (a' := ?_) ?_ ?_
                  rotate_left
                  · show Act.put _ (some 14) _ = _
                    simp only [Act.put, List.setIfInBounds_toArray, List.set_cons_zero, List.set_cons_succ, i64_w, i32_w]
                    rfl
                  refine pure_ (i := 8) (N := some 15) (v := ?_) (a' := ?_) #[true, true, true, true, true, true, true, true, true, false, false] rfl rfl (any_of HT_.out (by kernel_rfl)) (fun _ _ _ h => h) (Or.inl ⟨by rfl, ?_⟩) ?_ ?_
                  rotate_left
                  · intro w'
                    go_simp
                    with_reducible rfl
                  rotate_left
                  · simp only [Act.put, List.setIfInBounds_toArray, List.set_cons_zero, List.set_cons_succ, i64_w, i32_w]
                    rfl
                  exact norm_ (by first | (simp only [putAll, Act.put, List.setIfInBounds_toArray, List.set_cons_zero, List.set_cons_succ]; done) | (simp only [putAll, Act.put, List.setIfInBounds_toArray, List.set_cons_zero, List.set_cons_succ]; rfl)) (hJ4_6_7 (v329, .slice cW bL.length cX, .slice cQ bP.length cR) _ ⟨aW, (by (with_reducible repeat (first | apply Kd.R_alloc | apply Kd.R_drewN | apply Kd.R_drew)); exact Kd.R_mono aU.out (fun _ hk => ⟨hk.2, hk.1⟩)), bO.out, aA.out, aC.out, aH.out, HB.out⟩)
                · skip
                  refine box_step ?hg (N := 6) ?hd (cs := #[.int .i64 0, .int .i64 0, .slice none 0 0]) (t := 33) ?hr ?_; (case hd => rfl); (case hg => rfl); (case hr => first | (go_simp; done) | (go_simp; rfl))
                  intro aE hg w17 hbox hb
                  have aI := aM (Kd.R_below aY.out hb)
                  have aJ := aM (Kd.R_below aU.out hb)
                  have aK := aM (blk_below aA.out hb)
                  have aN := aM (blk_below aC.out hb)
                  have aP := aM (blk_below aH.out hb)
                  have aQ := aM (bp_ HB.out hb)
                  have aX := aM (hbox)
                  have bB := aM ((by rw [hg]; exact (below_size HB.out) : w.heap.size ≤ aE))
                  have bC := aM ((by rw [hg]; exact (below_size HB.out) : w.heap.size ≤ aE))
                  have bD := aM ((by rw [hg]; exact Nat.ne_of_lt (blk_lt aA.out) : aG ≠ aE))
                  have bE := aM ((by rw [hg]; exact Nat.ne_of_gt (blk_lt aA.out) : aE ≠ aG))
                  have bF := aM ((by rw [hg]; exact Nat.ne_of_lt (blk_lt aC.out) : aD ≠ aE))
                  have bG := aM ((by rw [hg]; exact Nat.ne_of_gt (blk_lt aC.out) : aE ≠ aD))
                  have bK := aM ((by rw [hg]; exact Nat.ne_of_lt (blk_lt aH.out) : aT ≠ aE))
                  have bR := aM ((by rw [hg]; exact Nat.ne_of_gt (blk_lt aH.out) : aE ≠ aT))
                  clear aY aU aA aC aH HB
                  have aY := aI
                  have aU := aJ
                  have aA := aK
                  have aC := aN
                  have aH := aP
                  have HB := aQ
                  have aV := aX
                  have bQ := bB
                  have bM := bC
                  have aZ := bD
                  have bI := bE
                  have bA := bF
                  have bN := bG
                  have bH := bK
                  have bJ := bR
                  clear aI aJ aK aN aP aQ aX bB bC bD bE bF bG bK bR hb hbox hg
                  refine hK.out _ _ ⟨(blk_cell aA.out 0).trans rfl, (blk_cell aA.out 1).trans rfl, (blk_cell aA.out 2).trans rfl, (blk_cell aC.out 0).trans rfl, (blk_cell aC.out 1).trans rfl, (blk_cell aC.out 2).trans rfl⟩ (fun aW => ?_)
                  clear hK K
                  refine norm_ (a' := ?_) ?_ ?_
                  rotate_left
                  · show Act.put _ (some 6) _ = _
                    simp only [Act.put, List.setIfInBounds_toArray, List.set_cons_zero, List.set_cons_succ, i64_w, i32_w]
                    rfl
                  exact norm_ (by first | (simp only [putAll, Act.put, List.setIfInBounds_toArray, List.set_cons_zero, List.set_cons_succ]; done) | (simp only [putAll, Act.put, List.setIfInBounds_toArray, List.set_cons_zero, List.set_cons_succ]; rfl)) (hJ4_6_9 (v329, .slice cW bL.length cX, aE) _ ⟨aW, aY.out, aU.out, aA.out, aC.out, aH.out, aV.out, bQ.out, bM.out, aZ.out, bI.out, bA.out, bN.out, bH.out, bJ.out, HB.out⟩)
            · skip
              rintro ⟨v329, v332, aE⟩ w17 ⟨hS_, h0_, h1_, h2_, h3_, h4_, h5_, h6_, h7_, h8_, h9_, h10_, h11_, h12_, h13_, h14_⟩
              have aI : Aside0 (Kd.R k37 37 w17 w.heap.size (fun k_ => some k_ ≠ (v332 : Value).ownBlock ∧ k_ ≠ aD) v329 t328) := ⟨h0_⟩
              have aJ : Aside0 (Kd.R k37 37 w17 w.heap.size (fun k_ => some k_ ≠ (v329 : Value).ownBlock ∧ k_ ≠ aD) v332 bL) := ⟨h1_⟩
              have aK : Aside0 (w17.heap[aG]? = some (.cells #[.int .i64 a0_0, .int .i64 a0_1, .slice A0_2 l0_2.length c0_2] 33 (0, 0))) := ⟨h2_⟩
              have aN : Aside0 (w17.heap[aD]? = some (.cells #[.int .i64 a1_0, .int .i64 a1_1, .int .i64 a1_2] 37 (0, 0))) := ⟨h3_⟩
              have aP : Aside0 (w17.heap[aT]? = some (.cells #[.int .i64 0, .int .i64 0, .slice none 0 0] 33 (0, 0))) := ⟨h4_⟩
              have aQ : Aside0 (w17.heap[aE]? = some (.cells #[.int .i64 0, .int .i64 0, .slice none 0 0] 33 (0, 0))) := ⟨h5_⟩
              have aX : Aside0 (w.heap.size ≤ aE) := ⟨h6_⟩
              have bB : Aside0 (w.heap.size ≤ aE) := ⟨h7_⟩
              have bC : Aside0 (aG ≠ aE) := ⟨h8_⟩
              have bD : Aside0 (aE ≠ aG) := ⟨h9_⟩
              have bE : Aside0 (aD ≠ aE) := ⟨h10_⟩
              have bF : Aside0 (aE ≠ aD) := ⟨h11_⟩
              have bG : Aside0 (aT ≠ aE) := ⟨h12_⟩
              have bK : Aside0 (aE ≠ aT) := ⟨h13_⟩
              have bR : Aside0 (Below w.heap.size w w17) := ⟨h14_⟩
              clear aA aC aH HB h0_ h1_ h2_ h3_ h4_ h5_ h6_ h7_ h8_ h9_ h10_ h11_ h12_ h13_ h14_
              have aY := aI
              have aU := aJ
              have aA := aK
              have aC := aN
              have aH := aP
              have aV := aQ
              have bQ := aX
              have bM := bB
              have aZ := bC
              have bI := bD
              have bA := bE
              have bN := bF
              have bH := bG
              have bJ := bK
              have HB := bR
              clear aI aJ aK aN aP aQ aX bB bC bD bE bF bG bK bR
              have aW : w17.cell? ⟨aG, 0, none⟩ = some (.int .i64 a0_0) ∧ w17.cell? ⟨aG, 1, none⟩ = some (.int .i64 a0_1) ∧ w17.cell? ⟨aG, 2, none⟩ = some (.slice A0_2 l0_2.length c0_2) ∧ w17.cell? ⟨aD, 0, none⟩ = some (.int .i64 a1_0) ∧ w17.cell? ⟨aD, 1, none⟩ = some (.int .i64 a1_1) ∧ w17.cell? ⟨aD, 2, none⟩ = some (.int .i64 a1_2) := hS_
              obtain ⟨cQ, cR, cI⟩ := Kd.R_slice aU.out
              (first | subst cI | (injection cI with f1_ f2_ f3_; have f4_ := f1_.symm; have f5_ := f3_.symm; clear f1_ f2_ f3_; subst f4_; subst f5_))
              refine norm_ (a' := ?_) ?_ ?_
              rotate_left
              · simp only [putAll, Act.put, List.setIfInBounds_toArray, List.set_cons_zero, List.set_cons_succ]
                rfl
              refine one_ (i := 7) (N := some 14) #[true, true, true, true, true, true, true, true, false, true, false] rfl rfl (one_of HT_.out (by kernel_rfl)) (by decide) (fun K hK => ?_)
              refine Kd.R_append_rows_step k37 (w0 := w) w.heap.size (by rfl) (.tmp 11) (.tmp 13) 31 37 (.agg #[(.int .i64 0), (.int .i64 0), (.int .i64 0)]) 24 rfl Try.underlying31 info37 rfl (by decide) (by omega) v329 t328 bL _ _ _ (fun k_ => some k_ ≠ (.slice cQ bL.length cR : Value).ownBlock ∧ k_ ≠ aD) (fun _ => False) rfl rfl ?aO ?aR (fun _ _ h => h) (fun _ h => h.elim) ?aF ?aB ?aS ?aL ?_
              (case aR => repeat (first | exact (Kd.R_reads' aU.out).2.2 | (with_reducible refine Kd.C_alloc ?_ _) | (with_reducible refine Kd.C_drewN ?_ _) | (with_reducible refine Kd.C_drew ?_)))
              (case aB => exact HB.out)
              (case aF => exact (fun k_ hk => ⟨Kd.fresh' (Kd.R_lt aU.out) k_ hk, Kd.freshB (g := aD) (o := .cells #[.int .i64 a1_0, .int .i64 a1_1, .int .i64 a1_2] 37 (0, 0)) aC.out k_ hk⟩))
              (case aO => exact aY.out)
              (case aS => exact (below_size HB.out))
              (case aL => have := LMc4.out; omega)
              intro v335 w18 ho hb hg hat
              rw [← bZ.out] at ho
              have aI := aM (blk_grown aA.out hg (Kd.R_ne aY.out aA.out (by decide)))
              have aJ := aM (blk_grown aC.out hg (Kd.R_away aY.out (fun _ hk => hk.2)))
              have aK := aM (blk_grown aH.out hg (Kd.R_ne aY.out aH.out (by decide)))
              have aN := aM (Kd.R_after (ok := (fun k_ => k_ ≠ aD)) (by (with_reducible repeat (first | apply Kd.R_alloc | apply Kd.R_drewN | apply Kd.R_drew)); exact Kd.R_mono aU.out (fun _ hk => ⟨hk.2, hk.1⟩)) hg hat)
              have aP := aM (blk_grown aV.out hg (Kd.R_ne aY.out aV.out (by decide)))
              have aQ := aM (hb)
              have aX := aM (ho)
              clear aA aC aH aU aV HB aY
              have aA := aI
              have aC := aJ
              have aH := aK
              have aU := aN
              have aV := aP
              have HB := aQ
              have bO := aX
              clear aI aJ aK aN aP aQ aX ho hb hg hat
              obtain ⟨cY, cZ, cJ⟩ := Kd.R_slice bO.out
              (first | subst cJ | (injection cJ with f1_ f2_ f3_; have f4_ := f1_.symm; have f5_ := f3_.symm; clear f1_ f2_ f3_; subst f4_; subst f5_))
              refine hK.out _ _ ⟨(blk_cell aA.out 0).trans rfl, (blk_cell aA.out 1).trans rfl, (blk_cell aA.out 2).trans rfl, (blk_cell aC.out 0).trans rfl, (blk_cell aC.out 1).trans rfl, (blk_cell aC.out 2).trans rfl⟩ (fun aW => ?_)
              clear hK K
              refine norm_ (a' := ?_) ?_ ?_
              rotate_left
              · show Act.put _ (some 14) _ = _
                simp only [Act.put, List.setIfInBounds_toArray, List.set_cons_zero, List.set_cons_succ, i64_w, i32_w]
                rfl
              refine pure_ (i := 8) (N := some 15) (v := ?_) (a' := ?_) #[true, true, true, true, true, true, true, true, true, true, false] rfl rfl (any_of HT_.out (by kernel_rfl)) (fun _ _ _ h => h) (Or.inl ⟨by rfl, ?_⟩) ?_ ?_
              rotate_left
              · intro w'
                go_simp
                with_reducible rfl
              rotate_left
              · simp only [Act.put, List.setIfInBounds_toArray, List.set_cons_zero, List.set_cons_succ, i64_w, i32_w]
                rfl
              exact norm_ (by first | (simp only [putAll, Act.put, List.setIfInBounds_toArray, List.set_cons_zero, List.set_cons_succ]; done) | (simp only [putAll, Act.put, List.setIfInBounds_toArray, List.set_cons_zero, List.set_cons_succ]; rfl)) (hJ4_6_7_9 (v329, .slice cQ bL.length cR, .slice cY bP.length cZ, aE) _ ⟨aW, (by (with_reducible repeat (first | apply Kd.R_alloc | apply Kd.R_drewN | apply Kd.R_drew)); exact Kd.R_mono aU.out (fun _ hk => ⟨hk.2, hk.1⟩)), bO.out, aA.out, aC.out, aH.out, aV.out, bQ.out, bM.out, aZ.out, bI.out, bA.out, bN.out, bH.out, bJ.out, HB.out⟩)
          · skip
            rintro ⟨v329, v332, v335⟩ w19 ⟨hS_, h0_, h1_, h2_, h3_, h4_, h5_⟩
            have aI : Aside0 (Kd.R k37 37 w19 w.heap.size (fun k_ => some k_ ≠ (v335 : Value).ownBlock ∧ k_ ≠ aD) v332 bL) := ⟨h0_⟩
            have aJ : Aside0 (Kd.R k37 37 w19 w.heap.size (fun k_ => some k_ ≠ (v332 : Value).ownBlock ∧ k_ ≠ aD) v335 bP) := ⟨h1_⟩
            have aK : Aside0 (w19.heap[aG]? = some (.cells #[.int .i64 a0_0, .int .i64 a0_1, .slice A0_2 l0_2.length c0_2] 33 (0, 0))) := ⟨h2_⟩
            have aN : Aside0 (w19.heap[aD]? = some (.cells #[.int .i64 a1_0, .int .i64 a1_1, .int .i64 a1_2] 37 (0, 0))) := ⟨h3_⟩
            have aP : Aside0 (w19.heap[aT]? = some (.cells #[.int .i64 0, .int .i64 0, .slice none 0 0] 33 (0, 0))) := ⟨h4_⟩
            have aQ : Aside0 (Below w.heap.size w w19) := ⟨h5_⟩
            clear aA aC aH HB h0_ h1_ h2_ h3_ h4_ h5_
            have aU := aI
            have bO := aJ
            have aA := aK
            have aC := aN
            have aH := aP
            have HB := aQ
            clear aI aJ aK aN aP aQ
            have aW : w19.cell? ⟨aG, 0, none⟩ = some (.int .i64 a0_0) ∧ w19.cell? ⟨aG, 1, none⟩ = some (.int .i64 a0_1) ∧ w19.cell? ⟨aG, 2, none⟩ = some (.slice A0_2 l0_2.length c0_2) ∧ w19.cell? ⟨aD, 0, none⟩ = some (.int .i64 a1_0) ∧ w19.cell? ⟨aD, 1, none⟩ = some (.int .i64 a1_1) ∧ w19.cell? ⟨aD, 2, none⟩ = some (.int .i64 a1_2) := hS_
            obtain ⟨cY, cZ, cJ⟩ := Kd.R_slice bO.out
            (first | subst cJ | (injection cJ with f1_ f2_ f3_; have f4_ := f1_.symm; have f5_ := f3_.symm; clear f1_ f2_ f3_; subst f4_; subst f5_))
            refine norm_ (a' := ?_) ?_ ?_
            rotate_left
            · simp only [putAll, Act.put, List.setIfInBounds_toArray, List.set_cons_zero, List.set_cons_succ]
              rfl
            refine one_ (i := 9) (N := some 6) #[true, true, true, true, true, true, true, true, true, true, false] rfl rfl (one_of HT_.out (by kernel_rfl)) (by decide) (fun K hK => ?_)
            refine box_step ?hg (N := 6) ?hd (cs := #[.int .i64 0, .int .i64 0, .slice none 0 0]) (t := 33) ?hr ?_; (case hd => rfl); (case hg => rfl); (case hr => first | (go_simp; done) | (go_simp; rfl))
            intro aE hg w21 hbox hb
            have aI := aM (Kd.R_below aU.out hb)
            have aJ := aM (Kd.R_below bO.out hb)
            have aK := aM (blk_below aA.out hb)
            have aN := aM (blk_below aC.out hb)
            have aP := aM (blk_below aH.out hb)
            have aQ := aM (bp_ HB.out hb)
            have aX := aM (hbox)
            have bB := aM ((by rw [hg]; exact (below_size HB.out) : w.heap.size ≤ aE))
            have bC := aM ((by rw [hg]; exact (below_size HB.out) : w.heap.size ≤ aE))
            have bD := aM ((by rw [hg]; exact Nat.ne_of_lt (blk_lt aA.out) : aG ≠ aE))
            have bE := aM ((by rw [hg]; exact Nat.ne_of_gt (blk_lt aA.out) : aE ≠ aG))
            have bF := aM ((by rw [hg]; exact Nat.ne_of_lt (blk_lt aC.out) : aD ≠ aE))
            have bG := aM ((by rw [hg]; exact Nat.ne_of_gt (blk_lt aC.out) : aE ≠ aD))
            have bK := aM ((by rw [hg]; exact Nat.ne_of_lt (blk_lt aH.out) : aT ≠ aE))
            have bR := aM ((by rw [hg]; exact Nat.ne_of_gt (blk_lt aH.out) : aE ≠ aT))
            clear aU bO aA aC aH HB
            have aU := aI
            have bO := aJ
            have aA := aK
            have aC := aN
            have aH := aP
            have HB := aQ
            have aV := aX
            have bQ := bB
            have bM := bC
            have aZ := bD
            have bI := bE
            have bA := bF
            have bN := bG
            have bH := bK
            have bJ := bR
            clear aI aJ aK aN aP aQ aX bB bC bD bE bF bG bK bR hb hbox hg
            refine hK.out _ _ ⟨(blk_cell aA.out 0).trans rfl, (blk_cell aA.out 1).trans rfl, (blk_cell aA.out 2).trans rfl, (blk_cell aC.out 0).trans rfl, (blk_cell aC.out 1).trans rfl, (blk_cell aC.out 2).trans rfl⟩ (fun aW => ?_)
            clear hK K
            refine norm_ (a' := ?_) ?_ ?_
            rotate_left
            · show Act.put _ (some 6) _ = _
              simp only [Act.put, List.setIfInBounds_toArray, List.set_cons_zero, List.set_cons_succ, i64_w, i32_w]
              rfl
            exact norm_ (by first | (simp only [putAll, Act.put, List.setIfInBounds_toArray, List.set_cons_zero, List.set_cons_succ]; done) | (simp only [putAll, Act.put, List.setIfInBounds_toArray, List.set_cons_zero, List.set_cons_succ]; rfl)) (hJ4_6_7_9 (v329, v332, .slice cY bP.length cZ, aE) _ ⟨aW, aU.out, bO.out, aA.out, aC.out, aH.out, aV.out, bQ.out, bM.out, aZ.out, bI.out, bA.out, bN.out, bH.out, bJ.out, HB.out⟩)
        rintro ⟨v329, v332, v335, aE⟩ w20 ⟨hS_, h0_, h1_, h2_, h3_, h4_, h5_, h6_, h7_, h8_, h9_, h10_, h11_, h12_, h13_, h14_⟩
        have aI : Aside0 (Kd.R k37 37 w20 w.heap.size (fun k_ => some k_ ≠ (v335 : Value).ownBlock ∧ k_ ≠ aD) v332 bL) := ⟨h0_⟩
        have aJ : Aside0 (Kd.R k37 37 w20 w.heap.size (fun k_ => some k_ ≠ (v332 : Value).ownBlock ∧ k_ ≠ aD) v335 bP) := ⟨h1_⟩
        have aK : Aside0 (w20.heap[aG]? = some (.cells #[.int .i64 a0_0, .int .i64 a0_1, .slice A0_2 l0_2.length c0_2] 33 (0, 0))) := ⟨h2_⟩
        have aN : Aside0 (w20.heap[aD]? = some (.cells #[.int .i64 a1_0, .int .i64 a1_1, .int .i64 a1_2] 37 (0, 0))) := ⟨h3_⟩
        have aP : Aside0 (w20.heap[aT]? = some (.cells #[.int .i64 0, .int .i64 0, .slice none 0 0] 33 (0, 0))) := ⟨h4_⟩
        have aQ : Aside0 (w20.heap[aE]? = some (.cells #[.int .i64 0, .int .i64 0, .slice none 0 0] 33 (0, 0))) := ⟨h5_⟩
        have aX : Aside0 (w.heap.size ≤ aE) := ⟨h6_⟩
        have bB : Aside0 (w.heap.size ≤ aE) := ⟨h7_⟩
        have bC : Aside0 (aG ≠ aE) := ⟨h8_⟩
        have bD : Aside0 (aE ≠ aG) := ⟨h9_⟩
        have bE : Aside0 (aD ≠ aE) := ⟨h10_⟩
        have bF : Aside0 (aE ≠ aD) := ⟨h11_⟩
        have bG : Aside0 (aT ≠ aE) := ⟨h12_⟩
        have bK : Aside0 (aE ≠ aT) := ⟨h13_⟩
        have bR : Aside0 (Below w.heap.size w w20) := ⟨h14_⟩
        clear aA aC aH HB h0_ h1_ h2_ h3_ h4_ h5_ h6_ h7_ h8_ h9_ h10_ h11_ h12_ h13_ h14_
        have aU := aI
        have bO := aJ
        have aA := aK
        have aC := aN
        have aH := aP
        have aV := aQ
        have bQ := aX
        have bM := bB
        have aZ := bC
        have bI := bD
        have bA := bE
        have bN := bF
        have bH := bG
        have bJ := bK
        have HB := bR
        clear aI aJ aK aN aP aQ aX bB bC bD bE bF bG bK bR
        have aW : w20.cell? ⟨aG, 0, none⟩ = some (.int .i64 a0_0) ∧ w20.cell? ⟨aG, 1, none⟩ = some (.int .i64 a0_1) ∧ w20.cell? ⟨aG, 2, none⟩ = some (.slice A0_2 l0_2.length c0_2) ∧ w20.cell? ⟨aD, 0, none⟩ = some (.int .i64 a1_0) ∧ w20.cell? ⟨aD, 1, none⟩ = some (.int .i64 a1_1) ∧ w20.cell? ⟨aD, 2, none⟩ = some (.int .i64 a1_2) := hS_
        obtain ⟨bX, bY, dO⟩ := Kd.R_slice bO.out
        (first | subst dO | (injection dO with f1_ f2_ f3_; have f4_ := f1_.symm; have f5_ := f3_.symm; clear f1_ f2_ f3_; subst f4_; subst f5_))
        refine norm_ (a' := ?_) ?_ ?_
        rotate_left
        · simp only [putAll, Act.put, List.setIfInBounds_toArray, List.set_cons_zero, List.set_cons_succ]
          rfl
        refine one_ (i := 10) (N := none) #[true, true, true, true, true, true, true, true, true, true, true] rfl rfl (one_of HT_.out (by kernel_rfl)) (by decide) (fun K hK => ?_)
        have dT : w20.cell? ⟨aE, 0, none⟩ = some (.int .i64 0) := (blk_cell aV.out 0).trans rfl
        have dU := blk_frozen aV.out 0
        have dV := aZ.out
        have dW := bA.out
        have dX := bH.out
        have dY := bI.out
        have dZ := bN.out
        have eA := bJ.out
        have eB : w20.cell? ⟨aE, 1, none⟩ = some (.int .i64 0) := (blk_cell aV.out 1).trans rfl
        have eC := blk_frozen aV.out 1
        have eD := aZ.out
        have eE := bA.out
        have eF := bH.out
        have eG := bI.out
        have eH := bN.out
        have eI := bJ.out
        have eJ : w20.cell? ⟨aE, 2, none⟩ = some (.slice none 0 0) := (blk_cell aV.out 2).trans rfl
        have eK := blk_frozen aV.out 2
        have eL := aZ.out
        have eM := bA.out
        have eN := bH.out
        have eO := bI.out
        have eP := bN.out
        have eQ := bJ.out
        refine skip_ (w1 := ?_) (by rfl) rfl ?_ ?_
        rotate_left
        · go_simp
          rfl
        refine hK.out _ _ ⟨((cell_far (p := ⟨aE, _, none⟩) aZ.out _).trans (((cell_far (p := ⟨aE, _, none⟩) aZ.out _).trans (((cell_far (p := ⟨aE, _, none⟩) aZ.out _).trans (aW.1)))))), ((cell_far (p := ⟨aE, _, none⟩) aZ.out _).trans (((cell_far (p := ⟨aE, _, none⟩) aZ.out _).trans (((cell_far (p := ⟨aE, _, none⟩) aZ.out _).trans (aW.2.1)))))), ((cell_far (p := ⟨aE, _, none⟩) aZ.out _).trans (((cell_far (p := ⟨aE, _, none⟩) aZ.out _).trans (((cell_far (p := ⟨aE, _, none⟩) aZ.out _).trans (aW.2.2.1)))))), ((cell_far (p := ⟨aE, _, none⟩) bA.out _).trans (((cell_far (p := ⟨aE, _, none⟩) bA.out _).trans (((cell_far (p := ⟨aE, _, none⟩) bA.out _).trans (aW.2.2.2.1)))))), ((cell_far (p := ⟨aE, _, none⟩) bA.out _).trans (((cell_far (p := ⟨aE, _, none⟩) bA.out _).trans (((cell_far (p := ⟨aE, _, none⟩) bA.out _).trans (aW.2.2.2.2.1)))))), ((cell_far (p := ⟨aE, _, none⟩) bA.out _).trans (((cell_far (p := ⟨aE, _, none⟩) bA.out _).trans (((cell_far (p := ⟨aE, _, none⟩) bA.out _).trans (aW.2.2.2.2.2))))))⟩ (fun aW => ?_)
        clear hK K
        refine done_ (done_of HT_.out (by kernel_rfl)) ?_
        have eR := cC.out
        have eS := cD.out
        have eT := cE.out
        have eU := cF.out
        have eV := aZ.out
        have eW := bI.out
        have eX : w20.cell? ⟨aG, 0, none⟩ = some (.int .i64 a0_0) := (blk_cell aA.out 0).trans rfl
        have eY : w20.cell? ⟨aG, 1, none⟩ = some (.int .i64 a0_1) := (blk_cell aA.out 1).trans rfl
        have eZ : w20.cell? ⟨aG, 2, none⟩ = some (.slice A0_2 l0_2.length c0_2) := (blk_cell aA.out 2).trans rfl
        have fA := blk_frozen aA.out 0
        have fB := blk_frozen aA.out 1
        have fC := blk_frozen aA.out 2
        try go_wp2_with (first | ((with_reducible refine gate_callee (f := 24) rfl ?_); refine goesL_ (some 17) rfl rfl Try.func24 (by kernel_rfl) rfl #[.agg #[.int .i64 a0_0, .int .i64 a0_1, .slice A0_2 l0_2.length c0_2]] rfl (by (try simp only [List.map_toArray, List.map_cons, List.map_nil]); first | done | rfl | (simp only [List.length_drop, List.length_take]; rfl)) ?_; (with_reducible refine (impl_IsPuzzle.calls a0_0 a0_1 _ _ l0_2 true _ ?side1 ?side2 A5.out).mono ?_); (case side1 => exact Kd.C_below HR0_2.out (by repeat (first | (with_reducible first | exact HB.out | apply ba_ | apply bn_ | apply bd_ | refine bs_ ?_ bU.out | refine bs_ ?_ bV.out | refine bs_ ?_ bW.out | refine bs_ ?_ bM.out) | exact HB.out))); (case side2 => exact bT.out); rintro e w29 ⟨rfl, hb⟩; refine ⟨_, rfl, ?_⟩; have aI := aM (Kd.R_below (by (with_reducible repeat (first | apply Kd.R_alloc | apply Kd.R_drewN | apply Kd.R_drew)); exact (Kd.R_mono (Kd.R_far (p := ⟨aE, 2, none⟩) (Kd.R_far (p := ⟨aE, 1, none⟩) (Kd.R_far (p := ⟨aE, 0, none⟩) (Kd.R_types aU.out aV.out (by decide)) (fun _ hk => hk.2) (.int .i64 a0_0)) (fun _ hk => hk.2) (.int .i64 a0_1)) (fun _ hk => hk.2) (.slice bX bP.length bY)) (fun _ h_ => h_.1))) hb); have aJ := aM (Kd.R_below (by (with_reducible repeat (first | apply Kd.R_alloc | apply Kd.R_drewN | apply Kd.R_drew)); exact (Kd.R_mono (Kd.R_far (p := ⟨aE, 2, none⟩) (Kd.R_far (p := ⟨aE, 1, none⟩) (Kd.R_far (p := ⟨aE, 0, none⟩) (Kd.R_types bO.out aV.out (by decide)) (fun _ hk => hk.2) (.int .i64 a0_0)) (fun _ hk => hk.2) (.int .i64 a0_1)) (fun _ hk => hk.2) (.slice bX bP.length bY)) (fun _ h_ => h_.1))) hb); have aK := aM (blk_below (g := aG) (o := .cells #[.int .i64 a0_0, .int .i64 a0_1, .slice A0_2 l0_2.length c0_2] 33 (0, 0)) (by (with_reducible repeat (first | refine kn_ ?_ _ | refine blk_drew ?_ | refine ka_ ?_ _)); refine blk_far ?_ aZ.out _; (with_reducible repeat (first | refine kn_ ?_ _ | refine blk_drew ?_ | refine ka_ ?_ _)); refine blk_far ?_ aZ.out _; (with_reducible repeat (first | refine kn_ ?_ _ | refine blk_drew ?_ | refine ka_ ?_ _)); refine blk_far ?_ aZ.out _; (with_reducible repeat (first | refine kn_ ?_ _ | refine blk_drew ?_ | refine ka_ ?_ _)); exact aA.out) hb); have aN := aM (blk_below (g := aD) (o := .cells #[.int .i64 a1_0, .int .i64 a1_1, .int .i64 a1_2] 37 (0, 0)) (by (with_reducible repeat (first | refine kn_ ?_ _ | refine blk_drew ?_ | refine ka_ ?_ _)); refine blk_far ?_ bA.out _; (with_reducible repeat (first | refine kn_ ?_ _ | refine blk_drew ?_ | refine ka_ ?_ _)); refine blk_far ?_ bA.out _; (with_reducible repeat (first | refine kn_ ?_ _ | refine blk_drew ?_ | refine ka_ ?_ _)); refine blk_far ?_ bA.out _; (with_reducible repeat (first | refine kn_ ?_ _ | refine blk_drew ?_ | refine ka_ ?_ _)); exact aC.out) hb); have aP := aM (blk_below (g := aT) (o := .cells #[.int .i64 0, .int .i64 0, .slice none 0 0] 33 (0, 0)) (by (with_reducible repeat (first | refine kn_ ?_ _ | refine blk_drew ?_ | refine ka_ ?_ _)); refine blk_far ?_ bH.out _; (with_reducible repeat (first | refine kn_ ?_ _ | refine blk_drew ?_ | refine ka_ ?_ _)); refine blk_far ?_ bH.out _; (with_reducible repeat (first | refine kn_ ?_ _ | refine blk_drew ?_ | refine ka_ ?_ _)); refine blk_far ?_ bH.out _; (with_reducible repeat (first | refine kn_ ?_ _ | refine blk_drew ?_ | refine ka_ ?_ _)); exact aH.out) hb); have aQ := aM (blk_below (g := aE) (o := .cells #[.int .i64 a0_0, .int .i64 a0_1, .slice bX bP.length bY] 33 (0, 0)) (by (with_reducible repeat (first | refine kn_ ?_ _ | refine blk_drew ?_ | refine ka_ ?_ _)); refine blk_put (cs := #[.int .i64 a0_0, .int .i64 a0_1, .slice none 0 0]) ?_ 2 _ rfl; (with_reducible repeat (first | refine kn_ ?_ _ | refine blk_drew ?_ | refine ka_ ?_ _)); refine blk_put (cs := #[.int .i64 a0_0, .int .i64 0, .slice none 0 0]) ?_ 1 _ rfl; (with_reducible repeat (first | refine kn_ ?_ _ | refine blk_drew ?_ | refine ka_ ?_ _)); refine blk_put (cs := #[.int .i64 0, .int .i64 0, .slice none 0 0]) ?_ 0 _ rfl; (with_reducible repeat (first | refine kn_ ?_ _ | refine blk_drew ?_ | refine ka_ ?_ _)); exact aV.out) hb); have aX := aM (bp_ (by repeat (first | (with_reducible first | exact HB.out | apply ba_ | apply bn_ | apply bd_ | refine bs_ ?_ bU.out | refine bs_ ?_ bV.out | refine bs_ ?_ bW.out | refine bs_ ?_ bM.out) | exact HB.out)) hb); clear aU; clear bO; clear aA; clear aC; clear aH; clear aV; clear HB; have aU := aI; have bO := aJ; have aA := aK; have aC := aN; have aH := aP; have aV := aQ; have HB := aX; clear aI aJ aK aN aP aQ aX; (try clear hb); (try clear hb2); (try clear hk); (try clear hi); have fD := bN.out; have fE := bA.out; have fF := bJ.out; have fG := bH.out; have fH : w29.cell? ⟨aE, 0, none⟩ = some (.int .i64 a0_0) := (blk_cell aV.out 0).trans rfl; have fI : w29.cell? ⟨aE, 1, none⟩ = some (.int .i64 a0_1) := (blk_cell aV.out 1).trans rfl; have fJ : w29.cell? ⟨aE, 2, none⟩ = some (.slice bX bP.length bY) := (blk_cell aV.out 2).trans rfl; have fK := blk_frozen aV.out 0; have fL := blk_frozen aV.out 1; have fM := blk_frozen aV.out 2) | (go_at_call 24; (with_reducible refine (impl_IsPuzzle.calls a0_0 a0_1 _ _ bP true _ ?side1 ?side2 A7.out).mono ?_); (case side1 => repeat (first | exact (Kd.R_reads' bO.out).2.2 | (with_reducible refine Kd.C_alloc ?_ _) | (with_reducible refine Kd.C_drewN ?_ _) | (with_reducible refine Kd.C_drew ?_))); (case side2 => exact (Kd.R_reads' bO.out).2.1); rintro e w33 ⟨rfl, hb⟩; have aI := aM (Kd.R_below (by (with_reducible repeat (first | apply Kd.R_alloc | apply Kd.R_drewN | apply Kd.R_drew)); exact aU.out) hb); have aJ := aM (Kd.R_below (by (with_reducible repeat (first | apply Kd.R_alloc | apply Kd.R_drewN | apply Kd.R_drew)); exact bO.out) hb); have aK := aM (blk_below (g := aG) (o := .cells #[.int .i64 a0_0, .int .i64 a0_1, .slice A0_2 l0_2.length c0_2] 33 (0, 0)) (by (with_reducible repeat (first | refine kn_ ?_ _ | refine blk_drew ?_ | refine ka_ ?_ _)); exact aA.out) hb); have aN := aM (blk_below (g := aD) (o := .cells #[.int .i64 a1_0, .int .i64 a1_1, .int .i64 a1_2] 37 (0, 0)) (by (with_reducible repeat (first | refine kn_ ?_ _ | refine blk_drew ?_ | refine ka_ ?_ _)); exact aC.out) hb); have aP := aM (blk_below (g := aT) (o := .cells #[.int .i64 0, .int .i64 0, .slice none 0 0] 33 (0, 0)) (by (with_reducible repeat (first | refine kn_ ?_ _ | refine blk_drew ?_ | refine ka_ ?_ _)); exact aH.out) hb); have aQ := aM (blk_below (g := aE) (o := .cells #[.int .i64 a0_0, .int .i64 a0_1, .slice bX bP.length bY] 33 (0, 0)) (by (with_reducible repeat (first | refine kn_ ?_ _ | refine blk_drew ?_ | refine ka_ ?_ _)); exact aV.out) hb); have aX := aM (bp_ (by repeat (first | (with_reducible first | exact HB.out | apply ba_ | apply bn_ | apply bd_ | refine bs_ ?_ bU.out | refine bs_ ?_ bV.out | refine bs_ ?_ bW.out | refine bs_ ?_ bM.out) | exact HB.out)) hb); clear aU; clear bO; clear aA; clear aC; clear aH; clear aV; clear HB; have aU := aI; have bO := aJ; have aA := aK; have aC := aN; have aH := aP; have aV := aQ; have HB := aX; clear aI aJ aK aN aP aQ aX; (try clear hb); (try clear hb2); (try clear hk); (try clear hi); have fN : w33.cell? ⟨aE, 0, none⟩ = some (.int .i64 a0_0) := (blk_cell aV.out 0).trans rfl; have fO : w33.cell? ⟨aE, 1, none⟩ = some (.int .i64 a0_1) := (blk_cell aV.out 1).trans rfl; have fP : w33.cell? ⟨aE, 2, none⟩ = some (.slice bX bP.length bY) := (blk_cell aV.out 2).trans rfl; have fQ := blk_frozen aV.out 0; have fR := blk_frozen aV.out 1; have fS := blk_frozen aV.out 2; have fT := cH.out; have fU := cG.out; have fV : w33.cell? ⟨aT, 0, none⟩ = some (.int .i64 0) := (blk_cell aH.out 0).trans rfl; have fW : w33.cell? ⟨aT, 1, none⟩ = some (.int .i64 0) := (blk_cell aH.out 1).trans rfl; have fX : w33.cell? ⟨aT, 2, none⟩ = some (.slice none 0 0) := (blk_cell aH.out 2).trans rfl; have fY := blk_frozen aH.out 0; have fZ := blk_frozen aH.out 1; have gA := blk_frozen aH.out 2))
        refine bodyPost_ret (results_ct rfl _ _ aT 33 #[.int .i64 a0_0, .int .i64 a0_1, .slice bX bP.length bY] (0, 0) _ rfl (by (with_reducible repeat (first | refine kn_ ?_ _ | refine blk_drew ?_ | refine ka_ ?_ _)); refine blk_put (cs := #[.int .i64 a0_0, .int .i64 a0_1, .slice none 0 0]) ?_ 2 _ rfl; (with_reducible repeat (first | refine kn_ ?_ _ | refine blk_drew ?_ | refine ka_ ?_ _)); refine blk_put (cs := #[.int .i64 a0_0, .int .i64 0, .slice none 0 0]) ?_ 1 _ rfl; (with_reducible repeat (first | refine kn_ ?_ _ | refine blk_drew ?_ | refine ka_ ?_ _)); refine blk_put (cs := #[.int .i64 0, .int .i64 0, .slice none 0 0]) ?_ 0 _ rfl; (with_reducible repeat (first | refine kn_ ?_ _ | refine blk_drew ?_ | refine ka_ ?_ _)); exact aH.out) Try.underlying33 rfl (by kernel_rfl)) rfl ?_
        exact ⟨_, by first | rfl | (simp [errW_none, errW_some] <;> rfl) | (simp [*, errW_none, errW_some] <;> rfl), by (with_reducible repeat (first | apply Kd.R_alloc | apply Kd.R_drewN | apply Kd.R_drew)); exact Kd.R_mono (Kd.R_far (p := ⟨aT, 2, none⟩) (Kd.R_far (p := ⟨aT, 1, none⟩) (Kd.R_far (p := ⟨aT, 0, none⟩) (Kd.R_types bO.out aH.out (by decide)) (fun _ hk => hk.2) (.int .i64 a0_0)) (fun _ hk => hk.2) (.int .i64 a0_1)) (fun _ hk => hk.2) (.slice bX bP.length bY)) (fun _ hk => trivial), by repeat (first | (with_reducible first | exact HB.out | apply ba_ | apply bn_ | apply bd_ | refine bs_ ?_ bU.out | refine bs_ ?_ bV.out | refine bs_ ?_ bW.out | refine bs_ ?_ bM.out) | exact HB.out)⟩
      · replace c8 := Bool.eq_false_iff.mpr c8
        subst c8
        have H1 : (some (0, 0, ([] : List (S37)), false)) = some (r1, r2, r3, r4) := by rw [if_neg (show ¬ (false = true) by decide)] at H; exact H
        clear H
        have H := H1
        clear H1
        simp only [Option.some.injEq, Prod.mk.injEq] at H
        obtain ⟨rfl, rfl, rfl, rfl⟩ := H
        go_enter Try.func10, Try.ntmps10
        try go_wp2_with (first | ((with_reducible refine gate_dst (N := 2) rfl ?_); refine box_event ?hg (N := 2) ?hd (cs := #[.int .i64 a0_0, .int .i64 a0_1, .slice A0_2 l0_2.length c0_2]) (t := 33) ?hr ?_; (case hd => rfl); (case hg => rfl); (case hr => first | (go_simp; done) | (go_simp; rfl)); intro aG hg w37 hbox hb; have aI := aM (bp_ HB.out hb); have aJ := aM (hbox); have aK := aM ((by rw [hg]; exact (below_size HB.out) : w.heap.size ≤ aG)); have aN := aM ((by rw [hg]; exact (below_size HB.out) : w.heap.size ≤ aG)); clear HB; have HB := aI; have aA := aJ; have dK := aK; have bU := aN; clear aI aJ aK aN; clear hb hbox hg) | ((with_reducible refine gate_dst (N := 3) rfl ?_); refine box_event ?hg (N := 3) ?hd (cs := #[.int .i64 a1_0, .int .i64 a1_1, .int .i64 a1_2]) (t := 37) ?hr ?_; (case hd => rfl); (case hg => rfl); (case hr => first | (go_simp; done) | (go_simp; rfl)); intro aD hg w38 hbox hb; have aI := aM (blk_below aA.out hb); have aJ := aM (bp_ HB.out hb); have aK := aM (hbox); have aN := aM ((by rw [hg]; exact (below_size HB.out) : w.heap.size ≤ aD)); have aP := aM ((by rw [hg]; exact (below_size HB.out) : w.heap.size ≤ aD)); have aQ := aM ((by rw [hg]; exact Nat.ne_of_lt (blk_lt aA.out) : aG ≠ aD)); have aX := aM ((by rw [hg]; exact Nat.ne_of_gt (blk_lt aA.out) : aD ≠ aG)); clear aA; clear HB; have aA := aI; have HB := aJ; have aC := aK; have dL := aN; have bV := aP; have cC := aQ; have cD := aX; clear aI aJ aK aN aP aQ aX; clear hb hbox hg) | ((with_reducible refine gate_dst (N := 4) rfl ?_); refine box_event ?hg (N := 4) ?hd (cs := #[.int .i64 0, .int .i64 0, .slice none 0 0]) (t := 33) ?hr ?_; (case hd => rfl); (case hg => rfl); (case hr => first | (go_simp; done) | (go_simp; rfl)); intro aT hg w39 hbox hb; have aI := aM (blk_below aA.out hb); have aJ := aM (blk_below aC.out hb); have aK := aM (bp_ HB.out hb); have aN := aM (hbox); have aP := aM ((by rw [hg]; exact (below_size HB.out) : w.heap.size ≤ aT)); have aQ := aM ((by rw [hg]; exact (below_size HB.out) : w.heap.size ≤ aT)); have aX := aM ((by rw [hg]; exact Nat.ne_of_lt (blk_lt aA.out) : aG ≠ aT)); have bB := aM ((by rw [hg]; exact Nat.ne_of_gt (blk_lt aA.out) : aT ≠ aG)); have bC := aM ((by rw [hg]; exact Nat.ne_of_lt (blk_lt aC.out) : aD ≠ aT)); have bD := aM ((by rw [hg]; exact Nat.ne_of_gt (blk_lt aC.out) : aT ≠ aD)); clear aA; clear aC; clear HB; have aA := aI; have aC := aJ; have HB := aK; have aH := aN; have dM := aP; have bW := aQ; have cE := aX; have cF := bB; have cG := bC; have cH := bD; clear aI aJ aK aN aP aQ aX bB bC bD; clear hb hbox hg))
        have aI := aM (blk_drew aA.out)
        have aJ := aM (blk_drew aC.out)
        have aK := aM (blk_drew aH.out)
        have aN := aM (bd_ HB.out)
        clear aA aC aH HB
        have aA := aI
        have aC := aJ
        have aH := aK
        have HB := aN
        clear aI aJ aK aN
        refine start_ (n := 11) (S := fun w' => w'.cell? ⟨aG, 0, none⟩ = some (.int .i64 a0_0) ∧ w'.cell? ⟨aG, 1, none⟩ = some (.int .i64 a0_1) ∧ w'.cell? ⟨aG, 2, none⟩ = some (.slice A0_2 l0_2.length c0_2) ∧ w'.cell? ⟨aD, 0, none⟩ = some (.int .i64 a1_0) ∧ w'.cell? ⟨aD, 1, none⟩ = some (.int .i64 a1_1) ∧ w'.cell? ⟨aD, 2, none⟩ = some (.int .i64 a1_2)) (ds := []) #[false, false, false, false, false, false, false, false, false, false, false] (by kernel_rfl) rfl rfl ⟨(blk_cell aA.out 0).trans rfl, (blk_cell aA.out 1).trans rfl, (blk_cell aA.out 2).trans rfl, (blk_cell aC.out 0).trans rfl, (blk_cell aC.out 1).trans rfl, (blk_cell aC.out 2).trans rfl⟩ (fun aW => ?_); refine with_tabW impl_AddClue.tab1 impl_AddClue.bits1 (fun HT_ HW_ => ?_)
        generalize w39.drew = w40 at aA aC aH HB aW ⊢
        refine pure_ (i := 0) (N := some 7) (v := ?_) (a' := ?_) #[true, false, false, false, false, false, false, false, false, false, false] rfl rfl (any_of HT_.out (by kernel_rfl)) (fun _ _ _ h => h) (Or.inl ⟨by rfl, ?_⟩) ?_ ?_
        rotate_left
        · intro w'
          go_simp
          with_reducible rfl
        rotate_left
        · simp only [Act.put, List.setIfInBounds_toArray, List.set_cons_zero, List.set_cons_succ, i64_w, i32_w]
          rfl
        refine pure_ (i := 2) (N := some 9) (v := ?_) (a' := ?_) #[true, false, true, false, false, false, false, false, false, false, false] rfl rfl (any_of HT_.out (by kernel_rfl)) (fun _ _ _ h => h) (Or.inl ⟨by rfl, ?_⟩) ?_ ?_
        rotate_left
        · intro w'
          go_simp
          with_reducible rfl
        rotate_left
        · simp only [Act.put, List.setIfInBounds_toArray, List.set_cons_zero, List.set_cons_succ, i64_w, i32_w]
          rfl
        refine take_ (i := 1) (N := some 8) (v := ?_) (a' := ?_) #[true, true, true, false, false, false, false, false, false, false, false] rfl rfl (take_ofW HT_.out HW_.out (by kernel_rfl)) (fun _ _ _ h => h) (Or.inl ⟨by rfl, ?_⟩) aW ?_ ?_
        rotate_left
        · rintro w' ⟨s0, s1, s2, s3, s4, s5⟩
          go_simp
          with_reducible rfl
        rotate_left
        · simp only [Act.put, List.setIfInBounds_toArray, List.set_cons_zero, List.set_cons_succ, i64_w, i32_w]
          rfl
        refine take_ (i := 3) (N := some 10) (v := ?_) (a' := ?_) #[true, true, true, true, false, false, false, false, false, false, false] rfl rfl (take_ofW HT_.out HW_.out (by kernel_rfl)) (fun _ _ _ h => h) (Or.inl ⟨by rfl, ?_⟩) aW ?_ ?_
        rotate_left
        · rintro w' ⟨s0, s1, s2, s3, s4, s5⟩
          go_simp
          with_reducible rfl
        rotate_left
        · simp only [Act.put, List.setIfInBounds_toArray, List.set_cons_zero, List.set_cons_succ, i64_w, i32_w]
          rfl
        refine take_ (i := 5) (N := some 12) (v := ?_) (a' := ?_) #[true, true, true, true, false, true, false, false, false, false, false] rfl rfl (take_ofW HT_.out HW_.out (by kernel_rfl)) (fun _ _ _ h => h) (Or.inl ⟨by rfl, ?_⟩) aW ?_ ?_
        rotate_left
        · rintro w' ⟨s0, s1, s2, s3, s4, s5⟩
          go_simp
          with_reducible rfl
        rotate_left
        · simp only [Act.put, List.setIfInBounds_toArray, List.set_cons_zero, List.set_cons_succ, i64_w, i32_w]
          rfl
        refine join_ (σ := Value × Value × Value × Nat) 1 #[true, true, true, true, true, true, true, true, true, true, false] (fun s_ => [(11, s_.1), (13, s_.2.1), (14, s_.2.2.1), (6, .pointer (some ⟨s_.2.2.2, 0, none⟩)), (15, .agg #[.int .i64 a0_0, .int .i64 a0_1, s_.2.2.1])]) (fun s_ w' => (w'.cell? ⟨aG, 0, none⟩ = some (.int .i64 a0_0) ∧ w'.cell? ⟨aG, 1, none⟩ = some (.int .i64 a0_1) ∧ w'.cell? ⟨aG, 2, none⟩ = some (.slice A0_2 l0_2.length c0_2) ∧ w'.cell? ⟨aD, 0, none⟩ = some (.int .i64 a1_0) ∧ w'.cell? ⟨aD, 1, none⟩ = some (.int .i64 a1_1) ∧ w'.cell? ⟨aD, 2, none⟩ = some (.int .i64 a1_2)) ∧ (Kd.R k37 37 w' w.heap.size (fun k_ => some k_ ≠ (s_.2.2.1 : Value).ownBlock ∧ k_ ≠ aD) s_.2.1 bL) ∧ (Kd.R k37 37 w' w.heap.size (fun k_ => some k_ ≠ (s_.2.1 : Value).ownBlock ∧ k_ ≠ aD) s_.2.2.1 bP) ∧ (w'.heap[aG]? = some (.cells #[.int .i64 a0_0, .int .i64 a0_1, .slice A0_2 l0_2.length c0_2] 33 (0, 0))) ∧ (w'.heap[aD]? = some (.cells #[.int .i64 a1_0, .int .i64 a1_1, .int .i64 a1_2] 37 (0, 0))) ∧ (w'.heap[aT]? = some (.cells #[.int .i64 0, .int .i64 0, .slice none 0 0] 33 (0, 0))) ∧ (w'.heap[s_.2.2.2]? = some (.cells #[.int .i64 0, .int .i64 0, .slice none 0 0] 33 (0, 0))) ∧ (w.heap.size ≤ s_.2.2.2) ∧ (w.heap.size ≤ s_.2.2.2) ∧ (aG ≠ s_.2.2.2) ∧ (s_.2.2.2 ≠ aG) ∧ (aD ≠ s_.2.2.2) ∧ (s_.2.2.2 ≠ aD) ∧ (aT ≠ s_.2.2.2) ∧ (s_.2.2.2 ≠ aT) ∧ (Below w.heap.size w w')) ?_ ?_
        rotate_left
        · intro hJ4_6_7_9
          refine join_ (σ := Value × Value × Value) 2 #[true, true, true, true, true, true, true, true, true, false, false] (fun s_ => [(11, s_.1), (13, s_.2.1), (14, s_.2.2), (15, .agg #[.int .i64 a0_0, .int .i64 a0_1, s_.2.2])]) (fun s_ w' => (w'.cell? ⟨aG, 0, none⟩ = some (.int .i64 a0_0) ∧ w'.cell? ⟨aG, 1, none⟩ = some (.int .i64 a0_1) ∧ w'.cell? ⟨aG, 2, none⟩ = some (.slice A0_2 l0_2.length c0_2) ∧ w'.cell? ⟨aD, 0, none⟩ = some (.int .i64 a1_0) ∧ w'.cell? ⟨aD, 1, none⟩ = some (.int .i64 a1_1) ∧ w'.cell? ⟨aD, 2, none⟩ = some (.int .i64 a1_2)) ∧ (Kd.R k37 37 w' w.heap.size (fun k_ => some k_ ≠ (s_.2.2 : Value).ownBlock ∧ k_ ≠ aD) s_.2.1 bL) ∧ (Kd.R k37 37 w' w.heap.size (fun k_ => some k_ ≠ (s_.2.1 : Value).ownBlock ∧ k_ ≠ aD) s_.2.2 bP) ∧ (w'.heap[aG]? = some (.cells #[.int .i64 a0_0, .int .i64 a0_1, .slice A0_2 l0_2.length c0_2] 33 (0, 0))) ∧ (w'.heap[aD]? = some (.cells #[.int .i64 a1_0, .int .i64 a1_1, .int .i64 a1_2] 37 (0, 0))) ∧ (w'.heap[aT]? = some (.cells #[.int .i64 0, .int .i64 0, .slice none 0 0] 33 (0, 0))) ∧ (Below w.heap.size w w')) ?_ ?_
          rotate_left
          · intro hJ4_6_7
            refine join_ (σ := Value × Value × Nat) 3 #[true, true, true, true, true, true, true, false, false, true, false] (fun s_ => [(11, s_.1), (13, s_.2.1), (6, .pointer (some ⟨s_.2.2, 0, none⟩))]) (fun s_ w' => (w'.cell? ⟨aG, 0, none⟩ = some (.int .i64 a0_0) ∧ w'.cell? ⟨aG, 1, none⟩ = some (.int .i64 a0_1) ∧ w'.cell? ⟨aG, 2, none⟩ = some (.slice A0_2 l0_2.length c0_2) ∧ w'.cell? ⟨aD, 0, none⟩ = some (.int .i64 a1_0) ∧ w'.cell? ⟨aD, 1, none⟩ = some (.int .i64 a1_1) ∧ w'.cell? ⟨aD, 2, none⟩ = some (.int .i64 a1_2)) ∧ (Kd.R k37 37 w' w.heap.size (fun k_ => some k_ ≠ (s_.2.1 : Value).ownBlock ∧ k_ ≠ aD) s_.1 t328) ∧ (Kd.R k37 37 w' w.heap.size (fun k_ => some k_ ≠ (s_.1 : Value).ownBlock ∧ k_ ≠ aD) s_.2.1 bL) ∧ (w'.heap[aG]? = some (.cells #[.int .i64 a0_0, .int .i64 a0_1, .slice A0_2 l0_2.length c0_2] 33 (0, 0))) ∧ (w'.heap[aD]? = some (.cells #[.int .i64 a1_0, .int .i64 a1_1, .int .i64 a1_2] 37 (0, 0))) ∧ (w'.heap[aT]? = some (.cells #[.int .i64 0, .int .i64 0, .slice none 0 0] 33 (0, 0))) ∧ (w'.heap[s_.2.2]? = some (.cells #[.int .i64 0, .int .i64 0, .slice none 0 0] 33 (0, 0))) ∧ (w.heap.size ≤ s_.2.2) ∧ (w.heap.size ≤ s_.2.2) ∧ (aG ≠ s_.2.2) ∧ (s_.2.2 ≠ aG) ∧ (aD ≠ s_.2.2) ∧ (s_.2.2 ≠ aD) ∧ (aT ≠ s_.2.2) ∧ (s_.2.2 ≠ aT) ∧ (Below w.heap.size w w')) ?_ ?_
            rotate_left
            · intro hJ4_6_9
              refine join_ (σ := Value × Value) 4 #[true, true, true, true, true, true, true, false, false, false, false] (fun s_ => [(11, s_.1), (13, s_.2)]) (fun s_ w' => (w'.cell? ⟨aG, 0, none⟩ = some (.int .i64 a0_0) ∧ w'.cell? ⟨aG, 1, none⟩ = some (.int .i64 a0_1) ∧ w'.cell? ⟨aG, 2, none⟩ = some (.slice A0_2 l0_2.length c0_2) ∧ w'.cell? ⟨aD, 0, none⟩ = some (.int .i64 a1_0) ∧ w'.cell? ⟨aD, 1, none⟩ = some (.int .i64 a1_1) ∧ w'.cell? ⟨aD, 2, none⟩ = some (.int .i64 a1_2)) ∧ (Kd.R k37 37 w' w.heap.size (fun k_ => some k_ ≠ (s_.2 : Value).ownBlock ∧ k_ ≠ aD) s_.1 t328) ∧ (Kd.R k37 37 w' w.heap.size (fun k_ => some k_ ≠ (s_.1 : Value).ownBlock ∧ k_ ≠ aD) s_.2 bL) ∧ (w'.heap[aG]? = some (.cells #[.int .i64 a0_0, .int .i64 a0_1, .slice A0_2 l0_2.length c0_2] 33 (0, 0))) ∧ (w'.heap[aD]? = some (.cells #[.int .i64 a1_0, .int .i64 a1_1, .int .i64 a1_2] 37 (0, 0))) ∧ (w'.heap[aT]? = some (.cells #[.int .i64 0, .int .i64 0, .slice none 0 0] 33 (0, 0))) ∧ (Below w.heap.size w w')) ?_ ?_
              rotate_left
              · intro hJ4_6
                refine join_ (σ := Value × Nat) 4 #[true, true, true, true, true, true, false, false, false, true, false] (fun s_ => [(11, s_.1), (6, .pointer (some ⟨s_.2, 0, none⟩))]) (fun s_ w' => (w'.cell? ⟨aG, 0, none⟩ = some (.int .i64 a0_0) ∧ w'.cell? ⟨aG, 1, none⟩ = some (.int .i64 a0_1) ∧ w'.cell? ⟨aG, 2, none⟩ = some (.slice A0_2 l0_2.length c0_2) ∧ w'.cell? ⟨aD, 0, none⟩ = some (.int .i64 a1_0) ∧ w'.cell? ⟨aD, 1, none⟩ = some (.int .i64 a1_1) ∧ w'.cell? ⟨aD, 2, none⟩ = some (.int .i64 a1_2)) ∧ (Kd.R k37 37 w' w.heap.size (fun k_ => k_ ≠ aD) s_.1 t328) ∧ (w'.heap[aG]? = some (.cells #[.int .i64 a0_0, .int .i64 a0_1, .slice A0_2 l0_2.length c0_2] 33 (0, 0))) ∧ (w'.heap[aD]? = some (.cells #[.int .i64 a1_0, .int .i64 a1_1, .int .i64 a1_2] 37 (0, 0))) ∧ (w'.heap[aT]? = some (.cells #[.int .i64 0, .int .i64 0, .slice none 0 0] 33 (0, 0))) ∧ (w'.heap[s_.2]? = some (.cells #[.int .i64 0, .int .i64 0, .slice none 0 0] 33 (0, 0))) ∧ (w.heap.size ≤ s_.2) ∧ (w.heap.size ≤ s_.2) ∧ (aG ≠ s_.2) ∧ (s_.2 ≠ aG) ∧ (aD ≠ s_.2) ∧ (s_.2 ≠ aD) ∧ (aT ≠ s_.2) ∧ (s_.2 ≠ aT) ∧ (Below w.heap.size w w')) ?_ ?_
                rotate_left
                · intro hJ4_9
                  refine join_ (σ := Value × Nat) 4 #[true, true, true, true, false, true, true, false, false, true, false] (fun s_ => [(13, s_.1), (6, .pointer (some ⟨s_.2, 0, none⟩))]) (fun s_ w' => (w'.cell? ⟨aG, 0, none⟩ = some (.int .i64 a0_0) ∧ w'.cell? ⟨aG, 1, none⟩ = some (.int .i64 a0_1) ∧ w'.cell? ⟨aG, 2, none⟩ = some (.slice A0_2 l0_2.length c0_2) ∧ w'.cell? ⟨aD, 0, none⟩ = some (.int .i64 a1_0) ∧ w'.cell? ⟨aD, 1, none⟩ = some (.int .i64 a1_1) ∧ w'.cell? ⟨aD, 2, none⟩ = some (.int .i64 a1_2)) ∧ (Kd.R k37 37 w' w.heap.size (fun k_ => k_ ≠ aD) s_.1 bL) ∧ (w'.heap[aG]? = some (.cells #[.int .i64 a0_0, .int .i64 a0_1, .slice A0_2 l0_2.length c0_2] 33 (0, 0))) ∧ (w'.heap[aD]? = some (.cells #[.int .i64 a1_0, .int .i64 a1_1, .int .i64 a1_2] 37 (0, 0))) ∧ (w'.heap[aT]? = some (.cells #[.int .i64 0, .int .i64 0, .slice none 0 0] 33 (0, 0))) ∧ (w'.heap[s_.2]? = some (.cells #[.int .i64 0, .int .i64 0, .slice none 0 0] 33 (0, 0))) ∧ (w.heap.size ≤ s_.2) ∧ (w.heap.size ≤ s_.2) ∧ (aG ≠ s_.2) ∧ (s_.2 ≠ aG) ∧ (aD ≠ s_.2) ∧ (s_.2 ≠ aD) ∧ (aT ≠ s_.2) ∧ (s_.2 ≠ aT) ∧ (Below w.heap.size w w')) ?_ ?_
                  rotate_left
                  · intro hJ6_9
                    refine join_ (σ := Value) 5 #[true, true, true, true, true, true, false, false, false, false, false] (fun s_ => [(11, s_)]) (fun s_ w' => (w'.cell? ⟨aG, 0, none⟩ = some (.int .i64 a0_0) ∧ w'.cell? ⟨aG, 1, none⟩ = some (.int .i64 a0_1) ∧ w'.cell? ⟨aG, 2, none⟩ = some (.slice A0_2 l0_2.length c0_2) ∧ w'.cell? ⟨aD, 0, none⟩ = some (.int .i64 a1_0) ∧ w'.cell? ⟨aD, 1, none⟩ = some (.int .i64 a1_1) ∧ w'.cell? ⟨aD, 2, none⟩ = some (.int .i64 a1_2)) ∧ (Kd.R k37 37 w' w.heap.size (fun k_ => k_ ≠ aD) s_ t328) ∧ (w'.heap[aG]? = some (.cells #[.int .i64 a0_0, .int .i64 a0_1, .slice A0_2 l0_2.length c0_2] 33 (0, 0))) ∧ (w'.heap[aD]? = some (.cells #[.int .i64 a1_0, .int .i64 a1_1, .int .i64 a1_2] 37 (0, 0))) ∧ (w'.heap[aT]? = some (.cells #[.int .i64 0, .int .i64 0, .slice none 0 0] 33 (0, 0))) ∧ (Below w.heap.size w w')) ?_ ?_
                    rotate_left
                    · intro hJ4
                      refine join_ (σ := Value) 5 #[true, true, true, true, false, true, true, false, false, false, false] (fun s_ => [(13, s_)]) (fun s_ w' => (w'.cell? ⟨aG, 0, none⟩ = some (.int .i64 a0_0) ∧ w'.cell? ⟨aG, 1, none⟩ = some (.int .i64 a0_1) ∧ w'.cell? ⟨aG, 2, none⟩ = some (.slice A0_2 l0_2.length c0_2) ∧ w'.cell? ⟨aD, 0, none⟩ = some (.int .i64 a1_0) ∧ w'.cell? ⟨aD, 1, none⟩ = some (.int .i64 a1_1) ∧ w'.cell? ⟨aD, 2, none⟩ = some (.int .i64 a1_2)) ∧ (Kd.R k37 37 w' w.heap.size (fun k_ => k_ ≠ aD) s_ bL) ∧ (w'.heap[aG]? = some (.cells #[.int .i64 a0_0, .int .i64 a0_1, .slice A0_2 l0_2.length c0_2] 33 (0, 0))) ∧ (w'.heap[aD]? = some (.cells #[.int .i64 a1_0, .int .i64 a1_1, .int .i64 a1_2] 37 (0, 0))) ∧ (w'.heap[aT]? = some (.cells #[.int .i64 0, .int .i64 0, .slice none 0 0] 33 (0, 0))) ∧ (Below w.heap.size w w')) ?_ ?_
                      rotate_left
                      · intro hJ6
                        refine join_ (σ := Nat) 5 #[true, true, true, true, false, true, false, false, false, true, false] (fun s_ => [(6, .pointer (some ⟨s_, 0, none⟩))]) (fun s_ w' => (w'.cell? ⟨aG, 0, none⟩ = some (.int .i64 a0_0) ∧ w'.cell? ⟨aG, 1, none⟩ = some (.int .i64 a0_1) ∧ w'.cell? ⟨aG, 2, none⟩ = some (.slice A0_2 l0_2.length c0_2) ∧ w'.cell? ⟨aD, 0, none⟩ = some (.int .i64 a1_0) ∧ w'.cell? ⟨aD, 1, none⟩ = some (.int .i64 a1_1) ∧ w'.cell? ⟨aD, 2, none⟩ = some (.int .i64 a1_2)) ∧ (w'.heap[aG]? = some (.cells #[.int .i64 a0_0, .int .i64 a0_1, .slice A0_2 l0_2.length c0_2] 33 (0, 0))) ∧ (w'.heap[aD]? = some (.cells #[.int .i64 a1_0, .int .i64 a1_1, .int .i64 a1_2] 37 (0, 0))) ∧ (w'.heap[aT]? = some (.cells #[.int .i64 0, .int .i64 0, .slice none 0 0] 33 (0, 0))) ∧ (w'.heap[s_]? = some (.cells #[.int .i64 0, .int .i64 0, .slice none 0 0] 33 (0, 0))) ∧ (w.heap.size ≤ s_) ∧ (w.heap.size ≤ s_) ∧ (aG ≠ s_) ∧ (s_ ≠ aG) ∧ (aD ≠ s_) ∧ (s_ ≠ aD) ∧ (aT ≠ s_) ∧ (s_ ≠ aT) ∧ (Below w.heap.size w w')) ?_ ?_
                        rotate_left
                        · intro hJ9
                          refine three_ (i := 4) (j := 6) (k := 9) (Ni := some 11) (Nj := some 13) (Nk := some 6) #[true, true, true, true, true, true, false, false, false, false, false] #[true, true, true, true, false, true, true, false, false, false, false] #[true, true, true, true, false, true, false, false, false, true, false] rfl rfl rfl rfl rfl rfl (three_of HT_.out (by kernel_rfl)) (by decide) (by decide) (by decide) (fun K hK => ?_) (fun K hK => ?_) (fun K hK => ?_)
                          · skip
                            refine goes_ Try.func23 (by kernel_rfl) rfl #[.slice A0_2 l0_2.length c0_2] (by rfl) rfl rfl (by (try simp only [List.map_toArray, List.map_cons, List.map_nil]); first | done | rfl | (simp only [List.length_drop, List.length_take]; rfl)) ?_
                            with_reducible refine (slices_Clone_impl_Clue_impl_Clue.calls _ _ l0_2 t328 _ ?side1 ?side2 A3.out).mono ?_
                            (case side1 => repeat (first | exact (Kd.C_below HR0_2.out HB.out) | (with_reducible refine Kd.C_alloc ?_ _) | (with_reducible refine Kd.C_drewN ?_ _) | (with_reducible refine Kd.C_drew ?_)))
                            (case side2 => exact bT.out)
                            rintro e w41 ⟨v329, rfl, ho0, hb⟩
                            refine ⟨_, rfl, ?_⟩
                            have aI := aM (Kd.R_lower (Kd.R_newB ho0 (g := aD) (o := .cells #[.int .i64 a1_0, .int .i64 a1_1, .int .i64 a1_2] 37 (0, 0)) aC.out) (below_size HB.out))
                            have aJ := aM (blk_below aA.out hb)
                            have aK := aM (blk_below aC.out hb)
                            have aN := aM (blk_below aH.out hb)
                            have aP := aM (bp_ HB.out hb)
                            clear aA aC aH HB
                            have aY := aI
                            have aA := aJ
                            have aC := aK
                            have aH := aN
                            have HB := aP
                            clear aI aJ aK aN aP
                            (try clear hb)
                            (try clear hb2)
                            (try clear hk)
                            (try clear hi)
                            (try clear ho0)
                            refine hK.out _ _ ⟨(blk_cell aA.out 0).trans rfl, (blk_cell aA.out 1).trans rfl, (blk_cell aA.out 2).trans rfl, (blk_cell aC.out 0).trans rfl, (blk_cell aC.out 1).trans rfl, (blk_cell aC.out 2).trans rfl⟩ (fun aW => ?_)
                            clear hK K
                            refine norm_ (a' := ?_) ?_ ?_
                            rotate_left
                            · show Act.put _ (some 11) _ = _
                              simp only [Act.put, List.setIfInBounds_toArray, List.set_cons_zero, List.set_cons_succ, i64_w, i32_w]
                              rfl
                            exact norm_ (by first | (simp only [putAll, Act.put, List.setIfInBounds_toArray, List.set_cons_zero, List.set_cons_succ]; done) | (simp only [putAll, Act.put, List.setIfInBounds_toArray, List.set_cons_zero, List.set_cons_succ]; rfl)) (hJ4 (v329) _ ⟨aW, (by (with_reducible repeat (first | apply Kd.R_alloc | apply Kd.R_drewN | apply Kd.R_drew)); exact Kd.R_mono aY.out (fun _ hk => hk.2)), aA.out, aC.out, aH.out, HB.out⟩)
                          · skip
                            refine Kd.R_lit_step k37 _ 37 ?hg (N := 13) ?hd (xs := ([(⟨a1_0, a1_1, a1_2⟩ : S37)] : List (S37))) (inner := [.int .i64 a1_0, .int .i64 a1_1, .int .i64 a1_2]) (ok := fun _ => True) (okp := fun _ => True) ?hr ?hp (fun _ hk => hk) trivial (Below.refl _ _) (Nat.le_refl _) (by simp) ?_; (case hd => rfl); (case hg => rfl); (case hr => first | (go_simp; done) | (go_simp; rfl)); (case hp => exact (Reps.c3 (show Kd.M k37 _ _ _ (⟨a1_0, a1_1, a1_2⟩ : S37) [.int .i64 a1_0, .int .i64 a1_1, .int .i64 a1_2] from (k37_mkM _ _ _ (⟨a1_0, a1_1, a1_2⟩ : S37) )) (Reps.none _ _)))
                            intro v332 w41 ho42 hb hg_ hnew_
                            clear hg_ hnew_
                            (first | rw [← bS.out] at ho42 | (simp only [Int.reduceToNat] at ho42; rw [← bS.out] at ho42))
                            have aI := aM (Kd.R_lower (Kd.R_newB ho42 (g := aD) (o := .cells #[.int .i64 a1_0, .int .i64 a1_1, .int .i64 a1_2] 37 (0, 0)) aC.out) (below_size HB.out))
                            have aJ := aM (blk_below aA.out hb)
                            have aK := aM (blk_below aC.out hb)
                            have aN := aM (blk_below aH.out hb)
                            have aP := aM (bp_ HB.out hb)
                            clear aA aC aH HB
                            have aU := aI
                            have aA := aJ
                            have aC := aK
                            have aH := aN
                            have HB := aP
                            clear aI aJ aK aN aP hb ho42
                            refine hK.out _ _ ⟨(blk_cell aA.out 0).trans rfl, (blk_cell aA.out 1).trans rfl, (blk_cell aA.out 2).trans rfl, (blk_cell aC.out 0).trans rfl, (blk_cell aC.out 1).trans rfl, (blk_cell aC.out 2).trans rfl⟩ (fun aW => ?_)
                            clear hK K
                            refine norm_ (a' := ?_) ?_ ?_
                            rotate_left
                            · show Act.put _ (some 13) _ = _
                              simp only [Act.put, List.setIfInBounds_toArray, List.set_cons_zero, List.set_cons_succ, i64_w, i32_w]
                              rfl
                            exact norm_ (by first | (simp only [putAll, Act.put, List.setIfInBounds_toArray, List.set_cons_zero, List.set_cons_succ]; done) | (simp only [putAll, Act.put, List.setIfInBounds_toArray, List.set_cons_zero, List.set_cons_succ]; rfl)) (hJ6 (v332) _ ⟨aW, (by (with_reducible repeat (first | apply Kd.R_alloc | apply Kd.R_drewN | apply Kd.R_drew)); exact Kd.R_mono aU.out (fun _ hk => hk.2)), aA.out, aC.out, aH.out, HB.out⟩)
                          · skip
                            refine box_step ?hg (N := 6) ?hd (cs := #[.int .i64 0, .int .i64 0, .slice none 0 0]) (t := 33) ?hr ?_; (case hd => rfl); (case hg => rfl); (case hr => first | (go_simp; done) | (go_simp; rfl))
                            intro aE hg w41 hbox hb
                            have aI := aM (blk_below aA.out hb)
                            have aJ := aM (blk_below aC.out hb)
                            have aK := aM (blk_below aH.out hb)
                            have aN := aM (bp_ HB.out hb)
                            have aP := aM (hbox)
                            have aQ := aM ((by rw [hg]; exact (below_size HB.out) : w.heap.size ≤ aE))
                            have aX := aM ((by rw [hg]; exact (below_size HB.out) : w.heap.size ≤ aE))
                            have bB := aM ((by rw [hg]; exact Nat.ne_of_lt (blk_lt aA.out) : aG ≠ aE))
                            have bC := aM ((by rw [hg]; exact Nat.ne_of_gt (blk_lt aA.out) : aE ≠ aG))
                            have bD := aM ((by rw [hg]; exact Nat.ne_of_lt (blk_lt aC.out) : aD ≠ aE))
                            have bE := aM ((by rw [hg]; exact Nat.ne_of_gt (blk_lt aC.out) : aE ≠ aD))
                            have bF := aM ((by rw [hg]; exact Nat.ne_of_lt (blk_lt aH.out) : aT ≠ aE))
                            have bG := aM ((by rw [hg]; exact Nat.ne_of_gt (blk_lt aH.out) : aE ≠ aT))
                            clear aA aC aH HB
                            have aA := aI
                            have aC := aJ
                            have aH := aK
                            have HB := aN
                            have aV := aP
                            have bQ := aQ
                            have bM := aX
                            have aZ := bB
                            have bI := bC
                            have bA := bD
                            have bN := bE
                            have bH := bF
                            have bJ := bG
                            clear aI aJ aK aN aP aQ aX bB bC bD bE bF bG hb hbox hg
                            refine hK.out _ _ ⟨(blk_cell aA.out 0).trans rfl, (blk_cell aA.out 1).trans rfl, (blk_cell aA.out 2).trans rfl, (blk_cell aC.out 0).trans rfl, (blk_cell aC.out 1).trans rfl, (blk_cell aC.out 2).trans rfl⟩ (fun aW => ?_)
                            clear hK K
                            refine norm_ (a' := ?_) ?_ ?_
                            rotate_left
                            · show Act.put _ (some 6) _ = _
                              simp only [Act.put, List.setIfInBounds_toArray, List.set_cons_zero, List.set_cons_succ, i64_w, i32_w]
                              rfl
                            exact norm_ (by first | (simp only [putAll, Act.put, List.setIfInBounds_toArray, List.set_cons_zero, List.set_cons_succ]; done) | (simp only [putAll, Act.put, List.setIfInBounds_toArray, List.set_cons_zero, List.set_cons_succ]; rfl)) (hJ9 (aE) _ ⟨aW, aA.out, aC.out, aH.out, aV.out, bQ.out, bM.out, aZ.out, bI.out, bA.out, bN.out, bH.out, bJ.out, HB.out⟩)
                        · skip
                          rintro aE w42 ⟨hS_, h0_, h1_, h2_, h3_, h4_, h5_, h6_, h7_, h8_, h9_, h10_, h11_, h12_⟩
                          have aI : Aside0 (w42.heap[aG]? = some (.cells #[.int .i64 a0_0, .int .i64 a0_1, .slice A0_2 l0_2.length c0_2] 33 (0, 0))) := ⟨h0_⟩
                          have aJ : Aside0 (w42.heap[aD]? = some (.cells #[.int .i64 a1_0, .int .i64 a1_1, .int .i64 a1_2] 37 (0, 0))) := ⟨h1_⟩
                          have aK : Aside0 (w42.heap[aT]? = some (.cells #[.int .i64 0, .int .i64 0, .slice none 0 0] 33 (0, 0))) := ⟨h2_⟩
                          have aN : Aside0 (w42.heap[aE]? = some (.cells #[.int .i64 0, .int .i64 0, .slice none 0 0] 33 (0, 0))) := ⟨h3_⟩
                          have aP : Aside0 (w.heap.size ≤ aE) := ⟨h4_⟩
                          have aQ : Aside0 (w.heap.size ≤ aE) := ⟨h5_⟩
                          have aX : Aside0 (aG ≠ aE) := ⟨h6_⟩
                          have bB : Aside0 (aE ≠ aG) := ⟨h7_⟩
                          have bC : Aside0 (aD ≠ aE) := ⟨h8_⟩
                          have bD : Aside0 (aE ≠ aD) := ⟨h9_⟩
                          have bE : Aside0 (aT ≠ aE) := ⟨h10_⟩
                          have bF : Aside0 (aE ≠ aT) := ⟨h11_⟩
                          have bG : Aside0 (Below w.heap.size w w42) := ⟨h12_⟩
                          clear aA aC aH HB h0_ h1_ h2_ h3_ h4_ h5_ h6_ h7_ h8_ h9_ h10_ h11_ h12_
                          have aA := aI
                          have aC := aJ
                          have aH := aK
                          have aV := aN
                          have bQ := aP
                          have bM := aQ
                          have aZ := aX
                          have bI := bB
                          have bA := bC
                          have bN := bD
                          have bH := bE
                          have bJ := bF
                          have HB := bG
                          clear aI aJ aK aN aP aQ aX bB bC bD bE bF bG
                          have aW : w42.cell? ⟨aG, 0, none⟩ = some (.int .i64 a0_0) ∧ w42.cell? ⟨aG, 1, none⟩ = some (.int .i64 a0_1) ∧ w42.cell? ⟨aG, 2, none⟩ = some (.slice A0_2 l0_2.length c0_2) ∧ w42.cell? ⟨aD, 0, none⟩ = some (.int .i64 a1_0) ∧ w42.cell? ⟨aD, 1, none⟩ = some (.int .i64 a1_1) ∧ w42.cell? ⟨aD, 2, none⟩ = some (.int .i64 a1_2) := hS_
                          refine norm_ (a' := ?_) ?_ ?_
                          rotate_left
                          · simp only [putAll, Act.put, List.setIfInBounds_toArray, List.set_cons_zero, List.set_cons_succ]
                            rfl
                          refine two_ (i := 4) (j := 6) (Ni := some 11) (Nj := some 13) #[true, true, true, true, true, true, false, false, false, true, false] #[true, true, true, true, false, true, true, false, false, true, false] rfl rfl rfl rfl (two_of HT_.out (by kernel_rfl)) (by decide) (by decide) (fun K hK => ?_) (fun K hK => ?_)
                          · skip
                            refine goes_ Try.func23 (by kernel_rfl) rfl #[.slice A0_2 l0_2.length c0_2] (by rfl) rfl rfl (by (try simp only [List.map_toArray, List.map_cons, List.map_nil]); first | done | rfl | (simp only [List.length_drop, List.length_take]; rfl)) ?_
                            with_reducible refine (slices_Clone_impl_Clue_impl_Clue.calls _ _ l0_2 t328 _ ?side1 ?side2 A3.out).mono ?_
                            (case side1 => repeat (first | exact (Kd.C_below HR0_2.out HB.out) | (with_reducible refine Kd.C_alloc ?_ _) | (with_reducible refine Kd.C_drewN ?_ _) | (with_reducible refine Kd.C_drew ?_)))
                            (case side2 => exact bT.out)
                            rintro e w43 ⟨v329, rfl, ho0, hb⟩
                            refine ⟨_, rfl, ?_⟩
                            have aI := aM (Kd.R_lower (Kd.R_newB ho0 (g := aD) (o := .cells #[.int .i64 a1_0, .int .i64 a1_1, .int .i64 a1_2] 37 (0, 0)) aC.out) (below_size HB.out))
                            have aJ := aM (blk_below aA.out hb)
                            have aK := aM (blk_below aC.out hb)
                            have aN := aM (blk_below aH.out hb)
                            have aP := aM (blk_below aV.out hb)
                            have aQ := aM (bp_ HB.out hb)
                            clear aA aC aH aV HB
                            have aY := aI
                            have aA := aJ
                            have aC := aK
                            have aH := aN
                            have aV := aP
                            have HB := aQ
                            clear aI aJ aK aN aP aQ
                            (try clear hb)
                            (try clear hb2)
                            (try clear hk)
                            (try clear hi)
                            (try clear ho0)
                            refine hK.out _ _ ⟨(blk_cell aA.out 0).trans rfl, (blk_cell aA.out 1).trans rfl, (blk_cell aA.out 2).trans rfl, (blk_cell aC.out 0).trans rfl, (blk_cell aC.out 1).trans rfl, (blk_cell aC.out 2).trans rfl⟩ (fun aW => ?_)
                            clear hK K
                            refine norm_ (a' := ?_) ?_ ?_
                            rotate_left
                            · show Act.put _ (some 11) _ = _
                              simp only [Act.put, List.setIfInBounds_toArray, List.set_cons_zero, List.set_cons_succ, i64_w, i32_w]
                              rfl
                            exact norm_ (by first | (simp only [putAll, Act.put, List.setIfInBounds_toArray, List.set_cons_zero, List.set_cons_succ]; done) | (simp only [putAll, Act.put, List.setIfInBounds_toArray, List.set_cons_zero, List.set_cons_succ]; rfl)) (hJ4_9 (v329, aE) _ ⟨aW, (by (with_reducible repeat (first | apply Kd.R_alloc | apply Kd.R_drewN | apply Kd.R_drew)); exact Kd.R_mono aY.out (fun _ hk => hk.2)), aA.out, aC.out, aH.out, aV.out, bQ.out, bM.out, aZ.out, bI.out, bA.out, bN.out, bH.out, bJ.out, HB.out⟩)
                          · skip
                            refine Kd.R_lit_step k37 _ 37 ?hg (N := 13) ?hd (xs := ([(⟨a1_0, a1_1, a1_2⟩ : S37)] : List (S37))) (inner := [.int .i64 a1_0, .int .i64 a1_1, .int .i64 a1_2]) (ok := fun _ => True) (okp := fun _ => True) ?hr ?hp (fun _ hk => hk) trivial (Below.refl _ _) (Nat.le_refl _) (by simp) ?_; (case hd => rfl); (case hg => rfl); (case hr => first | (go_simp; done) | (go_simp; rfl)); (case hp => exact (Reps.c3 (show Kd.M k37 _ _ _ (⟨a1_0, a1_1, a1_2⟩ : S37) [.int .i64 a1_0, .int .i64 a1_1, .int .i64 a1_2] from (k37_mkM _ _ _ (⟨a1_0, a1_1, a1_2⟩ : S37) )) (Reps.none _ _)))
                            intro v332 w43 ho44 hb hg_ hnew_
                            clear hg_ hnew_
                            (first | rw [← bS.out] at ho44 | (simp only [Int.reduceToNat] at ho44; rw [← bS.out] at ho44))
                            have aI := aM (Kd.R_lower (Kd.R_newB ho44 (g := aD) (o := .cells #[.int .i64 a1_0, .int .i64 a1_1, .int .i64 a1_2] 37 (0, 0)) aC.out) (below_size HB.out))
                            have aJ := aM (blk_below aA.out hb)
                            have aK := aM (blk_below aC.out hb)
                            have aN := aM (blk_below aH.out hb)
                            have aP := aM (blk_below aV.out hb)
                            have aQ := aM (bp_ HB.out hb)
                            clear aA aC aH aV HB
                            have aU := aI
                            have aA := aJ
                            have aC := aK
                            have aH := aN
                            have aV := aP
                            have HB := aQ
                            clear aI aJ aK aN aP aQ hb ho44
                            refine hK.out _ _ ⟨(blk_cell aA.out 0).trans rfl, (blk_cell aA.out 1).trans rfl, (blk_cell aA.out 2).trans rfl, (blk_cell aC.out 0).trans rfl, (blk_cell aC.out 1).trans rfl, (blk_cell aC.out 2).trans rfl⟩ (fun aW => ?_)
                            clear hK K
                            refine norm_ (a' := ?_) ?_ ?_
                            rotate_left
                            · show Act.put _ (some 13) _ = _
                              simp only [Act.put, List.setIfInBounds_toArray, List.set_cons_zero, List.set_cons_succ, i64_w, i32_w]
                              rfl
                            exact norm_ (by first | (simp only [putAll, Act.put, List.setIfInBounds_toArray, List.set_cons_zero, List.set_cons_succ]; done) | (simp only [putAll, Act.put, List.setIfInBounds_toArray, List.set_cons_zero, List.set_cons_succ]; rfl)) (hJ6_9 (v332, aE) _ ⟨aW, (by (with_reducible repeat (first | apply Kd.R_alloc | apply Kd.R_drewN | apply Kd.R_drew)); exact Kd.R_mono aU.out (fun _ hk => hk.2)), aA.out, aC.out, aH.out, aV.out, bQ.out, bM.out, aZ.out, bI.out, bA.out, bN.out, bH.out, bJ.out, HB.out⟩)
                      · skip
                        rintro v332 w43 ⟨hS_, h0_, h1_, h2_, h3_, h4_⟩
                        have aI : Aside0 (Kd.R k37 37 w43 w.heap.size (fun k_ => k_ ≠ aD) v332 bL) := ⟨h0_⟩
                        have aJ : Aside0 (w43.heap[aG]? = some (.cells #[.int .i64 a0_0, .int .i64 a0_1, .slice A0_2 l0_2.length c0_2] 33 (0, 0))) := ⟨h1_⟩
                        have aK : Aside0 (w43.heap[aD]? = some (.cells #[.int .i64 a1_0, .int .i64 a1_1, .int .i64 a1_2] 37 (0, 0))) := ⟨h2_⟩
                        have aN : Aside0 (w43.heap[aT]? = some (.cells #[.int .i64 0, .int .i64 0, .slice none 0 0] 33 (0, 0))) := ⟨h3_⟩
                        have aP : Aside0 (Below w.heap.size w w43) := ⟨h4_⟩
                        clear aA aC aH HB h0_ h1_ h2_ h3_ h4_
                        have aU := aI
                        have aA := aJ
                        have aC := aK
                        have aH := aN
                        have HB := aP
                        clear aI aJ aK aN aP
                        have aW : w43.cell? ⟨aG, 0, none⟩ = some (.int .i64 a0_0) ∧ w43.cell? ⟨aG, 1, none⟩ = some (.int .i64 a0_1) ∧ w43.cell? ⟨aG, 2, none⟩ = some (.slice A0_2 l0_2.length c0_2) ∧ w43.cell? ⟨aD, 0, none⟩ = some (.int .i64 a1_0) ∧ w43.cell? ⟨aD, 1, none⟩ = some (.int .i64 a1_1) ∧ w43.cell? ⟨aD, 2, none⟩ = some (.int .i64 a1_2) := hS_
                        refine norm_ (a' := ?_) ?_ ?_
                        rotate_left
                        · simp only [putAll, Act.put, List.setIfInBounds_toArray, List.set_cons_zero, List.set_cons_succ]
                          rfl
                        refine two_ (i := 4) (j := 9) (Ni := some 11) (Nj := some 6) #[true, true, true, true, true, true, true, false, false, false, false] #[true, true, true, true, false, true, true, false, false, true, false] rfl rfl rfl rfl (two_of HT_.out (by kernel_rfl)) (by decide) (by decide) (fun K hK => ?_) (fun K hK => ?_)
                        · skip
                          refine goes_ Try.func23 (by kernel_rfl) rfl #[.slice A0_2 l0_2.length c0_2] (by rfl) rfl rfl (by (try simp only [List.map_toArray, List.map_cons, List.map_nil]); first | done | rfl | (simp only [List.length_drop, List.length_take]; rfl)) ?_
                          with_reducible refine (slices_Clone_impl_Clue_impl_Clue.calls _ _ l0_2 t328 _ ?side1 ?side2 A3.out).mono ?_
                          (case side1 => repeat (first | exact (Kd.C_below HR0_2.out HB.out) | (with_reducible refine Kd.C_alloc ?_ _) | (with_reducible refine Kd.C_drewN ?_ _) | (with_reducible refine Kd.C_drew ?_)))
                          (case side2 => exact bT.out)
                          rintro e w44 ⟨v329, rfl, ho0, hb⟩
                          refine ⟨_, rfl, ?_⟩
                          have aI := aM (Kd.R_elder' aU.out (Kd.R_base ho0) hb)
                          have aJ := aM (Kd.R_lower (Kd.R_newB (Kd.R_new' ho0 (Kd.R_lt aU.out)) (g := aD) (o := .cells #[.int .i64 a1_0, .int .i64 a1_1, .int .i64 a1_2] 37 (0, 0)) aC.out) (below_size HB.out))
                          have aK := aM (blk_below aA.out hb)
                          have aN := aM (blk_below aC.out hb)
                          have aP := aM (blk_below aH.out hb)
                          have aQ := aM (bp_ HB.out hb)
                          clear aU aA aC aH HB
                          have aU := aI
                          have aY := aJ
                          have aA := aK
                          have aC := aN
                          have aH := aP
                          have HB := aQ
                          clear aI aJ aK aN aP aQ
                          (try clear hb)
                          (try clear hb2)
                          (try clear hk)
                          (try clear hi)
                          (try clear ho0)
                          refine hK.out _ _ ⟨(blk_cell aA.out 0).trans rfl, (blk_cell aA.out 1).trans rfl, (blk_cell aA.out 2).trans rfl, (blk_cell aC.out 0).trans rfl, (blk_cell aC.out 1).trans rfl, (blk_cell aC.out 2).trans rfl⟩ (fun aW => ?_)
                          clear hK K
                          refine norm_ (a' := ?_) ?_ ?_
                          rotate_left
                          · show Act.put _ (some 11) _ = _
                            simp only [Act.put, List.setIfInBounds_toArray, List.set_cons_zero, List.set_cons_succ, i64_w, i32_w]
                            rfl
                          exact norm_ (by first | (simp only [putAll, Act.put, List.setIfInBounds_toArray, List.set_cons_zero, List.set_cons_succ]; done) | (simp only [putAll, Act.put, List.setIfInBounds_toArray, List.set_cons_zero, List.set_cons_succ]; rfl)) (hJ4_6 (v329, v332) _ ⟨aW, (by (with_reducible repeat (first | apply Kd.R_alloc | apply Kd.R_drewN | apply Kd.R_drew)); exact Kd.R_mono aY.out (fun _ hk => ⟨hk.1.2, hk.2⟩)), (by (with_reducible repeat (first | apply Kd.R_alloc | apply Kd.R_drewN | apply Kd.R_drew)); exact Kd.R_mono aU.out (fun _ hk => ⟨hk.2, hk.1⟩)), aA.out, aC.out, aH.out, HB.out⟩)
                        · skip
                          refine box_step ?hg (N := 6) ?hd (cs := #[.int .i64 0, .int .i64 0, .slice none 0 0]) (t := 33) ?hr ?_; (case hd => rfl); (case hg => rfl); (case hr => first | (go_simp; done) | (go_simp; rfl))
                          intro aE hg w44 hbox hb
                          have aI := aM (Kd.R_below aU.out hb)
                          have aJ := aM (blk_below aA.out hb)
                          have aK := aM (blk_below aC.out hb)
                          have aN := aM (blk_below aH.out hb)
                          have aP := aM (bp_ HB.out hb)
                          have aQ := aM (hbox)
                          have aX := aM ((by rw [hg]; exact (below_size HB.out) : w.heap.size ≤ aE))
                          have bB := aM ((by rw [hg]; exact (below_size HB.out) : w.heap.size ≤ aE))
                          have bC := aM ((by rw [hg]; exact Nat.ne_of_lt (blk_lt aA.out) : aG ≠ aE))
                          have bD := aM ((by rw [hg]; exact Nat.ne_of_gt (blk_lt aA.out) : aE ≠ aG))
                          have bE := aM ((by rw [hg]; exact Nat.ne_of_lt (blk_lt aC.out) : aD ≠ aE))
                          have bF := aM ((by rw [hg]; exact Nat.ne_of_gt (blk_lt aC.out) : aE ≠ aD))
                          have bG := aM ((by rw [hg]; exact Nat.ne_of_lt (blk_lt aH.out) : aT ≠ aE))
                          have bK := aM ((by rw [hg]; exact Nat.ne_of_gt (blk_lt aH.out) : aE ≠ aT))
                          clear aU aA aC aH HB
                          have aU := aI
                          have aA := aJ
                          have aC := aK
                          have aH := aN
                          have HB := aP
                          have aV := aQ
                          have bQ := aX
                          have bM := bB
                          have aZ := bC
                          have bI := bD
                          have bA := bE
                          have bN := bF
                          have bH := bG
                          have bJ := bK
                          clear aI aJ aK aN aP aQ aX bB bC bD bE bF bG bK hb hbox hg
                          refine hK.out _ _ ⟨(blk_cell aA.out 0).trans rfl, (blk_cell aA.out 1).trans rfl, (blk_cell aA.out 2).trans rfl, (blk_cell aC.out 0).trans rfl, (blk_cell aC.out 1).trans rfl, (blk_cell aC.out 2).trans rfl⟩ (fun aW => ?_)
                          clear hK K
                          refine norm_ (a' := ?_) ?_ ?_
                          rotate_left
                          · show Act.put _ (some 6) _ = _
                            simp only [Act.put, List.setIfInBounds_toArray, List.set_cons_zero, List.set_cons_succ, i64_w, i32_w]
                            rfl
                          exact norm_ (by first | (simp only [putAll, Act.put, List.setIfInBounds_toArray, List.set_cons_zero, List.set_cons_succ]; done) | (simp only [putAll, Act.put, List.setIfInBounds_toArray, List.set_cons_zero, List.set_cons_succ]; rfl)) (hJ6_9 (v332, aE) _ ⟨aW, aU.out, aA.out, aC.out, aH.out, aV.out, bQ.out, bM.out, aZ.out, bI.out, bA.out, bN.out, bH.out, bJ.out, HB.out⟩)
                    · skip
                      rintro v329 w42 ⟨hS_, h0_, h1_, h2_, h3_, h4_⟩
                      have aI : Aside0 (Kd.R k37 37 w42 w.heap.size (fun k_ => k_ ≠ aD) v329 t328) := ⟨h0_⟩
                      have aJ : Aside0 (w42.heap[aG]? = some (.cells #[.int .i64 a0_0, .int .i64 a0_1, .slice A0_2 l0_2.length c0_2] 33 (0, 0))) := ⟨h1_⟩
                      have aK : Aside0 (w42.heap[aD]? = some (.cells #[.int .i64 a1_0, .int .i64 a1_1, .int .i64 a1_2] 37 (0, 0))) := ⟨h2_⟩
                      have aN : Aside0 (w42.heap[aT]? = some (.cells #[.int .i64 0, .int .i64 0, .slice none 0 0] 33 (0, 0))) := ⟨h3_⟩
                      have aP : Aside0 (Below w.heap.size w w42) := ⟨h4_⟩
                      clear aA aC aH HB h0_ h1_ h2_ h3_ h4_
                      have aY := aI
                      have aA := aJ
                      have aC := aK
                      have aH := aN
                      have HB := aP
                      clear aI aJ aK aN aP
                      have aW : w42.cell? ⟨aG, 0, none⟩ = some (.int .i64 a0_0) ∧ w42.cell? ⟨aG, 1, none⟩ = some (.int .i64 a0_1) ∧ w42.cell? ⟨aG, 2, none⟩ = some (.slice A0_2 l0_2.length c0_2) ∧ w42.cell? ⟨aD, 0, none⟩ = some (.int .i64 a1_0) ∧ w42.cell? ⟨aD, 1, none⟩ = some (.int .i64 a1_1) ∧ w42.cell? ⟨aD, 2, none⟩ = some (.int .i64 a1_2) := hS_
                      refine norm_ (a' := ?_) ?_ ?_
                      rotate_left
                      · simp only [putAll, Act.put, List.setIfInBounds_toArray, List.set_cons_zero, List.set_cons_succ]
                        rfl
                      refine two_ (i := 6) (j := 9) (Ni := some 13) (Nj := some 6) #[true, true, true, true, true, true, true, false, false, false, false] #[true, true, true, true, true, true, false, false, false, true, false] rfl rfl rfl rfl (two_of HT_.out (by kernel_rfl)) (by decide) (by decide) (fun K hK => ?_) (fun K hK => ?_)
                      · skip
                        refine Kd.R_lit_step k37 _ 37 ?hg (N := 13) ?hd (xs := ([(⟨a1_0, a1_1, a1_2⟩ : S37)] : List (S37))) (inner := [.int .i64 a1_0, .int .i64 a1_1, .int .i64 a1_2]) (ok := fun _ => True) (okp := fun _ => True) ?hr ?hp (fun _ hk => hk) trivial (Below.refl _ _) (Nat.le_refl _) (by simp) ?_; (case hd => rfl); (case hg => rfl); (case hr => first | (go_simp; done) | (go_simp; rfl)); (case hp => exact (Reps.c3 (show Kd.M k37 _ _ _ (⟨a1_0, a1_1, a1_2⟩ : S37) [.int .i64 a1_0, .int .i64 a1_1, .int .i64 a1_2] from (k37_mkM _ _ _ (⟨a1_0, a1_1, a1_2⟩ : S37) )) (Reps.none _ _)))
                        intro v332 w43 ho44 hb hg_ hnew_
                        clear hg_ hnew_
                        (first | rw [← bS.out] at ho44 | (simp only [Int.reduceToNat] at ho44; rw [← bS.out] at ho44))
                        have aI := aM (Kd.R_elder' aY.out (Kd.R_base ho44) hb)
                        have aJ := aM (Kd.R_lower (Kd.R_newB (Kd.R_new' ho44 (Kd.R_lt aY.out)) (g := aD) (o := .cells #[.int .i64 a1_0, .int .i64 a1_1, .int .i64 a1_2] 37 (0, 0)) aC.out) (below_size HB.out))
                        have aK := aM (blk_below aA.out hb)
                        have aN := aM (blk_below aC.out hb)
                        have aP := aM (blk_below aH.out hb)
                        have aQ := aM (bp_ HB.out hb)
                        clear aY aA aC aH HB
                        have aY := aI
                        have aU := aJ
                        have aA := aK
                        have aC := aN
                        have aH := aP
                        have HB := aQ
                        clear aI aJ aK aN aP aQ hb ho44
                        refine hK.out _ _ ⟨(blk_cell aA.out 0).trans rfl, (blk_cell aA.out 1).trans rfl, (blk_cell aA.out 2).trans rfl, (blk_cell aC.out 0).trans rfl, (blk_cell aC.out 1).trans rfl, (blk_cell aC.out 2).trans rfl⟩ (fun aW => ?_)
                        clear hK K
                        refine norm_ (a' := ?_) ?_ ?_
                        rotate_left
                        · show Act.put _ (some 13) _ = _
                          simp only [Act.put, List.setIfInBounds_toArray, List.set_cons_zero, List.set_cons_succ, i64_w, i32_w]
                          rfl
                        exact norm_ (by first | (simp only [putAll, Act.put, List.setIfInBounds_toArray, List.set_cons_zero, List.set_cons_succ]; done) | (simp only [putAll, Act.put, List.setIfInBounds_toArray, List.set_cons_zero, List.set_cons_succ]; rfl)) (hJ4_6 (v329, v332) _ ⟨aW, (by (with_reducible repeat (first | apply Kd.R_alloc | apply Kd.R_drewN | apply Kd.R_drew)); exact Kd.R_mono aY.out (fun _ hk => ⟨hk.2, hk.1⟩)), (by (with_reducible repeat (first | apply Kd.R_alloc | apply Kd.R_drewN | apply Kd.R_drew)); exact Kd.R_mono aU.out (fun _ hk => ⟨hk.1.2, hk.2⟩)), aA.out, aC.out, aH.out, HB.out⟩)
                      · skip
                        refine box_step ?hg (N := 6) ?hd (cs := #[.int .i64 0, .int .i64 0, .slice none 0 0]) (t := 33) ?hr ?_; (case hd => rfl); (case hg => rfl); (case hr => first | (go_simp; done) | (go_simp; rfl))
                        intro aE hg w43 hbox hb
                        have aI := aM (Kd.R_below aY.out hb)
                        have aJ := aM (blk_below aA.out hb)
                        have aK := aM (blk_below aC.out hb)
                        have aN := aM (blk_below aH.out hb)
                        have aP := aM (bp_ HB.out hb)
                        have aQ := aM (hbox)
                        have aX := aM ((by rw [hg]; exact (below_size HB.out) : w.heap.size ≤ aE))
                        have bB := aM ((by rw [hg]; exact (below_size HB.out) : w.heap.size ≤ aE))
                        have bC := aM ((by rw [hg]; exact Nat.ne_of_lt (blk_lt aA.out) : aG ≠ aE))
                        have bD := aM ((by rw [hg]; exact Nat.ne_of_gt (blk_lt aA.out) : aE ≠ aG))
                        have bE := aM ((by rw [hg]; exact Nat.ne_of_lt (blk_lt aC.out) : aD ≠ aE))
                        have bF := aM ((by rw [hg]; exact Nat.ne_of_gt (blk_lt aC.out) : aE ≠ aD))
                        have bG := aM ((by rw [hg]; exact Nat.ne_of_lt (blk_lt aH.out) : aT ≠ aE))
                        have bK := aM ((by rw [hg]; exact Nat.ne_of_gt (blk_lt aH.out) : aE ≠ aT))
                        clear aY aA aC aH HB
                        have aY := aI
                        have aA := aJ
                        have aC := aK
                        have aH := aN
                        have HB := aP
                        have aV := aQ
                        have bQ := aX
                        have bM := bB
                        have aZ := bC
                        have bI := bD
                        have bA := bE
                        have bN := bF
                        have bH := bG
                        have bJ := bK
                        clear aI aJ aK aN aP aQ aX bB bC bD bE bF bG bK hb hbox hg
                        refine hK.out _ _ ⟨(blk_cell aA.out 0).trans rfl, (blk_cell aA.out 1).trans rfl, (blk_cell aA.out 2).trans rfl, (blk_cell aC.out 0).trans rfl, (blk_cell aC.out 1).trans rfl, (blk_cell aC.out 2).trans rfl⟩ (fun aW => ?_)
                        clear hK K
                        refine norm_ (a' := ?_) ?_ ?_
                        rotate_left
                        · show Act.put _ (some 6) _ = _
                          simp only [Act.put, List.setIfInBounds_toArray, List.set_cons_zero, List.set_cons_succ, i64_w, i32_w]
                          rfl
                        exact norm_ (by first | (simp only [putAll, Act.put, List.setIfInBounds_toArray, List.set_cons_zero, List.set_cons_succ]; done) | (simp only [putAll, Act.put, List.setIfInBounds_toArray, List.set_cons_zero, List.set_cons_succ]; rfl)) (hJ4_9 (v329, aE) _ ⟨aW, aY.out, aA.out, aC.out, aH.out, aV.out, bQ.out, bM.out, aZ.out, bI.out, bA.out, bN.out, bH.out, bJ.out, HB.out⟩)
                  · skip
                    rintro ⟨v332, aE⟩ w44 ⟨hS_, h0_, h1_, h2_, h3_, h4_, h5_, h6_, h7_, h8_, h9_, h10_, h11_, h12_, h13_⟩
                    have aI : Aside0 (Kd.R k37 37 w44 w.heap.size (fun k_ => k_ ≠ aD) v332 bL) := ⟨h0_⟩
                    have aJ : Aside0 (w44.heap[aG]? = some (.cells #[.int .i64 a0_0, .int .i64 a0_1, .slice A0_2 l0_2.length c0_2] 33 (0, 0))) := ⟨h1_⟩
                    have aK : Aside0 (w44.heap[aD]? = some (.cells #[.int .i64 a1_0, .int .i64 a1_1, .int .i64 a1_2] 37 (0, 0))) := ⟨h2_⟩
                    have aN : Aside0 (w44.heap[aT]? = some (.cells #[.int .i64 0, .int .i64 0, .slice none 0 0] 33 (0, 0))) := ⟨h3_⟩
                    have aP : Aside0 (w44.heap[aE]? = some (.cells #[.int .i64 0, .int .i64 0, .slice none 0 0] 33 (0, 0))) := ⟨h4_⟩
                    have aQ : Aside0 (w.heap.size ≤ aE) := ⟨h5_⟩
                    have aX : Aside0 (w.heap.size ≤ aE) := ⟨h6_⟩
                    have bB : Aside0 (aG ≠ aE) := ⟨h7_⟩
                    have bC : Aside0 (aE ≠ aG) := ⟨h8_⟩
                    have bD : Aside0 (aD ≠ aE) := ⟨h9_⟩
                    have bE : Aside0 (aE ≠ aD) := ⟨h10_⟩
                    have bF : Aside0 (aT ≠ aE) := ⟨h11_⟩
                    have bG : Aside0 (aE ≠ aT) := ⟨h12_⟩
                    have bK : Aside0 (Below w.heap.size w w44) := ⟨h13_⟩
                    clear aA aC aH HB h0_ h1_ h2_ h3_ h4_ h5_ h6_ h7_ h8_ h9_ h10_ h11_ h12_ h13_
                    have aU := aI
                    have aA := aJ
                    have aC := aK
                    have aH := aN
                    have aV := aP
                    have bQ := aQ
                    have bM := aX
                    have aZ := bB
                    have bI := bC
                    have bA := bD
                    have bN := bE
                    have bH := bF
                    have bJ := bG
                    have HB := bK
                    clear aI aJ aK aN aP aQ aX bB bC bD bE bF bG bK
                    have aW : w44.cell? ⟨aG, 0, none⟩ = some (.int .i64 a0_0) ∧ w44.cell? ⟨aG, 1, none⟩ = some (.int .i64 a0_1) ∧ w44.cell? ⟨aG, 2, none⟩ = some (.slice A0_2 l0_2.length c0_2) ∧ w44.cell? ⟨aD, 0, none⟩ = some (.int .i64 a1_0) ∧ w44.cell? ⟨aD, 1, none⟩ = some (.int .i64 a1_1) ∧ w44.cell? ⟨aD, 2, none⟩ = some (.int .i64 a1_2) := hS_
                    refine norm_ (a' := ?_) ?_ ?_
                    rotate_left
                    · simp only [putAll, Act.put, List.setIfInBounds_toArray, List.set_cons_zero, List.set_cons_succ]
                      rfl
                    refine one_ (i := 4) (N := some 11) #[true, true, true, true, true, true, true, false, false, true, false] rfl rfl (one_of HT_.out (by kernel_rfl)) (by decide) (fun K hK => ?_)
                    refine goes_ Try.func23 (by kernel_rfl) rfl #[.slice A0_2 l0_2.length c0_2] (by rfl) rfl rfl (by (try simp only [List.map_toArray, List.map_cons, List.map_nil]); first | done | rfl | (simp only [List.length_drop, List.length_take]; rfl)) ?_
                    with_reducible refine (slices_Clone_impl_Clue_impl_Clue.calls _ _ l0_2 t328 _ ?side1 ?side2 A3.out).mono ?_
                    (case side1 => repeat (first | exact (Kd.C_below HR0_2.out HB.out) | (with_reducible refine Kd.C_alloc ?_ _) | (with_reducible refine Kd.C_drewN ?_ _) | (with_reducible refine Kd.C_drew ?_)))
                    (case side2 => exact bT.out)
                    rintro e w45 ⟨v329, rfl, ho0, hb⟩
                    refine ⟨_, rfl, ?_⟩
                    have aI := aM (Kd.R_elder' aU.out (Kd.R_base ho0) hb)
                    have aJ := aM (Kd.R_lower (Kd.R_newB (Kd.R_new' ho0 (Kd.R_lt aU.out)) (g := aD) (o := .cells #[.int .i64 a1_0, .int .i64 a1_1, .int .i64 a1_2] 37 (0, 0)) aC.out) (below_size HB.out))
                    have aK := aM (blk_below aA.out hb)
                    have aN := aM (blk_below aC.out hb)
                    have aP := aM (blk_below aH.out hb)
                    have aQ := aM (blk_below aV.out hb)
                    have aX := aM (bp_ HB.out hb)
                    clear aU aA aC aH aV HB
                    have aU := aI
                    have aY := aJ
                    have aA := aK
                    have aC := aN
                    have aH := aP
                    have aV := aQ
                    have HB := aX
                    clear aI aJ aK aN aP aQ aX
                    (try clear hb)
                    (try clear hb2)
                    (try clear hk)
                    (try clear hi)
                    (try clear ho0)
                    refine hK.out _ _ ⟨(blk_cell aA.out 0).trans rfl, (blk_cell aA.out 1).trans rfl, (blk_cell aA.out 2).trans rfl, (blk_cell aC.out 0).trans rfl, (blk_cell aC.out 1).trans rfl, (blk_cell aC.out 2).trans rfl⟩ (fun aW => ?_)
                    clear hK K
                    refine norm_ (a' := ?_) ?_ ?_
                    rotate_left
                    · show Act.put _ (some 11) _ = _
                      simp only [Act.put, List.setIfInBounds_toArray, List.set_cons_zero, List.set_cons_succ, i64_w, i32_w]
                      rfl
                    exact norm_ (by first | (simp only [putAll, Act.put, List.setIfInBounds_toArray, List.set_cons_zero, List.set_cons_succ]; done) | (simp only [putAll, Act.put, List.setIfInBounds_toArray, List.set_cons_zero, List.set_cons_succ]; rfl)) (hJ4_6_9 (v329, v332, aE) _ ⟨aW, (by (with_reducible repeat (first | apply Kd.R_alloc | apply Kd.R_drewN | apply Kd.R_drew)); exact Kd.R_mono aY.out (fun _ hk => ⟨hk.1.2, hk.2⟩)), (by (with_reducible repeat (first | apply Kd.R_alloc | apply Kd.R_drewN | apply Kd.R_drew)); exact Kd.R_mono aU.out (fun _ hk => ⟨hk.2, hk.1⟩)), aA.out, aC.out, aH.out, aV.out, bQ.out, bM.out, aZ.out, bI.out, bA.out, bN.out, bH.out, bJ.out, HB.out⟩)
                · skip
                  rintro ⟨v329, aE⟩ w43 ⟨hS_, h0_, h1_, h2_, h3_, h4_, h5_, h6_, h7_, h8_, h9_, h10_, h11_, h12_, h13_⟩
                  have aI : Aside0 (Kd.R k37 37 w43 w.heap.size (fun k_ => k_ ≠ aD) v329 t328) := ⟨h0_⟩
                  have aJ : Aside0 (w43.heap[aG]? = some (.cells #[.int .i64 a0_0, .int .i64 a0_1, .slice A0_2 l0_2.length c0_2] 33 (0, 0))) := ⟨h1_⟩
                  have aK : Aside0 (w43.heap[aD]? = some (.cells #[.int .i64 a1_0, .int .i64 a1_1, .int .i64 a1_2] 37 (0, 0))) := ⟨h2_⟩
                  have aN : Aside0 (w43.heap[aT]? = some (.cells #[.int .i64 0, .int .i64 0, .slice none 0 0] 33 (0, 0))) := ⟨h3_⟩
                  have aP : Aside0 (w43.heap[aE]? = some (.cells #[.int .i64 0, .int .i64 0, .slice none 0 0] 33 (0, 0))) := ⟨h4_⟩
                  have aQ : Aside0 (w.heap.size ≤ aE) := ⟨h5_⟩
                  have aX : Aside0 (w.heap.size ≤ aE) := ⟨h6_⟩
                  have bB : Aside0 (aG ≠ aE) := ⟨h7_⟩
                  have bC : Aside0 (aE ≠ aG) := ⟨h8_⟩
                  have bD : Aside0 (aD ≠ aE) := ⟨h9_⟩
                  have bE : Aside0 (aE ≠ aD) := ⟨h10_⟩
                  have bF : Aside0 (aT ≠ aE) := ⟨h11_⟩
                  have bG : Aside0 (aE ≠ aT) := ⟨h12_⟩
                  have bK : Aside0 (Below w.heap.size w w43) := ⟨h13_⟩
                  clear aA aC aH HB h0_ h1_ h2_ h3_ h4_ h5_ h6_ h7_ h8_ h9_ h10_ h11_ h12_ h13_
                  have aY := aI
                  have aA := aJ
                  have aC := aK
                  have aH := aN
                  have aV := aP
                  have bQ := aQ
                  have bM := aX
                  have aZ := bB
                  have bI := bC
                  have bA := bD
                  have bN := bE
                  have bH := bF
                  have bJ := bG
                  have HB := bK
                  clear aI aJ aK aN aP aQ aX bB bC bD bE bF bG bK
                  have aW : w43.cell? ⟨aG, 0, none⟩ = some (.int .i64 a0_0) ∧ w43.cell? ⟨aG, 1, none⟩ = some (.int .i64 a0_1) ∧ w43.cell? ⟨aG, 2, none⟩ = some (.slice A0_2 l0_2.length c0_2) ∧ w43.cell? ⟨aD, 0, none⟩ = some (.int .i64 a1_0) ∧ w43.cell? ⟨aD, 1, none⟩ = some (.int .i64 a1_1) ∧ w43.cell? ⟨aD, 2, none⟩ = some (.int .i64 a1_2) := hS_
                  refine norm_ (a' := ?_) ?_ ?_
                  rotate_left
                  · simp only [putAll, Act.put, List.setIfInBounds_toArray, List.set_cons_zero, List.set_cons_succ]
                    rfl
                  refine one_ (i := 6) (N := some 13) #[true, true, true, true, true, true, true, false, false, true, false] rfl rfl (one_of HT_.out (by kernel_rfl)) (by decide) (fun K hK => ?_)
                  refine Kd.R_lit_step k37 _ 37 ?hg (N := 13) ?hd (xs := ([(⟨a1_0, a1_1, a1_2⟩ : S37)] : List (S37))) (inner := [.int .i64 a1_0, .int .i64 a1_1, .int .i64 a1_2]) (ok := fun _ => True) (okp := fun _ => True) ?hr ?hp (fun _ hk => hk) trivial (Below.refl _ _) (Nat.le_refl _) (by simp) ?_; (case hd => rfl); (case hg => rfl); (case hr => first | (go_simp; done) | (go_simp; rfl)); (case hp => exact (Reps.c3 (show Kd.M k37 _ _ _ (⟨a1_0, a1_1, a1_2⟩ : S37) [.int .i64 a1_0, .int .i64 a1_1, .int .i64 a1_2] from (k37_mkM _ _ _ (⟨a1_0, a1_1, a1_2⟩ : S37) )) (Reps.none _ _)))
                  intro v332 w44 ho45 hb hg_ hnew_
                  clear hg_ hnew_
                  (first | rw [← bS.out] at ho45 | (simp only [Int.reduceToNat] at ho45; rw [← bS.out] at ho45))
                  have aI := aM (Kd.R_elder' aY.out (Kd.R_base ho45) hb)
                  have aJ := aM (Kd.R_lower (Kd.R_newB (Kd.R_new' ho45 (Kd.R_lt aY.out)) (g := aD) (o := .cells #[.int .i64 a1_0, .int .i64 a1_1, .int .i64 a1_2] 37 (0, 0)) aC.out) (below_size HB.out))
                  have aK := aM (blk_below aA.out hb)
                  have aN := aM (blk_below aC.out hb)
                  have aP := aM (blk_below aH.out hb)
                  have aQ := aM (blk_below aV.out hb)
                  have aX := aM (bp_ HB.out hb)
                  clear aY aA aC aH aV HB
                  have aY := aI
                  have aU := aJ
                  have aA := aK
                  have aC := aN
                  have aH := aP
                  have aV := aQ
                  have HB := aX
                  clear aI aJ aK aN aP aQ aX hb ho45
                  refine hK.out _ _ ⟨(blk_cell aA.out 0).trans rfl, (blk_cell aA.out 1).trans rfl, (blk_cell aA.out 2).trans rfl, (blk_cell aC.out 0).trans rfl, (blk_cell aC.out 1).trans rfl, (blk_cell aC.out 2).trans rfl⟩ (fun aW => ?_)
                  clear hK K
                  refine norm_ (a' := ?_) ?_ ?_
                  rotate_left
                  · show Act.put _ (some 13) _ = _
                    simp only [Act.put, List.setIfInBounds_toArray, List.set_cons_zero, List.set_cons_succ, i64_w, i32_w]
                    rfl
                  exact norm_ (by first | (simp only [putAll, Act.put, List.setIfInBounds_toArray, List.set_cons_zero, List.set_cons_succ]; done) | (simp only [putAll, Act.put, List.setIfInBounds_toArray, List.set_cons_zero, List.set_cons_succ]; rfl)) (hJ4_6_9 (v329, v332, aE) _ ⟨aW, (by (with_reducible repeat (first | apply Kd.R_alloc | apply Kd.R_drewN | apply Kd.R_drew)); exact Kd.R_mono aY.out (fun _ hk => ⟨hk.2, hk.1⟩)), (by (with_reducible repeat (first | apply Kd.R_alloc | apply Kd.R_drewN | apply Kd.R_drew)); exact Kd.R_mono aU.out (fun _ hk => ⟨hk.1.2, hk.2⟩)), aA.out, aC.out, aH.out, aV.out, bQ.out, bM.out, aZ.out, bI.out, bA.out, bN.out, bH.out, bJ.out, HB.out⟩)
              · skip
                rintro ⟨v329, v332⟩ w44 ⟨hS_, h0_, h1_, h2_, h3_, h4_, h5_⟩
                have aI : Aside0 (Kd.R k37 37 w44 w.heap.size (fun k_ => some k_ ≠ (v332 : Value).ownBlock ∧ k_ ≠ aD) v329 t328) := ⟨h0_⟩
                have aJ : Aside0 (Kd.R k37 37 w44 w.heap.size (fun k_ => some k_ ≠ (v329 : Value).ownBlock ∧ k_ ≠ aD) v332 bL) := ⟨h1_⟩
                have aK : Aside0 (w44.heap[aG]? = some (.cells #[.int .i64 a0_0, .int .i64 a0_1, .slice A0_2 l0_2.length c0_2] 33 (0, 0))) := ⟨h2_⟩
                have aN : Aside0 (w44.heap[aD]? = some (.cells #[.int .i64 a1_0, .int .i64 a1_1, .int .i64 a1_2] 37 (0, 0))) := ⟨h3_⟩
                have aP : Aside0 (w44.heap[aT]? = some (.cells #[.int .i64 0, .int .i64 0, .slice none 0 0] 33 (0, 0))) := ⟨h4_⟩
                have aQ : Aside0 (Below w.heap.size w w44) := ⟨h5_⟩
                clear aA aC aH HB h0_ h1_ h2_ h3_ h4_ h5_
                have aY := aI
                have aU := aJ
                have aA := aK
                have aC := aN
                have aH := aP
                have HB := aQ
                clear aI aJ aK aN aP aQ
                have aW : w44.cell? ⟨aG, 0, none⟩ = some (.int .i64 a0_0) ∧ w44.cell? ⟨aG, 1, none⟩ = some (.int .i64 a0_1) ∧ w44.cell? ⟨aG, 2, none⟩ = some (.slice A0_2 l0_2.length c0_2) ∧ w44.cell? ⟨aD, 0, none⟩ = some (.int .i64 a1_0) ∧ w44.cell? ⟨aD, 1, none⟩ = some (.int .i64 a1_1) ∧ w44.cell? ⟨aD, 2, none⟩ = some (.int .i64 a1_2) := hS_
                obtain ⟨dA, dB, dP⟩ := Kd.R_slice aU.out
                (first | subst dP | (injection dP with f1_ f2_ f3_; have f4_ := f1_.symm; have f5_ := f3_.symm; clear f1_ f2_ f3_; subst f4_; subst f5_))
                refine norm_ (a' := ?_) ?_ ?_
                rotate_left
                · simp only [putAll, Act.put, List.setIfInBounds_toArray, List.set_cons_zero, List.set_cons_succ]
                  rfl
                refine two_ (i := 7) (j := 9) (Ni := some 14) (Nj := some 6) #[true, true, true, true, true, true, true, true, false, false, false] #[true, true, true, true, true, true, true, false, false, true, false] rfl rfl rfl rfl (two_of HT_.out (by kernel_rfl)) (by decide) (by decide) (fun K hK => ?_) (fun K hK => ?_)
                · skip
                  refine Kd.R_append_rows_step k37 (w0 := w) w.heap.size (by rfl) (.tmp 11) (.tmp 13) 31 37 (.agg #[(.int .i64 0), (.int .i64 0), (.int .i64 0)]) 24 rfl Try.underlying31 info37 rfl (by decide) (by omega) v329 t328 bL _ _ _ (fun k_ => some k_ ≠ (.slice dA bL.length dB : Value).ownBlock ∧ k_ ≠ aD) (fun _ => False) rfl rfl ?aO ?aR (fun _ _ h => h) (fun _ h => h.elim) ?aF ?aB ?aS ?aL ?_
                  (case aR => repeat (first | exact (Kd.R_reads' aU.out).2.2 | (with_reducible refine Kd.C_alloc ?_ _) | (with_reducible refine Kd.C_drewN ?_ _) | (with_reducible refine Kd.C_drew ?_)))
                  (case aB => exact HB.out)
                  (case aF => exact (fun k_ hk => ⟨Kd.fresh' (Kd.R_lt aU.out) k_ hk, Kd.freshB (g := aD) (o := .cells #[.int .i64 a1_0, .int .i64 a1_1, .int .i64 a1_2] 37 (0, 0)) aC.out k_ hk⟩))
                  (case aO => exact aY.out)
                  (case aS => exact (below_size HB.out))
                  (case aL => have := LMc4.out; omega)
                  intro v335 w45 ho hb hg hat
                  rw [← bZ.out] at ho
                  have aI := aM (blk_grown aA.out hg (Kd.R_ne aY.out aA.out (by decide)))
                  have aJ := aM (blk_grown aC.out hg (Kd.R_away aY.out (fun _ hk => hk.2)))
                  have aK := aM (blk_grown aH.out hg (Kd.R_ne aY.out aH.out (by decide)))
                  have aN := aM (Kd.R_after (ok := (fun k_ => k_ ≠ aD)) (by (with_reducible repeat (first | apply Kd.R_alloc | apply Kd.R_drewN | apply Kd.R_drew)); exact Kd.R_mono aU.out (fun _ hk => ⟨hk.2, hk.1⟩)) hg hat)
                  have aP := aM (hb)
                  have aQ := aM (ho)
                  clear aA aC aH aU HB aY
                  have aA := aI
                  have aC := aJ
                  have aH := aK
                  have aU := aN
                  have HB := aP
                  have bO := aQ
                  clear aI aJ aK aN aP aQ ho hb hg hat
                  obtain ⟨cS, cT, cK⟩ := Kd.R_slice bO.out
                  (first | subst cK | (injection cK with f1_ f2_ f3_; have f4_ := f1_.symm; have f5_ := f3_.symm; clear f1_ f2_ f3_; subst f4_; subst f5_))
                  refine hK.out _ _ ⟨(blk_cell aA.out 0).trans rfl, (blk_cell aA.out 1).trans rfl, (blk_cell aA.out 2).trans rfl, (blk_cell aC.out 0).trans rfl, (blk_cell aC.out 1).trans rfl, (blk_cell aC.out 2).trans rfl⟩ (fun aW => ?_)
                  clear hK K
                  refine norm_ (a' := ?_) ?_ ?_
                  rotate_left
                  · show Act.put _ (some 14) _ = _
                    simp only [Act.put, List.setIfInBounds_toArray, List.set_cons_zero, List.set_cons_succ, i64_w, i32_w]
                    rfl
                  refine pure_ (i := 8) (N := some 15) (v := ?_) (a' := ?_) #[true, true, true, true, true, true, true, true, true, false, false] rfl rfl (any_of HT_.out (by kernel_rfl)) (fun _ _ _ h => h) (Or.inl ⟨by rfl, ?_⟩) ?_ ?_
                  rotate_left
                  · intro w'
                    go_simp
                    with_reducible rfl
                  rotate_left
                  · simp only [Act.put, List.setIfInBounds_toArray, List.set_cons_zero, List.set_cons_succ, i64_w, i32_w]
                    rfl
                  exact norm_ (by first | (simp only [putAll, Act.put, List.setIfInBounds_toArray, List.set_cons_zero, List.set_cons_succ]; done) | (simp only [putAll, Act.put, List.setIfInBounds_toArray, List.set_cons_zero, List.set_cons_succ]; rfl)) (hJ4_6_7 (v329, .slice dA bL.length dB, .slice cS bP.length cT) _ ⟨aW, (by (with_reducible repeat (first | apply Kd.R_alloc | apply Kd.R_drewN | apply Kd.R_drew)); exact Kd.R_mono aU.out (fun _ hk => ⟨hk.2, hk.1⟩)), bO.out, aA.out, aC.out, aH.out, HB.out⟩)
                · skip
                  refine box_step ?hg (N := 6) ?hd (cs := #[.int .i64 0, .int .i64 0, .slice none 0 0]) (t := 33) ?hr ?_; (case hd => rfl); (case hg => rfl); (case hr => first | (go_simp; done) | (go_simp; rfl))
                  intro aE hg w45 hbox hb
                  have aI := aM (Kd.R_below aY.out hb)
                  have aJ := aM (Kd.R_below aU.out hb)
                  have aK := aM (blk_below aA.out hb)
                  have aN := aM (blk_below aC.out hb)
                  have aP := aM (blk_below aH.out hb)
                  have aQ := aM (bp_ HB.out hb)
                  have aX := aM (hbox)
                  have bB := aM ((by rw [hg]; exact (below_size HB.out) : w.heap.size ≤ aE))
                  have bC := aM ((by rw [hg]; exact (below_size HB.out) : w.heap.size ≤ aE))
                  have bD := aM ((by rw [hg]; exact Nat.ne_of_lt (blk_lt aA.out) : aG ≠ aE))
                  have bE := aM ((by rw [hg]; exact Nat.ne_of_gt (blk_lt aA.out) : aE ≠ aG))
                  have bF := aM ((by rw [hg]; exact Nat.ne_of_lt (blk_lt aC.out) : aD ≠ aE))
                  have bG := aM ((by rw [hg]; exact Nat.ne_of_gt (blk_lt aC.out) : aE ≠ aD))
                  have bK := aM ((by rw [hg]; exact Nat.ne_of_lt (blk_lt aH.out) : aT ≠ aE))
                  have bR := aM ((by rw [hg]; exact Nat.ne_of_gt (blk_lt aH.out) : aE ≠ aT))
                  clear aY aU aA aC aH HB
                  have aY := aI
                  have aU := aJ
                  have aA := aK
                  have aC := aN
                  have aH := aP
                  have HB := aQ
                  have aV := aX
                  have bQ := bB
                  have bM := bC
                  have aZ := bD
                  have bI := bE
                  have bA := bF
                  have bN := bG
                  have bH := bK
                  have bJ := bR
                  clear aI aJ aK aN aP aQ aX bB bC bD bE bF bG bK bR hb hbox hg
                  refine hK.out _ _ ⟨(blk_cell aA.out 0).trans rfl, (blk_cell aA.out 1).trans rfl, (blk_cell aA.out 2).trans rfl, (blk_cell aC.out 0).trans rfl, (blk_cell aC.out 1).trans rfl, (blk_cell aC.out 2).trans rfl⟩ (fun aW => ?_)
                  clear hK K
                  refine norm_ (a' := ?_) ?_ ?_
                  rotate_left
                  · show Act.put _ (some 6) _ = _
                    simp only [Act.put, List.setIfInBounds_toArray, List.set_cons_zero, List.set_cons_succ, i64_w, i32_w]
                    rfl
                  exact norm_ (by first | (simp only [putAll, Act.put, List.setIfInBounds_toArray, List.set_cons_zero, List.set_cons_succ]; done) | (simp only [putAll, Act.put, List.setIfInBounds_toArray, List.set_cons_zero, List.set_cons_succ]; rfl)) (hJ4_6_9 (v329, .slice dA bL.length dB, aE) _ ⟨aW, aY.out, aU.out, aA.out, aC.out, aH.out, aV.out, bQ.out, bM.out, aZ.out, bI.out, bA.out, bN.out, bH.out, bJ.out, HB.out⟩)
            · skip
              rintro ⟨v329, v332, aE⟩ w45 ⟨hS_, h0_, h1_, h2_, h3_, h4_, h5_, h6_, h7_, h8_, h9_, h10_, h11_, h12_, h13_, h14_⟩
              have aI : Aside0 (Kd.R k37 37 w45 w.heap.size (fun k_ => some k_ ≠ (v332 : Value).ownBlock ∧ k_ ≠ aD) v329 t328) := ⟨h0_⟩
              have aJ : Aside0 (Kd.R k37 37 w45 w.heap.size (fun k_ => some k_ ≠ (v329 : Value).ownBlock ∧ k_ ≠ aD) v332 bL) := ⟨h1_⟩
              have aK : Aside0 (w45.heap[aG]? = some (.cells #[.int .i64 a0_0, .int .i64 a0_1, .slice A0_2 l0_2.length c0_2] 33 (0, 0))) := ⟨h2_⟩
              have aN : Aside0 (w45.heap[aD]? = some (.cells #[.int .i64 a1_0, .int .i64 a1_1, .int .i64 a1_2] 37 (0, 0))) := ⟨h3_⟩
              have aP : Aside0 (w45.heap[aT]? = some (.cells #[.int .i64 0, .int .i64 0, .slice none 0 0] 33 (0, 0))) := ⟨h4_⟩
              have aQ : Aside0 (w45.heap[aE]? = some (.cells #[.int .i64 0, .int .i64 0, .slice none 0 0] 33 (0, 0))) := ⟨h5_⟩
              have aX : Aside0 (w.heap.size ≤ aE) := ⟨h6_⟩
              have bB : Aside0 (w.heap.size ≤ aE) := ⟨h7_⟩
              have bC : Aside0 (aG ≠ aE) := ⟨h8_⟩
              have bD : Aside0 (aE ≠ aG) := ⟨h9_⟩
              have bE : Aside0 (aD ≠ aE) := ⟨h10_⟩
              have bF : Aside0 (aE ≠ aD) := ⟨h11_⟩
              have bG : Aside0 (aT ≠ aE) := ⟨h12_⟩
              have bK : Aside0 (aE ≠ aT) := ⟨h13_⟩
              have bR : Aside0 (Below w.heap.size w w45) := ⟨h14_⟩
              clear aA aC aH HB h0_ h1_ h2_ h3_ h4_ h5_ h6_ h7_ h8_ h9_ h10_ h11_ h12_ h13_ h14_
              have aY := aI
              have aU := aJ
              have aA := aK
              have aC := aN
              have aH := aP
              have aV := aQ
              have bQ := aX
              have bM := bB
              have aZ := bC
              have bI := bD
              have bA := bE
              have bN := bF
              have bH := bG
              have bJ := bK
              have HB := bR
              clear aI aJ aK aN aP aQ aX bB bC bD bE bF bG bK bR
              have aW : w45.cell? ⟨aG, 0, none⟩ = some (.int .i64 a0_0) ∧ w45.cell? ⟨aG, 1, none⟩ = some (.int .i64 a0_1) ∧ w45.cell? ⟨aG, 2, none⟩ = some (.slice A0_2 l0_2.length c0_2) ∧ w45.cell? ⟨aD, 0, none⟩ = some (.int .i64 a1_0) ∧ w45.cell? ⟨aD, 1, none⟩ = some (.int .i64 a1_1) ∧ w45.cell? ⟨aD, 2, none⟩ = some (.int .i64 a1_2) := hS_
              obtain ⟨cS, cT, cK⟩ := Kd.R_slice aU.out
              (first | subst cK | (injection cK with f1_ f2_ f3_; have f4_ := f1_.symm; have f5_ := f3_.symm; clear f1_ f2_ f3_; subst f4_; subst f5_))
              refine norm_ (a' := ?_) ?_ ?_
              rotate_left
              · simp only [putAll, Act.put, List.setIfInBounds_toArray, List.set_cons_zero, List.set_cons_succ]
                rfl
              refine one_ (i := 7) (N := some 14) #[true, true, true, true, true, true, true, true, false, true, false] rfl rfl (one_of HT_.out (by kernel_rfl)) (by decide) (fun K hK => ?_)
              refine Kd.R_append_rows_step k37 (w0 := w) w.heap.size (by rfl) (.tmp 11) (.tmp 13) 31 37 (.agg #[(.int .i64 0), (.int .i64 0), (.int .i64 0)]) 24 rfl Try.underlying31 info37 rfl (by decide) (by omega) v329 t328 bL _ _ _ (fun k_ => some k_ ≠ (.slice cS bL.length cT : Value).ownBlock ∧ k_ ≠ aD) (fun _ => False) rfl rfl ?aO ?aR (fun _ _ h => h) (fun _ h => h.elim) ?aF ?aB ?aS ?aL ?_
              (case aR => repeat (first | exact (Kd.R_reads' aU.out).2.2 | (with_reducible refine Kd.C_alloc ?_ _) | (with_reducible refine Kd.C_drewN ?_ _) | (with_reducible refine Kd.C_drew ?_)))
              (case aB => exact HB.out)
              (case aF => exact (fun k_ hk => ⟨Kd.fresh' (Kd.R_lt aU.out) k_ hk, Kd.freshB (g := aD) (o := .cells #[.int .i64 a1_0, .int .i64 a1_1, .int .i64 a1_2] 37 (0, 0)) aC.out k_ hk⟩))
              (case aO => exact aY.out)
              (case aS => exact (below_size HB.out))
              (case aL => have := LMc4.out; omega)
              intro v335 w46 ho hb hg hat
              rw [← bZ.out] at ho
              have aI := aM (blk_grown aA.out hg (Kd.R_ne aY.out aA.out (by decide)))
              have aJ := aM (blk_grown aC.out hg (Kd.R_away aY.out (fun _ hk => hk.2)))
              have aK := aM (blk_grown aH.out hg (Kd.R_ne aY.out aH.out (by decide)))
              have aN := aM (Kd.R_after (ok := (fun k_ => k_ ≠ aD)) (by (with_reducible repeat (first | apply Kd.R_alloc | apply Kd.R_drewN | apply Kd.R_drew)); exact Kd.R_mono aU.out (fun _ hk => ⟨hk.2, hk.1⟩)) hg hat)
              have aP := aM (blk_grown aV.out hg (Kd.R_ne aY.out aV.out (by decide)))
              have aQ := aM (hb)
              have aX := aM (ho)
              clear aA aC aH aU aV HB aY
              have aA := aI
              have aC := aJ
              have aH := aK
              have aU := aN
              have aV := aP
              have HB := aQ
              have bO := aX
              clear aI aJ aK aN aP aQ aX ho hb hg hat
              obtain ⟨dC, dD, cL⟩ := Kd.R_slice bO.out
              (first | subst cL | (injection cL with f1_ f2_ f3_; have f4_ := f1_.symm; have f5_ := f3_.symm; clear f1_ f2_ f3_; subst f4_; subst f5_))
              refine hK.out _ _ ⟨(blk_cell aA.out 0).trans rfl, (blk_cell aA.out 1).trans rfl, (blk_cell aA.out 2).trans rfl, (blk_cell aC.out 0).trans rfl, (blk_cell aC.out 1).trans rfl, (blk_cell aC.out 2).trans rfl⟩ (fun aW => ?_)
              clear hK K
              refine norm_ (a' := ?_) ?_ ?_
              rotate_left
              · show Act.put _ (some 14) _ = _
                simp only [Act.put, List.setIfInBounds_toArray, List.set_cons_zero, List.set_cons_succ, i64_w, i32_w]
                rfl
              refine pure_ (i := 8) (N := some 15) (v := ?_) (a' := ?_) #[true, true, true, true, true, true, true, true, true, true, false] rfl rfl (any_of HT_.out (by kernel_rfl)) (fun _ _ _ h => h) (Or.inl ⟨by rfl, ?_⟩) ?_ ?_
              rotate_left
              · intro w'
                go_simp
                with_reducible rfl
              rotate_left
              · simp only [Act.put, List.setIfInBounds_toArray, List.set_cons_zero, List.set_cons_succ, i64_w, i32_w]
                rfl
              exact norm_ (by first | (simp only [putAll, Act.put, List.setIfInBounds_toArray, List.set_cons_zero, List.set_cons_succ]; done) | (simp only [putAll, Act.put, List.setIfInBounds_toArray, List.set_cons_zero, List.set_cons_succ]; rfl)) (hJ4_6_7_9 (v329, .slice cS bL.length cT, .slice dC bP.length dD, aE) _ ⟨aW, (by (with_reducible repeat (first | apply Kd.R_alloc | apply Kd.R_drewN | apply Kd.R_drew)); exact Kd.R_mono aU.out (fun _ hk => ⟨hk.2, hk.1⟩)), bO.out, aA.out, aC.out, aH.out, aV.out, bQ.out, bM.out, aZ.out, bI.out, bA.out, bN.out, bH.out, bJ.out, HB.out⟩)
          · skip
            rintro ⟨v329, v332, v335⟩ w47 ⟨hS_, h0_, h1_, h2_, h3_, h4_, h5_⟩
            have aI : Aside0 (Kd.R k37 37 w47 w.heap.size (fun k_ => some k_ ≠ (v335 : Value).ownBlock ∧ k_ ≠ aD) v332 bL) := ⟨h0_⟩
            have aJ : Aside0 (Kd.R k37 37 w47 w.heap.size (fun k_ => some k_ ≠ (v332 : Value).ownBlock ∧ k_ ≠ aD) v335 bP) := ⟨h1_⟩
            have aK : Aside0 (w47.heap[aG]? = some (.cells #[.int .i64 a0_0, .int .i64 a0_1, .slice A0_2 l0_2.length c0_2] 33 (0, 0))) := ⟨h2_⟩
            have aN : Aside0 (w47.heap[aD]? = some (.cells #[.int .i64 a1_0, .int .i64 a1_1, .int .i64 a1_2] 37 (0, 0))) := ⟨h3_⟩
            have aP : Aside0 (w47.heap[aT]? = some (.cells #[.int .i64 0, .int .i64 0, .slice none 0 0] 33 (0, 0))) := ⟨h4_⟩
            have aQ : Aside0 (Below w.heap.size w w47) := ⟨h5_⟩
            clear aA aC aH HB h0_ h1_ h2_ h3_ h4_ h5_
            have aU := aI
            have bO := aJ
            have aA := aK
            have aC := aN
            have aH := aP
            have HB := aQ
            clear aI aJ aK aN aP aQ
            have aW : w47.cell? ⟨aG, 0, none⟩ = some (.int .i64 a0_0) ∧ w47.cell? ⟨aG, 1, none⟩ = some (.int .i64 a0_1) ∧ w47.cell? ⟨aG, 2, none⟩ = some (.slice A0_2 l0_2.length c0_2) ∧ w47.cell? ⟨aD, 0, none⟩ = some (.int .i64 a1_0) ∧ w47.cell? ⟨aD, 1, none⟩ = some (.int .i64 a1_1) ∧ w47.cell? ⟨aD, 2, none⟩ = some (.int .i64 a1_2) := hS_
            obtain ⟨dC, dD, cL⟩ := Kd.R_slice bO.out
            (first | subst cL | (injection cL with f1_ f2_ f3_; have f4_ := f1_.symm; have f5_ := f3_.symm; clear f1_ f2_ f3_; subst f4_; subst f5_))
            refine norm_ (a' := ?_) ?_ ?_
            rotate_left
            · simp only [putAll, Act.put, List.setIfInBounds_toArray, List.set_cons_zero, List.set_cons_succ]
              rfl
            refine one_ (i := 9) (N := some 6) #[true, true, true, true, true, true, true, true, true, true, false] rfl rfl (one_of HT_.out (by kernel_rfl)) (by decide) (fun K hK => ?_)
            refine box_step ?hg (N := 6) ?hd (cs := #[.int .i64 0, .int .i64 0, .slice none 0 0]) (t := 33) ?hr ?_; (case hd => rfl); (case hg => rfl); (case hr => first | (go_simp; done) | (go_simp; rfl))
            intro aE hg w49 hbox hb
            have aI := aM (Kd.R_below aU.out hb)
            have aJ := aM (Kd.R_below bO.out hb)
            have aK := aM (blk_below aA.out hb)
            have aN := aM (blk_below aC.out hb)
            have aP := aM (blk_below aH.out hb)
            have aQ := aM (bp_ HB.out hb)
            have aX := aM (hbox)
            have bB := aM ((by rw [hg]; exact (below_size HB.out) : w.heap.size ≤ aE))
            have bC := aM ((by rw [hg]; exact (below_size HB.out) : w.heap.size ≤ aE))
            have bD := aM ((by rw [hg]; exact Nat.ne_of_lt (blk_lt aA.out) : aG ≠ aE))
            have bE := aM ((by rw [hg]; exact Nat.ne_of_gt (blk_lt aA.out) : aE ≠ aG))
            have bF := aM ((by rw [hg]; exact Nat.ne_of_lt (blk_lt aC.out) : aD ≠ aE))
            have bG := aM ((by rw [hg]; exact Nat.ne_of_gt (blk_lt aC.out) : aE ≠ aD))
            have bK := aM ((by rw [hg]; exact Nat.ne_of_lt (blk_lt aH.out) : aT ≠ aE))
            have bR := aM ((by rw [hg]; exact Nat.ne_of_gt (blk_lt aH.out) : aE ≠ aT))
            clear aU bO aA aC aH HB
            have aU := aI
            have bO := aJ
            have aA := aK
            have aC := aN
            have aH := aP
            have HB := aQ
            have aV := aX
            have bQ := bB
            have bM := bC
            have aZ := bD
            have bI := bE
            have bA := bF
            have bN := bG
            have bH := bK
            have bJ := bR
            clear aI aJ aK aN aP aQ aX bB bC bD bE bF bG bK bR hb hbox hg
            refine hK.out _ _ ⟨(blk_cell aA.out 0).trans rfl, (blk_cell aA.out 1).trans rfl, (blk_cell aA.out 2).trans rfl, (blk_cell aC.out 0).trans rfl, (blk_cell aC.out 1).trans rfl, (blk_cell aC.out 2).trans rfl⟩ (fun aW => ?_)
            clear hK K
            refine norm_ (a' := ?_) ?_ ?_
            rotate_left
            · show Act.put _ (some 6) _ = _
              simp only [Act.put, List.setIfInBounds_toArray, List.set_cons_zero, List.set_cons_succ, i64_w, i32_w]
              rfl
            exact norm_ (by first | (simp only [putAll, Act.put, List.setIfInBounds_toArray, List.set_cons_zero, List.set_cons_succ]; done) | (simp only [putAll, Act.put, List.setIfInBounds_toArray, List.set_cons_zero, List.set_cons_succ]; rfl)) (hJ4_6_7_9 (v329, v332, .slice dC bP.length dD, aE) _ ⟨aW, aU.out, bO.out, aA.out, aC.out, aH.out, aV.out, bQ.out, bM.out, aZ.out, bI.out, bA.out, bN.out, bH.out, bJ.out, HB.out⟩)
        rintro ⟨v329, v332, v335, aE⟩ w48 ⟨hS_, h0_, h1_, h2_, h3_, h4_, h5_, h6_, h7_, h8_, h9_, h10_, h11_, h12_, h13_, h14_⟩
        have aI : Aside0 (Kd.R k37 37 w48 w.heap.size (fun k_ => some k_ ≠ (v335 : Value).ownBlock ∧ k_ ≠ aD) v332 bL) := ⟨h0_⟩
        have aJ : Aside0 (Kd.R k37 37 w48 w.heap.size (fun k_ => some k_ ≠ (v332 : Value).ownBlock ∧ k_ ≠ aD) v335 bP) := ⟨h1_⟩
        have aK : Aside0 (w48.heap[aG]? = some (.cells #[.int .i64 a0_0, .int .i64 a0_1, .slice A0_2 l0_2.length c0_2] 33 (0, 0))) := ⟨h2_⟩
        have aN : Aside0 (w48.heap[aD]? = some (.cells #[.int .i64 a1_0, .int .i64 a1_1, .int .i64 a1_2] 37 (0, 0))) := ⟨h3_⟩
        have aP : Aside0 (w48.heap[aT]? = some (.cells #[.int .i64 0, .int .i64 0, .slice none 0 0] 33 (0, 0))) := ⟨h4_⟩
        have aQ : Aside0 (w48.heap[aE]? = some (.cells #[.int .i64 0, .int .i64 0, .slice none 0 0] 33 (0, 0))) := ⟨h5_⟩
        have aX : Aside0 (w.heap.size ≤ aE) := ⟨h6_⟩
        have bB : Aside0 (w.heap.size ≤ aE) := ⟨h7_⟩
        have bC : Aside0 (aG ≠ aE) := ⟨h8_⟩
        have bD : Aside0 (aE ≠ aG) := ⟨h9_⟩
        have bE : Aside0 (aD ≠ aE) := ⟨h10_⟩
        have bF : Aside0 (aE ≠ aD) := ⟨h11_⟩
        have bG : Aside0 (aT ≠ aE) := ⟨h12_⟩
        have bK : Aside0 (aE ≠ aT) := ⟨h13_⟩
        have bR : Aside0 (Below w.heap.size w w48) := ⟨h14_⟩
        clear aA aC aH HB h0_ h1_ h2_ h3_ h4_ h5_ h6_ h7_ h8_ h9_ h10_ h11_ h12_ h13_ h14_
        have aU := aI
        have bO := aJ
        have aA := aK
        have aC := aN
        have aH := aP
        have aV := aQ
        have bQ := aX
        have bM := bB
        have aZ := bC
        have bI := bD
        have bA := bE
        have bN := bF
        have bH := bG
        have bJ := bK
        have HB := bR
        clear aI aJ aK aN aP aQ aX bB bC bD bE bF bG bK bR
        have aW : w48.cell? ⟨aG, 0, none⟩ = some (.int .i64 a0_0) ∧ w48.cell? ⟨aG, 1, none⟩ = some (.int .i64 a0_1) ∧ w48.cell? ⟨aG, 2, none⟩ = some (.slice A0_2 l0_2.length c0_2) ∧ w48.cell? ⟨aD, 0, none⟩ = some (.int .i64 a1_0) ∧ w48.cell? ⟨aD, 1, none⟩ = some (.int .i64 a1_1) ∧ w48.cell? ⟨aD, 2, none⟩ = some (.int .i64 a1_2) := hS_
        obtain ⟨cM, cN, dQ⟩ := Kd.R_slice bO.out
        (first | subst dQ | (injection dQ with f1_ f2_ f3_; have f4_ := f1_.symm; have f5_ := f3_.symm; clear f1_ f2_ f3_; subst f4_; subst f5_))
        refine norm_ (a' := ?_) ?_ ?_
        rotate_left
        · simp only [putAll, Act.put, List.setIfInBounds_toArray, List.set_cons_zero, List.set_cons_succ]
          rfl
        refine one_ (i := 10) (N := none) #[true, true, true, true, true, true, true, true, true, true, true] rfl rfl (one_of HT_.out (by kernel_rfl)) (by decide) (fun K hK => ?_)
        have gB : w48.cell? ⟨aE, 0, none⟩ = some (.int .i64 0) := (blk_cell aV.out 0).trans rfl
        have gC := blk_frozen aV.out 0
        have gD := aZ.out
        have gE := bA.out
        have gF := bH.out
        have gG := bI.out
        have gH := bN.out
        have gI := bJ.out
        have gJ : w48.cell? ⟨aE, 1, none⟩ = some (.int .i64 0) := (blk_cell aV.out 1).trans rfl
        have gK := blk_frozen aV.out 1
        have gL := aZ.out
        have gM := bA.out
        have gN := bH.out
        have gO := bI.out
        have gP := bN.out
        have gQ := bJ.out
        have gR : w48.cell? ⟨aE, 2, none⟩ = some (.slice none 0 0) := (blk_cell aV.out 2).trans rfl
        have gS := blk_frozen aV.out 2
        have gT := aZ.out
        have gU := bA.out
        have gV := bH.out
        have gW := bI.out
        have gX := bN.out
        have gY := bJ.out
        refine skip_ (w1 := ?_) (by rfl) rfl ?_ ?_
        rotate_left
        · go_simp
          rfl
        refine hK.out _ _ ⟨((cell_far (p := ⟨aE, _, none⟩) aZ.out _).trans (((cell_far (p := ⟨aE, _, none⟩) aZ.out _).trans (((cell_far (p := ⟨aE, _, none⟩) aZ.out _).trans (aW.1)))))), ((cell_far (p := ⟨aE, _, none⟩) aZ.out _).trans (((cell_far (p := ⟨aE, _, none⟩) aZ.out _).trans (((cell_far (p := ⟨aE, _, none⟩) aZ.out _).trans (aW.2.1)))))), ((cell_far (p := ⟨aE, _, none⟩) aZ.out _).trans (((cell_far (p := ⟨aE, _, none⟩) aZ.out _).trans (((cell_far (p := ⟨aE, _, none⟩) aZ.out _).trans (aW.2.2.1)))))), ((cell_far (p := ⟨aE, _, none⟩) bA.out _).trans (((cell_far (p := ⟨aE, _, none⟩) bA.out _).trans (((cell_far (p := ⟨aE, _, none⟩) bA.out _).trans (aW.2.2.2.1)))))), ((cell_far (p := ⟨aE, _, none⟩) bA.out _).trans (((cell_far (p := ⟨aE, _, none⟩) bA.out _).trans (((cell_far (p := ⟨aE, _, none⟩) bA.out _).trans (aW.2.2.2.2.1)))))), ((cell_far (p := ⟨aE, _, none⟩) bA.out _).trans (((cell_far (p := ⟨aE, _, none⟩) bA.out _).trans (((cell_far (p := ⟨aE, _, none⟩) bA.out _).trans (aW.2.2.2.2.2))))))⟩ (fun aW => ?_)
        clear hK K
        refine done_ (done_of HT_.out (by kernel_rfl)) ?_
        have gZ := cC.out
        have hA := cD.out
        have hB := cE.out
        have hC := cF.out
        have hD := aZ.out
        have hE := bI.out
        have hF : w48.cell? ⟨aG, 0, none⟩ = some (.int .i64 a0_0) := (blk_cell aA.out 0).trans rfl
        have hG : w48.cell? ⟨aG, 1, none⟩ = some (.int .i64 a0_1) := (blk_cell aA.out 1).trans rfl
        have hH : w48.cell? ⟨aG, 2, none⟩ = some (.slice A0_2 l0_2.length c0_2) := (blk_cell aA.out 2).trans rfl
        have hI := blk_frozen aA.out 0
        have hJ := blk_frozen aA.out 1
        have hL := blk_frozen aA.out 2
        try go_wp2_with (first | ((with_reducible refine gate_callee (f := 24) rfl ?_); refine goesL_ (some 17) rfl rfl Try.func24 (by kernel_rfl) rfl #[.agg #[.int .i64 a0_0, .int .i64 a0_1, .slice A0_2 l0_2.length c0_2]] rfl (by (try simp only [List.map_toArray, List.map_cons, List.map_nil]); first | done | rfl | (simp only [List.length_drop, List.length_take]; rfl)) ?_; (with_reducible refine (impl_IsPuzzle.calls a0_0 a0_1 _ _ l0_2 true _ ?side1 ?side2 A5.out).mono ?_); (case side1 => exact Kd.C_below HR0_2.out (by repeat (first | (with_reducible first | exact HB.out | apply ba_ | apply bn_ | apply bd_ | refine bs_ ?_ bU.out | refine bs_ ?_ bV.out | refine bs_ ?_ bW.out | refine bs_ ?_ bM.out) | exact HB.out))); (case side2 => exact bT.out); rintro e w57 ⟨rfl, hb⟩; refine ⟨_, rfl, ?_⟩; have aI := aM (Kd.R_below (by (with_reducible repeat (first | apply Kd.R_alloc | apply Kd.R_drewN | apply Kd.R_drew)); exact (Kd.R_mono (Kd.R_far (p := ⟨aE, 2, none⟩) (Kd.R_far (p := ⟨aE, 1, none⟩) (Kd.R_far (p := ⟨aE, 0, none⟩) (Kd.R_types aU.out aV.out (by decide)) (fun _ hk => hk.2) (.int .i64 a0_0)) (fun _ hk => hk.2) (.int .i64 a0_1)) (fun _ hk => hk.2) (.slice cM bP.length cN)) (fun _ h_ => h_.1))) hb); have aJ := aM (Kd.R_below (by (with_reducible repeat (first | apply Kd.R_alloc | apply Kd.R_drewN | apply Kd.R_drew)); exact (Kd.R_mono (Kd.R_far (p := ⟨aE, 2, none⟩) (Kd.R_far (p := ⟨aE, 1, none⟩) (Kd.R_far (p := ⟨aE, 0, none⟩) (Kd.R_types bO.out aV.out (by decide)) (fun _ hk => hk.2) (.int .i64 a0_0)) (fun _ hk => hk.2) (.int .i64 a0_1)) (fun _ hk => hk.2) (.slice cM bP.length cN)) (fun _ h_ => h_.1))) hb); have aK := aM (blk_below (g := aG) (o := .cells #[.int .i64 a0_0, .int .i64 a0_1, .slice A0_2 l0_2.length c0_2] 33 (0, 0)) (by (with_reducible repeat (first | refine kn_ ?_ _ | refine blk_drew ?_ | refine ka_ ?_ _)); refine blk_far ?_ aZ.out _; (with_reducible repeat (first | refine kn_ ?_ _ | refine blk_drew ?_ | refine ka_ ?_ _)); refine blk_far ?_ aZ.out _; (with_reducible repeat (first | refine kn_ ?_ _ | refine blk_drew ?_ | refine ka_ ?_ _)); refine blk_far ?_ aZ.out _; (with_reducible repeat (first | refine kn_ ?_ _ | refine blk_drew ?_ | refine ka_ ?_ _)); exact aA.out) hb); have aN := aM (blk_below (g := aD) (o := .cells #[.int .i64 a1_0, .int .i64 a1_1, .int .i64 a1_2] 37 (0, 0)) (by (with_reducible repeat (first | refine kn_ ?_ _ | refine blk_drew ?_ | refine ka_ ?_ _)); refine blk_far ?_ bA.out _; (with_reducible repeat (first | refine kn_ ?_ _ | refine blk_drew ?_ | refine ka_ ?_ _)); refine blk_far ?_ bA.out _; (with_reducible repeat (first | refine kn_ ?_ _ | refine blk_drew ?_ | refine ka_ ?_ _)); refine blk_far ?_ bA.out _; (with_reducible repeat (first | refine kn_ ?_ _ | refine blk_drew ?_ | refine ka_ ?_ _)); exact aC.out) hb); have aP := aM (blk_below (g := aT) (o := .cells #[.int .i64 0, .int .i64 0, .slice none 0 0] 33 (0, 0)) (by (with_reducible repeat (first | refine kn_ ?_ _ | refine blk_drew ?_ | refine ka_ ?_ _)); refine blk_far ?_ bH.out _; (with_reducible repeat (first | refine kn_ ?_ _ | refine blk_drew ?_ | refine ka_ ?_ _)); refine blk_far ?_ bH.out _; (with_reducible repeat (first | refine kn_ ?_ _ | refine blk_drew ?_ | refine ka_ ?_ _)); refine blk_far ?_ bH.out _; (with_reducible repeat (first | refine kn_ ?_ _ | refine blk_drew ?_ | refine ka_ ?_ _)); exact aH.out) hb); have aQ := aM (blk_below (g := aE) (o := .cells #[.int .i64 a0_0, .int .i64 a0_1, .slice cM bP.length cN] 33 (0, 0)) (by (with_reducible repeat (first | refine kn_ ?_ _ | refine blk_drew ?_ | refine ka_ ?_ _)); refine blk_put (cs := #[.int .i64 a0_0, .int .i64 a0_1, .slice none 0 0]) ?_ 2 _ rfl; (with_reducible repeat (first | refine kn_ ?_ _ | refine blk_drew ?_ | refine ka_ ?_ _)); refine blk_put (cs := #[.int .i64 a0_0, .int .i64 0, .slice none 0 0]) ?_ 1 _ rfl; (with_reducible repeat (first | refine kn_ ?_ _ | refine blk_drew ?_ | refine ka_ ?_ _)); refine blk_put (cs := #[.int .i64 0, .int .i64 0, .slice none 0 0]) ?_ 0 _ rfl; (with_reducible repeat (first | refine kn_ ?_ _ | refine blk_drew ?_ | refine ka_ ?_ _)); exact aV.out) hb); have aX := aM (bp_ (by repeat (first | (with_reducible first | exact HB.out | apply ba_ | apply bn_ | apply bd_ | refine bs_ ?_ bU.out | refine bs_ ?_ bV.out | refine bs_ ?_ bW.out | refine bs_ ?_ bM.out) | exact HB.out)) hb); clear aU; clear bO; clear aA; clear aC; clear aH; clear aV; clear HB; have aU := aI; have bO := aJ; have aA := aK; have aC := aN; have aH := aP; have aV := aQ; have HB := aX; clear aI aJ aK aN aP aQ aX; (try clear hb); (try clear hb2); (try clear hk); (try clear hi); have hM := bN.out; have hN := bA.out; have hO := bJ.out; have hP := bH.out; have hQ : w57.cell? ⟨aE, 0, none⟩ = some (.int .i64 a0_0) := (blk_cell aV.out 0).trans rfl; have hR : w57.cell? ⟨aE, 1, none⟩ = some (.int .i64 a0_1) := (blk_cell aV.out 1).trans rfl; have hS : w57.cell? ⟨aE, 2, none⟩ = some (.slice cM bP.length cN) := (blk_cell aV.out 2).trans rfl; have hT := blk_frozen aV.out 0; have hU := blk_frozen aV.out 1; have hV := blk_frozen aV.out 2) | (go_at_call 24; (with_reducible refine (impl_IsPuzzle.calls a0_0 a0_1 _ _ bP false _ ?side1 ?side2 A7.out).mono ?_); (case side1 => repeat (first | exact (Kd.R_reads' bO.out).2.2 | (with_reducible refine Kd.C_alloc ?_ _) | (with_reducible refine Kd.C_drewN ?_ _) | (with_reducible refine Kd.C_drew ?_))); (case side2 => exact (Kd.R_reads' bO.out).2.1); rintro e w61 ⟨rfl, hb⟩; have aI := aM (Kd.R_below (by (with_reducible repeat (first | apply Kd.R_alloc | apply Kd.R_drewN | apply Kd.R_drew)); exact aU.out) hb); have aJ := aM (Kd.R_below (by (with_reducible repeat (first | apply Kd.R_alloc | apply Kd.R_drewN | apply Kd.R_drew)); exact bO.out) hb); have aK := aM (blk_below (g := aG) (o := .cells #[.int .i64 a0_0, .int .i64 a0_1, .slice A0_2 l0_2.length c0_2] 33 (0, 0)) (by (with_reducible repeat (first | refine kn_ ?_ _ | refine blk_drew ?_ | refine ka_ ?_ _)); exact aA.out) hb); have aN := aM (blk_below (g := aD) (o := .cells #[.int .i64 a1_0, .int .i64 a1_1, .int .i64 a1_2] 37 (0, 0)) (by (with_reducible repeat (first | refine kn_ ?_ _ | refine blk_drew ?_ | refine ka_ ?_ _)); exact aC.out) hb); have aP := aM (blk_below (g := aT) (o := .cells #[.int .i64 0, .int .i64 0, .slice none 0 0] 33 (0, 0)) (by (with_reducible repeat (first | refine kn_ ?_ _ | refine blk_drew ?_ | refine ka_ ?_ _)); exact aH.out) hb); have aQ := aM (blk_below (g := aE) (o := .cells #[.int .i64 a0_0, .int .i64 a0_1, .slice cM bP.length cN] 33 (0, 0)) (by (with_reducible repeat (first | refine kn_ ?_ _ | refine blk_drew ?_ | refine ka_ ?_ _)); exact aV.out) hb); have aX := aM (bp_ (by repeat (first | (with_reducible first | exact HB.out | apply ba_ | apply bn_ | apply bd_ | refine bs_ ?_ bU.out | refine bs_ ?_ bV.out | refine bs_ ?_ bW.out | refine bs_ ?_ bM.out) | exact HB.out)) hb); clear aU; clear bO; clear aA; clear aC; clear aH; clear aV; clear HB; have aU := aI; have bO := aJ; have aA := aK; have aC := aN; have aH := aP; have aV := aQ; have HB := aX; clear aI aJ aK aN aP aQ aX; (try clear hb); (try clear hb2); (try clear hk); (try clear hi); have hW := cH.out; have hX := cG.out; have hY : w61.cell? ⟨aT, 0, none⟩ = some (.int .i64 0) := (blk_cell aH.out 0).trans rfl; have hZ : w61.cell? ⟨aT, 1, none⟩ = some (.int .i64 0) := (blk_cell aH.out 1).trans rfl; have iA : w61.cell? ⟨aT, 2, none⟩ = some (.slice none 0 0) := (blk_cell aH.out 2).trans rfl; have iB := blk_frozen aH.out 0; have iC := blk_frozen aH.out 1; have iD := blk_frozen aH.out 2))
        refine bodyPost_ret (results_ct rfl _ _ aT 33 #[.int .i64 0, .int .i64 0, .slice none 0 0] (0, 0) _ rfl (by (with_reducible repeat (first | refine kn_ ?_ _ | refine blk_drew ?_ | refine ka_ ?_ _)); refine blk_put (cs := #[.int .i64 0, .int .i64 0, .slice none 0 0]) ?_ 2 _ rfl; (with_reducible repeat (first | refine kn_ ?_ _ | refine blk_drew ?_ | refine ka_ ?_ _)); refine blk_put (cs := #[.int .i64 0, .int .i64 0, .slice none 0 0]) ?_ 1 _ rfl; (with_reducible repeat (first | refine kn_ ?_ _ | refine blk_drew ?_ | refine ka_ ?_ _)); refine blk_put (cs := #[.int .i64 0, .int .i64 0, .slice none 0 0]) ?_ 0 _ rfl; (with_reducible repeat (first | refine kn_ ?_ _ | refine blk_drew ?_ | refine ka_ ?_ _)); exact aH.out) Try.underlying33 rfl (by kernel_rfl)) rfl ?_
        exact ⟨_, by first | rfl | (simp [errW_none, errW_some] <;> rfl) | (simp [*, errW_none, errW_some] <;> rfl), by first | exact Kd.R_nil _ _ _ _ _ | exact Kd.N_nil _ _ _ _ _ | exact Kd.V_nil _ _ _ _ _ | exact Kd.Q_nil _ _ _ _ _ | exact Kd.S_nil _ _ _ _ _, by repeat (first | (with_reducible first | exact HB.out | apply ba_ | apply bn_ | apply bd_ | refine bs_ ?_ bU.out | refine bs_ ?_ bV.out | refine bs_ ?_ bW.out | refine bs_ ?_ bM.out) | exact HB.out)⟩
    · replace c6 := Bool.eq_false_iff.mpr c6
      subst c6
      have H1 : (some (0, 0, ([] : List (S37)), false)) = some (r1, r2, r3, r4) := by rw [if_neg (show ¬ (false = true) by decide)] at H; exact H
      clear H
      have H := H1
      clear H1
      simp only [Option.some.injEq, Prod.mk.injEq] at H
      obtain ⟨rfl, rfl, rfl, rfl⟩ := H
      go_enter Try.func10, Try.ntmps10
      try go_wp2_with (first | ((with_reducible refine gate_dst (N := 2) rfl ?_); refine box_event ?hg (N := 2) ?hd (cs := #[.int .i64 a0_0, .int .i64 a0_1, .slice A0_2 l0_2.length c0_2]) (t := 33) ?hr ?_; (case hd => rfl); (case hg => rfl); (case hr => first | (go_simp; done) | (go_simp; rfl)); intro aG hg w64 hbox hb; have aI := aM (bp_ HB.out hb); have aJ := aM (hbox); have aK := aM ((by rw [hg]; exact (below_size HB.out) : w.heap.size ≤ aG)); have aN := aM ((by rw [hg]; exact (below_size HB.out) : w.heap.size ≤ aG)); clear HB; have HB := aI; have aA := aJ; have dK := aK; have bU := aN; clear aI aJ aK aN; clear hb hbox hg) | ((with_reducible refine gate_dst (N := 3) rfl ?_); refine box_event ?hg (N := 3) ?hd (cs := #[.int .i64 a1_0, .int .i64 a1_1, .int .i64 a1_2]) (t := 37) ?hr ?_; (case hd => rfl); (case hg => rfl); (case hr => first | (go_simp; done) | (go_simp; rfl)); intro aD hg w65 hbox hb; have aI := aM (blk_below aA.out hb); have aJ := aM (bp_ HB.out hb); have aK := aM (hbox); have aN := aM ((by rw [hg]; exact (below_size HB.out) : w.heap.size ≤ aD)); have aP := aM ((by rw [hg]; exact (below_size HB.out) : w.heap.size ≤ aD)); have aQ := aM ((by rw [hg]; exact Nat.ne_of_lt (blk_lt aA.out) : aG ≠ aD)); have aX := aM ((by rw [hg]; exact Nat.ne_of_gt (blk_lt aA.out) : aD ≠ aG)); clear aA; clear HB; have aA := aI; have HB := aJ; have aC := aK; have dL := aN; have bV := aP; have cC := aQ; have cD := aX; clear aI aJ aK aN aP aQ aX; clear hb hbox hg) | ((with_reducible refine gate_dst (N := 4) rfl ?_); refine box_event ?hg (N := 4) ?hd (cs := #[.int .i64 0, .int .i64 0, .slice none 0 0]) (t := 33) ?hr ?_; (case hd => rfl); (case hg => rfl); (case hr => first | (go_simp; done) | (go_simp; rfl)); intro aT hg w66 hbox hb; have aI := aM (blk_below aA.out hb); have aJ := aM (blk_below aC.out hb); have aK := aM (bp_ HB.out hb); have aN := aM (hbox); have aP := aM ((by rw [hg]; exact (below_size HB.out) : w.heap.size ≤ aT)); have aQ := aM ((by rw [hg]; exact (below_size HB.out) : w.heap.size ≤ aT)); have aX := aM ((by rw [hg]; exact Nat.ne_of_lt (blk_lt aA.out) : aG ≠ aT)); have bB := aM ((by rw [hg]; exact Nat.ne_of_gt (blk_lt aA.out) : aT ≠ aG)); have bC := aM ((by rw [hg]; exact Nat.ne_of_lt (blk_lt aC.out) : aD ≠ aT)); have bD := aM ((by rw [hg]; exact Nat.ne_of_gt (blk_lt aC.out) : aT ≠ aD)); clear aA; clear aC; clear HB; have aA := aI; have aC := aJ; have HB := aK; have aH := aN; have dM := aP; have bW := aQ; have cE := aX; have cF := bB; have cG := bC; have cH := bD; clear aI aJ aK aN aP aQ aX bB bC bD; clear hb hbox hg))
      have aI := aM (blk_drew aA.out)
      have aJ := aM (blk_drew aC.out)
      have aK := aM (blk_drew aH.out)
      have aN := aM (bd_ HB.out)
      clear aA aC aH HB
      have aA := aI
      have aC := aJ
      have aH := aK
      have HB := aN
      clear aI aJ aK aN
      refine start_ (n := 11) (S := fun w' => w'.cell? ⟨aG, 0, none⟩ = some (.int .i64 a0_0) ∧ w'.cell? ⟨aG, 1, none⟩ = some (.int .i64 a0_1) ∧ w'.cell? ⟨aG, 2, none⟩ = some (.slice A0_2 l0_2.length c0_2) ∧ w'.cell? ⟨aD, 0, none⟩ = some (.int .i64 a1_0) ∧ w'.cell? ⟨aD, 1, none⟩ = some (.int .i64 a1_1) ∧ w'.cell? ⟨aD, 2, none⟩ = some (.int .i64 a1_2)) (ds := []) #[false, false, false, false, false, false, false, false, false, false, false] (by kernel_rfl) rfl rfl ⟨(blk_cell aA.out 0).trans rfl, (blk_cell aA.out 1).trans rfl, (blk_cell aA.out 2).trans rfl, (blk_cell aC.out 0).trans rfl, (blk_cell aC.out 1).trans rfl, (blk_cell aC.out 2).trans rfl⟩ (fun aW => ?_); refine with_tabW impl_AddClue.tab1 impl_AddClue.bits1 (fun HT_ HW_ => ?_)
      generalize w66.drew = w67 at aA aC aH HB aW ⊢
      refine pure_ (i := 0) (N := some 7) (v := ?_) (a' := ?_) #[true, false, false, false, false, false, false, false, false, false, false] rfl rfl (any_of HT_.out (by kernel_rfl)) (fun _ _ _ h => h) (Or.inl ⟨by rfl, ?_⟩) ?_ ?_
      rotate_left
      · intro w'
        go_simp
        with_reducible rfl
      rotate_left
      · simp only [Act.put, List.setIfInBounds_toArray, List.set_cons_zero, List.set_cons_succ, i64_w, i32_w]
        rfl
      refine pure_ (i := 2) (N := some 9) (v := ?_) (a' := ?_) #[true, false, true, false, false, false, false, false, false, false, false] rfl rfl (any_of HT_.out (by kernel_rfl)) (fun _ _ _ h => h) (Or.inl ⟨by rfl, ?_⟩) ?_ ?_
      rotate_left
      · intro w'
        go_simp
        with_reducible rfl
      rotate_left
      · simp only [Act.put, List.setIfInBounds_toArray, List.set_cons_zero, List.set_cons_succ, i64_w, i32_w]
        rfl
      refine take_ (i := 1) (N := some 8) (v := ?_) (a' := ?_) #[true, true, true, false, false, false, false, false, false, false, false] rfl rfl (take_ofW HT_.out HW_.out (by kernel_rfl)) (fun _ _ _ h => h) (Or.inl ⟨by rfl, ?_⟩) aW ?_ ?_
      rotate_left
      · rintro w' ⟨s0, s1, s2, s3, s4, s5⟩
        go_simp
        with_reducible rfl
      rotate_left
      · simp only [Act.put, List.setIfInBounds_toArray, List.set_cons_zero, List.set_cons_succ, i64_w, i32_w]
        rfl
      refine take_ (i := 3) (N := some 10) (v := ?_) (a' := ?_) #[true, true, true, true, false, false, false, false, false, false, false] rfl rfl (take_ofW HT_.out HW_.out (by kernel_rfl)) (fun _ _ _ h => h) (Or.inl ⟨by rfl, ?_⟩) aW ?_ ?_
      rotate_left
      · rintro w' ⟨s0, s1, s2, s3, s4, s5⟩
        go_simp
        with_reducible rfl
      rotate_left
      · simp only [Act.put, List.setIfInBounds_toArray, List.set_cons_zero, List.set_cons_succ, i64_w, i32_w]
        rfl
      refine take_ (i := 5) (N := some 12) (v := ?_) (a' := ?_) #[true, true, true, true, false, true, false, false, false, false, false] rfl rfl (take_ofW HT_.out HW_.out (by kernel_rfl)) (fun _ _ _ h => h) (Or.inl ⟨by rfl, ?_⟩) aW ?_ ?_
      rotate_left
      · rintro w' ⟨s0, s1, s2, s3, s4, s5⟩
        go_simp
        with_reducible rfl
      rotate_left
      · simp only [Act.put, List.setIfInBounds_toArray, List.set_cons_zero, List.set_cons_succ, i64_w, i32_w]
        rfl
      refine join_ (σ := Value × Value × Value × Nat) 1 #[true, true, true, true, true, true, true, true, true, true, false] (fun s_ => [(11, s_.1), (13, s_.2.1), (14, s_.2.2.1), (6, .pointer (some ⟨s_.2.2.2, 0, none⟩)), (15, .agg #[.int .i64 a0_0, .int .i64 a0_1, s_.2.2.1])]) (fun s_ w' => (w'.cell? ⟨aG, 0, none⟩ = some (.int .i64 a0_0) ∧ w'.cell? ⟨aG, 1, none⟩ = some (.int .i64 a0_1) ∧ w'.cell? ⟨aG, 2, none⟩ = some (.slice A0_2 l0_2.length c0_2) ∧ w'.cell? ⟨aD, 0, none⟩ = some (.int .i64 a1_0) ∧ w'.cell? ⟨aD, 1, none⟩ = some (.int .i64 a1_1) ∧ w'.cell? ⟨aD, 2, none⟩ = some (.int .i64 a1_2)) ∧ (Kd.R k37 37 w' w.heap.size (fun k_ => some k_ ≠ (s_.2.2.1 : Value).ownBlock ∧ k_ ≠ aD) s_.2.1 bL) ∧ (Kd.R k37 37 w' w.heap.size (fun k_ => some k_ ≠ (s_.2.1 : Value).ownBlock ∧ k_ ≠ aD) s_.2.2.1 bP) ∧ (w'.heap[aG]? = some (.cells #[.int .i64 a0_0, .int .i64 a0_1, .slice A0_2 l0_2.length c0_2] 33 (0, 0))) ∧ (w'.heap[aD]? = some (.cells #[.int .i64 a1_0, .int .i64 a1_1, .int .i64 a1_2] 37 (0, 0))) ∧ (w'.heap[aT]? = some (.cells #[.int .i64 0, .int .i64 0, .slice none 0 0] 33 (0, 0))) ∧ (w'.heap[s_.2.2.2]? = some (.cells #[.int .i64 0, .int .i64 0, .slice none 0 0] 33 (0, 0))) ∧ (w.heap.size ≤ s_.2.2.2) ∧ (w.heap.size ≤ s_.2.2.2) ∧ (aG ≠ s_.2.2.2) ∧ (s_.2.2.2 ≠ aG) ∧ (aD ≠ s_.2.2.2) ∧ (s_.2.2.2 ≠ aD) ∧ (aT ≠ s_.2.2.2) ∧ (s_.2.2.2 ≠ aT) ∧ (Below w.heap.size w w')) ?_ ?_
      rotate_left
      · intro hJ4_6_7_9
        refine join_ (σ := Value × Value × Value) 2 #[true, true, true, true, true, true, true, true, true, false, false] (fun s_ => [(11, s_.1), (13, s_.2.1), (14, s_.2.2), (15, .agg #[.int .i64 a0_0, .int .i64 a0_1, s_.2.2])]) (fun s_ w' => (w'.cell? ⟨aG, 0, none⟩ = some (.int .i64 a0_0) ∧ w'.cell? ⟨aG, 1, none⟩ = some (.int .i64 a0_1) ∧ w'.cell? ⟨aG, 2, none⟩ = some (.slice A0_2 l0_2.length c0_2) ∧ w'.cell? ⟨aD, 0, none⟩ = some (.int .i64 a1_0) ∧ w'.cell? ⟨aD, 1, none⟩ = some (.int .i64 a1_1) ∧ w'.cell? ⟨aD, 2, none⟩ = some (.int .i64 a1_2)) ∧ (Kd.R k37 37 w' w.heap.size (fun k_ => some k_ ≠ (s_.2.2 : Value).ownBlock ∧ k_ ≠ aD) s_.2.1 bL) ∧ (Kd.R k37 37 w' w.heap.size (fun k_ => some k_ ≠ (s_.2.1 : Value).ownBlock ∧ k_ ≠ aD) s_.2.2 bP) ∧ (w'.heap[aG]? = some (.cells #[.int .i64 a0_0, .int .i64 a0_1, .slice A0_2 l0_2.length c0_2] 33 (0, 0))) ∧ (w'.heap[aD]? = some (.cells #[.int .i64 a1_0, .int .i64 a1_1, .int .i64 a1_2] 37 (0, 0))) ∧ (w'.heap[aT]? = some (.cells #[.int .i64 0, .int .i64 0, .slice none 0 0] 33 (0, 0))) ∧ (Below w.heap.size w w')) ?_ ?_
        rotate_left
        · intro hJ4_6_7
          refine join_ (σ := Value × Value × Nat) 3 #[true, true, true, true, true, true, true, false, false, true, false] (fun s_ => [(11, s_.1), (13, s_.2.1), (6, .pointer (some ⟨s_.2.2, 0, none⟩))]) (fun s_ w' => (w'.cell? ⟨aG, 0, none⟩ = some (.int .i64 a0_0) ∧ w'.cell? ⟨aG, 1, none⟩ = some (.int .i64 a0_1) ∧ w'.cell? ⟨aG, 2, none⟩ = some (.slice A0_2 l0_2.length c0_2) ∧ w'.cell? ⟨aD, 0, none⟩ = some (.int .i64 a1_0) ∧ w'.cell? ⟨aD, 1, none⟩ = some (.int .i64 a1_1) ∧ w'.cell? ⟨aD, 2, none⟩ = some (.int .i64 a1_2)) ∧ (Kd.R k37 37 w' w.heap.size (fun k_ => some k_ ≠ (s_.2.1 : Value).ownBlock ∧ k_ ≠ aD) s_.1 t328) ∧ (Kd.R k37 37 w' w.heap.size (fun k_ => some k_ ≠ (s_.1 : Value).ownBlock ∧ k_ ≠ aD) s_.2.1 bL) ∧ (w'.heap[aG]? = some (.cells #[.int .i64 a0_0, .int .i64 a0_1, .slice A0_2 l0_2.length c0_2] 33 (0, 0))) ∧ (w'.heap[aD]? = some (.cells #[.int .i64 a1_0, .int .i64 a1_1, .int .i64 a1_2] 37 (0, 0))) ∧ (w'.heap[aT]? = some (.cells #[.int .i64 0, .int .i64 0, .slice none 0 0] 33 (0, 0))) ∧ (w'.heap[s_.2.2]? = some (.cells #[.int .i64 0, .int .i64 0, .slice none 0 0] 33 (0, 0))) ∧ (w.heap.size ≤ s_.2.2) ∧ (w.heap.size ≤ s_.2.2) ∧ (aG ≠ s_.2.2) ∧ (s_.2.2 ≠ aG) ∧ (aD ≠ s_.2.2) ∧ (s_.2.2 ≠ aD) ∧ (aT ≠ s_.2.2) ∧ (s_.2.2 ≠ aT) ∧ (Below w.heap.size w w')) ?_ ?_
          rotate_left
          · intro hJ4_6_9
            refine join_ (σ := Value × Value) 4 #[true, true, true, true, true, true, true, false, false, false, false] (fun s_ => [(11, s_.1), (13, s_.2)]) (fun s_ w' => (w'.cell? ⟨aG, 0, none⟩ = some (.int .i64 a0_0) ∧ w'.cell? ⟨aG, 1, none⟩ = some (.int .i64 a0_1) ∧ w'.cell? ⟨aG, 2, none⟩ = some (.slice A0_2 l0_2.length c0_2) ∧ w'.cell? ⟨aD, 0, none⟩ = some (.int .i64 a1_0) ∧ w'.cell? ⟨aD, 1, none⟩ = some (.int .i64 a1_1) ∧ w'.cell? ⟨aD, 2, none⟩ = some (.int .i64 a1_2)) ∧ (Kd.R k37 37 w' w.heap.size (fun k_ => some k_ ≠ (s_.2 : Value).ownBlock ∧ k_ ≠ aD) s_.1 t328) ∧ (Kd.R k37 37 w' w.heap.size (fun k_ => some k_ ≠ (s_.1 : Value).ownBlock ∧ k_ ≠ aD) s_.2 bL) ∧ (w'.heap[aG]? = some (.cells #[.int .i64 a0_0, .int .i64 a0_1, .slice A0_2 l0_2.length c0_2] 33 (0, 0))) ∧ (w'.heap[aD]? = some (.cells #[.int .i64 a1_0, .int .i64 a1_1, .int .i64 a1_2] 37 (0, 0))) ∧ (w'.heap[aT]? = some (.cells #[.int .i64 0, .int .i64 0, .slice none 0 0] 33 (0, 0))) ∧ (Below w.heap.size w w')) ?_ ?_
            rotate_left
            · intro hJ4_6
              refine join_ (σ := Value × Nat) 4 #[true, true, true, true, true, true, false, false, false, true, false] (fun s_ => [(11, s_.1), (6, .pointer (some ⟨s_.2, 0, none⟩))]) (fun s_ w' => (w'.cell? ⟨aG, 0, none⟩ = some (.int .i64 a0_0) ∧ w'.cell? ⟨aG, 1, none⟩ = some (.int .i64 a0_1) ∧ w'.cell? ⟨aG, 2, none⟩ = some (.slice A0_2 l0_2.length c0_2) ∧ w'.cell? ⟨aD, 0, none⟩ = some (.int .i64 a1_0) ∧ w'.cell? ⟨aD, 1, none⟩ = some (.int .i64 a1_1) ∧ w'.cell? ⟨aD, 2, none⟩ = some (.int .i64 a1_2)) ∧ (Kd.R k37 37 w' w.heap.size (fun k_ => k_ ≠ aD) s_.1 t328) ∧ (w'.heap[aG]? = some (.cells #[.int .i64 a0_0, .int .i64 a0_1, .slice A0_2 l0_2.length c0_2] 33 (0, 0))) ∧ (w'.heap[aD]? = some (.cells #[.int .i64 a1_0, .int .i64 a1_1, .int .i64 a1_2] 37 (0, 0))) ∧ (w'.heap[aT]? = some (.cells #[.int .i64 0, .int .i64 0, .slice none 0 0] 33 (0, 0))) ∧ (w'.heap[s_.2]? = some (.cells #[.int .i64 0, .int .i64 0, .slice none 0 0] 33 (0, 0))) ∧ (w.heap.size ≤ s_.2) ∧ (w.heap.size ≤ s_.2) ∧ (aG ≠ s_.2) ∧ (s_.2 ≠ aG) ∧ (aD ≠ s_.2) ∧ (s_.2 ≠ aD) ∧ (aT ≠ s_.2) ∧ (s_.2 ≠ aT) ∧ (Below w.heap.size w w')) ?_ ?_
              rotate_left
              · intro hJ4_9
                refine join_ (σ := Value × Nat) 4 #[true, true, true, true, false, true, true, false, false, true, false] (fun s_ => [(13, s_.1), (6, .pointer (some ⟨s_.2, 0, none⟩))]) (fun s_ w' => (w'.cell? ⟨aG, 0, none⟩ = some (.int .i64 a0_0) ∧ w'.cell? ⟨aG, 1, none⟩ = some (.int .i64 a0_1) ∧ w'.cell? ⟨aG, 2, none⟩ = some (.slice A0_2 l0_2.length c0_2) ∧ w'.cell? ⟨aD, 0, none⟩ = some (.int .i64 a1_0) ∧ w'.cell? ⟨aD, 1, none⟩ = some (.int .i64 a1_1) ∧ w'.cell? ⟨aD, 2, none⟩ = some (.int .i64 a1_2)) ∧ (Kd.R k37 37 w' w.heap.size (fun k_ => k_ ≠ aD) s_.1 bL) ∧ (w'.heap[aG]? = some (.cells #[.int .i64 a0_0, .int .i64 a0_1, .slice A0_2 l0_2.length c0_2] 33 (0, 0))) ∧ (w'.heap[aD]? = some (.cells #[.int .i64 a1_0, .int .i64 a1_1, .int .i64 a1_2] 37 (0, 0))) ∧ (w'.heap[aT]? = some (.cells #[.int .i64 0, .int .i64 0, .slice none 0 0] 33 (0, 0))) ∧ (w'.heap[s_.2]? = some (.cells #[.int .i64 0, .int .i64 0, .slice none 0 0] 33 (0, 0))) ∧ (w.heap.size ≤ s_.2) ∧ (w.heap.size ≤ s_.2) ∧ (aG ≠ s_.2) ∧ (s_.2 ≠ aG) ∧ (aD ≠ s_.2) ∧ (s_.2 ≠ aD) ∧ (aT ≠ s_.2) ∧ (s_.2 ≠ aT) ∧ (Below w.heap.size w w')) ?_ ?_
                rotate_left
                · intro hJ6_9
                  refine join_ (σ := Value) 5 #[true, true, true, true, true, true, false, false, false, false, false] (fun s_ => [(11, s_)]) (fun s_ w' => (w'.cell? ⟨aG, 0, none⟩ = some (.int .i64 a0_0) ∧ w'.cell? ⟨aG, 1, none⟩ = some (.int .i64 a0_1) ∧ w'.cell? ⟨aG, 2, none⟩ = some (.slice A0_2 l0_2.length c0_2) ∧ w'.cell? ⟨aD, 0, none⟩ = some (.int .i64 a1_0) ∧ w'.cell? ⟨aD, 1, none⟩ = some (.int .i64 a1_1) ∧ w'.cell? ⟨aD, 2, none⟩ = some (.int .i64 a1_2)) ∧ (Kd.R k37 37 w' w.heap.size (fun k_ => k_ ≠ aD) s_ t328) ∧ (w'.heap[aG]? = some (.cells #[.int .i64 a0_0, .int .i64 a0_1, .slice A0_2 l0_2.length c0_2] 33 (0, 0))) ∧ (w'.heap[aD]? = some (.cells #[.int .i64 a1_0, .int .i64 a1_1, .int .i64 a1_2] 37 (0, 0))) ∧ (w'.heap[aT]? = some (.cells #[.int .i64 0, .int .i64 0, .slice none 0 0] 33 (0, 0))) ∧ (Below w.heap.size w w')) ?_ ?_
                  rotate_left
                  · intro hJ4
                    refine join_ (σ := Value) 5 #[true, true, true, true, false, true, true, false, false, false, false] (fun s_ => [(13, s_)]) (fun s_ w' => (w'.cell? ⟨aG, 0, none⟩ = some (.int .i64 a0_0) ∧ w'.cell? ⟨aG, 1, none⟩ = some (.int .i64 a0_1) ∧ w'.cell? ⟨aG, 2, none⟩ = some (.slice A0_2 l0_2.length c0_2) ∧ w'.cell? ⟨aD, 0, none⟩ = some (.int .i64 a1_0) ∧ w'.cell? ⟨aD, 1, none⟩ = some (.int .i64 a1_1) ∧ w'.cell? ⟨aD, 2, none⟩ = some (.int .i64 a1_2)) ∧ (Kd.R k37 37 w' w.heap.size (fun k_ => k_ ≠ aD) s_ bL) ∧ (w'.heap[aG]? = some (.cells #[.int .i64 a0_0, .int .i64 a0_1, .slice A0_2 l0_2.length c0_2] 33 (0, 0))) ∧ (w'.heap[aD]? = some (.cells #[.int .i64 a1_0, .int .i64 a1_1, .int .i64 a1_2] 37 (0, 0))) ∧ (w'.heap[aT]? = some (.cells #[.int .i64 0, .int .i64 0, .slice none 0 0] 33 (0, 0))) ∧ (Below w.heap.size w w')) ?_ ?_
                    rotate_left
                    · intro hJ6
                      refine join_ (σ := Nat) 5 #[true, true, true, true, false, true, false, false, false, true, false] (fun s_ => [(6, .pointer (some ⟨s_, 0, none⟩))]) (fun s_ w' => (w'.cell? ⟨aG, 0, none⟩ = some (.int .i64 a0_0) ∧ w'.cell? ⟨aG, 1, none⟩ = some (.int .i64 a0_1) ∧ w'.cell? ⟨aG, 2, none⟩ = some (.slice A0_2 l0_2.length c0_2) ∧ w'.cell? ⟨aD, 0, none⟩ = some (.int .i64 a1_0) ∧ w'.cell? ⟨aD, 1, none⟩ = some (.int .i64 a1_1) ∧ w'.cell? ⟨aD, 2, none⟩ = some (.int .i64 a1_2)) ∧ (w'.heap[aG]? = some (.cells #[.int .i64 a0_0, .int .i64 a0_1, .slice A0_2 l0_2.length c0_2] 33 (0, 0))) ∧ (w'.heap[aD]? = some (.cells #[.int .i64 a1_0, .int .i64 a1_1, .int .i64 a1_2] 37 (0, 0))) ∧ (w'.heap[aT]? = some (.cells #[.int .i64 0, .int .i64 0, .slice none 0 0] 33 (0, 0))) ∧ (w'.heap[s_]? = some (.cells #[.int .i64 0, .int .i64 0, .slice none 0 0] 33 (0, 0))) ∧ (w.heap.size ≤ s_) ∧ (w.heap.size ≤ s_) ∧ (aG ≠ s_) ∧ (s_ ≠ aG) ∧ (aD ≠ s_) ∧ (s_ ≠ aD) ∧ (aT ≠ s_) ∧ (s_ ≠ aT) ∧ (Below w.heap.size w w')) ?_ ?_
                      rotate_left
                      · intro hJ9
                        refine three_ (i := 4) (j := 6) (k := 9) (Ni := some 11) (Nj := some 13) (Nk := some 6) #[true, true, true, true, true, true, false, false, false, false, false] #[true, true, true, true, false, true, true, false, false, false, false] #[true, true, true, true, false, true, false, false, false, true, false] rfl rfl rfl rfl rfl rfl (three_of HT_.out (by kernel_rfl)) (by decide) (by decide) (by decide) (fun K hK => ?_) (fun K hK => ?_) (fun K hK => ?_)
                        · skip
                          refine goes_ Try.func23 (by kernel_rfl) rfl #[.slice A0_2 l0_2.length c0_2] (by rfl) rfl rfl (by (try simp only [List.map_toArray, List.map_cons, List.map_nil]); first | done | rfl | (simp only [List.length_drop, List.length_take]; rfl)) ?_
                          with_reducible refine (slices_Clone_impl_Clue_impl_Clue.calls _ _ l0_2 t328 _ ?side1 ?side2 A3.out).mono ?_
                          (case side1 => repeat (first | exact (Kd.C_below HR0_2.out HB.out) | (with_reducible refine Kd.C_alloc ?_ _) | (with_reducible refine Kd.C_drewN ?_ _) | (with_reducible refine Kd.C_drew ?_)))
                          (case side2 => exact bT.out)
                          rintro e w68 ⟨v329, rfl, ho0, hb⟩
                          refine ⟨_, rfl, ?_⟩
                          have aI := aM (Kd.R_lower (Kd.R_newB ho0 (g := aD) (o := .cells #[.int .i64 a1_0, .int .i64 a1_1, .int .i64 a1_2] 37 (0, 0)) aC.out) (below_size HB.out))
                          have aJ := aM (blk_below aA.out hb)
                          have aK := aM (blk_below aC.out hb)
                          have aN := aM (blk_below aH.out hb)
                          have aP := aM (bp_ HB.out hb)
                          clear aA aC aH HB
                          have aY := aI
                          have aA := aJ
                          have aC := aK
                          have aH := aN
                          have HB := aP
                          clear aI aJ aK aN aP
                          (try clear hb)
                          (try clear hb2)
                          (try clear hk)
                          (try clear hi)
                          (try clear ho0)
                          refine hK.out _ _ ⟨(blk_cell aA.out 0).trans rfl, (blk_cell aA.out 1).trans rfl, (blk_cell aA.out 2).trans rfl, (blk_cell aC.out 0).trans rfl, (blk_cell aC.out 1).trans rfl, (blk_cell aC.out 2).trans rfl⟩ (fun aW => ?_)
                          clear hK K
                          refine norm_ (a' := ?_) ?_ ?_
                          rotate_left
                          · show Act.put _ (some 11) _ = _
                            simp only [Act.put, List.setIfInBounds_toArray, List.set_cons_zero, List.set_cons_succ, i64_w, i32_w]
                            rfl
                          exact norm_ (by first | (simp only [putAll, Act.put, List.setIfInBounds_toArray, List.set_cons_zero, List.set_cons_succ]; done) | (simp only [putAll, Act.put, List.setIfInBounds_toArray, List.set_cons_zero, List.set_cons_succ]; rfl)) (hJ4 (v329) _ ⟨aW, (by (with_reducible repeat (first | apply Kd.R_alloc | apply Kd.R_drewN | apply Kd.R_drew)); exact Kd.R_mono aY.out (fun _ hk => hk.2)), aA.out, aC.out, aH.out, HB.out⟩)
                        · skip
                          refine Kd.R_lit_step k37 _ 37 ?hg (N := 13) ?hd (xs := ([(⟨a1_0, a1_1, a1_2⟩ : S37)] : List (S37))) (inner := [.int .i64 a1_0, .int .i64 a1_1, .int .i64 a1_2]) (ok := fun _ => True) (okp := fun _ => True) ?hr ?hp (fun _ hk => hk) trivial (Below.refl _ _) (Nat.le_refl _) (by simp) ?_; (case hd => rfl); (case hg => rfl); (case hr => first | (go_simp; done) | (go_simp; rfl)); (case hp => exact (Reps.c3 (show Kd.M k37 _ _ _ (⟨a1_0, a1_1, a1_2⟩ : S37) [.int .i64 a1_0, .int .i64 a1_1, .int .i64 a1_2] from (k37_mkM _ _ _ (⟨a1_0, a1_1, a1_2⟩ : S37) )) (Reps.none _ _)))
                          intro v332 w68 ho69 hb hg_ hnew_
                          clear hg_ hnew_
                          (first | rw [← bS.out] at ho69 | (simp only [Int.reduceToNat] at ho69; rw [← bS.out] at ho69))
                          have aI := aM (Kd.R_lower (Kd.R_newB ho69 (g := aD) (o := .cells #[.int .i64 a1_0, .int .i64 a1_1, .int .i64 a1_2] 37 (0, 0)) aC.out) (below_size HB.out))
                          have aJ := aM (blk_below aA.out hb)
                          have aK := aM (blk_below aC.out hb)
                          have aN := aM (blk_below aH.out hb)
                          have aP := aM (bp_ HB.out hb)
                          clear aA aC aH HB
                          have aU := aI
                          have aA := aJ
                          have aC := aK
                          have aH := aN
                          have HB := aP
                          clear aI aJ aK aN aP hb ho69
                          refine hK.out _ _ ⟨(blk_cell aA.out 0).trans rfl, (blk_cell aA.out 1).trans rfl, (blk_cell aA.out 2).trans rfl, (blk_cell aC.out 0).trans rfl, (blk_cell aC.out 1).trans rfl, (blk_cell aC.out 2).trans rfl⟩ (fun aW => ?_)
                          clear hK K
                          refine norm_ (a' := ?_) ?_ ?_
                          rotate_left
                          · show Act.put _ (some 13) _ = _
                            simp only [Act.put, List.setIfInBounds_toArray, List.set_cons_zero, List.set_cons_succ, i64_w, i32_w]
                            rfl
                          exact norm_ (by first | (simp only [putAll, Act.put, List.setIfInBounds_toArray, List.set_cons_zero, List.set_cons_succ]; done) | (simp only [putAll, Act.put, List.setIfInBounds_toArray, List.set_cons_zero, List.set_cons_succ]; rfl)) (hJ6 (v332) _ ⟨aW, (by (with_reducible repeat (first | apply Kd.R_alloc | apply Kd.R_drewN | apply Kd.R_drew)); exact Kd.R_mono aU.out (fun _ hk => hk.2)), aA.out, aC.out, aH.out, HB.out⟩)
                        · skip
                          refine box_step ?hg (N := 6) ?hd (cs := #[.int .i64 0, .int .i64 0, .slice none 0 0]) (t := 33) ?hr ?_; (case hd => rfl); (case hg => rfl); (case hr => first | (go_simp; done) | (go_simp; rfl))
                          intro aE hg w68 hbox hb
                          have aI := aM (blk_below aA.out hb)
                          have aJ := aM (blk_below aC.out hb)
                          have aK := aM (blk_below aH.out hb)
                          have aN := aM (bp_ HB.out hb)
                          have aP := aM (hbox)
                          have aQ := aM ((by rw [hg]; exact (below_size HB.out) : w.heap.size ≤ aE))
                          have aX := aM ((by rw [hg]; exact (below_size HB.out) : w.heap.size ≤ aE))
                          have bB := aM ((by rw [hg]; exact Nat.ne_of_lt (blk_lt aA.out) : aG ≠ aE))
                          have bC := aM ((by rw [hg]; exact Nat.ne_of_gt (blk_lt aA.out) : aE ≠ aG))
                          have bD := aM ((by rw [hg]; exact Nat.ne_of_lt (blk_lt aC.out) : aD ≠ aE))
                          have bE := aM ((by rw [hg]; exact Nat.ne_of_gt (blk_lt aC.out) : aE ≠ aD))
                          have bF := aM ((by rw [hg]; exact Nat.ne_of_lt (blk_lt aH.out) : aT ≠ aE))
                          have bG := aM ((by rw [hg]; exact Nat.ne_of_gt (blk_lt aH.out) : aE ≠ aT))
                          clear aA aC aH HB
                          have aA := aI
                          have aC := aJ
                          have aH := aK
                          have HB := aN
                          have aV := aP
                          have bQ := aQ
                          have bM := aX
                          have aZ := bB
                          have bI := bC
                          have bA := bD
                          have bN := bE
                          have bH := bF
                          have bJ := bG
                          clear aI aJ aK aN aP aQ aX bB bC bD bE bF bG hb hbox hg
                          refine hK.out _ _ ⟨(blk_cell aA.out 0).trans rfl, (blk_cell aA.out 1).trans rfl, (blk_cell aA.out 2).trans rfl, (blk_cell aC.out 0).trans rfl, (blk_cell aC.out 1).trans rfl, (blk_cell aC.out 2).trans rfl⟩ (fun aW => ?_)
                          clear hK K
                          refine norm_ (a' := ?_) ?_ ?_
                          rotate_left
                          · show Act.put _ (some 6) _ = _
                            simp only [Act.put, List.setIfInBounds_toArray, List.set_cons_zero, List.set_cons_succ, i64_w, i32_w]
                            rfl
                          exact norm_ (by first | (simp only [putAll, Act.put, List.setIfInBounds_toArray, List.set_cons_zero, List.set_cons_succ]; done) | (simp only [putAll, Act.put, List.setIfInBounds_toArray, List.set_cons_zero, List.set_cons_succ]; rfl)) (hJ9 (aE) _ ⟨aW, aA.out, aC.out, aH.out, aV.out, bQ.out, bM.out, aZ.out, bI.out, bA.out, bN.out, bH.out, bJ.out, HB.out⟩)
                      · skip
                        rintro aE w69 ⟨hS_, h0_, h1_, h2_, h3_, h4_, h5_, h6_, h7_, h8_, h9_, h10_, h11_, h12_⟩
                        have aI : Aside0 (w69.heap[aG]? = some (.cells #[.int .i64 a0_0, .int .i64 a0_1, .slice A0_2 l0_2.length c0_2] 33 (0, 0))) := ⟨h0_⟩
                        have aJ : Aside0 (w69.heap[aD]? = some (.cells #[.int .i64 a1_0, .int .i64 a1_1, .int .i64 a1_2] 37 (0, 0))) := ⟨h1_⟩
                        have aK : Aside0 (w69.heap[aT]? = some (.cells #[.int .i64 0, .int .i64 0, .slice none 0 0] 33 (0, 0))) := ⟨h2_⟩
                        have aN : Aside0 (w69.heap[aE]? = some (.cells #[.int .i64 0, .int .i64 0, .slice none 0 0] 33 (0, 0))) := ⟨h3_⟩
                        have aP : Aside0 (w.heap.size ≤ aE) := ⟨h4_⟩
                        have aQ : Aside0 (w.heap.size ≤ aE) := ⟨h5_⟩
                        have aX : Aside0 (aG ≠ aE) := ⟨h6_⟩
                        have bB : Aside0 (aE ≠ aG) := ⟨h7_⟩
                        have bC : Aside0 (aD ≠ aE) := ⟨h8_⟩
                        have bD : Aside0 (aE ≠ aD) := ⟨h9_⟩
                        have bE : Aside0 (aT ≠ aE) := ⟨h10_⟩
                        have bF : Aside0 (aE ≠ aT) := ⟨h11_⟩
                        have bG : Aside0 (Below w.heap.size w w69) := ⟨h12_⟩
                        clear aA aC aH HB h0_ h1_ h2_ h3_ h4_ h5_ h6_ h7_ h8_ h9_ h10_ h11_ h12_
                        have aA := aI
                        have aC := aJ
                        have aH := aK
                        have aV := aN
                        have bQ := aP
                        have bM := aQ
                        have aZ := aX
                        have bI := bB
                        have bA := bC
                        have bN := bD
                        have bH := bE
                        have bJ := bF
                        have HB := bG
                        clear aI aJ aK aN aP aQ aX bB bC bD bE bF bG
                        have aW : w69.cell? ⟨aG, 0, none⟩ = some (.int .i64 a0_0) ∧ w69.cell? ⟨aG, 1, none⟩ = some (.int .i64 a0_1) ∧ w69.cell? ⟨aG, 2, none⟩ = some (.slice A0_2 l0_2.length c0_2) ∧ w69.cell? ⟨aD, 0, none⟩ = some (.int .i64 a1_0) ∧ w69.cell? ⟨aD, 1, none⟩ = some (.int .i64 a1_1) ∧ w69.cell? ⟨aD, 2, none⟩ = some (.int .i64 a1_2) := hS_
                        refine norm_ (a' := ?_) ?_ ?_
                        rotate_left
                        · simp only [putAll, Act.put, List.setIfInBounds_toArray, List.set_cons_zero, List.set_cons_succ]
                          rfl
                        refine two_ (i := 4) (j := 6) (Ni := some 11) (Nj := some 13) #[true, true, true, true, true, true, false, false, false, true, false] #[true, true, true, true, false, true, true, false, false, true, false] rfl rfl rfl rfl (two_of HT_.out (by kernel_rfl)) (by decide) (by decide) (fun K hK => ?_) (fun K hK => ?_)
                        · skip
                          refine goes_ Try.func23 (by kernel_rfl) rfl #[.slice A0_2 l0_2.length c0_2] (by rfl) rfl rfl (by (try simp only [List.map_toArray, List.map_cons, List.map_nil]); first | done | rfl | (simp only [List.length_drop, List.length_take]; rfl)) ?_
                          with_reducible refine (slices_Clone_impl_Clue_impl_Clue.calls _ _ l0_2 t328 _ ?side1 ?side2 A3.out).mono ?_
                          (case side1 => repeat (first | exact (Kd.C_below HR0_2.out HB.out) | (with_reducible refine Kd.C_alloc ?_ _) | (with_reducible refine Kd.C_drewN ?_ _) | (with_reducible refine Kd.C_drew ?_)))
                          (case side2 => exact bT.out)
                          rintro e w70 ⟨v329, rfl, ho0, hb⟩
                          refine ⟨_, rfl, ?_⟩
                          have aI := aM (Kd.R_lower (Kd.R_newB ho0 (g := aD) (o := .cells #[.int .i64 a1_0, .int .i64 a1_1, .int .i64 a1_2] 37 (0, 0)) aC.out) (below_size HB.out))
                          have aJ := aM (blk_below aA.out hb)
                          have aK := aM (blk_below aC.out hb)
                          have aN := aM (blk_below aH.out hb)
                          have aP := aM (blk_below aV.out hb)
                          have aQ := aM (bp_ HB.out hb)
                          clear aA aC aH aV HB
                          have aY := aI
                          have aA := aJ
                          have aC := aK
                          have aH := aN
                          have aV := aP
                          have HB := aQ
                          clear aI aJ aK aN aP aQ
                          (try clear hb)
                          (try clear hb2)
                          (try clear hk)
                          (try clear hi)
                          (try clear ho0)
                          refine hK.out _ _ ⟨(blk_cell aA.out 0).trans rfl, (blk_cell aA.out 1).trans rfl, (blk_cell aA.out 2).trans rfl, (blk_cell aC.out 0).trans rfl, (blk_cell aC.out 1).trans rfl, (blk_cell aC.out 2).trans rfl⟩ (fun aW => ?_)
                          clear hK K
                          refine norm_ (a' := ?_) ?_ ?_
                          rotate_left
                          · show Act.put _ (some 11) _ = _
                            simp only [Act.put, List.setIfInBounds_toArray, List.set_cons_zero, List.set_cons_succ, i64_w, i32_w]
                            rfl
                          exact norm_ (by first | (simp only [putAll, Act.put, List.setIfInBounds_toArray, List.set_cons_zero, List.set_cons_succ]; done) | (simp only [putAll, Act.put, List.setIfInBounds_toArray, List.set_cons_zero, List.set_cons_succ]; rfl)) (hJ4_9 (v329, aE) _ ⟨aW, (by (with_reducible repeat (first | apply Kd.R_alloc | apply Kd.R_drewN | apply Kd.R_drew)); exact Kd.R_mono aY.out (fun _ hk => hk.2)), aA.out, aC.out, aH.out, aV.out, bQ.out, bM.out, aZ.out, bI.out, bA.out, bN.out, bH.out, bJ.out, HB.out⟩)
                        · skip
                          refine Kd.R_lit_step k37 _ 37 ?hg (N := 13) ?hd (xs := ([(⟨a1_0, a1_1, a1_2⟩ : S37)] : List (S37))) (inner := [.int .i64 a1_0, .int .i64 a1_1, .int .i64 a1_2]) (ok := fun _ => True) (okp := fun _ => True) ?hr ?hp (fun _ hk => hk) trivial (Below.refl _ _) (Nat.le_refl _) (by simp) ?_; (case hd => rfl); (case hg => rfl); (case hr => first | (go_simp; done) | (go_simp; rfl)); (case hp => exact (Reps.c3 (show Kd.M k37 _ _ _ (⟨a1_0, a1_1, a1_2⟩ : S37) [.int .i64 a1_0, .int .i64 a1_1, .int .i64 a1_2] from (k37_mkM _ _ _ (⟨a1_0, a1_1, a1_2⟩ : S37) )) (Reps.none _ _)))
                          intro v332 w70 ho71 hb hg_ hnew_
                          clear hg_ hnew_
                          (first | rw [← bS.out] at ho71 | (simp only [Int.reduceToNat] at ho71; rw [← bS.out] at ho71))
                          have aI := aM (Kd.R_lower (Kd.R_newB ho71 (g := aD) (o := .cells #[.int .i64 a1_0, .int .i64 a1_1, .int .i64 a1_2] 37 (0, 0)) aC.out) (below_size HB.out))
                          have aJ := aM (blk_below aA.out hb)
                          have aK := aM (blk_below aC.out hb)
                          have aN := aM (blk_below aH.out hb)
                          have aP := aM (blk_below aV.out hb)
                          have aQ := aM (bp_ HB.out hb)
                          clear aA aC aH aV HB
                          have aU := aI
                          have aA := aJ
                          have aC := aK
                          have aH := aN
                          have aV := aP
                          have HB := aQ
                          clear aI aJ aK aN aP aQ hb ho71
                          refine hK.out _ _ ⟨(blk_cell aA.out 0).trans rfl, (blk_cell aA.out 1).trans rfl, (blk_cell aA.out 2).trans rfl, (blk_cell aC.out 0).trans rfl, (blk_cell aC.out 1).trans rfl, (blk_cell aC.out 2).trans rfl⟩ (fun aW => ?_)
                          clear hK K
                          refine norm_ (a' := ?_) ?_ ?_
                          rotate_left
                          · show Act.put _ (some 13) _ = _
                            simp only [Act.put, List.setIfInBounds_toArray, List.set_cons_zero, List.set_cons_succ, i64_w, i32_w]
                            rfl
                          exact norm_ (by first | (simp only [putAll, Act.put, List.setIfInBounds_toArray, List.set_cons_zero, List.set_cons_succ]; done) | (simp only [putAll, Act.put, List.setIfInBounds_toArray, List.set_cons_zero, List.set_cons_succ]; rfl)) (hJ6_9 (v332, aE) _ ⟨aW, (by (with_reducible repeat (first | apply Kd.R_alloc | apply Kd.R_drewN | apply Kd.R_drew)); exact Kd.R_mono aU.out (fun _ hk => hk.2)), aA.out, aC.out, aH.out, aV.out, bQ.out, bM.out, aZ.out, bI.out, bA.out, bN.out, bH.out, bJ.out, HB.out⟩)
                    · skip
                      rintro v332 w70 ⟨hS_, h0_, h1_, h2_, h3_, h4_⟩
                      have aI : Aside0 (Kd.R k37 37 w70 w.heap.size (fun k_ => k_ ≠ aD) v332 bL) := ⟨h0_⟩
                      have aJ : Aside0 (w70.heap[aG]? = some (.cells #[.int .i64 a0_0, .int .i64 a0_1, .slice A0_2 l0_2.length c0_2] 33 (0, 0))) := ⟨h1_⟩
                      have aK : Aside0 (w70.heap[aD]? = some (.cells #[.int .i64 a1_0, .int .i64 a1_1, .int .i64 a1_2] 37 (0, 0))) := ⟨h2_⟩
                      have aN : Aside0 (w70.heap[aT]? = some (.cells #[.int .i64 0, .int .i64 0, .slice none 0 0] 33 (0, 0))) := ⟨h3_⟩
                      have aP : Aside0 (Below w.heap.size w w70) := ⟨h4_⟩
                      clear aA aC aH HB h0_ h1_ h2_ h3_ h4_
                      have aU := aI
                      have aA := aJ
                      have aC := aK
                      have aH := aN
                      have HB := aP
                      clear aI aJ aK aN aP
                      have aW : w70.cell? ⟨aG, 0, none⟩ = some (.int .i64 a0_0) ∧ w70.cell? ⟨aG, 1, none⟩ = some (.int .i64 a0_1) ∧ w70.cell? ⟨aG, 2, none⟩ = some (.slice A0_2 l0_2.length c0_2) ∧ w70.cell? ⟨aD, 0, none⟩ = some (.int .i64 a1_0) ∧ w70.cell? ⟨aD, 1, none⟩ = some (.int .i64 a1_1) ∧ w70.cell? ⟨aD, 2, none⟩ = some (.int .i64 a1_2) := hS_
                      refine norm_ (a' := ?_) ?_ ?_
                      rotate_left
                      · simp only [putAll, Act.put, List.setIfInBounds_toArray, List.set_cons_zero, List.set_cons_succ]
                        rfl
                      refine two_ (i := 4) (j := 9) (Ni := some 11) (Nj := some 6) #[true, true, true, true, true, true, true, false, false, false, false] #[true, true, true, true, false, true, true, false, false, true, false] rfl rfl rfl rfl (two_of HT_.out (by kernel_rfl)) (by decide) (by decide) (fun K hK => ?_) (fun K hK => ?_)
                      · skip
                        refine goes_ Try.func23 (by kernel_rfl) rfl #[.slice A0_2 l0_2.length c0_2] (by rfl) rfl rfl (by (try simp only [List.map_toArray, List.map_cons, List.map_nil]); first | done | rfl | (simp only [List.length_drop, List.length_take]; rfl)) ?_
                        with_reducible refine (slices_Clone_impl_Clue_impl_Clue.calls _ _ l0_2 t328 _ ?side1 ?side2 A3.out).mono ?_
                        (case side1 => repeat (first | exact (Kd.C_below HR0_2.out HB.out) | (with_reducible refine Kd.C_alloc ?_ _) | (with_reducible refine Kd.C_drewN ?_ _) | (with_reducible refine Kd.C_drew ?_)))
                        (case side2 => exact bT.out)
                        rintro e w71 ⟨v329, rfl, ho0, hb⟩
                        refine ⟨_, rfl, ?_⟩
                        have aI := aM (Kd.R_elder' aU.out (Kd.R_base ho0) hb)
                        have aJ := aM (Kd.R_lower (Kd.R_newB (Kd.R_new' ho0 (Kd.R_lt aU.out)) (g := aD) (o := .cells #[.int .i64 a1_0, .int .i64 a1_1, .int .i64 a1_2] 37 (0, 0)) aC.out) (below_size HB.out))
                        have aK := aM (blk_below aA.out hb)
                        have aN := aM (blk_below aC.out hb)
                        have aP := aM (blk_below aH.out hb)
                        have aQ := aM (bp_ HB.out hb)
                        clear aU aA aC aH HB
                        have aU := aI
                        have aY := aJ
                        have aA := aK
                        have aC := aN
                        have aH := aP
                        have HB := aQ
                        clear aI aJ aK aN aP aQ
                        (try clear hb)
                        (try clear hb2)
                        (try clear hk)
                        (try clear hi)
                        (try clear ho0)
                        refine hK.out _ _ ⟨(blk_cell aA.out 0).trans rfl, (blk_cell aA.out 1).trans rfl, (blk_cell aA.out 2).trans rfl, (blk_cell aC.out 0).trans rfl, (blk_cell aC.out 1).trans rfl, (blk_cell aC.out 2).trans rfl⟩ (fun aW => ?_)
                        clear hK K
                        refine norm_ (a' := ?_) ?_ ?_
                        rotate_left
                        · show Act.put _ (some 11) _ = _
                          simp only [Act.put, List.setIfInBounds_toArray, List.set_cons_zero, List.set_cons_succ, i64_w, i32_w]
                          rfl
                        exact norm_ (by first | (simp only [putAll, Act.put, List.setIfInBounds_toArray, List.set_cons_zero, List.set_cons_succ]; done) | (simp only [putAll, Act.put, List.setIfInBounds_toArray, List.set_cons_zero, List.set_cons_succ]; rfl)) (hJ4_6 (v329, v332) _ ⟨aW, (by (with_reducible repeat (first | apply Kd.R_alloc | apply Kd.R_drewN | apply Kd.R_drew)); exact Kd.R_mono aY.out (fun _ hk => ⟨hk.1.2, hk.2⟩)), (by (with_reducible repeat (first | apply Kd.R_alloc | apply Kd.R_drewN | apply Kd.R_drew)); exact Kd.R_mono aU.out (fun _ hk => ⟨hk.2, hk.1⟩)), aA.out, aC.out, aH.out, HB.out⟩)
                      · skip
                        refine box_step ?hg (N := 6) ?hd (cs := #[.int .i64 0, .int .i64 0, .slice none 0 0]) (t := 33) ?hr ?_; (case hd => rfl); (case hg => rfl); (case hr => first | (go_simp; done) | (go_simp; rfl))
                        intro aE hg w71 hbox hb
                        have aI := aM (Kd.R_below aU.out hb)
                        have aJ := aM (blk_below aA.out hb)
                        have aK := aM (blk_below aC.out hb)
                        have aN := aM (blk_below aH.out hb)
                        have aP := aM (bp_ HB.out hb)
                        have aQ := aM (hbox)
                        have aX := aM ((by rw [hg]; exact (below_size HB.out) : w.heap.size ≤ aE))
                        have bB := aM ((by rw [hg]; exact (below_size HB.out) : w.heap.size ≤ aE))
                        have bC := aM ((by rw [hg]; exact Nat.ne_of_lt (blk_lt aA.out) : aG ≠ aE))
                        have bD := aM ((by rw [hg]; exact Nat.ne_of_gt (blk_lt aA.out) : aE ≠ aG))
                        have bE := aM ((by rw [hg]; exact Nat.ne_of_lt (blk_lt aC.out) : aD ≠ aE))
                        have bF := aM ((by rw [hg]; exact Nat.ne_of_gt (blk_lt aC.out) : aE ≠ aD))
                        have bG := aM ((by rw [hg]; exact Nat.ne_of_lt (blk_lt aH.out) : aT ≠ aE))
                        have bK := aM ((by rw [hg]; exact Nat.ne_of_gt (blk_lt aH.out) : aE ≠ aT))
                        clear aU aA aC aH HB
                        have aU := aI
                        have aA := aJ
                        have aC := aK
                        have aH := aN
                        have HB := aP
                        have aV := aQ
                        have bQ := aX
                        have bM := bB
                        have aZ := bC
                        have bI := bD
                        have bA := bE
                        have bN := bF
                        have bH := bG
                        have bJ := bK
                        clear aI aJ aK aN aP aQ aX bB bC bD bE bF bG bK hb hbox hg
                        refine hK.out _ _ ⟨(blk_cell aA.out 0).trans rfl, (blk_cell aA.out 1).trans rfl, (blk_cell aA.out 2).trans rfl, (blk_cell aC.out 0).trans rfl, (blk_cell aC.out 1).trans rfl, (blk_cell aC.out 2).trans rfl⟩ (fun aW => ?_)
                        clear hK K
                        refine norm_ (a' := ?_) ?_ ?_
                        rotate_left
                        · show Act.put _ (some 6) _ = _
                          simp only [Act.put, List.setIfInBounds_toArray, List.set_cons_zero, List.set_cons_succ, i64_w, i32_w]
                          rfl
                        exact norm_ (by first | (simp only [putAll, Act.put, List.setIfInBounds_toArray, List.set_cons_zero, List.set_cons_succ]; done) | (simp only [putAll, Act.put, List.setIfInBounds_toArray, List.set_cons_zero, List.set_cons_succ]; rfl)) (hJ6_9 (v332, aE) _ ⟨aW, aU.out, aA.out, aC.out, aH.out, aV.out, bQ.out, bM.out, aZ.out, bI.out, bA.out, bN.out, bH.out, bJ.out, HB.out⟩)
                  · skip
                    rintro v329 w69 ⟨hS_, h0_, h1_, h2_, h3_, h4_⟩
                    have aI : Aside0 (Kd.R k37 37 w69 w.heap.size (fun k_ => k_ ≠ aD) v329 t328) := ⟨h0_⟩
                    have aJ : Aside0 (w69.heap[aG]? = some (.cells #[.int .i64 a0_0, .int .i64 a0_1, .slice A0_2 l0_2.length c0_2] 33 (0, 0))) := ⟨h1_⟩
                    have aK : Aside0 (w69.heap[aD]? = some (.cells #[.int .i64 a1_0, .int .i64 a1_1, .int .i64 a1_2] 37 (0, 0))) := ⟨h2_⟩
                    have aN : Aside0 (w69.heap[aT]? = some (.cells #[.int .i64 0, .int .i64 0, .slice none 0 0] 33 (0, 0))) := ⟨h3_⟩
                    have aP : Aside0 (Below w.heap.size w w69) := ⟨h4_⟩
                    clear aA aC aH HB h0_ h1_ h2_ h3_ h4_
                    have aY := aI
                    have aA := aJ
                    have aC := aK
                    have aH := aN
                    have HB := aP
                    clear aI aJ aK aN aP
                    have aW : w69.cell? ⟨aG, 0, none⟩ = some (.int .i64 a0_0) ∧ w69.cell? ⟨aG, 1, none⟩ = some (.int .i64 a0_1) ∧ w69.cell? ⟨aG, 2, none⟩ = some (.slice A0_2 l0_2.length c0_2) ∧ w69.cell? ⟨aD, 0, none⟩ = some (.int .i64 a1_0) ∧ w69.cell? ⟨aD, 1, none⟩ = some (.int .i64 a1_1) ∧ w69.cell? ⟨aD, 2, none⟩ = some (.int .i64 a1_2) := hS_
                    refine norm_ (a' := ?_) ?_ ?_
                    rotate_left
                    · simp only [putAll, Act.put, List.setIfInBounds_toArray, List.set_cons_zero, List.set_cons_succ]
                      rfl
                    refine two_ (i := 6) (j := 9) (Ni := some 13) (Nj := some 6) #[true, true, true, true, true, true, true, false, false, false, false] #[true, true, true, true, true, true, false, false, false, true, false] rfl rfl rfl rfl (two_of HT_.out (by kernel_rfl)) (by decide) (by decide) (fun K hK => ?_) (fun K hK => ?_)
                    · skip
                      refine Kd.R_lit_step k37 _ 37 ?hg (N := 13) ?hd (xs := ([(⟨a1_0, a1_1, a1_2⟩ : S37)] : List (S37))) (inner := [.int .i64 a1_0, .int .i64 a1_1, .int .i64 a1_2]) (ok := fun _ => True) (okp := fun _ => True) ?hr ?hp (fun _ hk => hk) trivial (Below.refl _ _) (Nat.le_refl _) (by simp) ?_; (case hd => rfl); (case hg => rfl); (case hr => first | (go_simp; done) | (go_simp; rfl)); (case hp => exact (Reps.c3 (show Kd.M k37 _ _ _ (⟨a1_0, a1_1, a1_2⟩ : S37) [.int .i64 a1_0, .int .i64 a1_1, .int .i64 a1_2] from (k37_mkM _ _ _ (⟨a1_0, a1_1, a1_2⟩ : S37) )) (Reps.none _ _)))
                      intro v332 w70 ho71 hb hg_ hnew_
                      clear hg_ hnew_
                      (first | rw [← bS.out] at ho71 | (simp only [Int.reduceToNat] at ho71; rw [← bS.out] at ho71))
                      have aI := aM (Kd.R_elder' aY.out (Kd.R_base ho71) hb)
                      have aJ := aM (Kd.R_lower (Kd.R_newB (Kd.R_new' ho71 (Kd.R_lt aY.out)) (g := aD) (o := .cells #[.int .i64 a1_0, .int .i64 a1_1, .int .i64 a1_2] 37 (0, 0)) aC.out) (below_size HB.out))
                      have aK := aM (blk_below aA.out hb)
                      have aN := aM (blk_below aC.out hb)
                      have aP := aM (blk_below aH.out hb)
                      have aQ := aM (bp_ HB.out hb)
                      clear aY aA aC aH HB
                      have aY := aI
                      have aU := aJ
                      have aA := aK
                      have aC := aN
                      have aH := aP
                      have HB := aQ
                      clear aI aJ aK aN aP aQ hb ho71
                      refine hK.out _ _ ⟨(blk_cell aA.out 0).trans rfl, (blk_cell aA.out 1).trans rfl, (blk_cell aA.out 2).trans rfl, (blk_cell aC.out 0).trans rfl, (blk_cell aC.out 1).trans rfl, (blk_cell aC.out 2).trans rfl⟩ (fun aW => ?_)
                      clear hK K
                      refine norm_ (a' := ?_) ?_ ?_
                      rotate_left
                      · show Act.put _ (some 13) _ = _
                        simp only [Act.put, List.setIfInBounds_toArray, List.set_cons_zero, List.set_cons_succ, i64_w, i32_w]
                        rfl
                      exact norm_ (by first | (simp only [putAll, Act.put, List.setIfInBounds_toArray, List.set_cons_zero, List.set_cons_succ]; done) | (simp only [putAll, Act.put, List.setIfInBounds_toArray, List.set_cons_zero, List.set_cons_succ]; rfl)) (hJ4_6 (v329, v332) _ ⟨aW, (by (with_reducible repeat (first | apply Kd.R_alloc | apply Kd.R_drewN | apply Kd.R_drew)); exact Kd.R_mono aY.out (fun _ hk => ⟨hk.2, hk.1⟩)), (by (with_reducible repeat (first | apply Kd.R_alloc | apply Kd.R_drewN | apply Kd.R_drew)); exact Kd.R_mono aU.out (fun _ hk => ⟨hk.1.2, hk.2⟩)), aA.out, aC.out, aH.out, HB.out⟩)
                    · skip
                      refine box_step ?hg (N := 6) ?hd (cs := #[.int .i64 0, .int .i64 0, .slice none 0 0]) (t := 33) ?hr ?_; (case hd => rfl); (case hg => rfl); (case hr => first | (go_simp; done) | (go_simp; rfl))
                      intro aE hg w70 hbox hb
                      have aI := aM (Kd.R_below aY.out hb)
                      have aJ := aM (blk_below aA.out hb)
                      have aK := aM (blk_below aC.out hb)
                      have aN := aM (blk_below aH.out hb)
                      have aP := aM (bp_ HB.out hb)
                      have aQ := aM (hbox)
                      have aX := aM ((by rw [hg]; exact (below_size HB.out) : w.heap.size ≤ aE))
                      have bB := aM ((by rw [hg]; exact (below_size HB.out) : w.heap.size ≤ aE))
                      have bC := aM ((by rw [hg]; exact Nat.ne_of_lt (blk_lt aA.out) : aG ≠ aE))
                      have bD := aM ((by rw [hg]; exact Nat.ne_of_gt (blk_lt aA.out) : aE ≠ aG))
                      have bE := aM ((by rw [hg]; exact Nat.ne_of_lt (blk_lt aC.out) : aD ≠ aE))
                      have bF := aM ((by rw [hg]; exact Nat.ne_of_gt (blk_lt aC.out) : aE ≠ aD))
                      have bG := aM ((by rw [hg]; exact Nat.ne_of_lt (blk_lt aH.out) : aT ≠ aE))
                      have bK := aM ((by rw [hg]; exact Nat.ne_of_gt (blk_lt aH.out) : aE ≠ aT))
                      clear aY aA aC aH HB
                      have aY := aI
                      have aA := aJ
                      have aC := aK
                      have aH := aN
                      have HB := aP
                      have aV := aQ
                      have bQ := aX
                      have bM := bB
                      have aZ := bC
                      have bI := bD
                      have bA := bE
                      have bN := bF
                      have bH := bG
                      have bJ := bK
                      clear aI aJ aK aN aP aQ aX bB bC bD bE bF bG bK hb hbox hg
                      refine hK.out _ _ ⟨(blk_cell aA.out 0).trans rfl, (blk_cell aA.out 1).trans rfl, (blk_cell aA.out 2).trans rfl, (blk_cell aC.out 0).trans rfl, (blk_cell aC.out 1).trans rfl, (blk_cell aC.out 2).trans rfl⟩ (fun aW => ?_)
                      clear hK K
                      refine norm_ (a' := ?_) ?_ ?_
                      rotate_left
                      · show Act.put _ (some 6) _ = _
                        simp only [Act.put, List.setIfInBounds_toArray, List.set_cons_zero, List.set_cons_succ, i64_w, i32_w]
                        rfl
                      exact norm_ (by first | (simp only [putAll, Act.put, List.setIfInBounds_toArray, List.set_cons_zero, List.set_cons_succ]; done) | (simp only [putAll, Act.put, List.setIfInBounds_toArray, List.set_cons_zero, List.set_cons_succ]; rfl)) (hJ4_9 (v329, aE) _ ⟨aW, aY.out, aA.out, aC.out, aH.out, aV.out, bQ.out, bM.out, aZ.out, bI.out, bA.out, bN.out, bH.out, bJ.out, HB.out⟩)
                · skip
                  rintro ⟨v332, aE⟩ w71 ⟨hS_, h0_, h1_, h2_, h3_, h4_, h5_, h6_, h7_, h8_, h9_, h10_, h11_, h12_, h13_⟩
                  have aI : Aside0 (Kd.R k37 37 w71 w.heap.size (fun k_ => k_ ≠ aD) v332 bL) := ⟨h0_⟩
                  have aJ : Aside0 (w71.heap[aG]? = some (.cells #[.int .i64 a0_0, .int .i64 a0_1, .slice A0_2 l0_2.length c0_2] 33 (0, 0))) := ⟨h1_⟩
                  have aK : Aside0 (w71.heap[aD]? = some (.cells #[.int .i64 a1_0, .int .i64 a1_1, .int .i64 a1_2] 37 (0, 0))) := ⟨h2_⟩
                  have aN : Aside0 (w71.heap[aT]? = some (.cells #[.int .i64 0, .int .i64 0, .slice none 0 0] 33 (0, 0))) := ⟨h3_⟩
                  have aP : Aside0 (w71.heap[aE]? = some (.cells #[.int .i64 0, .int .i64 0, .slice none 0 0] 33 (0, 0))) := ⟨h4_⟩
                  have aQ : Aside0 (w.heap.size ≤ aE) := ⟨h5_⟩
                  have aX : Aside0 (w.heap.size ≤ aE) := ⟨h6_⟩
                  have bB : Aside0 (aG ≠ aE) := ⟨h7_⟩
                  have bC : Aside0 (aE ≠ aG) := ⟨h8_⟩
                  have bD : Aside0 (aD ≠ aE) := ⟨h9_⟩
                  have bE : Aside0 (aE ≠ aD) := ⟨h10_⟩
                  have bF : Aside0 (aT ≠ aE) := ⟨h11_⟩
                  have bG : Aside0 (aE ≠ aT) := ⟨h12_⟩
                  have bK : Aside0 (Below w.heap.size w w71) := ⟨h13_⟩
                  clear aA aC aH HB h0_ h1_ h2_ h3_ h4_ h5_ h6_ h7_ h8_ h9_ h10_ h11_ h12_ h13_
                  have aU := aI
                  have aA := aJ
                  have aC := aK
                  have aH := aN
                  have aV := aP
                  have bQ := aQ
                  have bM := aX
                  have aZ := bB
                  have bI := bC
                  have bA := bD
                  have bN := bE
                  have bH := bF
                  have bJ := bG
                  have HB := bK
                  clear aI aJ aK aN aP aQ aX bB bC bD bE bF bG bK
                  have aW : w71.cell? ⟨aG, 0, none⟩ = some (.int .i64 a0_0) ∧ w71.cell? ⟨aG, 1, none⟩ = some (.int .i64 a0_1) ∧ w71.cell? ⟨aG, 2, none⟩ = some (.slice A0_2 l0_2.length c0_2) ∧ w71.cell? ⟨aD, 0, none⟩ = some (.int .i64 a1_0) ∧ w71.cell? ⟨aD, 1, none⟩ = some (.int .i64 a1_1) ∧ w71.cell? ⟨aD, 2, none⟩ = some (.int .i64 a1_2) := hS_
                  refine norm_ (a' := ?_) ?_ ?_
                  rotate_left
                  · simp only [putAll, Act.put, List.setIfInBounds_toArray, List.set_cons_zero, List.set_cons_succ]
                    rfl
                  refine one_ (i := 4) (N := some 11) #[true, true, true, true, true, true, true, false, false, true, false] rfl rfl (one_of HT_.out (by kernel_rfl)) (by decide) (fun K hK => ?_)
                  refine goes_ Try.func23 (by kernel_rfl) rfl #[.slice A0_2 l0_2.length c0_2] (by rfl) rfl rfl (by (try simp only [List.map_toArray, List.map_cons, List.map_nil]); first | done | rfl | (simp only [List.length_drop, List.length_take]; rfl)) ?_
                  with_reducible refine (slices_Clone_impl_Clue_impl_Clue.calls _ _ l0_2 t328 _ ?side1 ?side2 A3.out).mono ?_
                  (case side1 => repeat (first | exact (Kd.C_below HR0_2.out HB.out) | (with_reducible refine Kd.C_alloc ?_ _) | (with_reducible refine Kd.C_drewN ?_ _) | (with_reducible refine Kd.C_drew ?_)))
                  (case side2 => exact bT.out)
                  rintro e w72 ⟨v329, rfl, ho0, hb⟩
                  refine ⟨_, rfl, ?_⟩
                  have aI := aM (Kd.R_elder' aU.out (Kd.R_base ho0) hb)
                  have aJ := aM (Kd.R_lower (Kd.R_newB (Kd.R_new' ho0 (Kd.R_lt aU.out)) (g := aD) (o := .cells #[.int .i64 a1_0, .int .i64 a1_1, .int .i64 a1_2] 37 (0, 0)) aC.out) (below_size HB.out))
                  have aK := aM (blk_below aA.out hb)
                  have aN := aM (blk_below aC.out hb)
                  have aP := aM (blk_below aH.out hb)
                  have aQ := aM (blk_below aV.out hb)
                  have aX := aM (bp_ HB.out hb)
                  clear aU aA aC aH aV HB
                  have aU := aI
                  have aY := aJ
                  have aA := aK
                  have aC := aN
                  have aH := aP
                  have aV := aQ
                  have HB := aX
                  clear aI aJ aK aN aP aQ aX
                  (try clear hb)
                  (try clear hb2)
                  (try clear hk)
                  (try clear hi)
                  (try clear ho0)
                  refine hK.out _ _ ⟨(blk_cell aA.out 0).trans rfl, (blk_cell aA.out 1).trans rfl, (blk_cell aA.out 2).trans rfl, (blk_cell aC.out 0).trans rfl, (blk_cell aC.out 1).trans rfl, (blk_cell aC.out 2).trans rfl⟩ (fun aW => ?_)
                  clear hK K
                  refine norm_ (a' := ?_) ?_ ?_
                  rotate_left
                  · show Act.put _ (some 11) _ = _
                    simp only [Act.put, List.setIfInBounds_toArray, List.set_cons_zero, List.set_cons_succ, i64_w, i32_w]
                    rfl
                  exact norm_ (by first | (simp only [putAll, Act.put, List.setIfInBounds_toArray, List.set_cons_zero, List.set_cons_succ]; done) | (simp only [putAll, Act.put, List.setIfInBounds_toArray, List.set_cons_zero, List.set_cons_succ]; rfl)) (hJ4_6_9 (v329, v332, aE) _ ⟨aW, (by (with_reducible repeat (first | apply Kd.R_alloc | apply Kd.R_drewN | apply Kd.R_drew)); exact Kd.R_mono aY.out (fun _ hk => ⟨hk.1.2, hk.2⟩)), (by (with_reducible repeat (first | apply Kd.R_alloc | apply Kd.R_drewN | apply Kd.R_drew)); exact Kd.R_mono aU.out (fun _ hk => ⟨hk.2, hk.1⟩)), aA.out, aC.out, aH.out, aV.out, bQ.out, bM.out, aZ.out, bI.out, bA.out, bN.out, bH.out, bJ.out, HB.out⟩)
              · skip
                rintro ⟨v329, aE⟩ w70 ⟨hS_, h0_, h1_, h2_, h3_, h4_, h5_, h6_, h7_, h8_, h9_, h10_, h11_, h12_, h13_⟩
                have aI : Aside0 (Kd.R k37 37 w70 w.heap.size (fun k_ => k_ ≠ aD) v329 t328) := ⟨h0_⟩
                have aJ : Aside0 (w70.heap[aG]? = some (.cells #[.int .i64 a0_0, .int .i64 a0_1, .slice A0_2 l0_2.length c0_2] 33 (0, 0))) := ⟨h1_⟩
                have aK : Aside0 (w70.heap[aD]? = some (.cells #[.int .i64 a1_0, .int .i64 a1_1, .int .i64 a1_2] 37 (0, 0))) := ⟨h2_⟩
                have aN : Aside0 (w70.heap[aT]? = some (.cells #[.int .i64 0, .int .i64 0, .slice none 0 0] 33 (0, 0))) := ⟨h3_⟩
                have aP : Aside0 (w70.heap[aE]? = some (.cells #[.int .i64 0, .int .i64 0, .slice none 0 0] 33 (0, 0))) := ⟨h4_⟩
                have aQ : Aside0 (w.heap.size ≤ aE) := ⟨h5_⟩
                have aX : Aside0 (w.heap.size ≤ aE) := ⟨h6_⟩
                have bB : Aside0 (aG ≠ aE) := ⟨h7_⟩
                have bC : Aside0 (aE ≠ aG) := ⟨h8_⟩
                have bD : Aside0 (aD ≠ aE) := ⟨h9_⟩
                have bE : Aside0 (aE ≠ aD) := ⟨h10_⟩
                have bF : Aside0 (aT ≠ aE) := ⟨h11_⟩
                have bG : Aside0 (aE ≠ aT) := ⟨h12_⟩
                have bK : Aside0 (Below w.heap.size w w70) := ⟨h13_⟩
                clear aA aC aH HB h0_ h1_ h2_ h3_ h4_ h5_ h6_ h7_ h8_ h9_ h10_ h11_ h12_ h13_
                have aY := aI
                have aA := aJ
                have aC := aK
                have aH := aN
                have aV := aP
                have bQ := aQ
                have bM := aX
                have aZ := bB
                have bI := bC
                have bA := bD
                have bN := bE
                have bH := bF
                have bJ := bG
                have HB := bK
                clear aI aJ aK aN aP aQ aX bB bC bD bE bF bG bK
                have aW : w70.cell? ⟨aG, 0, none⟩ = some (.int .i64 a0_0) ∧ w70.cell? ⟨aG, 1, none⟩ = some (.int .i64 a0_1) ∧ w70.cell? ⟨aG, 2, none⟩ = some (.slice A0_2 l0_2.length c0_2) ∧ w70.cell? ⟨aD, 0, none⟩ = some (.int .i64 a1_0) ∧ w70.cell? ⟨aD, 1, none⟩ = some (.int .i64 a1_1) ∧ w70.cell? ⟨aD, 2, none⟩ = some (.int .i64 a1_2) := hS_
                refine norm_ (a' := ?_) ?_ ?_
                rotate_left
                · simp only [putAll, Act.put, List.setIfInBounds_toArray, List.set_cons_zero, List.set_cons_succ]
                  rfl
                refine one_ (i := 6) (N := some 13) #[true, true, true, true, true, true, true, false, false, true, false] rfl rfl (one_of HT_.out (by kernel_rfl)) (by decide) (fun K hK => ?_)
                refine Kd.R_lit_step k37 _ 37 ?hg (N := 13) ?hd (xs := ([(⟨a1_0, a1_1, a1_2⟩ : S37)] : List (S37))) (inner := [.int .i64 a1_0, .int .i64 a1_1, .int .i64 a1_2]) (ok := fun _ => True) (okp := fun _ => True) ?hr ?hp (fun _ hk => hk) trivial (Below.refl _ _) (Nat.le_refl _) (by simp) ?_; (case hd => rfl); (case hg => rfl); (case hr => first | (go_simp; done) | (go_simp; rfl)); (case hp => exact (Reps.c3 (show Kd.M k37 _ _ _ (⟨a1_0, a1_1, a1_2⟩ : S37) [.int .i64 a1_0, .int .i64 a1_1, .int .i64 a1_2] from (k37_mkM _ _ _ (⟨a1_0, a1_1, a1_2⟩ : S37) )) (Reps.none _ _)))
                intro v332 w71 ho72 hb hg_ hnew_
                clear hg_ hnew_
                (first | rw [← bS.out] at ho72 | (simp only [Int.reduceToNat] at ho72; rw [← bS.out] at ho72))
                have aI := aM (Kd.R_elder' aY.out (Kd.R_base ho72) hb)
                have aJ := aM (Kd.R_lower (Kd.R_newB (Kd.R_new' ho72 (Kd.R_lt aY.out)) (g := aD) (o := .cells #[.int .i64 a1_0, .int .i64 a1_1, .int .i64 a1_2] 37 (0, 0)) aC.out) (below_size HB.out))
                have aK := aM (blk_below aA.out hb)
                have aN := aM (blk_below aC.out hb)
                have aP := aM (blk_below aH.out hb)
                have aQ := aM (blk_below aV.out hb)
                have aX := aM (bp_ HB.out hb)
                clear aY aA aC aH aV HB
                have aY := aI
                have aU := aJ
                have aA := aK
                have aC := aN
                have aH := aP
                have aV := aQ
                have HB := aX
                clear aI aJ aK aN aP aQ aX hb ho72
                refine hK.out _ _ ⟨(blk_cell aA.out 0).trans rfl, (blk_cell aA.out 1).trans rfl, (blk_cell aA.out 2).trans rfl, (blk_cell aC.out 0).trans rfl, (blk_cell aC.out 1).trans rfl, (blk_cell aC.out 2).trans rfl⟩ (fun aW => ?_)
                clear hK K
                refine norm_ (a' := ?_) ?_ ?_
                rotate_left
                · show Act.put _ (some 13) _ = _
                  simp only [Act.put, List.setIfInBounds_toArray, List.set_cons_zero, List.set_cons_succ, i64_w, i32_w]
                  rfl
                exact norm_ (by first | (simp only [putAll, Act.put, List.setIfInBounds_toArray, List.set_cons_zero, List.set_cons_succ]; done) | (simp only [putAll, Act.put, List.setIfInBounds_toArray, List.set_cons_zero, List.set_cons_succ]; rfl)) (hJ4_6_9 (v329, v332, aE) _ ⟨aW, (by (with_reducible repeat (first | apply Kd.R_alloc | apply Kd.R_drewN | apply Kd.R_drew)); exact Kd.R_mono aY.out (fun _ hk => ⟨hk.2, hk.1⟩)), (by (with_reducible repeat (first | apply Kd.R_alloc | apply Kd.R_drewN | apply Kd.R_drew)); exact Kd.R_mono aU.out (fun _ hk => ⟨hk.1.2, hk.2⟩)), aA.out, aC.out, aH.out, aV.out, bQ.out, bM.out, aZ.out, bI.out, bA.out, bN.out, bH.out, bJ.out, HB.out⟩)
            · skip
              rintro ⟨v329, v332⟩ w71 ⟨hS_, h0_, h1_, h2_, h3_, h4_, h5_⟩
              have aI : Aside0 (Kd.R k37 37 w71 w.heap.size (fun k_ => some k_ ≠ (v332 : Value).ownBlock ∧ k_ ≠ aD) v329 t328) := ⟨h0_⟩
              have aJ : Aside0 (Kd.R k37 37 w71 w.heap.size (fun k_ => some k_ ≠ (v329 : Value).ownBlock ∧ k_ ≠ aD) v332 bL) := ⟨h1_⟩
              have aK : Aside0 (w71.heap[aG]? = some (.cells #[.int .i64 a0_0, .int .i64 a0_1, .slice A0_2 l0_2.length c0_2] 33 (0, 0))) := ⟨h2_⟩
              have aN : Aside0 (w71.heap[aD]? = some (.cells #[.int .i64 a1_0, .int .i64 a1_1, .int .i64 a1_2] 37 (0, 0))) := ⟨h3_⟩
              have aP : Aside0 (w71.heap[aT]? = some (.cells #[.int .i64 0, .int .i64 0, .slice none 0 0] 33 (0, 0))) := ⟨h4_⟩
              have aQ : Aside0 (Below w.heap.size w w71) := ⟨h5_⟩
              clear aA aC aH HB h0_ h1_ h2_ h3_ h4_ h5_
              have aY := aI
              have aU := aJ
              have aA := aK
              have aC := aN
              have aH := aP
              have HB := aQ
              clear aI aJ aK aN aP aQ
              have aW : w71.cell? ⟨aG, 0, none⟩ = some (.int .i64 a0_0) ∧ w71.cell? ⟨aG, 1, none⟩ = some (.int .i64 a0_1) ∧ w71.cell? ⟨aG, 2, none⟩ = some (.slice A0_2 l0_2.length c0_2) ∧ w71.cell? ⟨aD, 0, none⟩ = some (.int .i64 a1_0) ∧ w71.cell? ⟨aD, 1, none⟩ = some (.int .i64 a1_1) ∧ w71.cell? ⟨aD, 2, none⟩ = some (.int .i64 a1_2) := hS_
              obtain ⟨dE, dF, dR⟩ := Kd.R_slice aU.out
              (first | subst dR | (injection dR with f1_ f2_ f3_; have f4_ := f1_.symm; have f5_ := f3_.symm; clear f1_ f2_ f3_; subst f4_; subst f5_))
              refine norm_ (a' := ?_) ?_ ?_
              rotate_left
              · simp only [putAll, Act.put, List.setIfInBounds_toArray, List.set_cons_zero, List.set_cons_succ]
                rfl
              refine two_ (i := 7) (j := 9) (Ni := some 14) (Nj := some 6) #[true, true, true, true, true, true, true, true, false, false, false] #[true, true, true, true, true, true, true, false, false, true, false] rfl rfl rfl rfl (two_of HT_.out (by kernel_rfl)) (by decide) (by decide) (fun K hK => ?_) (fun K hK => ?_)
              · skip
                refine Kd.R_append_rows_step k37 (w0 := w) w.heap.size (by rfl) (.tmp 11) (.tmp 13) 31 37 (.agg #[(.int .i64 0), (.int .i64 0), (.int .i64 0)]) 24 rfl Try.underlying31 info37 rfl (by decide) (by omega) v329 t328 bL _ _ _ (fun k_ => some k_ ≠ (.slice dE bL.length dF : Value).ownBlock ∧ k_ ≠ aD) (fun _ => False) rfl rfl ?aO ?aR (fun _ _ h => h) (fun _ h => h.elim) ?aF ?aB ?aS ?aL ?_
                (case aR => repeat (first | exact (Kd.R_reads' aU.out).2.2 | (with_reducible refine Kd.C_alloc ?_ _) | (with_reducible refine Kd.C_drewN ?_ _) | (with_reducible refine Kd.C_drew ?_)))
                (case aB => exact HB.out)
                (case aF => exact (fun k_ hk => ⟨Kd.fresh' (Kd.R_lt aU.out) k_ hk, Kd.freshB (g := aD) (o := .cells #[.int .i64 a1_0, .int .i64 a1_1, .int .i64 a1_2] 37 (0, 0)) aC.out k_ hk⟩))
                (case aO => exact aY.out)
                (case aS => exact (below_size HB.out))
                (case aL => have := LMc4.out; omega)
                intro v335 w72 ho hb hg hat
                rw [← bZ.out] at ho
                have aI := aM (blk_grown aA.out hg (Kd.R_ne aY.out aA.out (by decide)))
                have aJ := aM (blk_grown aC.out hg (Kd.R_away aY.out (fun _ hk => hk.2)))
                have aK := aM (blk_grown aH.out hg (Kd.R_ne aY.out aH.out (by decide)))
                have aN := aM (Kd.R_after (ok := (fun k_ => k_ ≠ aD)) (by (with_reducible repeat (first | apply Kd.R_alloc | apply Kd.R_drewN | apply Kd.R_drew)); exact Kd.R_mono aU.out (fun _ hk => ⟨hk.2, hk.1⟩)) hg hat)
                have aP := aM (hb)
                have aQ := aM (ho)
                clear aA aC aH aU HB aY
                have aA := aI
                have aC := aJ
                have aH := aK
                have aU := aN
                have HB := aP
                have bO := aQ
                clear aI aJ aK aN aP aQ ho hb hg hat
                obtain ⟨cU, cV, cO⟩ := Kd.R_slice bO.out
                (first | subst cO | (injection cO with f1_ f2_ f3_; have f4_ := f1_.symm; have f5_ := f3_.symm; clear f1_ f2_ f3_; subst f4_; subst f5_))
                refine hK.out _ _ ⟨(blk_cell aA.out 0).trans rfl, (blk_cell aA.out 1).trans rfl, (blk_cell aA.out 2).trans rfl, (blk_cell aC.out 0).trans rfl, (blk_cell aC.out 1).trans rfl, (blk_cell aC.out 2).trans rfl⟩ (fun aW => ?_)
                clear hK K
                refine norm_ (a' := ?_) ?_ ?_
                rotate_left
                · show Act.put _ (some 14) _ = _
                  simp only [Act.put, List.setIfInBounds_toArray, List.set_cons_zero, List.set_cons_succ, i64_w, i32_w]
                  rfl
                refine pure_ (i := 8) (N := some 15) (v := ?_) (a' := ?_) #[true, true, true, true, true, true, true, true, true, false, false] rfl rfl (any_of HT_.out (by kernel_rfl)) (fun _ _ _ h => h) (Or.inl ⟨by rfl, ?_⟩) ?_ ?_
                rotate_left
                · intro w'
                  go_simp
                  with_reducible rfl
                rotate_left
                · simp only [Act.put, List.setIfInBounds_toArray, List.set_cons_zero, List.set_cons_succ, i64_w, i32_w]
                  rfl
                exact norm_ (by first | (simp only [putAll, Act.put, List.setIfInBounds_toArray, List.set_cons_zero, List.set_cons_succ]; done) | (simp only [putAll, Act.put, List.setIfInBounds_toArray, List.set_cons_zero, List.set_cons_succ]; rfl)) (hJ4_6_7 (v329, .slice dE bL.length dF, .slice cU bP.length cV) _ ⟨aW, (by (with_reducible repeat (first | apply Kd.R_alloc | apply Kd.R_drewN | apply Kd.R_drew)); exact Kd.R_mono aU.out (fun _ hk => ⟨hk.2, hk.1⟩)), bO.out, aA.out, aC.out, aH.out, HB.out⟩)
              · skip
                refine box_step ?hg (N := 6) ?hd (cs := #[.int .i64 0, .int .i64 0, .slice none 0 0]) (t := 33) ?hr ?_; (case hd => rfl); (case hg => rfl); (case hr => first | (go_simp; done) | (go_simp; rfl))
                intro aE hg w72 hbox hb
                have aI := aM (Kd.R_below aY.out hb)
                have aJ := aM (Kd.R_below aU.out hb)
                have aK := aM (blk_below aA.out hb)
                have aN := aM (blk_below aC.out hb)
                have aP := aM (blk_below aH.out hb)
                have aQ := aM (bp_ HB.out hb)
                have aX := aM (hbox)
                have bB := aM ((by rw [hg]; exact (below_size HB.out) : w.heap.size ≤ aE))
                have bC := aM ((by rw [hg]; exact (below_size HB.out) : w.heap.size ≤ aE))
                have bD := aM ((by rw [hg]; exact Nat.ne_of_lt (blk_lt aA.out) : aG ≠ aE))
                have bE := aM ((by rw [hg]; exact Nat.ne_of_gt (blk_lt aA.out) : aE ≠ aG))
                have bF := aM ((by rw [hg]; exact Nat.ne_of_lt (blk_lt aC.out) : aD ≠ aE))
                have bG := aM ((by rw [hg]; exact Nat.ne_of_gt (blk_lt aC.out) : aE ≠ aD))
                have bK := aM ((by rw [hg]; exact Nat.ne_of_lt (blk_lt aH.out) : aT ≠ aE))
                have bR := aM ((by rw [hg]; exact Nat.ne_of_gt (blk_lt aH.out) : aE ≠ aT))
                clear aY aU aA aC aH HB
                have aY := aI
                have aU := aJ
                have aA := aK
                have aC := aN
                have aH := aP
                have HB := aQ
                have aV := aX
                have bQ := bB
                have bM := bC
                have aZ := bD
                have bI := bE
                have bA := bF
                have bN := bG
                have bH := bK
                have bJ := bR
                clear aI aJ aK aN aP aQ aX bB bC bD bE bF bG bK bR hb hbox hg
                refine hK.out _ _ ⟨(blk_cell aA.out 0).trans rfl, (blk_cell aA.out 1).trans rfl, (blk_cell aA.out 2).trans rfl, (blk_cell aC.out 0).trans rfl, (blk_cell aC.out 1).trans rfl, (blk_cell aC.out 2).trans rfl⟩ (fun aW => ?_)
                clear hK K
                refine norm_ (a' := ?_) ?_ ?_
                rotate_left
                · show Act.put _ (some 6) _ = _
                  simp only [Act.put, List.setIfInBounds_toArray, List.set_cons_zero, List.set_cons_succ, i64_w, i32_w]
                  rfl
                exact norm_ (by first | (simp only [putAll, Act.put, List.setIfInBounds_toArray, List.set_cons_zero, List.set_cons_succ]; done) | (simp only [putAll, Act.put, List.setIfInBounds_toArray, List.set_cons_zero, List.set_cons_succ]; rfl)) (hJ4_6_9 (v329, .slice dE bL.length dF, aE) _ ⟨aW, aY.out, aU.out, aA.out, aC.out, aH.out, aV.out, bQ.out, bM.out, aZ.out, bI.out, bA.out, bN.out, bH.out, bJ.out, HB.out⟩)
          · skip
            rintro ⟨v329, v332, aE⟩ w72 ⟨hS_, h0_, h1_, h2_, h3_, h4_, h5_, h6_, h7_, h8_, h9_, h10_, h11_, h12_, h13_, h14_⟩
            have aI : Aside0 (Kd.R k37 37 w72 w.heap.size (fun k_ => some k_ ≠ (v332 : Value).ownBlock ∧ k_ ≠ aD) v329 t328) := ⟨h0_⟩
            have aJ : Aside0 (Kd.R k37 37 w72 w.heap.size (fun k_ => some k_ ≠ (v329 : Value).ownBlock ∧ k_ ≠ aD) v332 bL) := ⟨h1_⟩
            have aK : Aside0 (w72.heap[aG]? = some (.cells #[.int .i64 a0_0, .int .i64 a0_1, .slice A0_2 l0_2.length c0_2] 33 (0, 0))) := ⟨h2_⟩
            have aN : Aside0 (w72.heap[aD]? = some (.cells #[.int .i64 a1_0, .int .i64 a1_1, .int .i64 a1_2] 37 (0, 0))) := ⟨h3_⟩
            have aP : Aside0 (w72.heap[aT]? = some (.cells #[.int .i64 0, .int .i64 0, .slice none 0 0] 33 (0, 0))) := ⟨h4_⟩
            have aQ : Aside0 (w72.heap[aE]? = some (.cells #[.int .i64 0, .int .i64 0, .slice none 0 0] 33 (0, 0))) := ⟨h5_⟩
            have aX : Aside0 (w.heap.size ≤ aE) := ⟨h6_⟩
            have bB : Aside0 (w.heap.size ≤ aE) := ⟨h7_⟩
            have bC : Aside0 (aG ≠ aE) := ⟨h8_⟩
            have bD : Aside0 (aE ≠ aG) := ⟨h9_⟩
            have bE : Aside0 (aD ≠ aE) := ⟨h10_⟩
            have bF : Aside0 (aE ≠ aD) := ⟨h11_⟩
            have bG : Aside0 (aT ≠ aE) := ⟨h12_⟩
            have bK : Aside0 (aE ≠ aT) := ⟨h13_⟩
            have bR : Aside0 (Below w.heap.size w w72) := ⟨h14_⟩
            clear aA aC aH HB h0_ h1_ h2_ h3_ h4_ h5_ h6_ h7_ h8_ h9_ h10_ h11_ h12_ h13_ h14_
            have aY := aI
            have aU := aJ
            have aA := aK
            have aC := aN
            have aH := aP
            have aV := aQ
            have bQ := aX
            have bM := bB
            have aZ := bC
            have bI := bD
            have bA := bE
            have bN := bF
            have bH := bG
            have bJ := bK
            have HB := bR
            clear aI aJ aK aN aP aQ aX bB bC bD bE bF bG bK bR
            have aW : w72.cell? ⟨aG, 0, none⟩ = some (.int .i64 a0_0) ∧ w72.cell? ⟨aG, 1, none⟩ = some (.int .i64 a0_1) ∧ w72.cell? ⟨aG, 2, none⟩ = some (.slice A0_2 l0_2.length c0_2) ∧ w72.cell? ⟨aD, 0, none⟩ = some (.int .i64 a1_0) ∧ w72.cell? ⟨aD, 1, none⟩ = some (.int .i64 a1_1) ∧ w72.cell? ⟨aD, 2, none⟩ = some (.int .i64 a1_2) := hS_
            obtain ⟨cU, cV, cO⟩ := Kd.R_slice aU.out
            (first | subst cO | (injection cO with f1_ f2_ f3_; have f4_ := f1_.symm; have f5_ := f3_.symm; clear f1_ f2_ f3_; subst f4_; subst f5_))
            refine norm_ (a' := ?_) ?_ ?_
            rotate_left
            · simp only [putAll, Act.put, List.setIfInBounds_toArray, List.set_cons_zero, List.set_cons_succ]
              rfl
            refine one_ (i := 7) (N := some 14) #[true, true, true, true, true, true, true, true, false, true, false] rfl rfl (one_of HT_.out (by kernel_rfl)) (by decide) (fun K hK => ?_)
            refine Kd.R_append_rows_step k37 (w0 := w) w.heap.size (by rfl) (.tmp 11) (.tmp 13) 31 37 (.agg #[(.int .i64 0), (.int .i64 0), (.int .i64 0)]) 24 rfl Try.underlying31 info37 rfl (by decide) (by omega) v329 t328 bL _ _ _ (fun k_ => some k_ ≠ (.slice cU bL.length cV : Value).ownBlock ∧ k_ ≠ aD) (fun _ => False) rfl rfl ?aO ?aR (fun _ _ h => h) (fun _ h => h.elim) ?aF ?aB ?aS ?aL ?_
            (case aR => repeat (first | exact (Kd.R_reads' aU.out).2.2 | (with_reducible refine Kd.C_alloc ?_ _) | (with_reducible refine Kd.C_drewN ?_ _) | (with_reducible refine Kd.C_drew ?_)))
            (case aB => exact HB.out)
            (case aF => exact (fun k_ hk => ⟨Kd.fresh' (Kd.R_lt aU.out) k_ hk, Kd.freshB (g := aD) (o := .cells #[.int .i64 a1_0, .int .i64 a1_1, .int .i64 a1_2] 37 (0, 0)) aC.out k_ hk⟩))
            (case aO => exact aY.out)
            (case aS => exact (below_size HB.out))
            (case aL => have := LMc4.out; omega)
            intro v335 w73 ho hb hg hat
            rw [← bZ.out] at ho
            have aI := aM (blk_grown aA.out hg (Kd.R_ne aY.out aA.out (by decide)))
            have aJ := aM (blk_grown aC.out hg (Kd.R_away aY.out (fun _ hk => hk.2)))
            have aK := aM (blk_grown aH.out hg (Kd.R_ne aY.out aH.out (by decide)))
            have aN := aM (Kd.R_after (ok := (fun k_ => k_ ≠ aD)) (by (with_reducible repeat (first | apply Kd.R_alloc | apply Kd.R_drewN | apply Kd.R_drew)); exact Kd.R_mono aU.out (fun _ hk => ⟨hk.2, hk.1⟩)) hg hat)
            have aP := aM (blk_grown aV.out hg (Kd.R_ne aY.out aV.out (by decide)))
            have aQ := aM (hb)
            have aX := aM (ho)
            clear aA aC aH aU aV HB aY
            have aA := aI
            have aC := aJ
            have aH := aK
            have aU := aN
            have aV := aP
            have HB := aQ
            have bO := aX
            clear aI aJ aK aN aP aQ aX ho hb hg hat
            obtain ⟨dG, dH, cP⟩ := Kd.R_slice bO.out
            (first | subst cP | (injection cP with f1_ f2_ f3_; have f4_ := f1_.symm; have f5_ := f3_.symm; clear f1_ f2_ f3_; subst f4_; subst f5_))
            refine hK.out _ _ ⟨(blk_cell aA.out 0).trans rfl, (blk_cell aA.out 1).trans rfl, (blk_cell aA.out 2).trans rfl, (blk_cell aC.out 0).trans rfl, (blk_cell aC.out 1).trans rfl, (blk_cell aC.out 2).trans rfl⟩ (fun aW => ?_)
            clear hK K
            refine norm_ (a' := ?_) ?_ ?_
            rotate_left
            · show Act.put _ (some 14) _ = _
              simp only [Act.put, List.setIfInBounds_toArray, List.set_cons_zero, List.set_cons_succ, i64_w, i32_w]
              rfl
            refine pure_ (i := 8) (N := some 15) (v := ?_) (a' := ?_) #[true, true, true, true, true, true, true, true, true, true, false] rfl rfl (any_of HT_.out (by kernel_rfl)) (fun _ _ _ h => h) (Or.inl ⟨by rfl, ?_⟩) ?_ ?_
            rotate_left
            · intro w'
              go_simp
              with_reducible rfl
            rotate_left
            · simp only [Act.put, List.setIfInBounds_toArray, List.set_cons_zero, List.set_cons_succ, i64_w, i32_w]
              rfl
            exact norm_ (by first | (simp only [putAll, Act.put, List.setIfInBounds_toArray, List.set_cons_zero, List.set_cons_succ]; done) | (simp only [putAll, Act.put, List.setIfInBounds_toArray, List.set_cons_zero, List.set_cons_succ]; rfl)) (hJ4_6_7_9 (v329, .slice cU bL.length cV, .slice dG bP.length dH, aE) _ ⟨aW, (by (with_reducible repeat (first | apply Kd.R_alloc | apply Kd.R_drewN | apply Kd.R_drew)); exact Kd.R_mono aU.out (fun _ hk => ⟨hk.2, hk.1⟩)), bO.out, aA.out, aC.out, aH.out, aV.out, bQ.out, bM.out, aZ.out, bI.out, bA.out, bN.out, bH.out, bJ.out, HB.out⟩)
        · skip
          rintro ⟨v329, v332, v335⟩ w74 ⟨hS_, h0_, h1_, h2_, h3_, h4_, h5_⟩
          have aI : Aside0 (Kd.R k37 37 w74 w.heap.size (fun k_ => some k_ ≠ (v335 : Value).ownBlock ∧ k_ ≠ aD) v332 bL) := ⟨h0_⟩
          have aJ : Aside0 (Kd.R k37 37 w74 w.heap.size (fun k_ => some k_ ≠ (v332 : Value).ownBlock ∧ k_ ≠ aD) v335 bP) := ⟨h1_⟩
          have aK : Aside0 (w74.heap[aG]? = some (.cells #[.int .i64 a0_0, .int .i64 a0_1, .slice A0_2 l0_2.length c0_2] 33 (0, 0))) := ⟨h2_⟩
          have aN : Aside0 (w74.heap[aD]? = some (.cells #[.int .i64 a1_0, .int .i64 a1_1, .int .i64 a1_2] 37 (0, 0))) := ⟨h3_⟩
          have aP : Aside0 (w74.heap[aT]? = some (.cells #[.int .i64 0, .int .i64 0, .slice none 0 0] 33 (0, 0))) := ⟨h4_⟩
          have aQ : Aside0 (Below w.heap.size w w74) := ⟨h5_⟩
          clear aA aC aH HB h0_ h1_ h2_ h3_ h4_ h5_
          have aU := aI
          have bO := aJ
          have aA := aK
          have aC := aN
          have aH := aP
          have HB := aQ
          clear aI aJ aK aN aP aQ
          have aW : w74.cell? ⟨aG, 0, none⟩ = some (.int .i64 a0_0) ∧ w74.cell? ⟨aG, 1, none⟩ = some (.int .i64 a0_1) ∧ w74.cell? ⟨aG, 2, none⟩ = some (.slice A0_2 l0_2.length c0_2) ∧ w74.cell? ⟨aD, 0, none⟩ = some (.int .i64 a1_0) ∧ w74.cell? ⟨aD, 1, none⟩ = some (.int .i64 a1_1) ∧ w74.cell? ⟨aD, 2, none⟩ = some (.int .i64 a1_2) := hS_
          obtain ⟨dG, dH, cP⟩ := Kd.R_slice bO.out
          (first | subst cP | (injection cP with f1_ f2_ f3_; have f4_ := f1_.symm; have f5_ := f3_.symm; clear f1_ f2_ f3_; subst f4_; subst f5_))
          refine norm_ (a' := ?_) ?_ ?_
          rotate_left
          · simp only [putAll, Act.put, List.setIfInBounds_toArray, List.set_cons_zero, List.set_cons_succ]
            rfl
          refine one_ (i := 9) (N := some 6) #[true, true, true, true, true, true, true, true, true, true, false] rfl rfl (one_of HT_.out (by kernel_rfl)) (by decide) (fun K hK => ?_)
          refine box_step ?hg (N := 6) ?hd (cs := #[.int .i64 0, .int .i64 0, .slice none 0 0]) (t := 33) ?hr ?_; (case hd => rfl); (case hg => rfl); (case hr => first | (go_simp; done) | (go_simp; rfl))
          intro aE hg w76 hbox hb
          have aI := aM (Kd.R_below aU.out hb)
          have aJ := aM (Kd.R_below bO.out hb)
          have aK := aM (blk_below aA.out hb)
          have aN := aM (blk_below aC.out hb)
          have aP := aM (blk_below aH.out hb)
          have aQ := aM (bp_ HB.out hb)
          have aX := aM (hbox)
          have bB := aM ((by rw [hg]; exact (below_size HB.out) : w.heap.size ≤ aE))
          have bC := aM ((by rw [hg]; exact (below_size HB.out) : w.heap.size ≤ aE))
          have bD := aM ((by rw [hg]; exact Nat.ne_of_lt (blk_lt aA.out) : aG ≠ aE))
          have bE := aM ((by rw [hg]; exact Nat.ne_of_gt (blk_lt aA.out) : aE ≠ aG))
          have bF := aM ((by rw [hg]; exact Nat.ne_of_lt (blk_lt aC.out) : aD ≠ aE))
          have bG := aM ((by rw [hg]; exact Nat.ne_of_gt (blk_lt aC.out) : aE ≠ aD))
          have bK := aM ((by rw [hg]; exact Nat.ne_of_lt (blk_lt aH.out) : aT ≠ aE))
          have bR := aM ((by rw [hg]; exact Nat.ne_of_gt (blk_lt aH.out) : aE ≠ aT))
          clear aU bO aA aC aH HB
          have aU := aI
          have bO := aJ
          have aA := aK
          have aC := aN
          have aH := aP
          have HB := aQ
          have aV := aX
          have bQ := bB
          have bM := bC
          have aZ := bD
          have bI := bE
          have bA := bF
          have bN := bG
          have bH := bK
          have bJ := bR
          clear aI aJ aK aN aP aQ aX bB bC bD bE bF bG bK bR hb hbox hg
          refine hK.out _ _ ⟨(blk_cell aA.out 0).trans rfl, (blk_cell aA.out 1).trans rfl, (blk_cell aA.out 2).trans rfl, (blk_cell aC.out 0).trans rfl, (blk_cell aC.out 1).trans rfl, (blk_cell aC.out 2).trans rfl⟩ (fun aW => ?_)
          clear hK K
          refine norm_ (a' := ?_) ?_ ?_
          rotate_left
          · show Act.put _ (some 6) _ = _
            simp only [Act.put, List.setIfInBounds_toArray, List.set_cons_zero, List.set_cons_succ, i64_w, i32_w]
            rfl
          exact norm_ (by first | (simp only [putAll, Act.put, List.setIfInBounds_toArray, List.set_cons_zero, List.set_cons_succ]; done) | (simp only [putAll, Act.put, List.setIfInBounds_toArray, List.set_cons_zero, List.set_cons_succ]; rfl)) (hJ4_6_7_9 (v329, v332, .slice dG bP.length dH, aE) _ ⟨aW, aU.out, bO.out, aA.out, aC.out, aH.out, aV.out, bQ.out, bM.out, aZ.out, bI.out, bA.out, bN.out, bH.out, bJ.out, HB.out⟩)
      rintro ⟨v329, v332, v335, aE⟩ w75 ⟨hS_, h0_, h1_, h2_, h3_, h4_, h5_, h6_, h7_, h8_, h9_, h10_, h11_, h12_, h13_, h14_⟩
      have aI : Aside0 (Kd.R k37 37 w75 w.heap.size (fun k_ => some k_ ≠ (v335 : Value).ownBlock ∧ k_ ≠ aD) v332 bL) := ⟨h0_⟩
      have aJ : Aside0 (Kd.R k37 37 w75 w.heap.size (fun k_ => some k_ ≠ (v332 : Value).ownBlock ∧ k_ ≠ aD) v335 bP) := ⟨h1_⟩
      have aK : Aside0 (w75.heap[aG]? = some (.cells #[.int .i64 a0_0, .int .i64 a0_1, .slice A0_2 l0_2.length c0_2] 33 (0, 0))) := ⟨h2_⟩
      have aN : Aside0 (w75.heap[aD]? = some (.cells #[.int .i64 a1_0, .int .i64 a1_1, .int .i64 a1_2] 37 (0, 0))) := ⟨h3_⟩
      have aP : Aside0 (w75.heap[aT]? = some (.cells #[.int .i64 0, .int .i64 0, .slice none 0 0] 33 (0, 0))) := ⟨h4_⟩
      have aQ : Aside0 (w75.heap[aE]? = some (.cells #[.int .i64 0, .int .i64 0, .slice none 0 0] 33 (0, 0))) := ⟨h5_⟩
      have aX : Aside0 (w.heap.size ≤ aE) := ⟨h6_⟩
      have bB : Aside0 (w.heap.size ≤ aE) := ⟨h7_⟩
      have bC : Aside0 (aG ≠ aE) := ⟨h8_⟩
      have bD : Aside0 (aE ≠ aG) := ⟨h9_⟩
      have bE : Aside0 (aD ≠ aE) := ⟨h10_⟩
      have bF : Aside0 (aE ≠ aD) := ⟨h11_⟩
      have bG : Aside0 (aT ≠ aE) := ⟨h12_⟩
      have bK : Aside0 (aE ≠ aT) := ⟨h13_⟩
      have bR : Aside0 (Below w.heap.size w w75) := ⟨h14_⟩
      clear aA aC aH HB h0_ h1_ h2_ h3_ h4_ h5_ h6_ h7_ h8_ h9_ h10_ h11_ h12_ h13_ h14_
      have aU := aI
      have bO := aJ
      have aA := aK
      have aC := aN
      have aH := aP
      have aV := aQ
      have bQ := aX
      have bM := bB
      have aZ := bC
      have bI := bD
      have bA := bE
      have bN := bF
      have bH := bG
      have bJ := bK
      have HB := bR
      clear aI aJ aK aN aP aQ aX bB bC bD bE bF bG bK bR
      have aW : w75.cell? ⟨aG, 0, none⟩ = some (.int .i64 a0_0) ∧ w75.cell? ⟨aG, 1, none⟩ = some (.int .i64 a0_1) ∧ w75.cell? ⟨aG, 2, none⟩ = some (.slice A0_2 l0_2.length c0_2) ∧ w75.cell? ⟨aD, 0, none⟩ = some (.int .i64 a1_0) ∧ w75.cell? ⟨aD, 1, none⟩ = some (.int .i64 a1_1) ∧ w75.cell? ⟨aD, 2, none⟩ = some (.int .i64 a1_2) := hS_
      obtain ⟨dI, dJ, dS⟩ := Kd.R_slice bO.out
      (first | subst dS | (injection dS with f1_ f2_ f3_; have f4_ := f1_.symm; have f5_ := f3_.symm; clear f1_ f2_ f3_; subst f4_; subst f5_))
      refine norm_ (a' := ?_) ?_ ?_
      rotate_left
      · simp only [putAll, Act.put, List.setIfInBounds_toArray, List.set_cons_zero, List.set_cons_succ]
        rfl
      refine one_ (i := 10) (N := none) #[true, true, true, true, true, true, true, true, true, true, true] rfl rfl (one_of HT_.out (by kernel_rfl)) (by decide) (fun K hK => ?_)
      have iE : w75.cell? ⟨aE, 0, none⟩ = some (.int .i64 0) := (blk_cell aV.out 0).trans rfl
      have iF := blk_frozen aV.out 0
      have iG := aZ.out
      have iH := bA.out
      have iI := bH.out
      have iJ := bI.out
      have iK := bN.out
      have iL := bJ.out
      have iM : w75.cell? ⟨aE, 1, none⟩ = some (.int .i64 0) := (blk_cell aV.out 1).trans rfl
      have iN := blk_frozen aV.out 1
      have iO := aZ.out
      have iP := bA.out
      have iQ := bH.out
      have iR := bI.out
      have iS := bN.out
      have iT := bJ.out
      have iU : w75.cell? ⟨aE, 2, none⟩ = some (.slice none 0 0) := (blk_cell aV.out 2).trans rfl
      have iV := blk_frozen aV.out 2
      have iW := aZ.out
      have iX := bA.out
      have iY := bH.out
      have iZ := bI.out
      have jA := bN.out
      have jB := bJ.out
      refine skip_ (w1 := ?_) (by rfl) rfl ?_ ?_
      rotate_left
      · go_simp
        rfl
      refine hK.out _ _ ⟨((cell_far (p := ⟨aE, _, none⟩) aZ.out _).trans (((cell_far (p := ⟨aE, _, none⟩) aZ.out _).trans (((cell_far (p := ⟨aE, _, none⟩) aZ.out _).trans (aW.1)))))), ((cell_far (p := ⟨aE, _, none⟩) aZ.out _).trans (((cell_far (p := ⟨aE, _, none⟩) aZ.out _).trans (((cell_far (p := ⟨aE, _, none⟩) aZ.out _).trans (aW.2.1)))))), ((cell_far (p := ⟨aE, _, none⟩) aZ.out _).trans (((cell_far (p := ⟨aE, _, none⟩) aZ.out _).trans (((cell_far (p := ⟨aE, _, none⟩) aZ.out _).trans (aW.2.2.1)))))), ((cell_far (p := ⟨aE, _, none⟩) bA.out _).trans (((cell_far (p := ⟨aE, _, none⟩) bA.out _).trans (((cell_far (p := ⟨aE, _, none⟩) bA.out _).trans (aW.2.2.2.1)))))), ((cell_far (p := ⟨aE, _, none⟩) bA.out _).trans (((cell_far (p := ⟨aE, _, none⟩) bA.out _).trans (((cell_far (p := ⟨aE, _, none⟩) bA.out _).trans (aW.2.2.2.2.1)))))), ((cell_far (p := ⟨aE, _, none⟩) bA.out _).trans (((cell_far (p := ⟨aE, _, none⟩) bA.out _).trans (((cell_far (p := ⟨aE, _, none⟩) bA.out _).trans (aW.2.2.2.2.2))))))⟩ (fun aW => ?_)
      clear hK K
      refine done_ (done_of HT_.out (by kernel_rfl)) ?_
      have jC := cC.out
      have jD := cD.out
      have jE := cE.out
      have jF := cF.out
      have jG := aZ.out
      have jH := bI.out
      have jI : w75.cell? ⟨aG, 0, none⟩ = some (.int .i64 a0_0) := (blk_cell aA.out 0).trans rfl
      have jJ : w75.cell? ⟨aG, 1, none⟩ = some (.int .i64 a0_1) := (blk_cell aA.out 1).trans rfl
      have jK : w75.cell? ⟨aG, 2, none⟩ = some (.slice A0_2 l0_2.length c0_2) := (blk_cell aA.out 2).trans rfl
      have jL := blk_frozen aA.out 0
      have jM := blk_frozen aA.out 1
      have jN := blk_frozen aA.out 2
      try go_wp2_with (first | ((with_reducible refine gate_callee (f := 24) rfl ?_); refine goesL_ (some 17) rfl rfl Try.func24 (by kernel_rfl) rfl #[.agg #[.int .i64 a0_0, .int .i64 a0_1, .slice A0_2 l0_2.length c0_2]] rfl (by (try simp only [List.map_toArray, List.map_cons, List.map_nil]); first | done | rfl | (simp only [List.length_drop, List.length_take]; rfl)) ?_; (with_reducible refine (impl_IsPuzzle.calls a0_0 a0_1 _ _ l0_2 false _ ?side1 ?side2 A5.out).mono ?_); (case side1 => exact Kd.C_below HR0_2.out (by repeat (first | (with_reducible first | exact HB.out | apply ba_ | apply bn_ | apply bd_ | refine bs_ ?_ bU.out | refine bs_ ?_ bV.out | refine bs_ ?_ bW.out | refine bs_ ?_ bM.out) | exact HB.out))); (case side2 => exact bT.out); rintro e w84 ⟨rfl, hb⟩; refine ⟨_, rfl, ?_⟩; have aI := aM (Kd.R_below (by (with_reducible repeat (first | apply Kd.R_alloc | apply Kd.R_drewN | apply Kd.R_drew)); exact (Kd.R_mono (Kd.R_far (p := ⟨aE, 2, none⟩) (Kd.R_far (p := ⟨aE, 1, none⟩) (Kd.R_far (p := ⟨aE, 0, none⟩) (Kd.R_types aU.out aV.out (by decide)) (fun _ hk => hk.2) (.int .i64 a0_0)) (fun _ hk => hk.2) (.int .i64 a0_1)) (fun _ hk => hk.2) (.slice dI bP.length dJ)) (fun _ h_ => h_.1))) hb); have aJ := aM (Kd.R_below (by (with_reducible repeat (first | apply Kd.R_alloc | apply Kd.R_drewN | apply Kd.R_drew)); exact (Kd.R_mono (Kd.R_far (p := ⟨aE, 2, none⟩) (Kd.R_far (p := ⟨aE, 1, none⟩) (Kd.R_far (p := ⟨aE, 0, none⟩) (Kd.R_types bO.out aV.out (by decide)) (fun _ hk => hk.2) (.int .i64 a0_0)) (fun _ hk => hk.2) (.int .i64 a0_1)) (fun _ hk => hk.2) (.slice dI bP.length dJ)) (fun _ h_ => h_.1))) hb); have aK := aM (blk_below (g := aG) (o := .cells #[.int .i64 a0_0, .int .i64 a0_1, .slice A0_2 l0_2.length c0_2] 33 (0, 0)) (by (with_reducible repeat (first | refine kn_ ?_ _ | refine blk_drew ?_ | refine ka_ ?_ _)); refine blk_far ?_ aZ.out _; (with_reducible repeat (first | refine kn_ ?_ _ | refine blk_drew ?_ | refine ka_ ?_ _)); refine blk_far ?_ aZ.out _; (with_reducible repeat (first | refine kn_ ?_ _ | refine blk_drew ?_ | refine ka_ ?_ _)); refine blk_far ?_ aZ.out _; (with_reducible repeat (first | refine kn_ ?_ _ | refine blk_drew ?_ | refine ka_ ?_ _)); exact aA.out) hb); have aN := aM (blk_below (g := aD) (o := .cells #[.int .i64 a1_0, .int .i64 a1_1, .int .i64 a1_2] 37 (0, 0)) (by (with_reducible repeat (first | refine kn_ ?_ _ | refine blk_drew ?_ | refine ka_ ?_ _)); refine blk_far ?_ bA.out _; (with_reducible repeat (first | refine kn_ ?_ _ | refine blk_drew ?_ | refine ka_ ?_ _)); refine blk_far ?_ bA.out _; (with_reducible repeat (first | refine kn_ ?_ _ | refine blk_drew ?_ | refine ka_ ?_ _)); refine blk_far ?_ bA.out _; (with_reducible repeat (first | refine kn_ ?_ _ | refine blk_drew ?_ | refine ka_ ?_ _)); exact aC.out) hb); have aP := aM (blk_below (g := aT) (o := .cells #[.int .i64 0, .int .i64 0, .slice none 0 0] 33 (0, 0)) (by (with_reducible repeat (first | refine kn_ ?_ _ | refine blk_drew ?_ | refine ka_ ?_ _)); refine blk_far ?_ bH.out _; (with_reducible repeat (first | refine kn_ ?_ _ | refine blk_drew ?_ | refine ka_ ?_ _)); refine blk_far ?_ bH.out _; (with_reducible repeat (first | refine kn_ ?_ _ | refine blk_drew ?_ | refine ka_ ?_ _)); refine blk_far ?_ bH.out _; (with_reducible repeat (first | refine kn_ ?_ _ | refine blk_drew ?_ | refine ka_ ?_ _)); exact aH.out) hb); have aQ := aM (blk_below (g := aE) (o := .cells #[.int .i64 a0_0, .int .i64 a0_1, .slice dI bP.length dJ] 33 (0, 0)) (by (with_reducible repeat (first | refine kn_ ?_ _ | refine blk_drew ?_ | refine ka_ ?_ _)); refine blk_put (cs := #[.int .i64 a0_0, .int .i64 a0_1, .slice none 0 0]) ?_ 2 _ rfl; (with_reducible repeat (first | refine kn_ ?_ _ | refine blk_drew ?_ | refine ka_ ?_ _)); refine blk_put (cs := #[.int .i64 a0_0, .int .i64 0, .slice none 0 0]) ?_ 1 _ rfl; (with_reducible repeat (first | refine kn_ ?_ _ | refine blk_drew ?_ | refine ka_ ?_ _)); refine blk_put (cs := #[.int .i64 0, .int .i64 0, .slice none 0 0]) ?_ 0 _ rfl; (with_reducible repeat (first | refine kn_ ?_ _ | refine blk_drew ?_ | refine ka_ ?_ _)); exact aV.out) hb); have aX := aM (bp_ (by repeat (first | (with_reducible first | exact HB.out | apply ba_ | apply bn_ | apply bd_ | refine bs_ ?_ bU.out | refine bs_ ?_ bV.out | refine bs_ ?_ bW.out | refine bs_ ?_ bM.out) | exact HB.out)) hb); clear aU; clear bO; clear aA; clear aC; clear aH; clear aV; clear HB; have aU := aI; have bO := aJ; have aA := aK; have aC := aN; have aH := aP; have aV := aQ; have HB := aX; clear aI aJ aK aN aP aQ aX; (try clear hb); (try clear hb2); (try clear hk); (try clear hi); have jO := cH.out; have jP := cG.out; have jQ := bH.out; have jR := bJ.out; have jS : w84.cell? ⟨aT, 0, none⟩ = some (.int .i64 0) := (blk_cell aH.out 0).trans rfl; have jT : w84.cell? ⟨aT, 1, none⟩ = some (.int .i64 0) := (blk_cell aH.out 1).trans rfl; have jU : w84.cell? ⟨aT, 2, none⟩ = some (.slice none 0 0) := (blk_cell aH.out 2).trans rfl; have jV := blk_frozen aH.out 0; have jW := blk_frozen aH.out 1; have jX := blk_frozen aH.out 2))
      refine bodyPost_ret (results_ct rfl _ _ aT 33 #[.int .i64 0, .int .i64 0, .slice none 0 0] (0, 0) _ rfl (by (with_reducible repeat (first | refine kn_ ?_ _ | refine blk_drew ?_ | refine ka_ ?_ _)); refine blk_put (cs := #[.int .i64 0, .int .i64 0, .slice none 0 0]) ?_ 2 _ rfl; (with_reducible repeat (first | refine kn_ ?_ _ | refine blk_drew ?_ | refine ka_ ?_ _)); refine blk_put (cs := #[.int .i64 0, .int .i64 0, .slice none 0 0]) ?_ 1 _ rfl; (with_reducible repeat (first | refine kn_ ?_ _ | refine blk_drew ?_ | refine ka_ ?_ _)); refine blk_put (cs := #[.int .i64 0, .int .i64 0, .slice none 0 0]) ?_ 0 _ rfl; (with_reducible repeat (first | refine kn_ ?_ _ | refine blk_drew ?_ | refine ka_ ?_ _)); exact aH.out) Try.underlying33 rfl (by kernel_rfl)) rfl ?_
      exact ⟨_, by first | rfl | (simp [errW_none, errW_some] <;> rfl) | (simp [*, errW_none, errW_some] <;> rfl), by first | exact Kd.R_nil _ _ _ _ _ | exact Kd.N_nil _ _ _ _ _ | exact Kd.V_nil _ _ _ _ _ | exact Kd.Q_nil _ _ _ _ _ | exact Kd.S_nil _ _ _ _ _, by repeat (first | (with_reducible first | exact HB.out | apply ba_ | apply bn_ | apply bd_ | refine bs_ ?_ bU.out | refine bs_ ?_ bV.out | refine bs_ ?_ bW.out | refine bs_ ?_ bM.out) | exact HB.out)⟩
  · rw [if_neg c4] at H
    exact absurd H (by simp)
end Go.Proofs.Ytlmfiaopgndbcaa.P