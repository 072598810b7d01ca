import Derived.Test.YtlmfiaopgndbcaaKFnExactAddClueA0
namespace Go.Proofs.Ytlmfiaopgndbcaa.P
open Go.RowKit Go.Proofs.YtlmfiaopgndbcaaW.PrintWords Go.Proofs.YtlmfiaopgndbcaaW.PrintLast Go.Proofs.YtlmfiaopgndbcaaW.PrintMore
attribute [local go_sem] max2_int min2_int max_two min_two max_three min_three max_four min_four
set_option linter.unusedVariables false
set_option linter.unusedSimpArgs false
/-! ### impl_AddClue: function 10 -/
def impl_AddClue.f (a0_0 : Int) (a0_1 : Int) (l0_2 : List (S37)) (a1_0 : Int) (a1_1 : Int) (a1_2 : Int) : Option (Int × Int × (List (S37)) × Bool) := (slices_Clone_impl_Clue_impl_Clue.f l0_2).bind fun t328 => ((some (([(⟨a1_0, a1_1, a1_2⟩ : S37)] : List (S37)) : List (S37))).bind fun y331 => (if t328.length + y331.length < 5864062014805 then ((some (t328 ++ y331 : List (S37))).bind fun y334 => ((impl_IsPuzzle.f a0_0 a0_1 l0_2).bind fun t338 => (if t338 = true then ((impl_IsPuzzle.f a0_0 a0_1 y334).bind fun t339 => (if t339 = true then (some (a0_0, a0_1, y334, true)) else (some (0, 0, ([] : List (S37)), false)))) else (some (0, 0, ([] : List (S37)), false))))) else (none)))
def impl_AddClue.T1 : Bool × List (List Nat × List Nat) := (true, [([], []), ([0], [0]), ([], []), ([2], [2]), ([3], [3]), ([], []), ([5], [5]), ([4, 6, 4], [4, 6]), ([1, 7], [1, 7]), ([], []), ([9, 8, 7, 0, 1, 2, 3, 4, 5, 6, 7, 8, 9], [8, 9])])
def impl_AddClue.B1 : List Nat := [0, 1, 0, 4, 12, 0, 32, 124, 255, 0, 1023]
theorem impl_AddClue.tab1 : rtab .any (opsOf Try.f10 1) = impl_AddClue.T1 := by kernel_rfl
theorem impl_AddClue.bits1 : waitsOk impl_AddClue.T1.2 impl_AddClue.B1 = true := by kernel_rfl
set_option maxHeartbeats 8000000 in
set_option maxRecDepth 100000 in
theorem impl_AddClue.calls (a0_0 : Int) (a0_1 : Int) (A0_2 : Option Addr) (c0_2 : Nat) (l0_2 : List (S37)) (a1_0 : Int) (a1_1 : Int) (a1_2 : Int) (r1 : Int) (r2 : Int) (r3 : List (S37)) (r4 : Bool) (w : World) (hr0_2 : Kd.C k37 w A0_2 l0_2.length l0_2) (hc0_2 : l0_2.length ≤ c0_2) (h : impl_AddClue.f a0_0 a0_1 l0_2 a1_0 a1_1 a1_2 = some (r1, r2, r3, r4)) :
  Calls Try.prog 10 #[.agg #[.int .i64 a0_0, .int .i64 a0_1, .slice A0_2 l0_2.length c0_2], .agg #[.int .i64 a1_0, .int .i64 a1_1, .int .i64 a1_2]] w fun e w' => ∃ v2_ : Value, e = .returned (.tuple #[.agg #[.int .i64 r1, .int .i64 r2, v2_], .bool r4]) ∧ Kd.R k37 37 w' w.heap.size (fun _ => True) v2_ r3 ∧ Below w.heap.size w w' := by
 have hu33 := Try.underlying33
 have hu37 := Try.underlying37
 have hu30 := Try.underlying30
 have HR0_2 := amk hr0_2
 have HC0_2 := amk hc0_2
 clear hr0_2 hc0_2
 have HB := amk (Below.refl w.heap.size w)
 have H : ((slices_Clone_impl_Clue_impl_Clue.f l0_2).bind fun t328 => ((some (([(⟨a1_0, a1_1, a1_2⟩ : S37)] : List (S37)) : List (S37))).bind fun y331 => (if t328.length + y331.length < 5864062014805 then ((some (t328 ++ y331 : List (S37))).bind fun y334 => ((impl_IsPuzzle.f a0_0 a0_1 l0_2).bind fun t338 => (if t338 = true then ((impl_IsPuzzle.f a0_0 a0_1 y334).bind fun t339 => (if t339 = true then (some (a0_0, a0_1, y334, true)) else (some (0, 0, ([] : List (S37)), false)))) else (some (0, 0, ([] : List (S37)), false))))) else (none)))) = some (r1, r2, r3, r4) := h
 clear h
 replace H := Option.bind_eq_some_iff.mp H
 obtain ⟨t328, A30, H⟩ := H
 replace H : ((some (([(⟨a1_0, a1_1, a1_2⟩ : S37)] : List (S37)) : List (S37))).bind fun y331 => (if t328.length + y331.length < 5864062014805 then ((some (t328 ++ y331 : List (S37))).bind fun y334 => ((impl_IsPuzzle.f a0_0 a0_1 l0_2).bind fun t338 => (if t338 = true then ((impl_IsPuzzle.f a0_0 a0_1 y334).bind fun t339 => (if t339 = true then (some (a0_0, a0_1, y334, true)) else (some (0, 0, ([] : List (S37)), false)))) else (some (0, 0, ([] : List (S37)), false))))) else (none))) = some (r1, r2, r3, r4) := H
 have A3 := amk A30
 clear A30
 obtain ⟨y331, hy331⟩ : ∃ y_ : List (S37), y_ = (([(⟨a1_0, a1_1, a1_2⟩ : S37)] : List (S37))) := ⟨_, rfl⟩
 replace H : (if t328.length + y331.length < 5864062014805 then ((some (t328 ++ y331 : List (S37))).bind fun y334 => ((impl_IsPuzzle.f a0_0 a0_1 l0_2).bind fun t338 => (if t338 = true then ((impl_IsPuzzle.f a0_0 a0_1 y334).bind fun t339 => (if t339 = true then (some (a0_0, a0_1, y334, true)) else (some (0, 0, ([] : List (S37)), false)))) else (some (0, 0, ([] : List (S37)), false))))) else (none)) = some (r1, r2, r3, r4) := by first | (rw [hy331]; with_reducible exact H) | (have H2_ := (Option.bind_some _ _).symm.trans H; rw [hy331]; with_reducible exact H2_) | (have H2_ := (Option.bind_some _ _).symm.trans H; with_reducible exact H2_) | with_reducible exact H | (rw [hy331]; exact H) | exact H
 have Ny331 := amk hy331
 clear hy331
 by_cases c4 : t328.length + y331.length < 5864062014805
 · rw [if_pos c4] at H
  have LMc4 := amk c4
  clear c4
  obtain ⟨y334, hy334⟩ : ∃ y_ : List (S37), y_ = (t328 ++ y331) := ⟨_, rfl⟩
  replace H : ((impl_IsPuzzle.f a0_0 a0_1 l0_2).bind fun t338 => (if t338 = true then ((impl_IsPuzzle.f a0_0 a0_1 y334).bind fun t339 => (if t339 = true then (some (a0_0, a0_1, y334, true)) else (some (0, 0, ([] : List (S37)), false)))) else (some (0, 0, ([] : List (S37)), false)))) = some (r1, r2, r3, r4) := by first | (rw [hy334]; with_reducible exact H) | (have H2_ := (Option.bind_some _ _).symm.trans H; rw [hy334]; with_reducible exact H2_) | (have H2_ := (Option.bind_some _ _).symm.trans H; with_reducible exact H2_) | with_reducible exact H | (rw [hy334]; exact H) | exact H
  have Ny334 := amk hy334
  clear hy334
  replace H := Option.bind_eq_some_iff.mp H
  obtain ⟨t338, A50, H⟩ := H
  replace H : (if t338 = true then ((impl_IsPuzzle.f a0_0 a0_1 y334).bind fun t339 => (if t339 = true then (some (a0_0, a0_1, y334, true)) else (some (0, 0, ([] : List (S37)), false)))) else (some (0, 0, ([] : List (S37)), false))) = some (r1, r2, r3, r4) := H
  have A5 := amk A50
  clear A50
  by_cases c6 : t338 = true
  · subst c6
   have H1 : ((impl_IsPuzzle.f a0_0 a0_1 y334).bind fun t339 => (if t339 = true then (some (a0_0, a0_1, y334, true)) else (some (0, 0, ([] : List (S37)), false)))) = some (r1, r2, r3, r4) := by rw [if_pos rfl] at H; exact H
   clear H
   have H := H1
   clear H1
   replace H := Option.bind_eq_some_iff.mp H
   obtain ⟨t339, A70, H⟩ := H
   replace H : (if t339 = true then (some (a0_0, a0_1, y334, true)) else (some (0, 0, ([] : List (S37)), false))) = some (r1, r2, r3, r4) := H
   have A7 := amk A70
   clear A70
   by_cases c8 : t339 = true
   · subst c8
    have H1 : (some (a0_0, a0_1, y334, true)) = some (r1, r2, r3, r4) := by rw [if_pos rfl] at H; exact H
    clear H
    have H := H1
    clear H1
    simp only [Option.some.injEq, Prod.mk.injEq] at H
    obtain ⟨rfl, rfl, rfl, rfl⟩ := H
    go_enter Try.func10, Try.ntmps10
    try go_wp2_with (first | ((with_reducible refine gate_dst (N := 2) rfl ?_); refine box_event ?hg (N := 2) ?hd (cs := #[.int .i64 a0_0, .int .i64 a0_1, .slice A0_2 l0_2.length c0_2]) (t := 33) ?hr ?_; (case hd => rfl); (case hg => rfl); (case hr => first | (go_simp; done) | (go_simp; rfl)); intro gb325 hg w9 hbox hb; have n0_ := amk (bp_ HB.out hb); have n1_ := amk (hbox); have n2_ := amk ((by rw [hg]; exact (below_size HB.out) : w.heap.size ≤ gb325)); have n3_ := amk ((by rw [hg]; exact (below_size HB.out) : w.heap.size ≤ gb325)); clear HB; have HB := n0_; have BK325 := n1_; have GW325 := n2_; have GE325 := n3_; clear n0_ n1_ n2_ n3_; clear hb hbox hg) | ((with_reducible refine gate_dst (N := 3) rfl ?_); refine box_event ?hg (N := 3) ?hd (cs := #[.int .i64 a1_0, .int .i64 a1_1, .int .i64 a1_2]) (t := 37) ?hr ?_; (case hd => rfl); (case hg => rfl); (case hr => first | (go_simp; done) | (go_simp; rfl)); intro gb326 hg w10 hbox hb; have n0_ := amk (blk_below BK325.out hb); have n1_ := amk (bp_ HB.out hb); have n2_ := amk (hbox); have n3_ := amk ((by rw [hg]; exact (below_size HB.out) : w.heap.size ≤ gb326)); have n4_ := amk ((by rw [hg]; exact (below_size HB.out) : w.heap.size ≤ gb326)); have n5_ := amk ((by rw [hg]; exact Nat.ne_of_lt (blk_lt BK325.out) : gb325 ≠ gb326)); have n6_ := amk ((by rw [hg]; exact Nat.ne_of_gt (blk_lt BK325.out) : gb326 ≠ gb325)); clear BK325; clear HB; have BK325 := n0_; have HB := n1_; have BK326 := n2_; have GW326 := n3_; have GE326 := n4_; have NB325_326 := n5_; have NB326_325 := n6_; clear n0_ n1_ n2_ n3_ n4_ n5_ n6_; clear hb hbox hg) | ((with_reducible refine gate_dst (N := 4) rfl ?_); refine box_event ?hg (N := 4) ?hd (cs := #[.int .i64 0, .int .i64 0, .slice none 0 0]) (t := 33) ?hr ?_; (case hd => rfl); (case hg => rfl); (case hr => first | (go_simp; done) | (go_simp; rfl)); intro gb327 hg w11 hbox hb; have n0_ := amk (blk_below BK325.out hb); have n1_ := amk (blk_below BK326.out hb); have n2_ := amk (bp_ HB.out hb); have n3_ := amk (hbox); have n4_ := amk ((by rw [hg]; exact (below_size HB.out) : w.heap.size ≤ gb327)); have n5_ := amk ((by rw [hg]; exact (below_size HB.out) : w.heap.size ≤ gb327)); have n6_ := amk ((by rw [hg]; exact Nat.ne_of_lt (blk_lt BK325.out) : gb325 ≠ gb327)); have n7_ := amk ((by rw [hg]; exact Nat.ne_of_gt (blk_lt BK325.out) : gb327 ≠ gb325)); have n8_ := amk ((by rw [hg]; exact Nat.ne_of_lt (blk_lt BK326.out) : gb326 ≠ gb327)); have n9_ := amk ((by rw [hg]; exact Nat.ne_of_gt (blk_lt BK326.out) : gb327 ≠ gb326)); clear BK325; clear BK326; clear HB; have BK325 := n0_; have BK326 := n1_; have HB := n2_; have BK327 := n3_; have GW327 := n4_; have GE327 := n5_; have NB325_327 := n6_; have NB327_325 := n7_; have NB326_327 := n8_; have NB327_326 := n9_; clear n0_ n1_ n2_ n3_ n4_ n5_ n6_ n7_ n8_ n9_; clear hb hbox hg))
    have n0_ := amk (blk_drew BK325.out)
    have n1_ := amk (blk_drew BK326.out)
    have n2_ := amk (blk_drew BK327.out)
    have n3_ := amk (bd_ HB.out)
    clear BK325 BK326 BK327 HB
    have BK325 := n0_
    have BK326 := n1_
    have BK327 := n2_
    have HB := n3_
    clear n0_ n1_ n2_ n3_
    refine start_ (n := 11) (S := fun w' => w'.cell? ⟨gb325, 0, none⟩ = some (.int .i64 a0_0) ∧ w'.cell? ⟨gb325, 1, none⟩ = some (.int .i64 a0_1) ∧ w'.cell? ⟨gb325, 2, none⟩ = some (.slice A0_2 l0_2.length c0_2) ∧ w'.cell? ⟨gb326, 0, none⟩ = some (.int .i64 a1_0) ∧ w'.cell? ⟨gb326, 1, none⟩ = some (.int .i64 a1_1) ∧ w'.cell? ⟨gb326, 2, none⟩ = some (.int .i64 a1_2)) (ds := []) #[false, false, false, false, false, false, false, false, false, false, false] (by kernel_rfl) rfl rfl ⟨(blk_cell BK325.out 0).trans rfl, (blk_cell BK325.out 1).trans rfl, (blk_cell BK325.out 2).trans rfl, (blk_cell BK326.out 0).trans rfl, (blk_cell BK326.out 1).trans rfl, (blk_cell BK326.out 2).trans rfl⟩ (fun hHeld => ?_); refine with_tabW impl_AddClue.tab1 impl_AddClue.bits1 (fun HT_ HW_ => ?_)
    generalize w11.drew = w12 at BK325 BK326 BK327 HB hHeld ⊢
    refine pure_ (i := 0) (N := some 7) (v := ?_) (a' := ?_) #[true, false, false, false, false, false, false, false, false, false, false] rfl rfl (any_of HT_.out (by kernel_rfl)) (fun _ _ _ h => h) (Or.inl ⟨by rfl, ?_⟩) ?_ ?_
    rotate_left
    · intro w'
     go_simp
     with_reducible rfl
    rotate_left
    · simp only [Act.put, List.setIfInBounds_toArray, List.set_cons_zero, List.set_cons_succ, i64_w, i32_w]
     rfl
    refine pure_ (i := 2) (N := some 9) (v := ?_) (a' := ?_) #[true, false, true, false, false, false, false, false, false, false, false] rfl rfl (any_of HT_.out (by kernel_rfl)) (fun _ _ _ h => h) (Or.inl ⟨by rfl, ?_⟩) ?_ ?_
    rotate_left
    · intro w'
     go_simp
     with_reducible rfl
    rotate_left
    · simp only [Act.put, List.setIfInBounds_toArray, List.set_cons_zero, List.set_cons_succ, i64_w, i32_w]
     rfl
    refine take_ (i := 1) (N := some 8) (v := ?_) (a' := ?_) #[true, true, true, false, false, false, false, false, false, false, false] rfl rfl (take_ofW HT_.out HW_.out (by kernel_rfl)) (fun _ _ _ h => h) (Or.inl ⟨by rfl, ?_⟩) hHeld ?_ ?_
    rotate_left
    · rintro w' ⟨s0, s1, s2, s3, s4, s5⟩
     go_simp
     with_reducible rfl
    rotate_left
    · simp only [Act.put, List.setIfInBounds_toArray, List.set_cons_zero, List.set_cons_succ, i64_w, i32_w]
     rfl
    refine take_ (i := 3) (N := some 10) (v := ?_) (a' := ?_) #[true, true, true, true, false, false, false, false, false, false, false] rfl rfl (take_ofW HT_.out HW_.out (by kernel_rfl)) (fun _ _ _ h => h) (Or.inl ⟨by rfl, ?_⟩) hHeld ?_ ?_
    rotate_left
    · rintro w' ⟨s0, s1, s2, s3, s4, s5⟩
     go_simp
     with_reducible rfl
    rotate_left
    · simp only [Act.put, List.setIfInBounds_toArray, List.set_cons_zero, List.set_cons_succ, i64_w, i32_w]
     rfl
    refine take_ (i := 5) (N := some 12) (v := ?_) (a' := ?_) #[true, true, true, true, false, true, false, false, false, false, false] rfl rfl (take_ofW HT_.out HW_.out (by kernel_rfl)) (fun _ _ _ h => h) (Or.inl ⟨by rfl, ?_⟩) hHeld ?_ ?_
    rotate_left
    · rintro w' ⟨s0, s1, s2, s3, s4, s5⟩
     go_simp
     with_reducible rfl
    rotate_left
    · simp only [Act.put, List.setIfInBounds_toArray, List.set_cons_zero, List.set_cons_succ, i64_w, i32_w]
     rfl
    refine join_ (σ := Value × Value × Value × Nat) 1 #[true, true, true, true, true, true, true, true, true, true, false] (fun s_ => [(11, s_.1), (13, s_.2.1), (14, s_.2.2.1), (6, .pointer (some ⟨s_.2.2.2, 0, none⟩)), (15, .agg #[.int .i64 a0_0, .int .i64 a0_1, s_.2.2.1])]) (fun s_ w' => (w'.cell? ⟨gb325, 0, none⟩ = some (.int .i64 a0_0) ∧ w'.cell? ⟨gb325, 1, none⟩ = some (.int .i64 a0_1) ∧ w'.cell? ⟨gb325, 2, none⟩ = some (.slice A0_2 l0_2.length c0_2) ∧ w'.cell? ⟨gb326, 0, none⟩ = some (.int .i64 a1_0) ∧ w'.cell? ⟨gb326, 1, none⟩ = some (.int .i64 a1_1) ∧ w'.cell? ⟨gb326, 2, none⟩ = some (.int .i64 a1_2)) ∧ (Kd.R k37 37 w' w.heap.size (fun k_ => some k_ ≠ (s_.2.2.1 : Value).ownBlock ∧ k_ ≠ gb326) s_.2.1 y331) ∧ (Kd.R k37 37 w' w.heap.size (fun k_ => some k_ ≠ (s_.2.1 : Value).ownBlock ∧ k_ ≠ gb326) s_.2.2.1 y334) ∧ (w'.heap[gb325]? = some (.cells #[.int .i64 a0_0, .int .i64 a0_1, .slice A0_2 l0_2.length c0_2] 33 (0, 0))) ∧ (w'.heap[gb326]? = some (.cells #[.int .i64 a1_0, .int .i64 a1_1, .int .i64 a1_2] 37 (0, 0))) ∧ (w'.heap[gb327]? = some (.cells #[.int .i64 0, .int .i64 0, .slice none 0 0] 33 (0, 0))) ∧ (w'.heap[s_.2.2.2]? = some (.cells #[.int .i64 0, .int .i64 0, .slice none 0 0] 33 (0, 0))) ∧ (w.heap.size ≤ s_.2.2.2) ∧ (w.heap.size ≤ s_.2.2.2) ∧ (gb325 ≠ s_.2.2.2) ∧ (s_.2.2.2 ≠ gb325) ∧ (gb326 ≠ s_.2.2.2) ∧ (s_.2.2.2 ≠ gb326) ∧ (gb327 ≠ s_.2.2.2) ∧ (s_.2.2.2 ≠ gb327) ∧ (Below w.heap.size w w')) ?_ ?_
    rotate_left
    · intro hJ4_6_7_9
     refine join_ (σ := Value × Value × Value) 2 #[true, true, true, true, true, true, true, true, true, false, false] (fun s_ => [(11, s_.1), (13, s_.2.1), (14, s_.2.2), (15, .agg #[.int .i64 a0_0, .int .i64 a0_1, s_.2.2])]) (fun s_ w' => (w'.cell? ⟨gb325, 0, none⟩ = some (.int .i64 a0_0) ∧ w'.cell? ⟨gb325, 1, none⟩ = some (.int .i64 a0_1) ∧ w'.cell? ⟨gb325, 2, none⟩ = some (.slice A0_2 l0_2.length c0_2) ∧ w'.cell? ⟨gb326, 0, none⟩ = some (.int .i64 a1_0) ∧ w'.cell? ⟨gb326, 1, none⟩ = some (.int .i64 a1_1) ∧ w'.cell? ⟨gb326, 2, none⟩ = some (.int .i64 a1_2)) ∧ (Kd.R k37 37 w' w.heap.size (fun k_ => some k_ ≠ (s_.2.2 : Value).ownBlock ∧ k_ ≠ gb326) s_.2.1 y331) ∧ (Kd.R k37 37 w' w.heap.size (fun k_ => some k_ ≠ (s_.2.1 : Value).ownBlock ∧ k_ ≠ gb326) s_.2.2 y334) ∧ (w'.heap[gb325]? = some (.cells #[.int .i64 a0_0, .int .i64 a0_1, .slice A0_2 l0_2.length c0_2] 33 (0, 0))) ∧ (w'.heap[gb326]? = some (.cells #[.int .i64 a1_0, .int .i64 a1_1, .int .i64 a1_2] 37 (0, 0))) ∧ (w'.heap[gb327]? = some (.cells #[.int .i64 0, .int .i64 0, .slice none 0 0] 33 (0, 0))) ∧ (Below w.heap.size w w')) ?_ ?_
     rotate_left
     · intro hJ4_6_7
      refine join_ (σ := Value × Value × Nat) 3 #[true, true, true, true, true, true, true, false, false, true, false] (fun s_ => [(11, s_.1), (13, s_.2.1), (6, .pointer (some ⟨s_.2.2, 0, none⟩))]) (fun s_ w' => (w'.cell? ⟨gb325, 0, none⟩ = some (.int .i64 a0_0) ∧ w'.cell? ⟨gb325, 1, none⟩ = some (.int .i64 a0_1) ∧ w'.cell? ⟨gb325, 2, none⟩ = some (.slice A0_2 l0_2.length c0_2) ∧ w'.cell? ⟨gb326, 0, none⟩ = some (.int .i64 a1_0) ∧ w'.cell? ⟨gb326, 1, none⟩ = some (.int .i64 a1_1) ∧ w'.cell? ⟨gb326, 2, none⟩ = some (.int .i64 a1_2)) ∧ (Kd.R k37 37 w' w.heap.size (fun k_ => some k_ ≠ (s_.2.1 : Value).ownBlock ∧ k_ ≠ gb326) s_.1 t328) ∧ (Kd.R k37 37 w' w.heap.size (fun k_ => some k_ ≠ (s_.1 : Value).ownBlock ∧ k_ ≠ gb326) s_.2.1 y331) ∧ (w'.heap[gb325]? = some (.cells #[.int .i64 a0_0, .int .i64 a0_1, .slice A0_2 l0_2.length c0_2] 33 (0, 0))) ∧ (w'.heap[gb326]? = some (.cells #[.int .i64 a1_0, .int .i64 a1_1, .int .i64 a1_2] 37 (0, 0))) ∧ (w'.heap[gb327]? = some (.cells #[.int .i64 0, .int .i64 0, .slice none 0 0] 33 (0, 0))) ∧ (w'.heap[s_.2.2]? = some (.cells #[.int .i64 0, .int .i64 0, .slice none 0 0] 33 (0, 0))) ∧ (w.heap.size ≤ s_.2.2) ∧ (w.heap.size ≤ s_.2.2) ∧ (gb325 ≠ s_.2.2) ∧ (s_.2.2 ≠ gb325) ∧ (gb326 ≠ s_.2.2) ∧ (s_.2.2 ≠ gb326) ∧ (gb327 ≠ s_.2.2) ∧ (s_.2.2 ≠ gb327) ∧ (Below w.heap.size w w')) ?_ ?_
      rotate_left
      · intro hJ4_6_9
       refine join_ (σ := Value × Value) 4 #[true, true, true, true, true, true, true, false, false, false, false] (fun s_ => [(11, s_.1), (13, s_.2)]) (fun s_ w' => (w'.cell? ⟨gb325, 0, none⟩ = some (.int .i64 a0_0) ∧ w'.cell? ⟨gb325, 1, none⟩ = some (.int .i64 a0_1) ∧ w'.cell? ⟨gb325, 2, none⟩ = some (.slice A0_2 l0_2.length c0_2) ∧ w'.cell? ⟨gb326, 0, none⟩ = some (.int .i64 a1_0) ∧ w'.cell? ⟨gb326, 1, none⟩ = some (.int .i64 a1_1) ∧ w'.cell? ⟨gb326, 2, none⟩ = some (.int .i64 a1_2)) ∧ (Kd.R k37 37 w' w.heap.size (fun k_ => some k_ ≠ (s_.2 : Value).ownBlock ∧ k_ ≠ gb326) s_.1 t328) ∧ (Kd.R k37 37 w' w.heap.size (fun k_ => some k_ ≠ (s_.1 : Value).ownBlock ∧ k_ ≠ gb326) s_.2 y331) ∧ (w'.heap[gb325]? = some (.cells #[.int .i64 a0_0, .int .i64 a0_1, .slice A0_2 l0_2.length c0_2] 33 (0, 0))) ∧ (w'.heap[gb326]? = some (.cells #[.int .i64 a1_0, .int .i64 a1_1, .int .i64 a1_2] 37 (0, 0))) ∧ (w'.heap[gb327]? = some (.cells #[.int .i64 0, .int .i64 0, .slice none 0 0] 33 (0, 0))) ∧ (Below w.heap.size w w')) ?_ ?_
       rotate_left
       · intro hJ4_6
        refine join_ (σ := Value × Nat) 4 #[true, true, true, true, true, true, false, false, false, true, false] (fun s_ => [(11, s_.1), (6, .pointer (some ⟨s_.2, 0, none⟩))]) (fun s_ w' => (w'.cell? ⟨gb325, 0, none⟩ = some (.int .i64 a0_0) ∧ w'.cell? ⟨gb325, 1, none⟩ = some (.int .i64 a0_1) ∧ w'.cell? ⟨gb325, 2, none⟩ = some (.slice A0_2 l0_2.length c0_2) ∧ w'.cell? ⟨gb326, 0, none⟩ = some (.int .i64 a1_0) ∧ w'.cell? ⟨gb326, 1, none⟩ = some (.int .i64 a1_1) ∧ w'.cell? ⟨gb326, 2, none⟩ = some (.int .i64 a1_2)) ∧ (Kd.R k37 37 w' w.heap.size (fun k_ => k_ ≠ gb326) s_.1 t328) ∧ (w'.heap[gb325]? = some (.cells #[.int .i64 a0_0, .int .i64 a0_1, .slice A0_2 l0_2.length c0_2] 33 (0, 0))) ∧ (w'.heap[gb326]? = some (.cells #[.int .i64 a1_0, .int .i64 a1_1, .int .i64 a1_2] 37 (0, 0))) ∧ (w'.heap[gb327]? = some (.cells #[.int .i64 0, .int .i64 0, .slice none 0 0] 33 (0, 0))) ∧ (w'.heap[s_.2]? = some (.cells #[.int .i64 0, .int .i64 0, .slice none 0 0] 33 (0, 0))) ∧ (w.heap.size ≤ s_.2) ∧ (w.heap.size ≤ s_.2) ∧ (gb325 ≠ s_.2) ∧ (s_.2 ≠ gb325) ∧ (gb326 ≠ s_.2) ∧ (s_.2 ≠ gb326) ∧ (gb327 ≠ s_.2) ∧ (s_.2 ≠ gb327) ∧ (Below w.heap.size w w')) ?_ ?_
        rotate_left
        · intro hJ4_9
         refine join_ (σ := Value × Nat) 4 #[true, true, true, true, false, true, true, false, false, true, false] (fun s_ => [(13, s_.1), (6, .pointer (some ⟨s_.2, 0, none⟩))]) (fun s_ w' => (w'.cell? ⟨gb325, 0, none⟩ = some (.int .i64 a0_0) ∧ w'.cell? ⟨gb325, 1, none⟩ = some (.int .i64 a0_1) ∧ w'.cell? ⟨gb325, 2, none⟩ = some (.slice A0_2 l0_2.length c0_2) ∧ w'.cell? ⟨gb326, 0, none⟩ = some (.int .i64 a1_0) ∧ w'.cell? ⟨gb326, 1, none⟩ = some (.int .i64 a1_1) ∧ w'.cell? ⟨gb326, 2, none⟩ = some (.int .i64 a1_2)) ∧ (Kd.R k37 37 w' w.heap.size (fun k_ => k_ ≠ gb326) s_.1 y331) ∧ (w'.heap[gb325]? = some (.cells #[.int .i64 a0_0, .int .i64 a0_1, .slice A0_2 l0_2.length c0_2] 33 (0, 0))) ∧ (w'.heap[gb326]? = some (.cells #[.int .i64 a1_0, .int .i64 a1_1, .int .i64 a1_2] 37 (0, 0))) ∧ (w'.heap[gb327]? = some (.cells #[.int .i64 0, .int .i64 0, .slice none 0 0] 33 (0, 0))) ∧ (w'.heap[s_.2]? = some (.cells #[.int .i64 0, .int .i64 0, .slice none 0 0] 33 (0, 0))) ∧ (w.heap.size ≤ s_.2) ∧ (w.heap.size ≤ s_.2) ∧ (gb325 ≠ s_.2) ∧ (s_.2 ≠ gb325) ∧ (gb326 ≠ s_.2) ∧ (s_.2 ≠ gb326) ∧ (gb327 ≠ s_.2) ∧ (s_.2 ≠ gb327) ∧ (Below w.heap.size w w')) ?_ ?_
         rotate_left
         · intro hJ6_9
          refine join_ (σ := Value) 5 #[true, true, true, true, true, true, false, false, false, false, false] (fun s_ => [(11, s_)]) (fun s_ w' => (w'.cell? ⟨gb325, 0, none⟩ = some (.int .i64 a0_0) ∧ w'.cell? ⟨gb325, 1, none⟩ = some (.int .i64 a0_1) ∧ w'.cell? ⟨gb325, 2, none⟩ = some (.slice A0_2 l0_2.length c0_2) ∧ w'.cell? ⟨gb326, 0, none⟩ = some (.int .i64 a1_0) ∧ w'.cell? ⟨gb326, 1, none⟩ = some (.int .i64 a1_1) ∧ w'.cell? ⟨gb326, 2, none⟩ = some (.int .i64 a1_2)) ∧ (Kd.R k37 37 w' w.heap.size (fun k_ => k_ ≠ gb326) s_ t328) ∧ (w'.heap[gb325]? = some (.cells #[.int .i64 a0_0, .int .i64 a0_1, .slice A0_2 l0_2.length c0_2] 33 (0, 0))) ∧ (w'.heap[gb326]? = some (.cells #[.int .i64 a1_0, .int .i64 a1_1, .int .i64 a1_2] 37 (0, 0))) ∧ (w'.heap[gb327]? = some (.cells #[.int .i64 0, .int .i64 0, .slice none 0 0] 33 (0, 0))) ∧ (Below w.heap.size w w')) ?_ ?_
          rotate_left
          · intro hJ4
           refine join_ (σ := Value) 5 #[true, true, true, true, false, true, true, false, false, false, false] (fun s_ => [(13, s_)]) (fun s_ w' => (w'.cell? ⟨gb325, 0, none⟩ = some (.int .i64 a0_0) ∧ w'.cell? ⟨gb325, 1, none⟩ = some (.int .i64 a0_1) ∧ w'.cell? ⟨gb325, 2, none⟩ = some (.slice A0_2 l0_2.length c0_2) ∧ w'.cell? ⟨gb326, 0, none⟩ = some (.int .i64 a1_0) ∧ w'.cell? ⟨gb326, 1, none⟩ = some (.int .i64 a1_1) ∧ w'.cell? ⟨gb326, 2, none⟩ = some (.int .i64 a1_2)) ∧ (Kd.R k37 37 w' w.heap.size (fun k_ => k_ ≠ gb326) s_ y331) ∧ (w'.heap[gb325]? = some (.cells #[.int .i64 a0_0, .int .i64 a0_1, .slice A0_2 l0_2.length c0_2] 33 (0, 0))) ∧ (w'.heap[gb326]? = some (.cells #[.int .i64 a1_0, .int .i64 a1_1, .int .i64 a1_2] 37 (0, 0))) ∧ (w'.heap[gb327]? = some (.cells #[.int .i64 0, .int .i64 0, .slice none 0 0] 33 (0, 0))) ∧ (Below w.heap.size w w')) ?_ ?_
           rotate_left
           · intro hJ6
            refine join_ (σ := Nat) 5 #[true, true, true, true, false, true, false, false, false, true, false] (fun s_ => [(6, .pointer (some ⟨s_, 0, none⟩))]) (fun s_ w' => (w'.cell? ⟨gb325, 0, none⟩ = some (.int .i64 a0_0) ∧ w'.cell? ⟨gb325, 1, none⟩ = some (.int .i64 a0_1) ∧ w'.cell? ⟨gb325, 2, none⟩ = some (.slice A0_2 l0_2.length c0_2) ∧ w'.cell? ⟨gb326, 0, none⟩ = some (.int .i64 a1_0) ∧ w'.cell? ⟨gb326, 1, none⟩ = some (.int .i64 a1_1) ∧ w'.cell? ⟨gb326, 2, none⟩ = some (.int .i64 a1_2)) ∧ (w'.heap[gb325]? = some (.cells #[.int .i64 a0_0, .int .i64 a0_1, .slice A0_2 l0_2.length c0_2] 33 (0, 0))) ∧ (w'.heap[gb326]? = some (.cells #[.int .i64 a1_0, .int .i64 a1_1, .int .i64 a1_2] 37 (0, 0))) ∧ (w'.heap[gb327]? = some (.cells #[.int .i64 0, .int .i64 0, .slice none 0 0] 33 (0, 0))) ∧ (w'.heap[s_]? = some (.cells #[.int .i64 0, .int .i64 0, .slice none 0 0] 33 (0, 0))) ∧ (w.heap.size ≤ s_) ∧ (w.heap.size ≤ s_) ∧ (gb325 ≠ s_) ∧ (s_ ≠ gb325) ∧ (gb326 ≠ s_) ∧ (s_ ≠ gb326) ∧ (gb327 ≠ s_) ∧ (s_ ≠ gb327) ∧ (Below w.heap.size w w')) ?_ ?_
            rotate_left
            · intro hJ9
             refine three_ (i := 4) (j := 6) (k := 9) (Ni := some 11) (Nj := some 13) (Nk := some 6) #[true, true, true, true, true, true, false, false, false, false, false] #[true, true, true, true, false, true, true, false, false, false, false] #[true, true, true, true, false, true, false, false, false, true, false] rfl rfl rfl rfl rfl rfl (three_of HT_.out (by kernel_rfl)) (by decide) (by decide) (by decide) (fun K hK => ?_) (fun K hK => ?_) (fun K hK => ?_)
             · skip
              refine goes_ Try.func23 (by kernel_rfl) rfl #[.slice A0_2 l0_2.length c0_2] (by rfl) rfl rfl (by (try simp only [List.map_toArray, List.map_cons, List.map_nil]); first | done | rfl | (simp only [List.length_drop, List.length_take]; rfl)) ?_
              with_reducible refine (slices_Clone_impl_Clue_impl_Clue.calls _ _ l0_2 t328 _ ?side1 ?side2 A3.out).mono ?_
              (case side1 => repeat (first | exact (Kd.C_below HR0_2.out HB.out) | (with_reducible refine Kd.C_alloc ?_ _) | (with_reducible refine Kd.C_drewN ?_ _) | (with_reducible refine Kd.C_drew ?_)))
              (case side2 => exact HC0_2.out)
              rintro e w13 ⟨v329, rfl, ho0, hb⟩
              refine ⟨_, rfl, ?_⟩
              have n0_ := amk (Kd.R_lower (Kd.R_newB ho0 (g := gb326) (o := .cells #[.int .i64 a1_0, .int .i64 a1_1, .int .i64 a1_2] 37 (0, 0)) BK326.out) (below_size HB.out))
              have n1_ := amk (blk_below BK325.out hb)
              have n2_ := amk (blk_below BK326.out hb)
              have n3_ := amk (blk_below BK327.out hb)
              have n4_ := amk (bp_ HB.out hb)
              clear BK325 BK326 BK327 HB
              have HO330 := n0_
              have BK325 := n1_
              have BK326 := n2_
              have BK327 := n3_
              have HB := n4_
              clear n0_ n1_ n2_ n3_ n4_
              (try clear hb)
              (try clear hb2)
              (try clear hk)
              (try clear hi)
              (try clear ho0)
              refine hK.out _ _ ⟨(blk_cell BK325.out 0).trans rfl, (blk_cell BK325.out 1).trans rfl, (blk_cell BK325.out 2).trans rfl, (blk_cell BK326.out 0).trans rfl, (blk_cell BK326.out 1).trans rfl, (blk_cell BK326.out 2).trans rfl⟩ (fun hHeld => ?_)
              clear hK K
              refine norm_ (a' := ?_) ?_ ?_
              rotate_left
              · show Act.put _ (some 11) _ = _
               simp only [Act.put, List.setIfInBounds_toArray, List.set_cons_zero, List.set_cons_succ, i64_w, i32_w]
               rfl
              exact norm_ (by first | (simp only [putAll, Act.put, List.setIfInBounds_toArray, List.set_cons_zero, List.set_cons_succ]; done) | (simp only [putAll, Act.put, List.setIfInBounds_toArray, List.set_cons_zero, List.set_cons_succ]; rfl)) (hJ4 (v329) _ ⟨hHeld, (by (with_reducible repeat (first | apply Kd.R_alloc | apply Kd.R_drewN | apply Kd.R_drew)); exact Kd.R_mono HO330.out (fun _ hk => hk.2)), BK325.out, BK326.out, BK327.out, HB.out⟩)
             · skip
              refine Kd.R_lit_step k37 _ 37 ?hg (N := 13) ?hd (xs := ([(⟨a1_0, a1_1, a1_2⟩ : S37)] : List (S37))) (inner := [.int .i64 a1_0, .int .i64 a1_1, .int .i64 a1_2]) (ok := fun _ => True) (okp := fun _ => True) ?hr ?hp (fun _ hk => hk) trivial (Below.refl _ _) (Nat.le_refl _) (by simp) ?_; (case hd => rfl); (case hg => rfl); (case hr => first | (go_simp; done) | (go_simp; rfl)); (case hp => exact (Reps.c3 (show Kd.M k37 _ _ _ (⟨a1_0, a1_1, a1_2⟩ : S37) [.int .i64 a1_0, .int .i64 a1_1, .int .i64 a1_2] from (k37_mkM _ _ _ (⟨a1_0, a1_1, a1_2⟩ : S37) )) (Reps.none _ _)))
              intro v332 w13 ho14 hb hg_ hnew_
              clear hg_ hnew_
              (first | rw [← Ny331.out] at ho14 | (simp only [Int.reduceToNat] at ho14; rw [← Ny331.out] at ho14))
              have n0_ := amk (Kd.R_lower (Kd.R_newB ho14 (g := gb326) (o := .cells #[.int .i64 a1_0, .int .i64 a1_1, .int .i64 a1_2] 37 (0, 0)) BK326.out) (below_size HB.out))
              have n1_ := amk (blk_below BK325.out hb)
              have n2_ := amk (blk_below BK326.out hb)
              have n3_ := amk (blk_below BK327.out hb)
              have n4_ := amk (bp_ HB.out hb)
              clear BK325 BK326 BK327 HB
              have HO333 := n0_
              have BK325 := n1_
              have BK326 := n2_
              have BK327 := n3_
              have HB := n4_
              clear n0_ n1_ n2_ n3_ n4_ hb ho14
              refine hK.out _ _ ⟨(blk_cell BK325.out 0).trans rfl, (blk_cell BK325.out 1).trans rfl, (blk_cell BK325.out 2).trans rfl, (blk_cell BK326.out 0).trans rfl, (blk_cell BK326.out 1).trans rfl, (blk_cell BK326.out 2).trans rfl⟩ (fun hHeld => ?_)
              clear hK K
              refine norm_ (a' := ?_) ?_ ?_
              rotate_left
              · show Act.put _ (some 13) _ = _
               simp only [Act.put, List.setIfInBounds_toArray, List.set_cons_zero, List.set_cons_succ, i64_w, i32_w]
               rfl
              exact norm_ (by first | (simp only [putAll, Act.put, List.setIfInBounds_toArray, List.set_cons_zero, List.set_cons_succ]; done) | (simp only [putAll, Act.put, List.setIfInBounds_toArray, List.set_cons_zero, List.set_cons_succ]; rfl)) (hJ6 (v332) _ ⟨hHeld, (by (with_reducible repeat (first | apply Kd.R_alloc | apply Kd.R_drewN | apply Kd.R_drew)); exact Kd.R_mono HO333.out (fun _ hk => hk.2)), BK325.out, BK326.out, BK327.out, HB.out⟩)
             · skip
              refine box_step ?hg (N := 6) ?hd (cs := #[.int .i64 0, .int .i64 0, .slice none 0 0]) (t := 33) ?hr ?_; (case hd => rfl); (case hg => rfl); (case hr => first | (go_simp; done) | (go_simp; rfl))
              intro gb337 hg w13 hbox hb
              have n0_ := amk (blk_below BK325.out hb)
              have n1_ := amk (blk_below BK326.out hb)
              have n2_ := amk (blk_below BK327.out hb)
              have n3_ := amk (bp_ HB.out hb)
              have n4_ := amk (hbox)
              have n5_ := amk ((by rw [hg]; exact (below_size HB.out) : w.heap.size ≤ gb337))
              have n6_ := amk ((by rw [hg]; exact (below_size HB.out) : w.heap.size ≤ gb337))
              have n7_ := amk ((by rw [hg]; exact Nat.ne_of_lt (blk_lt BK325.out) : gb325 ≠ gb337))
              have n8_ := amk ((by rw [hg]; exact Nat.ne_of_gt (blk_lt BK325.out) : gb337 ≠ gb325))
              have n9_ := amk ((by rw [hg]; exact Nat.ne_of_lt (blk_lt BK326.out) : gb326 ≠ gb337))
              have n10_ := amk ((by rw [hg]; exact Nat.ne_of_gt (blk_lt BK326.out) : gb337 ≠ gb326))
              have n11_ := amk ((by rw [hg]; exact Nat.ne_of_lt (blk_lt BK327.out) : gb327 ≠ gb337))
              have n12_ := amk ((by rw [hg]; exact Nat.ne_of_gt (blk_lt BK327.out) : gb337 ≠ gb327))
              clear BK325 BK326 BK327 HB
              have BK325 := n0_
              have BK326 := n1_
              have BK327 := n2_
              have HB := n3_
              have BK337 := n4_
              have GW337 := n5_
              have GE337 := n6_
              have NB325_337 := n7_
              have NB337_325 := n8_
              have NB326_337 := n9_
              have NB337_326 := n10_
              have NB327_337 := n11_
              have NB337_327 := n12_
              clear n0_ n1_ n2_ n3_ n4_ n5_ n6_ n7_ n8_ n9_ n10_ n11_ n12_ hb hbox hg
              refine hK.out _ _ ⟨(blk_cell BK325.out 0).trans rfl, (blk_cell BK325.out 1).trans rfl, (blk_cell BK325.out 2).trans rfl, (blk_cell BK326.out 0).trans rfl, (blk_cell BK326.out 1).trans rfl, (blk_cell BK326.out 2).trans rfl⟩ (fun hHeld => ?_)
              clear hK K
              refine norm_ (a' := ?_) ?_ ?_
              rotate_left
              · show Act.put _ (some 6) _ = _
               simp only [Act.put, List.setIfInBounds_toArray, List.set_cons_zero, List.set_cons_succ, i64_w, i32_w]
               rfl
              exact norm_ (by first | (simp only [putAll, Act.put, List.setIfInBounds_toArray, List.set_cons_zero, List.set_cons_succ]; done) | (simp only [putAll, Act.put, List.setIfInBounds_toArray, List.set_cons_zero, List.set_cons_succ]; rfl)) (hJ9 (gb337) _ ⟨hHeld, BK325.out, BK326.out, BK327.out, BK337.out, GW337.out, GE337.out, NB325_337.out, NB337_325.out, NB326_337.out, NB337_326.out, NB327_337.out, NB337_327.out, HB.out⟩)
            · skip
             rintro gb337 w14 ⟨hS_, h0_, h1_, h2_, h3_, h4_, h5_, h6_, h7_, h8_, h9_, h10_, h11_, h12_⟩
             have n0_ : Aside0 (w14.heap[gb325]? = some (.cells #[.int .i64 a0_0, .int .i64 a0_1, .slice A0_2 l0_2.length c0_2] 33 (0, 0))) := ⟨h0_⟩
             have n1_ : Aside0 (w14.heap[gb326]? = some (.cells #[.int .i64 a1_0, .int .i64 a1_1, .int .i64 a1_2] 37 (0, 0))) := ⟨h1_⟩
             have n2_ : Aside0 (w14.heap[gb327]? = some (.cells #[.int .i64 0, .int .i64 0, .slice none 0 0] 33 (0, 0))) := ⟨h2_⟩
             have n3_ : Aside0 (w14.heap[gb337]? = some (.cells #[.int .i64 0, .int .i64 0, .slice none 0 0] 33 (0, 0))) := ⟨h3_⟩
             have n4_ : Aside0 (w.heap.size ≤ gb337) := ⟨h4_⟩
             have n5_ : Aside0 (w.heap.size ≤ gb337) := ⟨h5_⟩
             have n6_ : Aside0 (gb325 ≠ gb337) := ⟨h6_⟩
             have n7_ : Aside0 (gb337 ≠ gb325) := ⟨h7_⟩
             have n8_ : Aside0 (gb326 ≠ gb337) := ⟨h8_⟩
             have n9_ : Aside0 (gb337 ≠ gb326) := ⟨h9_⟩
             have n10_ : Aside0 (gb327 ≠ gb337) := ⟨h10_⟩
             have n11_ : Aside0 (gb337 ≠ gb327) := ⟨h11_⟩
             have n12_ : Aside0 (Below w.heap.size w w14) := ⟨h12_⟩
             clear BK325 BK326 BK327 HB h0_ h1_ h2_ h3_ h4_ h5_ h6_ h7_ h8_ h9_ h10_ h11_ h12_
             have BK325 := n0_
             have BK326 := n1_
             have BK327 := n2_
             have BK337 := n3_
             have GW337 := n4_
             have GE337 := n5_
             have NB325_337 := n6_
             have NB337_325 := n7_
             have NB326_337 := n8_
             have NB337_326 := n9_
             have NB327_337 := n10_
             have NB337_327 := n11_
             have HB := n12_
             clear n0_ n1_ n2_ n3_ n4_ n5_ n6_ n7_ n8_ n9_ n10_ n11_ n12_
             have hHeld : w14.cell? ⟨gb325, 0, none⟩ = some (.int .i64 a0_0) ∧ w14.cell? ⟨gb325, 1, none⟩ = some (.int .i64 a0_1) ∧ w14.cell? ⟨gb325, 2, none⟩ = some (.slice A0_2 l0_2.length c0_2) ∧ w14.cell? ⟨gb326, 0, none⟩ = some (.int .i64 a1_0) ∧ w14.cell? ⟨gb326, 1, none⟩ = some (.int .i64 a1_1) ∧ w14.cell? ⟨gb326, 2, none⟩ = some (.int .i64 a1_2) := hS_
             refine norm_ (a' := ?_) ?_ ?_
             rotate_left
             · simp only [putAll, Act.put, List.setIfInBounds_toArray, List.set_cons_zero, List.set_cons_succ]
              rfl
             refine two_ (i := 4) (j := 6) (Ni := some 11) (Nj := some 13) #[true, true, true, true, true, true, false, false, false, true, false] #[true, true, true, true, false, true, true, false, false, true, false] rfl rfl rfl rfl (two_of HT_.out (by kernel_rfl)) (by decide) (by decide) (fun K hK => ?_) (fun K hK => ?_)
             · skip
              refine goes_ Try.func23 (by kernel_rfl) rfl #[.slice A0_2 l0_2.length c0_2] (by rfl) rfl rfl (by (try simp only [List.map_toArray, List.map_cons, List.map_nil]); first | done | rfl | (simp only [List.length_drop, List.length_take]; rfl)) ?_
              with_reducible refine (slices_Clone_impl_Clue_impl_Clue.calls _ _ l0_2 t328 _ ?side1 ?side2 A3.out).mono ?_
              (case side1 => repeat (first | exact (Kd.C_below HR0_2.out HB.out) | (with_reducible refine Kd.C_alloc ?_ _) | (with_reducible refine Kd.C_drewN ?_ _) | (with_reducible refine Kd.C_drew ?_)))
              (case side2 => exact HC0_2.out)
              rintro e w15 ⟨v329, rfl, ho0, hb⟩
              refine ⟨_, rfl, ?_⟩
              have n0_ := amk (Kd.R_lower (Kd.R_newB ho0 (g := gb326) (o := .cells #[.int .i64 a1_0, .int .i64 a1_1, .int .i64 a1_2] 37 (0, 0)) BK326.out) (below_size HB.out))
              have n1_ := amk (blk_below BK325.out hb)
              have n2_ := amk (blk_below BK326.out hb)
              have n3_ := amk (blk_below BK327.out hb)
              have n4_ := amk (blk_below BK337.out hb)
              have n5_ := amk (bp_ HB.out hb)
              clear BK325 BK326 BK327 BK337 HB
              have HO330 := n0_
              have BK325 := n1_
              have BK326 := n2_
              have BK327 := n3_
              have BK337 := n4_
              have HB := n5_
              clear n0_ n1_ n2_ n3_ n4_ n5_
              (try clear hb)
              (try clear hb2)
              (try clear hk)
              (try clear hi)
              (try clear ho0)
              refine hK.out _ _ ⟨(blk_cell BK325.out 0).trans rfl, (blk_cell BK325.out 1).trans rfl, (blk_cell BK325.out 2).trans rfl, (blk_cell BK326.out 0).trans rfl, (blk_cell BK326.out 1).trans rfl, (blk_cell BK326.out 2).trans rfl⟩ (fun hHeld => ?_)
              clear hK K
              refine norm_ (a' := ?_) ?_ ?_
              rotate_left
              · show Act.put _ (some 11) _ = _
               simp only [Act.put, List.setIfInBounds_toArray, List.set_cons_zero, List.set_cons_succ, i64_w, i32_w]
               rfl
              exact norm_ (by first | (simp only [putAll, Act.put, List.setIfInBounds_toArray, List.set_cons_zero, List.set_cons_succ]; done) | (simp only [putAll, Act.put, List.setIfInBounds_toArray, List.set_cons_zero, List.set_cons_succ]; rfl)) (hJ4_9 (v329, gb337) _ ⟨hHeld, (by (with_reducible repeat (first | apply Kd.R_alloc | apply Kd.R_drewN | apply Kd.R_drew)); exact Kd.R_mono HO330.out (fun _ hk => hk.2)), BK325.out, BK326.out, BK327.out, BK337.out, GW337.out, GE337.out, NB325_337.out, NB337_325.out, NB326_337.out, NB337_326.out, NB327_337.out, NB337_327.out, HB.out⟩)
             · skip
              refine Kd.R_lit_step k37 _ 37 ?hg (N := 13) ?hd (xs := ([(⟨a1_0, a1_1, a1_2⟩ : S37)] : List (S37))) (inner := [.int .i64 a1_0, .int .i64 a1_1, .int .i64 a1_2]) (ok := fun _ => True) (okp := fun _ => True) ?hr ?hp (fun _ hk => hk) trivial (Below.refl _ _) (Nat.le_refl _) (by simp) ?_; (case hd => rfl); (case hg => rfl); (case hr => first | (go_simp; done) | (go_simp; rfl)); (case hp => exact (Reps.c3 (show Kd.M k37 _ _ _ (⟨a1_0, a1_1, a1_2⟩ : S37) [.int .i64 a1_0, .int .i64 a1_1, .int .i64 a1_2] from (k37_mkM _ _ _ (⟨a1_0, a1_1, a1_2⟩ : S37) )) (Reps.none _ _)))
              intro v332 w15 ho16 hb hg_ hnew_
              clear hg_ hnew_
              (first | rw [← Ny331.out] at ho16 | (simp only [Int.reduceToNat] at ho16; rw [← Ny331.out] at ho16))
              have n0_ := amk (Kd.R_lower (Kd.R_newB ho16 (g := gb326) (o := .cells #[.int .i64 a1_0, .int .i64 a1_1, .int .i64 a1_2] 37 (0, 0)) BK326.out) (below_size HB.out))
              have n1_ := amk (blk_below BK325.out hb)
              have n2_ := amk (blk_below BK326.out hb)
              have n3_ := amk (blk_below BK327.out hb)
              have n4_ := amk (blk_below BK337.out hb)
              have n5_ := amk (bp_ HB.out hb)
              clear BK325 BK326 BK327 BK337 HB
              have HO333 := n0_
              have BK325 := n1_
              have BK326 := n2_
              have BK327 := n3_
              have BK337 := n4_
              have HB := n5_
              clear n0_ n1_ n2_ n3_ n4_ n5_ hb ho16
              refine hK.out _ _ ⟨(blk_cell BK325.out 0).trans rfl, (blk_cell BK325.out 1).trans rfl, (blk_cell BK325.out 2).trans rfl, (blk_cell BK326.out 0).trans rfl, (blk_cell BK326.out 1).trans rfl, (blk_cell BK326.out 2).trans rfl⟩ (fun hHeld => ?_)
              clear hK K
              refine norm_ (a' := ?_) ?_ ?_
              rotate_left
              · show Act.put _ (some 13) _ = _
               simp only [Act.put, List.setIfInBounds_toArray, List.set_cons_zero, List.set_cons_succ, i64_w, i32_w]
               rfl
              exact norm_ (by first | (simp only [putAll, Act.put, List.setIfInBounds_toArray, List.set_cons_zero, List.set_cons_succ]; done) | (simp only [putAll, Act.put, List.setIfInBounds_toArray, List.set_cons_zero, List.set_cons_succ]; rfl)) (hJ6_9 (v332, gb337) _ ⟨hHeld, (by (with_reducible repeat (first | apply Kd.R_alloc | apply Kd.R_drewN | apply Kd.R_drew)); exact Kd.R_mono HO333.out (fun _ hk => hk.2)), BK325.out, BK326.out, BK327.out, BK337.out, GW337.out, GE337.out, NB325_337.out, NB337_325.out, NB326_337.out, NB337_326.out, NB327_337.out, NB337_327.out, HB.out⟩)
           · skip
            rintro v332 w15 ⟨hS_, h0_, h1_, h2_, h3_, h4_⟩
            have n0_ : Aside0 (Kd.R k37 37 w15 w.heap.size (fun k_ => k_ ≠ gb326) v332 y331) := ⟨h0_⟩
            have n1_ : Aside0 (w15.heap[gb325]? = some (.cells #[.int .i64 a0_0, .int .i64 a0_1, .slice A0_2 l0_2.length c0_2] 33 (0, 0))) := ⟨h1_⟩
            have n2_ : Aside0 (w15.heap[gb326]? = some (.cells #[.int .i64 a1_0, .int .i64 a1_1, .int .i64 a1_2] 37 (0, 0))) := ⟨h2_⟩
            have n3_ : Aside0 (w15.heap[gb327]? = some (.cells #[.int .i64 0, .int .i64 0, .slice none 0 0] 33 (0, 0))) := ⟨h3_⟩
            have n4_ : Aside0 (Below w.heap.size w w15) := ⟨h4_⟩
            clear BK325 BK326 BK327 HB h0_ h1_ h2_ h3_ h4_
            have HO333 := n0_
            have BK325 := n1_
            have BK326 := n2_
            have BK327 := n3_
            have HB := n4_
            clear n0_ n1_ n2_ n3_ n4_
            have hHeld : w15.cell? ⟨gb325, 0, none⟩ = some (.int .i64 a0_0) ∧ w15.cell? ⟨gb325, 1, none⟩ = some (.int .i64 a0_1) ∧ w15.cell? ⟨gb325, 2, none⟩ = some (.slice A0_2 l0_2.length c0_2) ∧ w15.cell? ⟨gb326, 0, none⟩ = some (.int .i64 a1_0) ∧ w15.cell? ⟨gb326, 1, none⟩ = some (.int .i64 a1_1) ∧ w15.cell? ⟨gb326, 2, none⟩ = some (.int .i64 a1_2) := hS_
            refine norm_ (a' := ?_) ?_ ?_
            rotate_left
            · simp only [putAll, Act.put, List.setIfInBounds_toArray, List.set_cons_zero, List.set_cons_succ]
             rfl
            refine two_ (i := 4) (j := 9) (Ni := some 11) (Nj := some 6) #[true, true, true, true, true, true, true, false, false, false, false] #[true, true, true, true, false, true, true, false, false, true, false] rfl rfl rfl rfl (two_of HT_.out (by kernel_rfl)) (by decide) (by decide) (fun K hK => ?_) (fun K hK => ?_)
            · skip
             refine goes_ Try.func23 (by kernel_rfl) rfl #[.slice A0_2 l0_2.length c0_2] (by rfl) rfl rfl (by (try simp only [List.map_toArray, List.map_cons, List.map_nil]); first | done | rfl | (simp only [List.length_drop, List.length_take]; rfl)) ?_
             with_reducible refine (slices_Clone_impl_Clue_impl_Clue.calls _ _ l0_2 t328 _ ?side1 ?side2 A3.out).mono ?_
             (case side1 => repeat (first | exact (Kd.C_below HR0_2.out HB.out) | (with_reducible refine Kd.C_alloc ?_ _) | (with_reducible refine Kd.C_drewN ?_ _) | (with_reducible refine Kd.C_drew ?_)))
             (case side2 => exact HC0_2.out)
             rintro e w16 ⟨v329, rfl, ho0, hb⟩
             refine ⟨_, rfl, ?_⟩
             have n0_ := amk (Kd.R_elder' HO333.out (Kd.R_base ho0) hb)
             have n1_ := amk (Kd.R_lower (Kd.R_newB (Kd.R_new' ho0 (Kd.R_lt HO333.out)) (g := gb326) (o := .cells #[.int .i64 a1_0, .int .i64 a1_1, .int .i64 a1_2] 37 (0, 0)) BK326.out) (below_size HB.out))
             have n2_ := amk (blk_below BK325.out hb)
             have n3_ := amk (blk_below BK326.out hb)
             have n4_ := amk (blk_below BK327.out hb)
             have n5_ := amk (bp_ HB.out hb)
             clear HO333 BK325 BK326 BK327 HB
             have HO333 := n0_
             have HO330 := n1_
             have BK325 := n2_
             have BK326 := n3_
             have BK327 := n4_
             have HB := n5_
             clear n0_ n1_ n2_ n3_ n4_ n5_
             (try clear hb)
             (try clear hb2)
             (try clear hk)
             (try clear hi)
             (try clear ho0)
             refine hK.out _ _ ⟨(blk_cell BK325.out 0).trans rfl, (blk_cell BK325.out 1).trans rfl, (blk_cell BK325.out 2).trans rfl, (blk_cell BK326.out 0).trans rfl, (blk_cell BK326.out 1).trans rfl, (blk_cell BK326.out 2).trans rfl⟩ (fun hHeld => ?_)
             clear hK K
             refine norm_ (a' := ?_) ?_ ?_
             rotate_left
             · show Act.put _ (some 11) _ = _
              simp only [Act.put, List.setIfInBounds_toArray, List.set_cons_zero, List.set_cons_succ, i64_w, i32_w]
              rfl
             exact norm_ (by first | (simp only [putAll, Act.put, List.setIfInBounds_toArray, List.set_cons_zero, List.set_cons_succ]; done) | (simp only [putAll, Act.put, List.setIfInBounds_toArray, List.set_cons_zero, List.set_cons_succ]; rfl)) (hJ4_6 (v329, v332) _ ⟨hHeld, (by (with_reducible repeat (first | apply Kd.R_alloc | apply Kd.R_drewN | apply Kd.R_drew)); exact Kd.R_mono HO330.out (fun _ hk => ⟨hk.1.2, hk.2⟩)), (by (with_reducible repeat (first | apply Kd.R_alloc | apply Kd.R_drewN | apply Kd.R_drew)); exact Kd.R_mono HO333.out (fun _ hk => ⟨hk.2, hk.1⟩)), BK325.out, BK326.out, BK327.out, HB.out⟩)
            · skip
             refine box_step ?hg (N := 6) ?hd (cs := #[.int .i64 0, .int .i64 0, .slice none 0 0]) (t := 33) ?hr ?_; (case hd => rfl); (case hg => rfl); (case hr => first | (go_simp; done) | (go_simp; rfl))
             intro gb337 hg w16 hbox hb
             have n0_ := amk (Kd.R_below HO333.out hb)
             have n1_ := amk (blk_below BK325.out hb)
             have n2_ := amk (blk_below BK326.out hb)
             have n3_ := amk (blk_below BK327.out hb)
             have n4_ := amk (bp_ HB.out hb)
             have n5_ := amk (hbox)
             have n6_ := amk ((by rw [hg]; exact (below_size HB.out) : w.heap.size ≤ gb337))
             have n7_ := amk ((by rw [hg]; exact (below_size HB.out) : w.heap.size ≤ gb337))
             have n8_ := amk ((by rw [hg]; exact Nat.ne_of_lt (blk_lt BK325.out) : gb325 ≠ gb337))
             have n9_ := amk ((by rw [hg]; exact Nat.ne_of_gt (blk_lt BK325.out) : gb337 ≠ gb325))
             have n10_ := amk ((by rw [hg]; exact Nat.ne_of_lt (blk_lt BK326.out) : gb326 ≠ gb337))
             have n11_ := amk ((by rw [hg]; exact Nat.ne_of_gt (blk_lt BK326.out) : gb337 ≠ gb326))
             have n12_ := amk ((by rw [hg]; exact Nat.ne_of_lt (blk_lt BK327.out) : gb327 ≠ gb337))
             have n13_ := amk ((by rw [hg]; exact Nat.ne_of_gt (blk_lt BK327.out) : gb337 ≠ gb327))
             clear HO333 BK325 BK326 BK327 HB
             have HO333 := n0_
             have BK325 := n1_
             have BK326 := n2_
             have BK327 := n3_
             have HB := n4_
             have BK337 := n5_
             have GW337 := n6_
             have GE337 := n7_
             have NB325_337 := n8_
             have NB337_325 := n9_
             have NB326_337 := n10_
             have NB337_326 := n11_
             have NB327_337 := n12_
             have NB337_327 := n13_
             clear n0_ n1_ n2_ n3_ n4_ n5_ n6_ n7_ n8_ n9_ n10_ n11_ n12_ n13_ hb hbox hg
             refine hK.out _ _ ⟨(blk_cell BK325.out 0).trans rfl, (blk_cell BK325.out 1).trans rfl, (blk_cell BK325.out 2).trans rfl, (blk_cell BK326.out 0).trans rfl, (blk_cell BK326.out 1).trans rfl, (blk_cell BK326.out 2).trans rfl⟩ (fun hHeld => ?_)
             clear hK K
             refine norm_ (a' := ?_) ?_ ?_
             rotate_left
             · show Act.put _ (some 6) _ = _
              simp only [Act.put, List.setIfInBounds_toArray, List.set_cons_zero, List.set_cons_succ, i64_w, i32_w]
              rfl
             exact norm_ (by first | (simp only [putAll, Act.put, List.setIfInBounds_toArray, List.set_cons_zero, List.set_cons_succ]; done) | (simp only [putAll, Act.put, List.setIfInBounds_toArray, List.set_cons_zero, List.set_cons_succ]; rfl)) (hJ6_9 (v332, gb337) _ ⟨hHeld, HO333.out, BK325.out, BK326.out, BK327.out, BK337.out, GW337.out, GE337.out, NB325_337.out, NB337_325.out, NB326_337.out, NB337_326.out, NB327_337.out, NB337_327.out, HB.out⟩)
          · skip
           rintro v329 w14 ⟨hS_, h0_, h1_, h2_, h3_, h4_⟩
           have n0_ : Aside0 (Kd.R k37 37 w14 w.heap.size (fun k_ => k_ ≠ gb326) v329 t328) := ⟨h0_⟩
           have n1_ : Aside0 (w14.heap[gb325]? = some (.cells #[.int .i64 a0_0, .int .i64 a0_1, .slice A0_2 l0_2.length c0_2] 33 (0, 0))) := ⟨h1_⟩
           have n2_ : Aside0 (w14.heap[gb326]? = some (.cells #[.int .i64 a1_0, .int .i64 a1_1, .int .i64 a1_2] 37 (0, 0))) := ⟨h2_⟩
           have n3_ : Aside0 (w14.heap[gb327]? = some (.cells #[.int .i64 0, .int .i64 0, .slice none 0 0] 33 (0, 0))) := ⟨h3_⟩
           have n4_ : Aside0 (Below w.heap.size w w14) := ⟨h4_⟩
           clear BK325 BK326 BK327 HB h0_ h1_ h2_ h3_ h4_
           have HO330 := n0_
           have BK325 := n1_
           have BK326 := n2_
           have BK327 := n3_
           have HB := n4_
           clear n0_ n1_ n2_ n3_ n4_
           have hHeld : w14.cell? ⟨gb325, 0, none⟩ = some (.int .i64 a0_0) ∧ w14.cell? ⟨gb325, 1, none⟩ = some (.int .i64 a0_1) ∧ w14.cell? ⟨gb325, 2, none⟩ = some (.slice A0_2 l0_2.length c0_2) ∧ w14.cell? ⟨gb326, 0, none⟩ = some (.int .i64 a1_0) ∧ w14.cell? ⟨gb326, 1, none⟩ = some (.int .i64 a1_1) ∧ w14.cell? ⟨gb326, 2, none⟩ = some (.int .i64 a1_2) := hS_
           refine norm_ (a' := ?_) ?_ ?_
           rotate_left
           · simp only [putAll, Act.put, List.setIfInBounds_toArray, List.set_cons_zero, List.set_cons_succ]
            rfl
           refine two_ (i := 6) (j := 9) (Ni := some 13) (Nj := some 6) #[true, true, true, true, true, true, true, false, false, false, false] #[true, true, true, true, true, true, false, false, false, true, false] rfl rfl rfl rfl (two_of HT_.out (by kernel_rfl)) (by decide) (by decide) (fun K hK => ?_) (fun K hK => ?_)
           · skip
            refine Kd.R_lit_step k37 _ 37 ?hg (N := 13) ?hd (xs := ([(⟨a1_0, a1_1, a1_2⟩ : S37)] : List (S37))) (inner := [.int .i64 a1_0, .int .i64 a1_1, .int .i64 a1_2]) (ok := fun _ => True) (okp := fun _ => True) ?hr ?hp (fun _ hk => hk) trivial (Below.refl _ _) (Nat.le_refl _) (by simp) ?_; (case hd => rfl); (case hg => rfl); (case hr => first | (go_simp; done) | (go_simp; rfl)); (case hp => exact (Reps.c3 (show Kd.M k37 _ _ _ (⟨a1_0, a1_1, a1_2⟩ : S37) [.int .i64 a1_0, .int .i64 a1_1, .int .i64 a1_2] from (k37_mkM _ _ _ (⟨a1_0, a1_1, a1_2⟩ : S37) )) (Reps.none _ _)))
            intro v332 w15 ho16 hb hg_ hnew_
            clear hg_ hnew_
            (first | rw [← Ny331.out] at ho16 | (simp only [Int.reduceToNat] at ho16; rw [← Ny331.out] at ho16))
            have n0_ := amk (Kd.R_elder' HO330.out (Kd.R_base ho16) hb)
            have n1_ := amk (Kd.R_lower (Kd.R_newB (Kd.R_new' ho16 (Kd.R_lt HO330.out)) (g := gb326) (o := .cells #[.int .i64 a1_0, .int .i64 a1_1, .int .i64 a1_2] 37 (0, 0)) BK326.out) (below_size HB.out))
            have n2_ := amk (blk_below BK325.out hb)
            have n3_ := amk (blk_below BK326.out hb)
            have n4_ := amk (blk_below BK327.out hb)
            have n5_ := amk (bp_ HB.out hb)
            clear HO330 BK325 BK326 BK327 HB
            have HO330 := n0_
            have HO333 := n1_
            have BK325 := n2_
            have BK326 := n3_
            have BK327 := n4_
            have HB := n5_
            clear n0_ n1_ n2_ n3_ n4_ n5_ hb ho16
            refine hK.out _ _ ⟨(blk_cell BK325.out 0).trans rfl, (blk_cell BK325.out 1).trans rfl, (blk_cell BK325.out 2).trans rfl, (blk_cell BK326.out 0).trans rfl, (blk_cell BK326.out 1).trans rfl, (blk_cell BK326.out 2).trans rfl⟩ (fun hHeld => ?_)
            clear hK K
            refine norm_ (a' := ?_) ?_ ?_
            rotate_left
            · show Act.put _ (some 13) _ = _
             simp only [Act.put, List.setIfInBounds_toArray, List.set_cons_zero, List.set_cons_succ, i64_w, i32_w]
             rfl
            exact norm_ (by first | (simp only [putAll, Act.put, List.setIfInBounds_toArray, List.set_cons_zero, List.set_cons_succ]; done) | (simp only [putAll, Act.put, List.setIfInBounds_toArray, List.set_cons_zero, List.set_cons_succ]; rfl)) (hJ4_6 (v329, v332) _ ⟨hHeld, (by (with_reducible repeat (first | apply Kd.R_alloc | apply Kd.R_drewN | apply Kd.R_drew)); exact Kd.R_mono HO330.out (fun _ hk => ⟨hk.2, hk.1⟩)), (by (with_reducible repeat (first | apply Kd.R_alloc | apply Kd.R_drewN | apply Kd.R_drew)); exact Kd.R_mono HO333.out (fun _ hk => ⟨hk.1.2, hk.2⟩)), BK325.out, BK326.out, BK327.out, HB.out⟩)
           · skip
            refine box_step ?hg (N := 6) ?hd (cs := #[.int .i64 0, .int .i64 0, .slice none 0 0]) (t := 33) ?hr ?_; (case hd => rfl); (case hg => rfl); (case hr => first | (go_simp; done) | (go_simp; rfl))
            intro gb337 hg w15 hbox hb
            have n0_ := amk (Kd.R_below HO330.out hb)
            have n1_ := amk (blk_below BK325.out hb)
            have n2_ := amk (blk_below BK326.out hb)
            have n3_ := amk (blk_below BK327.out hb)
            have n4_ := amk (bp_ HB.out hb)
            have n5_ := amk (hbox)
            have n6_ := amk ((by rw [hg]; exact (below_size HB.out) : w.heap.size ≤ gb337))
            have n7_ := amk ((by rw [hg]; exact (below_size HB.out) : w.heap.size ≤ gb337))
            have n8_ := amk ((by rw [hg]; exact Nat.ne_of_lt (blk_lt BK325.out) : gb325 ≠ gb337))
            have n9_ := amk ((by rw [hg]; exact Nat.ne_of_gt (blk_lt BK325.out) : gb337 ≠ gb325))
            have n10_ := amk ((by rw [hg]; exact Nat.ne_of_lt (blk_lt BK326.out) : gb326 ≠ gb337))
            have n11_ := amk ((by rw [hg]; exact Nat.ne_of_gt (blk_lt BK326.out) : gb337 ≠ gb326))
            have n12_ := amk ((by rw [hg]; exact Nat.ne_of_lt (blk_lt BK327.out) : gb327 ≠ gb337))
            have n13_ := amk ((by rw [hg]; exact Nat.ne_of_gt (blk_lt BK327.out) : gb337 ≠ gb327))
            clear HO330 BK325 BK326 BK327 HB
            have HO330 := n0_
            have BK325 := n1_
            have BK326 := n2_
            have BK327 := n3_
            have HB := n4_
            have BK337 := n5_
            have GW337 := n6_
            have GE337 := n7_
            have NB325_337 := n8_
            have NB337_325 := n9_
            have NB326_337 := n10_
            have NB337_326 := n11_
            have NB327_337 := n12_
            have NB337_327 := n13_
            clear n0_ n1_ n2_ n3_ n4_ n5_ n6_ n7_ n8_ n9_ n10_ n11_ n12_ n13_ hb hbox hg
            refine hK.out _ _ ⟨(blk_cell BK325.out 0).trans rfl, (blk_cell BK325.out 1).trans rfl, (blk_cell BK325.out 2).trans rfl, (blk_cell BK326.out 0).trans rfl, (blk_cell BK326.out 1).trans rfl, (blk_cell BK326.out 2).trans rfl⟩ (fun hHeld => ?_)
            clear hK K
            refine norm_ (a' := ?_) ?_ ?_
            rotate_left
            · show Act.put _ (some 6) _ = _
             simp only [Act.put, List.setIfInBounds_toArray, List.set_cons_zero, List.set_cons_succ, i64_w, i32_w]
             rfl
            exact norm_ (by first | (simp only [putAll, Act.put, List.setIfInBounds_toArray, List.set_cons_zero, List.set_cons_succ]; done) | (simp only [putAll, Act.put, List.setIfInBounds_toArray, List.set_cons_zero, List.set_cons_succ]; rfl)) (hJ4_9 (v329, gb337) _ ⟨hHeld, HO330.out, BK325.out, BK326.out, BK327.out, BK337.out, GW337.out, GE337.out, NB325_337.out, NB337_325.out, NB326_337.out, NB337_326.out, NB327_337.out, NB337_327.out, HB.out⟩)
         · skip
          rintro ⟨v332, gb337⟩ w16 ⟨hS_, h0_, h1_, h2_, h3_, h4_, h5_, h6_, h7_, h8_, h9_, h10_, h11_, h12_, h13_⟩
          have n0_ : Aside0 (Kd.R k37 37 w16 w.heap.size (fun k_ => k_ ≠ gb326) v332 y331) := ⟨h0_⟩
          have n1_ : Aside0 (w16.heap[gb325]? = some (.cells #[.int .i64 a0_0, .int .i64 a0_1, .slice A0_2 l0_2.length c0_2] 33 (0, 0))) := ⟨h1_⟩
          have n2_ : Aside0 (w16.heap[gb326]? = some (.cells #[.int .i64 a1_0, .int .i64 a1_1, .int .i64 a1_2] 37 (0, 0))) := ⟨h2_⟩
          have n3_ : Aside0 (w16.heap[gb327]? = some (.cells #[.int .i64 0, .int .i64 0, .slice none 0 0] 33 (0, 0))) := ⟨h3_⟩
          have n4_ : Aside0 (w16.heap[gb337]? = some (.cells #[.int .i64 0, .int .i64 0, .slice none 0 0] 33 (0, 0))) := ⟨h4_⟩
          have n5_ : Aside0 (w.heap.size ≤ gb337) := ⟨h5_⟩
          have n6_ : Aside0 (w.heap.size ≤ gb337) := ⟨h6_⟩
          have n7_ : Aside0 (gb325 ≠ gb337) := ⟨h7_⟩
          have n8_ : Aside0 (gb337 ≠ gb325) := ⟨h8_⟩
          have n9_ : Aside0 (gb326 ≠ gb337) := ⟨h9_⟩
          have n10_ : Aside0 (gb337 ≠ gb326) := ⟨h10_⟩
          have n11_ : Aside0 (gb327 ≠ gb337) := ⟨h11_⟩
          have n12_ : Aside0 (gb337 ≠ gb327) := ⟨h12_⟩
          have n13_ : Aside0 (Below w.heap.size w w16) := ⟨h13_⟩
          clear BK325 BK326 BK327 HB h0_ h1_ h2_ h3_ h4_ h5_ h6_ h7_ h8_ h9_ h10_ h11_ h12_ h13_
          have HO333 := n0_
          have BK325 := n1_
          have BK326 := n2_
          have BK327 := n3_
          have BK337 := n4_
          have GW337 := n5_
          have GE337 := n6_
          have NB325_337 := n7_
          have NB337_325 := n8_
          have NB326_337 := n9_
          have NB337_326 := n10_
          have NB327_337 := n11_
          have NB337_327 := n12_
          have HB := n13_
          clear n0_ n1_ n2_ n3_ n4_ n5_ n6_ n7_ n8_ n9_ n10_ n11_ n12_ n13_
          have hHeld : w16.cell? ⟨gb325, 0, none⟩ = some (.int .i64 a0_0) ∧ w16.cell? ⟨gb325, 1, none⟩ = some (.int .i64 a0_1) ∧ w16.cell? ⟨gb325, 2, none⟩ = some (.slice A0_2 l0_2.length c0_2) ∧ w16.cell? ⟨gb326, 0, none⟩ = some (.int .i64 a1_0) ∧ w16.cell? ⟨gb326, 1, none⟩ = some (.int .i64 a1_1) ∧ w16.cell? ⟨gb326, 2, none⟩ = some (.int .i64 a1_2) := hS_
          refine norm_ (a' := ?_) ?_ ?_
          rotate_left
          · simp only [putAll, Act.put, List.setIfInBounds_toArray, List.set_cons_zero, List.set_cons_succ]
           rfl
          refine one_ (i := 4) (N := some 11) #[true, true, true, true, true, true, true, false, false, true, false] rfl rfl (one_of HT_.out (by kernel_rfl)) (by decide) (fun K hK => ?_)
          refine goes_ Try.func23 (by kernel_rfl) rfl #[.slice A0_2 l0_2.length c0_2] (by rfl) rfl rfl (by (try simp only [List.map_toArray, List.map_cons, List.map_nil]); first | done | rfl | (simp only [List.length_drop, List.length_take]; rfl)) ?_
          with_reducible refine (slices_Clone_impl_Clue_impl_Clue.calls _ _ l0_2 t328 _ ?side1 ?side2 A3.out).mono ?_
          (case side1 => repeat (first | exact (Kd.C_below HR0_2.out HB.out) | (with_reducible refine Kd.C_alloc ?_ _) | (with_reducible refine Kd.C_drewN ?_ _) | (with_reducible refine Kd.C_drew ?_)))
          (case side2 => exact HC0_2.out)
          rintro e w17 ⟨v329, rfl, ho0, hb⟩
          refine ⟨_, rfl, ?_⟩
          have n0_ := amk (Kd.R_elder' HO333.out (Kd.R_base ho0) hb)
          have n1_ := amk (Kd.R_lower (Kd.R_newB (Kd.R_new' ho0 (Kd.R_lt HO333.out)) (g := gb326) (o := .cells #[.int .i64 a1_0, .int .i64 a1_1, .int .i64 a1_2] 37 (0, 0)) BK326.out) (below_size HB.out))
          have n2_ := amk (blk_below BK325.out hb)
          have n3_ := amk (blk_below BK326.out hb)
          have n4_ := amk (blk_below BK327.out hb)
          have n5_ := amk (blk_below BK337.out hb)
          have n6_ := amk (bp_ HB.out hb)
          clear HO333 BK325 BK326 BK327 BK337 HB
          have HO333 := n0_
          have HO330 := n1_
          have BK325 := n2_
          have BK326 := n3_
          have BK327 := n4_
          have BK337 := n5_
          have HB := n6_
          clear n0_ n1_ n2_ n3_ n4_ n5_ n6_
          (try clear hb)
          (try clear hb2)
          (try clear hk)
          (try clear hi)
          (try clear ho0)
          refine hK.out _ _ ⟨(blk_cell BK325.out 0).trans rfl, (blk_cell BK325.out 1).trans rfl, (blk_cell BK325.out 2).trans rfl, (blk_cell BK326.out 0).trans rfl, (blk_cell BK326.out 1).trans rfl, (blk_cell BK326.out 2).trans rfl⟩ (fun hHeld => ?_)
          clear hK K
          refine norm_ (a' := ?_) ?_ ?_
          rotate_left
          · show Act.put _ (some 11) _ = _
           simp only [Act.put, List.setIfInBounds_toArray, List.set_cons_zero, List.set_cons_succ, i64_w, i32_w]
           rfl
          exact norm_ (by first | (simp only [putAll, Act.put, List.setIfInBounds_toArray, List.set_cons_zero, List.set_cons_succ]; done) | (simp only [putAll, Act.put, List.setIfInBounds_toArray, List.set_cons_zero, List.set_cons_succ]; rfl)) (hJ4_6_9 (v329, v332, gb337) _ ⟨hHeld, (by (with_reducible repeat (first | apply Kd.R_alloc | apply Kd.R_drewN | apply Kd.R_drew)); exact Kd.R_mono HO330.out (fun _ hk => ⟨hk.1.2, hk.2⟩)), (by (with_reducible repeat (first | apply Kd.R_alloc | apply Kd.R_drewN | apply Kd.R_drew)); exact Kd.R_mono HO333.out (fun _ hk => ⟨hk.2, hk.1⟩)), BK325.out, BK326.out, BK327.out, BK337.out, GW337.out, GE337.out, NB325_337.out, NB337_325.out, NB326_337.out, NB337_326.out, NB327_337.out, NB337_327.out, HB.out⟩)
        · skip
         rintro ⟨v329, gb337⟩ w15 ⟨hS_, h0_, h1_, h2_, h3_, h4_, h5_, h6_, h7_, h8_, h9_, h10_, h11_, h12_, h13_⟩
         have n0_ : Aside0 (Kd.R k37 37 w15 w.heap.size (fun k_ => k_ ≠ gb326) v329 t328) := ⟨h0_⟩
         have n1_ : Aside0 (w15.heap[gb325]? = some (.cells #[.int .i64 a0_0, .int .i64 a0_1, .slice A0_2 l0_2.length c0_2] 33 (0, 0))) := ⟨h1_⟩
         have n2_ : Aside0 (w15.heap[gb326]? = some (.cells #[.int .i64 a1_0, .int .i64 a1_1, .int .i64 a1_2] 37 (0, 0))) := ⟨h2_⟩
         have n3_ : Aside0 (w15.heap[gb327]? = some (.cells #[.int .i64 0, .int .i64 0, .slice none 0 0] 33 (0, 0))) := ⟨h3_⟩
         have n4_ : Aside0 (w15.heap[gb337]? = some (.cells #[.int .i64 0, .int .i64 0, .slice none 0 0] 33 (0, 0))) := ⟨h4_⟩
         have n5_ : Aside0 (w.heap.size ≤ gb337) := ⟨h5_⟩
         have n6_ : Aside0 (w.heap.size ≤ gb337) := ⟨h6_⟩
         have n7_ : Aside0 (gb325 ≠ gb337) := ⟨h7_⟩
         have n8_ : Aside0 (gb337 ≠ gb325) := ⟨h8_⟩
         have n9_ : Aside0 (gb326 ≠ gb337) := ⟨h9_⟩
         have n10_ : Aside0 (gb337 ≠ gb326) := ⟨h10_⟩
         have n11_ : Aside0 (gb327 ≠ gb337) := ⟨h11_⟩
         have n12_ : Aside0 (gb337 ≠ gb327) := ⟨h12_⟩
         have n13_ : Aside0 (Below w.heap.size w w15) := ⟨h13_⟩
         clear BK325 BK326 BK327 HB h0_ h1_ h2_ h3_ h4_ h5_ h6_ h7_ h8_ h9_ h10_ h11_ h12_ h13_
         have HO330 := n0_
         have BK325 := n1_
         have BK326 := n2_
         have BK327 := n3_
         have BK337 := n4_
         have GW337 := n5_
         have GE337 := n6_
         have NB325_337 := n7_
         have NB337_325 := n8_
         have NB326_337 := n9_
         have NB337_326 := n10_
         have NB327_337 := n11_
         have NB337_327 := n12_
         have HB := n13_
         clear n0_ n1_ n2_ n3_ n4_ n5_ n6_ n7_ n8_ n9_ n10_ n11_ n12_ n13_
         have hHeld : w15.cell? ⟨gb325, 0, none⟩ = some (.int .i64 a0_0) ∧ w15.cell? ⟨gb325, 1, none⟩ = some (.int .i64 a0_1) ∧ w15.cell? ⟨gb325, 2, none⟩ = some (.slice A0_2 l0_2.length c0_2) ∧ w15.cell? ⟨gb326, 0, none⟩ = some (.int .i64 a1_0) ∧ w15.cell? ⟨gb326, 1, none⟩ = some (.int .i64 a1_1) ∧ w15.cell? ⟨gb326, 2, none⟩ = some (.int .i64 a1_2) := hS_
         refine norm_ (a' := ?_) ?_ ?_
         rotate_left
         · simp only [putAll, Act.put, List.setIfInBounds_toArray, List.set_cons_zero, List.set_cons_succ]
          rfl
         refine one_ (i := 6) (N := some 13) #[true, true, true, true, true, true, true, false, false, true, false] rfl rfl (one_of HT_.out (by kernel_rfl)) (by decide) (fun K hK => ?_)
         refine Kd.R_lit_step k37 _ 37 ?hg (N := 13) ?hd (xs := ([(⟨a1_0, a1_1, a1_2⟩ : S37)] : List (S37))) (inner := [.int .i64 a1_0, .int .i64 a1_1, .int .i64 a1_2]) (ok := fun _ => True) (okp := fun _ => True) ?hr ?hp (fun _ hk => hk) trivial (Below.refl _ _) (Nat.le_refl _) (by simp) ?_; (case hd => rfl); (case hg => rfl); (case hr => first | (go_simp; done) | (go_simp; rfl)); (case hp => exact (Reps.c3 (show Kd.M k37 _ _ _ (⟨a1_0, a1_1, a1_2⟩ : S37) [.int .i64 a1_0, .int .i64 a1_1, .int .i64 a1_2] from (k37_mkM _ _ _ (⟨a1_0, a1_1, a1_2⟩ : S37) )) (Reps.none _ _)))
         intro v332 w16 ho17 hb hg_ hnew_
         clear hg_ hnew_
         (first | rw [← Ny331.out] at ho17 | (simp only [Int.reduceToNat] at ho17; rw [← Ny331.out] at ho17))
         have n0_ := amk (Kd.R_elder' HO330.out (Kd.R_base ho17) hb)
         have n1_ := amk (Kd.R_lower (Kd.R_newB (Kd.R_new' ho17 (Kd.R_lt HO330.out)) (g := gb326) (o := .cells #[.int .i64 a1_0, .int .i64 a1_1, .int .i64 a1_2] 37 (0, 0)) BK326.out) (below_size HB.out))
         have n2_ := amk (blk_below BK325.out hb)
         have n3_ := amk (blk_below BK326.out hb)
         have n4_ := amk (blk_below BK327.out hb)
         have n5_ := amk (blk_below BK337.out hb)
         have n6_ := amk (bp_ HB.out hb)
         clear HO330 BK325 BK326 BK327 BK337 HB
         have HO330 := n0_
         have HO333 := n1_
         have BK325 := n2_
         have BK326 := n3_
         have BK327 := n4_
         have BK337 := n5_
         have HB := n6_
         clear n0_ n1_ n2_ n3_ n4_ n5_ n6_ hb ho17
         refine hK.out _ _ ⟨(blk_cell BK325.out 0).trans rfl, (blk_cell BK325.out 1).trans rfl, (blk_cell BK325.out 2).trans rfl, (blk_cell BK326.out 0).trans rfl, (blk_cell BK326.out 1).trans rfl, (blk_cell BK326.out 2).trans rfl⟩ (fun hHeld => ?_)
         clear hK K
         refine norm_ (a' := ?_) ?_ ?_
         rotate_left
         · show Act.put _ (some 13) _ = _
          simp only [Act.put, List.setIfInBounds_toArray, List.set_cons_zero, List.set_cons_succ, i64_w, i32_w]
          rfl
         exact norm_ (by first | (simp only [putAll, Act.put, List.setIfInBounds_toArray, List.set_cons_zero, List.set_cons_succ]; done) | (simp only [putAll, Act.put, List.setIfInBounds_toArray, List.set_cons_zero, List.set_cons_succ]; rfl)) (hJ4_6_9 (v329, v332, gb337) _ ⟨hHeld, (by (with_reducible repeat (first | apply Kd.R_alloc | apply Kd.R_drewN | apply Kd.R_drew)); exact Kd.R_mono HO330.out (fun _ hk => ⟨hk.2, hk.1⟩)), (by (with_reducible repeat (first | apply Kd.R_alloc | apply Kd.R_drewN | apply Kd.R_drew)); exact Kd.R_mono HO333.out (fun _ hk => ⟨hk.1.2, hk.2⟩)), BK325.out, BK326.out, BK327.out, BK337.out, GW337.out, GE337.out, NB325_337.out, NB337_325.out, NB326_337.out, NB337_326.out, NB327_337.out, NB337_327.out, HB.out⟩)
       · skip
        rintro ⟨v329, v332⟩ w16 ⟨hS_, h0_, h1_, h2_, h3_, h4_, h5_⟩
        have n0_ : Aside0 (Kd.R k37 37 w16 w.heap.size (fun k_ => some k_ ≠ (v332 : Value).ownBlock ∧ k_ ≠ gb326) v329 t328) := ⟨h0_⟩
        have n1_ : Aside0 (Kd.R k37 37 w16 w.heap.size (fun k_ => some k_ ≠ (v329 : Value).ownBlock ∧ k_ ≠ gb326) v332 y331) := ⟨h1_⟩
        have n2_ : Aside0 (w16.heap[gb325]? = some (.cells #[.int .i64 a0_0, .int .i64 a0_1, .slice A0_2 l0_2.length c0_2] 33 (0, 0))) := ⟨h2_⟩
        have n3_ : Aside0 (w16.heap[gb326]? = some (.cells #[.int .i64 a1_0, .int .i64 a1_1, .int .i64 a1_2] 37 (0, 0))) := ⟨h3_⟩
        have n4_ : Aside0 (w16.heap[gb327]? = some (.cells #[.int .i64 0, .int .i64 0, .slice none 0 0] 33 (0, 0))) := ⟨h4_⟩
        have n5_ : Aside0 (Below w.heap.size w w16) := ⟨h5_⟩
        clear BK325 BK326 BK327 HB h0_ h1_ h2_ h3_ h4_ h5_
        have HO330 := n0_
        have HO333 := n1_
        have BK325 := n2_
        have BK326 := n3_
        have BK327 := n4_
        have HB := n5_
        clear n0_ n1_ n2_ n3_ n4_ n5_
        have hHeld : w16.cell? ⟨gb325, 0, none⟩ = some (.int .i64 a0_0) ∧ w16.cell? ⟨gb325, 1, none⟩ = some (.int .i64 a0_1) ∧ w16.cell? ⟨gb325, 2, none⟩ = some (.slice A0_2 l0_2.length c0_2) ∧ w16.cell? ⟨gb326, 0, none⟩ = some (.int .i64 a1_0) ∧ w16.cell? ⟨gb326, 1, none⟩ = some (.int .i64 a1_1) ∧ w16.cell? ⟨gb326, 2, none⟩ = some (.int .i64 a1_2) := hS_
        obtain ⟨Ao18, co18, eo18⟩ := Kd.R_slice HO333.out
        (first | subst eo18 | (injection eo18 with f1_ f2_ f3_; have f4_ := f1_.symm; have f5_ := f3_.symm; clear f1_ f2_ f3_; subst f4_; subst f5_))
        refine norm_ (a' := ?_) ?_ ?_
        rotate_left
        · simp only [putAll, Act.put, List.setIfInBounds_toArray, List.set_cons_zero, List.set_cons_succ]
         rfl
        refine two_ (i := 7) (j := 9) (Ni := some 14) (Nj := some 6) #[true, true, true, true, true, true, true, true, false, false, false] #[true, true, true, true, true, true, true, false, false, true, false] rfl rfl rfl rfl (two_of HT_.out (by kernel_rfl)) (by decide) (by decide) (fun K hK => ?_) (fun K hK => ?_)
        · skip
         refine Kd.R_append_rows_step k37 (w0 := w) w.heap.size (by rfl) (.tmp 11) (.tmp 13) 31 37 (.agg #[(.int .i64 0), (.int .i64 0), (.int .i64 0)]) 24 rfl Try.underlying31 info37 rfl (by decide) (by omega) v329 t328 y331 _ _ _ (fun k_ => some k_ ≠ (.slice Ao18 y331.length co18 : Value).ownBlock ∧ k_ ≠ gb326) (fun _ => False) rfl rfl ?aO ?aR (fun _ _ h => h) (fun _ h => h.elim) ?aF ?aB ?aS ?aL ?_
         (case aR => repeat (first | exact (Kd.R_reads' HO333.out).2.2 | (with_reducible refine Kd.C_alloc ?_ _) | (with_reducible refine Kd.C_drewN ?_ _) | (with_reducible refine Kd.C_drew ?_)))
         (case aB => exact HB.out)
         (case aF => exact (fun k_ hk => ⟨Kd.fresh' (Kd.R_lt HO333.out) k_ hk, Kd.freshB (g := gb326) (o := .cells #[.int .i64 a1_0, .int .i64 a1_1, .int .i64 a1_2] 37 (0, 0)) BK326.out k_ hk⟩))
         (case aO => exact HO330.out)
         (case aS => exact (below_size HB.out))
         (case aL => have := LMc4.out; omega)
         intro v335 w17 ho hb hg hat
         rw [← Ny334.out] at ho
         have n0_ := amk (blk_grown BK325.out hg (Kd.R_ne HO330.out BK325.out (by decide)))
         have n1_ := amk (blk_grown BK326.out hg (Kd.R_away HO330.out (fun _ hk => hk.2)))
         have n2_ := amk (blk_grown BK327.out hg (Kd.R_ne HO330.out BK327.out (by decide)))
         have n3_ := amk (Kd.R_after (ok := (fun k_ => k_ ≠ gb326)) (by (with_reducible repeat (first | apply Kd.R_alloc | apply Kd.R_drewN | apply Kd.R_drew)); exact Kd.R_mono HO333.out (fun _ hk => ⟨hk.2, hk.1⟩)) hg hat)
         have n4_ := amk (hb)
         have n5_ := amk (ho)
         clear BK325 BK326 BK327 HO333 HB HO330
         have BK325 := n0_
         have BK326 := n1_
         have BK327 := n2_
         have HO333 := n3_
         have HB := n4_
         have HO336 := n5_
         clear n0_ n1_ n2_ n3_ n4_ n5_ ho hb hg hat
         obtain ⟨Ao19, co19, eo19⟩ := Kd.R_slice HO336.out
         (first | subst eo19 | (injection eo19 with f1_ f2_ f3_; have f4_ := f1_.symm; have f5_ := f3_.symm; clear f1_ f2_ f3_; subst f4_; subst f5_))
         refine hK.out _ _ ⟨(blk_cell BK325.out 0).trans rfl, (blk_cell BK325.out 1).trans rfl, (blk_cell BK325.out 2).trans rfl, (blk_cell BK326.out 0).trans rfl, (blk_cell BK326.out 1).trans rfl, (blk_cell BK326.out 2).trans rfl⟩ (fun hHeld => ?_)
         clear hK K
         refine norm_ (a' := ?_) ?_ ?_
         rotate_left
         · show Act.put _ (some 14) _ = _
          simp only [Act.put, List.setIfInBounds_toArray, List.set_cons_zero, List.set_cons_succ, i64_w, i32_w]
          rfl
         refine pure_ (i := 8) (N := some 15) (v := ?_) (a' := ?_) #[true, true, true, true, true, true, true, true, true, false, false] rfl rfl (any_of HT_.out (by kernel_rfl)) (fun _ _ _ h => h) (Or.inl ⟨by rfl, ?_⟩) ?_ ?_
         rotate_left
         · intro w'
          go_simp
          with_reducible rfl
         rotate_left
         · simp only [Act.put, List.setIfInBounds_toArray, List.set_cons_zero, List.set_cons_succ, i64_w, i32_w]
          rfl
         exact norm_ (by first | (simp only [putAll, Act.put, List.setIfInBounds_toArray, List.set_cons_zero, List.set_cons_succ]; done) | (simp only [putAll, Act.put, List.setIfInBounds_toArray, List.set_cons_zero, List.set_cons_succ]; rfl)) (hJ4_6_7 (v329, .slice Ao18 y331.length co18, .slice Ao19 y334.length co19) _ ⟨hHeld, (by (with_reducible repeat (first | apply Kd.R_alloc | apply Kd.R_drewN | apply Kd.R_drew)); exact Kd.R_mono HO333.out (fun _ hk => ⟨hk.2, hk.1⟩)), HO336.out, BK325.out, BK326.out, BK327.out, HB.out⟩)
        · skip
         refine box_step ?hg (N := 6) ?hd (cs := #[.int .i64 0, .int .i64 0, .slice none 0 0]) (t := 33) ?hr ?_; (case hd => rfl); (case hg => rfl); (case hr => first | (go_simp; done) | (go_simp; rfl))
         intro gb337 hg w17 hbox hb
         have n0_ := amk (Kd.R_below HO330.out hb)
         have n1_ := amk (Kd.R_below HO333.out hb)
         have n2_ := amk (blk_below BK325.out hb)
         have n3_ := amk (blk_below BK326.out hb)
         have n4_ := amk (blk_below BK327.out hb)
         have n5_ := amk (bp_ HB.out hb)
         have n6_ := amk (hbox)
         have n7_ := amk ((by rw [hg]; exact (below_size HB.out) : w.heap.size ≤ gb337))
         have n8_ := amk ((by rw [hg]; exact (below_size HB.out) : w.heap.size ≤ gb337))
         have n9_ := amk ((by rw [hg]; exact Nat.ne_of_lt (blk_lt BK325.out) : gb325 ≠ gb337))
         have n10_ := amk ((by rw [hg]; exact Nat.ne_of_gt (blk_lt BK325.out) : gb337 ≠ gb325))
         have n11_ := amk ((by rw [hg]; exact Nat.ne_of_lt (blk_lt BK326.out) : gb326 ≠ gb337))
         have n12_ := amk ((by rw [hg]; exact Nat.ne_of_gt (blk_lt BK326.out) : gb337 ≠ gb326))
         have n13_ := amk ((by rw [hg]; exact Nat.ne_of_lt (blk_lt BK327.out) : gb327 ≠ gb337))
         have n14_ := amk ((by rw [hg]; exact Nat.ne_of_gt (blk_lt BK327.out) : gb337 ≠ gb327))
         clear HO330 HO333 BK325 BK326 BK327 HB
         have HO330 := n0_
         have HO333 := n1_
         have BK325 := n2_
         have BK326 := n3_
         have BK327 := n4_
         have HB := n5_
         have BK337 := n6_
         have GW337 := n7_
         have GE337 := n8_
         have NB325_337 := n9_
         have NB337_325 := n10_
         have NB326_337 := n11_
         have NB337_326 := n12_
         have NB327_337 := n13_
         have NB337_327 := n14_
         clear n0_ n1_ n2_ n3_ n4_ n5_ n6_ n7_ n8_ n9_ n10_ n11_ n12_ n13_ n14_ hb hbox hg
         refine hK.out _ _ ⟨(blk_cell BK325.out 0).trans rfl, (blk_cell BK325.out 1).trans rfl, (blk_cell BK325.out 2).trans rfl, (blk_cell BK326.out 0).trans rfl, (blk_cell BK326.out 1).trans rfl, (blk_cell BK326.out 2).trans rfl⟩ (fun hHeld => ?_)
         clear hK K
         refine norm_ (a' := ?_) ?_ ?_
         rotate_left
         · show Act.put _ (some 6) _ = _
          simp only [Act.put, List.setIfInBounds_toArray, List.set_cons_zero, List.set_cons_succ, i64_w, i32_w]
          rfl
         exact norm_ (by first | (simp only [putAll, Act.put, List.setIfInBounds_toArray, List.set_cons_zero, List.set_cons_succ]; done) | (simp only [putAll, Act.put, List.setIfInBounds_toArray, List.set_cons_zero, List.set_cons_succ]; rfl)) (hJ4_6_9 (v329, .slice Ao18 y331.length co18, gb337) _ ⟨hHeld, HO330.out, HO333.out, BK325.out, BK326.out, BK327.out, BK337.out, GW337.out, GE337.out, NB325_337.out, NB337_325.out, NB326_337.out, NB337_326.out, NB327_337.out, NB337_327.out, HB.out⟩)
      · skip
       rintro ⟨v329, v332, gb337⟩ w17 ⟨hS_, h0_, h1_, h2_, h3_, h4_, h5_, h6_, h7_, h8_, h9_, h10_, h11_, h12_, h13_, h14_⟩
       have n0_ : Aside0 (Kd.R k37 37 w17 w.heap.size (fun k_ => some k_ ≠ (v332 : Value).ownBlock ∧ k_ ≠ gb326) v329 t328) := ⟨h0_⟩
       have n1_ : Aside0 (Kd.R k37 37 w17 w.heap.size (fun k_ => some k_ ≠ (v329 : Value).ownBlock ∧ k_ ≠ gb326) v332 y331) := ⟨h1_⟩
       have n2_ : Aside0 (w17.heap[gb325]? = some (.cells #[.int .i64 a0_0, .int .i64 a0_1, .slice A0_2 l0_2.length c0_2] 33 (0, 0))) := ⟨h2_⟩
       have n3_ : Aside0 (w17.heap[gb326]? = some (.cells #[.int .i64 a1_0, .int .i64 a1_1, .int .i64 a1_2] 37 (0, 0))) := ⟨h3_⟩
       have n4_ : Aside0 (w17.heap[gb327]? = some (.cells #[.int .i64 0, .int .i64 0, .slice none 0 0] 33 (0, 0))) := ⟨h4_⟩
       have n5_ : Aside0 (w17.heap[gb337]? = some (.cells #[.int .i64 0, .int .i64 0, .slice none 0 0] 33 (0, 0))) := ⟨h5_⟩
       have n6_ : Aside0 (w.heap.size ≤ gb337) := ⟨h6_⟩
       have n7_ : Aside0 (w.heap.size ≤ gb337) := ⟨h7_⟩
       have n8_ : Aside0 (gb325 ≠ gb337) := ⟨h8_⟩
       have n9_ : Aside0 (gb337 ≠ gb325) := ⟨h9_⟩
       have n10_ : Aside0 (gb326 ≠ gb337) := ⟨h10_⟩
       have n11_ : Aside0 (gb337 ≠ gb326) := ⟨h11_⟩
       have n12_ : Aside0 (gb327 ≠ gb337) := ⟨h12_⟩
       have n13_ : Aside0 (gb337 ≠ gb327) := ⟨h13_⟩
       have n14_ : Aside0 (Below w.heap.size w w17) := ⟨h14_⟩
       clear BK325 BK326 BK327 HB h0_ h1_ h2_ h3_ h4_ h5_ h6_ h7_ h8_ h9_ h10_ h11_ h12_ h13_ h14_
       have HO330 := n0_
       have HO333 := n1_
       have BK325 := n2_
       have BK326 := n3_
       have BK327 := n4_
       have BK337 := n5_
       have GW337 := n6_
       have GE337 := n7_
       have NB325_337 := n8_
       have NB337_325 := n9_
       have NB326_337 := n10_
       have NB337_326 := n11_
       have NB327_337 := n12_
       have NB337_327 := n13_
       have HB := n14_
       clear n0_ n1_ n2_ n3_ n4_ n5_ n6_ n7_ n8_ n9_ n10_ n11_ n12_ n13_ n14_
       have hHeld : w17.cell? ⟨gb325, 0, none⟩ = some (.int .i64 a0_0) ∧ w17.cell? ⟨gb325, 1, none⟩ = some (.int .i64 a0_1) ∧ w17.cell? ⟨gb325, 2, none⟩ = some (.slice A0_2 l0_2.length c0_2) ∧ w17.cell? ⟨gb326, 0, none⟩ = some (.int .i64 a1_0) ∧ w17.cell? ⟨gb326, 1, none⟩ = some (.int .i64 a1_1) ∧ w17.cell? ⟨gb326, 2, none⟩ = some (.int .i64 a1_2) := hS_
       obtain ⟨Ao19, co19, eo19⟩ := Kd.R_slice HO333.out
       (first | subst eo19 | (injection eo19 with f1_ f2_ f3_; have f4_ := f1_.symm; have f5_ := f3_.symm; clear f1_ f2_ f3_; subst f4_; subst f5_))
       refine norm_ (a' := ?_) ?_ ?_
       rotate_left
       · simp only [putAll, Act.put, List.setIfInBounds_toArray, List.set_cons_zero, List.set_cons_succ]
        rfl
       refine one_ (i := 7) (N := some 14) #[true, true, true, true, true, true, true, true, false, true, false] rfl rfl (one_of HT_.out (by kernel_rfl)) (by decide) (fun K hK => ?_)
       refine Kd.R_append_rows_step k37 (w0 := w) w.heap.size (by rfl) (.tmp 11) (.tmp 13) 31 37 (.agg #[(.int .i64 0), (.int .i64 0), (.int .i64 0)]) 24 rfl Try.underlying31 info37 rfl (by decide) (by omega) v329 t328 y331 _ _ _ (fun k_ => some k_ ≠ (.slice Ao19 y331.length co19 : Value).ownBlock ∧ k_ ≠ gb326) (fun _ => False) rfl rfl ?aO ?aR (fun _ _ h => h) (fun _ h => h.elim) ?aF ?aB ?aS ?aL ?_
       (case aR => repeat (first | exact (Kd.R_reads' HO333.out).2.2 | (with_reducible refine Kd.C_alloc ?_ _) | (with_reducible refine Kd.C_drewN ?_ _) | (with_reducible refine Kd.C_drew ?_)))
       (case aB => exact HB.out)
       (case aF => exact (fun k_ hk => ⟨Kd.fresh' (Kd.R_lt HO333.out) k_ hk, Kd.freshB (g := gb326) (o := .cells #[.int .i64 a1_0, .int .i64 a1_1, .int .i64 a1_2] 37 (0, 0)) BK326.out k_ hk⟩))
       (case aO => exact HO330.out)
       (case aS => exact (below_size HB.out))
       (case aL => have := LMc4.out; omega)
       intro v335 w18 ho hb hg hat
       rw [← Ny334.out] at ho
       have n0_ := amk (blk_grown BK325.out hg (Kd.R_ne HO330.out BK325.out (by decide)))
       have n1_ := amk (blk_grown BK326.out hg (Kd.R_away HO330.out (fun _ hk => hk.2)))
       have n2_ := amk (blk_grown BK327.out hg (Kd.R_ne HO330.out BK327.out (by decide)))
       have n3_ := amk (Kd.R_after (ok := (fun k_ => k_ ≠ gb326)) (by (with_reducible repeat (first | apply Kd.R_alloc | apply Kd.R_drewN | apply Kd.R_drew)); exact Kd.R_mono HO333.out (fun _ hk => ⟨hk.2, hk.1⟩)) hg hat)
       have n4_ := amk (blk_grown BK337.out hg (Kd.R_ne HO330.out BK337.out (by decide)))
       have n5_ := amk (hb)
       have n6_ := amk (ho)
       clear BK325 BK326 BK327 HO333 BK337 HB HO330
       have BK325 := n0_
       have BK326 := n1_
       have BK327 := n2_
       have HO333 := n3_
       have BK337 := n4_
       have HB := n5_
       have HO336 := n6_
       clear n0_ n1_ n2_ n3_ n4_ n5_ n6_ ho hb hg hat
       obtain ⟨Ao20, co20, eo20⟩ := Kd.R_slice HO336.out
       (first | subst eo20 | (injection eo20 with f1_ f2_ f3_; have f4_ := f1_.symm; have f5_ := f3_.symm; clear f1_ f2_ f3_; subst f4_; subst f5_))
       refine hK.out _ _ ⟨(blk_cell BK325.out 0).trans rfl, (blk_cell BK325.out 1).trans rfl, (blk_cell BK325.out 2).trans rfl, (blk_cell BK326.out 0).trans rfl, (blk_cell BK326.out 1).trans rfl, (blk_cell BK326.out 2).trans rfl⟩ (fun hHeld => ?_)
       clear hK K
       refine norm_ (a' := ?_) ?_ ?_
       rotate_left
       · show Act.put _ (some 14) _ = _
        simp only [Act.put, List.setIfInBounds_toArray, List.set_cons_zero, List.set_cons_succ, i64_w, i32_w]
        rfl
       refine pure_ (i := 8) (N := some 15) (v := ?_) (a' := ?_) #[true, true, true, true, true, true, true, true, true, true, false] rfl rfl (any_of HT_.out (by kernel_rfl)) (fun _ _ _ h => h) (Or.inl ⟨by rfl, ?_⟩) ?_ ?_
       rotate_left
       · intro w'
        go_simp
        with_reducible rfl
       rotate_left
       · simp only [Act.put, List.setIfInBounds_toArray, List.set_cons_zero, List.set_cons_succ, i64_w, i32_w]
        rfl
       exact norm_ (by first | (simp only [putAll, Act.put, List.setIfInBounds_toArray, List.set_cons_zero, List.set_cons_succ]; done) | (simp only [putAll, Act.put, List.setIfInBounds_toArray, List.set_cons_zero, List.set_cons_succ]; rfl)) (hJ4_6_7_9 (v329, .slice Ao19 y331.length co19, .slice Ao20 y334.length co20, gb337) _ ⟨hHeld, (by (with_reducible repeat (first | apply Kd.R_alloc | apply Kd.R_drewN | apply Kd.R_drew)); exact Kd.R_mono HO333.out (fun _ hk => ⟨hk.2, hk.1⟩)), HO336.out, BK325.out, BK326.out, BK327.out, BK337.out, GW337.out, GE337.out, NB325_337.out, NB337_325.out, NB326_337.out, NB337_326.out, NB327_337.out, NB337_327.out, HB.out⟩)
     · skip
      rintro ⟨v329, v332, v335⟩ w19 ⟨hS_, h0_, h1_, h2_, h3_, h4_, h5_⟩
      have n0_ : Aside0 (Kd.R k37 37 w19 w.heap.size (fun k_ => some k_ ≠ (v335 : Value).ownBlock ∧ k_ ≠ gb326) v332 y331) := ⟨h0_⟩
      have n1_ : Aside0 (Kd.R k37 37 w19 w.heap.size (fun k_ => some k_ ≠ (v332 : Value).ownBlock ∧ k_ ≠ gb326) v335 y334) := ⟨h1_⟩
      have n2_ : Aside0 (w19.heap[gb325]? = some (.cells #[.int .i64 a0_0, .int .i64 a0_1, .slice A0_2 l0_2.length c0_2] 33 (0, 0))) := ⟨h2_⟩
      have n3_ : Aside0 (w19.heap[gb326]? = some (.cells #[.int .i64 a1_0, .int .i64 a1_1, .int .i64 a1_2] 37 (0, 0))) := ⟨h3_⟩
      have n4_ : Aside0 (w19.heap[gb327]? = some (.cells #[.int .i64 0, .int .i64 0, .slice none 0 0] 33 (0, 0))) := ⟨h4_⟩
      have n5_ : Aside0 (Below w.heap.size w w19) := ⟨h5_⟩
      clear BK325 BK326 BK327 HB h0_ h1_ h2_ h3_ h4_ h5_
      have HO333 := n0_
      have HO336 := n1_
      have BK325 := n2_
      have BK326 := n3_
      have BK327 := n4_
      have HB := n5_
      clear n0_ n1_ n2_ n3_ n4_ n5_
      have hHeld : w19.cell? ⟨gb325, 0, none⟩ = some (.int .i64 a0_0) ∧ w19.cell? ⟨gb325, 1, none⟩ = some (.int .i64 a0_1) ∧ w19.cell? ⟨gb325, 2, none⟩ = some (.slice A0_2 l0_2.length c0_2) ∧ w19.cell? ⟨gb326, 0, none⟩ = some (.int .i64 a1_0) ∧ w19.cell? ⟨gb326, 1, none⟩ = some (.int .i64 a1_1) ∧ w19.cell? ⟨gb326, 2, none⟩ = some (.int .i64 a1_2) := hS_
      obtain ⟨Ao20, co20, eo20⟩ := Kd.R_slice HO336.out
      (first | subst eo20 | (injection eo20 with f1_ f2_ f3_; have f4_ := f1_.symm; have f5_ := f3_.symm; clear f1_ f2_ f3_; subst f4_; subst f5_))
      refine norm_ (a' := ?_) ?_ ?_
      rotate_left
      · simp only [putAll, Act.put, List.setIfInBounds_toArray, List.set_cons_zero, List.set_cons_succ]
       rfl
      refine one_ (i := 9) (N := some 6) #[true, true, true, true, true, true, true, true, true, true, false] rfl rfl (one_of HT_.out (by kernel_rfl)) (by decide) (fun K hK => ?_)
      refine box_step ?hg (N := 6) ?hd (cs := #[.int .i64 0, .int .i64 0, .slice none 0 0]) (t := 33) ?hr ?_; (case hd => rfl); (case hg => rfl); (case hr => first | (go_simp; done) | (go_simp; rfl))
      intro gb337 hg w21 hbox hb
      have n0_ := amk (Kd.R_below HO333.out hb)
      have n1_ := amk (Kd.R_below HO336.out hb)
      have n2_ := amk (blk_below BK325.out hb)
      have n3_ := amk (blk_below BK326.out hb)
      have n4_ := amk (blk_below BK327.out hb)
      have n5_ := amk (bp_ HB.out hb)
      have n6_ := amk (hbox)
      have n7_ := amk ((by rw [hg]; exact (below_size HB.out) : w.heap.size ≤ gb337))
      have n8_ := amk ((by rw [hg]; exact (below_size HB.out) : w.heap.size ≤ gb337))
      have n9_ := amk ((by rw [hg]; exact Nat.ne_of_lt (blk_lt BK325.out) : gb325 ≠ gb337))
      have n10_ := amk ((by rw [hg]; exact Nat.ne_of_gt (blk_lt BK325.out) : gb337 ≠ gb325))
      have n11_ := amk ((by rw [hg]; exact Nat.ne_of_lt (blk_lt BK326.out) : gb326 ≠ gb337))
      have n12_ := amk ((by rw [hg]; exact Nat.ne_of_gt (blk_lt BK326.out) : gb337 ≠ gb326))
      have n13_ := amk ((by rw [hg]; exact Nat.ne_of_lt (blk_lt BK327.out) : gb327 ≠ gb337))
      have n14_ := amk ((by rw [hg]; exact Nat.ne_of_gt (blk_lt BK327.out) : gb337 ≠ gb327))
      clear HO333 HO336 BK325 BK326 BK327 HB
      have HO333 := n0_
      have HO336 := n1_
      have BK325 := n2_
      have BK326 := n3_
      have BK327 := n4_
      have HB := n5_
      have BK337 := n6_
      have GW337 := n7_
      have GE337 := n8_
      have NB325_337 := n9_
      have NB337_325 := n10_
      have NB326_337 := n11_
      have NB337_326 := n12_
      have NB327_337 := n13_
      have NB337_327 := n14_
      clear n0_ n1_ n2_ n3_ n4_ n5_ n6_ n7_ n8_ n9_ n10_ n11_ n12_ n13_ n14_ hb hbox hg
      refine hK.out _ _ ⟨(blk_cell BK325.out 0).trans rfl, (blk_cell BK325.out 1).trans rfl, (blk_cell BK325.out 2).trans rfl, (blk_cell BK326.out 0).trans rfl, (blk_cell BK326.out 1).trans rfl, (blk_cell BK326.out 2).trans rfl⟩ (fun hHeld => ?_)
      clear hK K
      refine norm_ (a' := ?_) ?_ ?_
      rotate_left
      · show Act.put _ (some 6) _ = _
       simp only [Act.put, List.setIfInBounds_toArray, List.set_cons_zero, List.set_cons_succ, i64_w, i32_w]
       rfl
      exact norm_ (by first | (simp only [putAll, Act.put, List.setIfInBounds_toArray, List.set_cons_zero, List.set_cons_succ]; done) | (simp only [putAll, Act.put, List.setIfInBounds_toArray, List.set_cons_zero, List.set_cons_succ]; rfl)) (hJ4_6_7_9 (v329, v332, .slice Ao20 y334.length co20, gb337) _ ⟨hHeld, HO333.out, HO336.out, BK325.out, BK326.out, BK327.out, BK337.out, GW337.out, GE337.out, NB325_337.out, NB337_325.out, NB326_337.out, NB337_326.out, NB327_337.out, NB337_327.out, HB.out⟩)
    rintro ⟨v329, v332, v335, gb337⟩ w20 ⟨hS_, h0_, h1_, h2_, h3_, h4_, h5_, h6_, h7_, h8_, h9_, h10_, h11_, h12_, h13_, h14_⟩
    have n0_ : Aside0 (Kd.R k37 37 w20 w.heap.size (fun k_ => some k_ ≠ (v335 : Value).ownBlock ∧ k_ ≠ gb326) v332 y331) := ⟨h0_⟩
    have n1_ : Aside0 (Kd.R k37 37 w20 w.heap.size (fun k_ => some k_ ≠ (v332 : Value).ownBlock ∧ k_ ≠ gb326) v335 y334) := ⟨h1_⟩
    have n2_ : Aside0 (w20.heap[gb325]? = some (.cells #[.int .i64 a0_0, .int .i64 a0_1, .slice A0_2 l0_2.length c0_2] 33 (0, 0))) := ⟨h2_⟩
    have n3_ : Aside0 (w20.heap[gb326]? = some (.cells #[.int .i64 a1_0, .int .i64 a1_1, .int .i64 a1_2] 37 (0, 0))) := ⟨h3_⟩
    have n4_ : Aside0 (w20.heap[gb327]? = some (.cells #[.int .i64 0, .int .i64 0, .slice none 0 0] 33 (0, 0))) := ⟨h4_⟩
    have n5_ : Aside0 (w20.heap[gb337]? = some (.cells #[.int .i64 0, .int .i64 0, .slice none 0 0] 33 (0, 0))) := ⟨h5_⟩
    have n6_ : Aside0 (w.heap.size ≤ gb337) := ⟨h6_⟩
    have n7_ : Aside0 (w.heap.size ≤ gb337) := ⟨h7_⟩
    have n8_ : Aside0 (gb325 ≠ gb337) := ⟨h8_⟩
    have n9_ : Aside0 (gb337 ≠ gb325) := ⟨h9_⟩
    have n10_ : Aside0 (gb326 ≠ gb337) := ⟨h10_⟩
    have n11_ : Aside0 (gb337 ≠ gb326) := ⟨h11_⟩
    have n12_ : Aside0 (gb327 ≠ gb337) := ⟨h12_⟩
    have n13_ : Aside0 (gb337 ≠ gb327) := ⟨h13_⟩
    have n14_ : Aside0 (Below w.heap.size w w20) := ⟨h14_⟩
    clear BK325 BK326 BK327 HB h0_ h1_ h2_ h3_ h4_ h5_ h6_ h7_ h8_ h9_ h10_ h11_ h12_ h13_ h14_
    have HO333 := n0_
    have HO336 := n1_
    have BK325 := n2_
    have BK326 := n3_
    have BK327 := n4_
    have BK337 := n5_
    have GW337 := n6_
    have GE337 := n7_
    have NB325_337 := n8_
    have NB337_325 := n9_
    have NB326_337 := n10_
    have NB337_326 := n11_
    have NB327_337 := n12_
    have NB337_327 := n13_
    have HB := n14_
    clear n0_ n1_ n2_ n3_ n4_ n5_ n6_ n7_ n8_ n9_ n10_ n11_ n12_ n13_ n14_
    have hHeld : w20.cell? ⟨gb325, 0, none⟩ = some (.int .i64 a0_0) ∧ w20.cell? ⟨gb325, 1, none⟩ = some (.int .i64 a0_1) ∧ w20.cell? ⟨gb325, 2, none⟩ = some (.slice A0_2 l0_2.length c0_2) ∧ w20.cell? ⟨gb326, 0, none⟩ = some (.int .i64 a1_0) ∧ w20.cell? ⟨gb326, 1, none⟩ = some (.int .i64 a1_1) ∧ w20.cell? ⟨gb326, 2, none⟩ = some (.int .i64 a1_2) := hS_
    obtain ⟨Ao21, co21, eo21⟩ := Kd.R_slice HO336.out
    (first | subst eo21 | (injection eo21 with f1_ f2_ f3_; have f4_ := f1_.symm; have f5_ := f3_.symm; clear f1_ f2_ f3_; subst f4_; subst f5_))
    refine norm_ (a' := ?_) ?_ ?_
    rotate_left
    · simp only [putAll, Act.put, List.setIfInBounds_toArray, List.set_cons_zero, List.set_cons_succ]
     rfl
    refine one_ (i := 10) (N := none) #[true, true, true, true, true, true, true, true, true, true, true] rfl rfl (one_of HT_.out (by kernel_rfl)) (by decide) (fun K hK => ?_)
    have hs22 : w20.cell? ⟨gb337, 0, none⟩ = some (.int .i64 0) := (blk_cell BK337.out 0).trans rfl
    have hfs22 := blk_frozen BK337.out 0
    have hns22_0 := NB325_337.out
    have hns22_1 := NB326_337.out
    have hns22_2 := NB327_337.out
    have hms22_0 := NB337_325.out
    have hms22_1 := NB337_326.out
    have hms22_2 := NB337_327.out
    have hs23 : w20.cell? ⟨gb337, 1, none⟩ = some (.int .i64 0) := (blk_cell BK337.out 1).trans rfl
    have hfs23 := blk_frozen BK337.out 1
    have hns23_0 := NB325_337.out
    have hns23_1 := NB326_337.out
    have hns23_2 := NB327_337.out
    have hms23_0 := NB337_325.out
    have hms23_1 := NB337_326.out
    have hms23_2 := NB337_327.out
    have hs24 : w20.cell? ⟨gb337, 2, none⟩ = some (.slice none 0 0) := (blk_cell BK337.out 2).trans rfl
    have hfs24 := blk_frozen BK337.out 2
    have hns24_0 := NB325_337.out
    have hns24_1 := NB326_337.out
    have hns24_2 := NB327_337.out
    have hms24_0 := NB337_325.out
    have hms24_1 := NB337_326.out
    have hms24_2 := NB337_327.out
    refine skip_ (w1 := ?_) (by rfl) rfl ?_ ?_
    rotate_left
    · go_simp
     rfl
    refine hK.out _ _ ⟨((cell_far (p := ⟨gb337, _, none⟩) NB325_337.out _).trans (((cell_far (p := ⟨gb337, _, none⟩) NB325_337.out _).trans (((cell_far (p := ⟨gb337, _, none⟩) NB325_337.out _).trans (hHeld.1)))))), ((cell_far (p := ⟨gb337, _, none⟩) NB325_337.out _).trans (((cell_far (p := ⟨gb337, _, none⟩) NB325_337.out _).trans (((cell_far (p := ⟨gb337, _, none⟩) NB325_337.out _).trans (hHeld.2.1)))))), ((cell_far (p := ⟨gb337, _, none⟩) NB325_337.out _).trans (((cell_far (p := ⟨gb337, _, none⟩) NB325_337.out _).trans (((cell_far (p := ⟨gb337, _, none⟩) NB325_337.out _).trans (hHeld.2.2.1)))))), ((cell_far (p := ⟨gb337, _, none⟩) NB326_337.out _).trans (((cell_far (p := ⟨gb337, _, none⟩) NB326_337.out _).trans (((cell_far (p := ⟨gb337, _, none⟩) NB326_337.out _).trans (hHeld.2.2.2.1)))))), ((cell_far (p := ⟨gb337, _, none⟩) NB326_337.out _).trans (((cell_far (p := ⟨gb337, _, none⟩) NB326_337.out _).trans (((cell_far (p := ⟨gb337, _, none⟩) NB326_337.out _).trans (hHeld.2.2.2.2.1)))))), ((cell_far (p := ⟨gb337, _, none⟩) NB326_337.out _).trans (((cell_far (p := ⟨gb337, _, none⟩) NB326_337.out _).trans (((cell_far (p := ⟨gb337, _, none⟩) NB326_337.out _).trans (hHeld.2.2.2.2.2))))))⟩ (fun hHeld => ?_)
    clear hK K
    refine done_ (done_of HT_.out (by kernel_rfl)) ?_
    have hnb25 := NB325_326.out
    have hnc25 := NB326_325.out
    have hnb26 := NB325_327.out
    have hnc26 := NB327_325.out
    have hnb27 := NB325_337.out
    have hnc27 := NB337_325.out
    have hcz28_0 : w20.cell? ⟨gb325, 0, none⟩ = some (.int .i64 a0_0) := (blk_cell BK325.out 0).trans rfl
    have hcz28_1 : w20.cell? ⟨gb325, 1, none⟩ = some (.int .i64 a0_1) := (blk_cell BK325.out 1).trans rfl
    have hcz28_2 : w20.cell? ⟨gb325, 2, none⟩ = some (.slice A0_2 l0_2.length c0_2) := (blk_cell BK325.out 2).trans rfl
    have hfz28_0 := blk_frozen BK325.out 0
    have hfz28_1 := blk_frozen BK325.out 1
    have hfz28_2 := blk_frozen BK325.out 2
    try go_wp2_with (first | ((with_reducible refine gate_callee (f := 24) rfl ?_); refine goesL_ (some 17) rfl rfl Try.func24 (by kernel_rfl) rfl #[.agg #[.int .i64 a0_0, .int .i64 a0_1, .slice A0_2 l0_2.length c0_2]] rfl (by (try simp only [List.map_toArray, List.map_cons, List.map_nil]); first | done | rfl | (simp only [List.length_drop, List.length_take]; rfl)) ?_; (with_reducible refine (impl_IsPuzzle.calls a0_0 a0_1 _ _ l0_2 true _ ?side1 ?side2 A5.out).mono ?_); (case side1 => exact Kd.C_below HR0_2.out (by repeat (first | (with_reducible first | exact HB.out | apply ba_ | apply bn_ | apply bd_ | refine bs_ ?_ GE325.out | refine bs_ ?_ GE326.out | refine bs_ ?_ GE327.out | refine bs_ ?_ GE337.out) | exact HB.out))); (case side2 => exact HC0_2.out); rintro e w29 ⟨rfl, hb⟩; refine ⟨_, rfl, ?_⟩; have n0_ := amk (Kd.R_below (by (with_reducible repeat (first | apply Kd.R_alloc | apply Kd.R_drewN | apply Kd.R_drew)); exact (Kd.R_mono (Kd.R_far (p := ⟨gb337, 2, none⟩) (Kd.R_far (p := ⟨gb337, 1, none⟩) (Kd.R_far (p := ⟨gb337, 0, none⟩) (Kd.R_types HO333.out BK337.out (by decide)) (fun _ hk => hk.2) (.int .i64 a0_0)) (fun _ hk => hk.2) (.int .i64 a0_1)) (fun _ hk => hk.2) (.slice Ao21 y334.length co21)) (fun _ h_ => h_.1))) hb); have n1_ := amk (Kd.R_below (by (with_reducible repeat (first | apply Kd.R_alloc | apply Kd.R_drewN | apply Kd.R_drew)); exact (Kd.R_mono (Kd.R_far (p := ⟨gb337, 2, none⟩) (Kd.R_far (p := ⟨gb337, 1, none⟩) (Kd.R_far (p := ⟨gb337, 0, none⟩) (Kd.R_types HO336.out BK337.out (by decide)) (fun _ hk => hk.2) (.int .i64 a0_0)) (fun _ hk => hk.2) (.int .i64 a0_1)) (fun _ hk => hk.2) (.slice Ao21 y334.length co21)) (fun _ h_ => h_.1))) hb); have n2_ := amk (blk_below (g := gb325) (o := .cells #[.int .i64 a0_0, .int .i64 a0_1, .slice A0_2 l0_2.length c0_2] 33 (0, 0)) (by (with_reducible repeat (first | refine kn_ ?_ _ | refine blk_drew ?_ | refine ka_ ?_ _)); refine blk_far ?_ NB325_337.out _; (with_reducible repeat (first | refine kn_ ?_ _ | refine blk_drew ?_ | refine ka_ ?_ _)); refine blk_far ?_ NB325_337.out _; (with_reducible repeat (first | refine kn_ ?_ _ | refine blk_drew ?_ | refine ka_ ?_ _)); refine blk_far ?_ NB325_337.out _; (with_reducible repeat (first | refine kn_ ?_ _ | refine blk_drew ?_ | refine ka_ ?_ _)); exact BK325.out) hb); have n3_ := amk (blk_below (g := gb326) (o := .cells #[.int .i64 a1_0, .int .i64 a1_1, .int .i64 a1_2] 37 (0, 0)) (by (with_reducible repeat (first | refine kn_ ?_ _ | refine blk_drew ?_ | refine ka_ ?_ _)); refine blk_far ?_ NB326_337.out _; (with_reducible repeat (first | refine kn_ ?_ _ | refine blk_drew ?_ | refine ka_ ?_ _)); refine blk_far ?_ NB326_337.out _; (with_reducible repeat (first | refine kn_ ?_ _ | refine blk_drew ?_ | refine ka_ ?_ _)); refine blk_far ?_ NB326_337.out _; (with_reducible repeat (first | refine kn_ ?_ _ | refine blk_drew ?_ | refine ka_ ?_ _)); exact BK326.out) hb); have n4_ := amk (blk_below (g := gb327) (o := .cells #[.int .i64 0, .int .i64 0, .slice none 0 0] 33 (0, 0)) (by (with_reducible repeat (first | refine kn_ ?_ _ | refine blk_drew ?_ | refine ka_ ?_ _)); refine blk_far ?_ NB327_337.out _; (with_reducible repeat (first | refine kn_ ?_ _ | refine blk_drew ?_ | refine ka_ ?_ _)); refine blk_far ?_ NB327_337.out _; (with_reducible repeat (first | refine kn_ ?_ _ | refine blk_drew ?_ | refine ka_ ?_ _)); refine blk_far ?_ NB327_337.out _; (with_reducible repeat (first | refine kn_ ?_ _ | refine blk_drew ?_ | refine ka_ ?_ _)); exact BK327.out) hb); have n5_ := amk (blk_below (g := gb337) (o := .cells #[.int .i64 a0_0, .int .i64 a0_1, .slice Ao21 y334.length co21] 33 (0, 0)) (by (with_reducible repeat (first | refine kn_ ?_ _ | refine blk_drew ?_ | refine ka_ ?_ _)); refine blk_put (cs := #[.int .i64 a0_0, .int .i64 a0_1, .slice none 0 0]) ?_ 2 _ rfl; (with_reducible repeat (first | refine kn_ ?_ _ | refine blk_drew ?_ | refine ka_ ?_ _)); refine blk_put (cs := #[.int .i64 a0_0, .int .i64 0, .slice none 0 0]) ?_ 1 _ rfl; (with_reducible repeat (first | refine kn_ ?_ _ | refine blk_drew ?_ | refine ka_ ?_ _)); refine blk_put (cs := #[.int .i64 0, .int .i64 0, .slice none 0 0]) ?_ 0 _ rfl; (with_reducible repeat (first | refine kn_ ?_ _ | refine blk_drew ?_ | refine ka_ ?_ _)); exact BK337.out) hb); have n6_ := amk (bp_ (by repeat (first | (with_reducible first | exact HB.out | apply ba_ | apply bn_ | apply bd_ | refine bs_ ?_ GE325.out | refine bs_ ?_ GE326.out | refine bs_ ?_ GE327.out | refine bs_ ?_ GE337.out) | exact HB.out)) hb); clear HO333; clear HO336; clear BK325; clear BK326; clear BK327; clear BK337; clear HB; have HO333 := n0_; have HO336 := n1_; have BK325 := n2_; have BK326 := n3_; have BK327 := n4_; have BK337 := n5_; have HB := n6_; clear n0_ n1_ n2_ n3_ n4_ n5_ n6_; (try clear hb); (try clear hb2); (try clear hk); (try clear hi); have hnb30 := NB337_326.out; have hnc30 := NB326_337.out; have hnb31 := NB337_327.out; have hnc31 := NB327_337.out; have hcz32_0 : w29.cell? ⟨gb337, 0, none⟩ = some (.int .i64 a0_0) := (blk_cell BK337.out 0).trans rfl; have hcz32_1 : w29.cell? ⟨gb337, 1, none⟩ = some (.int .i64 a0_1) := (blk_cell BK337.out 1).trans rfl; have hcz32_2 : w29.cell? ⟨gb337, 2, none⟩ = some (.slice Ao21 y334.length co21) := (blk_cell BK337.out 2).trans rfl; have hfz32_0 := blk_frozen BK337.out 0; have hfz32_1 := blk_frozen BK337.out 1; have hfz32_2 := blk_frozen BK337.out 2) | (go_at_call 24; (with_reducible refine (impl_IsPuzzle.calls a0_0 a0_1 _ _ y334 true _ ?side1 ?side2 A7.out).mono ?_); (case side1 => repeat (first | exact (Kd.R_reads' HO336.out).2.2 | (with_reducible refine Kd.C_alloc ?_ _) | (with_reducible refine Kd.C_drewN ?_ _) | (with_reducible refine Kd.C_drew ?_))); (case side2 => exact (Kd.R_reads' HO336.out).2.1); rintro e w33 ⟨rfl, hb⟩; have n0_ := amk (Kd.R_below (by (with_reducible repeat (first | apply Kd.R_alloc | apply Kd.R_drewN | apply Kd.R_drew)); exact HO333.out) hb); have n1_ := amk (Kd.R_below (by (with_reducible repeat (first | apply Kd.R_alloc | apply Kd.R_drewN | apply Kd.R_drew)); exact HO336.out) hb); have n2_ := amk (blk_below (g := gb325) (o := .cells #[.int .i64 a0_0, .int .i64 a0_1, .slice A0_2 l0_2.length c0_2] 33 (0, 0)) (by (with_reducible repeat (first | refine kn_ ?_ _ | refine blk_drew ?_ | refine ka_ ?_ _)); exact BK325.out) hb); have n3_ := amk (blk_below (g := gb326) (o := .cells #[.int .i64 a1_0, .int .i64 a1_1, .int .i64 a1_2] 37 (0, 0)) (by (with_reducible repeat (first | refine kn_ ?_ _ | refine blk_drew ?_ | refine ka_ ?_ _)); exact BK326.out) hb); have n4_ := amk (blk_below (g := gb327) (o := .cells #[.int .i64 0, .int .i64 0, .slice none 0 0] 33 (0, 0)) (by (with_reducible repeat (first | refine kn_ ?_ _ | refine blk_drew ?_ | refine ka_ ?_ _)); exact BK327.out) hb); have n5_ := amk (blk_below (g := gb337) (o := .cells #[.int .i64 a0_0, .int .i64 a0_1, .slice Ao21 y334.length co21] 33 (0, 0)) (by (with_reducible repeat (first | refine kn_ ?_ _ | refine blk_drew ?_ | refine ka_ ?_ _)); exact BK337.out) hb); have n6_ := amk (bp_ (by repeat (first | (with_reducible first | exact HB.out | apply ba_ | apply bn_ | apply bd_ | refine bs_ ?_ GE325.out | refine bs_ ?_ GE326.out | refine bs_ ?_ GE327.out | refine bs_ ?_ GE337.out) | exact HB.out)) hb); clear HO333; clear HO336; clear BK325; clear BK326; clear BK327; clear BK337; clear HB; have HO333 := n0_; have HO336 := n1_; have BK325 := n2_; have BK326 := n3_; have BK327 := n4_; have BK337 := n5_; have HB := n6_; clear n0_ n1_ n2_ n3_ n4_ n5_ n6_; (try clear hb); (try clear hb2); (try clear hk); (try clear hi); have hcz34_0 : w33.cell? ⟨gb337, 0, none⟩ = some (.int .i64 a0_0) := (blk_cell BK337.out 0).trans rfl; have hcz34_1 : w33.cell? ⟨gb337, 1, none⟩ = some (.int .i64 a0_1) := (blk_cell BK337.out 1).trans rfl; have hcz34_2 : w33.cell? ⟨gb337, 2, none⟩ = some (.slice Ao21 y334.length co21) := (blk_cell BK337.out 2).trans rfl; have hfz34_0 := blk_frozen BK337.out 0; have hfz34_1 := blk_frozen BK337.out 1; have hfz34_2 := blk_frozen BK337.out 2; have hnb35 := NB327_326.out; have hnc35 := NB326_327.out; have hcz36_0 : w33.cell? ⟨gb327, 0, none⟩ = some (.int .i64 0) := (blk_cell BK327.out 0).trans rfl; have hcz36_1 : w33.cell? ⟨gb327, 1, none⟩ = some (.int .i64 0) := (blk_cell BK327.out 1).trans rfl; have hcz36_2 : w33.cell? ⟨gb327, 2, none⟩ = some (.slice none 0 0) := (blk_cell BK327.out 2).trans rfl; have hfz36_0 := blk_frozen BK327.out 0; have hfz36_1 := blk_frozen BK327.out 1; have hfz36_2 := blk_frozen BK327.out 2))
    refine bodyPost_ret (results_ct rfl _ _ gb327 33 #[.int .i64 a0_0, .int .i64 a0_1, .slice Ao21 y334.length co21] (0, 0) _ rfl (by (with_reducible repeat (first | refine kn_ ?_ _ | refine blk_drew ?_ | refine ka_ ?_ _)); refine blk_put (cs := #[.int .i64 a0_0, .int .i64 a0_1, .slice none 0 0]) ?_ 2 _ rfl; (with_reducible repeat (first | refine kn_ ?_ _ | refine blk_drew ?_ | refine ka_ ?_ _)); refine blk_put (cs := #[.int .i64 a0_0, .int .i64 0, .slice none 0 0]) ?_ 1 _ rfl; (with_reducible repeat (first | refine kn_ ?_ _ | refine blk_drew ?_ | refine ka_ ?_ _)); refine blk_put (cs := #[.int .i64 0, .int .i64 0, .slice none 0 0]) ?_ 0 _ rfl; (with_reducible repeat (first | refine kn_ ?_ _ | refine blk_drew ?_ | refine ka_ ?_ _)); exact BK327.out) Try.underlying33 rfl (by kernel_rfl)) rfl ?_
    exact ⟨_, by first | rfl | (simp [errW_none, errW_some] <;> rfl) | (simp [*, errW_none, errW_some] <;> rfl), by (with_reducible repeat (first | apply Kd.R_alloc | apply Kd.R_drewN | apply Kd.R_drew)); exact Kd.R_mono (Kd.R_far (p := ⟨gb327, 2, none⟩) (Kd.R_far (p := ⟨gb327, 1, none⟩) (Kd.R_far (p := ⟨gb327, 0, none⟩) (Kd.R_types HO336.out BK327.out (by decide)) (fun _ hk => hk.2) (.int .i64 a0_0)) (fun _ hk => hk.2) (.int .i64 a0_1)) (fun _ hk => hk.2) (.slice Ao21 y334.length co21)) (fun _ hk => trivial), by repeat (first | (with_reducible first | exact HB.out | apply ba_ | apply bn_ | apply bd_ | refine bs_ ?_ GE325.out | refine bs_ ?_ GE326.out | refine bs_ ?_ GE327.out | refine bs_ ?_ GE337.out) | exact HB.out)⟩
   · replace c8 := Bool.eq_false_iff.mpr c8
    subst c8
    have H1 : (some (0, 0, ([] : List (S37)), false)) = some (r1, r2, r3, r4) := by rw [if_neg (show ¬ (false = true) by decide)] at H; exact H
    clear H
    have H := H1
    clear H1
    simp only [Option.some.injEq, Prod.mk.injEq] at H
    obtain ⟨rfl, rfl, rfl, rfl⟩ := H
    go_enter Try.func10, Try.ntmps10
    try go_wp2_with (first | ((with_reducible refine gate_dst (N := 2) rfl ?_); refine box_event ?hg (N := 2) ?hd (cs := #[.int .i64 a0_0, .int .i64 a0_1, .slice A0_2 l0_2.length c0_2]) (t := 33) ?hr ?_; (case hd => rfl); (case hg => rfl); (case hr => first | (go_simp; done) | (go_simp; rfl)); intro gb325 hg w37 hbox hb; have n0_ := amk (bp_ HB.out hb); have n1_ := amk (hbox); have n2_ := amk ((by rw [hg]; exact (below_size HB.out) : w.heap.size ≤ gb325)); have n3_ := amk ((by rw [hg]; exact (below_size HB.out) : w.heap.size ≤ gb325)); clear HB; have HB := n0_; have BK325 := n1_; have GW325 := n2_; have GE325 := n3_; clear n0_ n1_ n2_ n3_; clear hb hbox hg) | ((with_reducible refine gate_dst (N := 3) rfl ?_); refine box_event ?hg (N := 3) ?hd (cs := #[.int .i64 a1_0, .int .i64 a1_1, .int .i64 a1_2]) (t := 37) ?hr ?_; (case hd => rfl); (case hg => rfl); (case hr => first | (go_simp; done) | (go_simp; rfl)); intro gb326 hg w38 hbox hb; have n0_ := amk (blk_below BK325.out hb); have n1_ := amk (bp_ HB.out hb); have n2_ := amk (hbox); have n3_ := amk ((by rw [hg]; exact (below_size HB.out) : w.heap.size ≤ gb326)); have n4_ := amk ((by rw [hg]; exact (below_size HB.out) : w.heap.size ≤ gb326)); have n5_ := amk ((by rw [hg]; exact Nat.ne_of_lt (blk_lt BK325.out) : gb325 ≠ gb326)); have n6_ := amk ((by rw [hg]; exact Nat.ne_of_gt (blk_lt BK325.out) : gb326 ≠ gb325)); clear BK325; clear HB; have BK325 := n0_; have HB := n1_; have BK326 := n2_; have GW326 := n3_; have GE326 := n4_; have NB325_326 := n5_; have NB326_325 := n6_; clear n0_ n1_ n2_ n3_ n4_ n5_ n6_; clear hb hbox hg) | ((with_reducible refine gate_dst (N := 4) rfl ?_); refine box_event ?hg (N := 4) ?hd (cs := #[.int .i64 0, .int .i64 0, .slice none 0 0]) (t := 33) ?hr ?_; (case hd => rfl); (case hg => rfl); (case hr => first | (go_simp; done) | (go_simp; rfl)); intro gb327 hg w39 hbox hb; have n0_ := amk (blk_below BK325.out hb); have n1_ := amk (blk_below BK326.out hb); have n2_ := amk (bp_ HB.out hb); have n3_ := amk (hbox); have n4_ := amk ((by rw [hg]; exact (below_size HB.out) : w.heap.size ≤ gb327)); have n5_ := amk ((by rw [hg]; exact (below_size HB.out) : w.heap.size ≤ gb327)); have n6_ := amk ((by rw [hg]; exact Nat.ne_of_lt (blk_lt BK325.out) : gb325 ≠ gb327)); have n7_ := amk ((by rw [hg]; exact Nat.ne_of_gt (blk_lt BK325.out) : gb327 ≠ gb325)); have n8_ := amk ((by rw [hg]; exact Nat.ne_of_lt (blk_lt BK326.out) : gb326 ≠ gb327)); have n9_ := amk ((by rw [hg]; exact Nat.ne_of_gt (blk_lt BK326.out) : gb327 ≠ gb326)); clear BK325; clear BK326; clear HB; have BK325 := n0_; have BK326 := n1_; have HB := n2_; have BK327 := n3_; have GW327 := n4_; have GE327 := n5_; have NB325_327 := n6_; have NB327_325 := n7_; have NB326_327 := n8_; have NB327_326 := n9_; clear n0_ n1_ n2_ n3_ n4_ n5_ n6_ n7_ n8_ n9_; clear hb hbox hg))
    have n0_ := amk (blk_drew BK325.out)
    have n1_ := amk (blk_drew BK326.out)
    have n2_ := amk (blk_drew BK327.out)
    have n3_ := amk (bd_ HB.out)
    clear BK325 BK326 BK327 HB
    have BK325 := n0_
    have BK326 := n1_
    have BK327 := n2_
    have HB := n3_
    clear n0_ n1_ n2_ n3_
    refine start_ (n := 11) (S := fun w' => w'.cell? ⟨gb325, 0, none⟩ = some (.int .i64 a0_0) ∧ w'.cell? ⟨gb325, 1, none⟩ = some (.int .i64 a0_1) ∧ w'.cell? ⟨gb325, 2, none⟩ = some (.slice A0_2 l0_2.length c0_2) ∧ w'.cell? ⟨gb326, 0, none⟩ = some (.int .i64 a1_0) ∧ w'.cell? ⟨gb326, 1, none⟩ = some (.int .i64 a1_1) ∧ w'.cell? ⟨gb326, 2, none⟩ = some (.int .i64 a1_2)) (ds := []) #[false, false, false, false, false, false, false, false, false, false, false] (by kernel_rfl) rfl rfl ⟨(blk_cell BK325.out 0).trans rfl, (blk_cell BK325.out 1).trans rfl, (blk_cell BK325.out 2).trans rfl, (blk_cell BK326.out 0).trans rfl, (blk_cell BK326.out 1).trans rfl, (blk_cell BK326.out 2).trans rfl⟩ (fun hHeld => ?_); refine with_tabW impl_AddClue.tab1 impl_AddClue.bits1 (fun HT_ HW_ => ?_)
    generalize w39.drew = w40 at BK325 BK326 BK327 HB hHeld ⊢
    refine pure_ (i := 0) (N := some 7) (v := ?_) (a' := ?_) #[true, false, false, false, false, false, false, false, false, false, false] rfl rfl (any_of HT_.out (by kernel_rfl)) (fun _ _ _ h => h) (Or.inl ⟨by rfl, ?_⟩) ?_ ?_
    rotate_left
    · intro w'
     go_simp
     with_reducible rfl
    rotate_left
    · simp only [Act.put, List.setIfInBounds_toArray, List.set_cons_zero, List.set_cons_succ, i64_w, i32_w]
     rfl
    refine pure_ (i := 2) (N := some 9) (v := ?_) (a' := ?_) #[true, false, true, false, false, false, false, false, false, false, false] rfl rfl (any_of HT_.out (by kernel_rfl)) (fun _ _ _ h => h) (Or.inl ⟨by rfl, ?_⟩) ?_ ?_
    rotate_left
    · intro w'
     go_simp
     with_reducible rfl
    rotate_left
    · simp only [Act.put, List.setIfInBounds_toArray, List.set_cons_zero, List.set_cons_succ, i64_w, i32_w]
     rfl
    refine take_ (i := 1) (N := some 8) (v := ?_) (a' := ?_) #[true, true, true, false, false, false, false, false, false, false, false] rfl rfl (take_ofW HT_.out HW_.out (by kernel_rfl)) (fun _ _ _ h => h) (Or.inl ⟨by rfl, ?_⟩) hHeld ?_ ?_
    rotate_left
    · rintro w' ⟨s0, s1, s2, s3, s4, s5⟩
     go_simp
     with_reducible rfl
    rotate_left
    · simp only [Act.put, List.setIfInBounds_toArray, List.set_cons_zero, List.set_cons_succ, i64_w, i32_w]
     rfl
    refine take_ (i := 3) (N := some 10) (v := ?_) (a' := ?_) #[true, true, true, true, false, false, false, false, false, false, false] rfl rfl (take_ofW HT_.out HW_.out (by kernel_rfl)) (fun _ _ _ h => h) (Or.inl ⟨by rfl, ?_⟩) hHeld ?_ ?_
    rotate_left
    · rintro w' ⟨s0, s1, s2, s3, s4, s5⟩
     go_simp
     with_reducible rfl
    rotate_left
    · simp only [Act.put, List.setIfInBounds_toArray, List.set_cons_zero, List.set_cons_succ, i64_w, i32_w]
     rfl
    refine take_ (i := 5) (N := some 12) (v := ?_) (a' := ?_) #[true, true, true, true, false, true, false, false, false, false, false] rfl rfl (take_ofW HT_.out HW_.out (by kernel_rfl)) (fun _ _ _ h => h) (Or.inl ⟨by rfl, ?_⟩) hHeld ?_ ?_
    rotate_left
    · rintro w' ⟨s0, s1, s2, s3, s4, s5⟩
     go_simp
     with_reducible rfl
    rotate_left
    · simp only [Act.put, List.setIfInBounds_toArray, List.set_cons_zero, List.set_cons_succ, i64_w, i32_w]
     rfl
    refine join_ (σ := Value × Value × Value × Nat) 1 #[true, true, true, true, true, true, true, true, true, true, false] (fun s_ => [(11, s_.1), (13, s_.2.1), (14, s_.2.2.1), (6, .pointer (some ⟨s_.2.2.2, 0, none⟩)), (15, .agg #[.int .i64 a0_0, .int .i64 a0_1, s_.2.2.1])]) (fun s_ w' => (w'.cell? ⟨gb325, 0, none⟩ = some (.int .i64 a0_0) ∧ w'.cell? ⟨gb325, 1, none⟩ = some (.int .i64 a0_1) ∧ w'.cell? ⟨gb325, 2, none⟩ = some (.slice A0_2 l0_2.length c0_2) ∧ w'.cell? ⟨gb326, 0, none⟩ = some (.int .i64 a1_0) ∧ w'.cell? ⟨gb326, 1, none⟩ = some (.int .i64 a1_1) ∧ w'.cell? ⟨gb326, 2, none⟩ = some (.int .i64 a1_2)) ∧ (Kd.R k37 37 w' w.heap.size (fun k_ => some k_ ≠ (s_.2.2.1 : Value).ownBlock ∧ k_ ≠ gb326) s_.2.1 y331) ∧ (Kd.R k37 37 w' w.heap.size (fun k_ => some k_ ≠ (s_.2.1 : Value).ownBlock ∧ k_ ≠ gb326) s_.2.2.1 y334) ∧ (w'.heap[gb325]? = some (.cells #[.int .i64 a0_0, .int .i64 a0_1, .slice A0_2 l0_2.length c0_2] 33 (0, 0))) ∧ (w'.heap[gb326]? = some (.cells #[.int .i64 a1_0, .int .i64 a1_1, .int .i64 a1_2] 37 (0, 0))) ∧ (w'.heap[gb327]? = some (.cells #[.int .i64 0, .int .i64 0, .slice none 0 0] 33 (0, 0))) ∧ (w'.heap[s_.2.2.2]? = some (.cells #[.int .i64 0, .int .i64 0, .slice none 0 0] 33 (0, 0))) ∧ (w.heap.size ≤ s_.2.2.2) ∧ (w.heap.size ≤ s_.2.2.2) ∧ (gb325 ≠ s_.2.2.2) ∧ (s_.2.2.2 ≠ gb325) ∧ (gb326 ≠ s_.2.2.2) ∧ (s_.2.2.2 ≠ gb326) ∧ (gb327 ≠ s_.2.2.2) ∧ (s_.2.2.2 ≠ gb327) ∧ (Below w.heap.size w w')) ?_ ?_
    rotate_left
    · intro hJ4_6_7_9
     refine join_ (σ := Value × Value × Value) 2 #[true, true, true, true, true, true, true, true, true, false, false] (fun s_ => [(11, s_.1), (13, s_.2.1), (14, s_.2.2), (15, .agg #[.int .i64 a0_0, .int .i64 a0_1, s_.2.2])]) (fun s_ w' => (w'.cell? ⟨gb325, 0, none⟩ = some (.int .i64 a0_0) ∧ w'.cell? ⟨gb325, 1, none⟩ = some (.int .i64 a0_1) ∧ w'.cell? ⟨gb325, 2, none⟩ = some (.slice A0_2 l0_2.length c0_2) ∧ w'.cell? ⟨gb326, 0, none⟩ = some (.int .i64 a1_0) ∧ w'.cell? ⟨gb326, 1, none⟩ = some (.int .i64 a1_1) ∧ w'.cell? ⟨gb326, 2, none⟩ = some (.int .i64 a1_2)) ∧ (Kd.R k37 37 w' w.heap.size (fun k_ => some k_ ≠ (s_.2.2 : Value).ownBlock ∧ k_ ≠ gb326) s_.2.1 y331) ∧ (Kd.R k37 37 w' w.heap.size (fun k_ => some k_ ≠ (s_.2.1 : Value).ownBlock ∧ k_ ≠ gb326) s_.2.2 y334) ∧ (w'.heap[gb325]? = some (.cells #[.int .i64 a0_0, .int .i64 a0_1, .slice A0_2 l0_2.length c0_2] 33 (0, 0))) ∧ (w'.heap[gb326]? = some (.cells #[.int .i64 a1_0, .int .i64 a1_1, .int .i64 a1_2] 37 (0, 0))) ∧ (w'.heap[gb327]? = some (.cells #[.int .i64 0, .int .i64 0, .slice none 0 0] 33 (0, 0))) ∧ (Below w.heap.size w w')) ?_ ?_
     rotate_left
     · intro hJ4_6_7
      refine join_ (σ := Value × Value × Nat) 3 #[true, true, true, true, true, true, true, false, false, true, false] (fun s_ => [(11, s_.1), (13, s_.2.1), (6, .pointer (some ⟨s_.2.2, 0, none⟩))]) (fun s_ w' => (w'.cell? ⟨gb325, 0, none⟩ = some (.int .i64 a0_0) ∧ w'.cell? ⟨gb325, 1, none⟩ = some (.int .i64 a0_1) ∧ w'.cell? ⟨gb325, 2, none⟩ = some (.slice A0_2 l0_2.length c0_2) ∧ w'.cell? ⟨gb326, 0, none⟩ = some (.int .i64 a1_0) ∧ w'.cell? ⟨gb326, 1, none⟩ = some (.int .i64 a1_1) ∧ w'.cell? ⟨gb326, 2, none⟩ = some (.int .i64 a1_2)) ∧ (Kd.R k37 37 w' w.heap.size (fun k_ => some k_ ≠ (s_.2.1 : Value).ownBlock ∧ k_ ≠ gb326) s_.1 t328) ∧ (Kd.R k37 37 w' w.heap.size (fun k_ => some k_ ≠ (s_.1 : Value).ownBlock ∧ k_ ≠ gb326) s_.2.1 y331) ∧ (w'.heap[gb325]? = some (.cells #[.int .i64 a0_0, .int .i64 a0_1, .slice A0_2 l0_2.length c0_2] 33 (0, 0))) ∧ (w'.heap[gb326]? = some (.cells #[.int .i64 a1_0, .int .i64 a1_1, .int .i64 a1_2] 37 (0, 0))) ∧ (w'.heap[gb327]? = some (.cells #[.int .i64 0, .int .i64 0, .slice none 0 0] 33 (0, 0))) ∧ (w'.heap[s_.2.2]? = some (.cells #[.int .i64 0, .int .i64 0, .slice none 0 0] 33 (0, 0))) ∧ (w.heap.size ≤ s_.2.2) ∧ (w.heap.size ≤ s_.2.2) ∧ (gb325 ≠ s_.2.2) ∧ (s_.2.2 ≠ gb325) ∧ (gb326 ≠ s_.2.2) ∧ (s_.2.2 ≠ gb326) ∧ (gb327 ≠ s_.2.2) ∧ (s_.2.2 ≠ gb327) ∧ (Below w.heap.size w w')) ?_ ?_
      rotate_left
      · intro hJ4_6_9
       refine join_ (σ := Value × Value) 4 #[true, true, true, true, true, true, true, false, false, false, false] (fun s_ => [(11, s_.1), (13, s_.2)]) (fun s_ w' => (w'.cell? ⟨gb325, 0, none⟩ = some (.int .i64 a0_0) ∧ w'.cell? ⟨gb325, 1, none⟩ = some (.int .i64 a0_1) ∧ w'.cell? ⟨gb325, 2, none⟩ = some (.slice A0_2 l0_2.length c0_2) ∧ w'.cell? ⟨gb326, 0, none⟩ = some (.int .i64 a1_0) ∧ w'.cell? ⟨gb326, 1, none⟩ = some (.int .i64 a1_1) ∧ w'.cell? ⟨gb326, 2, none⟩ = some (.int .i64 a1_2)) ∧ (Kd.R k37 37 w' w.heap.size (fun k_ => some k_ ≠ (s_.2 : Value).ownBlock ∧ k_ ≠ gb326) s_.1 t328) ∧ (Kd.R k37 37 w' w.heap.size (fun k_ => some k_ ≠ (s_.1 : Value).ownBlock ∧ k_ ≠ gb326) s_.2 y331) ∧ (w'.heap[gb325]? = some (.cells #[.int .i64 a0_0, .int .i64 a0_1, .slice A0_2 l0_2.length c0_2] 33 (0, 0))) ∧ (w'.heap[gb326]? = some (.cells #[.int .i64 a1_0, .int .i64 a1_1, .int .i64 a1_2] 37 (0, 0))) ∧ (w'.heap[gb327]? = some (.cells #[.int .i64 0, .int .i64 0, .slice none 0 0] 33 (0, 0))) ∧ (Below w.heap.size w w')) ?_ ?_
       rotate_left
       · intro hJ4_6
        refine join_ (σ := Value × Nat) 4 #[true, true, true, true, true, true, false, false, false, true, false] (fun s_ => [(11, s_.1), (6, .pointer (some ⟨s_.2, 0, none⟩))]) (fun s_ w' => (w'.cell? ⟨gb325, 0, none⟩ = some (.int .i64 a0_0) ∧ w'.cell? ⟨gb325, 1, none⟩ = some (.int .i64 a0_1) ∧ w'.cell? ⟨gb325, 2, none⟩ = some (.slice A0_2 l0_2.length c0_2) ∧ w'.cell? ⟨gb326, 0, none⟩ = some (.int .i64 a1_0) ∧ w'.cell? ⟨gb326, 1, none⟩ = some (.int .i64 a1_1) ∧ w'.cell? ⟨gb326, 2, none⟩ = some (.int .i64 a1_2)) ∧ (Kd.R k37 37 w' w.heap.size (fun k_ => k_ ≠ gb326) s_.1 t328) ∧ (w'.heap[gb325]? = some (.cells #[.int .i64 a0_0, .int .i64 a0_1, .slice A0_2 l0_2.length c0_2] 33 (0, 0))) ∧ (w'.heap[gb326]? = some (.cells #[.int .i64 a1_0, .int .i64 a1_1, .int .i64 a1_2] 37 (0, 0))) ∧ (w'.heap[gb327]? = some (.cells #[.int .i64 0, .int .i64 0, .slice none 0 0] 33 (0, 0))) ∧ (w'.heap[s_.2]? = some (.cells #[.int .i64 0, .int .i64 0, .slice none 0 0] 33 (0, 0))) ∧ (w.heap.size ≤ s_.2) ∧ (w.heap.size ≤ s_.2) ∧ (gb325 ≠ s_.2) ∧ (s_.2 ≠ gb325) ∧ (gb326 ≠ s_.2) ∧ (s_.2 ≠ gb326) ∧ (gb327 ≠ s_.2) ∧ (s_.2 ≠ gb327) ∧ (Below w.heap.size w w')) ?_ ?_
        rotate_left
        · intro hJ4_9
         refine join_ (σ := Value × Nat) 4 #[true, true, true, true, false, true, true, false, false, true, false] (fun s_ => [(13, s_.1), (6, .pointer (some ⟨s_.2, 0, none⟩))]) (fun s_ w' => (w'.cell? ⟨gb325, 0, none⟩ = some (.int .i64 a0_0) ∧ w'.cell? ⟨gb325, 1, none⟩ = some (.int .i64 a0_1) ∧ w'.cell? ⟨gb325, 2, none⟩ = some (.slice A0_2 l0_2.length c0_2) ∧ w'.cell? ⟨gb326, 0, none⟩ = some (.int .i64 a1_0) ∧ w'.cell? ⟨gb326, 1, none⟩ = some (.int .i64 a1_1) ∧ w'.cell? ⟨gb326, 2, none⟩ = some (.int .i64 a1_2)) ∧ (Kd.R k37 37 w' w.heap.size (fun k_ => k_ ≠ gb326) s_.1 y331) ∧ (w'.heap[gb325]? = some (.cells #[.int .i64 a0_0, .int .i64 a0_1, .slice A0_2 l0_2.length c0_2] 33 (0, 0))) ∧ (w'.heap[gb326]? = some (.cells #[.int .i64 a1_0, .int .i64 a1_1, .int .i64 a1_2] 37 (0, 0))) ∧ (w'.heap[gb327]? = some (.cells #[.int .i64 0, .int .i64 0, .slice none 0 0] 33 (0, 0))) ∧ (w'.heap[s_.2]? = some (.cells #[.int .i64 0, .int .i64 0, .slice none 0 0] 33 (0, 0))) ∧ (w.heap.size ≤ s_.2) ∧ (w.heap.size ≤ s_.2) ∧ (gb325 ≠ s_.2) ∧ (s_.2 ≠ gb325) ∧ (gb326 ≠ s_.2) ∧ (s_.2 ≠ gb326) ∧ (gb327 ≠ s_.2) ∧ (s_.2 ≠ gb327) ∧ (Below w.heap.size w w')) ?_ ?_
         rotate_left
         · intro hJ6_9
          refine join_ (σ := Value) 5 #[true, true, true, true, true, true, false, false, false, false, false] (fun s_ => [(11, s_)]) (fun s_ w' => (w'.cell? ⟨gb325, 0, none⟩ = some (.int .i64 a0_0) ∧ w'.cell? ⟨gb325, 1, none⟩ = some (.int .i64 a0_1) ∧ w'.cell? ⟨gb325, 2, none⟩ = some (.slice A0_2 l0_2.length c0_2) ∧ w'.cell? ⟨gb326, 0, none⟩ = some (.int .i64 a1_0) ∧ w'.cell? ⟨gb326, 1, none⟩ = some (.int .i64 a1_1) ∧ w'.cell? ⟨gb326, 2, none⟩ = some (.int .i64 a1_2)) ∧ (Kd.R k37 37 w' w.heap.size (fun k_ => k_ ≠ gb326) s_ t328) ∧ (w'.heap[gb325]? = some (.cells #[.int .i64 a0_0, .int .i64 a0_1, .slice A0_2 l0_2.length c0_2] 33 (0, 0))) ∧ (w'.heap[gb326]? = some (.cells #[.int .i64 a1_0, .int .i64 a1_1, .int .i64 a1_2] 37 (0, 0))) ∧ (w'.heap[gb327]? = some (.cells #[.int .i64 0, .int .i64 0, .slice none 0 0] 33 (0, 0))) ∧ (Below w.heap.size w w')) ?_ ?_
          rotate_left
          · intro hJ4
           refine join_ (σ := Value) 5 #[true, true, true, true, false, true, true, false, false, false, false] (fun s_ => [(13, s_)]) (fun s_ w' => (w'.cell? ⟨gb325, 0, none⟩ = some (.int .i64 a0_0) ∧ w'.cell? ⟨gb325, 1, none⟩ = some (.int .i64 a0_1) ∧ w'.cell? ⟨gb325, 2, none⟩ = some (.slice A0_2 l0_2.length c0_2) ∧ w'.cell? ⟨gb326, 0, none⟩ = some (.int .i64 a1_0) ∧ w'.cell? ⟨gb326, 1, none⟩ = some (.int .i64 a1_1) ∧ w'.cell? ⟨gb326, 2, none⟩ = some (.int .i64 a1_2)) ∧ (Kd.R k37 37 w' w.heap.size (fun k_ => k_ ≠ gb326) s_ y331) ∧ (w'.heap[gb325]? = some (.cells #[.int .i64 a0_0, .int .i64 a0_1, .slice A0_2 l0_2.length c0_2] 33 (0, 0))) ∧ (w'.heap[gb326]? = some (.cells #[.int .i64 a1_0, .int .i64 a1_1, .int .i64 a1_2] 37 (0, 0))) ∧ (w'.heap[gb327]? = some (.cells #[.int .i64 0, .int .i64 0, .slice none 0 0] 33 (0, 0))) ∧ (Below w.heap.size w w')) ?_ ?_
           rotate_left
           · intro hJ6
            refine join_ (σ := Nat) 5 #[true, true, true, true, false, true, false, false, false, true, false] (fun s_ => [(6, .pointer (some ⟨s_, 0, none⟩))]) (fun s_ w' => (w'.cell? ⟨gb325, 0, none⟩ = some (.int .i64 a0_0) ∧ w'.cell? ⟨gb325, 1, none⟩ = some (.int .i64 a0_1) ∧ w'.cell? ⟨gb325, 2, none⟩ = some (.slice A0_2 l0_2.length c0_2) ∧ w'.cell? ⟨gb326, 0, none⟩ = some (.int .i64 a1_0) ∧ w'.cell? ⟨gb326, 1, none⟩ = some (.int .i64 a1_1) ∧ w'.cell? ⟨gb326, 2, none⟩ = some (.int .i64 a1_2)) ∧ (w'.heap[gb325]? = some (.cells #[.int .i64 a0_0, .int .i64 a0_1, .slice A0_2 l0_2.length c0_2] 33 (0, 0))) ∧ (w'.heap[gb326]? = some (.cells #[.int .i64 a1_0, .int .i64 a1_1, .int .i64 a1_2] 37 (0, 0))) ∧ (w'.heap[gb327]? = some (.cells #[.int .i64 0, .int .i64 0, .slice none 0 0] 33 (0, 0))) ∧ (w'.heap[s_]? = some (.cells #[.int .i64 0, .int .i64 0, .slice none 0 0] 33 (0, 0))) ∧ (w.heap.size ≤ s_) ∧ (w.heap.size ≤ s_) ∧ (gb325 ≠ s_) ∧ (s_ ≠ gb325) ∧ (gb326 ≠ s_) ∧ (s_ ≠ gb326) ∧ (gb327 ≠ s_) ∧ (s_ ≠ gb327) ∧ (Below w.heap.size w w')) ?_ ?_
            rotate_left
            · intro hJ9
             refine three_ (i := 4) (j := 6) (k := 9) (Ni := some 11) (Nj := some 13) (Nk := some 6) #[true, true, true, true, true, true, false, false, false, false, false] #[true, true, true, true, false, true, true, false, false, false, false] #[true, true, true, true, false, true, false, false, false, true, false] rfl rfl rfl rfl rfl rfl (three_of HT_.out (by kernel_rfl)) (by decide) (by decide) (by decide) (fun K hK => ?_) (fun K hK => ?_) (fun K hK => ?_)
             · skip
              refine goes_ Try.func23 (by kernel_rfl) rfl #[.slice A0_2 l0_2.length c0_2] (by rfl) rfl rfl (by (try simp only [List.map_toArray, List.map_cons, List.map_nil]); first | done | rfl | (simp only [List.length_drop, List.length_take]; rfl)) ?_
              with_reducible refine (slices_Clone_impl_Clue_impl_Clue.calls _ _ l0_2 t328 _ ?side1 ?side2 A3.out).mono ?_
              (case side1 => repeat (first | exact (Kd.C_below HR0_2.out HB.out) | (with_reducible refine Kd.C_alloc ?_ _) | (with_reducible refine Kd.C_drewN ?_ _) | (with_reducible refine Kd.C_drew ?_)))
              (case side2 => exact HC0_2.out)
              rintro e w41 ⟨v329, rfl, ho0, hb⟩
              refine ⟨_, rfl, ?_⟩
              have n0_ := amk (Kd.R_lower (Kd.R_newB ho0 (g := gb326) (o := .cells #[.int .i64 a1_0, .int .i64 a1_1, .int .i64 a1_2] 37 (0, 0)) BK326.out) (below_size HB.out))
              have n1_ := amk (blk_below BK325.out hb)
              have n2_ := amk (blk_below BK326.out hb)
              have n3_ := amk (blk_below BK327.out hb)
              have n4_ := amk (bp_ HB.out hb)
              clear BK325 BK326 BK327 HB
              have HO330 := n0_
              have BK325 := n1_
              have BK326 := n2_
              have BK327 := n3_
              have HB := n4_
              clear n0_ n1_ n2_ n3_ n4_
              (try clear hb)
              (try clear hb2)
              (try clear hk)
              (try clear hi)
              (try clear ho0)
              refine hK.out _ _ ⟨(blk_cell BK325.out 0).trans rfl, (blk_cell BK325.out 1).trans rfl, (blk_cell BK325.out 2).trans rfl, (blk_cell BK326.out 0).trans rfl, (blk_cell BK326.out 1).trans rfl, (blk_cell BK326.out 2).trans rfl⟩ (fun hHeld => ?_)
              clear hK K
              refine norm_ (a' := ?_) ?_ ?_
              rotate_left
              · show Act.put _ (some 11) _ = _
               simp only [Act.put, List.setIfInBounds_toArray, List.set_cons_zero, List.set_cons_succ, i64_w, i32_w]
               rfl
              exact norm_ (by first | (simp only [putAll, Act.put, List.setIfInBounds_toArray, List.set_cons_zero, List.set_cons_succ]; done) | (simp only [putAll, Act.put, List.setIfInBounds_toArray, List.set_cons_zero, List.set_cons_succ]; rfl)) (hJ4 (v329) _ ⟨hHeld, (by (with_reducible repeat (first | apply Kd.R_alloc | apply Kd.R_drewN | apply Kd.R_drew)); exact Kd.R_mono HO330.out (fun _ hk => hk.2)), BK325.out, BK326.out, BK327.out, HB.out⟩)
             · skip
              refine Kd.R_lit_step k37 _ 37 ?hg (N := 13) ?hd (xs := ([(⟨a1_0, a1_1, a1_2⟩ : S37)] : List (S37))) (inner := [.int .i64 a1_0, .int .i64 a1_1, .int .i64 a1_2]) (ok := fun _ => True) (okp := fun _ => True) ?hr ?hp (fun _ hk => hk) trivial (Below.refl _ _) (Nat.le_refl _) (by simp) ?_; (case hd => rfl); (case hg => rfl); (case hr => first | (go_simp; done) | (go_simp; rfl)); (case hp => exact (Reps.c3 (show Kd.M k37 _ _ _ (⟨a1_0, a1_1, a1_2⟩ : S37) [.int .i64 a1_0, .int .i64 a1_1, .int .i64 a1_2] from (k37_mkM _ _ _ (⟨a1_0, a1_1, a1_2⟩ : S37) )) (Reps.none _ _)))
              intro v332 w41 ho42 hb hg_ hnew_
              clear hg_ hnew_
              (first | rw [← Ny331.out] at ho42 | (simp only [Int.reduceToNat] at ho42; rw [← Ny331.out] at ho42))
              have n0_ := amk (Kd.R_lower (Kd.R_newB ho42 (g := gb326) (o := .cells #[.int .i64 a1_0, .int .i64 a1_1, .int .i64 a1_2] 37 (0, 0)) BK326.out) (below_size HB.out))
              have n1_ := amk (blk_below BK325.out hb)
              have n2_ := amk (blk_below BK326.out hb)
              have n3_ := amk (blk_below BK327.out hb)
              have n4_ := amk (bp_ HB.out hb)
              clear BK325 BK326 BK327 HB
              have HO333 := n0_
              have BK325 := n1_
              have BK326 := n2_
              have BK327 := n3_
              have HB := n4_
              clear n0_ n1_ n2_ n3_ n4_ hb ho42
              refine hK.out _ _ ⟨(blk_cell BK325.out 0).trans rfl, (blk_cell BK325.out 1).trans rfl, (blk_cell BK325.out 2).trans rfl, (blk_cell BK326.out 0).trans rfl, (blk_cell BK326.out 1).trans rfl, (blk_cell BK326.out 2).trans rfl⟩ (fun hHeld => ?_)
              clear hK K
              refine norm_ (a' := ?_) ?_ ?_
              rotate_left
              · show Act.put _ (some 13) _ = _
               simp only [Act.put, List.setIfInBounds_toArray, List.set_cons_zero, List.set_cons_succ, i64_w, i32_w]
               rfl
              exact norm_ (by first | (simp only [putAll, Act.put, List.setIfInBounds_toArray, List.set_cons_zero, List.set_cons_succ]; done) | (simp only [putAll, Act.put, List.setIfInBounds_toArray, List.set_cons_zero, List.set_cons_succ]; rfl)) (hJ6 (v332) _ ⟨hHeld, (by (with_reducible repeat (first | apply Kd.R_alloc | apply Kd.R_drewN | apply Kd.R_drew)); exact Kd.R_mono HO333.out (fun _ hk => hk.2)), BK325.out, BK326.out, BK327.out, HB.out⟩)
             · skip
              refine box_step ?hg (N := 6) ?hd (cs := #[.int .i64 0, .int .i64 0, .slice none 0 0]) (t := 33) ?hr ?_; (case hd => rfl); (case hg => rfl); (case hr => first | (go_simp; done) | (go_simp; rfl))
              intro gb337 hg w41 hbox hb
              have n0_ := amk (blk_below BK325.out hb)
              have n1_ := amk (blk_below BK326.out hb)
              have n2_ := amk (blk_below BK327.out hb)
              have n3_ := amk (bp_ HB.out hb)
              have n4_ := amk (hbox)
              have n5_ := amk ((by rw [hg]; exact (below_size HB.out) : w.heap.size ≤ gb337))
              have n6_ := amk ((by rw [hg]; exact (below_size HB.out) : w.heap.size ≤ gb337))
              have n7_ := amk ((by rw [hg]; exact Nat.ne_of_lt (blk_lt BK325.out) : gb325 ≠ gb337))
              have n8_ := amk ((by rw [hg]; exact Nat.ne_of_gt (blk_lt BK325.out) : gb337 ≠ gb325))
              have n9_ := amk ((by rw [hg]; exact Nat.ne_of_lt (blk_lt BK326.out) : gb326 ≠ gb337))
              have n10_ := amk ((by rw [hg]; exact Nat.ne_of_gt (blk_lt BK326.out) : gb337 ≠ gb326))
              have n11_ := amk ((by rw [hg]; exact Nat.ne_of_lt (blk_lt BK327.out) : gb327 ≠ gb337))
              have n12_ := amk ((by rw [hg]; exact Nat.ne_of_gt (blk_lt BK327.out) : gb337 ≠ gb327))
              clear BK325 BK326 BK327 HB
              have BK325 := n0_
              have BK326 := n1_
              have BK327 := n2_
              have HB := n3_
              have BK337 := n4_
              have GW337 := n5_
              have GE337 := n6_
              have NB325_337 := n7_
              have NB337_325 := n8_
              have NB326_337 := n9_
              have NB337_326 := n10_
              have NB327_337 := n11_
              have NB337_327 := n12_
              clear n0_ n1_ n2_ n3_ n4_ n5_ n6_ n7_ n8_ n9_ n10_ n11_ n12_ hb hbox hg
              refine hK.out _ _ ⟨(blk_cell BK325.out 0).trans rfl, (blk_cell BK325.out 1).trans rfl, (blk_cell BK325.out 2).trans rfl, (blk_cell BK326.out 0).trans rfl, (blk_cell BK326.out 1).trans rfl, (blk_cell BK326.out 2).trans rfl⟩ (fun hHeld => ?_)
              clear hK K
              refine norm_ (a' := ?_) ?_ ?_
              rotate_left
              · show Act.put _ (some 6) _ = _
               simp only [Act.put, List.setIfInBounds_toArray, List.set_cons_zero, List.set_cons_succ, i64_w, i32_w]
               rfl
              exact norm_ (by first | (simp only [putAll, Act.put, List.setIfInBounds_toArray, List.set_cons_zero, List.set_cons_succ]; done) | (simp only [putAll, Act.put, List.setIfInBounds_toArray, List.set_cons_zero, List.set_cons_succ]; rfl)) (hJ9 (gb337) _ ⟨hHeld, BK325.out, BK326.out, BK327.out, BK337.out, GW337.out, GE337.out, NB325_337.out, NB337_325.out, NB326_337.out, NB337_326.out, NB327_337.out, NB337_327.out, HB.out⟩)
            · skip
             rintro gb337 w42 ⟨hS_, h0_, h1_, h2_, h3_, h4_, h5_, h6_, h7_, h8_, h9_, h10_, h11_, h12_⟩
             have n0_ : Aside0 (w42.heap[gb325]? = some (.cells #[.int .i64 a0_0, .int .i64 a0_1, .slice A0_2 l0_2.length c0_2] 33 (0, 0))) := ⟨h0_⟩
             have n1_ : Aside0 (w42.heap[gb326]? = some (.cells #[.int .i64 a1_0, .int .i64 a1_1, .int .i64 a1_2] 37 (0, 0))) := ⟨h1_⟩
             have n2_ : Aside0 (w42.heap[gb327]? = some (.cells #[.int .i64 0, .int .i64 0, .slice none 0 0] 33 (0, 0))) := ⟨h2_⟩
             have n3_ : Aside0 (w42.heap[gb337]? = some (.cells #[.int .i64 0, .int .i64 0, .slice none 0 0] 33 (0, 0))) := ⟨h3_⟩
             have n4_ : Aside0 (w.heap.size ≤ gb337) := ⟨h4_⟩
             have n5_ : Aside0 (w.heap.size ≤ gb337) := ⟨h5_⟩
             have n6_ : Aside0 (gb325 ≠ gb337) := ⟨h6_⟩
             have n7_ : Aside0 (gb337 ≠ gb325) := ⟨h7_⟩
             have n8_ : Aside0 (gb326 ≠ gb337) := ⟨h8_⟩
             have n9_ : Aside0 (gb337 ≠ gb326) := ⟨h9_⟩
             have n10_ : Aside0 (gb327 ≠ gb337) := ⟨h10_⟩
             have n11_ : Aside0 (gb337 ≠ gb327) := ⟨h11_⟩
             have n12_ : Aside0 (Below w.heap.size w w42) := ⟨h12_⟩
             clear BK325 BK326 BK327 HB h0_ h1_ h2_ h3_ h4_ h5_ h6_ h7_ h8_ h9_ h10_ h11_ h12_
             have BK325 := n0_
             have BK326 := n1_
             have BK327 := n2_
             have BK337 := n3_
             have GW337 := n4_
             have GE337 := n5_
             have NB325_337 := n6_
             have NB337_325 := n7_
             have NB326_337 := n8_
             have NB337_326 := n9_
             have NB327_337 := n10_
             have NB337_327 := n11_
             have HB := n12_
             clear n0_ n1_ n2_ n3_ n4_ n5_ n6_ n7_ n8_ n9_ n10_ n11_ n12_
             have hHeld : w42.cell? ⟨gb325, 0, none⟩ = some (.int .i64 a0_0) ∧ w42.cell? ⟨gb325, 1, none⟩ = some (.int .i64 a0_1) ∧ w42.cell? ⟨gb325, 2, none⟩ = some (.slice A0_2 l0_2.length c0_2) ∧ w42.cell? ⟨gb326, 0, none⟩ = some (.int .i64 a1_0) ∧ w42.cell? ⟨gb326, 1, none⟩ = some (.int .i64 a1_1) ∧ w42.cell? ⟨gb326, 2, none⟩ = some (.int .i64 a1_2) := hS_
             refine norm_ (a' := ?_) ?_ ?_
             rotate_left
             · simp only [putAll, Act.put, List.setIfInBounds_toArray, List.set_cons_zero, List.set_cons_succ]
              rfl
             refine two_ (i := 4) (j := 6) (Ni := some 11) (Nj := some 13) #[true, true, true, true, true, true, false, false, false, true, false] #[true, true, true, true, false, true, true, false, false, true, false] rfl rfl rfl rfl (two_of HT_.out (by kernel_rfl)) (by decide) (by decide) (fun K hK => ?_) (fun K hK => ?_)
             · skip
              refine goes_ Try.func23 (by kernel_rfl) rfl #[.slice A0_2 l0_2.length c0_2] (by rfl) rfl rfl (by (try simp only [List.map_toArray, List.map_cons, List.map_nil]); first | done | rfl | (simp only [List.length_drop, List.length_take]; rfl)) ?_
              with_reducible refine (slices_Clone_impl_Clue_impl_Clue.calls _ _ l0_2 t328 _ ?side1 ?side2 A3.out).mono ?_
              (case side1 => repeat (first | exact (Kd.C_below HR0_2.out HB.out) | (with_reducible refine Kd.C_alloc ?_ _) | (with_reducible refine Kd.C_drewN ?_ _) | (with_reducible refine Kd.C_drew ?_)))
              (case side2 => exact HC0_2.out)
              rintro e w43 ⟨v329, rfl, ho0, hb⟩
              refine ⟨_, rfl, ?_⟩
              have n0_ := amk (Kd.R_lower (Kd.R_newB ho0 (g := gb326) (o := .cells #[.int .i64 a1_0, .int .i64 a1_1, .int .i64 a1_2] 37 (0, 0)) BK326.out) (below_size HB.out))
              have n1_ := amk (blk_below BK325.out hb)
              have n2_ := amk (blk_below BK326.out hb)
              have n3_ := amk (blk_below BK327.out hb)
              have n4_ := amk (blk_below BK337.out hb)
              have n5_ := amk (bp_ HB.out hb)
              clear BK325 BK326 BK327 BK337 HB
              have HO330 := n0_
              have BK325 := n1_
              have BK326 := n2_
              have BK327 := n3_
              have BK337 := n4_
              have HB := n5_
              clear n0_ n1_ n2_ n3_ n4_ n5_
              (try clear hb)
              (try clear hb2)
              (try clear hk)
              (try clear hi)
              (try clear ho0)
              refine hK.out _ _ ⟨(blk_cell BK325.out 0).trans rfl, (blk_cell BK325.out 1).trans rfl, (blk_cell BK325.out 2).trans rfl, (blk_cell BK326.out 0).trans rfl, (blk_cell BK326.out 1).trans rfl, (blk_cell BK326.out 2).trans rfl⟩ (fun hHeld => ?_)
              clear hK K
              refine norm_ (a' := ?_) ?_ ?_
              rotate_left
              · show Act.put _ (some 11) _ = _
               simp only [Act.put, List.setIfInBounds_toArray, List.set_cons_zero, List.set_cons_succ, i64_w, i32_w]
               rfl
              exact norm_ (by first | (simp only [putAll, Act.put, List.setIfInBounds_toArray, List.set_cons_zero, List.set_cons_succ]; done) | (simp only [putAll, Act.put, List.setIfInBounds_toArray, List.set_cons_zero, List.set_cons_succ]; rfl)) (hJ4_9 (v329, gb337) _ ⟨hHeld, (by (with_reducible repeat (first | apply Kd.R_alloc | apply Kd.R_drewN | apply Kd.R_drew)); exact Kd.R_mono HO330.out (fun _ hk => hk.2)), BK325.out, BK326.out, BK327.out, BK337.out, GW337.out, GE337.out, NB325_337.out, NB337_325.out, NB326_337.out, NB337_326.out, NB327_337.out, NB337_327.out, HB.out⟩)
             · skip
              refine Kd.R_lit_step k37 _ 37 ?hg (N := 13) ?hd (xs := ([(⟨a1_0, a1_1, a1_2⟩ : S37)] : List (S37))) (inner := [.int .i64 a1_0, .int .i64 a1_1, .int .i64 a1_2]) (ok := fun _ => True) (okp := fun _ => True) ?hr ?hp (fun _ hk => hk) trivial (Below.refl _ _) (Nat.le_refl _) (by simp) ?_; (case hd => rfl); (case hg => rfl); (case hr => first | (go_simp; done) | (go_simp; rfl)); (case hp => exact (Reps.c3 (show Kd.M k37 _ _ _ (⟨a1_0, a1_1, a1_2⟩ : S37) [.int .i64 a1_0, .int .i64 a1_1, .int .i64 a1_2] from (k37_mkM _ _ _ (⟨a1_0, a1_1, a1_2⟩ : S37) )) (Reps.none _ _)))
              intro v332 w43 ho44 hb hg_ hnew_
              clear hg_ hnew_
              (first | rw [← Ny331.out] at ho44 | (simp only [Int.reduceToNat] at ho44; rw [← Ny331.out] at ho44))
              have n0_ := amk (Kd.R_lower (Kd.R_newB ho44 (g := gb326) (o := .cells #[.int .i64 a1_0, .int .i64 a1_1, .int .i64 a1_2] 37 (0, 0)) BK326.out) (below_size HB.out))
              have n1_ := amk (blk_below BK325.out hb)
              have n2_ := amk (blk_below BK326.out hb)
              have n3_ := amk (blk_below BK327.out hb)
              have n4_ := amk (blk_below BK337.out hb)
              have n5_ := amk (bp_ HB.out hb)
              clear BK325 BK326 BK327 BK337 HB
              have HO333 := n0_
              have BK325 := n1_
              have BK326 := n2_
              have BK327 := n3_
              have BK337 := n4_
              have HB := n5_
              clear n0_ n1_ n2_ n3_ n4_ n5_ hb ho44
              refine hK.out _ _ ⟨(blk_cell BK325.out 0).trans rfl, (blk_cell BK325.out 1).trans rfl, (blk_cell BK325.out 2).trans rfl, (blk_cell BK326.out 0).trans rfl, (blk_cell BK326.out 1).trans rfl, (blk_cell BK326.out 2).trans rfl⟩ (fun hHeld => ?_)
              clear hK K
              refine norm_ (a' := ?_) ?_ ?_
              rotate_left
              · show Act.put _ (some 13) _ = _
               simp only [Act.put, List.setIfInBounds_toArray, List.set_cons_zero, List.set_cons_succ, i64_w, i32_w]
               rfl
              exact norm_ (by first | (simp only [putAll, Act.put, List.setIfInBounds_toArray, List.set_cons_zero, List.set_cons_succ]; done) | (simp only [putAll, Act.put, List.setIfInBounds_toArray, List.set_cons_zero, List.set_cons_succ]; rfl)) (hJ6_9 (v332, gb337) _ ⟨hHeld, (by (with_reducible repeat (first | apply Kd.R_alloc | apply Kd.R_drewN | apply Kd.R_drew)); exact Kd.R_mono HO333.out (fun _ hk => hk.2)), BK325.out, BK326.out, BK327.out, BK337.out, GW337.out, GE337.out, NB325_337.out, NB337_325.out, NB326_337.out, NB337_326.out, NB327_337.out, NB337_327.out, HB.out⟩)
           · skip
            rintro v332 w43 ⟨hS_, h0_, h1_, h2_, h3_, h4_⟩
            have n0_ : Aside0 (Kd.R k37 37 w43 w.heap.size (fun k_ => k_ ≠ gb326) v332 y331) := ⟨h0_⟩
            have n1_ : Aside0 (w43.heap[gb325]? = some (.cells #[.int .i64 a0_0, .int .i64 a0_1, .slice A0_2 l0_2.length c0_2] 33 (0, 0))) := ⟨h1_⟩
            have n2_ : Aside0 (w43.heap[gb326]? = some (.cells #[.int .i64 a1_0, .int .i64 a1_1, .int .i64 a1_2] 37 (0, 0))) := ⟨h2_⟩
            have n3_ : Aside0 (w43.heap[gb327]? = some (.cells #[.int .i64 0, .int .i64 0, .slice none 0 0] 33 (0, 0))) := ⟨h3_⟩
            have n4_ : Aside0 (Below w.heap.size w w43) := ⟨h4_⟩
            clear BK325 BK326 BK327 HB h0_ h1_ h2_ h3_ h4_
            have HO333 := n0_
            have BK325 := n1_
            have BK326 := n2_
            have BK327 := n3_
            have HB := n4_
            clear n0_ n1_ n2_ n3_ n4_
            have hHeld : w43.cell? ⟨gb325, 0, none⟩ = some (.int .i64 a0_0) ∧ w43.cell? ⟨gb325, 1, none⟩ = some (.int .i64 a0_1) ∧ w43.cell? ⟨gb325, 2, none⟩ = some (.slice A0_2 l0_2.length c0_2) ∧ w43.cell? ⟨gb326, 0, none⟩ = some (.int .i64 a1_0) ∧ w43.cell? ⟨gb326, 1, none⟩ = some (.int .i64 a1_1) ∧ w43.cell? ⟨gb326, 2, none⟩ = some (.int .i64 a1_2) := hS_
            refine norm_ (a' := ?_) ?_ ?_
            rotate_left
            · simp only [putAll, Act.put, List.setIfInBounds_toArray, List.set_cons_zero, List.set_cons_succ]
             rfl
            refine two_ (i := 4) (j := 9) (Ni := some 11) (Nj := some 6) #[true, true, true, true, true, true, true, false, false, false, false] #[true, true, true, true, false, true, true, false, false, true, false] rfl rfl rfl rfl (two_of HT_.out (by kernel_rfl)) (by decide) (by decide) (fun K hK => ?_) (fun K hK => ?_)
            · skip
             refine goes_ Try.func23 (by kernel_rfl) rfl #[.slice A0_2 l0_2.length c0_2] (by rfl) rfl rfl (by (try simp only [List.map_toArray, List.map_cons, List.map_nil]); first | done | rfl | (simp only [List.length_drop, List.length_take]; rfl)) ?_
             with_reducible refine (slices_Clone_impl_Clue_impl_Clue.calls _ _ l0_2 t328 _ ?side1 ?side2 A3.out).mono ?_
             (case side1 => repeat (first | exact (Kd.C_below HR0_2.out HB.out) | (with_reducible refine Kd.C_alloc ?_ _) | (with_reducible refine Kd.C_drewN ?_ _) | (with_reducible refine Kd.C_drew ?_)))
             (case side2 => exact HC0_2.out)
             rintro e w44 ⟨v329, rfl, ho0, hb⟩
             refine ⟨_, rfl, ?_⟩
             have n0_ := amk (Kd.R_elder' HO333.out (Kd.R_base ho0) hb)
             have n1_ := amk (Kd.R_lower (Kd.R_newB (Kd.R_new' ho0 (Kd.R_lt HO333.out)) (g := gb326) (o := .cells #[.int .i64 a1_0, .int .i64 a1_1, .int .i64 a1_2] 37 (0, 0)) BK326.out) (below_size HB.out))
             have n2_ := amk (blk_below BK325.out hb)
             have n3_ := amk (blk_below BK326.out hb)
             have n4_ := amk (blk_below BK327.out hb)
             have n5_ := amk (bp_ HB.out hb)
             clear HO333 BK325 BK326 BK327 HB
             have HO333 := n0_
             have HO330 := n1_
             have BK325 := n2_
             have BK326 := n3_
             have BK327 := n4_
             have HB := n5_
             clear n0_ n1_ n2_ n3_ n4_ n5_
             (try clear hb)
             (try clear hb2)
             (try clear hk)
             (try clear hi)
             (try clear ho0)
             refine hK.out _ _ ⟨(blk_cell BK325.out 0).trans rfl, (blk_cell BK325.out 1).trans rfl, (blk_cell BK325.out 2).trans rfl, (blk_cell BK326.out 0).trans rfl, (blk_cell BK326.out 1).trans rfl, (blk_cell BK326.out 2).trans rfl⟩ (fun hHeld => ?_)
             clear hK K
             refine norm_ (a' := ?_) ?_ ?_
             rotate_left
             · show Act.put _ (some 11) _ = _
              simp only [Act.put, List.setIfInBounds_toArray, List.set_cons_zero, List.set_cons_succ, i64_w, i32_w]
              rfl
             exact norm_ (by first | (simp only [putAll, Act.put, List.setIfInBounds_toArray, List.set_cons_zero, List.set_cons_succ]; done) | (simp only [putAll, Act.put, List.setIfInBounds_toArray, List.set_cons_zero, List.set_cons_succ]; rfl)) (hJ4_6 (v329, v332) _ ⟨hHeld, (by (with_reducible repeat (first | apply Kd.R_alloc | apply Kd.R_drewN | apply Kd.R_drew)); exact Kd.R_mono HO330.out (fun _ hk => ⟨hk.1.2, hk.2⟩)), (by (with_reducible repeat (first | apply Kd.R_alloc | apply Kd.R_drewN | apply Kd.R_drew)); exact Kd.R_mono HO333.out (fun _ hk => ⟨hk.2, hk.1⟩)), BK325.out, BK326.out, BK327.out, HB.out⟩)
            · skip
             refine box_step ?hg (N := 6) ?hd (cs := #[.int .i64 0, .int .i64 0, .slice none 0 0]) (t := 33) ?hr ?_; (case hd => rfl); (case hg => rfl); (case hr => first | (go_simp; done) | (go_simp; rfl))
             intro gb337 hg w44 hbox hb
             have n0_ := amk (Kd.R_below HO333.out hb)
             have n1_ := amk (blk_below BK325.out hb)
             have n2_ := amk (blk_below BK326.out hb)
             have n3_ := amk (blk_below BK327.out hb)
             have n4_ := amk (bp_ HB.out hb)
             have n5_ := amk (hbox)
             have n6_ := amk ((by rw [hg]; exact (below_size HB.out) : w.heap.size ≤ gb337))
             have n7_ := amk ((by rw [hg]; exact (below_size HB.out) : w.heap.size ≤ gb337))
             have n8_ := amk ((by rw [hg]; exact Nat.ne_of_lt (blk_lt BK325.out) : gb325 ≠ gb337))
             have n9_ := amk ((by rw [hg]; exact Nat.ne_of_gt (blk_lt BK325.out) : gb337 ≠ gb325))
             have n10_ := amk ((by rw [hg]; exact Nat.ne_of_lt (blk_lt BK326.out) : gb326 ≠ gb337))
             have n11_ := amk ((by rw [hg]; exact Nat.ne_of_gt (blk_lt BK326.out) : gb337 ≠ gb326))
             have n12_ := amk ((by rw [hg]; exact Nat.ne_of_lt (blk_lt BK327.out) : gb327 ≠ gb337))
             have n13_ := amk ((by rw [hg]; exact Nat.ne_of_gt (blk_lt BK327.out) : gb337 ≠ gb327))
             clear HO333 BK325 BK326 BK327 HB
             have HO333 := n0_
             have BK325 := n1_
             have BK326 := n2_
             have BK327 := n3_
             have HB := n4_
             have BK337 := n5_
             have GW337 := n6_
             have GE337 := n7_
             have NB325_337 := n8_
             have NB337_325 := n9_
             have NB326_337 := n10_
             have NB337_326 := n11_
             have NB327_337 := n12_
             have NB337_327 := n13_
             clear n0_ n1_ n2_ n3_ n4_ n5_ n6_ n7_ n8_ n9_ n10_ n11_ n12_ n13_ hb hbox hg
             refine hK.out _ _ ⟨(blk_cell BK325.out 0).trans rfl, (blk_cell BK325.out 1).trans rfl, (blk_cell BK325.out 2).trans rfl, (blk_cell BK326.out 0).trans rfl, (blk_cell BK326.out 1).trans rfl, (blk_cell BK326.out 2).trans rfl⟩ (fun hHeld => ?_)
             clear hK K
             refine norm_ (a' := ?_) ?_ ?_
             rotate_left
             · show Act.put _ (some 6) _ = _
              simp only [Act.put, List.setIfInBounds_toArray, List.set_cons_zero, List.set_cons_succ, i64_w, i32_w]
              rfl
             exact norm_ (by first | (simp only [putAll, Act.put, List.setIfInBounds_toArray, List.set_cons_zero, List.set_cons_succ]; done) | (simp only [putAll, Act.put, List.setIfInBounds_toArray, List.set_cons_zero, List.set_cons_succ]; rfl)) (hJ6_9 (v332, gb337) _ ⟨hHeld, HO333.out, BK325.out, BK326.out, BK327.out, BK337.out, GW337.out, GE337.out, NB325_337.out, NB337_325.out, NB326_337.out, NB337_326.out, NB327_337.out, NB337_327.out, HB.out⟩)
          · skip
           rintro v329 w42 ⟨hS_, h0_, h1_, h2_, h3_, h4_⟩
           have n0_ : Aside0 (Kd.R k37 37 w42 w.heap.size (fun k_ => k_ ≠ gb326) v329 t328) := ⟨h0_⟩
           have n1_ : Aside0 (w42.heap[gb325]? = some (.cells #[.int .i64 a0_0, .int .i64 a0_1, .slice A0_2 l0_2.length c0_2] 33 (0, 0))) := ⟨h1_⟩
           have n2_ : Aside0 (w42.heap[gb326]? = some (.cells #[.int .i64 a1_0, .int .i64 a1_1, .int .i64 a1_2] 37 (0, 0))) := ⟨h2_⟩
           have n3_ : Aside0 (w42.heap[gb327]? = some (.cells #[.int .i64 0, .int .i64 0, .slice none 0 0] 33 (0, 0))) := ⟨h3_⟩
           have n4_ : Aside0 (Below w.heap.size w w42) := ⟨h4_⟩
           clear BK325 BK326 BK327 HB h0_ h1_ h2_ h3_ h4_
           have HO330 := n0_
           have BK325 := n1_
           have BK326 := n2_
           have BK327 := n3_
           have HB := n4_
           clear n0_ n1_ n2_ n3_ n4_
           have hHeld : w42.cell? ⟨gb325, 0, none⟩ = some (.int .i64 a0_0) ∧ w42.cell? ⟨gb325, 1, none⟩ = some (.int .i64 a0_1) ∧ w42.cell? ⟨gb325, 2, none⟩ = some (.slice A0_2 l0_2.length c0_2) ∧ w42.cell? ⟨gb326, 0, none⟩ = some (.int .i64 a1_0) ∧ w42.cell? ⟨gb326, 1, none⟩ = some (.int .i64 a1_1) ∧ w42.cell? ⟨gb326, 2, none⟩ = some (.int .i64 a1_2) := hS_
           refine norm_ (a' := ?_) ?_ ?_
           rotate_left
           · simp only [putAll, Act.put, List.setIfInBounds_toArray, List.set_cons_zero, List.set_cons_succ]
            rfl
           refine two_ (i := 6) (j := 9) (Ni := some 13) (Nj := some 6) #[true, true, true, true, true, true, true, false, false, false, false] #[true, true, true, true, true, true, false, false, false, true, false] rfl rfl rfl rfl (two_of HT_.out (by kernel_rfl)) (by decide) (by decide) (fun K hK => ?_) (fun K hK => ?_)
           · skip
            refine Kd.R_lit_step k37 _ 37 ?hg (N := 13) ?hd (xs := ([(⟨a1_0, a1_1, a1_2⟩ : S37)] : List (S37))) (inner := [.int .i64 a1_0, .int .i64 a1_1, .int .i64 a1_2]) (ok := fun _ => True) (okp := fun _ => True) ?hr ?hp (fun _ hk => hk) trivial (Below.refl _ _) (Nat.le_refl _) (by simp) ?_; (case hd => rfl); (case hg => rfl); (case hr => first | (go_simp; done) | (go_simp; rfl)); (case hp => exact (Reps.c3 (show Kd.M k37 _ _ _ (⟨a1_0, a1_1, a1_2⟩ : S37) [.int .i64 a1_0, .int .i64 a1_1, .int .i64 a1_2] from (k37_mkM _ _ _ (⟨a1_0, a1_1, a1_2⟩ : S37) )) (Reps.none _ _)))
            intro v332 w43 ho44 hb hg_ hnew_
            clear hg_ hnew_
            (first | rw [← Ny331.out] at ho44 | (simp only [Int.reduceToNat] at ho44; rw [← Ny331.out] at ho44))
            have n0_ := amk (Kd.R_elder' HO330.out (Kd.R_base ho44) hb)
            have n1_ := amk (Kd.R_lower (Kd.R_newB (Kd.R_new' ho44 (Kd.R_lt HO330.out)) (g := gb326) (o := .cells #[.int .i64 a1_0, .int .i64 a1_1, .int .i64 a1_2] 37 (0, 0)) BK326.out) (below_size HB.out))
            have n2_ := amk (blk_below BK325.out hb)
            have n3_ := amk (blk_below BK326.out hb)
            have n4_ := amk (blk_below BK327.out hb)
            have n5_ := amk (bp_ HB.out hb)
            clear HO330 BK325 BK326 BK327 HB
            have HO330 := n0_
            have HO333 := n1_
            have BK325 := n2_
            have BK326 := n3_
            have BK327 := n4_
            have HB := n5_
            clear n0_ n1_ n2_ n3_ n4_ n5_ hb ho44
            refine hK.out _ _ ⟨(blk_cell BK325.out 0).trans rfl, (blk_cell BK325.out 1).trans rfl, (blk_cell BK325.out 2).trans rfl, (blk_cell BK326.out 0).trans rfl, (blk_cell BK326.out 1).trans rfl, (blk_cell BK326.out 2).trans rfl⟩ (fun hHeld => ?_)
            clear hK K
            refine norm_ (a' := ?_) ?_ ?_
            rotate_left
            · show Act.put _ (some 13) _ = _
             simp only [Act.put, List.setIfInBounds_toArray, List.set_cons_zero, List.set_cons_succ, i64_w, i32_w]
             rfl
            exact norm_ (by first | (simp only [putAll, Act.put, List.setIfInBounds_toArray, List.set_cons_zero, List.set_cons_succ]; done) | (simp only [putAll, Act.put, List.setIfInBounds_toArray, List.set_cons_zero, List.set_cons_succ]; rfl)) (hJ4_6 (v329, v332) _ ⟨hHeld, (by (with_reducible repeat (first | apply Kd.R_alloc | apply Kd.R_drewN | apply Kd.R_drew)); exact Kd.R_mono HO330.out (fun _ hk => ⟨hk.2, hk.1⟩)), (by (with_reducible repeat (first | apply Kd.R_alloc | apply Kd.R_drewN | apply Kd.R_drew)); exact Kd.R_mono HO333.out (fun _ hk => ⟨hk.1.2, hk.2⟩)), BK325.out, BK326.out, BK327.out, HB.out⟩)
           · skip
            refine box_step ?hg (N := 6) ?hd (cs := #[.int .i64 0, .int .i64 0, .slice none 0 0]) (t := 33) ?hr ?_; (case hd => rfl); (case hg => rfl); (case hr => first | (go_simp; done) | (go_simp; rfl))
            intro gb337 hg w43 hbox hb
            have n0_ := amk (Kd.R_below HO330.out hb)
            have n1_ := amk (blk_below BK325.out hb)
            have n2_ := amk (blk_below BK326.out hb)
            have n3_ := amk (blk_below BK327.out hb)
            have n4_ := amk (bp_ HB.out hb)
            have n5_ := amk (hbox)
            have n6_ := amk ((by rw [hg]; exact (below_size HB.out) : w.heap.size ≤ gb337))
            have n7_ := amk ((by rw [hg]; exact (below_size HB.out) : w.heap.size ≤ gb337))
            have n8_ := amk ((by rw [hg]; exact Nat.ne_of_lt (blk_lt BK325.out) : gb325 ≠ gb337))
            have n9_ := amk ((by rw [hg]; exact Nat.ne_of_gt (blk_lt BK325.out) : gb337 ≠ gb325))
            have n10_ := amk ((by rw [hg]; exact Nat.ne_of_lt (blk_lt BK326.out) : gb326 ≠ gb337))
            have n11_ := amk ((by rw [hg]; exact Nat.ne_of_gt (blk_lt BK326.out) : gb337 ≠ gb326))
            have n12_ := amk ((by rw [hg]; exact Nat.ne_of_lt (blk_lt BK327.out) : gb327 ≠ gb337))
            have n13_ := amk ((by rw [hg]; exact Nat.ne_of_gt (blk_lt BK327.out) : gb337 ≠ gb327))
            clear HO330 BK325 BK326 BK327 HB
            have HO330 := n0_
            have BK325 := n1_
            have BK326 := n2_
            have BK327 := n3_
            have HB := n4_
            have BK337 := n5_
            have GW337 := n6_
            have GE337 := n7_
            have NB325_337 := n8_
            have NB337_325 := n9_
            have NB326_337 := n10_
            have NB337_326 := n11_
            have NB327_337 := n12_
            have NB337_327 := n13_
            clear n0_ n1_ n2_ n3_ n4_ n5_ n6_ n7_ n8_ n9_ n10_ n11_ n12_ n13_ hb hbox hg
            refine hK.out _ _ ⟨(blk_cell BK325.out 0).trans rfl, (blk_cell BK325.out 1).trans rfl, (blk_cell BK325.out 2).trans rfl, (blk_cell BK326.out 0).trans rfl, (blk_cell BK326.out 1).trans rfl, (blk_cell BK326.out 2).trans rfl⟩ (fun hHeld => ?_)
            clear hK K
            refine norm_ (a' := ?_) ?_ ?_
            rotate_left
            · show Act.put _ (some 6) _ = _
             simp only [Act.put, List.setIfInBounds_toArray, List.set_cons_zero, List.set_cons_succ, i64_w, i32_w]
             rfl
            exact norm_ (by first | (simp only [putAll, Act.put, List.setIfInBounds_toArray, List.set_cons_zero, List.set_cons_succ]; done) | (simp only [putAll, Act.put, List.setIfInBounds_toArray, List.set_cons_zero, List.set_cons_succ]; rfl)) (hJ4_9 (v329, gb337) _ ⟨hHeld, HO330.out, BK325.out, BK326.out, BK327.out, BK337.out, GW337.out, GE337.out, NB325_337.out, NB337_325.out, NB326_337.out, NB337_326.out, NB327_337.out, NB337_327.out, HB.out⟩)
         · skip
          rintro ⟨v332, gb337⟩ w44 ⟨hS_, h0_, h1_, h2_, h3_, h4_, h5_, h6_, h7_, h8_, h9_, h10_, h11_, h12_, h13_⟩
          have n0_ : Aside0 (Kd.R k37 37 w44 w.heap.size (fun k_ => k_ ≠ gb326) v332 y331) := ⟨h0_⟩
          have n1_ : Aside0 (w44.heap[gb325]? = some (.cells #[.int .i64 a0_0, .int .i64 a0_1, .slice A0_2 l0_2.length c0_2] 33 (0, 0))) := ⟨h1_⟩
          have n2_ : Aside0 (w44.heap[gb326]? = some (.cells #[.int .i64 a1_0, .int .i64 a1_1, .int .i64 a1_2] 37 (0, 0))) := ⟨h2_⟩
          have n3_ : Aside0 (w44.heap[gb327]? = some (.cells #[.int .i64 0, .int .i64 0, .slice none 0 0] 33 (0, 0))) := ⟨h3_⟩
          have n4_ : Aside0 (w44.heap[gb337]? = some (.cells #[.int .i64 0, .int .i64 0, .slice none 0 0] 33 (0, 0))) := ⟨h4_⟩
          have n5_ : Aside0 (w.heap.size ≤ gb337) := ⟨h5_⟩
          have n6_ : Aside0 (w.heap.size ≤ gb337) := ⟨h6_⟩
          have n7_ : Aside0 (gb325 ≠ gb337) := ⟨h7_⟩
          have n8_ : Aside0 (gb337 ≠ gb325) := ⟨h8_⟩
          have n9_ : Aside0 (gb326 ≠ gb337) := ⟨h9_⟩
          have n10_ : Aside0 (gb337 ≠ gb326) := ⟨h10_⟩
          have n11_ : Aside0 (gb327 ≠ gb337) := ⟨h11_⟩
          have n12_ : Aside0 (gb337 ≠ gb327) := ⟨h12_⟩
          have n13_ : Aside0 (Below w.heap.size w w44) := ⟨h13_⟩
          clear BK325 BK326 BK327 HB h0_ h1_ h2_ h3_ h4_ h5_ h6_ h7_ h8_ h9_ h10_ h11_ h12_ h13_
          have HO333 := n0_
          have BK325 := n1_
          have BK326 := n2_
          have BK327 := n3_
          have BK337 := n4_
          have GW337 := n5_
          have GE337 := n6_
          have NB325_337 := n7_
          have NB337_325 := n8_
          have NB326_337 := n9_
          have NB337_326 := n10_
          have NB327_337 := n11_
          have NB337_327 := n12_
          have HB := n13_
          clear n0_ n1_ n2_ n3_ n4_ n5_ n6_ n7_ n8_ n9_ n10_ n11_ n12_ n13_
          have hHeld : w44.cell? ⟨gb325, 0, none⟩ = some (.int .i64 a0_0) ∧ w44.cell? ⟨gb325, 1, none⟩ = some (.int .i64 a0_1) ∧ w44.cell? ⟨gb325, 2, none⟩ = some (.slice A0_2 l0_2.length c0_2) ∧ w44.cell? ⟨gb326, 0, none⟩ = some (.int .i64 a1_0) ∧ w44.cell? ⟨gb326, 1, none⟩ = some (.int .i64 a1_1) ∧ w44.cell? ⟨gb326, 2, none⟩ = some (.int .i64 a1_2) := hS_
          refine norm_ (a' := ?_) ?_ ?_
          rotate_left
          · simp only [putAll, Act.put, List.setIfInBounds_toArray, List.set_cons_zero, List.set_cons_succ]
           rfl
          refine one_ (i := 4) (N := some 11) #[true, true, true, true, true, true, true, false, false, true, false] rfl rfl (one_of HT_.out (by kernel_rfl)) (by decide) (fun K hK => ?_)
          refine goes_ Try.func23 (by kernel_rfl) rfl #[.slice A0_2 l0_2.length c0_2] (by rfl) rfl rfl (by (try simp only [List.map_toArray, List.map_cons, List.map_nil]); first | done | rfl | (simp only [List.length_drop, List.length_take]; rfl)) ?_
          with_reducible refine (slices_Clone_impl_Clue_impl_Clue.calls _ _ l0_2 t328 _ ?side1 ?side2 A3.out).mono ?_
          (case side1 => repeat (first | exact (Kd.C_below HR0_2.out HB.out) | (with_reducible refine Kd.C_alloc ?_ _) | (with_reducible refine Kd.C_drewN ?_ _) | (with_reducible refine Kd.C_drew ?_)))
          (case side2 => exact HC0_2.out)
          rintro e w45 ⟨v329, rfl, ho0, hb⟩
          refine ⟨_, rfl, ?_⟩
          have n0_ := amk (Kd.R_elder' HO333.out (Kd.R_base ho0) hb)
          have n1_ := amk (Kd.R_lower (Kd.R_newB (Kd.R_new' ho0 (Kd.R_lt HO333.out)) (g := gb326) (o := .cells #[.int .i64 a1_0, .int .i64 a1_1, .int .i64 a1_2] 37 (0, 0)) BK326.out) (below_size HB.out))
          have n2_ := amk (blk_below BK325.out hb)
          have n3_ := amk (blk_below BK326.out hb)
          have n4_ := amk (blk_below BK327.out hb)
          have n5_ := amk (blk_below BK337.out hb)
          have n6_ := amk (bp_ HB.out hb)
          clear HO333 BK325 BK326 BK327 BK337 HB
          have HO333 := n0_
          have HO330 := n1_
          have BK325 := n2_
          have BK326 := n3_
          have BK327 := n4_
          have BK337 := n5_
          have HB := n6_
          clear n0_ n1_ n2_ n3_ n4_ n5_ n6_
          (try clear hb)
          (try clear hb2)
          (try clear hk)
          (try clear hi)
          (try clear ho0)
          refine hK.out _ _ ⟨(blk_cell BK325.out 0).trans rfl, (blk_cell BK325.out 1).trans rfl, (blk_cell BK325.out 2).trans rfl, (blk_cell BK326.out 0).trans rfl, (blk_cell BK326.out 1).trans rfl, (blk_cell BK326.out 2).trans rfl⟩ (fun hHeld => ?_)
          clear hK K
          refine norm_ (a' := ?_) ?_ ?_
          rotate_left
          · show Act.put _ (some 11) _ = _
           simp only [Act.put, List.setIfInBounds_toArray, List.set_cons_zero, List.set_cons_succ, i64_w, i32_w]
           rfl
          exact norm_ (by first | (simp only [putAll, Act.put, List.setIfInBounds_toArray, List.set_cons_zero, List.set_cons_succ]; done) | (simp only [putAll, Act.put, List.setIfInBounds_toArray, List.set_cons_zero, List.set_cons_succ]; rfl)) (hJ4_6_9 (v329, v332, gb337) _ ⟨hHeld, (by (with_reducible repeat (first | apply Kd.R_alloc | apply Kd.R_drewN | apply Kd.R_drew)); exact Kd.R_mono HO330.out (fun _ hk => ⟨hk.1.2, hk.2⟩)), (by (with_reducible repeat (first | apply Kd.R_alloc | apply Kd.R_drewN | apply Kd.R_drew)); exact Kd.R_mono HO333.out (fun _ hk => ⟨hk.2, hk.1⟩)), BK325.out, BK326.out, BK327.out, BK337.out, GW337.out, GE337.out, NB325_337.out, NB337_325.out, NB326_337.out, NB337_326.out, NB327_337.out, NB337_327.out, HB.out⟩)
        · skip
         rintro ⟨v329, gb337⟩ w43 ⟨hS_, h0_, h1_, h2_, h3_, h4_, h5_, h6_, h7_, h8_, h9_, h10_, h11_, h12_, h13_⟩
         have n0_ : Aside0 (Kd.R k37 37 w43 w.heap.size (fun k_ => k_ ≠ gb326) v329 t328) := ⟨h0_⟩
         have n1_ : Aside0 (w43.heap[gb325]? = some (.cells #[.int .i64 a0_0, .int .i64 a0_1, .slice A0_2 l0_2.length c0_2] 33 (0, 0))) := ⟨h1_⟩
         have n2_ : Aside0 (w43.heap[gb326]? = some (.cells #[.int .i64 a1_0, .int .i64 a1_1, .int .i64 a1_2] 37 (0, 0))) := ⟨h2_⟩
         have n3_ : Aside0 (w43.heap[gb327]? = some (.cells #[.int .i64 0, .int .i64 0, .slice none 0 0] 33 (0, 0))) := ⟨h3_⟩
         have n4_ : Aside0 (w43.heap[gb337]? = some (.cells #[.int .i64 0, .int .i64 0, .slice none 0 0] 33 (0, 0))) := ⟨h4_⟩
         have n5_ : Aside0 (w.heap.size ≤ gb337) := ⟨h5_⟩
         have n6_ : Aside0 (w.heap.size ≤ gb337) := ⟨h6_⟩
         have n7_ : Aside0 (gb325 ≠ gb337) := ⟨h7_⟩
         have n8_ : Aside0 (gb337 ≠ gb325) := ⟨h8_⟩
         have n9_ : Aside0 (gb326 ≠ gb337) := ⟨h9_⟩
         have n10_ : Aside0 (gb337 ≠ gb326) := ⟨h10_⟩
         have n11_ : Aside0 (gb327 ≠ gb337) := ⟨h11_⟩
         have n12_ : Aside0 (gb337 ≠ gb327) := ⟨h12_⟩
         have n13_ : Aside0 (Below w.heap.size w w43) := ⟨h13_⟩
         clear BK325 BK326 BK327 HB h0_ h1_ h2_ h3_ h4_ h5_ h6_ h7_ h8_ h9_ h10_ h11_ h12_ h13_
         have HO330 := n0_
         have BK325 := n1_
         have BK326 := n2_
         have BK327 := n3_
         have BK337 := n4_
         have GW337 := n5_
         have GE337 := n6_
         have NB325_337 := n7_
         have NB337_325 := n8_
         have NB326_337 := n9_
         have NB337_326 := n10_
         have NB327_337 := n11_
         have NB337_327 := n12_
         have HB := n13_
         clear n0_ n1_ n2_ n3_ n4_ n5_ n6_ n7_ n8_ n9_ n10_ n11_ n12_ n13_
         have hHeld : w43.cell? ⟨gb325, 0, none⟩ = some (.int .i64 a0_0) ∧ w43.cell? ⟨gb325, 1, none⟩ = some (.int .i64 a0_1) ∧ w43.cell? ⟨gb325, 2, none⟩ = some (.slice A0_2 l0_2.length c0_2) ∧ w43.cell? ⟨gb326, 0, none⟩ = some (.int .i64 a1_0) ∧ w43.cell? ⟨gb326, 1, none⟩ = some (.int .i64 a1_1) ∧ w43.cell? ⟨gb326, 2, none⟩ = some (.int .i64 a1_2) := hS_
         refine norm_ (a' := ?_) ?_ ?_
         rotate_left
         · simp only [putAll, Act.put, List.setIfInBounds_toArray, List.set_cons_zero, List.set_cons_succ]
          rfl
         refine one_ (i := 6) (N := some 13) #[true, true, true, true, true, true, true, false, false, true, false] rfl rfl (one_of HT_.out (by kernel_rfl)) (by decide) (fun K hK => ?_)
         refine Kd.R_lit_step k37 _ 37 ?hg (N := 13) ?hd (xs := ([(⟨a1_0, a1_1, a1_2⟩ : S37)] : List (S37))) (inner := [.int .i64 a1_0, .int .i64 a1_1, .int .i64 a1_2]) (ok := fun _ => True) (okp := fun _ => True) ?hr ?hp (fun _ hk => hk) trivial (Below.refl _ _) (Nat.le_refl _) (by simp) ?_; (case hd => rfl); (case hg => rfl); (case hr => first | (go_simp; done) | (go_simp; rfl)); (case hp => exact (Reps.c3 (show Kd.M k37 _ _ _ (⟨a1_0, a1_1, a1_2⟩ : S37) [.int .i64 a1_0, .int .i64 a1_1, .int .i64 a1_2] from (k37_mkM _ _ _ (⟨a1_0, a1_1, a1_2⟩ : S37) )) (Reps.none _ _)))
         intro v332 w44 ho45 hb hg_ hnew_
         clear hg_ hnew_
         (first | rw [← Ny331.out] at ho45 | (simp only [Int.reduceToNat] at ho45; rw [← Ny331.out] at ho45))
         have n0_ := amk (Kd.R_elder' HO330.out (Kd.R_base ho45) hb)
         have n1_ := amk (Kd.R_lower (Kd.R_newB (Kd.R_new' ho45 (Kd.R_lt HO330.out)) (g := gb326) (o := .cells #[.int .i64 a1_0, .int .i64 a1_1, .int .i64 a1_2] 37 (0, 0)) BK326.out) (below_size HB.out))
         have n2_ := amk (blk_below BK325.out hb)
         have n3_ := amk (blk_below BK326.out hb)
         have n4_ := amk (blk_below BK327.out hb)
         have n5_ := amk (blk_below BK337.out hb)
         have n6_ := amk (bp_ HB.out hb)
         clear HO330 BK325 BK326 BK327 BK337 HB
         have HO330 := n0_
         have HO333 := n1_
         have BK325 := n2_
         have BK326 := n3_
         have BK327 := n4_
         have BK337 := n5_
         have HB := n6_
         clear n0_ n1_ n2_ n3_ n4_ n5_ n6_ hb ho45
         refine hK.out _ _ ⟨(blk_cell BK325.out 0).trans rfl, (blk_cell BK325.out 1).trans rfl, (blk_cell BK325.out 2).trans rfl, (blk_cell BK326.out 0).trans rfl, (blk_cell BK326.out 1).trans rfl, (blk_cell BK326.out 2).trans rfl⟩ (fun hHeld => ?_)
         clear hK K
         refine norm_ (a' := ?_) ?_ ?_
         rotate_left
         · show Act.put _ (some 13) _ = _
          simp only [Act.put, List.setIfInBounds_toArray, List.set_cons_zero, List.set_cons_succ, i64_w, i32_w]
          rfl
         exact norm_ (by first | (simp only [putAll, Act.put, List.setIfInBounds_toArray, List.set_cons_zero, List.set_cons_succ]; done) | (simp only [putAll, Act.put, List.setIfInBounds_toArray, List.set_cons_zero, List.set_cons_succ]; rfl)) (hJ4_6_9 (v329, v332, gb337) _ ⟨hHeld, (by (with_reducible repeat (first | apply Kd.R_alloc | apply Kd.R_drewN | apply Kd.R_drew)); exact Kd.R_mono HO330.out (fun _ hk => ⟨hk.2, hk.1⟩)), (by (with_reducible repeat (first | apply Kd.R_alloc | apply Kd.R_drewN | apply Kd.R_drew)); exact Kd.R_mono HO333.out (fun _ hk => ⟨hk.1.2, hk.2⟩)), BK325.out, BK326.out, BK327.out, BK337.out, GW337.out, GE337.out, NB325_337.out, NB337_325.out, NB326_337.out, NB337_326.out, NB327_337.out, NB337_327.out, HB.out⟩)
       · skip
        rintro ⟨v329, v332⟩ w44 ⟨hS_, h0_, h1_, h2_, h3_, h4_, h5_⟩
        have n0_ : Aside0 (Kd.R k37 37 w44 w.heap.size (fun k_ => some k_ ≠ (v332 : Value).ownBlock ∧ k_ ≠ gb326) v329 t328) := ⟨h0_⟩
        have n1_ : Aside0 (Kd.R k37 37 w44 w.heap.size (fun k_ => some k_ ≠ (v329 : Value).ownBlock ∧ k_ ≠ gb326) v332 y331) := ⟨h1_⟩
        have n2_ : Aside0 (w44.heap[gb325]? = some (.cells #[.int .i64 a0_0, .int .i64 a0_1, .slice A0_2 l0_2.length c0_2] 33 (0, 0))) := ⟨h2_⟩
        have n3_ : Aside0 (w44.heap[gb326]? = some (.cells #[.int .i64 a1_0, .int .i64 a1_1, .int .i64 a1_2] 37 (0, 0))) := ⟨h3_⟩
        have n4_ : Aside0 (w44.heap[gb327]? = some (.cells #[.int .i64 0, .int .i64 0, .slice none 0 0] 33 (0, 0))) := ⟨h4_⟩
        have n5_ : Aside0 (Below w.heap.size w w44) := ⟨h5_⟩
        clear BK325 BK326 BK327 HB h0_ h1_ h2_ h3_ h4_ h5_
        have HO330 := n0_
        have HO333 := n1_
        have BK325 := n2_
        have BK326 := n3_
        have BK327 := n4_
        have HB := n5_
        clear n0_ n1_ n2_ n3_ n4_ n5_
        have hHeld : w44.cell? ⟨gb325, 0, none⟩ = some (.int .i64 a0_0) ∧ w44.cell? ⟨gb325, 1, none⟩ = some (.int .i64 a0_1) ∧ w44.cell? ⟨gb325, 2, none⟩ = some (.slice A0_2 l0_2.length c0_2) ∧ w44.cell? ⟨gb326, 0, none⟩ = some (.int .i64 a1_0) ∧ w44.cell? ⟨gb326, 1, none⟩ = some (.int .i64 a1_1) ∧ w44.cell? ⟨gb326, 2, none⟩ = some (.int .i64 a1_2) := hS_
        obtain ⟨Ao46, co46, eo46⟩ := Kd.R_slice HO333.out
        (first | subst eo46 | (injection eo46 with f1_ f2_ f3_; have f4_ := f1_.symm; have f5_ := f3_.symm; clear f1_ f2_ f3_; subst f4_; subst f5_))
        refine norm_ (a' := ?_) ?_ ?_
        rotate_left
        · simp only [putAll, Act.put, List.setIfInBounds_toArray, List.set_cons_zero, List.set_cons_succ]
         rfl
        refine two_ (i := 7) (j := 9) (Ni := some 14) (Nj := some 6) #[true, true, true, true, true, true, true, true, false, false, false] #[true, true, true, true, true, true, true, false, false, true, false] rfl rfl rfl rfl (two_of HT_.out (by kernel_rfl)) (by decide) (by decide) (fun K hK => ?_) (fun K hK => ?_)
        · skip
         refine Kd.R_append_rows_step k37 (w0 := w) w.heap.size (by rfl) (.tmp 11) (.tmp 13) 31 37 (.agg #[(.int .i64 0), (.int .i64 0), (.int .i64 0)]) 24 rfl Try.underlying31 info37 rfl (by decide) (by omega) v329 t328 y331 _ _ _ (fun k_ => some k_ ≠ (.slice Ao46 y331.length co46 : Value).ownBlock ∧ k_ ≠ gb326) (fun _ => False) rfl rfl ?aO ?aR (fun _ _ h => h) (fun _ h => h.elim) ?aF ?aB ?aS ?aL ?_
         (case aR => repeat (first | exact (Kd.R_reads' HO333.out).2.2 | (with_reducible refine Kd.C_alloc ?_ _) | (with_reducible refine Kd.C_drewN ?_ _) | (with_reducible refine Kd.C_drew ?_)))
         (case aB => exact HB.out)
         (case aF => exact (fun k_ hk => ⟨Kd.fresh' (Kd.R_lt HO333.out) k_ hk, Kd.freshB (g := gb326) (o := .cells #[.int .i64 a1_0, .int .i64 a1_1, .int .i64 a1_2] 37 (0, 0)) BK326.out k_ hk⟩))
         (case aO => exact HO330.out)
         (case aS => exact (below_size HB.out))
         (case aL => have := LMc4.out; omega)
         intro v335 w45 ho hb hg hat
         rw [← Ny334.out] at ho
         have n0_ := amk (blk_grown BK325.out hg (Kd.R_ne HO330.out BK325.out (by decide)))
         have n1_ := amk (blk_grown BK326.out hg (Kd.R_away HO330.out (fun _ hk => hk.2)))
         have n2_ := amk (blk_grown BK327.out hg (Kd.R_ne HO330.out BK327.out (by decide)))
         have n3_ := amk (Kd.R_after (ok := (fun k_ => k_ ≠ gb326)) (by (with_reducible repeat (first | apply Kd.R_alloc | apply Kd.R_drewN | apply Kd.R_drew)); exact Kd.R_mono HO333.out (fun _ hk => ⟨hk.2, hk.1⟩)) hg hat)
         have n4_ := amk (hb)
         have n5_ := amk (ho)
         clear BK325 BK326 BK327 HO333 HB HO330
         have BK325 := n0_
         have BK326 := n1_
         have BK327 := n2_
         have HO333 := n3_
         have HB := n4_
         have HO336 := n5_
         clear n0_ n1_ n2_ n3_ n4_ n5_ ho hb hg hat
         obtain ⟨Ao47, co47, eo47⟩ := Kd.R_slice HO336.out
         (first | subst eo47 | (injection eo47 with f1_ f2_ f3_; have f4_ := f1_.symm; have f5_ := f3_.symm; clear f1_ f2_ f3_; subst f4_; subst f5_))
         refine hK.out _ _ ⟨(blk_cell BK325.out 0).trans rfl, (blk_cell BK325.out 1).trans rfl, (blk_cell BK325.out 2).trans rfl, (blk_cell BK326.out 0).trans rfl, (blk_cell BK326.out 1).trans rfl, (blk_cell BK326.out 2).trans rfl⟩ (fun hHeld => ?_)
         clear hK K
         refine norm_ (a' := ?_) ?_ ?_
         rotate_left
         · show Act.put _ (some 14) _ = _
          simp only [Act.put, List.setIfInBounds_toArray, List.set_cons_zero, List.set_cons_succ, i64_w, i32_w]
          rfl
         refine pure_ (i := 8) (N := some 15) (v := ?_) (a' := ?_) #[true, true, true, true, true, true, true, true, true, false, false] rfl rfl (any_of HT_.out (by kernel_rfl)) (fun _ _ _ h => h) (Or.inl ⟨by rfl, ?_⟩) ?_ ?_
         rotate_left
         · intro w'
          go_simp
          with_reducible rfl
         rotate_left
         · simp only [Act.put, List.setIfInBounds_toArray, List.set_cons_zero, List.set_cons_succ, i64_w, i32_w]
          rfl
         exact norm_ (by first | (simp only [putAll, Act.put, List.setIfInBounds_toArray, List.set_cons_zero, List.set_cons_succ]; done) | (simp only [putAll, Act.put, List.setIfInBounds_toArray, List.set_cons_zero, List.set_cons_succ]; rfl)) (hJ4_6_7 (v329, .slice Ao46 y331.length co46, .slice Ao47 y334.length co47) _ ⟨hHeld, (by (with_reducible repeat (first | apply Kd.R_alloc | apply Kd.R_drewN | apply Kd.R_drew)); exact Kd.R_mono HO333.out (fun _ hk => ⟨hk.2, hk.1⟩)), HO336.out, BK325.out, BK326.out, BK327.out, HB.out⟩)
        · skip
         refine box_step ?hg (N := 6) ?hd (cs := #[.int .i64 0, .int .i64 0, .slice none 0 0]) (t := 33) ?hr ?_; (case hd => rfl); (case hg => rfl); (case hr => first | (go_simp; done) | (go_simp; rfl))
         intro gb337 hg w45 hbox hb
         have n0_ := amk (Kd.R_below HO330.out hb)
         have n1_ := amk (Kd.R_below HO333.out hb)
         have n2_ := amk (blk_below BK325.out hb)
         have n3_ := amk (blk_below BK326.out hb)
         have n4_ := amk (blk_below BK327.out hb)
         have n5_ := amk (bp_ HB.out hb)
         have n6_ := amk (hbox)
         have n7_ := amk ((by rw [hg]; exact (below_size HB.out) : w.heap.size ≤ gb337))
         have n8_ := amk ((by rw [hg]; exact (below_size HB.out) : w.heap.size ≤ gb337))
         have n9_ := amk ((by rw [hg]; exact Nat.ne_of_lt (blk_lt BK325.out) : gb325 ≠ gb337))
         have n10_ := amk ((by rw [hg]; exact Nat.ne_of_gt (blk_lt BK325.out) : gb337 ≠ gb325))
         have n11_ := amk ((by rw [hg]; exact Nat.ne_of_lt (blk_lt BK326.out) : gb326 ≠ gb337))
         have n12_ := amk ((by rw [hg]; exact Nat.ne_of_gt (blk_lt BK326.out) : gb337 ≠ gb326))
         have n13_ := amk ((by rw [hg]; exact Nat.ne_of_lt (blk_lt BK327.out) : gb327 ≠ gb337))
         have n14_ := amk ((by rw [hg]; exact Nat.ne_of_gt (blk_lt BK327.out) : gb337 ≠ gb327))
         clear HO330 HO333 BK325 BK326 BK327 HB
         have HO330 := n0_
         have HO333 := n1_
         have BK325 := n2_
         have BK326 := n3_
         have BK327 := n4_
         have HB := n5_
         have BK337 := n6_
         have GW337 := n7_
         have GE337 := n8_
         have NB325_337 := n9_
         have NB337_325 := n10_
         have NB326_337 := n11_
         have NB337_326 := n12_
         have NB327_337 := n13_
         have NB337_327 := n14_
         clear n0_ n1_ n2_ n3_ n4_ n5_ n6_ n7_ n8_ n9_ n10_ n11_ n12_ n13_ n14_ hb hbox hg
         refine hK.out _ _ ⟨(blk_cell BK325.out 0).trans rfl, (blk_cell BK325.out 1).trans rfl, (blk_cell BK325.out 2).trans rfl, (blk_cell BK326.out 0).trans rfl, (blk_cell BK326.out 1).trans rfl, (blk_cell BK326.out 2).trans rfl⟩ (fun hHeld => ?_)
         clear hK K
         refine norm_ (a' := ?_) ?_ ?_
         rotate_left
         · show Act.put _ (some 6) _ = _
          simp only [Act.put, List.setIfInBounds_toArray, List.set_cons_zero, List.set_cons_succ, i64_w, i32_w]
          rfl
         exact norm_ (by first | (simp only [putAll, Act.put, List.setIfInBounds_toArray, List.set_cons_zero, List.set_cons_succ]; done) | (simp only [putAll, Act.put, List.setIfInBounds_toArray, List.set_cons_zero, List.set_cons_succ]; rfl)) (hJ4_6_9 (v329, .slice Ao46 y331.length co46, gb337) _ ⟨hHeld, HO330.out, HO333.out, BK325.out, BK326.out, BK327.out, BK337.out, GW337.out, GE337.out, NB325_337.out, NB337_325.out, NB326_337.out, NB337_326.out, NB327_337.out, NB337_327.out, HB.out⟩)
      · skip
       rintro ⟨v329, v332, gb337⟩ w45 ⟨hS_, h0_, h1_, h2_, h3_, h4_, h5_, h6_, h7_, h8_, h9_, h10_, h11_, h12_, h13_, h14_⟩
       have n0_ : Aside0 (Kd.R k37 37 w45 w.heap.size (fun k_ => some k_ ≠ (v332 : Value).ownBlock ∧ k_ ≠ gb326) v329 t328) := ⟨h0_⟩
       have n1_ : Aside0 (Kd.R k37 37 w45 w.heap.size (fun k_ => some k_ ≠ (v329 : Value).ownBlock ∧ k_ ≠ gb326) v332 y331) := ⟨h1_⟩
       have n2_ : Aside0 (w45.heap[gb325]? = some (.cells #[.int .i64 a0_0, .int .i64 a0_1, .slice A0_2 l0_2.length c0_2] 33 (0, 0))) := ⟨h2_⟩
       have n3_ : Aside0 (w45.heap[gb326]? = some (.cells #[.int .i64 a1_0, .int .i64 a1_1, .int .i64 a1_2] 37 (0, 0))) := ⟨h3_⟩
       have n4_ : Aside0 (w45.heap[gb327]? = some (.cells #[.int .i64 0, .int .i64 0, .slice none 0 0] 33 (0, 0))) := ⟨h4_⟩
       have n5_ : Aside0 (w45.heap[gb337]? = some (.cells #[.int .i64 0, .int .i64 0, .slice none 0 0] 33 (0, 0))) := ⟨h5_⟩
       have n6_ : Aside0 (w.heap.size ≤ gb337) := ⟨h6_⟩
       have n7_ : Aside0 (w.heap.size ≤ gb337) := ⟨h7_⟩
       have n8_ : Aside0 (gb325 ≠ gb337) := ⟨h8_⟩
       have n9_ : Aside0 (gb337 ≠ gb325) := ⟨h9_⟩
       have n10_ : Aside0 (gb326 ≠ gb337) := ⟨h10_⟩
       have n11_ : Aside0 (gb337 ≠ gb326) := ⟨h11_⟩
       have n12_ : Aside0 (gb327 ≠ gb337) := ⟨h12_⟩
       have n13_ : Aside0 (gb337 ≠ gb327) := ⟨h13_⟩
       have n14_ : Aside0 (Below w.heap.size w w45) := ⟨h14_⟩
       clear BK325 BK326 BK327 HB h0_ h1_ h2_ h3_ h4_ h5_ h6_ h7_ h8_ h9_ h10_ h11_ h12_ h13_ h14_
       have HO330 := n0_
       have HO333 := n1_
       have BK325 := n2_
       have BK326 := n3_
       have BK327 := n4_
       have BK337 := n5_
       have GW337 := n6_
       have GE337 := n7_
       have NB325_337 := n8_
       have NB337_325 := n9_
       have NB326_337 := n10_
       have NB337_326 := n11_
       have NB327_337 := n12_
       have NB337_327 := n13_
       have HB := n14_
       clear n0_ n1_ n2_ n3_ n4_ n5_ n6_ n7_ n8_ n9_ n10_ n11_ n12_ n13_ n14_
       have hHeld : w45.cell? ⟨gb325, 0, none⟩ = some (.int .i64 a0_0) ∧ w45.cell? ⟨gb325, 1, none⟩ = some (.int .i64 a0_1) ∧ w45.cell? ⟨gb325, 2, none⟩ = some (.slice A0_2 l0_2.length c0_2) ∧ w45.cell? ⟨gb326, 0, none⟩ = some (.int .i64 a1_0) ∧ w45.cell? ⟨gb326, 1, none⟩ = some (.int .i64 a1_1) ∧ w45.cell? ⟨gb326, 2, none⟩ = some (.int .i64 a1_2) := hS_
       obtain ⟨Ao47, co47, eo47⟩ := Kd.R_slice HO333.out
       (first | subst eo47 | (injection eo47 with f1_ f2_ f3_; have f4_ := f1_.symm; have f5_ := f3_.symm; clear f1_ f2_ f3_; subst f4_; subst f5_))
       refine norm_ (a' := ?_) ?_ ?_
       rotate_left
       · simp only [putAll, Act.put, List.setIfInBounds_toArray, List.set_cons_zero, List.set_cons_succ]
        rfl
       refine one_ (i := 7) (N := some 14) #[true, true, true, true, true, true, true, true, false, true, false] rfl rfl (one_of HT_.out (by kernel_rfl)) (by decide) (fun K hK => ?_)
       refine Kd.R_append_rows_step k37 (w0 := w) w.heap.size (by rfl) (.tmp 11) (.tmp 13) 31 37 (.agg #[(.int .i64 0), (.int .i64 0), (.int .i64 0)]) 24 rfl Try.underlying31 info37 rfl (by decide) (by omega) v329 t328 y331 _ _ _ (fun k_ => some k_ ≠ (.slice Ao47 y331.length co47 : Value).ownBlock ∧ k_ ≠ gb326) (fun _ => False) rfl rfl ?aO ?aR (fun _ _ h => h) (fun _ h => h.elim) ?aF ?aB ?aS ?aL ?_
       (case aR => repeat (first | exact (Kd.R_reads' HO333.out).2.2 | (with_reducible refine Kd.C_alloc ?_ _) | (with_reducible refine Kd.C_drewN ?_ _) | (with_reducible refine Kd.C_drew ?_)))
       (case aB => exact HB.out)
       (case aF => exact (fun k_ hk => ⟨Kd.fresh' (Kd.R_lt HO333.out) k_ hk, Kd.freshB (g := gb326) (o := .cells #[.int .i64 a1_0, .int .i64 a1_1, .int .i64 a1_2] 37 (0, 0)) BK326.out k_ hk⟩))
       (case aO => exact HO330.out)
       (case aS => exact (below_size HB.out))
       (case aL => have := LMc4.out; omega)
       intro v335 w46 ho hb hg hat
       rw [← Ny334.out] at ho
       have n0_ := amk (blk_grown BK325.out hg (Kd.R_ne HO330.out BK325.out (by decide)))
       have n1_ := amk (blk_grown BK326.out hg (Kd.R_away HO330.out (fun _ hk => hk.2)))
       have n2_ := amk (blk_grown BK327.out hg (Kd.R_ne HO330.out BK327.out (by decide)))
       have n3_ := amk (Kd.R_after (ok := (fun k_ => k_ ≠ gb326)) (by (with_reducible repeat (first | apply Kd.R_alloc | apply Kd.R_drewN | apply Kd.R_drew)); exact Kd.R_mono HO333.out (fun _ hk => ⟨hk.2, hk.1⟩)) hg hat)
       have n4_ := amk (blk_grown BK337.out hg (Kd.R_ne HO330.out BK337.out (by decide)))
       have n5_ := amk (hb)
       have n6_ := amk (ho)
       clear BK325 BK326 BK327 HO333 BK337 HB HO330
       have BK325 := n0_
       have BK326 := n1_
       have BK327 := n2_
       have HO333 := n3_
       have BK337 := n4_
       have HB := n5_
       have HO336 := n6_
       clear n0_ n1_ n2_ n3_ n4_ n5_ n6_ ho hb hg hat
       obtain ⟨Ao48, co48, eo48⟩ := Kd.R_slice HO336.out
       (first | subst eo48 | (injection eo48 with f1_ f2_ f3_; have f4_ := f1_.symm; have f5_ := f3_.symm; clear f1_ f2_ f3_; subst f4_; subst f5_))
       refine hK.out _ _ ⟨(blk_cell BK325.out 0).trans rfl, (blk_cell BK325.out 1).trans rfl, (blk_cell BK325.out 2).trans rfl, (blk_cell BK326.out 0).trans rfl, (blk_cell BK326.out 1).trans rfl, (blk_cell BK326.out 2).trans rfl⟩ (fun hHeld => ?_)
       clear hK K
       refine norm_ (a' := ?_) ?_ ?_
       rotate_left
       · show Act.put _ (some 14) _ = _
        simp only [Act.put, List.setIfInBounds_toArray, List.set_cons_zero, List.set_cons_succ, i64_w, i32_w]
        rfl
       refine pure_ (i := 8) (N := some 15) (v := ?_) (a' := ?_) #[true, true, true, true, true, true, true, true, true, true, false] rfl rfl (any_of HT_.out (by kernel_rfl)) (fun _ _ _ h => h) (Or.inl ⟨by rfl, ?_⟩) ?_ ?_
       rotate_left
       · intro w'
        go_simp
        with_reducible rfl
       rotate_left
       · simp only [Act.put, List.setIfInBounds_toArray, List.set_cons_zero, List.set_cons_succ, i64_w, i32_w]
        rfl
       exact norm_ (by first | (simp only [putAll, Act.put, List.setIfInBounds_toArray, List.set_cons_zero, List.set_cons_succ]; done) | (simp only [putAll, Act.put, List.setIfInBounds_toArray, List.set_cons_zero, List.set_cons_succ]; rfl)) (hJ4_6_7_9 (v329, .slice Ao47 y331.length co47, .slice Ao48 y334.length co48, gb337) _ ⟨hHeld, (by (with_reducible repeat (first | apply Kd.R_alloc | apply Kd.R_drewN | apply Kd.R_drew)); exact Kd.R_mono HO333.out (fun _ hk => ⟨hk.2, hk.1⟩)), HO336.out, BK325.out, BK326.out, BK327.out, BK337.out, GW337.out, GE337.out, NB325_337.out, NB337_325.out, NB326_337.out, NB337_326.out, NB327_337.out, NB337_327.out, HB.out⟩)
     · skip
      rintro ⟨v329, v332, v335⟩ w47 ⟨hS_, h0_, h1_, h2_, h3_, h4_, h5_⟩
      have n0_ : Aside0 (Kd.R k37 37 w47 w.heap.size (fun k_ => some k_ ≠ (v335 : Value).ownBlock ∧ k_ ≠ gb326) v332 y331) := ⟨h0_⟩
      have n1_ : Aside0 (Kd.R k37 37 w47 w.heap.size (fun k_ => some k_ ≠ (v332 : Value).ownBlock ∧ k_ ≠ gb326) v335 y334) := ⟨h1_⟩
      have n2_ : Aside0 (w47.heap[gb325]? = some (.cells #[.int .i64 a0_0, .int .i64 a0_1, .slice A0_2 l0_2.length c0_2] 33 (0, 0))) := ⟨h2_⟩
      have n3_ : Aside0 (w47.heap[gb326]? = some (.cells #[.int .i64 a1_0, .int .i64 a1_1, .int .i64 a1_2] 37 (0, 0))) := ⟨h3_⟩
      have n4_ : Aside0 (w47.heap[gb327]? = some (.cells #[.int .i64 0, .int .i64 0, .slice none 0 0] 33 (0, 0))) := ⟨h4_⟩
      have n5_ : Aside0 (Below w.heap.size w w47) := ⟨h5_⟩
      clear BK325 BK326 BK327 HB h0_ h1_ h2_ h3_ h4_ h5_
      have HO333 := n0_
      have HO336 := n1_
      have BK325 := n2_
      have BK326 := n3_
      have BK327 := n4_
      have HB := n5_
      clear n0_ n1_ n2_ n3_ n4_ n5_
      have hHeld : w47.cell? ⟨gb325, 0, none⟩ = some (.int .i64 a0_0) ∧ w47.cell? ⟨gb325, 1, none⟩ = some (.int .i64 a0_1) ∧ w47.cell? ⟨gb325, 2, none⟩ = some (.slice A0_2 l0_2.length c0_2) ∧ w47.cell? ⟨gb326, 0, none⟩ = some (.int .i64 a1_0) ∧ w47.cell? ⟨gb326, 1, none⟩ = some (.int .i64 a1_1) ∧ w47.cell? ⟨gb326, 2, none⟩ = some (.int .i64 a1_2) := hS_
      obtain ⟨Ao48, co48, eo48⟩ := Kd.R_slice HO336.out
      (first | subst eo48 | (injection eo48 with f1_ f2_ f3_; have f4_ := f1_.symm; have f5_ := f3_.symm; clear f1_ f2_ f3_; subst f4_; subst f5_))
      refine norm_ (a' := ?_) ?_ ?_
      rotate_left
      · simp only [putAll, Act.put, List.setIfInBounds_toArray, List.set_cons_zero, List.set_cons_succ]
       rfl
      refine one_ (i := 9) (N := some 6) #[true, true, true, true, true, true, true, true, true, true, false] rfl rfl (one_of HT_.out (by kernel_rfl)) (by decide) (fun K hK => ?_)
      refine box_step ?hg (N := 6) ?hd (cs := #[.int .i64 0, .int .i64 0, .slice none 0 0]) (t := 33) ?hr ?_; (case hd => rfl); (case hg => rfl); (case hr => first | (go_simp; done) | (go_simp; rfl))
      intro gb337 hg w49 hbox hb
      have n0_ := amk (Kd.R_below HO333.out hb)
      have n1_ := amk (Kd.R_below HO336.out hb)
      have n2_ := amk (blk_below BK325.out hb)
      have n3_ := amk (blk_below BK326.out hb)
      have n4_ := amk (blk_below BK327.out hb)
      have n5_ := amk (bp_ HB.out hb)
      have n6_ := amk (hbox)
      have n7_ := amk ((by rw [hg]; exact (below_size HB.out) : w.heap.size ≤ gb337))
      have n8_ := amk ((by rw [hg]; exact (below_size HB.out) : w.heap.size ≤ gb337))
      have n9_ := amk ((by rw [hg]; exact Nat.ne_of_lt (blk_lt BK325.out) : gb325 ≠ gb337))
      have n10_ := amk ((by rw [hg]; exact Nat.ne_of_gt (blk_lt BK325.out) : gb337 ≠ gb325))
      have n11_ := amk ((by rw [hg]; exact Nat.ne_of_lt (blk_lt BK326.out) : gb326 ≠ gb337))
      have n12_ := amk ((by rw [hg]; exact Nat.ne_of_gt (blk_lt BK326.out) : gb337 ≠ gb326))
      have n13_ := amk ((by rw [hg]; exact Nat.ne_of_lt (blk_lt BK327.out) : gb327 ≠ gb337))
      have n14_ := amk ((by rw [hg]; exact Nat.ne_of_gt (blk_lt BK327.out) : gb337 ≠ gb327))
      clear HO333 HO336 BK325 BK326 BK327 HB
      have HO333 := n0_
      have HO336 := n1_
      have BK325 := n2_
      have BK326 := n3_
      have BK327 := n4_
      have HB := n5_
      have BK337 := n6_
      have GW337 := n7_
      have GE337 := n8_
      have NB325_337 := n9_
      have NB337_325 := n10_
      have NB326_337 := n11_
      have NB337_326 := n12_
      have NB327_337 := n13_
      have NB337_327 := n14_
      clear n0_ n1_ n2_ n3_ n4_ n5_ n6_ n7_ n8_ n9_ n10_ n11_ n12_ n13_ n14_ hb hbox hg
      refine hK.out _ _ ⟨(blk_cell BK325.out 0).trans rfl, (blk_cell BK325.out 1).trans rfl, (blk_cell BK325.out 2).trans rfl, (blk_cell BK326.out 0).trans rfl, (blk_cell BK326.out 1).trans rfl, (blk_cell BK326.out 2).trans rfl⟩ (fun hHeld => ?_)
      clear hK K
      refine norm_ (a' := ?_) ?_ ?_
      rotate_left
      · show Act.put _ (some 6) _ = _
       simp only [Act.put, List.setIfInBounds_toArray, List.set_cons_zero, List.set_cons_succ, i64_w, i32_w]
       rfl
      exact norm_ (by first | (simp only [putAll, Act.put, List.setIfInBounds_toArray, List.set_cons_zero, List.set_cons_succ]; done) | (simp only [putAll, Act.put, List.setIfInBounds_toArray, List.set_cons_zero, List.set_cons_succ]; rfl)) (hJ4_6_7_9 (v329, v332, .slice Ao48 y334.length co48, gb337) _ ⟨hHeld, HO333.out, HO336.out, BK325.out, BK326.out, BK327.out, BK337.out, GW337.out, GE337.out, NB325_337.out, NB337_325.out, NB326_337.out, NB337_326.out, NB327_337.out, NB337_327.out, HB.out⟩)
    rintro ⟨v329, v332, v335, gb337⟩ w48 ⟨hS_, h0_, h1_, h2_, h3_, h4_, h5_, h6_, h7_, h8_, h9_, h10_, h11_, h12_, h13_, h14_⟩
    have n0_ : Aside0 (Kd.R k37 37 w48 w.heap.size (fun k_ => some k_ ≠ (v335 : Value).ownBlock ∧ k_ ≠ gb326) v332 y331) := ⟨h0_⟩
    have n1_ : Aside0 (Kd.R k37 37 w48 w.heap.size (fun k_ => some k_ ≠ (v332 : Value).ownBlock ∧ k_ ≠ gb326) v335 y334) := ⟨h1_⟩
    have n2_ : Aside0 (w48.heap[gb325]? = some (.cells #[.int .i64 a0_0, .int .i64 a0_1, .slice A0_2 l0_2.length c0_2] 33 (0, 0))) := ⟨h2_⟩
    have n3_ : Aside0 (w48.heap[gb326]? = some (.cells #[.int .i64 a1_0, .int .i64 a1_1, .int .i64 a1_2] 37 (0, 0))) := ⟨h3_⟩
    have n4_ : Aside0 (w48.heap[gb327]? = some (.cells #[.int .i64 0, .int .i64 0, .slice none 0 0] 33 (0, 0))) := ⟨h4_⟩
    have n5_ : Aside0 (w48.heap[gb337]? = some (.cells #[.int .i64 0, .int .i64 0, .slice none 0 0] 33 (0, 0))) := ⟨h5_⟩
    have n6_ : Aside0 (w.heap.size ≤ gb337) := ⟨h6_⟩
    have n7_ : Aside0 (w.heap.size ≤ gb337) := ⟨h7_⟩
    have n8_ : Aside0 (gb325 ≠ gb337) := ⟨h8_⟩
    have n9_ : Aside0 (gb337 ≠ gb325) := ⟨h9_⟩
    have n10_ : Aside0 (gb326 ≠ gb337) := ⟨h10_⟩
    have n11_ : Aside0 (gb337 ≠ gb326) := ⟨h11_⟩
    have n12_ : Aside0 (gb327 ≠ gb337) := ⟨h12_⟩
    have n13_ : Aside0 (gb337 ≠ gb327) := ⟨h13_⟩
    have n14_ : Aside0 (Below w.heap.size w w48) := ⟨h14_⟩
    clear BK325 BK326 BK327 HB h0_ h1_ h2_ h3_ h4_ h5_ h6_ h7_ h8_ h9_ h10_ h11_ h12_ h13_ h14_
    have HO333 := n0_
    have HO336 := n1_
    have BK325 := n2_
    have BK326 := n3_
    have BK327 := n4_
    have BK337 := n5_
    have GW337 := n6_
    have GE337 := n7_
    have NB325_337 := n8_
    have NB337_325 := n9_
    have NB326_337 := n10_
    have NB337_326 := n11_
    have NB327_337 := n12_
    have NB337_327 := n13_
    have HB := n14_
    clear n0_ n1_ n2_ n3_ n4_ n5_ n6_ n7_ n8_ n9_ n10_ n11_ n12_ n13_ n14_
    have hHeld : w48.cell? ⟨gb325, 0, none⟩ = some (.int .i64 a0_0) ∧ w48.cell? ⟨gb325, 1, none⟩ = some (.int .i64 a0_1) ∧ w48.cell? ⟨gb325, 2, none⟩ = some (.slice A0_2 l0_2.length c0_2) ∧ w48.cell? ⟨gb326, 0, none⟩ = some (.int .i64 a1_0) ∧ w48.cell? ⟨gb326, 1, none⟩ = some (.int .i64 a1_1) ∧ w48.cell? ⟨gb326, 2, none⟩ = some (.int .i64 a1_2) := hS_
    obtain ⟨Ao49, co49, eo49⟩ := Kd.R_slice HO336.out
    (first | subst eo49 | (injection eo49 with f1_ f2_ f3_; have f4_ := f1_.symm; have f5_ := f3_.symm; clear f1_ f2_ f3_; subst f4_; subst f5_))
    refine norm_ (a' := ?_) ?_ ?_
    rotate_left
    · simp only [putAll, Act.put, List.setIfInBounds_toArray, List.set_cons_zero, List.set_cons_succ]
     rfl
    refine one_ (i := 10) (N := none) #[true, true, true, true, true, true, true, true, true, true, true] rfl rfl (one_of HT_.out (by kernel_rfl)) (by decide) (fun K hK => ?_)
    have hs50 : w48.cell? ⟨gb337, 0, none⟩ = some (.int .i64 0) := (blk_cell BK337.out 0).trans rfl
    have hfs50 := blk_frozen BK337.out 0
    have hns50_0 := NB325_337.out
    have hns50_1 := NB326_337.out
    have hns50_2 := NB327_337.out
    have hms50_0 := NB337_325.out
    have hms50_1 := NB337_326.out
    have hms50_2 := NB337_327.out
    have hs51 : w48.cell? ⟨gb337, 1, none⟩ = some (.int .i64 0) := (blk_cell BK337.out 1).trans rfl
    have hfs51 := blk_frozen BK337.out 1
    have hns51_0 := NB325_337.out
    have hns51_1 := NB326_337.out
    have hns51_2 := NB327_337.out
    have hms51_0 := NB337_325.out
    have hms51_1 := NB337_326.out
    have hms51_2 := NB337_327.out
    have hs52 : w48.cell? ⟨gb337, 2, none⟩ = some (.slice none 0 0) := (blk_cell BK337.out 2).trans rfl
    have hfs52 := blk_frozen BK337.out 2
    have hns52_0 := NB325_337.out
    have hns52_1 := NB326_337.out
    have hns52_2 := NB327_337.out
    have hms52_0 := NB337_325.out
    have hms52_1 := NB337_326.out
    have hms52_2 := NB337_327.out
    refine skip_ (w1 := ?_) (by rfl) rfl ?_ ?_
    rotate_left
    · go_simp
     rfl
    refine hK.out _ _ ⟨((cell_far (p := ⟨gb337, _, none⟩) NB325_337.out _).trans (((cell_far (p := ⟨gb337, _, none⟩) NB325_337.out _).trans (((cell_far (p := ⟨gb337, _, none⟩) NB325_337.out _).trans (hHeld.1)))))), ((cell_far (p := ⟨gb337, _, none⟩) NB325_337.out _).trans (((cell_far (p := ⟨gb337, _, none⟩) NB325_337.out _).trans (((cell_far (p := ⟨gb337, _, none⟩) NB325_337.out _).trans (hHeld.2.1)))))), ((cell_far (p := ⟨gb337, _, none⟩) NB325_337.out _).trans (((cell_far (p := ⟨gb337, _, none⟩) NB325_337.out _).trans (((cell_far (p := ⟨gb337, _, none⟩) NB325_337.out _).trans (hHeld.2.2.1)))))), ((cell_far (p := ⟨gb337, _, none⟩) NB326_337.out _).trans (((cell_far (p := ⟨gb337, _, none⟩) NB326_337.out _).trans (((cell_far (p := ⟨gb337, _, none⟩) NB326_337.out _).trans (hHeld.2.2.2.1)))))), ((cell_far (p := ⟨gb337, _, none⟩) NB326_337.out _).trans (((cell_far (p := ⟨gb337, _, none⟩) NB326_337.out _).trans (((cell_far (p := ⟨gb337, _, none⟩) NB326_337.out _).trans (hHeld.2.2.2.2.1)))))), ((cell_far (p := ⟨gb337, _, none⟩) NB326_337.out _).trans (((cell_far (p := ⟨gb337, _, none⟩) NB326_337.out _).trans (((cell_far (p := ⟨gb337, _, none⟩) NB326_337.out _).trans (hHeld.2.2.2.2.2))))))⟩ (fun hHeld => ?_)
    clear hK K
    refine done_ (done_of HT_.out (by kernel_rfl)) ?_
    have hnb53 := NB325_326.out
    have hnc53 := NB326_325.out
    have hnb54 := NB325_327.out
    have hnc54 := NB327_325.out
    have hnb55 := NB325_337.out
    have hnc55 := NB337_325.out
    have hcz56_0 : w48.cell? ⟨gb325, 0, none⟩ = some (.int .i64 a0_0) := (blk_cell BK325.out 0).trans rfl
    have hcz56_1 : w48.cell? ⟨gb325, 1, none⟩ = some (.int .i64 a0_1) := (blk_cell BK325.out 1).trans rfl
    have hcz56_2 : w48.cell? ⟨gb325, 2, none⟩ = some (.slice A0_2 l0_2.length c0_2) := (blk_cell BK325.out 2).trans rfl
    have hfz56_0 := blk_frozen BK325.out 0
    have hfz56_1 := blk_frozen BK325.out 1
    have hfz56_2 := blk_frozen BK325.out 2
    try go_wp2_with (first | ((with_reducible refine gate_callee (f := 24) rfl ?_); refine goesL_ (some 17) rfl rfl Try.func24 (by kernel_rfl) rfl #[.agg #[.int .i64 a0_0, .int .i64 a0_1, .slice A0_2 l0_2.length c0_2]] rfl (by (try simp only [List.map_toArray, List.map_cons, List.map_nil]); first | done | rfl | (simp only [List.length_drop, List.length_take]; rfl)) ?_; (with_reducible refine (impl_IsPuzzle.calls a0_0 a0_1 _ _ l0_2 true _ ?side1 ?side2 A5.out).mono ?_); (case side1 => exact Kd.C_below HR0_2.out (by repeat (first | (with_reducible first | exact HB.out | apply ba_ | apply bn_ | apply bd_ | refine bs_ ?_ GE325.out | refine bs_ ?_ GE326.out | refine bs_ ?_ GE327.out | refine bs_ ?_ GE337.out) | exact HB.out))); (case side2 => exact HC0_2.out); rintro e w57 ⟨rfl, hb⟩; refine ⟨_, rfl, ?_⟩; have n0_ := amk (Kd.R_below (by (with_reducible repeat (first | apply Kd.R_alloc | apply Kd.R_drewN | apply Kd.R_drew)); exact (Kd.R_mono (Kd.R_far (p := ⟨gb337, 2, none⟩) (Kd.R_far (p := ⟨gb337, 1, none⟩) (Kd.R_far (p := ⟨gb337, 0, none⟩) (Kd.R_types HO333.out BK337.out (by decide)) (fun _ hk => hk.2) (.int .i64 a0_0)) (fun _ hk => hk.2) (.int .i64 a0_1)) (fun _ hk => hk.2) (.slice Ao49 y334.length co49)) (fun _ h_ => h_.1))) hb); have n1_ := amk (Kd.R_below (by (with_reducible repeat (first | apply Kd.R_alloc | apply Kd.R_drewN | apply Kd.R_drew)); exact (Kd.R_mono (Kd.R_far (p := ⟨gb337, 2, none⟩) (Kd.R_far (p := ⟨gb337, 1, none⟩) (Kd.R_far (p := ⟨gb337, 0, none⟩) (Kd.R_types HO336.out BK337.out (by decide)) (fun _ hk => hk.2) (.int .i64 a0_0)) (fun _ hk => hk.2) (.int .i64 a0_1)) (fun _ hk => hk.2) (.slice Ao49 y334.length co49)) (fun _ h_ => h_.1))) hb); have n2_ := amk (blk_below (g := gb325) (o := .cells #[.int .i64 a0_0, .int .i64 a0_1, .slice A0_2 l0_2.length c0_2] 33 (0, 0)) (by (with_reducible repeat (first | refine kn_ ?_ _ | refine blk_drew ?_ | refine ka_ ?_ _)); refine blk_far ?_ NB325_337.out _; (with_reducible repeat (first | refine kn_ ?_ _ | refine blk_drew ?_ | refine ka_ ?_ _)); refine blk_far ?_ NB325_337.out _; (with_reducible repeat (first | refine kn_ ?_ _ | refine blk_drew ?_ | refine ka_ ?_ _)); refine blk_far ?_ NB325_337.out _; (with_reducible repeat (first | refine kn_ ?_ _ | refine blk_drew ?_ | refine ka_ ?_ _)); exact BK325.out) hb); have n3_ := amk (blk_below (g := gb326) (o := .cells #[.int .i64 a1_0, .int .i64 a1_1, .int .i64 a1_2] 37 (0, 0)) (by (with_reducible repeat (first | refine kn_ ?_ _ | refine blk_drew ?_ | refine ka_ ?_ _)); refine blk_far ?_ NB326_337.out _; (with_reducible repeat (first | refine kn_ ?_ _ | refine blk_drew ?_ | refine ka_ ?_ _)); refine blk_far ?_ NB326_337.out _; (with_reducible repeat (first | refine kn_ ?_ _ | refine blk_drew ?_ | refine ka_ ?_ _)); refine blk_far ?_ NB326_337.out _; (with_reducible repeat (first | refine kn_ ?_ _ | refine blk_drew ?_ | refine ka_ ?_ _)); exact BK326.out) hb); have n4_ := amk (blk_below (g := gb327) (o := .cells #[.int .i64 0, .int .i64 0, .slice none 0 0] 33 (0, 0)) (by (with_reducible repeat (first | refine kn_ ?_ _ | refine blk_drew ?_ | refine ka_ ?_ _)); refine blk_far ?_ NB327_337.out _; (with_reducible repeat (first | refine kn_ ?_ _ | refine blk_drew ?_ | refine ka_ ?_ _)); refine blk_far ?_ NB327_337.out _; (with_reducible repeat (first | refine kn_ ?_ _ | refine blk_drew ?_ | refine ka_ ?_ _)); refine blk_far ?_ NB327_337.out _; (with_reducible repeat (first | refine kn_ ?_ _ | refine blk_drew ?_ | refine ka_ ?_ _)); exact BK327.out) hb); have n5_ := amk (blk_below (g := gb337) (o := .cells #[.int .i64 a0_0, .int .i64 a0_1, .slice Ao49 y334.length co49] 33 (0, 0)) (by (with_reducible repeat (first | refine kn_ ?_ _ | refine blk_drew ?_ | refine ka_ ?_ _)); refine blk_put (cs := #[.int .i64 a0_0, .int .i64 a0_1, .slice none 0 0]) ?_ 2 _ rfl; (with_reducible repeat (first | refine kn_ ?_ _ | refine blk_drew ?_ | refine ka_ ?_ _)); refine blk_put (cs := #[.int .i64 a0_0, .int .i64 0, .slice none 0 0]) ?_ 1 _ rfl; (with_reducible repeat (first | refine kn_ ?_ _ | refine blk_drew ?_ | refine ka_ ?_ _)); refine blk_put (cs := #[.int .i64 0, .int .i64 0, .slice none 0 0]) ?_ 0 _ rfl; (with_reducible repeat (first | refine kn_ ?_ _ | refine blk_drew ?_ | refine ka_ ?_ _)); exact BK337.out) hb); have n6_ := amk (bp_ (by repeat (first | (with_reducible first | exact HB.out | apply ba_ | apply bn_ | apply bd_ | refine bs_ ?_ GE325.out | refine bs_ ?_ GE326.out | refine bs_ ?_ GE327.out | refine bs_ ?_ GE337.out) | exact HB.out)) hb); clear HO333; clear HO336; clear BK325; clear BK326; clear BK327; clear BK337; clear HB; have HO333 := n0_; have HO336 := n1_; have BK325 := n2_; have BK326 := n3_; have BK327 := n4_; have BK337 := n5_; have HB := n6_; clear n0_ n1_ n2_ n3_ n4_ n5_ n6_; (try clear hb); (try clear hb2); (try clear hk); (try clear hi); have hnb58 := NB337_326.out; have hnc58 := NB326_337.out; have hnb59 := NB337_327.out; have hnc59 := NB327_337.out; have hcz60_0 : w57.cell? ⟨gb337, 0, none⟩ = some (.int .i64 a0_0) := (blk_cell BK337.out 0).trans rfl; have hcz60_1 : w57.cell? ⟨gb337, 1, none⟩ = some (.int .i64 a0_1) := (blk_cell BK337.out 1).trans rfl; have hcz60_2 : w57.cell? ⟨gb337, 2, none⟩ = some (.slice Ao49 y334.length co49) := (blk_cell BK337.out 2).trans rfl; have hfz60_0 := blk_frozen BK337.out 0; have hfz60_1 := blk_frozen BK337.out 1; have hfz60_2 := blk_frozen BK337.out 2) | (go_at_call 24; (with_reducible refine (impl_IsPuzzle.calls a0_0 a0_1 _ _ y334 false _ ?side1 ?side2 A7.out).mono ?_); (case side1 => repeat (first | exact (Kd.R_reads' HO336.out).2.2 | (with_reducible refine Kd.C_alloc ?_ _) | (with_reducible refine Kd.C_drewN ?_ _) | (with_reducible refine Kd.C_drew ?_))); (case side2 => exact (Kd.R_reads' HO336.out).2.1); rintro e w61 ⟨rfl, hb⟩; have n0_ := amk (Kd.R_below (by (with_reducible repeat (first | apply Kd.R_alloc | apply Kd.R_drewN | apply Kd.R_drew)); exact HO333.out) hb); have n1_ := amk (Kd.R_below (by (with_reducible repeat (first | apply Kd.R_alloc | apply Kd.R_drewN | apply Kd.R_drew)); exact HO336.out) hb); have n2_ := amk (blk_below (g := gb325) (o := .cells #[.int .i64 a0_0, .int .i64 a0_1, .slice A0_2 l0_2.length c0_2] 33 (0, 0)) (by (with_reducible repeat (first | refine kn_ ?_ _ | refine blk_drew ?_ | refine ka_ ?_ _)); exact BK325.out) hb); have n3_ := amk (blk_below (g := gb326) (o := .cells #[.int .i64 a1_0, .int .i64 a1_1, .int .i64 a1_2] 37 (0, 0)) (by (with_reducible repeat (first | refine kn_ ?_ _ | refine blk_drew ?_ | refine ka_ ?_ _)); exact BK326.out) hb); have n4_ := amk (blk_below (g := gb327) (o := .cells #[.int .i64 0, .int .i64 0, .slice none 0 0] 33 (0, 0)) (by (with_reducible repeat (first | refine kn_ ?_ _ | refine blk_drew ?_ | refine ka_ ?_ _)); exact BK327.out) hb); have n5_ := amk (blk_below (g := gb337) (o := .cells #[.int .i64 a0_0, .int .i64 a0_1, .slice Ao49 y334.length co49] 33 (0, 0)) (by (with_reducible repeat (first | refine kn_ ?_ _ | refine blk_drew ?_ | refine ka_ ?_ _)); exact BK337.out) hb); have n6_ := amk (bp_ (by repeat (first | (with_reducible first | exact HB.out | apply ba_ | apply bn_ | apply bd_ | refine bs_ ?_ GE325.out | refine bs_ ?_ GE326.out | refine bs_ ?_ GE327.out | refine bs_ ?_ GE337.out) | exact HB.out)) hb); clear HO333; clear HO336; clear BK325; clear BK326; clear BK327; clear BK337; clear HB; have HO333 := n0_; have HO336 := n1_; have BK325 := n2_; have BK326 := n3_; have BK327 := n4_; have BK337 := n5_; have HB := n6_; clear n0_ n1_ n2_ n3_ n4_ n5_ n6_; (try clear hb); (try clear hb2); (try clear hk); (try clear hi); have hnb62 := NB327_326.out; have hnc62 := NB326_327.out; have hcz63_0 : w61.cell? ⟨gb327, 0, none⟩ = some (.int .i64 0) := (blk_cell BK327.out 0).trans rfl; have hcz63_1 : w61.cell? ⟨gb327, 1, none⟩ = some (.int .i64 0) := (blk_cell BK327.out 1).trans rfl; have hcz63_2 : w61.cell? ⟨gb327, 2, none⟩ = some (.slice none 0 0) := (blk_cell BK327.out 2).trans rfl; have hfz63_0 := blk_frozen BK327.out 0; have hfz63_1 := blk_frozen BK327.out 1; have hfz63_2 := blk_frozen BK327.out 2))
    refine bodyPost_ret (results_ct rfl _ _ gb327 33 #[.int .i64 0, .int .i64 0, .slice none 0 0] (0, 0) _ rfl (by (with_reducible repeat (first | refine kn_ ?_ _ | refine blk_drew ?_ | refine ka_ ?_ _)); refine blk_put (cs := #[.int .i64 0, .int .i64 0, .slice none 0 0]) ?_ 2 _ rfl; (with_reducible repeat (first | refine kn_ ?_ _ | refine blk_drew ?_ | refine ka_ ?_ _)); refine blk_put (cs := #[.int .i64 0, .int .i64 0, .slice none 0 0]) ?_ 1 _ rfl; (with_reducible repeat (first | refine kn_ ?_ _ | refine blk_drew ?_ | refine ka_ ?_ _)); refine blk_put (cs := #[.int .i64 0, .int .i64 0, .slice none 0 0]) ?_ 0 _ rfl; (with_reducible repeat (first | refine kn_ ?_ _ | refine blk_drew ?_ | refine ka_ ?_ _)); exact BK327.out) Try.underlying33 rfl (by kernel_rfl)) rfl ?_
    exact ⟨_, by first | rfl | (simp [errW_none, errW_some] <;> rfl) | (simp [*, errW_none, errW_some] <;> rfl), by first | exact Kd.R_nil _ _ _ _ _ | exact Kd.N_nil _ _ _ _ _ | exact Kd.V_nil _ _ _ _ _ | exact Kd.Q_nil _ _ _ _ _ | exact Kd.S_nil _ _ _ _ _, by repeat (first | (with_reducible first | exact HB.out | apply ba_ | apply bn_ | apply bd_ | refine bs_ ?_ GE325.out | refine bs_ ?_ GE326.out | refine bs_ ?_ GE327.out | refine bs_ ?_ GE337.out) | exact HB.out)⟩
  · replace c6 := Bool.eq_false_iff.mpr c6
   subst c6
   have H1 : (some (0, 0, ([] : List (S37)), false)) = some (r1, r2, r3, r4) := by rw [if_neg (show ¬ (false = true) by decide)] at H; exact H
   clear H
   have H := H1
   clear H1
   simp only [Option.some.injEq, Prod.mk.injEq] at H
   obtain ⟨rfl, rfl, rfl, rfl⟩ := H
   go_enter Try.func10, Try.ntmps10
   try go_wp2_with (first | ((with_reducible refine gate_dst (N := 2) rfl ?_); refine box_event ?hg (N := 2) ?hd (cs := #[.int .i64 a0_0, .int .i64 a0_1, .slice A0_2 l0_2.length c0_2]) (t := 33) ?hr ?_; (case hd => rfl); (case hg => rfl); (case hr => first | (go_simp; done) | (go_simp; rfl)); intro gb325 hg w64 hbox hb; have n0_ := amk (bp_ HB.out hb); have n1_ := amk (hbox); have n2_ := amk ((by rw [hg]; exact (below_size HB.out) : w.heap.size ≤ gb325)); have n3_ := amk ((by rw [hg]; exact (below_size HB.out) : w.heap.size ≤ gb325)); clear HB; have HB := n0_; have BK325 := n1_; have GW325 := n2_; have GE325 := n3_; clear n0_ n1_ n2_ n3_; clear hb hbox hg) | ((with_reducible refine gate_dst (N := 3) rfl ?_); refine box_event ?hg (N := 3) ?hd (cs := #[.int .i64 a1_0, .int .i64 a1_1, .int .i64 a1_2]) (t := 37) ?hr ?_; (case hd => rfl); (case hg => rfl); (case hr => first | (go_simp; done) | (go_simp; rfl)); intro gb326 hg w65 hbox hb; have n0_ := amk (blk_below BK325.out hb); have n1_ := amk (bp_ HB.out hb); have n2_ := amk (hbox); have n3_ := amk ((by rw [hg]; exact (below_size HB.out) : w.heap.size ≤ gb326)); have n4_ := amk ((by rw [hg]; exact (below_size HB.out) : w.heap.size ≤ gb326)); have n5_ := amk ((by rw [hg]; exact Nat.ne_of_lt (blk_lt BK325.out) : gb325 ≠ gb326)); have n6_ := amk ((by rw [hg]; exact Nat.ne_of_gt (blk_lt BK325.out) : gb326 ≠ gb325)); clear BK325; clear HB; have BK325 := n0_; have HB := n1_; have BK326 := n2_; have GW326 := n3_; have GE326 := n4_; have NB325_326 := n5_; have NB326_325 := n6_; clear n0_ n1_ n2_ n3_ n4_ n5_ n6_; clear hb hbox hg) | ((with_reducible refine gate_dst (N := 4) rfl ?_); refine box_event ?hg (N := 4) ?hd (cs := #[.int .i64 0, .int .i64 0, .slice none 0 0]) (t := 33) ?hr ?_; (case hd => rfl); (case hg => rfl); (case hr => first | (go_simp; done) | (go_simp; rfl)); intro gb327 hg w66 hbox hb; have n0_ := amk (blk_below BK325.out hb); have n1_ := amk (blk_below BK326.out hb); have n2_ := amk (bp_ HB.out hb); have n3_ := amk (hbox); have n4_ := amk ((by rw [hg]; exact (below_size HB.out) : w.heap.size ≤ gb327)); have n5_ := amk ((by rw [hg]; exact (below_size HB.out) : w.heap.size ≤ gb327)); have n6_ := amk ((by rw [hg]; exact Nat.ne_of_lt (blk_lt BK325.out) : gb325 ≠ gb327)); have n7_ := amk ((by rw [hg]; exact Nat.ne_of_gt (blk_lt BK325.out) : gb327 ≠ gb325)); have n8_ := amk ((by rw [hg]; exact Nat.ne_of_lt (blk_lt BK326.out) : gb326 ≠ gb327)); have n9_ := amk ((by rw [hg]; exact Nat.ne_of_gt (blk_lt BK326.out) : gb327 ≠ gb326)); clear BK325; clear BK326; clear HB; have BK325 := n0_; have BK326 := n1_; have HB := n2_; have BK327 := n3_; have GW327 := n4_; have GE327 := n5_; have NB325_327 := n6_; have NB327_325 := n7_; have NB326_327 := n8_; have NB327_326 := n9_; clear n0_ n1_ n2_ n3_ n4_ n5_ n6_ n7_ n8_ n9_; clear hb hbox hg))
   have n0_ := amk (blk_drew BK325.out)
   have n1_ := amk (blk_drew BK326.out)
   have n2_ := amk (blk_drew BK327.out)
   have n3_ := amk (bd_ HB.out)
   clear BK325 BK326 BK327 HB
   have BK325 := n0_
   have BK326 := n1_
   have BK327 := n2_
   have HB := n3_
   clear n0_ n1_ n2_ n3_
   refine start_ (n := 11) (S := fun w' => w'.cell? ⟨gb325, 0, none⟩ = some (.int .i64 a0_0) ∧ w'.cell? ⟨gb325, 1, none⟩ = some (.int .i64 a0_1) ∧ w'.cell? ⟨gb325, 2, none⟩ = some (.slice A0_2 l0_2.length c0_2) ∧ w'.cell? ⟨gb326, 0, none⟩ = some (.int .i64 a1_0) ∧ w'.cell? ⟨gb326, 1, none⟩ = some (.int .i64 a1_1) ∧ w'.cell? ⟨gb326, 2, none⟩ = some (.int .i64 a1_2)) (ds := []) #[false, false, false, false, false, false, false, false, false, false, false] (by kernel_rfl) rfl rfl ⟨(blk_cell BK325.out 0).trans rfl, (blk_cell BK325.out 1).trans rfl, (blk_cell BK325.out 2).trans rfl, (blk_cell BK326.out 0).trans rfl, (blk_cell BK326.out 1).trans rfl, (blk_cell BK326.out 2).trans rfl⟩ (fun hHeld => ?_); refine with_tabW impl_AddClue.tab1 impl_AddClue.bits1 (fun HT_ HW_ => ?_)
   generalize w66.drew = w67 at BK325 BK326 BK327 HB hHeld ⊢
   refine pure_ (i := 0) (N := some 7) (v := ?_) (a' := ?_) #[true, false, false, false, false, false, false, false, false, false, false] rfl rfl (any_of HT_.out (by kernel_rfl)) (fun _ _ _ h => h) (Or.inl ⟨by rfl, ?_⟩) ?_ ?_
   rotate_left
   · intro w'
    go_simp
    with_reducible rfl
   rotate_left
   · simp only [Act.put, List.setIfInBounds_toArray, List.set_cons_zero, List.set_cons_succ, i64_w, i32_w]
    rfl
   refine pure_ (i := 2) (N := some 9) (v := ?_) (a' := ?_) #[true, false, true, false, false, false, false, false, false, false, false] rfl rfl (any_of HT_.out (by kernel_rfl)) (fun _ _ _ h => h) (Or.inl ⟨by rfl, ?_⟩) ?_ ?_
   rotate_left
   · intro w'
    go_simp
    with_reducible rfl
   rotate_left
   · simp only [Act.put, List.setIfInBounds_toArray, List.set_cons_zero, List.set_cons_succ, i64_w, i32_w]
    rfl
   refine take_ (i := 1) (N := some 8) (v := ?_) (a' := ?_) #[true, true, true, false, false, false, false, false, false, false, false] rfl rfl (take_ofW HT_.out HW_.out (by kernel_rfl)) (fun _ _ _ h => h) (Or.inl ⟨by rfl, ?_⟩) hHeld ?_ ?_
   rotate_left
   · rintro w' ⟨s0, s1, s2, s3, s4, s5⟩
    go_simp
    with_reducible rfl
   rotate_left
   · simp only [Act.put, List.setIfInBounds_toArray, List.set_cons_zero, List.set_cons_succ, i64_w, i32_w]
    rfl
   refine take_ (i := 3) (N := some 10) (v := ?_) (a' := ?_) #[true, true, true, true, false, false, false, false, false, false, false] rfl rfl (take_ofW HT_.out HW_.out (by kernel_rfl)) (fun _ _ _ h => h) (Or.inl ⟨by rfl, ?_⟩) hHeld ?_ ?_
   rotate_left
   · rintro w' ⟨s0, s1, s2, s3, s4, s5⟩
    go_simp
    with_reducible rfl
   rotate_left
   · simp only [Act.put, List.setIfInBounds_toArray, List.set_cons_zero, List.set_cons_succ, i64_w, i32_w]
    rfl
   refine take_ (i := 5) (N := some 12) (v := ?_) (a' := ?_) #[true, true, true, true, false, true, false, false, false, false, false] rfl rfl (take_ofW HT_.out HW_.out (by kernel_rfl)) (fun _ _ _ h => h) (Or.inl ⟨by rfl, ?_⟩) hHeld ?_ ?_
   rotate_left
   · rintro w' ⟨s0, s1, s2, s3, s4, s5⟩
    go_simp
    with_reducible rfl
   rotate_left
   · simp only [Act.put, List.setIfInBounds_toArray, List.set_cons_zero, List.set_cons_succ, i64_w, i32_w]
    rfl
   refine join_ (σ := Value × Value × Value × Nat) 1 #[true, true, true, true, true, true, true, true, true, true, false] (fun s_ => [(11, s_.1), (13, s_.2.1), (14, s_.2.2.1), (6, .pointer (some ⟨s_.2.2.2, 0, none⟩)), (15, .agg #[.int .i64 a0_0, .int .i64 a0_1, s_.2.2.1])]) (fun s_ w' => (w'.cell? ⟨gb325, 0, none⟩ = some (.int .i64 a0_0) ∧ w'.cell? ⟨gb325, 1, none⟩ = some (.int .i64 a0_1) ∧ w'.cell? ⟨gb325, 2, none⟩ = some (.slice A0_2 l0_2.length c0_2) ∧ w'.cell? ⟨gb326, 0, none⟩ = some (.int .i64 a1_0) ∧ w'.cell? ⟨gb326, 1, none⟩ = some (.int .i64 a1_1) ∧ w'.cell? ⟨gb326, 2, none⟩ = some (.int .i64 a1_2)) ∧ (Kd.R k37 37 w' w.heap.size (fun k_ => some k_ ≠ (s_.2.2.1 : Value).ownBlock ∧ k_ ≠ gb326) s_.2.1 y331) ∧ (Kd.R k37 37 w' w.heap.size (fun k_ => some k_ ≠ (s_.2.1 : Value).ownBlock ∧ k_ ≠ gb326) s_.2.2.1 y334) ∧ (w'.heap[gb325]? = some (.cells #[.int .i64 a0_0, .int .i64 a0_1, .slice A0_2 l0_2.length c0_2] 33 (0, 0))) ∧ (w'.heap[gb326]? = some (.cells #[.int .i64 a1_0, .int .i64 a1_1, .int .i64 a1_2] 37 (0, 0))) ∧ (w'.heap[gb327]? = some (.cells #[.int .i64 0, .int .i64 0, .slice none 0 0] 33 (0, 0))) ∧ (w'.heap[s_.2.2.2]? = some (.cells #[.int .i64 0, .int .i64 0, .slice none 0 0] 33 (0, 0))) ∧ (w.heap.size ≤ s_.2.2.2) ∧ (w.heap.size ≤ s_.2.2.2) ∧ (gb325 ≠ s_.2.2.2) ∧ (s_.2.2.2 ≠ gb325) ∧ (gb326 ≠ s_.2.2.2) ∧ (s_.2.2.2 ≠ gb326) ∧ (gb327 ≠ s_.2.2.2) ∧ (s_.2.2.2 ≠ gb327) ∧ (Below w.heap.size w w')) ?_ ?_
   rotate_left
   · intro hJ4_6_7_9
    refine join_ (σ := Value × Value × Value) 2 #[true, true, true, true, true, true, true, true, true, false, false] (fun s_ => [(11, s_.1), (13, s_.2.1), (14, s_.2.2), (15, .agg #[.int .i64 a0_0, .int .i64 a0_1, s_.2.2])]) (fun s_ w' => (w'.cell? ⟨gb325, 0, none⟩ = some (.int .i64 a0_0) ∧ w'.cell? ⟨gb325, 1, none⟩ = some (.int .i64 a0_1) ∧ w'.cell? ⟨gb325, 2, none⟩ = some (.slice A0_2 l0_2.length c0_2) ∧ w'.cell? ⟨gb326, 0, none⟩ = some (.int .i64 a1_0) ∧ w'.cell? ⟨gb326, 1, none⟩ = some (.int .i64 a1_1) ∧ w'.cell? ⟨gb326, 2, none⟩ = some (.int .i64 a1_2)) ∧ (Kd.R k37 37 w' w.heap.size (fun k_ => some k_ ≠ (s_.2.2 : Value).ownBlock ∧ k_ ≠ gb326) s_.2.1 y331) ∧ (Kd.R k37 37 w' w.heap.size (fun k_ => some k_ ≠ (s_.2.1 : Value).ownBlock ∧ k_ ≠ gb326) s_.2.2 y334) ∧ (w'.heap[gb325]? = some (.cells #[.int .i64 a0_0, .int .i64 a0_1, .slice A0_2 l0_2.length c0_2] 33 (0, 0))) ∧ (w'.heap[gb326]? = some (.cells #[.int .i64 a1_0, .int .i64 a1_1, .int .i64 a1_2] 37 (0, 0))) ∧ (w'.heap[gb327]? = some (.cells #[.int .i64 0, .int .i64 0, .slice none 0 0] 33 (0, 0))) ∧ (Below w.heap.size w w')) ?_ ?_
    rotate_left
    · intro hJ4_6_7
     refine join_ (σ := Value × Value × Nat) 3 #[true, true, true, true, true, true, true, false, false, true, false] (fun s_ => [(11, s_.1), (13, s_.2.1), (6, .pointer (some ⟨s_.2.2, 0, none⟩))]) (fun s_ w' => (w'.cell? ⟨gb325, 0, none⟩ = some (.int .i64 a0_0) ∧ w'.cell? ⟨gb325, 1, none⟩ = some (.int .i64 a0_1) ∧ w'.cell? ⟨gb325, 2, none⟩ = some (.slice A0_2 l0_2.length c0_2) ∧ w'.cell? ⟨gb326, 0, none⟩ = some (.int .i64 a1_0) ∧ w'.cell? ⟨gb326, 1, none⟩ = some (.int .i64 a1_1) ∧ w'.cell? ⟨gb326, 2, none⟩ = some (.int .i64 a1_2)) ∧ (Kd.R k37 37 w' w.heap.size (fun k_ => some k_ ≠ (s_.2.1 : Value).ownBlock ∧ k_ ≠ gb326) s_.1 t328) ∧ (Kd.R k37 37 w' w.heap.size (fun k_ => some k_ ≠ (s_.1 : Value).ownBlock ∧ k_ ≠ gb326) s_.2.1 y331) ∧ (w'.heap[gb325]? = some (.cells #[.int .i64 a0_0, .int .i64 a0_1, .slice A0_2 l0_2.length c0_2] 33 (0, 0))) ∧ (w'.heap[gb326]? = some (.cells #[.int .i64 a1_0, .int .i64 a1_1, .int .i64 a1_2] 37 (0, 0))) ∧ (w'.heap[gb327]? = some (.cells #[.int .i64 0, .int .i64 0, .slice none 0 0] 33 (0, 0))) ∧ (w'.heap[s_.2.2]? = some (.cells #[.int .i64 0, .int .i64 0, .slice none 0 0] 33 (0, 0))) ∧ (w.heap.size ≤ s_.2.2) ∧ (w.heap.size ≤ s_.2.2) ∧ (gb325 ≠ s_.2.2) ∧ (s_.2.2 ≠ gb325) ∧ (gb326 ≠ s_.2.2) ∧ (s_.2.2 ≠ gb326) ∧ (gb327 ≠ s_.2.2) ∧ (s_.2.2 ≠ gb327) ∧ (Below w.heap.size w w')) ?_ ?_
     rotate_left
     · intro hJ4_6_9
      refine join_ (σ := Value × Value) 4 #[true, true, true, true, true, true, true, false, false, false, false] (fun s_ => [(11, s_.1), (13, s_.2)]) (fun s_ w' => (w'.cell? ⟨gb325, 0, none⟩ = some (.int .i64 a0_0) ∧ w'.cell? ⟨gb325, 1, none⟩ = some (.int .i64 a0_1) ∧ w'.cell? ⟨gb325, 2, none⟩ = some (.slice A0_2 l0_2.length c0_2) ∧ w'.cell? ⟨gb326, 0, none⟩ = some (.int .i64 a1_0) ∧ w'.cell? ⟨gb326, 1, none⟩ = some (.int .i64 a1_1) ∧ w'.cell? ⟨gb326, 2, none⟩ = some (.int .i64 a1_2)) ∧ (Kd.R k37 37 w' w.heap.size (fun k_ => some k_ ≠ (s_.2 : Value).ownBlock ∧ k_ ≠ gb326) s_.1 t328) ∧ (Kd.R k37 37 w' w.heap.size (fun k_ => some k_ ≠ (s_.1 : Value).ownBlock ∧ k_ ≠ gb326) s_.2 y331) ∧ (w'.heap[gb325]? = some (.cells #[.int .i64 a0_0, .int .i64 a0_1, .slice A0_2 l0_2.length c0_2] 33 (0, 0))) ∧ (w'.heap[gb326]? = some (.cells #[.int .i64 a1_0, .int .i64 a1_1, .int .i64 a1_2] 37 (0, 0))) ∧ (w'.heap[gb327]? = some (.cells #[.int .i64 0, .int .i64 0, .slice none 0 0] 33 (0, 0))) ∧ (Below w.heap.size w w')) ?_ ?_
      rotate_left
      · intro hJ4_6
       refine join_ (σ := Value × Nat) 4 #[true, true, true, true, true, true, false, false, false, true, false] (fun s_ => [(11, s_.1), (6, .pointer (some ⟨s_.2, 0, none⟩))]) (fun s_ w' => (w'.cell? ⟨gb325, 0, none⟩ = some (.int .i64 a0_0) ∧ w'.cell? ⟨gb325, 1, none⟩ = some (.int .i64 a0_1) ∧ w'.cell? ⟨gb325, 2, none⟩ = some (.slice A0_2 l0_2.length c0_2) ∧ w'.cell? ⟨gb326, 0, none⟩ = some (.int .i64 a1_0) ∧ w'.cell? ⟨gb326, 1, none⟩ = some (.int .i64 a1_1) ∧ w'.cell? ⟨gb326, 2, none⟩ = some (.int .i64 a1_2)) ∧ (Kd.R k37 37 w' w.heap.size (fun k_ => k_ ≠ gb326) s_.1 t328) ∧ (w'.heap[gb325]? = some (.cells #[.int .i64 a0_0, .int .i64 a0_1, .slice A0_2 l0_2.length c0_2] 33 (0, 0))) ∧ (w'.heap[gb326]? = some (.cells #[.int .i64 a1_0, .int .i64 a1_1, .int .i64 a1_2] 37 (0, 0))) ∧ (w'.heap[gb327]? = some (.cells #[.int .i64 0, .int .i64 0, .slice none 0 0] 33 (0, 0))) ∧ (w'.heap[s_.2]? = some (.cells #[.int .i64 0, .int .i64 0, .slice none 0 0] 33 (0, 0))) ∧ (w.heap.size ≤ s_.2) ∧ (w.heap.size ≤ s_.2) ∧ (gb325 ≠ s_.2) ∧ (s_.2 ≠ gb325) ∧ (gb326 ≠ s_.2) ∧ (s_.2 ≠ gb326) ∧ (gb327 ≠ s_.2) ∧ (s_.2 ≠ gb327) ∧ (Below w.heap.size w w')) ?_ ?_
       rotate_left
       · intro hJ4_9
        refine join_ (σ := Value × Nat) 4 #[true, true, true, true, false, true, true, false, false, true, false] (fun s_ => [(13, s_.1), (6, .pointer (some ⟨s_.2, 0, none⟩))]) (fun s_ w' => (w'.cell? ⟨gb325, 0, none⟩ = some (.int .i64 a0_0) ∧ w'.cell? ⟨gb325, 1, none⟩ = some (.int .i64 a0_1) ∧ w'.cell? ⟨gb325, 2, none⟩ = some (.slice A0_2 l0_2.length c0_2) ∧ w'.cell? ⟨gb326, 0, none⟩ = some (.int .i64 a1_0) ∧ w'.cell? ⟨gb326, 1, none⟩ = some (.int .i64 a1_1) ∧ w'.cell? ⟨gb326, 2, none⟩ = some (.int .i64 a1_2)) ∧ (Kd.R k37 37 w' w.heap.size (fun k_ => k_ ≠ gb326) s_.1 y331) ∧ (w'.heap[gb325]? = some (.cells #[.int .i64 a0_0, .int .i64 a0_1, .slice A0_2 l0_2.length c0_2] 33 (0, 0))) ∧ (w'.heap[gb326]? = some (.cells #[.int .i64 a1_0, .int .i64 a1_1, .int .i64 a1_2] 37 (0, 0))) ∧ (w'.heap[gb327]? = some (.cells #[.int .i64 0, .int .i64 0, .slice none 0 0] 33 (0, 0))) ∧ (w'.heap[s_.2]? = some (.cells #[.int .i64 0, .int .i64 0, .slice none 0 0] 33 (0, 0))) ∧ (w.heap.size ≤ s_.2) ∧ (w.heap.size ≤ s_.2) ∧ (gb325 ≠ s_.2) ∧ (s_.2 ≠ gb325) ∧ (gb326 ≠ s_.2) ∧ (s_.2 ≠ gb326) ∧ (gb327 ≠ s_.2) ∧ (s_.2 ≠ gb327) ∧ (Below w.heap.size w w')) ?_ ?_
        rotate_left
        · intro hJ6_9
         refine join_ (σ := Value) 5 #[true, true, true, true, true, true, false, false, false, false, false] (fun s_ => [(11, s_)]) (fun s_ w' => (w'.cell? ⟨gb325, 0, none⟩ = some (.int .i64 a0_0) ∧ w'.cell? ⟨gb325, 1, none⟩ = some (.int .i64 a0_1) ∧ w'.cell? ⟨gb325, 2, none⟩ = some (.slice A0_2 l0_2.length c0_2) ∧ w'.cell? ⟨gb326, 0, none⟩ = some (.int .i64 a1_0) ∧ w'.cell? ⟨gb326, 1, none⟩ = some (.int .i64 a1_1) ∧ w'.cell? ⟨gb326, 2, none⟩ = some (.int .i64 a1_2)) ∧ (Kd.R k37 37 w' w.heap.size (fun k_ => k_ ≠ gb326) s_ t328) ∧ (w'.heap[gb325]? = some (.cells #[.int .i64 a0_0, .int .i64 a0_1, .slice A0_2 l0_2.length c0_2] 33 (0, 0))) ∧ (w'.heap[gb326]? = some (.cells #[.int .i64 a1_0, .int .i64 a1_1, .int .i64 a1_2] 37 (0, 0))) ∧ (w'.heap[gb327]? = some (.cells #[.int .i64 0, .int .i64 0, .slice none 0 0] 33 (0, 0))) ∧ (Below w.heap.size w w')) ?_ ?_
         rotate_left
         · intro hJ4
          refine join_ (σ := Value) 5 #[true, true, true, true, false, true, true, false, false, false, false] (fun s_ => [(13, s_)]) (fun s_ w' => (w'.cell? ⟨gb325, 0, none⟩ = some (.int .i64 a0_0) ∧ w'.cell? ⟨gb325, 1, none⟩ = some (.int .i64 a0_1) ∧ w'.cell? ⟨gb325, 2, none⟩ = some (.slice A0_2 l0_2.length c0_2) ∧ w'.cell? ⟨gb326, 0, none⟩ = some (.int .i64 a1_0) ∧ w'.cell? ⟨gb326, 1, none⟩ = some (.int .i64 a1_1) ∧ w'.cell? ⟨gb326, 2, none⟩ = some (.int .i64 a1_2)) ∧ (Kd.R k37 37 w' w.heap.size (fun k_ => k_ ≠ gb326) s_ y331) ∧ (w'.heap[gb325]? = some (.cells #[.int .i64 a0_0, .int .i64 a0_1, .slice A0_2 l0_2.length c0_2] 33 (0, 0))) ∧ (w'.heap[gb326]? = some (.cells #[.int .i64 a1_0, .int .i64 a1_1, .int .i64 a1_2] 37 (0, 0))) ∧ (w'.heap[gb327]? = some (.cells #[.int .i64 0, .int .i64 0, .slice none 0 0] 33 (0, 0))) ∧ (Below w.heap.size w w')) ?_ ?_
          rotate_left
          · intro hJ6
           refine join_ (σ := Nat) 5 #[true, true, true, true, false, true, false, false, false, true, false] (fun s_ => [(6, .pointer (some ⟨s_, 0, none⟩))]) (fun s_ w' => (w'.cell? ⟨gb325, 0, none⟩ = some (.int .i64 a0_0) ∧ w'.cell? ⟨gb325, 1, none⟩ = some (.int .i64 a0_1) ∧ w'.cell? ⟨gb325, 2, none⟩ = some (.slice A0_2 l0_2.length c0_2) ∧ w'.cell? ⟨gb326, 0, none⟩ = some (.int .i64 a1_0) ∧ w'.cell? ⟨gb326, 1, none⟩ = some (.int .i64 a1_1) ∧ w'.cell? ⟨gb326, 2, none⟩ = some (.int .i64 a1_2)) ∧ (w'.heap[gb325]? = some (.cells #[.int .i64 a0_0, .int .i64 a0_1, .slice A0_2 l0_2.length c0_2] 33 (0, 0))) ∧ (w'.heap[gb326]? = some (.cells #[.int .i64 a1_0, .int .i64 a1_1, .int .i64 a1_2] 37 (0, 0))) ∧ (w'.heap[gb327]? = some (.cells #[.int .i64 0, .int .i64 0, .slice none 0 0] 33 (0, 0))) ∧ (w'.heap[s_]? = some (.cells #[.int .i64 0, .int .i64 0, .slice none 0 0] 33 (0, 0))) ∧ (w.heap.size ≤ s_) ∧ (w.heap.size ≤ s_) ∧ (gb325 ≠ s_) ∧ (s_ ≠ gb325) ∧ (gb326 ≠ s_) ∧ (s_ ≠ gb326) ∧ (gb327 ≠ s_) ∧ (s_ ≠ gb327) ∧ (Below w.heap.size w w')) ?_ ?_
           rotate_left
           · intro hJ9
            refine three_ (i := 4) (j := 6) (k := 9) (Ni := some 11) (Nj := some 13) (Nk := some 6) #[true, true, true, true, true, true, false, false, false, false, false] #[true, true, true, true, false, true, true, false, false, false, false] #[true, true, true, true, false, true, false, false, false, true, false] rfl rfl rfl rfl rfl rfl (three_of HT_.out (by kernel_rfl)) (by decide) (by decide) (by decide) (fun K hK => ?_) (fun K hK => ?_) (fun K hK => ?_)
            · skip
             refine goes_ Try.func23 (by kernel_rfl) rfl #[.slice A0_2 l0_2.length c0_2] (by rfl) rfl rfl (by (try simp only [List.map_toArray, List.map_cons, List.map_nil]); first | done | rfl | (simp only [List.length_drop, List.length_take]; rfl)) ?_
             with_reducible refine (slices_Clone_impl_Clue_impl_Clue.calls _ _ l0_2 t328 _ ?side1 ?side2 A3.out).mono ?_
             (case side1 => repeat (first | exact (Kd.C_below HR0_2.out HB.out) | (with_reducible refine Kd.C_alloc ?_ _) | (with_reducible refine Kd.C_drewN ?_ _) | (with_reducible refine Kd.C_drew ?_)))
             (case side2 => exact HC0_2.out)
             rintro e w68 ⟨v329, rfl, ho0, hb⟩
             refine ⟨_, rfl, ?_⟩
             have n0_ := amk (Kd.R_lower (Kd.R_newB ho0 (g := gb326) (o := .cells #[.int .i64 a1_0, .int .i64 a1_1, .int .i64 a1_2] 37 (0, 0)) BK326.out) (below_size HB.out))
             have n1_ := amk (blk_below BK325.out hb)
             have n2_ := amk (blk_below BK326.out hb)
             have n3_ := amk (blk_below BK327.out hb)
             have n4_ := amk (bp_ HB.out hb)
             clear BK325 BK326 BK327 HB
             have HO330 := n0_
             have BK325 := n1_
             have BK326 := n2_
             have BK327 := n3_
             have HB := n4_
             clear n0_ n1_ n2_ n3_ n4_
             (try clear hb)
             (try clear hb2)
             (try clear hk)
             (try clear hi)
             (try clear ho0)
             refine hK.out _ _ ⟨(blk_cell BK325.out 0).trans rfl, (blk_cell BK325.out 1).trans rfl, (blk_cell BK325.out 2).trans rfl, (blk_cell BK326.out 0).trans rfl, (blk_cell BK326.out 1).trans rfl, (blk_cell BK326.out 2).trans rfl⟩ (fun hHeld => ?_)
             clear hK K
             refine norm_ (a' := ?_) ?_ ?_
             rotate_left
             · show Act.put _ (some 11) _ = _
              simp only [Act.put, List.setIfInBounds_toArray, List.set_cons_zero, List.set_cons_succ, i64_w, i32_w]
              rfl
             exact norm_ (by first | (simp only [putAll, Act.put, List.setIfInBounds_toArray, List.set_cons_zero, List.set_cons_succ]; done) | (simp only [putAll, Act.put, List.setIfInBounds_toArray, List.set_cons_zero, List.set_cons_succ]; rfl)) (hJ4 (v329) _ ⟨hHeld, (by (with_reducible repeat (first | apply Kd.R_alloc | apply Kd.R_drewN | apply Kd.R_drew)); exact Kd.R_mono HO330.out (fun _ hk => hk.2)), BK325.out, BK326.out, BK327.out, HB.out⟩)
            · skip
             refine Kd.R_lit_step k37 _ 37 ?hg (N := 13) ?hd (xs := ([(⟨a1_0, a1_1, a1_2⟩ : S37)] : List (S37))) (inner := [.int .i64 a1_0, .int .i64 a1_1, .int .i64 a1_2]) (ok := fun _ => True) (okp := fun _ => True) ?hr ?hp (fun _ hk => hk) trivial (Below.refl _ _) (Nat.le_refl _) (by simp) ?_; (case hd => rfl); (case hg => rfl); (case hr => first | (go_simp; done) | (go_simp; rfl)); (case hp => exact (Reps.c3 (show Kd.M k37 _ _ _ (⟨a1_0, a1_1, a1_2⟩ : S37) [.int .i64 a1_0, .int .i64 a1_1, .int .i64 a1_2] from (k37_mkM _ _ _ (⟨a1_0, a1_1, a1_2⟩ : S37) )) (Reps.none _ _)))
             intro v332 w68 ho69 hb hg_ hnew_
             clear hg_ hnew_
             (first | rw [← Ny331.out] at ho69 | (simp only [Int.reduceToNat] at ho69; rw [← Ny331.out] at ho69))
             have n0_ := amk (Kd.R_lower (Kd.R_newB ho69 (g := gb326) (o := .cells #[.int .i64 a1_0, .int .i64 a1_1, .int .i64 a1_2] 37 (0, 0)) BK326.out) (below_size HB.out))
             have n1_ := amk (blk_below BK325.out hb)
             have n2_ := amk (blk_below BK326.out hb)
             have n3_ := amk (blk_below BK327.out hb)
             have n4_ := amk (bp_ HB.out hb)
             clear BK325 BK326 BK327 HB
             have HO333 := n0_
             have BK325 := n1_
             have BK326 := n2_
             have BK327 := n3_
             have HB := n4_
             clear n0_ n1_ n2_ n3_ n4_ hb ho69
             refine hK.out _ _ ⟨(blk_cell BK325.out 0).trans rfl, (blk_cell BK325.out 1).trans rfl, (blk_cell BK325.out 2).trans rfl, (blk_cell BK326.out 0).trans rfl, (blk_cell BK326.out 1).trans rfl, (blk_cell BK326.out 2).trans rfl⟩ (fun hHeld => ?_)
             clear hK K
             refine norm_ (a' := ?_) ?_ ?_
             rotate_left
             · show Act.put _ (some 13) _ = _
              simp only [Act.put, List.setIfInBounds_toArray, List.set_cons_zero, List.set_cons_succ, i64_w, i32_w]
              rfl
             exact norm_ (by first | (simp only [putAll, Act.put, List.setIfInBounds_toArray, List.set_cons_zero, List.set_cons_succ]; done) | (simp only [putAll, Act.put, List.setIfInBounds_toArray, List.set_cons_zero, List.set_cons_succ]; rfl)) (hJ6 (v332) _ ⟨hHeld, (by (with_reducible repeat (first | apply Kd.R_alloc | apply Kd.R_drewN | apply Kd.R_drew)); exact Kd.R_mono HO333.out (fun _ hk => hk.2)), BK325.out, BK326.out, BK327.out, HB.out⟩)
            · skip
             refine box_step ?hg (N := 6) ?hd (cs := #[.int .i64 0, .int .i64 0, .slice none 0 0]) (t := 33) ?hr ?_; (case hd => rfl); (case hg => rfl); (case hr => first | (go_simp; done) | (go_simp; rfl))
             intro gb337 hg w68 hbox hb
             have n0_ := amk (blk_below BK325.out hb)
             have n1_ := amk (blk_below BK326.out hb)
             have n2_ := amk (blk_below BK327.out hb)
             have n3_ := amk (bp_ HB.out hb)
             have n4_ := amk (hbox)
             have n5_ := amk ((by rw [hg]; exact (below_size HB.out) : w.heap.size ≤ gb337))
             have n6_ := amk ((by rw [hg]; exact (below_size HB.out) : w.heap.size ≤ gb337))
             have n7_ := amk ((by rw [hg]; exact Nat.ne_of_lt (blk_lt BK325.out) : gb325 ≠ gb337))
             have n8_ := amk ((by rw [hg]; exact Nat.ne_of_gt (blk_lt BK325.out) : gb337 ≠ gb325))
             have n9_ := amk ((by rw [hg]; exact Nat.ne_of_lt (blk_lt BK326.out) : gb326 ≠ gb337))
             have n10_ := amk ((by rw [hg]; exact Nat.ne_of_gt (blk_lt BK326.out) : gb337 ≠ gb326))
             have n11_ := amk ((by rw [hg]; exact Nat.ne_of_lt (blk_lt BK327.out) : gb327 ≠ gb337))
             have n12_ := amk ((by rw [hg]; exact Nat.ne_of_gt (blk_lt BK327.out) : gb337 ≠ gb327))
             clear BK325 BK326 BK327 HB
             have BK325 := n0_
             have BK326 := n1_
             have BK327 := n2_
             have HB := n3_
             have BK337 := n4_
             have GW337 := n5_
             have GE337 := n6_
             have NB325_337 := n7_
             have NB337_325 := n8_
             have NB326_337 := n9_
             have NB337_326 := n10_
             have NB327_337 := n11_
             have NB337_327 := n12_
             clear n0_ n1_ n2_ n3_ n4_ n5_ n6_ n7_ n8_ n9_ n10_ n11_ n12_ hb hbox hg
             refine hK.out _ _ ⟨(blk_cell BK325.out 0).trans rfl, (blk_cell BK325.out 1).trans rfl, (blk_cell BK325.out 2).trans rfl, (blk_cell BK326.out 0).trans rfl, (blk_cell BK326.out 1).trans rfl, (blk_cell BK326.out 2).trans rfl⟩ (fun hHeld => ?_)
             clear hK K
             refine norm_ (a' := ?_) ?_ ?_
             rotate_left
             · show Act.put _ (some 6) _ = _
              simp only [Act.put, List.setIfInBounds_toArray, List.set_cons_zero, List.set_cons_succ, i64_w, i32_w]
              rfl
             exact norm_ (by first | (simp only [putAll, Act.put, List.setIfInBounds_toArray, List.set_cons_zero, List.set_cons_succ]; done) | (simp only [putAll, Act.put, List.setIfInBounds_toArray, List.set_cons_zero, List.set_cons_succ]; rfl)) (hJ9 (gb337) _ ⟨hHeld, BK325.out, BK326.out, BK327.out, BK337.out, GW337.out, GE337.out, NB325_337.out, NB337_325.out, NB326_337.out, NB337_326.out, NB327_337.out, NB337_327.out, HB.out⟩)
           · skip
            rintro gb337 w69 ⟨hS_, h0_, h1_, h2_, h3_, h4_, h5_, h6_, h7_, h8_, h9_, h10_, h11_, h12_⟩
            have n0_ : Aside0 (w69.heap[gb325]? = some (.cells #[.int .i64 a0_0, .int .i64 a0_1, .slice A0_2 l0_2.length c0_2] 33 (0, 0))) := ⟨h0_⟩
            have n1_ : Aside0 (w69.heap[gb326]? = some (.cells #[.int .i64 a1_0, .int .i64 a1_1, .int .i64 a1_2] 37 (0, 0))) := ⟨h1_⟩
            have n2_ : Aside0 (w69.heap[gb327]? = some (.cells #[.int .i64 0, .int .i64 0, .slice none 0 0] 33 (0, 0))) := ⟨h2_⟩
            have n3_ : Aside0 (w69.heap[gb337]? = some (.cells #[.int .i64 0, .int .i64 0, .slice none 0 0] 33 (0, 0))) := ⟨h3_⟩
            have n4_ : Aside0 (w.heap.size ≤ gb337) := ⟨h4_⟩
            have n5_ : Aside0 (w.heap.size ≤ gb337) := ⟨h5_⟩
            have n6_ : Aside0 (gb325 ≠ gb337) := ⟨h6_⟩
            have n7_ : Aside0 (gb337 ≠ gb325) := ⟨h7_⟩
            have n8_ : Aside0 (gb326 ≠ gb337) := ⟨h8_⟩
            have n9_ : Aside0 (gb337 ≠ gb326) := ⟨h9_⟩
            have n10_ : Aside0 (gb327 ≠ gb337) := ⟨h10_⟩
            have n11_ : Aside0 (gb337 ≠ gb327) := ⟨h11_⟩
            have n12_ : Aside0 (Below w.heap.size w w69) := ⟨h12_⟩
            clear BK325 BK326 BK327 HB h0_ h1_ h2_ h3_ h4_ h5_ h6_ h7_ h8_ h9_ h10_ h11_ h12_
            have BK325 := n0_
            have BK326 := n1_
            have BK327 := n2_
            have BK337 := n3_
            have GW337 := n4_
            have GE337 := n5_
            have NB325_337 := n6_
            have NB337_325 := n7_
            have NB326_337 := n8_
            have NB337_326 := n9_
            have NB327_337 := n10_
            have NB337_327 := n11_
            have HB := n12_
            clear n0_ n1_ n2_ n3_ n4_ n5_ n6_ n7_ n8_ n9_ n10_ n11_ n12_
            have hHeld : w69.cell? ⟨gb325, 0, none⟩ = some (.int .i64 a0_0) ∧ w69.cell? ⟨gb325, 1, none⟩ = some (.int .i64 a0_1) ∧ w69.cell? ⟨gb325, 2, none⟩ = some (.slice A0_2 l0_2.length c0_2) ∧ w69.cell? ⟨gb326, 0, none⟩ = some (.int .i64 a1_0) ∧ w69.cell? ⟨gb326, 1, none⟩ = some (.int .i64 a1_1) ∧ w69.cell? ⟨gb326, 2, none⟩ = some (.int .i64 a1_2) := hS_
            refine norm_ (a' := ?_) ?_ ?_
            rotate_left
            · simp only [putAll, Act.put, List.setIfInBounds_toArray, List.set_cons_zero, List.set_cons_succ]
             rfl
            refine two_ (i := 4) (j := 6) (Ni := some 11) (Nj := some 13) #[true, true, true, true, true, true, false, false, false, true, false] #[true, true, true, true, false, true, true, false, false, true, false] rfl rfl rfl rfl (two_of HT_.out (by kernel_rfl)) (by decide) (by decide) (fun K hK => ?_) (fun K hK => ?_)
            · skip
             refine goes_ Try.func23 (by kernel_rfl) rfl #[.slice A0_2 l0_2.length c0_2] (by rfl) rfl rfl (by (try simp only [List.map_toArray, List.map_cons, List.map_nil]); first | done | rfl | (simp only [List.length_drop, List.length_take]; rfl)) ?_
             with_reducible refine (slices_Clone_impl_Clue_impl_Clue.calls _ _ l0_2 t328 _ ?side1 ?side2 A3.out).mono ?_
             (case side1 => repeat (first | exact (Kd.C_below HR0_2.out HB.out) | (with_reducible refine Kd.C_alloc ?_ _) | (with_reducible refine Kd.C_drewN ?_ _) | (with_reducible refine Kd.C_drew ?_)))
             (case side2 => exact HC0_2.out)
             rintro e w70 ⟨v329, rfl, ho0, hb⟩
             refine ⟨_, rfl, ?_⟩
             have n0_ := amk (Kd.R_lower (Kd.R_newB ho0 (g := gb326) (o := .cells #[.int .i64 a1_0, .int .i64 a1_1, .int .i64 a1_2] 37 (0, 0)) BK326.out) (below_size HB.out))
             have n1_ := amk (blk_below BK325.out hb)
             have n2_ := amk (blk_below BK326.out hb)
             have n3_ := amk (blk_below BK327.out hb)
             have n4_ := amk (blk_below BK337.out hb)
             have n5_ := amk (bp_ HB.out hb)
             clear BK325 BK326 BK327 BK337 HB
             have HO330 := n0_
             have BK325 := n1_
             have BK326 := n2_
             have BK327 := n3_
             have BK337 := n4_
             have HB := n5_
             clear n0_ n1_ n2_ n3_ n4_ n5_
             (try clear hb)
             (try clear hb2)
             (try clear hk)
             (try clear hi)
             (try clear ho0)
             refine hK.out _ _ ⟨(blk_cell BK325.out 0).trans rfl, (blk_cell BK325.out 1).trans rfl, (blk_cell BK325.out 2).trans rfl, (blk_cell BK326.out 0).trans rfl, (blk_cell BK326.out 1).trans rfl, (blk_cell BK326.out 2).trans rfl⟩ (fun hHeld => ?_)
             clear hK K
             refine norm_ (a' := ?_) ?_ ?_
             rotate_left
             · show Act.put _ (some 11) _ = _
              simp only [Act.put, List.setIfInBounds_toArray, List.set_cons_zero, List.set_cons_succ, i64_w, i32_w]
              rfl
             exact norm_ (by first | (simp only [putAll, Act.put, List.setIfInBounds_toArray, List.set_cons_zero, List.set_cons_succ]; done) | (simp only [putAll, Act.put, List.setIfInBounds_toArray, List.set_cons_zero, List.set_cons_succ]; rfl)) (hJ4_9 (v329, gb337) _ ⟨hHeld, (by (with_reducible repeat (first | apply Kd.R_alloc | apply Kd.R_drewN | apply Kd.R_drew)); exact Kd.R_mono HO330.out (fun _ hk => hk.2)), BK325.out, BK326.out, BK327.out, BK337.out, GW337.out, GE337.out, NB325_337.out, NB337_325.out, NB326_337.out, NB337_326.out, NB327_337.out, NB337_327.out, HB.out⟩)
            · skip
             refine Kd.R_lit_step k37 _ 37 ?hg (N := 13) ?hd (xs := ([(⟨a1_0, a1_1, a1_2⟩ : S37)] : List (S37))) (inner := [.int .i64 a1_0, .int .i64 a1_1, .int .i64 a1_2]) (ok := fun _ => True) (okp := fun _ => True) ?hr ?hp (fun _ hk => hk) trivial (Below.refl _ _) (Nat.le_refl _) (by simp) ?_; (case hd => rfl); (case hg => rfl); (case hr => first | (go_simp; done) | (go_simp; rfl)); (case hp => exact (Reps.c3 (show Kd.M k37 _ _ _ (⟨a1_0, a1_1, a1_2⟩ : S37) [.int .i64 a1_0, .int .i64 a1_1, .int .i64 a1_2] from (k37_mkM _ _ _ (⟨a1_0, a1_1, a1_2⟩ : S37) )) (Reps.none _ _)))
             intro v332 w70 ho71 hb hg_ hnew_
             clear hg_ hnew_
             (first | rw [← Ny331.out] at ho71 | (simp only [Int.reduceToNat] at ho71; rw [← Ny331.out] at ho71))
             have n0_ := amk (Kd.R_lower (Kd.R_newB ho71 (g := gb326) (o := .cells #[.int .i64 a1_0, .int .i64 a1_1, .int .i64 a1_2] 37 (0, 0)) BK326.out) (below_size HB.out))
             have n1_ := amk (blk_below BK325.out hb)
             have n2_ := amk (blk_below BK326.out hb)
             have n3_ := amk (blk_below BK327.out hb)
             have n4_ := amk (blk_below BK337.out hb)
             have n5_ := amk (bp_ HB.out hb)
             clear BK325 BK326 BK327 BK337 HB
             have HO333 := n0_
             have BK325 := n1_
             have BK326 := n2_
             have BK327 := n3_
             have BK337 := n4_
             have HB := n5_
             clear n0_ n1_ n2_ n3_ n4_ n5_ hb ho71
             refine hK.out _ _ ⟨(blk_cell BK325.out 0).trans rfl, (blk_cell BK325.out 1).trans rfl, (blk_cell BK325.out 2).trans rfl, (blk_cell BK326.out 0).trans rfl, (blk_cell BK326.out 1).trans rfl, (blk_cell BK326.out 2).trans rfl⟩ (fun hHeld => ?_)
             clear hK K
             refine norm_ (a' := ?_) ?_ ?_
             rotate_left
             · show Act.put _ (some 13) _ = _
              simp only [Act.put, List.setIfInBounds_toArray, List.set_cons_zero, List.set_cons_succ, i64_w, i32_w]
              rfl
             exact norm_ (by first | (simp only [putAll, Act.put, List.setIfInBounds_toArray, List.set_cons_zero, List.set_cons_succ]; done) | (simp only [putAll, Act.put, List.setIfInBounds_toArray, List.set_cons_zero, List.set_cons_succ]; rfl)) (hJ6_9 (v332, gb337) _ ⟨hHeld, (by (with_reducible repeat (first | apply Kd.R_alloc | apply Kd.R_drewN | apply Kd.R_drew)); exact Kd.R_mono HO333.out (fun _ hk => hk.2)), BK325.out, BK326.out, BK327.out, BK337.out, GW337.out, GE337.out, NB325_337.out, NB337_325.out, NB326_337.out, NB337_326.out, NB327_337.out, NB337_327.out, HB.out⟩)
          · skip
           rintro v332 w70 ⟨hS_, h0_, h1_, h2_, h3_, h4_⟩
           have n0_ : Aside0 (Kd.R k37 37 w70 w.heap.size (fun k_ => k_ ≠ gb326) v332 y331) := ⟨h0_⟩
           have n1_ : Aside0 (w70.heap[gb325]? = some (.cells #[.int .i64 a0_0, .int .i64 a0_1, .slice A0_2 l0_2.length c0_2] 33 (0, 0))) := ⟨h1_⟩
           have n2_ : Aside0 (w70.heap[gb326]? = some (.cells #[.int .i64 a1_0, .int .i64 a1_1, .int .i64 a1_2] 37 (0, 0))) := ⟨h2_⟩
           have n3_ : Aside0 (w70.heap[gb327]? = some (.cells #[.int .i64 0, .int .i64 0, .slice none 0 0] 33 (0, 0))) := ⟨h3_⟩
           have n4_ : Aside0 (Below w.heap.size w w70) := ⟨h4_⟩
           clear BK325 BK326 BK327 HB h0_ h1_ h2_ h3_ h4_
           have HO333 := n0_
           have BK325 := n1_
           have BK326 := n2_
           have BK327 := n3_
           have HB := n4_
           clear n0_ n1_ n2_ n3_ n4_
           have hHeld : w70.cell? ⟨gb325, 0, none⟩ = some (.int .i64 a0_0) ∧ w70.cell? ⟨gb325, 1, none⟩ = some (.int .i64 a0_1) ∧ w70.cell? ⟨gb325, 2, none⟩ = some (.slice A0_2 l0_2.length c0_2) ∧ w70.cell? ⟨gb326, 0, none⟩ = some (.int .i64 a1_0) ∧ w70.cell? ⟨gb326, 1, none⟩ = some (.int .i64 a1_1) ∧ w70.cell? ⟨gb326, 2, none⟩ = some (.int .i64 a1_2) := hS_
           refine norm_ (a' := ?_) ?_ ?_
           rotate_left
           · simp only [putAll, Act.put, List.setIfInBounds_toArray, List.set_cons_zero, List.set_cons_succ]
            rfl
           refine two_ (i := 4) (j := 9) (Ni := some 11) (Nj := some 6) #[true, true, true, true, true, true, true, false, false, false, false] #[true, true, true, true, false, true, true, false, false, true, false] rfl rfl rfl rfl (two_of HT_.out (by kernel_rfl)) (by decide) (by decide) (fun K hK => ?_) (fun K hK => ?_)
           · skip
            refine goes_ Try.func23 (by kernel_rfl) rfl #[.slice A0_2 l0_2.length c0_2] (by rfl) rfl rfl (by (try simp only [List.map_toArray, List.map_cons, List.map_nil]); first | done | rfl | (simp only [List.length_drop, List.length_take]; rfl)) ?_
            with_reducible refine (slices_Clone_impl_Clue_impl_Clue.calls _ _ l0_2 t328 _ ?side1 ?side2 A3.out).mono ?_
            (case side1 => repeat (first | exact (Kd.C_below HR0_2.out HB.out) | (with_reducible refine Kd.C_alloc ?_ _) | (with_reducible refine Kd.C_drewN ?_ _) | (with_reducible refine Kd.C_drew ?_)))
            (case side2 => exact HC0_2.out)
            rintro e w71 ⟨v329, rfl, ho0, hb⟩
            refine ⟨_, rfl, ?_⟩
            have n0_ := amk (Kd.R_elder' HO333.out (Kd.R_base ho0) hb)
            have n1_ := amk (Kd.R_lower (Kd.R_newB (Kd.R_new' ho0 (Kd.R_lt HO333.out)) (g := gb326) (o := .cells #[.int .i64 a1_0, .int .i64 a1_1, .int .i64 a1_2] 37 (0, 0)) BK326.out) (below_size HB.out))
            have n2_ := amk (blk_below BK325.out hb)
            have n3_ := amk (blk_below BK326.out hb)
            have n4_ := amk (blk_below BK327.out hb)
            have n5_ := amk (bp_ HB.out hb)
            clear HO333 BK325 BK326 BK327 HB
            have HO333 := n0_
            have HO330 := n1_
            have BK325 := n2_
            have BK326 := n3_
            have BK327 := n4_
            have HB := n5_
            clear n0_ n1_ n2_ n3_ n4_ n5_
            (try clear hb)
            (try clear hb2)
            (try clear hk)
            (try clear hi)
            (try clear ho0)
            refine hK.out _ _ ⟨(blk_cell BK325.out 0).trans rfl, (blk_cell BK325.out 1).trans rfl, (blk_cell BK325.out 2).trans rfl, (blk_cell BK326.out 0).trans rfl, (blk_cell BK326.out 1).trans rfl, (blk_cell BK326.out 2).trans rfl⟩ (fun hHeld => ?_)
            clear hK K
            refine norm_ (a' := ?_) ?_ ?_
            rotate_left
            · show Act.put _ (some 11) _ = _
             simp only [Act.put, List.setIfInBounds_toArray, List.set_cons_zero, List.set_cons_succ, i64_w, i32_w]
             rfl
            exact norm_ (by first | (simp only [putAll, Act.put, List.setIfInBounds_toArray, List.set_cons_zero, List.set_cons_succ]; done) | (simp only [putAll, Act.put, List.setIfInBounds_toArray, List.set_cons_zero, List.set_cons_succ]; rfl)) (hJ4_6 (v329, v332) _ ⟨hHeld, (by (with_reducible repeat (first | apply Kd.R_alloc | apply Kd.R_drewN | apply Kd.R_drew)); exact Kd.R_mono HO330.out (fun _ hk => ⟨hk.1.2, hk.2⟩)), (by (with_reducible repeat (first | apply Kd.R_alloc | apply Kd.R_drewN | apply Kd.R_drew)); exact Kd.R_mono HO333.out (fun _ hk => ⟨hk.2, hk.1⟩)), BK325.out, BK326.out, BK327.out, HB.out⟩)
           · skip
            refine box_step ?hg (N := 6) ?hd (cs := #[.int .i64 0, .int .i64 0, .slice none 0 0]) (t := 33) ?hr ?_; (case hd => rfl); (case hg => rfl); (case hr => first | (go_simp; done) | (go_simp; rfl))
            intro gb337 hg w71 hbox hb
            have n0_ := amk (Kd.R_below HO333.out hb)
            have n1_ := amk (blk_below BK325.out hb)
            have n2_ := amk (blk_below BK326.out hb)
            have n3_ := amk (blk_below BK327.out hb)
            have n4_ := amk (bp_ HB.out hb)
            have n5_ := amk (hbox)
            have n6_ := amk ((by rw [hg]; exact (below_size HB.out) : w.heap.size ≤ gb337))
            have n7_ := amk ((by rw [hg]; exact (below_size HB.out) : w.heap.size ≤ gb337))
            have n8_ := amk ((by rw [hg]; exact Nat.ne_of_lt (blk_lt BK325.out) : gb325 ≠ gb337))
            have n9_ := amk ((by rw [hg]; exact Nat.ne_of_gt (blk_lt BK325.out) : gb337 ≠ gb325))
            have n10_ := amk ((by rw [hg]; exact Nat.ne_of_lt (blk_lt BK326.out) : gb326 ≠ gb337))
            have n11_ := amk ((by rw [hg]; exact Nat.ne_of_gt (blk_lt BK326.out) : gb337 ≠ gb326))
            have n12_ := amk ((by rw [hg]; exact Nat.ne_of_lt (blk_lt BK327.out) : gb327 ≠ gb337))
            have n13_ := amk ((by rw [hg]; exact Nat.ne_of_gt (blk_lt BK327.out) : gb337 ≠ gb327))
            clear HO333 BK325 BK326 BK327 HB
            have HO333 := n0_
            have BK325 := n1_
            have BK326 := n2_
            have BK327 := n3_
            have HB := n4_
            have BK337 := n5_
            have GW337 := n6_
            have GE337 := n7_
            have NB325_337 := n8_
            have NB337_325 := n9_
            have NB326_337 := n10_
            have NB337_326 := n11_
            have NB327_337 := n12_
            have NB337_327 := n13_
            clear n0_ n1_ n2_ n3_ n4_ n5_ n6_ n7_ n8_ n9_ n10_ n11_ n12_ n13_ hb hbox hg
            refine hK.out _ _ ⟨(blk_cell BK325.out 0).trans rfl, (blk_cell BK325.out 1).trans rfl, (blk_cell BK325.out 2).trans rfl, (blk_cell BK326.out 0).trans rfl, (blk_cell BK326.out 1).trans rfl, (blk_cell BK326.out 2).trans rfl⟩ (fun hHeld => ?_)
            clear hK K
            refine norm_ (a' := ?_) ?_ ?_
            rotate_left
            · show Act.put _ (some 6) _ = _
             simp only [Act.put, List.setIfInBounds_toArray, List.set_cons_zero, List.set_cons_succ, i64_w, i32_w]
             rfl
            exact norm_ (by first | (simp only [putAll, Act.put, List.setIfInBounds_toArray, List.set_cons_zero, List.set_cons_succ]; done) | (simp only [putAll, Act.put, List.setIfInBounds_toArray, List.set_cons_zero, List.set_cons_succ]; rfl)) (hJ6_9 (v332, gb337) _ ⟨hHeld, HO333.out, BK325.out, BK326.out, BK327.out, BK337.out, GW337.out, GE337.out, NB325_337.out, NB337_325.out, NB326_337.out, NB337_326.out, NB327_337.out, NB337_327.out, HB.out⟩)
         · skip
          rintro v329 w69 ⟨hS_, h0_, h1_, h2_, h3_, h4_⟩
          have n0_ : Aside0 (Kd.R k37 37 w69 w.heap.size (fun k_ => k_ ≠ gb326) v329 t328) := ⟨h0_⟩
          have n1_ : Aside0 (w69.heap[gb325]? = some (.cells #[.int .i64 a0_0, .int .i64 a0_1, .slice A0_2 l0_2.length c0_2] 33 (0, 0))) := ⟨h1_⟩
          have n2_ : Aside0 (w69.heap[gb326]? = some (.cells #[.int .i64 a1_0, .int .i64 a1_1, .int .i64 a1_2] 37 (0, 0))) := ⟨h2_⟩
          have n3_ : Aside0 (w69.heap[gb327]? = some (.cells #[.int .i64 0, .int .i64 0, .slice none 0 0] 33 (0, 0))) := ⟨h3_⟩
          have n4_ : Aside0 (Below w.heap.size w w69) := ⟨h4_⟩
          clear BK325 BK326 BK327 HB h0_ h1_ h2_ h3_ h4_
          have HO330 := n0_
          have BK325 := n1_
          have BK326 := n2_
          have BK327 := n3_
          have HB := n4_
          clear n0_ n1_ n2_ n3_ n4_
          have hHeld : w69.cell? ⟨gb325, 0, none⟩ = some (.int .i64 a0_0) ∧ w69.cell? ⟨gb325, 1, none⟩ = some (.int .i64 a0_1) ∧ w69.cell? ⟨gb325, 2, none⟩ = some (.slice A0_2 l0_2.length c0_2) ∧ w69.cell? ⟨gb326, 0, none⟩ = some (.int .i64 a1_0) ∧ w69.cell? ⟨gb326, 1, none⟩ = some (.int .i64 a1_1) ∧ w69.cell? ⟨gb326, 2, none⟩ = some (.int .i64 a1_2) := hS_
          refine norm_ (a' := ?_) ?_ ?_
          rotate_left
          · simp only [putAll, Act.put, List.setIfInBounds_toArray, List.set_cons_zero, List.set_cons_succ]
           rfl
          refine two_ (i := 6) (j := 9) (Ni := some 13) (Nj := some 6) #[true, true, true, true, true, true, true, false, false, false, false] #[true, true, true, true, true, true, false, false, false, true, false] rfl rfl rfl rfl (two_of HT_.out (by kernel_rfl)) (by decide) (by decide) (fun K hK => ?_) (fun K hK => ?_)
          · skip
           refine Kd.R_lit_step k37 _ 37 ?hg (N := 13) ?hd (xs := ([(⟨a1_0, a1_1, a1_2⟩ : S37)] : List (S37))) (inner := [.int .i64 a1_0, .int .i64 a1_1, .int .i64 a1_2]) (ok := fun _ => True) (okp := fun _ => True) ?hr ?hp (fun _ hk => hk) trivial (Below.refl _ _) (Nat.le_refl _) (by simp) ?_; (case hd => rfl); (case hg => rfl); (case hr => first | (go_simp; done) | (go_simp; rfl)); (case hp => exact (Reps.c3 (show Kd.M k37 _ _ _ (⟨a1_0, a1_1, a1_2⟩ : S37) [.int .i64 a1_0, .int .i64 a1_1, .int .i64 a1_2] from (k37_mkM _ _ _ (⟨a1_0, a1_1, a1_2⟩ : S37) )) (Reps.none _ _)))
           intro v332 w70 ho71 hb hg_ hnew_
           clear hg_ hnew_
           (first | rw [← Ny331.out] at ho71 | (simp only [Int.reduceToNat] at ho71; rw [← Ny331.out] at ho71))
           have n0_ := amk (Kd.R_elder' HO330.out (Kd.R_base ho71) hb)
           have n1_ := amk (Kd.R_lower (Kd.R_newB (Kd.R_new' ho71 (Kd.R_lt HO330.out)) (g := gb326) (o := .cells #[.int .i64 a1_0, .int .i64 a1_1, .int .i64 a1_2] 37 (0, 0)) BK326.out) (below_size HB.out))
           have n2_ := amk (blk_below BK325.out hb)
           have n3_ := amk (blk_below BK326.out hb)
           have n4_ := amk (blk_below BK327.out hb)
           have n5_ := amk (bp_ HB.out hb)
           clear HO330 BK325 BK326 BK327 HB
           have HO330 := n0_
           have HO333 := n1_
           have BK325 := n2_
           have BK326 := n3_
           have BK327 := n4_
           have HB := n5_
           clear n0_ n1_ n2_ n3_ n4_ n5_ hb ho71
           refine hK.out _ _ ⟨(blk_cell BK325.out 0).trans rfl, (blk_cell BK325.out 1).trans rfl, (blk_cell BK325.out 2).trans rfl, (blk_cell BK326.out 0).trans rfl, (blk_cell BK326.out 1).trans rfl, (blk_cell BK326.out 2).trans rfl⟩ (fun hHeld => ?_)
           clear hK K
           refine norm_ (a' := ?_) ?_ ?_
           rotate_left
           · show Act.put _ (some 13) _ = _
            simp only [Act.put, List.setIfInBounds_toArray, List.set_cons_zero, List.set_cons_succ, i64_w, i32_w]
            rfl
           exact norm_ (by first | (simp only [putAll, Act.put, List.setIfInBounds_toArray, List.set_cons_zero, List.set_cons_succ]; done) | (simp only [putAll, Act.put, List.setIfInBounds_toArray, List.set_cons_zero, List.set_cons_succ]; rfl)) (hJ4_6 (v329, v332) _ ⟨hHeld, (by (with_reducible repeat (first | apply Kd.R_alloc | apply Kd.R_drewN | apply Kd.R_drew)); exact Kd.R_mono HO330.out (fun _ hk => ⟨hk.2, hk.1⟩)), (by (with_reducible repeat (first | apply Kd.R_alloc | apply Kd.R_drewN | apply Kd.R_drew)); exact Kd.R_mono HO333.out (fun _ hk => ⟨hk.1.2, hk.2⟩)), BK325.out, BK326.out, BK327.out, HB.out⟩)
          · skip
           refine box_step ?hg (N := 6) ?hd (cs := #[.int .i64 0, .int .i64 0, .slice none 0 0]) (t := 33) ?hr ?_; (case hd => rfl); (case hg => rfl); (case hr => first | (go_simp; done) | (go_simp; rfl))
           intro gb337 hg w70 hbox hb
           have n0_ := amk (Kd.R_below HO330.out hb)
           have n1_ := amk (blk_below BK325.out hb)
           have n2_ := amk (blk_below BK326.out hb)
           have n3_ := amk (blk_below BK327.out hb)
           have n4_ := amk (bp_ HB.out hb)
           have n5_ := amk (hbox)
           have n6_ := amk ((by rw [hg]; exact (below_size HB.out) : w.heap.size ≤ gb337))
           have n7_ := amk ((by rw [hg]; exact (below_size HB.out) : w.heap.size ≤ gb337))
           have n8_ := amk ((by rw [hg]; exact Nat.ne_of_lt (blk_lt BK325.out) : gb325 ≠ gb337))
           have n9_ := amk ((by rw [hg]; exact Nat.ne_of_gt (blk_lt BK325.out) : gb337 ≠ gb325))
           have n10_ := amk ((by rw [hg]; exact Nat.ne_of_lt (blk_lt BK326.out) : gb326 ≠ gb337))
           have n11_ := amk ((by rw [hg]; exact Nat.ne_of_gt (blk_lt BK326.out) : gb337 ≠ gb326))
           have n12_ := amk ((by rw [hg]; exact Nat.ne_of_lt (blk_lt BK327.out) : gb327 ≠ gb337))
           have n13_ := amk ((by rw [hg]; exact Nat.ne_of_gt (blk_lt BK327.out) : gb337 ≠ gb327))
           clear HO330 BK325 BK326 BK327 HB
           have HO330 := n0_
           have BK325 := n1_
           have BK326 := n2_
           have BK327 := n3_
           have HB := n4_
           have BK337 := n5_
           have GW337 := n6_
           have GE337 := n7_
           have NB325_337 := n8_
           have NB337_325 := n9_
           have NB326_337 := n10_
           have NB337_326 := n11_
           have NB327_337 := n12_
           have NB337_327 := n13_
           clear n0_ n1_ n2_ n3_ n4_ n5_ n6_ n7_ n8_ n9_ n10_ n11_ n12_ n13_ hb hbox hg
           refine hK.out _ _ ⟨(blk_cell BK325.out 0).trans rfl, (blk_cell BK325.out 1).trans rfl, (blk_cell BK325.out 2).trans rfl, (blk_cell BK326.out 0).trans rfl, (blk_cell BK326.out 1).trans rfl, (blk_cell BK326.out 2).trans rfl⟩ (fun hHeld => ?_)
           clear hK K
           refine norm_ (a' := ?_) ?_ ?_
           rotate_left
           · show Act.put _ (some 6) _ = _
            simp only [Act.put, List.setIfInBounds_toArray, List.set_cons_zero, List.set_cons_succ, i64_w, i32_w]
            rfl
           exact norm_ (by first | (simp only [putAll, Act.put, List.setIfInBounds_toArray, List.set_cons_zero, List.set_cons_succ]; done) | (simp only [putAll, Act.put, List.setIfInBounds_toArray, List.set_cons_zero, List.set_cons_succ]; rfl)) (hJ4_9 (v329, gb337) _ ⟨hHeld, HO330.out, BK325.out, BK326.out, BK327.out, BK337.out, GW337.out, GE337.out, NB325_337.out, NB337_325.out, NB326_337.out, NB337_326.out, NB327_337.out, NB337_327.out, HB.out⟩)
        · skip
         rintro ⟨v332, gb337⟩ w71 ⟨hS_, h0_, h1_, h2_, h3_, h4_, h5_, h6_, h7_, h8_, h9_, h10_, h11_, h12_, h13_⟩
         have n0_ : Aside0 (Kd.R k37 37 w71 w.heap.size (fun k_ => k_ ≠ gb326) v332 y331) := ⟨h0_⟩
         have n1_ : Aside0 (w71.heap[gb325]? = some (.cells #[.int .i64 a0_0, .int .i64 a0_1, .slice A0_2 l0_2.length c0_2] 33 (0, 0))) := ⟨h1_⟩
         have n2_ : Aside0 (w71.heap[gb326]? = some (.cells #[.int .i64 a1_0, .int .i64 a1_1, .int .i64 a1_2] 37 (0, 0))) := ⟨h2_⟩
         have n3_ : Aside0 (w71.heap[gb327]? = some (.cells #[.int .i64 0, .int .i64 0, .slice none 0 0] 33 (0, 0))) := ⟨h3_⟩
         have n4_ : Aside0 (w71.heap[gb337]? = some (.cells #[.int .i64 0, .int .i64 0, .slice none 0 0] 33 (0, 0))) := ⟨h4_⟩
         have n5_ : Aside0 (w.heap.size ≤ gb337) := ⟨h5_⟩
         have n6_ : Aside0 (w.heap.size ≤ gb337) := ⟨h6_⟩
         have n7_ : Aside0 (gb325 ≠ gb337) := ⟨h7_⟩
         have n8_ : Aside0 (gb337 ≠ gb325) := ⟨h8_⟩
         have n9_ : Aside0 (gb326 ≠ gb337) := ⟨h9_⟩
         have n10_ : Aside0 (gb337 ≠ gb326) := ⟨h10_⟩
         have n11_ : Aside0 (gb327 ≠ gb337) := ⟨h11_⟩
         have n12_ : Aside0 (gb337 ≠ gb327) := ⟨h12_⟩
         have n13_ : Aside0 (Below w.heap.size w w71) := ⟨h13_⟩
         clear BK325 BK326 BK327 HB h0_ h1_ h2_ h3_ h4_ h5_ h6_ h7_ h8_ h9_ h10_ h11_ h12_ h13_
         have HO333 := n0_
         have BK325 := n1_
         have BK326 := n2_
         have BK327 := n3_
         have BK337 := n4_
         have GW337 := n5_
         have GE337 := n6_
         have NB325_337 := n7_
         have NB337_325 := n8_
         have NB326_337 := n9_
         have NB337_326 := n10_
         have NB327_337 := n11_
         have NB337_327 := n12_
         have HB := n13_
         clear n0_ n1_ n2_ n3_ n4_ n5_ n6_ n7_ n8_ n9_ n10_ n11_ n12_ n13_
         have hHeld : w71.cell? ⟨gb325, 0, none⟩ = some (.int .i64 a0_0) ∧ w71.cell? ⟨gb325, 1, none⟩ = some (.int .i64 a0_1) ∧ w71.cell? ⟨gb325, 2, none⟩ = some (.slice A0_2 l0_2.length c0_2) ∧ w71.cell? ⟨gb326, 0, none⟩ = some (.int .i64 a1_0) ∧ w71.cell? ⟨gb326, 1, none⟩ = some (.int .i64 a1_1) ∧ w71.cell? ⟨gb326, 2, none⟩ = some (.int .i64 a1_2) := hS_
         refine norm_ (a' := ?_) ?_ ?_
         rotate_left
         · simp only [putAll, Act.put, List.setIfInBounds_toArray, List.set_cons_zero, List.set_cons_succ]
          rfl
         refine one_ (i := 4) (N := some 11) #[true, true, true, true, true, true, true, false, false, true, false] rfl rfl (one_of HT_.out (by kernel_rfl)) (by decide) (fun K hK => ?_)
         refine goes_ Try.func23 (by kernel_rfl) rfl #[.slice A0_2 l0_2.length c0_2] (by rfl) rfl rfl (by (try simp only [List.map_toArray, List.map_cons, List.map_nil]); first | done | rfl | (simp only [List.length_drop, List.length_take]; rfl)) ?_
         with_reducible refine (slices_Clone_impl_Clue_impl_Clue.calls _ _ l0_2 t328 _ ?side1 ?side2 A3.out).mono ?_
         (case side1 => repeat (first | exact (Kd.C_below HR0_2.out HB.out) | (with_reducible refine Kd.C_alloc ?_ _) | (with_reducible refine Kd.C_drewN ?_ _) | (with_reducible refine Kd.C_drew ?_)))
         (case side2 => exact HC0_2.out)
         rintro e w72 ⟨v329, rfl, ho0, hb⟩
         refine ⟨_, rfl, ?_⟩
         have n0_ := amk (Kd.R_elder' HO333.out (Kd.R_base ho0) hb)
         have n1_ := amk (Kd.R_lower (Kd.R_newB (Kd.R_new' ho0 (Kd.R_lt HO333.out)) (g := gb326) (o := .cells #[.int .i64 a1_0, .int .i64 a1_1, .int .i64 a1_2] 37 (0, 0)) BK326.out) (below_size HB.out))
         have n2_ := amk (blk_below BK325.out hb)
         have n3_ := amk (blk_below BK326.out hb)
         have n4_ := amk (blk_below BK327.out hb)
         have n5_ := amk (blk_below BK337.out hb)
         have n6_ := amk (bp_ HB.out hb)
         clear HO333 BK325 BK326 BK327 BK337 HB
         have HO333 := n0_
         have HO330 := n1_
         have BK325 := n2_
         have BK326 := n3_
         have BK327 := n4_
         have BK337 := n5_
         have HB := n6_
         clear n0_ n1_ n2_ n3_ n4_ n5_ n6_
         (try clear hb)
         (try clear hb2)
         (try clear hk)
         (try clear hi)
         (try clear ho0)
         refine hK.out _ _ ⟨(blk_cell BK325.out 0).trans rfl, (blk_cell BK325.out 1).trans rfl, (blk_cell BK325.out 2).trans rfl, (blk_cell BK326.out 0).trans rfl, (blk_cell BK326.out 1).trans rfl, (blk_cell BK326.out 2).trans rfl⟩ (fun hHeld => ?_)
         clear hK K
         refine norm_ (a' := ?_) ?_ ?_
         rotate_left
         · show Act.put _ (some 11) _ = _
          simp only [Act.put, List.setIfInBounds_toArray, List.set_cons_zero, List.set_cons_succ, i64_w, i32_w]
          rfl
         exact norm_ (by first | (simp only [putAll, Act.put, List.setIfInBounds_toArray, List.set_cons_zero, List.set_cons_succ]; done) | (simp only [putAll, Act.put, List.setIfInBounds_toArray, List.set_cons_zero, List.set_cons_succ]; rfl)) (hJ4_6_9 (v329, v332, gb337) _ ⟨hHeld, (by (with_reducible repeat (first | apply Kd.R_alloc | apply Kd.R_drewN | apply Kd.R_drew)); exact Kd.R_mono HO330.out (fun _ hk => ⟨hk.1.2, hk.2⟩)), (by (with_reducible repeat (first | apply Kd.R_alloc | apply Kd.R_drewN | apply Kd.R_drew)); exact Kd.R_mono HO333.out (fun _ hk => ⟨hk.2, hk.1⟩)), BK325.out, BK326.out, BK327.out, BK337.out, GW337.out, GE337.out, NB325_337.out, NB337_325.out, NB326_337.out, NB337_326.out, NB327_337.out, NB337_327.out, HB.out⟩)
       · skip
        rintro ⟨v329, gb337⟩ w70 ⟨hS_, h0_, h1_, h2_, h3_, h4_, h5_, h6_, h7_, h8_, h9_, h10_, h11_, h12_, h13_⟩
        have n0_ : Aside0 (Kd.R k37 37 w70 w.heap.size (fun k_ => k_ ≠ gb326) v329 t328) := ⟨h0_⟩
        have n1_ : Aside0 (w70.heap[gb325]? = some (.cells #[.int .i64 a0_0, .int .i64 a0_1, .slice A0_2 l0_2.length c0_2] 33 (0, 0))) := ⟨h1_⟩
        have n2_ : Aside0 (w70.heap[gb326]? = some (.cells #[.int .i64 a1_0, .int .i64 a1_1, .int .i64 a1_2] 37 (0, 0))) := ⟨h2_⟩
        have n3_ : Aside0 (w70.heap[gb327]? = some (.cells #[.int .i64 0, .int .i64 0, .slice none 0 0] 33 (0, 0))) := ⟨h3_⟩
        have n4_ : Aside0 (w70.heap[gb337]? = some (.cells #[.int .i64 0, .int .i64 0, .slice none 0 0] 33 (0, 0))) := ⟨h4_⟩
        have n5_ : Aside0 (w.heap.size ≤ gb337) := ⟨h5_⟩
        have n6_ : Aside0 (w.heap.size ≤ gb337) := ⟨h6_⟩
        have n7_ : Aside0 (gb325 ≠ gb337) := ⟨h7_⟩
        have n8_ : Aside0 (gb337 ≠ gb325) := ⟨h8_⟩
        have n9_ : Aside0 (gb326 ≠ gb337) := ⟨h9_⟩
        have n10_ : Aside0 (gb337 ≠ gb326) := ⟨h10_⟩
        have n11_ : Aside0 (gb327 ≠ gb337) := ⟨h11_⟩
        have n12_ : Aside0 (gb337 ≠ gb327) := ⟨h12_⟩
        have n13_ : Aside0 (Below w.heap.size w w70) := ⟨h13_⟩
        clear BK325 BK326 BK327 HB h0_ h1_ h2_ h3_ h4_ h5_ h6_ h7_ h8_ h9_ h10_ h11_ h12_ h13_
        have HO330 := n0_
        have BK325 := n1_
        have BK326 := n2_
        have BK327 := n3_
        have BK337 := n4_
        have GW337 := n5_
        have GE337 := n6_
        have NB325_337 := n7_
        have NB337_325 := n8_
        have NB326_337 := n9_
        have NB337_326 := n10_
        have NB327_337 := n11_
        have NB337_327 := n12_
        have HB := n13_
        clear n0_ n1_ n2_ n3_ n4_ n5_ n6_ n7_ n8_ n9_ n10_ n11_ n12_ n13_
        have hHeld : w70.cell? ⟨gb325, 0, none⟩ = some (.int .i64 a0_0) ∧ w70.cell? ⟨gb325, 1, none⟩ = some (.int .i64 a0_1) ∧ w70.cell? ⟨gb325, 2, none⟩ = some (.slice A0_2 l0_2.length c0_2) ∧ w70.cell? ⟨gb326, 0, none⟩ = some (.int .i64 a1_0) ∧ w70.cell? ⟨gb326, 1, none⟩ = some (.int .i64 a1_1) ∧ w70.cell? ⟨gb326, 2, none⟩ = some (.int .i64 a1_2) := hS_
        refine norm_ (a' := ?_) ?_ ?_
        rotate_left
        · simp only [putAll, Act.put, List.setIfInBounds_toArray, List.set_cons_zero, List.set_cons_succ]
         rfl
        refine one_ (i := 6) (N := some 13) #[true, true, true, true, true, true, true, false, false, true, false] rfl rfl (one_of HT_.out (by kernel_rfl)) (by decide) (fun K hK => ?_)
        refine Kd.R_lit_step k37 _ 37 ?hg (N := 13) ?hd (xs := ([(⟨a1_0, a1_1, a1_2⟩ : S37)] : List (S37))) (inner := [.int .i64 a1_0, .int .i64 a1_1, .int .i64 a1_2]) (ok := fun _ => True) (okp := fun _ => True) ?hr ?hp (fun _ hk => hk) trivial (Below.refl _ _) (Nat.le_refl _) (by simp) ?_; (case hd => rfl); (case hg => rfl); (case hr => first | (go_simp; done) | (go_simp; rfl)); (case hp => exact (Reps.c3 (show Kd.M k37 _ _ _ (⟨a1_0, a1_1, a1_2⟩ : S37) [.int .i64 a1_0, .int .i64 a1_1, .int .i64 a1_2] from (k37_mkM _ _ _ (⟨a1_0, a1_1, a1_2⟩ : S37) )) (Reps.none _ _)))
        intro v332 w71 ho72 hb hg_ hnew_
        clear hg_ hnew_
        (first | rw [← Ny331.out] at ho72 | (simp only [Int.reduceToNat] at ho72; rw [← Ny331.out] at ho72))
        have n0_ := amk (Kd.R_elder' HO330.out (Kd.R_base ho72) hb)
        have n1_ := amk (Kd.R_lower (Kd.R_newB (Kd.R_new' ho72 (Kd.R_lt HO330.out)) (g := gb326) (o := .cells #[.int .i64 a1_0, .int .i64 a1_1, .int .i64 a1_2] 37 (0, 0)) BK326.out) (below_size HB.out))
        have n2_ := amk (blk_below BK325.out hb)
        have n3_ := amk (blk_below BK326.out hb)
        have n4_ := amk (blk_below BK327.out hb)
        have n5_ := amk (blk_below BK337.out hb)
        have n6_ := amk (bp_ HB.out hb)
        clear HO330 BK325 BK326 BK327 BK337 HB
        have HO330 := n0_
        have HO333 := n1_
        have BK325 := n2_
        have BK326 := n3_
        have BK327 := n4_
        have BK337 := n5_
        have HB := n6_
        clear n0_ n1_ n2_ n3_ n4_ n5_ n6_ hb ho72
        refine hK.out _ _ ⟨(blk_cell BK325.out 0).trans rfl, (blk_cell BK325.out 1).trans rfl, (blk_cell BK325.out 2).trans rfl, (blk_cell BK326.out 0).trans rfl, (blk_cell BK326.out 1).trans rfl, (blk_cell BK326.out 2).trans rfl⟩ (fun hHeld => ?_)
        clear hK K
        refine norm_ (a' := ?_) ?_ ?_
        rotate_left
        · show Act.put _ (some 13) _ = _
         simp only [Act.put, List.setIfInBounds_toArray, List.set_cons_zero, List.set_cons_succ, i64_w, i32_w]
         rfl
        exact norm_ (by first | (simp only [putAll, Act.put, List.setIfInBounds_toArray, List.set_cons_zero, List.set_cons_succ]; done) | (simp only [putAll, Act.put, List.setIfInBounds_toArray, List.set_cons_zero, List.set_cons_succ]; rfl)) (hJ4_6_9 (v329, v332, gb337) _ ⟨hHeld, (by (with_reducible repeat (first | apply Kd.R_alloc | apply Kd.R_drewN | apply Kd.R_drew)); exact Kd.R_mono HO330.out (fun _ hk => ⟨hk.2, hk.1⟩)), (by (with_reducible repeat (first | apply Kd.R_alloc | apply Kd.R_drewN | apply Kd.R_drew)); exact Kd.R_mono HO333.out (fun _ hk => ⟨hk.1.2, hk.2⟩)), BK325.out, BK326.out, BK327.out, BK337.out, GW337.out, GE337.out, NB325_337.out, NB337_325.out, NB326_337.out, NB337_326.out, NB327_337.out, NB337_327.out, HB.out⟩)
      · skip
       rintro ⟨v329, v332⟩ w71 ⟨hS_, h0_, h1_, h2_, h3_, h4_, h5_⟩
       have n0_ : Aside0 (Kd.R k37 37 w71 w.heap.size (fun k_ => some k_ ≠ (v332 : Value).ownBlock ∧ k_ ≠ gb326) v329 t328) := ⟨h0_⟩
       have n1_ : Aside0 (Kd.R k37 37 w71 w.heap.size (fun k_ => some k_ ≠ (v329 : Value).ownBlock ∧ k_ ≠ gb326) v332 y331) := ⟨h1_⟩
       have n2_ : Aside0 (w71.heap[gb325]? = some (.cells #[.int .i64 a0_0, .int .i64 a0_1, .slice A0_2 l0_2.length c0_2] 33 (0, 0))) := ⟨h2_⟩
       have n3_ : Aside0 (w71.heap[gb326]? = some (.cells #[.int .i64 a1_0, .int .i64 a1_1, .int .i64 a1_2] 37 (0, 0))) := ⟨h3_⟩
       have n4_ : Aside0 (w71.heap[gb327]? = some (.cells #[.int .i64 0, .int .i64 0, .slice none 0 0] 33 (0, 0))) := ⟨h4_⟩
       have n5_ : Aside0 (Below w.heap.size w w71) := ⟨h5_⟩
       clear BK325 BK326 BK327 HB h0_ h1_ h2_ h3_ h4_ h5_
       have HO330 := n0_
       have HO333 := n1_
       have BK325 := n2_
       have BK326 := n3_
       have BK327 := n4_
       have HB := n5_
       clear n0_ n1_ n2_ n3_ n4_ n5_
       have hHeld : w71.cell? ⟨gb325, 0, none⟩ = some (.int .i64 a0_0) ∧ w71.cell? ⟨gb325, 1, none⟩ = some (.int .i64 a0_1) ∧ w71.cell? ⟨gb325, 2, none⟩ = some (.slice A0_2 l0_2.length c0_2) ∧ w71.cell? ⟨gb326, 0, none⟩ = some (.int .i64 a1_0) ∧ w71.cell? ⟨gb326, 1, none⟩ = some (.int .i64 a1_1) ∧ w71.cell? ⟨gb326, 2, none⟩ = some (.int .i64 a1_2) := hS_
       obtain ⟨Ao73, co73, eo73⟩ := Kd.R_slice HO333.out
       (first | subst eo73 | (injection eo73 with f1_ f2_ f3_; have f4_ := f1_.symm; have f5_ := f3_.symm; clear f1_ f2_ f3_; subst f4_; subst f5_))
       refine norm_ (a' := ?_) ?_ ?_
       rotate_left
       · simp only [putAll, Act.put, List.setIfInBounds_toArray, List.set_cons_zero, List.set_cons_succ]
        rfl
       refine two_ (i := 7) (j := 9) (Ni := some 14) (Nj := some 6) #[true, true, true, true, true, true, true, true, false, false, false] #[true, true, true, true, true, true, true, false, false, true, false] rfl rfl rfl rfl (two_of HT_.out (by kernel_rfl)) (by decide) (by decide) (fun K hK => ?_) (fun K hK => ?_)
       · skip
        refine Kd.R_append_rows_step k37 (w0 := w) w.heap.size (by rfl) (.tmp 11) (.tmp 13) 31 37 (.agg #[(.int .i64 0), (.int .i64 0), (.int .i64 0)]) 24 rfl Try.underlying31 info37 rfl (by decide) (by omega) v329 t328 y331 _ _ _ (fun k_ => some k_ ≠ (.slice Ao73 y331.length co73 : Value).ownBlock ∧ k_ ≠ gb326) (fun _ => False) rfl rfl ?aO ?aR (fun _ _ h => h) (fun _ h => h.elim) ?aF ?aB ?aS ?aL ?_
        (case aR => repeat (first | exact (Kd.R_reads' HO333.out).2.2 | (with_reducible refine Kd.C_alloc ?_ _) | (with_reducible refine Kd.C_drewN ?_ _) | (with_reducible refine Kd.C_drew ?_)))
        (case aB => exact HB.out)
        (case aF => exact (fun k_ hk => ⟨Kd.fresh' (Kd.R_lt HO333.out) k_ hk, Kd.freshB (g := gb326) (o := .cells #[.int .i64 a1_0, .int .i64 a1_1, .int .i64 a1_2] 37 (0, 0)) BK326.out k_ hk⟩))
        (case aO => exact HO330.out)
        (case aS => exact (below_size HB.out))
        (case aL => have := LMc4.out; omega)
        intro v335 w72 ho hb hg hat
        rw [← Ny334.out] at ho
        have n0_ := amk (blk_grown BK325.out hg (Kd.R_ne HO330.out BK325.out (by decide)))
        have n1_ := amk (blk_grown BK326.out hg (Kd.R_away HO330.out (fun _ hk => hk.2)))
        have n2_ := amk (blk_grown BK327.out hg (Kd.R_ne HO330.out BK327.out (by decide)))
        have n3_ := amk (Kd.R_after (ok := (fun k_ => k_ ≠ gb326)) (by (with_reducible repeat (first | apply Kd.R_alloc | apply Kd.R_drewN | apply Kd.R_drew)); exact Kd.R_mono HO333.out (fun _ hk => ⟨hk.2, hk.1⟩)) hg hat)
        have n4_ := amk (hb)
        have n5_ := amk (ho)
        clear BK325 BK326 BK327 HO333 HB HO330
        have BK325 := n0_
        have BK326 := n1_
        have BK327 := n2_
        have HO333 := n3_
        have HB := n4_
        have HO336 := n5_
        clear n0_ n1_ n2_ n3_ n4_ n5_ ho hb hg hat
        obtain ⟨Ao74, co74, eo74⟩ := Kd.R_slice HO336.out
        (first | subst eo74 | (injection eo74 with f1_ f2_ f3_; have f4_ := f1_.symm; have f5_ := f3_.symm; clear f1_ f2_ f3_; subst f4_; subst f5_))
        refine hK.out _ _ ⟨(blk_cell BK325.out 0).trans rfl, (blk_cell BK325.out 1).trans rfl, (blk_cell BK325.out 2).trans rfl, (blk_cell BK326.out 0).trans rfl, (blk_cell BK326.out 1).trans rfl, (blk_cell BK326.out 2).trans rfl⟩ (fun hHeld => ?_)
        clear hK K
        refine norm_ (a' := ?_) ?_ ?_
        rotate_left
        · show Act.put _ (some 14) _ = _
         simp only [Act.put, List.setIfInBounds_toArray, List.set_cons_zero, List.set_cons_succ, i64_w, i32_w]
         rfl
        refine pure_ (i := 8) (N := some 15) (v := ?_) (a' := ?_) #[true, true, true, true, true, true, true, true, true, false, false] rfl rfl (any_of HT_.out (by kernel_rfl)) (fun _ _ _ h => h) (Or.inl ⟨by rfl, ?_⟩) ?_ ?_
        rotate_left
        · intro w'
         go_simp
         with_reducible rfl
        rotate_left
        · simp only [Act.put, List.setIfInBounds_toArray, List.set_cons_zero, List.set_cons_succ, i64_w, i32_w]
         rfl
        exact norm_ (by first | (simp only [putAll, Act.put, List.setIfInBounds_toArray, List.set_cons_zero, List.set_cons_succ]; done) | (simp only [putAll, Act.put, List.setIfInBounds_toArray, List.set_cons_zero, List.set_cons_succ]; rfl)) (hJ4_6_7 (v329, .slice Ao73 y331.length co73, .slice Ao74 y334.length co74) _ ⟨hHeld, (by (with_reducible repeat (first | apply Kd.R_alloc | apply Kd.R_drewN | apply Kd.R_drew)); exact Kd.R_mono HO333.out (fun _ hk => ⟨hk.2, hk.1⟩)), HO336.out, BK325.out, BK326.out, BK327.out, HB.out⟩)
       · skip
        refine box_step ?hg (N := 6) ?hd (cs := #[.int .i64 0, .int .i64 0, .slice none 0 0]) (t := 33) ?hr ?_; (case hd => rfl); (case hg => rfl); (case hr => first | (go_simp; done) | (go_simp; rfl))
        intro gb337 hg w72 hbox hb
        have n0_ := amk (Kd.R_below HO330.out hb)
        have n1_ := amk (Kd.R_below HO333.out hb)
        have n2_ := amk (blk_below BK325.out hb)
        have n3_ := amk (blk_below BK326.out hb)
        have n4_ := amk (blk_below BK327.out hb)
        have n5_ := amk (bp_ HB.out hb)
        have n6_ := amk (hbox)
        have n7_ := amk ((by rw [hg]; exact (below_size HB.out) : w.heap.size ≤ gb337))
        have n8_ := amk ((by rw [hg]; exact (below_size HB.out) : w.heap.size ≤ gb337))
        have n9_ := amk ((by rw [hg]; exact Nat.ne_of_lt (blk_lt BK325.out) : gb325 ≠ gb337))
        have n10_ := amk ((by rw [hg]; exact Nat.ne_of_gt (blk_lt BK325.out) : gb337 ≠ gb325))
        have n11_ := amk ((by rw [hg]; exact Nat.ne_of_lt (blk_lt BK326.out) : gb326 ≠ gb337))
        have n12_ := amk ((by rw [hg]; exact Nat.ne_of_gt (blk_lt BK326.out) : gb337 ≠ gb326))
        have n13_ := amk ((by rw [hg]; exact Nat.ne_of_lt (blk_lt BK327.out) : gb327 ≠ gb337))
        have n14_ := amk ((by rw [hg]; exact Nat.ne_of_gt (blk_lt BK327.out) : gb337 ≠ gb327))
        clear HO330 HO333 BK325 BK326 BK327 HB
        have HO330 := n0_
        have HO333 := n1_
        have BK325 := n2_
        have BK326 := n3_
        have BK327 := n4_
        have HB := n5_
        have BK337 := n6_
        have GW337 := n7_
        have GE337 := n8_
        have NB325_337 := n9_
        have NB337_325 := n10_
        have NB326_337 := n11_
        have NB337_326 := n12_
        have NB327_337 := n13_
        have NB337_327 := n14_
        clear n0_ n1_ n2_ n3_ n4_ n5_ n6_ n7_ n8_ n9_ n10_ n11_ n12_ n13_ n14_ hb hbox hg
        refine hK.out _ _ ⟨(blk_cell BK325.out 0).trans rfl, (blk_cell BK325.out 1).trans rfl, (blk_cell BK325.out 2).trans rfl, (blk_cell BK326.out 0).trans rfl, (blk_cell BK326.out 1).trans rfl, (blk_cell BK326.out 2).trans rfl⟩ (fun hHeld => ?_)
        clear hK K
        refine norm_ (a' := ?_) ?_ ?_
        rotate_left
        · show Act.put _ (some 6) _ = _
         simp only [Act.put, List.setIfInBounds_toArray, List.set_cons_zero, List.set_cons_succ, i64_w, i32_w]
         rfl
        exact norm_ (by first | (simp only [putAll, Act.put, List.setIfInBounds_toArray, List.set_cons_zero, List.set_cons_succ]; done) | (simp only [putAll, Act.put, List.setIfInBounds_toArray, List.set_cons_zero, List.set_cons_succ]; rfl)) (hJ4_6_9 (v329, .slice Ao73 y331.length co73, gb337) _ ⟨hHeld, HO330.out, HO333.out, BK325.out, BK326.out, BK327.out, BK337.out, GW337.out, GE337.out, NB325_337.out, NB337_325.out, NB326_337.out, NB337_326.out, NB327_337.out, NB337_327.out, HB.out⟩)
     · skip
      rintro ⟨v329, v332, gb337⟩ w72 ⟨hS_, h0_, h1_, h2_, h3_, h4_, h5_, h6_, h7_, h8_, h9_, h10_, h11_, h12_, h13_, h14_⟩
      have n0_ : Aside0 (Kd.R k37 37 w72 w.heap.size (fun k_ => some k_ ≠ (v332 : Value).ownBlock ∧ k_ ≠ gb326) v329 t328) := ⟨h0_⟩
      have n1_ : Aside0 (Kd.R k37 37 w72 w.heap.size (fun k_ => some k_ ≠ (v329 : Value).ownBlock ∧ k_ ≠ gb326) v332 y331) := ⟨h1_⟩
      have n2_ : Aside0 (w72.heap[gb325]? = some (.cells #[.int .i64 a0_0, .int .i64 a0_1, .slice A0_2 l0_2.length c0_2] 33 (0, 0))) := ⟨h2_⟩
      have n3_ : Aside0 (w72.heap[gb326]? = some (.cells #[.int .i64 a1_0, .int .i64 a1_1, .int .i64 a1_2] 37 (0, 0))) := ⟨h3_⟩
      have n4_ : Aside0 (w72.heap[gb327]? = some (.cells #[.int .i64 0, .int .i64 0, .slice none 0 0] 33 (0, 0))) := ⟨h4_⟩
      have n5_ : Aside0 (w72.heap[gb337]? = some (.cells #[.int .i64 0, .int .i64 0, .slice none 0 0] 33 (0, 0))) := ⟨h5_⟩
      have n6_ : Aside0 (w.heap.size ≤ gb337) := ⟨h6_⟩
      have n7_ : Aside0 (w.heap.size ≤ gb337) := ⟨h7_⟩
      have n8_ : Aside0 (gb325 ≠ gb337) := ⟨h8_⟩
      have n9_ : Aside0 (gb337 ≠ gb325) := ⟨h9_⟩
      have n10_ : Aside0 (gb326 ≠ gb337) := ⟨h10_⟩
      have n11_ : Aside0 (gb337 ≠ gb326) := ⟨h11_⟩
      have n12_ : Aside0 (gb327 ≠ gb337) := ⟨h12_⟩
      have n13_ : Aside0 (gb337 ≠ gb327) := ⟨h13_⟩
      have n14_ : Aside0 (Below w.heap.size w w72) := ⟨h14_⟩
      clear BK325 BK326 BK327 HB h0_ h1_ h2_ h3_ h4_ h5_ h6_ h7_ h8_ h9_ h10_ h11_ h12_ h13_ h14_
      have HO330 := n0_
      have HO333 := n1_
      have BK325 := n2_
      have BK326 := n3_
      have BK327 := n4_
      have BK337 := n5_
      have GW337 := n6_
      have GE337 := n7_
      have NB325_337 := n8_
      have NB337_325 := n9_
      have NB326_337 := n10_
      have NB337_326 := n11_
      have NB327_337 := n12_
      have NB337_327 := n13_
      have HB := n14_
      clear n0_ n1_ n2_ n3_ n4_ n5_ n6_ n7_ n8_ n9_ n10_ n11_ n12_ n13_ n14_
      have hHeld : w72.cell? ⟨gb325, 0, none⟩ = some (.int .i64 a0_0) ∧ w72.cell? ⟨gb325, 1, none⟩ = some (.int .i64 a0_1) ∧ w72.cell? ⟨gb325, 2, none⟩ = some (.slice A0_2 l0_2.length c0_2) ∧ w72.cell? ⟨gb326, 0, none⟩ = some (.int .i64 a1_0) ∧ w72.cell? ⟨gb326, 1, none⟩ = some (.int .i64 a1_1) ∧ w72.cell? ⟨gb326, 2, none⟩ = some (.int .i64 a1_2) := hS_
      obtain ⟨Ao74, co74, eo74⟩ := Kd.R_slice HO333.out
      (first | subst eo74 | (injection eo74 with f1_ f2_ f3_; have f4_ := f1_.symm; have f5_ := f3_.symm; clear f1_ f2_ f3_; subst f4_; subst f5_))
      refine norm_ (a' := ?_) ?_ ?_
      rotate_left
      · simp only [putAll, Act.put, List.setIfInBounds_toArray, List.set_cons_zero, List.set_cons_succ]
       rfl
      refine one_ (i := 7) (N := some 14) #[true, true, true, true, true, true, true, true, false, true, false] rfl rfl (one_of HT_.out (by kernel_rfl)) (by decide) (fun K hK => ?_)
      refine Kd.R_append_rows_step k37 (w0 := w) w.heap.size (by rfl) (.tmp 11) (.tmp 13) 31 37 (.agg #[(.int .i64 0), (.int .i64 0), (.int .i64 0)]) 24 rfl Try.underlying31 info37 rfl (by decide) (by omega) v329 t328 y331 _ _ _ (fun k_ => some k_ ≠ (.slice Ao74 y331.length co74 : Value).ownBlock ∧ k_ ≠ gb326) (fun _ => False) rfl rfl ?aO ?aR (fun _ _ h => h) (fun _ h => h.elim) ?aF ?aB ?aS ?aL ?_
      (case aR => repeat (first | exact (Kd.R_reads' HO333.out).2.2 | (with_reducible refine Kd.C_alloc ?_ _) | (with_reducible refine Kd.C_drewN ?_ _) | (with_reducible refine Kd.C_drew ?_)))
      (case aB => exact HB.out)
      (case aF => exact (fun k_ hk => ⟨Kd.fresh' (Kd.R_lt HO333.out) k_ hk, Kd.freshB (g := gb326) (o := .cells #[.int .i64 a1_0, .int .i64 a1_1, .int .i64 a1_2] 37 (0, 0)) BK326.out k_ hk⟩))
      (case aO => exact HO330.out)
      (case aS => exact (below_size HB.out))
      (case aL => have := LMc4.out; omega)
      intro v335 w73 ho hb hg hat
      rw [← Ny334.out] at ho
      have n0_ := amk (blk_grown BK325.out hg (Kd.R_ne HO330.out BK325.out (by decide)))
      have n1_ := amk (blk_grown BK326.out hg (Kd.R_away HO330.out (fun _ hk => hk.2)))
      have n2_ := amk (blk_grown BK327.out hg (Kd.R_ne HO330.out BK327.out (by decide)))
      have n3_ := amk (Kd.R_after (ok := (fun k_ => k_ ≠ gb326)) (by (with_reducible repeat (first | apply Kd.R_alloc | apply Kd.R_drewN | apply Kd.R_drew)); exact Kd.R_mono HO333.out (fun _ hk => ⟨hk.2, hk.1⟩)) hg hat)
      have n4_ := amk (blk_grown BK337.out hg (Kd.R_ne HO330.out BK337.out (by decide)))
      have n5_ := amk (hb)
      have n6_ := amk (ho)
      clear BK325 BK326 BK327 HO333 BK337 HB HO330
      have BK325 := n0_
      have BK326 := n1_
      have BK327 := n2_
      have HO333 := n3_
      have BK337 := n4_
      have HB := n5_
      have HO336 := n6_
      clear n0_ n1_ n2_ n3_ n4_ n5_ n6_ ho hb hg hat
      obtain ⟨Ao75, co75, eo75⟩ := Kd.R_slice HO336.out
      (first | subst eo75 | (injection eo75 with f1_ f2_ f3_; have f4_ := f1_.symm; have f5_ := f3_.symm; clear f1_ f2_ f3_; subst f4_; subst f5_))
      refine hK.out _ _ ⟨(blk_cell BK325.out 0).trans rfl, (blk_cell BK325.out 1).trans rfl, (blk_cell BK325.out 2).trans rfl, (blk_cell BK326.out 0).trans rfl, (blk_cell BK326.out 1).trans rfl, (blk_cell BK326.out 2).trans rfl⟩ (fun hHeld => ?_)
      clear hK K
      refine norm_ (a' := ?_) ?_ ?_
      rotate_left
      · show Act.put _ (some 14) _ = _
       simp only [Act.put, List.setIfInBounds_toArray, List.set_cons_zero, List.set_cons_succ, i64_w, i32_w]
       rfl
      refine pure_ (i := 8) (N := some 15) (v := ?_) (a' := ?_) #[true, true, true, true, true, true, true, true, true, true, false] rfl rfl (any_of HT_.out (by kernel_rfl)) (fun _ _ _ h => h) (Or.inl ⟨by rfl, ?_⟩) ?_ ?_
      rotate_left
      · intro w'
       go_simp
       with_reducible rfl
      rotate_left
      · simp only [Act.put, List.setIfInBounds_toArray, List.set_cons_zero, List.set_cons_succ, i64_w, i32_w]
       rfl
      exact norm_ (by first | (simp only [putAll, Act.put, List.setIfInBounds_toArray, List.set_cons_zero, List.set_cons_succ]; done) | (simp only [putAll, Act.put, List.setIfInBounds_toArray, List.set_cons_zero, List.set_cons_succ]; rfl)) (hJ4_6_7_9 (v329, .slice Ao74 y331.length co74, .slice Ao75 y334.length co75, gb337) _ ⟨hHeld, (by (with_reducible repeat (first | apply Kd.R_alloc | apply Kd.R_drewN | apply Kd.R_drew)); exact Kd.R_mono HO333.out (fun _ hk => ⟨hk.2, hk.1⟩)), HO336.out, BK325.out, BK326.out, BK327.out, BK337.out, GW337.out, GE337.out, NB325_337.out, NB337_325.out, NB326_337.out, NB337_326.out, NB327_337.out, NB337_327.out, HB.out⟩)
    · skip
     rintro ⟨v329, v332, v335⟩ w74 ⟨hS_, h0_, h1_, h2_, h3_, h4_, h5_⟩
     have n0_ : Aside0 (Kd.R k37 37 w74 w.heap.size (fun k_ => some k_ ≠ (v335 : Value).ownBlock ∧ k_ ≠ gb326) v332 y331) := ⟨h0_⟩
     have n1_ : Aside0 (Kd.R k37 37 w74 w.heap.size (fun k_ => some k_ ≠ (v332 : Value).ownBlock ∧ k_ ≠ gb326) v335 y334) := ⟨h1_⟩
     have n2_ : Aside0 (w74.heap[gb325]? = some (.cells #[.int .i64 a0_0, .int .i64 a0_1, .slice A0_2 l0_2.length c0_2] 33 (0, 0))) := ⟨h2_⟩
     have n3_ : Aside0 (w74.heap[gb326]? = some (.cells #[.int .i64 a1_0, .int .i64 a1_1, .int .i64 a1_2] 37 (0, 0))) := ⟨h3_⟩
     have n4_ : Aside0 (w74.heap[gb327]? = some (.cells #[.int .i64 0, .int .i64 0, .slice none 0 0] 33 (0, 0))) := ⟨h4_⟩
     have n5_ : Aside0 (Below w.heap.size w w74) := ⟨h5_⟩
     clear BK325 BK326 BK327 HB h0_ h1_ h2_ h3_ h4_ h5_
     have HO333 := n0_
     have HO336 := n1_
     have BK325 := n2_
     have BK326 := n3_
     have BK327 := n4_
     have HB := n5_
     clear n0_ n1_ n2_ n3_ n4_ n5_
     have hHeld : w74.cell? ⟨gb325, 0, none⟩ = some (.int .i64 a0_0) ∧ w74.cell? ⟨gb325, 1, none⟩ = some (.int .i64 a0_1) ∧ w74.cell? ⟨gb325, 2, none⟩ = some (.slice A0_2 l0_2.length c0_2) ∧ w74.cell? ⟨gb326, 0, none⟩ = some (.int .i64 a1_0) ∧ w74.cell? ⟨gb326, 1, none⟩ = some (.int .i64 a1_1) ∧ w74.cell? ⟨gb326, 2, none⟩ = some (.int .i64 a1_2) := hS_
     obtain ⟨Ao75, co75, eo75⟩ := Kd.R_slice HO336.out
     (first | subst eo75 | (injection eo75 with f1_ f2_ f3_; have f4_ := f1_.symm; have f5_ := f3_.symm; clear f1_ f2_ f3_; subst f4_; subst f5_))
     refine norm_ (a' := ?_) ?_ ?_
     rotate_left
     · simp only [putAll, Act.put, List.setIfInBounds_toArray, List.set_cons_zero, List.set_cons_succ]
      rfl
     refine one_ (i := 9) (N := some 6) #[true, true, true, true, true, true, true, true, true, true, false] rfl rfl (one_of HT_.out (by kernel_rfl)) (by decide) (fun K hK => ?_)
     refine box_step ?hg (N := 6) ?hd (cs := #[.int .i64 0, .int .i64 0, .slice none 0 0]) (t := 33) ?hr ?_; (case hd => rfl); (case hg => rfl); (case hr => first | (go_simp; done) | (go_simp; rfl))
     intro gb337 hg w76 hbox hb
     have n0_ := amk (Kd.R_below HO333.out hb)
     have n1_ := amk (Kd.R_below HO336.out hb)
     have n2_ := amk (blk_below BK325.out hb)
     have n3_ := amk (blk_below BK326.out hb)
     have n4_ := amk (blk_below BK327.out hb)
     have n5_ := amk (bp_ HB.out hb)
     have n6_ := amk (hbox)
     have n7_ := amk ((by rw [hg]; exact (below_size HB.out) : w.heap.size ≤ gb337))
     have n8_ := amk ((by rw [hg]; exact (below_size HB.out) : w.heap.size ≤ gb337))
     have n9_ := amk ((by rw [hg]; exact Nat.ne_of_lt (blk_lt BK325.out) : gb325 ≠ gb337))
     have n10_ := amk ((by rw [hg]; exact Nat.ne_of_gt (blk_lt BK325.out) : gb337 ≠ gb325))
     have n11_ := amk ((by rw [hg]; exact Nat.ne_of_lt (blk_lt BK326.out) : gb326 ≠ gb337))
     have n12_ := amk ((by rw [hg]; exact Nat.ne_of_gt (blk_lt BK326.out) : gb337 ≠ gb326))
     have n13_ := amk ((by rw [hg]; exact Nat.ne_of_lt (blk_lt BK327.out) : gb327 ≠ gb337))
     have n14_ := amk ((by rw [hg]; exact Nat.ne_of_gt (blk_lt BK327.out) : gb337 ≠ gb327))
     clear HO333 HO336 BK325 BK326 BK327 HB
     have HO333 := n0_
     have HO336 := n1_
     have BK325 := n2_
     have BK326 := n3_
     have BK327 := n4_
     have HB := n5_
     have BK337 := n6_
     have GW337 := n7_
     have GE337 := n8_
     have NB325_337 := n9_
     have NB337_325 := n10_
     have NB326_337 := n11_
     have NB337_326 := n12_
     have NB327_337 := n13_
     have NB337_327 := n14_
     clear n0_ n1_ n2_ n3_ n4_ n5_ n6_ n7_ n8_ n9_ n10_ n11_ n12_ n13_ n14_ hb hbox hg
     refine hK.out _ _ ⟨(blk_cell BK325.out 0).trans rfl, (blk_cell BK325.out 1).trans rfl, (blk_cell BK325.out 2).trans rfl, (blk_cell BK326.out 0).trans rfl, (blk_cell BK326.out 1).trans rfl, (blk_cell BK326.out 2).trans rfl⟩ (fun hHeld => ?_)
     clear hK K
     refine norm_ (a' := ?_) ?_ ?_
     rotate_left
     · show Act.put _ (some 6) _ = _
      simp only [Act.put, List.setIfInBounds_toArray, List.set_cons_zero, List.set_cons_succ, i64_w, i32_w]
      rfl
     exact norm_ (by first | (simp only [putAll, Act.put, List.setIfInBounds_toArray, List.set_cons_zero, List.set_cons_succ]; done) | (simp only [putAll, Act.put, List.setIfInBounds_toArray, List.set_cons_zero, List.set_cons_succ]; rfl)) (hJ4_6_7_9 (v329, v332, .slice Ao75 y334.length co75, gb337) _ ⟨hHeld, HO333.out, HO336.out, BK325.out, BK326.out, BK327.out, BK337.out, GW337.out, GE337.out, NB325_337.out, NB337_325.out, NB326_337.out, NB337_326.out, NB327_337.out, NB337_327.out, HB.out⟩)
   rintro ⟨v329, v332, v335, gb337⟩ w75 ⟨hS_, h0_, h1_, h2_, h3_, h4_, h5_, h6_, h7_, h8_, h9_, h10_, h11_, h12_, h13_, h14_⟩
   have n0_ : Aside0 (Kd.R k37 37 w75 w.heap.size (fun k_ => some k_ ≠ (v335 : Value).ownBlock ∧ k_ ≠ gb326) v332 y331) := ⟨h0_⟩
   have n1_ : Aside0 (Kd.R k37 37 w75 w.heap.size (fun k_ => some k_ ≠ (v332 : Value).ownBlock ∧ k_ ≠ gb326) v335 y334) := ⟨h1_⟩
   have n2_ : Aside0 (w75.heap[gb325]? = some (.cells #[.int .i64 a0_0, .int .i64 a0_1, .slice A0_2 l0_2.length c0_2] 33 (0, 0))) := ⟨h2_⟩
   have n3_ : Aside0 (w75.heap[gb326]? = some (.cells #[.int .i64 a1_0, .int .i64 a1_1, .int .i64 a1_2] 37 (0, 0))) := ⟨h3_⟩
   have n4_ : Aside0 (w75.heap[gb327]? = some (.cells #[.int .i64 0, .int .i64 0, .slice none 0 0] 33 (0, 0))) := ⟨h4_⟩
   have n5_ : Aside0 (w75.heap[gb337]? = some (.cells #[.int .i64 0, .int .i64 0, .slice none 0 0] 33 (0, 0))) := ⟨h5_⟩
   have n6_ : Aside0 (w.heap.size ≤ gb337) := ⟨h6_⟩
   have n7_ : Aside0 (w.heap.size ≤ gb337) := ⟨h7_⟩
   have n8_ : Aside0 (gb325 ≠ gb337) := ⟨h8_⟩
   have n9_ : Aside0 (gb337 ≠ gb325) := ⟨h9_⟩
   have n10_ : Aside0 (gb326 ≠ gb337) := ⟨h10_⟩
   have n11_ : Aside0 (gb337 ≠ gb326) := ⟨h11_⟩
   have n12_ : Aside0 (gb327 ≠ gb337) := ⟨h12_⟩
   have n13_ : Aside0 (gb337 ≠ gb327) := ⟨h13_⟩
   have n14_ : Aside0 (Below w.heap.size w w75) := ⟨h14_⟩
   clear BK325 BK326 BK327 HB h0_ h1_ h2_ h3_ h4_ h5_ h6_ h7_ h8_ h9_ h10_ h11_ h12_ h13_ h14_
   have HO333 := n0_
   have HO336 := n1_
   have BK325 := n2_
   have BK326 := n3_
   have BK327 := n4_
   have BK337 := n5_
   have GW337 := n6_
   have GE337 := n7_
   have NB325_337 := n8_
   have NB337_325 := n9_
   have NB326_337 := n10_
   have NB337_326 := n11_
   have NB327_337 := n12_
   have NB337_327 := n13_
   have HB := n14_
   clear n0_ n1_ n2_ n3_ n4_ n5_ n6_ n7_ n8_ n9_ n10_ n11_ n12_ n13_ n14_
   have hHeld : w75.cell? ⟨gb325, 0, none⟩ = some (.int .i64 a0_0) ∧ w75.cell? ⟨gb325, 1, none⟩ = some (.int .i64 a0_1) ∧ w75.cell? ⟨gb325, 2, none⟩ = some (.slice A0_2 l0_2.length c0_2) ∧ w75.cell? ⟨gb326, 0, none⟩ = some (.int .i64 a1_0) ∧ w75.cell? ⟨gb326, 1, none⟩ = some (.int .i64 a1_1) ∧ w75.cell? ⟨gb326, 2, none⟩ = some (.int .i64 a1_2) := hS_
   obtain ⟨Ao76, co76, eo76⟩ := Kd.R_slice HO336.out
   (first | subst eo76 | (injection eo76 with f1_ f2_ f3_; have f4_ := f1_.symm; have f5_ := f3_.symm; clear f1_ f2_ f3_; subst f4_; subst f5_))
   refine norm_ (a' := ?_) ?_ ?_
   rotate_left
   · simp only [putAll, Act.put, List.setIfInBounds_toArray, List.set_cons_zero, List.set_cons_succ]
    rfl
   refine one_ (i := 10) (N := none) #[true, true, true, true, true, true, true, true, true, true, true] rfl rfl (one_of HT_.out (by kernel_rfl)) (by decide) (fun K hK => ?_)
   have hs77 : w75.cell? ⟨gb337, 0, none⟩ = some (.int .i64 0) := (blk_cell BK337.out 0).trans rfl
   have hfs77 := blk_frozen BK337.out 0
   have hns77_0 := NB325_337.out
   have hns77_1 := NB326_337.out
   have hns77_2 := NB327_337.out
   have hms77_0 := NB337_325.out
   have hms77_1 := NB337_326.out
   have hms77_2 := NB337_327.out
   have hs78 : w75.cell? ⟨gb337, 1, none⟩ = some (.int .i64 0) := (blk_cell BK337.out 1).trans rfl
   have hfs78 := blk_frozen BK337.out 1
   have hns78_0 := NB325_337.out
   have hns78_1 := NB326_337.out
   have hns78_2 := NB327_337.out
   have hms78_0 := NB337_325.out
   have hms78_1 := NB337_326.out
   have hms78_2 := NB337_327.out
   have hs79 : w75.cell? ⟨gb337, 2, none⟩ = some (.slice none 0 0) := (blk_cell BK337.out 2).trans rfl
   have hfs79 := blk_frozen BK337.out 2
   have hns79_0 := NB325_337.out
   have hns79_1 := NB326_337.out
   have hns79_2 := NB327_337.out
   have hms79_0 := NB337_325.out
   have hms79_1 := NB337_326.out
   have hms79_2 := NB337_327.out
   refine skip_ (w1 := ?_) (by rfl) rfl ?_ ?_
   rotate_left
   · go_simp
    rfl
   refine hK.out _ _ ⟨((cell_far (p := ⟨gb337, _, none⟩) NB325_337.out _).trans (((cell_far (p := ⟨gb337, _, none⟩) NB325_337.out _).trans (((cell_far (p := ⟨gb337, _, none⟩) NB325_337.out _).trans (hHeld.1)))))), ((cell_far (p := ⟨gb337, _, none⟩) NB325_337.out _).trans (((cell_far (p := ⟨gb337, _, none⟩) NB325_337.out _).trans (((cell_far (p := ⟨gb337, _, none⟩) NB325_337.out _).trans (hHeld.2.1)))))), ((cell_far (p := ⟨gb337, _, none⟩) NB325_337.out _).trans (((cell_far (p := ⟨gb337, _, none⟩) NB325_337.out _).trans (((cell_far (p := ⟨gb337, _, none⟩) NB325_337.out _).trans (hHeld.2.2.1)))))), ((cell_far (p := ⟨gb337, _, none⟩) NB326_337.out _).trans (((cell_far (p := ⟨gb337, _, none⟩) NB326_337.out _).trans (((cell_far (p := ⟨gb337, _, none⟩) NB326_337.out _).trans (hHeld.2.2.2.1)))))), ((cell_far (p := ⟨gb337, _, none⟩) NB326_337.out _).trans (((cell_far (p := ⟨gb337, _, none⟩) NB326_337.out _).trans (((cell_far (p := ⟨gb337, _, none⟩) NB326_337.out _).trans (hHeld.2.2.2.2.1)))))), ((cell_far (p := ⟨gb337, _, none⟩) NB326_337.out _).trans (((cell_far (p := ⟨gb337, _, none⟩) NB326_337.out _).trans (((cell_far (p := ⟨gb337, _, none⟩) NB326_337.out _).trans (hHeld.2.2.2.2.2))))))⟩ (fun hHeld => ?_)
   clear hK K
   refine done_ (done_of HT_.out (by kernel_rfl)) ?_
   have hnb80 := NB325_326.out
   have hnc80 := NB326_325.out
   have hnb81 := NB325_327.out
   have hnc81 := NB327_325.out
   have hnb82 := NB325_337.out
   have hnc82 := NB337_325.out
   have hcz83_0 : w75.cell? ⟨gb325, 0, none⟩ = some (.int .i64 a0_0) := (blk_cell BK325.out 0).trans rfl
   have hcz83_1 : w75.cell? ⟨gb325, 1, none⟩ = some (.int .i64 a0_1) := (blk_cell BK325.out 1).trans rfl
   have hcz83_2 : w75.cell? ⟨gb325, 2, none⟩ = some (.slice A0_2 l0_2.length c0_2) := (blk_cell BK325.out 2).trans rfl
   have hfz83_0 := blk_frozen BK325.out 0
   have hfz83_1 := blk_frozen BK325.out 1
   have hfz83_2 := blk_frozen BK325.out 2
   try go_wp2_with (first | ((with_reducible refine gate_callee (f := 24) rfl ?_); refine goesL_ (some 17) rfl rfl Try.func24 (by kernel_rfl) rfl #[.agg #[.int .i64 a0_0, .int .i64 a0_1, .slice A0_2 l0_2.length c0_2]] rfl (by (try simp only [List.map_toArray, List.map_cons, List.map_nil]); first | done | rfl | (simp only [List.length_drop, List.length_take]; rfl)) ?_; (with_reducible refine (impl_IsPuzzle.calls a0_0 a0_1 _ _ l0_2 false _ ?side1 ?side2 A5.out).mono ?_); (case side1 => exact Kd.C_below HR0_2.out (by repeat (first | (with_reducible first | exact HB.out | apply ba_ | apply bn_ | apply bd_ | refine bs_ ?_ GE325.out | refine bs_ ?_ GE326.out | refine bs_ ?_ GE327.out | refine bs_ ?_ GE337.out) | exact HB.out))); (case side2 => exact HC0_2.out); rintro e w84 ⟨rfl, hb⟩; refine ⟨_, rfl, ?_⟩; have n0_ := amk (Kd.R_below (by (with_reducible repeat (first | apply Kd.R_alloc | apply Kd.R_drewN | apply Kd.R_drew)); exact (Kd.R_mono (Kd.R_far (p := ⟨gb337, 2, none⟩) (Kd.R_far (p := ⟨gb337, 1, none⟩) (Kd.R_far (p := ⟨gb337, 0, none⟩) (Kd.R_types HO333.out BK337.out (by decide)) (fun _ hk => hk.2) (.int .i64 a0_0)) (fun _ hk => hk.2) (.int .i64 a0_1)) (fun _ hk => hk.2) (.slice Ao76 y334.length co76)) (fun _ h_ => h_.1))) hb); have n1_ := amk (Kd.R_below (by (with_reducible repeat (first | apply Kd.R_alloc | apply Kd.R_drewN | apply Kd.R_drew)); exact (Kd.R_mono (Kd.R_far (p := ⟨gb337, 2, none⟩) (Kd.R_far (p := ⟨gb337, 1, none⟩) (Kd.R_far (p := ⟨gb337, 0, none⟩) (Kd.R_types HO336.out BK337.out (by decide)) (fun _ hk => hk.2) (.int .i64 a0_0)) (fun _ hk => hk.2) (.int .i64 a0_1)) (fun _ hk => hk.2) (.slice Ao76 y334.length co76)) (fun _ h_ => h_.1))) hb); have n2_ := amk (blk_below (g := gb325) (o := .cells #[.int .i64 a0_0, .int .i64 a0_1, .slice A0_2 l0_2.length c0_2] 33 (0, 0)) (by (with_reducible repeat (first | refine kn_ ?_ _ | refine blk_drew ?_ | refine ka_ ?_ _)); refine blk_far ?_ NB325_337.out _; (with_reducible repeat (first | refine kn_ ?_ _ | refine blk_drew ?_ | refine ka_ ?_ _)); refine blk_far ?_ NB325_337.out _; (with_reducible repeat (first | refine kn_ ?_ _ | refine blk_drew ?_ | refine ka_ ?_ _)); refine blk_far ?_ NB325_337.out _; (with_reducible repeat (first | refine kn_ ?_ _ | refine blk_drew ?_ | refine ka_ ?_ _)); exact BK325.out) hb); have n3_ := amk (blk_below (g := gb326) (o := .cells #[.int .i64 a1_0, .int .i64 a1_1, .int .i64 a1_2] 37 (0, 0)) (by (with_reducible repeat (first | refine kn_ ?_ _ | refine blk_drew ?_ | refine ka_ ?_ _)); refine blk_far ?_ NB326_337.out _; (with_reducible repeat (first | refine kn_ ?_ _ | refine blk_drew ?_ | refine ka_ ?_ _)); refine blk_far ?_ NB326_337.out _; (with_reducible repeat (first | refine kn_ ?_ _ | refine blk_drew ?_ | refine ka_ ?_ _)); refine blk_far ?_ NB326_337.out _; (with_reducible repeat (first | refine kn_ ?_ _ | refine blk_drew ?_ | refine ka_ ?_ _)); exact BK326.out) hb); have n4_ := amk (blk_below (g := gb327) (o := .cells #[.int .i64 0, .int .i64 0, .slice none 0 0] 33 (0, 0)) (by (with_reducible repeat (first | refine kn_ ?_ _ | refine blk_drew ?_ | refine ka_ ?_ _)); refine blk_far ?_ NB327_337.out _; (with_reducible repeat (first | refine kn_ ?_ _ | refine blk_drew ?_ | refine ka_ ?_ _)); refine blk_far ?_ NB327_337.out _; (with_reducible repeat (first | refine kn_ ?_ _ | refine blk_drew ?_ | refine ka_ ?_ _)); refine blk_far ?_ NB327_337.out _; (with_reducible repeat (first | refine kn_ ?_ _ | refine blk_drew ?_ | refine ka_ ?_ _)); exact BK327.out) hb); have n5_ := amk (blk_below (g := gb337) (o := .cells #[.int .i64 a0_0, .int .i64 a0_1, .slice Ao76 y334.length co76] 33 (0, 0)) (by (with_reducible repeat (first | refine kn_ ?_ _ | refine blk_drew ?_ | refine ka_ ?_ _)); refine blk_put (cs := #[.int .i64 a0_0, .int .i64 a0_1, .slice none 0 0]) ?_ 2 _ rfl; (with_reducible repeat (first | refine kn_ ?_ _ | refine blk_drew ?_ | refine ka_ ?_ _)); refine blk_put (cs := #[.int .i64 a0_0, .int .i64 0, .slice none 0 0]) ?_ 1 _ rfl; (with_reducible repeat (first | refine kn_ ?_ _ | refine blk_drew ?_ | refine ka_ ?_ _)); refine blk_put (cs := #[.int .i64 0, .int .i64 0, .slice none 0 0]) ?_ 0 _ rfl; (with_reducible repeat (first | refine kn_ ?_ _ | refine blk_drew ?_ | refine ka_ ?_ _)); exact BK337.out) hb); have n6_ := amk (bp_ (by repeat (first | (with_reducible first | exact HB.out | apply ba_ | apply bn_ | apply bd_ | refine bs_ ?_ GE325.out | refine bs_ ?_ GE326.out | refine bs_ ?_ GE327.out | refine bs_ ?_ GE337.out) | exact HB.out)) hb); clear HO333; clear HO336; clear BK325; clear BK326; clear BK327; clear BK337; clear HB; have HO333 := n0_; have HO336 := n1_; have BK325 := n2_; have BK326 := n3_; have BK327 := n4_; have BK337 := n5_; have HB := n6_; clear n0_ n1_ n2_ n3_ n4_ n5_ n6_; (try clear hb); (try clear hb2); (try clear hk); (try clear hi); have hnb85 := NB327_326.out; have hnc85 := NB326_327.out; have hnb86 := NB327_337.out; have hnc86 := NB337_327.out; have hcz87_0 : w84.cell? ⟨gb327, 0, none⟩ = some (.int .i64 0) := (blk_cell BK327.out 0).trans rfl; have hcz87_1 : w84.cell? ⟨gb327, 1, none⟩ = some (.int .i64 0) := (blk_cell BK327.out 1).trans rfl; have hcz87_2 : w84.cell? ⟨gb327, 2, none⟩ = some (.slice none 0 0) := (blk_cell BK327.out 2).trans rfl; have hfz87_0 := blk_frozen BK327.out 0; have hfz87_1 := blk_frozen BK327.out 1; have hfz87_2 := blk_frozen BK327.out 2))
   refine bodyPost_ret (results_ct rfl _ _ gb327 33 #[.int .i64 0, .int .i64 0, .slice none 0 0] (0, 0) _ rfl (by (with_reducible repeat (first | refine kn_ ?_ _ | refine blk_drew ?_ | refine ka_ ?_ _)); refine blk_put (cs := #[.int .i64 0, .int .i64 0, .slice none 0 0]) ?_ 2 _ rfl; (with_reducible repeat (first | refine kn_ ?_ _ | refine blk_drew ?_ | refine ka_ ?_ _)); refine blk_put (cs := #[.int .i64 0, .int .i64 0, .slice none 0 0]) ?_ 1 _ rfl; (with_reducible repeat (first | refine kn_ ?_ _ | refine blk_drew ?_ | refine ka_ ?_ _)); refine blk_put (cs := #[.int .i64 0, .int .i64 0, .slice none 0 0]) ?_ 0 _ rfl; (with_reducible repeat (first | refine kn_ ?_ _ | refine blk_drew ?_ | refine ka_ ?_ _)); exact BK327.out) Try.underlying33 rfl (by kernel_rfl)) rfl ?_
   exact ⟨_, by first | rfl | (simp [errW_none, errW_some] <;> rfl) | (simp [*, errW_none, errW_some] <;> rfl), by first | exact Kd.R_nil _ _ _ _ _ | exact Kd.N_nil _ _ _ _ _ | exact Kd.V_nil _ _ _ _ _ | exact Kd.Q_nil _ _ _ _ _ | exact Kd.S_nil _ _ _ _ _, by repeat (first | (with_reducible first | exact HB.out | apply ba_ | apply bn_ | apply bd_ | refine bs_ ?_ GE325.out | refine bs_ ?_ GE326.out | refine bs_ ?_ GE327.out | refine bs_ ?_ GE337.out) | exact HB.out)⟩
 · rw [if_neg c4] at H
  exact absurd H (by simp)
end Go.Proofs.Ytlmfiaopgndbcaa.P