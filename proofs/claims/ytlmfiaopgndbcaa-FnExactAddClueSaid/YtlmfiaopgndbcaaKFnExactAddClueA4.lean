import Derived.Test.YtlmfiaopgndbcaaKFnExactAddClueA0
import Derived.Test.YtlmfiaopgndbcaaKFnExactAddClueA1
import Derived.Test.YtlmfiaopgndbcaaKFnExactAddClueA2
import Derived.Test.YtlmfiaopgndbcaaKFnExactAddClueA3
namespace Go.Proofs.Ytlmfiaopgndbcaa.P
open Go.RowKit Go.Proofs.YtlmfiaopgndbcaaW.PrintWords Go.Proofs.YtlmfiaopgndbcaaW.PrintLast Go.Proofs.YtlmfiaopgndbcaaW.PrintMore
attribute [local go_sem] max2_int min2_int max_two min_two max_three min_three max_four min_four
set_option linter.unusedVariables false
set_option linter.unusedSimpArgs false
/-! ### laws_FnExactAddClue: function 3 -/
mutual
def laws_FnExactAddClue.j0 : Nat → Bool → Bool → Bool → Int → Int → List (S28) → Int → Int → Int → Int → Int → List (S37) → Int → Int → List (S37) → Int → Int → List (S37) → Option (Bool)
  | 0, _, _, _, _, _, _, _, _, _, _, _, _, _, _, _, _, _, _ => none
  | k + 1, x7, x10, x46, x363000, x363001, x363002, x364000, x364001, x364002, x380000, x380001, x380002, x386000, x386001, x386002, x396000, x396001, x396002 => if x46 = true then (none) else ((laws_toPuzzle.f k x363000 x363001 x363002).bind fun bt397 => ((laws_eqPuzzle.f k x386000 x386001 x386002 bt397.1 bt397.2.1 bt397.2.2).bind fun t402 => (if t402 = true then ((laws_markPuzzle.f k x386000 x386001 x386002 1).bind fun bt403 => (if bt403.1 < 0 then (none) else ((laws_eqPuzzle.f k x396000 x396001 x396002 x380000 x380001 x380002).bind fun t405 => (if t405 = true then (laws_FnExactAddClue.j1 k x7 (x10 != x7) x363000 x363001 x363002 x364000 x364001 x364002 x380000 x380001 x380002 x396000 x396001 x396002) else (none))))) else (none))))
def laws_FnExactAddClue.j1 : Nat → Bool → Bool → Int → Int → List (S28) → Int → Int → Int → Int → Int → List (S37) → Int → Int → List (S37) → Option (Bool)
  | 0, _, _, _, _, _, _, _, _, _, _, _, _, _, _ => none
  | k + 1, x7, x67, x363000, x363001, x363002, x364000, x364001, x364002, x380000, x380001, x380002, x396000, x396001, x396002 => if x67 = true then (none) else ((laws_markPuzzle.f k x396000 x396001 x396002 1).bind fun bt406 => ((laws_heldPuzzle.f k x396000 x396001 bt406.2 1).bind fun t408 => (if t408 < 0 then (none) else (if t408 = bt406.1 then ((laws_toPuzzle.f k x363000 x363001 x363002).bind fun bt409 => ((laws_toClue.f x364000 x364001 x364002).bind fun bt414 => ((impl_AddClue.f bt409.1 bt409.2.1 bt409.2.2 bt414.1 bt414.2.1 bt414.2.2).bind fun bt417 => ((laws_eqPuzzle.f k bt417.1 bt417.2.1 bt417.2.2.1 x380000 x380001 x380002).bind fun t424 => (if t424 = true then (laws_FnExactAddClue.j2 k bt406.1 (bt417.2.2.2 != x7) x396000 x396001 bt406.2) else (none)))))) else (none)))))
def laws_FnExactAddClue.j2 : Nat → Int → Bool → Int → Int → List (S37) → Option (Bool)
  | 0, _, _, _, _, _ => none
  | k + 1, x12, x95, x396000, x396001, x396002 => if x95 = true then (none) else ((laws_heldPuzzle.f k x396000 x396001 x396002 1).bind fun t425 => (if t425 < 0 then (none) else (if t425 = x12 then (some true) else (none))))
end
def laws_FnExactAddClue.f (k : Nat) (a0_0 : Int) (a0_1 : Int) (l0_2 : List (S28)) (a1_0 : Int) (a1_1 : Int) (a1_2 : Int) : Option (Bool) := (laws_szPuzzle.f a0_0 a0_1 l0_2 1048576).bind fun t364 => (if t364 < 0 then (some true) else ((laws_toPuzzle.f k a0_0 a0_1 l0_2).bind fun bt365 => ((laws_toClue.f a1_0 a1_1 a1_2).bind fun bt370 => ((spec_AddClue.f k bt365.1 bt365.2.1 bt365.2.2 bt370.1 bt370.2.1 bt370.2.2).bind fun bt373 => ((laws_toPuzzle.f k a0_0 a0_1 l0_2).bind fun bt380 => ((laws_toClue.f a1_0 a1_1 a1_2).bind fun bt386 => ((impl_AddClue.f bt380.1 bt380.2.1 bt380.2.2 bt386.1 bt386.2.1 bt386.2.2).bind fun bt389 => ((laws_eqPuzzle.f k bt389.1 bt389.2.1 bt389.2.2.1 bt373.1 bt373.2.1 bt373.2.2.1).bind fun t396 => (if t396 = true then (laws_FnExactAddClue.j0 k bt373.2.2.2 bt389.2.2.2 (bt389.2.2.2 != bt373.2.2.2) a0_0 a0_1 l0_2 a1_0 a1_1 a1_2 bt373.1 bt373.2.1 bt373.2.2.1 bt380.1 bt380.2.1 bt380.2.2 bt389.1 bt389.2.1 bt389.2.2.1) else (none))))))))))
def laws_FnExactAddClue.T5 : Bool × List (List Nat × List Nat) := (true, [([], []), ([0], [0]), ([], []), ([2, 1], [2]), ([1, 3, 3], [1, 3]), ([4], [4]), ([5], [5]), ([5], [5]), ([], []), ([8, 6, 4, 0, 1, 2, 3, 4, 5, 6, 8], [6, 8]), ([7, 9, 0, 1, 2, 3, 4, 5, 6, 7, 8, 9], [7])])
def laws_FnExactAddClue.B5 : List Nat := [0, 1, 0, 7, 15, 31, 63, 63, 0, 383, 1023]
theorem laws_FnExactAddClue.tab5 : rtab .any (opsOf Try.f3 5) = laws_FnExactAddClue.T5 := by kernel_rfl
theorem laws_FnExactAddClue.bits5 : waitsOk laws_FnExactAddClue.T5.2 laws_FnExactAddClue.B5 = true := by kernel_rfl
def laws_FnExactAddClue.T7 : Bool × List (List Nat × List Nat) := (true, [([], []), ([], []), ([1], [1]), ([0, 2, 2], [0, 2]), ([3], [3]), ([4], [4]), ([4], [4]), ([], []), ([7, 5, 3, 0, 1, 2, 3, 4, 5, 7], [5, 7]), ([6, 8, 0, 1, 2, 3, 4, 5, 6, 7, 8], [6])])
def laws_FnExactAddClue.B7 : List Nat := [0, 0, 2, 7, 15, 31, 31, 0, 191, 511]
theorem laws_FnExactAddClue.tab7 : rtab .any (opsOf Try.f3 7) = laws_FnExactAddClue.T7 := by kernel_rfl
theorem laws_FnExactAddClue.bits7 : waitsOk laws_FnExactAddClue.T7.2 laws_FnExactAddClue.B7 = true := by kernel_rfl
def laws_FnExactAddClue.T24 : Bool × List (List Nat × List Nat) := (true, [([], []), ([0], [0]), ([], []), ([2, 1], [2]), ([1, 3, 3], [1, 3]), ([4], [4]), ([5], [5]), ([5], [5]), ([], []), ([8, 6, 4, 0, 1, 2, 3, 4, 5, 6, 8], [6, 8]), ([7, 9, 0, 1, 2, 3, 4, 5, 6, 7, 8, 9], [7])])
def laws_FnExactAddClue.B24 : List Nat := [0, 1, 0, 7, 15, 31, 63, 63, 0, 383, 1023]
theorem laws_FnExactAddClue.tab24 : rtab .any (opsOf Try.f3 24) = laws_FnExactAddClue.T24 := by kernel_rfl
theorem laws_FnExactAddClue.bits24 : waitsOk laws_FnExactAddClue.T24.2 laws_FnExactAddClue.B24 = true := by kernel_rfl
set_option maxHeartbeats 8000000 in
set_option maxRecDepth 100000 in
theorem laws_FnExactAddClue.calls (k : Nat) (a0_0 : Int) (a0_1 : Int) (A0_2 : Option Addr) (c0_2 : Nat) (l0_2 : List (S28)) (a1_0 : Int) (a1_1 : Int) (a1_2 : Int) (r : Bool) (w : World) (hr0_2 : Kd.C k28 w A0_2 l0_2.length l0_2) (hc0_2 : l0_2.length ≤ c0_2) (h : laws_FnExactAddClue.f k a0_0 a0_1 l0_2 a1_0 a1_1 a1_2 = some r) :
    Calls Try.prog 3 #[.agg #[.int .i64 a0_0, .int .i64 a0_1, .slice A0_2 l0_2.length c0_2], .agg #[.int .i64 a1_0, .int .i64 a1_1, .int .i64 a1_2]] w fun e w' => e = .returned (.bool r) ∧ Below w.heap.size w w' := by
  have hu26 := Try.underlying26
  have hu28 := Try.underlying28
  have hu33 := Try.underlying33
  have HR0_2 := aM hr0_2
  have dF := aM hc0_2
  clear hr0_2 hc0_2
  have HB := aM (Below.refl w.heap.size w)
  have H : ((laws_szPuzzle.f a0_0 a0_1 l0_2 1048576).bind fun t364 => (if t364 < 0 then (some true) else ((laws_toPuzzle.f k a0_0 a0_1 l0_2).bind fun bt365 => ((laws_toClue.f a1_0 a1_1 a1_2).bind fun bt370 => ((spec_AddClue.f k bt365.1 bt365.2.1 bt365.2.2 bt370.1 bt370.2.1 bt370.2.2).bind fun bt373 => ((laws_toPuzzle.f k a0_0 a0_1 l0_2).bind fun bt380 => ((laws_toClue.f a1_0 a1_1 a1_2).bind fun bt386 => ((impl_AddClue.f bt380.1 bt380.2.1 bt380.2.2 bt386.1 bt386.2.1 bt386.2.2).bind fun bt389 => ((laws_eqPuzzle.f k bt389.1 bt389.2.1 bt389.2.2.1 bt373.1 bt373.2.1 bt373.2.2.1).bind fun t396 => (if t396 = true then (laws_FnExactAddClue.j0 k bt373.2.2.2 bt389.2.2.2 (bt389.2.2.2 != bt373.2.2.2) a0_0 a0_1 l0_2 a1_0 a1_1 a1_2 bt373.1 bt373.2.1 bt373.2.2.1 bt380.1 bt380.2.1 bt380.2.2 bt389.1 bt389.2.1 bt389.2.2.1) else (none))))))))))) = some r := h
  clear h
  replace H := Option.bind_eq_some_iff.mp H
  obtain ⟨t364, A30, H⟩ := H
  replace H : (if t364 < 0 then (some true) else ((laws_toPuzzle.f k a0_0 a0_1 l0_2).bind fun bt365 => ((laws_toClue.f a1_0 a1_1 a1_2).bind fun bt370 => ((spec_AddClue.f k bt365.1 bt365.2.1 bt365.2.2 bt370.1 bt370.2.1 bt370.2.2).bind fun bt373 => ((laws_toPuzzle.f k a0_0 a0_1 l0_2).bind fun bt380 => ((laws_toClue.f a1_0 a1_1 a1_2).bind fun bt386 => ((impl_AddClue.f bt380.1 bt380.2.1 bt380.2.2 bt386.1 bt386.2.1 bt386.2.2).bind fun bt389 => ((laws_eqPuzzle.f k bt389.1 bt389.2.1 bt389.2.2.1 bt373.1 bt373.2.1 bt373.2.2.1).bind fun t396 => (if t396 = true then (laws_FnExactAddClue.j0 k bt373.2.2.2 bt389.2.2.2 (bt389.2.2.2 != bt373.2.2.2) a0_0 a0_1 l0_2 a1_0 a1_1 a1_2 bt373.1 bt373.2.1 bt373.2.2.1 bt380.1 bt380.2.1 bt380.2.2 bt389.1 bt389.2.1 bt389.2.2.1) else (none)))))))))) = some r := H
  have A3 := aM A30
  clear A30
  by_cases c4 : t364 < 0
  · rw [if_pos c4] at H
    have c4b0 : decide (t364 < 0) = true := decide_eq_true c4
    clear c4
    obtain rfl := Option.some.inj H
    go_enter Try.func3, Try.ntmps3
    go_wp2_with (first | ((with_reducible refine gate_dst (N := 2) rfl ?_); refine box_event ?hg (N := 2) ?hd (cs := #[.int .i64 a0_0, .int .i64 a0_1, .slice A0_2 l0_2.length c0_2]) (t := 26) ?hr ?_; (case hd => rfl); (case hg => rfl); (case hr => first | (go_simp; done) | (go_simp; rfl)); intro aT hg w5 hbox hb; have aE := aM (bp_ (by repeat (first | (with_reducible first | exact HB.out | apply ba_ | apply bn_ | apply bd_) | exact HB.out)) hb); have aF := aM (hbox); have aG := aM ((by rw [hg]; exact (below_size (by repeat (first | (with_reducible first | exact HB.out | apply ba_ | apply bn_ | apply bd_) | exact HB.out))) : w.heap.size ≤ aT)); have aH := aM ((by rw [hg]; exact (below_size (by repeat (first | (with_reducible first | exact HB.out | apply ba_ | apply bn_ | apply bd_) | exact HB.out))) : w.heap.size ≤ aT)); clear HB; have HB := aE; have aA := aF; have fJ := aG; have bR := aH; clear aE aF aG aH; clear hb hbox hg) | ((with_reducible refine gate_dst (N := 3) rfl ?_); refine box_event ?hg (N := 3) ?hd (cs := #[.int .i64 a1_0, .int .i64 a1_1, .int .i64 a1_2]) (t := 28) ?hr ?_; (case hd => rfl); (case hg => rfl); (case hr => first | (go_simp; done) | (go_simp; rfl)); intro aZ hg w6 hbox hb; have aE := aM (blk_below (g := aT) (o := .cells #[.int .i64 a0_0, .int .i64 a0_1, .slice A0_2 l0_2.length c0_2] 26 (0, 0)) (by (with_reducible repeat (first | refine kn_ ?_ _ | refine blk_drew ?_ | refine ka_ ?_ _)); exact aA.out) hb); have aF := aM (bp_ (by repeat (first | (with_reducible first | exact HB.out | apply ba_ | apply bn_ | apply bd_ | refine bs_ ?_ bR.out) | exact HB.out)) hb); have aG := aM (hbox); have aH := aM ((by rw [hg]; exact (below_size (by repeat (first | (with_reducible first | exact HB.out | apply ba_ | apply bn_ | apply bd_ | refine bs_ ?_ bR.out) | exact HB.out))) : w.heap.size ≤ aZ)); have aI := aM ((by rw [hg]; exact (below_size (by repeat (first | (with_reducible first | exact HB.out | apply ba_ | apply bn_ | apply bd_ | refine bs_ ?_ bR.out) | exact HB.out))) : w.heap.size ≤ aZ)); have aK := aM ((by rw [hg]; exact Nat.ne_of_lt (blk_lt (g := aT) (o := .cells #[.int .i64 a0_0, .int .i64 a0_1, .slice A0_2 l0_2.length c0_2] 26 (0, 0)) (by (with_reducible repeat (first | refine kn_ ?_ _ | refine blk_drew ?_ | refine ka_ ?_ _)); exact aA.out)) : aT ≠ aZ)); have aL := aM ((by rw [hg]; exact Nat.ne_of_gt (blk_lt (g := aT) (o := .cells #[.int .i64 a0_0, .int .i64 a0_1, .slice A0_2 l0_2.length c0_2] 26 (0, 0)) (by (with_reducible repeat (first | refine kn_ ?_ _ | refine blk_drew ?_ | refine ka_ ?_ _)); exact aA.out)) : aZ ≠ aT)); clear aA; clear HB; have aA := aE; have HB := aF; have aB := aG; have fK := aH; have cC := aI; have eE := aK; have eF := aL; clear aE aF aG aH aI aK aL; clear hb hbox hg; have hC := eE.out; have hD := eF.out; have hE : w6.cell? ⟨aT, 0, none⟩ = some (.int .i64 a0_0) := (blk_cell aA.out 0).trans rfl; have hF : w6.cell? ⟨aT, 1, none⟩ = some (.int .i64 a0_1) := (blk_cell aA.out 1).trans rfl; have hG : w6.cell? ⟨aT, 2, none⟩ = some (.slice A0_2 l0_2.length c0_2) := (blk_cell aA.out 2).trans rfl; have hH := blk_frozen aA.out 0; have hI := blk_frozen aA.out 1; have hJ := blk_frozen aA.out 2) | ((with_reducible refine gate_callee (f := 6) rfl ?_); refine goesL_ (some 18) rfl rfl Try.func6 (by kernel_rfl) rfl #[.agg #[.int .i64 a0_0, .int .i64 a0_1, .slice A0_2 l0_2.length c0_2], .int .i64 1048576] rfl (by (try simp only [List.map_toArray, List.map_cons, List.map_nil]); first | done | rfl | (simp only [List.length_drop, List.length_take]; rfl)) ?_; (with_reducible refine (laws_szPuzzle.calls a0_0 a0_1 _ _ l0_2 1048576 t364 _ ?side1 ?side2 A3.out).mono ?_); (case side1 => repeat (first | exact (Kd.C_below HR0_2.out HB.out) | (with_reducible refine Kd.C_alloc ?_ _) | (with_reducible refine Kd.C_drewN ?_ _) | (with_reducible refine Kd.C_drew ?_))); (case side2 => exact dF.out); rintro e w9 ⟨rfl, hb⟩; refine ⟨_, rfl, ?_⟩; have aE := aM (blk_below (g := aT) (o := .cells #[.int .i64 a0_0, .int .i64 a0_1, .slice A0_2 l0_2.length c0_2] 26 (0, 0)) (by (with_reducible repeat (first | refine kn_ ?_ _ | refine blk_drew ?_ | refine ka_ ?_ _)); exact aA.out) hb); have aF := aM (blk_below (g := aZ) (o := .cells #[.int .i64 a1_0, .int .i64 a1_1, .int .i64 a1_2] 28 (0, 0)) (by (with_reducible repeat (first | refine kn_ ?_ _ | refine blk_drew ?_ | refine ka_ ?_ _)); exact aB.out) hb); have aG := aM (bp_ (by repeat (first | (with_reducible first | exact HB.out | apply ba_ | apply bn_ | apply bd_ | refine bs_ ?_ bR.out | refine bs_ ?_ cC.out) | exact HB.out)) hb); clear aA; clear aB; clear HB; have aA := aE; have aB := aF; have HB := aG; clear aE aF aG; (try clear hb); (try clear hb2); (try clear hk); (try clear hi)))
    go_ret
    exact ⟨by first | rfl | (simp [errW_none, errW_some] <;> rfl) | (simp [*, errW_none, errW_some] <;> rfl), by repeat (first | (with_reducible first | exact HB.out | apply ba_ | apply bn_ | apply bd_ | refine bs_ ?_ bR.out | refine bs_ ?_ cC.out) | exact HB.out)⟩
  · rw [if_neg c4] at H
    have c4b0 : decide (t364 < 0) = false := decide_eq_false c4
    clear c4
    replace H := Option.bind_eq_some_iff.mp H
    obtain ⟨⟨t365, t366, t367⟩, A100, H⟩ := H
    replace H : ((laws_toClue.f a1_0 a1_1 a1_2).bind fun bt370 => ((spec_AddClue.f k t365 t366 t367 bt370.1 bt370.2.1 bt370.2.2).bind fun bt373 => ((laws_toPuzzle.f k a0_0 a0_1 l0_2).bind fun bt380 => ((laws_toClue.f a1_0 a1_1 a1_2).bind fun bt386 => ((impl_AddClue.f bt380.1 bt380.2.1 bt380.2.2 bt386.1 bt386.2.1 bt386.2.2).bind fun bt389 => ((laws_eqPuzzle.f k bt389.1 bt389.2.1 bt389.2.2.1 bt373.1 bt373.2.1 bt373.2.2.1).bind fun t396 => (if t396 = true then (laws_FnExactAddClue.j0 k bt373.2.2.2 bt389.2.2.2 (bt389.2.2.2 != bt373.2.2.2) a0_0 a0_1 l0_2 a1_0 a1_1 a1_2 bt373.1 bt373.2.1 bt373.2.2.1 bt380.1 bt380.2.1 bt380.2.2 bt389.1 bt389.2.1 bt389.2.2.1) else (none)))))))) = some r := H
    have A10 := aM A100
    clear A100
    replace H := Option.bind_eq_some_iff.mp H
    obtain ⟨⟨t370, t371, t372⟩, A110, H⟩ := H
    replace H : ((spec_AddClue.f k t365 t366 t367 t370 t371 t372).bind fun bt373 => ((laws_toPuzzle.f k a0_0 a0_1 l0_2).bind fun bt380 => ((laws_toClue.f a1_0 a1_1 a1_2).bind fun bt386 => ((impl_AddClue.f bt380.1 bt380.2.1 bt380.2.2 bt386.1 bt386.2.1 bt386.2.2).bind fun bt389 => ((laws_eqPuzzle.f k bt389.1 bt389.2.1 bt389.2.2.1 bt373.1 bt373.2.1 bt373.2.2.1).bind fun t396 => (if t396 = true then (laws_FnExactAddClue.j0 k bt373.2.2.2 bt389.2.2.2 (bt389.2.2.2 != bt373.2.2.2) a0_0 a0_1 l0_2 a1_0 a1_1 a1_2 bt373.1 bt373.2.1 bt373.2.2.1 bt380.1 bt380.2.1 bt380.2.2 bt389.1 bt389.2.1 bt389.2.2.1) else (none))))))) = some r := H
    have A11 := aM A110
    clear A110
    replace H := Option.bind_eq_some_iff.mp H
    obtain ⟨⟨t373, t374, t375, t378⟩, A120, H⟩ := H
    replace H : ((laws_toPuzzle.f k a0_0 a0_1 l0_2).bind fun bt380 => ((laws_toClue.f a1_0 a1_1 a1_2).bind fun bt386 => ((impl_AddClue.f bt380.1 bt380.2.1 bt380.2.2 bt386.1 bt386.2.1 bt386.2.2).bind fun bt389 => ((laws_eqPuzzle.f k bt389.1 bt389.2.1 bt389.2.2.1 t373 t374 t375).bind fun t396 => (if t396 = true then (laws_FnExactAddClue.j0 k t378 bt389.2.2.2 (bt389.2.2.2 != t378) a0_0 a0_1 l0_2 a1_0 a1_1 a1_2 t373 t374 t375 bt380.1 bt380.2.1 bt380.2.2 bt389.1 bt389.2.1 bt389.2.2.1) else (none)))))) = some r := H
    have A12 := aM A120
    clear A120
    replace H := Option.bind_eq_some_iff.mp H
    obtain ⟨⟨t380, t381, t382⟩, A130, H⟩ := H
    replace H : ((laws_toClue.f a1_0 a1_1 a1_2).bind fun bt386 => ((impl_AddClue.f t380 t381 t382 bt386.1 bt386.2.1 bt386.2.2).bind fun bt389 => ((laws_eqPuzzle.f k bt389.1 bt389.2.1 bt389.2.2.1 t373 t374 t375).bind fun t396 => (if t396 = true then (laws_FnExactAddClue.j0 k t378 bt389.2.2.2 (bt389.2.2.2 != t378) a0_0 a0_1 l0_2 a1_0 a1_1 a1_2 t373 t374 t375 t380 t381 t382 bt389.1 bt389.2.1 bt389.2.2.1) else (none))))) = some r := H
    have A13 := aM A130
    clear A130
    replace H := Option.bind_eq_some_iff.mp H
    obtain ⟨⟨t386, t387, t388⟩, A140, H⟩ := H
    replace H : ((impl_AddClue.f t380 t381 t382 t386 t387 t388).bind fun bt389 => ((laws_eqPuzzle.f k bt389.1 bt389.2.1 bt389.2.2.1 t373 t374 t375).bind fun t396 => (if t396 = true then (laws_FnExactAddClue.j0 k t378 bt389.2.2.2 (bt389.2.2.2 != t378) a0_0 a0_1 l0_2 a1_0 a1_1 a1_2 t373 t374 t375 t380 t381 t382 bt389.1 bt389.2.1 bt389.2.2.1) else (none)))) = some r := H
    have A14 := aM A140
    clear A140
    replace H := Option.bind_eq_some_iff.mp H
    obtain ⟨⟨t389, t390, t391, t394⟩, A150, H⟩ := H
    replace H : ((laws_eqPuzzle.f k t389 t390 t391 t373 t374 t375).bind fun t396 => (if t396 = true then (laws_FnExactAddClue.j0 k t378 t394 (t394 != t378) a0_0 a0_1 l0_2 a1_0 a1_1 a1_2 t373 t374 t375 t380 t381 t382 t389 t390 t391) else (none))) = some r := H
    have A15 := aM A150
    clear A150
    have eG := aM H
    clear H
    go_enter Try.func3, Try.ntmps3
    try go_wp2_with (first | ((with_reducible refine gate_dst (N := 2) rfl ?_); refine box_event ?hg (N := 2) ?hd (cs := #[.int .i64 a0_0, .int .i64 a0_1, .slice A0_2 l0_2.length c0_2]) (t := 26) ?hr ?_; (case hd => rfl); (case hg => rfl); (case hr => first | (go_simp; done) | (go_simp; rfl)); intro aT hg w17 hbox hb; have aE := aM (bp_ (by repeat (first | (with_reducible first | exact HB.out | apply ba_ | apply bn_ | apply bd_) | exact HB.out)) hb); have aF := aM (hbox); have aG := aM ((by rw [hg]; exact (below_size (by repeat (first | (with_reducible first | exact HB.out | apply ba_ | apply bn_ | apply bd_) | exact HB.out))) : w.heap.size ≤ aT)); have aH := aM ((by rw [hg]; exact (below_size (by repeat (first | (with_reducible first | exact HB.out | apply ba_ | apply bn_ | apply bd_) | exact HB.out))) : w.heap.size ≤ aT)); clear HB; have HB := aE; have aA := aF; have fJ := aG; have bR := aH; clear aE aF aG aH; clear hb hbox hg) | ((with_reducible refine gate_dst (N := 3) rfl ?_); refine box_event ?hg (N := 3) ?hd (cs := #[.int .i64 a1_0, .int .i64 a1_1, .int .i64 a1_2]) (t := 28) ?hr ?_; (case hd => rfl); (case hg => rfl); (case hr => first | (go_simp; done) | (go_simp; rfl)); intro aZ hg w18 hbox hb; have aE := aM (blk_below (g := aT) (o := .cells #[.int .i64 a0_0, .int .i64 a0_1, .slice A0_2 l0_2.length c0_2] 26 (0, 0)) (by (with_reducible repeat (first | refine kn_ ?_ _ | refine blk_drew ?_ | refine ka_ ?_ _)); exact aA.out) hb); have aF := aM (bp_ (by repeat (first | (with_reducible first | exact HB.out | apply ba_ | apply bn_ | apply bd_ | refine bs_ ?_ bR.out) | exact HB.out)) hb); have aG := aM (hbox); have aH := aM ((by rw [hg]; exact (below_size (by repeat (first | (with_reducible first | exact HB.out | apply ba_ | apply bn_ | apply bd_ | refine bs_ ?_ bR.out) | exact HB.out))) : w.heap.size ≤ aZ)); have aI := aM ((by rw [hg]; exact (below_size (by repeat (first | (with_reducible first | exact HB.out | apply ba_ | apply bn_ | apply bd_ | refine bs_ ?_ bR.out) | exact HB.out))) : w.heap.size ≤ aZ)); have aK := aM ((by rw [hg]; exact Nat.ne_of_lt (blk_lt (g := aT) (o := .cells #[.int .i64 a0_0, .int .i64 a0_1, .slice A0_2 l0_2.length c0_2] 26 (0, 0)) (by (with_reducible repeat (first | refine kn_ ?_ _ | refine blk_drew ?_ | refine ka_ ?_ _)); exact aA.out)) : aT ≠ aZ)); have aL := aM ((by rw [hg]; exact Nat.ne_of_gt (blk_lt (g := aT) (o := .cells #[.int .i64 a0_0, .int .i64 a0_1, .slice A0_2 l0_2.length c0_2] 26 (0, 0)) (by (with_reducible repeat (first | refine kn_ ?_ _ | refine blk_drew ?_ | refine ka_ ?_ _)); exact aA.out)) : aZ ≠ aT)); clear aA; clear HB; have aA := aE; have HB := aF; have aB := aG; have fK := aH; have cC := aI; have eE := aK; have eF := aL; clear aE aF aG aH aI aK aL; clear hb hbox hg; have hL := eE.out; have hM := eF.out; have hN : w18.cell? ⟨aT, 0, none⟩ = some (.int .i64 a0_0) := (blk_cell aA.out 0).trans rfl; have hO : w18.cell? ⟨aT, 1, none⟩ = some (.int .i64 a0_1) := (blk_cell aA.out 1).trans rfl; have hP : w18.cell? ⟨aT, 2, none⟩ = some (.slice A0_2 l0_2.length c0_2) := (blk_cell aA.out 2).trans rfl; have hQ := blk_frozen aA.out 0; have hR := blk_frozen aA.out 1; have hS := blk_frozen aA.out 2) | ((with_reducible refine gate_callee (f := 6) rfl ?_); refine goesL_ (some 18) rfl rfl Try.func6 (by kernel_rfl) rfl #[.agg #[.int .i64 a0_0, .int .i64 a0_1, .slice A0_2 l0_2.length c0_2], .int .i64 1048576] rfl (by (try simp only [List.map_toArray, List.map_cons, List.map_nil]); first | done | rfl | (simp only [List.length_drop, List.length_take]; rfl)) ?_; (with_reducible refine (laws_szPuzzle.calls a0_0 a0_1 _ _ l0_2 1048576 t364 _ ?side1 ?side2 A3.out).mono ?_); (case side1 => repeat (first | exact (Kd.C_below HR0_2.out HB.out) | (with_reducible refine Kd.C_alloc ?_ _) | (with_reducible refine Kd.C_drewN ?_ _) | (with_reducible refine Kd.C_drew ?_))); (case side2 => exact dF.out); rintro e w21 ⟨rfl, hb⟩; refine ⟨_, rfl, ?_⟩; have aE := aM (blk_below (g := aT) (o := .cells #[.int .i64 a0_0, .int .i64 a0_1, .slice A0_2 l0_2.length c0_2] 26 (0, 0)) (by (with_reducible repeat (first | refine kn_ ?_ _ | refine blk_drew ?_ | refine ka_ ?_ _)); exact aA.out) hb); have aF := aM (blk_below (g := aZ) (o := .cells #[.int .i64 a1_0, .int .i64 a1_1, .int .i64 a1_2] 28 (0, 0)) (by (with_reducible repeat (first | refine kn_ ?_ _ | refine blk_drew ?_ | refine ka_ ?_ _)); exact aB.out) hb); have aG := aM (bp_ (by repeat (first | (with_reducible first | exact HB.out | apply ba_ | apply bn_ | apply bd_ | refine bs_ ?_ bR.out | refine bs_ ?_ cC.out) | exact HB.out)) hb); clear aA; clear aB; clear HB; have aA := aE; have aB := aF; have HB := aG; clear aE aF aG; (try clear hb); (try clear hb2); (try clear hk); (try clear hi)))
    have aE := aM (blk_drew aA.out)
    have aF := aM (blk_drew aB.out)
    have aG := aM (bd_ HB.out)
    clear aA aB HB
    have aA := aE
    have aB := aF
    have HB := aG
    clear aE aF aG
    refine start_ (n := 11) (S := fun w' => w'.cell? ⟨aT, 0, none⟩ = some (.int .i64 a0_0) ∧ w'.cell? ⟨aT, 1, none⟩ = some (.int .i64 a0_1) ∧ w'.cell? ⟨aT, 2, none⟩ = some (.slice A0_2 l0_2.length c0_2) ∧ w'.cell? ⟨aZ, 0, none⟩ = some (.int .i64 a1_0) ∧ w'.cell? ⟨aZ, 1, none⟩ = some (.int .i64 a1_1) ∧ w'.cell? ⟨aZ, 2, none⟩ = some (.int .i64 a1_2)) (ds := []) #[false, false, false, false, false, false, false, false, false, false, false] (by kernel_rfl) rfl rfl ⟨(blk_cell aA.out 0).trans rfl, (blk_cell aA.out 1).trans rfl, (blk_cell aA.out 2).trans rfl, (blk_cell aB.out 0).trans rfl, (blk_cell aB.out 1).trans rfl, (blk_cell aB.out 2).trans rfl⟩ (fun bA => ?_); refine with_tabW laws_FnExactAddClue.tab5 laws_FnExactAddClue.bits5 (fun HT_ HW_ => ?_)
    generalize w21.drew = w22 at aA aB HB bA ⊢
    refine take_ (i := 0) (N := some 22) (v := ?_) (a' := ?_) #[true, false, false, false, false, false, false, false, false, false, false] rfl rfl (take_ofW HT_.out HW_.out (by kernel_rfl)) (fun _ _ _ h => h) (Or.inl ⟨by rfl, ?_⟩) bA ?_ ?_
    rotate_left
    · rintro w' ⟨s0, s1, s2, s3, s4, s5⟩
      go_simp
      with_reducible rfl
    rotate_left
    · simp only [Act.put, List.setIfInBounds_toArray, List.set_cons_zero, List.set_cons_succ, i64_w, i32_w]
      rfl
    refine take_ (i := 2) (N := some 24) (v := ?_) (a' := ?_) #[true, false, true, false, false, false, false, false, false, false, false] rfl rfl (take_ofW HT_.out HW_.out (by kernel_rfl)) (fun _ _ _ h => h) (Or.inl ⟨by rfl, ?_⟩) bA ?_ ?_
    rotate_left
    · rintro w' ⟨s0, s1, s2, s3, s4, s5⟩
      go_simp
      with_reducible rfl
    rotate_left
    · simp only [Act.put, List.setIfInBounds_toArray, List.set_cons_zero, List.set_cons_succ, i64_w, i32_w]
      rfl
    refine join_ (σ := Value × Value × Nat) 2 #[true, true, true, true, true, true, true, true, true, false, false] (fun s_ => [(23, .agg #[.int .i64 t365, .int .i64 t366, s_.1]), (25, .agg #[.int .i64 t370, .int .i64 t371, .int .i64 t372]), (26, .tuple #[.agg #[.int .i64 t373, .int .i64 t374, s_.2.1], .bool t378]), (6, .pointer (some ⟨s_.2.2, 0, none⟩)), (21, .tuple #[.agg #[.int .i64 t373, .int .i64 t374, s_.2.1], .bool t378]), (27, .agg #[.int .i64 t373, .int .i64 t374, s_.2.1]), (28, .bool t378)]) (fun s_ w' => (w'.cell? ⟨aT, 0, none⟩ = some (.int .i64 a0_0) ∧ w'.cell? ⟨aT, 1, none⟩ = some (.int .i64 a0_1) ∧ w'.cell? ⟨aT, 2, none⟩ = some (.slice A0_2 l0_2.length c0_2) ∧ w'.cell? ⟨aZ, 0, none⟩ = some (.int .i64 a1_0) ∧ w'.cell? ⟨aZ, 1, none⟩ = some (.int .i64 a1_1) ∧ w'.cell? ⟨aZ, 2, none⟩ = some (.int .i64 a1_2)) ∧ (Kd.R k37 37 w' w.heap.size (fun k_ => some k_ ≠ (s_.2.1 : Value).ownBlock) s_.1 t367) ∧ (Kd.R k37 37 w' w.heap.size (fun k_ => some k_ ≠ (s_.1 : Value).ownBlock) s_.2.1 t375) ∧ (w'.heap[aT]? = some (.cells #[.int .i64 a0_0, .int .i64 a0_1, .slice A0_2 l0_2.length c0_2] 26 (0, 0))) ∧ (w'.heap[aZ]? = some (.cells #[.int .i64 a1_0, .int .i64 a1_1, .int .i64 a1_2] 28 (0, 0))) ∧ (w'.heap[s_.2.2]? = some (.cells #[.int .i64 0, .int .i64 0, .slice none 0 0] 33 (0, 0))) ∧ (w.heap.size ≤ s_.2.2) ∧ (w.heap.size ≤ s_.2.2) ∧ (aT ≠ s_.2.2) ∧ (s_.2.2 ≠ aT) ∧ (aZ ≠ s_.2.2) ∧ (s_.2.2 ≠ aZ) ∧ (Below w.heap.size w w')) ?_ ?_
    rotate_left
    · intro hCont
      refine two_ (i := 1) (j := 8) (Ni := some 23) (Nj := some 6) #[true, true, true, false, false, false, false, false, false, false, false] #[true, false, true, false, false, false, false, false, true, false, false] rfl rfl rfl rfl (two_of HT_.out (by kernel_rfl)) (by decide) (by decide) (fun K hK => ?_) (fun K hK => ?_)
      · skip
        refine goes_ Try.func8 (by kernel_rfl) rfl #[.agg #[.int .i64 a0_0, .int .i64 a0_1, .slice A0_2 l0_2.length c0_2]] (by rfl) rfl rfl (by (try simp only [List.map_toArray, List.map_cons, List.map_nil]); first | done | rfl | (simp only [List.length_drop, List.length_take]; rfl)) ?_
        with_reducible refine (laws_toPuzzle.calls k a0_0 a0_1 _ _ l0_2 t365 t366 t367 _ ?side1 ?side2 A10.out).mono ?_
        (case side1 => repeat (first | exact (Kd.C_below HR0_2.out HB.out) | (with_reducible refine Kd.C_alloc ?_ _) | (with_reducible refine Kd.C_drewN ?_ _) | (with_reducible refine Kd.C_drew ?_)))
        (case side2 => exact dF.out)
        rintro e w23 ⟨v368, rfl, ho0, hb⟩
        refine ⟨_, rfl, ?_⟩
        have aE := aM (Kd.R_lower ho0 (below_size HB.out))
        have aF := aM (blk_below aA.out hb)
        have aG := aM (blk_below aB.out hb)
        have aH := aM (bp_ HB.out hb)
        clear aA aB HB
        have aU := aE
        have aA := aF
        have aB := aG
        have HB := aH
        clear aE aF aG aH
        (try clear hb)
        (try clear hb2)
        (try clear hk)
        (try clear hi)
        (try clear ho0)
        refine hK.out _ _ ⟨(blk_cell aA.out 0).trans rfl, (blk_cell aA.out 1).trans rfl, (blk_cell aA.out 2).trans rfl, (blk_cell aB.out 0).trans rfl, (blk_cell aB.out 1).trans rfl, (blk_cell aB.out 2).trans rfl⟩ (fun bA => ?_)
        clear hK K
        refine norm_ (a' := ?_) ?_ ?_
        rotate_left
        · show Act.put _ (some 23) _ = _
          simp only [Act.put, List.setIfInBounds_toArray, List.set_cons_zero, List.set_cons_succ, i64_w, i32_w]
          rfl
        refine two_ (i := 3) (j := 8) (Ni := some 25) (Nj := some 6) #[true, true, true, true, false, false, false, false, false, false, false] #[true, true, true, false, false, false, false, false, true, false, false] rfl rfl rfl rfl (two_of HT_.out (by kernel_rfl)) (by decide) (by decide) (fun K hK => ?_) (fun K hK => ?_)
        · skip
          refine goes_ Try.func9 (by kernel_rfl) rfl #[.agg #[.int .i64 a1_0, .int .i64 a1_1, .int .i64 a1_2]] (by rfl) rfl rfl (by (try simp only [List.map_toArray, List.map_cons, List.map_nil]); first | done | rfl | (simp only [List.length_drop, List.length_take]; rfl)) ?_
          with_reducible refine (laws_toClue.calls a1_0 a1_1 a1_2 t370 t371 t372 _ A11.out).mono ?_
          rintro e w24 ⟨rfl, hb⟩
          refine ⟨_, rfl, ?_⟩
          have aE := aM (Kd.R_below aU.out hb)
          have aF := aM (blk_below aA.out hb)
          have aG := aM (blk_below aB.out hb)
          have aH := aM (bp_ HB.out hb)
          clear aU aA aB HB
          have aU := aE
          have aA := aF
          have aB := aG
          have HB := aH
          clear aE aF aG aH
          (try clear hb)
          (try clear hb2)
          (try clear hk)
          (try clear hi)
          obtain ⟨eL, eM, eN⟩ := Kd.R_slice aU.out
          (first | subst eN | (injection eN with f1_ f2_ f3_; have f4_ := f1_.symm; have f5_ := f3_.symm; clear f1_ f2_ f3_; subst f4_; subst f5_))
          refine hK.out _ _ ⟨(blk_cell aA.out 0).trans rfl, (blk_cell aA.out 1).trans rfl, (blk_cell aA.out 2).trans rfl, (blk_cell aB.out 0).trans rfl, (blk_cell aB.out 1).trans rfl, (blk_cell aB.out 2).trans rfl⟩ (fun bA => ?_)
          clear hK K
          refine norm_ (a' := ?_) ?_ ?_
          rotate_left
          · show Act.put _ (some 25) _ = _
            simp only [Act.put, List.setIfInBounds_toArray, List.set_cons_zero, List.set_cons_succ, i64_w, i32_w]
            rfl
          refine two_ (i := 4) (j := 8) (Ni := some 26) (Nj := some 6) #[true, true, true, true, true, false, false, false, false, false, false] #[true, true, true, true, false, false, false, false, true, false, false] rfl rfl rfl rfl (two_of HT_.out (by kernel_rfl)) (by decide) (by decide) (fun K hK => ?_) (fun K hK => ?_)
          · skip
            refine goes_ Try.func7 (by kernel_rfl) rfl #[.agg #[.int .i64 t365, .int .i64 t366, .slice eL t367.length eM], .agg #[.int .i64 t370, .int .i64 t371, .int .i64 t372]] (by rfl) rfl rfl (by (try simp only [List.map_toArray, List.map_cons, List.map_nil]); first | done | rfl | (simp only [List.length_drop, List.length_take]; rfl)) ?_
            with_reducible refine (spec_AddClue.calls k t365 t366 _ _ t367 t370 t371 t372 t373 t374 t375 t378 _ ?side1 ?side2 A12.out).mono ?_
            (case side1 => repeat (first | exact (Kd.R_reads' aU.out).2.2 | (with_reducible refine Kd.C_alloc ?_ _) | (with_reducible refine Kd.C_drewN ?_ _) | (with_reducible refine Kd.C_drew ?_)))
            (case side2 => exact (Kd.R_reads' aU.out).2.1)
            rintro e w26 ⟨v376, rfl, ho0, hb⟩
            refine ⟨_, rfl, ?_⟩
            have aE := aM (Kd.R_elder' aU.out (Kd.R_base ho0) hb)
            have aF := aM (Kd.R_lower (Kd.R_new' ho0 (Kd.R_lt aU.out)) (below_size HB.out))
            have aG := aM (blk_below aA.out hb)
            have aH := aM (blk_below aB.out hb)
            have aI := aM (bp_ HB.out hb)
            clear aU aA aB HB
            have aU := aE
            have bE := aF
            have aA := aG
            have aB := aH
            have HB := aI
            clear aE aF aG aH aI
            (try clear hb)
            (try clear hb2)
            (try clear hk)
            (try clear hi)
            (try clear ho0)
            refine hK.out _ _ ⟨(blk_cell aA.out 0).trans rfl, (blk_cell aA.out 1).trans rfl, (blk_cell aA.out 2).trans rfl, (blk_cell aB.out 0).trans rfl, (blk_cell aB.out 1).trans rfl, (blk_cell aB.out 2).trans rfl⟩ (fun bA => ?_)
            clear hK K
            refine norm_ (a' := ?_) ?_ ?_
            rotate_left
            · show Act.put _ (some 26) _ = _
              simp only [Act.put, List.setIfInBounds_toArray, List.set_cons_zero, List.set_cons_succ, i64_w, i32_w]
              rfl
            refine pure_ (i := 5) (N := some 21) (v := ?_) (a' := ?_) #[true, true, true, true, true, true, false, false, false, false, false] rfl rfl (any_of HT_.out (by kernel_rfl)) (fun _ _ _ h => h) (Or.inl ⟨by rfl, ?_⟩) ?_ ?_
            rotate_left
            · intro w'
              go_simp
              with_reducible rfl
            rotate_left
            · simp only [Act.put, List.setIfInBounds_toArray, List.set_cons_zero, List.set_cons_succ, i64_w, i32_w]
              rfl
            refine pure_ (i := 6) (N := some 27) (v := ?_) (a' := ?_) #[true, true, true, true, true, true, true, false, false, false, false] rfl rfl (any_of HT_.out (by kernel_rfl)) (fun _ _ _ h => h) (Or.inl ⟨by rfl, ?_⟩) ?_ ?_
            rotate_left
            · intro w'
              go_simp
              with_reducible rfl
            rotate_left
            · simp only [Act.put, List.setIfInBounds_toArray, List.set_cons_zero, List.set_cons_succ, i64_w, i32_w]
              rfl
            refine pure_ (i := 7) (N := some 28) (v := ?_) (a' := ?_) #[true, true, true, true, true, true, true, true, false, false, false] rfl rfl (any_of HT_.out (by kernel_rfl)) (fun _ _ _ h => h) (Or.inl ⟨by rfl, ?_⟩) ?_ ?_
            rotate_left
            · intro w'
              go_simp
              with_reducible rfl
            rotate_left
            · simp only [Act.put, List.setIfInBounds_toArray, List.set_cons_zero, List.set_cons_succ, i64_w, i32_w]
              rfl
            refine one_ (i := 8) (N := some 6) #[true, true, true, true, true, true, true, true, true, false, false] rfl rfl (one_of HT_.out (by kernel_rfl)) (by decide) (fun K hK => ?_)
            refine box_step ?hg (N := 6) ?hd (cs := #[.int .i64 0, .int .i64 0, .slice none 0 0]) (t := 33) ?hr ?_; (case hd => rfl); (case hg => rfl); (case hr => first | (go_simp; done) | (go_simp; rfl))
            intro aP hg w27 hbox hb
            have aE := aM (Kd.R_below aU.out hb)
            have aF := aM (Kd.R_below bE.out hb)
            have aG := aM (blk_below aA.out hb)
            have aH := aM (blk_below aB.out hb)
            have aI := aM (bp_ HB.out hb)
            have aK := aM (hbox)
            have aL := aM ((by rw [hg]; exact (below_size HB.out) : w.heap.size ≤ aP))
            have aN := aM ((by rw [hg]; exact (below_size HB.out) : w.heap.size ≤ aP))
            have aR := aM ((by rw [hg]; exact Nat.ne_of_lt (blk_lt aA.out) : aT ≠ aP))
            have aW := aM ((by rw [hg]; exact Nat.ne_of_gt (blk_lt aA.out) : aP ≠ aT))
            have bD := aM ((by rw [hg]; exact Nat.ne_of_lt (blk_lt aB.out) : aZ ≠ aP))
            have bM := aM ((by rw [hg]; exact Nat.ne_of_gt (blk_lt aB.out) : aP ≠ aZ))
            clear aU bE aA aB HB
            have aU := aE
            have bE := aF
            have aA := aG
            have aB := aH
            have HB := aI
            have aC := aK
            have dG := aL
            have bT := aN
            have bS := aR
            have cM := aW
            have bU := bD
            have cP := bM
            clear aE aF aG aH aI aK aL aN aR aW bD bM hb hbox hg
            refine hK.out _ _ ⟨(blk_cell aA.out 0).trans rfl, (blk_cell aA.out 1).trans rfl, (blk_cell aA.out 2).trans rfl, (blk_cell aB.out 0).trans rfl, (blk_cell aB.out 1).trans rfl, (blk_cell aB.out 2).trans rfl⟩ (fun bA => ?_)
            clear hK K
            refine norm_ (a' := ?_) ?_ ?_
            rotate_left
            · show Act.put _ (some 6) _ = _
              simp only [Act.put, List.setIfInBounds_toArray, List.set_cons_zero, List.set_cons_succ, i64_w, i32_w]
              rfl
            exact norm_ (by simp only [putAll, Act.put, List.setIfInBounds_toArray, List.set_cons_zero, List.set_cons_succ]) (hCont (.slice eL t367.length eM, v376, aP) _ ⟨bA, (by (with_reducible repeat (first | apply Kd.R_alloc | apply Kd.R_drewN | apply Kd.R_drew)); exact Kd.R_mono aU.out (fun _ hk => hk.2)), (by (with_reducible repeat (first | apply Kd.R_alloc | apply Kd.R_drewN | apply Kd.R_drew)); exact Kd.R_mono bE.out (fun _ hk => hk.2)), aA.out, aB.out, aC.out, dG.out, bT.out, bS.out, cM.out, bU.out, cP.out, HB.out⟩)
          · skip
            refine box_step ?hg (N := 6) ?hd (cs := #[.int .i64 0, .int .i64 0, .slice none 0 0]) (t := 33) ?hr ?_; (case hd => rfl); (case hg => rfl); (case hr => first | (go_simp; done) | (go_simp; rfl))
            intro aP hg w25 hbox hb
            have aE := aM (Kd.R_below aU.out hb)
            have aF := aM (blk_below aA.out hb)
            have aG := aM (blk_below aB.out hb)
            have aH := aM (bp_ HB.out hb)
            have aI := aM (hbox)
            have aK := aM ((by rw [hg]; exact (below_size HB.out) : w.heap.size ≤ aP))
            have aL := aM ((by rw [hg]; exact (below_size HB.out) : w.heap.size ≤ aP))
            have aN := aM ((by rw [hg]; exact Nat.ne_of_lt (blk_lt aA.out) : aT ≠ aP))
            have aR := aM ((by rw [hg]; exact Nat.ne_of_gt (blk_lt aA.out) : aP ≠ aT))
            have aW := aM ((by rw [hg]; exact Nat.ne_of_lt (blk_lt aB.out) : aZ ≠ aP))
            have bD := aM ((by rw [hg]; exact Nat.ne_of_gt (blk_lt aB.out) : aP ≠ aZ))
            clear aU aA aB HB
            have aU := aE
            have aA := aF
            have aB := aG
            have HB := aH
            have aC := aI
            have dG := aK
            have bT := aL
            have bS := aN
            have cM := aR
            have bU := aW
            have cP := bD
            clear aE aF aG aH aI aK aL aN aR aW bD hb hbox hg
            obtain ⟨dH, dI, dJ⟩ := Kd.R_slice aU.out
            (first | subst dJ | (injection dJ with f1_ f2_ f3_; have f4_ := f1_.symm; have f5_ := f3_.symm; clear f1_ f2_ f3_; subst f4_; subst f5_))
            refine hK.out _ _ ⟨(blk_cell aA.out 0).trans rfl, (blk_cell aA.out 1).trans rfl, (blk_cell aA.out 2).trans rfl, (blk_cell aB.out 0).trans rfl, (blk_cell aB.out 1).trans rfl, (blk_cell aB.out 2).trans rfl⟩ (fun bA => ?_)
            clear hK K
            refine norm_ (a' := ?_) ?_ ?_
            rotate_left
            · show Act.put _ (some 6) _ = _
              simp only [Act.put, List.setIfInBounds_toArray, List.set_cons_zero, List.set_cons_succ, i64_w, i32_w]
              rfl
            refine one_ (i := 4) (N := some 26) #[true, true, true, true, true, false, false, false, true, false, false] rfl rfl (one_of HT_.out (by kernel_rfl)) (by decide) (fun K hK => ?_)
            refine goes_ Try.func7 (by kernel_rfl) rfl #[.agg #[.int .i64 t365, .int .i64 t366, .slice dH t367.length dI], .agg #[.int .i64 t370, .int .i64 t371, .int .i64 t372]] (by rfl) rfl rfl (by (try simp only [List.map_toArray, List.map_cons, List.map_nil]); first | done | rfl | (simp only [List.length_drop, List.length_take]; rfl)) ?_
            with_reducible refine (spec_AddClue.calls k t365 t366 _ _ t367 t370 t371 t372 t373 t374 t375 t378 _ ?side1 ?side2 A12.out).mono ?_
            (case side1 => repeat (first | exact (Kd.R_reads' aU.out).2.2 | (with_reducible refine Kd.C_alloc ?_ _) | (with_reducible refine Kd.C_drewN ?_ _) | (with_reducible refine Kd.C_drew ?_)))
            (case side2 => exact (Kd.R_reads' aU.out).2.1)
            rintro e w27 ⟨v376, rfl, ho0, hb⟩
            refine ⟨_, rfl, ?_⟩
            have aE := aM (Kd.R_elder' aU.out (Kd.R_base ho0) hb)
            have aF := aM (Kd.R_lower (Kd.R_new' ho0 (Kd.R_lt aU.out)) (below_size HB.out))
            have aG := aM (blk_below aA.out hb)
            have aH := aM (blk_below aB.out hb)
            have aI := aM (blk_below aC.out hb)
            have aK := aM (bp_ HB.out hb)
            clear aU aA aB aC HB
            have aU := aE
            have bE := aF
            have aA := aG
            have aB := aH
            have aC := aI
            have HB := aK
            clear aE aF aG aH aI aK
            (try clear hb)
            (try clear hb2)
            (try clear hk)
            (try clear hi)
            (try clear ho0)
            refine hK.out _ _ ⟨(blk_cell aA.out 0).trans rfl, (blk_cell aA.out 1).trans rfl, (blk_cell aA.out 2).trans rfl, (blk_cell aB.out 0).trans rfl, (blk_cell aB.out 1).trans rfl, (blk_cell aB.out 2).trans rfl⟩ (fun bA => ?_)
            clear hK K
            refine norm_ (a' := ?_) ?_ ?_
            rotate_left
            · show Act.put _ (some 26) _ = _
              simp only [Act.put, List.setIfInBounds_toArray, List.set_cons_zero, List.set_cons_succ, i64_w, i32_w]
              rfl
            refine pure_ (i := 5) (N := some 21) (v := ?_) (a' := ?_) #[true, true, true, true, true, true, false, false, true, false, false] rfl rfl (any_of HT_.out (by kernel_rfl)) (fun _ _ _ h => h) (Or.inl ⟨by rfl, ?_⟩) ?_ ?_
            rotate_left
            · intro w'
              go_simp
              with_reducible rfl
            rotate_left
            · simp only [Act.put, List.setIfInBounds_toArray, List.set_cons_zero, List.set_cons_succ, i64_w, i32_w]
              rfl
            refine pure_ (i := 6) (N := some 27) (v := ?_) (a' := ?_) #[true, true, true, true, true, true, true, false, true, false, false] rfl rfl (any_of HT_.out (by kernel_rfl)) (fun _ _ _ h => h) (Or.inl ⟨by rfl, ?_⟩) ?_ ?_
            rotate_left
            · intro w'
              go_simp
              with_reducible rfl
            rotate_left
            · simp only [Act.put, List.setIfInBounds_toArray, List.set_cons_zero, List.set_cons_succ, i64_w, i32_w]
              rfl
            refine pure_ (i := 7) (N := some 28) (v := ?_) (a' := ?_) #[true, true, true, true, true, true, true, true, true, false, false] rfl rfl (any_of HT_.out (by kernel_rfl)) (fun _ _ _ h => h) (Or.inl ⟨by rfl, ?_⟩) ?_ ?_
            rotate_left
            · intro w'
              go_simp
              with_reducible rfl
            rotate_left
            · simp only [Act.put, List.setIfInBounds_toArray, List.set_cons_zero, List.set_cons_succ, i64_w, i32_w]
              rfl
            exact norm_ (by simp only [putAll, Act.put, List.setIfInBounds_toArray, List.set_cons_zero, List.set_cons_succ]) (hCont (.slice dH t367.length dI, v376, aP) _ ⟨bA, (by (with_reducible repeat (first | apply Kd.R_alloc | apply Kd.R_drewN | apply Kd.R_drew)); exact Kd.R_mono aU.out (fun _ hk => hk.2)), (by (with_reducible repeat (first | apply Kd.R_alloc | apply Kd.R_drewN | apply Kd.R_drew)); exact Kd.R_mono bE.out (fun _ hk => hk.2)), aA.out, aB.out, aC.out, dG.out, bT.out, bS.out, cM.out, bU.out, cP.out, HB.out⟩)
        · skip
          refine box_step ?hg (N := 6) ?hd (cs := #[.int .i64 0, .int .i64 0, .slice none 0 0]) (t := 33) ?hr ?_; (case hd => rfl); (case hg => rfl); (case hr => first | (go_simp; done) | (go_simp; rfl))
          intro aP hg w24 hbox hb
          have aE := aM (Kd.R_below aU.out hb)
          have aF := aM (blk_below aA.out hb)
          have aG := aM (blk_below aB.out hb)
          have aH := aM (bp_ HB.out hb)
          have aI := aM (hbox)
          have aK := aM ((by rw [hg]; exact (below_size HB.out) : w.heap.size ≤ aP))
          have aL := aM ((by rw [hg]; exact (below_size HB.out) : w.heap.size ≤ aP))
          have aN := aM ((by rw [hg]; exact Nat.ne_of_lt (blk_lt aA.out) : aT ≠ aP))
          have aR := aM ((by rw [hg]; exact Nat.ne_of_gt (blk_lt aA.out) : aP ≠ aT))
          have aW := aM ((by rw [hg]; exact Nat.ne_of_lt (blk_lt aB.out) : aZ ≠ aP))
          have bD := aM ((by rw [hg]; exact Nat.ne_of_gt (blk_lt aB.out) : aP ≠ aZ))
          clear aU aA aB HB
          have aU := aE
          have aA := aF
          have aB := aG
          have HB := aH
          have aC := aI
          have dG := aK
          have bT := aL
          have bS := aN
          have cM := aR
          have bU := aW
          have cP := bD
          clear aE aF aG aH aI aK aL aN aR aW bD hb hbox hg
          refine hK.out _ _ ⟨(blk_cell aA.out 0).trans rfl, (blk_cell aA.out 1).trans rfl, (blk_cell aA.out 2).trans rfl, (blk_cell aB.out 0).trans rfl, (blk_cell aB.out 1).trans rfl, (blk_cell aB.out 2).trans rfl⟩ (fun bA => ?_)
          clear hK K
          refine norm_ (a' := ?_) ?_ ?_
          rotate_left
          · show Act.put _ (some 6) _ = _
            simp only [Act.put, List.setIfInBounds_toArray, List.set_cons_zero, List.set_cons_succ, i64_w, i32_w]
            rfl
          refine one_ (i := 3) (N := some 25) #[true, true, true, true, false, false, false, false, true, false, false] rfl rfl (one_of HT_.out (by kernel_rfl)) (by decide) (fun K hK => ?_)
          refine goes_ Try.func9 (by kernel_rfl) rfl #[.agg #[.int .i64 a1_0, .int .i64 a1_1, .int .i64 a1_2]] (by rfl) rfl rfl (by (try simp only [List.map_toArray, List.map_cons, List.map_nil]); first | done | rfl | (simp only [List.length_drop, List.length_take]; rfl)) ?_
          with_reducible refine (laws_toClue.calls a1_0 a1_1 a1_2 t370 t371 t372 _ A11.out).mono ?_
          rintro e w25 ⟨rfl, hb⟩
          refine ⟨_, rfl, ?_⟩
          have aE := aM (Kd.R_below aU.out hb)
          have aF := aM (blk_below aA.out hb)
          have aG := aM (blk_below aB.out hb)
          have aH := aM (blk_below aC.out hb)
          have aI := aM (bp_ HB.out hb)
          clear aU aA aB aC HB
          have aU := aE
          have aA := aF
          have aB := aG
          have aC := aH
          have HB := aI
          clear aE aF aG aH aI
          (try clear hb)
          (try clear hb2)
          (try clear hk)
          (try clear hi)
          obtain ⟨dH, dI, dJ⟩ := Kd.R_slice aU.out
          (first | subst dJ | (injection dJ with f1_ f2_ f3_; have f4_ := f1_.symm; have f5_ := f3_.symm; clear f1_ f2_ f3_; subst f4_; subst f5_))
          refine hK.out _ _ ⟨(blk_cell aA.out 0).trans rfl, (blk_cell aA.out 1).trans rfl, (blk_cell aA.out 2).trans rfl, (blk_cell aB.out 0).trans rfl, (blk_cell aB.out 1).trans rfl, (blk_cell aB.out 2).trans rfl⟩ (fun bA => ?_)
          clear hK K
          refine norm_ (a' := ?_) ?_ ?_
          rotate_left
          · show Act.put _ (some 25) _ = _
            simp only [Act.put, List.setIfInBounds_toArray, List.set_cons_zero, List.set_cons_succ, i64_w, i32_w]
            rfl
          refine one_ (i := 4) (N := some 26) #[true, true, true, true, true, false, false, false, true, false, false] rfl rfl (one_of HT_.out (by kernel_rfl)) (by decide) (fun K hK => ?_)
          refine goes_ Try.func7 (by kernel_rfl) rfl #[.agg #[.int .i64 t365, .int .i64 t366, .slice dH t367.length dI], .agg #[.int .i64 t370, .int .i64 t371, .int .i64 t372]] (by rfl) rfl rfl (by (try simp only [List.map_toArray, List.map_cons, List.map_nil]); first | done | rfl | (simp only [List.length_drop, List.length_take]; rfl)) ?_
          with_reducible refine (spec_AddClue.calls k t365 t366 _ _ t367 t370 t371 t372 t373 t374 t375 t378 _ ?side1 ?side2 A12.out).mono ?_
          (case side1 => repeat (first | exact (Kd.R_reads' aU.out).2.2 | (with_reducible refine Kd.C_alloc ?_ _) | (with_reducible refine Kd.C_drewN ?_ _) | (with_reducible refine Kd.C_drew ?_)))
          (case side2 => exact (Kd.R_reads' aU.out).2.1)
          rintro e w27 ⟨v376, rfl, ho0, hb⟩
          refine ⟨_, rfl, ?_⟩
          have aE := aM (Kd.R_elder' aU.out (Kd.R_base ho0) hb)
          have aF := aM (Kd.R_lower (Kd.R_new' ho0 (Kd.R_lt aU.out)) (below_size HB.out))
          have aG := aM (blk_below aA.out hb)
          have aH := aM (blk_below aB.out hb)
          have aI := aM (blk_below aC.out hb)
          have aK := aM (bp_ HB.out hb)
          clear aU aA aB aC HB
          have aU := aE
          have bE := aF
          have aA := aG
          have aB := aH
          have aC := aI
          have HB := aK
          clear aE aF aG aH aI aK
          (try clear hb)
          (try clear hb2)
          (try clear hk)
          (try clear hi)
          (try clear ho0)
          refine hK.out _ _ ⟨(blk_cell aA.out 0).trans rfl, (blk_cell aA.out 1).trans rfl, (blk_cell aA.out 2).trans rfl, (blk_cell aB.out 0).trans rfl, (blk_cell aB.out 1).trans rfl, (blk_cell aB.out 2).trans rfl⟩ (fun bA => ?_)
          clear hK K
          refine norm_ (a' := ?_) ?_ ?_
          rotate_left
          · show Act.put _ (some 26) _ = _
            simp only [Act.put, List.setIfInBounds_toArray, List.set_cons_zero, List.set_cons_succ, i64_w, i32_w]
            rfl
          refine pure_ (i := 5) (N := some 21) (v := ?_) (a' := ?_) #[true, true, true, true, true, true, false, false, true, false, false] rfl rfl (any_of HT_.out (by kernel_rfl)) (fun _ _ _ h => h) (Or.inl ⟨by rfl, ?_⟩) ?_ ?_
          rotate_left
          · intro w'
            go_simp
            with_reducible rfl
          rotate_left
          · simp only [Act.put, List.setIfInBounds_toArray, List.set_cons_zero, List.set_cons_succ, i64_w, i32_w]
            rfl
          refine pure_ (i := 6) (N := some 27) (v := ?_) (a' := ?_) #[true, true, true, true, true, true, true, false, true, false, false] rfl rfl (any_of HT_.out (by kernel_rfl)) (fun _ _ _ h => h) (Or.inl ⟨by rfl, ?_⟩) ?_ ?_
          rotate_left
          · intro w'
            go_simp
            with_reducible rfl
          rotate_left
          · simp only [Act.put, List.setIfInBounds_toArray, List.set_cons_zero, List.set_cons_succ, i64_w, i32_w]
            rfl
          refine pure_ (i := 7) (N := some 28) (v := ?_) (a' := ?_) #[true, true, true, true, true, true, true, true, true, false, false] rfl rfl (any_of HT_.out (by kernel_rfl)) (fun _ _ _ h => h) (Or.inl ⟨by rfl, ?_⟩) ?_ ?_
          rotate_left
          · intro w'
            go_simp
            with_reducible rfl
          rotate_left
          · simp only [Act.put, List.setIfInBounds_toArray, List.set_cons_zero, List.set_cons_succ, i64_w, i32_w]
            rfl
          exact norm_ (by simp only [putAll, Act.put, List.setIfInBounds_toArray, List.set_cons_zero, List.set_cons_succ]) (hCont (.slice dH t367.length dI, v376, aP) _ ⟨bA, (by (with_reducible repeat (first | apply Kd.R_alloc | apply Kd.R_drewN | apply Kd.R_drew)); exact Kd.R_mono aU.out (fun _ hk => hk.2)), (by (with_reducible repeat (first | apply Kd.R_alloc | apply Kd.R_drewN | apply Kd.R_drew)); exact Kd.R_mono bE.out (fun _ hk => hk.2)), aA.out, aB.out, aC.out, dG.out, bT.out, bS.out, cM.out, bU.out, cP.out, HB.out⟩)
      · skip
        refine box_step ?hg (N := 6) ?hd (cs := #[.int .i64 0, .int .i64 0, .slice none 0 0]) (t := 33) ?hr ?_; (case hd => rfl); (case hg => rfl); (case hr => first | (go_simp; done) | (go_simp; rfl))
        intro aP hg w23 hbox hb
        have aE := aM (blk_below aA.out hb)
        have aF := aM (blk_below aB.out hb)
        have aG := aM (bp_ HB.out hb)
        have aH := aM (hbox)
        have aI := aM ((by rw [hg]; exact (below_size HB.out) : w.heap.size ≤ aP))
        have aK := aM ((by rw [hg]; exact (below_size HB.out) : w.heap.size ≤ aP))
        have aL := aM ((by rw [hg]; exact Nat.ne_of_lt (blk_lt aA.out) : aT ≠ aP))
        have aN := aM ((by rw [hg]; exact Nat.ne_of_gt (blk_lt aA.out) : aP ≠ aT))
        have aR := aM ((by rw [hg]; exact Nat.ne_of_lt (blk_lt aB.out) : aZ ≠ aP))
        have aW := aM ((by rw [hg]; exact Nat.ne_of_gt (blk_lt aB.out) : aP ≠ aZ))
        clear aA aB HB
        have aA := aE
        have aB := aF
        have HB := aG
        have aC := aH
        have dG := aI
        have bT := aK
        have bS := aL
        have cM := aN
        have bU := aR
        have cP := aW
        clear aE aF aG aH aI aK aL aN aR aW hb hbox hg
        refine hK.out _ _ ⟨(blk_cell aA.out 0).trans rfl, (blk_cell aA.out 1).trans rfl, (blk_cell aA.out 2).trans rfl, (blk_cell aB.out 0).trans rfl, (blk_cell aB.out 1).trans rfl, (blk_cell aB.out 2).trans rfl⟩ (fun bA => ?_)
        clear hK K
        refine norm_ (a' := ?_) ?_ ?_
        rotate_left
        · show Act.put _ (some 6) _ = _
          simp only [Act.put, List.setIfInBounds_toArray, List.set_cons_zero, List.set_cons_succ, i64_w, i32_w]
          rfl
        refine one_ (i := 1) (N := some 23) #[true, true, true, false, false, false, false, false, true, false, false] rfl rfl (one_of HT_.out (by kernel_rfl)) (by decide) (fun K hK => ?_)
        refine goes_ Try.func8 (by kernel_rfl) rfl #[.agg #[.int .i64 a0_0, .int .i64 a0_1, .slice A0_2 l0_2.length c0_2]] (by rfl) rfl rfl (by (try simp only [List.map_toArray, List.map_cons, List.map_nil]); first | done | rfl | (simp only [List.length_drop, List.length_take]; rfl)) ?_
        with_reducible refine (laws_toPuzzle.calls k a0_0 a0_1 _ _ l0_2 t365 t366 t367 _ ?side1 ?side2 A10.out).mono ?_
        (case side1 => repeat (first | exact (Kd.C_below HR0_2.out HB.out) | (with_reducible refine Kd.C_alloc ?_ _) | (with_reducible refine Kd.C_drewN ?_ _) | (with_reducible refine Kd.C_drew ?_)))
        (case side2 => exact dF.out)
        rintro e w24 ⟨v368, rfl, ho0, hb⟩
        refine ⟨_, rfl, ?_⟩
        have aE := aM (Kd.R_lower ho0 (below_size HB.out))
        have aF := aM (blk_below aA.out hb)
        have aG := aM (blk_below aB.out hb)
        have aH := aM (blk_below aC.out hb)
        have aI := aM (bp_ HB.out hb)
        clear aA aB aC HB
        have aU := aE
        have aA := aF
        have aB := aG
        have aC := aH
        have HB := aI
        clear aE aF aG aH aI
        (try clear hb)
        (try clear hb2)
        (try clear hk)
        (try clear hi)
        (try clear ho0)
        refine hK.out _ _ ⟨(blk_cell aA.out 0).trans rfl, (blk_cell aA.out 1).trans rfl, (blk_cell aA.out 2).trans rfl, (blk_cell aB.out 0).trans rfl, (blk_cell aB.out 1).trans rfl, (blk_cell aB.out 2).trans rfl⟩ (fun bA => ?_)
        clear hK K
        refine norm_ (a' := ?_) ?_ ?_
        rotate_left
        · show Act.put _ (some 23) _ = _
          simp only [Act.put, List.setIfInBounds_toArray, List.set_cons_zero, List.set_cons_succ, i64_w, i32_w]
          rfl
        refine one_ (i := 3) (N := some 25) #[true, true, true, true, false, false, false, false, true, false, false] rfl rfl (one_of HT_.out (by kernel_rfl)) (by decide) (fun K hK => ?_)
        refine goes_ Try.func9 (by kernel_rfl) rfl #[.agg #[.int .i64 a1_0, .int .i64 a1_1, .int .i64 a1_2]] (by rfl) rfl rfl (by (try simp only [List.map_toArray, List.map_cons, List.map_nil]); first | done | rfl | (simp only [List.length_drop, List.length_take]; rfl)) ?_
        with_reducible refine (laws_toClue.calls a1_0 a1_1 a1_2 t370 t371 t372 _ A11.out).mono ?_
        rintro e w25 ⟨rfl, hb⟩
        refine ⟨_, rfl, ?_⟩
        have aE := aM (Kd.R_below aU.out hb)
        have aF := aM (blk_below aA.out hb)
        have aG := aM (blk_below aB.out hb)
        have aH := aM (blk_below aC.out hb)
        have aI := aM (bp_ HB.out hb)
        clear aU aA aB aC HB
        have aU := aE
        have aA := aF
        have aB := aG
        have aC := aH
        have HB := aI
        clear aE aF aG aH aI
        (try clear hb)
        (try clear hb2)
        (try clear hk)
        (try clear hi)
        obtain ⟨dH, dI, dJ⟩ := Kd.R_slice aU.out
        (first | subst dJ | (injection dJ with f1_ f2_ f3_; have f4_ := f1_.symm; have f5_ := f3_.symm; clear f1_ f2_ f3_; subst f4_; subst f5_))
        refine hK.out _ _ ⟨(blk_cell aA.out 0).trans rfl, (blk_cell aA.out 1).trans rfl, (blk_cell aA.out 2).trans rfl, (blk_cell aB.out 0).trans rfl, (blk_cell aB.out 1).trans rfl, (blk_cell aB.out 2).trans rfl⟩ (fun bA => ?_)
        clear hK K
        refine norm_ (a' := ?_) ?_ ?_
        rotate_left
        · show Act.put _ (some 25) _ = _
          simp only [Act.put, List.setIfInBounds_toArray, List.set_cons_zero, List.set_cons_succ, i64_w, i32_w]
          rfl
        refine one_ (i := 4) (N := some 26) #[true, true, true, true, true, false, false, false, true, false, false] rfl rfl (one_of HT_.out (by kernel_rfl)) (by decide) (fun K hK => ?_)
        refine goes_ Try.func7 (by kernel_rfl) rfl #[.agg #[.int .i64 t365, .int .i64 t366, .slice dH t367.length dI], .agg #[.int .i64 t370, .int .i64 t371, .int .i64 t372]] (by rfl) rfl rfl (by (try simp only [List.map_toArray, List.map_cons, List.map_nil]); first | done | rfl | (simp only [List.length_drop, List.length_take]; rfl)) ?_
        with_reducible refine (spec_AddClue.calls k t365 t366 _ _ t367 t370 t371 t372 t373 t374 t375 t378 _ ?side1 ?side2 A12.out).mono ?_
        (case side1 => repeat (first | exact (Kd.R_reads' aU.out).2.2 | (with_reducible refine Kd.C_alloc ?_ _) | (with_reducible refine Kd.C_drewN ?_ _) | (with_reducible refine Kd.C_drew ?_)))
        (case side2 => exact (Kd.R_reads' aU.out).2.1)
        rintro e w27 ⟨v376, rfl, ho0, hb⟩
        refine ⟨_, rfl, ?_⟩
        have aE := aM (Kd.R_elder' aU.out (Kd.R_base ho0) hb)
        have aF := aM (Kd.R_lower (Kd.R_new' ho0 (Kd.R_lt aU.out)) (below_size HB.out))
        have aG := aM (blk_below aA.out hb)
        have aH := aM (blk_below aB.out hb)
        have aI := aM (blk_below aC.out hb)
        have aK := aM (bp_ HB.out hb)
        clear aU aA aB aC HB
        have aU := aE
        have bE := aF
        have aA := aG
        have aB := aH
        have aC := aI
        have HB := aK
        clear aE aF aG aH aI aK
        (try clear hb)
        (try clear hb2)
        (try clear hk)
        (try clear hi)
        (try clear ho0)
        refine hK.out _ _ ⟨(blk_cell aA.out 0).trans rfl, (blk_cell aA.out 1).trans rfl, (blk_cell aA.out 2).trans rfl, (blk_cell aB.out 0).trans rfl, (blk_cell aB.out 1).trans rfl, (blk_cell aB.out 2).trans rfl⟩ (fun bA => ?_)
        clear hK K
        refine norm_ (a' := ?_) ?_ ?_
        rotate_left
        · show Act.put _ (some 26) _ = _
          simp only [Act.put, List.setIfInBounds_toArray, List.set_cons_zero, List.set_cons_succ, i64_w, i32_w]
          rfl
        refine pure_ (i := 5) (N := some 21) (v := ?_) (a' := ?_) #[true, true, true, true, true, true, false, false, true, false, false] rfl rfl (any_of HT_.out (by kernel_rfl)) (fun _ _ _ h => h) (Or.inl ⟨by rfl, ?_⟩) ?_ ?_
        rotate_left
        · intro w'
          go_simp
          with_reducible rfl
        rotate_left
        · simp only [Act.put, List.setIfInBounds_toArray, List.set_cons_zero, List.set_cons_succ, i64_w, i32_w]
          rfl
        refine pure_ (i := 6) (N := some 27) (v := ?_) (a' := ?_) #[true, true, true, true, true, true, true, false, true, false, false] rfl rfl (any_of HT_.out (by kernel_rfl)) (fun _ _ _ h => h) (Or.inl ⟨by rfl, ?_⟩) ?_ ?_
        rotate_left
        · intro w'
          go_simp
          with_reducible rfl
        rotate_left
        · simp only [Act.put, List.setIfInBounds_toArray, List.set_cons_zero, List.set_cons_succ, i64_w, i32_w]
          rfl
        refine pure_ (i := 7) (N := some 28) (v := ?_) (a' := ?_) #[true, true, true, true, true, true, true, true, true, false, false] rfl rfl (any_of HT_.out (by kernel_rfl)) (fun _ _ _ h => h) (Or.inl ⟨by rfl, ?_⟩) ?_ ?_
        rotate_left
        · intro w'
          go_simp
          with_reducible rfl
        rotate_left
        · simp only [Act.put, List.setIfInBounds_toArray, List.set_cons_zero, List.set_cons_succ, i64_w, i32_w]
          rfl
        exact norm_ (by simp only [putAll, Act.put, List.setIfInBounds_toArray, List.set_cons_zero, List.set_cons_succ]) (hCont (.slice dH t367.length dI, v376, aP) _ ⟨bA, (by (with_reducible repeat (first | apply Kd.R_alloc | apply Kd.R_drewN | apply Kd.R_drew)); exact Kd.R_mono aU.out (fun _ hk => hk.2)), (by (with_reducible repeat (first | apply Kd.R_alloc | apply Kd.R_drewN | apply Kd.R_drew)); exact Kd.R_mono bE.out (fun _ hk => hk.2)), aA.out, aB.out, aC.out, dG.out, bT.out, bS.out, cM.out, bU.out, cP.out, HB.out⟩)
    rintro ⟨v368, v376, aP⟩ w28 ⟨hS_, h0_, h1_, h2_, h3_, h4_, h5_, h6_, h7_, h8_, h9_, h10_, h11_⟩
    have aE : Aside0 (Kd.R k37 37 w28 w.heap.size (fun k_ => some k_ ≠ (v376 : Value).ownBlock) v368 t367) := ⟨h0_⟩
    have aF : Aside0 (Kd.R k37 37 w28 w.heap.size (fun k_ => some k_ ≠ (v368 : Value).ownBlock) v376 t375) := ⟨h1_⟩
    have aG : Aside0 (w28.heap[aT]? = some (.cells #[.int .i64 a0_0, .int .i64 a0_1, .slice A0_2 l0_2.length c0_2] 26 (0, 0))) := ⟨h2_⟩
    have aH : Aside0 (w28.heap[aZ]? = some (.cells #[.int .i64 a1_0, .int .i64 a1_1, .int .i64 a1_2] 28 (0, 0))) := ⟨h3_⟩
    have aI : Aside0 (w28.heap[aP]? = some (.cells #[.int .i64 0, .int .i64 0, .slice none 0 0] 33 (0, 0))) := ⟨h4_⟩
    have aK : Aside0 (w.heap.size ≤ aP) := ⟨h5_⟩
    have aL : Aside0 (w.heap.size ≤ aP) := ⟨h6_⟩
    have aN : Aside0 (aT ≠ aP) := ⟨h7_⟩
    have aR : Aside0 (aP ≠ aT) := ⟨h8_⟩
    have aW : Aside0 (aZ ≠ aP) := ⟨h9_⟩
    have bD : Aside0 (aP ≠ aZ) := ⟨h10_⟩
    have bM : Aside0 (Below w.heap.size w w28) := ⟨h11_⟩
    clear aA aB HB h0_ h1_ h2_ h3_ h4_ h5_ h6_ h7_ h8_ h9_ h10_ h11_
    have aU := aE
    have bE := aF
    have aA := aG
    have aB := aH
    have aC := aI
    have dG := aK
    have bT := aL
    have bS := aN
    have cM := aR
    have bU := aW
    have cP := bD
    have HB := bM
    clear aE aF aG aH aI aK aL aN aR aW bD bM
    have bA : w28.cell? ⟨aT, 0, none⟩ = some (.int .i64 a0_0) ∧ w28.cell? ⟨aT, 1, none⟩ = some (.int .i64 a0_1) ∧ w28.cell? ⟨aT, 2, none⟩ = some (.slice A0_2 l0_2.length c0_2) ∧ w28.cell? ⟨aZ, 0, none⟩ = some (.int .i64 a1_0) ∧ w28.cell? ⟨aZ, 1, none⟩ = some (.int .i64 a1_1) ∧ w28.cell? ⟨aZ, 2, none⟩ = some (.int .i64 a1_2) := hS_
    obtain ⟨bG, bF, eO⟩ := Kd.R_slice bE.out
    (first | subst eO | (injection eO with f1_ f2_ f3_; have f4_ := f1_.symm; have f5_ := f3_.symm; clear f1_ f2_ f3_; subst f4_; subst f5_))
    refine norm_ (a' := ?_) ?_ ?_
    rotate_left
    · simp only [putAll, Act.put, List.setIfInBounds_toArray, List.set_cons_zero, List.set_cons_succ]
      rfl
    refine one_ (i := 9) (N := none) #[true, true, true, true, true, true, true, true, true, true, false] rfl rfl (one_of HT_.out (by kernel_rfl)) (by decide) (fun K hK => ?_)
    have hT : w28.cell? ⟨aP, 0, none⟩ = some (.int .i64 0) := (blk_cell aC.out 0).trans rfl
    have hU := blk_frozen aC.out 0
    have hV := bS.out
    have hW := bU.out
    have hX := cM.out
    have hY := cP.out
    have hZ : w28.cell? ⟨aP, 1, none⟩ = some (.int .i64 0) := (blk_cell aC.out 1).trans rfl
    have iA := blk_frozen aC.out 1
    have iB := bS.out
    have iC := bU.out
    have iD := cM.out
    have iE := cP.out
    have iF : w28.cell? ⟨aP, 2, none⟩ = some (.slice none 0 0) := (blk_cell aC.out 2).trans rfl
    have iG := blk_frozen aC.out 2
    have iH := bS.out
    have iI := bU.out
    have iJ := cM.out
    have iK := cP.out
    refine skip_ (w1 := ?_) (by rfl) rfl ?_ ?_
    rotate_left
    · go_simp
      rfl
    refine hK.out _ _ ⟨((cell_far (p := ⟨aP, _, none⟩) bS.out _).trans (((cell_far (p := ⟨aP, _, none⟩) bS.out _).trans (((cell_far (p := ⟨aP, _, none⟩) bS.out _).trans (bA.1)))))), ((cell_far (p := ⟨aP, _, none⟩) bS.out _).trans (((cell_far (p := ⟨aP, _, none⟩) bS.out _).trans (((cell_far (p := ⟨aP, _, none⟩) bS.out _).trans (bA.2.1)))))), ((cell_far (p := ⟨aP, _, none⟩) bS.out _).trans (((cell_far (p := ⟨aP, _, none⟩) bS.out _).trans (((cell_far (p := ⟨aP, _, none⟩) bS.out _).trans (bA.2.2.1)))))), ((cell_far (p := ⟨aP, _, none⟩) bU.out _).trans (((cell_far (p := ⟨aP, _, none⟩) bU.out _).trans (((cell_far (p := ⟨aP, _, none⟩) bU.out _).trans (bA.2.2.2.1)))))), ((cell_far (p := ⟨aP, _, none⟩) bU.out _).trans (((cell_far (p := ⟨aP, _, none⟩) bU.out _).trans (((cell_far (p := ⟨aP, _, none⟩) bU.out _).trans (bA.2.2.2.2.1)))))), ((cell_far (p := ⟨aP, _, none⟩) bU.out _).trans (((cell_far (p := ⟨aP, _, none⟩) bU.out _).trans (((cell_far (p := ⟨aP, _, none⟩) bU.out _).trans (bA.2.2.2.2.2))))))⟩ (fun bA => ?_)
    clear hK K
    refine pure_ (i := 10) (N := some 7) (v := ?_) (a' := ?_) #[true, true, true, true, true, true, true, true, true, true, true] rfl rfl (any_of HT_.out (by kernel_rfl)) (fun _ _ _ h => h) (Or.inl ⟨by rfl, ?_⟩) ?_ ?_
    rotate_left
    · intro w'
      go_simp
      with_reducible rfl
    rotate_left
    · simp only [Act.put, List.setIfInBounds_toArray, List.set_cons_zero, List.set_cons_succ, i64_w, i32_w]
      rfl
    refine done_ (done_of HT_.out (by kernel_rfl)) ?_
    have iL := bS.out
    have iM := cM.out
    have iN : w28.cell? ⟨aT, 0, none⟩ = some (.int .i64 a0_0) := (blk_cell aA.out 0).trans rfl
    have iO : w28.cell? ⟨aT, 1, none⟩ = some (.int .i64 a0_1) := (blk_cell aA.out 1).trans rfl
    have iP : w28.cell? ⟨aT, 2, none⟩ = some (.slice A0_2 l0_2.length c0_2) := (blk_cell aA.out 2).trans rfl
    have iQ := blk_frozen aA.out 0
    have iR := blk_frozen aA.out 1
    have iS := blk_frozen aA.out 2
    try go_wp2_with (first | ((with_reducible refine gate_callee (f := 8) rfl ?_); refine goesL_ (some 30) rfl rfl Try.func8 (by kernel_rfl) rfl #[.agg #[.int .i64 a0_0, .int .i64 a0_1, .slice A0_2 l0_2.length c0_2]] rfl (by (try simp only [List.map_toArray, List.map_cons, List.map_nil]); first | done | rfl | (simp only [List.length_drop, List.length_take]; rfl)) ?_; (with_reducible refine (laws_toPuzzle.calls k a0_0 a0_1 _ _ l0_2 t380 t381 t382 _ ?side1 ?side2 A13.out).mono ?_); (case side1 => exact Kd.C_below HR0_2.out (by repeat (first | (with_reducible first | exact HB.out | apply ba_ | apply bn_ | apply bd_ | refine bs_ ?_ bR.out | refine bs_ ?_ cC.out | refine bs_ ?_ bT.out) | exact HB.out))); (case side2 => exact dF.out); rintro e w35 ⟨v383, rfl, ho0, hb⟩; refine ⟨_, rfl, ?_⟩; have aE := aM (Kd.R_elder' (by (with_reducible repeat (first | apply Kd.R_alloc | apply Kd.R_drewN | apply Kd.R_drew)); exact (Kd.R_mono (Kd.R_far (p := ⟨aP, 2, none⟩) (Kd.R_far (p := ⟨aP, 1, none⟩) (Kd.R_far (p := ⟨aP, 0, none⟩) (Kd.R_types aU.out aC.out (by decide)) (fun _ hk => hk.2) (.int .i64 t373)) (fun _ hk => hk.2) (.int .i64 t374)) (fun _ hk => hk.2) (.slice bG t375.length bF)) (fun _ h_ => h_.1))) (Kd.R_base ho0) hb); have aF := aM (Kd.R_elder' (by (with_reducible repeat (first | apply Kd.R_alloc | apply Kd.R_drewN | apply Kd.R_drew)); exact (Kd.R_mono (Kd.R_far (p := ⟨aP, 2, none⟩) (Kd.R_far (p := ⟨aP, 1, none⟩) (Kd.R_far (p := ⟨aP, 0, none⟩) (Kd.R_types bE.out aC.out (by decide)) (fun _ hk => hk.2) (.int .i64 t373)) (fun _ hk => hk.2) (.int .i64 t374)) (fun _ hk => hk.2) (.slice bG t375.length bF)) (fun _ h_ => h_.1))) (Kd.R_base ho0) hb); have aG := aM (Kd.R_lower (Kd.R_new' (Kd.R_new' ho0 (Kd.R_lt (by (with_reducible repeat (first | apply Kd.R_alloc | apply Kd.R_drewN | apply Kd.R_drew)); exact (Kd.R_mono (Kd.R_far (p := ⟨aP, 2, none⟩) (Kd.R_far (p := ⟨aP, 1, none⟩) (Kd.R_far (p := ⟨aP, 0, none⟩) (Kd.R_types aU.out aC.out (by decide)) (fun _ hk => hk.2) (.int .i64 t373)) (fun _ hk => hk.2) (.int .i64 t374)) (fun _ hk => hk.2) (.slice bG t375.length bF)) (fun _ h_ => h_.1))))) (Kd.R_lt (by (with_reducible repeat (first | apply Kd.R_alloc | apply Kd.R_drewN | apply Kd.R_drew)); exact (Kd.R_mono (Kd.R_far (p := ⟨aP, 2, none⟩) (Kd.R_far (p := ⟨aP, 1, none⟩) (Kd.R_far (p := ⟨aP, 0, none⟩) (Kd.R_types bE.out aC.out (by decide)) (fun _ hk => hk.2) (.int .i64 t373)) (fun _ hk => hk.2) (.int .i64 t374)) (fun _ hk => hk.2) (.slice bG t375.length bF)) (fun _ h_ => h_.1))))) (below_size (by repeat (first | (with_reducible first | exact HB.out | apply ba_ | apply bn_ | apply bd_ | refine bs_ ?_ bR.out | refine bs_ ?_ cC.out | refine bs_ ?_ bT.out) | exact HB.out)))); have aH := aM (blk_below (g := aT) (o := .cells #[.int .i64 a0_0, .int .i64 a0_1, .slice A0_2 l0_2.length c0_2] 26 (0, 0)) (by (with_reducible repeat (first | refine kn_ ?_ _ | refine blk_drew ?_ | refine ka_ ?_ _)); refine blk_far ?_ bS.out _; (with_reducible repeat (first | refine kn_ ?_ _ | refine blk_drew ?_ | refine ka_ ?_ _)); refine blk_far ?_ bS.out _; (with_reducible repeat (first | refine kn_ ?_ _ | refine blk_drew ?_ | refine ka_ ?_ _)); refine blk_far ?_ bS.out _; (with_reducible repeat (first | refine kn_ ?_ _ | refine blk_drew ?_ | refine ka_ ?_ _)); exact aA.out) hb); have aI := aM (blk_below (g := aZ) (o := .cells #[.int .i64 a1_0, .int .i64 a1_1, .int .i64 a1_2] 28 (0, 0)) (by (with_reducible repeat (first | refine kn_ ?_ _ | refine blk_drew ?_ | refine ka_ ?_ _)); refine blk_far ?_ bU.out _; (with_reducible repeat (first | refine kn_ ?_ _ | refine blk_drew ?_ | refine ka_ ?_ _)); refine blk_far ?_ bU.out _; (with_reducible repeat (first | refine kn_ ?_ _ | refine blk_drew ?_ | refine ka_ ?_ _)); refine blk_far ?_ bU.out _; (with_reducible repeat (first | refine kn_ ?_ _ | refine blk_drew ?_ | refine ka_ ?_ _)); exact aB.out) hb); have aK := aM (blk_below (g := aP) (o := .cells #[.int .i64 t373, .int .i64 t374, .slice bG t375.length bF] 33 (0, 0)) (by (with_reducible repeat (first | refine kn_ ?_ _ | refine blk_drew ?_ | refine ka_ ?_ _)); refine blk_put (cs := #[.int .i64 t373, .int .i64 t374, .slice none 0 0]) ?_ 2 _ rfl; (with_reducible repeat (first | refine kn_ ?_ _ | refine blk_drew ?_ | refine ka_ ?_ _)); refine blk_put (cs := #[.int .i64 t373, .int .i64 0, .slice none 0 0]) ?_ 1 _ rfl; (with_reducible repeat (first | refine kn_ ?_ _ | refine blk_drew ?_ | refine ka_ ?_ _)); refine blk_put (cs := #[.int .i64 0, .int .i64 0, .slice none 0 0]) ?_ 0 _ rfl; (with_reducible repeat (first | refine kn_ ?_ _ | refine blk_drew ?_ | refine ka_ ?_ _)); exact aC.out) hb); have aL := aM (bp_ (by repeat (first | (with_reducible first | exact HB.out | apply ba_ | apply bn_ | apply bd_ | refine bs_ ?_ bR.out | refine bs_ ?_ cC.out | refine bs_ ?_ bT.out) | exact HB.out)) hb); clear aU; clear bE; clear aA; clear aB; clear aC; clear HB; have aU := aE; have bE := aF; have bK := aG; have aA := aH; have aB := aI; have aC := aK; have HB := aL; clear aE aF aG aH aI aK aL; (try clear hb); (try clear hb2); (try clear hk); (try clear hi); (try clear ho0)) | ((with_reducible refine gate_dst (N := 8) rfl ?_); refine box_event ?hg (N := 8) ?hd (cs := #[.int .i64 0, .int .i64 0, .slice none 0 0]) (t := 33) ?hr ?_; (case hd => rfl); (case hg => rfl); (case hr => first | (go_simp; done) | (go_simp; rfl)); intro aX hg w36 hbox hb; have aE := aM (Kd.R_below (by (with_reducible repeat (first | apply Kd.R_alloc | apply Kd.R_drewN | apply Kd.R_drew)); exact aU.out) hb); have aF := aM (Kd.R_below (by (with_reducible repeat (first | apply Kd.R_alloc | apply Kd.R_drewN | apply Kd.R_drew)); exact bE.out) hb); have aG := aM (Kd.R_below (by (with_reducible repeat (first | apply Kd.R_alloc | apply Kd.R_drewN | apply Kd.R_drew)); exact bK.out) hb); have aH := aM (blk_below (g := aT) (o := .cells #[.int .i64 a0_0, .int .i64 a0_1, .slice A0_2 l0_2.length c0_2] 26 (0, 0)) (by (with_reducible repeat (first | refine kn_ ?_ _ | refine blk_drew ?_ | refine ka_ ?_ _)); exact aA.out) hb); have aI := aM (blk_below (g := aZ) (o := .cells #[.int .i64 a1_0, .int .i64 a1_1, .int .i64 a1_2] 28 (0, 0)) (by (with_reducible repeat (first | refine kn_ ?_ _ | refine blk_drew ?_ | refine ka_ ?_ _)); exact aB.out) hb); have aK := aM (blk_below (g := aP) (o := .cells #[.int .i64 t373, .int .i64 t374, .slice bG t375.length bF] 33 (0, 0)) (by (with_reducible repeat (first | refine kn_ ?_ _ | refine blk_drew ?_ | refine ka_ ?_ _)); exact aC.out) hb); have aL := aM (bp_ (by repeat (first | (with_reducible first | exact HB.out | apply ba_ | apply bn_ | apply bd_ | refine bs_ ?_ bR.out | refine bs_ ?_ cC.out | refine bs_ ?_ bT.out) | exact HB.out)) hb); have aN := aM (hbox); have aR := aM ((by rw [hg]; exact (below_size (by repeat (first | (with_reducible first | exact HB.out | apply ba_ | apply bn_ | apply bd_ | refine bs_ ?_ bR.out | refine bs_ ?_ cC.out | refine bs_ ?_ bT.out) | exact HB.out))) : w.heap.size ≤ aX)); have aW := aM ((by rw [hg]; exact (below_size (by repeat (first | (with_reducible first | exact HB.out | apply ba_ | apply bn_ | apply bd_ | refine bs_ ?_ bR.out | refine bs_ ?_ cC.out | refine bs_ ?_ bT.out) | exact HB.out))) : w.heap.size ≤ aX)); have bD := aM ((by rw [hg]; exact Nat.ne_of_lt (blk_lt (g := aT) (o := .cells #[.int .i64 a0_0, .int .i64 a0_1, .slice A0_2 l0_2.length c0_2] 26 (0, 0)) (by (with_reducible repeat (first | refine kn_ ?_ _ | refine blk_drew ?_ | refine ka_ ?_ _)); exact aA.out)) : aT ≠ aX)); have bM := aM ((by rw [hg]; exact Nat.ne_of_gt (blk_lt (g := aT) (o := .cells #[.int .i64 a0_0, .int .i64 a0_1, .slice A0_2 l0_2.length c0_2] 26 (0, 0)) (by (with_reducible repeat (first | refine kn_ ?_ _ | refine blk_drew ?_ | refine ka_ ?_ _)); exact aA.out)) : aX ≠ aT)); have bN := aM ((by rw [hg]; exact Nat.ne_of_lt (blk_lt (g := aZ) (o := .cells #[.int .i64 a1_0, .int .i64 a1_1, .int .i64 a1_2] 28 (0, 0)) (by (with_reducible repeat (first | refine kn_ ?_ _ | refine blk_drew ?_ | refine ka_ ?_ _)); exact aB.out)) : aZ ≠ aX)); have bO := aM ((by rw [hg]; exact Nat.ne_of_gt (blk_lt (g := aZ) (o := .cells #[.int .i64 a1_0, .int .i64 a1_1, .int .i64 a1_2] 28 (0, 0)) (by (with_reducible repeat (first | refine kn_ ?_ _ | refine blk_drew ?_ | refine ka_ ?_ _)); exact aB.out)) : aX ≠ aZ)); have bP := aM ((by rw [hg]; exact Nat.ne_of_lt (blk_lt (g := aP) (o := .cells #[.int .i64 t373, .int .i64 t374, .slice bG t375.length bF] 33 (0, 0)) (by (with_reducible repeat (first | refine kn_ ?_ _ | refine blk_drew ?_ | refine ka_ ?_ _)); exact aC.out)) : aP ≠ aX)); have bQ := aM ((by rw [hg]; exact Nat.ne_of_gt (blk_lt (g := aP) (o := .cells #[.int .i64 t373, .int .i64 t374, .slice bG t375.length bF] 33 (0, 0)) (by (with_reducible repeat (first | refine kn_ ?_ _ | refine blk_drew ?_ | refine ka_ ?_ _)); exact aC.out)) : aX ≠ aP)); clear aU; clear bE; clear bK; clear aA; clear aB; clear aC; clear HB; have aU := aE; have bE := aF; have bK := aG; have aA := aH; have aB := aI; have aC := aK; have HB := aL; have aD := aN; have iT := aR; have cX := aW; have dU := bD; have eP := bM; have dV := bN; have eQ := bO; have dK := bP; have dW := bQ; clear aE aF aG aH aI aK aL aN aR aW bD bM bN bO bP bQ; clear hb hbox hg; have iU := eP.out; have iV := dU.out; have iW := eQ.out; have iX := dV.out; have iY := dW.out; have iZ := dK.out; have jA : w36.cell? ⟨aX, 0, none⟩ = some (.int .i64 0) := (blk_cell aD.out 0).trans rfl; have jB : w36.cell? ⟨aX, 1, none⟩ = some (.int .i64 0) := (blk_cell aD.out 1).trans rfl; have jC : w36.cell? ⟨aX, 2, none⟩ = some (.slice none 0 0) := (blk_cell aD.out 2).trans rfl; have jD := blk_frozen aD.out 0; have jE := blk_frozen aD.out 1; have jF := blk_frozen aD.out 2; obtain ⟨bB, bC, fL⟩ := Kd.R_slice bK.out; subst fL))
    have aE : Aside0 (Kd.R k37 37 (((w36.setCell ⟨aX, 0, none⟩ (.int .i64 t380)).setCell ⟨aX, 1, none⟩ (.int .i64 t381)).setCell ⟨aX, 2, none⟩ (.slice bB t382.length bC)) w.heap.size (fun k_ => some k_ ≠ (.slice bG t375.length bF : Value).ownBlock ∧ some k_ ≠ (.slice bB t382.length bC : Value).ownBlock) v368 t367) := ⟨by (with_reducible repeat (first | apply Kd.R_alloc | apply Kd.R_drewN | apply Kd.R_drew)); exact Kd.R_mono (Kd.R_far (p := ⟨aX, 2, none⟩) (Kd.R_far (p := ⟨aX, 1, none⟩) (Kd.R_far (p := ⟨aX, 0, none⟩) (Kd.R_types aU.out aD.out (by decide)) (fun _ hk => hk.2) (.int .i64 t380)) (fun _ hk => hk.2) (.int .i64 t381)) (fun _ hk => hk.2) (.slice bB t382.length bC)) (fun _ hk => ⟨hk.1.1, hk.1.2⟩)⟩
    have aF : Aside0 (Kd.R k37 37 (((w36.setCell ⟨aX, 0, none⟩ (.int .i64 t380)).setCell ⟨aX, 1, none⟩ (.int .i64 t381)).setCell ⟨aX, 2, none⟩ (.slice bB t382.length bC)) w.heap.size (fun k_ => some k_ ≠ (v368 : Value).ownBlock ∧ some k_ ≠ (.slice bB t382.length bC : Value).ownBlock) (.slice bG t375.length bF) t375) := ⟨by (with_reducible repeat (first | apply Kd.R_alloc | apply Kd.R_drewN | apply Kd.R_drew)); exact Kd.R_mono (Kd.R_far (p := ⟨aX, 2, none⟩) (Kd.R_far (p := ⟨aX, 1, none⟩) (Kd.R_far (p := ⟨aX, 0, none⟩) (Kd.R_types bE.out aD.out (by decide)) (fun _ hk => hk.2) (.int .i64 t380)) (fun _ hk => hk.2) (.int .i64 t381)) (fun _ hk => hk.2) (.slice bB t382.length bC)) (fun _ hk => ⟨hk.1.1, hk.1.2⟩)⟩
    have aG : Aside0 (Kd.R k37 37 (((w36.setCell ⟨aX, 0, none⟩ (.int .i64 t380)).setCell ⟨aX, 1, none⟩ (.int .i64 t381)).setCell ⟨aX, 2, none⟩ (.slice bB t382.length bC)) w.heap.size (fun k_ => some k_ ≠ (v368 : Value).ownBlock ∧ some k_ ≠ (.slice bG t375.length bF : Value).ownBlock) (.slice bB t382.length bC) t382) := ⟨by (with_reducible repeat (first | apply Kd.R_alloc | apply Kd.R_drewN | apply Kd.R_drew)); exact Kd.R_mono (Kd.R_far (p := ⟨aX, 2, none⟩) (Kd.R_far (p := ⟨aX, 1, none⟩) (Kd.R_far (p := ⟨aX, 0, none⟩) (Kd.R_types bK.out aD.out (by decide)) (fun _ hk => hk.2) (.int .i64 t380)) (fun _ hk => hk.2) (.int .i64 t381)) (fun _ hk => hk.2) (.slice bB t382.length bC)) (fun _ hk => ⟨hk.1.1.2, hk.1.2⟩)⟩
    have aH : Aside0 ((((w36.setCell ⟨aX, 0, none⟩ (.int .i64 t380)).setCell ⟨aX, 1, none⟩ (.int .i64 t381)).setCell ⟨aX, 2, none⟩ (.slice bB t382.length bC)).heap[aT]? = some (.cells #[.int .i64 a0_0, .int .i64 a0_1, .slice A0_2 l0_2.length c0_2] 26 (0, 0))) := ⟨by (with_reducible repeat (first | refine kn_ ?_ _ | refine blk_drew ?_ | refine ka_ ?_ _)); refine blk_far ?_ dU.out _; (with_reducible repeat (first | refine kn_ ?_ _ | refine blk_drew ?_ | refine ka_ ?_ _)); refine blk_far ?_ dU.out _; (with_reducible repeat (first | refine kn_ ?_ _ | refine blk_drew ?_ | refine ka_ ?_ _)); refine blk_far ?_ dU.out _; (with_reducible repeat (first | refine kn_ ?_ _ | refine blk_drew ?_ | refine ka_ ?_ _)); exact aA.out⟩
    have aI : Aside0 ((((w36.setCell ⟨aX, 0, none⟩ (.int .i64 t380)).setCell ⟨aX, 1, none⟩ (.int .i64 t381)).setCell ⟨aX, 2, none⟩ (.slice bB t382.length bC)).heap[aZ]? = some (.cells #[.int .i64 a1_0, .int .i64 a1_1, .int .i64 a1_2] 28 (0, 0))) := ⟨by (with_reducible repeat (first | refine kn_ ?_ _ | refine blk_drew ?_ | refine ka_ ?_ _)); refine blk_far ?_ dV.out _; (with_reducible repeat (first | refine kn_ ?_ _ | refine blk_drew ?_ | refine ka_ ?_ _)); refine blk_far ?_ dV.out _; (with_reducible repeat (first | refine kn_ ?_ _ | refine blk_drew ?_ | refine ka_ ?_ _)); refine blk_far ?_ dV.out _; (with_reducible repeat (first | refine kn_ ?_ _ | refine blk_drew ?_ | refine ka_ ?_ _)); exact aB.out⟩
    have aK : Aside0 ((((w36.setCell ⟨aX, 0, none⟩ (.int .i64 t380)).setCell ⟨aX, 1, none⟩ (.int .i64 t381)).setCell ⟨aX, 2, none⟩ (.slice bB t382.length bC)).heap[aP]? = some (.cells #[.int .i64 t373, .int .i64 t374, .slice bG t375.length bF] 33 (0, 0))) := ⟨by (with_reducible repeat (first | refine kn_ ?_ _ | refine blk_drew ?_ | refine ka_ ?_ _)); refine blk_far ?_ dK.out _; (with_reducible repeat (first | refine kn_ ?_ _ | refine blk_drew ?_ | refine ka_ ?_ _)); refine blk_far ?_ dK.out _; (with_reducible repeat (first | refine kn_ ?_ _ | refine blk_drew ?_ | refine ka_ ?_ _)); refine blk_far ?_ dK.out _; (with_reducible repeat (first | refine kn_ ?_ _ | refine blk_drew ?_ | refine ka_ ?_ _)); exact aC.out⟩
    have aL : Aside0 ((((w36.setCell ⟨aX, 0, none⟩ (.int .i64 t380)).setCell ⟨aX, 1, none⟩ (.int .i64 t381)).setCell ⟨aX, 2, none⟩ (.slice bB t382.length bC)).heap[aX]? = some (.cells #[.int .i64 t380, .int .i64 t381, .slice bB t382.length bC] 33 (0, 0))) := ⟨by (with_reducible repeat (first | refine kn_ ?_ _ | refine blk_drew ?_ | refine ka_ ?_ _)); refine blk_put (cs := #[.int .i64 t380, .int .i64 t381, .slice none 0 0]) ?_ 2 _ rfl; (with_reducible repeat (first | refine kn_ ?_ _ | refine blk_drew ?_ | refine ka_ ?_ _)); refine blk_put (cs := #[.int .i64 t380, .int .i64 0, .slice none 0 0]) ?_ 1 _ rfl; (with_reducible repeat (first | refine kn_ ?_ _ | refine blk_drew ?_ | refine ka_ ?_ _)); refine blk_put (cs := #[.int .i64 0, .int .i64 0, .slice none 0 0]) ?_ 0 _ rfl; (with_reducible repeat (first | refine kn_ ?_ _ | refine blk_drew ?_ | refine ka_ ?_ _)); exact aD.out⟩
    have aN : Aside0 (Below w.heap.size w (((w36.setCell ⟨aX, 0, none⟩ (.int .i64 t380)).setCell ⟨aX, 1, none⟩ (.int .i64 t381)).setCell ⟨aX, 2, none⟩ (.slice bB t382.length bC))) := ⟨by repeat (first | (with_reducible first | exact HB.out | apply ba_ | apply bn_ | apply bd_ | refine bs_ ?_ bR.out | refine bs_ ?_ cC.out | refine bs_ ?_ bT.out | refine bs_ ?_ cX.out) | exact HB.out)⟩
    (try clear aU)
    (try clear bE)
    (try clear bK)
    (try clear aA)
    (try clear aB)
    (try clear aC)
    (try clear aD)
    (try clear HB)
    generalize (((w36.setCell ⟨aX, 0, none⟩ (.int .i64 t380)).setCell ⟨aX, 1, none⟩ (.int .i64 t381)).setCell ⟨aX, 2, none⟩ (.slice bB t382.length bC)) = w42 at aE aF aG aH aI aK aL aN ⊢
    have aU := aE
    have bE := aF
    have bK := aG
    have aA := aH
    have aB := aI
    have aC := aK
    have aD := aL
    have HB := aN
    clear aE aF aG aH aI aK aL aN
    have aE := aM (Kd.R_drew aU.out)
    have aF := aM (Kd.R_drew bE.out)
    have aG := aM (Kd.R_drew bK.out)
    have aH := aM (blk_drew aA.out)
    have aI := aM (blk_drew aB.out)
    have aK := aM (blk_drew aC.out)
    have aL := aM (blk_drew aD.out)
    have aN := aM (bd_ HB.out)
    clear aU bE bK aA aB aC aD HB
    have aU := aE
    have bE := aF
    have bK := aG
    have aA := aH
    have aB := aI
    have aC := aK
    have aD := aL
    have HB := aN
    clear aE aF aG aH aI aK aL aN
    refine start_ (n := 10) (S := fun w' => w'.cell? ⟨aX, 0, none⟩ = some (.int .i64 t380) ∧ w'.cell? ⟨aX, 1, none⟩ = some (.int .i64 t381) ∧ w'.cell? ⟨aX, 2, none⟩ = some (.slice bB t382.length bC) ∧ w'.cell? ⟨aZ, 0, none⟩ = some (.int .i64 a1_0) ∧ w'.cell? ⟨aZ, 1, none⟩ = some (.int .i64 a1_1) ∧ w'.cell? ⟨aZ, 2, none⟩ = some (.int .i64 a1_2)) (ds := []) #[false, false, false, false, false, false, false, false, false, false] (by kernel_rfl) rfl rfl ⟨(blk_cell aD.out 0).trans rfl, (blk_cell aD.out 1).trans rfl, (blk_cell aD.out 2).trans rfl, (blk_cell aB.out 0).trans rfl, (blk_cell aB.out 1).trans rfl, (blk_cell aB.out 2).trans rfl⟩ (fun bA => ?_); refine with_tabW laws_FnExactAddClue.tab7 laws_FnExactAddClue.bits7 (fun HT_ HW_ => ?_)
    generalize w42.drew = w43 at aU bE bK aA aB aC aD HB bA ⊢
    refine take_ (i := 0) (N := some 32) (v := ?_) (a' := ?_) #[true, false, false, false, false, false, false, false, false, false] rfl rfl (take_ofW HT_.out HW_.out (by kernel_rfl)) (fun _ _ _ h => h) (Or.inl ⟨by rfl, ?_⟩) bA ?_ ?_
    rotate_left
    · rintro w' ⟨s0, s1, s2, s3, s4, s5⟩
      go_simp
      with_reducible rfl
    rotate_left
    · simp only [Act.put, List.setIfInBounds_toArray, List.set_cons_zero, List.set_cons_succ, i64_w, i32_w]
      rfl
    refine take_ (i := 1) (N := some 33) (v := ?_) (a' := ?_) #[true, true, false, false, false, false, false, false, false, false] rfl rfl (take_ofW HT_.out HW_.out (by kernel_rfl)) (fun _ _ _ h => h) (Or.inl ⟨by rfl, ?_⟩) bA ?_ ?_
    rotate_left
    · rintro w' ⟨s0, s1, s2, s3, s4, s5⟩
      go_simp
      with_reducible rfl
    rotate_left
    · simp only [Act.put, List.setIfInBounds_toArray, List.set_cons_zero, List.set_cons_succ, i64_w, i32_w]
      rfl
    refine join_ (σ := Value × Nat) 2 #[true, true, true, true, true, true, true, true, false, false] (fun s_ => [(34, .agg #[.int .i64 t386, .int .i64 t387, .int .i64 t388]), (35, .tuple #[.agg #[.int .i64 t389, .int .i64 t390, s_.1], .bool t394]), (9, .pointer (some ⟨s_.2, 0, none⟩)), (31, .tuple #[.agg #[.int .i64 t389, .int .i64 t390, s_.1], .bool t394]), (36, .agg #[.int .i64 t389, .int .i64 t390, s_.1]), (37, .bool t394)]) (fun s_ w' => (w'.cell? ⟨aX, 0, none⟩ = some (.int .i64 t380) ∧ w'.cell? ⟨aX, 1, none⟩ = some (.int .i64 t381) ∧ w'.cell? ⟨aX, 2, none⟩ = some (.slice bB t382.length bC) ∧ w'.cell? ⟨aZ, 0, none⟩ = some (.int .i64 a1_0) ∧ w'.cell? ⟨aZ, 1, none⟩ = some (.int .i64 a1_1) ∧ w'.cell? ⟨aZ, 2, none⟩ = some (.int .i64 a1_2)) ∧ (Kd.R k37 37 w' w.heap.size (fun k_ => some k_ ≠ (.slice bG t375.length bF : Value).ownBlock ∧ some k_ ≠ (.slice bB t382.length bC : Value).ownBlock ∧ some k_ ≠ (s_.1 : Value).ownBlock) v368 t367) ∧ (Kd.R k37 37 w' w.heap.size (fun k_ => some k_ ≠ (v368 : Value).ownBlock ∧ some k_ ≠ (.slice bB t382.length bC : Value).ownBlock ∧ some k_ ≠ (s_.1 : Value).ownBlock) (.slice bG t375.length bF) t375) ∧ (Kd.R k37 37 w' w.heap.size (fun k_ => some k_ ≠ (v368 : Value).ownBlock ∧ some k_ ≠ (.slice bG t375.length bF : Value).ownBlock ∧ some k_ ≠ (s_.1 : Value).ownBlock) (.slice bB t382.length bC) t382) ∧ (Kd.R k37 37 w' w.heap.size (fun k_ => some k_ ≠ (v368 : Value).ownBlock ∧ some k_ ≠ (.slice bG t375.length bF : Value).ownBlock ∧ some k_ ≠ (.slice bB t382.length bC : Value).ownBlock) s_.1 t391) ∧ (w'.heap[aT]? = some (.cells #[.int .i64 a0_0, .int .i64 a0_1, .slice A0_2 l0_2.length c0_2] 26 (0, 0))) ∧ (w'.heap[aZ]? = some (.cells #[.int .i64 a1_0, .int .i64 a1_1, .int .i64 a1_2] 28 (0, 0))) ∧ (w'.heap[aP]? = some (.cells #[.int .i64 t373, .int .i64 t374, .slice bG t375.length bF] 33 (0, 0))) ∧ (w'.heap[aX]? = some (.cells #[.int .i64 t380, .int .i64 t381, .slice bB t382.length bC] 33 (0, 0))) ∧ (w'.heap[s_.2]? = some (.cells #[.int .i64 0, .int .i64 0, .slice none 0 0] 33 (0, 0))) ∧ (w.heap.size ≤ s_.2) ∧ (w.heap.size ≤ s_.2) ∧ (aT ≠ s_.2) ∧ (s_.2 ≠ aT) ∧ (aZ ≠ s_.2) ∧ (s_.2 ≠ aZ) ∧ (aP ≠ s_.2) ∧ (s_.2 ≠ aP) ∧ (aX ≠ s_.2) ∧ (s_.2 ≠ aX) ∧ (Below w.heap.size w w')) ?_ ?_
    rotate_left
    · intro hCont
      refine two_ (i := 2) (j := 7) (Ni := some 34) (Nj := some 9) #[true, true, true, false, false, false, false, false, false, false] #[true, true, false, false, false, false, false, true, false, false] rfl rfl rfl rfl (two_of HT_.out (by kernel_rfl)) (by decide) (by decide) (fun K hK => ?_) (fun K hK => ?_)
      · skip
        refine goes_ Try.func9 (by kernel_rfl) rfl #[.agg #[.int .i64 a1_0, .int .i64 a1_1, .int .i64 a1_2]] (by rfl) rfl rfl (by (try simp only [List.map_toArray, List.map_cons, List.map_nil]); first | done | rfl | (simp only [List.length_drop, List.length_take]; rfl)) ?_
        with_reducible refine (laws_toClue.calls a1_0 a1_1 a1_2 t386 t387 t388 _ A14.out).mono ?_
        rintro e w44 ⟨rfl, hb⟩
        refine ⟨_, rfl, ?_⟩
        have aE := aM (Kd.R_below aU.out hb)
        have aF := aM (Kd.R_below bE.out hb)
        have aG := aM (Kd.R_below bK.out hb)
        have aH := aM (blk_below aA.out hb)
        have aI := aM (blk_below aB.out hb)
        have aK := aM (blk_below aC.out hb)
        have aL := aM (blk_below aD.out hb)
        have aN := aM (bp_ HB.out hb)
        clear aU bE bK aA aB aC aD HB
        have aU := aE
        have bE := aF
        have bK := aG
        have aA := aH
        have aB := aI
        have aC := aK
        have aD := aL
        have HB := aN
        clear aE aF aG aH aI aK aL aN
        (try clear hb)
        (try clear hb2)
        (try clear hk)
        (try clear hi)
        refine hK.out _ _ ⟨(blk_cell aD.out 0).trans rfl, (blk_cell aD.out 1).trans rfl, (blk_cell aD.out 2).trans rfl, (blk_cell aB.out 0).trans rfl, (blk_cell aB.out 1).trans rfl, (blk_cell aB.out 2).trans rfl⟩ (fun bA => ?_)
        clear hK K
        refine norm_ (a' := ?_) ?_ ?_
        rotate_left
        · show Act.put _ (some 34) _ = _
          simp only [Act.put, List.setIfInBounds_toArray, List.set_cons_zero, List.set_cons_succ, i64_w, i32_w]
          rfl
        refine two_ (i := 3) (j := 7) (Ni := some 35) (Nj := some 9) #[true, true, true, true, false, false, false, false, false, false] #[true, true, true, false, false, false, false, true, false, false] rfl rfl rfl rfl (two_of HT_.out (by kernel_rfl)) (by decide) (by decide) (fun K hK => ?_) (fun K hK => ?_)
        · skip
          refine goes_ Try.func10 (by kernel_rfl) rfl #[.agg #[.int .i64 t380, .int .i64 t381, .slice bB t382.length bC], .agg #[.int .i64 t386, .int .i64 t387, .int .i64 t388]] (by rfl) rfl rfl (by (try simp only [List.map_toArray, List.map_cons, List.map_nil]); first | done | rfl | (simp only [List.length_drop, List.length_take]; rfl)) ?_
          with_reducible refine (impl_AddClue.calls t380 t381 _ _ t382 t386 t387 t388 t389 t390 t391 t394 _ ?side1 ?side2 A15.out).mono ?_
          (case side1 => repeat (first | exact (Kd.R_reads' bK.out).2.2 | (with_reducible refine Kd.C_alloc ?_ _) | (with_reducible refine Kd.C_drewN ?_ _) | (with_reducible refine Kd.C_drew ?_)))
          (case side2 => exact (Kd.R_reads' bK.out).2.1)
          rintro e w45 ⟨v392, rfl, ho0, hb⟩
          refine ⟨_, rfl, ?_⟩
          have aE := aM (Kd.R_elder' aU.out (Kd.R_base ho0) hb)
          have aF := aM (Kd.R_elder' bE.out (Kd.R_base ho0) hb)
          have aG := aM (Kd.R_elder' bK.out (Kd.R_base ho0) hb)
          have aH := aM (Kd.R_lower (Kd.R_new' (Kd.R_new' (Kd.R_new' ho0 (Kd.R_lt aU.out)) (Kd.R_lt bE.out)) (Kd.R_lt bK.out)) (below_size HB.out))
          have aI := aM (blk_below aA.out hb)
          have aK := aM (blk_below aB.out hb)
          have aL := aM (blk_below aC.out hb)
          have aN := aM (blk_below aD.out hb)
          have aR := aM (bp_ HB.out hb)
          clear aU bE bK aA aB aC aD HB
          have aU := aE
          have bE := aF
          have bK := aG
          have cI := aH
          have aA := aI
          have aB := aK
          have aC := aL
          have aD := aN
          have HB := aR
          clear aE aF aG aH aI aK aL aN aR
          (try clear hb)
          (try clear hb2)
          (try clear hk)
          (try clear hi)
          (try clear ho0)
          refine hK.out _ _ ⟨(blk_cell aD.out 0).trans rfl, (blk_cell aD.out 1).trans rfl, (blk_cell aD.out 2).trans rfl, (blk_cell aB.out 0).trans rfl, (blk_cell aB.out 1).trans rfl, (blk_cell aB.out 2).trans rfl⟩ (fun bA => ?_)
          clear hK K
          refine norm_ (a' := ?_) ?_ ?_
          rotate_left
          · show Act.put _ (some 35) _ = _
            simp only [Act.put, List.setIfInBounds_toArray, List.set_cons_zero, List.set_cons_succ, i64_w, i32_w]
            rfl
          refine pure_ (i := 4) (N := some 31) (v := ?_) (a' := ?_) #[true, true, true, true, true, false, false, false, false, false] rfl rfl (any_of HT_.out (by kernel_rfl)) (fun _ _ _ h => h) (Or.inl ⟨by rfl, ?_⟩) ?_ ?_
          rotate_left
          · intro w'
            go_simp
            with_reducible rfl
          rotate_left
          · simp only [Act.put, List.setIfInBounds_toArray, List.set_cons_zero, List.set_cons_succ, i64_w, i32_w]
            rfl
          refine pure_ (i := 5) (N := some 36) (v := ?_) (a' := ?_) #[true, true, true, true, true, true, false, false, false, false] rfl rfl (any_of HT_.out (by kernel_rfl)) (fun _ _ _ h => h) (Or.inl ⟨by rfl, ?_⟩) ?_ ?_
          rotate_left
          · intro w'
            go_simp
            with_reducible rfl
          rotate_left
          · simp only [Act.put, List.setIfInBounds_toArray, List.set_cons_zero, List.set_cons_succ, i64_w, i32_w]
            rfl
          refine pure_ (i := 6) (N := some 37) (v := ?_) (a' := ?_) #[true, true, true, true, true, true, true, false, false, false] rfl rfl (any_of HT_.out (by kernel_rfl)) (fun _ _ _ h => h) (Or.inl ⟨by rfl, ?_⟩) ?_ ?_
          rotate_left
          · intro w'
            go_simp
            with_reducible rfl
          rotate_left
          · simp only [Act.put, List.setIfInBounds_toArray, List.set_cons_zero, List.set_cons_succ, i64_w, i32_w]
            rfl
          refine one_ (i := 7) (N := some 9) #[true, true, true, true, true, true, true, true, false, false] rfl rfl (one_of HT_.out (by kernel_rfl)) (by decide) (fun K hK => ?_)
          refine box_step ?hg (N := 9) ?hd (cs := #[.int .i64 0, .int .i64 0, .slice none 0 0]) (t := 33) ?hr ?_; (case hd => rfl); (case hg => rfl); (case hr => first | (go_simp; done) | (go_simp; rfl))
          intro aO hg w46 hbox hb
          have aE := aM (Kd.R_below aU.out hb)
          have aF := aM (Kd.R_below bE.out hb)
          have aG := aM (Kd.R_below bK.out hb)
          have aH := aM (Kd.R_below cI.out hb)
          have aI := aM (blk_below aA.out hb)
          have aK := aM (blk_below aB.out hb)
          have aL := aM (blk_below aC.out hb)
          have aN := aM (blk_below aD.out hb)
          have aR := aM (bp_ HB.out hb)
          have aW := aM (hbox)
          have bD := aM ((by rw [hg]; exact (below_size HB.out) : w.heap.size ≤ aO))
          have bM := aM ((by rw [hg]; exact (below_size HB.out) : w.heap.size ≤ aO))
          have bN := aM ((by rw [hg]; exact Nat.ne_of_lt (blk_lt aA.out) : aT ≠ aO))
          have bO := aM ((by rw [hg]; exact Nat.ne_of_gt (blk_lt aA.out) : aO ≠ aT))
          have bP := aM ((by rw [hg]; exact Nat.ne_of_lt (blk_lt aB.out) : aZ ≠ aO))
          have bQ := aM ((by rw [hg]; exact Nat.ne_of_gt (blk_lt aB.out) : aO ≠ aZ))
          have bW := aM ((by rw [hg]; exact Nat.ne_of_lt (blk_lt aC.out) : aP ≠ aO))
          have bX := aM ((by rw [hg]; exact Nat.ne_of_gt (blk_lt aC.out) : aO ≠ aP))
          have bY := aM ((by rw [hg]; exact Nat.ne_of_lt (blk_lt aD.out) : aX ≠ aO))
          have cD := aM ((by rw [hg]; exact Nat.ne_of_gt (blk_lt aD.out) : aO ≠ aX))
          clear aU bE bK cI aA aB aC aD HB
          have aU := aE
          have bE := aF
          have bK := aG
          have cI := aH
          have aA := aI
          have aB := aK
          have aC := aL
          have aD := aN
          have HB := aR
          have aJ := aW
          have dT := bD
          have cF := bM
          have cJ := bN
          have cU := bO
          have bZ := bP
          have cV := bQ
          have cG := bW
          have cQ := bX
          have bV := bY
          have cR := cD
          clear aE aF aG aH aI aK aL aN aR aW bD bM bN bO bP bQ bW bX bY cD hb hbox hg
          refine hK.out _ _ ⟨(blk_cell aD.out 0).trans rfl, (blk_cell aD.out 1).trans rfl, (blk_cell aD.out 2).trans rfl, (blk_cell aB.out 0).trans rfl, (blk_cell aB.out 1).trans rfl, (blk_cell aB.out 2).trans rfl⟩ (fun bA => ?_)
          clear hK K
          refine norm_ (a' := ?_) ?_ ?_
          rotate_left
          · show Act.put _ (some 9) _ = _
            simp only [Act.put, List.setIfInBounds_toArray, List.set_cons_zero, List.set_cons_succ, i64_w, i32_w]
            rfl
          exact norm_ (by simp only [putAll, Act.put, List.setIfInBounds_toArray, List.set_cons_zero, List.set_cons_succ]) (hCont (v392, aO) _ ⟨bA, (by (with_reducible repeat (first | apply Kd.R_alloc | apply Kd.R_drewN | apply Kd.R_drew)); exact Kd.R_mono aU.out (fun _ hk => ⟨hk.1.1, ⟨hk.1.2, hk.2⟩⟩)), (by (with_reducible repeat (first | apply Kd.R_alloc | apply Kd.R_drewN | apply Kd.R_drew)); exact Kd.R_mono bE.out (fun _ hk => ⟨hk.1.1, ⟨hk.1.2, hk.2⟩⟩)), (by (with_reducible repeat (first | apply Kd.R_alloc | apply Kd.R_drewN | apply Kd.R_drew)); exact Kd.R_mono bK.out (fun _ hk => ⟨hk.1.1, ⟨hk.1.2, hk.2⟩⟩)), (by (with_reducible repeat (first | apply Kd.R_alloc | apply Kd.R_drewN | apply Kd.R_drew)); exact Kd.R_mono cI.out (fun _ hk => ⟨hk.1.1.2, ⟨hk.1.2, hk.2⟩⟩)), aA.out, aB.out, aC.out, aD.out, aJ.out, dT.out, cF.out, cJ.out, cU.out, bZ.out, cV.out, cG.out, cQ.out, bV.out, cR.out, HB.out⟩)
        · skip
          refine box_step ?hg (N := 9) ?hd (cs := #[.int .i64 0, .int .i64 0, .slice none 0 0]) (t := 33) ?hr ?_; (case hd => rfl); (case hg => rfl); (case hr => first | (go_simp; done) | (go_simp; rfl))
          intro aO hg w45 hbox hb
          have aE := aM (Kd.R_below aU.out hb)
          have aF := aM (Kd.R_below bE.out hb)
          have aG := aM (Kd.R_below bK.out hb)
          have aH := aM (blk_below aA.out hb)
          have aI := aM (blk_below aB.out hb)
          have aK := aM (blk_below aC.out hb)
          have aL := aM (blk_below aD.out hb)
          have aN := aM (bp_ HB.out hb)
          have aR := aM (hbox)
          have aW := aM ((by rw [hg]; exact (below_size HB.out) : w.heap.size ≤ aO))
          have bD := aM ((by rw [hg]; exact (below_size HB.out) : w.heap.size ≤ aO))
          have bM := aM ((by rw [hg]; exact Nat.ne_of_lt (blk_lt aA.out) : aT ≠ aO))
          have bN := aM ((by rw [hg]; exact Nat.ne_of_gt (blk_lt aA.out) : aO ≠ aT))
          have bO := aM ((by rw [hg]; exact Nat.ne_of_lt (blk_lt aB.out) : aZ ≠ aO))
          have bP := aM ((by rw [hg]; exact Nat.ne_of_gt (blk_lt aB.out) : aO ≠ aZ))
          have bQ := aM ((by rw [hg]; exact Nat.ne_of_lt (blk_lt aC.out) : aP ≠ aO))
          have bW := aM ((by rw [hg]; exact Nat.ne_of_gt (blk_lt aC.out) : aO ≠ aP))
          have bX := aM ((by rw [hg]; exact Nat.ne_of_lt (blk_lt aD.out) : aX ≠ aO))
          have bY := aM ((by rw [hg]; exact Nat.ne_of_gt (blk_lt aD.out) : aO ≠ aX))
          clear aU bE bK aA aB aC aD HB
          have aU := aE
          have bE := aF
          have bK := aG
          have aA := aH
          have aB := aI
          have aC := aK
          have aD := aL
          have HB := aN
          have aJ := aR
          have dT := aW
          have cF := bD
          have cJ := bM
          have cU := bN
          have bZ := bO
          have cV := bP
          have cG := bQ
          have cQ := bW
          have bV := bX
          have cR := bY
          clear aE aF aG aH aI aK aL aN aR aW bD bM bN bO bP bQ bW bX bY hb hbox hg
          refine hK.out _ _ ⟨(blk_cell aD.out 0).trans rfl, (blk_cell aD.out 1).trans rfl, (blk_cell aD.out 2).trans rfl, (blk_cell aB.out 0).trans rfl, (blk_cell aB.out 1).trans rfl, (blk_cell aB.out 2).trans rfl⟩ (fun bA => ?_)
          clear hK K
          refine norm_ (a' := ?_) ?_ ?_
          rotate_left
          · show Act.put _ (some 9) _ = _
            simp only [Act.put, List.setIfInBounds_toArray, List.set_cons_zero, List.set_cons_succ, i64_w, i32_w]
            rfl
          refine one_ (i := 3) (N := some 35) #[true, true, true, true, false, false, false, true, false, false] rfl rfl (one_of HT_.out (by kernel_rfl)) (by decide) (fun K hK => ?_)
          refine goes_ Try.func10 (by kernel_rfl) rfl #[.agg #[.int .i64 t380, .int .i64 t381, .slice bB t382.length bC], .agg #[.int .i64 t386, .int .i64 t387, .int .i64 t388]] (by rfl) rfl rfl (by (try simp only [List.map_toArray, List.map_cons, List.map_nil]); first | done | rfl | (simp only [List.length_drop, List.length_take]; rfl)) ?_
          with_reducible refine (impl_AddClue.calls t380 t381 _ _ t382 t386 t387 t388 t389 t390 t391 t394 _ ?side1 ?side2 A15.out).mono ?_
          (case side1 => repeat (first | exact (Kd.R_reads' bK.out).2.2 | (with_reducible refine Kd.C_alloc ?_ _) | (with_reducible refine Kd.C_drewN ?_ _) | (with_reducible refine Kd.C_drew ?_)))
          (case side2 => exact (Kd.R_reads' bK.out).2.1)
          rintro e w46 ⟨v392, rfl, ho0, hb⟩
          refine ⟨_, rfl, ?_⟩
          have aE := aM (Kd.R_elder' aU.out (Kd.R_base ho0) hb)
          have aF := aM (Kd.R_elder' bE.out (Kd.R_base ho0) hb)
          have aG := aM (Kd.R_elder' bK.out (Kd.R_base ho0) hb)
          have aH := aM (Kd.R_lower (Kd.R_new' (Kd.R_new' (Kd.R_new' ho0 (Kd.R_lt aU.out)) (Kd.R_lt bE.out)) (Kd.R_lt bK.out)) (below_size HB.out))
          have aI := aM (blk_below aA.out hb)
          have aK := aM (blk_below aB.out hb)
          have aL := aM (blk_below aC.out hb)
          have aN := aM (blk_below aD.out hb)
          have aR := aM (blk_below aJ.out hb)
          have aW := aM (bp_ HB.out hb)
          clear aU bE bK aA aB aC aD aJ HB
          have aU := aE
          have bE := aF
          have bK := aG
          have cI := aH
          have aA := aI
          have aB := aK
          have aC := aL
          have aD := aN
          have aJ := aR
          have HB := aW
          clear aE aF aG aH aI aK aL aN aR aW
          (try clear hb)
          (try clear hb2)
          (try clear hk)
          (try clear hi)
          (try clear ho0)
          refine hK.out _ _ ⟨(blk_cell aD.out 0).trans rfl, (blk_cell aD.out 1).trans rfl, (blk_cell aD.out 2).trans rfl, (blk_cell aB.out 0).trans rfl, (blk_cell aB.out 1).trans rfl, (blk_cell aB.out 2).trans rfl⟩ (fun bA => ?_)
          clear hK K
          refine norm_ (a' := ?_) ?_ ?_
          rotate_left
          · show Act.put _ (some 35) _ = _
            simp only [Act.put, List.setIfInBounds_toArray, List.set_cons_zero, List.set_cons_succ, i64_w, i32_w]
            rfl
          refine pure_ (i := 4) (N := some 31) (v := ?_) (a' := ?_) #[true, true, true, true, true, false, false, true, false, false] rfl rfl (any_of HT_.out (by kernel_rfl)) (fun _ _ _ h => h) (Or.inl ⟨by rfl, ?_⟩) ?_ ?_
          rotate_left
          · intro w'
            go_simp
            with_reducible rfl
          rotate_left
          · simp only [Act.put, List.setIfInBounds_toArray, List.set_cons_zero, List.set_cons_succ, i64_w, i32_w]
            rfl
          refine pure_ (i := 5) (N := some 36) (v := ?_) (a' := ?_) #[true, true, true, true, true, true, false, true, false, false] rfl rfl (any_of HT_.out (by kernel_rfl)) (fun _ _ _ h => h) (Or.inl ⟨by rfl, ?_⟩) ?_ ?_
          rotate_left
          · intro w'
            go_simp
            with_reducible rfl
          rotate_left
          · simp only [Act.put, List.setIfInBounds_toArray, List.set_cons_zero, List.set_cons_succ, i64_w, i32_w]
            rfl
          refine pure_ (i := 6) (N := some 37) (v := ?_) (a' := ?_) #[true, true, true, true, true, true, true, true, false, false] rfl rfl (any_of HT_.out (by kernel_rfl)) (fun _ _ _ h => h) (Or.inl ⟨by rfl, ?_⟩) ?_ ?_
          rotate_left
          · intro w'
            go_simp
            with_reducible rfl
          rotate_left
          · simp only [Act.put, List.setIfInBounds_toArray, List.set_cons_zero, List.set_cons_succ, i64_w, i32_w]
            rfl
          exact norm_ (by simp only [putAll, Act.put, List.setIfInBounds_toArray, List.set_cons_zero, List.set_cons_succ]) (hCont (v392, aO) _ ⟨bA, (by (with_reducible repeat (first | apply Kd.R_alloc | apply Kd.R_drewN | apply Kd.R_drew)); exact Kd.R_mono aU.out (fun _ hk => ⟨hk.1.1, ⟨hk.1.2, hk.2⟩⟩)), (by (with_reducible repeat (first | apply Kd.R_alloc | apply Kd.R_drewN | apply Kd.R_drew)); exact Kd.R_mono bE.out (fun _ hk => ⟨hk.1.1, ⟨hk.1.2, hk.2⟩⟩)), (by (with_reducible repeat (first | apply Kd.R_alloc | apply Kd.R_drewN | apply Kd.R_drew)); exact Kd.R_mono bK.out (fun _ hk => ⟨hk.1.1, ⟨hk.1.2, hk.2⟩⟩)), (by (with_reducible repeat (first | apply Kd.R_alloc | apply Kd.R_drewN | apply Kd.R_drew)); exact Kd.R_mono cI.out (fun _ hk => ⟨hk.1.1.2, ⟨hk.1.2, hk.2⟩⟩)), aA.out, aB.out, aC.out, aD.out, aJ.out, dT.out, cF.out, cJ.out, cU.out, bZ.out, cV.out, cG.out, cQ.out, bV.out, cR.out, HB.out⟩)
      · skip
        refine box_step ?hg (N := 9) ?hd (cs := #[.int .i64 0, .int .i64 0, .slice none 0 0]) (t := 33) ?hr ?_; (case hd => rfl); (case hg => rfl); (case hr => first | (go_simp; done) | (go_simp; rfl))
        intro aO hg w44 hbox hb
        have aE := aM (Kd.R_below aU.out hb)
        have aF := aM (Kd.R_below bE.out hb)
        have aG := aM (Kd.R_below bK.out hb)
        have aH := aM (blk_below aA.out hb)
        have aI := aM (blk_below aB.out hb)
        have aK := aM (blk_below aC.out hb)
        have aL := aM (blk_below aD.out hb)
        have aN := aM (bp_ HB.out hb)
        have aR := aM (hbox)
        have aW := aM ((by rw [hg]; exact (below_size HB.out) : w.heap.size ≤ aO))
        have bD := aM ((by rw [hg]; exact (below_size HB.out) : w.heap.size ≤ aO))
        have bM := aM ((by rw [hg]; exact Nat.ne_of_lt (blk_lt aA.out) : aT ≠ aO))
        have bN := aM ((by rw [hg]; exact Nat.ne_of_gt (blk_lt aA.out) : aO ≠ aT))
        have bO := aM ((by rw [hg]; exact Nat.ne_of_lt (blk_lt aB.out) : aZ ≠ aO))
        have bP := aM ((by rw [hg]; exact Nat.ne_of_gt (blk_lt aB.out) : aO ≠ aZ))
        have bQ := aM ((by rw [hg]; exact Nat.ne_of_lt (blk_lt aC.out) : aP ≠ aO))
        have bW := aM ((by rw [hg]; exact Nat.ne_of_gt (blk_lt aC.out) : aO ≠ aP))
        have bX := aM ((by rw [hg]; exact Nat.ne_of_lt (blk_lt aD.out) : aX ≠ aO))
        have bY := aM ((by rw [hg]; exact Nat.ne_of_gt (blk_lt aD.out) : aO ≠ aX))
        clear aU bE bK aA aB aC aD HB
        have aU := aE
        have bE := aF
        have bK := aG
        have aA := aH
        have aB := aI
        have aC := aK
        have aD := aL
        have HB := aN
        have aJ := aR
        have dT := aW
        have cF := bD
        have cJ := bM
        have cU := bN
        have bZ := bO
        have cV := bP
        have cG := bQ
        have cQ := bW
        have bV := bX
        have cR := bY
        clear aE aF aG aH aI aK aL aN aR aW bD bM bN bO bP bQ bW bX bY hb hbox hg
        refine hK.out _ _ ⟨(blk_cell aD.out 0).trans rfl, (blk_cell aD.out 1).trans rfl, (blk_cell aD.out 2).trans rfl, (blk_cell aB.out 0).trans rfl, (blk_cell aB.out 1).trans rfl, (blk_cell aB.out 2).trans rfl⟩ (fun bA => ?_)
        clear hK K
        refine norm_ (a' := ?_) ?_ ?_
        rotate_left
        · show Act.put _ (some 9) _ = _
          simp only [Act.put, List.setIfInBounds_toArray, List.set_cons_zero, List.set_cons_succ, i64_w, i32_w]
          rfl
        refine one_ (i := 2) (N := some 34) #[true, true, true, false, false, false, false, true, false, false] rfl rfl (one_of HT_.out (by kernel_rfl)) (by decide) (fun K hK => ?_)
        refine goes_ Try.func9 (by kernel_rfl) rfl #[.agg #[.int .i64 a1_0, .int .i64 a1_1, .int .i64 a1_2]] (by rfl) rfl rfl (by (try simp only [List.map_toArray, List.map_cons, List.map_nil]); first | done | rfl | (simp only [List.length_drop, List.length_take]; rfl)) ?_
        with_reducible refine (laws_toClue.calls a1_0 a1_1 a1_2 t386 t387 t388 _ A14.out).mono ?_
        rintro e w45 ⟨rfl, hb⟩
        refine ⟨_, rfl, ?_⟩
        have aE := aM (Kd.R_below aU.out hb)
        have aF := aM (Kd.R_below bE.out hb)
        have aG := aM (Kd.R_below bK.out hb)
        have aH := aM (blk_below aA.out hb)
        have aI := aM (blk_below aB.out hb)
        have aK := aM (blk_below aC.out hb)
        have aL := aM (blk_below aD.out hb)
        have aN := aM (blk_below aJ.out hb)
        have aR := aM (bp_ HB.out hb)
        clear aU bE bK aA aB aC aD aJ HB
        have aU := aE
        have bE := aF
        have bK := aG
        have aA := aH
        have aB := aI
        have aC := aK
        have aD := aL
        have aJ := aN
        have HB := aR
        clear aE aF aG aH aI aK aL aN aR
        (try clear hb)
        (try clear hb2)
        (try clear hk)
        (try clear hi)
        refine hK.out _ _ ⟨(blk_cell aD.out 0).trans rfl, (blk_cell aD.out 1).trans rfl, (blk_cell aD.out 2).trans rfl, (blk_cell aB.out 0).trans rfl, (blk_cell aB.out 1).trans rfl, (blk_cell aB.out 2).trans rfl⟩ (fun bA => ?_)
        clear hK K
        refine norm_ (a' := ?_) ?_ ?_
        rotate_left
        · show Act.put _ (some 34) _ = _
          simp only [Act.put, List.setIfInBounds_toArray, List.set_cons_zero, List.set_cons_succ, i64_w, i32_w]
          rfl
        refine one_ (i := 3) (N := some 35) #[true, true, true, true, false, false, false, true, false, false] rfl rfl (one_of HT_.out (by kernel_rfl)) (by decide) (fun K hK => ?_)
        refine goes_ Try.func10 (by kernel_rfl) rfl #[.agg #[.int .i64 t380, .int .i64 t381, .slice bB t382.length bC], .agg #[.int .i64 t386, .int .i64 t387, .int .i64 t388]] (by rfl) rfl rfl (by (try simp only [List.map_toArray, List.map_cons, List.map_nil]); first | done | rfl | (simp only [List.length_drop, List.length_take]; rfl)) ?_
        with_reducible refine (impl_AddClue.calls t380 t381 _ _ t382 t386 t387 t388 t389 t390 t391 t394 _ ?side1 ?side2 A15.out).mono ?_
        (case side1 => repeat (first | exact (Kd.R_reads' bK.out).2.2 | (with_reducible refine Kd.C_alloc ?_ _) | (with_reducible refine Kd.C_drewN ?_ _) | (with_reducible refine Kd.C_drew ?_)))
        (case side2 => exact (Kd.R_reads' bK.out).2.1)
        rintro e w46 ⟨v392, rfl, ho0, hb⟩
        refine ⟨_, rfl, ?_⟩
        have aE := aM (Kd.R_elder' aU.out (Kd.R_base ho0) hb)
        have aF := aM (Kd.R_elder' bE.out (Kd.R_base ho0) hb)
        have aG := aM (Kd.R_elder' bK.out (Kd.R_base ho0) hb)
        have aH := aM (Kd.R_lower (Kd.R_new' (Kd.R_new' (Kd.R_new' ho0 (Kd.R_lt aU.out)) (Kd.R_lt bE.out)) (Kd.R_lt bK.out)) (below_size HB.out))
        have aI := aM (blk_below aA.out hb)
        have aK := aM (blk_below aB.out hb)
        have aL := aM (blk_below aC.out hb)
        have aN := aM (blk_below aD.out hb)
        have aR := aM (blk_below aJ.out hb)
        have aW := aM (bp_ HB.out hb)
        clear aU bE bK aA aB aC aD aJ HB
        have aU := aE
        have bE := aF
        have bK := aG
        have cI := aH
        have aA := aI
        have aB := aK
        have aC := aL
        have aD := aN
        have aJ := aR
        have HB := aW
        clear aE aF aG aH aI aK aL aN aR aW
        (try clear hb)
        (try clear hb2)
        (try clear hk)
        (try clear hi)
        (try clear ho0)
        refine hK.out _ _ ⟨(blk_cell aD.out 0).trans rfl, (blk_cell aD.out 1).trans rfl, (blk_cell aD.out 2).trans rfl, (blk_cell aB.out 0).trans rfl, (blk_cell aB.out 1).trans rfl, (blk_cell aB.out 2).trans rfl⟩ (fun bA => ?_)
        clear hK K
        refine norm_ (a' := ?_) ?_ ?_
        rotate_left
        · show Act.put _ (some 35) _ = _
          simp only [Act.put, List.setIfInBounds_toArray, List.set_cons_zero, List.set_cons_succ, i64_w, i32_w]
          rfl
        refine pure_ (i := 4) (N := some 31) (v := ?_) (a' := ?_) #[true, true, true, true, true, false, false, true, false, false] rfl rfl (any_of HT_.out (by kernel_rfl)) (fun _ _ _ h => h) (Or.inl ⟨by rfl, ?_⟩) ?_ ?_
        rotate_left
        · intro w'
          go_simp
          with_reducible rfl
        rotate_left
        · simp only [Act.put, List.setIfInBounds_toArray, List.set_cons_zero, List.set_cons_succ, i64_w, i32_w]
          rfl
        refine pure_ (i := 5) (N := some 36) (v := ?_) (a' := ?_) #[true, true, true, true, true, true, false, true, false, false] rfl rfl (any_of HT_.out (by kernel_rfl)) (fun _ _ _ h => h) (Or.inl ⟨by rfl, ?_⟩) ?_ ?_
        rotate_left
        · intro w'
          go_simp
          with_reducible rfl
        rotate_left
        · simp only [Act.put, List.setIfInBounds_toArray, List.set_cons_zero, List.set_cons_succ, i64_w, i32_w]
          rfl
        refine pure_ (i := 6) (N := some 37) (v := ?_) (a' := ?_) #[true, true, true, true, true, true, true, true, false, false] rfl rfl (any_of HT_.out (by kernel_rfl)) (fun _ _ _ h => h) (Or.inl ⟨by rfl, ?_⟩) ?_ ?_
        rotate_left
        · intro w'
          go_simp
          with_reducible rfl
        rotate_left
        · simp only [Act.put, List.setIfInBounds_toArray, List.set_cons_zero, List.set_cons_succ, i64_w, i32_w]
          rfl
        exact norm_ (by simp only [putAll, Act.put, List.setIfInBounds_toArray, List.set_cons_zero, List.set_cons_succ]) (hCont (v392, aO) _ ⟨bA, (by (with_reducible repeat (first | apply Kd.R_alloc | apply Kd.R_drewN | apply Kd.R_drew)); exact Kd.R_mono aU.out (fun _ hk => ⟨hk.1.1, ⟨hk.1.2, hk.2⟩⟩)), (by (with_reducible repeat (first | apply Kd.R_alloc | apply Kd.R_drewN | apply Kd.R_drew)); exact Kd.R_mono bE.out (fun _ hk => ⟨hk.1.1, ⟨hk.1.2, hk.2⟩⟩)), (by (with_reducible repeat (first | apply Kd.R_alloc | apply Kd.R_drewN | apply Kd.R_drew)); exact Kd.R_mono bK.out (fun _ hk => ⟨hk.1.1, ⟨hk.1.2, hk.2⟩⟩)), (by (with_reducible repeat (first | apply Kd.R_alloc | apply Kd.R_drewN | apply Kd.R_drew)); exact Kd.R_mono cI.out (fun _ hk => ⟨hk.1.1.2, ⟨hk.1.2, hk.2⟩⟩)), aA.out, aB.out, aC.out, aD.out, aJ.out, dT.out, cF.out, cJ.out, cU.out, bZ.out, cV.out, cG.out, cQ.out, bV.out, cR.out, HB.out⟩)
    rintro ⟨v392, aO⟩ w47 ⟨hS_, h0_, h1_, h2_, h3_, h4_, h5_, h6_, h7_, h8_, h9_, h10_, h11_, h12_, h13_, h14_, h15_, h16_, h17_, h18_, h19_⟩
    have aE : Aside0 (Kd.R k37 37 w47 w.heap.size (fun k_ => some k_ ≠ (.slice bG t375.length bF : Value).ownBlock ∧ some k_ ≠ (.slice bB t382.length bC : Value).ownBlock ∧ some k_ ≠ (v392 : Value).ownBlock) v368 t367) := ⟨h0_⟩
    have aF : Aside0 (Kd.R k37 37 w47 w.heap.size (fun k_ => some k_ ≠ (v368 : Value).ownBlock ∧ some k_ ≠ (.slice bB t382.length bC : Value).ownBlock ∧ some k_ ≠ (v392 : Value).ownBlock) (.slice bG t375.length bF) t375) := ⟨h1_⟩
    have aG : Aside0 (Kd.R k37 37 w47 w.heap.size (fun k_ => some k_ ≠ (v368 : Value).ownBlock ∧ some k_ ≠ (.slice bG t375.length bF : Value).ownBlock ∧ some k_ ≠ (v392 : Value).ownBlock) (.slice bB t382.length bC) t382) := ⟨h2_⟩
    have aH : Aside0 (Kd.R k37 37 w47 w.heap.size (fun k_ => some k_ ≠ (v368 : Value).ownBlock ∧ some k_ ≠ (.slice bG t375.length bF : Value).ownBlock ∧ some k_ ≠ (.slice bB t382.length bC : Value).ownBlock) v392 t391) := ⟨h3_⟩
    have aI : Aside0 (w47.heap[aT]? = some (.cells #[.int .i64 a0_0, .int .i64 a0_1, .slice A0_2 l0_2.length c0_2] 26 (0, 0))) := ⟨h4_⟩
    have aK : Aside0 (w47.heap[aZ]? = some (.cells #[.int .i64 a1_0, .int .i64 a1_1, .int .i64 a1_2] 28 (0, 0))) := ⟨h5_⟩
    have aL : Aside0 (w47.heap[aP]? = some (.cells #[.int .i64 t373, .int .i64 t374, .slice bG t375.length bF] 33 (0, 0))) := ⟨h6_⟩
    have aN : Aside0 (w47.heap[aX]? = some (.cells #[.int .i64 t380, .int .i64 t381, .slice bB t382.length bC] 33 (0, 0))) := ⟨h7_⟩
    have aR : Aside0 (w47.heap[aO]? = some (.cells #[.int .i64 0, .int .i64 0, .slice none 0 0] 33 (0, 0))) := ⟨h8_⟩
    have aW : Aside0 (w.heap.size ≤ aO) := ⟨h9_⟩
    have bD : Aside0 (w.heap.size ≤ aO) := ⟨h10_⟩
    have bM : Aside0 (aT ≠ aO) := ⟨h11_⟩
    have bN : Aside0 (aO ≠ aT) := ⟨h12_⟩
    have bO : Aside0 (aZ ≠ aO) := ⟨h13_⟩
    have bP : Aside0 (aO ≠ aZ) := ⟨h14_⟩
    have bQ : Aside0 (aP ≠ aO) := ⟨h15_⟩
    have bW : Aside0 (aO ≠ aP) := ⟨h16_⟩
    have bX : Aside0 (aX ≠ aO) := ⟨h17_⟩
    have bY : Aside0 (aO ≠ aX) := ⟨h18_⟩
    have cD : Aside0 (Below w.heap.size w w47) := ⟨h19_⟩
    clear aU bE bK aA aB aC aD HB h0_ h1_ h2_ h3_ h4_ h5_ h6_ h7_ h8_ h9_ h10_ h11_ h12_ h13_ h14_ h15_ h16_ h17_ h18_ h19_
    have aU := aE
    have bE := aF
    have bK := aG
    have cI := aH
    have aA := aI
    have aB := aK
    have aC := aL
    have aD := aN
    have aJ := aR
    have dT := aW
    have cF := bD
    have cJ := bM
    have cU := bN
    have bZ := bO
    have cV := bP
    have cG := bQ
    have cQ := bW
    have bV := bX
    have cR := bY
    have HB := cD
    clear aE aF aG aH aI aK aL aN aR aW bD bM bN bO bP bQ bW bX bY cD
    have bA : w47.cell? ⟨aX, 0, none⟩ = some (.int .i64 t380) ∧ w47.cell? ⟨aX, 1, none⟩ = some (.int .i64 t381) ∧ w47.cell? ⟨aX, 2, none⟩ = some (.slice bB t382.length bC) ∧ w47.cell? ⟨aZ, 0, none⟩ = some (.int .i64 a1_0) ∧ w47.cell? ⟨aZ, 1, none⟩ = some (.int .i64 a1_1) ∧ w47.cell? ⟨aZ, 2, none⟩ = some (.int .i64 a1_2) := hS_
    obtain ⟨bL, bI, eR⟩ := Kd.R_slice cI.out
    (first | subst eR | (injection eR with f1_ f2_ f3_; have f4_ := f1_.symm; have f5_ := f3_.symm; clear f1_ f2_ f3_; subst f4_; subst f5_))
    refine norm_ (a' := ?_) ?_ ?_
    rotate_left
    · simp only [putAll, Act.put, List.setIfInBounds_toArray, List.set_cons_zero, List.set_cons_succ]
      rfl
    refine one_ (i := 8) (N := none) #[true, true, true, true, true, true, true, true, true, false] rfl rfl (one_of HT_.out (by kernel_rfl)) (by decide) (fun K hK => ?_)
    have jG : w47.cell? ⟨aO, 0, none⟩ = some (.int .i64 0) := (blk_cell aJ.out 0).trans rfl
    have jH := blk_frozen aJ.out 0
    have jI := cJ.out
    have jJ := bZ.out
    have jK := cG.out
    have jL := bV.out
    have jM := cU.out
    have jN := cV.out
    have jO := cQ.out
    have jP := cR.out
    have jQ : w47.cell? ⟨aO, 1, none⟩ = some (.int .i64 0) := (blk_cell aJ.out 1).trans rfl
    have jR := blk_frozen aJ.out 1
    have jS := cJ.out
    have jT := bZ.out
    have jU := cG.out
    have jV := bV.out
    have jW := cU.out
    have jX := cV.out
    have jY := cQ.out
    have jZ := cR.out
    have kA : w47.cell? ⟨aO, 2, none⟩ = some (.slice none 0 0) := (blk_cell aJ.out 2).trans rfl
    have kB := blk_frozen aJ.out 2
    have kC := cJ.out
    have kD := bZ.out
    have kE := cG.out
    have kF := bV.out
    have kG := cU.out
    have kH := cV.out
    have kI := cQ.out
    have kJ := cR.out
    refine skip_ (w1 := ?_) (by rfl) rfl ?_ ?_
    rotate_left
    · go_simp
      rfl
    refine hK.out _ _ ⟨((cell_far (p := ⟨aO, _, none⟩) bV.out _).trans (((cell_far (p := ⟨aO, _, none⟩) bV.out _).trans (((cell_far (p := ⟨aO, _, none⟩) bV.out _).trans (bA.1)))))), ((cell_far (p := ⟨aO, _, none⟩) bV.out _).trans (((cell_far (p := ⟨aO, _, none⟩) bV.out _).trans (((cell_far (p := ⟨aO, _, none⟩) bV.out _).trans (bA.2.1)))))), ((cell_far (p := ⟨aO, _, none⟩) bV.out _).trans (((cell_far (p := ⟨aO, _, none⟩) bV.out _).trans (((cell_far (p := ⟨aO, _, none⟩) bV.out _).trans (bA.2.2.1)))))), ((cell_far (p := ⟨aO, _, none⟩) bZ.out _).trans (((cell_far (p := ⟨aO, _, none⟩) bZ.out _).trans (((cell_far (p := ⟨aO, _, none⟩) bZ.out _).trans (bA.2.2.2.1)))))), ((cell_far (p := ⟨aO, _, none⟩) bZ.out _).trans (((cell_far (p := ⟨aO, _, none⟩) bZ.out _).trans (((cell_far (p := ⟨aO, _, none⟩) bZ.out _).trans (bA.2.2.2.2.1)))))), ((cell_far (p := ⟨aO, _, none⟩) bZ.out _).trans (((cell_far (p := ⟨aO, _, none⟩) bZ.out _).trans (((cell_far (p := ⟨aO, _, none⟩) bZ.out _).trans (bA.2.2.2.2.2))))))⟩ (fun bA => ?_)
    clear hK K
    refine pure_ (i := 9) (N := some 10) (v := ?_) (a' := ?_) #[true, true, true, true, true, true, true, true, true, true] rfl rfl (any_of HT_.out (by kernel_rfl)) (fun _ _ _ h => h) (Or.inl ⟨by rfl, ?_⟩) ?_ ?_
    rotate_left
    · intro w'
      go_simp
      with_reducible rfl
    rotate_left
    · simp only [Act.put, List.setIfInBounds_toArray, List.set_cons_zero, List.set_cons_succ, i64_w, i32_w]
      rfl
    refine done_ (done_of HT_.out (by kernel_rfl)) ?_
    go_upto_region 8 with (fail)
    go_cut [46] (fun v46 wc => ∃ (kq : Nat) (x46_15 : Bool), v46 = .bool x46_15 ∧ Aside0 (laws_FnExactAddClue.j0 kq t378 t394 x46_15 a0_0 a0_1 l0_2 a1_0 a1_1 a1_2 t373 t374 t375 t380 t381 t382 t389 t390 t391 = some r) ∧ Aside0 (kq ≤ k) ∧ Aside0 (Kd.R k37 37 wc w.heap.size (fun k_ => some k_ ≠ ((.slice bB t382.length bC) : Value).ownBlock ∧ some k_ ≠ ((.slice bL t391.length bI) : Value).ownBlock) (.slice bG t375.length bF) t375) ∧ Aside0 (Kd.R k37 37 wc w.heap.size (fun k_ => some k_ ≠ ((.slice bG t375.length bF) : Value).ownBlock ∧ some k_ ≠ ((.slice bL t391.length bI) : Value).ownBlock) (.slice bB t382.length bC) t382) ∧ Aside0 (Kd.R k37 37 wc w.heap.size (fun k_ => some k_ ≠ ((.slice bG t375.length bF) : Value).ownBlock ∧ some k_ ≠ ((.slice bB t382.length bC) : Value).ownBlock) (.slice bL t391.length bI) t391) ∧ Aside0 (wc.heap[aT]? = some (.cells #[.int .i64 a0_0, .int .i64 a0_1, (.slice A0_2 l0_2.length c0_2)] 26 (0, 0))) ∧ Aside0 (wc.heap[aZ]? = some (.cells #[.int .i64 a1_0, .int .i64 a1_1, .int .i64 a1_2] 28 (0, 0))) ∧ Aside0 (wc.heap[aP]? = some (.cells #[.int .i64 t373, .int .i64 t374, (.slice bG t375.length bF)] 33 (0, 0))) ∧ Aside0 (wc.heap[aX]? = some (.cells #[.int .i64 t380, .int .i64 t381, (.slice bB t382.length bC)] 33 (0, 0))) ∧ Aside0 (wc.heap[aO]? = some (.cells #[.int .i64 t389, .int .i64 t390, (.slice bL t391.length bI)] 33 (0, 0))) ∧ Aside0 (Below w.heap.size w wc))
    case first =>
      have H := eG.out
      clear eG
      replace H := Option.bind_eq_some_iff.mp H
      obtain ⟨t396, A520, H⟩ := H
      replace H : (if t396 = true then (laws_FnExactAddClue.j0 k t378 t394 (t394 != t378) a0_0 a0_1 l0_2 a1_0 a1_1 a1_2 t373 t374 t375 t380 t381 t382 t389 t390 t391) else (none)) = some r := H
      have A52 := aM A520
      clear A520
      by_cases c53 : t396 = true
      · subst c53
        have H1 : (laws_FnExactAddClue.j0 k t378 t394 (t394 != t378) a0_0 a0_1 l0_2 a1_0 a1_1 a1_2 t373 t374 t375 t380 t381 t382 t389 t390 t391) = some r := by rw [if_pos rfl] at H; exact H
        clear H
        have H := H1
        clear H1
        have H' := aM H
        clear H
        have kK := cU.out
        have kL := cJ.out
        have kM := cV.out
        have kN := bZ.out
        have kO := cQ.out
        have kP := cG.out
        have kQ := cR.out
        have kR := bV.out
        have eS : w47.cell? ⟨aO, 0, none⟩ = some (.int .i64 0) := (blk_cell aJ.out 0).trans rfl
        have eT : w47.cell? ⟨aO, 1, none⟩ = some (.int .i64 0) := (blk_cell aJ.out 1).trans rfl
        have eU : w47.cell? ⟨aO, 2, none⟩ = some (.slice none 0 0) := (blk_cell aJ.out 2).trans rfl
        have eV := blk_frozen aJ.out 0
        have eW := blk_frozen aJ.out 1
        have eX := blk_frozen aJ.out 2
        have kS := cM.out
        have kT := bS.out
        have kU := cP.out
        have kV := bU.out
        have kW := dK.out
        have kX := dW.out
        have eY : w47.cell? ⟨aP, 0, none⟩ = some (.int .i64 t373) := (blk_cell aC.out 0).trans rfl
        have eZ : w47.cell? ⟨aP, 1, none⟩ = some (.int .i64 t374) := (blk_cell aC.out 1).trans rfl
        have fA : w47.cell? ⟨aP, 2, none⟩ = some (.slice bG t375.length bF) := (blk_cell aC.out 2).trans rfl
        have fB := blk_frozen aC.out 0
        have fC := blk_frozen aC.out 1
        have fD := blk_frozen aC.out 2
        go_wp2_with (first | ((with_reducible refine gate_callee (f := 11) rfl ?_); refine goesL_ (some 40) rfl rfl Try.func11 (by kernel_rfl) rfl #[.agg #[.int .i64 t389, .int .i64 t390, .slice bL t391.length bI], .agg #[.int .i64 t373, .int .i64 t374, .slice bG t375.length bF]] rfl (by (try simp only [List.map_toArray, List.map_cons, List.map_nil]); first | done | rfl | (simp only [List.length_drop, List.length_take]; rfl)) ?_; (with_reducible refine (laws_eqPuzzle.calls k t389 t390 _ _ t391 t373 t374 _ _ t375 true _ ?side1 ?side2 ?side3 ?side4 A52.out).mono ?_); (case side1 => refine (Kd.R_reads' (e := 37) (base := w.heap.size) (ok := fun k_ => (some k_ ≠ (v368 : Value).ownBlock ∧ (some k_ ≠ (.slice bG t375.length bF : Value).ownBlock ∧ some k_ ≠ (.slice bB t382.length bC : Value).ownBlock))) (n := t391.length) (c := bI) ?_).2.2; exact (by (with_reducible repeat (first | apply Kd.R_alloc | apply Kd.R_drewN | apply Kd.R_drew)); exact (Kd.R_mono (Kd.R_far (p := ⟨aO, 2, none⟩) (Kd.R_far (p := ⟨aO, 1, none⟩) (Kd.R_far (p := ⟨aO, 0, none⟩) (Kd.R_types cI.out aJ.out (by decide)) (fun _ hk => hk.2) (.int .i64 t389)) (fun _ hk => hk.2) (.int .i64 t390)) (fun _ hk => hk.2) (.slice bL t391.length bI)) (fun _ h_ => h_.1)))); (case side2 => exact (Kd.R_reads' cI.out).2.1); (case side3 => refine (Kd.R_reads' (e := 37) (base := w.heap.size) (ok := fun k_ => (some k_ ≠ (v368 : Value).ownBlock ∧ (some k_ ≠ (.slice bB t382.length bC : Value).ownBlock ∧ some k_ ≠ (.slice bL t391.length bI : Value).ownBlock))) (n := t375.length) (c := bF) ?_).2.2; exact (by (with_reducible repeat (first | apply Kd.R_alloc | apply Kd.R_drewN | apply Kd.R_drew)); exact (Kd.R_mono (Kd.R_far (p := ⟨aO, 2, none⟩) (Kd.R_far (p := ⟨aO, 1, none⟩) (Kd.R_far (p := ⟨aO, 0, none⟩) (Kd.R_types bE.out aJ.out (by decide)) (fun _ hk => hk.2) (.int .i64 t389)) (fun _ hk => hk.2) (.int .i64 t390)) (fun _ hk => hk.2) (.slice bL t391.length bI)) (fun _ h_ => h_.1)))); (case side4 => exact (Kd.R_reads' bE.out).2.1); rintro e w63 ⟨rfl, hb⟩; refine ⟨_, rfl, ?_⟩; have aE := aM (Kd.R_below (by (with_reducible repeat (first | apply Kd.R_alloc | apply Kd.R_drewN | apply Kd.R_drew)); exact (Kd.R_mono (Kd.R_far (p := ⟨aO, 2, none⟩) (Kd.R_far (p := ⟨aO, 1, none⟩) (Kd.R_far (p := ⟨aO, 0, none⟩) (Kd.R_types aU.out aJ.out (by decide)) (fun _ hk => hk.2) (.int .i64 t389)) (fun _ hk => hk.2) (.int .i64 t390)) (fun _ hk => hk.2) (.slice bL t391.length bI)) (fun _ h_ => h_.1))) hb); have aF := aM (Kd.R_below (by (with_reducible repeat (first | apply Kd.R_alloc | apply Kd.R_drewN | apply Kd.R_drew)); exact (Kd.R_mono (Kd.R_far (p := ⟨aO, 2, none⟩) (Kd.R_far (p := ⟨aO, 1, none⟩) (Kd.R_far (p := ⟨aO, 0, none⟩) (Kd.R_types bE.out aJ.out (by decide)) (fun _ hk => hk.2) (.int .i64 t389)) (fun _ hk => hk.2) (.int .i64 t390)) (fun _ hk => hk.2) (.slice bL t391.length bI)) (fun _ h_ => h_.1))) hb); have aG := aM (Kd.R_below (by (with_reducible repeat (first | apply Kd.R_alloc | apply Kd.R_drewN | apply Kd.R_drew)); exact (Kd.R_mono (Kd.R_far (p := ⟨aO, 2, none⟩) (Kd.R_far (p := ⟨aO, 1, none⟩) (Kd.R_far (p := ⟨aO, 0, none⟩) (Kd.R_types bK.out aJ.out (by decide)) (fun _ hk => hk.2) (.int .i64 t389)) (fun _ hk => hk.2) (.int .i64 t390)) (fun _ hk => hk.2) (.slice bL t391.length bI)) (fun _ h_ => h_.1))) hb); have aH := aM (Kd.R_below (by (with_reducible repeat (first | apply Kd.R_alloc | apply Kd.R_drewN | apply Kd.R_drew)); exact (Kd.R_mono (Kd.R_far (p := ⟨aO, 2, none⟩) (Kd.R_far (p := ⟨aO, 1, none⟩) (Kd.R_far (p := ⟨aO, 0, none⟩) (Kd.R_types cI.out aJ.out (by decide)) (fun _ hk => hk.2) (.int .i64 t389)) (fun _ hk => hk.2) (.int .i64 t390)) (fun _ hk => hk.2) (.slice bL t391.length bI)) (fun _ h_ => h_.1))) hb); have aI := aM (blk_below (g := aT) (o := .cells #[.int .i64 a0_0, .int .i64 a0_1, .slice A0_2 l0_2.length c0_2] 26 (0, 0)) (by (with_reducible repeat (first | refine kn_ ?_ _ | refine blk_drew ?_ | refine ka_ ?_ _)); refine blk_far ?_ cJ.out _; (with_reducible repeat (first | refine kn_ ?_ _ | refine blk_drew ?_ | refine ka_ ?_ _)); refine blk_far ?_ cJ.out _; (with_reducible repeat (first | refine kn_ ?_ _ | refine blk_drew ?_ | refine ka_ ?_ _)); refine blk_far ?_ cJ.out _; (with_reducible repeat (first | refine kn_ ?_ _ | refine blk_drew ?_ | refine ka_ ?_ _)); exact aA.out) hb); have aK := aM (blk_below (g := aZ) (o := .cells #[.int .i64 a1_0, .int .i64 a1_1, .int .i64 a1_2] 28 (0, 0)) (by (with_reducible repeat (first | refine kn_ ?_ _ | refine blk_drew ?_ | refine ka_ ?_ _)); refine blk_far ?_ bZ.out _; (with_reducible repeat (first | refine kn_ ?_ _ | refine blk_drew ?_ | refine ka_ ?_ _)); refine blk_far ?_ bZ.out _; (with_reducible repeat (first | refine kn_ ?_ _ | refine blk_drew ?_ | refine ka_ ?_ _)); refine blk_far ?_ bZ.out _; (with_reducible repeat (first | refine kn_ ?_ _ | refine blk_drew ?_ | refine ka_ ?_ _)); exact aB.out) hb); have aL := aM (blk_below (g := aP) (o := .cells #[.int .i64 t373, .int .i64 t374, .slice bG t375.length bF] 33 (0, 0)) (by (with_reducible repeat (first | refine kn_ ?_ _ | refine blk_drew ?_ | refine ka_ ?_ _)); refine blk_far ?_ cG.out _; (with_reducible repeat (first | refine kn_ ?_ _ | refine blk_drew ?_ | refine ka_ ?_ _)); refine blk_far ?_ cG.out _; (with_reducible repeat (first | refine kn_ ?_ _ | refine blk_drew ?_ | refine ka_ ?_ _)); refine blk_far ?_ cG.out _; (with_reducible repeat (first | refine kn_ ?_ _ | refine blk_drew ?_ | refine ka_ ?_ _)); exact aC.out) hb); have aN := aM (blk_below (g := aX) (o := .cells #[.int .i64 t380, .int .i64 t381, .slice bB t382.length bC] 33 (0, 0)) (by (with_reducible repeat (first | refine kn_ ?_ _ | refine blk_drew ?_ | refine ka_ ?_ _)); refine blk_far ?_ bV.out _; (with_reducible repeat (first | refine kn_ ?_ _ | refine blk_drew ?_ | refine ka_ ?_ _)); refine blk_far ?_ bV.out _; (with_reducible repeat (first | refine kn_ ?_ _ | refine blk_drew ?_ | refine ka_ ?_ _)); refine blk_far ?_ bV.out _; (with_reducible repeat (first | refine kn_ ?_ _ | refine blk_drew ?_ | refine ka_ ?_ _)); exact aD.out) hb); have aR := aM (blk_below (g := aO) (o := .cells #[.int .i64 t389, .int .i64 t390, .slice bL t391.length bI] 33 (0, 0)) (by (with_reducible repeat (first | refine kn_ ?_ _ | refine blk_drew ?_ | refine ka_ ?_ _)); refine blk_put (cs := #[.int .i64 t389, .int .i64 t390, .slice none 0 0]) ?_ 2 _ rfl; (with_reducible repeat (first | refine kn_ ?_ _ | refine blk_drew ?_ | refine ka_ ?_ _)); refine blk_put (cs := #[.int .i64 t389, .int .i64 0, .slice none 0 0]) ?_ 1 _ rfl; (with_reducible repeat (first | refine kn_ ?_ _ | refine blk_drew ?_ | refine ka_ ?_ _)); refine blk_put (cs := #[.int .i64 0, .int .i64 0, .slice none 0 0]) ?_ 0 _ rfl; (with_reducible repeat (first | refine kn_ ?_ _ | refine blk_drew ?_ | refine ka_ ?_ _)); exact aJ.out) hb); have aW := aM (bp_ (by repeat (first | (with_reducible first | exact HB.out | apply ba_ | apply bn_ | apply bd_ | refine bs_ ?_ bR.out | refine bs_ ?_ cC.out | refine bs_ ?_ bT.out | refine bs_ ?_ cX.out | refine bs_ ?_ cF.out) | exact HB.out)) hb); clear aU; clear bE; clear bK; clear cI; clear aA; clear aB; clear aC; clear aD; clear aJ; clear HB; have aU := aE; have bE := aF; have bK := aG; have cI := aH; have aA := aI; have aB := aK; have aC := aL; have aD := aN; have aJ := aR; have HB := aW; clear aE aF aG aH aI aK aL aN aR aW; (try clear hb); (try clear hb2); (try clear hk); (try clear hi)))
        go_meet
        case rel => exact ⟨_, ((t394 != t378)), (by first | rfl | (simp; done) | (simp [*]; done)), H', ⟨by first | omega | exact Nat.le_refl _⟩, ⟨by (with_reducible repeat (first | apply Kd.R_alloc | apply Kd.R_drewN | apply Kd.R_drew)); exact Kd.R_mono bE.out (fun _ hk => ⟨hk.2.1, hk.2.2⟩)⟩, ⟨by (with_reducible repeat (first | apply Kd.R_alloc | apply Kd.R_drewN | apply Kd.R_drew)); exact Kd.R_mono bK.out (fun _ hk => ⟨hk.2.1, hk.2.2⟩)⟩, ⟨by (with_reducible repeat (first | apply Kd.R_alloc | apply Kd.R_drewN | apply Kd.R_drew)); exact Kd.R_mono cI.out (fun _ hk => ⟨hk.2.1, hk.2.2⟩)⟩, ⟨by (with_reducible repeat (first | refine kn_ ?_ _ | refine blk_drew ?_ | refine ka_ ?_ _)); exact aA.out⟩, ⟨by (with_reducible repeat (first | refine kn_ ?_ _ | refine blk_drew ?_ | refine ka_ ?_ _)); exact aB.out⟩, ⟨by (with_reducible repeat (first | refine kn_ ?_ _ | refine blk_drew ?_ | refine ka_ ?_ _)); exact aC.out⟩, ⟨by (with_reducible repeat (first | refine kn_ ?_ _ | refine blk_drew ?_ | refine ka_ ?_ _)); exact aD.out⟩, ⟨by (with_reducible repeat (first | refine kn_ ?_ _ | refine blk_drew ?_ | refine ka_ ?_ _)); exact aJ.out⟩, ⟨by repeat (first | (with_reducible first | exact HB.out | apply ba_ | apply bn_ | apply bd_ | refine bs_ ?_ bR.out | refine bs_ ?_ cC.out | refine bs_ ?_ bT.out | refine bs_ ?_ cX.out | refine bs_ ?_ cF.out) | exact HB.out)⟩⟩
      · replace c53 := Bool.eq_false_iff.mpr c53
        subst c53
        have H1 : (none) = some r := by rw [if_neg (show ¬ (false = true) by decide)] at H; exact H
        cases H1
    case rest =>
      clear eG
      try clear c1; try clear p2; try clear c5; try clear c6; try clear c7; try clear c9; try clear c10; try clear c11; try clear c53; try clear c54; try clear c55; try clear c56; try clear c57; try clear c59; try clear c60; try clear c61; try clear c64; try clear c65; try clear c66; try clear c67; try clear c69; try clear c70; try clear c71; try clear eS; try clear eT; try clear eU; try clear eY; try clear eZ; try clear fA; try clear fM; try clear fN; try clear fO; try clear fP; try clear fQ; try clear fR; try clear eV; try clear eW; try clear eX; try clear fB; try clear fC; try clear fD; try clear fS; try clear fT; try clear fU; try clear fV; try clear fW; try clear fX
      obtain ⟨kq, x46_15, rfl, HA, HJ15, aY, aV, aS, aA, aB, aC, aD, aJ, HB⟩ := hcut
      cases kq with
      | zero => exact absurd HA.out (by simp [laws_FnExactAddClue.j0])
      | succ kj15 =>
        have H := HA.out
        clear HA
        simp only [laws_FnExactAddClue.j0] at H
        by_cases c74 : x46_15 = true
        · subst c74
          have H1 : (none) = some r := by rw [if_pos rfl] at H; exact H
          cases H1
        · replace c74 := Bool.eq_false_iff.mpr c74
          subst c74
          have H1 : ((laws_toPuzzle.f kj15 a0_0 a0_1 l0_2).bind fun bt397 => ((laws_eqPuzzle.f kj15 t380 t381 t382 bt397.1 bt397.2.1 bt397.2.2).bind fun t402 => (if t402 = true then ((laws_markPuzzle.f kj15 t380 t381 t382 1).bind fun bt403 => (if bt403.1 < 0 then (none) else ((laws_eqPuzzle.f kj15 t389 t390 t391 t373 t374 t375).bind fun t405 => (if t405 = true then (laws_FnExactAddClue.j1 kj15 t378 (t394 != t378) a0_0 a0_1 l0_2 a1_0 a1_1 a1_2 t373 t374 t375 t389 t390 t391) else (none))))) else (none)))) = some r := by rw [if_neg (show ¬ (false = true) by decide)] at H; exact H
          clear H
          have H := H1
          clear H1
          replace H := Option.bind_eq_some_iff.mp H
          obtain ⟨⟨t397, t398, t399⟩, A750, H⟩ := H
          replace H : ((laws_eqPuzzle.f kj15 t380 t381 t382 t397 t398 t399).bind fun t402 => (if t402 = true then ((laws_markPuzzle.f kj15 t380 t381 t382 1).bind fun bt403 => (if bt403.1 < 0 then (none) else ((laws_eqPuzzle.f kj15 t389 t390 t391 t373 t374 t375).bind fun t405 => (if t405 = true then (laws_FnExactAddClue.j1 kj15 t378 (t394 != t378) a0_0 a0_1 l0_2 a1_0 a1_1 a1_2 t373 t374 t375 t389 t390 t391) else (none))))) else (none))) = some r := H
          have A75 := aM A750
          clear A750
          replace H := Option.bind_eq_some_iff.mp H
          obtain ⟨t402, A760, H⟩ := H
          replace H : (if t402 = true then ((laws_markPuzzle.f kj15 t380 t381 t382 1).bind fun bt403 => (if bt403.1 < 0 then (none) else ((laws_eqPuzzle.f kj15 t389 t390 t391 t373 t374 t375).bind fun t405 => (if t405 = true then (laws_FnExactAddClue.j1 kj15 t378 (t394 != t378) a0_0 a0_1 l0_2 a1_0 a1_1 a1_2 t373 t374 t375 t389 t390 t391) else (none))))) else (none)) = some r := H
          have A76 := aM A760
          clear A760
          by_cases c77 : t402 = true
          · subst c77
            have H1 : ((laws_markPuzzle.f kj15 t380 t381 t382 1).bind fun bt403 => (if bt403.1 < 0 then (none) else ((laws_eqPuzzle.f kj15 t389 t390 t391 t373 t374 t375).bind fun t405 => (if t405 = true then (laws_FnExactAddClue.j1 kj15 t378 (t394 != t378) a0_0 a0_1 l0_2 a1_0 a1_1 a1_2 t373 t374 t375 t389 t390 t391) else (none))))) = some r := by rw [if_pos rfl] at H; exact H
            clear H
            have H := H1
            clear H1
            replace H := Option.bind_eq_some_iff.mp H
            obtain ⟨⟨t403, t404⟩, A780, H⟩ := H
            replace H : (if t403 < 0 then (none) else ((laws_eqPuzzle.f kj15 t389 t390 t391 t373 t374 t375).bind fun t405 => (if t405 = true then (laws_FnExactAddClue.j1 kj15 t378 (t394 != t378) a0_0 a0_1 l0_2 a1_0 a1_1 a1_2 t373 t374 t375 t389 t390 t391) else (none)))) = some r := H
            have A78 := aM A780
            clear A780
            have eH := aM H
            clear H
            try go_wp2
            have aE := aM (Kd.R_drew aY.out)
            have aF := aM (Kd.R_drew aV.out)
            have aG := aM (Kd.R_drew aS.out)
            have aH := aM (blk_drew aA.out)
            have aI := aM (blk_drew aB.out)
            have aK := aM (blk_drew aC.out)
            have aL := aM (blk_drew aD.out)
            have aN := aM (blk_drew aJ.out)
            have aR := aM (bd_ HB.out)
            clear aY aV aS aA aB aC aD aJ HB
            have aY := aE
            have aV := aF
            have aS := aG
            have aA := aH
            have aB := aI
            have aC := aK
            have aD := aL
            have aJ := aN
            have HB := aR
            clear aE aF aG aH aI aK aL aN aR
            refine start_ (n := 5) (S := fun w' => w'.cell? ⟨aX, 0, none⟩ = some (.int .i64 t380) ∧ w'.cell? ⟨aX, 1, none⟩ = some (.int .i64 t381) ∧ w'.cell? ⟨aX, 2, none⟩ = some (.slice bB t382.length bC) ∧ w'.cell? ⟨aT, 0, none⟩ = some (.int .i64 a0_0) ∧ w'.cell? ⟨aT, 1, none⟩ = some (.int .i64 a0_1) ∧ w'.cell? ⟨aT, 2, none⟩ = some (.slice A0_2 l0_2.length c0_2)) (ds := []) #[false, false, false, false, false] (by kernel_rfl) rfl rfl ⟨(blk_cell aD.out 0).trans rfl, (blk_cell aD.out 1).trans rfl, (blk_cell aD.out 2).trans rfl, (blk_cell aA.out 0).trans rfl, (blk_cell aA.out 1).trans rfl, (blk_cell aA.out 2).trans rfl⟩ (fun bA => ?_)
            generalize wc.drew = w80 at aY aV aS aA aB aC aD aJ HB bA ⊢
            refine take_ (i := 0) (N := some 47) (v := ?_) (a' := ?_) #[true, false, false, false, false] rfl rfl (by kernel_rfl) (fun _ _ _ h => h) (Or.inl ⟨by rfl, ?_⟩) bA ?_ ?_
            rotate_left
            · rintro w' ⟨s0, s1, s2, s3, s4, s5⟩
              go_simp
              with_reducible rfl
            rotate_left
            · simp only [Act.put, List.setIfInBounds_toArray, List.set_cons_zero, List.set_cons_succ, i64_w, i32_w]
              rfl
            refine take_ (i := 1) (N := some 48) (v := ?_) (a' := ?_) #[true, true, false, false, false] rfl rfl (by kernel_rfl) (fun _ _ _ h => h) (Or.inl ⟨by rfl, ?_⟩) bA ?_ ?_
            rotate_left
            · rintro w' ⟨s0, s1, s2, s3, s4, s5⟩
              go_simp
              with_reducible rfl
            rotate_left
            · simp only [Act.put, List.setIfInBounds_toArray, List.set_cons_zero, List.set_cons_succ, i64_w, i32_w]
              rfl
            refine one_ (i := 2) (N := some 49) #[true, true, true, false, false] rfl rfl (by kernel_rfl) (by decide) (fun K hK => ?_)
            refine goes_ Try.func8 (by kernel_rfl) rfl #[.agg #[.int .i64 a0_0, .int .i64 a0_1, .slice A0_2 l0_2.length c0_2]] (by rfl) rfl rfl (by (try simp only [List.map_toArray, List.map_cons, List.map_nil]); first | done | rfl | (simp only [List.length_drop, List.length_take]; rfl)) ?_
            with_reducible refine (laws_toPuzzle.calls kj15 a0_0 a0_1 _ _ l0_2 t397 t398 t399 _ ?side1 ?side2 A75.out).mono ?_
            (case side1 => repeat (first | exact (Kd.C_below HR0_2.out HB.out) | (with_reducible refine Kd.C_alloc ?_ _) | (with_reducible refine Kd.C_drewN ?_ _) | (with_reducible refine Kd.C_drew ?_)))
            (case side2 => exact dF.out)
            rintro e w81 ⟨v400, rfl, ho0, hb⟩
            refine ⟨_, rfl, ?_⟩
            have aE := aM (Kd.R_elder' aY.out (Kd.R_base ho0) hb)
            have aF := aM (Kd.R_elder' aV.out (Kd.R_base ho0) hb)
            have aG := aM (Kd.R_elder' aS.out (Kd.R_base ho0) hb)
            have aH := aM (Kd.R_lower (Kd.R_new' (Kd.R_new' (Kd.R_new' ho0 (Kd.R_lt aY.out)) (Kd.R_lt aV.out)) (Kd.R_lt aS.out)) (below_size HB.out))
            have aI := aM (blk_below aA.out hb)
            have aK := aM (blk_below aB.out hb)
            have aL := aM (blk_below aC.out hb)
            have aN := aM (blk_below aD.out hb)
            have aR := aM (blk_below aJ.out hb)
            have aW := aM (bp_ HB.out hb)
            clear aY aV aS aA aB aC aD aJ HB
            have aY := aE
            have aV := aF
            have aS := aG
            have cY := aH
            have aA := aI
            have aB := aK
            have aC := aL
            have aD := aN
            have aJ := aR
            have HB := aW
            clear aE aF aG aH aI aK aL aN aR aW
            (try clear hb)
            (try clear hb2)
            (try clear hk)
            (try clear hi)
            (try clear ho0)
            obtain ⟨eI, eJ, fE⟩ := Kd.R_slice cY.out
            (first | subst fE | (injection fE with f1_ f2_ f3_; have f4_ := f1_.symm; have f5_ := f3_.symm; clear f1_ f2_ f3_; subst f4_; subst f5_))
            refine hK.out _ _ ⟨(blk_cell aD.out 0).trans rfl, (blk_cell aD.out 1).trans rfl, (blk_cell aD.out 2).trans rfl, (blk_cell aA.out 0).trans rfl, (blk_cell aA.out 1).trans rfl, (blk_cell aA.out 2).trans rfl⟩ (fun bA => ?_)
            clear hK K
            refine norm_ (a' := ?_) ?_ ?_
            rotate_left
            · show Act.put _ (some 49) _ = _
              simp only [Act.put, List.setIfInBounds_toArray, List.set_cons_zero, List.set_cons_succ, i64_w, i32_w]
              rfl
            refine one_ (i := 3) (N := some 50) #[true, true, true, true, false] rfl rfl (by kernel_rfl) (by decide) (fun K hK => ?_)
            refine goes_ Try.func11 (by kernel_rfl) rfl #[.agg #[.int .i64 t380, .int .i64 t381, .slice bB t382.length bC], .agg #[.int .i64 t397, .int .i64 t398, .slice eI t399.length eJ]] (by rfl) rfl rfl (by (try simp only [List.map_toArray, List.map_cons, List.map_nil]); first | done | rfl | (simp only [List.length_drop, List.length_take]; rfl)) ?_
            with_reducible refine (laws_eqPuzzle.calls kj15 t380 t381 _ _ t382 t397 t398 _ _ t399 true _ ?side1 ?side2 ?side3 ?side4 A76.out).mono ?_
            (case side1 => repeat (first | exact (Kd.R_reads' aV.out).2.2 | (with_reducible refine Kd.C_alloc ?_ _) | (with_reducible refine Kd.C_drewN ?_ _) | (with_reducible refine Kd.C_drew ?_)))
            (case side2 => exact (Kd.R_reads' aV.out).2.1)
            (case side3 => repeat (first | exact (Kd.R_reads' cY.out).2.2 | (with_reducible refine Kd.C_alloc ?_ _) | (with_reducible refine Kd.C_drewN ?_ _) | (with_reducible refine Kd.C_drew ?_)))
            (case side4 => exact (Kd.R_reads' cY.out).2.1)
            rintro e w83 ⟨rfl, hb⟩
            refine ⟨_, rfl, ?_⟩
            have aE := aM (Kd.R_below aY.out hb)
            have aF := aM (Kd.R_below aV.out hb)
            have aG := aM (Kd.R_below aS.out hb)
            have aH := aM (Kd.R_below cY.out hb)
            have aI := aM (blk_below aA.out hb)
            have aK := aM (blk_below aB.out hb)
            have aL := aM (blk_below aC.out hb)
            have aN := aM (blk_below aD.out hb)
            have aR := aM (blk_below aJ.out hb)
            have aW := aM (bp_ HB.out hb)
            clear aY aV aS cY aA aB aC aD aJ HB
            have aY := aE
            have aV := aF
            have aS := aG
            have cY := aH
            have aA := aI
            have aB := aK
            have aC := aL
            have aD := aN
            have aJ := aR
            have HB := aW
            clear aE aF aG aH aI aK aL aN aR aW
            (try clear hb)
            (try clear hb2)
            (try clear hk)
            (try clear hi)
            refine hK.out _ _ ⟨(blk_cell aD.out 0).trans rfl, (blk_cell aD.out 1).trans rfl, (blk_cell aD.out 2).trans rfl, (blk_cell aA.out 0).trans rfl, (blk_cell aA.out 1).trans rfl, (blk_cell aA.out 2).trans rfl⟩ (fun bA => ?_)
            clear hK K
            refine norm_ (a' := ?_) ?_ ?_
            rotate_left
            · show Act.put _ (some 50) _ = _
              simp only [Act.put, List.setIfInBounds_toArray, List.set_cons_zero, List.set_cons_succ, i64_w, i32_w]
              rfl
            refine pure_ (i := 4) (N := some 51) (v := ?_) (a' := ?_) #[true, true, true, true, true] rfl rfl (by kernel_rfl) (fun _ _ _ h => h) (Or.inl ⟨by rfl, ?_⟩) ?_ ?_
            rotate_left
            · intro w'
              go_simp
              with_reducible rfl
            rotate_left
            · simp only [Act.put, List.setIfInBounds_toArray, List.set_cons_zero, List.set_cons_succ, i64_w, i32_w]
              rfl
            refine done_ (by kernel_rfl) ?_
            have kY := eP.out
            have kZ := dU.out
            have lA := eQ.out
            have lB := dV.out
            have lC := dW.out
            have lD := dK.out
            have lE := bV.out
            have lF := cR.out
            have fY : w83.cell? ⟨aX, 0, none⟩ = some (.int .i64 t380) := (blk_cell aD.out 0).trans rfl
            have fZ : w83.cell? ⟨aX, 1, none⟩ = some (.int .i64 t381) := (blk_cell aD.out 1).trans rfl
            have gA : w83.cell? ⟨aX, 2, none⟩ = some (.slice bB t382.length bC) := (blk_cell aD.out 2).trans rfl
            have gB := blk_frozen aD.out 0
            have gC := blk_frozen aD.out 1
            have gD := blk_frozen aD.out 2
            go_upto_region 14 with (first | ((with_reducible refine gate_callee (f := 12) rfl ?_); refine goesL_ (some 54) rfl rfl Try.func12 (by kernel_rfl) rfl #[.agg #[.int .i64 t380, .int .i64 t381, .slice bB t382.length bC], .int .i64 1] rfl (by (try simp only [List.map_toArray, List.map_cons, List.map_nil]); first | done | rfl | (simp only [List.length_drop, List.length_take]; rfl)) ?_; (with_reducible refine (laws_markPuzzle.calls kj15 t380 t381 (fun k_ => some k_ = (.slice bB t382.length bC : Value).ownBlock) (.slice bB t382.length bC) t382 1 t403 t404 w _ ?side1 ?side2 A78.out).mono ?_); (case side1 => repeat (first | (with_reducible first | exact HB.out | apply ba_ | apply bn_ | apply bd_ | refine bs_ ?_ bR.out | refine bs_ ?_ cC.out | refine bs_ ?_ bT.out | refine bs_ ?_ cX.out | refine bs_ ?_ cF.out) | exact HB.out)); (case side2 => exact Kd.R_tight rfl aV.out); rintro e w89 ⟨rfl, dX, hb, hkp⟩; refine ⟨_, rfl, ?_⟩; have aE := aM (Kd.R_mono (ok' := fun k_ => some k_ ≠ (.slice bB t382.length bC : Value).ownBlock ∧ some k_ ≠ (.slice bL t391.length bI : Value).ownBlock ∧ some k_ ≠ (.slice eI t399.length eJ : Value).ownBlock) (Kd.R_keptB (aY.out) hkp (fun k_ hk_ hs_ => (hk_.1.1) hs_)) (fun k_ hk_ => ⟨hk_.1.1.1, hk_.1.1.2, hk_.1.2⟩)); have aF := aM (Kd.R_reok rfl dX (fun k_ e_ => aV.out.1 k_ e_)); have aG := aM (Kd.R_mono (ok' := fun k_ => some k_ ≠ (.slice bG t375.length bF : Value).ownBlock ∧ some k_ ≠ (.slice bB t382.length bC : Value).ownBlock ∧ some k_ ≠ (.slice eI t399.length eJ : Value).ownBlock) (Kd.R_keptB (aS.out) hkp (fun k_ hk_ hs_ => (hk_.1.2) hs_)) (fun k_ hk_ => ⟨hk_.1.1.1, hk_.1.1.2, hk_.1.2⟩)); have aH := aM (blk_kept (by (with_reducible repeat (first | refine kn_ ?_ _ | refine blk_drew ?_ | refine ka_ ?_ _)); exact aA.out) hkp (fun hs_ => (fun e_ => (Kd.R_ne aV.out aA.out (by decide)) e_) hs_)); have aI := aM (blk_kept (by (with_reducible repeat (first | refine kn_ ?_ _ | refine blk_drew ?_ | refine ka_ ?_ _)); exact aB.out) hkp (fun hs_ => (fun e_ => (Kd.R_ne aV.out aB.out (by decide)) e_) hs_)); have aK := aM (blk_kept (by (with_reducible repeat (first | refine kn_ ?_ _ | refine blk_drew ?_ | refine ka_ ?_ _)); exact aC.out) hkp (fun hs_ => (fun e_ => (Kd.R_ne aV.out aC.out (by decide)) e_) hs_)); have aL := aM (blk_kept (by (with_reducible repeat (first | refine kn_ ?_ _ | refine blk_drew ?_ | refine ka_ ?_ _)); exact aD.out) hkp (fun hs_ => (fun e_ => (Kd.R_ne aV.out aD.out (by decide)) e_) hs_)); have aN := aM (blk_kept (by (with_reducible repeat (first | refine kn_ ?_ _ | refine blk_drew ?_ | refine ka_ ?_ _)); exact aJ.out) hkp (fun hs_ => (fun e_ => (Kd.R_ne aV.out aJ.out (by decide)) e_) hs_)); have aR := aM (Kd.R_mono (ok' := fun k_ => some k_ ≠ (.slice bG t375.length bF : Value).ownBlock ∧ some k_ ≠ (.slice bB t382.length bC : Value).ownBlock ∧ some k_ ≠ (.slice bL t391.length bI : Value).ownBlock) (Kd.R_keptB (cY.out) hkp (fun k_ hk_ hs_ => (hk_.1.2) hs_)) (fun k_ hk_ => ⟨hk_.1.1.1.2, hk_.1.1.2, hk_.1.2⟩)); have aW := aM (hb); clear aY; clear aV; clear aS; clear aA; clear aB; clear aC; clear aD; clear aJ; clear cY; clear HB; have aY := aE; have aV := aF; have aS := aG; have aA := aH; have aB := aI; have aC := aK; have aD := aL; have aJ := aN; have cY := aR; have HB := aW; clear aE aF aG aH aI aK aL aN aR aW; (try clear hb); (try clear hkp); (try clear dX)))
            (try simp only [Act.put, List.setIfInBounds_toArray, List.set_cons_zero, List.set_cons_succ])
            go_cut [67] (fun v67 wc => ∃ (kq : Nat) (x67_78 : Bool), v67 = .bool x67_78 ∧ Aside0 (laws_FnExactAddClue.j1 kq t378 x67_78 a0_0 a0_1 l0_2 a1_0 a1_1 a1_2 t373 t374 t375 t389 t390 t391 = some r) ∧ Aside0 (kq ≤ kj15) ∧ Aside0 (Kd.R k37 37 wc w.heap.size (fun k_ => some k_ ≠ ((.slice bB t382.length bC) : Value).ownBlock ∧ some k_ ≠ ((.slice bL t391.length bI) : Value).ownBlock) (.slice bG t375.length bF) t375) ∧ Aside0 (Kd.R k37 37 wc w.heap.size (fun k_ => some k_ ≠ ((.slice bG t375.length bF) : Value).ownBlock ∧ some k_ ≠ ((.slice bL t391.length bI) : Value).ownBlock) (.slice bB t382.length bC) t404) ∧ Aside0 (Kd.R k37 37 wc w.heap.size (fun k_ => some k_ ≠ ((.slice bG t375.length bF) : Value).ownBlock ∧ some k_ ≠ ((.slice bB t382.length bC) : Value).ownBlock) (.slice bL t391.length bI) t391) ∧ Aside0 (wc.heap[aT]? = some (.cells #[.int .i64 a0_0, .int .i64 a0_1, (.slice A0_2 l0_2.length c0_2)] 26 (0, 0))) ∧ Aside0 (wc.heap[aZ]? = some (.cells #[.int .i64 a1_0, .int .i64 a1_1, .int .i64 a1_2] 28 (0, 0))) ∧ Aside0 (wc.heap[aP]? = some (.cells #[.int .i64 t373, .int .i64 t374, (.slice bG t375.length bF)] 33 (0, 0))) ∧ Aside0 (wc.heap[aX]? = some (.cells #[.int .i64 t380, .int .i64 t381, (.slice bB t382.length bC)] 33 (0, 0))) ∧ Aside0 (wc.heap[aO]? = some (.cells #[.int .i64 t389, .int .i64 t390, (.slice bL t391.length bI)] 33 (0, 0))) ∧ Aside0 (Below w.heap.size w wc))
            case first =>
              have H := eH.out
              clear eH
              by_cases c90 : t403 < 0
              · rw [if_pos c90] at H
                cases H
              · rw [if_neg c90] at H
                have c90b0 : decide (t403 < 0) = false := decide_eq_false c90
                clear c90
                (first | rw [c90b0] | (simp only [i64_w, i32_w]; rw [c90b0]) | skip)
                replace H := Option.bind_eq_some_iff.mp H
                obtain ⟨t405, A910, H⟩ := H
                replace H : (if t405 = true then (laws_FnExactAddClue.j1 kj15 t378 (t394 != t378) a0_0 a0_1 l0_2 a1_0 a1_1 a1_2 t373 t374 t375 t389 t390 t391) else (none)) = some r := H
                have A91 := aM A910
                clear A910
                by_cases c92 : t405 = true
                · subst c92
                  have H1 : (laws_FnExactAddClue.j1 kj15 t378 (t394 != t378) a0_0 a0_1 l0_2 a1_0 a1_1 a1_2 t373 t374 t375 t389 t390 t391) = some r := by rw [if_pos rfl] at H; exact H
                  clear H
                  have H := H1
                  clear H1
                  have H' := aM H
                  clear H
                  have lG := cU.out
                  have lH := cJ.out
                  have lI := cV.out
                  have lJ := bZ.out
                  have lK := cQ.out
                  have lL := cG.out
                  have lM := cR.out
                  have lN := bV.out
                  have gE : w89.cell? ⟨aO, 0, none⟩ = some (.int .i64 t389) := (blk_cell aJ.out 0).trans rfl
                  have gF : w89.cell? ⟨aO, 1, none⟩ = some (.int .i64 t390) := (blk_cell aJ.out 1).trans rfl
                  have gG : w89.cell? ⟨aO, 2, none⟩ = some (.slice bL t391.length bI) := (blk_cell aJ.out 2).trans rfl
                  have gH := blk_frozen aJ.out 0
                  have gI := blk_frozen aJ.out 1
                  have gJ := blk_frozen aJ.out 2
                  have lO := cM.out
                  have lP := bS.out
                  have lQ := cP.out
                  have lR := bU.out
                  have lS := dK.out
                  have lT := dW.out
                  have gK : w89.cell? ⟨aP, 0, none⟩ = some (.int .i64 t373) := (blk_cell aC.out 0).trans rfl
                  have gL : w89.cell? ⟨aP, 1, none⟩ = some (.int .i64 t374) := (blk_cell aC.out 1).trans rfl
                  have gM : w89.cell? ⟨aP, 2, none⟩ = some (.slice bG t375.length bF) := (blk_cell aC.out 2).trans rfl
                  have gN := blk_frozen aC.out 0
                  have gO := blk_frozen aC.out 1
                  have gP := blk_frozen aC.out 2
                  go_wp2_with (first | (go_at_call 11; (with_reducible refine (laws_eqPuzzle.calls kj15 t389 t390 _ _ t391 t373 t374 _ _ t375 true _ ?side1 ?side2 ?side3 ?side4 A91.out).mono ?_); (case side1 => repeat (first | exact (Kd.R_reads' aS.out).2.2 | (with_reducible refine Kd.C_alloc ?_ _) | (with_reducible refine Kd.C_drewN ?_ _) | (with_reducible refine Kd.C_drew ?_))); (case side2 => exact (Kd.R_reads' aS.out).2.1); (case side3 => repeat (first | exact (Kd.R_reads' aY.out).2.2 | (with_reducible refine Kd.C_alloc ?_ _) | (with_reducible refine Kd.C_drewN ?_ _) | (with_reducible refine Kd.C_drew ?_))); (case side4 => exact (Kd.R_reads' aY.out).2.1); rintro e w102 ⟨rfl, hb⟩; have aE := aM (Kd.R_below (by (with_reducible repeat (first | apply Kd.R_alloc | apply Kd.R_drewN | apply Kd.R_drew)); exact aY.out) hb); have aF := aM (Kd.R_below (by (with_reducible repeat (first | apply Kd.R_alloc | apply Kd.R_drewN | apply Kd.R_drew)); exact aV.out) hb); have aG := aM (Kd.R_below (by (with_reducible repeat (first | apply Kd.R_alloc | apply Kd.R_drewN | apply Kd.R_drew)); exact aS.out) hb); have aH := aM (Kd.R_below (by (with_reducible repeat (first | apply Kd.R_alloc | apply Kd.R_drewN | apply Kd.R_drew)); exact cY.out) hb); have aI := aM (blk_below (g := aT) (o := .cells #[.int .i64 a0_0, .int .i64 a0_1, .slice A0_2 l0_2.length c0_2] 26 (0, 0)) (by (with_reducible repeat (first | refine kn_ ?_ _ | refine blk_drew ?_ | refine ka_ ?_ _)); exact aA.out) hb); have aK := aM (blk_below (g := aZ) (o := .cells #[.int .i64 a1_0, .int .i64 a1_1, .int .i64 a1_2] 28 (0, 0)) (by (with_reducible repeat (first | refine kn_ ?_ _ | refine blk_drew ?_ | refine ka_ ?_ _)); exact aB.out) hb); have aL := aM (blk_below (g := aP) (o := .cells #[.int .i64 t373, .int .i64 t374, .slice bG t375.length bF] 33 (0, 0)) (by (with_reducible repeat (first | refine kn_ ?_ _ | refine blk_drew ?_ | refine ka_ ?_ _)); exact aC.out) hb); have aN := aM (blk_below (g := aX) (o := .cells #[.int .i64 t380, .int .i64 t381, .slice bB t382.length bC] 33 (0, 0)) (by (with_reducible repeat (first | refine kn_ ?_ _ | refine blk_drew ?_ | refine ka_ ?_ _)); exact aD.out) hb); have aR := aM (blk_below (g := aO) (o := .cells #[.int .i64 t389, .int .i64 t390, .slice bL t391.length bI] 33 (0, 0)) (by (with_reducible repeat (first | refine kn_ ?_ _ | refine blk_drew ?_ | refine ka_ ?_ _)); exact aJ.out) hb); have aW := aM (bp_ (by repeat (first | (with_reducible first | exact HB.out | apply ba_ | apply bn_ | apply bd_ | refine bs_ ?_ bR.out | refine bs_ ?_ cC.out | refine bs_ ?_ bT.out | refine bs_ ?_ cX.out | refine bs_ ?_ cF.out) | exact HB.out)) hb); clear aY; clear aV; clear aS; clear cY; clear aA; clear aB; clear aC; clear aD; clear aJ; clear HB; have aY := aE; have aV := aF; have aS := aG; have cY := aH; have aA := aI; have aB := aK; have aC := aL; have aD := aN; have aJ := aR; have HB := aW; clear aE aF aG aH aI aK aL aN aR aW; (try clear hb); (try clear hb2); (try clear hk); (try clear hi)))
                  go_meet
                  case rel => exact ⟨_, ((t394 != t378)), (by first | rfl | (simp; done) | (simp [*]; done)), H', ⟨by have := HJ15.out; first | omega | exact Nat.le_refl _⟩, ⟨by (with_reducible repeat (first | apply Kd.R_alloc | apply Kd.R_drewN | apply Kd.R_drew)); exact Kd.R_mono aY.out (fun _ hk => ⟨hk.1, hk.2.1⟩)⟩, ⟨by (with_reducible repeat (first | apply Kd.R_alloc | apply Kd.R_drewN | apply Kd.R_drew)); exact Kd.R_mono aV.out (fun _ hk => ⟨hk.1.1, hk.1.2⟩)⟩, ⟨by (with_reducible repeat (first | apply Kd.R_alloc | apply Kd.R_drewN | apply Kd.R_drew)); exact Kd.R_mono aS.out (fun _ hk => ⟨hk.1, hk.2.1⟩)⟩, ⟨by (with_reducible repeat (first | refine kn_ ?_ _ | refine blk_drew ?_ | refine ka_ ?_ _)); exact aA.out⟩, ⟨by (with_reducible repeat (first | refine kn_ ?_ _ | refine blk_drew ?_ | refine ka_ ?_ _)); exact aB.out⟩, ⟨by (with_reducible repeat (first | refine kn_ ?_ _ | refine blk_drew ?_ | refine ka_ ?_ _)); exact aC.out⟩, ⟨by (with_reducible repeat (first | refine kn_ ?_ _ | refine blk_drew ?_ | refine ka_ ?_ _)); exact aD.out⟩, ⟨by (with_reducible repeat (first | refine kn_ ?_ _ | refine blk_drew ?_ | refine ka_ ?_ _)); exact aJ.out⟩, ⟨by repeat (first | (with_reducible first | exact HB.out | apply ba_ | apply bn_ | apply bd_ | refine bs_ ?_ bR.out | refine bs_ ?_ cC.out | refine bs_ ?_ bT.out | refine bs_ ?_ cX.out | refine bs_ ?_ cF.out) | exact HB.out)⟩⟩
                · replace c92 := Bool.eq_false_iff.mpr c92
                  subst c92
                  have H1 : (none) = some r := by rw [if_neg (show ¬ (false = true) by decide)] at H; exact H
                  cases H1
            case rest =>
              clear eH
              try clear c1; try clear p2; try clear c5; try clear c6; try clear c7; try clear c8; try clear c9; try clear c10; try clear c11; try clear c12; try clear c53; try clear c54; try clear c55; try clear c56; try clear c57; try clear c59; try clear c60; try clear c61; try clear c64; try clear c65; try clear c66; try clear c67; try clear c69; try clear c70; try clear c71; try clear c74; try clear c77; try clear c84; try clear c85; try clear c86; try clear c87; try clear c90; try clear c90b0; try clear c92; try clear c93; try clear c94; try clear c95; try clear c96; try clear c98; try clear c99; try clear c100; try clear c103; try clear c104; try clear c105; try clear c106; try clear c108; try clear c109; try clear c110; try clear gK; try clear gL; try clear gM; try clear lU; try clear lV; try clear lW; try clear lX; try clear lY; try clear lZ; try clear eS; try clear eT; try clear eU; try clear eY; try clear eZ; try clear fA; try clear fM; try clear fN; try clear fO; try clear fP; try clear fQ; try clear fR; try clear fY; try clear fZ; try clear gA; try clear gE; try clear gF; try clear gG; try clear gN; try clear gO; try clear gP; try clear mA; try clear mB; try clear mC; try clear mD; try clear mE; try clear mF; try clear eV; try clear eW; try clear eX; try clear fB; try clear fC; try clear fD; try clear fS; try clear fT; try clear fU; try clear fV; try clear fW; try clear fX; try clear gB; try clear gC; try clear gD; try clear gH; try clear gI; try clear gJ; try clear p2
              obtain ⟨kq, x67_78, rfl, HA, HJ78, aY, aV, aS, aA, aB, aC, aD, aJ, HB⟩ := hcut
              have hl386002_78 := (Kd.R_reads' aV.out).1
              rw [hl386002_78] at aV
              (try simp only [hl386002_78])
              (try simp only [hl386002_78] at aA)
              (try simp only [hl386002_78] at aB)
              (try simp only [hl386002_78] at aC)
              (try simp only [hl386002_78] at aD)
              (try simp only [hl386002_78] at aJ)
              (try simp only [hl386002_78] at aY)
              (try simp only [hl386002_78] at aS)
              cases kq with
              | zero => exact absurd HA.out (by simp [laws_FnExactAddClue.j1])
              | succ kj78 =>
                have H := HA.out
                clear HA
                simp only [laws_FnExactAddClue.j1] at H
                by_cases c113 : x67_78 = true
                · subst c113
                  have H1 : (none) = some r := by rw [if_pos rfl] at H; exact H
                  cases H1
                · replace c113 := Bool.eq_false_iff.mpr c113
                  subst c113
                  have H1 : ((laws_markPuzzle.f kj78 t389 t390 t391 1).bind fun bt406 => ((laws_heldPuzzle.f kj78 t389 t390 bt406.2 1).bind fun t408 => (if t408 < 0 then (none) else (if t408 = bt406.1 then ((laws_toPuzzle.f kj78 a0_0 a0_1 l0_2).bind fun bt409 => ((laws_toClue.f a1_0 a1_1 a1_2).bind fun bt414 => ((impl_AddClue.f bt409.1 bt409.2.1 bt409.2.2 bt414.1 bt414.2.1 bt414.2.2).bind fun bt417 => ((laws_eqPuzzle.f kj78 bt417.1 bt417.2.1 bt417.2.2.1 t373 t374 t375).bind fun t424 => (if t424 = true then (laws_FnExactAddClue.j2 kj78 bt406.1 (bt417.2.2.2 != t378) t389 t390 bt406.2) else (none)))))) else (none))))) = some r := by rw [if_neg (show ¬ (false = true) by decide)] at H; exact H
                  clear H
                  have H := H1
                  clear H1
                  replace H := Option.bind_eq_some_iff.mp H
                  obtain ⟨⟨t406, t407⟩, A1140, H⟩ := H
                  replace H : ((laws_heldPuzzle.f kj78 t389 t390 t407 1).bind fun t408 => (if t408 < 0 then (none) else (if t408 = t406 then ((laws_toPuzzle.f kj78 a0_0 a0_1 l0_2).bind fun bt409 => ((laws_toClue.f a1_0 a1_1 a1_2).bind fun bt414 => ((impl_AddClue.f bt409.1 bt409.2.1 bt409.2.2 bt414.1 bt414.2.1 bt414.2.2).bind fun bt417 => ((laws_eqPuzzle.f kj78 bt417.1 bt417.2.1 bt417.2.2.1 t373 t374 t375).bind fun t424 => (if t424 = true then (laws_FnExactAddClue.j2 kj78 t406 (bt417.2.2.2 != t378) t389 t390 t407) else (none)))))) else (none)))) = some r := H
                  have A114 := aM A1140
                  clear A1140
                  replace H := Option.bind_eq_some_iff.mp H
                  obtain ⟨t408, A1150, H⟩ := H
                  replace H : (if t408 < 0 then (none) else (if t408 = t406 then ((laws_toPuzzle.f kj78 a0_0 a0_1 l0_2).bind fun bt409 => ((laws_toClue.f a1_0 a1_1 a1_2).bind fun bt414 => ((impl_AddClue.f bt409.1 bt409.2.1 bt409.2.2 bt414.1 bt414.2.1 bt414.2.2).bind fun bt417 => ((laws_eqPuzzle.f kj78 bt417.1 bt417.2.1 bt417.2.2.1 t373 t374 t375).bind fun t424 => (if t424 = true then (laws_FnExactAddClue.j2 kj78 t406 (bt417.2.2.2 != t378) t389 t390 t407) else (none)))))) else (none))) = some r := H
                  have A115 := aM A1150
                  clear A1150
                  by_cases c116 : t408 < 0
                  · rw [if_pos c116] at H
                    cases H
                  · rw [if_neg c116] at H
                    have c116b0 : decide (t408 < 0) = false := decide_eq_false c116
                    clear c116
                    by_cases c125 : t408 = t406
                    · rw [if_pos c125] at H
                      have c125b0 : (t408 == t406) = true := beq_iff_eq.mpr c125
                      have c125b1 : (t408 != t406) = false := bne_eq_false_iff_eq.mpr c125
                      clear c125
                      replace H := Option.bind_eq_some_iff.mp H
                      obtain ⟨⟨t409, t410, t411⟩, A1260, H⟩ := H
                      replace H : ((laws_toClue.f a1_0 a1_1 a1_2).bind fun bt414 => ((impl_AddClue.f t409 t410 t411 bt414.1 bt414.2.1 bt414.2.2).bind fun bt417 => ((laws_eqPuzzle.f kj78 bt417.1 bt417.2.1 bt417.2.2.1 t373 t374 t375).bind fun t424 => (if t424 = true then (laws_FnExactAddClue.j2 kj78 t406 (bt417.2.2.2 != t378) t389 t390 t407) else (none))))) = some r := H
                      have A126 := aM A1260
                      clear A1260
                      replace H := Option.bind_eq_some_iff.mp H
                      obtain ⟨⟨t414, t415, t416⟩, A1270, H⟩ := H
                      replace H : ((impl_AddClue.f t409 t410 t411 t414 t415 t416).bind fun bt417 => ((laws_eqPuzzle.f kj78 bt417.1 bt417.2.1 bt417.2.2.1 t373 t374 t375).bind fun t424 => (if t424 = true then (laws_FnExactAddClue.j2 kj78 t406 (bt417.2.2.2 != t378) t389 t390 t407) else (none)))) = some r := H
                      have A127 := aM A1270
                      clear A1270
                      replace H := Option.bind_eq_some_iff.mp H
                      obtain ⟨⟨t417, t418, t419, t422⟩, A1280, H⟩ := H
                      replace H : ((laws_eqPuzzle.f kj78 t417 t418 t419 t373 t374 t375).bind fun t424 => (if t424 = true then (laws_FnExactAddClue.j2 kj78 t406 (t422 != t378) t389 t390 t407) else (none))) = some r := H
                      have A128 := aM A1280
                      clear A1280
                      have eK := aM H
                      clear H
                      have mG := cU.out
                      have mH := cJ.out
                      have mI := cV.out
                      have mJ := bZ.out
                      have mK := cQ.out
                      have mL := cG.out
                      have mM := cR.out
                      have mN := bV.out
                      have mO : wc.cell? ⟨aO, 0, none⟩ = some (.int .i64 t389) := (blk_cell aJ.out 0).trans rfl
                      have mP : wc.cell? ⟨aO, 1, none⟩ = some (.int .i64 t390) := (blk_cell aJ.out 1).trans rfl
                      have mQ : wc.cell? ⟨aO, 2, none⟩ = some (.slice bL t391.length bI) := (blk_cell aJ.out 2).trans rfl
                      have mR := blk_frozen aJ.out 0
                      have mS := blk_frozen aJ.out 1
                      have mT := blk_frozen aJ.out 2
                      try go_wp2_with (first | ((with_reducible refine gate_callee (f := 12) rfl ?_); refine goesL_ (some 70) rfl rfl Try.func12 (by kernel_rfl) rfl #[.agg #[.int .i64 t389, .int .i64 t390, .slice bL t391.length bI], .int .i64 1] rfl (by (try simp only [List.map_toArray, List.map_cons, List.map_nil]); first | done | rfl | (simp only [List.length_drop, List.length_take]; rfl)) ?_; (with_reducible refine (laws_markPuzzle.calls kj78 t389 t390 (fun k_ => some k_ = (.slice bL t391.length bI : Value).ownBlock) (.slice bL t391.length bI) t391 1 t406 t407 w _ ?side1 ?side2 A114.out).mono ?_); (case side1 => repeat (first | (with_reducible first | exact HB.out | apply ba_ | apply bn_ | apply bd_ | refine bs_ ?_ bR.out | refine bs_ ?_ cC.out | refine bs_ ?_ bT.out | refine bs_ ?_ cX.out | refine bs_ ?_ cF.out) | exact HB.out)); (case side2 => exact Kd.R_tight rfl aS.out); rintro e w135 ⟨rfl, dX, hb, hkp⟩; refine ⟨_, rfl, ?_⟩; have aE := aM (Kd.R_mono (ok' := fun k_ => some k_ ≠ (.slice bB t404.length bC : Value).ownBlock ∧ some k_ ≠ (.slice bL t391.length bI : Value).ownBlock) (Kd.R_keptB (aY.out) hkp (fun k_ hk_ hs_ => (hk_.2) hs_)) (fun k_ hk_ => ⟨hk_.1.1, hk_.1.2⟩)); have aF := aM (Kd.R_mono (ok' := fun k_ => some k_ ≠ (.slice bG t375.length bF : Value).ownBlock ∧ some k_ ≠ (.slice bL t391.length bI : Value).ownBlock) (Kd.R_keptB (aV.out) hkp (fun k_ hk_ hs_ => (hk_.2) hs_)) (fun k_ hk_ => ⟨hk_.1.1, hk_.1.2⟩)); have aG := aM (Kd.R_reok rfl dX (fun k_ e_ => aS.out.1 k_ e_)); have aH := aM (blk_kept (by (with_reducible repeat (first | refine kn_ ?_ _ | refine blk_drew ?_ | refine ka_ ?_ _)); exact aA.out) hkp (fun hs_ => (fun e_ => (Kd.R_ne aS.out aA.out (by decide)) e_) hs_)); have aI := aM (blk_kept (by (with_reducible repeat (first | refine kn_ ?_ _ | refine blk_drew ?_ | refine ka_ ?_ _)); exact aB.out) hkp (fun hs_ => (fun e_ => (Kd.R_ne aS.out aB.out (by decide)) e_) hs_)); have aK := aM (blk_kept (by (with_reducible repeat (first | refine kn_ ?_ _ | refine blk_drew ?_ | refine ka_ ?_ _)); exact aC.out) hkp (fun hs_ => (fun e_ => (Kd.R_ne aS.out aC.out (by decide)) e_) hs_)); have aL := aM (blk_kept (by (with_reducible repeat (first | refine kn_ ?_ _ | refine blk_drew ?_ | refine ka_ ?_ _)); exact aD.out) hkp (fun hs_ => (fun e_ => (Kd.R_ne aS.out aD.out (by decide)) e_) hs_)); have aN := aM (blk_kept (by (with_reducible repeat (first | refine kn_ ?_ _ | refine blk_drew ?_ | refine ka_ ?_ _)); exact aJ.out) hkp (fun hs_ => (fun e_ => (Kd.R_ne aS.out aJ.out (by decide)) e_) hs_)); have aR := aM (hb); clear aY; clear aV; clear aS; clear aA; clear aB; clear aC; clear aD; clear aJ; clear HB; have aY := aE; have aV := aF; have aS := aG; have aA := aH; have aB := aI; have aC := aK; have aD := aL; have aJ := aN; have HB := aR; clear aE aF aG aH aI aK aL aN aR; (try clear hb); (try clear hkp); (try clear dX); have mU : w135.cell? ⟨aO, 0, none⟩ = some (.int .i64 t389) := (blk_cell aJ.out 0).trans rfl; have mV : w135.cell? ⟨aO, 1, none⟩ = some (.int .i64 t390) := (blk_cell aJ.out 1).trans rfl; have mW : w135.cell? ⟨aO, 2, none⟩ = some (.slice bL t391.length bI) := (blk_cell aJ.out 2).trans rfl; have mX := blk_frozen aJ.out 0; have mY := blk_frozen aJ.out 1; have mZ := blk_frozen aJ.out 2) | ((with_reducible refine gate_callee (f := 13) rfl ?_); refine goesL_ (some 73) rfl rfl Try.func13 (by kernel_rfl) rfl #[.agg #[.int .i64 t389, .int .i64 t390, .slice bL t407.length bI], .int .i64 1] rfl (by (try simp only [List.map_toArray, List.map_cons, List.map_nil]); first | done | (rw [show t407.length = t391.length from (Kd.R_reads' aS.out).1.symm] <;> rfl) | rfl | (simp only [List.length_drop, List.length_take]; rfl)) ?_; (with_reducible refine (laws_heldPuzzle.calls kj78 t389 t390 _ _ t407 1 t408 _ ?side1 ?side2 A115.out).mono ?_); (case side1 => repeat (first | exact (Kd.R_reads' aS.out).2.2 | (with_reducible refine Kd.C_alloc ?_ _) | (with_reducible refine Kd.C_drewN ?_ _) | (with_reducible refine Kd.C_drew ?_))); (case side2 => rw [show t407.length = t391.length from (Kd.R_reads' aS.out).1.symm]; exact (Kd.R_reads' aS.out).2.1); rintro e w137 ⟨rfl, hb⟩; refine ⟨_, rfl, ?_⟩; have aE := aM (Kd.R_below (by (with_reducible repeat (first | apply Kd.R_alloc | apply Kd.R_drewN | apply Kd.R_drew)); exact aY.out) hb); have aF := aM (Kd.R_below (by (with_reducible repeat (first | apply Kd.R_alloc | apply Kd.R_drewN | apply Kd.R_drew)); exact aV.out) hb); have aG := aM (Kd.R_below (by (with_reducible repeat (first | apply Kd.R_alloc | apply Kd.R_drewN | apply Kd.R_drew)); exact aS.out) hb); have aH := aM (blk_below (g := aT) (o := .cells #[.int .i64 a0_0, .int .i64 a0_1, .slice A0_2 l0_2.length c0_2] 26 (0, 0)) (by (with_reducible repeat (first | refine kn_ ?_ _ | refine blk_drew ?_ | refine ka_ ?_ _)); exact aA.out) hb); have aI := aM (blk_below (g := aZ) (o := .cells #[.int .i64 a1_0, .int .i64 a1_1, .int .i64 a1_2] 28 (0, 0)) (by (with_reducible repeat (first | refine kn_ ?_ _ | refine blk_drew ?_ | refine ka_ ?_ _)); exact aB.out) hb); have aK := aM (blk_below (g := aP) (o := .cells #[.int .i64 t373, .int .i64 t374, .slice bG t375.length bF] 33 (0, 0)) (by (with_reducible repeat (first | refine kn_ ?_ _ | refine blk_drew ?_ | refine ka_ ?_ _)); exact aC.out) hb); have aL := aM (blk_below (g := aX) (o := .cells #[.int .i64 t380, .int .i64 t381, .slice bB t404.length bC] 33 (0, 0)) (by (with_reducible repeat (first | refine kn_ ?_ _ | refine blk_drew ?_ | refine ka_ ?_ _)); exact aD.out) hb); have aN := aM (blk_below (g := aO) (o := .cells #[.int .i64 t389, .int .i64 t390, .slice bL t391.length bI] 33 (0, 0)) (by (with_reducible repeat (first | refine kn_ ?_ _ | refine blk_drew ?_ | refine ka_ ?_ _)); exact aJ.out) hb); have aR := aM (bp_ (by repeat (first | (with_reducible first | exact HB.out | apply ba_ | apply bn_ | apply bd_ | refine bs_ ?_ bR.out | refine bs_ ?_ cC.out | refine bs_ ?_ bT.out | refine bs_ ?_ cX.out | refine bs_ ?_ cF.out) | exact HB.out)) hb); clear aY; clear aV; clear aS; clear aA; clear aB; clear aC; clear aD; clear aJ; clear HB; have aY := aE; have aV := aF; have aS := aG; have aA := aH; have aB := aI; have aC := aK; have aD := aL; have aJ := aN; have HB := aR; clear aE aF aG aH aI aK aL aN aR; (try clear hb); (try clear hb2); (try clear hk); (try clear hi)))
                      have aE := aM (Kd.R_drew aY.out)
                      have aF := aM (Kd.R_drew aV.out)
                      have aG := aM (Kd.R_drew aS.out)
                      have aH := aM (blk_drew aA.out)
                      have aI := aM (blk_drew aB.out)
                      have aK := aM (blk_drew aC.out)
                      have aL := aM (blk_drew aD.out)
                      have aN := aM (blk_drew aJ.out)
                      have aR := aM (bd_ HB.out)
                      clear aY aV aS aA aB aC aD aJ HB
                      have aY := aE
                      have aV := aF
                      have aS := aG
                      have aA := aH
                      have aB := aI
                      have aC := aK
                      have aD := aL
                      have aJ := aN
                      have HB := aR
                      clear aE aF aG aH aI aK aL aN aR
                      refine start_ (n := 11) (S := fun w' => w'.cell? ⟨aT, 0, none⟩ = some (.int .i64 a0_0) ∧ w'.cell? ⟨aT, 1, none⟩ = some (.int .i64 a0_1) ∧ w'.cell? ⟨aT, 2, none⟩ = some (.slice A0_2 l0_2.length c0_2) ∧ w'.cell? ⟨aZ, 0, none⟩ = some (.int .i64 a1_0) ∧ w'.cell? ⟨aZ, 1, none⟩ = some (.int .i64 a1_1) ∧ w'.cell? ⟨aZ, 2, none⟩ = some (.int .i64 a1_2)) (ds := []) #[false, false, false, false, false, false, false, false, false, false, false] (by kernel_rfl) rfl rfl ⟨(blk_cell aA.out 0).trans rfl, (blk_cell aA.out 1).trans rfl, (blk_cell aA.out 2).trans rfl, (blk_cell aB.out 0).trans rfl, (blk_cell aB.out 1).trans rfl, (blk_cell aB.out 2).trans rfl⟩ (fun bA => ?_); refine with_tabW laws_FnExactAddClue.tab24 laws_FnExactAddClue.bits24 (fun HT_ HW_ => ?_)
                      generalize w137.drew = w138 at aY aV aS aA aB aC aD aJ HB bA ⊢
                      refine take_ (i := 0) (N := some 80) (v := ?_) (a' := ?_) #[true, false, false, false, false, false, false, false, false, false, false] rfl rfl (take_ofW HT_.out HW_.out (by kernel_rfl)) (fun _ _ _ h => h) (Or.inl ⟨by rfl, ?_⟩) bA ?_ ?_
                      rotate_left
                      · rintro w' ⟨s0, s1, s2, s3, s4, s5⟩
                        go_simp
                        with_reducible rfl
                      rotate_left
                      · simp only [Act.put, List.setIfInBounds_toArray, List.set_cons_zero, List.set_cons_succ, i64_w, i32_w]
                        rfl
                      refine take_ (i := 2) (N := some 82) (v := ?_) (a' := ?_) #[true, false, true, false, false, false, false, false, false, false, false] rfl rfl (take_ofW HT_.out HW_.out (by kernel_rfl)) (fun _ _ _ h => h) (Or.inl ⟨by rfl, ?_⟩) bA ?_ ?_
                      rotate_left
                      · rintro w' ⟨s0, s1, s2, s3, s4, s5⟩
                        go_simp
                        with_reducible rfl
                      rotate_left
                      · simp only [Act.put, List.setIfInBounds_toArray, List.set_cons_zero, List.set_cons_succ, i64_w, i32_w]
                        rfl
                      refine join_ (σ := Value × Value × Nat) 2 #[true, true, true, true, true, true, true, true, true, false, false] (fun s_ => [(81, .agg #[.int .i64 t409, .int .i64 t410, s_.1]), (83, .agg #[.int .i64 t414, .int .i64 t415, .int .i64 t416]), (84, .tuple #[.agg #[.int .i64 t417, .int .i64 t418, s_.2.1], .bool t422]), (14, .pointer (some ⟨s_.2.2, 0, none⟩)), (79, .tuple #[.agg #[.int .i64 t417, .int .i64 t418, s_.2.1], .bool t422]), (85, .agg #[.int .i64 t417, .int .i64 t418, s_.2.1]), (86, .bool t422)]) (fun s_ w' => (w'.cell? ⟨aT, 0, none⟩ = some (.int .i64 a0_0) ∧ w'.cell? ⟨aT, 1, none⟩ = some (.int .i64 a0_1) ∧ w'.cell? ⟨aT, 2, none⟩ = some (.slice A0_2 l0_2.length c0_2) ∧ w'.cell? ⟨aZ, 0, none⟩ = some (.int .i64 a1_0) ∧ w'.cell? ⟨aZ, 1, none⟩ = some (.int .i64 a1_1) ∧ w'.cell? ⟨aZ, 2, none⟩ = some (.int .i64 a1_2)) ∧ (Kd.R k37 37 w' w.heap.size (fun k_ => some k_ ≠ (s_.2.1 : Value).ownBlock ∧ some k_ ≠ (.slice bG t375.length bF : Value).ownBlock ∧ some k_ ≠ (.slice bB t404.length bC : Value).ownBlock ∧ some k_ ≠ (.slice bL t391.length bI : Value).ownBlock) s_.1 t411) ∧ (Kd.R k37 37 w' w.heap.size (fun k_ => some k_ ≠ (s_.1 : Value).ownBlock ∧ some k_ ≠ (.slice bG t375.length bF : Value).ownBlock ∧ some k_ ≠ (.slice bB t404.length bC : Value).ownBlock ∧ some k_ ≠ (.slice bL t391.length bI : Value).ownBlock) s_.2.1 t419) ∧ (Kd.R k37 37 w' w.heap.size (fun k_ => some k_ ≠ (s_.1 : Value).ownBlock ∧ some k_ ≠ (s_.2.1 : Value).ownBlock ∧ some k_ ≠ (.slice bB t404.length bC : Value).ownBlock ∧ some k_ ≠ (.slice bL t391.length bI : Value).ownBlock) (.slice bG t375.length bF) t375) ∧ (Kd.R k37 37 w' w.heap.size (fun k_ => some k_ ≠ (s_.1 : Value).ownBlock ∧ some k_ ≠ (s_.2.1 : Value).ownBlock ∧ some k_ ≠ (.slice bG t375.length bF : Value).ownBlock ∧ some k_ ≠ (.slice bL t391.length bI : Value).ownBlock) (.slice bB t404.length bC) t404) ∧ (Kd.R k37 37 w' w.heap.size (fun k_ => some k_ ≠ (s_.1 : Value).ownBlock ∧ some k_ ≠ (s_.2.1 : Value).ownBlock ∧ some k_ ≠ (.slice bG t375.length bF : Value).ownBlock ∧ some k_ ≠ (.slice bB t404.length bC : Value).ownBlock) (.slice bL t391.length bI) t407) ∧ (w'.heap[aT]? = some (.cells #[.int .i64 a0_0, .int .i64 a0_1, .slice A0_2 l0_2.length c0_2] 26 (0, 0))) ∧ (w'.heap[aZ]? = some (.cells #[.int .i64 a1_0, .int .i64 a1_1, .int .i64 a1_2] 28 (0, 0))) ∧ (w'.heap[aP]? = some (.cells #[.int .i64 t373, .int .i64 t374, .slice bG t375.length bF] 33 (0, 0))) ∧ (w'.heap[aX]? = some (.cells #[.int .i64 t380, .int .i64 t381, .slice bB t404.length bC] 33 (0, 0))) ∧ (w'.heap[aO]? = some (.cells #[.int .i64 t389, .int .i64 t390, .slice bL t391.length bI] 33 (0, 0))) ∧ (w'.heap[s_.2.2]? = some (.cells #[.int .i64 0, .int .i64 0, .slice none 0 0] 33 (0, 0))) ∧ (w.heap.size ≤ s_.2.2) ∧ (w.heap.size ≤ s_.2.2) ∧ (aT ≠ s_.2.2) ∧ (s_.2.2 ≠ aT) ∧ (aZ ≠ s_.2.2) ∧ (s_.2.2 ≠ aZ) ∧ (aP ≠ s_.2.2) ∧ (s_.2.2 ≠ aP) ∧ (aX ≠ s_.2.2) ∧ (s_.2.2 ≠ aX) ∧ (aO ≠ s_.2.2) ∧ (s_.2.2 ≠ aO) ∧ (Below w.heap.size w w')) ?_ ?_
                      rotate_left
                      · intro hCont
                        refine two_ (i := 1) (j := 8) (Ni := some 81) (Nj := some 14) #[true, true, true, false, false, false, false, false, false, false, false] #[true, false, true, false, false, false, false, false, true, false, false] rfl rfl rfl rfl (two_of HT_.out (by kernel_rfl)) (by decide) (by decide) (fun K hK => ?_) (fun K hK => ?_)
                        · skip
                          refine goes_ Try.func8 (by kernel_rfl) rfl #[.agg #[.int .i64 a0_0, .int .i64 a0_1, .slice A0_2 l0_2.length c0_2]] (by rfl) rfl rfl (by (try simp only [List.map_toArray, List.map_cons, List.map_nil]); first | done | rfl | (simp only [List.length_drop, List.length_take]; rfl)) ?_
                          with_reducible refine (laws_toPuzzle.calls kj78 a0_0 a0_1 _ _ l0_2 t409 t410 t411 _ ?side1 ?side2 A126.out).mono ?_
                          (case side1 => repeat (first | exact (Kd.C_below HR0_2.out HB.out) | (with_reducible refine Kd.C_alloc ?_ _) | (with_reducible refine Kd.C_drewN ?_ _) | (with_reducible refine Kd.C_drew ?_)))
                          (case side2 => exact dF.out)
                          rintro e w139 ⟨v412, rfl, ho0, hb⟩
                          refine ⟨_, rfl, ?_⟩
                          have aE := aM (Kd.R_elder' aY.out (Kd.R_base ho0) hb)
                          have aF := aM (Kd.R_elder' aV.out (Kd.R_base ho0) hb)
                          have aG := aM (Kd.R_elder' aS.out (Kd.R_base ho0) hb)
                          have aH := aM (Kd.R_lower (Kd.R_new' (Kd.R_new' (Kd.R_new' ho0 (Kd.R_lt aY.out)) (Kd.R_lt aV.out)) (Kd.R_lt aS.out)) (below_size HB.out))
                          have aI := aM (blk_below aA.out hb)
                          have aK := aM (blk_below aB.out hb)
                          have aL := aM (blk_below aC.out hb)
                          have aN := aM (blk_below aD.out hb)
                          have aR := aM (blk_below aJ.out hb)
                          have aW := aM (bp_ HB.out hb)
                          clear aY aV aS aA aB aC aD aJ HB
                          have aY := aE
                          have aV := aF
                          have aS := aG
                          have bH := aH
                          have aA := aI
                          have aB := aK
                          have aC := aL
                          have aD := aN
                          have aJ := aR
                          have HB := aW
                          clear aE aF aG aH aI aK aL aN aR aW
                          (try clear hb)
                          (try clear hb2)
                          (try clear hk)
                          (try clear hi)
                          (try clear ho0)
                          refine hK.out _ _ ⟨(blk_cell aA.out 0).trans rfl, (blk_cell aA.out 1).trans rfl, (blk_cell aA.out 2).trans rfl, (blk_cell aB.out 0).trans rfl, (blk_cell aB.out 1).trans rfl, (blk_cell aB.out 2).trans rfl⟩ (fun bA => ?_)
                          clear hK K
                          refine norm_ (a' := ?_) ?_ ?_
                          rotate_left
                          · show Act.put _ (some 81) _ = _
                            simp only [Act.put, List.setIfInBounds_toArray, List.set_cons_zero, List.set_cons_succ, i64_w, i32_w]
                            rfl
                          refine two_ (i := 3) (j := 8) (Ni := some 83) (Nj := some 14) #[true, true, true, true, false, false, false, false, false, false, false] #[true, true, true, false, false, false, false, false, true, false, false] rfl rfl rfl rfl (two_of HT_.out (by kernel_rfl)) (by decide) (by decide) (fun K hK => ?_) (fun K hK => ?_)
                          · skip
                            refine goes_ Try.func9 (by kernel_rfl) rfl #[.agg #[.int .i64 a1_0, .int .i64 a1_1, .int .i64 a1_2]] (by rfl) rfl rfl (by (try simp only [List.map_toArray, List.map_cons, List.map_nil]); first | done | rfl | (simp only [List.length_drop, List.length_take]; rfl)) ?_
                            with_reducible refine (laws_toClue.calls a1_0 a1_1 a1_2 t414 t415 t416 _ A127.out).mono ?_
                            rintro e w140 ⟨rfl, hb⟩
                            refine ⟨_, rfl, ?_⟩
                            have aE := aM (Kd.R_below aY.out hb)
                            have aF := aM (Kd.R_below aV.out hb)
                            have aG := aM (Kd.R_below aS.out hb)
                            have aH := aM (Kd.R_below bH.out hb)
                            have aI := aM (blk_below aA.out hb)
                            have aK := aM (blk_below aB.out hb)
                            have aL := aM (blk_below aC.out hb)
                            have aN := aM (blk_below aD.out hb)
                            have aR := aM (blk_below aJ.out hb)
                            have aW := aM (bp_ HB.out hb)
                            clear aY aV aS bH aA aB aC aD aJ HB
                            have aY := aE
                            have aV := aF
                            have aS := aG
                            have bH := aH
                            have aA := aI
                            have aB := aK
                            have aC := aL
                            have aD := aN
                            have aJ := aR
                            have HB := aW
                            clear aE aF aG aH aI aK aL aN aR aW
                            (try clear hb)
                            (try clear hb2)
                            (try clear hk)
                            (try clear hi)
                            obtain ⟨fF, fG, fH⟩ := Kd.R_slice bH.out
                            (first | subst fH | (injection fH with f1_ f2_ f3_; have f4_ := f1_.symm; have f5_ := f3_.symm; clear f1_ f2_ f3_; subst f4_; subst f5_))
                            refine hK.out _ _ ⟨(blk_cell aA.out 0).trans rfl, (blk_cell aA.out 1).trans rfl, (blk_cell aA.out 2).trans rfl, (blk_cell aB.out 0).trans rfl, (blk_cell aB.out 1).trans rfl, (blk_cell aB.out 2).trans rfl⟩ (fun bA => ?_)
                            clear hK K
                            refine norm_ (a' := ?_) ?_ ?_
                            rotate_left
                            · show Act.put _ (some 83) _ = _
                              simp only [Act.put, List.setIfInBounds_toArray, List.set_cons_zero, List.set_cons_succ, i64_w, i32_w]
                              rfl
                            refine two_ (i := 4) (j := 8) (Ni := some 84) (Nj := some 14) #[true, true, true, true, true, false, false, false, false, false, false] #[true, true, true, true, false, false, false, false, true, false, false] rfl rfl rfl rfl (two_of HT_.out (by kernel_rfl)) (by decide) (by decide) (fun K hK => ?_) (fun K hK => ?_)
                            · skip
                              refine goes_ Try.func10 (by kernel_rfl) rfl #[.agg #[.int .i64 t409, .int .i64 t410, .slice fF t411.length fG], .agg #[.int .i64 t414, .int .i64 t415, .int .i64 t416]] (by rfl) rfl rfl (by (try simp only [List.map_toArray, List.map_cons, List.map_nil]); first | done | rfl | (simp only [List.length_drop, List.length_take]; rfl)) ?_
                              with_reducible refine (impl_AddClue.calls t409 t410 _ _ t411 t414 t415 t416 t417 t418 t419 t422 _ ?side1 ?side2 A128.out).mono ?_
                              (case side1 => repeat (first | exact (Kd.R_reads' bH.out).2.2 | (with_reducible refine Kd.C_alloc ?_ _) | (with_reducible refine Kd.C_drewN ?_ _) | (with_reducible refine Kd.C_drew ?_)))
                              (case side2 => exact (Kd.R_reads' bH.out).2.1)
                              rintro e w142 ⟨v420, rfl, ho0, hb⟩
                              refine ⟨_, rfl, ?_⟩
                              have aE := aM (Kd.R_elder' aY.out (Kd.R_base ho0) hb)
                              have aF := aM (Kd.R_elder' aV.out (Kd.R_base ho0) hb)
                              have aG := aM (Kd.R_elder' aS.out (Kd.R_base ho0) hb)
                              have aH := aM (Kd.R_elder' bH.out (Kd.R_base ho0) hb)
                              have aI := aM (Kd.R_lower (Kd.R_new' (Kd.R_new' (Kd.R_new' (Kd.R_new' ho0 (Kd.R_lt aY.out)) (Kd.R_lt aV.out)) (Kd.R_lt aS.out)) (Kd.R_lt bH.out)) (below_size HB.out))
                              have aK := aM (blk_below aA.out hb)
                              have aL := aM (blk_below aB.out hb)
                              have aN := aM (blk_below aC.out hb)
                              have aR := aM (blk_below aD.out hb)
                              have aW := aM (blk_below aJ.out hb)
                              have bD := aM (bp_ HB.out hb)
                              clear aY aV aS bH aA aB aC aD aJ HB
                              have aY := aE
                              have aV := aF
                              have aS := aG
                              have bH := aH
                              have cE := aI
                              have aA := aK
                              have aB := aL
                              have aC := aN
                              have aD := aR
                              have aJ := aW
                              have HB := bD
                              clear aE aF aG aH aI aK aL aN aR aW bD
                              (try clear hb)
                              (try clear hb2)
                              (try clear hk)
                              (try clear hi)
                              (try clear ho0)
                              refine hK.out _ _ ⟨(blk_cell aA.out 0).trans rfl, (blk_cell aA.out 1).trans rfl, (blk_cell aA.out 2).trans rfl, (blk_cell aB.out 0).trans rfl, (blk_cell aB.out 1).trans rfl, (blk_cell aB.out 2).trans rfl⟩ (fun bA => ?_)
                              clear hK K
                              refine norm_ (a' := ?_) ?_ ?_
                              rotate_left
                              · show Act.put _ (some 84) _ = _
                                simp only [Act.put, List.setIfInBounds_toArray, List.set_cons_zero, List.set_cons_succ, i64_w, i32_w]
                                rfl
                              refine pure_ (i := 5) (N := some 79) (v := ?_) (a' := ?_) #[true, true, true, true, true, true, false, false, false, false, false] rfl rfl (any_of HT_.out (by kernel_rfl)) (fun _ _ _ h => h) (Or.inl ⟨by rfl, ?_⟩) ?_ ?_
                              rotate_left
                              · intro w'
                                go_simp
                                with_reducible rfl
                              rotate_left
                              · simp only [Act.put, List.setIfInBounds_toArray, List.set_cons_zero, List.set_cons_succ, i64_w, i32_w]
                                rfl
                              refine pure_ (i := 6) (N := some 85) (v := ?_) (a' := ?_) #[true, true, true, true, true, true, true, false, false, false, false] rfl rfl (any_of HT_.out (by kernel_rfl)) (fun _ _ _ h => h) (Or.inl ⟨by rfl, ?_⟩) ?_ ?_
                              rotate_left
                              · intro w'
                                go_simp
                                with_reducible rfl
                              rotate_left
                              · simp only [Act.put, List.setIfInBounds_toArray, List.set_cons_zero, List.set_cons_succ, i64_w, i32_w]
                                rfl
                              refine pure_ (i := 7) (N := some 86) (v := ?_) (a' := ?_) #[true, true, true, true, true, true, true, true, false, false, false] rfl rfl (any_of HT_.out (by kernel_rfl)) (fun _ _ _ h => h) (Or.inl ⟨by rfl, ?_⟩) ?_ ?_
                              rotate_left
                              · intro w'
                                go_simp
                                with_reducible rfl
                              rotate_left
                              · simp only [Act.put, List.setIfInBounds_toArray, List.set_cons_zero, List.set_cons_succ, i64_w, i32_w]
                                rfl
                              refine one_ (i := 8) (N := some 14) #[true, true, true, true, true, true, true, true, true, false, false] rfl rfl (one_of HT_.out (by kernel_rfl)) (by decide) (fun K hK => ?_)
                              refine box_step ?hg (N := 14) ?hd (cs := #[.int .i64 0, .int .i64 0, .slice none 0 0]) (t := 33) ?hr ?_; (case hd => rfl); (case hg => rfl); (case hr => first | (go_simp; done) | (go_simp; rfl))
                              intro aQ hg w143 hbox hb
                              have aE := aM (Kd.R_below aY.out hb)
                              have aF := aM (Kd.R_below aV.out hb)
                              have aG := aM (Kd.R_below aS.out hb)
                              have aH := aM (Kd.R_below bH.out hb)
                              have aI := aM (Kd.R_below cE.out hb)
                              have aK := aM (blk_below aA.out hb)
                              have aL := aM (blk_below aB.out hb)
                              have aN := aM (blk_below aC.out hb)
                              have aR := aM (blk_below aD.out hb)
                              have aW := aM (blk_below aJ.out hb)
                              have bD := aM (bp_ HB.out hb)
                              have bM := aM (hbox)
                              have bN := aM ((by rw [hg]; exact (below_size HB.out) : w.heap.size ≤ aQ))
                              have bO := aM ((by rw [hg]; exact (below_size HB.out) : w.heap.size ≤ aQ))
                              have bP := aM ((by rw [hg]; exact Nat.ne_of_lt (blk_lt aA.out) : aT ≠ aQ))
                              have bQ := aM ((by rw [hg]; exact Nat.ne_of_gt (blk_lt aA.out) : aQ ≠ aT))
                              have bW := aM ((by rw [hg]; exact Nat.ne_of_lt (blk_lt aB.out) : aZ ≠ aQ))
                              have bX := aM ((by rw [hg]; exact Nat.ne_of_gt (blk_lt aB.out) : aQ ≠ aZ))
                              have bY := aM ((by rw [hg]; exact Nat.ne_of_lt (blk_lt aC.out) : aP ≠ aQ))
                              have cD := aM ((by rw [hg]; exact Nat.ne_of_gt (blk_lt aC.out) : aQ ≠ aP))
                              have cS := aM ((by rw [hg]; exact Nat.ne_of_lt (blk_lt aD.out) : aX ≠ aQ))
                              have cT := aM ((by rw [hg]; exact Nat.ne_of_gt (blk_lt aD.out) : aQ ≠ aX))
                              have dE := aM ((by rw [hg]; exact Nat.ne_of_lt (blk_lt aJ.out) : aO ≠ aQ))
                              have dY := aM ((by rw [hg]; exact Nat.ne_of_gt (blk_lt aJ.out) : aQ ≠ aO))
                              clear aY aV aS bH cE aA aB aC aD aJ HB
                              have aY := aE
                              have aV := aF
                              have aS := aG
                              have bH := aH
                              have cE := aI
                              have aA := aK
                              have aB := aL
                              have aC := aN
                              have aD := aR
                              have aJ := aW
                              have HB := bD
                              have bJ := bM
                              have dL := bN
                              have cZ := bO
                              have cA := bP
                              have dA := bQ
                              have cB := bW
                              have dB := bX
                              have cN := bY
                              have dC := cD
                              have cO := cS
                              have dD := cT
                              have cK := dE
                              have cW := dY
                              clear aE aF aG aH aI aK aL aN aR aW bD bM bN bO bP bQ bW bX bY cD cS cT dE dY hb hbox hg
                              refine hK.out _ _ ⟨(blk_cell aA.out 0).trans rfl, (blk_cell aA.out 1).trans rfl, (blk_cell aA.out 2).trans rfl, (blk_cell aB.out 0).trans rfl, (blk_cell aB.out 1).trans rfl, (blk_cell aB.out 2).trans rfl⟩ (fun bA => ?_)
                              clear hK K
                              refine norm_ (a' := ?_) ?_ ?_
                              rotate_left
                              · show Act.put _ (some 14) _ = _
                                simp only [Act.put, List.setIfInBounds_toArray, List.set_cons_zero, List.set_cons_succ, i64_w, i32_w]
                                rfl
                              exact norm_ (by simp only [putAll, Act.put, List.setIfInBounds_toArray, List.set_cons_zero, List.set_cons_succ]) (hCont (.slice fF t411.length fG, v420, aQ) _ ⟨bA, (by (with_reducible repeat (first | apply Kd.R_alloc | apply Kd.R_drewN | apply Kd.R_drew)); exact Kd.R_mono bH.out (fun _ hk => ⟨hk.2, ⟨hk.1.1.1.2, ⟨hk.1.1.2, hk.1.2⟩⟩⟩)), (by (with_reducible repeat (first | apply Kd.R_alloc | apply Kd.R_drewN | apply Kd.R_drew)); exact Kd.R_mono cE.out (fun _ hk => ⟨hk.2, ⟨hk.1.1.1.2, ⟨hk.1.1.2, hk.1.2⟩⟩⟩)), (by (with_reducible repeat (first | apply Kd.R_alloc | apply Kd.R_drewN | apply Kd.R_drew)); exact Kd.R_mono aY.out (fun _ hk => ⟨hk.1.2, ⟨hk.2, ⟨hk.1.1.1, hk.1.1.2⟩⟩⟩)), (by (with_reducible repeat (first | apply Kd.R_alloc | apply Kd.R_drewN | apply Kd.R_drew)); exact Kd.R_mono aV.out (fun _ hk => ⟨hk.1.2, ⟨hk.2, ⟨hk.1.1.1, hk.1.1.2⟩⟩⟩)), (by (with_reducible repeat (first | apply Kd.R_alloc | apply Kd.R_drewN | apply Kd.R_drew)); exact Kd.R_mono aS.out (fun _ hk => ⟨hk.1.2, ⟨hk.2, ⟨hk.1.1.1, hk.1.1.2⟩⟩⟩)), aA.out, aB.out, aC.out, aD.out, aJ.out, bJ.out, dL.out, cZ.out, cA.out, dA.out, cB.out, dB.out, cN.out, dC.out, cO.out, dD.out, cK.out, cW.out, HB.out⟩)
                            · skip
                              refine box_step ?hg (N := 14) ?hd (cs := #[.int .i64 0, .int .i64 0, .slice none 0 0]) (t := 33) ?hr ?_; (case hd => rfl); (case hg => rfl); (case hr => first | (go_simp; done) | (go_simp; rfl))
                              intro aQ hg w141 hbox hb
                              have aE := aM (Kd.R_below aY.out hb)
                              have aF := aM (Kd.R_below aV.out hb)
                              have aG := aM (Kd.R_below aS.out hb)
                              have aH := aM (Kd.R_below bH.out hb)
                              have aI := aM (blk_below aA.out hb)
                              have aK := aM (blk_below aB.out hb)
                              have aL := aM (blk_below aC.out hb)
                              have aN := aM (blk_below aD.out hb)
                              have aR := aM (blk_below aJ.out hb)
                              have aW := aM (bp_ HB.out hb)
                              have bD := aM (hbox)
                              have bM := aM ((by rw [hg]; exact (below_size HB.out) : w.heap.size ≤ aQ))
                              have bN := aM ((by rw [hg]; exact (below_size HB.out) : w.heap.size ≤ aQ))
                              have bO := aM ((by rw [hg]; exact Nat.ne_of_lt (blk_lt aA.out) : aT ≠ aQ))
                              have bP := aM ((by rw [hg]; exact Nat.ne_of_gt (blk_lt aA.out) : aQ ≠ aT))
                              have bQ := aM ((by rw [hg]; exact Nat.ne_of_lt (blk_lt aB.out) : aZ ≠ aQ))
                              have bW := aM ((by rw [hg]; exact Nat.ne_of_gt (blk_lt aB.out) : aQ ≠ aZ))
                              have bX := aM ((by rw [hg]; exact Nat.ne_of_lt (blk_lt aC.out) : aP ≠ aQ))
                              have bY := aM ((by rw [hg]; exact Nat.ne_of_gt (blk_lt aC.out) : aQ ≠ aP))
                              have cD := aM ((by rw [hg]; exact Nat.ne_of_lt (blk_lt aD.out) : aX ≠ aQ))
                              have cS := aM ((by rw [hg]; exact Nat.ne_of_gt (blk_lt aD.out) : aQ ≠ aX))
                              have cT := aM ((by rw [hg]; exact Nat.ne_of_lt (blk_lt aJ.out) : aO ≠ aQ))
                              have dE := aM ((by rw [hg]; exact Nat.ne_of_gt (blk_lt aJ.out) : aQ ≠ aO))
                              clear aY aV aS bH aA aB aC aD aJ HB
                              have aY := aE
                              have aV := aF
                              have aS := aG
                              have bH := aH
                              have aA := aI
                              have aB := aK
                              have aC := aL
                              have aD := aN
                              have aJ := aR
                              have HB := aW
                              have bJ := bD
                              have dL := bM
                              have cZ := bN
                              have cA := bO
                              have dA := bP
                              have cB := bQ
                              have dB := bW
                              have cN := bX
                              have dC := bY
                              have cO := cD
                              have dD := cS
                              have cK := cT
                              have cW := dE
                              clear aE aF aG aH aI aK aL aN aR aW bD bM bN bO bP bQ bW bX bY cD cS cT dE hb hbox hg
                              obtain ⟨dM, dN, dO⟩ := Kd.R_slice bH.out
                              (first | subst dO | (injection dO with f1_ f2_ f3_; have f4_ := f1_.symm; have f5_ := f3_.symm; clear f1_ f2_ f3_; subst f4_; subst f5_))
                              refine hK.out _ _ ⟨(blk_cell aA.out 0).trans rfl, (blk_cell aA.out 1).trans rfl, (blk_cell aA.out 2).trans rfl, (blk_cell aB.out 0).trans rfl, (blk_cell aB.out 1).trans rfl, (blk_cell aB.out 2).trans rfl⟩ (fun bA => ?_)
                              clear hK K
                              refine norm_ (a' := ?_) ?_ ?_
                              rotate_left
                              · show Act.put _ (some 14) _ = _
                                simp only [Act.put, List.setIfInBounds_toArray, List.set_cons_zero, List.set_cons_succ, i64_w, i32_w]
                                rfl
                              refine one_ (i := 4) (N := some 84) #[true, true, true, true, true, false, false, false, true, false, false] rfl rfl (one_of HT_.out (by kernel_rfl)) (by decide) (fun K hK => ?_)
                              refine goes_ Try.func10 (by kernel_rfl) rfl #[.agg #[.int .i64 t409, .int .i64 t410, .slice dM t411.length dN], .agg #[.int .i64 t414, .int .i64 t415, .int .i64 t416]] (by rfl) rfl rfl (by (try simp only [List.map_toArray, List.map_cons, List.map_nil]); first | done | rfl | (simp only [List.length_drop, List.length_take]; rfl)) ?_
                              with_reducible refine (impl_AddClue.calls t409 t410 _ _ t411 t414 t415 t416 t417 t418 t419 t422 _ ?side1 ?side2 A128.out).mono ?_
                              (case side1 => repeat (first | exact (Kd.R_reads' bH.out).2.2 | (with_reducible refine Kd.C_alloc ?_ _) | (with_reducible refine Kd.C_drewN ?_ _) | (with_reducible refine Kd.C_drew ?_)))
                              (case side2 => exact (Kd.R_reads' bH.out).2.1)
                              rintro e w143 ⟨v420, rfl, ho0, hb⟩
                              refine ⟨_, rfl, ?_⟩
                              have aE := aM (Kd.R_elder' aY.out (Kd.R_base ho0) hb)
                              have aF := aM (Kd.R_elder' aV.out (Kd.R_base ho0) hb)
                              have aG := aM (Kd.R_elder' aS.out (Kd.R_base ho0) hb)
                              have aH := aM (Kd.R_elder' bH.out (Kd.R_base ho0) hb)
                              have aI := aM (Kd.R_lower (Kd.R_new' (Kd.R_new' (Kd.R_new' (Kd.R_new' ho0 (Kd.R_lt aY.out)) (Kd.R_lt aV.out)) (Kd.R_lt aS.out)) (Kd.R_lt bH.out)) (below_size HB.out))
                              have aK := aM (blk_below aA.out hb)
                              have aL := aM (blk_below aB.out hb)
                              have aN := aM (blk_below aC.out hb)
                              have aR := aM (blk_below aD.out hb)
                              have aW := aM (blk_below aJ.out hb)
                              have bD := aM (blk_below bJ.out hb)
                              have bM := aM (bp_ HB.out hb)
                              clear aY aV aS bH aA aB aC aD aJ bJ HB
                              have aY := aE
                              have aV := aF
                              have aS := aG
                              have bH := aH
                              have cE := aI
                              have aA := aK
                              have aB := aL
                              have aC := aN
                              have aD := aR
                              have aJ := aW
                              have bJ := bD
                              have HB := bM
                              clear aE aF aG aH aI aK aL aN aR aW bD bM
                              (try clear hb)
                              (try clear hb2)
                              (try clear hk)
                              (try clear hi)
                              (try clear ho0)
                              refine hK.out _ _ ⟨(blk_cell aA.out 0).trans rfl, (blk_cell aA.out 1).trans rfl, (blk_cell aA.out 2).trans rfl, (blk_cell aB.out 0).trans rfl, (blk_cell aB.out 1).trans rfl, (blk_cell aB.out 2).trans rfl⟩ (fun bA => ?_)
                              clear hK K
                              refine norm_ (a' := ?_) ?_ ?_
                              rotate_left
                              · show Act.put _ (some 84) _ = _
                                simp only [Act.put, List.setIfInBounds_toArray, List.set_cons_zero, List.set_cons_succ, i64_w, i32_w]
                                rfl
                              refine pure_ (i := 5) (N := some 79) (v := ?_) (a' := ?_) #[true, true, true, true, true, true, false, false, true, false, false] rfl rfl (any_of HT_.out (by kernel_rfl)) (fun _ _ _ h => h) (Or.inl ⟨by rfl, ?_⟩) ?_ ?_
                              rotate_left
                              · intro w'
                                go_simp
                                with_reducible rfl
                              rotate_left
                              · simp only [Act.put, List.setIfInBounds_toArray, List.set_cons_zero, List.set_cons_succ, i64_w, i32_w]
                                rfl
                              refine pure_ (i := 6) (N := some 85) (v := ?_) (a' := ?_) #[true, true, true, true, true, true, true, false, true, false, false] rfl rfl (any_of HT_.out (by kernel_rfl)) (fun _ _ _ h => h) (Or.inl ⟨by rfl, ?_⟩) ?_ ?_
                              rotate_left
                              · intro w'
                                go_simp
                                with_reducible rfl
                              rotate_left
                              · simp only [Act.put, List.setIfInBounds_toArray, List.set_cons_zero, List.set_cons_succ, i64_w, i32_w]
                                rfl
                              refine pure_ (i := 7) (N := some 86) (v := ?_) (a' := ?_) #[true, true, true, true, true, true, true, true, true, false, false] rfl rfl (any_of HT_.out (by kernel_rfl)) (fun _ _ _ h => h) (Or.inl ⟨by rfl, ?_⟩) ?_ ?_
                              rotate_left
                              · intro w'
                                go_simp
                                with_reducible rfl
                              rotate_left
                              · simp only [Act.put, List.setIfInBounds_toArray, List.set_cons_zero, List.set_cons_succ, i64_w, i32_w]
                                rfl
                              exact norm_ (by simp only [putAll, Act.put, List.setIfInBounds_toArray, List.set_cons_zero, List.set_cons_succ]) (hCont (.slice dM t411.length dN, v420, aQ) _ ⟨bA, (by (with_reducible repeat (first | apply Kd.R_alloc | apply Kd.R_drewN | apply Kd.R_drew)); exact Kd.R_mono bH.out (fun _ hk => ⟨hk.2, ⟨hk.1.1.1.2, ⟨hk.1.1.2, hk.1.2⟩⟩⟩)), (by (with_reducible repeat (first | apply Kd.R_alloc | apply Kd.R_drewN | apply Kd.R_drew)); exact Kd.R_mono cE.out (fun _ hk => ⟨hk.2, ⟨hk.1.1.1.2, ⟨hk.1.1.2, hk.1.2⟩⟩⟩)), (by (with_reducible repeat (first | apply Kd.R_alloc | apply Kd.R_drewN | apply Kd.R_drew)); exact Kd.R_mono aY.out (fun _ hk => ⟨hk.1.2, ⟨hk.2, ⟨hk.1.1.1, hk.1.1.2⟩⟩⟩)), (by (with_reducible repeat (first | apply Kd.R_alloc | apply Kd.R_drewN | apply Kd.R_drew)); exact Kd.R_mono aV.out (fun _ hk => ⟨hk.1.2, ⟨hk.2, ⟨hk.1.1.1, hk.1.1.2⟩⟩⟩)), (by (with_reducible repeat (first | apply Kd.R_alloc | apply Kd.R_drewN | apply Kd.R_drew)); exact Kd.R_mono aS.out (fun _ hk => ⟨hk.1.2, ⟨hk.2, ⟨hk.1.1.1, hk.1.1.2⟩⟩⟩)), aA.out, aB.out, aC.out, aD.out, aJ.out, bJ.out, dL.out, cZ.out, cA.out, dA.out, cB.out, dB.out, cN.out, dC.out, cO.out, dD.out, cK.out, cW.out, HB.out⟩)
                          · skip
                            refine box_step ?hg (N := 14) ?hd (cs := #[.int .i64 0, .int .i64 0, .slice none 0 0]) (t := 33) ?hr ?_; (case hd => rfl); (case hg => rfl); (case hr => first | (go_simp; done) | (go_simp; rfl))
                            intro aQ hg w140 hbox hb
                            have aE := aM (Kd.R_below aY.out hb)
                            have aF := aM (Kd.R_below aV.out hb)
                            have aG := aM (Kd.R_below aS.out hb)
                            have aH := aM (Kd.R_below bH.out hb)
                            have aI := aM (blk_below aA.out hb)
                            have aK := aM (blk_below aB.out hb)
                            have aL := aM (blk_below aC.out hb)
                            have aN := aM (blk_below aD.out hb)
                            have aR := aM (blk_below aJ.out hb)
                            have aW := aM (bp_ HB.out hb)
                            have bD := aM (hbox)
                            have bM := aM ((by rw [hg]; exact (below_size HB.out) : w.heap.size ≤ aQ))
                            have bN := aM ((by rw [hg]; exact (below_size HB.out) : w.heap.size ≤ aQ))
                            have bO := aM ((by rw [hg]; exact Nat.ne_of_lt (blk_lt aA.out) : aT ≠ aQ))
                            have bP := aM ((by rw [hg]; exact Nat.ne_of_gt (blk_lt aA.out) : aQ ≠ aT))
                            have bQ := aM ((by rw [hg]; exact Nat.ne_of_lt (blk_lt aB.out) : aZ ≠ aQ))
                            have bW := aM ((by rw [hg]; exact Nat.ne_of_gt (blk_lt aB.out) : aQ ≠ aZ))
                            have bX := aM ((by rw [hg]; exact Nat.ne_of_lt (blk_lt aC.out) : aP ≠ aQ))
                            have bY := aM ((by rw [hg]; exact Nat.ne_of_gt (blk_lt aC.out) : aQ ≠ aP))
                            have cD := aM ((by rw [hg]; exact Nat.ne_of_lt (blk_lt aD.out) : aX ≠ aQ))
                            have cS := aM ((by rw [hg]; exact Nat.ne_of_gt (blk_lt aD.out) : aQ ≠ aX))
                            have cT := aM ((by rw [hg]; exact Nat.ne_of_lt (blk_lt aJ.out) : aO ≠ aQ))
                            have dE := aM ((by rw [hg]; exact Nat.ne_of_gt (blk_lt aJ.out) : aQ ≠ aO))
                            clear aY aV aS bH aA aB aC aD aJ HB
                            have aY := aE
                            have aV := aF
                            have aS := aG
                            have bH := aH
                            have aA := aI
                            have aB := aK
                            have aC := aL
                            have aD := aN
                            have aJ := aR
                            have HB := aW
                            have bJ := bD
                            have dL := bM
                            have cZ := bN
                            have cA := bO
                            have dA := bP
                            have cB := bQ
                            have dB := bW
                            have cN := bX
                            have dC := bY
                            have cO := cD
                            have dD := cS
                            have cK := cT
                            have cW := dE
                            clear aE aF aG aH aI aK aL aN aR aW bD bM bN bO bP bQ bW bX bY cD cS cT dE hb hbox hg
                            refine hK.out _ _ ⟨(blk_cell aA.out 0).trans rfl, (blk_cell aA.out 1).trans rfl, (blk_cell aA.out 2).trans rfl, (blk_cell aB.out 0).trans rfl, (blk_cell aB.out 1).trans rfl, (blk_cell aB.out 2).trans rfl⟩ (fun bA => ?_)
                            clear hK K
                            refine norm_ (a' := ?_) ?_ ?_
                            rotate_left
                            · show Act.put _ (some 14) _ = _
                              simp only [Act.put, List.setIfInBounds_toArray, List.set_cons_zero, List.set_cons_succ, i64_w, i32_w]
                              rfl
                            refine one_ (i := 3) (N := some 83) #[true, true, true, true, false, false, false, false, true, false, false] rfl rfl (one_of HT_.out (by kernel_rfl)) (by decide) (fun K hK => ?_)
                            refine goes_ Try.func9 (by kernel_rfl) rfl #[.agg #[.int .i64 a1_0, .int .i64 a1_1, .int .i64 a1_2]] (by rfl) rfl rfl (by (try simp only [List.map_toArray, List.map_cons, List.map_nil]); first | done | rfl | (simp only [List.length_drop, List.length_take]; rfl)) ?_
                            with_reducible refine (laws_toClue.calls a1_0 a1_1 a1_2 t414 t415 t416 _ A127.out).mono ?_
                            rintro e w141 ⟨rfl, hb⟩
                            refine ⟨_, rfl, ?_⟩
                            have aE := aM (Kd.R_below aY.out hb)
                            have aF := aM (Kd.R_below aV.out hb)
                            have aG := aM (Kd.R_below aS.out hb)
                            have aH := aM (Kd.R_below bH.out hb)
                            have aI := aM (blk_below aA.out hb)
                            have aK := aM (blk_below aB.out hb)
                            have aL := aM (blk_below aC.out hb)
                            have aN := aM (blk_below aD.out hb)
                            have aR := aM (blk_below aJ.out hb)
                            have aW := aM (blk_below bJ.out hb)
                            have bD := aM (bp_ HB.out hb)
                            clear aY aV aS bH aA aB aC aD aJ bJ HB
                            have aY := aE
                            have aV := aF
                            have aS := aG
                            have bH := aH
                            have aA := aI
                            have aB := aK
                            have aC := aL
                            have aD := aN
                            have aJ := aR
                            have bJ := aW
                            have HB := bD
                            clear aE aF aG aH aI aK aL aN aR aW bD
                            (try clear hb)
                            (try clear hb2)
                            (try clear hk)
                            (try clear hi)
                            obtain ⟨dM, dN, dO⟩ := Kd.R_slice bH.out
                            (first | subst dO | (injection dO with f1_ f2_ f3_; have f4_ := f1_.symm; have f5_ := f3_.symm; clear f1_ f2_ f3_; subst f4_; subst f5_))
                            refine hK.out _ _ ⟨(blk_cell aA.out 0).trans rfl, (blk_cell aA.out 1).trans rfl, (blk_cell aA.out 2).trans rfl, (blk_cell aB.out 0).trans rfl, (blk_cell aB.out 1).trans rfl, (blk_cell aB.out 2).trans rfl⟩ (fun bA => ?_)
                            clear hK K
                            refine norm_ (a' := ?_) ?_ ?_
                            rotate_left
                            · show Act.put _ (some 83) _ = _
                              simp only [Act.put, List.setIfInBounds_toArray, List.set_cons_zero, List.set_cons_succ, i64_w, i32_w]
                              rfl
                            refine one_ (i := 4) (N := some 84) #[true, true, true, true, true, false, false, false, true, false, false] rfl rfl (one_of HT_.out (by kernel_rfl)) (by decide) (fun K hK => ?_)
                            refine goes_ Try.func10 (by kernel_rfl) rfl #[.agg #[.int .i64 t409, .int .i64 t410, .slice dM t411.length dN], .agg #[.int .i64 t414, .int .i64 t415, .int .i64 t416]] (by rfl) rfl rfl (by (try simp only [List.map_toArray, List.map_cons, List.map_nil]); first | done | rfl | (simp only [List.length_drop, List.length_take]; rfl)) ?_
                            with_reducible refine (impl_AddClue.calls t409 t410 _ _ t411 t414 t415 t416 t417 t418 t419 t422 _ ?side1 ?side2 A128.out).mono ?_
                            (case side1 => repeat (first | exact (Kd.R_reads' bH.out).2.2 | (with_reducible refine Kd.C_alloc ?_ _) | (with_reducible refine Kd.C_drewN ?_ _) | (with_reducible refine Kd.C_drew ?_)))
                            (case side2 => exact (Kd.R_reads' bH.out).2.1)
                            rintro e w143 ⟨v420, rfl, ho0, hb⟩
                            refine ⟨_, rfl, ?_⟩
                            have aE := aM (Kd.R_elder' aY.out (Kd.R_base ho0) hb)
                            have aF := aM (Kd.R_elder' aV.out (Kd.R_base ho0) hb)
                            have aG := aM (Kd.R_elder' aS.out (Kd.R_base ho0) hb)
                            have aH := aM (Kd.R_elder' bH.out (Kd.R_base ho0) hb)
                            have aI := aM (Kd.R_lower (Kd.R_new' (Kd.R_new' (Kd.R_new' (Kd.R_new' ho0 (Kd.R_lt aY.out)) (Kd.R_lt aV.out)) (Kd.R_lt aS.out)) (Kd.R_lt bH.out)) (below_size HB.out))
                            have aK := aM (blk_below aA.out hb)
                            have aL := aM (blk_below aB.out hb)
                            have aN := aM (blk_below aC.out hb)
                            have aR := aM (blk_below aD.out hb)
                            have aW := aM (blk_below aJ.out hb)
                            have bD := aM (blk_below bJ.out hb)
                            have bM := aM (bp_ HB.out hb)
                            clear aY aV aS bH aA aB aC aD aJ bJ HB
                            have aY := aE
                            have aV := aF
                            have aS := aG
                            have bH := aH
                            have cE := aI
                            have aA := aK
                            have aB := aL
                            have aC := aN
                            have aD := aR
                            have aJ := aW
                            have bJ := bD
                            have HB := bM
                            clear aE aF aG aH aI aK aL aN aR aW bD bM
                            (try clear hb)
                            (try clear hb2)
                            (try clear hk)
                            (try clear hi)
                            (try clear ho0)
                            refine hK.out _ _ ⟨(blk_cell aA.out 0).trans rfl, (blk_cell aA.out 1).trans rfl, (blk_cell aA.out 2).trans rfl, (blk_cell aB.out 0).trans rfl, (blk_cell aB.out 1).trans rfl, (blk_cell aB.out 2).trans rfl⟩ (fun bA => ?_)
                            clear hK K
                            refine norm_ (a' := ?_) ?_ ?_
                            rotate_left
                            · show Act.put _ (some 84) _ = _
                              simp only [Act.put, List.setIfInBounds_toArray, List.set_cons_zero, List.set_cons_succ, i64_w, i32_w]
                              rfl
                            refine pure_ (i := 5) (N := some 79) (v := ?_) (a' := ?_) #[true, true, true, true, true, true, false, false, true, false, false] rfl rfl (any_of HT_.out (by kernel_rfl)) (fun _ _ _ h => h) (Or.inl ⟨by rfl, ?_⟩) ?_ ?_
                            rotate_left
                            · intro w'
                              go_simp
                              with_reducible rfl
                            rotate_left
                            · simp only [Act.put, List.setIfInBounds_toArray, List.set_cons_zero, List.set_cons_succ, i64_w, i32_w]
                              rfl
                            refine pure_ (i := 6) (N := some 85) (v := ?_) (a' := ?_) #[true, true, true, true, true, true, true, false, true, false, false] rfl rfl (any_of HT_.out (by kernel_rfl)) (fun _ _ _ h => h) (Or.inl ⟨by rfl, ?_⟩) ?_ ?_
                            rotate_left
                            · intro w'
                              go_simp
                              with_reducible rfl
                            rotate_left
                            · simp only [Act.put, List.setIfInBounds_toArray, List.set_cons_zero, List.set_cons_succ, i64_w, i32_w]
                              rfl
                            refine pure_ (i := 7) (N := some 86) (v := ?_) (a' := ?_) #[true, true, true, true, true, true, true, true, true, false, false] rfl rfl (any_of HT_.out (by kernel_rfl)) (fun _ _ _ h => h) (Or.inl ⟨by rfl, ?_⟩) ?_ ?_
                            rotate_left
                            · intro w'
                              go_simp
                              with_reducible rfl
                            rotate_left
                            · simp only [Act.put, List.setIfInBounds_toArray, List.set_cons_zero, List.set_cons_succ, i64_w, i32_w]
                              rfl
                            exact norm_ (by simp only [putAll, Act.put, List.setIfInBounds_toArray, List.set_cons_zero, List.set_cons_succ]) (hCont (.slice dM t411.length dN, v420, aQ) _ ⟨bA, (by (with_reducible repeat (first | apply Kd.R_alloc | apply Kd.R_drewN | apply Kd.R_drew)); exact Kd.R_mono bH.out (fun _ hk => ⟨hk.2, ⟨hk.1.1.1.2, ⟨hk.1.1.2, hk.1.2⟩⟩⟩)), (by (with_reducible repeat (first | apply Kd.R_alloc | apply Kd.R_drewN | apply Kd.R_drew)); exact Kd.R_mono cE.out (fun _ hk => ⟨hk.2, ⟨hk.1.1.1.2, ⟨hk.1.1.2, hk.1.2⟩⟩⟩)), (by (with_reducible repeat (first | apply Kd.R_alloc | apply Kd.R_drewN | apply Kd.R_drew)); exact Kd.R_mono aY.out (fun _ hk => ⟨hk.1.2, ⟨hk.2, ⟨hk.1.1.1, hk.1.1.2⟩⟩⟩)), (by (with_reducible repeat (first | apply Kd.R_alloc | apply Kd.R_drewN | apply Kd.R_drew)); exact Kd.R_mono aV.out (fun _ hk => ⟨hk.1.2, ⟨hk.2, ⟨hk.1.1.1, hk.1.1.2⟩⟩⟩)), (by (with_reducible repeat (first | apply Kd.R_alloc | apply Kd.R_drewN | apply Kd.R_drew)); exact Kd.R_mono aS.out (fun _ hk => ⟨hk.1.2, ⟨hk.2, ⟨hk.1.1.1, hk.1.1.2⟩⟩⟩)), aA.out, aB.out, aC.out, aD.out, aJ.out, bJ.out, dL.out, cZ.out, cA.out, dA.out, cB.out, dB.out, cN.out, dC.out, cO.out, dD.out, cK.out, cW.out, HB.out⟩)
                        · skip
                          refine box_step ?hg (N := 14) ?hd (cs := #[.int .i64 0, .int .i64 0, .slice none 0 0]) (t := 33) ?hr ?_; (case hd => rfl); (case hg => rfl); (case hr => first | (go_simp; done) | (go_simp; rfl))
                          intro aQ hg w139 hbox hb
                          have aE := aM (Kd.R_below aY.out hb)
                          have aF := aM (Kd.R_below aV.out hb)
                          have aG := aM (Kd.R_below aS.out hb)
                          have aH := aM (blk_below aA.out hb)
                          have aI := aM (blk_below aB.out hb)
                          have aK := aM (blk_below aC.out hb)
                          have aL := aM (blk_below aD.out hb)
                          have aN := aM (blk_below aJ.out hb)
                          have aR := aM (bp_ HB.out hb)
                          have aW := aM (hbox)
                          have bD := aM ((by rw [hg]; exact (below_size HB.out) : w.heap.size ≤ aQ))
                          have bM := aM ((by rw [hg]; exact (below_size HB.out) : w.heap.size ≤ aQ))
                          have bN := aM ((by rw [hg]; exact Nat.ne_of_lt (blk_lt aA.out) : aT ≠ aQ))
                          have bO := aM ((by rw [hg]; exact Nat.ne_of_gt (blk_lt aA.out) : aQ ≠ aT))
                          have bP := aM ((by rw [hg]; exact Nat.ne_of_lt (blk_lt aB.out) : aZ ≠ aQ))
                          have bQ := aM ((by rw [hg]; exact Nat.ne_of_gt (blk_lt aB.out) : aQ ≠ aZ))
                          have bW := aM ((by rw [hg]; exact Nat.ne_of_lt (blk_lt aC.out) : aP ≠ aQ))
                          have bX := aM ((by rw [hg]; exact Nat.ne_of_gt (blk_lt aC.out) : aQ ≠ aP))
                          have bY := aM ((by rw [hg]; exact Nat.ne_of_lt (blk_lt aD.out) : aX ≠ aQ))
                          have cD := aM ((by rw [hg]; exact Nat.ne_of_gt (blk_lt aD.out) : aQ ≠ aX))
                          have cS := aM ((by rw [hg]; exact Nat.ne_of_lt (blk_lt aJ.out) : aO ≠ aQ))
                          have cT := aM ((by rw [hg]; exact Nat.ne_of_gt (blk_lt aJ.out) : aQ ≠ aO))
                          clear aY aV aS aA aB aC aD aJ HB
                          have aY := aE
                          have aV := aF
                          have aS := aG
                          have aA := aH
                          have aB := aI
                          have aC := aK
                          have aD := aL
                          have aJ := aN
                          have HB := aR
                          have bJ := aW
                          have dL := bD
                          have cZ := bM
                          have cA := bN
                          have dA := bO
                          have cB := bP
                          have dB := bQ
                          have cN := bW
                          have dC := bX
                          have cO := bY
                          have dD := cD
                          have cK := cS
                          have cW := cT
                          clear aE aF aG aH aI aK aL aN aR aW bD bM bN bO bP bQ bW bX bY cD cS cT hb hbox hg
                          refine hK.out _ _ ⟨(blk_cell aA.out 0).trans rfl, (blk_cell aA.out 1).trans rfl, (blk_cell aA.out 2).trans rfl, (blk_cell aB.out 0).trans rfl, (blk_cell aB.out 1).trans rfl, (blk_cell aB.out 2).trans rfl⟩ (fun bA => ?_)
                          clear hK K
                          refine norm_ (a' := ?_) ?_ ?_
                          rotate_left
                          · show Act.put _ (some 14) _ = _
                            simp only [Act.put, List.setIfInBounds_toArray, List.set_cons_zero, List.set_cons_succ, i64_w, i32_w]
                            rfl
                          refine one_ (i := 1) (N := some 81) #[true, true, true, false, false, false, false, false, true, false, false] rfl rfl (one_of HT_.out (by kernel_rfl)) (by decide) (fun K hK => ?_)
                          refine goes_ Try.func8 (by kernel_rfl) rfl #[.agg #[.int .i64 a0_0, .int .i64 a0_1, .slice A0_2 l0_2.length c0_2]] (by rfl) rfl rfl (by (try simp only [List.map_toArray, List.map_cons, List.map_nil]); first | done | rfl | (simp only [List.length_drop, List.length_take]; rfl)) ?_
                          with_reducible refine (laws_toPuzzle.calls kj78 a0_0 a0_1 _ _ l0_2 t409 t410 t411 _ ?side1 ?side2 A126.out).mono ?_
                          (case side1 => repeat (first | exact (Kd.C_below HR0_2.out HB.out) | (with_reducible refine Kd.C_alloc ?_ _) | (with_reducible refine Kd.C_drewN ?_ _) | (with_reducible refine Kd.C_drew ?_)))
                          (case side2 => exact dF.out)
                          rintro e w140 ⟨v412, rfl, ho0, hb⟩
                          refine ⟨_, rfl, ?_⟩
                          have aE := aM (Kd.R_elder' aY.out (Kd.R_base ho0) hb)
                          have aF := aM (Kd.R_elder' aV.out (Kd.R_base ho0) hb)
                          have aG := aM (Kd.R_elder' aS.out (Kd.R_base ho0) hb)
                          have aH := aM (Kd.R_lower (Kd.R_new' (Kd.R_new' (Kd.R_new' ho0 (Kd.R_lt aY.out)) (Kd.R_lt aV.out)) (Kd.R_lt aS.out)) (below_size HB.out))
                          have aI := aM (blk_below aA.out hb)
                          have aK := aM (blk_below aB.out hb)
                          have aL := aM (blk_below aC.out hb)
                          have aN := aM (blk_below aD.out hb)
                          have aR := aM (blk_below aJ.out hb)
                          have aW := aM (blk_below bJ.out hb)
                          have bD := aM (bp_ HB.out hb)
                          clear aY aV aS aA aB aC aD aJ bJ HB
                          have aY := aE
                          have aV := aF
                          have aS := aG
                          have bH := aH
                          have aA := aI
                          have aB := aK
                          have aC := aL
                          have aD := aN
                          have aJ := aR
                          have bJ := aW
                          have HB := bD
                          clear aE aF aG aH aI aK aL aN aR aW bD
                          (try clear hb)
                          (try clear hb2)
                          (try clear hk)
                          (try clear hi)
                          (try clear ho0)
                          refine hK.out _ _ ⟨(blk_cell aA.out 0).trans rfl, (blk_cell aA.out 1).trans rfl, (blk_cell aA.out 2).trans rfl, (blk_cell aB.out 0).trans rfl, (blk_cell aB.out 1).trans rfl, (blk_cell aB.out 2).trans rfl⟩ (fun bA => ?_)
                          clear hK K
                          refine norm_ (a' := ?_) ?_ ?_
                          rotate_left
                          · show Act.put _ (some 81) _ = _
                            simp only [Act.put, List.setIfInBounds_toArray, List.set_cons_zero, List.set_cons_succ, i64_w, i32_w]
                            rfl
                          refine one_ (i := 3) (N := some 83) #[true, true, true, true, false, false, false, false, true, false, false] rfl rfl (one_of HT_.out (by kernel_rfl)) (by decide) (fun K hK => ?_)
                          refine goes_ Try.func9 (by kernel_rfl) rfl #[.agg #[.int .i64 a1_0, .int .i64 a1_1, .int .i64 a1_2]] (by rfl) rfl rfl (by (try simp only [List.map_toArray, List.map_cons, List.map_nil]); first | done | rfl | (simp only [List.length_drop, List.length_take]; rfl)) ?_
                          with_reducible refine (laws_toClue.calls a1_0 a1_1 a1_2 t414 t415 t416 _ A127.out).mono ?_
                          rintro e w141 ⟨rfl, hb⟩
                          refine ⟨_, rfl, ?_⟩
                          have aE := aM (Kd.R_below aY.out hb)
                          have aF := aM (Kd.R_below aV.out hb)
                          have aG := aM (Kd.R_below aS.out hb)
                          have aH := aM (Kd.R_below bH.out hb)
                          have aI := aM (blk_below aA.out hb)
                          have aK := aM (blk_below aB.out hb)
                          have aL := aM (blk_below aC.out hb)
                          have aN := aM (blk_below aD.out hb)
                          have aR := aM (blk_below aJ.out hb)
                          have aW := aM (blk_below bJ.out hb)
                          have bD := aM (bp_ HB.out hb)
                          clear aY aV aS bH aA aB aC aD aJ bJ HB
                          have aY := aE
                          have aV := aF
                          have aS := aG
                          have bH := aH
                          have aA := aI
                          have aB := aK
                          have aC := aL
                          have aD := aN
                          have aJ := aR
                          have bJ := aW
                          have HB := bD
                          clear aE aF aG aH aI aK aL aN aR aW bD
                          (try clear hb)
                          (try clear hb2)
                          (try clear hk)
                          (try clear hi)
                          obtain ⟨dM, dN, dO⟩ := Kd.R_slice bH.out
                          (first | subst dO | (injection dO with f1_ f2_ f3_; have f4_ := f1_.symm; have f5_ := f3_.symm; clear f1_ f2_ f3_; subst f4_; subst f5_))
                          refine hK.out _ _ ⟨(blk_cell aA.out 0).trans rfl, (blk_cell aA.out 1).trans rfl, (blk_cell aA.out 2).trans rfl, (blk_cell aB.out 0).trans rfl, (blk_cell aB.out 1).trans rfl, (blk_cell aB.out 2).trans rfl⟩ (fun bA => ?_)
                          clear hK K
                          refine norm_ (a' := ?_) ?_ ?_
                          rotate_left
                          · show Act.put _ (some 83) _ = _
                            simp only [Act.put, List.setIfInBounds_toArray, List.set_cons_zero, List.set_cons_succ, i64_w, i32_w]
                            rfl
                          refine one_ (i := 4) (N := some 84) #[true, true, true, true, true, false, false, false, true, false, false] rfl rfl (one_of HT_.out (by kernel_rfl)) (by decide) (fun K hK => ?_)
                          refine goes_ Try.func10 (by kernel_rfl) rfl #[.agg #[.int .i64 t409, .int .i64 t410, .slice dM t411.length dN], .agg #[.int .i64 t414, .int .i64 t415, .int .i64 t416]] (by rfl) rfl rfl (by (try simp only [List.map_toArray, List.map_cons, List.map_nil]); first | done | rfl | (simp only [List.length_drop, List.length_take]; rfl)) ?_
                          with_reducible refine (impl_AddClue.calls t409 t410 _ _ t411 t414 t415 t416 t417 t418 t419 t422 _ ?side1 ?side2 A128.out).mono ?_
                          (case side1 => repeat (first | exact (Kd.R_reads' bH.out).2.2 | (with_reducible refine Kd.C_alloc ?_ _) | (with_reducible refine Kd.C_drewN ?_ _) | (with_reducible refine Kd.C_drew ?_)))
                          (case side2 => exact (Kd.R_reads' bH.out).2.1)
                          rintro e w143 ⟨v420, rfl, ho0, hb⟩
                          refine ⟨_, rfl, ?_⟩
                          have aE := aM (Kd.R_elder' aY.out (Kd.R_base ho0) hb)
                          have aF := aM (Kd.R_elder' aV.out (Kd.R_base ho0) hb)
                          have aG := aM (Kd.R_elder' aS.out (Kd.R_base ho0) hb)
                          have aH := aM (Kd.R_elder' bH.out (Kd.R_base ho0) hb)
                          have aI := aM (Kd.R_lower (Kd.R_new' (Kd.R_new' (Kd.R_new' (Kd.R_new' ho0 (Kd.R_lt aY.out)) (Kd.R_lt aV.out)) (Kd.R_lt aS.out)) (Kd.R_lt bH.out)) (below_size HB.out))
                          have aK := aM (blk_below aA.out hb)
                          have aL := aM (blk_below aB.out hb)
                          have aN := aM (blk_below aC.out hb)
                          have aR := aM (blk_below aD.out hb)
                          have aW := aM (blk_below aJ.out hb)
                          have bD := aM (blk_below bJ.out hb)
                          have bM := aM (bp_ HB.out hb)
                          clear aY aV aS bH aA aB aC aD aJ bJ HB
                          have aY := aE
                          have aV := aF
                          have aS := aG
                          have bH := aH
                          have cE := aI
                          have aA := aK
                          have aB := aL
                          have aC := aN
                          have aD := aR
                          have aJ := aW
                          have bJ := bD
                          have HB := bM
                          clear aE aF aG aH aI aK aL aN aR aW bD bM
                          (try clear hb)
                          (try clear hb2)
                          (try clear hk)
                          (try clear hi)
                          (try clear ho0)
                          refine hK.out _ _ ⟨(blk_cell aA.out 0).trans rfl, (blk_cell aA.out 1).trans rfl, (blk_cell aA.out 2).trans rfl, (blk_cell aB.out 0).trans rfl, (blk_cell aB.out 1).trans rfl, (blk_cell aB.out 2).trans rfl⟩ (fun bA => ?_)
                          clear hK K
                          refine norm_ (a' := ?_) ?_ ?_
                          rotate_left
                          · show Act.put _ (some 84) _ = _
                            simp only [Act.put, List.setIfInBounds_toArray, List.set_cons_zero, List.set_cons_succ, i64_w, i32_w]
                            rfl
                          refine pure_ (i := 5) (N := some 79) (v := ?_) (a' := ?_) #[true, true, true, true, true, true, false, false, true, false, false] rfl rfl (any_of HT_.out (by kernel_rfl)) (fun _ _ _ h => h) (Or.inl ⟨by rfl, ?_⟩) ?_ ?_
                          rotate_left
                          · intro w'
                            go_simp
                            with_reducible rfl
                          rotate_left
                          · simp only [Act.put, List.setIfInBounds_toArray, List.set_cons_zero, List.set_cons_succ, i64_w, i32_w]
                            rfl
                          refine pure_ (i := 6) (N := some 85) (v := ?_) (a' := ?_) #[true, true, true, true, true, true, true, false, true, false, false] rfl rfl (any_of HT_.out (by kernel_rfl)) (fun _ _ _ h => h) (Or.inl ⟨by rfl, ?_⟩) ?_ ?_
                          rotate_left
                          · intro w'
                            go_simp
                            with_reducible rfl
                          rotate_left
                          · simp only [Act.put, List.setIfInBounds_toArray, List.set_cons_zero, List.set_cons_succ, i64_w, i32_w]
                            rfl
                          refine pure_ (i := 7) (N := some 86) (v := ?_) (a' := ?_) #[true, true, true, true, true, true, true, true, true, false, false] rfl rfl (any_of HT_.out (by kernel_rfl)) (fun _ _ _ h => h) (Or.inl ⟨by rfl, ?_⟩) ?_ ?_
                          rotate_left
                          · intro w'
                            go_simp
                            with_reducible rfl
                          rotate_left
                          · simp only [Act.put, List.setIfInBounds_toArray, List.set_cons_zero, List.set_cons_succ, i64_w, i32_w]
                            rfl
                          exact norm_ (by simp only [putAll, Act.put, List.setIfInBounds_toArray, List.set_cons_zero, List.set_cons_succ]) (hCont (.slice dM t411.length dN, v420, aQ) _ ⟨bA, (by (with_reducible repeat (first | apply Kd.R_alloc | apply Kd.R_drewN | apply Kd.R_drew)); exact Kd.R_mono bH.out (fun _ hk => ⟨hk.2, ⟨hk.1.1.1.2, ⟨hk.1.1.2, hk.1.2⟩⟩⟩)), (by (with_reducible repeat (first | apply Kd.R_alloc | apply Kd.R_drewN | apply Kd.R_drew)); exact Kd.R_mono cE.out (fun _ hk => ⟨hk.2, ⟨hk.1.1.1.2, ⟨hk.1.1.2, hk.1.2⟩⟩⟩)), (by (with_reducible repeat (first | apply Kd.R_alloc | apply Kd.R_drewN | apply Kd.R_drew)); exact Kd.R_mono aY.out (fun _ hk => ⟨hk.1.2, ⟨hk.2, ⟨hk.1.1.1, hk.1.1.2⟩⟩⟩)), (by (with_reducible repeat (first | apply Kd.R_alloc | apply Kd.R_drewN | apply Kd.R_drew)); exact Kd.R_mono aV.out (fun _ hk => ⟨hk.1.2, ⟨hk.2, ⟨hk.1.1.1, hk.1.1.2⟩⟩⟩)), (by (with_reducible repeat (first | apply Kd.R_alloc | apply Kd.R_drewN | apply Kd.R_drew)); exact Kd.R_mono aS.out (fun _ hk => ⟨hk.1.2, ⟨hk.2, ⟨hk.1.1.1, hk.1.1.2⟩⟩⟩)), aA.out, aB.out, aC.out, aD.out, aJ.out, bJ.out, dL.out, cZ.out, cA.out, dA.out, cB.out, dB.out, cN.out, dC.out, cO.out, dD.out, cK.out, cW.out, HB.out⟩)
                      rintro ⟨v412, v420, aQ⟩ w144 ⟨hS_, h0_, h1_, h2_, h3_, h4_, h5_, h6_, h7_, h8_, h9_, h10_, h11_, h12_, h13_, h14_, h15_, h16_, h17_, h18_, h19_, h20_, h21_, h22_, h23_⟩
                      have aE : Aside0 (Kd.R k37 37 w144 w.heap.size (fun k_ => some k_ ≠ (v420 : Value).ownBlock ∧ some k_ ≠ (.slice bG t375.length bF : Value).ownBlock ∧ some k_ ≠ (.slice bB t404.length bC : Value).ownBlock ∧ some k_ ≠ (.slice bL t391.length bI : Value).ownBlock) v412 t411) := ⟨h0_⟩
                      have aF : Aside0 (Kd.R k37 37 w144 w.heap.size (fun k_ => some k_ ≠ (v412 : Value).ownBlock ∧ some k_ ≠ (.slice bG t375.length bF : Value).ownBlock ∧ some k_ ≠ (.slice bB t404.length bC : Value).ownBlock ∧ some k_ ≠ (.slice bL t391.length bI : Value).ownBlock) v420 t419) := ⟨h1_⟩
                      have aG : Aside0 (Kd.R k37 37 w144 w.heap.size (fun k_ => some k_ ≠ (v412 : Value).ownBlock ∧ some k_ ≠ (v420 : Value).ownBlock ∧ some k_ ≠ (.slice bB t404.length bC : Value).ownBlock ∧ some k_ ≠ (.slice bL t391.length bI : Value).ownBlock) (.slice bG t375.length bF) t375) := ⟨h2_⟩
                      have aH : Aside0 (Kd.R k37 37 w144 w.heap.size (fun k_ => some k_ ≠ (v412 : Value).ownBlock ∧ some k_ ≠ (v420 : Value).ownBlock ∧ some k_ ≠ (.slice bG t375.length bF : Value).ownBlock ∧ some k_ ≠ (.slice bL t391.length bI : Value).ownBlock) (.slice bB t404.length bC) t404) := ⟨h3_⟩
                      have aI : Aside0 (Kd.R k37 37 w144 w.heap.size (fun k_ => some k_ ≠ (v412 : Value).ownBlock ∧ some k_ ≠ (v420 : Value).ownBlock ∧ some k_ ≠ (.slice bG t375.length bF : Value).ownBlock ∧ some k_ ≠ (.slice bB t404.length bC : Value).ownBlock) (.slice bL t391.length bI) t407) := ⟨h4_⟩
                      have aK : Aside0 (w144.heap[aT]? = some (.cells #[.int .i64 a0_0, .int .i64 a0_1, .slice A0_2 l0_2.length c0_2] 26 (0, 0))) := ⟨h5_⟩
                      have aL : Aside0 (w144.heap[aZ]? = some (.cells #[.int .i64 a1_0, .int .i64 a1_1, .int .i64 a1_2] 28 (0, 0))) := ⟨h6_⟩
                      have aN : Aside0 (w144.heap[aP]? = some (.cells #[.int .i64 t373, .int .i64 t374, .slice bG t375.length bF] 33 (0, 0))) := ⟨h7_⟩
                      have aR : Aside0 (w144.heap[aX]? = some (.cells #[.int .i64 t380, .int .i64 t381, .slice bB t404.length bC] 33 (0, 0))) := ⟨h8_⟩
                      have aW : Aside0 (w144.heap[aO]? = some (.cells #[.int .i64 t389, .int .i64 t390, .slice bL t391.length bI] 33 (0, 0))) := ⟨h9_⟩
                      have bD : Aside0 (w144.heap[aQ]? = some (.cells #[.int .i64 0, .int .i64 0, .slice none 0 0] 33 (0, 0))) := ⟨h10_⟩
                      have bM : Aside0 (w.heap.size ≤ aQ) := ⟨h11_⟩
                      have bN : Aside0 (w.heap.size ≤ aQ) := ⟨h12_⟩
                      have bO : Aside0 (aT ≠ aQ) := ⟨h13_⟩
                      have bP : Aside0 (aQ ≠ aT) := ⟨h14_⟩
                      have bQ : Aside0 (aZ ≠ aQ) := ⟨h15_⟩
                      have bW : Aside0 (aQ ≠ aZ) := ⟨h16_⟩
                      have bX : Aside0 (aP ≠ aQ) := ⟨h17_⟩
                      have bY : Aside0 (aQ ≠ aP) := ⟨h18_⟩
                      have cD : Aside0 (aX ≠ aQ) := ⟨h19_⟩
                      have cS : Aside0 (aQ ≠ aX) := ⟨h20_⟩
                      have cT : Aside0 (aO ≠ aQ) := ⟨h21_⟩
                      have dE : Aside0 (aQ ≠ aO) := ⟨h22_⟩
                      have dY : Aside0 (Below w.heap.size w w144) := ⟨h23_⟩
                      clear aY aV aS aA aB aC aD aJ HB h0_ h1_ h2_ h3_ h4_ h5_ h6_ h7_ h8_ h9_ h10_ h11_ h12_ h13_ h14_ h15_ h16_ h17_ h18_ h19_ h20_ h21_ h22_ h23_
                      have bH := aE
                      have cE := aF
                      have aY := aG
                      have aV := aH
                      have aS := aI
                      have aA := aK
                      have aB := aL
                      have aC := aN
                      have aD := aR
                      have aJ := aW
                      have bJ := bD
                      have dL := bM
                      have cZ := bN
                      have cA := bO
                      have dA := bP
                      have cB := bQ
                      have dB := bW
                      have cN := bX
                      have dC := bY
                      have cO := cD
                      have dD := cS
                      have cK := cT
                      have cW := dE
                      have HB := dY
                      clear aE aF aG aH aI aK aL aN aR aW bD bM bN bO bP bQ bW bX bY cD cS cT dE dY
                      have bA : w144.cell? ⟨aT, 0, none⟩ = some (.int .i64 a0_0) ∧ w144.cell? ⟨aT, 1, none⟩ = some (.int .i64 a0_1) ∧ w144.cell? ⟨aT, 2, none⟩ = some (.slice A0_2 l0_2.length c0_2) ∧ w144.cell? ⟨aZ, 0, none⟩ = some (.int .i64 a1_0) ∧ w144.cell? ⟨aZ, 1, none⟩ = some (.int .i64 a1_1) ∧ w144.cell? ⟨aZ, 2, none⟩ = some (.int .i64 a1_2) := hS_
                      obtain ⟨cL, cH, fI⟩ := Kd.R_slice cE.out
                      (first | subst fI | (injection fI with f1_ f2_ f3_; have f4_ := f1_.symm; have f5_ := f3_.symm; clear f1_ f2_ f3_; subst f4_; subst f5_))
                      refine norm_ (a' := ?_) ?_ ?_
                      rotate_left
                      · simp only [putAll, Act.put, List.setIfInBounds_toArray, List.set_cons_zero, List.set_cons_succ]
                        rfl
                      refine one_ (i := 9) (N := none) #[true, true, true, true, true, true, true, true, true, true, false] rfl rfl (one_of HT_.out (by kernel_rfl)) (by decide) (fun K hK => ?_)
                      have nA : w144.cell? ⟨aQ, 0, none⟩ = some (.int .i64 0) := (blk_cell bJ.out 0).trans rfl
                      have nB := blk_frozen bJ.out 0
                      have nC := cA.out
                      have nD := cB.out
                      have nE := cN.out
                      have nF := cO.out
                      have nG := cK.out
                      have nH := dA.out
                      have nI := dB.out
                      have nJ := dC.out
                      have nK := dD.out
                      have nL := cW.out
                      have nM : w144.cell? ⟨aQ, 1, none⟩ = some (.int .i64 0) := (blk_cell bJ.out 1).trans rfl
                      have nN := blk_frozen bJ.out 1
                      have nO := cA.out
                      have nP := cB.out
                      have nQ := cN.out
                      have nR := cO.out
                      have nS := cK.out
                      have nT := dA.out
                      have nU := dB.out
                      have nV := dC.out
                      have nW := dD.out
                      have nX := cW.out
                      have nY : w144.cell? ⟨aQ, 2, none⟩ = some (.slice none 0 0) := (blk_cell bJ.out 2).trans rfl
                      have nZ := blk_frozen bJ.out 2
                      have oA := cA.out
                      have oB := cB.out
                      have oC := cN.out
                      have oD := cO.out
                      have oE := cK.out
                      have oF := dA.out
                      have oG := dB.out
                      have oH := dC.out
                      have oI := dD.out
                      have oJ := cW.out
                      refine skip_ (w1 := ?_) (by rfl) rfl ?_ ?_
                      rotate_left
                      · go_simp
                        rfl
                      refine hK.out _ _ ⟨((cell_far (p := ⟨aQ, _, none⟩) cA.out _).trans (((cell_far (p := ⟨aQ, _, none⟩) cA.out _).trans (((cell_far (p := ⟨aQ, _, none⟩) cA.out _).trans (bA.1)))))), ((cell_far (p := ⟨aQ, _, none⟩) cA.out _).trans (((cell_far (p := ⟨aQ, _, none⟩) cA.out _).trans (((cell_far (p := ⟨aQ, _, none⟩) cA.out _).trans (bA.2.1)))))), ((cell_far (p := ⟨aQ, _, none⟩) cA.out _).trans (((cell_far (p := ⟨aQ, _, none⟩) cA.out _).trans (((cell_far (p := ⟨aQ, _, none⟩) cA.out _).trans (bA.2.2.1)))))), ((cell_far (p := ⟨aQ, _, none⟩) cB.out _).trans (((cell_far (p := ⟨aQ, _, none⟩) cB.out _).trans (((cell_far (p := ⟨aQ, _, none⟩) cB.out _).trans (bA.2.2.2.1)))))), ((cell_far (p := ⟨aQ, _, none⟩) cB.out _).trans (((cell_far (p := ⟨aQ, _, none⟩) cB.out _).trans (((cell_far (p := ⟨aQ, _, none⟩) cB.out _).trans (bA.2.2.2.2.1)))))), ((cell_far (p := ⟨aQ, _, none⟩) cB.out _).trans (((cell_far (p := ⟨aQ, _, none⟩) cB.out _).trans (((cell_far (p := ⟨aQ, _, none⟩) cB.out _).trans (bA.2.2.2.2.2))))))⟩ (fun bA => ?_)
                      clear hK K
                      refine pure_ (i := 10) (N := some 15) (v := ?_) (a' := ?_) #[true, true, true, true, true, true, true, true, true, true, true] rfl rfl (any_of HT_.out (by kernel_rfl)) (fun _ _ _ h => h) (Or.inl ⟨by rfl, ?_⟩) ?_ ?_
                      rotate_left
                      · intro w'
                        go_simp
                        with_reducible rfl
                      rotate_left
                      · simp only [Act.put, List.setIfInBounds_toArray, List.set_cons_zero, List.set_cons_succ, i64_w, i32_w]
                        rfl
                      refine done_ (done_of HT_.out (by kernel_rfl)) ?_
                      go_upto_region 25 with (fail)
                      go_cut [95] (fun v95 wc => ∃ (kq : Nat) (x95_128 : Bool), v95 = .bool x95_128 ∧ Aside0 (laws_FnExactAddClue.j2 kq t406 x95_128 t389 t390 t407 = some r) ∧ Aside0 (kq ≤ kj78) ∧ Aside0 (Kd.R k37 37 wc w.heap.size (fun k_ => some k_ ≠ ((.slice bB t404.length bC) : Value).ownBlock ∧ some k_ ≠ ((.slice bL t391.length bI) : Value).ownBlock ∧ some k_ ≠ ((.slice cL t419.length cH) : Value).ownBlock) (.slice bG t375.length bF) t375) ∧ Aside0 (Kd.R k37 37 wc w.heap.size (fun k_ => some k_ ≠ ((.slice bG t375.length bF) : Value).ownBlock ∧ some k_ ≠ ((.slice bL t391.length bI) : Value).ownBlock ∧ some k_ ≠ ((.slice cL t419.length cH) : Value).ownBlock) (.slice bB t404.length bC) t404) ∧ Aside0 (Kd.R k37 37 wc w.heap.size (fun k_ => some k_ ≠ ((.slice bG t375.length bF) : Value).ownBlock ∧ some k_ ≠ ((.slice bB t404.length bC) : Value).ownBlock ∧ some k_ ≠ ((.slice cL t419.length cH) : Value).ownBlock) (.slice bL t391.length bI) t407) ∧ Aside0 (Kd.R k37 37 wc w.heap.size (fun k_ => some k_ ≠ ((.slice bG t375.length bF) : Value).ownBlock ∧ some k_ ≠ ((.slice bB t404.length bC) : Value).ownBlock ∧ some k_ ≠ ((.slice bL t391.length bI) : Value).ownBlock) (.slice cL t419.length cH) t419) ∧ Aside0 (wc.heap[aT]? = some (.cells #[.int .i64 a0_0, .int .i64 a0_1, (.slice A0_2 l0_2.length c0_2)] 26 (0, 0))) ∧ Aside0 (wc.heap[aZ]? = some (.cells #[.int .i64 a1_0, .int .i64 a1_1, .int .i64 a1_2] 28 (0, 0))) ∧ Aside0 (wc.heap[aP]? = some (.cells #[.int .i64 t373, .int .i64 t374, (.slice bG t375.length bF)] 33 (0, 0))) ∧ Aside0 (wc.heap[aX]? = some (.cells #[.int .i64 t380, .int .i64 t381, (.slice bB t404.length bC)] 33 (0, 0))) ∧ Aside0 (wc.heap[aO]? = some (.cells #[.int .i64 t389, .int .i64 t390, (.slice bL t391.length bI)] 33 (0, 0))) ∧ Aside0 (wc.heap[aQ]? = some (.cells #[.int .i64 t417, .int .i64 t418, (.slice cL t419.length cH)] 33 (0, 0))) ∧ Aside0 (Below w.heap.size w wc))
                      case first =>
                        have H := eK.out
                        clear eK
                        replace H := Option.bind_eq_some_iff.mp H
                        obtain ⟨t424, A1490, H⟩ := H
                        replace H : (if t424 = true then (laws_FnExactAddClue.j2 kj78 t406 (t422 != t378) t389 t390 t407) else (none)) = some r := H
                        have A149 := aM A1490
                        clear A1490
                        by_cases c150 : t424 = true
                        · subst c150
                          have H1 : (laws_FnExactAddClue.j2 kj78 t406 (t422 != t378) t389 t390 t407) = some r := by rw [if_pos rfl] at H; exact H
                          clear H
                          have H := H1
                          clear H1
                          have H' := aM H
                          clear H
                          have oK := dA.out
                          have oL := cA.out
                          have oM := dB.out
                          have oN := cB.out
                          have oO := dC.out
                          have oP := cN.out
                          have oQ := dD.out
                          have oR := cO.out
                          have oS := cW.out
                          have oT := cK.out
                          have gQ : w144.cell? ⟨aQ, 0, none⟩ = some (.int .i64 0) := (blk_cell bJ.out 0).trans rfl
                          have gR : w144.cell? ⟨aQ, 1, none⟩ = some (.int .i64 0) := (blk_cell bJ.out 1).trans rfl
                          have gS : w144.cell? ⟨aQ, 2, none⟩ = some (.slice none 0 0) := (blk_cell bJ.out 2).trans rfl
                          have gT := blk_frozen bJ.out 0
                          have gU := blk_frozen bJ.out 1
                          have gV := blk_frozen bJ.out 2
                          have oU := cM.out
                          have oV := bS.out
                          have oW := cP.out
                          have oX := bU.out
                          have oY := dK.out
                          have oZ := dW.out
                          have pA := cG.out
                          have pB := cQ.out
                          have gW : w144.cell? ⟨aP, 0, none⟩ = some (.int .i64 t373) := (blk_cell aC.out 0).trans rfl
                          have gX : w144.cell? ⟨aP, 1, none⟩ = some (.int .i64 t374) := (blk_cell aC.out 1).trans rfl
                          have gY : w144.cell? ⟨aP, 2, none⟩ = some (.slice bG t375.length bF) := (blk_cell aC.out 2).trans rfl
                          have gZ := blk_frozen aC.out 0
                          have hA := blk_frozen aC.out 1
                          have hB := blk_frozen aC.out 2
                          go_wp2_with (first | ((with_reducible refine gate_callee (f := 11) rfl ?_); refine goesL_ (some 89) rfl rfl Try.func11 (by kernel_rfl) rfl #[.agg #[.int .i64 t417, .int .i64 t418, .slice cL t419.length cH], .agg #[.int .i64 t373, .int .i64 t374, .slice bG t375.length bF]] rfl (by (try simp only [List.map_toArray, List.map_cons, List.map_nil]); first | done | rfl | (simp only [List.length_drop, List.length_take]; rfl)) ?_; (with_reducible refine (laws_eqPuzzle.calls kj78 t417 t418 _ _ t419 t373 t374 _ _ t375 true _ ?side1 ?side2 ?side3 ?side4 A149.out).mono ?_); (case side1 => refine (Kd.R_reads' (e := 37) (base := w.heap.size) (ok := fun k_ => (some k_ ≠ (v412 : Value).ownBlock ∧ (some k_ ≠ (.slice bG t375.length bF : Value).ownBlock ∧ (some k_ ≠ (.slice bB t404.length bC : Value).ownBlock ∧ some k_ ≠ (.slice bL t391.length bI : Value).ownBlock)))) (n := t419.length) (c := cH) ?_).2.2; exact (by (with_reducible repeat (first | apply Kd.R_alloc | apply Kd.R_drewN | apply Kd.R_drew)); exact (Kd.R_mono (Kd.R_far (p := ⟨aQ, 2, none⟩) (Kd.R_far (p := ⟨aQ, 1, none⟩) (Kd.R_far (p := ⟨aQ, 0, none⟩) (Kd.R_types cE.out bJ.out (by decide)) (fun _ hk => hk.2) (.int .i64 t417)) (fun _ hk => hk.2) (.int .i64 t418)) (fun _ hk => hk.2) (.slice cL t419.length cH)) (fun _ h_ => h_.1)))); (case side2 => exact (Kd.R_reads' cE.out).2.1); (case side3 => refine (Kd.R_reads' (e := 37) (base := w.heap.size) (ok := fun k_ => (some k_ ≠ (v412 : Value).ownBlock ∧ (some k_ ≠ (.slice cL t419.length cH : Value).ownBlock ∧ (some k_ ≠ (.slice bB t404.length bC : Value).ownBlock ∧ some k_ ≠ (.slice bL t391.length bI : Value).ownBlock)))) (n := t375.length) (c := bF) ?_).2.2; exact (by (with_reducible repeat (first | apply Kd.R_alloc | apply Kd.R_drewN | apply Kd.R_drew)); exact (Kd.R_mono (Kd.R_far (p := ⟨aQ, 2, none⟩) (Kd.R_far (p := ⟨aQ, 1, none⟩) (Kd.R_far (p := ⟨aQ, 0, none⟩) (Kd.R_types aY.out bJ.out (by decide)) (fun _ hk => hk.2) (.int .i64 t417)) (fun _ hk => hk.2) (.int .i64 t418)) (fun _ hk => hk.2) (.slice cL t419.length cH)) (fun _ h_ => h_.1)))); (case side4 => exact (Kd.R_reads' aY.out).2.1); rintro e w162 ⟨rfl, hb⟩; refine ⟨_, rfl, ?_⟩; have aE := aM (Kd.R_below (by (with_reducible repeat (first | apply Kd.R_alloc | apply Kd.R_drewN | apply Kd.R_drew)); exact (Kd.R_mono (Kd.R_far (p := ⟨aQ, 2, none⟩) (Kd.R_far (p := ⟨aQ, 1, none⟩) (Kd.R_far (p := ⟨aQ, 0, none⟩) (Kd.R_types aY.out bJ.out (by decide)) (fun _ hk => hk.2) (.int .i64 t417)) (fun _ hk => hk.2) (.int .i64 t418)) (fun _ hk => hk.2) (.slice cL t419.length cH)) (fun _ h_ => h_.1))) hb); have aF := aM (Kd.R_below (by (with_reducible repeat (first | apply Kd.R_alloc | apply Kd.R_drewN | apply Kd.R_drew)); exact (Kd.R_mono (Kd.R_far (p := ⟨aQ, 2, none⟩) (Kd.R_far (p := ⟨aQ, 1, none⟩) (Kd.R_far (p := ⟨aQ, 0, none⟩) (Kd.R_types aV.out bJ.out (by decide)) (fun _ hk => hk.2) (.int .i64 t417)) (fun _ hk => hk.2) (.int .i64 t418)) (fun _ hk => hk.2) (.slice cL t419.length cH)) (fun _ h_ => h_.1))) hb); have aG := aM (Kd.R_below (by (with_reducible repeat (first | apply Kd.R_alloc | apply Kd.R_drewN | apply Kd.R_drew)); exact (Kd.R_mono (Kd.R_far (p := ⟨aQ, 2, none⟩) (Kd.R_far (p := ⟨aQ, 1, none⟩) (Kd.R_far (p := ⟨aQ, 0, none⟩) (Kd.R_types aS.out bJ.out (by decide)) (fun _ hk => hk.2) (.int .i64 t417)) (fun _ hk => hk.2) (.int .i64 t418)) (fun _ hk => hk.2) (.slice cL t419.length cH)) (fun _ h_ => h_.1))) hb); have aH := aM (Kd.R_below (by (with_reducible repeat (first | apply Kd.R_alloc | apply Kd.R_drewN | apply Kd.R_drew)); exact (Kd.R_mono (Kd.R_far (p := ⟨aQ, 2, none⟩) (Kd.R_far (p := ⟨aQ, 1, none⟩) (Kd.R_far (p := ⟨aQ, 0, none⟩) (Kd.R_types bH.out bJ.out (by decide)) (fun _ hk => hk.2) (.int .i64 t417)) (fun _ hk => hk.2) (.int .i64 t418)) (fun _ hk => hk.2) (.slice cL t419.length cH)) (fun _ h_ => h_.1))) hb); have aI := aM (Kd.R_below (by (with_reducible repeat (first | apply Kd.R_alloc | apply Kd.R_drewN | apply Kd.R_drew)); exact (Kd.R_mono (Kd.R_far (p := ⟨aQ, 2, none⟩) (Kd.R_far (p := ⟨aQ, 1, none⟩) (Kd.R_far (p := ⟨aQ, 0, none⟩) (Kd.R_types cE.out bJ.out (by decide)) (fun _ hk => hk.2) (.int .i64 t417)) (fun _ hk => hk.2) (.int .i64 t418)) (fun _ hk => hk.2) (.slice cL t419.length cH)) (fun _ h_ => h_.1))) hb); have aK := aM (blk_below (g := aT) (o := .cells #[.int .i64 a0_0, .int .i64 a0_1, .slice A0_2 l0_2.length c0_2] 26 (0, 0)) (by (with_reducible repeat (first | refine kn_ ?_ _ | refine blk_drew ?_ | refine ka_ ?_ _)); refine blk_far ?_ cA.out _; (with_reducible repeat (first | refine kn_ ?_ _ | refine blk_drew ?_ | refine ka_ ?_ _)); refine blk_far ?_ cA.out _; (with_reducible repeat (first | refine kn_ ?_ _ | refine blk_drew ?_ | refine ka_ ?_ _)); refine blk_far ?_ cA.out _; (with_reducible repeat (first | refine kn_ ?_ _ | refine blk_drew ?_ | refine ka_ ?_ _)); exact aA.out) hb); have aL := aM (blk_below (g := aZ) (o := .cells #[.int .i64 a1_0, .int .i64 a1_1, .int .i64 a1_2] 28 (0, 0)) (by (with_reducible repeat (first | refine kn_ ?_ _ | refine blk_drew ?_ | refine ka_ ?_ _)); refine blk_far ?_ cB.out _; (with_reducible repeat (first | refine kn_ ?_ _ | refine blk_drew ?_ | refine ka_ ?_ _)); refine blk_far ?_ cB.out _; (with_reducible repeat (first | refine kn_ ?_ _ | refine blk_drew ?_ | refine ka_ ?_ _)); refine blk_far ?_ cB.out _; (with_reducible repeat (first | refine kn_ ?_ _ | refine blk_drew ?_ | refine ka_ ?_ _)); exact aB.out) hb); have aN := aM (blk_below (g := aP) (o := .cells #[.int .i64 t373, .int .i64 t374, .slice bG t375.length bF] 33 (0, 0)) (by (with_reducible repeat (first | refine kn_ ?_ _ | refine blk_drew ?_ | refine ka_ ?_ _)); refine blk_far ?_ cN.out _; (with_reducible repeat (first | refine kn_ ?_ _ | refine blk_drew ?_ | refine ka_ ?_ _)); refine blk_far ?_ cN.out _; (with_reducible repeat (first | refine kn_ ?_ _ | refine blk_drew ?_ | refine ka_ ?_ _)); refine blk_far ?_ cN.out _; (with_reducible repeat (first | refine kn_ ?_ _ | refine blk_drew ?_ | refine ka_ ?_ _)); exact aC.out) hb); have aR := aM (blk_below (g := aX) (o := .cells #[.int .i64 t380, .int .i64 t381, .slice bB t404.length bC] 33 (0, 0)) (by (with_reducible repeat (first | refine kn_ ?_ _ | refine blk_drew ?_ | refine ka_ ?_ _)); refine blk_far ?_ cO.out _; (with_reducible repeat (first | refine kn_ ?_ _ | refine blk_drew ?_ | refine ka_ ?_ _)); refine blk_far ?_ cO.out _; (with_reducible repeat (first | refine kn_ ?_ _ | refine blk_drew ?_ | refine ka_ ?_ _)); refine blk_far ?_ cO.out _; (with_reducible repeat (first | refine kn_ ?_ _ | refine blk_drew ?_ | refine ka_ ?_ _)); exact aD.out) hb); have aW := aM (blk_below (g := aO) (o := .cells #[.int .i64 t389, .int .i64 t390, .slice bL t391.length bI] 33 (0, 0)) (by (with_reducible repeat (first | refine kn_ ?_ _ | refine blk_drew ?_ | refine ka_ ?_ _)); refine blk_far ?_ cK.out _; (with_reducible repeat (first | refine kn_ ?_ _ | refine blk_drew ?_ | refine ka_ ?_ _)); refine blk_far ?_ cK.out _; (with_reducible repeat (first | refine kn_ ?_ _ | refine blk_drew ?_ | refine ka_ ?_ _)); refine blk_far ?_ cK.out _; (with_reducible repeat (first | refine kn_ ?_ _ | refine blk_drew ?_ | refine ka_ ?_ _)); exact aJ.out) hb); have bD := aM (blk_below (g := aQ) (o := .cells #[.int .i64 t417, .int .i64 t418, .slice cL t419.length cH] 33 (0, 0)) (by (with_reducible repeat (first | refine kn_ ?_ _ | refine blk_drew ?_ | refine ka_ ?_ _)); refine blk_put (cs := #[.int .i64 t417, .int .i64 t418, .slice none 0 0]) ?_ 2 _ rfl; (with_reducible repeat (first | refine kn_ ?_ _ | refine blk_drew ?_ | refine ka_ ?_ _)); refine blk_put (cs := #[.int .i64 t417, .int .i64 0, .slice none 0 0]) ?_ 1 _ rfl; (with_reducible repeat (first | refine kn_ ?_ _ | refine blk_drew ?_ | refine ka_ ?_ _)); refine blk_put (cs := #[.int .i64 0, .int .i64 0, .slice none 0 0]) ?_ 0 _ rfl; (with_reducible repeat (first | refine kn_ ?_ _ | refine blk_drew ?_ | refine ka_ ?_ _)); exact bJ.out) hb); have bM := aM (bp_ (by repeat (first | (with_reducible first | exact HB.out | apply ba_ | apply bn_ | apply bd_ | refine bs_ ?_ bR.out | refine bs_ ?_ cC.out | refine bs_ ?_ bT.out | refine bs_ ?_ cX.out | refine bs_ ?_ cF.out | refine bs_ ?_ cZ.out) | exact HB.out)) hb); clear aY; clear aV; clear aS; clear bH; clear cE; clear aA; clear aB; clear aC; clear aD; clear aJ; clear bJ; clear HB; have aY := aE; have aV := aF; have aS := aG; have bH := aH; have cE := aI; have aA := aK; have aB := aL; have aC := aN; have aD := aR; have aJ := aW; have bJ := bD; have HB := bM; clear aE aF aG aH aI aK aL aN aR aW bD bM; (try clear hb); (try clear hb2); (try clear hk); (try clear hi)))
                          go_meet
                          case rel => exact ⟨_, ((t422 != t378)), (by first | rfl | (simp; done) | (simp [*]; done)), H', ⟨by have := HJ15.out; have := HJ78.out; first | omega | exact Nat.le_refl _⟩, ⟨by (try simp only [hl386002_78]); (with_reducible repeat (first | apply Kd.R_alloc | apply Kd.R_drewN | apply Kd.R_drew)); exact Kd.R_mono aY.out (fun _ hk => ⟨hk.2.2.1, ⟨hk.2.2.2, hk.2.1⟩⟩)⟩, ⟨by (try simp only [hl386002_78]); (with_reducible repeat (first | apply Kd.R_alloc | apply Kd.R_drewN | apply Kd.R_drew)); exact Kd.R_mono aV.out (fun _ hk => ⟨hk.2.2.1, ⟨hk.2.2.2, hk.2.1⟩⟩)⟩, ⟨by (try simp only [hl386002_78]); (with_reducible repeat (first | apply Kd.R_alloc | apply Kd.R_drewN | apply Kd.R_drew)); exact Kd.R_mono aS.out (fun _ hk => ⟨hk.2.2.1, ⟨hk.2.2.2, hk.2.1⟩⟩)⟩, ⟨by (try simp only [hl386002_78]); (with_reducible repeat (first | apply Kd.R_alloc | apply Kd.R_drewN | apply Kd.R_drew)); exact Kd.R_mono cE.out (fun _ hk => ⟨hk.2.1, ⟨hk.2.2.1, hk.2.2.2⟩⟩)⟩, ⟨by (try simp only [hl386002_78]); (with_reducible repeat (first | refine kn_ ?_ _ | refine blk_drew ?_ | refine ka_ ?_ _)); exact aA.out⟩, ⟨by (try simp only [hl386002_78]); (with_reducible repeat (first | refine kn_ ?_ _ | refine blk_drew ?_ | refine ka_ ?_ _)); exact aB.out⟩, ⟨by (try simp only [hl386002_78]); (with_reducible repeat (first | refine kn_ ?_ _ | refine blk_drew ?_ | refine ka_ ?_ _)); exact aC.out⟩, ⟨by (try simp only [hl386002_78]); (with_reducible repeat (first | refine kn_ ?_ _ | refine blk_drew ?_ | refine ka_ ?_ _)); exact aD.out⟩, ⟨by (try simp only [hl386002_78]); (with_reducible repeat (first | refine kn_ ?_ _ | refine blk_drew ?_ | refine ka_ ?_ _)); exact aJ.out⟩, ⟨by (try simp only [hl386002_78]); (with_reducible repeat (first | refine kn_ ?_ _ | refine blk_drew ?_ | refine ka_ ?_ _)); exact bJ.out⟩, ⟨by repeat (first | (with_reducible first | exact HB.out | apply ba_ | apply bn_ | apply bd_ | refine bs_ ?_ bR.out | refine bs_ ?_ cC.out | refine bs_ ?_ bT.out | refine bs_ ?_ cX.out | refine bs_ ?_ cF.out | refine bs_ ?_ cZ.out) | exact HB.out)⟩⟩
                        · replace c150 := Bool.eq_false_iff.mpr c150
                          subst c150
                          have H1 : (none) = some r := by rw [if_neg (show ¬ (false = true) by decide)] at H; exact H
                          cases H1
                      case rest =>
                        clear eK
                        try clear c1; try clear p2; try clear c8; try clear c9; try clear c10; try clear c11; try clear c15; try clear c16; try clear c17; try clear c150; try clear c151; try clear c152; try clear c153; try clear c154; try clear c155; try clear c157; try clear c158; try clear c159; try clear c160; try clear c163; try clear c164; try clear c165; try clear c166; try clear c167; try clear c169; try clear c170; try clear c171; try clear c172; try clear gQ; try clear gR; try clear gS; try clear gW; try clear gX; try clear gY; try clear pC; try clear pD; try clear pE; try clear pF; try clear pG; try clear pH; try clear gT; try clear gU; try clear gV; try clear gZ; try clear hA; try clear hB; try clear pI; try clear pJ; try clear pK; try clear pL; try clear pM; try clear pN
                        obtain ⟨kq, x95_128, rfl, HA, HJ128, aY, aV, aS, dZ, aA, aB, aC, aD, aJ, bJ, HB⟩ := hcut
                        have hl396002_128 := (Kd.R_reads' aS.out).1
                        rw [hl396002_128] at aS
                        (try simp only [hl396002_128])
                        (try simp only [hl396002_128] at aA)
                        (try simp only [hl396002_128] at aB)
                        (try simp only [hl396002_128] at aC)
                        (try simp only [hl396002_128] at aD)
                        (try simp only [hl396002_128] at aJ)
                        (try simp only [hl396002_128] at bJ)
                        (try simp only [hl396002_128] at aY)
                        (try simp only [hl396002_128] at aV)
                        (try simp only [hl396002_128] at dZ)
                        cases kq with
                        | zero => exact absurd HA.out (by simp [laws_FnExactAddClue.j2])
                        | succ kj128 =>
                          have H := HA.out
                          clear HA
                          simp only [laws_FnExactAddClue.j2] at H
                          by_cases c175 : x95_128 = true
                          · subst c175
                            have H1 : (none) = some r := by rw [if_pos rfl] at H; exact H
                            cases H1
                          · replace c175 := Bool.eq_false_iff.mpr c175
                            subst c175
                            have H1 : ((laws_heldPuzzle.f kj128 t389 t390 t407 1).bind fun t425 => (if t425 < 0 then (none) else (if t425 = t406 then (some true) else (none)))) = some r := by rw [if_neg (show ¬ (false = true) by decide)] at H; exact H
                            clear H
                            have H := H1
                            clear H1
                            replace H := Option.bind_eq_some_iff.mp H
                            obtain ⟨t425, A1760, H⟩ := H
                            replace H : (if t425 < 0 then (none) else (if t425 = t406 then (some true) else (none))) = some r := H
                            have A176 := aM A1760
                            clear A1760
                            by_cases c177 : t425 < 0
                            · rw [if_pos c177] at H
                              cases H
                            · rw [if_neg c177] at H
                              have c177b0 : decide (t425 < 0) = false := decide_eq_false c177
                              clear c177
                              by_cases c185 : t425 = t406
                              · rw [if_pos c185] at H
                                have c185b0 : (t425 == t406) = true := beq_iff_eq.mpr c185
                                have c185b1 : (t425 != t406) = false := bne_eq_false_iff_eq.mpr c185
                                clear c185
                                obtain rfl := Option.some.inj H
                                have pO := cU.out
                                have pP := cJ.out
                                have pQ := cV.out
                                have pR := bZ.out
                                have pS := cQ.out
                                have pT := cG.out
                                have pU := cR.out
                                have pV := bV.out
                                have pW := cK.out
                                have pX := cW.out
                                have pY : wc.cell? ⟨aO, 0, none⟩ = some (.int .i64 t389) := (blk_cell aJ.out 0).trans rfl
                                have pZ : wc.cell? ⟨aO, 1, none⟩ = some (.int .i64 t390) := (blk_cell aJ.out 1).trans rfl
                                have qA : wc.cell? ⟨aO, 2, none⟩ = some (.slice bL t407.length bI) := (blk_cell aJ.out 2).trans rfl
                                have qB := blk_frozen aJ.out 0
                                have qC := blk_frozen aJ.out 1
                                have qD := blk_frozen aJ.out 2
                                go_wp2_with (first | ((with_reducible refine gate_callee (f := 13) rfl ?_); refine goesL_ (some 98) rfl rfl Try.func13 (by kernel_rfl) rfl #[.agg #[.int .i64 t389, .int .i64 t390, .slice bL t407.length bI], .int .i64 1] rfl (by (try simp only [List.map_toArray, List.map_cons, List.map_nil]); first | done | rfl | (simp only [List.length_drop, List.length_take]; rfl)) ?_; (with_reducible refine (laws_heldPuzzle.calls kj128 t389 t390 _ _ t407 1 t425 _ ?side1 ?side2 A176.out).mono ?_); (case side1 => repeat (first | exact (Kd.R_reads' aS.out).2.2 | (with_reducible refine Kd.C_alloc ?_ _) | (with_reducible refine Kd.C_drewN ?_ _) | (with_reducible refine Kd.C_drew ?_))); (case side2 => exact (Kd.R_reads' aS.out).2.1); rintro e w192 ⟨rfl, hb⟩; refine ⟨_, rfl, ?_⟩; have aE := aM (Kd.R_below (by (with_reducible repeat (first | apply Kd.R_alloc | apply Kd.R_drewN | apply Kd.R_drew)); exact aY.out) hb); have aF := aM (Kd.R_below (by (with_reducible repeat (first | apply Kd.R_alloc | apply Kd.R_drewN | apply Kd.R_drew)); exact aV.out) hb); have aG := aM (Kd.R_below (by (with_reducible repeat (first | apply Kd.R_alloc | apply Kd.R_drewN | apply Kd.R_drew)); exact aS.out) hb); have aH := aM (Kd.R_below (by (with_reducible repeat (first | apply Kd.R_alloc | apply Kd.R_drewN | apply Kd.R_drew)); exact dZ.out) hb); have aI := aM (blk_below (g := aT) (o := .cells #[.int .i64 a0_0, .int .i64 a0_1, .slice A0_2 l0_2.length c0_2] 26 (0, 0)) (by (with_reducible repeat (first | refine kn_ ?_ _ | refine blk_drew ?_ | refine ka_ ?_ _)); exact aA.out) hb); have aK := aM (blk_below (g := aZ) (o := .cells #[.int .i64 a1_0, .int .i64 a1_1, .int .i64 a1_2] 28 (0, 0)) (by (with_reducible repeat (first | refine kn_ ?_ _ | refine blk_drew ?_ | refine ka_ ?_ _)); exact aB.out) hb); have aL := aM (blk_below (g := aP) (o := .cells #[.int .i64 t373, .int .i64 t374, .slice bG t375.length bF] 33 (0, 0)) (by (with_reducible repeat (first | refine kn_ ?_ _ | refine blk_drew ?_ | refine ka_ ?_ _)); exact aC.out) hb); have aN := aM (blk_below (g := aX) (o := .cells #[.int .i64 t380, .int .i64 t381, .slice bB t404.length bC] 33 (0, 0)) (by (with_reducible repeat (first | refine kn_ ?_ _ | refine blk_drew ?_ | refine ka_ ?_ _)); exact aD.out) hb); have aR := aM (blk_below (g := aO) (o := .cells #[.int .i64 t389, .int .i64 t390, .slice bL t407.length bI] 33 (0, 0)) (by (with_reducible repeat (first | refine kn_ ?_ _ | refine blk_drew ?_ | refine ka_ ?_ _)); exact aJ.out) hb); have aW := aM (blk_below (g := aQ) (o := .cells #[.int .i64 t417, .int .i64 t418, .slice cL t419.length cH] 33 (0, 0)) (by (with_reducible repeat (first | refine kn_ ?_ _ | refine blk_drew ?_ | refine ka_ ?_ _)); exact bJ.out) hb); have bD := aM (bp_ (by repeat (first | (with_reducible first | exact HB.out | apply ba_ | apply bn_ | apply bd_ | refine bs_ ?_ bR.out | refine bs_ ?_ cC.out | refine bs_ ?_ bT.out | refine bs_ ?_ cX.out | refine bs_ ?_ cF.out | refine bs_ ?_ cZ.out) | exact HB.out)) hb); clear aY; clear aV; clear aS; clear dZ; clear aA; clear aB; clear aC; clear aD; clear aJ; clear bJ; clear HB; have aY := aE; have aV := aF; have aS := aG; have dZ := aH; have aA := aI; have aB := aK; have aC := aL; have aD := aN; have aJ := aR; have bJ := aW; have HB := bD; clear aE aF aG aH aI aK aL aN aR aW bD; (try clear hb); (try clear hb2); (try clear hk); (try clear hi)))
                                go_ret
                                exact ⟨by first | rfl | (simp [errW_none, errW_some] <;> rfl) | (simp [*, errW_none, errW_some] <;> rfl), by repeat (first | (with_reducible first | exact HB.out | apply ba_ | apply bn_ | apply bd_ | refine bs_ ?_ bR.out | refine bs_ ?_ cC.out | refine bs_ ?_ bT.out | refine bs_ ?_ cX.out | refine bs_ ?_ cF.out | refine bs_ ?_ cZ.out) | exact HB.out)⟩
                              · rw [if_neg c185] at H
                                cases H
                    · rw [if_neg c125] at H
                      cases H
          · replace c77 := Bool.eq_false_iff.mpr c77
            subst c77
            have H1 : (none) = some r := by rw [if_neg (show ¬ (false = true) by decide)] at H; exact H
            cases H1
/-! spec's functions on locks and clues: what they come to. -/
theorem spec_l1In.is (a b c : Int) : spec_l1In.f a b c = some (decide (b ≤ a ∧ a ≤ c)) := by
  unfold spec_l1In.f
  by_cases h : a ≥ b
  · rw [if_pos h]; have h' : b ≤ a := h; congr 1; simp [h']
  · rw [if_neg h]; have h' : ¬ b ≤ a := h; congr 1; simp [h']
theorem spec_whGood.is (w d : Int) : spec_whGood.f w d = some (lockB w d) := by
  unfold spec_whGood.f lockB
  simp only [spec_l1In.is, Option.bind_some]
  by_cases h : 1 ≤ w ∧ w ≤ 6 <;> simp [h]
theorem spec_whCount.lev (w d : Int) (h1 : 1 ≤ d) (h2 : d ≤ 10) (hn : w ≤ 6) : ∀ (j : Nat) (i : Int), 0 ≤ i → i ≤ w → i = j → Ev (fun k => spec_whCount.l0 k (d ^ (w - i).toNat) i w d) (d ^ w.toNat) := by
  intro j
  induction j with
  | zero =>
    intro i h0 hi hj
    obtain rfl : i = 0 := by omega
    exact Ev.step (fun k => rfl) (Ev.no (by omega) (Ev.id (by simp)))
  | succ j ih =>
    intro i h0 hi hj
    refine Ev.step (fun k => rfl) (Ev.yes (by omega) ?_)
    have hb := pow_bound h1 h2 (n := (w - i).toNat) (by omega)
    have hm : d ^ (w - i).toNat * d = d ^ (w - (i - 1)).toNat := by rw [show (w - (i - 1)).toNat = (w - i).toNat + 1 by omega, Int.pow_succ]
    have hb' := pow_bound h1 h2 (n := (w - (i - 1)).toNat) (by omega)
    rw [w64 (x := i - 1) (by omega) (by omega), hm, w64 (x := d ^ (w - (i - 1)).toNat) (by omega) (by omega)]
    exact ih (i - 1) (by omega) (by omega) (by omega)
theorem spec_whCount.ev {w d : Int} (h : lockB w d = true) : Ev (fun k => spec_whCount.f k w d) (d ^ w.toNat) := by
  obtain ⟨a, b, c, e⟩ := lockB_iff.mp h
  have := spec_whCount.lev w d (by omega) e b w.toNat w (by omega) (by omega) (by omega)
  unfold spec_whCount.f
  simpa using this
/-! spec's locks of hints: what they come to. -/
theorem spec_hiLock.ev (w d m : Int) : Ev (fun k => spec_hiLock.f k w d m) (smallB w d m) := by
  unfold spec_hiLock.f smallB
  refine Ev.bindc (spec_whGood.is w d) ?_
  cases h : lockB w d with
  | true => exact Ev.yes rfl (Ev.bind (spec_whCount.ev h) (Ev.id (by simp)))
  | false => exact Ev.no (by simp) (Ev.id (by simp))
/-! spec's clues: what they come to. -/
theorem spec_pzLock.ev (w d : Int) : Ev (fun k => spec_pzLock.f k w d) (smallB w d 125) := by
  unfold spec_pzLock.f
  exact Ev.bind (spec_hiLock.ev w d 125) (Ev.now _)
theorem spec_pzClue.ev (w d a b c : Int) (hl : lockB w d = true) : Ev (fun k => spec_pzClue.f k w d a b c) (clueB w d a b c) := by
  unfold spec_pzClue.f clueB
  obtain ⟨w1, w2, d1, d2⟩ := lockB_iff.mp hl
  have hc := count_bound hl
  simp only [spec_l1In.is, Option.bind_some, w64 (x := w - 1) (by omega) (by omega), w64 (x := d - 1) (by omega) (by omega)]
  refine Ev.both (fun e => ?_) (fun e => ?_)
  · rw [if_pos e]
    exact Ev.both (fun h => Ev.id (by simp [of_decide_eq_true h])) (fun h => Ev.id (by have := decide_eq_false_iff_not.mp (Bool.eq_false_iff.mpr h); simp [this]))
  rw [if_neg e]
  refine Ev.both (fun e => ?_) (fun e => ?_)
  · rw [if_pos e]
    exact Ev.both (fun h => Ev.id (by simp [of_decide_eq_true h])) (fun h => Ev.id (by have := decide_eq_false_iff_not.mp (Bool.eq_false_iff.mpr h); simp [this]))
  rw [if_neg e]
  refine Ev.both (fun e => ?_) (fun e => ?_)
  · rw [if_pos e]
    refine Ev.bind (spec_whCount.ev hl) ?_
    rw [w64 (x := d ^ w.toNat - 1) (by omega) (by omega)]
    exact Ev.both (fun h => Ev.id (by simp [of_decide_eq_true h])) (fun h => Ev.id (by have := decide_eq_false_iff_not.mp (Bool.eq_false_iff.mpr h); simp [this]))
  rw [if_neg e]
  refine Ev.both (fun e => ?_) (fun e => ?_)
  · rw [if_pos e]
    refine Ev.bind (spec_whCount.ev hl) ?_
    rw [w64 (x := d ^ w.toNat - 1) (by omega) (by omega)]
    exact Ev.both (fun h => Ev.id (by simp [of_decide_eq_true h])) (fun h => Ev.id (by have := decide_eq_false_iff_not.mp (Bool.eq_false_iff.mpr h); simp [this]))
  rw [if_neg e]
  refine Ev.both (fun e => ?_) (fun e => ?_)
  · rw [if_pos e]
    refine Ev.both (fun h => ?_) (fun h => Ev.id (by have := decide_eq_false_iff_not.mp (Bool.eq_false_iff.mpr h); simp [this]))
    have h' := of_decide_eq_true h
    rw [w64 (x := b - 1) (by omega) (by omega)]
    exact Ev.id (by simp [h'])
  rw [if_neg e]
  exact Ev.id (by simp)
/-! Numbers told by digits. -/
/-! The places and the digits that two codes share. -/
def plN (s t : ByteArray) : Nat → Int
  | 0 => 0
  | i + 1 => plN s t i + if bt s i = bt t i then 1 else 0
def ctN (s : ByteArray) (d : Int) : Nat → Int
  | 0 => 0
  | i + 1 => ctN s d i + if bt s i = d then 1 else 0
def lst (a b : Int) : Int := if a < b then a else b
def cmN (s t : ByteArray) (n : Nat) : Nat → Int
  | 0 => 0
  | m + 1 => cmN s t n m + lst (ctN s (48 + m) n) (ctN t (48 + m) n)
/-! Plain laws on lists: filling one in place, reading. -/
theorem fill_step {α β : Type} (f : α → β) (l : List α) (z : β) (i : Nat) (hi : i < l.length) :
    ((l.take i).map f ++ List.replicate (l.length - i) z).set i (f l[i]) = (l.take (i + 1)).map f ++ List.replicate (l.length - (i + 1)) z := by
  have h1 : ((l.take i).map f).length = i := by rw [List.length_map, List.length_take]; omega
  rw [List.set_append_right _ _ (by omega), h1, Nat.sub_self]
  obtain ⟨m, hm⟩ : ∃ m, l.length - i = m + 1 := ⟨l.length - i - 1, by omega⟩
  rw [hm, List.replicate_succ, List.set_cons_zero, show l.length - (i + 1) = m by omega, List.take_succ_eq_append_getElem hi, List.map_append]
  simp
theorem getD_at {α : Type} {d : α} {xs : List α} {i : Nat} (h : i < xs.length) : xs.getD i d = xs[i] := by simp [List.getD, h]
theorem toNat_succ {i : Int} (h : 0 ≤ i) : (i + 1).toNat = i.toNat + 1 := by omega
/-! Codes of a lock as texts, their digits, what clues tell of them. -/
/-! The statements' own helpers on clues and puzzles: what they come to. -/
def clueOf (x : S28) : S37 := ⟨x.f0, x.f1, x.f2⟩
theorem laws_szClueS.is (l : List S28) (a : Int) (h0 : 0 ≤ a) (h1 : a ≤ 1048576) (hl : l.length ≤ 9223372036854775807) : laws_szClueS.f l a = some (if (l.length : Int) ≤ a then a - l.length else -1) := by
  unfold laws_szClueS.f
  rw [w64 (x := a - (l.length : Int)) (by omega) (by omega)]
  by_cases h : (l.length : Int) ≤ a
  · rw [if_neg (by omega), if_pos h]
  · rw [if_pos (by omega), if_neg h]
theorem laws_szPuzzle.is (w d : Int) (l : List S28) (hl : l.length ≤ 9223372036854775807) : laws_szPuzzle.f w d l 1048576 = some (if (l.length : Int) ≤ 1048576 then (1048576 : Int) - (l.length : Int) else (-1 : Int)) := by
  unfold laws_szPuzzle.f
  rw [laws_szClueS.is l 1048576 (by omega) (by omega) hl]
  simp only [Option.bind_some]
  by_cases h : (l.length : Int) ≤ 1048576
  · rw [if_pos h, if_neg (by omega)]
  · rw [if_neg h, if_pos (by omega)]
theorem rd_laws_clue {xs : List S28} {i : Int} (h : i.toNat < xs.length) : rd_T28 xs i = xs[i.toNat] := by unfold rd_T28; exact getD_at h
theorem rd_clue {xs : List S37} {i : Int} (h : i.toNat < xs.length) : rd_T37 xs i = xs[i.toNat] := by unfold rd_T37; exact getD_at h
theorem laws_toClueS.lev (l : List S28) (hl : l.length ≤ 1048576) : ∀ (j : Nat) (i : Int), 0 ≤ i → i ≤ l.length → (l.length : Int) - i = j →
    Ev (fun k => laws_toClueS.l0 k l ((l.take i.toNat).map clueOf ++ List.replicate (l.length - i.toNat) z37) i) (l.map clueOf) := by
  intro j
  induction j with
  | zero =>
    intro i h0 hi hj
    obtain rfl : i = (l.length : Int) := by omega
    exact Ev.step (fun k => rfl) (Ev.no (by omega) (Ev.id (by simp)))
  | succ j ih =>
    intro i h0 hi hj
    have hlt : i.toNat < l.length := by omega
    refine Ev.step (fun k => rfl) (Ev.yes (by omega) (Ev.yes h0 ?_))
    simp only [laws_toClue.f, Option.bind_some, rd_laws_clue hlt]
    refine Ev.yes (by simp; omega) ?_
    have := fill_step clueOf l z37 i.toNat hlt
    unfold clueOf at this ⊢
    rw [this, w64 (x := i + 1) (by omega) (by omega), ← toNat_succ h0]
    exact ih (i + 1) (by omega) (by omega) (by omega)
theorem laws_toClueS.ev (l : List S28) (hl : l.length ≤ 1048576) : Ev (fun k => laws_toClueS.f k l) (l.map clueOf) := by
  unfold laws_toClueS.f
  refine Ev.yes (by omega) (Ev.yes (by omega) ?_)
  have := laws_toClueS.lev l hl l.length 0 (by omega) (by omega) (by omega)
  simpa using this
theorem laws_toPuzzle.ev (w d : Int) (l : List S28) (hl : l.length ≤ 1048576) : Ev (fun k => laws_toPuzzle.f k w d l) (w, d, l.map clueOf) := by
  unfold laws_toPuzzle.f
  simp only [laws_toLock.f, Option.bind_some]
  exact Ev.bind (laws_toClueS.ev l hl) (Ev.now _)
theorem laws_eqClueS.lev (l : List S37) (hl : l.length ≤ 9223372036854775807) : ∀ (j : Nat) (i : Int), 0 ≤ i → i ≤ l.length → (l.length : Int) - i = j → Ev (fun k => laws_eqClueS.l0 k l l i) true := by
  intro j
  induction j with
  | zero =>
    intro i h0 hi hj
    exact Ev.step (fun k => rfl) (Ev.no (by omega) (Ev.now _))
  | succ j ih =>
    intro i h0 hi hj
    refine Ev.step (fun k => rfl) (Ev.yes (by omega) (Ev.yes h0 (Ev.yes (by omega) ?_)))
    simp only [laws_eqClue.f, if_true, Option.bind_some]
    rw [w64 (x := i + 1) (by omega) (by omega)]
    exact ih (i + 1) (by omega) (by omega) (by omega)
theorem laws_eqClueS.ev (l : List S37) (hl : l.length ≤ 9223372036854775807) : Ev (fun k => laws_eqClueS.f k l l) true := by
  unfold laws_eqClueS.f
  exact Ev.yes rfl (laws_eqClueS.lev l hl l.length 0 (by omega) (by omega) (by omega))
theorem laws_eqPuzzle.ev (w d : Int) (l : List S37) (hl : l.length ≤ 9223372036854775807) : Ev (fun k => laws_eqPuzzle.f k w d l w d l) true := by
  unfold laws_eqPuzzle.f
  simp only [laws_eqLock.f, if_true, Option.bind_some]
  exact Ev.bind (laws_eqClueS.ev l hl) (Ev.yes rfl (Ev.now _))
/-! ### impl_digits: function 53 -/
/-! ### impl_Lock_number: function 57 -/
/-! ### impl_around: function 79 -/
/-! ### impl_Lock_gap: function 75 -/
/-! ### impl_Lock_near: function 70 -/
end Go.Proofs.Ytlmfiaopgndbcaa.P