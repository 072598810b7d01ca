import Derived.Test.YtalmbdmkajohlaaGreatDoorKFnCodesGuessedOfAllA0
import Derived.Test.YtalmbdmkajohlaaGreatDoorKFnCodesGuessedOfAllA2
import Derived.Lib.ConvBytes
import Derived.RegionTactic
import Derived.BigRegion
import Derived.Laws.RangeString
import Derived.Test.YtalmbdmkajohlaaGreatDoorKFnCodesGuessedOfAllA1
import Derived.Lib.OthersKept
import Derived.ProofKit
import Derived.Lib.SmallJoins
import Derived.Deep.Slices
namespace Go.Proofs.YtalmbdmkajohlaaGreatDoor.P
open Go.RowKit Go.Proofs.YtalmbdmkajohlaaGreatDoorW.PrintWords Go.Proofs.YtalmbdmkajohlaaGreatDoorW.PrintLast Go.Proofs.YtalmbdmkajohlaaGreatDoorW.PrintMore
attribute [local go_sem] max2_int min2_int max_two min_two max_three min_three max_four min_four
set_option linter.unusedVariables false
set_option linter.unusedSimpArgs false
/-! ### spec_LeftByClues: function 17 -/
def spec_LeftByClues.l0 : Nat → List Int → Int → Int → Int → List (S45) → Option (List Int × Bool)
  | 0, _, _, _, _, _ => none
  | k + 1, x4, x5, x387000, x387001, x387002 => if x5 ≤ (x387002.length : Int) then (if 0 ≤ x5 then ((spec_pzAll.f k x387000 x387001 (x387002.take (x5 : Int).toNat)).bind fun t392 => (if x4.length < 17592186044416 then (spec_LeftByClues.l0 k (x4 ++ [(t392.length : Int)]) (wrap64 (x5 + 1)) x387000 x387001 x387002) else (none))) else (none)) else (some (x4, true))
def spec_LeftByClues.f (k : Nat) (a0_0 : Int) (a0_1 : Int) (l0_2 : List (S45)) : Option (List Int × Bool) := (spec_pzGood.f k a0_0 a0_1 l0_2).bind fun t387 => (if t387 = true then (spec_LeftByClues.l0 k ([] : List Int) 0 a0_0 a0_1 l0_2) else (some (([] : List Int), false)))
def spec_LeftByClues.T7 : Bool × List (List Nat × List Nat) := (true, [([], []), ([], []), ([1], [1]), ([], []), ([3], [3]), ([], []), ([4, 5], [4, 5]), ([2, 6], [2, 6]), ([7], [7]), ([8], [8]), ([0, 9, 7], [0, 9]), ([10, 10, 0, 1, 2, 3, 4, 5, 6, 7, 8, 9, 10], [0, 10])])
def spec_LeftByClues.B7 : List Nat := [0, 0, 2, 0, 8, 0, 56, 126, 254, 510, 1023, 2047]
theorem spec_LeftByClues.tab7 : rtab .any (opsOf Tryz.f17 7) = spec_LeftByClues.T7 := by kernel_rfl
theorem spec_LeftByClues.bits7 : waitsOk spec_LeftByClues.T7.2 spec_LeftByClues.B7 = true := by kernel_rfl
set_option maxHeartbeats 8000000 in
set_option maxRecDepth 100000 in
theorem spec_LeftByClues.calls (k : Nat) (a0_0 : Int) (a0_1 : Int) (A0_2 : Option Addr) (c0_2 : Nat) (l0_2 : List (S45)) (r1 : List Int) (r2 : Bool) (w : World) (hr0_2 : Kd.C k45 w A0_2 l0_2.length l0_2) (hc0_2 : l0_2.length ≤ c0_2) (h : spec_LeftByClues.f k a0_0 a0_1 l0_2 = some (r1, r2)) :
    Calls Tryz.prog 17 #[.agg #[.int .i64 a0_0, .int .i64 a0_1, .slice A0_2 l0_2.length c0_2]] w fun e w' => ∃ v0_ : Value, e = .returned (.tuple #[v0_, .bool r2]) ∧ Kd.R (Kd.int .i64) 3 w' w.heap.size (fun _ => True) v0_ r1 ∧ Below w.heap.size w w' := by
  have hu26 := Tryz.underlying26; have hu23 := Tryz.underlying23; have HR0_2 := amk hr0_2; have HC0_2 := amk hc0_2; clear hr0_2 hc0_2; have HB := amk (Below.refl w.heap.size w); unfold spec_LeftByClues.f at h; have H := h; clear h; replace H := bE H; obtain ⟨t387, A2, H⟩ := H; replace H := iteB H; obtain ⟨rfl, H⟩ | ⟨rfl, H⟩ := H
  · have H' := amk H; clear H; go_enter Tryz.func17, Tryz.ntmps17; go_wp2_with (first | ((with_reducible refine gate_dst (N := 1) rfl ?_); refine boxE_ HB 1 #[.int .i64 a0_0, .int .i64 a0_1, .slice A0_2 l0_2.length c0_2] 26 ?_; clear HB; intro gb386 w4 HB BK386 GW386 GE386 hb; clear hb; obtain ⟨hcz5_0, hcz5_1, hcz5_2, hfz5_0, hfz5_1, hfz5_2⟩ := cells3 BK386.out) | ((with_reducible refine gate_callee (f := 35) rfl ?_); refine goesL_ (some 7) rfl rfl Tryz.func35 (by kernel_rfl) rfl #[.agg #[.int .i64 a0_0, .int .i64 a0_1, .slice A0_2 l0_2.length c0_2]] rfl gL_ ?_; (with_reducible refine (spec_pzGood.calls k a0_0 a0_1 _ _ l0_2 true _ ?_ ?_ A2.out).mono ?_); exact cB (Kd.C_below HR0_2.out HB.out); exact HC0_2.out; rintro e w6 ⟨rfl, hb⟩; refine ⟨_, rfl, ?_⟩; replace BK386 := kb2 BK386 hb; replace HB := hB2 HB hb; (try clear hb)))
    go_loopg [4, 5] k (fun kq v4 v5 w' => ∃ (x4_1 : List Int) (x5_1 : Int), v5 = .int .i64 x5_1 ∧ Aside0 (spec_LeftByClues.l0 kq x4_1 x5_1 a0_0 a0_1 l0_2 = some (r1, r2)) ∧ Aside0 (kq ≤ k) ∧ Aside0 (Kd.R (Kd.int .i64) 3 w' w.heap.size (fun _ => True) v4 x4_1) ∧ Aside0 (w'.heap[gb386]? = some (.cells #[.int .i64 a0_0, .int .i64 a0_1, (.slice A0_2 l0_2.length c0_2)] 26 (0, 0))) ∧ Aside0 (Below w.heap.size w w'))
    case atStart => exact ⟨(([] : List Int)), (0), rS_, H', ⟨Nat.le_refl _⟩, ⟨xN_⟩, ⟨kB BK386⟩, ⟨bB⟩⟩
    case round =>
      clear H'; (try clear c1); (try clear p2); (try clear c3); (try clear hcz5_0); (try clear hcz5_1); (try clear hcz5_2); (try clear hfz5_0); (try clear hfz5_1); (try clear hfz5_2); obtain ⟨x4_1, x5_1, rfl, HA, HK1, HO_4, BK386, HB⟩ := hrel
      cases gk with
      | zero => exact absurd HA.out (by simp [spec_LeftByClues.l0])
      | succ k1 =>
        have H := HA.out; clear HA; simp only [spec_LeftByClues.l0] at H; replace H := iteE H; obtain ⟨c7b0, H⟩ | ⟨c7b0, H⟩ := H
        · by_cases c8 : 0 ≤ x5_1
          · rw [if_pos c8] at H; have c8b0 := eq_true c8; have c8b1 : decide (0 ≤ x5_1) = true := decide_eq_true c8; clear c8; have c9b0 := eq_true (dA_ : x5_1 ≤ (l0_2.length : Int)); (try rw [Option.bind_some] at H); generalize hy388 : ((l0_2.take (x5_1 : Int).toNat) : List (S45)) = y388 at H; have Ny388 := amk hy388.symm; clear hy388; replace H := bE H; obtain ⟨t392, A10, H⟩ := H
            by_cases c11 : x4_1.length < 17592186044416
            · rw [if_pos c11] at H; have LMc11 := amk c11; clear c11; (try rw [Option.bind_some] at H); generalize hy395 : ((x4_1 ++ [(t392.length : Int)]) : List Int) = y395 at H; have Ny395 := amk hy395.symm; clear hy395; have H' := amk H; clear H; obtain ⟨hcz12_0, hcz12_1, hcz12_2, hfz12_0, hfz12_1, hfz12_2⟩ := cells3 BK386.out; (try go_wp2); replace HO_4 := amk (Kd.R_drew HO_4.out); replace BK386 := amk (blk_drew BK386.out); replace HB := amk (bd_ HB.out); have q14 : (x5_1 : Int) ≤ ((l0_2.length : Int) : Int) := dA_; obtain ⟨i014, hi014, _, hsz14, _⟩ := info_parts info45; have hroom14 : l0_2.length ≤ c0_2 := HC0_2.out; have hC14 : Kd.C k45 _ A0_2 l0_2.length l0_2 := HR0_2.out; have hcut14 := cut_to (P := Tryz.prog) 24 45 .i64 Tryz.underlying24 hi014 A0_2 l0_2.length c0_2 x5_1 (dA_) q14 hroom14; have hr14 := Kd.C_take (m := (x5_1 : Int).toNat) hC14 (by omega); have hy14 : y388.length = (x5_1 : Int).toNat := (by rw [Ny388.out, List.length_take]; omega); rw [← Ny388.out] at hr14; rw [← hy14] at hcut14; have HR391 := amk hr14; have HC391 := amk (show y388.length ≤ c0_2 from by omega); clear hr14 hC14 hroom14 hi014 hsz14; have KY14 := amk hy14; clear hy14; replace q14 := eq_true q14; refine start_ (n := 12) (S := fun w' => w'.cell? ⟨gb386, 0, none⟩ = some (.int .i64 a0_0) ∧ w'.cell? ⟨gb386, 1, none⟩ = some (.int .i64 a0_1) ∧ w'.cell? ⟨gb386, 2, none⟩ = some (.slice A0_2 l0_2.length c0_2)) (ds := []) (bA 12 0) (by kernel_rfl) rfl rfl ⟨(blk_cell BK386.out 0).trans rfl, (blk_cell BK386.out 1).trans rfl, (blk_cell BK386.out 2).trans rfl⟩ (fun hHeld => ?_); refine with_tabW spec_LeftByClues.tab7 spec_LeftByClues.bits7 (fun HT_ HW_ => ?_); generalize wr.drew = w13 at HO_4 BK386 HB HR391 hHeld ⊢; refine pU_ HT_ 0 (some 16) (bA 12 1) ?_; refine pU_ HT_ 1 (some 17) (bA 12 3) ?_; refine pU_ HT_ 3 (some 19) (bA 12 11) ?_; refine pU_ HT_ 5 (some 21) (bA 12 43) ?_; refine tK_ HT_ HW_ hHeld 2 (some 18) (bA 12 47) ?_; refine tK_ HT_ HW_ hHeld 4 (some 20) (bA 12 63) ?_; refine pU_ HT_ 6 (some 22) (bA 12 127) ?_; refine oN_ HT_ 7 (some 23) (bA 12 255) (fun K hK => ?_); refine goes_ Tryz.func36 (by kernel_rfl) rfl #[.agg #[.int .i64 a0_0, .int .i64 a0_1], .slice A0_2 y388.length c0_2] (by rfl) rfl rfl gL_ ?_; (with_reducible refine (spec_pzAll.calls k1 a0_0 a0_1 _ _ y388 t392 _ ?_ ?_ A10.out).mono ?_); exact cB (Kd.C_below HR391.out HB.out); exact HC391.out; rintro e w15 ⟨v393, rfl, ho0, hb⟩; refine ⟨_, rfl, ?_⟩; replace HO_4 := amk (Kd.R_below (oX HO_4) hb); have HO394 := amk (Kd.R_lower ho0 (below_size bB)); replace BK386 := kb2 BK386 hb; replace HB := hB2 HB hb; (try clear hb); (try clear ho0); obtain ⟨Ao16, co16, eo16⟩ := Kd.R_slice HO394.out; (first | subst eo16 | (injection eo16 with f1_ f2_ f3_; have f4_ := f1_.symm; have f5_ := f3_.symm; clear f1_ f2_ f3_; subst f4_; subst f5_)); refine hK.out _ _ hC_ (fun hHeld => ?_); clear hK K; refine nN_ (some 23) ?_; refine pU_ HT_ 8 (some 24) (bA 12 511) ?_; refine oN_ HT_ 9 (some 25) (bA 12 1023) (fun K hK => ?_); refine value_ (w1 := ?_) (v := ?_) (by rfl) rfl ?_ ?_; rotate_left 2
              · go_simp
                constructor
                · rfl
                · rfl
              refine hK.out _ _ ⟨(blk_cell (ka_ BK386.out _) 0).trans rfl, (blk_cell (ka_ BK386.out _) 1).trans rfl, (blk_cell (ka_ BK386.out _) 2).trans rfl⟩ (fun hHeld => ?_); clear hK K; refine nN_ (some 25) ?_; refine oN_ HT_ 10 (some 26) (bA 12 2047) (fun K hK => ?_); refine Kd.R_append_step (Kd.int .i64) (w0 := w) w.heap.size (by rfl) (.tmp 16) (.tmp 25) 36 3 (.int .i64 0) 8 rfl Tryz.underlying36 info3 rfl (by decide) (by omega) u4 x4_1 (t392.length : Int) [.int .i64 (t392.length : Int)] (fun _ => True) (fun _ => False) rfl rfl ?aP (fun _ hk => hk.elim) ?aF ?aO ?aB ?aS ?aL ?_; (case aP => exact rfl); (case aB => exact bB); (case aF => exact (fun _ _ => trivial)); (case aO => exact (oX HO_4)); (case aS => exact (below_size bB)); (case aL => have := LMc11.out; omega); intro v396 w17 ho hb hg hat; rw [← Ny395.out] at ho; replace BK386 := bG BK386 hg (Kd.R_ne HO_4.out BK386.out (by decide)); replace HO394 := amk (Kd.R_over' (oX HO394) (Kd.R_typed (oX HO_4)) (by decide) hg); replace HB := amk (hb); have HO397 := amk (ho); clear HO_4; clear ho hb hg hat; refine hK.out _ _ hC_ (fun hHeld => ?_); clear hK K; refine nN_ (some 26) ?_; refine pU_ HT_ 11 (some 4) (bA 12 4095) ?_; refine done_ (done_of HT_.out (by kernel_rfl)) ?_; (try go_wp2); go_roundg k1
              case measure => have := HK1.out; omega
              case rel => exact ⟨(y395), (wrap64 (x5_1 + 1)), rS_, H', ⟨by have := HK1.out; omega⟩, ⟨oX HO397⟩, ⟨kB BK386⟩, ⟨bB⟩⟩
            · rw [if_neg c11] at H; exact absurd H (by simp)
          · rw [if_neg c8] at H; exact absurd H (by simp)
        · simp only [Option.some.injEq, Prod.mk.injEq] at H; obtain ⟨rfl, rfl⟩ := H; obtain ⟨hcz18_0, hcz18_1, hcz18_2, hfz18_0, hfz18_1, hfz18_2⟩ := cells3 BK386.out; go_wp2; go_ret2; exact ⟨_, rF_, oX HO_4, bB⟩
  · simp only [Option.some.injEq, Prod.mk.injEq] at H; obtain ⟨rfl, rfl⟩ := H; go_enter Tryz.func17, Tryz.ntmps17; go_wp2_with (first | ((with_reducible refine gate_dst (N := 1) rfl ?_); refine boxE_ HB 1 #[.int .i64 a0_0, .int .i64 a0_1, .slice A0_2 l0_2.length c0_2] 26 ?_; clear HB; intro gb386 w19 HB BK386 GW386 GE386 hb; clear hb; obtain ⟨hcz20_0, hcz20_1, hcz20_2, hfz20_0, hfz20_1, hfz20_2⟩ := cells3 BK386.out) | ((with_reducible refine gate_callee (f := 35) rfl ?_); refine goesL_ (some 7) rfl rfl Tryz.func35 (by kernel_rfl) rfl #[.agg #[.int .i64 a0_0, .int .i64 a0_1, .slice A0_2 l0_2.length c0_2]] rfl gL_ ?_; (with_reducible refine (spec_pzGood.calls k a0_0 a0_1 _ _ l0_2 false _ ?_ ?_ A2.out).mono ?_); exact cB (Kd.C_below HR0_2.out HB.out); exact HC0_2.out; rintro e w21 ⟨rfl, hb⟩; refine ⟨_, rfl, ?_⟩; replace BK386 := kb2 BK386 hb; replace HB := hB2 HB hb; (try clear hb))); go_ret2; exact ⟨_, rF_, xN_, bB⟩
/-! ### spec_pzWithout: function 39 -/
def spec_pzWithout.f (l0 : List (S45)) (a1 : Int) : Option ((List (S45))) := (some (([] : List (S45)) : List (S45))).bind fun y340 => (if 0 ≤ a1 then (if a1 ≤ (l0.length : Int) then ((some (l0.take (a1 : Int).toNat : List (S45))).bind fun y343 => (if y340.length + y343.length < 5864062014805 then ((some (y340 ++ y343 : List (S45))).bind fun y347 => (if 0 ≤ (wrap64 (a1 + 1)) then (if (wrap64 (a1 + 1)) ≤ (l0.length : Int) then ((some (l0.drop ((wrap64 (a1 + 1)) : Int).toNat : List (S45))).bind fun y350 => (if y347.length + y350.length < 5864062014805 then (some (y347 ++ y350)) else (none))) else (none)) else (none))) else (none))) else (none)) else (none))
def spec_pzWithout.T1 : Bool × List (List Nat × List Nat) := (true, [([], []), ([], []), ([], []), ([1, 2], [1, 2]), ([0, 3], [0, 3]), ([], []), ([], []), ([6], [6]), ([5, 7], [5, 7]), ([4, 8, 4], [4, 8]), ([9, 9, 0, 1, 2, 3, 4, 5, 6, 7, 8, 9], [9])])
def spec_pzWithout.B1 : List Nat := [0, 0, 0, 6, 15, 0, 0, 64, 224, 511, 1023]
theorem spec_pzWithout.tab1 : rtab .any (opsOf Tryz.f39 1) = spec_pzWithout.T1 := by kernel_rfl
theorem spec_pzWithout.bits1 : waitsOk spec_pzWithout.T1.2 spec_pzWithout.B1 = true := by kernel_rfl
set_option maxHeartbeats 8000000 in
set_option maxRecDepth 100000 in
theorem spec_pzWithout.calls (A0 : Option Addr) (c0 : Nat) (l0 : List (S45)) (a1 : Int) (r : List (S45)) (w : World) (hr0 : Kd.C k45 w A0 l0.length l0) (hc0 : l0.length ≤ c0) (h : spec_pzWithout.f l0 a1 = some r) :
    Calls Tryz.prog 39 #[.slice A0 l0.length c0, .int .i64 a1] w fun e w' => ∃ v0_ : Value, e = .returned (v0_) ∧ Kd.R k45 45 w' w.heap.size (fun _ => True) v0_ r ∧ Below w.heap.size w w' := by
  have HR0 := amk hr0; have HC0 := amk hc0; clear hr0 hc0; have HB := amk (Below.refl w.heap.size w); unfold spec_pzWithout.f at h; have H := h; clear h; (try rw [Option.bind_some] at H); generalize hy340 : (([] : List (S45))) = y340 at H; have Ny340 := amk hy340.symm; clear hy340
  by_cases c3 : 0 ≤ a1
  · rw [if_pos c3] at H; have c3b0 := eq_true c3; have c3b1 : decide (0 ≤ a1) = true := decide_eq_true c3; clear c3
    by_cases c4 : a1 ≤ (l0.length : Int)
    · rw [if_pos c4] at H; have c4b0 := eq_true c4; have c4b1 : decide (a1 ≤ (l0.length : Int)) = true := decide_eq_true c4; clear c4; (try rw [Option.bind_some] at H); generalize hy343 : ((l0.take (a1 : Int).toNat) : List (S45)) = y343 at H; have Ny343 := amk hy343.symm; clear hy343
      by_cases c5 : y340.length + y343.length < 5864062014805
      · rw [if_pos c5] at H; have LMc5 := amk c5; clear c5; (try rw [Option.bind_some] at H); generalize hy347 : ((y340 ++ y343) : List (S45)) = y347 at H; have Ny347 := amk hy347.symm; clear hy347; obtain ⟨ji6, hji6⟩ : ∃ j_ : Int, (wrap64 (a1 + 1)) = j_ := ⟨_, rfl⟩; (replace H : (if 0 ≤ (ji6) then (if (ji6) ≤ (l0.length : Int) then ((some (l0.drop ((ji6) : Int).toNat : List (S45))).bind fun y350 => (if y347.length + y350.length < 5864062014805 then (some (y347 ++ y350)) else (none))) else (none)) else (none)) = some r := by first | (rw [hji6] at H; exact H) | (simp only [hji6] at H ⊢; exact H)); have hji6w : (IntKind.i64.wrap (a1 + 1)) = ji6 := (i64_w _).trans hji6
        by_cases c7 : 0 ≤ (ji6)
        · rw [if_pos c7] at H; have c7b0 := eq_true c7; have c7b1 : decide (0 ≤ (ji6)) = true := decide_eq_true c7; clear c7
          by_cases c8 : (ji6) ≤ (l0.length : Int)
          · rw [if_pos c8] at H; have c8b0 := eq_true c8; have c8b1 : decide ((ji6) ≤ (l0.length : Int)) = true := decide_eq_true c8; clear c8; (try rw [Option.bind_some] at H); generalize hy350 : ((l0.drop ((ji6) : Int).toNat) : List (S45)) = y350 at H; have Ny350 := amk hy350.symm; clear hy350
            by_cases c9 : y347.length + y350.length < 5864062014805
            · rw [if_pos c9] at H; have LMc9 := amk c9; clear c9; (try rw [Option.bind_some] at H); generalize hy354 : ((y347 ++ y350) : List (S45)) = y354 at H; have Ny354 := amk hy354.symm; clear hy354; obtain rfl := Option.some.inj H; go_enter Tryz.func39, Tryz.ntmps39; (try go_wp2); replace HB := amk (bd_ HB.out); have q11 : (a1 : Int) ≤ ((l0.length : Int) : Int) := dA_; obtain ⟨i011, hi011, _, hsz11, _⟩ := info_parts info45; have hroom11 : l0.length ≤ c0 := HC0.out; have hC11 : Kd.C k45 _ A0 l0.length l0 := HR0.out; have hcut11 := cut_to (P := Tryz.prog) 24 45 .i64 Tryz.underlying24 hi011 A0 l0.length c0 a1 (dA_) q11 hroom11; have hr11 := Kd.C_take (m := (a1 : Int).toNat) hC11 (by omega); have hy11 : y343.length = (a1 : Int).toNat := (by rw [Ny343.out, List.length_take]; omega); rw [← Ny343.out] at hr11; rw [← hy11] at hcut11; have HR346 := amk hr11; have HC346 := amk (show y343.length ≤ c0 from by omega); clear hr11 hC11 hroom11 hi011 hsz11; have KY11 := amk hy11; clear hy11; replace q11 := eq_true q11; have q12 : ((ji6) : Int) ≤ ((l0.length : Int) : Int) := dA_; obtain ⟨i012, hi012, _, hsz12, _⟩ := info_parts info45; have hroom12 : l0.length ≤ c0 := HC0.out; have hC12 : Kd.C k45 _ A0 l0.length l0 := HR0.out; have q012 : (0 : Int) ≤ ((ji6) : Int) := dA_; have hcut12 := cut_from (P := Tryz.prog) 24 45 .i64 Tryz.underlying24 hi012 3 hsz12 A0 l0.length c0 (ji6) q012 q12; have hr12 := Kd.C_drop (m := ((ji6) : Int).toNat) (c := c0) hC12 (by omega) hroom12; obtain ⟨A12, hA12⟩ : ∃ A1, A1 = (if c0 = ((ji6) : Int).toNat then A0 else (A0 : Option Addr).map (·.add (((ji6) : Int).toNat * 3))) := ⟨_, rfl⟩; obtain ⟨c12, hc12⟩ : ∃ c1, c1 = c0 - ((ji6) : Int).toNat := ⟨_, rfl⟩; have hy12 : y350.length = l0.length - ((ji6) : Int).toNat := (by rw [Ny350.out, List.length_drop] <;> omega); rw [show (l0).drop ((ji6) : Int).toNat = y350 from Ny350.out.symm] at hr12; replace hr12 : Kd.C k45 _ A12 y350.length y350 := (by rw [hA12]; exact hr12); rw [← hy12, ← hA12, ← hc12] at hcut12; have HR353 := amk hr12; have HC353 := amk (show y350.length ≤ c12 from by rw [hy12, hc12]; exact Nat.sub_le_sub_right hroom12 _); clear hr12 hC12 hroom12 hi012 hsz12 hc12; have KY12 := amk hy12; have KA12 := amk hA12; clear hy12 hA12; replace q12 := eq_true q12; refine start_ (n := 11) (S := fun w' => True) (ds := []) (bA 11 0) (by kernel_rfl) rfl rfl trivial (fun hHeld => ?_); refine with_tabW spec_pzWithout.tab1 spec_pzWithout.bits1 (fun HT_ HW_ => ?_); generalize w.drew = w10 at HB HR346 HR353 hHeld ⊢; refine pU_ HT_ 1 (some 6) (bA 11 2) ?_; refine pU_ HT_ 2 (some 7) (bA 11 6) ?_; refine pU_ HT_ 3 (some 8) (bA 11 14) ?_; refine pU_ HT_ 5 (some 10) (bA 11 46) ?_; refine pU_ HT_ 6 (some 11) (bA 11 110) ?_; refine pU_ HT_ 7 (some 12) (bA 11 238) ?_; refine pU_ HT_ 8 (some 13) (bA 11 494) ?_; refine oN_ HT_ 0 (some 5) (bA 11 495) (fun K hK => ?_); refine Kd.R_lit_step k45 _ 45 ?hg (N := 5) ?hd (xs := ([] : List (S45))) (inner := []) (ok := fun _ => True) (okp := fun _ => True) ?hr ?hp (fun _ hk => hk) trivial (Below.refl _ _) (Nat.le_refl _) (by simp) ?_; (case hd => rfl); (case hg => rfl); (case hr => first | (go_simp; done) | (go_simp; rfl)); (case hp => exact (Reps.none _ _)); intro v341 w13 ho14 hb hg_ hnew_; clear hg_ hnew_; (first | rw [← Ny340.out] at ho14 | (simp only [Int.reduceToNat] at ho14; rw [← Ny340.out] at ho14)); have HO342 := amk (Kd.R_lower ho14 (below_size bB)); replace HB := hB2 HB hb; clear hb ho14; refine hK.out _ _ trivial (fun hHeld => ?_); clear hK K; refine nN_ (some 5) ?_; refine oN_ HT_ 4 (some 9) (bA 11 511) (fun K hK => ?_); refine Kd.R_append_rows_step k45 (w0 := w) w.heap.size (by rfl) (.tmp 5) (.tmp 8) 24 45 (.agg #[(.int .i64 0), (.int .i64 0), (.int .i64 0)]) 24 rfl Tryz.underlying24 info45 rfl (by decide) (by omega) v341 y340 y343 _ _ _ (fun _ => True) (fun _ => False) rfl rfl ?aO ?aR (fun _ _ h => h) (fun _ h => h.elim) ?aF ?aB ?aS ?aL ?_; (case aR => exact cB (Kd.C_below HR346.out HB.out)); (case aB => exact bB); (case aF => exact (fun _ _ => trivial)); (case aO => exact (oX HO342)); (case aS => exact (below_size bB)); (case aL => have := LMc5.out; omega); intro v348 w15 ho hb hg hat; rw [← Ny347.out] at ho; replace HB := amk (hb); have HO349 := amk (ho); clear HO342; clear ho hb hg hat; refine hK.out _ _ trivial (fun hHeld => ?_); clear hK K; refine nN_ (some 9) ?_; refine oN_ HT_ 9 (some 14) (bA 11 1023) (fun K hK => ?_); refine Kd.R_append_rows_step k45 (w0 := w) w.heap.size (by rfl) (.tmp 9) (.tmp 13) 24 45 (.agg #[(.int .i64 0), (.int .i64 0), (.int .i64 0)]) 24 rfl Tryz.underlying24 info45 rfl (by decide) (by omega) v348 y347 y350 _ _ _ (fun _ => True) (fun _ => False) rfl rfl ?aO ?aR (fun _ _ h => h) (fun _ h => h.elim) ?aF ?aB ?aS ?aL ?_; (case aR => exact cB (Kd.C_below HR353.out HB.out)); (case aB => exact bB); (case aF => exact (fun _ _ => trivial)); (case aO => exact (oX HO349)); (case aS => exact (below_size bB)); (case aL => have := LMc9.out; omega); intro v355 w16 ho hb hg hat; rw [← Ny354.out] at ho; replace HB := amk (hb); have HO356 := amk (ho); clear HO349; clear ho hb hg hat; refine hK.out _ _ trivial (fun hHeld => ?_); clear hK K; refine nN_ (some 14) ?_; refine pU_ HT_ 10 (some 4) (bA 11 2047) ?_; refine done_ (done_of HT_.out (by kernel_rfl)) ?_; (try go_wp2); go_ret; exact ⟨_, by first | rfl | (simp [errW_none, errW_some] <;> rfl) | (simp only [← hji6]; first | rfl | (simp [errW_none, errW_some] <;> rfl)) | (simp [*, errW_none, errW_some] <;> rfl), oX HO356, bB⟩
            · rw [if_neg c9] at H; exact absurd H (by simp)
          · rw [if_neg c8] at H; exact absurd H (by simp)
        · rw [if_neg c7] at H; exact absurd H (by simp)
      · rw [if_neg c5] at H; exact absurd H (by simp)
    · rw [if_neg c4] at H; exact absurd H (by simp)
  · rw [if_neg c3] at H; exact absurd H (by simp)
/-! ### spec_NeedlessClues: function 15 -/
def spec_NeedlessClues.l0 : Nat → List Int → Int → Int → Int → Int → Int → List (S45) → Option (List Int × Bool)
  | 0, _, _, _, _, _, _, _ => none
  | k + 1, x4, x5, x18, x19, x358000, x358001, x358002 => if x19 < x18 then ((spec_pzWithout.f x358002 x19).bind fun t362 => ((spec_pzAll.f k x358000 x358001 t362).bind fun t365 => (if (t365.length : Int) = x5 then (if x4.length < 17592186044416 then (spec_NeedlessClues.l0 k (x4 ++ [x19]) x5 x18 (wrap64 (x19 + 1)) x358000 x358001 x358002) else (none)) else (spec_NeedlessClues.l0 k x4 x5 x18 (wrap64 (x19 + 1)) x358000 x358001 x358002)))) else (some (x4, true))
def spec_NeedlessClues.f (k : Nat) (a0_0 : Int) (a0_1 : Int) (l0_2 : List (S45)) : Option (List Int × Bool) := (spec_pzGood.f k a0_0 a0_1 l0_2).bind fun t358 => (if t358 = true then ((spec_pzAll.f k a0_0 a0_1 l0_2).bind fun t359 => (spec_NeedlessClues.l0 k ([] : List Int) (t359.length : Int) (l0_2.length : Int) 0 a0_0 a0_1 l0_2)) else (some (([] : List Int), false)))
def spec_NeedlessClues.T8 : Bool × List (List Nat × List Nat) := (true, [([], []), ([0], [0]), ([], []), ([2], [2]), ([], []), ([3, 4], [3, 4]), ([1, 5, 5], [1, 5]), ([6], [6]), ([], []), ([7, 8], [7, 8])])
def spec_NeedlessClues.B8 : List Nat := [0, 1, 0, 4, 0, 28, 63, 127, 0, 511]
theorem spec_NeedlessClues.tab8 : rtab .any (opsOf Tryz.f15 8) = spec_NeedlessClues.T8 := by kernel_rfl
theorem spec_NeedlessClues.bits8 : waitsOk spec_NeedlessClues.T8.2 spec_NeedlessClues.B8 = true := by kernel_rfl
set_option maxHeartbeats 8000000 in
set_option maxRecDepth 100000 in
theorem spec_NeedlessClues.calls (k : Nat) (a0_0 : Int) (a0_1 : Int) (A0_2 : Option Addr) (c0_2 : Nat) (l0_2 : List (S45)) (r1 : List Int) (r2 : Bool) (w : World) (hr0_2 : Kd.C k45 w A0_2 l0_2.length l0_2) (hc0_2 : l0_2.length ≤ c0_2) (h : spec_NeedlessClues.f k a0_0 a0_1 l0_2 = some (r1, r2)) :
    Calls Tryz.prog 15 #[.agg #[.int .i64 a0_0, .int .i64 a0_1, .slice A0_2 l0_2.length c0_2]] w fun e w' => ∃ v0_ : Value, e = .returned (.tuple #[v0_, .bool r2]) ∧ Kd.R (Kd.int .i64) 3 w' w.heap.size (fun _ => True) v0_ r1 ∧ Below w.heap.size w w' := by
  have hu26 := Tryz.underlying26; have hu23 := Tryz.underlying23; have HR0_2 := amk hr0_2; have HC0_2 := amk hc0_2; clear hr0_2 hc0_2; have HB := amk (Below.refl w.heap.size w); unfold spec_NeedlessClues.f at h; have H := h; clear h; replace H := bE H; obtain ⟨t358, A2, H⟩ := H; replace H := iteB H; obtain ⟨rfl, H⟩ | ⟨rfl, H⟩ := H
  · replace H := bE H; obtain ⟨t359, A4, H⟩ := H; have H' := amk H; clear H; go_enter Tryz.func15, Tryz.ntmps15; go_wp2_with (first | ((with_reducible refine gate_dst (N := 1) rfl ?_); refine boxE_ HB 1 #[.int .i64 a0_0, .int .i64 a0_1, .slice A0_2 l0_2.length c0_2] 26 ?_; clear HB; intro gb357 w5 HB BK357 GW357 GE357 hb; clear hb; obtain ⟨hcz6_0, hcz6_1, hcz6_2, hfz6_0, hfz6_1, hfz6_2⟩ := cells3 BK357.out) | ((with_reducible refine gate_callee (f := 35) rfl ?_); refine goesL_ (some 8) rfl rfl Tryz.func35 (by kernel_rfl) rfl #[.agg #[.int .i64 a0_0, .int .i64 a0_1, .slice A0_2 l0_2.length c0_2]] rfl gL_ ?_; (with_reducible refine (spec_pzGood.calls k a0_0 a0_1 _ _ l0_2 true _ ?_ ?_ A2.out).mono ?_); exact cB (Kd.C_below HR0_2.out HB.out); exact HC0_2.out; rintro e w7 ⟨rfl, hb⟩; refine ⟨_, rfl, ?_⟩; replace BK357 := kb2 BK357 hb; replace HB := hB2 HB hb; (try clear hb); obtain ⟨hcz8_0, hcz8_1, hcz8_2, hfz8_0, hfz8_1, hfz8_2⟩ := cells3 BK357.out) | ((with_reducible refine gate_callee (f := 36) rfl ?_); refine goesL_ (some 14) rfl rfl Tryz.func36 (by kernel_rfl) rfl #[.agg #[.int .i64 a0_0, .int .i64 a0_1], .slice A0_2 l0_2.length c0_2] rfl gL_ ?_; (with_reducible refine (spec_pzAll.calls k a0_0 a0_1 _ _ l0_2 t359 _ ?_ ?_ A4.out).mono ?_); exact cB (Kd.C_below HR0_2.out HB.out); exact HC0_2.out; rintro e w9 ⟨v360, rfl, ho0, hb⟩; refine ⟨_, rfl, ?_⟩; have HO361 := amk (Kd.R_lower ho0 (below_size bB)); replace BK357 := kb2 BK357 hb; replace HB := hB2 HB hb; (try clear hb); (try clear ho0); obtain ⟨Ao10, co10, eo10⟩ := Kd.R_slice HO361.out; subst eo10; obtain ⟨hcz11_0, hcz11_1, hcz11_2, hfz11_0, hfz11_1, hfz11_2⟩ := cells3 BK357.out))
    go_loopg [4, 19] k (fun kq v4 v19 w' => ∃ (x4_1 : List Int) (x19_1 : Int), v19 = .int .i64 x19_1 ∧ Aside0 (spec_NeedlessClues.l0 kq x4_1 (t359.length : Int) (l0_2.length : Int) x19_1 a0_0 a0_1 l0_2 = some (r1, r2)) ∧ Aside0 (kq ≤ k) ∧ Aside0 (Kd.R (Kd.int .i64) 3 w' w.heap.size (fun _ => True) v4 x4_1) ∧ Aside0 (w'.heap[gb357]? = some (.cells #[.int .i64 a0_0, .int .i64 a0_1, (.slice A0_2 l0_2.length c0_2)] 26 (0, 0))) ∧ Aside0 (Below w.heap.size w w'))
    case atStart => exact ⟨(([] : List Int)), (0), rS_, H', ⟨Nat.le_refl _⟩, ⟨xN_⟩, ⟨kB BK357⟩, ⟨bB⟩⟩
    case round =>
      clear H'; (try clear c1); (try clear p2); (try clear c3); (try clear hcz11_0); (try clear hcz11_1); (try clear hcz11_2); (try clear hcz6_0); (try clear hcz6_1); (try clear hcz6_2); (try clear hcz8_0); (try clear hcz8_1); (try clear hcz8_2); (try clear hfz11_0); (try clear hfz11_1); (try clear hfz11_2); (try clear hfz6_0); (try clear hfz6_1); (try clear hfz6_2); (try clear hfz8_0); (try clear hfz8_1); (try clear hfz8_2); obtain ⟨x4_1, x19_1, rfl, HA, HK1, HO_4, BK357, HB⟩ := hrel
      cases gk with
      | zero => exact absurd HA.out (by simp [spec_NeedlessClues.l0])
      | succ k1 =>
        have H := HA.out; clear HA; simp only [spec_NeedlessClues.l0] at H; replace H := iteE H; obtain ⟨c12b0, H⟩ | ⟨c12b0, H⟩ := H
        · replace H := bE H; obtain ⟨t362, A13, H⟩ := H; replace H := bE H; obtain ⟨t365, A14, H⟩ := H
          by_cases c15 : (t365.length : Int) = (t359.length : Int)
          · rw [if_pos c15] at H; have c15b0 : ((t365.length : Int) == (t359.length : Int)) = true := beq_iff_eq.mpr c15; have c15b1 : ((t365.length : Int) != (t359.length : Int)) = false := bne_eq_false_iff_eq.mpr c15; (have c15b2 : (t365.length == t359.length) = true := by first | simpa using c15 | (simp at c15 ⊢; omega)); clear c15
            by_cases c16 : x4_1.length < 17592186044416
            · rw [if_pos c16] at H; have LMc16 := amk c16; clear c16; (try rw [Option.bind_some] at H); generalize hy368 : ((x4_1 ++ [x19_1]) : List Int) = y368 at H; have Ny368 := amk hy368.symm; clear hy368; have H' := amk H; clear H; (try go_wp2); replace HO_4 := amk (Kd.R_drew HO_4.out); replace BK357 := amk (blk_drew BK357.out); replace HB := amk (bd_ HB.out); refine start_ (n := 10) (S := fun w' => w'.cell? ⟨gb357, 0, none⟩ = some (.int .i64 a0_0) ∧ w'.cell? ⟨gb357, 1, none⟩ = some (.int .i64 a0_1) ∧ w'.cell? ⟨gb357, 2, none⟩ = some (.slice A0_2 l0_2.length c0_2)) (ds := []) (bA 10 0) (by kernel_rfl) rfl rfl ⟨(blk_cell BK357.out 0).trans rfl, (blk_cell BK357.out 1).trans rfl, (blk_cell BK357.out 2).trans rfl⟩ (fun hHeld => ?_); refine with_tabW spec_NeedlessClues.tab8 spec_NeedlessClues.bits8 (fun HT_ HW_ => ?_); generalize wr.drew = w17 at HO_4 BK357 HB hHeld ⊢; refine pU_ HT_ 0 (some 22) (bA 10 1) ?_; refine pU_ HT_ 2 (some 24) (bA 10 5) ?_; refine pU_ HT_ 4 (some 26) (bA 10 21) ?_; refine pU_ HT_ 8 (some 30) (bA 10 277) ?_; refine tK_ HT_ HW_ hHeld 1 (some 23) (bA 10 279) ?_; refine tK_ HT_ HW_ hHeld 3 (some 25) (bA 10 287) ?_; refine oN_ HT_ 5 (some 27) (bA 10 319) (fun K hK => ?_); refine goes_ Tryz.func39 (by kernel_rfl) rfl #[.slice A0_2 l0_2.length c0_2, .int .i64 x19_1] (by rfl) rfl rfl gL_ ?_; (with_reducible refine (spec_pzWithout.calls _ _ l0_2 x19_1 t362 _ ?_ ?_ A13.out).mono ?_); exact cB (Kd.C_below HR0_2.out HB.out); exact HC0_2.out; rintro e w18 ⟨v363, rfl, ho0, hb⟩; refine ⟨_, rfl, ?_⟩; replace HO_4 := amk (Kd.R_below (oX HO_4) hb); have HO364 := amk (Kd.R_lower ho0 (below_size bB)); replace BK357 := kb2 BK357 hb; replace HB := hB2 HB hb; (try clear hb); (try clear ho0); obtain ⟨Ao19, co19, eo19⟩ := Kd.R_slice HO364.out; (first | subst eo19 | (injection eo19 with f1_ f2_ f3_; have f4_ := f1_.symm; have f5_ := f3_.symm; clear f1_ f2_ f3_; subst f4_; subst f5_)); refine hK.out _ _ hC_ (fun hHeld => ?_); clear hK K; refine nN_ (some 27) ?_; refine oN_ HT_ 6 (some 28) (bA 10 383) (fun K hK => ?_); refine goes_ Tryz.func36 (by kernel_rfl) rfl #[.agg #[.int .i64 a0_0, .int .i64 a0_1], .slice Ao19 t362.length co19] (by rfl) rfl rfl gL_ ?_; (with_reducible refine (spec_pzAll.calls k1 a0_0 a0_1 _ _ t362 t365 _ ?_ ?_ A14.out).mono ?_); exact cB ((Kd.R_reads' HO364.out).2.2); exact (Kd.R_reads' HO364.out).2.1; rintro e w20 ⟨v366, rfl, ho0, hb⟩; refine ⟨_, rfl, ?_⟩; replace HO_4 := amk (Kd.R_below (oX HO_4) hb); replace HO364 := amk (Kd.R_below (oX HO364) hb); have HO367 := amk (Kd.R_lower ho0 (below_size bB)); replace BK357 := kb2 BK357 hb; replace HB := hB2 HB hb; (try clear hb); (try clear ho0); obtain ⟨Ao21, co21, eo21⟩ := Kd.R_slice HO367.out; (first | subst eo21 | (injection eo21 with f1_ f2_ f3_; have f4_ := f1_.symm; have f5_ := f3_.symm; clear f1_ f2_ f3_; subst f4_; subst f5_)); refine hK.out _ _ hC_ (fun hHeld => ?_); clear hK K; refine nN_ (some 28) ?_; refine pU_ HT_ 7 (some 29) (bA 10 511) ?_; refine pU_ HT_ 9 (some 31) (bA 10 1023) ?_; refine done_ (done_of HT_.out (by kernel_rfl)) ?_; (try go_wp2_with (first | ((with_reducible refine gate_builtin (b := .append) (xs := #[.tmp 32, .tmp 34]) rfl ?_); at_builtin; refine Kd.R_append (Kd.int .i64) (w0 := w) w.heap.size rfl (.tmp 32) (.tmp 34) 36 3 (.int .i64 0) 8 rfl Tryz.underlying36 info3 rfl (by decide) (by omega) u4 x4_1 x19_1 [.int .i64 x19_1] (fun _ => True) (fun _ => False) rfl rfl rfl (fun _ hk => hk.elim) (fun _ _ => trivial) (oX HO_4) bB (below_size bB) (by have := LMc16.out; omega) ?_; intro v369 w22 ho hb hg hat; rw [← Ny368.out] at ho; replace BK357 := bG BK357 hg (Kd.R_ne HO_4.out BK357.out (by decide)); replace HO364 := amk (Kd.R_over' (oX HO364) (Kd.R_typed (oX HO_4)) (by decide) hg); replace HO367 := amk (Kd.R_over' (oX HO367) (Kd.R_typed (oX HO_4)) (by decide) hg); replace HB := amk (hb); have HO370 := amk (ho); clear HO_4; clear ho hb hg hat))); go_roundg k1
              case measure => have := HK1.out; omega
              case rel => exact ⟨(y368), (wrap64 (x19_1 + 1)), rS_, H', ⟨by have := HK1.out; omega⟩, ⟨oX HO370⟩, ⟨kB BK357⟩, ⟨bB⟩⟩
            · rw [if_neg c16] at H; exact absurd H (by simp)
          · rw [if_neg c15] at H; have c15b0 : ((t365.length : Int) == (t359.length : Int)) = false := beq_eq_false_iff_ne.mpr c15; have c15b1 : ((t365.length : Int) != (t359.length : Int)) = true := bne_iff_ne.mpr c15; (have c15b2 : (t365.length == t359.length) = false := by first | simpa using c15 | (simp at c15 ⊢; omega)); have H' := amk H; clear H; (try go_wp2); replace HO_4 := amk (Kd.R_drew HO_4.out); replace BK357 := amk (blk_drew BK357.out); replace HB := amk (bd_ HB.out); refine start_ (n := 10) (S := fun w' => w'.cell? ⟨gb357, 0, none⟩ = some (.int .i64 a0_0) ∧ w'.cell? ⟨gb357, 1, none⟩ = some (.int .i64 a0_1) ∧ w'.cell? ⟨gb357, 2, none⟩ = some (.slice A0_2 l0_2.length c0_2)) (ds := []) (bA 10 0) (by kernel_rfl) rfl rfl ⟨(blk_cell BK357.out 0).trans rfl, (blk_cell BK357.out 1).trans rfl, (blk_cell BK357.out 2).trans rfl⟩ (fun hHeld => ?_); refine with_tabW spec_NeedlessClues.tab8 spec_NeedlessClues.bits8 (fun HT_ HW_ => ?_); generalize wr.drew = w23 at HO_4 BK357 HB hHeld ⊢; refine pU_ HT_ 0 (some 22) (bA 10 1) ?_; refine pU_ HT_ 2 (some 24) (bA 10 5) ?_; refine pU_ HT_ 4 (some 26) (bA 10 21) ?_; refine pU_ HT_ 8 (some 30) (bA 10 277) ?_; refine tK_ HT_ HW_ hHeld 1 (some 23) (bA 10 279) ?_; refine tK_ HT_ HW_ hHeld 3 (some 25) (bA 10 287) ?_; refine oN_ HT_ 5 (some 27) (bA 10 319) (fun K hK => ?_); refine goes_ Tryz.func39 (by kernel_rfl) rfl #[.slice A0_2 l0_2.length c0_2, .int .i64 x19_1] (by rfl) rfl rfl gL_ ?_; (with_reducible refine (spec_pzWithout.calls _ _ l0_2 x19_1 t362 _ ?_ ?_ A13.out).mono ?_); exact cB (Kd.C_below HR0_2.out HB.out); exact HC0_2.out; rintro e w24 ⟨v363, rfl, ho0, hb⟩; refine ⟨_, rfl, ?_⟩; replace HO_4 := amk (Kd.R_below (oX HO_4) hb); have HO364 := amk (Kd.R_lower ho0 (below_size bB)); replace BK357 := kb2 BK357 hb; replace HB := hB2 HB hb; (try clear hb); (try clear ho0); obtain ⟨Ao25, co25, eo25⟩ := Kd.R_slice HO364.out; (first | subst eo25 | (injection eo25 with f1_ f2_ f3_; have f4_ := f1_.symm; have f5_ := f3_.symm; clear f1_ f2_ f3_; subst f4_; subst f5_)); refine hK.out _ _ hC_ (fun hHeld => ?_); clear hK K; refine nN_ (some 27) ?_; refine oN_ HT_ 6 (some 28) (bA 10 383) (fun K hK => ?_); refine goes_ Tryz.func36 (by kernel_rfl) rfl #[.agg #[.int .i64 a0_0, .int .i64 a0_1], .slice Ao25 t362.length co25] (by rfl) rfl rfl gL_ ?_; (with_reducible refine (spec_pzAll.calls k1 a0_0 a0_1 _ _ t362 t365 _ ?_ ?_ A14.out).mono ?_); exact cB ((Kd.R_reads' HO364.out).2.2); exact (Kd.R_reads' HO364.out).2.1; rintro e w26 ⟨v366, rfl, ho0, hb⟩; refine ⟨_, rfl, ?_⟩; replace HO_4 := amk (Kd.R_below (oX HO_4) hb); replace HO364 := amk (Kd.R_below (oX HO364) hb); have HO367 := amk (Kd.R_lower ho0 (below_size bB)); replace BK357 := kb2 BK357 hb; replace HB := hB2 HB hb; (try clear hb); (try clear ho0); obtain ⟨Ao27, co27, eo27⟩ := Kd.R_slice HO367.out; (first | subst eo27 | (injection eo27 with f1_ f2_ f3_; have f4_ := f1_.symm; have f5_ := f3_.symm; clear f1_ f2_ f3_; subst f4_; subst f5_)); refine hK.out _ _ hC_ (fun hHeld => ?_); clear hK K; refine nN_ (some 28) ?_; refine pU_ HT_ 7 (some 29) (bA 10 511) ?_; refine pU_ HT_ 9 (some 31) (bA 10 1023) ?_; refine done_ (done_of HT_.out (by kernel_rfl)) ?_; (try go_wp2); go_roundg k1
            case measure => have := HK1.out; omega
            case rel => exact ⟨(x4_1), (wrap64 (x19_1 + 1)), rS_, H', ⟨by have := HK1.out; omega⟩, ⟨oX HO_4⟩, ⟨kB BK357⟩, ⟨bB⟩⟩
        · simp only [Option.some.injEq, Prod.mk.injEq] at H; obtain ⟨rfl, rfl⟩ := H; go_wp2; go_ret2; exact ⟨_, rF_, oX HO_4, bB⟩
  · simp only [Option.some.injEq, Prod.mk.injEq] at H; obtain ⟨rfl, rfl⟩ := H; go_enter Tryz.func15, Tryz.ntmps15; go_wp2_with (first | ((with_reducible refine gate_dst (N := 1) rfl ?_); refine boxE_ HB 1 #[.int .i64 a0_0, .int .i64 a0_1, .slice A0_2 l0_2.length c0_2] 26 ?_; clear HB; intro gb357 w28 HB BK357 GW357 GE357 hb; clear hb; obtain ⟨hcz29_0, hcz29_1, hcz29_2, hfz29_0, hfz29_1, hfz29_2⟩ := cells3 BK357.out) | ((with_reducible refine gate_callee (f := 35) rfl ?_); refine goesL_ (some 8) rfl rfl Tryz.func35 (by kernel_rfl) rfl #[.agg #[.int .i64 a0_0, .int .i64 a0_1, .slice A0_2 l0_2.length c0_2]] rfl gL_ ?_; (with_reducible refine (spec_pzGood.calls k a0_0 a0_1 _ _ l0_2 false _ ?_ ?_ A2.out).mono ?_); exact cB (Kd.C_below HR0_2.out HB.out); exact HC0_2.out; rintro e w30 ⟨rfl, hb⟩; refine ⟨_, rfl, ?_⟩; replace BK357 := kb2 BK357 hb; replace HB := hB2 HB hb; (try clear hb))); go_ret2; exact ⟨_, rF_, xN_, bB⟩
/-! ### spec_Solutions: function 5 -/
def spec_Solutions.f (k : Nat) (a0_0 : Int) (a0_1 : Int) (l0_2 : List (S45)) : Option (List ByteArray × Bool) := (spec_pzGood.f k a0_0 a0_1 l0_2).bind fun t285 => (if t285 = true then ((spec_pzAll.f k a0_0 a0_1 l0_2).bind fun t286 => (some (t286, true))) else (some (([] : List ByteArray), false)))
set_option maxHeartbeats 8000000 in
set_option maxRecDepth 100000 in
theorem spec_Solutions.calls (k : Nat) (a0_0 : Int) (a0_1 : Int) (A0_2 : Option Addr) (c0_2 : Nat) (l0_2 : List (S45)) (r1 : List ByteArray) (r2 : Bool) (w : World) (hr0_2 : Kd.C k45 w A0_2 l0_2.length l0_2) (hc0_2 : l0_2.length ≤ c0_2) (h : spec_Solutions.f k a0_0 a0_1 l0_2 = some (r1, r2)) :
    Calls Tryz.prog 5 #[.agg #[.int .i64 a0_0, .int .i64 a0_1, .slice A0_2 l0_2.length c0_2]] w fun e w' => ∃ v0_ : Value, e = .returned (.tuple #[v0_, .bool r2]) ∧ Kd.R Kd.string 9 w' w.heap.size (fun _ => True) v0_ r1 ∧ Below w.heap.size w w' := by
  have hu26 := Tryz.underlying26; have hu23 := Tryz.underlying23; have HR0_2 := amk hr0_2; have HC0_2 := amk hc0_2; clear hr0_2 hc0_2; have HB := amk (Below.refl w.heap.size w); unfold spec_Solutions.f at h; have H := h; clear h; replace H := bE H; obtain ⟨t285, A2, H⟩ := H; replace H := iteB H; obtain ⟨rfl, H⟩ | ⟨rfl, H⟩ := H
  · replace H := bE H; obtain ⟨t286, A4, H⟩ := H; simp only [Option.some.injEq, Prod.mk.injEq] at H; obtain ⟨rfl, rfl⟩ := H; go_enter Tryz.func5, Tryz.ntmps5; go_wp2_with (first | ((with_reducible refine gate_dst (N := 1) rfl ?_); refine boxE_ HB 1 #[.int .i64 a0_0, .int .i64 a0_1, .slice A0_2 l0_2.length c0_2] 26 ?_; clear HB; intro gb284 w5 HB BK284 GW284 GE284 hb; clear hb; obtain ⟨hcz6_0, hcz6_1, hcz6_2, hfz6_0, hfz6_1, hfz6_2⟩ := cells3 BK284.out) | ((with_reducible refine gate_callee (f := 35) rfl ?_); refine goesL_ (some 5) rfl rfl Tryz.func35 (by kernel_rfl) rfl #[.agg #[.int .i64 a0_0, .int .i64 a0_1, .slice A0_2 l0_2.length c0_2]] rfl gL_ ?_; (with_reducible refine (spec_pzGood.calls k a0_0 a0_1 _ _ l0_2 true _ ?_ ?_ A2.out).mono ?_); exact cB (Kd.C_below HR0_2.out HB.out); exact HC0_2.out; rintro e w7 ⟨rfl, hb⟩; refine ⟨_, rfl, ?_⟩; replace BK284 := kb2 BK284 hb; replace HB := hB2 HB hb; (try clear hb); obtain ⟨hcz8_0, hcz8_1, hcz8_2, hfz8_0, hfz8_1, hfz8_2⟩ := cells3 BK284.out) | ((with_reducible refine gate_callee (f := 36) rfl ?_); refine goesL_ (some 11) rfl rfl Tryz.func36 (by kernel_rfl) rfl #[.agg #[.int .i64 a0_0, .int .i64 a0_1], .slice A0_2 l0_2.length c0_2] rfl gL_ ?_; (with_reducible refine (spec_pzAll.calls k a0_0 a0_1 _ _ l0_2 t286 _ ?_ ?_ A4.out).mono ?_); exact cB (Kd.C_below HR0_2.out HB.out); exact HC0_2.out; rintro e w9 ⟨v287, rfl, ho0, hb⟩; refine ⟨_, rfl, ?_⟩; have HO288 := amk (Kd.R_lower ho0 (below_size bB)); replace BK284 := kb2 BK284 hb; replace HB := hB2 HB hb; (try clear hb); (try clear ho0))); go_ret2; exact ⟨_, rF_, oX HO288, bB⟩
  · simp only [Option.some.injEq, Prod.mk.injEq] at H; obtain ⟨rfl, rfl⟩ := H; go_enter Tryz.func5, Tryz.ntmps5; go_wp2_with (first | ((with_reducible refine gate_dst (N := 1) rfl ?_); refine boxE_ HB 1 #[.int .i64 a0_0, .int .i64 a0_1, .slice A0_2 l0_2.length c0_2] 26 ?_; clear HB; intro gb284 w10 HB BK284 GW284 GE284 hb; clear hb; obtain ⟨hcz11_0, hcz11_1, hcz11_2, hfz11_0, hfz11_1, hfz11_2⟩ := cells3 BK284.out) | ((with_reducible refine gate_callee (f := 35) rfl ?_); refine goesL_ (some 5) rfl rfl Tryz.func35 (by kernel_rfl) rfl #[.agg #[.int .i64 a0_0, .int .i64 a0_1, .slice A0_2 l0_2.length c0_2]] rfl gL_ ?_; (with_reducible refine (spec_pzGood.calls k a0_0 a0_1 _ _ l0_2 false _ ?_ ?_ A2.out).mono ?_); exact cB (Kd.C_below HR0_2.out HB.out); exact HC0_2.out; rintro e w12 ⟨rfl, hb⟩; refine ⟨_, rfl, ?_⟩; replace BK284 := kb2 BK284 hb; replace HB := hB2 HB hb; (try clear hb))); go_ret2; exact ⟨_, rF_, xN_, bB⟩
/-! The digits that all codes have, as values; a row of bytes behind a conversion. -/
def hdS (xs : List ByteArray) : ByteArray := rdOf ByteArray.empty xs 0
def sureC (xs : List ByteArray) (s : ByteArray) (j i : Nat) : Int := if (xs.take j).all (fun t => decide (bt t (i : Nat) = bt s (i : Nat))) = true then bt s (i : Nat) else 63
def sureL (xs : List ByteArray) (s : ByteArray) (j n : Nat) : List Int := (List.range n).map (sureC xs s j)
def mixL (xs : List ByteArray) (s : ByteArray) (j n i : Nat) : List Int := (List.range n).map fun q => if q < i then sureC xs s (j + 1) q else sureC xs s j q
def sureOk (xs : List ByteArray) : Bool := xs.all (fun t => decide (t.size = (hdS xs).size)) && decide ((hdS xs).size ≤ 1000000) && (List.range (hdS xs).size).all (fun i => decide (bt (hdS xs) (i : Nat) < 128))
theorem sureOk_iff {xs : List ByteArray} : sureOk xs = true ↔ (∀ t ∈ xs, t.size = (hdS xs).size) ∧ (hdS xs).size ≤ 1000000 ∧ ∀ i < (hdS xs).size, bt (hdS xs) (i : Nat) < 128 := by
  unfold sureOk
  simp [List.all_eq_true, and_assoc]
theorem sureL_length (xs s j n) : (sureL xs s j n).length = n := by simp [sureL]
theorem mixL_length (xs s j n i) : (mixL xs s j n i).length = n := by simp [mixL]
theorem mixL_zero (xs s j n) : mixL xs s j n 0 = sureL xs s j n := by simp [mixL, sureL]
theorem mixL_full (xs s j n) : mixL xs s j n n = sureL xs s (j + 1) n := by
  unfold mixL sureL
  refine List.map_congr_left (fun q hq => ?_)
  rw [if_pos (List.mem_range.mp hq)]
theorem sureC_succ {xs : List ByteArray} {s : ByteArray} {j i : Nat} (hj : j < xs.length) : sureC xs s (j + 1) i = if bt xs[j] (i : Nat) = bt s (i : Nat) then sureC xs s j i else 63 := by
  unfold sureC
  rw [List.take_succ_eq_append_getElem hj, List.all_append]
  by_cases h : bt xs[j] (i : Nat) = bt s (i : Nat) <;> simp [h]
theorem mixL_same {xs : List ByteArray} {s : ByteArray} {j n i : Nat} (hj : j < xs.length) (h : bt xs[j] (i : Nat) = bt s (i : Nat)) : mixL xs s j n (i + 1) = mixL xs s j n i := by
  unfold mixL
  refine List.map_congr_left (fun q _ => ?_)
  by_cases e : q = i
  · subst e; rw [if_pos (by omega), if_neg (by omega), sureC_succ hj, if_pos h]
  · by_cases e2 : q < i
    · rw [if_pos (by omega), if_pos e2]
    · rw [if_neg (by omega), if_neg e2]
theorem mixL_get {xs : List ByteArray} {s : ByteArray} {j n i q : Nat} (h : q < (mixL xs s j n i).length) : (mixL xs s j n i)[q] = if q < i then sureC xs s (j + 1) q else sureC xs s j q := by
  simp [mixL]
theorem sureL_get {xs : List ByteArray} {s : ByteArray} {j n q : Nat} (h : q < (sureL xs s j n).length) : (sureL xs s j n)[q] = sureC xs s j q := by
  simp [sureL]
theorem mixL_diff {xs : List ByteArray} {s : ByteArray} {j n i : Nat} (hj : j < xs.length) (h : ¬ bt xs[j] (i : Nat) = bt s (i : Nat)) : (mixL xs s j n i).set i 63 = mixL xs s j n (i + 1) := by
  apply List.ext_getElem
  · simp [mixL_length]
  · intro q h1 h2
    have hq : q < n := by rw [mixL_length] at h2; exact h2
    rw [List.getElem_set]
    by_cases e : i = q
    · subst e; rw [if_pos rfl, mixL_get, if_pos (by omega), sureC_succ hj, if_neg h]
    · rw [if_neg e, mixL_get, mixL_get]
      by_cases e2 : q < i
      · rw [if_pos e2, if_pos (by omega)]
      · rw [if_neg e2, if_neg (by omega)]
theorem sureL_zero (xs : List ByteArray) (s : ByteArray) : sureL xs s 0 s.size = bytesOf s := by
  apply List.ext_getElem
  · rw [sureL_length, bytesOf_length]
  · intro q h1 h2
    have e := rd_bytesOf s (q : Int)
    rw [rd_at (by simpa using h2)] at e
    simp only [Int.toNat_natCast] at e
    rw [e, sureL_get]
    simp [sureC]
def BS (W : World) (g : Nat) (L : List Int) : Prop := ∀ i (h : i < L.length), W.cell? ⟨g, i, none⟩ = some (.int .u8 L[i]) ∧ W.frozen? ⟨g, i, none⟩ = false
theorem BS_drew {W : World} {g : Nat} {L : List Int} (h : BS W g L) : BS W.drew g L := h
theorem BS_set {W : World} {g : Nat} {L : List Int} (h : BS W g L) {i : Nat} (hi : i < L.length) (v : Int) : BS (W.setCell ⟨g, i, none⟩ (.int .u8 v)) g (L.set i v) := by
  intro q hq
  rw [List.length_set] at hq
  refine ⟨?_, by rw [World.frozen?_setCell]; exact (h q hq).2⟩
  rw [List.getElem_set]
  by_cases e : i = q
  · subst e; rw [if_pos rfl]; exact World.cell?_setCell_same W _ _ (h i hi).1
  · rw [if_neg e, World.cell?_setCell_other _ _ _ _ (by intro h; injection h with _ h; exact e h)]; exact (h q hq).1
theorem BS_new (W : World) (e : Nat) (s : ByteArray) : BS (Lib.bytesWorld W e s) W.heap.size (bytesOf s) := by
  intro i hi
  rw [bytesOf_length] at hi
  refine ⟨?_, ?_⟩
  · rw [Lib.bytesWorld_cell W e s i hi]
    have h' : i < s.data.toList.length := by rw [data_length]; exact hi
    simp [bytesOf, List.getD_eq_getElem?_getD, List.getElem?_eq_getElem h']
  · have h2 : s.size ≤ (Lib.bytesCells W e s).size := by simp [Lib.bytesCells] <;> omega
    simp [World.frozen?, Lib.bytesWorld_at_new]
    omega
theorem ex_one {s : ByteArray} {i : Nat} (h : i < s.size) : s.extract i (i + 1) = strOfNums [bt s (i : Nat)] := by
  have e0 := bt_nat h
  apply ByteArray.ext
  rw [ByteArray.data_extract]
  apply Array.ext
  · simp [strOfNums]
    have : s.data.size = s.size := rfl
    omega
  · intro q h1 h2
    have hq : q = 0 := by simp [strOfNums] at h2; omega
    subst hq
    simp only [Array.getElem_extract, strOfNums]
    simp
    rw [← e0]
    simp
    rfl
theorem ex_eq {s t : ByteArray} {i : Nat} (h : i < s.size) (h2 : i < t.size) : (t.extract i (i + 1) = s.extract i (i + 1)) ↔ bt t (i : Nat) = bt s (i : Nat) := by
  constructor
  · intro e
    have a1 : (t.extract i (i + 1))[0]'(by rw [ByteArray.size_extract]; omega) = (s.extract i (i + 1))[0]'(by rw [ByteArray.size_extract]; omega) := by simp only [e]
    rw [ByteArray.getElem_extract, ByteArray.getElem_extract] at a1
    have b1 := bt_nat h
    have b2 := bt_nat h2
    rw [← b1, ← b2]
    simp only [Nat.add_zero] at a1
    rw [a1]
  · intro e
    rw [ex_one h, ex_one h2, e]
theorem sureL_snoc (xs : List ByteArray) (s : ByteArray) (j i : Nat) : strOfNums (sureL xs s j (i + 1)) = strOfNums (sureL xs s j i) ++ strOfNums [sureC xs s j i] := by
  rw [← strOfNums_app]
  unfold sureL
  rw [List.range_succ, List.map_append]
  rfl
theorem sureC_yes {xs : List ByteArray} {s : ByteArray} {j i : Nat} (h : ∀ q (hq : q < xs.length), q < j → bt xs[q] (i : Nat) = bt s (i : Nat)) : sureC xs s j i = bt s (i : Nat) := by
  unfold sureC
  rw [if_pos]
  rw [List.all_eq_true]
  intro t ht
  obtain ⟨q, hq, rfl⟩ := List.mem_take_iff_getElem.mp ht
  exact decide_eq_true (h q (by omega) (by omega))
theorem sureC_no {xs : List ByteArray} {s : ByteArray} {j i q : Nat} (hq : q < xs.length) (hj : q < j) (h : ¬ bt xs[q] (i : Nat) = bt s (i : Nat)) : sureC xs s j i = 63 := by
  unfold sureC
  rw [if_neg]
  intro ha
  rw [List.all_eq_true] at ha
  exact h (of_decide_eq_true (ha xs[q] (List.mem_take_iff_getElem.mpr ⟨q, by omega, rfl⟩)))
theorem rdOf_get {α : Type} {d : α} {xs : List α} {j : Nat} (h : j < xs.length) : rdOf d xs (j : Nat) = xs[j] := by
  unfold rdOf
  rw [Int.toNat_natCast, List.getD_eq_getElem?_getD, List.getElem?_eq_getElem h]
  rfl
theorem bytesEq_of_toList {a b : ByteArray} (h : a.toList = b.toList) : a = b := by
  rw [ByteArray.toList_eq, ByteArray.toList_eq] at h
  exact ByteArray.ext (Array.toList_inj.mp h)
/-! impl.SureDigits, by hand: it stores into a row of bytes that a conversion has made. -/
def impl_SureDigits.f (k : Nat) (w d : Int) (l : List S45) : Option (ByteArray × Bool) := (impl_Solutions.f k w d l).bind fun r => if r.1.length = 0 then some (⟨#[]⟩, false) else if sureOk r.1 = true then some (strOfNums (sureL r.1 (hdS r.1) r.1.length (hdS r.1).size), true) else none
set_option maxHeartbeats 4000000 in
set_option maxRecDepth 100000 in
theorem impl_SureDigits.calls (k : Nat) (a0_0 : Int) (a0_1 : Int) (A0_2 : Option Addr) (c0_2 : Nat) (l0_2 : List S45) (r1 : ByteArray) (r2 : Bool) (w : World) (hr0_2 : Kd.C k45 w A0_2 l0_2.length l0_2) (hc0_2 : l0_2.length ≤ c0_2) (h : impl_SureDigits.f k a0_0 a0_1 l0_2 = some (r1, r2)) :
    Calls Tryz.prog 10 #[.agg #[.int .i64 a0_0, .int .i64 a0_1, .slice A0_2 l0_2.length c0_2]] w fun e w' => e = .returned (.tuple #[.string r1, .bool r2]) ∧ Below w.heap.size w w' := by
  unfold impl_SureDigits.f at h
  obtain ⟨⟨xs, b⟩, hs, h⟩ := Option.bind_eq_some_iff.mp h
  simp only [] at h
  have hu33 := Tryz.underlying26
  have hu65 := Tryz.underlying27
  have hu69 := Tryz.underlying55
  have hu9 := Tryz.underlying9
  have hu5 := Tryz.underlying5
  have HS := amk hs
  have HR := amk (Kd.C_alloc hr0_2 (.cells #[.int .i64 a0_0, .int .i64 a0_1, .slice A0_2 l0_2.length c0_2] 26))
  have HC := amk hc0_2
  have BW : Aside0 (Below w.heap.size w (w.alloc (.cells #[.int .i64 a0_0, .int .i64 a0_1, .slice A0_2 l0_2.length c0_2] 26))) := ⟨(Below.refl _ w).alloc (Nat.le_refl _) _⟩
  clear hs hr0_2 hc0_2
  by_cases h0 : xs.length = 0
  · rw [if_pos h0] at h
    obtain ⟨rfl, rfl⟩ := Prod.mk.inj (Option.some.inj h)
    have hz : ((xs.length : Int) == 0) = true := by simp [h0]
    have hz2 : xs.length = 0 := h0
    have HZ := amk h0
    clear h h0
    go_enter Tryz.func10, Tryz.ntmps10
    go_wp2_with (go_at_call 4; refine Calls.mono (impl_Solutions.calls k a0_0 a0_1 _ _ l0_2 xs b _ HR.out HC.out HS.out) ?_; rintro e w2 ⟨v, rfl, hr, hb⟩; obtain ⟨A, c, rfl⟩ := Kd.R_slice hr; have B2 := amk (bp_ BW.out hb); clear hr hb)
    go_ret2
    exact ⟨rfl, B2.out⟩
  · rw [if_neg h0] at h
    by_cases hk : sureOk xs = true
    · rw [if_pos hk] at h
      obtain ⟨rfl, rfl⟩ := Prod.mk.inj (Option.some.inj h)
      clear h
      obtain ⟨k1, k2, k3⟩ := sureOk_iff.mp hk
      have hz : ((xs.length : Int) == 0) = false := beq_false_of_ne (by omega)
      have hl0 : decide (0 < (xs.length : Int)) = true := decide_eq_true (by omega)
      have hl1 : (0 < xs.length) = True := eq_true (by omega)
      have hxs : hdS xs = rdOf ByteArray.empty xs 0 := rfl
      have K1 := amk k1
      have K2 := amk k2
      have H0 := amk (show 0 < xs.length by omega)
      have kb := fun (s : ByteArray) W => print_bytes (P := Tryz.prog) 9 55 5 hu9 hu69 hu5 s W
      generalize hdS xs = s at K1 K2 k2 hxs ⊢
      have HXS := amk hxs
      clear k1 k3 hk h0 hxs
      go_enter Tryz.func10, Tryz.ntmps10
      go_wp2_with (go_at_call 4; go_loud (refine Calls.mono (impl_Solutions.calls k a0_0 a0_1 _ _ l0_2 xs b _ HR.out HC.out HS.out) ?_; rintro e w2 ⟨v, rfl, hr, hb⟩; obtain ⟨A, c, rfl⟩ := Kd.R_slice hr; have B2 := amk (bp_ BW.out hb); have R2 := amk hr; have CQ := amk (Kd.R_reads' hr).2.2; have hAt := Kd.at_string CQ.out 0 (Int.le_refl 0) (by have := H0.out; omega); obtain ⟨ad, eA, hx0⟩ := hAt; cases eA; replace hx0 : w2.cell? ad = some (.string s) := (by rw [HXS.out]; exact hx0); clear hr hb))
      have BS0 := amk (BS_new w2 5 s)
      have BB0 := amk (bytes_below (Below.refl w2.heap.size w2) (Nat.le_refl _) 5 s)
      rw [← sureL_zero xs s] at BS0
      generalize Lib.bytesWorld w2 5 s = w3 at BS0 BB0 ⊢
      generalize grownCap w2 s.size 0 5 = cap
      go_loopg [24] xs.length (fun gg s24 wr => ∃ j : Nat, s24 = .int .i64 (j : Int) ∧ Aside0 (j ≤ xs.length ∧ xs.length ≤ j + gg) ∧ Aside0 (BS wr w2.heap.size (sureL xs s j s.size)) ∧ Aside0 (Below w2.heap.size w2 wr))
      case atStart => exact ⟨0, rfl, ⟨by omega⟩, BS0, BB0⟩
      case round =>
        obtain ⟨j, rfl, HJ, HB, HW⟩ := hrel
        by_cases hj : j < xs.length
        · have CJ := amk (Kd.C_below (Kd.R_reads' R2.out).2.2 HW.out)
          obtain ⟨ad2, eA2, hxj⟩ := Kd.at_string CJ.out (j : Int) (by omega) (by omega)
          cases eA2
          rw [rdOf_get hj, Int.toNat_natCast] at hxj
          obtain ⟨ad3, eA3, hx1⟩ := Kd.at_string CJ.out 0 (Int.le_refl _) (by omega)
          cases eA3
          replace hx1 : wr.cell? ad = some (.string s) := by rw [HXS.out]; exact hx1
          have HTM : Aside0 (xs[j].size = s.size) := ⟨K1.out _ (List.getElem_mem hj)⟩
          have HTE : Aside0 (∀ i : Nat, bt xs[j] (i : Nat) = bt s (i : Nat) → mixL xs s j s.size (i + 1) = mixL xs s j s.size i) := ⟨fun i h => mixL_same hj h⟩
          have HTN : Aside0 (∀ i : Nat, ¬ bt xs[j] (i : Nat) = bt s (i : Nat) → (mixL xs s j s.size i).set i 63 = mixL xs s j s.size (i + 1)) := ⟨fun i h => mixL_diff hj h⟩
          have hts : xs[j].size = s.size := HTM.out
          generalize xs[j] = t at hxj HTM HTE HTN hts
          have HJ2 := amk hj
          have hjd : decide ((j : Int) < (xs.length : Int)) = true := decide_eq_true (by omega)
          clear hx0 hts
          go_wp2
          go_loopg [30] s.size (fun gg s30 wi => ∃ i : Nat, s30 = .int .i64 (i : Int) ∧ Aside0 (i ≤ s.size ∧ s.size ≤ i + gg) ∧ Aside0 (BS wi w2.heap.size (mixL xs s j s.size i)) ∧ Aside0 (Below w2.heap.size w2 wi))
          case atStart => exact ⟨0, rfl, ⟨by omega⟩, ⟨by rw [mixL_zero]; exact HB.out⟩, HW⟩
          case round =>
            obtain ⟨i, rfl, HI, HBi, HWi⟩ := hrel
            by_cases hi : i < s.size
            · have CI := amk (Kd.C_below (Kd.R_reads' R2.out).2.2 HWi.out)
              obtain ⟨ad4, eA4, hx4⟩ := Kd.at_string CI.out 0 (Int.le_refl _) (by have := H0.out; omega)
              cases eA4
              replace hx4 : wr.cell? ad = some (.string s) := by rw [HXS.out]; exact hx4
              have hit : i < t.size := by rw [HTM.out]; exact hi
              have e0 := bt_nat hi
              have e1 := bt_nat hit
              obtain ⟨hci, hfi⟩ := HBi.out i (by rw [mixL_length]; exact hi)
              have hid : decide ((i : Int) < (s.size : Int)) = true := decide_eq_true (by omega)
              clear hx1 hxj
              by_cases he : bt t (i : Nat) = bt s (i : Nat)
              · have hd : (bt t (i : Nat) == bt s (i : Nat)) = true := by simp [he]
                have hd2 : (bt t (i : Nat) != bt s (i : Nat)) = false := by simp [he]
                have HE := amk (HTE.out i he)
                clear he
                go_wp2
                go_region
                go_wp2
                go_roundg (s.size - (i + 1))
                case measure => have := HI.out; omega
                case rel => exact ⟨i + 1, rfl, ⟨by omega⟩, ⟨by rw [HE.out]; exact HBi.out⟩, ⟨HWi.out.drew⟩⟩
              · have hd : (bt t (i : Nat) == bt s (i : Nat)) = false := by simp [he]
                have hd2 : (bt t (i : Nat) != bt s (i : Nat)) = true := by simp [he]
                have HE := amk (HTN.out i he)
                clear he
                go_wp2
                go_region
                go_wp2
                go_roundg (s.size - (i + 1))
                case measure => have := HI.out; omega
                case rel => exact ⟨i + 1, rfl, ⟨by omega⟩, ⟨by rw [← HE.out]; exact BS_set (BS_drew HBi.out) (by rw [mixL_length]; exact hi) 63⟩, ⟨HWi.out.drew.setCell (p := ⟨_, _, none⟩) (by simp) _⟩⟩
            · have hie : i = s.size := by have := HI.out; omega
              subst hie
              have HBF : Aside0 (BS wr w2.heap.size (sureL xs s (j + 1) s.size)) := ⟨by rw [← mixL_full]; exact HBi.out⟩
              clear hx1 hxj
              go_wp2
              go_roundg (xs.length - (j + 1))
              case measure => have := HJ.out; omega
              case rel => exact ⟨j + 1, congrArg _ (by have := HJ2.out; have := Kd.C_max CJ.out; unfold wrap64; omega), ⟨by have := HJ2.out; have := HJ.out; omega⟩, HBF, HWi⟩
        · have hje : j = xs.length := by have := HJ.out; omega
          have HF : Aside0 (BS wr w2.heap.size (sureL xs s xs.length s.size)) := ⟨by have h9 := HB.out; rw [hje] at h9; exact h9⟩
          have kb2 : ∀ dst src, Tryz.prog.underlying src = some (.slice 5) → Tryz.prog.underlying dst = some .string → (convert src dst (.slice (some ⟨w2.heap.size, 0, none⟩) s.size cap)).run Tryz.prog wr = .ok (.string (strOfNums (sureL xs s xs.length s.size))) wr := by
            intro dst src h1 h2
            exact string_of_reads h1 hu5 h2 ⟨sureL_length _ _ _ _, by have := K2.out; omega, fun _ => ⟨_, rfl, fun q hq => by rw [show (sureL xs s xs.length s.size).getD q 0 = (sureL xs s xs.length s.size)[q]'(by rw [sureL_length]; exact hq) from by rw [List.getD_eq_getElem?_getD, List.getElem?_eq_getElem (by rw [sureL_length]; exact hq)]; rfl, add_plain]; exact (HF.out q (by rw [sureL_length]; exact hq)).1⟩⟩
          have hjd : decide ((j : Int) < (xs.length : Int)) = false := decide_eq_false (by omega)
          go_wp2
          go_ret2
          exact ⟨rfl, B2.out.trans (HW.out.mono (by have := B2.out.size; omega))⟩
    · rw [if_neg hk] at h; cases h
/-! Small laws on blocks of two and of three cells, and on what lies in an interval of blocks. -/
theorem three_cells {w : World} {g t : Nat} {a b c : Value} (h : w.heap[g]? = some (.cells #[a, b, c] t (0, 0))) : w.cell? ⟨g, 0, none⟩ = some a ∧ w.cell? ⟨g, 1, none⟩ = some b ∧ w.cell? ⟨g, 2, none⟩ = some c ∧ g < w.heap.size := ⟨by simp [World.cell?, h], by simp [World.cell?, h], by simp [World.cell?, h], (Array.getElem?_eq_some_iff.mp h).1⟩
/-! spec.SureDigits, by hand: it ranges over a text. -/
def spec_SureDigits.f (k : Nat) (w d : Int) (l : List S45) : Option (ByteArray × Bool) := (spec_pzGood.f k w d l).bind fun g => if g = true then (spec_pzAll.f k w d l).bind fun xs => if xs.length = 0 then some (⟨#[]⟩, false) else if sureOk xs = true then some (strOfNums (sureL xs (hdS xs) xs.length (hdS xs).size), true) else none else some (⟨#[]⟩, false)
set_option maxHeartbeats 4000000 in
set_option maxRecDepth 100000 in
theorem spec_SureDigits.calls (k : Nat) (a0_0 : Int) (a0_1 : Int) (A0_2 : Option Addr) (c0_2 : Nat) (l0_2 : List S45) (r1 : ByteArray) (r2 : Bool) (w : World) (hr0_2 : Kd.C k45 w A0_2 l0_2.length l0_2) (hc0_2 : l0_2.length ≤ c0_2) (h : spec_SureDigits.f k a0_0 a0_1 l0_2 = some (r1, r2)) :
    Calls Tryz.prog 11 #[.agg #[.int .i64 a0_0, .int .i64 a0_1, .slice A0_2 l0_2.length c0_2]] w fun e w' => e = .returned (.tuple #[.string r1, .bool r2]) ∧ Below w.heap.size w w' := by
  unfold spec_SureDigits.f at h
  obtain ⟨g, hg, h⟩ := Option.bind_eq_some_iff.mp h
  have hu33 := Tryz.underlying26
  have hu65 := Tryz.underlying27
  have hu31 := Tryz.underlying24
  have hu30 := Tryz.underlying23
  have hu9 := Tryz.underlying9
  have HG := amk hg
  have HR := amk (Kd.C_alloc hr0_2 (.cells #[.int .i64 a0_0, .int .i64 a0_1, .slice A0_2 l0_2.length c0_2] 26))
  have HC := amk hc0_2
  have BW : Aside0 (Below w.heap.size w (w.alloc (.cells #[.int .i64 a0_0, .int .i64 a0_1, .slice A0_2 l0_2.length c0_2] 26))) := ⟨(Below.refl _ w).alloc (Nat.le_refl _) _⟩
  have BK : Aside0 ((w.alloc (.cells #[.int .i64 a0_0, .int .i64 a0_1, .slice A0_2 l0_2.length c0_2] 26)).heap[w.heap.size]? = some (.cells #[.int .i64 a0_0, .int .i64 a0_1, .slice A0_2 l0_2.length c0_2] 26 (0, 0))) := ⟨blk_new _ _⟩
  clear hg hr0_2 hc0_2
  cases g with
  | false =>
    rw [if_neg (by simp)] at h
    obtain ⟨rfl, rfl⟩ := Prod.mk.inj (Option.some.inj h)
    clear h
    go_enter Tryz.func11, Tryz.ntmps11
    go_wp2_with (go_at_call 35; refine Calls.mono (spec_pzGood.calls k a0_0 a0_1 _ _ l0_2 false _ HR.out HC.out HG.out) ?_; rintro e w2 ⟨rfl, hb⟩; have B2 := amk (bp_ BW.out hb); clear hb)
    go_ret2
    exact ⟨rfl, B2.out⟩
  | true =>
    rw [if_pos rfl] at h
    obtain ⟨xs, hs, h⟩ := Option.bind_eq_some_iff.mp h
    have HS := amk hs
    clear hs
    by_cases h0 : xs.length = 0
    · rw [if_pos h0] at h
      obtain ⟨rfl, rfl⟩ := Prod.mk.inj (Option.some.inj h)
      have hz : ((xs.length : Int) == 0) = true := by simp [h0]
      have hz2 : xs.length = 0 := h0
      have HZ := amk h0
      clear h h0
      go_enter Tryz.func11, Tryz.ntmps11
      go_wp2_with ((first | (go_at_call 35; refine Calls.mono (spec_pzGood.calls k a0_0 a0_1 _ _ l0_2 true _ HR.out HC.out HG.out) ?_; rintro e w2 ⟨rfl, hb⟩; have B2 := amk (bp_ BW.out hb); have R2 := amk (Kd.C_below HR.out hb); obtain ⟨hq0, hq1, hq2, _⟩ := three_cells ((hb.block w.heap.size (by simp)).trans BK.out); clear hb) | (go_at_call 36; refine Calls.mono (spec_pzAll.calls k a0_0 a0_1 _ _ l0_2 xs _ R2.out HC.out HS.out) ?_; rintro e w3 ⟨v, rfl, hr, hb⟩; obtain ⟨A, c, rfl⟩ := Kd.R_slice hr; have B3 := amk (bp_ B2.out hb); clear hr hb)))
      go_ret2
      exact ⟨rfl, B3.out⟩
    · rw [if_neg h0] at h
      by_cases hk : sureOk xs = true
      · rw [if_pos hk] at h
        obtain ⟨rfl, rfl⟩ := Prod.mk.inj (Option.some.inj h)
        clear h
        obtain ⟨k1, k2, k3⟩ := sureOk_iff.mp hk
        have hz : ((xs.length : Int) == 0) = false := beq_false_of_ne (by omega)
        have hl0 : decide (0 < (xs.length : Int)) = true := decide_eq_true (by omega)
        have hl1 : (0 < xs.length) = True := eq_true (by omega)
        have hxs : hdS xs = rdOf ByteArray.empty xs 0 := rfl
        generalize hdS xs = s at k1 k2 k3 hxs ⊢
        have K1 := amk k1
        have K2 := amk k2
        have K3 := amk k3
        have H0 := amk (show 0 < xs.length by omega)
        have HXS := amk hxs
        clear k1 k2 k3 hk h0 hxs
        go_enter Tryz.func11, Tryz.ntmps11
        go_wp2_with ((first | (go_at_call 35; refine Calls.mono (spec_pzGood.calls k a0_0 a0_1 _ _ l0_2 true _ HR.out HC.out HG.out) ?_; rintro e w2 ⟨rfl, hb⟩; have B2 := amk (bp_ BW.out hb); have R2 := amk (Kd.C_below HR.out hb); obtain ⟨hq0, hq1, hq2, _⟩ := three_cells ((hb.block w.heap.size (by simp)).trans BK.out); clear hb) | (go_at_call 36; refine Calls.mono (spec_pzAll.calls k a0_0 a0_1 _ _ l0_2 xs _ R2.out HC.out HS.out) ?_; rintro e w3 ⟨v, rfl, hr, hb⟩; obtain ⟨A, c, rfl⟩ := Kd.R_slice hr; have B3 := amk (bp_ B2.out hb); have R3 := amk (Kd.R_reads' hr).2.2; clear hq0 hq1 hq2; have hAt := Kd.at_string R3.out 0 (Int.le_refl 0) (by have := H0.out; omega); obtain ⟨ad, eA, hx0⟩ := hAt; cases eA; replace hx0 : w3.cell? ad = some (.string s) := (by rw [HXS.out]; exact hx0); clear hr hb)))
        go_loopg [5] s.size (fun gg s5 wr => ∃ (W : World) (i : Nat), s5 = .string (strOfNums (sureL xs s xs.length i)) ∧ wr = W.iter s i ∧ Aside0 (i ≤ s.size ∧ s.size ≤ i + gg) ∧ Aside0 (W.heap.size = w3.heap.size ∧ Below w3.heap.size w3 W))
        case atStart => exact ⟨w3, 0, rfl, rfl, ⟨by omega⟩, ⟨rfl, Below.refl _ _⟩⟩
        case round =>
          obtain ⟨W, i, rfl, rfl, HI, HW⟩ := hrel
          by_cases hi : i < s.size
          · have hia := K3.out i hi
            have hnx : ∀ ty, (Instr.next (.pointer (some ⟨w3.heap.size, 0, none⟩)) true ty).run Tryz.prog (W.iter s i) = .ok (.tuple #[.bool true, .int .i64 (i : Nat), .int .i32 (bt s (i : Nat))]) (W.iter s (i + 1)) := by
              intro ty
              have := run_next_ascii (P := Tryz.prog) W s i ty hi (by have := bt_nat hi; omega)
              rw [HW.out.1, bt_nat hi] at this
              exact this
            have HV : Aside0 (Below w3.heap.size w3 (W.iter s (i + 1))) := ⟨HW.out.2.alloc (by rw [HW.out.1]; exact Nat.le_refl _) _⟩
            have CX := amk (Kd.C_below R3.out HV.out)
            have hAt := Kd.at_string CX.out 0 (Int.le_refl 0) (by have := H0.out; omega)
            obtain ⟨ad1, eA1, hx1⟩ := hAt
            cases eA1
            replace hx1 : (W.iter s (i + 1)).cell? ad = some (.string s) := hx1.trans (congrArg (fun z => some (Value.string z)) HXS.out.symm)
            have hsz := K2.out
            have z1 : wrap64 ((i : Int) + 1) = ((i + 1 : Nat) : Int) := by unfold wrap64; omega
            have hsl : ∀ (t : ByteArray) (wx : World), i < t.size → (Instr.slice 9 (.string t) (some (.int .i64 (i : Int))) (some (.int .i64 ((i : Int) + 1))) none).run Tryz.prog wx = .ok (.string (t.extract i (i + 1))) wx := by
              intro t wx ht
              have := run_slice_string (P := Tryz.prog) wx 9 t .i64 .i64 (i : Int) ((i : Int) + 1) hu9 (by omega) (by omega) (by omega)
              rw [show ((i : Int) + 1).toNat = i + 1 by omega, Int.toNat_natCast] at this
              exact this
            have hsl1 := fun wx => hsl s wx hi
            have HSL := amk hsl
            have hsb : (strOfNums (sureL xs s xs.length i)).size ≤ 1000000 := by rw [strOfNums_size, sureL_length]; omega
            have hse : (s.extract i (i + 1)).size = 1 := by rw [ByteArray.size_extract]; omega
            clear hsl
            have HIS := amk hi
            clear hia hx0
            go_wp2
            go_loopg [7, 37] xs.length (fun gg s7 s37 wr => ∃ j : Nat, s7 = .string (s.extract i (i + 1)) ∧ s37 = .int .i64 (j : Int) ∧ wr = W.iter s (i + 1) ∧ Aside0 (j ≤ xs.length ∧ xs.length ≤ j + gg) ∧ Aside0 (∀ q (hq : q < xs.length), q < j → bt xs[q] (i : Nat) = bt s (i : Nat)))
            case atStart => exact ⟨0, rfl, rfl, rfl, ⟨by omega⟩, ⟨fun q _ h => by omega⟩⟩
            case round =>
              obtain ⟨j, rfl, rfl, rfl, HJ, HQ⟩ := hrel
              by_cases hj : j < xs.length
              · have hAt := Kd.at_string CX.out (j : Int) (by omega) (by omega)
                obtain ⟨ad2, eA2, hxj⟩ := hAt
                cases eA2
                rw [rdOf_get hj, Int.toNat_natCast] at hxj
                have HJ2 := amk hj
                have hjd : decide ((j : Int) < (xs.length : Int)) = true := decide_eq_true (by omega)
                have hts : xs[j].size = s.size := K1.out _ (List.getElem_mem hj)
                have hit : i < xs[j].size := by omega
                have z2 : wrap64 ((j : Int) + 1) = ((j + 1 : Nat) : Int) := by have := Kd.C_max CX.out; unfold wrap64; omega
                by_cases he : bt xs[j] (i : Nat) = bt s (i : Nat)
                · have HQ2 : Aside0 (∀ q (hq : q < xs.length), q < j + 1 → bt xs[q] (i : Nat) = bt s (i : Nat)) := ⟨fun q hq h => by
                    by_cases e : q = j
                    · subst e; exact he
                    · exact HQ.out q hq (Nat.lt_of_le_of_ne (Nat.le_of_lt_succ h) e)⟩
                  have hex := (ex_eq hi hit).mpr he
                  generalize xs[j] = t at hxj hts hit hex
                  have hsl2 := fun wx => HSL.out t wx hit
                  have hd : ((t.extract i (i + 1)).toList == (s.extract i (i + 1)).toList) = true := by rw [hex]; exact beq_self_eq_true _
                  clear he hex
                  go_wp2
                  go_roundg (xs.length - (j + 1))
                  case measure => have := HJ.out; have := HJ2.out; omega
                  case rel => exact ⟨j + 1, rfl, congrArg _ z2, rfl, ⟨by have := HJ2.out; omega⟩, HQ2⟩
                · have hex := fun h => he ((ex_eq hi hit).mp h)
                  have HE : Aside0 (strOfNums (sureL xs s xs.length i) ++ (⟨#[63]⟩ : ByteArray) = strOfNums (sureL xs s xs.length (i + 1))) := ⟨by rw [sureL_snoc, sureC_no hj hj he]; rfl⟩
                  generalize xs[j] = t at hxj hts hit hex
                  have hsl2 := fun wx => HSL.out t wx hit
                  have hd : ((t.extract i (i + 1)).toList == (s.extract i (i + 1)).toList) = false := beq_false_of_ne (fun h => hex (bytesEq_of_toList h))
                  clear he hex
                  go_wp2
                  go_roundg (s.size - (i + 1))
                  case measure => have := HI.out; have := HIS.out; omega
                  case rel => exact ⟨W, i + 1, congrArg _ HE.out, rfl, ⟨by have := HI.out; have := HIS.out; omega⟩, HW⟩
              · have hje : j = xs.length := by have := HJ.out; omega
                have hjd : decide ((j : Int) < (xs.length : Int)) = false := decide_eq_false (by omega)
                have HE : Aside0 (strOfNums (sureL xs s xs.length i) ++ s.extract i (i + 1) = strOfNums (sureL xs s xs.length (i + 1))) := ⟨by rw [sureL_snoc, sureC_yes (fun q hq h => HQ.out q hq (by omega)), ← ex_one hi]⟩
                go_wp2
                go_roundg (s.size - (i + 1))
                case measure => have := HI.out; have := HIS.out; omega
                case rel => exact ⟨W, i + 1, congrArg _ HE.out, rfl, ⟨by have := HI.out; have := HIS.out; omega⟩, HW⟩
          · have hnx : ∀ ty, (Instr.next (.pointer (some ⟨w3.heap.size, 0, none⟩)) true ty).run Tryz.prog (W.iter s i) = .ok (.tuple #[.bool false]) (W.iter s i) := by
              intro ty
              have := run_next_end (P := Tryz.prog) W s i ty hi
              rw [HW.out.1] at this
              exact this
            have hie : i = s.size := by have := HI.out; omega
            subst hie
            go_wp2
            go_ret2
            exact ⟨rfl, B3.out.trans ((HW.out.2.alloc (by rw [HW.out.1]; exact Nat.le_refl _) _).mono B3.out.size)⟩
      · rw [if_neg hk] at h; cases h
/-! What the law FnCodesGuessedOfAll asks of its callees. -/
def Guess_P : Prop := ∀ (P D : Int) (L : List S45), L.length ≤ 9223372036854775807 → ∃ (k : Nat) (all : List ByteArray) (ok three solved five : Bool) (count total best : Int) (first sure text : ByteArray) (needless left : List Int),
  impl_Solutions.f k P D L = some (all, ok) ∧ spec_Solutions.f k P D L = some (all, ok) ∧ impl_CountSolutions.f k P D L = some (count, ok) ∧ spec_CountSolutions.f k P D L = some (count, ok) ∧
  impl_FirstSolution.f k P D L = some (first, three) ∧ spec_FirstSolution.f k P D L = some (first, three) ∧ impl_SureDigits.f k P D L = some (sure, three) ∧ spec_SureDigits.f k P D L = some (sure, three) ∧
  impl_IsSolved.f k P D L = some (solved, ok) ∧ spec_IsSolved.f k P D L = some (solved, ok) ∧ impl_NeedlessClues.f k P D L = some (needless, ok) ∧ spec_NeedlessClues.f k P D L = some (needless, ok) ∧
  impl_LeftByClues.f k P D L = some (left, ok) ∧ spec_LeftByClues.f k P D L = some (left, ok) ∧ impl_BestClue.f k P D L = some (best, five) ∧ spec_BestClue.f k P D L = some (best, five) ∧
  impl_PuzzleText.f k P D L = some (text, ok) ∧ spec_PuzzleText.f k P D L = some (text, ok) ∧ impl_IsPuzzle.f P D L = some ok ∧ spec_IsPuzzle.f k P D L = some ok ∧
  laws_eTexts.f k all all = some true ∧ laws_eSame.f k needless needless = some true ∧ laws_eSame.f k left left = some true ∧ three = (ok && decide (count > 0)) ∧ five = (ok && decide ((L.length : Int) > 0)) ∧
  (ok = true → impl_CountCodes.f k P D = some (total, true) ∧ (all.length : Int) = count ∧ all.length ≤ 1000 ∧ L.length ≤ 6 ∧ 0 ≤ P ∧ P ≤ 6 ∧ (three = true → first = rdOf ByteArray.empty all 0 ∧ sure.size = P.toNat) ∧ solved = (count == 1) ∧ left.length = L.length + 1 ∧ rd left 0 = total ∧ rd left L.length = count ∧ (solved = true → sure = first) ∧
    laws_eSorted.f k all = some true ∧
    (∀ j (hj : j < all.length), all[j].size = P.toNat ∧ (∀ i < all[j].size, bt all[j] (i : Nat) < 128 ∧ (bt sure (i : Nat) = 63 ∨ bt sure (i : Nat) = bt all[j] (i : Nat))) ∧ ∀ c ∈ L, impl_DoesFit.f k P D c.f0 c.f1 c.f2 all[j] = some (true, true)) ∧
    (∀ i < L.length, impl_DropClue.f P D L (i : Nat) = some (P, D, L.eraseIdx i, true) ∧ 0 ≤ best ∧ best < L.length ∧ rd left ((i : Int) + 1) ≤ rd left (i : Nat) ∧ ∃ still, impl_CountSolutions.f k P D (L.eraseIdx i) = some (still, true) ∧ laws_eHas.f k needless (i : Nat) = some (still == count)) ∧
    impl_ParsePuzzle.f k text = some (P, D, L, true) ∧ laws_ePuzzle.f k P D L P D L = some true)
def Guess_S : Prop := ∀ s : ByteArray, s.size ≤ 1048576 → ∃ (k : Nat) (a b : Int) (M : List S45) (t : Bool), impl_ParsePuzzle.f k s = some (a, b, M, t) ∧ spec_ParsePuzzle.f k s = some (a, b, M, t) ∧ laws_ePuzzle.f k a b M a b M = some true ∧ (t = true → impl_PuzzleText.f k a b M = some (s, true))
/-! A region, or an 'if', out of a function's code. -/
def regOn (n : Nat) : Code → Option Code
  | .region i o b => if i = n then some (.region i o b) else none
  | .seq a b => match regOn n a with | some c => some c | none => regOn n b
  | .cond _ a b => match regOn n a with | some c => some c | none => regOn n b
  | .block _ a => regOn n a
  | .loop a => regOn n a
  | _ => none
def condOn (n : Nat) : Code → Option Code
  | .cond (.tmp i) a b => if i = n then some (.cond (.tmp i) a b) else match condOn n a with | some c => some c | none => condOn n b
  | .seq a b => match condOn n a with | some c => some c | none => condOn n b
  | .block _ a => condOn n a
  | .loop a => condOn n a
  | _ => none
/-! laws.FnCodesGuessedOfAll, by hand: what lies in memory is ONE predicate: the boxes and the rows of any kind. -/
abbrev clG (x y z : Int) : Obj := .cells #[.int .i64 x, .int .i64 y, .int .i64 z] 45 (0, 0)
abbrev pzG (p d : Int) (A : Option Addr) (n c : Nat) : Obj := .cells #[.int .i64 p, .int .i64 d, .slice A n c] 26 (0, 0)
def Rw : Type := { r : World → Prop // ∀ W W2, r W → Below W.heap.size W W2 → r W2 }
def rwC (A : Option Addr) (L : List S45) : Rw := ⟨fun W => Kd.C k45 W A L.length L, fun _ _ h hb => Kd.C_below h hb⟩
def rwS (A : Option Addr) (L : List ByteArray) : Rw := ⟨fun W => Kd.C Kd.string W A L.length L, fun _ _ h hb => Kd.C_below h hb⟩
def rwI (A : Option Addr) (L : List Int) : Rw := ⟨fun W => Kd.C (Kd.int .i64) W A L.length L, fun _ _ h hb => Kd.C_below h hb⟩
def rwE : Rw := ⟨EnvP, fun _ _ h hb => h.below hb⟩
def Mg (w : World) (bs : List (Nat × Obj)) (rs : List Rw) (W : World) : Prop :=
  Below w.heap.size w W ∧ (∀ b ∈ bs, W.heap[b.1]? = some b.2) ∧ ∀ r ∈ rs, r.1 W
section
variable {w W W2 : World} {bs : List (Nat × Obj)} {rs : List Rw}
theorem Mg_below (h : Mg w bs rs W) (hb : Below W.heap.size W W2) : Mg w bs rs W2 := ⟨bp_ h.1 hb, fun b m => blk_below (h.2.1 b m) hb, fun r m => r.2 _ _ (h.2.2 r m) hb⟩
theorem Mg_box (h : Mg w bs rs W) (o : Obj) : Mg w ((W.heap.size, o) :: bs) rs (W.alloc o) :=
  have hb := (Below.refl W.heap.size W).alloc (Nat.le_refl _) o
  ⟨bp_ h.1 hb, fun b m => by (cases m with | head => exact blk_new W o | tail _ m => exact blk_below (h.2.1 b m) hb), fun r m => r.2 _ _ (h.2.2 r m) hb⟩
theorem Mg_row (h : Mg w bs rs W) (r : Rw) (hc : r.1 W) : Mg w bs (r :: rs) W :=
  ⟨h.1, h.2.1, fun q m => by (cases m with | head => exact hc | tail _ m => exact h.2.2 q m)⟩
theorem Mg_pop {b : Nat × Obj} (h : Mg w (b :: bs) rs W) : Mg w bs rs W := ⟨h.1, fun x m => h.2.1 x (.tail _ m), h.2.2⟩
theorem rC {A : Option Addr} {L : List S45} (h : Mg w bs rs W) (m : rwC A L ∈ rs) : Kd.C k45 W A L.length L := h.2.2 _ m
theorem rS {A : Option Addr} {L : List ByteArray} (h : Mg w bs rs W) (m : rwS A L ∈ rs) : Kd.C Kd.string W A L.length L := h.2.2 _ m
theorem rI {A : Option Addr} {L : List Int} (h : Mg w bs rs W) (m : rwI A L ∈ rs) : Kd.C (Kd.int .i64) W A L.length L := h.2.2 _ m
theorem rE (h : Mg w bs rs W) (m : rwE ∈ rs) : EnvP W := h.2.2 _ m
theorem gx3 {g : Nat} {u v x : Value} {T : Nat} (h : Mg w bs rs W) (m : (g, Obj.cells #[u, v, x] T (0, 0)) ∈ bs) : W.cell? ⟨g, 0, none⟩ = some u ∧ W.cell? ⟨g, 1, none⟩ = some v ∧ W.cell? ⟨g, 2, none⟩ = some x := ⟨(cells3 (h.2.1 _ m)).1, (cells3 (h.2.1 _ m)).2.1, (cells3 (h.2.1 _ m)).2.2.1⟩
/-- With an iterator of a text behind it. -/
def Mi (w : World) (bs : List (Nat × Obj)) (rs : List Rw) (s : ByteArray) (i g : Nat) (W : World) : Prop := ∃ W0, Mg w bs rs W0 ∧ Below W0.heap.size W0 W ∧ W0.heap.size ≤ g ∧ W.heap[g]? = some (.stringIter s i)
theorem Mi_of (h : Mg w bs rs W) (s : ByteArray) : Mi w bs rs s 0 W.heap.size (W.iter s 0) := ⟨W, h, (Below.refl _ _).alloc (Nat.le_refl _) _, Nat.le_refl _, World.iter_heap W s 0⟩
theorem Mi_mg {s : ByteArray} {i g : Nat} (h : Mi w bs rs s i g W) : Mg w bs rs W := by obtain ⟨W0, h0, hb, _⟩ := h; exact Mg_below h0 hb
theorem Mi_below {s : ByteArray} {i g : Nat} (h : Mi w bs rs s i g W) (hb : Below W.heap.size W W2) : Mi w bs rs s i g W2 := by obtain ⟨W0, h0, hb0, hg, hi⟩ := h; exact ⟨W0, h0, below_then hb0 hb0.size hb, hg, blk_below hi hb⟩
theorem Mi_iter {s : ByteArray} {i g : Nat} (h : Mi w bs rs s i g W) (j : Nat) : Mi w bs rs s j g (W.iterAt g s j) := by obtain ⟨W0, h0, hb0, hg, hi⟩ := h; exact ⟨W0, h0, Lib.below_iterAt hb0 hg s j, hg, Lib.iterAt_heap W g s i j hi⟩
end
theorem wr_g {i n : Nat} (h : i < n) (hn : n ≤ 1000000) : wrap64 ((i : Int) + 1) = ((i + 1 : Nat) : Int) := w64 (by omega) (by omega)
theorem mg1 {i n g : Nat} (h : i < n) (hi : i ≤ n ∧ n ≤ i + g) : n - (i + 1) < g := by omega
theorem mg2 {i n : Nat} (h : i < n) : i + 1 ≤ n ∧ n ≤ i + 1 + (n - (i + 1)) := by omega
theorem Mg_drop {w W : World} {bs : List (Nat × Obj)} {rs : List Rw} {b : Nat × Obj} {r : Rw} (h : Mg w (b :: bs) (r :: rs) W) : Mg w bs rs W := ⟨h.1, fun x m => h.2.1 x (.tail _ m), fun x m => h.2.2 x (.tail _ m)⟩
def bP (n i : Nat) : Array Bool := bA n (2 ^ i - 1)
noncomputable def regU (n : Nat) : Code := (Tryz.f3.body.bind (regOn n)).getD .skip
noncomputable def condU (n : Nat) : Code := (Tryz.f3.body.bind (condOn n)).getD .skip
/-! laws.FnCodesGuessedOfAll, a part of its walk: printed by gengu.py. -/
def laws_FnCodesGuessedOfAll.T21 : Bool × List (List Nat × List Nat) := (true, [([], []), ([], []), ([0, 1], [0, 1]), ([2], [2]), ([3], [3]), ([3], [3]), ([4, 5, 3, 3], [3, 4, 5]), ([6, 3], [3, 6]), ([3, 7], [3, 7]), ([8, 6], [8]), ([9], [9]), ([9], [9]), ([10, 11, 9], [9, 10, 11]), ([9, 12], [9, 12]), ([13, 9], [13]), ([14], [14]), ([14], [14]), ([15, 16, 14], [14, 15, 16]), ([14, 17], [14, 17]), ([18, 14], [18]), ([19], [19]), ([19], [19]), ([20, 21, 19], [19, 20, 21]), ([19, 22], [19, 22]), ([23, 19], [23]), ([24], [24]), ([24], [24]), ([25, 26, 24], [24, 25, 26]), ([24, 27], [24, 27]), ([28, 24], [28]), ([29], [29]), ([29], [29]), ([30, 31, 29], [29, 30, 31]), ([29, 32], [29, 32]), ([33, 29], [33]), ([34], [34]), ([34], [34]), ([35, 36, 34], [34, 35, 36]), ([34, 37], [34, 37]), ([38, 34], [38]), ([39], [39]), ([39], [39]), ([40, 41, 39], [39, 40, 41]), ([39, 42], [39, 42]), ([43, 39], [43]), ([44], [44]), ([44], [44]), ([45, 46, 44], [44, 45, 46]), ([44, 47], [44, 47]), ([48, 44], [48]), ([49], [49]), ([49], [49]), ([50, 51, 49], [49, 50, 51]), ([49, 52], [49, 52]), ([53, 49], [53]), ([54], [54]), ([54], [54]), ([55, 56, 54, 54], [54, 55, 56]), ([57, 54], [54, 57]), ([54, 58], [54, 58]), ([59, 57], [59]), ([60], [60]), ([60], [60]), ([61, 62, 60], [60, 61, 62]), ([60, 63], [60, 63]), ([64, 60], [64]), ([65], [65]), ([65], [65]), ([66, 67, 65, 65], [65, 66, 67]), ([68, 65], [65, 68]), ([65, 69], [65, 69]), ([70, 68], [70]), ([71], [71]), ([71], [71]), ([72, 73, 71], [71, 72, 73]), ([71, 74], [71, 74]), ([75, 71], [75]), ([76], [76]), ([76], [76]), ([77, 78, 76], [76, 77, 78]), ([76, 79], [76, 79]), ([80, 76], [80]), ([81], [81]), ([81], [81]), ([82, 83, 81], [81, 82, 83]), ([81, 84], [81, 84]), ([85, 81], [85]), ([86], [86]), ([86], [86]), ([87, 88, 86], [86, 87, 88]), ([86, 89], [86, 89]), ([90, 86], [90]), ([91], [91]), ([91], [91]), ([93, 91, 91], [91, 93]), ([92, 94, 91], [91, 92, 94]), ([91, 95], [91, 95]), ([96, 94], [96]), ([97], [97]), ([98, 97, 97], [97, 98]), ([97], [97]), ([100, 99, 97], [97, 100]), ([99, 101, 97], [97, 99, 101]), ([97, 102], [97, 102]), ([103, 101], [103]), ([104], [104]), ([104], [104]), ([105, 106, 104], [104, 105, 106]), ([104, 107], [104, 107]), ([108, 104], [108]), ([109], [109]), ([109], [109]), ([111, 109, 109], [109, 111]), ([112], [112]), ([113, 112], [112, 113]), ([112, 114, 109], [109, 112, 114]), ([110, 115, 109], [109, 110, 115]), ([109, 116], [109, 116]), ([117, 112], [117]), ([118], [118]), ([118], [118]), ([119, 120, 118], [118, 119, 120]), ([118, 121], [118, 121]), ([122, 118], [122]), ([123], [123]), ([123], [123]), ([124, 125, 123], [123, 124, 125]), ([123, 126], [123, 126]), ([127, 123], [127]), ([128], [128]), ([128], [128]), ([129, 130, 128], [128, 129, 130]), ([128, 131], [128, 131]), ([132, 128], [132]), ([133], [133]), ([133], [133]), ([134, 135, 133], [133, 134, 135]), ([133, 136], [133, 136]), ([137, 133], [137]), ([138], [138]), ([138], [138]), ([140, 138, 138], [138, 140]), ([141], [141]), ([142, 141], [141, 142]), ([143, 141], [141, 143]), ([144, 141], [141, 144]), ([141, 145, 138], [138, 141, 145]), ([139, 146, 138], [138, 139, 146]), ([138, 147], [138, 147]), ([148, 141], [148]), ([149], [149]), ([149], [149]), ([150, 151, 149], [149, 150, 151]), ([149, 152], [149, 152])])
def laws_FnCodesGuessedOfAll.B21 : List Nat := [0, 0, 3, 7, 15, 15, 63, 127, 255, 511, 1023, 1023, 4095, 8191, 16383, 32767, 32767, 131071, 262143, 524287, 1048575, 1048575, 4194303, 8388607, 16777215, 33554431, 33554431, 134217727, 268435455, 536870911, 1073741823, 1073741823, 4294967295, 8589934591, 17179869183, 34359738367, 34359738367, 137438953471, 274877906943, 549755813887, 1099511627775, 1099511627775, 4398046511103, 8796093022207, 17592186044415, 35184372088831, 35184372088831, 140737488355327, 281474976710655, 562949953421311, 1125899906842623, 1125899906842623, 4503599627370495, 9007199254740991, 18014398509481983, 36028797018963967, 36028797018963967, 144115188075855871, 288230376151711743, 576460752303423487, 1152921504606846975, 2305843009213693951, 2305843009213693951, 9223372036854775807, 18446744073709551615, 36893488147419103231, 73786976294838206463, 73786976294838206463, 295147905179352825855, 590295810358705651711, 1180591620717411303423, 2361183241434822606847, 4722366482869645213695, 4722366482869645213695, 18889465931478580854783, 37778931862957161709567, 75557863725914323419135, 151115727451828646838271, 151115727451828646838271, 604462909807314587353087, 1208925819614629174706175, 2417851639229258349412351, 4835703278458516698824703, 4835703278458516698824703, 19342813113834066795298815, 38685626227668133590597631, 77371252455336267181195263, 154742504910672534362390527, 154742504910672534362390527, 618970019642690137449562111, 1237940039285380274899124223, 2475880078570760549798248447, 4951760157141521099596496895, 4951760157141521099596496895, 14855280471424563298789490687, 39614081257132168796771975167, 79228162514264337593543950335, 158456325028528675187087900671, 316912650057057350374175801343, 633825300114114700748351602687, 316912650057057350374175801343, 2535301200456458802993406410751, 5070602400912917605986812821503, 10141204801825835211973625643007, 20282409603651670423947251286015, 40564819207303340847894502572031, 40564819207303340847894502572031, 162259276829213363391578010288127, 324518553658426726783156020576255, 649037107316853453566312041152511, 1298074214633706907132624082305023, 1298074214633706907132624082305023, 3894222643901120721397872246915071, 9086519502435948349928368576135167, 19471113219505603606989361234575359, 40240300653644914121111346551455743, 83076749736557242056487941267521535, 166153499473114484112975882535043071, 332306998946228968225951765070086143, 664613997892457936451903530140172287, 664613997892457936451903530140172287, 2658455991569831745807614120560689151, 5316911983139663491615228241121378303, 10633823966279326983230456482242756607, 21267647932558653966460912964485513215, 21267647932558653966460912964485513215, 85070591730234615865843651857942052863, 170141183460469231731687303715884105727, 340282366920938463463374607431768211455, 680564733841876926926749214863536422911, 680564733841876926926749214863536422911, 2722258935367507707706996859454145691647, 5444517870735015415413993718908291383295, 10889035741470030830827987437816582766591, 21778071482940061661655974875633165533183, 21778071482940061661655974875633165533183, 87112285931760246646623899502532662132735, 174224571863520493293247799005065324265471, 348449143727040986586495598010130648530943, 696898287454081973172991196020261297061887, 696898287454081973172991196020261297061887, 2090694862362245919518973588060783891185663, 4878288012178573812210938372141829079433215, 10453474311811229597594867940303919455928319, 21603846911076541168362727076628100208918527, 43904592109607164309898445349276461714898943, 88506082506668410592969881894573184726859775, 178405961588244985132285746181186892047843327, 356811923176489970264571492362373784095686655, 713623846352979940529142984724747568191373311, 1427247692705959881058285969449495136382746623, 1427247692705959881058285969449495136382746623, 5708990770823839524233143877797980545530986495, 11417981541647679048466287755595961091061972991]
theorem laws_FnCodesGuessedOfAll.tab21 : rtab .any (opsOf Tryz.f3 21) = laws_FnCodesGuessedOfAll.T21 := by kernel_rfl
theorem laws_FnCodesGuessedOfAll.bits21 : waitsOk laws_FnCodesGuessedOfAll.T21.2 laws_FnCodesGuessedOfAll.B21 = true := by kernel_rfl
set_option maxHeartbeats 16000000 in
set_option maxRecDepth 100000 in
theorem KUA {w : World} {v0 v1 v3 v4 v41 v42 v43 v44 v45 v46 v47 v48 v49 v50 v51 v52 v53 v54 v55 v56 v57 v58 v59 v60 v61 v62 v63 v64 v65 v66 v67 v68 v69 v70 v71 v72 v73 v74 v75 v76 v77 v78 v79 v80 v81 v82 v83 v84 v85 v86 v87 v88 v89 v90 v91 v92 v93 v94 v95 v96 v97 v98 v99 v100 v101 v102 v103 v104 v105 v106 v107 v108 v109 v110 v111 v112 v113 v114 v115 v116 v117 v118 v119 v120 v121 v122 v123 v124 v125 v126 v127 v128 v129 v130 v131 v132 v133 v134 v135 v136 v137 v138 v139 v140 v141 v142 v143 v144 v145 v146 v147 v148 v149 v150 v151 v152 v153 v154 v155 v156 v157 v158 v159 v160 v161 v162 v163 v164 v165 v166 v167 v168 v169 v170 v171 v172 v173 v174 v175 v176 v177 v178 v179 v180 v181 v182 v183 v184 v185 v186 v187 v188 v189 v190 v191 v192 v193 v194 v195 v196 v197 v198 v199 v200 v201 v202 v203 v204 v205 v206 v207 v208 v209 v210 v211 v212 v213 v214 v215 v216 v217 v218 v219 v220 v221 v222 v223 v224 v225 v226 v227 v228 v229 v230 v231 v232 v233 v234 v235 v236 v237 v238 v239 v240 v241 v242 v243 v244 v245 v246 v247 v248 v249 v250 v251 v252 v253 v254 v255 v256 v257 v258 v259 v260 v261 v262 v263 v264 v265 v266 v267 v268 v269 v270 v271 v272 v273 v274 v275 v276 v277 v278 v279 v280 v281 v282 v283 v284 v285 v286 v287 v288 v289 v290 v291 v292 v293 v294 v295 v296 v297 v298 v299 v300 v301 v302 v303 v304 v305 v306 v307 v308 v309 v310 v311 v312 v313 v314 v315 v316 v317 v318 v319 v320 v321 v322 v323 v324 v325 v326 v327 v328 v329 v330 v331 v332 v333 v334 v335 v336 v337 v338 v339 v340 v341 v342 v343 v344 v345 v346 v347 v348 v349 v350 v351 v352 v353 v354 v355 v356 v357 v358 v359 v360 v361 v362 v363 v364 v365 v366 v367 v368 v369 v370 v371 v372 v373 v374 v375 v376 v377 v378 v379 v380 v381 v382 v383 v384 v385 v386 v387 v388 v389 v390 v391 v392 v393 v394 v395 v396 v397 v398 v399 v400 v401 v402 v403 v404 v405 v406 v407 v408 v409 v410 v411 v412 v413 v414 v415 v416 v417 v418 v419 v420 v421 v422 v423 v424 v425 v426 v427 v428 v429 v430 v431 v432 v433 v434 v435 v436 v437 v438 v439 v440 v441 v442 v443 v444 v445 v446 v447 v448 v449 v450 v451 v452 v453 v454 v455 v456 v457 v458 v459 v460 v461 v462 v463 v464 v465 v466 v467 v468 v469 v470 v471 v472 v473 v474 v475 v476 v477 v478 v479 v480 v481 v482 v483 v484 v485 v486 v487 v488 v489 v490 v491 v492 v493 v494 v495 v496 v497 v498 v499 v500 v501 v502 v503 v504 v505 v506 v507 v508 v509 v510 v511 v512 v513 v514 v515 v516 v517 v518 v519 v520 v521 v522 v523 v524 v525 v526 v527 v528 v529 v530 v531 v532 v533 v534 v535 v536 v537 : Value} (K : Act → World → Prop) (Q : Exit → Act → World → Prop) (hQ : ∀ c t t' d w', Q (.panic c) ⟨t, d⟩ w' → Q (.panic c) ⟨t', d⟩ w')
    (k : Nat) (P D : Int) (L : List S45) (A : Option Addr) (c : Nat) (gp : Nat) (all : List ByteArray) (needless left : List Int) (A1 A2 A3 A4 A5 A6 : Option Addr) (c1 c2 c3 c4 c5 c6 : Nat) (ok th fv solved : Bool) (count best : Int) (first sure text : ByteArray) (bs : List (Nat × Obj)) (rs : List Rw) (W : World)
    (hm : Mg w bs rs W) (hp : (gp, pzG P D A L.length c) ∈ bs) (r0 : rwC A L ∈ rs) (i0 : L.length ≤ c) (r1 : rwS A1 all ∈ rs) (r2 : rwS A2 all ∈ rs) (i1 : all.length ≤ c1) (i2 : all.length ≤ c2) (r3 : rwI A3 needless ∈ rs) (r4 : rwI A4 needless ∈ rs) (i3 : needless.length ≤ c3) (i4 : needless.length ≤ c4) (r5 : rwI A5 left ∈ rs) (r6 : rwI A6 left ∈ rs) (i5 : left.length ≤ c5) (i6 : left.length ≤ c6)
    (e1 : laws_eTexts.f k all all = some true) (e2 : laws_eSame.f k needless needless = some true) (e3 : laws_eSame.f k left left = some true) (e4 : impl_IsPuzzle.f P D L = some ok) (e5 : spec_IsPuzzle.f k P D L = some ok) (h3 : th = (ok && decide (count > 0))) (h5 : fv = (ok && decide ((L.length : Int) > 0)))
    (hrest : ∀ {u156 u157 u158 u159 u160 u161 u162 u163 u164 u165 u166 u167 u168 u169 u170 u171 u172 u173 u174 u175 u176 u177 u178 u179 u180 u181 u182 u183 u184 u185 u186 u187 u188 u189 u190 u191 u192 u193 u194 u195 u196 u197 u198 u199 u200 u201 u202 u203 u204 u205 u206 u207 u208 u209 u210 u211 u212 u213 u214 u215 u216 u217 u218 u219 u220 u221 u222 u223 u224 u225 u226 u227 u228 u229 u230 u231 u232 u233 u234 u235 u236 u237 u238 u239 u240 u241 u242 u243 u244 u245 u246 u247 u248 u249 u250 u251 u252 u253 u254 u255 u256 u257 u258 u259 u260 u261 u262 u263 u264 u265 u266 u267 u268 u269 u270 u271 u272 u273 u274 u275 u276 u277 u278 u279 u280 u281 u282 u283 u284 u285 u286 u287 u288 u289 u290 u291 u292 u293 u294 u295 u296 u297 u298 u299 u300 u301 u302 u303 u304 u305 u306 u307 u308 : Value} (W' : World), Mg w bs rs W' → K ⟨List.toArray (v0 :: v1 :: .pointer (some ⟨gp, 0, none⟩) :: v3 :: v4 :: .slice A1 all.length c1 :: .bool ok :: .slice A2 all.length c2 :: .bool ok :: .int .i64 count :: .bool ok :: .int .i64 count :: .bool ok :: .string first :: .bool th :: .string first :: .bool th :: .string sure :: .bool th :: .string sure :: .bool th :: .bool solved :: .bool ok :: .bool solved :: .bool ok :: .slice A3 needless.length c3 :: .bool ok :: .slice A4 needless.length c4 :: .bool ok :: .slice A5 left.length c5 :: .bool ok :: .slice A6 left.length c6 :: .bool ok :: .int .i64 best :: .bool fv :: .int .i64 best :: .bool fv :: .string text :: .bool ok :: .string text :: .bool ok :: v41 :: v42 :: v43 :: v44 :: v45 :: v46 :: v47 :: v48 :: v49 :: v50 :: v51 :: v52 :: v53 :: v54 :: v55 :: v56 :: v57 :: v58 :: v59 :: v60 :: v61 :: v62 :: v63 :: v64 :: v65 :: v66 :: v67 :: v68 :: v69 :: v70 :: v71 :: v72 :: v73 :: v74 :: v75 :: v76 :: v77 :: v78 :: v79 :: v80 :: v81 :: v82 :: v83 :: v84 :: v85 :: v86 :: v87 :: v88 :: v89 :: v90 :: v91 :: v92 :: v93 :: v94 :: v95 :: v96 :: v97 :: v98 :: v99 :: v100 :: v101 :: v102 :: v103 :: v104 :: v105 :: v106 :: v107 :: v108 :: v109 :: v110 :: v111 :: v112 :: v113 :: v114 :: v115 :: v116 :: v117 :: v118 :: v119 :: v120 :: v121 :: v122 :: v123 :: v124 :: v125 :: v126 :: v127 :: v128 :: v129 :: v130 :: v131 :: v132 :: v133 :: v134 :: v135 :: v136 :: v137 :: v138 :: v139 :: v140 :: v141 :: v142 :: v143 :: v144 :: v145 :: v146 :: v147 :: v148 :: v149 :: v150 :: v151 :: v152 :: v153 :: v154 :: v155 :: u156 :: u157 :: u158 :: u159 :: u160 :: u161 :: u162 :: u163 :: u164 :: u165 :: u166 :: u167 :: u168 :: u169 :: u170 :: u171 :: u172 :: u173 :: u174 :: u175 :: u176 :: u177 :: u178 :: u179 :: u180 :: u181 :: u182 :: u183 :: u184 :: u185 :: u186 :: u187 :: u188 :: u189 :: u190 :: u191 :: u192 :: u193 :: u194 :: u195 :: u196 :: u197 :: u198 :: u199 :: u200 :: u201 :: u202 :: u203 :: u204 :: u205 :: u206 :: u207 :: u208 :: u209 :: u210 :: u211 :: u212 :: u213 :: u214 :: u215 :: u216 :: u217 :: u218 :: u219 :: u220 :: u221 :: u222 :: u223 :: u224 :: u225 :: u226 :: u227 :: u228 :: u229 :: u230 :: u231 :: u232 :: u233 :: u234 :: u235 :: u236 :: u237 :: u238 :: u239 :: u240 :: u241 :: u242 :: u243 :: u244 :: u245 :: u246 :: u247 :: u248 :: u249 :: u250 :: u251 :: u252 :: u253 :: u254 :: u255 :: u256 :: u257 :: u258 :: u259 :: u260 :: u261 :: u262 :: u263 :: u264 :: u265 :: u266 :: u267 :: u268 :: u269 :: u270 :: u271 :: u272 :: u273 :: u274 :: u275 :: u276 :: u277 :: u278 :: u279 :: u280 :: u281 :: u282 :: u283 :: u284 :: u285 :: u286 :: u287 :: u288 :: u289 :: u290 :: u291 :: u292 :: u293 :: u294 :: u295 :: u296 :: u297 :: u298 :: u299 :: u300 :: u301 :: u302 :: u303 :: u304 :: u305 :: u306 :: u307 :: u308 :: .bool false :: v310 :: v311 :: v312 :: v313 :: v314 :: v315 :: v316 :: v317 :: v318 :: v319 :: v320 :: v321 :: v322 :: v323 :: v324 :: v325 :: v326 :: v327 :: v328 :: v329 :: v330 :: v331 :: v332 :: v333 :: v334 :: v335 :: v336 :: v337 :: v338 :: v339 :: v340 :: v341 :: v342 :: v343 :: v344 :: v345 :: v346 :: v347 :: v348 :: v349 :: v350 :: v351 :: v352 :: v353 :: v354 :: v355 :: v356 :: v357 :: v358 :: v359 :: v360 :: v361 :: v362 :: v363 :: v364 :: v365 :: v366 :: v367 :: v368 :: v369 :: v370 :: v371 :: v372 :: v373 :: v374 :: v375 :: v376 :: v377 :: v378 :: v379 :: v380 :: v381 :: v382 :: v383 :: v384 :: v385 :: v386 :: v387 :: v388 :: v389 :: v390 :: v391 :: v392 :: v393 :: v394 :: v395 :: v396 :: v397 :: v398 :: v399 :: v400 :: v401 :: v402 :: v403 :: v404 :: v405 :: v406 :: v407 :: v408 :: v409 :: v410 :: v411 :: v412 :: v413 :: v414 :: v415 :: v416 :: v417 :: v418 :: v419 :: v420 :: v421 :: v422 :: v423 :: v424 :: v425 :: v426 :: v427 :: v428 :: v429 :: v430 :: v431 :: v432 :: v433 :: v434 :: v435 :: v436 :: v437 :: v438 :: v439 :: v440 :: v441 :: v442 :: v443 :: v444 :: v445 :: v446 :: v447 :: v448 :: v449 :: v450 :: v451 :: v452 :: v453 :: v454 :: v455 :: v456 :: v457 :: v458 :: v459 :: v460 :: v461 :: v462 :: v463 :: v464 :: v465 :: v466 :: v467 :: v468 :: v469 :: v470 :: v471 :: v472 :: v473 :: v474 :: v475 :: v476 :: v477 :: v478 :: v479 :: v480 :: v481 :: v482 :: v483 :: v484 :: v485 :: v486 :: v487 :: v488 :: v489 :: v490 :: v491 :: v492 :: v493 :: v494 :: v495 :: v496 :: v497 :: v498 :: v499 :: v500 :: v501 :: v502 :: v503 :: v504 :: v505 :: v506 :: v507 :: v508 :: v509 :: v510 :: v511 :: v512 :: v513 :: v514 :: v515 :: v516 :: v517 :: v518 :: v519 :: v520 :: v521 :: v522 :: v523 :: v524 :: v525 :: v526 :: v527 :: v528 :: v529 :: v530 :: v531 :: v532 :: v533 :: v534 :: v535 :: v536 :: v537 :: []), []⟩ W') :
    Code.wp Tryz.prog (regU 21) (Exit.then K Q) ⟨List.toArray (v0 :: v1 :: .pointer (some ⟨gp, 0, none⟩) :: v3 :: v4 :: .slice A1 all.length c1 :: .bool ok :: .slice A2 all.length c2 :: .bool ok :: .int .i64 count :: .bool ok :: .int .i64 count :: .bool ok :: .string first :: .bool th :: .string first :: .bool th :: .string sure :: .bool th :: .string sure :: .bool th :: .bool solved :: .bool ok :: .bool solved :: .bool ok :: .slice A3 needless.length c3 :: .bool ok :: .slice A4 needless.length c4 :: .bool ok :: .slice A5 left.length c5 :: .bool ok :: .slice A6 left.length c6 :: .bool ok :: .int .i64 best :: .bool fv :: .int .i64 best :: .bool fv :: .string text :: .bool ok :: .string text :: .bool ok :: v41 :: v42 :: v43 :: v44 :: v45 :: v46 :: v47 :: v48 :: v49 :: v50 :: v51 :: v52 :: v53 :: v54 :: v55 :: v56 :: v57 :: v58 :: v59 :: v60 :: v61 :: v62 :: v63 :: v64 :: v65 :: v66 :: v67 :: v68 :: v69 :: v70 :: v71 :: v72 :: v73 :: v74 :: v75 :: v76 :: v77 :: v78 :: v79 :: v80 :: v81 :: v82 :: v83 :: v84 :: v85 :: v86 :: v87 :: v88 :: v89 :: v90 :: v91 :: v92 :: v93 :: v94 :: v95 :: v96 :: v97 :: v98 :: v99 :: v100 :: v101 :: v102 :: v103 :: v104 :: v105 :: v106 :: v107 :: v108 :: v109 :: v110 :: v111 :: v112 :: v113 :: v114 :: v115 :: v116 :: v117 :: v118 :: v119 :: v120 :: v121 :: v122 :: v123 :: v124 :: v125 :: v126 :: v127 :: v128 :: v129 :: v130 :: v131 :: v132 :: v133 :: v134 :: v135 :: v136 :: v137 :: v138 :: v139 :: v140 :: v141 :: v142 :: v143 :: v144 :: v145 :: v146 :: v147 :: v148 :: v149 :: v150 :: v151 :: v152 :: v153 :: v154 :: v155 :: v156 :: v157 :: v158 :: v159 :: v160 :: v161 :: v162 :: v163 :: v164 :: v165 :: v166 :: v167 :: v168 :: v169 :: v170 :: v171 :: v172 :: v173 :: v174 :: v175 :: v176 :: v177 :: v178 :: v179 :: v180 :: v181 :: v182 :: v183 :: v184 :: v185 :: v186 :: v187 :: v188 :: v189 :: v190 :: v191 :: v192 :: v193 :: v194 :: v195 :: v196 :: v197 :: v198 :: v199 :: v200 :: v201 :: v202 :: v203 :: v204 :: v205 :: v206 :: v207 :: v208 :: v209 :: v210 :: v211 :: v212 :: v213 :: v214 :: v215 :: v216 :: v217 :: v218 :: v219 :: v220 :: v221 :: v222 :: v223 :: v224 :: v225 :: v226 :: v227 :: v228 :: v229 :: v230 :: v231 :: v232 :: v233 :: v234 :: v235 :: v236 :: v237 :: v238 :: v239 :: v240 :: v241 :: v242 :: v243 :: v244 :: v245 :: v246 :: v247 :: v248 :: v249 :: v250 :: v251 :: v252 :: v253 :: v254 :: v255 :: v256 :: v257 :: v258 :: v259 :: v260 :: v261 :: v262 :: v263 :: v264 :: v265 :: v266 :: v267 :: v268 :: v269 :: v270 :: v271 :: v272 :: v273 :: v274 :: v275 :: v276 :: v277 :: v278 :: v279 :: v280 :: v281 :: v282 :: v283 :: v284 :: v285 :: v286 :: v287 :: v288 :: v289 :: v290 :: v291 :: v292 :: v293 :: v294 :: v295 :: v296 :: v297 :: v298 :: v299 :: v300 :: v301 :: v302 :: v303 :: v304 :: v305 :: v306 :: v307 :: v308 :: v309 :: v310 :: v311 :: v312 :: v313 :: v314 :: v315 :: v316 :: v317 :: v318 :: v319 :: v320 :: v321 :: v322 :: v323 :: v324 :: v325 :: v326 :: v327 :: v328 :: v329 :: v330 :: v331 :: v332 :: v333 :: v334 :: v335 :: v336 :: v337 :: v338 :: v339 :: v340 :: v341 :: v342 :: v343 :: v344 :: v345 :: v346 :: v347 :: v348 :: v349 :: v350 :: v351 :: v352 :: v353 :: v354 :: v355 :: v356 :: v357 :: v358 :: v359 :: v360 :: v361 :: v362 :: v363 :: v364 :: v365 :: v366 :: v367 :: v368 :: v369 :: v370 :: v371 :: v372 :: v373 :: v374 :: v375 :: v376 :: v377 :: v378 :: v379 :: v380 :: v381 :: v382 :: v383 :: v384 :: v385 :: v386 :: v387 :: v388 :: v389 :: v390 :: v391 :: v392 :: v393 :: v394 :: v395 :: v396 :: v397 :: v398 :: v399 :: v400 :: v401 :: v402 :: v403 :: v404 :: v405 :: v406 :: v407 :: v408 :: v409 :: v410 :: v411 :: v412 :: v413 :: v414 :: v415 :: v416 :: v417 :: v418 :: v419 :: v420 :: v421 :: v422 :: v423 :: v424 :: v425 :: v426 :: v427 :: v428 :: v429 :: v430 :: v431 :: v432 :: v433 :: v434 :: v435 :: v436 :: v437 :: v438 :: v439 :: v440 :: v441 :: v442 :: v443 :: v444 :: v445 :: v446 :: v447 :: v448 :: v449 :: v450 :: v451 :: v452 :: v453 :: v454 :: v455 :: v456 :: v457 :: v458 :: v459 :: v460 :: v461 :: v462 :: v463 :: v464 :: v465 :: v466 :: v467 :: v468 :: v469 :: v470 :: v471 :: v472 :: v473 :: v474 :: v475 :: v476 :: v477 :: v478 :: v479 :: v480 :: v481 :: v482 :: v483 :: v484 :: v485 :: v486 :: v487 :: v488 :: v489 :: v490 :: v491 :: v492 :: v493 :: v494 :: v495 :: v496 :: v497 :: v498 :: v499 :: v500 :: v501 :: v502 :: v503 :: v504 :: v505 :: v506 :: v507 :: v508 :: v509 :: v510 :: v511 :: v512 :: v513 :: v514 :: v515 :: v516 :: v517 :: v518 :: v519 :: v520 :: v521 :: v522 :: v523 :: v524 :: v525 :: v526 :: v527 :: v528 :: v529 :: v530 :: v531 :: v532 :: v533 :: v534 :: v535 :: v536 :: v537 :: []), []⟩ W := by
  have hu26 := Tryz.underlying26
  have hu24 := Tryz.underlying24
  have hu27 := Tryz.underlying27
  have hu36 := Tryz.underlying36
  have S := amk (Mg_below hm (bd_ (Below.refl _ _))); clear hm
  have HP := amk hp; have R0 := amk r0; have I0 := amk i0; have R1 := amk r1; have R2 := amk r2; have I1 := amk i1; have I2 := amk i2; have R3 := amk r3; have R4 := amk r4; have I3 := amk i3; have I4 := amk i4; have R5 := amk r5; have R6 := amk r6; have I5 := amk i5; have I6 := amk i6; have E1 := amk e1; have E2 := amk e2; have E3 := amk e3; have E4 := amk e4; have E5 := amk e5; have H3 := amk h3; have H5 := amk h5; clear hp r0 i0 r1 r2 i1 i2 r3 r4 i3 i4 r5 r6 i5 i6 e1 e2 e3 e4 e5 h3 h5
  have hbb : ∀ b : Bool, (b != b) = false := fun b => by cases b <;> rfl
  have hii : ∀ x : Int, (x != x) = false := fun x => by simp
  have hss : ∀ x : ByteArray, (x.toList != x.toList) = false := fun x => by simp
  have hst : ∀ x : ByteArray, (x.toList == x.toList) = true := fun x => by simp
  conv => arg 2; whnf
  have hc : ∀ W', Mg w bs rs W' → (W'.cell? ⟨gp, 0, none⟩ = some (.int .i64 P) ∧ W'.cell? ⟨gp, 1, none⟩ = some (.int .i64 D) ∧ W'.cell? ⟨gp, 2, none⟩ = some (.slice A L.length c)) := fun W' h => gx3 h HP.out
  have HCc := amk hc; clear hc
  refine start_ (n := 154) (S := fun w' => w'.cell? ⟨gp, 0, none⟩ = some (.int .i64 P) ∧ w'.cell? ⟨gp, 1, none⟩ = some (.int .i64 D) ∧ w'.cell? ⟨gp, 2, none⟩ = some (.slice A L.length c)) (ds := []) (bA 154 0) (by kernel_rfl) rfl (by kernel_rfl) (HCc.out _ S.out) (fun hHeld => ?_); refine with_tabW laws_FnCodesGuessedOfAll.tab21 laws_FnCodesGuessedOfAll.bits21 (fun HT_ HW_ => ?_)
  generalize World.drew _ = W at S hHeld ⊢
  refine pU_ HT_ 0 (some 156) (bP 154 1) ?_ (hQ := by intro c a w2 h; exact hQ c _ a.tmps a.defers w2 h)
  refine pU_ HT_ 1 (some 157) (bP 154 2) ?_ (hQ := by intro c a w2 h; exact hQ c _ a.tmps a.defers w2 h)
  refine pU_ HT_ 2 (some 158) (bP 154 3) ?_ (hQ := by intro c a w2 h; exact hQ c _ a.tmps a.defers w2 h)
  refine pU_ HT_ 3 (some 159) (bP 154 4) ?_ (hQ := by intro c a w2 h; exact hQ c _ a.tmps a.defers w2 h)
  refine pU_ HT_ 4 (some 160) (bP 154 5) ?_ (hQ := by intro c a w2 h; exact hQ c _ a.tmps a.defers w2 h)
  refine pU_ HT_ 5 (some 161) (bP 154 6) ?_ (hQ := by intro c a w2 h; exact hQ c _ a.tmps a.defers w2 h)
  refine oN_ HT_ 6 (some 162) (bP 154 7) (fun K hK => ?_); refine gs_ Tryz.func22 #[.slice A1 all.length c1, .slice A2 all.length c2] ?_; refine Calls.mono (laws_eTexts.calls k _ _ all _ _ all true _ (rS S.out R1.out) I1.out (rS S.out R2.out) I2.out E1.out) ?_; rintro e wx ⟨rfl, hb⟩; refine ⟨_, rfl, ?_⟩; have hb := hb.below; have nS := amk (Mg_below S.out hb); clear S; have S := nS; clear nS hb;
  refine hK.out _ _ (HCc.out _ S.out) (fun hHeld => ?_); clear hK K; refine nN_ (some 162) ?_
  refine pU_ HT_ 7 (some 163) (bP 154 8) ?_ (hQ := by intro c a w2 h; exact hQ c _ a.tmps a.defers w2 h)
  refine pU_ HT_ 8 (some 164) (bP 154 9) ?_ (hQ := by intro c a w2 h; exact hQ c _ a.tmps a.defers w2 h)
  refine pU_ HT_ 9 (some 165) (bP 154 10) ?_ (hQ := by intro c a w2 h; exact hQ c _ a.tmps a.defers w2 h)
  refine pU_ HT_ 10 (some 166) (bP 154 11) ?_ (hQ := by intro c a w2 h; exact hQ c _ a.tmps a.defers w2 h)
  refine pU_ HT_ 11 (some 167) (bP 154 12) ?_ (hQ := by intro c a w2 h; exact hQ c _ a.tmps a.defers w2 h)
  refine pU_ HT_ 12 (some 168) (bP 154 13) ?_ (hQ := by intro c a w2 h; exact hQ c _ a.tmps a.defers w2 h)
  refine pU_ HT_ 13 (some 169) (bP 154 14) ?_ (hQ := by intro c a w2 h; exact hQ c _ a.tmps a.defers w2 h)
  refine pU_ HT_ 14 (some 170) (bP 154 15) ?_ (hQ := by intro c a w2 h; exact hQ c _ a.tmps a.defers w2 h)
  refine pU_ HT_ 15 (some 171) (bP 154 16) ?_ (hQ := by intro c a w2 h; exact hQ c _ a.tmps a.defers w2 h)
  refine pU_ HT_ 16 (some 172) (bP 154 17) ?_ (hQ := by intro c a w2 h; exact hQ c _ a.tmps a.defers w2 h)
  refine pU_ HT_ 17 (some 173) (bP 154 18) ?_ (hQ := by intro c a w2 h; exact hQ c _ a.tmps a.defers w2 h)
  refine pU_ HT_ 18 (some 174) (bP 154 19) ?_ (hQ := by intro c a w2 h; exact hQ c _ a.tmps a.defers w2 h)
  refine pU_ HT_ 19 (some 175) (bP 154 20) ?_ (hQ := by intro c a w2 h; exact hQ c _ a.tmps a.defers w2 h)
  refine pU_ HT_ 20 (some 176) (bP 154 21) ?_ (hQ := by intro c a w2 h; exact hQ c _ a.tmps a.defers w2 h)
  refine pU_ HT_ 21 (some 177) (bP 154 22) ?_ (hQ := by intro c a w2 h; exact hQ c _ a.tmps a.defers w2 h)
  refine pU_ HT_ 22 (some 178) (bP 154 23) ?_ (hQ := by intro c a w2 h; exact hQ c _ a.tmps a.defers w2 h)
  refine pU_ HT_ 23 (some 179) (bP 154 24) ?_ (hQ := by intro c a w2 h; exact hQ c _ a.tmps a.defers w2 h)
  refine pU_ HT_ 24 (some 180) (bP 154 25) ?_ (hQ := by intro c a w2 h; exact hQ c _ a.tmps a.defers w2 h)
  refine pU_ HT_ 25 (some 181) (bP 154 26) ?_ (hQ := by intro c a w2 h; exact hQ c _ a.tmps a.defers w2 h)
  refine pU_ HT_ 26 (some 182) (bP 154 27) ?_ (hQ := by intro c a w2 h; exact hQ c _ a.tmps a.defers w2 h)
  refine pU_ HT_ 27 (some 183) (bP 154 28) ?_ (hQ := by intro c a w2 h; exact hQ c _ a.tmps a.defers w2 h)
  refine pU_ HT_ 28 (some 184) (bP 154 29) ?_ (hQ := by intro c a w2 h; exact hQ c _ a.tmps a.defers w2 h)
  refine pU_ HT_ 29 (some 185) (bP 154 30) ?_ (hQ := by intro c a w2 h; exact hQ c _ a.tmps a.defers w2 h)
  refine pU_ HT_ 30 (some 186) (bP 154 31) ?_ (hQ := by intro c a w2 h; exact hQ c _ a.tmps a.defers w2 h)
  refine pU_ HT_ 31 (some 187) (bP 154 32) ?_ (hQ := by intro c a w2 h; exact hQ c _ a.tmps a.defers w2 h)
  refine pU_ HT_ 32 (some 188) (bP 154 33) ?_ (hQ := by intro c a w2 h; exact hQ c _ a.tmps a.defers w2 h)
  refine pU_ HT_ 33 (some 189) (bP 154 34) ?_ (hQ := by intro c a w2 h; exact hQ c _ a.tmps a.defers w2 h)
  refine pU_ HT_ 34 (some 190) (bP 154 35) ?_ (hQ := by intro c a w2 h; exact hQ c _ a.tmps a.defers w2 h)
  refine pU_ HT_ 35 (some 191) (bP 154 36) ?_ (hQ := by intro c a w2 h; exact hQ c _ a.tmps a.defers w2 h)
  refine pU_ HT_ 36 (some 192) (bP 154 37) ?_ (hQ := by intro c a w2 h; exact hQ c _ a.tmps a.defers w2 h)
  refine pU_ HT_ 37 (some 193) (bP 154 38) ?_ (hQ := by intro c a w2 h; exact hQ c _ a.tmps a.defers w2 h)
  refine pU_ HT_ 38 (some 194) (bP 154 39) ?_ (hQ := by intro c a w2 h; exact hQ c _ a.tmps a.defers w2 h)
  refine pU_ HT_ 39 (some 195) (bP 154 40) ?_ (hQ := by intro c a w2 h; exact hQ c _ a.tmps a.defers w2 h)
  refine pU_ HT_ 40 (some 196) (bP 154 41) ?_ (hQ := by intro c a w2 h; exact hQ c _ a.tmps a.defers w2 h)
  refine pU_ HT_ 41 (some 197) (bP 154 42) ?_ (hQ := by intro c a w2 h; exact hQ c _ a.tmps a.defers w2 h)
  refine pU_ HT_ 42 (some 198) (bP 154 43) ?_ (hQ := by intro c a w2 h; exact hQ c _ a.tmps a.defers w2 h)
  refine pU_ HT_ 43 (some 199) (bP 154 44) ?_ (hQ := by intro c a w2 h; exact hQ c _ a.tmps a.defers w2 h)
  refine pU_ HT_ 44 (some 200) (bP 154 45) ?_ (hQ := by intro c a w2 h; exact hQ c _ a.tmps a.defers w2 h)
  refine pU_ HT_ 45 (some 201) (bP 154 46) ?_ (hQ := by intro c a w2 h; exact hQ c _ a.tmps a.defers w2 h)
  refine pU_ HT_ 46 (some 202) (bP 154 47) ?_ (hQ := by intro c a w2 h; exact hQ c _ a.tmps a.defers w2 h)
  refine pU_ HT_ 47 (some 203) (bP 154 48) ?_ (hQ := by intro c a w2 h; exact hQ c _ a.tmps a.defers w2 h)
  refine pU_ HT_ 48 (some 204) (bP 154 49) ?_ (hQ := by intro c a w2 h; exact hQ c _ a.tmps a.defers w2 h)
  refine pU_ HT_ 49 (some 205) (bP 154 50) ?_ (hQ := by intro c a w2 h; exact hQ c _ a.tmps a.defers w2 h)
  refine pU_ HT_ 50 (some 206) (bP 154 51) ?_ (hQ := by intro c a w2 h; exact hQ c _ a.tmps a.defers w2 h)
  refine pU_ HT_ 51 (some 207) (bP 154 52) ?_ (hQ := by intro c a w2 h; exact hQ c _ a.tmps a.defers w2 h)
  refine pU_ HT_ 52 (some 208) (bP 154 53) ?_ (hQ := by intro c a w2 h; exact hQ c _ a.tmps a.defers w2 h)
  refine pU_ HT_ 53 (some 209) (bP 154 54) ?_ (hQ := by intro c a w2 h; exact hQ c _ a.tmps a.defers w2 h)
  refine pU_ HT_ 54 (some 210) (bP 154 55) ?_ (hQ := by intro c a w2 h; exact hQ c _ a.tmps a.defers w2 h)
  refine pU_ HT_ 55 (some 211) (bP 154 56) ?_ (hQ := by intro c a w2 h; exact hQ c _ a.tmps a.defers w2 h)
  refine pU_ HT_ 56 (some 212) (bP 154 57) ?_ (hQ := by intro c a w2 h; exact hQ c _ a.tmps a.defers w2 h)
  refine oN_ HT_ 57 (some 213) (bP 154 58) (fun K hK => ?_); refine gs_ Tryz.func23 #[.slice A3 needless.length c3, .slice A4 needless.length c4] ?_; refine Calls.mono (laws_eSame.calls k _ _ needless _ _ needless true _ (rI S.out R3.out) I3.out (rI S.out R4.out) I4.out E2.out) ?_; rintro e wx ⟨rfl, hb⟩; refine ⟨_, rfl, ?_⟩; have hb := hb.below; have nS := amk (Mg_below S.out hb); clear S; have S := nS; clear nS hb;
  refine hK.out _ _ (HCc.out _ S.out) (fun hHeld => ?_); clear hK K; refine nN_ (some 213) ?_
  refine pU_ HT_ 58 (some 214) (bP 154 59) ?_ (hQ := by intro c a w2 h; exact hQ c _ a.tmps a.defers w2 h)
  refine pU_ HT_ 59 (some 215) (bP 154 60) ?_ (hQ := by intro c a w2 h; exact hQ c _ a.tmps a.defers w2 h)
  refine pU_ HT_ 60 (some 216) (bP 154 61) ?_ (hQ := by intro c a w2 h; exact hQ c _ a.tmps a.defers w2 h)
  refine pU_ HT_ 61 (some 217) (bP 154 62) ?_ (hQ := by intro c a w2 h; exact hQ c _ a.tmps a.defers w2 h)
  refine pU_ HT_ 62 (some 218) (bP 154 63) ?_ (hQ := by intro c a w2 h; exact hQ c _ a.tmps a.defers w2 h)
  refine pU_ HT_ 63 (some 219) (bP 154 64) ?_ (hQ := by intro c a w2 h; exact hQ c _ a.tmps a.defers w2 h)
  refine pU_ HT_ 64 (some 220) (bP 154 65) ?_ (hQ := by intro c a w2 h; exact hQ c _ a.tmps a.defers w2 h)
  refine pU_ HT_ 65 (some 221) (bP 154 66) ?_ (hQ := by intro c a w2 h; exact hQ c _ a.tmps a.defers w2 h)
  refine pU_ HT_ 66 (some 222) (bP 154 67) ?_ (hQ := by intro c a w2 h; exact hQ c _ a.tmps a.defers w2 h)
  refine pU_ HT_ 67 (some 223) (bP 154 68) ?_ (hQ := by intro c a w2 h; exact hQ c _ a.tmps a.defers w2 h)
  refine oN_ HT_ 68 (some 224) (bP 154 69) (fun K hK => ?_); refine gs_ Tryz.func23 #[.slice A5 left.length c5, .slice A6 left.length c6] ?_; refine Calls.mono (laws_eSame.calls k _ _ left _ _ left true _ (rI S.out R5.out) I5.out (rI S.out R6.out) I6.out E3.out) ?_; rintro e wx ⟨rfl, hb⟩; refine ⟨_, rfl, ?_⟩; have hb := hb.below; have nS := amk (Mg_below S.out hb); clear S; have S := nS; clear nS hb;
  refine hK.out _ _ (HCc.out _ S.out) (fun hHeld => ?_); clear hK K; refine nN_ (some 224) ?_
  refine pU_ HT_ 69 (some 225) (bP 154 70) ?_ (hQ := by intro c a w2 h; exact hQ c _ a.tmps a.defers w2 h)
  refine pU_ HT_ 70 (some 226) (bP 154 71) ?_ (hQ := by intro c a w2 h; exact hQ c _ a.tmps a.defers w2 h)
  refine pU_ HT_ 71 (some 227) (bP 154 72) ?_ (hQ := by intro c a w2 h; exact hQ c _ a.tmps a.defers w2 h)
  refine pU_ HT_ 72 (some 228) (bP 154 73) ?_ (hQ := by intro c a w2 h; exact hQ c _ a.tmps a.defers w2 h)
  refine pU_ HT_ 73 (some 229) (bP 154 74) ?_ (hQ := by intro c a w2 h; exact hQ c _ a.tmps a.defers w2 h)
  refine pU_ HT_ 74 (some 230) (bP 154 75) ?_ (hQ := by intro c a w2 h; exact hQ c _ a.tmps a.defers w2 h)
  refine pU_ HT_ 75 (some 231) (bP 154 76) ?_ (hQ := by intro c a w2 h; exact hQ c _ a.tmps a.defers w2 h)
  refine pU_ HT_ 76 (some 232) (bP 154 77) ?_ (hQ := by intro c a w2 h; exact hQ c _ a.tmps a.defers w2 h)
  refine pU_ HT_ 77 (some 233) (bP 154 78) ?_ (hQ := by intro c a w2 h; exact hQ c _ a.tmps a.defers w2 h)
  refine pU_ HT_ 78 (some 234) (bP 154 79) ?_ (hQ := by intro c a w2 h; exact hQ c _ a.tmps a.defers w2 h)
  refine pU_ HT_ 79 (some 235) (bP 154 80) ?_ (hQ := by intro c a w2 h; exact hQ c _ a.tmps a.defers w2 h)
  refine pU_ HT_ 80 (some 236) (bP 154 81) ?_ (hQ := by intro c a w2 h; exact hQ c _ a.tmps a.defers w2 h)
  refine pU_ HT_ 81 (some 237) (bP 154 82) ?_ (hQ := by intro c a w2 h; exact hQ c _ a.tmps a.defers w2 h)
  refine pU_ HT_ 82 (some 238) (bP 154 83) ?_ (hQ := by intro c a w2 h; exact hQ c _ a.tmps a.defers w2 h)
  refine pU_ HT_ 83 (some 239) (bP 154 84) ?_ (hQ := by intro c a w2 h; exact hQ c _ a.tmps a.defers w2 h)
  refine pU_ HT_ 84 (some 240) (bP 154 85) ?_ (hQ := by intro c a w2 h; exact hQ c _ a.tmps a.defers w2 h)
  refine pU_ HT_ 85 (some 241) (bP 154 86) ?_ (hQ := by intro c a w2 h; exact hQ c _ a.tmps a.defers w2 h)
  refine pU_ HT_ 86 (some 242) (bP 154 87) ?_ (hQ := by intro c a w2 h; exact hQ c _ a.tmps a.defers w2 h)
  refine pU_ HT_ 87 (some 243) (bP 154 88) ?_ (hQ := by intro c a w2 h; exact hQ c _ a.tmps a.defers w2 h)
  refine pU_ HT_ 88 (some 244) (bP 154 89) ?_ (hQ := by intro c a w2 h; exact hQ c _ a.tmps a.defers w2 h)
  refine pU_ HT_ 89 (some 245) (bP 154 90) ?_ (hQ := by intro c a w2 h; exact hQ c _ a.tmps a.defers w2 h)
  refine pU_ HT_ 90 (some 246) (bP 154 91) ?_ (hQ := by intro c a w2 h; exact hQ c _ a.tmps a.defers w2 h)
  refine pU_ HT_ 91 (some 247) (bP 154 92) ?_ (hQ := by intro c a w2 h; exact hQ c _ a.tmps a.defers w2 h)
  refine pU_ HT_ 92 (some 248) (bP 154 93) ?_ (hQ := by intro c a w2 h; exact hQ c _ a.tmps a.defers w2 h)
  refine tK_ HT_ HW_ hHeld 93 (some 249) (bP 154 94) ?_ (hQ := by intro c a w2 h; exact hQ c _ a.tmps a.defers w2 h)
  refine oN_ HT_ 94 (some 250) (bP 154 95) (fun K hK => ?_); refine gs_ Tryz.func24 #[.agg #[.int .i64 P, .int .i64 D, .slice A L.length c]] ?_; refine Calls.mono (impl_IsPuzzle.calls P D _ _ L ok _ (rC S.out R0.out) I0.out E4.out) ?_; rintro e wx ⟨rfl, hb⟩; refine ⟨_, rfl, ?_⟩; have nS := amk (Mg_below S.out hb); clear S; have S := nS; clear nS hb;
  refine hK.out _ _ (HCc.out _ S.out) (fun hHeld => ?_); clear hK K; refine nN_ (some 250) ?_
  refine pU_ HT_ 95 (some 251) (bP 154 96) ?_ (hQ := by intro c a w2 h; exact hQ c _ a.tmps a.defers w2 h)
  refine pU_ HT_ 96 (some 252) (bP 154 97) ?_ (hQ := by intro c a w2 h; exact hQ c _ a.tmps a.defers w2 h)
  refine pU_ HT_ 97 (some 253) (bP 154 98) ?_ (hQ := by intro c a w2 h; exact hQ c _ a.tmps a.defers w2 h)
  refine tK_ HT_ HW_ hHeld 98 (some 254) (bP 154 99) ?_ (hQ := by intro c a w2 h; exact hQ c _ a.tmps a.defers w2 h)
  refine tK_ HT_ HW_ hHeld 100 (some 256) (bA 154 1901475900342344102245054808063) ?_ (hQ := by intro c a w2 h; exact hQ c _ a.tmps a.defers w2 h)
  refine oN_ HT_ 99 (some 255) (bP 154 101) (fun K hK => ?_); refine gs_ Tryz.func24 #[.agg #[.int .i64 P, .int .i64 D, .slice A L.length c]] ?_; refine Calls.mono (impl_IsPuzzle.calls P D _ _ L ok _ (rC S.out R0.out) I0.out E4.out) ?_; rintro e wx ⟨rfl, hb⟩; refine ⟨_, rfl, ?_⟩; have nS := amk (Mg_below S.out hb); clear S; have S := nS; clear nS hb;
  refine hK.out _ _ (HCc.out _ S.out) (fun hHeld => ?_); clear hK K; refine nN_ (some 255) ?_
  refine oN_ HT_ 101 (some 257) (bP 154 102) (fun K hK => ?_); refine gs_ Tryz.func25 #[.agg #[.int .i64 P, .int .i64 D, .slice A L.length c]] ?_; refine Calls.mono (spec_IsPuzzle.calls k P D _ _ L ok _ (rC S.out R0.out) I0.out E5.out) ?_; rintro e wx ⟨rfl, hb⟩; refine ⟨_, rfl, ?_⟩; have nS := amk (Mg_below S.out hb); clear S; have S := nS; clear nS hb;
  refine hK.out _ _ (HCc.out _ S.out) (fun hHeld => ?_); clear hK K; refine nN_ (some 257) ?_
  refine pU_ HT_ 102 (some 258) (bP 154 103) ?_ (hQ := by intro c a w2 h; exact hQ c _ a.tmps a.defers w2 h)
  refine pU_ HT_ 103 (some 259) (bP 154 104) ?_ (hQ := by intro c a w2 h; exact hQ c _ a.tmps a.defers w2 h)
  refine pU_ HT_ 104 (some 260) (bP 154 105) ?_ (hQ := by intro c a w2 h; exact hQ c _ a.tmps a.defers w2 h)
  refine pU_ HT_ 105 (some 261) (bP 154 106) ?_ (hQ := by intro c a w2 h; exact hQ c _ a.tmps a.defers w2 h)
  refine pU_ HT_ 106 (some 262) (bP 154 107) ?_ (hQ := by intro c a w2 h; exact hQ c _ a.tmps a.defers w2 h)
  refine pU_ HT_ 107 (some 263) (bP 154 108) ?_ (hQ := by intro c a w2 h; exact hQ c _ a.tmps a.defers w2 h)
  refine pU_ HT_ 108 (some 264) (bP 154 109) ?_ (hQ := by intro c a w2 h; exact hQ c _ a.tmps a.defers w2 h)
  have g3 := H3.out; have g5 := H5.out; clear H3 H5
  cases ok with
  | false =>
    obtain rfl : th = false := g3; obtain rfl : fv = false := g5
    refine pU_ HT_ 109 (some 265) (bP 154 110) ?_ (hQ := by intro c a w2 h; exact hQ c _ a.tmps a.defers w2 h)
    refine pU_ HT_ 110 (some 266) (bP 154 111) ?_ (hQ := by intro c a w2 h; exact hQ c _ a.tmps a.defers w2 h)
    refine pU_ HT_ 111 (some 267) (bP 154 112) ?_ (hQ := by intro c a w2 h; exact hQ c _ a.tmps a.defers w2 h)
    refine pU_ HT_ 112 (some 268) (bP 154 113) ?_ (hQ := by intro c a w2 h; exact hQ c _ a.tmps a.defers w2 h)
    refine pZ_ HT_ 113 (some 269) (bP 154 114) ?_ (hQ := by intro c a w2 h; exact hQ c _ a.tmps a.defers w2 h)
    refine pZ_ HT_ 114 (some 270) (bP 154 115) ?_ (hQ := by intro c a w2 h; exact hQ c _ a.tmps a.defers w2 h)
    refine pU_ HT_ 115 (some 271) (bP 154 116) ?_ (hQ := by intro c a w2 h; exact hQ c _ a.tmps a.defers w2 h)
    refine pU_ HT_ 116 (some 272) (bP 154 117) ?_ (hQ := by intro c a w2 h; exact hQ c _ a.tmps a.defers w2 h)
    refine pU_ HT_ 117 (some 273) (bP 154 118) ?_ (hQ := by intro c a w2 h; exact hQ c _ a.tmps a.defers w2 h)
    refine pU_ HT_ 118 (some 274) (bP 154 119) ?_ (hQ := by intro c a w2 h; exact hQ c _ a.tmps a.defers w2 h)
    refine pU_ HT_ 119 (some 275) (bP 154 120) ?_ (hQ := by intro c a w2 h; exact hQ c _ a.tmps a.defers w2 h)
    refine pU_ HT_ 120 (some 276) (bP 154 121) ?_ (hQ := by intro c a w2 h; exact hQ c _ a.tmps a.defers w2 h)
    refine pU_ HT_ 121 (some 277) (bP 154 122) ?_ (hQ := by intro c a w2 h; exact hQ c _ a.tmps a.defers w2 h)
    refine pU_ HT_ 122 (some 278) (bP 154 123) ?_ (hQ := by intro c a w2 h; exact hQ c _ a.tmps a.defers w2 h)
    refine pU_ HT_ 123 (some 279) (bP 154 124) ?_ (hQ := by intro c a w2 h; exact hQ c _ a.tmps a.defers w2 h)
    refine pU_ HT_ 124 (some 280) (bP 154 125) ?_ (hQ := by intro c a w2 h; exact hQ c _ a.tmps a.defers w2 h)
    refine pU_ HT_ 125 (some 281) (bP 154 126) ?_ (hQ := by intro c a w2 h; exact hQ c _ a.tmps a.defers w2 h)
    refine pU_ HT_ 126 (some 282) (bP 154 127) ?_ (hQ := by intro c a w2 h; exact hQ c _ a.tmps a.defers w2 h)
    refine pU_ HT_ 127 (some 283) (bP 154 128) ?_ (hQ := by intro c a w2 h; exact hQ c _ a.tmps a.defers w2 h)
    refine pU_ HT_ 128 (some 284) (bP 154 129) ?_ (hQ := by intro c a w2 h; exact hQ c _ a.tmps a.defers w2 h)
    refine pU_ HT_ 129 (some 285) (bP 154 130) ?_ (hQ := by intro c a w2 h; exact hQ c _ a.tmps a.defers w2 h)
    refine pU_ HT_ 130 (some 286) (bP 154 131) ?_ (hQ := by intro c a w2 h; exact hQ c _ a.tmps a.defers w2 h)
    refine pU_ HT_ 131 (some 287) (bP 154 132) ?_ (hQ := by intro c a w2 h; exact hQ c _ a.tmps a.defers w2 h)
    refine pU_ HT_ 132 (some 288) (bP 154 133) ?_ (hQ := by intro c a w2 h; exact hQ c _ a.tmps a.defers w2 h)
    refine pU_ HT_ 133 (some 289) (bP 154 134) ?_ (hQ := by intro c a w2 h; exact hQ c _ a.tmps a.defers w2 h)
    refine pU_ HT_ 134 (some 290) (bP 154 135) ?_ (hQ := by intro c a w2 h; exact hQ c _ a.tmps a.defers w2 h)
    refine pU_ HT_ 135 (some 291) (bP 154 136) ?_ (hQ := by intro c a w2 h; exact hQ c _ a.tmps a.defers w2 h)
    refine pU_ HT_ 136 (some 292) (bP 154 137) ?_ (hQ := by intro c a w2 h; exact hQ c _ a.tmps a.defers w2 h)
    refine pU_ HT_ 137 (some 293) (bP 154 138) ?_ (hQ := by intro c a w2 h; exact hQ c _ a.tmps a.defers w2 h)
    refine pU_ HT_ 138 (some 294) (bP 154 139) ?_ (hQ := by intro c a w2 h; exact hQ c _ a.tmps a.defers w2 h)
    refine pU_ HT_ 139 (some 295) (bP 154 140) ?_ (hQ := by intro c a w2 h; exact hQ c _ a.tmps a.defers w2 h)
    refine pU_ HT_ 140 (some 296) (bP 154 141) ?_ (hQ := by intro c a w2 h; exact hQ c _ a.tmps a.defers w2 h)
    refine pU_ HT_ 141 (some 297) (bP 154 142) ?_ (hQ := by intro c a w2 h; exact hQ c _ a.tmps a.defers w2 h)
    refine pZ_ HT_ 142 (some 298) (bP 154 143) ?_ (hQ := by intro c a w2 h; exact hQ c _ a.tmps a.defers w2 h)
    refine pZ_ HT_ 143 (some 299) (bP 154 144) ?_ (hQ := by intro c a w2 h; exact hQ c _ a.tmps a.defers w2 h)
    refine pZ_ HT_ 144 (some 300) (bP 154 145) ?_ (hQ := by intro c a w2 h; exact hQ c _ a.tmps a.defers w2 h)
    refine pZ_ HT_ 145 (some 301) (bP 154 146) ?_ (hQ := by intro c a w2 h; exact hQ c _ a.tmps a.defers w2 h)
    refine pU_ HT_ 146 (some 302) (bP 154 147) ?_ (hQ := by intro c a w2 h; exact hQ c _ a.tmps a.defers w2 h)
    refine pU_ HT_ 147 (some 303) (bP 154 148) ?_ (hQ := by intro c a w2 h; exact hQ c _ a.tmps a.defers w2 h)
    refine pU_ HT_ 148 (some 304) (bP 154 149) ?_ (hQ := by intro c a w2 h; exact hQ c _ a.tmps a.defers w2 h)
    refine pU_ HT_ 149 (some 305) (bP 154 150) ?_ (hQ := by intro c a w2 h; exact hQ c _ a.tmps a.defers w2 h)
    refine pU_ HT_ 150 (some 306) (bP 154 151) ?_ (hQ := by intro c a w2 h; exact hQ c _ a.tmps a.defers w2 h)
    refine pU_ HT_ 151 (some 307) (bP 154 152) ?_ (hQ := by intro c a w2 h; exact hQ c _ a.tmps a.defers w2 h)
    refine pU_ HT_ 152 (some 308) (bP 154 153) ?_ (hQ := by intro c a w2 h; exact hQ c _ a.tmps a.defers w2 h)
    refine pU_ HT_ 153 (some 309) (bP 154 154) ?_ (hQ := by intro c a w2 h; exact hQ c _ a.tmps a.defers w2 h)
    refine done_ (done_of HT_.out (by kernel_rfl)) ?_; exact hrest _ S.out
  | true =>
    have d1 : decide (0 < count) = th := g3.symm; have d2 : decide (count > 0) = th := g3.symm; have d3 : decide (0 < (L.length : Int)) = fv := g5.symm; have d4 : decide ((L.length : Int) > 0) = fv := g5.symm; have d5 : decide (0 < L.length) = fv := by rw [← d3, decide_eq_decide]; omega
    clear g3 g5
    refine pU_ HT_ 109 (some 265) (bP 154 110) ?_ (hQ := by intro c a w2 h; exact hQ c _ a.tmps a.defers w2 h)
    refine pU_ HT_ 110 (some 266) (bP 154 111) ?_ (hQ := by intro c a w2 h; exact hQ c _ a.tmps a.defers w2 h)
    refine pU_ HT_ 111 (some 267) (bP 154 112) ?_ (hQ := by intro c a w2 h; exact hQ c _ a.tmps a.defers w2 h)
    refine pU_ HT_ 112 (some 268) (bP 154 113) ?_ (hQ := by intro c a w2 h; exact hQ c _ a.tmps a.defers w2 h)
    refine pU_ HT_ 113 (some 269) (bP 154 114) ?_ (hQ := by intro c a w2 h; exact hQ c _ a.tmps a.defers w2 h)
    refine pU_ HT_ 114 (some 270) (bP 154 115) ?_ (hQ := by intro c a w2 h; exact hQ c _ a.tmps a.defers w2 h)
    refine pU_ HT_ 115 (some 271) (bP 154 116) ?_ (hQ := by intro c a w2 h; exact hQ c _ a.tmps a.defers w2 h)
    refine pU_ HT_ 116 (some 272) (bP 154 117) ?_ (hQ := by intro c a w2 h; exact hQ c _ a.tmps a.defers w2 h)
    refine pU_ HT_ 117 (some 273) (bP 154 118) ?_ (hQ := by intro c a w2 h; exact hQ c _ a.tmps a.defers w2 h)
    refine pU_ HT_ 118 (some 274) (bP 154 119) ?_ (hQ := by intro c a w2 h; exact hQ c _ a.tmps a.defers w2 h)
    refine pU_ HT_ 119 (some 275) (bP 154 120) ?_ (hQ := by intro c a w2 h; exact hQ c _ a.tmps a.defers w2 h)
    refine pU_ HT_ 120 (some 276) (bP 154 121) ?_ (hQ := by intro c a w2 h; exact hQ c _ a.tmps a.defers w2 h)
    refine pU_ HT_ 121 (some 277) (bP 154 122) ?_ (hQ := by intro c a w2 h; exact hQ c _ a.tmps a.defers w2 h)
    refine pU_ HT_ 122 (some 278) (bP 154 123) ?_ (hQ := by intro c a w2 h; exact hQ c _ a.tmps a.defers w2 h)
    refine pU_ HT_ 123 (some 279) (bP 154 124) ?_ (hQ := by intro c a w2 h; exact hQ c _ a.tmps a.defers w2 h)
    refine pU_ HT_ 124 (some 280) (bP 154 125) ?_ (hQ := by intro c a w2 h; exact hQ c _ a.tmps a.defers w2 h)
    refine pU_ HT_ 125 (some 281) (bP 154 126) ?_ (hQ := by intro c a w2 h; exact hQ c _ a.tmps a.defers w2 h)
    refine pU_ HT_ 126 (some 282) (bP 154 127) ?_ (hQ := by intro c a w2 h; exact hQ c _ a.tmps a.defers w2 h)
    refine pU_ HT_ 127 (some 283) (bP 154 128) ?_ (hQ := by intro c a w2 h; exact hQ c _ a.tmps a.defers w2 h)
    refine pU_ HT_ 128 (some 284) (bP 154 129) ?_ (hQ := by intro c a w2 h; exact hQ c _ a.tmps a.defers w2 h)
    refine pU_ HT_ 129 (some 285) (bP 154 130) ?_ (hQ := by intro c a w2 h; exact hQ c _ a.tmps a.defers w2 h)
    refine pU_ HT_ 130 (some 286) (bP 154 131) ?_ (hQ := by intro c a w2 h; exact hQ c _ a.tmps a.defers w2 h)
    refine pU_ HT_ 131 (some 287) (bP 154 132) ?_ (hQ := by intro c a w2 h; exact hQ c _ a.tmps a.defers w2 h)
    refine pU_ HT_ 132 (some 288) (bP 154 133) ?_ (hQ := by intro c a w2 h; exact hQ c _ a.tmps a.defers w2 h)
    refine pU_ HT_ 133 (some 289) (bP 154 134) ?_ (hQ := by intro c a w2 h; exact hQ c _ a.tmps a.defers w2 h)
    refine pU_ HT_ 134 (some 290) (bP 154 135) ?_ (hQ := by intro c a w2 h; exact hQ c _ a.tmps a.defers w2 h)
    refine pU_ HT_ 135 (some 291) (bP 154 136) ?_ (hQ := by intro c a w2 h; exact hQ c _ a.tmps a.defers w2 h)
    refine pU_ HT_ 136 (some 292) (bP 154 137) ?_ (hQ := by intro c a w2 h; exact hQ c _ a.tmps a.defers w2 h)
    refine pU_ HT_ 137 (some 293) (bP 154 138) ?_ (hQ := by intro c a w2 h; exact hQ c _ a.tmps a.defers w2 h)
    refine pU_ HT_ 138 (some 294) (bP 154 139) ?_ (hQ := by intro c a w2 h; exact hQ c _ a.tmps a.defers w2 h)
    refine pU_ HT_ 139 (some 295) (bP 154 140) ?_ (hQ := by intro c a w2 h; exact hQ c _ a.tmps a.defers w2 h)
    refine pU_ HT_ 140 (some 296) (bP 154 141) ?_ (hQ := by intro c a w2 h; exact hQ c _ a.tmps a.defers w2 h)
    refine pU_ HT_ 141 (some 297) (bP 154 142) ?_ (hQ := by intro c a w2 h; exact hQ c _ a.tmps a.defers w2 h)
    refine pU_ HT_ 142 (some 298) (bP 154 143) ?_ (hQ := by intro c a w2 h; exact hQ c _ a.tmps a.defers w2 h)
    refine tK_ HT_ HW_ hHeld 143 (some 299) (bP 154 144) ?_ (hQ := by intro c a w2 h; exact hQ c _ a.tmps a.defers w2 h)
    refine pU_ HT_ 144 (some 300) (bP 154 145) ?_ (hQ := by intro c a w2 h; exact hQ c _ a.tmps a.defers w2 h)
    refine pU_ HT_ 145 (some 301) (bP 154 146) ?_ (hQ := by intro c a w2 h; exact hQ c _ a.tmps a.defers w2 h)
    refine pU_ HT_ 146 (some 302) (bP 154 147) ?_ (hQ := by intro c a w2 h; exact hQ c _ a.tmps a.defers w2 h)
    refine pU_ HT_ 147 (some 303) (bP 154 148) ?_ (hQ := by intro c a w2 h; exact hQ c _ a.tmps a.defers w2 h)
    refine pU_ HT_ 148 (some 304) (bP 154 149) ?_ (hQ := by intro c a w2 h; exact hQ c _ a.tmps a.defers w2 h)
    refine pU_ HT_ 149 (some 305) (bP 154 150) ?_ (hQ := by intro c a w2 h; exact hQ c _ a.tmps a.defers w2 h)
    refine pU_ HT_ 150 (some 306) (bP 154 151) ?_ (hQ := by intro c a w2 h; exact hQ c _ a.tmps a.defers w2 h)
    refine pU_ HT_ 151 (some 307) (bP 154 152) ?_ (hQ := by intro c a w2 h; exact hQ c _ a.tmps a.defers w2 h)
    refine pU_ HT_ 152 (some 308) (bP 154 153) ?_ (hQ := by intro c a w2 h; exact hQ c _ a.tmps a.defers w2 h)
    refine pU_ HT_ 153 (some 309) (bP 154 154) ?_ (hQ := by intro c a w2 h; exact hQ c _ a.tmps a.defers w2 h)
    refine done_ (done_of HT_.out (by kernel_rfl)) ?_; exact hrest _ S.out
/-! Declarations moved out of EDead. -/
theorem rd_str {xs : List ByteArray} {i : Nat} (h : i < xs.length) : rdOf ByteArray.empty xs (i : Nat) = xs[i] := by rw [rdOf_at (by simpa using h)]; simp
/-! laws.FnCodesGuessedOfAll, a part of its walk: printed by gengu.py. -/
set_option maxHeartbeats 16000000 in
set_option maxRecDepth 100000 in
theorem KUB {w : World} {v0 v1 v3 v4 v6 v7 v8 v10 v11 v12 v15 v16 v18 v19 v20 v22 v23 v24 v25 v26 v27 v28 v30 v31 v32 v33 v34 v35 v36 v37 v38 v39 v40 v43 v44 v45 v46 v47 v48 v49 v50 v51 v52 v53 v54 v55 v56 v57 v58 v59 v60 v61 v62 v63 v64 v65 v66 v67 v68 v69 v70 v71 v72 v73 v74 v75 v76 v77 v78 v79 v80 v81 v82 v83 v84 v85 v86 v87 v88 v89 v90 v91 v92 v93 v94 v95 v96 v97 v98 v99 v100 v101 v102 v103 v104 v105 v106 v107 v108 v109 v110 v111 v112 v113 v114 v115 v116 v117 v118 v119 v120 v121 v122 v123 v124 v125 v126 v127 v128 v129 v130 v131 v132 v133 v134 v135 v136 v137 v138 v139 v140 v141 v142 v143 v144 v145 v146 v147 v148 v149 v150 v151 v152 v153 v154 v155 v156 v157 v158 v159 v160 v161 v162 v163 v164 v165 v166 v167 v168 v169 v170 v171 v172 v173 v174 v175 v176 v177 v178 v179 v180 v181 v182 v183 v184 v185 v186 v187 v188 v189 v190 v191 v192 v193 v194 v195 v196 v197 v198 v199 v200 v201 v202 v203 v204 v205 v206 v207 v208 v209 v210 v211 v212 v213 v214 v215 v216 v217 v218 v219 v220 v221 v222 v223 v224 v225 v226 v227 v228 v229 v230 v231 v232 v233 v234 v235 v236 v237 v238 v239 v240 v241 v242 v243 v244 v245 v246 v247 v248 v249 v250 v251 v252 v253 v254 v255 v256 v257 v258 v259 v260 v261 v262 v263 v264 v265 v266 v267 v268 v269 v270 v271 v272 v273 v274 v275 v276 v277 v278 v279 v280 v281 v282 v283 v284 v285 v286 v287 v288 v289 v290 v291 v292 v293 v294 v295 v296 v297 v298 v299 v300 v301 v302 v303 v304 v305 v306 v307 v308 v309 v310 v311 v312 v313 v314 v315 v316 v317 v318 v319 v320 v321 v322 v323 v324 v325 v326 v327 v328 v329 v330 v331 v332 v333 v334 v335 v336 v337 v338 v339 v340 v341 v342 v343 v344 v345 v346 v347 v348 v349 v350 v351 v352 v353 v354 v355 v356 v357 v358 v359 v360 v361 v362 v363 v364 v365 v366 v367 v368 v369 v370 v371 v372 v373 v374 v375 v376 v377 v378 v379 v380 v381 v382 v383 v384 v385 v386 v387 v388 v389 v390 v391 v392 v393 v394 v395 v396 v397 v398 v399 v400 v401 v402 v403 v404 v405 v406 v407 v408 v409 v410 v411 v412 v413 v414 v415 v416 v417 v418 v419 v420 v421 v422 v423 v424 v425 v426 v427 v428 v429 v430 v431 v432 v433 v434 v435 v436 v437 v438 v439 v440 v441 v442 v443 v444 v445 v446 v447 v448 v449 v450 v451 v452 v453 v454 v455 v456 v457 v458 v459 v460 v461 v462 v463 v464 v465 v466 v467 v468 v469 v470 v471 v472 v473 v474 v475 v476 v477 v478 v479 v480 v481 v482 v483 v484 v485 v486 v487 v488 v489 v490 v491 v492 v493 v494 v495 v496 v497 v498 v499 v500 v501 v502 v503 v504 v505 v506 v507 v508 v509 v510 v511 v512 v513 v514 v515 v516 v517 v518 v519 v520 v521 v522 v523 v524 v525 v526 v527 v528 v529 v530 v531 v532 v533 v534 v535 v536 v537 : Value} (K : Act → World → Prop) (Q : Exit → Act → World → Prop) (hQ : ∀ c t t' d w', Q (.panic c) ⟨t, d⟩ w' → Q (.panic c) ⟨t', d⟩ w')
    (k : Nat) (P D : Int) (L : List S45) (A : Option Addr) (c : Nat) (gp : Nat) (all : List ByteArray) (left : List Int) (A1 A5 : Option Addr) (c1 c5 : Nat) (th solved : Bool) (count total : Int) (first sure : ByteArray) (bs : List (Nat × Obj)) (rs : List Rw) (W : World)
    (hm : Mg w bs rs W) (hp : (gp, pzG P D A L.length c) ∈ bs) (r1 : rwS A1 all ∈ rs) (i1 : all.length ≤ c1) (r5 : rwI A5 left ∈ rs)
    (h0 : 0 ≤ P) (f1 : (all.length : Int) = count) (f2 : th = decide (count > 0)) (f3 : th = true → first = rdOf ByteArray.empty all 0 ∧ sure.size = P.toNat) (f4 : solved = (count == 1)) (f5 : left.length = L.length + 1) (f6 : L.length ≤ 6) (f7 : rd left 0 = total) (f8 : rd left L.length = count) (f9 : solved = true → sure = first) (e1 : laws_eSorted.f k all = some true)
    (hrest : ∀ {u317 u318 u319 u320 u321 u322 u323 u324 u325 u326 u327 u328 u329 u330 u331 u332 u333 u334 u335 u336 u337 u338 u339 u340 u341 u342 u343 u344 u345 u346 u347 u348 u349 u350 u351 u352 u353 u354 u355 u356 u357 u358 u359 u360 u361 u362 u363 u364 u365 u366 u367 u368 u369 u370 u371 u372 u373 u374 u375 u376 u377 u378 u379 u380 u381 u382 u383 u384 u385 u386 u387 u388 u389 : Value} (W' : World), Mg w bs rs W' → K ⟨List.toArray (v0 :: v1 :: .pointer (some ⟨gp, 0, none⟩) :: v3 :: v4 :: .slice A1 all.length c1 :: v6 :: v7 :: v8 :: .int .i64 count :: v10 :: v11 :: v12 :: .string first :: .bool th :: v15 :: v16 :: .string sure :: v18 :: v19 :: v20 :: .bool solved :: v22 :: v23 :: v24 :: v25 :: v26 :: v27 :: v28 :: .slice A5 left.length c5 :: v30 :: v31 :: v32 :: v33 :: v34 :: v35 :: v36 :: v37 :: v38 :: v39 :: v40 :: .int .i64 total :: .bool true :: v43 :: v44 :: v45 :: v46 :: v47 :: v48 :: v49 :: v50 :: v51 :: v52 :: v53 :: v54 :: v55 :: v56 :: v57 :: v58 :: v59 :: v60 :: v61 :: v62 :: v63 :: v64 :: v65 :: v66 :: v67 :: v68 :: v69 :: v70 :: v71 :: v72 :: v73 :: v74 :: v75 :: v76 :: v77 :: v78 :: v79 :: v80 :: v81 :: v82 :: v83 :: v84 :: v85 :: v86 :: v87 :: v88 :: v89 :: v90 :: v91 :: v92 :: v93 :: v94 :: v95 :: v96 :: v97 :: v98 :: v99 :: v100 :: v101 :: v102 :: v103 :: v104 :: v105 :: v106 :: v107 :: v108 :: v109 :: v110 :: v111 :: v112 :: v113 :: v114 :: v115 :: v116 :: v117 :: v118 :: v119 :: v120 :: v121 :: v122 :: v123 :: v124 :: v125 :: v126 :: v127 :: v128 :: v129 :: v130 :: v131 :: v132 :: v133 :: v134 :: v135 :: v136 :: v137 :: v138 :: v139 :: v140 :: v141 :: v142 :: v143 :: v144 :: v145 :: v146 :: v147 :: v148 :: v149 :: v150 :: v151 :: v152 :: v153 :: v154 :: v155 :: v156 :: v157 :: v158 :: v159 :: v160 :: v161 :: v162 :: v163 :: v164 :: v165 :: v166 :: v167 :: v168 :: v169 :: v170 :: v171 :: v172 :: v173 :: v174 :: v175 :: v176 :: v177 :: v178 :: v179 :: v180 :: v181 :: v182 :: v183 :: v184 :: v185 :: v186 :: v187 :: v188 :: v189 :: v190 :: v191 :: v192 :: v193 :: v194 :: v195 :: v196 :: v197 :: v198 :: v199 :: v200 :: v201 :: v202 :: v203 :: v204 :: v205 :: v206 :: v207 :: v208 :: v209 :: v210 :: v211 :: v212 :: v213 :: v214 :: v215 :: v216 :: v217 :: v218 :: v219 :: v220 :: v221 :: v222 :: v223 :: v224 :: v225 :: v226 :: v227 :: v228 :: v229 :: v230 :: v231 :: v232 :: v233 :: v234 :: v235 :: v236 :: v237 :: v238 :: v239 :: v240 :: v241 :: v242 :: v243 :: v244 :: v245 :: v246 :: v247 :: v248 :: v249 :: v250 :: v251 :: v252 :: v253 :: v254 :: v255 :: v256 :: v257 :: v258 :: v259 :: v260 :: v261 :: v262 :: v263 :: v264 :: v265 :: v266 :: v267 :: v268 :: v269 :: v270 :: v271 :: v272 :: v273 :: v274 :: v275 :: v276 :: v277 :: v278 :: v279 :: v280 :: v281 :: v282 :: v283 :: v284 :: v285 :: v286 :: v287 :: v288 :: v289 :: v290 :: v291 :: v292 :: v293 :: v294 :: v295 :: v296 :: v297 :: v298 :: v299 :: v300 :: v301 :: v302 :: v303 :: v304 :: v305 :: v306 :: v307 :: v308 :: v309 :: v310 :: v311 :: v312 :: v313 :: v314 :: v315 :: v316 :: u317 :: u318 :: u319 :: u320 :: u321 :: u322 :: u323 :: u324 :: u325 :: u326 :: u327 :: u328 :: u329 :: u330 :: u331 :: u332 :: u333 :: u334 :: u335 :: u336 :: u337 :: u338 :: u339 :: u340 :: u341 :: u342 :: u343 :: u344 :: u345 :: u346 :: u347 :: u348 :: u349 :: u350 :: u351 :: u352 :: u353 :: u354 :: u355 :: u356 :: u357 :: u358 :: u359 :: u360 :: u361 :: u362 :: u363 :: u364 :: u365 :: u366 :: u367 :: u368 :: u369 :: u370 :: u371 :: u372 :: u373 :: u374 :: u375 :: u376 :: u377 :: u378 :: u379 :: u380 :: u381 :: u382 :: u383 :: u384 :: u385 :: u386 :: u387 :: u388 :: u389 :: .bool false :: v391 :: v392 :: v393 :: v394 :: v395 :: v396 :: v397 :: v398 :: v399 :: v400 :: v401 :: v402 :: v403 :: v404 :: v405 :: v406 :: v407 :: v408 :: v409 :: v410 :: v411 :: v412 :: v413 :: v414 :: v415 :: v416 :: v417 :: v418 :: v419 :: v420 :: v421 :: v422 :: v423 :: v424 :: v425 :: v426 :: v427 :: v428 :: v429 :: v430 :: v431 :: v432 :: v433 :: v434 :: v435 :: v436 :: v437 :: v438 :: v439 :: v440 :: v441 :: v442 :: v443 :: v444 :: v445 :: v446 :: v447 :: v448 :: v449 :: v450 :: v451 :: v452 :: v453 :: v454 :: v455 :: v456 :: v457 :: v458 :: v459 :: v460 :: v461 :: v462 :: v463 :: v464 :: v465 :: v466 :: v467 :: v468 :: v469 :: v470 :: v471 :: v472 :: v473 :: v474 :: v475 :: v476 :: v477 :: v478 :: v479 :: v480 :: v481 :: v482 :: v483 :: v484 :: v485 :: v486 :: v487 :: v488 :: v489 :: v490 :: v491 :: v492 :: v493 :: v494 :: v495 :: v496 :: v497 :: v498 :: v499 :: v500 :: v501 :: v502 :: v503 :: v504 :: v505 :: v506 :: v507 :: v508 :: v509 :: v510 :: v511 :: v512 :: v513 :: v514 :: v515 :: v516 :: v517 :: v518 :: v519 :: v520 :: v521 :: v522 :: v523 :: v524 :: v525 :: v526 :: v527 :: v528 :: v529 :: v530 :: v531 :: v532 :: v533 :: v534 :: v535 :: v536 :: v537 :: []), []⟩ W') :
    Code.wp Tryz.prog (regU 25) (Exit.then K Q) ⟨List.toArray (v0 :: v1 :: .pointer (some ⟨gp, 0, none⟩) :: v3 :: v4 :: .slice A1 all.length c1 :: v6 :: v7 :: v8 :: .int .i64 count :: v10 :: v11 :: v12 :: .string first :: .bool th :: v15 :: v16 :: .string sure :: v18 :: v19 :: v20 :: .bool solved :: v22 :: v23 :: v24 :: v25 :: v26 :: v27 :: v28 :: .slice A5 left.length c5 :: v30 :: v31 :: v32 :: v33 :: v34 :: v35 :: v36 :: v37 :: v38 :: v39 :: v40 :: .int .i64 total :: .bool true :: v43 :: v44 :: v45 :: v46 :: v47 :: v48 :: v49 :: v50 :: v51 :: v52 :: v53 :: v54 :: v55 :: v56 :: v57 :: v58 :: v59 :: v60 :: v61 :: v62 :: v63 :: v64 :: v65 :: v66 :: v67 :: v68 :: v69 :: v70 :: v71 :: v72 :: v73 :: v74 :: v75 :: v76 :: v77 :: v78 :: v79 :: v80 :: v81 :: v82 :: v83 :: v84 :: v85 :: v86 :: v87 :: v88 :: v89 :: v90 :: v91 :: v92 :: v93 :: v94 :: v95 :: v96 :: v97 :: v98 :: v99 :: v100 :: v101 :: v102 :: v103 :: v104 :: v105 :: v106 :: v107 :: v108 :: v109 :: v110 :: v111 :: v112 :: v113 :: v114 :: v115 :: v116 :: v117 :: v118 :: v119 :: v120 :: v121 :: v122 :: v123 :: v124 :: v125 :: v126 :: v127 :: v128 :: v129 :: v130 :: v131 :: v132 :: v133 :: v134 :: v135 :: v136 :: v137 :: v138 :: v139 :: v140 :: v141 :: v142 :: v143 :: v144 :: v145 :: v146 :: v147 :: v148 :: v149 :: v150 :: v151 :: v152 :: v153 :: v154 :: v155 :: v156 :: v157 :: v158 :: v159 :: v160 :: v161 :: v162 :: v163 :: v164 :: v165 :: v166 :: v167 :: v168 :: v169 :: v170 :: v171 :: v172 :: v173 :: v174 :: v175 :: v176 :: v177 :: v178 :: v179 :: v180 :: v181 :: v182 :: v183 :: v184 :: v185 :: v186 :: v187 :: v188 :: v189 :: v190 :: v191 :: v192 :: v193 :: v194 :: v195 :: v196 :: v197 :: v198 :: v199 :: v200 :: v201 :: v202 :: v203 :: v204 :: v205 :: v206 :: v207 :: v208 :: v209 :: v210 :: v211 :: v212 :: v213 :: v214 :: v215 :: v216 :: v217 :: v218 :: v219 :: v220 :: v221 :: v222 :: v223 :: v224 :: v225 :: v226 :: v227 :: v228 :: v229 :: v230 :: v231 :: v232 :: v233 :: v234 :: v235 :: v236 :: v237 :: v238 :: v239 :: v240 :: v241 :: v242 :: v243 :: v244 :: v245 :: v246 :: v247 :: v248 :: v249 :: v250 :: v251 :: v252 :: v253 :: v254 :: v255 :: v256 :: v257 :: v258 :: v259 :: v260 :: v261 :: v262 :: v263 :: v264 :: v265 :: v266 :: v267 :: v268 :: v269 :: v270 :: v271 :: v272 :: v273 :: v274 :: v275 :: v276 :: v277 :: v278 :: v279 :: v280 :: v281 :: v282 :: v283 :: v284 :: v285 :: v286 :: v287 :: v288 :: v289 :: v290 :: v291 :: v292 :: v293 :: v294 :: v295 :: v296 :: v297 :: v298 :: v299 :: v300 :: v301 :: v302 :: v303 :: v304 :: v305 :: v306 :: v307 :: v308 :: v309 :: v310 :: v311 :: v312 :: v313 :: v314 :: v315 :: v316 :: v317 :: v318 :: v319 :: v320 :: v321 :: v322 :: v323 :: v324 :: v325 :: v326 :: v327 :: v328 :: v329 :: v330 :: v331 :: v332 :: v333 :: v334 :: v335 :: v336 :: v337 :: v338 :: v339 :: v340 :: v341 :: v342 :: v343 :: v344 :: v345 :: v346 :: v347 :: v348 :: v349 :: v350 :: v351 :: v352 :: v353 :: v354 :: v355 :: v356 :: v357 :: v358 :: v359 :: v360 :: v361 :: v362 :: v363 :: v364 :: v365 :: v366 :: v367 :: v368 :: v369 :: v370 :: v371 :: v372 :: v373 :: v374 :: v375 :: v376 :: v377 :: v378 :: v379 :: v380 :: v381 :: v382 :: v383 :: v384 :: v385 :: v386 :: v387 :: v388 :: v389 :: v390 :: v391 :: v392 :: v393 :: v394 :: v395 :: v396 :: v397 :: v398 :: v399 :: v400 :: v401 :: v402 :: v403 :: v404 :: v405 :: v406 :: v407 :: v408 :: v409 :: v410 :: v411 :: v412 :: v413 :: v414 :: v415 :: v416 :: v417 :: v418 :: v419 :: v420 :: v421 :: v422 :: v423 :: v424 :: v425 :: v426 :: v427 :: v428 :: v429 :: v430 :: v431 :: v432 :: v433 :: v434 :: v435 :: v436 :: v437 :: v438 :: v439 :: v440 :: v441 :: v442 :: v443 :: v444 :: v445 :: v446 :: v447 :: v448 :: v449 :: v450 :: v451 :: v452 :: v453 :: v454 :: v455 :: v456 :: v457 :: v458 :: v459 :: v460 :: v461 :: v462 :: v463 :: v464 :: v465 :: v466 :: v467 :: v468 :: v469 :: v470 :: v471 :: v472 :: v473 :: v474 :: v475 :: v476 :: v477 :: v478 :: v479 :: v480 :: v481 :: v482 :: v483 :: v484 :: v485 :: v486 :: v487 :: v488 :: v489 :: v490 :: v491 :: v492 :: v493 :: v494 :: v495 :: v496 :: v497 :: v498 :: v499 :: v500 :: v501 :: v502 :: v503 :: v504 :: v505 :: v506 :: v507 :: v508 :: v509 :: v510 :: v511 :: v512 :: v513 :: v514 :: v515 :: v516 :: v517 :: v518 :: v519 :: v520 :: v521 :: v522 :: v523 :: v524 :: v525 :: v526 :: v527 :: v528 :: v529 :: v530 :: v531 :: v532 :: v533 :: v534 :: v535 :: v536 :: v537 :: []), []⟩ W := by
  have hu26 := Tryz.underlying26
  have hu23 := Tryz.underlying23
  have hu45 := Tryz.underlying45
  have hu24 := Tryz.underlying24
  have hu27 := Tryz.underlying27
  have hu36 := Tryz.underlying36
  have hbb : ∀ b : Bool, (b != b) = false := fun b => by cases b <;> rfl
  have hii : ∀ x : Int, (x != x) = false := fun x => by simp
  have hss : ∀ x : ByteArray, (x.toList != x.toList) = false := fun x => by simp
  have hst : ∀ x : ByteArray, (x.toList == x.toList) = true := fun x => by simp
  have S := amk hm; clear hm; have HP := amk hp; have R1 := amk r1; have I1 := amk i1; have R5 := amk r5; have E1 := amk e1; clear hp r1 i1 r5 e1
  conv => arg 2; whnf
  simp only [List.append_eq, List.cons_append, List.nil_append]
  have hac : ((all.length : Int) != count) = false := by simp [f1]
  have hw : wrap64 ((L.length : Int) + 1) = (left.length : Int) := by rw [w64 (by omega) (by omega)]; omega
  have hs1 : (count == 1) = solved := f4.symm
  obtain ⟨q0, q1, q2⟩ := gx3 S.out HP.out
  have p1 : (0 : Int) ≤ 0 := Int.le_refl 0
  have p2 : (0 : Int) < (left.length : Int) := by omega
  have p3 : (0 : Int) ≤ (L.length : Int) := by omega
  have p4 : (L.length : Int) < (left.length : Int) := by omega
  obtain ⟨ad5, e5, hx5⟩ := Kd.at_int (rI S.out R5.out) 0 p1 p2; cases e5
  obtain ⟨ad6, e6, hx6⟩ := Kd.at_int (rI S.out R5.out) (L.length : Int) p3 p4; cases e6
  rw [f7] at hx5; rw [f8] at hx6
  have hx6b := hx6; rw [Int.toNat_natCast] at hx6b; replace hx5 : W.cell? ad5 = some (.int .i64 total) := hx5
  replace p1 := eq_true p1; replace p2 := eq_true p2; replace p3 := eq_true p3; replace p4 := eq_true p4
  have pn1 : (0 < left.length) = True := eq_true (by omega)
  have pn2 : (L.length < left.length) = True := eq_true (by omega)
  clear f5 f6 f7 f8 f4
  cases th with
  | false =>
    have hs0 : solved = false := by cases solved with | false => rfl | true => (have a1 := of_decide_eq_false f2.symm; have a2 := beq_iff_eq.mp hs1; omega)
    subst hs0; clear f1 f2 f3 f9 h0
    go_wp2_with (go_at_call 27; refine Calls.mono (laws_eSorted.calls k _ _ all true _ (rS S.out R1.out) I1.out E1.out) ?_; rintro e wx ⟨rfl, hb⟩; have hb := hb.below; have nS := amk (Mg_below S.out hb); clear S; have S := nS; clear nS hb)
    exact S.out
  | true =>
    obtain ⟨g1, g2⟩ := f3 rfl
    have hcp : 0 < count := of_decide_eq_true f2.symm
    have p5 : (0 : Int) < (all.length : Int) := by omega
    have pn3 : (0 < all.length) = True := eq_true (by omega)
    obtain ⟨ad7, e7, hx7⟩ := Kd.at_string (rS S.out R1.out) 0 (Int.le_refl 0) p5; cases e7
    rw [← g1] at hx7; replace hx7 : W.cell? ad7 = some (.string first) := hx7
    have hsp : ((sure.size : Int) != P) = false := by rw [g2, Int.toNat_of_nonneg h0]; simp
    replace p5 := eq_true p5; clear f1 f2 f3 g1 g2 hcp h0
    cases solved with
    | false => clear f9; go_wp2_with (go_at_call 27; refine Calls.mono (laws_eSorted.calls k _ _ all true _ (rS S.out R1.out) I1.out E1.out) ?_; rintro e wx ⟨rfl, hb⟩; have hb := hb.below; have nS := amk (Mg_below S.out hb); clear S; have S := nS; clear nS hb); exact S.out
    | true => obtain rfl := f9 rfl; clear f9; go_wp2_with (go_at_call 27; refine Calls.mono (laws_eSorted.calls k _ _ all true _ (rS S.out R1.out) I1.out E1.out) ?_; rintro e wx ⟨rfl, hb⟩; have hb := hb.below; have nS := amk (Mg_below S.out hb); clear S; have S := nS; clear nS hb); exact S.out
/-! laws.FnCodesGuessedOfAll, a part of its walk: printed by gengu.py. -/
def laws_FnCodesGuessedOfAll.T40 : Bool × List (List Nat × List Nat) := (true, [([], []), ([], []), ([0, 1], [0, 1]), ([2], [2]), ([3], [3]), ([4], [4]), ([4], [4]), ([5, 6, 4], [4, 5, 6]), ([4], [4]), ([4], [4]), ([8, 9, 4], [4, 8, 9]), ([7, 10, 4], [4, 7, 10]), ([4, 11], [4, 11])])
def laws_FnCodesGuessedOfAll.B40 : List Nat := [0, 0, 3, 7, 15, 31, 31, 127, 31, 31, 799, 2047, 4095]
theorem laws_FnCodesGuessedOfAll.tab40 : rtab .any (opsOf Tryz.f3 40) = laws_FnCodesGuessedOfAll.T40 := by kernel_rfl
theorem laws_FnCodesGuessedOfAll.bits40 : waitsOk laws_FnCodesGuessedOfAll.T40.2 laws_FnCodesGuessedOfAll.B40 = true := by kernel_rfl
set_option maxHeartbeats 16000000 in
set_option maxRecDepth 100000 in
theorem KUF {w : World} {v0 v1 v2 v3 v4 v5 v6 v7 v8 v9 v10 v11 v12 v13 v14 v15 v16 v18 v19 v20 v21 v22 v23 v24 v25 v26 v27 v28 v29 v30 v31 v32 v33 v34 v35 v36 v37 v38 v39 v40 v41 v42 v43 v45 v46 v47 v48 v50 v51 v52 v53 v54 v55 v56 v57 v58 v59 v60 v61 v62 v63 v64 v65 v66 v67 v68 v69 v70 v71 v72 v73 v74 v75 v76 v77 v78 v79 v80 v81 v82 v83 v84 v85 v86 v87 v88 v89 v90 v91 v92 v93 v94 v95 v96 v97 v98 v99 v100 v101 v102 v103 v104 v105 v106 v107 v108 v109 v110 v111 v112 v113 v114 v115 v116 v117 v118 v119 v120 v121 v122 v123 v124 v125 v126 v127 v128 v129 v130 v131 v132 v133 v134 v135 v136 v137 v138 v139 v140 v141 v142 v143 v144 v145 v146 v147 v148 v149 v150 v151 v152 v153 v154 v155 v156 v157 v158 v159 v160 v161 v162 v163 v164 v165 v166 v167 v168 v169 v170 v171 v172 v173 v174 v175 v176 v177 v178 v179 v180 v181 v182 v183 v184 v185 v186 v187 v188 v189 v190 v191 v192 v193 v194 v195 v196 v197 v198 v199 v200 v201 v202 v203 v204 v205 v206 v207 v208 v209 v210 v211 v212 v213 v214 v215 v216 v217 v218 v219 v220 v221 v222 v223 v224 v225 v226 v227 v228 v229 v230 v231 v232 v233 v234 v235 v236 v237 v238 v239 v240 v241 v242 v243 v244 v245 v246 v247 v248 v249 v250 v251 v252 v253 v254 v255 v256 v257 v258 v259 v260 v261 v262 v263 v264 v265 v266 v267 v268 v269 v270 v271 v272 v273 v274 v275 v276 v277 v278 v279 v280 v281 v282 v283 v284 v285 v286 v287 v288 v289 v290 v291 v292 v293 v294 v295 v296 v297 v298 v299 v300 v301 v302 v303 v304 v305 v306 v307 v308 v309 v310 v311 v312 v313 v314 v315 v316 v317 v318 v319 v320 v321 v322 v323 v324 v325 v326 v327 v328 v329 v330 v331 v332 v333 v334 v335 v336 v337 v338 v339 v340 v341 v342 v343 v344 v345 v346 v347 v348 v349 v350 v351 v352 v353 v354 v355 v356 v357 v358 v359 v360 v361 v362 v363 v364 v365 v366 v367 v368 v369 v370 v371 v372 v373 v374 v375 v376 v377 v378 v379 v380 v381 v382 v383 v384 v385 v386 v387 v388 v389 v390 v391 v392 v393 v394 v395 v396 v397 v398 v399 v400 v401 v402 v403 v404 v405 v406 v407 v408 v409 v410 v411 v412 v413 v414 v415 v416 v417 v418 v419 v420 v421 v422 v423 v424 v425 v426 v427 v428 v429 v430 v431 v432 v433 v434 v435 v436 v437 v438 v439 v440 v441 v442 v443 v444 v445 v446 v447 v448 v449 v450 v451 v452 v453 v454 v455 v456 v457 v458 v459 v460 v461 v462 v463 v464 v465 v466 v467 v468 v469 v470 v471 v472 v473 v474 v475 v476 v477 v478 v479 v480 v481 v482 v483 v484 v485 v486 v487 v488 v489 v490 v491 v492 v493 v494 v495 v496 v497 v498 v499 v500 v501 v502 v503 v504 v505 v506 v507 v508 v509 v510 v511 v512 v513 v514 v515 v516 v517 v518 v519 v520 v521 v522 v523 v524 v525 v526 v527 v528 v529 v530 v531 v532 v533 v534 v535 v536 v537 : Value} (K : Act → World → Prop) (Q : Exit → Act → World → Prop) (hQ : ∀ c t t' d w', Q (.panic c) ⟨t, d⟩ w' → Q (.panic c) ⟨t', d⟩ w')
    (x : Nat) (s sure : ByteArray) (y it : Nat) (bs : List (Nat × Obj)) (rs : List Rw) (W : World)
    (hm : Mi w bs rs s y it W) (hx : x < s.size) (hz : x < sure.size) (hq : bt sure (x : Nat) = 63 ∨ bt sure (x : Nat) = bt s (x : Nat))
    (hrest : ∀ {u424 u425 u426 u427 u428 u429 u430 u431 u432 u433 u434 u435 : Value} (W' : World), Mi w bs rs s y it W' → K ⟨List.toArray (v0 :: v1 :: v2 :: v3 :: v4 :: v5 :: v6 :: v7 :: v8 :: v9 :: v10 :: v11 :: v12 :: v13 :: v14 :: v15 :: v16 :: .string sure :: v18 :: v19 :: v20 :: v21 :: v22 :: v23 :: v24 :: v25 :: v26 :: v27 :: v28 :: v29 :: v30 :: v31 :: v32 :: v33 :: v34 :: v35 :: v36 :: v37 :: v38 :: v39 :: v40 :: v41 :: v42 :: v43 :: .string s :: v45 :: v46 :: v47 :: v48 :: .int .i64 (x : Int) :: v50 :: v51 :: v52 :: v53 :: v54 :: v55 :: v56 :: v57 :: v58 :: v59 :: v60 :: v61 :: v62 :: v63 :: v64 :: v65 :: v66 :: v67 :: v68 :: v69 :: v70 :: v71 :: v72 :: v73 :: v74 :: v75 :: v76 :: v77 :: v78 :: v79 :: v80 :: v81 :: v82 :: v83 :: v84 :: v85 :: v86 :: v87 :: v88 :: v89 :: v90 :: v91 :: v92 :: v93 :: v94 :: v95 :: v96 :: v97 :: v98 :: v99 :: v100 :: v101 :: v102 :: v103 :: v104 :: v105 :: v106 :: v107 :: v108 :: v109 :: v110 :: v111 :: v112 :: v113 :: v114 :: v115 :: v116 :: v117 :: v118 :: v119 :: v120 :: v121 :: v122 :: v123 :: v124 :: v125 :: v126 :: v127 :: v128 :: v129 :: v130 :: v131 :: v132 :: v133 :: v134 :: v135 :: v136 :: v137 :: v138 :: v139 :: v140 :: v141 :: v142 :: v143 :: v144 :: v145 :: v146 :: v147 :: v148 :: v149 :: v150 :: v151 :: v152 :: v153 :: v154 :: v155 :: v156 :: v157 :: v158 :: v159 :: v160 :: v161 :: v162 :: v163 :: v164 :: v165 :: v166 :: v167 :: v168 :: v169 :: v170 :: v171 :: v172 :: v173 :: v174 :: v175 :: v176 :: v177 :: v178 :: v179 :: v180 :: v181 :: v182 :: v183 :: v184 :: v185 :: v186 :: v187 :: v188 :: v189 :: v190 :: v191 :: v192 :: v193 :: v194 :: v195 :: v196 :: v197 :: v198 :: v199 :: v200 :: v201 :: v202 :: v203 :: v204 :: v205 :: v206 :: v207 :: v208 :: v209 :: v210 :: v211 :: v212 :: v213 :: v214 :: v215 :: v216 :: v217 :: v218 :: v219 :: v220 :: v221 :: v222 :: v223 :: v224 :: v225 :: v226 :: v227 :: v228 :: v229 :: v230 :: v231 :: v232 :: v233 :: v234 :: v235 :: v236 :: v237 :: v238 :: v239 :: v240 :: v241 :: v242 :: v243 :: v244 :: v245 :: v246 :: v247 :: v248 :: v249 :: v250 :: v251 :: v252 :: v253 :: v254 :: v255 :: v256 :: v257 :: v258 :: v259 :: v260 :: v261 :: v262 :: v263 :: v264 :: v265 :: v266 :: v267 :: v268 :: v269 :: v270 :: v271 :: v272 :: v273 :: v274 :: v275 :: v276 :: v277 :: v278 :: v279 :: v280 :: v281 :: v282 :: v283 :: v284 :: v285 :: v286 :: v287 :: v288 :: v289 :: v290 :: v291 :: v292 :: v293 :: v294 :: v295 :: v296 :: v297 :: v298 :: v299 :: v300 :: v301 :: v302 :: v303 :: v304 :: v305 :: v306 :: v307 :: v308 :: v309 :: v310 :: v311 :: v312 :: v313 :: v314 :: v315 :: v316 :: v317 :: v318 :: v319 :: v320 :: v321 :: v322 :: v323 :: v324 :: v325 :: v326 :: v327 :: v328 :: v329 :: v330 :: v331 :: v332 :: v333 :: v334 :: v335 :: v336 :: v337 :: v338 :: v339 :: v340 :: v341 :: v342 :: v343 :: v344 :: v345 :: v346 :: v347 :: v348 :: v349 :: v350 :: v351 :: v352 :: v353 :: v354 :: v355 :: v356 :: v357 :: v358 :: v359 :: v360 :: v361 :: v362 :: v363 :: v364 :: v365 :: v366 :: v367 :: v368 :: v369 :: v370 :: v371 :: v372 :: v373 :: v374 :: v375 :: v376 :: v377 :: v378 :: v379 :: v380 :: v381 :: v382 :: v383 :: v384 :: v385 :: v386 :: v387 :: v388 :: v389 :: v390 :: v391 :: v392 :: v393 :: v394 :: v395 :: v396 :: v397 :: v398 :: v399 :: v400 :: v401 :: v402 :: v403 :: v404 :: v405 :: v406 :: v407 :: v408 :: v409 :: v410 :: v411 :: v412 :: v413 :: v414 :: v415 :: v416 :: v417 :: v418 :: v419 :: v420 :: v421 :: v422 :: v423 :: u424 :: u425 :: u426 :: u427 :: u428 :: u429 :: u430 :: u431 :: u432 :: u433 :: u434 :: u435 :: .bool false :: v437 :: v438 :: v439 :: v440 :: v441 :: v442 :: v443 :: v444 :: v445 :: v446 :: v447 :: v448 :: v449 :: v450 :: v451 :: v452 :: v453 :: v454 :: v455 :: v456 :: v457 :: v458 :: v459 :: v460 :: v461 :: v462 :: v463 :: v464 :: v465 :: v466 :: v467 :: v468 :: v469 :: v470 :: v471 :: v472 :: v473 :: v474 :: v475 :: v476 :: v477 :: v478 :: v479 :: v480 :: v481 :: v482 :: v483 :: v484 :: v485 :: v486 :: v487 :: v488 :: v489 :: v490 :: v491 :: v492 :: v493 :: v494 :: v495 :: v496 :: v497 :: v498 :: v499 :: v500 :: v501 :: v502 :: v503 :: v504 :: v505 :: v506 :: v507 :: v508 :: v509 :: v510 :: v511 :: v512 :: v513 :: v514 :: v515 :: v516 :: v517 :: v518 :: v519 :: v520 :: v521 :: v522 :: v523 :: v524 :: v525 :: v526 :: v527 :: v528 :: v529 :: v530 :: v531 :: v532 :: v533 :: v534 :: v535 :: v536 :: v537 :: []), []⟩ W') :
    Code.wp Tryz.prog (regU 40) (Exit.then K Q) ⟨List.toArray (v0 :: v1 :: v2 :: v3 :: v4 :: v5 :: v6 :: v7 :: v8 :: v9 :: v10 :: v11 :: v12 :: v13 :: v14 :: v15 :: v16 :: .string sure :: v18 :: v19 :: v20 :: v21 :: v22 :: v23 :: v24 :: v25 :: v26 :: v27 :: v28 :: v29 :: v30 :: v31 :: v32 :: v33 :: v34 :: v35 :: v36 :: v37 :: v38 :: v39 :: v40 :: v41 :: v42 :: v43 :: .string s :: v45 :: v46 :: v47 :: v48 :: .int .i64 (x : Int) :: v50 :: v51 :: v52 :: v53 :: v54 :: v55 :: v56 :: v57 :: v58 :: v59 :: v60 :: v61 :: v62 :: v63 :: v64 :: v65 :: v66 :: v67 :: v68 :: v69 :: v70 :: v71 :: v72 :: v73 :: v74 :: v75 :: v76 :: v77 :: v78 :: v79 :: v80 :: v81 :: v82 :: v83 :: v84 :: v85 :: v86 :: v87 :: v88 :: v89 :: v90 :: v91 :: v92 :: v93 :: v94 :: v95 :: v96 :: v97 :: v98 :: v99 :: v100 :: v101 :: v102 :: v103 :: v104 :: v105 :: v106 :: v107 :: v108 :: v109 :: v110 :: v111 :: v112 :: v113 :: v114 :: v115 :: v116 :: v117 :: v118 :: v119 :: v120 :: v121 :: v122 :: v123 :: v124 :: v125 :: v126 :: v127 :: v128 :: v129 :: v130 :: v131 :: v132 :: v133 :: v134 :: v135 :: v136 :: v137 :: v138 :: v139 :: v140 :: v141 :: v142 :: v143 :: v144 :: v145 :: v146 :: v147 :: v148 :: v149 :: v150 :: v151 :: v152 :: v153 :: v154 :: v155 :: v156 :: v157 :: v158 :: v159 :: v160 :: v161 :: v162 :: v163 :: v164 :: v165 :: v166 :: v167 :: v168 :: v169 :: v170 :: v171 :: v172 :: v173 :: v174 :: v175 :: v176 :: v177 :: v178 :: v179 :: v180 :: v181 :: v182 :: v183 :: v184 :: v185 :: v186 :: v187 :: v188 :: v189 :: v190 :: v191 :: v192 :: v193 :: v194 :: v195 :: v196 :: v197 :: v198 :: v199 :: v200 :: v201 :: v202 :: v203 :: v204 :: v205 :: v206 :: v207 :: v208 :: v209 :: v210 :: v211 :: v212 :: v213 :: v214 :: v215 :: v216 :: v217 :: v218 :: v219 :: v220 :: v221 :: v222 :: v223 :: v224 :: v225 :: v226 :: v227 :: v228 :: v229 :: v230 :: v231 :: v232 :: v233 :: v234 :: v235 :: v236 :: v237 :: v238 :: v239 :: v240 :: v241 :: v242 :: v243 :: v244 :: v245 :: v246 :: v247 :: v248 :: v249 :: v250 :: v251 :: v252 :: v253 :: v254 :: v255 :: v256 :: v257 :: v258 :: v259 :: v260 :: v261 :: v262 :: v263 :: v264 :: v265 :: v266 :: v267 :: v268 :: v269 :: v270 :: v271 :: v272 :: v273 :: v274 :: v275 :: v276 :: v277 :: v278 :: v279 :: v280 :: v281 :: v282 :: v283 :: v284 :: v285 :: v286 :: v287 :: v288 :: v289 :: v290 :: v291 :: v292 :: v293 :: v294 :: v295 :: v296 :: v297 :: v298 :: v299 :: v300 :: v301 :: v302 :: v303 :: v304 :: v305 :: v306 :: v307 :: v308 :: v309 :: v310 :: v311 :: v312 :: v313 :: v314 :: v315 :: v316 :: v317 :: v318 :: v319 :: v320 :: v321 :: v322 :: v323 :: v324 :: v325 :: v326 :: v327 :: v328 :: v329 :: v330 :: v331 :: v332 :: v333 :: v334 :: v335 :: v336 :: v337 :: v338 :: v339 :: v340 :: v341 :: v342 :: v343 :: v344 :: v345 :: v346 :: v347 :: v348 :: v349 :: v350 :: v351 :: v352 :: v353 :: v354 :: v355 :: v356 :: v357 :: v358 :: v359 :: v360 :: v361 :: v362 :: v363 :: v364 :: v365 :: v366 :: v367 :: v368 :: v369 :: v370 :: v371 :: v372 :: v373 :: v374 :: v375 :: v376 :: v377 :: v378 :: v379 :: v380 :: v381 :: v382 :: v383 :: v384 :: v385 :: v386 :: v387 :: v388 :: v389 :: v390 :: v391 :: v392 :: v393 :: v394 :: v395 :: v396 :: v397 :: v398 :: v399 :: v400 :: v401 :: v402 :: v403 :: v404 :: v405 :: v406 :: v407 :: v408 :: v409 :: v410 :: v411 :: v412 :: v413 :: v414 :: v415 :: v416 :: v417 :: v418 :: v419 :: v420 :: v421 :: v422 :: v423 :: v424 :: v425 :: v426 :: v427 :: v428 :: v429 :: v430 :: v431 :: v432 :: v433 :: v434 :: v435 :: v436 :: v437 :: v438 :: v439 :: v440 :: v441 :: v442 :: v443 :: v444 :: v445 :: v446 :: v447 :: v448 :: v449 :: v450 :: v451 :: v452 :: v453 :: v454 :: v455 :: v456 :: v457 :: v458 :: v459 :: v460 :: v461 :: v462 :: v463 :: v464 :: v465 :: v466 :: v467 :: v468 :: v469 :: v470 :: v471 :: v472 :: v473 :: v474 :: v475 :: v476 :: v477 :: v478 :: v479 :: v480 :: v481 :: v482 :: v483 :: v484 :: v485 :: v486 :: v487 :: v488 :: v489 :: v490 :: v491 :: v492 :: v493 :: v494 :: v495 :: v496 :: v497 :: v498 :: v499 :: v500 :: v501 :: v502 :: v503 :: v504 :: v505 :: v506 :: v507 :: v508 :: v509 :: v510 :: v511 :: v512 :: v513 :: v514 :: v515 :: v516 :: v517 :: v518 :: v519 :: v520 :: v521 :: v522 :: v523 :: v524 :: v525 :: v526 :: v527 :: v528 :: v529 :: v530 :: v531 :: v532 :: v533 :: v534 :: v535 :: v536 :: v537 :: []), []⟩ W := by
  have S := amk (Mi_below hm (bd_ (Below.refl _ _))); clear hm
  have p0 : (0 ≤ (x : Int)) = True := eq_true (Int.natCast_nonneg x)
  have p1 : ((x : Int) < (s.size : Int)) = True := eq_true (Int.ofNat_lt.mpr hx); have p2 : (x < s.size) = True := eq_true hx
  have p3 : ((x : Int) < (sure.size : Int)) = True := eq_true (Int.ofNat_lt.mpr hz); have p4 : (x < sure.size) = True := eq_true hz
  have b1 : ∀ h : x < s.size, ((s[x]'h).toNat : Int) = bt s (x : Int) := fun h => bt_nat h
  have b2 : ∀ h : x < sure.size, ((sure[x]'h).toNat : Int) = bt sure (x : Int) := fun h => bt_nat h
  conv => arg 2; whnf
  refine start_ (n := 13) (S := fun _ => True) (ds := []) (bA 13 0) (by kernel_rfl) rfl (by kernel_rfl) trivial (fun hHeld => ?_); refine with_tabW laws_FnCodesGuessedOfAll.tab40 laws_FnCodesGuessedOfAll.bits40 (fun HT_ HW_ => ?_)
  generalize World.drew _ = W at S hHeld ⊢
  by_cases hc : bt sure (x : Int) = 63
  · have c1 : (bt sure (x : Int) != 63) = false := by simp [hc]
    clear hx hz hq hc
    refine pU_ HT_ 0 (some 424) (bP 13 1) ?_ (hQ := by intro c a w2 h; exact hQ c _ a.tmps a.defers w2 h)
    refine pU_ HT_ 1 (some 425) (bP 13 2) ?_ (hQ := by intro c a w2 h; exact hQ c _ a.tmps a.defers w2 h)
    refine pU_ HT_ 2 (some 426) (bP 13 3) ?_ (hQ := by intro c a w2 h; exact hQ c _ a.tmps a.defers w2 h)
    refine pU_ HT_ 3 (some 427) (bP 13 4) ?_ (hQ := by intro c a w2 h; exact hQ c _ a.tmps a.defers w2 h)
    refine pU_ HT_ 4 (some 428) (bP 13 5) ?_ (hQ := by intro c a w2 h; exact hQ c _ a.tmps a.defers w2 h)
    refine pZ_ HT_ 5 (some 429) (bP 13 6) ?_ (hQ := by intro c a w2 h; exact hQ c _ a.tmps a.defers w2 h)
    refine pZ_ HT_ 6 (some 430) (bP 13 7) ?_ (hQ := by intro c a w2 h; exact hQ c _ a.tmps a.defers w2 h)
    refine pZ_ HT_ 7 (some 431) (bP 13 8) ?_ (hQ := by intro c a w2 h; exact hQ c _ a.tmps a.defers w2 h)
    refine pZ_ HT_ 8 (some 432) (bP 13 9) ?_ (hQ := by intro c a w2 h; exact hQ c _ a.tmps a.defers w2 h)
    refine pZ_ HT_ 9 (some 433) (bP 13 10) ?_ (hQ := by intro c a w2 h; exact hQ c _ a.tmps a.defers w2 h)
    refine pZ_ HT_ 10 (some 434) (bP 13 11) ?_ (hQ := by intro c a w2 h; exact hQ c _ a.tmps a.defers w2 h)
    refine pZ_ HT_ 11 (some 435) (bP 13 12) ?_ (hQ := by intro c a w2 h; exact hQ c _ a.tmps a.defers w2 h)
    refine pU_ HT_ 12 (some 436) (bP 13 13) ?_ (hQ := by intro c a w2 h; exact hQ c _ a.tmps a.defers w2 h)
    refine done_ (done_of HT_.out (by kernel_rfl)) ?_; exact hrest _ S.out
  · have c1 : (bt sure (x : Int) != 63) = true := by simp [hc]
    have c2 : (bt sure (x : Int) != bt s (x : Int)) = false := by simp [hq.resolve_left hc]
    clear hx hz hq hc
    refine pU_ HT_ 0 (some 424) (bP 13 1) ?_ (hQ := by intro c a w2 h; exact hQ c _ a.tmps a.defers w2 h)
    refine pU_ HT_ 1 (some 425) (bP 13 2) ?_ (hQ := by intro c a w2 h; exact hQ c _ a.tmps a.defers w2 h)
    refine pU_ HT_ 2 (some 426) (bP 13 3) ?_ (hQ := by intro c a w2 h; exact hQ c _ a.tmps a.defers w2 h)
    refine pU_ HT_ 3 (some 427) (bP 13 4) ?_ (hQ := by intro c a w2 h; exact hQ c _ a.tmps a.defers w2 h)
    refine pU_ HT_ 4 (some 428) (bP 13 5) ?_ (hQ := by intro c a w2 h; exact hQ c _ a.tmps a.defers w2 h)
    refine pU_ HT_ 5 (some 429) (bP 13 6) ?_ (hQ := by intro c a w2 h; exact hQ c _ a.tmps a.defers w2 h)
    refine pU_ HT_ 6 (some 430) (bP 13 7) ?_ (hQ := by intro c a w2 h; exact hQ c _ a.tmps a.defers w2 h)
    refine pU_ HT_ 7 (some 431) (bP 13 8) ?_ (hQ := by intro c a w2 h; exact hQ c _ a.tmps a.defers w2 h)
    refine pU_ HT_ 8 (some 432) (bP 13 9) ?_ (hQ := by intro c a w2 h; exact hQ c _ a.tmps a.defers w2 h)
    refine pU_ HT_ 9 (some 433) (bP 13 10) ?_ (hQ := by intro c a w2 h; exact hQ c _ a.tmps a.defers w2 h)
    refine pU_ HT_ 10 (some 434) (bP 13 11) ?_ (hQ := by intro c a w2 h; exact hQ c _ a.tmps a.defers w2 h)
    refine pU_ HT_ 11 (some 435) (bP 13 12) ?_ (hQ := by intro c a w2 h; exact hQ c _ a.tmps a.defers w2 h)
    refine pU_ HT_ 12 (some 436) (bP 13 13) ?_ (hQ := by intro c a w2 h; exact hQ c _ a.tmps a.defers w2 h)
    refine done_ (done_of HT_.out (by kernel_rfl)) ?_; exact hrest _ S.out
/-! laws.FnCodesGuessedOfAll, a part of its walk: printed by gengu.py. -/
def laws_FnCodesGuessedOfAll.T48 : Bool × List (List Nat × List Nat) := (true, [([], []), ([0], [0]), ([1], [1]), ([2], [2]), ([3, 2], [2, 3]), ([2, 4], [2, 4]), ([5, 2], [5]), ([6], [6]), ([6], [6]), ([7, 8, 6, 6], [6, 7, 8]), ([6], [6]), ([6], [6]), ([10, 11, 6], [6, 10, 11]), ([9, 12, 6], [6, 9, 12]), ([6, 13], [6, 13]), ([14, 9], [14]), ([15], [15]), ([15], [15]), ([17, 15], [15, 17]), ([16, 18, 15], [15, 16, 18]), ([19, 15], [15, 19]), ([15], [15]), ([15], [15]), ([21, 22, 15], [15, 21, 22]), ([23, 15], [15, 23]), ([20, 24, 15], [15, 20, 24]), ([15, 25], [15, 25]), ([26, 15], [26]), ([27], [27]), ([28, 27], [27, 28]), ([27, 29], [27, 29]), ([30, 27], [30]), ([31], [31]), ([31], [31]), ([33, 31], [31, 33]), ([34, 31], [31, 34]), ([32, 35, 31], [31, 32, 35]), ([31, 36], [31, 36])])
def laws_FnCodesGuessedOfAll.B48 : List Nat := [0, 1, 3, 7, 15, 31, 63, 127, 127, 511, 127, 127, 3199, 8191, 16383, 32767, 65535, 65535, 196607, 524287, 1048575, 65535, 65535, 6356991, 14745599, 33554431, 67108863, 134217727, 268435455, 536870911, 1073741823, 2147483647, 4294967295, 4294967295, 12884901887, 30064771071, 68719476735, 137438953471]
theorem laws_FnCodesGuessedOfAll.tab48 : rtab .any (opsOf Tryz.f3 48) = laws_FnCodesGuessedOfAll.T48 := by kernel_rfl
theorem laws_FnCodesGuessedOfAll.bits48 : waitsOk laws_FnCodesGuessedOfAll.T48.2 laws_FnCodesGuessedOfAll.B48 = true := by kernel_rfl
set_option maxHeartbeats 16000000 in
set_option maxRecDepth 100000 in
theorem KUG {w : World} {v0 v1 v3 v4 v5 v6 v7 v8 v10 v11 v12 v13 v14 v15 v16 v17 v18 v19 v20 v21 v22 v23 v24 v26 v27 v28 v30 v31 v32 v34 v35 v36 v37 v38 v39 v40 v41 v42 v43 v44 v45 v46 v47 v48 v49 v51 v55 v56 v57 v58 v59 v60 v61 v62 v63 v64 v65 v66 v67 v68 v69 v70 v71 v72 v73 v74 v75 v76 v77 v78 v79 v80 v81 v82 v83 v84 v85 v86 v87 v88 v89 v90 v91 v92 v93 v94 v95 v96 v97 v98 v99 v100 v101 v102 v103 v104 v105 v106 v107 v108 v109 v110 v111 v112 v113 v114 v115 v116 v117 v118 v119 v120 v121 v122 v123 v124 v125 v126 v127 v128 v129 v130 v131 v132 v133 v134 v135 v136 v137 v138 v139 v140 v141 v142 v143 v144 v145 v146 v147 v148 v149 v150 v151 v152 v153 v154 v155 v156 v157 v158 v159 v160 v161 v162 v163 v164 v165 v166 v167 v168 v169 v170 v171 v172 v173 v174 v175 v176 v177 v178 v179 v180 v181 v182 v183 v184 v185 v186 v187 v188 v189 v190 v191 v192 v193 v194 v195 v196 v197 v198 v199 v200 v201 v202 v203 v204 v205 v206 v207 v208 v209 v210 v211 v212 v213 v214 v215 v216 v217 v218 v219 v220 v221 v222 v223 v224 v225 v226 v227 v228 v229 v230 v231 v232 v233 v234 v235 v236 v237 v238 v239 v240 v241 v242 v243 v244 v245 v246 v247 v248 v249 v250 v251 v252 v253 v254 v255 v256 v257 v258 v259 v260 v261 v262 v263 v264 v265 v266 v267 v268 v269 v270 v271 v272 v273 v274 v275 v276 v277 v278 v279 v280 v281 v282 v283 v284 v285 v286 v287 v288 v289 v290 v291 v292 v293 v294 v295 v296 v297 v298 v299 v300 v301 v302 v303 v304 v305 v306 v307 v308 v309 v310 v311 v312 v313 v314 v315 v316 v317 v318 v319 v320 v321 v322 v323 v324 v325 v326 v327 v328 v329 v330 v331 v332 v333 v334 v335 v336 v337 v338 v339 v340 v341 v342 v343 v344 v345 v346 v347 v348 v349 v350 v351 v352 v353 v354 v355 v356 v357 v358 v359 v360 v361 v362 v363 v364 v365 v366 v367 v368 v369 v370 v371 v372 v373 v374 v375 v376 v377 v378 v379 v380 v381 v382 v383 v384 v385 v386 v387 v388 v389 v390 v391 v392 v393 v394 v395 v396 v397 v398 v399 v400 v401 v402 v403 v404 v405 v406 v407 v408 v409 v410 v411 v412 v413 v414 v415 v416 v417 v418 v419 v420 v421 v422 v423 v424 v425 v426 v427 v428 v429 v430 v431 v432 v433 v434 v435 v436 v437 v438 v439 v440 v441 v442 v443 v444 v445 v446 v447 v448 v449 v450 v451 v452 v453 v454 v455 v456 v457 v458 v459 v460 v461 v462 v463 v464 v465 v466 v467 v468 v469 v470 v471 v472 v473 v474 v475 v476 v477 v478 v479 v480 v481 v482 v483 v484 v485 v486 v487 v488 v489 v490 v491 v492 v493 v494 v495 v496 v497 v498 v499 v500 v501 v502 v503 v504 v505 v506 v507 v508 v509 v510 v511 v512 v513 v514 v515 v516 v517 v518 v519 v520 v521 v522 v523 v524 v525 v526 v527 v528 v529 v530 v531 v532 v533 v534 v535 v536 v537 : Value} (K : Act → World → Prop) (Q : Exit → Act → World → Prop) (hQ : ∀ c t t' d w', Q (.panic c) ⟨t, d⟩ w' → Q (.panic c) ⟨t', d⟩ w')
    (k : Nat) (P D : Int) (L : List S45) (A : Option Addr) (c : Nat) (gp i : Nat) (needless left : List Int) (A3 A5 : Option Addr) (c3 c5 : Nat) (count best still : Int) (bs : List (Nat × Obj)) (rs : List Rw) (W : World)
    (hm : Mg w bs rs W) (hp : (gp, pzG P D A L.length c) ∈ bs) (r3 : rwI A3 needless ∈ rs) (i3 : needless.length ≤ c3) (r5 : rwI A5 left ∈ rs) (hi : i < L.length) (h6 : L.length ≤ 6) (f5 : left.length = L.length + 1) (hb0 : 0 ≤ best) (hb1 : best < L.length) (hle : rd left ((i : Int) + 1) ≤ rd left (i : Nat)) (e1 : laws_eHas.f k needless (i : Nat) = some (still == count))
    (hrest : ∀ {u455 u456 u457 u458 u459 u460 u461 u462 u463 u464 u465 u466 u467 u468 u469 u470 u471 u472 u473 u474 u475 u476 u477 u478 u479 u480 u481 u482 u483 u484 u485 u486 u487 u488 u489 u490 u491 : Value} (W' : World), Mg w bs rs W' → K ⟨List.toArray (v0 :: v1 :: .pointer (some ⟨gp, 0, none⟩) :: v3 :: v4 :: v5 :: v6 :: v7 :: v8 :: .int .i64 count :: v10 :: v11 :: v12 :: v13 :: v14 :: v15 :: v16 :: v17 :: v18 :: v19 :: v20 :: v21 :: v22 :: v23 :: v24 :: .slice A3 needless.length c3 :: v26 :: v27 :: v28 :: .slice A5 left.length c5 :: v30 :: v31 :: v32 :: .int .i64 best :: v34 :: v35 :: v36 :: v37 :: v38 :: v39 :: v40 :: v41 :: v42 :: v43 :: v44 :: v45 :: v46 :: v47 :: v48 :: v49 :: .int .i64 (i : Int) :: v51 :: .bool true :: .int .i64 still :: .bool true :: v55 :: v56 :: v57 :: v58 :: v59 :: v60 :: v61 :: v62 :: v63 :: v64 :: v65 :: v66 :: v67 :: v68 :: v69 :: v70 :: v71 :: v72 :: v73 :: v74 :: v75 :: v76 :: v77 :: v78 :: v79 :: v80 :: v81 :: v82 :: v83 :: v84 :: v85 :: v86 :: v87 :: v88 :: v89 :: v90 :: v91 :: v92 :: v93 :: v94 :: v95 :: v96 :: v97 :: v98 :: v99 :: v100 :: v101 :: v102 :: v103 :: v104 :: v105 :: v106 :: v107 :: v108 :: v109 :: v110 :: v111 :: v112 :: v113 :: v114 :: v115 :: v116 :: v117 :: v118 :: v119 :: v120 :: v121 :: v122 :: v123 :: v124 :: v125 :: v126 :: v127 :: v128 :: v129 :: v130 :: v131 :: v132 :: v133 :: v134 :: v135 :: v136 :: v137 :: v138 :: v139 :: v140 :: v141 :: v142 :: v143 :: v144 :: v145 :: v146 :: v147 :: v148 :: v149 :: v150 :: v151 :: v152 :: v153 :: v154 :: v155 :: v156 :: v157 :: v158 :: v159 :: v160 :: v161 :: v162 :: v163 :: v164 :: v165 :: v166 :: v167 :: v168 :: v169 :: v170 :: v171 :: v172 :: v173 :: v174 :: v175 :: v176 :: v177 :: v178 :: v179 :: v180 :: v181 :: v182 :: v183 :: v184 :: v185 :: v186 :: v187 :: v188 :: v189 :: v190 :: v191 :: v192 :: v193 :: v194 :: v195 :: v196 :: v197 :: v198 :: v199 :: v200 :: v201 :: v202 :: v203 :: v204 :: v205 :: v206 :: v207 :: v208 :: v209 :: v210 :: v211 :: v212 :: v213 :: v214 :: v215 :: v216 :: v217 :: v218 :: v219 :: v220 :: v221 :: v222 :: v223 :: v224 :: v225 :: v226 :: v227 :: v228 :: v229 :: v230 :: v231 :: v232 :: v233 :: v234 :: v235 :: v236 :: v237 :: v238 :: v239 :: v240 :: v241 :: v242 :: v243 :: v244 :: v245 :: v246 :: v247 :: v248 :: v249 :: v250 :: v251 :: v252 :: v253 :: v254 :: v255 :: v256 :: v257 :: v258 :: v259 :: v260 :: v261 :: v262 :: v263 :: v264 :: v265 :: v266 :: v267 :: v268 :: v269 :: v270 :: v271 :: v272 :: v273 :: v274 :: v275 :: v276 :: v277 :: v278 :: v279 :: v280 :: v281 :: v282 :: v283 :: v284 :: v285 :: v286 :: v287 :: v288 :: v289 :: v290 :: v291 :: v292 :: v293 :: v294 :: v295 :: v296 :: v297 :: v298 :: v299 :: v300 :: v301 :: v302 :: v303 :: v304 :: v305 :: v306 :: v307 :: v308 :: v309 :: v310 :: v311 :: v312 :: v313 :: v314 :: v315 :: v316 :: v317 :: v318 :: v319 :: v320 :: v321 :: v322 :: v323 :: v324 :: v325 :: v326 :: v327 :: v328 :: v329 :: v330 :: v331 :: v332 :: v333 :: v334 :: v335 :: v336 :: v337 :: v338 :: v339 :: v340 :: v341 :: v342 :: v343 :: v344 :: v345 :: v346 :: v347 :: v348 :: v349 :: v350 :: v351 :: v352 :: v353 :: v354 :: v355 :: v356 :: v357 :: v358 :: v359 :: v360 :: v361 :: v362 :: v363 :: v364 :: v365 :: v366 :: v367 :: v368 :: v369 :: v370 :: v371 :: v372 :: v373 :: v374 :: v375 :: v376 :: v377 :: v378 :: v379 :: v380 :: v381 :: v382 :: v383 :: v384 :: v385 :: v386 :: v387 :: v388 :: v389 :: v390 :: v391 :: v392 :: v393 :: v394 :: v395 :: v396 :: v397 :: v398 :: v399 :: v400 :: v401 :: v402 :: v403 :: v404 :: v405 :: v406 :: v407 :: v408 :: v409 :: v410 :: v411 :: v412 :: v413 :: v414 :: v415 :: v416 :: v417 :: v418 :: v419 :: v420 :: v421 :: v422 :: v423 :: v424 :: v425 :: v426 :: v427 :: v428 :: v429 :: v430 :: v431 :: v432 :: v433 :: v434 :: v435 :: v436 :: v437 :: v438 :: v439 :: v440 :: v441 :: v442 :: v443 :: v444 :: v445 :: v446 :: v447 :: v448 :: v449 :: v450 :: v451 :: v452 :: v453 :: v454 :: u455 :: u456 :: u457 :: u458 :: u459 :: u460 :: u461 :: u462 :: u463 :: u464 :: u465 :: u466 :: u467 :: u468 :: u469 :: u470 :: u471 :: u472 :: u473 :: u474 :: u475 :: u476 :: u477 :: u478 :: u479 :: u480 :: u481 :: u482 :: u483 :: u484 :: u485 :: u486 :: u487 :: u488 :: u489 :: u490 :: u491 :: .bool false :: v493 :: v494 :: v495 :: v496 :: v497 :: v498 :: v499 :: v500 :: v501 :: v502 :: v503 :: v504 :: v505 :: v506 :: v507 :: v508 :: v509 :: v510 :: v511 :: v512 :: v513 :: v514 :: v515 :: v516 :: v517 :: v518 :: v519 :: v520 :: v521 :: v522 :: v523 :: v524 :: v525 :: v526 :: v527 :: v528 :: v529 :: v530 :: v531 :: v532 :: v533 :: v534 :: v535 :: v536 :: v537 :: []), []⟩ W') :
    Code.wp Tryz.prog (regU 48) (Exit.then K Q) ⟨List.toArray (v0 :: v1 :: .pointer (some ⟨gp, 0, none⟩) :: v3 :: v4 :: v5 :: v6 :: v7 :: v8 :: .int .i64 count :: v10 :: v11 :: v12 :: v13 :: v14 :: v15 :: v16 :: v17 :: v18 :: v19 :: v20 :: v21 :: v22 :: v23 :: v24 :: .slice A3 needless.length c3 :: v26 :: v27 :: v28 :: .slice A5 left.length c5 :: v30 :: v31 :: v32 :: .int .i64 best :: v34 :: v35 :: v36 :: v37 :: v38 :: v39 :: v40 :: v41 :: v42 :: v43 :: v44 :: v45 :: v46 :: v47 :: v48 :: v49 :: .int .i64 (i : Int) :: v51 :: .bool true :: .int .i64 still :: .bool true :: v55 :: v56 :: v57 :: v58 :: v59 :: v60 :: v61 :: v62 :: v63 :: v64 :: v65 :: v66 :: v67 :: v68 :: v69 :: v70 :: v71 :: v72 :: v73 :: v74 :: v75 :: v76 :: v77 :: v78 :: v79 :: v80 :: v81 :: v82 :: v83 :: v84 :: v85 :: v86 :: v87 :: v88 :: v89 :: v90 :: v91 :: v92 :: v93 :: v94 :: v95 :: v96 :: v97 :: v98 :: v99 :: v100 :: v101 :: v102 :: v103 :: v104 :: v105 :: v106 :: v107 :: v108 :: v109 :: v110 :: v111 :: v112 :: v113 :: v114 :: v115 :: v116 :: v117 :: v118 :: v119 :: v120 :: v121 :: v122 :: v123 :: v124 :: v125 :: v126 :: v127 :: v128 :: v129 :: v130 :: v131 :: v132 :: v133 :: v134 :: v135 :: v136 :: v137 :: v138 :: v139 :: v140 :: v141 :: v142 :: v143 :: v144 :: v145 :: v146 :: v147 :: v148 :: v149 :: v150 :: v151 :: v152 :: v153 :: v154 :: v155 :: v156 :: v157 :: v158 :: v159 :: v160 :: v161 :: v162 :: v163 :: v164 :: v165 :: v166 :: v167 :: v168 :: v169 :: v170 :: v171 :: v172 :: v173 :: v174 :: v175 :: v176 :: v177 :: v178 :: v179 :: v180 :: v181 :: v182 :: v183 :: v184 :: v185 :: v186 :: v187 :: v188 :: v189 :: v190 :: v191 :: v192 :: v193 :: v194 :: v195 :: v196 :: v197 :: v198 :: v199 :: v200 :: v201 :: v202 :: v203 :: v204 :: v205 :: v206 :: v207 :: v208 :: v209 :: v210 :: v211 :: v212 :: v213 :: v214 :: v215 :: v216 :: v217 :: v218 :: v219 :: v220 :: v221 :: v222 :: v223 :: v224 :: v225 :: v226 :: v227 :: v228 :: v229 :: v230 :: v231 :: v232 :: v233 :: v234 :: v235 :: v236 :: v237 :: v238 :: v239 :: v240 :: v241 :: v242 :: v243 :: v244 :: v245 :: v246 :: v247 :: v248 :: v249 :: v250 :: v251 :: v252 :: v253 :: v254 :: v255 :: v256 :: v257 :: v258 :: v259 :: v260 :: v261 :: v262 :: v263 :: v264 :: v265 :: v266 :: v267 :: v268 :: v269 :: v270 :: v271 :: v272 :: v273 :: v274 :: v275 :: v276 :: v277 :: v278 :: v279 :: v280 :: v281 :: v282 :: v283 :: v284 :: v285 :: v286 :: v287 :: v288 :: v289 :: v290 :: v291 :: v292 :: v293 :: v294 :: v295 :: v296 :: v297 :: v298 :: v299 :: v300 :: v301 :: v302 :: v303 :: v304 :: v305 :: v306 :: v307 :: v308 :: v309 :: v310 :: v311 :: v312 :: v313 :: v314 :: v315 :: v316 :: v317 :: v318 :: v319 :: v320 :: v321 :: v322 :: v323 :: v324 :: v325 :: v326 :: v327 :: v328 :: v329 :: v330 :: v331 :: v332 :: v333 :: v334 :: v335 :: v336 :: v337 :: v338 :: v339 :: v340 :: v341 :: v342 :: v343 :: v344 :: v345 :: v346 :: v347 :: v348 :: v349 :: v350 :: v351 :: v352 :: v353 :: v354 :: v355 :: v356 :: v357 :: v358 :: v359 :: v360 :: v361 :: v362 :: v363 :: v364 :: v365 :: v366 :: v367 :: v368 :: v369 :: v370 :: v371 :: v372 :: v373 :: v374 :: v375 :: v376 :: v377 :: v378 :: v379 :: v380 :: v381 :: v382 :: v383 :: v384 :: v385 :: v386 :: v387 :: v388 :: v389 :: v390 :: v391 :: v392 :: v393 :: v394 :: v395 :: v396 :: v397 :: v398 :: v399 :: v400 :: v401 :: v402 :: v403 :: v404 :: v405 :: v406 :: v407 :: v408 :: v409 :: v410 :: v411 :: v412 :: v413 :: v414 :: v415 :: v416 :: v417 :: v418 :: v419 :: v420 :: v421 :: v422 :: v423 :: v424 :: v425 :: v426 :: v427 :: v428 :: v429 :: v430 :: v431 :: v432 :: v433 :: v434 :: v435 :: v436 :: v437 :: v438 :: v439 :: v440 :: v441 :: v442 :: v443 :: v444 :: v445 :: v446 :: v447 :: v448 :: v449 :: v450 :: v451 :: v452 :: v453 :: v454 :: v455 :: v456 :: v457 :: v458 :: v459 :: v460 :: v461 :: v462 :: v463 :: v464 :: v465 :: v466 :: v467 :: v468 :: v469 :: v470 :: v471 :: v472 :: v473 :: v474 :: v475 :: v476 :: v477 :: v478 :: v479 :: v480 :: v481 :: v482 :: v483 :: v484 :: v485 :: v486 :: v487 :: v488 :: v489 :: v490 :: v491 :: v492 :: v493 :: v494 :: v495 :: v496 :: v497 :: v498 :: v499 :: v500 :: v501 :: v502 :: v503 :: v504 :: v505 :: v506 :: v507 :: v508 :: v509 :: v510 :: v511 :: v512 :: v513 :: v514 :: v515 :: v516 :: v517 :: v518 :: v519 :: v520 :: v521 :: v522 :: v523 :: v524 :: v525 :: v526 :: v527 :: v528 :: v529 :: v530 :: v531 :: v532 :: v533 :: v534 :: v535 :: v536 :: v537 :: []), []⟩ W := by
  have hu26 := Tryz.underlying26
  have hu23 := Tryz.underlying23
  have hu45 := Tryz.underlying45
  have hu24 := Tryz.underlying24
  have hu27 := Tryz.underlying27
  have hu36 := Tryz.underlying36
  have hbb : ∀ b : Bool, (b != b) = false := fun b => by cases b <;> rfl
  have S := amk (Mg_below hm (bd_ (Below.refl _ _)))
  have p0 : 0 ≤ ((i : Nat) : Int) := Int.natCast_nonneg i
  have p1 : ((i : Nat) : Int) < (left.length : Int) := by omega
  have p2 : 0 ≤ ((i : Nat) : Int) + 1 := by omega
  have p3 : ((i : Nat) : Int) + 1 < (left.length : Int) := by omega
  obtain ⟨ad5, e5, _⟩ := Kd.at_int (rI S.out r5) (i : Int) p0 p1; cases e5
  have HP := amk hp; have R3 := amk r3; have I3 := amk i3; have R5 := amk r5; have E1 := amk e1; clear hp r3 i3 r5 e1; clear hm
  have hc : ∀ W', Mg w bs rs W' → (W'.cell? ⟨gp, 2, none⟩ = some (.slice A L.length c) ∧ W'.cell? ⟨ad5.block, ad5.off + (i + 1), none⟩ = some (.int .i64 (rd left ((i : Int) + 1))) ∧ W'.cell? (ad5.add i) = some (.int .i64 (rd left (i : Nat)))) := by
    intro W' h
    obtain ⟨a1, q1, y1⟩ := Kd.at_int (rI h R5.out) ((i : Int) + 1) p2 p3; cases q1
    obtain ⟨a2, q2, y2⟩ := Kd.at_int (rI h R5.out) (i : Int) p0 p1; cases q2
    rw [show ((i : Int) + 1).toNat = i + 1 by omega, show ad5.add (i + 1) = ⟨ad5.block, ad5.off + (i + 1), none⟩ by unfold Addr.add; split <;> simp_all] at y1; rw [Int.toNat_natCast] at y2
    exact ⟨(gx3 h HP.out).2.2, y1, y2⟩
  have HCc := amk hc; clear hc
  have hw1 : wrap64 ((i : Int) + 1) = (i : Int) + 1 := w64 (by omega) (by omega)
  have ht1 : ((i : Int) + 1).toNat = i + 1 := by omega
  have dg : decide (rd left (i : Nat) < rd left ((i : Int) + 1)) = false := decide_eq_false (by omega)
  have dg2 : decide (rd left ((i : Int) + 1) > rd left (i : Nat)) = false := decide_eq_false (by omega)
  have d0 : decide (best < 0) = false := decide_eq_false (by omega)
  have d1 : decide (best ≥ (L.length : Int)) = false := decide_eq_false (by omega)
  have d2 : decide ((L.length : Int) ≤ best) = false := decide_eq_false (by omega)
  have n0 : (i < left.length) = True := eq_true (by omega)
  have n1 : (i + 1 < left.length) = True := eq_true (by omega)
  replace p0 := eq_true p0; replace p1 := eq_true p1; replace p2 := eq_true p2; replace p3 := eq_true p3
  clear hi h6 f5 hb0 hb1 hle
  conv => arg 2; whnf
  refine start_ (n := 38) (S := fun w' => w'.cell? ⟨gp, 2, none⟩ = some (.slice A L.length c) ∧ w'.cell? ⟨ad5.block, ad5.off + (i + 1), none⟩ = some (.int .i64 (rd left ((i : Int) + 1))) ∧ w'.cell? (ad5.add i) = some (.int .i64 (rd left (i : Nat)))) (ds := []) (bA 38 0) (by kernel_rfl) rfl (by kernel_rfl) (HCc.out _ S.out) (fun hHeld => ?_); refine with_tabW laws_FnCodesGuessedOfAll.tab48 laws_FnCodesGuessedOfAll.bits48 (fun HT_ HW_ => ?_)
  generalize World.drew _ = W at S hHeld ⊢
  refine pU_ HT_ 0 (some 455) (bP 38 1) ?_ (hQ := by intro c a w2 h; exact hQ c _ a.tmps a.defers w2 h)
  refine pU_ HT_ 1 (some 456) (bP 38 2) ?_ (hQ := by intro c a w2 h; exact hQ c _ a.tmps a.defers w2 h)
  refine pU_ HT_ 2 (some 457) (bP 38 3) ?_ (hQ := by intro c a w2 h; exact hQ c _ a.tmps a.defers w2 h)
  refine pU_ HT_ 3 (some 458) (bP 38 4) ?_ (hQ := by intro c a w2 h; exact hQ c _ a.tmps a.defers w2 h)
  refine pU_ HT_ 4 (some 459) (bP 38 5) ?_ (hQ := by intro c a w2 h; exact hQ c _ a.tmps a.defers w2 h)
  refine pU_ HT_ 5 (some 460) (bP 38 6) ?_ (hQ := by intro c a w2 h; exact hQ c _ a.tmps a.defers w2 h)
  refine pU_ HT_ 6 (some 461) (bP 38 7) ?_ (hQ := by intro c a w2 h; exact hQ c _ a.tmps a.defers w2 h)
  refine pU_ HT_ 7 (some 462) (bP 38 8) ?_ (hQ := by intro c a w2 h; exact hQ c _ a.tmps a.defers w2 h)
  refine pU_ HT_ 8 (some 463) (bP 38 9) ?_ (hQ := by intro c a w2 h; exact hQ c _ a.tmps a.defers w2 h)
  refine pU_ HT_ 10 (some 465) (bA 38 1535) ?_ (hQ := by intro c a w2 h; exact hQ c _ a.tmps a.defers w2 h)
  refine pU_ HT_ 11 (some 466) (bA 38 3583) ?_ (hQ := by intro c a w2 h; exact hQ c _ a.tmps a.defers w2 h)
  refine pU_ HT_ 12 (some 467) (bA 38 7679) ?_ (hQ := by intro c a w2 h; exact hQ c _ a.tmps a.defers w2 h)
  refine oN_ HT_ 9 (some 464) (bP 38 13) (fun K hK => ?_); refine gs_ Tryz.func30 #[.slice A3 needless.length c3, .int .i64 (i : Int)] ?_; refine Calls.mono (laws_eHas.calls k _ _ needless (i : Int) (still == count) _ (rI S.out R3.out) I3.out E1.out) ?_; rintro e wx ⟨rfl, hb⟩; refine ⟨_, rfl, ?_⟩; have hb := hb.below; have nS := amk (Mg_below S.out hb); clear S; have S := nS; clear nS hb;
  refine hK.out _ _ (HCc.out _ S.out) (fun hHeld => ?_); clear hK K; refine nN_ (some 464) ?_
  refine pU_ HT_ 13 (some 468) (bP 38 14) ?_ (hQ := by intro c a w2 h; exact hQ c _ a.tmps a.defers w2 h)
  refine pU_ HT_ 14 (some 469) (bP 38 15) ?_ (hQ := by intro c a w2 h; exact hQ c _ a.tmps a.defers w2 h)
  refine pU_ HT_ 15 (some 470) (bP 38 16) ?_ (hQ := by intro c a w2 h; exact hQ c _ a.tmps a.defers w2 h)
  refine pU_ HT_ 16 (some 471) (bP 38 17) ?_ (hQ := by intro c a w2 h; exact hQ c _ a.tmps a.defers w2 h)
  refine pU_ HT_ 17 (some 472) (bP 38 18) ?_ (hQ := by intro c a w2 h; exact hQ c _ a.tmps a.defers w2 h)
  refine pU_ HT_ 18 (some 473) (bP 38 19) ?_ (hQ := by intro c a w2 h; exact hQ c _ a.tmps a.defers w2 h)
  refine pU_ HT_ 19 (some 474) (bP 38 20) ?_ (hQ := by intro c a w2 h; exact hQ c _ a.tmps a.defers w2 h)
  refine tK_ HT_ HW_ hHeld 20 (some 475) (bP 38 21) ?_ (hQ := by intro c a w2 h; exact hQ c _ a.tmps a.defers w2 h)
  refine pU_ HT_ 21 (some 476) (bP 38 22) ?_ (hQ := by intro c a w2 h; exact hQ c _ a.tmps a.defers w2 h)
  refine pU_ HT_ 22 (some 477) (bP 38 23) ?_ (hQ := by intro c a w2 h; exact hQ c _ a.tmps a.defers w2 h)
  refine pU_ HT_ 23 (some 478) (bP 38 24) ?_ (hQ := by intro c a w2 h; exact hQ c _ a.tmps a.defers w2 h)
  refine tK_ HT_ HW_ hHeld 24 (some 479) (bP 38 25) ?_ (hQ := by intro c a w2 h; exact hQ c _ a.tmps a.defers w2 h)
  refine pU_ HT_ 25 (some 480) (bP 38 26) ?_ (hQ := by intro c a w2 h; exact hQ c _ a.tmps a.defers w2 h)
  refine pU_ HT_ 26 (some 481) (bP 38 27) ?_ (hQ := by intro c a w2 h; exact hQ c _ a.tmps a.defers w2 h)
  refine pU_ HT_ 27 (some 482) (bP 38 28) ?_ (hQ := by intro c a w2 h; exact hQ c _ a.tmps a.defers w2 h)
  refine pU_ HT_ 28 (some 483) (bP 38 29) ?_ (hQ := by intro c a w2 h; exact hQ c _ a.tmps a.defers w2 h)
  refine pU_ HT_ 29 (some 484) (bP 38 30) ?_ (hQ := by intro c a w2 h; exact hQ c _ a.tmps a.defers w2 h)
  refine pU_ HT_ 30 (some 485) (bP 38 31) ?_ (hQ := by intro c a w2 h; exact hQ c _ a.tmps a.defers w2 h)
  refine pU_ HT_ 31 (some 486) (bP 38 32) ?_ (hQ := by intro c a w2 h; exact hQ c _ a.tmps a.defers w2 h)
  refine pU_ HT_ 32 (some 487) (bP 38 33) ?_ (hQ := by intro c a w2 h; exact hQ c _ a.tmps a.defers w2 h)
  refine pU_ HT_ 33 (some 488) (bP 38 34) ?_ (hQ := by intro c a w2 h; exact hQ c _ a.tmps a.defers w2 h)
  refine tK_ HT_ HW_ hHeld 34 (some 489) (bP 38 35) ?_ (hQ := by intro c a w2 h; exact hQ c _ a.tmps a.defers w2 h)
  refine pU_ HT_ 35 (some 490) (bP 38 36) ?_ (hQ := by intro c a w2 h; exact hQ c _ a.tmps a.defers w2 h)
  refine pU_ HT_ 36 (some 491) (bP 38 37) ?_ (hQ := by intro c a w2 h; exact hQ c _ a.tmps a.defers w2 h)
  refine pU_ HT_ 37 (some 492) (bP 38 38) ?_ (hQ := by intro c a w2 h; exact hQ c _ a.tmps a.defers w2 h)
  refine done_ (done_of HT_.out (by kernel_rfl)) ?_; exact hrest _ S.out
/-! laws.FnCodesGuessedOfAll, a part of its walk: printed by gengu.py. -/
set_option maxHeartbeats 16000000 in
set_option maxRecDepth 100000 in
theorem KUD {w : World} {v0 v1 v3 v4 v6 v7 v8 v10 v11 v12 v15 v16 v18 v19 v20 v22 v23 v24 v26 v27 v28 v30 v31 v32 v34 v35 v36 v38 v39 v40 v41 v42 v43 v44 v45 v46 v47 v48 v49 v50 v51 v52 v53 v54 v55 v56 v57 v58 v59 v60 v61 v62 v63 v64 v65 v66 v67 v68 v69 v70 v71 v72 v73 v74 v75 v76 v77 v78 v79 v80 v81 v82 v83 v84 v85 v86 v87 v88 v89 v90 v91 v92 v93 v94 v95 v96 v97 v98 v99 v100 v101 v102 v103 v104 v105 v106 v107 v108 v109 v110 v111 v112 v113 v114 v115 v116 v117 v118 v119 v120 v121 v122 v123 v124 v125 v126 v127 v128 v129 v130 v131 v132 v133 v134 v135 v136 v137 v138 v139 v140 v141 v142 v143 v144 v145 v146 v147 v148 v149 v150 v151 v152 v153 v154 v155 v156 v157 v158 v159 v160 v161 v162 v163 v164 v165 v166 v167 v168 v169 v170 v171 v172 v173 v174 v175 v176 v177 v178 v179 v180 v181 v182 v183 v184 v185 v186 v187 v188 v189 v190 v191 v192 v193 v194 v195 v196 v197 v198 v199 v200 v201 v202 v203 v204 v205 v206 v207 v208 v209 v210 v211 v212 v213 v214 v215 v216 v217 v218 v219 v220 v221 v222 v223 v224 v225 v226 v227 v228 v229 v230 v231 v232 v233 v234 v235 v236 v237 v238 v239 v240 v241 v242 v243 v244 v245 v246 v247 v248 v249 v250 v251 v252 v253 v254 v255 v256 v257 v258 v259 v260 v261 v262 v263 v264 v265 v266 v267 v268 v269 v270 v271 v272 v273 v274 v275 v276 v277 v278 v279 v280 v281 v282 v283 v284 v285 v286 v287 v288 v289 v290 v291 v292 v293 v294 v295 v296 v297 v298 v299 v300 v301 v302 v303 v304 v305 v306 v307 v308 v309 v311 v312 v313 v314 v315 v316 v317 v318 v319 v320 v321 v322 v323 v324 v325 v326 v327 v328 v329 v330 v331 v332 v333 v334 v335 v336 v337 v338 v339 v340 v341 v342 v343 v344 v345 v346 v347 v348 v349 v350 v351 v352 v353 v354 v355 v356 v357 v358 v359 v360 v361 v362 v363 v364 v365 v366 v367 v368 v369 v370 v371 v372 v373 v374 v375 v376 v377 v378 v379 v380 v381 v382 v383 v384 v385 v386 v387 v388 v389 v390 v391 v392 v393 v394 v395 v396 v397 v398 v399 v400 v401 v402 v403 v404 v405 v406 v407 v408 v409 v410 v411 v412 v413 v414 v415 v416 v417 v418 v419 v420 v421 v422 v423 v424 v425 v426 v427 v428 v429 v430 v431 v432 v433 v434 v435 v436 v437 v438 v439 v440 v441 v442 v443 v444 v445 v446 v447 v448 v449 v450 v451 v452 v453 v454 v455 v456 v457 v458 v459 v460 v461 v462 v463 v464 v465 v466 v467 v468 v469 v470 v471 v472 v473 v474 v475 v476 v477 v478 v479 v480 v481 v482 v483 v484 v485 v486 v487 v488 v489 v490 v491 v492 v493 v494 v495 v496 v497 v498 v499 v500 v501 v502 v503 v504 v505 v506 v507 v508 v509 v510 v511 v512 v513 v514 v515 v516 v517 v518 v519 v520 v521 v522 v523 v524 v525 v526 v527 v528 v529 v530 v531 v532 v533 v534 v535 v536 v537 : Value} (K : Act → World → Prop) (Q : Exit → Act → World → Prop) (hQ : ∀ c t t' d w', Q (.panic c) ⟨t, d⟩ w' → Q (.panic c) ⟨t', d⟩ w')
    (k : Nat) (P D : Int) (L : List S45) (A : Option Addr) (c : Nat) (gp : Nat) (all : List ByteArray) (needless left : List Int) (A1 A3 A5 : Option Addr) (c1 c3 c5 : Nat) (th solved : Bool) (count total best : Int) (first sure text : ByteArray) (bs : List (Nat × Obj)) (rs : List Rw) (ok : Bool) (W : World)
    (hm : Mg w bs rs W) (hp : (gp, pzG P D A L.length c) ∈ bs) (re : rwE ∈ rs) (r0 : rwC A L ∈ rs) (i0 : L.length ≤ c) (r1 : rwS A1 all ∈ rs) (i1 : all.length ≤ c1) (r3 : rwI A3 needless ∈ rs) (i3 : needless.length ≤ c3) (r5 : rwI A5 left ∈ rs)
    (h3 : ok = true → th = decide (count > 0)) (ht : ok = true → impl_CountCodes.f k P D = some (total, true) ∧ (all.length : Int) = count ∧ all.length ≤ 1000 ∧ L.length ≤ 6 ∧ 0 ≤ P ∧ P ≤ 6 ∧ (th = true → first = rdOf ByteArray.empty all 0 ∧ sure.size = P.toNat) ∧ solved = (count == 1) ∧ left.length = L.length + 1 ∧ rd left 0 = total ∧ rd left L.length = count ∧ (solved = true → sure = first) ∧ laws_eSorted.f k all = some true ∧ (∀ j (hj : j < all.length), all[j].size = P.toNat ∧ (∀ i < all[j].size, bt all[j] (i : Nat) < 128 ∧ (bt sure (i : Nat) = 63 ∨ bt sure (i : Nat) = bt all[j] (i : Nat))) ∧ ∀ c ∈ L, impl_DoesFit.f k P D c.f0 c.f1 c.f2 all[j] = some (true, true)) ∧ (∀ i < L.length, impl_DropClue.f P D L (i : Nat) = some (P, D, L.eraseIdx i, true) ∧ 0 ≤ best ∧ best < L.length ∧ rd left ((i : Int) + 1) ≤ rd left (i : Nat) ∧ ∃ still, impl_CountSolutions.f k P D (L.eraseIdx i) = some (still, true) ∧ laws_eHas.f k needless (i : Nat) = some (still == count)) ∧ impl_ParsePuzzle.f k text = some (P, D, L, true) ∧ laws_ePuzzle.f k P D L P D L = some true)
    (hrest : ∀ {u4 u41 u42 u43 u44 u45 u46 u47 u48 u49 u50 u51 u52 u53 u54 u55 u56 u311 u312 u313 u314 u315 u316 u317 u318 u319 u320 u321 u322 u323 u324 u325 u326 u327 u328 u329 u330 u331 u332 u333 u334 u335 u336 u337 u338 u339 u340 u341 u342 u343 u344 u345 u346 u347 u348 u349 u350 u351 u352 u353 u354 u355 u356 u357 u358 u359 u360 u361 u362 u363 u364 u365 u366 u367 u368 u369 u370 u371 u372 u373 u374 u375 u376 u377 u378 u379 u380 u381 u382 u383 u384 u385 u386 u387 u388 u389 u390 u391 u392 u393 u394 u395 u396 u397 u398 u399 u400 u401 u402 u403 u404 u405 u406 u407 u408 u409 u410 u411 u412 u413 u414 u415 u416 u417 u418 u419 u420 u421 u422 u423 u424 u425 u426 u427 u428 u429 u430 u431 u432 u433 u434 u435 u436 u437 u438 u439 u440 u441 u442 u443 u444 u445 u446 u447 u448 u449 u450 u451 u452 u453 u454 u455 u456 u457 u458 u459 u460 u461 u462 u463 u464 u465 u466 u467 u468 u469 u470 u471 u472 u473 u474 u475 u476 u477 u478 u479 u480 u481 u482 u483 u484 u485 u486 u487 u488 u489 u490 u491 u492 u493 u494 u495 u496 u497 u498 u499 u500 u501 u502 u503 u504 u505 u506 : Value} (W' : World), Mg w bs rs W' → K ⟨List.toArray (v0 :: v1 :: .pointer (some ⟨gp, 0, none⟩) :: v3 :: u4 :: .slice A1 all.length c1 :: v6 :: v7 :: v8 :: .int .i64 count :: v10 :: v11 :: v12 :: .string first :: .bool th :: v15 :: v16 :: .string sure :: v18 :: v19 :: v20 :: .bool solved :: v22 :: v23 :: v24 :: .slice A3 needless.length c3 :: v26 :: v27 :: v28 :: .slice A5 left.length c5 :: v30 :: v31 :: v32 :: .int .i64 best :: v34 :: v35 :: v36 :: .string text :: v38 :: v39 :: v40 :: u41 :: u42 :: u43 :: u44 :: u45 :: u46 :: u47 :: u48 :: u49 :: u50 :: u51 :: u52 :: u53 :: u54 :: u55 :: u56 :: v57 :: v58 :: v59 :: v60 :: v61 :: v62 :: v63 :: v64 :: v65 :: v66 :: v67 :: v68 :: v69 :: v70 :: v71 :: v72 :: v73 :: v74 :: v75 :: v76 :: v77 :: v78 :: v79 :: v80 :: v81 :: v82 :: v83 :: v84 :: v85 :: v86 :: v87 :: v88 :: v89 :: v90 :: v91 :: v92 :: v93 :: v94 :: v95 :: v96 :: v97 :: v98 :: v99 :: v100 :: v101 :: v102 :: v103 :: v104 :: v105 :: v106 :: v107 :: v108 :: v109 :: v110 :: v111 :: v112 :: v113 :: v114 :: v115 :: v116 :: v117 :: v118 :: v119 :: v120 :: v121 :: v122 :: v123 :: v124 :: v125 :: v126 :: v127 :: v128 :: v129 :: v130 :: v131 :: v132 :: v133 :: v134 :: v135 :: v136 :: v137 :: v138 :: v139 :: v140 :: v141 :: v142 :: v143 :: v144 :: v145 :: v146 :: v147 :: v148 :: v149 :: v150 :: v151 :: v152 :: v153 :: v154 :: v155 :: v156 :: v157 :: v158 :: v159 :: v160 :: v161 :: v162 :: v163 :: v164 :: v165 :: v166 :: v167 :: v168 :: v169 :: v170 :: v171 :: v172 :: v173 :: v174 :: v175 :: v176 :: v177 :: v178 :: v179 :: v180 :: v181 :: v182 :: v183 :: v184 :: v185 :: v186 :: v187 :: v188 :: v189 :: v190 :: v191 :: v192 :: v193 :: v194 :: v195 :: v196 :: v197 :: v198 :: v199 :: v200 :: v201 :: v202 :: v203 :: v204 :: v205 :: v206 :: v207 :: v208 :: v209 :: v210 :: v211 :: v212 :: v213 :: v214 :: v215 :: v216 :: v217 :: v218 :: v219 :: v220 :: v221 :: v222 :: v223 :: v224 :: v225 :: v226 :: v227 :: v228 :: v229 :: v230 :: v231 :: v232 :: v233 :: v234 :: v235 :: v236 :: v237 :: v238 :: v239 :: v240 :: v241 :: v242 :: v243 :: v244 :: v245 :: v246 :: v247 :: v248 :: v249 :: v250 :: v251 :: v252 :: v253 :: v254 :: v255 :: v256 :: v257 :: v258 :: v259 :: v260 :: v261 :: v262 :: v263 :: v264 :: v265 :: v266 :: v267 :: v268 :: v269 :: v270 :: v271 :: v272 :: v273 :: v274 :: v275 :: v276 :: v277 :: v278 :: v279 :: v280 :: v281 :: v282 :: v283 :: v284 :: v285 :: v286 :: v287 :: v288 :: v289 :: v290 :: v291 :: v292 :: v293 :: v294 :: v295 :: v296 :: v297 :: v298 :: v299 :: v300 :: v301 :: v302 :: v303 :: v304 :: v305 :: v306 :: v307 :: v308 :: v309 :: .bool ok :: u311 :: u312 :: u313 :: u314 :: u315 :: u316 :: u317 :: u318 :: u319 :: u320 :: u321 :: u322 :: u323 :: u324 :: u325 :: u326 :: u327 :: u328 :: u329 :: u330 :: u331 :: u332 :: u333 :: u334 :: u335 :: u336 :: u337 :: u338 :: u339 :: u340 :: u341 :: u342 :: u343 :: u344 :: u345 :: u346 :: u347 :: u348 :: u349 :: u350 :: u351 :: u352 :: u353 :: u354 :: u355 :: u356 :: u357 :: u358 :: u359 :: u360 :: u361 :: u362 :: u363 :: u364 :: u365 :: u366 :: u367 :: u368 :: u369 :: u370 :: u371 :: u372 :: u373 :: u374 :: u375 :: u376 :: u377 :: u378 :: u379 :: u380 :: u381 :: u382 :: u383 :: u384 :: u385 :: u386 :: u387 :: u388 :: u389 :: u390 :: u391 :: u392 :: u393 :: u394 :: u395 :: u396 :: u397 :: u398 :: u399 :: u400 :: u401 :: u402 :: u403 :: u404 :: u405 :: u406 :: u407 :: u408 :: u409 :: u410 :: u411 :: u412 :: u413 :: u414 :: u415 :: u416 :: u417 :: u418 :: u419 :: u420 :: u421 :: u422 :: u423 :: u424 :: u425 :: u426 :: u427 :: u428 :: u429 :: u430 :: u431 :: u432 :: u433 :: u434 :: u435 :: u436 :: u437 :: u438 :: u439 :: u440 :: u441 :: u442 :: u443 :: u444 :: u445 :: u446 :: u447 :: u448 :: u449 :: u450 :: u451 :: u452 :: u453 :: u454 :: u455 :: u456 :: u457 :: u458 :: u459 :: u460 :: u461 :: u462 :: u463 :: u464 :: u465 :: u466 :: u467 :: u468 :: u469 :: u470 :: u471 :: u472 :: u473 :: u474 :: u475 :: u476 :: u477 :: u478 :: u479 :: u480 :: u481 :: u482 :: u483 :: u484 :: u485 :: u486 :: u487 :: u488 :: u489 :: u490 :: u491 :: u492 :: u493 :: u494 :: u495 :: u496 :: u497 :: u498 :: u499 :: u500 :: u501 :: u502 :: u503 :: u504 :: u505 :: u506 :: v507 :: v508 :: v509 :: v510 :: v511 :: v512 :: v513 :: v514 :: v515 :: v516 :: v517 :: v518 :: v519 :: v520 :: v521 :: v522 :: v523 :: v524 :: v525 :: v526 :: v527 :: v528 :: v529 :: v530 :: v531 :: v532 :: v533 :: v534 :: v535 :: v536 :: v537 :: []), []⟩ W') :
    Code.wp Tryz.prog (condU 310) (Exit.then K Q) ⟨List.toArray (v0 :: v1 :: .pointer (some ⟨gp, 0, none⟩) :: v3 :: v4 :: .slice A1 all.length c1 :: v6 :: v7 :: v8 :: .int .i64 count :: v10 :: v11 :: v12 :: .string first :: .bool th :: v15 :: v16 :: .string sure :: v18 :: v19 :: v20 :: .bool solved :: v22 :: v23 :: v24 :: .slice A3 needless.length c3 :: v26 :: v27 :: v28 :: .slice A5 left.length c5 :: v30 :: v31 :: v32 :: .int .i64 best :: v34 :: v35 :: v36 :: .string text :: v38 :: v39 :: v40 :: v41 :: v42 :: v43 :: v44 :: v45 :: v46 :: v47 :: v48 :: v49 :: v50 :: v51 :: v52 :: v53 :: v54 :: v55 :: v56 :: v57 :: v58 :: v59 :: v60 :: v61 :: v62 :: v63 :: v64 :: v65 :: v66 :: v67 :: v68 :: v69 :: v70 :: v71 :: v72 :: v73 :: v74 :: v75 :: v76 :: v77 :: v78 :: v79 :: v80 :: v81 :: v82 :: v83 :: v84 :: v85 :: v86 :: v87 :: v88 :: v89 :: v90 :: v91 :: v92 :: v93 :: v94 :: v95 :: v96 :: v97 :: v98 :: v99 :: v100 :: v101 :: v102 :: v103 :: v104 :: v105 :: v106 :: v107 :: v108 :: v109 :: v110 :: v111 :: v112 :: v113 :: v114 :: v115 :: v116 :: v117 :: v118 :: v119 :: v120 :: v121 :: v122 :: v123 :: v124 :: v125 :: v126 :: v127 :: v128 :: v129 :: v130 :: v131 :: v132 :: v133 :: v134 :: v135 :: v136 :: v137 :: v138 :: v139 :: v140 :: v141 :: v142 :: v143 :: v144 :: v145 :: v146 :: v147 :: v148 :: v149 :: v150 :: v151 :: v152 :: v153 :: v154 :: v155 :: v156 :: v157 :: v158 :: v159 :: v160 :: v161 :: v162 :: v163 :: v164 :: v165 :: v166 :: v167 :: v168 :: v169 :: v170 :: v171 :: v172 :: v173 :: v174 :: v175 :: v176 :: v177 :: v178 :: v179 :: v180 :: v181 :: v182 :: v183 :: v184 :: v185 :: v186 :: v187 :: v188 :: v189 :: v190 :: v191 :: v192 :: v193 :: v194 :: v195 :: v196 :: v197 :: v198 :: v199 :: v200 :: v201 :: v202 :: v203 :: v204 :: v205 :: v206 :: v207 :: v208 :: v209 :: v210 :: v211 :: v212 :: v213 :: v214 :: v215 :: v216 :: v217 :: v218 :: v219 :: v220 :: v221 :: v222 :: v223 :: v224 :: v225 :: v226 :: v227 :: v228 :: v229 :: v230 :: v231 :: v232 :: v233 :: v234 :: v235 :: v236 :: v237 :: v238 :: v239 :: v240 :: v241 :: v242 :: v243 :: v244 :: v245 :: v246 :: v247 :: v248 :: v249 :: v250 :: v251 :: v252 :: v253 :: v254 :: v255 :: v256 :: v257 :: v258 :: v259 :: v260 :: v261 :: v262 :: v263 :: v264 :: v265 :: v266 :: v267 :: v268 :: v269 :: v270 :: v271 :: v272 :: v273 :: v274 :: v275 :: v276 :: v277 :: v278 :: v279 :: v280 :: v281 :: v282 :: v283 :: v284 :: v285 :: v286 :: v287 :: v288 :: v289 :: v290 :: v291 :: v292 :: v293 :: v294 :: v295 :: v296 :: v297 :: v298 :: v299 :: v300 :: v301 :: v302 :: v303 :: v304 :: v305 :: v306 :: v307 :: v308 :: v309 :: .bool ok :: v311 :: v312 :: v313 :: v314 :: v315 :: v316 :: v317 :: v318 :: v319 :: v320 :: v321 :: v322 :: v323 :: v324 :: v325 :: v326 :: v327 :: v328 :: v329 :: v330 :: v331 :: v332 :: v333 :: v334 :: v335 :: v336 :: v337 :: v338 :: v339 :: v340 :: v341 :: v342 :: v343 :: v344 :: v345 :: v346 :: v347 :: v348 :: v349 :: v350 :: v351 :: v352 :: v353 :: v354 :: v355 :: v356 :: v357 :: v358 :: v359 :: v360 :: v361 :: v362 :: v363 :: v364 :: v365 :: v366 :: v367 :: v368 :: v369 :: v370 :: v371 :: v372 :: v373 :: v374 :: v375 :: v376 :: v377 :: v378 :: v379 :: v380 :: v381 :: v382 :: v383 :: v384 :: v385 :: v386 :: v387 :: v388 :: v389 :: v390 :: v391 :: v392 :: v393 :: v394 :: v395 :: v396 :: v397 :: v398 :: v399 :: v400 :: v401 :: v402 :: v403 :: v404 :: v405 :: v406 :: v407 :: v408 :: v409 :: v410 :: v411 :: v412 :: v413 :: v414 :: v415 :: v416 :: v417 :: v418 :: v419 :: v420 :: v421 :: v422 :: v423 :: v424 :: v425 :: v426 :: v427 :: v428 :: v429 :: v430 :: v431 :: v432 :: v433 :: v434 :: v435 :: v436 :: v437 :: v438 :: v439 :: v440 :: v441 :: v442 :: v443 :: v444 :: v445 :: v446 :: v447 :: v448 :: v449 :: v450 :: v451 :: v452 :: v453 :: v454 :: v455 :: v456 :: v457 :: v458 :: v459 :: v460 :: v461 :: v462 :: v463 :: v464 :: v465 :: v466 :: v467 :: v468 :: v469 :: v470 :: v471 :: v472 :: v473 :: v474 :: v475 :: v476 :: v477 :: v478 :: v479 :: v480 :: v481 :: v482 :: v483 :: v484 :: v485 :: v486 :: v487 :: v488 :: v489 :: v490 :: v491 :: v492 :: v493 :: v494 :: v495 :: v496 :: v497 :: v498 :: v499 :: v500 :: v501 :: v502 :: v503 :: v504 :: v505 :: v506 :: v507 :: v508 :: v509 :: v510 :: v511 :: v512 :: v513 :: v514 :: v515 :: v516 :: v517 :: v518 :: v519 :: v520 :: v521 :: v522 :: v523 :: v524 :: v525 :: v526 :: v527 :: v528 :: v529 :: v530 :: v531 :: v532 :: v533 :: v534 :: v535 :: v536 :: v537 :: []), []⟩ W := by
  have hu26 := Tryz.underlying26
  have hu23 := Tryz.underlying23
  have hu45 := Tryz.underlying45
  have hu24 := Tryz.underlying24
  have hu27 := Tryz.underlying27
  have hu36 := Tryz.underlying36
  have hu9 := Tryz.underlying9
  have hbb : ∀ b : Bool, (b != b) = false := fun b => by cases b <;> rfl
  have hii : ∀ x : Int, (x != x) = false := fun x => by simp
  have hss : ∀ x : ByteArray, (x.toList != x.toList) = false := fun x => by simp
  have hst : ∀ x : ByteArray, (x.toList == x.toList) = true := fun x => by simp
  have S := amk hm; clear hm; have HP := amk hp; have RE := amk re; have R0 := amk r0; have I0 := amk i0; have R1 := amk r1; have I1 := amk i1; have R3 := amk r3; have I3 := amk i3; have R5 := amk r5; clear hp re r0 i0 r1 i1 r3 i3 r5
  conv => arg 2; whnf
  cases ok with
  | false => go_wp2; exact S.out
  | true =>
    have h3x := h3 rfl; clear h3
    obtain ⟨e1, f1, n1, n2, n3, n4, f3, f4, f5, f7, f8, f9, e2, GA, GL, e6, e7⟩ := ht rfl; clear ht
    have G1 := amk f1; have N1 := amk n1; have N2 := amk n2; have F5 := amk f5; have E1 := amk e1; have HGA := amk GA; have HGL := amk GL; have E6 := amk e6; have E7 := amk e7; have HW2 := amk n4; clear e1 GA GL e6 e7 n1 n4
    have B5 := amk (And.intro n3 (And.intro f1 (And.intro h3x (And.intro f3 (And.intro f4 (And.intro f5 (And.intro n2 (And.intro f7 (And.intro f8 (And.intro f9 e2)))))))))); clear n2 n3 f1 f3 f4 f5 f7 f8 f9 e2 h3x
    obtain ⟨q0, q1, q2⟩ := gx3 S.out HP.out
    go_upto_region 25 with (go_at_call 26; refine Calls.mono (impl_CountCodes.calls k P D total true _ E1.out) ?_; rintro e wx ⟨rfl, hb⟩; have nS := amk (Mg_below S.out hb); clear S; have S := nS; clear nS hb; clear q0 q1 q2)
    obtain ⟨b1, b2, b3, b4, b5, b6, b7, b8, b9, b10, b11⟩ := B5.out
    refine KUB _ _ ?hq k P D L A c gp all left A1 A5 c1 c5 th solved count total first sure bs rs _ S.out HP.out R1.out I1.out R5.out b1 b2 b3 b4 b5 b6 b7 b8 b9 b10 b11 (fun {u317 u318 u319 u320 u321 u322 u323 u324 u325 u326 u327 u328 u329 u330 u331 u332 u333 u334 u335 u336 u337 u338 u339 u340 u341 u342 u343 u344 u345 u346 u347 u348 u349 u350 u351 u352 u353 u354 u355 u356 u357 u358 u359 u360 u361 u362 u363 u364 u365 u366 u367 u368 u369 u370 u371 u372 u373 u374 u375 u376 u377 u378 u379 u380 u381 u382 u383 u384 u385 u386 u387 u388 u389} W1 s1 => ?_)
    case hq => intro c t t2 d w2 h; exact hQ c _ _ d w2 h
    have HZ := amk (show 0 < all.length → sure.size = P.toNat from fun h => (b4 (by rw [b3]; exact decide_eq_true (by omega))).2)
    clear b1 b2 b3 b4 b5 b6 b7 b8 b9 b10 b11 B5 S E1; have S := amk s1; clear s1
    obtain ⟨q0, q1, q2⟩ := gx3 S.out HP.out
    go_wp2
    clear q0 q1 q2
    go_loopg [393] all.length (fun gg v393 W => ∃ j : Nat, v393 = .int .i64 (j : Int) ∧ Aside0 (j ≤ all.length ∧ all.length ≤ j + gg) ∧ Aside0 (Mg w bs rs W))
    case atStart => exact ⟨0, rfl, ⟨⟨Nat.zero_le _, Nat.le_of_eq (Nat.zero_add _).symm⟩⟩, S⟩
    case round =>
      clear S; obtain ⟨j, rfl, HJ, S⟩ := hrel
      by_cases hj : j < all.length
      · have p1 : 0 ≤ (j : Int) := Int.natCast_nonneg j
        have p2 : (j : Int) < (all.length : Int) := Int.ofNat_lt.mpr hj
        obtain ⟨ad, e0, hx0⟩ := Kd.at_string (rS S.out R1.out) (j : Int) p1 p2
        rw [rd_str hj, Int.toNat_natCast] at hx0
        cases e0
        have d1 : decide ((j : Int) < (all.length : Int)) = true := decide_eq_true p2
        have d1b : (j < all.length) = True := eq_true hj
        have hwj : wrap64 ((j : Int) + 1) = ((j + 1 : Nat) : Int) := wr_g hj (Nat.le_trans N1.out (by decide))
        have LJ := amk hj
        obtain ⟨z1, z2, z3⟩ := HGA.out j hj
        have Z1 := amk z1; have Z2 := amk z2; have Z3 := amk z3; clear z1 z2 z3
        generalize all[j] = s at hx0 Z1 Z2 Z3
        replace p1 := eq_true p1; replace p2 := eq_true p2
        obtain ⟨q0, q1, q2⟩ := gx3 S.out HP.out
        go_wp2
        clear p1 p2 d1 hx0 q0 q1 q2 d1b
        go_loopg [400] L.length (fun gg v400 W => ∃ i : Nat, v400 = .int .i64 (i : Int) ∧ Aside0 (i ≤ L.length ∧ L.length ≤ i + gg) ∧ Aside0 (Mg w bs rs W))
        case atStart => exact ⟨0, rfl, ⟨⟨Nat.zero_le _, Nat.le_of_eq (Nat.zero_add _).symm⟩⟩, S⟩
        case round =>
          clear S; obtain ⟨i, rfl, HI, S⟩ := hrel
          by_cases hi : i < L.length
          · have p1 : 0 ≤ (i : Int) := Int.natCast_nonneg i
            have p2 : (i : Int) < (L.length : Int) := Int.ofNat_lt.mpr hi
            obtain ⟨ad2, e0, hy0, hy1, hy2⟩ := at_T45 (rC S.out R0.out) (i : Int) p1 p2
            simp only [rd_clueN hi, Int.toNat_natCast] at hy0 hy1 hy2
            cases e0
            have ET := amk (Z3.out L[i] (List.getElem_mem hi))
            generalize L[i] = q at hy0 hy1 hy2 ET
            have d1 : decide ((i : Int) < (L.length : Int)) = true := decide_eq_true p2
            have d1b : (i < L.length) = True := eq_true hi
            have hwi : wrap64 ((i : Int) + 1) = ((i + 1 : Nat) : Int) := wr_g hi (Nat.le_trans N2.out (by decide))
            have LI := amk hi
            replace p1 := eq_true p1; replace p2 := eq_true p2
            have SB := amk (Mg_box S.out (clG q.f0 q.f1 q.f2))
            obtain ⟨q0, q1, q2⟩ := gx3 SB.out (.tail _ HP.out); obtain ⟨z0, z1, z2⟩ := gx3 SB.out (.head _)
            go_wp2_with (go_at_call 28; refine Calls.mono (impl_DoesFit.calls k P D q.f0 q.f1 q.f2 s true true _ ET.out) ?_; rintro e wx ⟨rfl, hb⟩; have nS := amk (Mg_pop (Mg_below SB.out hb)); clear S; have S := nS; clear nS hb; clear q0 q1 q2 z0 z1 z2 SB)
            go_roundg (L.length - (i + 1))
            case measure => exact mg1 LI.out HI.out
            case rel => exact ⟨i + 1, by rw [← hwi], ⟨mg2 LI.out⟩, S⟩
          · have d1 : decide ((i : Int) < (L.length : Int)) = false := decide_eq_false (fun h => hi (Int.ofNat_lt.mp h))
            have d1b : (i < L.length) = False := eq_false hi
            have SI := amk (Mi_of S.out s)
            have HIT := amk (show wr.heap.size = wr.heap.size from rfl)
            clear HI
            go_wp2
            generalize wr.heap.size = it at SI ⊢
            clear d1 d1b hi S HIT
            go_loopg [] s.size (fun gg W => ∃ x : Nat, Aside0 (x ≤ s.size ∧ s.size ≤ x + gg) ∧ Aside0 (Mi w bs rs s x it W))
            case atStart => exact ⟨0, ⟨⟨Nat.zero_le _, Nat.le_of_eq (Nat.zero_add _).symm⟩⟩, SI⟩
            case round =>
              clear SI; obtain ⟨x, HX, SI⟩ := hrel
              by_cases hx : x < s.size
              · have hnx : ∀ ty, (Instr.next (.pointer (some ⟨it, 0, none⟩)) true ty).run Tryz.prog wr = .ok (.tuple #[.bool true, .int .i64 (x : Nat), .int .i32 (bt s (x : Nat))]) (wr.iterAt it s (x + 1)) := by
                  intro ty
                  have := Lib.run_next_ascii_at (P := Tryz.prog) wr it s x ty (by obtain ⟨_, _, _, _, h⟩ := SI.out; exact h) hx (by have := bt_nat hx; have := (Z2.out x hx).1; omega)
                  rw [bt_nat hx] at this
                  exact this
                obtain ⟨_, y2⟩ := Z2.out x hx
                have SY := amk (Mi_iter SI.out (x + 1)); clear SI
                generalize wr.iterAt it s (x + 1) = W1 at hnx SY
                have LX := amk hx
                have hz : x < sure.size := by rw [HZ.out (Nat.lt_of_le_of_lt (Nat.zero_le _) LJ.out), ← Z1.out]; exact hx
                go_upto_region 40 with (fail)
                refine KUF _ _ ?hq x s sure (x + 1) it bs rs _ SY.out LX.out hz y2 (fun {u424 u425 u426 u427 u428 u429 u430 u431 u432 u433 u434 u435} W2 s2 => ?_)
                case hq => intro c t t2 d w2 h; exact hQ c _ _ d w2 h
                clear SY y2 hx hz; go_wp2
                go_roundg (s.size - (x + 1))
                case measure => exact mg1 LX.out HX.out
                case rel => exact ⟨x + 1, ⟨mg2 LX.out⟩, ⟨s2⟩⟩
              · have hnx : ∀ ty, (Instr.next (.pointer (some ⟨it, 0, none⟩)) true ty).run Tryz.prog wr = .ok (.tuple #[.bool false]) wr := fun ty => Lib.run_next_end_at (P := Tryz.prog) wr it s x ty (by obtain ⟨_, _, _, _, h⟩ := SI.out; exact h) hx
                have S := amk (Mi_mg SI.out); clear SI
                go_wp2
                go_roundg (all.length - (j + 1))
                case measure => exact mg1 LJ.out HJ.out
                case rel => exact ⟨j + 1, by rw [← hwj], ⟨mg2 LJ.out⟩, S⟩
      · have d1 : decide ((j : Int) < (all.length : Int)) = false := decide_eq_false (fun h => hj (Int.ofNat_lt.mp h))
        have d1b : (j < all.length) = False := eq_false hj
        obtain ⟨q0, q1, q2⟩ := gx3 S.out HP.out
        clear HJ HGA
        go_wp2
        clear d1 d1b hj q0 q1 q2
        go_loopg [441] L.length (fun gg v441 W => ∃ i : Nat, v441 = .int .i64 (i : Int) ∧ Aside0 (i ≤ L.length ∧ L.length ≤ i + gg) ∧ Aside0 (Mg w bs rs W))
        case atStart => exact ⟨0, rfl, ⟨⟨Nat.zero_le _, Nat.le_of_eq (Nat.zero_add _).symm⟩⟩, S⟩
        case round =>
          clear S; obtain ⟨i, rfl, HI, S⟩ := hrel
          by_cases hi : i < L.length
          · obtain ⟨y1, y2, y3, y4, still, y5, y6⟩ := HGL.out i hi
            have Y1 := amk y1; have Y5 := amk y5; have YY := amk (And.intro y2 (And.intro y3 (And.intro y4 y6))); clear y1 y2 y3 y4 y5 y6
            have d1 : decide ((i : Int) < (L.length : Int)) = true := decide_eq_true (Int.ofNat_lt.mpr hi)
            have d1b : (i < L.length) = True := eq_true hi
            have hwi : wrap64 ((i : Int) + 1) = ((i + 1 : Nat) : Int) := wr_g hi (Nat.le_trans N2.out (by decide))
            have LI := amk hi; clear hi
            obtain ⟨q0, q1, q2⟩ := gx3 S.out HP.out
            go_wp2_with (go_at_call 29; refine Calls.mono (impl_DropClue.calls P D _ _ L (i : Int) P D (L.eraseIdx i) true _ (rC S.out R0.out) I0.out Y1.out) ?_; rintro e wx ⟨v, rfl, hs, hb⟩; obtain ⟨Ax, cx, rfl⟩ := Kd.R_slice hs; have IX := amk (Kd.R_reads' hs).2.1; have nS := amk (Mg_box (Mg_row (Mg_below S.out hb) (rwC Ax (L.eraseIdx i)) (Kd.R_reads' hs).2.2) (pzG P D Ax (L.eraseIdx i).length cx)); clear S; have S := nS; clear nS hs hb; clear q0 q1 q2; obtain ⟨z0, z1, z2⟩ := gx3 S.out (.head _))
            go_upto_region 48 with (go_at_call 6; refine Calls.mono (impl_CountSolutions.calls k P D _ _ (L.eraseIdx i) still true _ (rC S.out (.head _)) IX.out Y5.out) ?_; rintro e wx ⟨rfl, hb⟩; have nS := amk (Mg_drop (Mg_below S.out hb)); clear S; have S := nS; clear nS hb; clear z0 z1 z2)
            refine KUG _ _ ?hq k P D L A c gp i needless left A3 A5 c3 c5 count best still bs rs _ S.out HP.out R3.out I3.out R5.out LI.out N2.out F5.out YY.out.1 YY.out.2.1 YY.out.2.2.1 YY.out.2.2.2 (fun {u455 u456 u457 u458 u459 u460 u461 u462 u463 u464 u465 u466 u467 u468 u469 u470 u471 u472 u473 u474 u475 u476 u477 u478 u479 u480 u481 u482 u483 u484 u485 u486 u487 u488 u489 u490 u491} W2 s2 => ?_)
            case hq => intro c t t2 d w2 h; exact hQ c _ _ d w2 h
            clear S d1 d1b; have S := amk s2; clear s2; go_wp2
            go_roundg (L.length - (i + 1))
            case measure => exact mg1 LI.out HI.out
            case rel => exact ⟨i + 1, by rw [← hwi], ⟨mg2 LI.out⟩, S⟩
          · have d1 : decide ((i : Int) < (L.length : Int)) = false := decide_eq_false (fun h => hi (Int.ofNat_lt.mp h))
            have d1b : (i < L.length) = False := eq_false hi
            clear HI HGL
            go_wp2_with (go_at_call 31; refine Calls.mono (impl_ParsePuzzle.calls k text P D L true _ (rE S.out RE.out) E6.out) ?_; rintro e wx ⟨v, rfl, hs, hb⟩; obtain ⟨Ax, cx, rfl⟩ := Kd.R_slice hs; have IX := amk (Kd.R_reads' hs).2.1; have nS := amk (Mg_box (Mg_row (Mg_below S.out hb) (rwC Ax L) (Kd.R_reads' hs).2.2) (pzG P D Ax L.length cx)); clear S; have S := nS; clear nS hs hb; obtain ⟨z0, z1, z2⟩ := gx3 S.out (.head _); obtain ⟨q0, q1, q2⟩ := gx3 S.out (.tail _ HP.out))
            go_wp2_with (go_at_call 32; refine Calls.mono (laws_ePuzzle.calls k P D _ _ L P D _ _ L true _ (rC S.out (.head _)) IX.out (rC S.out (.tail _ R0.out)) I0.out E7.out) ?_; rintro e wx ⟨rfl, hb⟩; have nS := amk (Mg_drop (Mg_below S.out hb)); clear S; have S := nS; clear nS hb; clear z0 z1 z2 q0 q1 q2)
            exact S.out
/-! laws.FnCodesGuessedOfAll: the whole walk; each callee's value is told: printed by gengu.py. -/
set_option maxHeartbeats 16000000 in
set_option maxRecDepth 100000 in
theorem laws_FnCodesGuessedOfAll.walk (P D : Int) (L : List S45) (A : Option Addr) (c : Nat) (s : ByteArray) (w : World) (hr : Kd.C k45 w A L.length L) (hcap : L.length ≤ c) (hL : L.length ≤ 9223372036854775807) (hs : s.size ≤ 1048576) (htp : EnvP w) (gP : Guess_P) (gS : Guess_S) :
    Calls Tryz.prog 3 #[.agg #[.int .i64 P, .int .i64 D, .slice A L.length c], .string s] w fun e w' => e = .returned (.bool true) ∧ Below w.heap.size w w' := by
  have hu26 := Tryz.underlying26
  have hu23 := Tryz.underlying23
  have hu45 := Tryz.underlying45
  have hu24 := Tryz.underlying24
  have hu27 := Tryz.underlying27
  have hu36 := Tryz.underlying36
  have hu9 := Tryz.underlying9
  obtain ⟨k, all, ok, th, solved, fv, count, total, best, first, sure, text, needless, left, e1, e2, e3, e4, e5, e6, e7, e8, e9, e10, e11, e12, e13, e14, e15, e16, e17, e18, e19, e20, x1, x2, x3, g3, g5, fb⟩ := gP P D L hL
  have E1 := amk e1
  have E2 := amk e2
  have E3 := amk e3
  have E4 := amk e4
  have E5 := amk e5
  have E6 := amk e6
  have E7 := amk e7
  have E8 := amk e8
  have E9 := amk e9
  have E10 := amk e10
  have E11 := amk e11
  have E12 := amk e12
  have E13 := amk e13
  have E14 := amk e14
  have E15 := amk e15
  have E16 := amk e16
  have E17 := amk e17
  have E18 := amk e18
  have E19 := amk e19
  have E20 := amk e20
  have PX1 := amk x1; have PX2 := amk x2; have PX3 := amk x3; have G3 := amk g3; have G5 := amk g5; have FB := amk fb; have HS := amk hs; have GS := amk gS; have I0 := amk hcap
  clear e1 e2 e3 e4 e5 e6 e7 e8 e9 e10 e11 e12 e13 e14 e15 e16 e17 e18 e19 e20 x1 x2 x3 g3 g5 fb hs gS gP hL
  have HB := amk (Below.refl w.heap.size w)
  have SQ := amk (fun (g : Nat) (W : World) (hb : Below w.heap.size w W) (hg : W.heap[g]? = some (pzG P D A L.length c)) => (⟨hb, fun b m => (by cases m with | head => exact hg | tail _ m => cases m), fun r m => (by cases m with | head => exact Kd.C_below hr hb | tail _ m => cases m with | head => exact htp.below hb | tail _ m => cases m)⟩ : Mg w [(g, pzG P D A L.length c)] [rwC A L, rwE] W)); clear hr htp hcap
  have hsz : (s.size > 1048576) = False := eq_false (by have := HS.out; omega)
  have hsz2 : decide ((s.size : Int) > 1048576) = false := decide_eq_false (by have := HS.out; omega)
  have hsz3 : decide ((1048576 : Int) < (s.size : Int)) = false := decide_eq_false (by have := HS.out; omega)
  have hsz4 : decide (1048576 < s.size) = false := decide_eq_false (by have := HS.out; omega)
  go_enter Tryz.func3, Tryz.ntmps3
  go_wp2_with ((with_reducible refine gate_dst (N := 2) rfl ?_); refine boxE_ HB 2 #[.int .i64 P, .int .i64 D, .slice A L.length c] 26 ?_; clear HB; intro gp w3 HB BK GW GE hb; clear hb; have S := amk (SQ.out gp w3 HB.out BK.out); clear HB BK GW GE SQ; obtain ⟨q0, q1, q2⟩ := gx3 S.out (.head _))
  clear hsz hsz2 hsz3 hsz4
  go_wp2_with (go_at_call 4; refine Calls.mono (impl_Solutions.calls k P D _ _ L all ok _ (rC S.out (.head _)) I0.out E1.out) ?_; rintro e wx ⟨v, rfl, hs, hb⟩; obtain ⟨A1, c1, rfl⟩ := Kd.R_slice hs; have I1 := amk (Kd.R_reads' hs).2.1; have nS := amk (Mg_row (Mg_below S.out hb) (rwS A1 all) (Kd.R_reads' hs).2.2); clear S; have S := nS; clear nS hs hb; clear q0 q1 q2; obtain ⟨q0, q1, q2⟩ := gx3 S.out (.head _))
  go_wp2_with (go_at_call 5; refine Calls.mono (spec_Solutions.calls k P D _ _ L all ok _ (rC S.out (.tail _ (.head _))) I0.out E2.out) ?_; rintro e wx ⟨v, rfl, hs, hb⟩; obtain ⟨A2, c2, rfl⟩ := Kd.R_slice hs; have I2 := amk (Kd.R_reads' hs).2.1; have nS := amk (Mg_row (Mg_below S.out hb) (rwS A2 all) (Kd.R_reads' hs).2.2); clear S; have S := nS; clear nS hs hb; clear q0 q1 q2; obtain ⟨q0, q1, q2⟩ := gx3 S.out (.head _))
  go_wp2_with (go_at_call 6; refine Calls.mono (impl_CountSolutions.calls k P D _ _ L count ok _ (rC S.out (.tail _ (.tail _ (.head _)))) I0.out E3.out) ?_; rintro e wx ⟨rfl, hb⟩; have nS := amk (Mg_below S.out hb); clear S; have S := nS; clear nS hb; clear q0 q1 q2; obtain ⟨q0, q1, q2⟩ := gx3 S.out (.head _))
  go_wp2_with (go_at_call 7; refine Calls.mono (spec_CountSolutions.calls k P D _ _ L count ok _ (rC S.out (.tail _ (.tail _ (.head _)))) I0.out E4.out) ?_; rintro e wx ⟨rfl, hb⟩; have nS := amk (Mg_below S.out hb); clear S; have S := nS; clear nS hb; clear q0 q1 q2; obtain ⟨q0, q1, q2⟩ := gx3 S.out (.head _))
  go_wp2_with (go_at_call 8; refine Calls.mono (impl_FirstSolution.calls k P D _ _ L first th _ (rC S.out (.tail _ (.tail _ (.head _)))) I0.out E5.out) ?_; rintro e wx ⟨rfl, hb⟩; have nS := amk (Mg_below S.out hb); clear S; have S := nS; clear nS hb; clear q0 q1 q2; obtain ⟨q0, q1, q2⟩ := gx3 S.out (.head _))
  go_wp2_with (go_at_call 9; refine Calls.mono (spec_FirstSolution.calls k P D _ _ L first th _ (rC S.out (.tail _ (.tail _ (.head _)))) I0.out E6.out) ?_; rintro e wx ⟨rfl, hb⟩; have nS := amk (Mg_below S.out hb); clear S; have S := nS; clear nS hb; clear q0 q1 q2; obtain ⟨q0, q1, q2⟩ := gx3 S.out (.head _))
  go_wp2_with (go_at_call 10; refine Calls.mono (impl_SureDigits.calls k P D _ _ L sure th _ (rC S.out (.tail _ (.tail _ (.head _)))) I0.out E7.out) ?_; rintro e wx ⟨rfl, hb⟩; have nS := amk (Mg_below S.out hb); clear S; have S := nS; clear nS hb; clear q0 q1 q2; obtain ⟨q0, q1, q2⟩ := gx3 S.out (.head _))
  go_wp2_with (go_at_call 11; refine Calls.mono (spec_SureDigits.calls k P D _ _ L sure th _ (rC S.out (.tail _ (.tail _ (.head _)))) I0.out E8.out) ?_; rintro e wx ⟨rfl, hb⟩; have nS := amk (Mg_below S.out hb); clear S; have S := nS; clear nS hb; clear q0 q1 q2; obtain ⟨q0, q1, q2⟩ := gx3 S.out (.head _))
  go_wp2_with (go_at_call 12; refine Calls.mono (impl_IsSolved.calls k P D _ _ L solved ok _ (rC S.out (.tail _ (.tail _ (.head _)))) I0.out E9.out) ?_; rintro e wx ⟨rfl, hb⟩; have nS := amk (Mg_below S.out hb); clear S; have S := nS; clear nS hb; clear q0 q1 q2; obtain ⟨q0, q1, q2⟩ := gx3 S.out (.head _))
  go_wp2_with (go_at_call 13; refine Calls.mono (spec_IsSolved.calls k P D _ _ L solved ok _ (rC S.out (.tail _ (.tail _ (.head _)))) I0.out E10.out) ?_; rintro e wx ⟨rfl, hb⟩; have nS := amk (Mg_below S.out hb); clear S; have S := nS; clear nS hb; clear q0 q1 q2; obtain ⟨q0, q1, q2⟩ := gx3 S.out (.head _))
  go_wp2_with (go_at_call 14; refine Calls.mono (impl_NeedlessClues.calls k P D _ _ L needless ok _ (rC S.out (.tail _ (.tail _ (.head _)))) I0.out E11.out) ?_; rintro e wx ⟨v, rfl, hs, hb⟩; obtain ⟨A3, c3, rfl⟩ := Kd.R_slice hs; have I3 := amk (Kd.R_reads' hs).2.1; have nS := amk (Mg_row (Mg_below S.out hb) (rwI A3 needless) (Kd.R_reads' hs).2.2); clear S; have S := nS; clear nS hs hb; clear q0 q1 q2; obtain ⟨q0, q1, q2⟩ := gx3 S.out (.head _))
  go_wp2_with (go_at_call 15; refine Calls.mono (spec_NeedlessClues.calls k P D _ _ L needless ok _ (rC S.out (.tail _ (.tail _ (.tail _ (.head _))))) I0.out E12.out) ?_; rintro e wx ⟨v, rfl, hs, hb⟩; obtain ⟨A4, c4, rfl⟩ := Kd.R_slice hs; have I4 := amk (Kd.R_reads' hs).2.1; have nS := amk (Mg_row (Mg_below S.out hb) (rwI A4 needless) (Kd.R_reads' hs).2.2); clear S; have S := nS; clear nS hs hb; clear q0 q1 q2; obtain ⟨q0, q1, q2⟩ := gx3 S.out (.head _))
  go_wp2_with (go_at_call 16; refine Calls.mono (impl_LeftByClues.calls k P D _ _ L left ok _ (rC S.out (.tail _ (.tail _ (.tail _ (.tail _ (.head _)))))) I0.out E13.out) ?_; rintro e wx ⟨v, rfl, hs, hb⟩; obtain ⟨A5, c5, rfl⟩ := Kd.R_slice hs; have I5 := amk (Kd.R_reads' hs).2.1; have nS := amk (Mg_row (Mg_below S.out hb) (rwI A5 left) (Kd.R_reads' hs).2.2); clear S; have S := nS; clear nS hs hb; clear q0 q1 q2; obtain ⟨q0, q1, q2⟩ := gx3 S.out (.head _))
  go_wp2_with (go_at_call 17; refine Calls.mono (spec_LeftByClues.calls k P D _ _ L left ok _ (rC S.out (.tail _ (.tail _ (.tail _ (.tail _ (.tail _ (.head _))))))) I0.out E14.out) ?_; rintro e wx ⟨v, rfl, hs, hb⟩; obtain ⟨A6, c6, rfl⟩ := Kd.R_slice hs; have I6 := amk (Kd.R_reads' hs).2.1; have nS := amk (Mg_row (Mg_below S.out hb) (rwI A6 left) (Kd.R_reads' hs).2.2); clear S; have S := nS; clear nS hs hb; clear q0 q1 q2; obtain ⟨q0, q1, q2⟩ := gx3 S.out (.head _))
  go_wp2_with (go_at_call 18; refine Calls.mono (impl_BestClue.calls k P D _ _ L best fv _ (rC S.out (.tail _ (.tail _ (.tail _ (.tail _ (.tail _ (.tail _ (.head _)))))))) I0.out E15.out) ?_; rintro e wx ⟨rfl, hb⟩; have nS := amk (Mg_below S.out hb); clear S; have S := nS; clear nS hb; clear q0 q1 q2; obtain ⟨q0, q1, q2⟩ := gx3 S.out (.head _))
  go_wp2_with (go_at_call 19; refine Calls.mono (spec_BestClue.calls k P D _ _ L best fv _ (rC S.out (.tail _ (.tail _ (.tail _ (.tail _ (.tail _ (.tail _ (.head _)))))))) I0.out E16.out) ?_; rintro e wx ⟨rfl, hb⟩; have nS := amk (Mg_below S.out hb); clear S; have S := nS; clear nS hb; clear q0 q1 q2; obtain ⟨q0, q1, q2⟩ := gx3 S.out (.head _))
  go_wp2_with (go_at_call 20; refine Calls.mono (impl_PuzzleText.calls k P D _ _ L text ok _ (rC S.out (.tail _ (.tail _ (.tail _ (.tail _ (.tail _ (.tail _ (.head _)))))))) I0.out (rE S.out (.tail _ (.tail _ (.tail _ (.tail _ (.tail _ (.tail _ (.tail _ (.head _))))))))).1 E17.out) ?_; rintro e wx ⟨rfl, hb⟩; have nS := amk (Mg_below S.out hb); clear S; have S := nS; clear nS hb; clear q0 q1 q2; obtain ⟨q0, q1, q2⟩ := gx3 S.out (.head _))
  go_upto_region 21 with (go_at_call 21; refine Calls.mono (spec_PuzzleText.calls k P D _ _ L text ok _ (rC S.out (.tail _ (.tail _ (.tail _ (.tail _ (.tail _ (.tail _ (.head _)))))))) I0.out E18.out) ?_; rintro e wx ⟨rfl, hb⟩; have nS := amk (Mg_below S.out hb); clear S; have S := nS; clear nS hb; clear q0 q1 q2)
  refine KUA _ _ ?hq k P D L A c gp all needless left A1 A2 A3 A4 A5 A6 c1 c2 c3 c4 c5 c6 ok th fv solved count best first sure text _ _ _ S.out (.head _) (.tail _ (.tail _ (.tail _ (.tail _ (.tail _ (.tail _ (.head _))))))) I0.out (.tail _ (.tail _ (.tail _ (.tail _ (.tail _ (.head _)))))) (.tail _ (.tail _ (.tail _ (.tail _ (.head _))))) I1.out I2.out (.tail _ (.tail _ (.tail _ (.head _)))) (.tail _ (.tail _ (.head _))) I3.out I4.out (.tail _ (.head _)) (.head _) I5.out I6.out PX1.out PX2.out PX3.out E19.out E20.out G3.out G5.out (fun {u156 u157 u158 u159 u160 u161 u162 u163 u164 u165 u166 u167 u168 u169 u170 u171 u172 u173 u174 u175 u176 u177 u178 u179 u180 u181 u182 u183 u184 u185 u186 u187 u188 u189 u190 u191 u192 u193 u194 u195 u196 u197 u198 u199 u200 u201 u202 u203 u204 u205 u206 u207 u208 u209 u210 u211 u212 u213 u214 u215 u216 u217 u218 u219 u220 u221 u222 u223 u224 u225 u226 u227 u228 u229 u230 u231 u232 u233 u234 u235 u236 u237 u238 u239 u240 u241 u242 u243 u244 u245 u246 u247 u248 u249 u250 u251 u252 u253 u254 u255 u256 u257 u258 u259 u260 u261 u262 u263 u264 u265 u266 u267 u268 u269 u270 u271 u272 u273 u274 u275 u276 u277 u278 u279 u280 u281 u282 u283 u284 u285 u286 u287 u288 u289 u290 u291 u292 u293 u294 u295 u296 u297 u298 u299 u300 u301 u302 u303 u304 u305 u306 u307 u308} W1 s1 => ?_)
  case hq => exact fun _ _ _ _ _ h => h
  clear S E1 E2 E3 E4 E5 E6 E7 E8 E9 E10 E11 E12 E13 E14 E15 E16 E17 E18 E19 E20 PX1 PX2 PX3 G5; have S := amk s1; clear s1
  go_upto_if 310 with (fail)
  refine KUD _ _ ?hq k P D L A c gp all needless left A1 A3 A5 c1 c3 c5 th solved count total best first sure text _ _ ok _ S.out (.head _) (.tail _ (.tail _ (.tail _ (.tail _ (.tail _ (.tail _ (.tail _ (.head _)))))))) (.tail _ (.tail _ (.tail _ (.tail _ (.tail _ (.tail _ (.head _))))))) I0.out (.tail _ (.tail _ (.tail _ (.tail _ (.tail _ (.head _)))))) I1.out (.tail _ (.tail _ (.tail _ (.head _)))) I3.out (.tail _ (.head _)) (fun h => by rw [G3.out, h]; rfl) FB.out (fun {u4 u41 u42 u43 u44 u45 u46 u47 u48 u49 u50 u51 u52 u53 u54 u55 u56 u311 u312 u313 u314 u315 u316 u317 u318 u319 u320 u321 u322 u323 u324 u325 u326 u327 u328 u329 u330 u331 u332 u333 u334 u335 u336 u337 u338 u339 u340 u341 u342 u343 u344 u345 u346 u347 u348 u349 u350 u351 u352 u353 u354 u355 u356 u357 u358 u359 u360 u361 u362 u363 u364 u365 u366 u367 u368 u369 u370 u371 u372 u373 u374 u375 u376 u377 u378 u379 u380 u381 u382 u383 u384 u385 u386 u387 u388 u389 u390 u391 u392 u393 u394 u395 u396 u397 u398 u399 u400 u401 u402 u403 u404 u405 u406 u407 u408 u409 u410 u411 u412 u413 u414 u415 u416 u417 u418 u419 u420 u421 u422 u423 u424 u425 u426 u427 u428 u429 u430 u431 u432 u433 u434 u435 u436 u437 u438 u439 u440 u441 u442 u443 u444 u445 u446 u447 u448 u449 u450 u451 u452 u453 u454 u455 u456 u457 u458 u459 u460 u461 u462 u463 u464 u465 u466 u467 u468 u469 u470 u471 u472 u473 u474 u475 u476 u477 u478 u479 u480 u481 u482 u483 u484 u485 u486 u487 u488 u489 u490 u491 u492 u493 u494 u495 u496 u497 u498 u499 u500 u501 u502 u503 u504 u505 u506} W2 s2 => ?_)
  case hq => exact fun _ _ _ _ _ h => h
  clear S G3 FB; have S := amk s2; clear s2
  obtain ⟨k2, a, b, M, tq, m1, m2, m3, m4⟩ := GS.out s HS.out
  have PM1 := amk m1; have PM2 := amk m2; have PM3 := amk m3; have PM4 := amk m4; clear m1 m2 m3 m4
  have hbb : ∀ b : Bool, (b != b) = false := fun b => by cases b <;> rfl
  have hst : ∀ x : ByteArray, (x.toList == x.toList) = true := fun x => by simp
  go_wp2_with (go_at_call 31; refine Calls.mono (impl_ParsePuzzle.calls k2 s a b M tq _ (rE S.out (.tail _ (.tail _ (.tail _ (.tail _ (.tail _ (.tail _ (.tail _ (.head _))))))))) PM1.out) ?_; rintro e wx ⟨v, rfl, hs, hb⟩; obtain ⟨A7, c7, rfl⟩ := Kd.R_slice hs; have I7 := amk (Kd.R_reads' hs).2.1; have nS := amk (Mg_box (Mg_row (Mg_below S.out hb) (rwC A7 M) (Kd.R_reads' hs).2.2) (pzG a b A7 M.length c7)); clear S; have S := nS; clear nS hs hb)
  go_wp2_with (go_at_call 33; refine Calls.mono (spec_ParsePuzzle.calls k2 s a b M tq _ PM2.out) ?_; rintro e wx ⟨v, rfl, hs, hb⟩; obtain ⟨A8, c8, rfl⟩ := Kd.R_slice hs; have I8 := amk (Kd.R_reads' hs).2.1; have nS := amk (Mg_box (Mg_row (Mg_below S.out hb) (rwC A8 M) (Kd.R_reads' hs).2.2) (pzG a b A8 M.length c8)); clear S; have S := nS; clear nS hs hb; obtain ⟨z0, z1, z2⟩ := gx3 S.out (.tail _ (.head _)); obtain ⟨y0, y1, y2⟩ := gx3 S.out (.head _))
  cases tq with
  | false =>
    go_wp2_with (go_at_call 32; refine Calls.mono (laws_ePuzzle.calls k2 a b _ _ M a b _ _ M true _ (rC S.out (.tail _ (.head _))) I7.out (rC S.out (.head _)) I8.out PM3.out) ?_; rintro e wx ⟨rfl, hb⟩; have nS := amk (Mg_below S.out hb); clear S; have S := nS; clear nS hb; clear z0 z1 z2 y0 y1 y2; obtain ⟨z0, z1, z2⟩ := gx3 S.out (.tail _ (.head _)))
    go_ret; exact ⟨rfl, S.out.1⟩
  | true =>
    have PM5 := amk (PM4.out rfl); clear PM4
    go_wp2_with (go_at_call 32; refine Calls.mono (laws_ePuzzle.calls k2 a b _ _ M a b _ _ M true _ (rC S.out (.tail _ (.head _))) I7.out (rC S.out (.head _)) I8.out PM3.out) ?_; rintro e wx ⟨rfl, hb⟩; have nS := amk (Mg_below S.out hb); clear S; have S := nS; clear nS hb; clear z0 z1 z2 y0 y1 y2; obtain ⟨z0, z1, z2⟩ := gx3 S.out (.tail _ (.head _)))
    go_wp2_with (go_at_call 20; refine Calls.mono (impl_PuzzleText.calls k2 a b _ _ M s true _ (rC S.out (.tail _ (.head _))) I7.out (rE S.out (.tail _ (.tail _ (.tail _ (.tail _ (.tail _ (.tail _ (.tail _ (.tail _ (.tail _ (.head _))))))))))).1 PM5.out) ?_; rintro e wx ⟨rfl, hb⟩; have nS := amk (Mg_below S.out hb); clear S; have S := nS; clear nS hb; clear z0 z1 z2)
    go_ret; exact ⟨rfl, S.out.1⟩
section
/-! What a readable argument holds, told by kinds: the bridge from a statement's reading to the print's words. -/
open Go.WideShapes in
def Opens {α : Type} (P : Program) (t : TypeId) (d : Kd α) (V : α → Prop) : Prop :=
  ∀ (H : Type) (enc : TypeId × Value → H) (w : World) (base : Nat) (spare : Nat → Bool) (held : Bool) (fuel : Nat) (cs : List Value) (x : DataW H × List MemPlace),
    DataW.trod enc P w base spare held fuel t cs = some x → ∃ a : α, d.K w a cs ∧ V a
def IntV (a : Int) : Prop := -9223372036854775808 ≤ a ∧ a ≤ 9223372036854775807
def StrV (s : ByteArray) : Prop := s.size ≤ 9223372036854775807
def ListV {α : Type} (V : α → Prop) (l : List α) : Prop := l.length ≤ 9223372036854775807 ∧ ∀ x ∈ l, V x
theorem opens_int {P : Program} {t : TypeId} (ht : P.underlying t = some (.int .i64)) : Opens P t (Kd.int .i64) IntV := by
  intro H enc w base spare held fuel cs x h
  obtain ⟨n, rfl, _, hw⟩ := DataW.trod_int ht h
  refine ⟨n, rfl, ?_⟩
  have hb : (IntKind.i64.min ≤ n ∧ n ≤ IntKind.i64.max) := by simpa [Lit.wf] using hw
  have e1 : IntKind.i64.min = -9223372036854775808 := rfl
  have e2 : IntKind.i64.max = 9223372036854775807 := rfl
  rw [e1, e2] at hb
  unfold IntV
  omega
theorem cells_list {w : World} {base : Nat} {a : Addr} {n : Nat} {cs : List Value} (h : w.cells? base a n = some cs) : cs.length = n ∧ ∀ i u, cs[i]? = some u → w.cell? (a.add i) = some u := by
  unfold World.cells? at h
  split at h
  · have hl := mapM_some_length h
    refine ⟨by simpa using hl, fun i u hu => ?_⟩
    have hi : i < n := by
      have := (List.getElem?_eq_some_iff.1 hu).1
      rw [hl] at this; simpa using this
    have := mapM_some_get h i i (by simp [hi])
    rw [hu] at this
    exact this
  · cases h
theorem opens_slice {α : Type} {P : Program} {t e : TypeId} {d : Kd α} {V : α → Prop} (ht : P.underlying t = some (.slice e)) (hd : Opens P e d V) (hsz : P.cellsOf e = d.sz) : Opens P t (Kd.slice e d) (ListV V) := by
  intro H enc w base spare held fuel cs x h
  rcases Go.Deep.open_slice ht h with ⟨rfl, _⟩ | ⟨a, len, cap, m, n, D, Pl, rfl, _, hl, hm, hmm, _, hel⟩
  · exact ⟨[], ⟨none, 0, rfl, Nat.le_refl _, ⟨rfl, by simp, fun h0 => absurd h0 (by simp)⟩⟩, ⟨by simp, fun x hx => by simp at hx⟩⟩
  · have hle : len ≤ m := by rw [hmm]; split <;> omega
    have each : ∀ i : Nat, ∃ a' : Option α, i < len → ∃ z cs', a' = some z ∧ V z ∧ d.K w z cs' ∧ ∀ j u, cs'[j]? = some u → w.cell? (a.add (i * d.sz + j)) = some u := by
      intro i
      by_cases hi : i < len
      · obtain ⟨cs', h1, h2⟩ := hel i (by omega)
        obtain ⟨z, hK, hV⟩ := hd H enc w base spare held n cs' _ h2
        refine ⟨some z, fun _ => ⟨z, cs', rfl, hV, hK, fun j u hu => ?_⟩⟩
        obtain ⟨_, hc⟩ := cells_list h1
        have := hc j u hu
        rw [Go.Deep.add_add, hsz] at this
        exact this
      · exact ⟨none, fun h0 => absurd h0 hi⟩
    have ⟨f, hf⟩ := Classical.axiomOfChoice each
    have hz : ∀ i, i < len → ∃ z, f i = some z ∧ V z ∧ ∃ cs', d.K w z cs' ∧ ∀ j u, cs'[j]? = some u → w.cell? (a.add (i * d.sz + j)) = some u := by
      intro i hi
      obtain ⟨z, cs', h1, h2, h3, h4⟩ := hf i hi
      exact ⟨z, h1, h2, cs', h3, h4⟩
    have hlist : ∃ l : List α, l.length = len ∧ ∀ i, i < len → f i = l[i]? := by
      clear hf each hel hmm hle
      have : ∀ n, n ≤ len → ∃ l : List α, l.length = n ∧ ∀ i, i < n → f i = l[i]? := by
        intro n
        induction n with
        | zero => intro _; exact ⟨[], rfl, fun i hi => by omega⟩
        | succ n ih =>
          intro hn
          obtain ⟨l, hl1, hl2⟩ := ih (by omega)
          obtain ⟨z, h1, _⟩ := hz n (by omega)
          refine ⟨l ++ [z], by simp [hl1], fun i hi => ?_⟩
          by_cases e : i < n
          · rw [List.getElem?_append_left (by omega)]; exact hl2 i e
          · obtain rfl : i = n := by omega
            rw [h1, ← hl1]; simp
      exact this len (Nat.le_refl _)
    obtain ⟨l, hlen, hget⟩ := hlist
    have hV : ∀ x ∈ l, V x := by
      intro x hx
      obtain ⟨i, hi, rfl⟩ := List.getElem_of_mem hx
      obtain ⟨z, h1, h2, _⟩ := hz i (by omega)
      have h3 := hget i (by omega)
      rw [h1, List.getElem?_eq_getElem hi] at h3
      injection h3 with h3
      rw [← h3]; exact h2
    unfold maxLen at hm
    subst hlen
    refine ⟨l, ⟨some a, cap, rfl, hl, ⟨rfl, by omega, fun _ => ⟨a, rfl, fun j p hp => ?_⟩⟩⟩, ⟨by omega, hV⟩⟩
    have hj : j < l.length := (List.getElem?_eq_some_iff.1 hp).1
    obtain ⟨z, h1, _, cs', h3, h4⟩ := hz j hj
    have h5 := hget j hj
    rw [h1, hp] at h5
    injection h5 with h5
    subst h5
    exact ⟨cs', d.K_len h3, h3, h4⟩
theorem opens_pair {α β : Type} {P : Program} {t : TypeId} {f0 f1 : Field} {d0 : Kd α} {d1 : Kd β} {V0 : α → Prop} {V1 : β → Prop} (ht : P.underlying t = some (.struct #[f0, f1]))
    (h0 : Opens P f0.type d0 V0) (h1 : Opens P f1.type d1 V1) (o0 : f0.offset = 0) (o1 : f1.offset = d0.sz) (z0 : P.cellsOf f0.type = d0.sz) (z1 : P.cellsOf f1.type = d1.sz) (zt : P.cellsOf t = d0.sz + d1.sz) :
    Opens P t (Kd.pair d0 d1) (fun x => V0 x.1 ∧ V1 x.2) := by
  intro H enc w base spare held fuel cs x h
  obtain ⟨y0, y1, n, _, hl, g0, g1⟩ := ChangeShapes.trod_struct2 ht h
  rw [o0, z0, List.drop_zero] at g0
  rw [o1, z1] at g1
  obtain ⟨a, ka, va⟩ := h0 H enc w base spare held n _ _ g0
  obtain ⟨b, kb, vb⟩ := h1 H enc w base spare held n _ _ g1
  refine ⟨(a, b), ⟨_, _, ?_, ka, kb⟩, va, vb⟩
  rw [List.take_of_length_le (l := cs.drop d0.sz) (by rw [List.length_drop, hl, zt]; omega), List.take_append_drop]
theorem opens_trip {α β γ : Type} {P : Program} {t : TypeId} {f0 f1 f2 : Field} {d0 : Kd α} {d1 : Kd β} {d2 : Kd γ} {V0 : α → Prop} {V1 : β → Prop} {V2 : γ → Prop} (ht : P.underlying t = some (.struct #[f0, f1, f2]))
    (h0 : Opens P f0.type d0 V0) (h1 : Opens P f1.type d1 V1) (h2 : Opens P f2.type d2 V2) (o0 : f0.offset = 0) (o1 : f1.offset = d0.sz) (o2 : f2.offset = d0.sz + d1.sz)
    (z0 : P.cellsOf f0.type = d0.sz) (z1 : P.cellsOf f1.type = d1.sz) (z2 : P.cellsOf f2.type = d2.sz) (zt : P.cellsOf t = d0.sz + d1.sz + d2.sz) :
    Opens P t (Kd.pair d0 (Kd.pair d1 d2)) (fun x => V0 x.1 ∧ V1 x.2.1 ∧ V2 x.2.2) := by
  intro H enc w base spare held fuel cs x h
  obtain ⟨xs, n, _, _, hl, hxl, hf⟩ := DataW.trod_struct ht h
  match xs, hxl with
  | [y0, y1, y2], _ =>
    have g0 := hf 0 f0 rfl
    have g1 := hf 1 f1 rfl
    have g2 := hf 2 f2 rfl
    rw [o0, z0, List.drop_zero] at g0
    rw [o1, z1] at g1
    rw [o2, z2] at g2
    obtain ⟨a, ka, va⟩ := h0 H enc w base spare held n _ _ g0
    obtain ⟨b, kb, vb⟩ := h1 H enc w base spare held n _ _ g1
    obtain ⟨c, kc, vc⟩ := h2 H enc w base spare held n _ _ g2
    refine ⟨(a, b, c), ⟨_, _, ?_, ka, ⟨_, _, rfl, kb, kc⟩⟩, va, vb, vc⟩
    rw [List.take_of_length_le (l := cs.drop (d0.sz + d1.sz)) (by rw [List.length_drop, hl, zt]; omega)]
    rw [← List.drop_drop, List.take_append_drop, List.take_append_drop]
theorem opens_iso {α β : Type} {P : Program} {t : TypeId} {d : Kd α} {V : α → Prop} (h : Opens P t d V) (f : β → α) (g : α → β) (e : ∀ a, f (g a) = a) : Opens P t (Kd.iso d f) (fun x => V (f x)) := by
  intro H enc w base spare held fuel cs x hx
  obtain ⟨a, ka, va⟩ := h H enc w base spare held fuel cs x hx
  exact ⟨g a, by show d.K w (f (g a)) cs; rw [e]; exact ka, by show V (f (g a)); rw [e]; exact va⟩
section
variable {H : Type} {enc : TypeId × Value → H} {P : Program} {w : World} {base : Nat} {spare : Nat → Bool} {held : Bool} {r : Reach} {b0 : Nat} {t : TypeId} {v : Value} {x : DataW H} {p : List MemPlace}
theorem arg_struct {α : Type} {d : Kd α} {V : α → Prop} (ho : Opens P t d V) {fs : Array Field} (hs : P.underlying t = some (.struct fs)) (hv : Value.okWide P w r b0 t v) (h : DataW.Trod enc P w base spare held t v x p) :
    ∃ a cs, v = .agg (List.toArray cs) ∧ d.K w a cs ∧ V a := by
  obtain ⟨cs, rfl, _⟩ := WideShapes.okWide_struct hs hv
  obtain ⟨fuel, hf⟩ := h
  obtain ⟨a, hk, hV⟩ := ho H enc w base spare held fuel _ _ hf
  exact ⟨a, cs.toList, by simp, by simpa [Value.cells] using hk, hV⟩
theorem arg_string (ht : P.underlying t = some .string) (hv : Value.okWide P w r b0 t v) (h : DataW.Trod enc P w base spare held t v x p) : ∃ a, v = .string a ∧ StrV a := by
  obtain ⟨a, rfl, _, _, hw⟩ := ChangeMaps.open_string ht hv h
  unfold maxLen at hw
  exact ⟨a, rfl, hw⟩
theorem arg_lt (h : DataW.Trod enc P w base spare held t v x p) : ∀ y ∈ p, y.block < w.heap.size := by
  obtain ⟨m, hm⟩ := h
  exact DataW.trod_lt m _ _ _ hm
end
end
/-! Declarations moved out of EVal. -/
theorem spec_whDigits.ev {s : ByteArray} (h6 : s.size ≤ 6) (h : ∀ i < s.size, 48 ≤ bt s (i : Nat) ∧ bt s (i : Nat) ≤ 57) : Ev (fun k => spec_whDigits.f k s) (dg s) := by
  have : ∀ m i : Nat, i + m = s.size → ∀ xs : List Int, xs.length = i → Ev (fun k => spec_whDigits.l0 k s xs (i : Nat)) (xs ++ (List.range' i m).map fun i => bt s (i : Nat) - 48) := by
    intro m
    induction m with
    | zero =>
      intro i hi xs hx
      refine Ev.step (fun k => rfl) ?_
      refine Ev.no (by omega) ?_
      exact Ev.id (by simp)
    | succ m ih =>
      intro i hi xs hx
      refine Ev.step (fun k => rfl) ?_
      refine Ev.yes (by omega) (Ev.yes (by omega) (Ev.yes (by omega) ?_))
      have := ih (i + 1) (by omega) (xs ++ [bt s (i : Nat) - 48]) (by simp [hx])
      have hb := h i (by omega)
      rw [show ((bt s (i : Nat)) - 48) % 256 = bt s (i : Nat) - 48 by omega, show wrap64 ((i : Int) + 1) = ((i + 1 : Nat) : Int) from w64 (by omega) (by omega)]
      refine Ev.eq this ?_
      rw [List.range'_succ]
      simp
  have := this s.size 0 (by omega) [] rfl
  refine Ev.eq this ?_
  simp [dg, List.range_eq_range']
theorem impl_digits.ev {w d : Int} {s : ByteArray} (hl : lockB w d = true) (hs : codeS w d s) : Ev (fun k => impl_digits.f k s) (dg s) := by
  obtain ⟨w1, w2, d1, d2⟩ := lockB_iff.mp hl
  have h1 := hs.1
  exact impl_digits_of (by omega) (fun i hi => by have := hs.2 i hi; omega)
theorem spec_whDigits.evc {w d : Int} {s : ByteArray} (hl : lockB w d = true) (hs : codeS w d s) : Ev (fun k => spec_whDigits.f k s) (dg s) := by
  obtain ⟨w1, w2, d1, d2⟩ := lockB_iff.mp hl
  have h1 := hs.1
  exact spec_whDigits.ev (by omega) (fun i hi => by have := hs.2 i hi; omega)
theorem impl_Lock_number.lev (w d : Int) (D : List Int) (hD : D.length ≤ 6) : ∀ (m i : Nat), i + m = D.length → ∀ acc, Ev (fun k => impl_Lock_number.l0 k acc D (D.length : Int) (i : Nat) w d) (numF d acc (D.drop i)) := by
  intro m
  induction m with
  | zero =>
    intro i hi acc
    refine Ev.step (fun k => rfl) (Ev.no (by omega) (Ev.id ?_))
    rw [List.drop_eq_nil_of_le (by omega)]; rfl
  | succ m ih =>
    intro i hi acc
    refine Ev.step (fun k => rfl) (Ev.yes (by omega) (Ev.yes (by omega) (Ev.yes (by omega) ?_)))
    have hlt : i < D.length := by omega
    rw [show wrap64 ((i : Int) + 1) = ((i + 1 : Nat) : Int) from w64 (by omega) (by omega), List.drop_eq_getElem_cons hlt, rd_at (by simpa using hlt)]
    exact ih (i + 1) (by omega) _
theorem spec_whNumber.lev (w d : Int) (D : List Int) (hD : D.length ≤ 6) : ∀ (m i : Nat), i + m = D.length → ∀ acc, Ev (fun k => spec_whNumber.l0 k acc D (D.length : Int) (i : Nat) w d) (numF d acc (D.drop i)) := by
  intro m
  induction m with
  | zero =>
    intro i hi acc
    refine Ev.step (fun k => rfl) (Ev.no (by omega) (Ev.id ?_))
    rw [List.drop_eq_nil_of_le (by omega)]; rfl
  | succ m ih =>
    intro i hi acc
    refine Ev.step (fun k => rfl) (Ev.yes (by omega) (Ev.yes (by omega) (Ev.yes (by omega) ?_)))
    have hlt : i < D.length := by omega
    rw [show wrap64 ((i : Int) + 1) = ((i + 1 : Nat) : Int) from w64 (by omega) (by omega), List.drop_eq_getElem_cons hlt, rd_at (by simpa using hlt)]
    exact ih (i + 1) (by omega) _
theorem impl_Lock_number.ev {w d : Int} {s : ByteArray} (hl : lockB w d = true) (hs : codeS w d s) : Ev (fun k => impl_Lock_number.f k w d s) (numF d 0 (dg s)) := by
  have h6 : (dg s).length ≤ 6 := by rw [dg_length, hs.1]; have := lockB_iff.mp hl; omega
  unfold impl_Lock_number.f
  exact Ev.bind (impl_digits.ev hl hs) (impl_Lock_number.lev w d _ h6 (dg s).length 0 (by omega) 0)
theorem spec_whNumber.ev {w d : Int} {s : ByteArray} (hl : lockB w d = true) (hs : codeS w d s) : Ev (fun k => spec_whNumber.f k w d s) (numF d 0 (dg s)) := by
  have h6 : (dg s).length ≤ 6 := by rw [dg_length, hs.1]; have := lockB_iff.mp hl; omega
  unfold spec_whNumber.f
  exact Ev.bind (spec_whDigits.evc hl hs) (spec_whNumber.lev w d _ h6 (dg s).length 0 (by omega) 0)
/-! Declarations moved out of ETexts. -/
theorem spec_whText.lev (D : List Int) (hD : D.length ≤ 1000) (h : ∀ x ∈ D, 0 ≤ x ∧ x < 10) : ∀ (m i : Nat), i + m = D.length → Ev (fun k => spec_whText.l0 k (textB (D.take i)) D (D.length : Int) (i : Nat)) (textB D) := by
  intro m
  induction m with
  | zero =>
    intro i hi
    refine Ev.step (fun k => rfl) (Ev.no (by omega) (Ev.id ?_))
    rw [List.take_of_length_le (by omega)]
  | succ m ih =>
    intro i hi
    have hlt : i < D.length := by omega
    have hx := h D[i] (List.getElem_mem hlt)
    refine Ev.step (fun k => rfl) (Ev.yes (by omega) (Ev.yes (by omega) (Ev.yes (by omega) ?_)))
    rw [rd_at (by simpa using hlt)]
    refine Ev.bind (spec_l1Num.one (by simpa using hx.2)) ?_
    refine Ev.yes (by rw [textB_size, strOfNums_size, List.length_take]; simp; omega) ?_
    rw [show wrap64 ((i : Int) + 1) = ((i + 1 : Nat) : Int) from w64 (by omega) (by omega)]
    have := ih (i + 1) (by omega)
    rw [List.take_succ_eq_append_getElem hlt, textB_app] at this
    exact this
theorem spec_whText.ev (D : List Int) (hD : D.length ≤ 1000) (h : ∀ x ∈ D, 0 ≤ x ∧ x < 10) : Ev (fun k => spec_whText.f k D) (textB D) := by
  unfold spec_whText.f
  exact spec_whText.lev D hD h D.length 0 (by omega)
/-! Declarations moved out of EVal2. -/
theorem spec_whOf.lev {w d : Int} (hl : lockB w d = true) (D : List Int) (hD : D.length = w.toNat) (h : ∀ x ∈ D, 0 ≤ x ∧ x < 10) : ∀ (m : Nat) (n : Int) (T : List Int), 0 ≤ n → n ≤ 9223372036854775807 → digs d m n ++ T = D → Ev (fun k => spec_whOf.l0 k n (List.replicate m 0 ++ T) ((m : Int) - 1) w d) (textB D) := by
  obtain ⟨w1, w2, d1, d2⟩ := lockB_iff.mp hl
  intro m
  induction m with
  | zero =>
    intro n T h0 h1 hT
    refine Ev.step (fun k => rfl) (Ev.no (by omega) ?_)
    have : List.replicate 0 (0 : Int) ++ T = D := hT
    rw [this]
    exact Ev.bind (spec_whText.ev D (by omega) h) (Ev.now _)
  | succ m ih =>
    intro n T h0 h1 hT
    have hlen : m + 1 + T.length = D.length := by rw [← hT, List.length_append, digs_length]
    refine Ev.step (fun k => rfl) (Ev.yes (by omega) (Ev.no (by omega) (Ev.yes (by omega) (Ev.yes (by rw [List.length_append, List.length_replicate]; omega) ?_))))
    rw [show ((m + 1 : Nat) : Int) - 1 = (m : Nat) by omega, Int.toNat_natCast, rep_set, Int.tmod_eq_emod_of_nonneg h0, Int.tdiv_eq_ediv_of_nonneg h0]
    have r3 : 0 ≤ n / d := Int.ediv_nonneg h0 (by omega)
    have r4 : n / d ≤ n := Int.ediv_le_self _ h0
    rw [w64 (x := n / d) (by omega) (by omega), w64 (x := (m : Int) - 1) (by omega) (by omega)]
    refine ih (n / d) (n % d :: T) r3 (by omega) ?_
    rw [digs, List.append_assoc] at hT
    exact hT
theorem spec_whOf.ev {w d a : Int} (hl : lockB w d = true) (h0 : 0 ≤ a) (h1 : a ≤ 9223372036854775807) : Ev (fun k => spec_whOf.f k w d a) (codeB w d a) := by
  obtain ⟨w1, w2, d1, d2⟩ := lockB_iff.mp hl
  unfold spec_whOf.f
  refine Ev.yes (by omega) (Ev.yes (by omega) ?_)
  rw [w64 (x := w - 1) (by omega) (by omega)]
  have := spec_whOf.lev hl (digs d w.toNat a) (by rw [digs_length]) (fun x hx => by have := digs_range (d := d) (by omega) w.toNat a x hx; omega) w.toNat a [] h0 h1 (by rw [List.append_nil])
  rw [List.append_nil, show ((w.toNat : Nat) : Int) - 1 = w - 1 by omega] at this
  exact this
/-! What clues tell of codes: impl's and spec's agree. -/
theorem spec_pzValue.lev (D : List Int) (hD : D.length ≤ 6) : ∀ (m i : Nat), i + m = D.length → ∀ acc, Ev (fun k => spec_pzValue.l0 k acc D (D.length : Int) (i : Nat)) (sumF acc (D.drop i)) := by
  intro m
  induction m with
  | zero =>
    intro i hi acc
    refine Ev.step (fun k => rfl) (Ev.no (by omega) (Ev.id ?_))
    rw [List.drop_eq_nil_of_le (by omega)]; rfl
  | succ m ih =>
    intro i hi acc
    refine Ev.step (fun k => rfl) (Ev.yes (by omega) (Ev.yes (by omega) (Ev.yes (by omega) ?_)))
    have hlt : i < D.length := by omega
    rw [show wrap64 ((i : Int) + 1) = ((i + 1 : Nat) : Int) from w64 (by omega) (by omega), List.drop_eq_getElem_cons hlt, rd_at (by simpa using hlt)]
    exact ih (i + 1) (by omega) _
theorem impl_Lock_told.lev (D : List Int) (hD : D.length ≤ 6) : ∀ (m i : Nat), i + m = D.length → ∀ acc, Ev (fun k => impl_Lock_told.l0 k acc D (D.length : Int) (i : Nat)) (1, sumF acc (D.drop i), 0) := by
  intro m
  induction m with
  | zero =>
    intro i hi acc
    refine Ev.step (fun k => rfl) (Ev.no (by omega) (Ev.id ?_))
    rw [List.drop_eq_nil_of_le (by omega)]; rfl
  | succ m ih =>
    intro i hi acc
    refine Ev.step (fun k => rfl) (Ev.yes (by omega) (Ev.yes (by omega) (Ev.yes (by omega) ?_)))
    have hlt : i < D.length := by omega
    rw [show wrap64 ((i : Int) + 1) = ((i + 1 : Nat) : Int) from w64 (by omega) (by omega), List.drop_eq_getElem_cons hlt, rd_at (by simpa using hlt)]
    exact ih (i + 1) (by omega) _
/-! spec's texts of codes, distances: what they come to. -/
theorem spec_l1Least.is (a b : Int) : spec_l1Least.f a b = some (lst a b) := by unfold spec_l1Least.f lst; split <;> rfl
theorem turnV_range {d x y : Int} (hd : 2 ≤ d) (hd2 : d ≤ 10) (hx : -300 ≤ x ∧ x ≤ 300) (hy : -300 ≤ y ∧ y ≤ 300) : 0 ≤ turnV d x y ∧ turnV d x y < d := by
  unfold turnV
  have e1 : wrap64 (y - x) = y - x := w64 (by omega) (by omega)
  have h1 : -d < Int.tmod (y - x) d := Int.lt_tmod_of_pos _ (by omega)
  have h2 : Int.tmod (y - x) d < d := Int.tmod_lt_of_pos _ (by omega)
  rw [e1, w64 (by omega) (by omega), Int.tmod_eq_emod_of_nonneg (by omega)]
  exact ⟨Int.emod_nonneg _ (by omega), Int.emod_lt_of_pos _ (by omega)⟩
theorem spec_whDistance.lev {w d : Int} (hl : lockB w d = true) {s t : ByteArray} (hs : codeS w d s) (ht : codeS w d t) : ∀ (m i : Nat), i + m = s.size → Ev (fun k => spec_whDistance.l0 k (dg s) (dg t) (distF d s t i) ((dg s).length : Int) (i : Nat) w d) (distF d s t s.size) := by
  obtain ⟨w1, w2, d1, d2⟩ := lockB_iff.mp hl
  have hsz := hs.1
  have htz := ht.1
  intro m
  induction m with
  | zero =>
    intro i hi
    refine Ev.step (fun k => rfl) (Ev.no (by rw [dg_length]; omega) (Ev.id ?_))
    rw [show i = s.size by omega]
  | succ m ih =>
    intro i hi
    have a1 := hs.2 i (by omega)
    have a2 := ht.2 i (by omega)
    refine Ev.step (fun k => rfl) (Ev.yes (by rw [dg_length]; omega) (Ev.yes (by omega) (Ev.yes (by rw [dg_length]; omega) (Ev.yes (by rw [dg_length]; omega) ?_))))
    rw [dg_at (by omega), dg_at (by omega)]
    have hf : spec_whFar.f w d (bt s (i : Nat) - 48) (bt t (i : Nat) - 48) = some (turnV d (bt s (i : Nat)) (bt t (i : Nat)), Int.tmod (wrap64 (d - turnV d (bt s (i : Nat)) (bt t (i : Nat)))) d) := by
      unfold spec_whFar.f spec_l1Mod.f turnV
      rw [if_neg (by omega), show bt t (i : Nat) - 48 - (bt s (i : Nat) - 48) = bt t (i : Nat) - bt s (i : Nat) by omega]
      simp only [Option.bind_some]
      rw [if_neg (by omega)]
    refine Ev.bindc hf (Ev.bindc (spec_l1Least.is _ _) ?_)
    rw [show wrap64 ((i : Int) + 1) = ((i + 1 : Nat) : Int) from w64 (by omega) (by omega)]
    exact ih (i + 1) (by omega)
theorem impl_Lock_distance.lev {w d : Int} (hl : lockB w d = true) {s t : ByteArray} (hs : codeS w d s) (ht : codeS w d t) : ∀ (m i : Nat), i + m = s.size → Ev (fun k => impl_Lock_distance.l0 k s t (distF d s t i) (s.size : Int) (i : Nat) w d) (distF d s t s.size) := by
  obtain ⟨w1, w2, d1, d2⟩ := lockB_iff.mp hl
  have hsz := hs.1
  have htz := ht.1
  intro m
  induction m with
  | zero =>
    intro i hi
    refine Ev.step (fun k => rfl) (Ev.no (by omega) (Ev.id ?_))
    rw [show i = s.size by omega]
  | succ m ih =>
    intro i hi
    have a1 := hs.2 i (by omega)
    have a2 := ht.2 i (by omega)
    refine Ev.step (fun k => rfl) (Ev.yes (by omega) (Ev.yes (by omega) (Ev.yes (by omega) (Ev.yes (by omega) ?_))))
    have hr := turnV_range (d := d) (x := bt s (i : Nat)) (y := bt t (i : Nat)) d1 d2 (by omega) (by omega)
    have hf : impl_Lock_near.f w d (wrap64 (bt s (i : Nat))) (wrap64 (bt t (i : Nat))) = some (nearV d (bt s (i : Nat)) (bt t (i : Nat))) := by
      unfold impl_Lock_near.f impl_Lock_gap.f impl_around.f
      rw [if_neg (by omega), w64 (x := bt s (i : Nat)) (by omega) (by omega), w64 (x := bt t (i : Nat)) (by omega) (by omega)]
      simp only [Option.bind_some]
      show some (mn (turnV d (bt s (i : Nat)) (bt t (i : Nat))) (wrap64 (d - turnV d (bt s (i : Nat)) (bt t (i : Nat))))) = _
      unfold nearV
      generalize turnV d (bt s (i : Nat)) (bt t (i : Nat)) = q at hr
      rw [w64 (x := d - q) (by omega) (by omega)]
      congr 1
      by_cases hq : q = 0
      · subst hq
        rw [Int.sub_zero, Int.tmod_self]
        unfold mn lst
        simp
        omega
      · rw [Int.tmod_eq_of_lt (by omega) (by omega)]
        unfold mn lst
        by_cases e : q < d - q
        · simp [e]; omega
        · simp [e]; omega
    refine Ev.bindc hf ?_
    rw [show wrap64 ((i : Int) + 1) = ((i + 1 : Nat) : Int) from w64 (by omega) (by omega)]
    exact ih (i + 1) (by omega)
theorem spec_whDistance.ev {w d : Int} (hl : lockB w d = true) {s t : ByteArray} (hs : codeS w d s) (ht : codeS w d t) : Ev (fun k => spec_whDistance.f k w d s t) (distF d s t w.toNat) := by
  unfold spec_whDistance.f
  rw [← hs.1]
  exact Ev.bind (spec_whDigits.evc hl hs) (Ev.bind (spec_whDigits.evc hl ht) (spec_whDistance.lev hl hs ht s.size 0 (by omega)))
theorem impl_Lock_distance.ev {w d : Int} (hl : lockB w d = true) {s t : ByteArray} (hs : codeS w d s) (ht : codeS w d t) : Ev (fun k => impl_Lock_distance.f k w d s t) (distF d s t w.toNat) := by
  unfold impl_Lock_distance.f
  rw [← hs.1]
  exact impl_Lock_distance.lev hl hs ht s.size 0 (by omega)
/-! Whether codes fit clues; all solutions: what both sides come to. -/
theorem clueB_cases {w d a b c : Int} (h : clueB w d a b c = true) : (a = 0 ∧ 0 ≤ b ∧ b ≤ w - 1) ∨ (a = 1 ∧ c = 0) ∨ (a = 2 ∧ 0 ≤ b ∧ b ≤ d ^ w.toNat - 1) ∨ (a = 3 ∧ 0 ≤ b ∧ b ≤ d ^ w.toNat - 1) ∨ (a = 4 ∧ 2 ≤ b ∧ b ≤ 9) := by
  unfold clueB at h
  by_cases h0 : a = 0
  · rw [if_pos h0] at h; simp at h; omega
  rw [if_neg h0] at h
  by_cases h1 : a = 1
  · rw [if_pos h1] at h; simp at h; omega
  rw [if_neg h1] at h
  by_cases h2 : a = 2
  · rw [if_pos h2] at h; simp at h; omega
  rw [if_neg h2] at h
  by_cases h3 : a = 3
  · rw [if_pos h3] at h; simp at h; omega
  rw [if_neg h3] at h
  by_cases h4 : a = 4
  · rw [if_pos h4] at h; simp at h; omega
  rw [if_neg h4] at h; cases h
theorem spec_hiOf.is {a b : ByteArray} (h : hintB a b = true) : spec_hiOf.f a b = some (plN a b a.size, cmN a b a.size 10 - plN a b a.size) := by unfold spec_hiOf.f; rw [if_pos h]
theorem impl_hint.is {a b : ByteArray} (h : hintB a b = true) : impl_hint.f a b = some (plN a b a.size, cmN a b a.size 10 - plN a b a.size) := by unfold impl_hint.f; rw [if_pos h]
theorem spec_pzValue.ev {w d a b : Int} (hl : lockB w d = true) {s : ByteArray} (hs : codeS w d s) (h : (a = 0 ∧ 0 ≤ b ∧ b ≤ w - 1) ∨ a = 1 ∨ (a = 2 ∧ 0 ≤ b ∧ b ≤ d ^ w.toNat - 1) ∨ (a = 3 ∧ 0 ≤ b ∧ b ≤ d ^ w.toNat - 1) ∨ (a = 4 ∧ 2 ≤ b ∧ b ≤ 9)) :
    Ev (fun k => spec_pzValue.f k w d a b s) (valV w d a b s) := by
  obtain ⟨w1, w2, d1, d2⟩ := lockB_iff.mp hl
  have hsz := hs.1
  have hcb := count_bound hl
  have h6 : (dg s).length ≤ 6 := by rw [dg_length]; omega
  unfold spec_pzValue.f
  rcases h with ⟨rfl, h1, h2⟩ | rfl | ⟨rfl, h1, h2⟩ | ⟨rfl, h1, h2⟩ | ⟨rfl, h1, h2⟩
  · rw [show valV w d 0 b s = bt s b - 48 by simp [valV]]
    have hb := hs.2 b.toNat (by omega)
    rw [show ((b.toNat : Nat) : Int) = b by omega] at hb
    refine Ev.yes rfl (Ev.yes h1 (Ev.yes (by omega) (Ev.id (by omega))))
  · rw [show valV w d 1 b s = sumF 0 (dg s) by simp [valV]]
    exact Ev.no (by omega) (Ev.yes rfl (Ev.bind (spec_whDigits.evc hl hs) (spec_pzValue.lev _ h6 (dg s).length 0 (by omega) 0)))
  · rw [show valV w d 2 b s = plN (codeB w d b) s w.toNat by simp [valV]]
    have hc := codeB_code (a := b) hl
    refine Ev.no (by omega) (Ev.no (by omega) (Ev.yes rfl (Ev.bind (spec_whOf.ev hl h1 (by omega)) (Ev.bindc (spec_hiOf.is (codeS_hint hl hc hs)) (Ev.id ?_)))))
    rw [hc.1]
  · rw [show valV w d 3 b s = distF d (codeB w d b) s w.toNat by simp [valV]]
    have hc := codeB_code (a := b) hl
    exact Ev.no (by omega) (Ev.no (by omega) (Ev.no (by omega) (Ev.yes rfl (Ev.bind (spec_whOf.ev hl h1 (by omega)) (Ev.bind (spec_whDistance.ev hl hc hs) (Ev.now _))))))
  · rw [show valV w d 4 b s = Int.tmod (numF d 0 (dg s)) b by simp [valV]]
    exact Ev.no (by omega) (Ev.no (by omega) (Ev.no (by omega) (Ev.no (by omega) (Ev.bind (spec_whNumber.ev hl hs) (Ev.no (by omega) (Ev.now _))))))
theorem impl_Lock_told.ev {w d a b c : Int} (hl : lockB w d = true) {s : ByteArray} (hs : codeS w d s) (h : clueB w d a b c = true) :
    Ev (fun k => impl_Lock_told.f k w d a b s) (if a = 1 then (1, valV w d 1 0 s, 0) else (a, b, valV w d a b s)) := by
  obtain ⟨w1, w2, d1, d2⟩ := lockB_iff.mp hl
  have hsz := hs.1
  have hcb := count_bound hl
  have h6 : (dg s).length ≤ 6 := by rw [dg_length]; omega
  unfold impl_Lock_told.f
  rcases clueB_cases h with ⟨rfl, h1, h2⟩ | ⟨rfl, h1⟩ | ⟨rfl, h1, h2⟩ | ⟨rfl, h1, h2⟩ | ⟨rfl, h1, h2⟩
  · rw [if_neg (show ¬ (0 : Int) = 1 by omega), show valV w d 0 b s = bt s b - 48 by simp [valV]]
    refine Ev.yes rfl (Ev.bind (impl_digits.ev hl hs) (Ev.yes h1 (Ev.yes (by rw [dg_length]; omega) (Ev.id ?_))))
    have := dg_at (s := s) (i := b.toNat) (by omega)
    rw [show ((b.toNat : Nat) : Int) = b by omega] at this
    rw [this]
  · rw [if_pos rfl, show valV w d 1 0 s = sumF 0 (dg s) by simp [valV]]
    exact Ev.no (by omega) (Ev.yes rfl (Ev.bind (impl_digits.ev hl hs) (impl_Lock_told.lev _ h6 (dg s).length 0 (by omega) 0)))
  · rw [if_neg (show ¬ (2 : Int) = 1 by omega), show valV w d 2 b s = plN (codeB w d b) s w.toNat by simp [valV]]
    have hc := codeB_code (a := b) hl
    refine Ev.no (by omega) (Ev.no (by omega) (Ev.yes rfl (Ev.bindc (impl_Lock_code.is hl h1 (by omega)) (Ev.bindc (impl_hint.is (codeS_hint hl hc hs)) (Ev.id ?_)))))
    rw [hc.1]
  · rw [if_neg (show ¬ (3 : Int) = 1 by omega), show valV w d 3 b s = distF d (codeB w d b) s w.toNat by simp [valV]]
    have hc := codeB_code (a := b) hl
    exact Ev.no (by omega) (Ev.no (by omega) (Ev.no (by omega) (Ev.yes rfl (Ev.bindc (impl_Lock_code.is hl h1 (by omega)) (Ev.bind (impl_Lock_distance.ev hl hc hs) (Ev.now _))))))
  · rw [if_neg (show ¬ (4 : Int) = 1 by omega), show valV w d 4 b s = Int.tmod (numF d 0 (dg s)) b by simp [valV]]
    exact Ev.no (by omega) (Ev.no (by omega) (Ev.no (by omega) (Ev.no (by omega) (Ev.bind (impl_Lock_number.ev hl hs) (Ev.no (by omega) (Ev.now _))))))
theorem spec_pzFits.ev {w d a b c : Int} (hl : lockB w d = true) {s : ByteArray} (hs : codeS w d s) (h : clueB w d a b c = true) : Ev (fun k => spec_pzFits.f k w d a b c s) (fitV w d (a, b, c) s) := by
  unfold spec_pzFits.f fitV
  by_cases h1 : a = 1
  · rw [if_pos h1]
    exact Ev.yes h1 (Ev.bind (spec_pzValue.ev hl hs (Or.inr (Or.inl rfl))) (Ev.id (beq_of _ _)))
  · rw [if_neg h1]
    refine Ev.no h1 (Ev.bind (spec_pzValue.ev hl hs ?_) (Ev.id (beq_of _ _)))
    rcases clueB_cases h with h | h | h | h | h
    · exact Or.inl h
    · exact absurd h.1 h1
    · exact Or.inr (Or.inr (Or.inl h))
    · exact Or.inr (Or.inr (Or.inr (Or.inl h)))
    · exact Or.inr (Or.inr (Or.inr (Or.inr h)))
theorem told_fit {w d a b c : Int} {s : ByteArray} (h : clueB w d a b c = true) : decide ((if a = 1 then (1, valV w d 1 0 s, 0) else (a, b, valV w d a b s)) = (a, b, c)) = fitV w d (a, b, c) s := by
  unfold fitV
  by_cases h1 : a = 1
  · rw [if_pos h1, if_pos h1]
    rcases clueB_cases h with h | h | h | h | h
    · omega
    · subst h1; rw [h.2]; simp
    · omega
    · omega
    · omega
  · rw [if_neg h1, if_neg h1]; simp
def fitA (w d : Int) (l : List S45) (s : ByteArray) : Bool := l.all fun c => fitV w d (c.f0, c.f1, c.f2) s
theorem impl_Lock_fit.ev {w d : Int} (hl : lockB w d = true) {s : ByteArray} (hs : codeS w d s) (l : List S45) (h : ∀ c ∈ l, clueB w d c.f0 c.f1 c.f2 = true) : Ev (fun k => impl_Lock_fit.f k w d l s) (fitA w d l s) := by
  obtain ⟨K, hK⟩ : ∃ K, ∀ k ≥ K, ∀ c ∈ l, impl_Lock_told.f k w d c.f0 c.f1 s = some (if c.f0 = 1 then (1, valV w d 1 0 s, 0) else (c.f0, c.f1, valV w d c.f0 c.f1 s)) := by
    induction l with
    | nil => exact ⟨0, fun _ _ c hc => by cases hc⟩
    | cons x xs ih =>
      obtain ⟨K1, h1⟩ := ih (fun c hc => h c (List.mem_cons_of_mem _ hc))
      obtain ⟨K2, h2⟩ := impl_Lock_told.ev hl hs (h x (List.mem_cons_self ..))
      refine ⟨max K1 K2, fun k hk c hc => ?_⟩
      rcases List.mem_cons.mp hc with rfl | hc
      · exact h2 k (by omega)
      · exact h1 k (by omega) c hc
  refine ⟨K, fun k hk => ?_⟩
  have hk := hK k hk
  show impl_Lock_fit.f k w d l s = _
  unfold impl_Lock_fit.f
  rw [if_pos (List.all_eq_true.mpr fun c hc => by rw [hk c hc]; rfl)]
  congr 1
  unfold fitA
  rw [Bool.eq_iff_iff, List.all_eq_true, List.all_eq_true]
  have e : ∀ c ∈ l, decide (impl_Lock_told.f k w d c.f0 c.f1 s = some (c.f0, c.f1, c.f2)) = fitV w d (c.f0, c.f1, c.f2) s := by
    intro c hc
    rw [hk c hc, ← told_fit (h c hc)]
    simp
  exact ⟨fun h c hc => by rw [← e c hc]; exact h c hc, fun h c hc => by rw [e c hc]; exact h c hc⟩
def solA (w d : Int) (l : List S45) : Nat → List ByteArray
  | 0 => []
  | n + 1 => solA w d l n ++ if fitA w d l (codeB w d (n : Nat)) = true then [codeB w d (n : Nat)] else []
theorem solA_len (w d : Int) (l : List S45) : ∀ n, (solA w d l n).length ≤ n
  | 0 => by simp [solA]
  | n + 1 => by
    have := solA_len w d l n
    simp only [solA, List.length_append]
    split <;> simp <;> omega
theorem impl_Lock_solutions.lev {w d : Int} (hl : lockB w d = true) (l : List S45) (h : ∀ c ∈ l, clueB w d c.f0 c.f1 c.f2 = true) (N : Nat) (hN : (N : Int) ≤ 1000000) : ∀ (m i : Nat), i + m = N → Ev (fun k => impl_Lock_solutions.l0 k l (solA w d l i) (N : Int) (i : Nat) w d) (solA w d l N) := by
  intro m
  induction m with
  | zero =>
    intro i hi
    refine Ev.step (fun k => rfl) (Ev.no (by omega) (Ev.id ?_))
    rw [show i = N by omega]
  | succ m ih =>
    intro i hi
    have hx := solA_len w d l i
    refine Ev.step (fun k => rfl) (Ev.yes (by omega) (Ev.bindc (impl_Lock_code.is hl (by omega) (by omega)) (Ev.bind (impl_Lock_fit.ev hl (codeB_code hl) l h) ?_)))
    rw [show wrap64 ((i : Int) + 1) = ((i + 1 : Nat) : Int) from w64 (by omega) (by omega)]
    have hh := ih (i + 1) (by omega)
    rw [solA] at hh
    cases hf : fitA w d l (codeB w d (i : Nat)) with
    | true =>
      rw [hf, if_pos rfl] at hh
      exact Ev.yes rfl (Ev.yes (by omega) hh)
    | false =>
      rw [hf, if_neg (by simp), List.append_nil] at hh
      exact Ev.no (by simp) hh
theorem impl_Lock_solutions.ev {w d : Int} (hl : lockB w d = true) (l : List S45) (h : ∀ c ∈ l, clueB w d c.f0 c.f1 c.f2 = true) : Ev (fun k => impl_Lock_solutions.f k w d l) (solA w d l (d ^ w.toNat).toNat) := by
  have hcb := count_bound hl
  unfold impl_Lock_solutions.f
  refine Ev.bind (impl_Lock_count.ev hl) ?_
  have := impl_Lock_solutions.lev hl l h (d ^ w.toNat).toNat (by omega) (d ^ w.toNat).toNat 0 (by omega)
  rw [show (((d ^ w.toNat).toNat : Nat) : Int) = d ^ w.toNat by omega] at this
  exact this
def allC (w d : Int) (n : Nat) : List ByteArray := (List.range n).map fun i => codeB w d (i : Nat)
theorem spec_hiAll.lev {w d : Int} (hl : lockB w d = true) (N : Nat) (hN : (N : Int) = d ^ w.toNat) : ∀ (m i : Nat), i + m = N → Ev (fun k => spec_hiAll.l0 k (allC w d i) (i : Nat) w d) (allC w d N) := by
  have hcb := count_bound hl
  intro m
  induction m with
  | zero =>
    intro i hi
    refine Ev.step (fun k => rfl) (Ev.bind (spec_whCount.ev hl) (Ev.no (by omega) (Ev.id ?_)))
    rw [show i = N by omega]
  | succ m ih =>
    intro i hi
    refine Ev.step (fun k => rfl) (Ev.bind (spec_whCount.ev hl) (Ev.yes (by omega) (Ev.bind (spec_whOf.ev hl (by omega) (by omega)) (Ev.yes (by simp [allC]; omega) ?_))))
    rw [show wrap64 ((i : Int) + 1) = ((i + 1 : Nat) : Int) from w64 (by omega) (by omega)]
    have hh := ih (i + 1) (by omega)
    rw [show allC w d (i + 1) = allC w d i ++ [codeB w d (i : Nat)] by simp [allC, List.range_succ]] at hh
    exact hh
theorem spec_hiAll.ev {w d : Int} (hl : lockB w d = true) : Ev (fun k => spec_hiAll.f k w d) (allC w d (d ^ w.toNat).toNat) := by
  have hcb := count_bound hl
  unfold spec_hiAll.f
  exact spec_hiAll.lev hl (d ^ w.toNat).toNat (by omega) (d ^ w.toNat).toNat 0 (by omega)
theorem spec_pzAll.lev1 {w d : Int} (hl : lockB w d = true) (l : List S45) (hln : l.length ≤ 6) (h : ∀ c ∈ l, clueB w d c.f0 c.f1 c.f2 = true) {s : ByteArray} (hs : codeS w d s) (N i : Nat) (xs : List ByteArray) (r : List ByteArray) (C : List ByteArray)
    (hr : Ev (fun k => if fitA w d l s = true then (if xs.length < 8796093022208 then (spec_pzAll.l0 k l (xs ++ [s]) C (N : Int) (wrap64 ((i : Int) + 1)) w d) else none) else (spec_pzAll.l0 k l xs C (N : Int) (wrap64 ((i : Int) + 1)) w d)) r) : ∀ (m j : Nat) (b : Bool), j + m = l.length → b = (l.take j).all (fun c => fitV w d (c.f0, c.f1, c.f2) s) →
    Ev (fun k => spec_pzAll.l1 k l xs s b C (N : Int) (i : Int) l (l.length : Int) (j : Nat) w d) r := by
  intro m
  induction m with
  | zero =>
    intro j b hj hb
    refine Ev.step (fun k => rfl) (Ev.no (by omega) ?_)
    rw [List.take_of_length_le (by omega)] at hb
    have : b = fitA w d l s := hb
    rw [this]; exact hr
  | succ m ih =>
    intro j b hj hb
    have hlt : j < l.length := by omega
    refine Ev.step (fun k => rfl) (Ev.yes (by omega) (Ev.yes (by omega) (Ev.yes (by omega) ?_)))
    rw [show wrap64 ((j : Int) + 1) = ((j + 1 : Nat) : Int) from w64 (by omega) (by omega), rd_clue (i := (j : Int)) (by simpa using hlt)]
    have ht : (l.take (j + 1)).all (fun c => fitV w d (c.f0, c.f1, c.f2) s) = (b && fitV w d (l[j].f0, l[j].f1, l[j].f2) s) := by
      rw [List.take_succ_eq_append_getElem hlt, List.all_append, ← hb]; simp
    cases hbb : b with
    | true =>
      rw [hbb, Bool.true_and] at ht
      exact Ev.yes rfl (Ev.bind (spec_pzFits.ev hl hs (h _ (List.getElem_mem hlt))) (ih (j + 1) _ (by omega) ht.symm))
    | false =>
      rw [hbb, Bool.false_and] at ht
      exact Ev.no (by simp) (ih (j + 1) _ (by omega) ht.symm)
theorem spec_pzAll.lev {w d : Int} (hl : lockB w d = true) (l : List S45) (hln : l.length ≤ 6) (h : ∀ c ∈ l, clueB w d c.f0 c.f1 c.f2 = true) (N : Nat) (hN : (N : Int) ≤ 1000000) : ∀ (m i : Nat), i + m = N → Ev (fun k => spec_pzAll.l0 k l (solA w d l i) (allC w d N) (N : Int) (i : Nat) w d) (solA w d l N) := by
  intro m
  induction m with
  | zero =>
    intro i hi
    refine Ev.step (fun k => rfl) (Ev.no (by omega) (Ev.id ?_))
    rw [show i = N by omega]
  | succ m ih =>
    intro i hi
    have hx := solA_len w d l i
    have hcl : (allC w d N).length = N := by simp [allC]
    refine Ev.step (fun k => rfl) (Ev.yes (by omega) (Ev.yes (by omega) (Ev.yes (by omega) ?_)))
    have hrd : rdOf ByteArray.empty (allC w d N) (i : Int) = codeB w d (i : Nat) := by
      rw [rdOf_at (by rw [hcl]; omega)]; simp [allC]
    rw [hrd]
    refine spec_pzAll.lev1 hl l hln h (codeB_code hl) N i (solA w d l i) _ (allC w d N) ?_ l.length 0 true (by omega) (by simp)
    rw [show wrap64 ((i : Int) + 1) = ((i + 1 : Nat) : Int) from w64 (by omega) (by omega)]
    have hh := ih (i + 1) (by omega)
    rw [solA] at hh
    cases hf : fitA w d l (codeB w d (i : Nat)) with
    | true =>
      rw [hf, if_pos rfl] at hh
      exact Ev.yes rfl (Ev.yes (by omega) hh)
    | false =>
      rw [hf, if_neg (by simp), List.append_nil] at hh
      exact Ev.no (by simp) hh
theorem spec_pzAll.ev {w d : Int} (hl : lockB w d = true) (l : List S45) (hln : l.length ≤ 6) (h : ∀ c ∈ l, clueB w d c.f0 c.f1 c.f2 = true) : Ev (fun k => spec_pzAll.f k w d l) (solA w d l (d ^ w.toNat).toNat) := by
  have hcb := count_bound hl
  unfold spec_pzAll.f
  refine Ev.bind (spec_hiAll.ev hl) ?_
  have := spec_pzAll.lev hl l hln h (d ^ w.toNat).toNat (by omega) (d ^ w.toNat).toNat 0 (by omega)
  rw [show ((allC w d (d ^ w.toNat).toNat).length : Int) = (((d ^ w.toNat).toNat : Nat) : Int) by simp [allC]]
  exact this
theorem puzzleB_parts {w d : Int} {l : List S45} (h : puzzleB w d l = true) : lockB w d = true ∧ l.length ≤ 6 ∧ ∀ c ∈ l, clueB w d c.f0 c.f1 c.f2 = true := by
  unfold puzzleB at h
  rw [Bool.and_eq_true, Bool.and_eq_true] at h
  exact ⟨smallB_lock h.1.1, of_decide_eq_true h.1.2, fun c hc => List.all_eq_true.mp h.2 c hc⟩
theorem impl_Solutions.ev (w d : Int) (l : List S45) : Ev (fun k => impl_Solutions.f k w d l) (if puzzleB w d l = true then (solA w d l (d ^ w.toNat).toNat, true) else ([], false)) := by
  unfold impl_Solutions.f
  refine Ev.bindc (show impl_IsPuzzle.f w d l = some (puzzleB w d l) from rfl) ?_
  cases h : puzzleB w d l with
  | true =>
    obtain ⟨h1, h2, h3⟩ := puzzleB_parts h
    rw [if_pos rfl]
    exact Ev.yes rfl (Ev.bind (impl_Lock_solutions.ev h1 l h3) (Ev.now _))
  | false =>
    rw [if_neg (by simp)]
    exact Ev.no (by simp) (Ev.now _)
/-! The best clue. -/
def bestV (f : Nat → Int) : Nat → Nat → Int → Int → Int
  | 0, _, b, _ => b
  | m + 1, i, b, x => if f i < x then bestV f m (i + 1) (i : Nat) (f i) else bestV f m (i + 1) b x
def oneV (w d : Int) (l : List S45) (i : Nat) : Int := ((solA w d ((l.take (i + 1)).drop i) (d ^ w.toNat).toNat).length : Int)
theorem one_ok {w d : Int} {l : List S45} (h : ∀ c ∈ l, clueB w d c.f0 c.f1 c.f2 = true) (i : Nat) : ∀ c ∈ (l.take (i + 1)).drop i, clueB w d c.f0 c.f1 c.f2 = true :=
  fun c hc => h c (List.mem_of_mem_take (List.mem_of_mem_drop hc))
def bestR (w d : Int) (l : List S45) : Int × Bool := if puzzleB w d l = true then (if l.length = 0 then (0, false) else (bestV (oneV w d l) l.length 0 0 (d ^ w.toNat + 1), true)) else (0, false)
/-! Codes of a lock, as a test. -/
def codeT (w d : Int) (s : ByteArray) : Bool := decide (s.size = w.toNat ∧ ∀ i < s.size, 48 ≤ bt s (i : Nat) ∧ bt s (i : Nat) < 48 + d)
theorem codeT_iff {w d : Int} {s : ByteArray} : codeT w d s = true ↔ codeS w d s := by simp [codeT, codeS]
def restT (d : Int) (s : ByteArray) : Nat → Nat → Bool
  | 0, _ => true
  | m + 1, i => decide (48 ≤ bt s (i : Nat) ∧ bt s (i : Nat) < 48 + d) && restT d s m (i + 1)
theorem restT_all {d : Int} {s : ByteArray} : ∀ (m i : Nat), restT d s m i = true ↔ ∀ j, i ≤ j → j < i + m → 48 ≤ bt s (j : Nat) ∧ bt s (j : Nat) < 48 + d
  | 0, i => by simp [restT]; omega
  | m + 1, i => by
    simp only [restT, Bool.and_eq_true, decide_eq_true_eq, restT_all m (i + 1)]
    constructor
    · rintro ⟨h1, h2⟩ j hj hj2
      by_cases e : j = i
      · subst e; exact h1
      · exact h2 j (by omega) (by omega)
    · intro h
      exact ⟨h i (by omega) (by omega), fun j hj hj2 => h j (by omega) (by omega)⟩
theorem codeT_rest {w d : Int} {s : ByteArray} (hw : 0 ≤ w) (h : (s.size : Int) = w) : codeT w d s = restT d s s.size 0 := by
  rw [Bool.eq_iff_iff, codeT_iff, restT_all]
  constructor
  · intro hc j _ hj; exact hc.2 j (by omega)
  · intro hr; exact ⟨by omega, fun i hi => hr i (by omega) (by omega)⟩
theorem codeT_no {w d : Int} {s : ByteArray} (hw : 0 ≤ w) (h : ¬ (s.size : Int) = w) : codeT w d s = false := by
  rw [Bool.eq_false_iff]; intro hc
  have := (codeT_iff.mp hc).1
  omega
/-! What DoesFit comes to. -/
def doesV (w d a b c : Int) (s : ByteArray) : Bool × Bool := if (smallB w d 125 && clueB w d a b c && codeT w d s) = true then (fitV w d (a, b, c) s, true) else (false, false)
/-! Facts that hold from some number of rounds on. -/
def Evt (P : Nat → Prop) : Prop := ∃ K, ∀ k, K ≤ k → P k
theorem Evt.and {P Q : Nat → Prop} (h : Evt P) (g : Evt Q) : Evt fun k => P k ∧ Q k := by
  obtain ⟨a, h⟩ := h
  obtain ⟨b, g⟩ := g
  exact ⟨a + b, fun k hk => ⟨h k (by omega), g k (by omega)⟩⟩
theorem Evt.pure {P : Nat → Prop} (h : ∀ k, P k) : Evt P := ⟨0, fun k _ => h k⟩
theorem Evt.imp {c : Prop} {P : Nat → Prop} (h : c → Evt P) : Evt fun k => c → P k := by
  by_cases hc : c
  · obtain ⟨K, h⟩ := h hc
    exact ⟨K, fun k hk _ => h k hk⟩
  · exact ⟨0, fun k _ h => absurd h hc⟩
theorem Evt.all {α : Type} {P : Nat → α → Prop} : ∀ (l : List α), (∀ x ∈ l, Evt fun k => P k x) → Evt fun k => ∀ x ∈ l, P k x := by
  intro l
  induction l with
  | nil => intro _; exact ⟨0, fun k _ x hx => by cases hx⟩
  | cons a t ih =>
    intro h
    obtain ⟨K1, h1⟩ := h a List.mem_cons_self
    obtain ⟨K2, h2⟩ := ih (fun x hx => h x (List.mem_cons_of_mem _ hx))
    refine ⟨K1 + K2, fun k hk x hx => ?_⟩
    rcases List.mem_cons.mp hx with rfl | hx
    · exact h1 k (by omega)
    · exact h2 k (by omega) x hx
theorem Evt.mono {P Q : Nat → Prop} (h : Evt P) (g : ∀ k, P k → Q k) : Evt Q := by
  obtain ⟨K, h⟩ := h
  exact ⟨K, fun k hk => g k (h k hk)⟩
/-! First solutions. -/
def firstV (xs : List ByteArray) : ByteArray × Bool := if xs.length = 0 then (⟨#[]⟩, false) else (rdOf ByteArray.empty xs 0, true)
/-! How many codes the first clues leave. -/
def leftL (w d : Int) (l : List S45) (n : Nat) : List Int := (List.range n).map fun j => ((solA w d (l.take j) (d ^ w.toNat).toNat).length : Int)
theorem leftL_succ (w d : Int) (l : List S45) (n : Nat) : leftL w d l (n + 1) = leftL w d l n ++ [((solA w d (l.take n) (d ^ w.toNat).toNat).length : Int)] := by simp [leftL, List.range_succ]
theorem take_ok {w d : Int} {l : List S45} (h : ∀ c ∈ l, clueB w d c.f0 c.f1 c.f2 = true) (i : Nat) : ∀ c ∈ l.take i, clueB w d c.f0 c.f1 c.f2 = true := fun c hc => h c (List.mem_of_mem_take hc)
def leftR (w d : Int) (l : List S45) : List Int × Bool := if puzzleB w d l = true then (leftL w d l (l.length + 1), true) else ([], false)
theorem leftR_len (w d : Int) (l : List S45) : (leftR w d l).1.length ≤ 1000000 := by
  unfold leftR
  cases h : puzzleB w d l with
  | true => obtain ⟨_, h2, _⟩ := puzzleB_parts h; simp [leftL]; omega
  | false => simp
/-! Sure digits, as a text. -/
theorem solA_code {w d : Int} (hl : lockB w d = true) (l : List S45) : ∀ n, ∀ s ∈ solA w d l n, codeS w d s
  | 0 => fun s hs => by simp [solA] at hs
  | n + 1 => fun s hs => by
    unfold solA at hs
    rw [List.mem_append] at hs
    rcases hs with hs | hs
    · exact solA_code hl l n s hs
    · split at hs
      · rw [List.mem_singleton] at hs
        subst hs
        exact codeB_code hl
      · simp at hs
theorem sureOk_solA {w d : Int} (hl : lockB w d = true) (l : List S45) (n : Nat) (h0 : ¬ (solA w d l n).length = 0) : sureOk (solA w d l n) = true := by
  obtain ⟨w1, w2, d1, d2⟩ := lockB_iff.mp hl
  have hc := solA_code hl l n
  generalize solA w d l n = xs at h0 hc
  have hm : hdS xs ∈ xs := by
    show rdOf ByteArray.empty xs ((0 : Nat) : Int) ∈ xs
    rw [rdOf_get (by omega)]
    exact List.getElem_mem _
  have h1 := hc _ hm
  refine sureOk_iff.mpr ⟨fun t ht => by rw [(hc t ht).1, h1.1], by rw [h1.1]; omega, fun i hi => ?_⟩
  have := h1.2 i hi
  omega
def sureV (w d : Int) (l : List S45) : ByteArray × Bool := if puzzleB w d l = true then (if (solA w d l (d ^ w.toNat).toNat).length = 0 then (⟨#[]⟩, false) else (strOfNums (sureL (solA w d l (d ^ w.toNat).toNat) (hdS (solA w d l (d ^ w.toNat).toNat)) (solA w d l (d ^ w.toNat).toNat).length (hdS (solA w d l (d ^ w.toNat).toNat)).size), true)) else (⟨#[]⟩, false)
/-! Best clues: what the two come to. -/
theorem impl_BestClue.lev {w d : Int} (hl : lockB w d = true) (l : List S45) (h6 : l.length ≤ 6) (h : ∀ c ∈ l, clueB w d c.f0 c.f1 c.f2 = true) : ∀ (m i : Nat) (b x : Int), i + m = l.length → Ev (fun k => impl_BestClue.l0 k b x (l.length : Int) (i : Nat) w d l) (bestV (oneV w d l) m i b x, true) := by
  intro m
  induction m with
  | zero =>
    intro i b x hi
    exact Ev.step (fun k => rfl) (Ev.no (by omega) (Ev.now _))
  | succ m ih =>
    intro i b x hi
    have hw : wrap64 ((i : Int) + 1) = ((i + 1 : Nat) : Int) := w64 (by omega) (by omega)
    refine Ev.step (fun k => rfl) (Ev.yes (by omega) (Ev.yes (by omega) ?_))
    rw [hw]
    refine Ev.yes (by omega) (Ev.yes (by omega) ?_)
    rw [Int.toNat_natCast, Int.toNat_natCast]
    refine Ev.bind (impl_Lock_solutions.ev hl _ (one_ok h i)) ?_
    show Ev _ (if oneV w d l i < x then _ else _, true)
    by_cases e : oneV w d l i < x
    · rw [if_pos e]; exact Ev.yes e (ih (i + 1) _ _ (by omega))
    · rw [if_neg e]; exact Ev.no e (ih (i + 1) _ _ (by omega))
theorem spec_BestClue.lev {w d : Int} (hl : lockB w d = true) (l : List S45) (h6 : l.length ≤ 6) (h : ∀ c ∈ l, clueB w d c.f0 c.f1 c.f2 = true) : ∀ (m i : Nat) (b x : Int), i + m = l.length → (i = 0 → oneV w d l 0 < x) → Ev (fun k => spec_BestClue.l0 k b (if i = 0 then 0 else x) (l.length : Int) (i : Nat) w d l) (bestV (oneV w d l) m i b x, true) := by
  intro m
  induction m with
  | zero =>
    intro i b x hi h0
    exact Ev.step (fun k => rfl) (Ev.no (by omega) (Ev.now _))
  | succ m ih =>
    intro i b x hi h0
    have hw : wrap64 ((i : Int) + 1) = ((i + 1 : Nat) : Int) := w64 (by omega) (by omega)
    refine Ev.step (fun k => rfl) (Ev.yes (by omega) (Ev.yes (by omega) ?_))
    rw [hw]
    refine Ev.yes (by omega) (Ev.yes (by omega) ?_)
    rw [Int.toNat_natCast, Int.toNat_natCast]
    refine Ev.bind (spec_pzAll.ev hl _ (by rw [List.length_drop, List.length_take]; omega) (one_ok h i)) ?_
    show Ev _ (if oneV w d l i < x then _ else _, true)
    by_cases hz : i = 0
    · subst hz
      rw [if_pos (h0 rfl)]
      exact Ev.yes rfl (ih 1 _ _ (by omega) (by omega))
    · rw [if_neg hz]
      refine Ev.no (by omega) ?_
      by_cases e : oneV w d l i < x
      · rw [if_pos e]; exact Ev.yes e (ih (i + 1) _ _ (by omega) (by omega))
      · rw [if_neg e]; exact Ev.no e (ih (i + 1) _ _ (by omega) (by omega))
theorem impl_BestClue.ev (w d : Int) (l : List S45) : Ev (fun k => impl_BestClue.f k w d l) (bestR w d l) := by
  unfold impl_BestClue.f bestR
  refine Ev.bindc (show impl_IsPuzzle.f w d l = some (puzzleB w d l) from rfl) ?_
  cases h : puzzleB w d l with
  | true =>
    obtain ⟨h1, h2, h3⟩ := puzzleB_parts h
    have hcb := count_bound h1
    rw [if_pos rfl]
    refine Ev.yes rfl (Ev.step (fun k => rfl) ?_)
    simp only [impl_BestClue.j0]
    by_cases e : l.length = 0
    · rw [if_pos e]; exact Ev.yes (by simp [e]) (Ev.now _)
    · rw [if_neg e]
      refine Ev.no (by simp; intro h; exact e (by rw [h]; rfl)) (Ev.bind (impl_Lock_count.ev h1) ?_)
      rw [w64 (x := d ^ w.toNat + 1) (by omega) (by omega)]
      exact impl_BestClue.lev h1 l h2 h3 l.length 0 0 _ (by omega)
  | false =>
    rw [if_neg (by simp)]
    refine Ev.no (by simp) (Ev.step (fun k => rfl) ?_)
    simp only [impl_BestClue.j0]
    exact Ev.yes trivial (Ev.now _)
theorem spec_BestClue.ev (w d : Int) (l : List S45) (hn : l.length ≤ 9223372036854775807) : Ev (fun k => spec_BestClue.f k w d l) (bestR w d l) := by
  unfold spec_BestClue.f bestR
  refine Ev.bind (spec_pzGood.ev w d l hn) ?_
  cases h : puzzleB w d l with
  | true =>
    obtain ⟨h1, h2, h3⟩ := puzzleB_parts h
    have hcb := count_bound h1
    rw [if_pos rfl]
    refine Ev.yes rfl (Ev.step (fun k => rfl) ?_)
    simp only [spec_BestClue.j0]
    by_cases e : l.length = 0
    · rw [if_pos e]; exact Ev.yes (by simp [e]) (Ev.now _)
    · rw [if_neg e]
      refine Ev.no (by simp; intro h; exact e (by rw [h]; rfl)) ?_
      have := spec_BestClue.lev h1 l h2 h3 l.length 0 0 (d ^ w.toNat + 1) (by omega) (fun _ => by
        have := solA_len w d ((l.take (0 + 1)).drop 0) (d ^ w.toNat).toNat
        unfold oneV; omega)
      rw [if_pos rfl] at this
      exact this
  | false =>
    rw [if_neg (by simp)]
    refine Ev.no (by simp) (Ev.step (fun k => rfl) ?_)
    simp only [spec_BestClue.j0]
    exact Ev.yes trivial (Ev.now _)
/-! Numbers of solutions: what the two come to. -/
theorem spec_CountSolutions.ev (w d : Int) (l : List S45) (hn : l.length ≤ 9223372036854775807) : Ev (fun k => spec_CountSolutions.f k w d l) (if puzzleB w d l = true then (((solA w d l (d ^ w.toNat).toNat).length : Int), true) else (0, false)) := by
  unfold spec_CountSolutions.f
  refine Ev.bind (spec_pzGood.ev w d l hn) ?_
  cases h : puzzleB w d l with
  | true =>
    obtain ⟨h1, h2, h3⟩ := puzzleB_parts h
    rw [if_pos rfl]
    exact Ev.yes rfl (Ev.bind (spec_pzAll.ev h1 l h2 h3) (Ev.now _))
  | false =>
    rw [if_neg (by simp)]
    exact Ev.no (by simp) (Ev.now _)
theorem impl_CountSolutions.ev (w d : Int) (l : List S45) : Ev (fun k => impl_CountSolutions.f k w d l) (if puzzleB w d l = true then (((solA w d l (d ^ w.toNat).toNat).length : Int), true) else (0, false)) := by
  unfold impl_CountSolutions.f
  refine Ev.bind (impl_Solutions.ev w d l) (Ev.id ?_)
  cases h : puzzleB w d l <;> simp
/-! Which texts are codes: both sides. -/
theorem impl_Lock_isText.lev {w d : Int} (hl : lockB w d = true) (s : ByteArray) (h6 : s.size ≤ 6) : ∀ (m i : Nat), i + m = s.size → Ev (fun k => impl_Lock_isText.l0 k s (s.size : Int) (i : Nat) w d) (restT d s m i) := by
  obtain ⟨w1, w2, d1, d2⟩ := lockB_iff.mp hl
  intro m
  induction m with
  | zero => intro i hi; exact Ev.step (fun k => rfl) (Ev.no (by omega) (Ev.now _))
  | succ m ih =>
    intro i hi
    have hb := bt_range s (i : Nat)
    refine Ev.step (fun k => rfl) (Ev.yes (by omega) (Ev.yes (by omega) (Ev.yes (by omega) ?_)))
    rw [w64 (x := bt s (i : Nat)) (by omega) (by omega), w64 (x := 48 + d) (by omega) (by omega), w64 (x := 48 + d - 1) (by omega) (by omega)]
    refine Ev.bindc (impl_within.is _ _ _) ?_
    rw [restT, show decide (48 ≤ bt s (i : Nat) ∧ bt s (i : Nat) ≤ 48 + d - 1) = decide (48 ≤ bt s (i : Nat) ∧ bt s (i : Nat) < 48 + d) from decide_eq_decide.mpr (by omega), w64 (x := (i : Int) + 1) (by omega) (by omega)]
    cases decide (48 ≤ bt s (i : Nat) ∧ bt s (i : Nat) < 48 + d) with
    | true => exact Ev.yes rfl (ih (i + 1) (by omega))
    | false => exact Ev.no (by simp) (Ev.now _)
theorem impl_Lock_isCode.ev {w d : Int} (hl : lockB w d = true) (s : ByteArray) : Ev (fun k => impl_Lock_isCode.f k w d s) (codeT w d s) := by
  obtain ⟨w1, w2, d1, d2⟩ := lockB_iff.mp hl
  unfold impl_Lock_isCode.f impl_Lock_isText.f
  by_cases e : (s.size : Int) = w
  · rw [codeT_rest (by omega) e]
    exact Ev.yes e (Ev.bind (impl_Lock_isText.lev hl s (by omega) s.size 0 (by omega)) (Ev.now _))
  · rw [codeT_no (by omega) e]
    exact Ev.no e (Ev.now _)
theorem impl_has.one {w d : Int} (hl : lockB w d = true) (s : ByteArray) : Ev (fun k => impl_has.f k w d [s]) (codeT w d s) := by
  unfold impl_has.f
  refine Ev.bindc (impl_IsLock.is w d) (Ev.yes hl ?_)
  refine Ev.step (fun k => rfl) (Ev.yes (by simp) (Ev.yes (by omega) (Ev.yes (by simp) ?_)))
  rw [show rdOf ByteArray.empty [s] 0 = s from rfl]
  refine Ev.bind (impl_Lock_isCode.ev hl s) ?_
  cases codeT w d s with
  | true =>
    refine Ev.yes rfl (Ev.step (fun k => rfl) (Ev.no ?_ (Ev.now _)))
    rw [show wrap64 ((0 : Int) + 1) = 1 from w64 (by omega) (by omega)]; simp
  | false => exact Ev.no (by simp) (Ev.now _)
/-! What DoesFit comes to, over numbers and lists alone. -/
theorem impl_DoesFit.ev (w d a b c : Int) (s : ByteArray) : Ev (fun k => impl_DoesFit.f k w d a b c s) (doesV w d a b c s) := by
  unfold impl_DoesFit.f doesV
  refine Ev.bind (impl_IsClue.ev w d a b c) ?_
  cases h : smallB w d 125 with
  | false => exact Ev.no (by simp) (Ev.id (by simp))
  | true =>
    have hl := smallB_lock h
    cases h3 : clueB w d a b c with
    | false => exact Ev.no (by simp) (Ev.id (by simp))
    | true =>
      refine Ev.yes rfl (Ev.bind (impl_has.one hl s) ?_)
      cases h2 : codeT w d s with
      | false => exact Ev.no (by simp) (Ev.id (by simp))
      | true =>
        refine Ev.yes rfl (Ev.bind (impl_Lock_fit.ev hl (codeT_iff.mp h2) [⟨a, b, c⟩] (fun x hx => by rw [List.mem_singleton.mp hx]; exact h3)) (Ev.id ?_))
        simp [fitA]
/-! Clues without one: spec's and impl's. -/
theorem impl_DropClue.is (w d : Int) (l : List S45) (a : Int) (hn : l.length ≤ 1048576) :
    impl_DropClue.f w d l a = some (if puzzleB w d l = true ∧ 0 ≤ a ∧ a < l.length then (w, d, l.eraseIdx a.toNat, true) else (0, 0, [], false)) := by
  unfold impl_DropClue.f impl_IsPuzzle.f
  simp only [Option.bind_some, impl_within.is, w64 (x := (l.length : Int) - 1) (by omega) (by omega)]
  cases h : puzzleB w d l with
  | false => rw [if_neg (by simp), if_neg (by simp)]
  | true =>
    rw [if_pos rfl]
    by_cases h1 : 0 ≤ a ∧ a < l.length
    · rw [if_pos (by simp; omega), impl_but.is (by omega) h1.1 h1.2, if_pos ⟨by simp, h1⟩]
      rfl
    · rw [if_neg (by simp; omega), if_neg (fun h => h1 h.2)]
/-! The laws' look at an order of texts. -/
theorem laws_eSorted.ev (l : List ByteArray) (hn : l.length ≤ 1000000) (h : ∀ (i j : Nat) (hi : i < l.length) (hj : j < l.length), i < j → Op.bytesLess l[i].toList l[j].toList = true) : Ev (fun k => laws_eSorted.f k l) true := by
  have : ∀ (m i : Nat), i + m = l.length + 1 → 1 ≤ i → Ev (fun k => laws_eSorted.l0 k l (i : Nat)) true := by
    intro m
    induction m with
    | zero => intro i hi _; exact Ev.step (fun k => rfl) (Ev.no (by omega) (Ev.now _))
    | succ m ih =>
      intro i hi h1
      by_cases hlt : i < l.length
      · have e : wrap64 ((i : Int) - 1) = ((i - 1 : Nat) : Int) := by rw [w64 (by omega) (by omega)]; omega
        have e2 : wrap64 ((i : Int) + 1) = ((i + 1 : Nat) : Int) := w64 (by omega) (by omega)
        refine Ev.step (fun k => rfl) (Ev.yes (by omega) ?_)
        rw [e, e2]
        clear e e2
        refine Ev.yes (by omega) (Ev.yes (by omega) (Ev.yes (by omega) ?_))
        have hlt2 : i - 1 < l.length := by omega
        rw [rd_str hlt, rd_str hlt2]
        exact Ev.yes (h (i - 1) i hlt2 hlt (by omega)) (ih (i + 1) (by omega) (by omega))
      · exact Ev.step (fun k => rfl) (Ev.no (by omega) (Ev.now _))
  unfold laws_eSorted.f
  exact this l.length 1 (by omega) (Nat.le_refl _)
/-! The laws' comparison of puzzles: what it comes to at two that are alike. -/
theorem laws_ePuzzle.ev (p d : Int) (l : List S45) (hn : l.length ≤ 1000000) : Ev (fun k => laws_ePuzzle.f k p d l p d l) true := by
  have h0 : ∀ (m i : Nat), i + m = l.length → Ev (fun k => laws_ePuzzle.l0 k (l.length : Int) (i : Nat) p d l p d l) true := by
    intro m
    induction m with
    | zero => intro i hi; exact Ev.step (fun k => rfl) (Ev.no (by omega) (Ev.now _))
    | succ m ih =>
      intro i hi
      refine Ev.step (fun k => rfl) (Ev.yes (by omega) (Ev.yes (by omega) (Ev.yes (by omega) (Ev.yes (by omega) (Ev.no (by simp) ?_)))))
      rw [show wrap64 ((i : Int) + 1) = ((i + 1 : Nat) : Int) from w64 (by omega) (by omega)]
      exact ih (i + 1) (by omega)
  unfold laws_ePuzzle.f
  refine Ev.no (by simp) ?_
  rw [show ((l.length : Int) != (l.length : Int)) = false by simp]
  exact Ev.step (fun k => (by rw [laws_ePuzzle.j0, if_neg (by simp)] : laws_ePuzzle.j0 (k + 1) false p d l p d l = laws_ePuzzle.l0 k (l.length : Int) 0 p d l p d l)) (h0 l.length 0 (by omega))
/-! The laws' comparison of rows of numbers. -/
theorem laws_eSame.ev (l : List Int) (hn : l.length ≤ 9223372036854775807) : Ev (fun k => laws_eSame.f k l l) true := by
  have : ∀ (m i : Nat), i + m = l.length → Ev (fun k => laws_eSame.l0 k l l (l.length : Int) (i : Nat)) true := by
    intro m
    induction m with
    | zero => intro i hi; exact Ev.step (fun k => rfl) (Ev.no (by omega) (Ev.now _))
    | succ m ih =>
      intro i hi
      refine Ev.step (fun k => rfl) (Ev.yes (by omega) (Ev.yes (by omega) (Ev.yes (by omega) (Ev.yes (by omega) (Ev.yes rfl ?_)))))
      rw [show wrap64 ((i : Int) + 1) = ((i + 1 : Nat) : Int) from w64 (by omega) (by omega)]
      exact ih (i + 1) (by omega)
  unfold laws_eSame.f
  exact Ev.yes rfl (this l.length 0 (by omega))
/-! The laws' comparisons of texts: what they come to. -/
theorem laws_eTexts.ev (l : List ByteArray) (hn : l.length ≤ 1000000) : Ev (fun k => laws_eTexts.f k l l) true := by
  have : ∀ (m i : Nat), i + m = l.length → Ev (fun k => laws_eTexts.l0 k l l (l.length : Int) (i : Nat)) true := by
    intro m
    induction m with
    | zero => intro i hi; exact Ev.step (fun k => rfl) (Ev.no (by omega) (Ev.now _))
    | succ m ih =>
      intro i hi
      refine Ev.step (fun k => rfl) (Ev.yes (by omega) (Ev.yes (by omega) (Ev.yes (by omega) (Ev.yes (by omega) (Ev.yes rfl ?_)))))
      rw [show wrap64 ((i : Int) + 1) = ((i + 1 : Nat) : Int) from w64 (by omega) (by omega)]
      exact ih (i + 1) (by omega)
  unfold laws_eTexts.f
  exact Ev.yes rfl (this l.length 0 (by omega))
/-! First solutions: what the two come to. -/
theorem spec_FirstSolution.ev (w d : Int) (l : List S45) (hn : l.length ≤ 9223372036854775807) : Ev (fun k => spec_FirstSolution.f k w d l) (if puzzleB w d l = true then firstV (solA w d l (d ^ w.toNat).toNat) else (⟨#[]⟩, false)) := by
  unfold spec_FirstSolution.f
  refine Ev.bind (spec_pzGood.ev w d l hn) ?_
  cases h : puzzleB w d l with
  | true =>
    obtain ⟨h1, h2, h3⟩ := puzzleB_parts h
    rw [if_pos rfl]
    refine Ev.yes rfl (Ev.bind (spec_pzAll.ev h1 l h2 h3) ?_)
    unfold firstV
    by_cases e : (solA w d l (d ^ w.toNat).toNat).length = 0
    · rw [if_pos e]; exact Ev.yes (by omega) (Ev.now _)
    · rw [if_neg e]; exact Ev.no (by omega) (Ev.yes (by omega) (Ev.now _))
  | false =>
    rw [if_neg (by simp)]
    exact Ev.no (by simp) (Ev.now _)
theorem impl_FirstSolution.ev (w d : Int) (l : List S45) : Ev (fun k => impl_FirstSolution.f k w d l) (if puzzleB w d l = true then firstV (solA w d l (d ^ w.toNat).toNat) else (⟨#[]⟩, false)) := by
  unfold impl_FirstSolution.f
  refine Ev.bind (impl_Solutions.ev w d l) ?_
  generalize solA w d l (d ^ w.toNat).toNat = xs
  cases h : puzzleB w d l with
  | true =>
    show Ev (fun _ => if (xs.length : Int) = 0 then some ((⟨#[]⟩ : ByteArray), false) else if 0 < (xs.length : Int) then some (rdOf ByteArray.empty xs 0, true) else none) (firstV xs)
    unfold firstV
    by_cases e : xs.length = 0
    · rw [if_pos e]; exact Ev.yes (by omega) (Ev.now _)
    · rw [if_neg e]; exact Ev.no (by omega) (Ev.yes (by omega) (Ev.now _))
  | false =>
    exact Ev.now ((⟨#[]⟩ : ByteArray), false)
end Go.Proofs.YtalmbdmkajohlaaGreatDoor.P