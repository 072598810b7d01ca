import Derived.Test.YtcbeihidnodceaaKFnKeysOpenOfAllA0
import Derived.Test.YtcbeihidnodceaaKFnKeysOpenOfAllA1
import Derived.Test.YtcbeihidnodceaaKFnKeysOpenOfAllA2
import Derived.Test.YtcbeihidnodceaaKFnKeysOpenOfAllA3
import Derived.ProofKit
import Derived.Lib.SmallJoins
import Derived.Deep.Slices
namespace Go.Proofs.Ytcbeihidnodceaa.P
open Go.RowKit Go.Proofs.YtcbeihidnodceaaW.PrintWords Go.Proofs.YtcbeihidnodceaaW.PrintLast Go.Proofs.YtcbeihidnodceaaW.PrintMore
attribute [local go_sem] max2_int min2_int max_two min_two max_three min_three max_four min_four
set_option linter.unusedVariables false
set_option linter.unusedSimpArgs false
/-! impl.MasterPins, by hand: it builds a list of the two. -/
theorem two_pins {W : World} {g : Nat} {a0 a1 : Int} {A0 A1 : Option Addr} {c0 c1 : Nat} {l0 l1 : List (List Int)} (hg : W.heap[g]? = some (.cells #[.int .i64 a0, .slice A0 l0.length c0, .int .i64 a1, .slice A1 l1.length c1] 24 (0, 0)))
    (h0 : Kd.C (Kd.slice 3 (Kd.int .i64)) W A0 l0.length l0) (i0 : l0.length ≤ c0) (h1 : Kd.C (Kd.slice 3 (Kd.int .i64)) W A1 l1.length l1) (i1 : l1.length ≤ c1) : Kd.C k24 W (some ⟨g, 0, none⟩) 2 [(⟨a0, l0⟩ : S24), (⟨a1, l1⟩ : S24)] := by
  have q0 : W.cell? ⟨g, 0, none⟩ = some (.int .i64 a0) := by simp [World.cell?, hg]
  have q1 : W.cell? ⟨g, 1, none⟩ = some (.slice A0 l0.length c0) := by simp [World.cell?, hg]
  have q2 : W.cell? ⟨g, 2, none⟩ = some (.int .i64 a1) := by simp [World.cell?, hg]
  have q3 : W.cell? ⟨g, 3, none⟩ = some (.slice A1 l1.length c1) := by simp [World.cell?, hg]
  refine ⟨rfl, by omega, fun _ => ⟨_, rfl, fun j p hj => ?_⟩⟩
  match j, hj with
  | 0, hj =>
    injection hj with hj
    subst hj
    refine ⟨[.int .i64 a0, .slice A0 l0.length c0], rfl, k24_mk W ⟨a0, l0⟩ i0 h0, fun i u hi => ?_⟩
    match i, hi with
    | 0, hi => injection hi with hi; subst hi; exact q0
    | 1, hi => injection hi with hi; subst hi; exact q1
  | 1, hj =>
    injection hj with hj
    subst hj
    refine ⟨[.int .i64 a1, .slice A1 l1.length c1], rfl, k24_mk W ⟨a1, l1⟩ i1 h1, fun i u hi => ?_⟩
    match i, hi with
    | 0, hi => injection hi with hi; subst hi; exact q2
    | 1, hi => injection hi with hi; subst hi; exact q3
def impl_MasterPins.f (k : Nat) (a0 : Int) (l0 : List (List Int)) (a1 : Int) (l1 : List (List Int)) : Option (Int × List (List Int) × Bool) := impl_MasterOf.f k [(⟨a0, l0⟩ : S24), (⟨a1, l1⟩ : S24)]
set_option maxHeartbeats 4000000 in
set_option maxRecDepth 100000 in
theorem impl_MasterPins.calls (k : Nat) (a0 : Int) (A0 : Option Addr) (c0 : Nat) (l0 : List (List Int)) (a1 : Int) (A1 : Option Addr) (c1 : Nat) (l1 : List (List Int)) (r1 : Int) (r2 : List (List Int)) (r3 : Bool) (w : World) (h0 : Kd.C (Kd.slice 3 (Kd.int .i64)) w A0 l0.length l0) (i0 : l0.length ≤ c0) (h1 : Kd.C (Kd.slice 3 (Kd.int .i64)) w A1 l1.length l1) (i1 : l1.length ≤ c1) (h : impl_MasterPins.f k a0 l0 a1 l1 = some (r1, r2, r3)) :
    Calls Try.prog 27 #[.agg #[.int .i64 a0, .slice A0 l0.length c0], .agg #[.int .i64 a1, .slice A1 l1.length c1]] w fun e w' => ∃ v1_ : Value, e = .returned (.tuple #[.agg #[.int .i64 r1, v1_], .bool r3]) ∧ Kd.S (Kd.slice 3 (Kd.int .i64)) 52 w' w.heap.size (fun _ => True) v1_ r2 ∧ Below w.heap.size w w' := by
  have hu41 := Try.underlying24
  have hu35 := Try.underlying22
  have hu57 := Try.underlying25
  unfold impl_MasterPins.f at h
  have H := amk h
  have H0 := amk h0
  have H1 := amk h1
  have I0 := amk i0
  have I1 := amk i1
  clear h h0 h1 i0 i1
  have HB3 := amk ((((Below.refl w.heap.size w).alloc (Nat.le_refl _) (.cells #[.int .i64 a0, .slice A0 l0.length c0] 24 (0, 0))).alloc (by simp) (.cells #[.int .i64 a1, .slice A1 l1.length c1] 24 (0, 0))).alloc (by simp <;> omega) (.cells #[.int .i64 0, .slice none 0 0] 24 (0, 0)))
  have HB4 := amk (HB3.out.alloc HB3.out.size (.cells #[.int .i64 a0, .slice A0 l0.length c0, .int .i64 a1, .slice A1 l1.length c1] 24 (0, 0)))
  have N3 := amk (blk_new ((w.alloc (.cells #[.int .i64 a0, .slice A0 l0.length c0] 24 (0, 0))).alloc (.cells #[.int .i64 a1, .slice A1 l1.length c1] 24 (0, 0))) (.cells #[.int .i64 0, .slice none 0 0] 24 (0, 0)))
  have N4 := amk (blk_new (((w.alloc (.cells #[.int .i64 a0, .slice A0 l0.length c0] 24 (0, 0))).alloc (.cells #[.int .i64 a1, .slice A1 l1.length c1] 24 (0, 0))).alloc (.cells #[.int .i64 0, .slice none 0 0] 24 (0, 0))) (.cells #[.int .i64 a0, .slice A0 l0.length c0, .int .i64 a1, .slice A1 l1.length c1] 24 (0, 0)))
  go_enter Try.func27, Try.ntmps27
  go_wp2_with (go_at_call 24; refine (impl_MasterOf.calls k _ 2 [(⟨a0, l0⟩ : S24), (⟨a1, l1⟩ : S24)] r1 r2 r3 _ (two_pins (g := w.heap.size + 1 + 1 + 1) (by simpa using N4.out) (Kd.C_below H0.out HB4.out) I0.out (Kd.C_below H1.out HB4.out) I1.out) (Nat.le_refl _) H.out).mono ?_; rintro e w9 ⟨v9, rfl, hs9, hb9⟩; have BK := amk (show w9.heap[w.heap.size + 1 + 1]? = some (.cells #[.int .i64 0, .slice none 0 0] 24 (0, 0)) from (hb9.block _ (by simp)).trans ((((Below.refl _ _).alloc (Nat.le_refl _) _).block _ (by simp)).trans (by simpa using N3.out))); obtain ⟨hq0, hq1, hq2, hq3, _⟩ := two_cells BK.out; obtain ⟨A9, c9, rfl⟩ := Kd.S_slice hs9; have S9 := amk (Kd.S_lower hs9 HB4.out.size); have HB9 := amk (HB4.out.trans (hb9.mono HB4.out.size)); clear hs9 hb9)
  (try simp only [Exit.inBlock, Exit.then])
  refine bodyPost_ret (results_ct rfl _ _ (w.heap.size + 1 + 1) 24 #[.int .i64 r1, .slice A9 r2.length c9] (0, 0) _ rfl (two_set BK.out _ _) Try.underlying24 rfl (by kernel_rfl)) rfl ?_
  have hty : ∀ q, q ∈ 52 :: (Kd.slice 3 (Kd.int .i64)).E → q ≠ 24 := by intro q hq; simp [Kd.slice, Kd.int, Kd.scalar] at hq; omega
  refine ⟨_, rfl, Kd.S_set (Kd.S_set S9.out BK.out hty 0 _) (heap_setCell_same _ _ 0 _ _ _ BK.out) hty 1 _, ?_⟩
  exact (HB9.out.setCell (p := ⟨w.heap.size + 1 + 1, 0, none⟩) (by show w.heap.size ≤ w.heap.size + 1 + 1; omega) _).setCell (p := ⟨w.heap.size + 1 + 1, 1, none⟩) (by show w.heap.size ≤ w.heap.size + 1 + 1; omega) _
/-! laws.FnKeysOpenOfAll, by hand: each callee's value is told; what lies in memory is ONE predicate. -/
set_option maxHeartbeats 16000000 in
set_option maxRecDepth 100000 in
theorem laws_FnKeysOpenOfAll.walk (k : Nat) (n0 n3 n4 : Int) (L0 L3 L4 : List (List Int)) (a1 : ByteArray) (l2 : List S24) (A0 A2 A3 A4 : Option Addr) (c0 c2 c3 c4 : Nat) (w : World)
    (hr0 : Kd.C (Kd.slice 3 (Kd.int .i64)) w A0 L0.length L0) (hc0 : L0.length ≤ c0) (hr2 : Kd.C k24 w A2 l2.length l2) (hc2 : l2.length ≤ c2) (hr3 : Kd.C (Kd.slice 3 (Kd.int .i64)) w A3 L3.length L3) (hc3 : L3.length ≤ c3) (hr4 : Kd.C (Kd.slice 3 (Kd.int .i64)) w A4 L4.length L4) (hc4 : L4.length ≤ c4)
    (hz : a1.size ≤ 1048576) (hl : l2.length ≤ 10000)
    (o is V : Bool) (ct : Int) (all : List ByteArray)
    (ok five sv : Bool) (hok : ok = (V && is)) (h5 : five = (V && decide (ct ≤ 200))) (e1 : impl_DoesOpen.f k n0 L0 a1 = some (o, ok)) (e2 : spec_DoesOpen.f k n0 L0 a1 = some (o, ok)) (e3 : impl_IsKey.f k n0 L0 a1 = some (is, V)) (e4 : spec_IsKey.f k n0 L0 a1 = some (is, V)) (e5 : impl_CountKeys.f k n0 L0 = some (ct, V)) (e6 : spec_CountKeys.f k n0 L0 = some (ct, V)) (e7 : impl_AllKeys.f k n0 L0 = some (all, five)) (e8 : spec_AllKeys.f k n0 L0 = some (all, five))
    (e9 : laws_eTexts.f k all all = some true) (e10 : impl_ArePins.f n0 L0 = some V) (e11 : spec_ArePins.f k n0 L0 = some V)
    (e12 : V = true → ct ≤ 200 → (all.length : Int) = ct ∧ laws_eSorted.f k all = some true ∧ (is = true → laws_eText.f k all a1 = some o) ∧ all.length ≤ 200 ∧ ∀ (i : Nat) (hi : i < all.length), impl_DoesOpen.f k n0 L0 all[i] = some (true, true))
    (sh : List ByteArray) (nine : Bool) (both gh mn : Int) (M : List (List Int))
    (hsv : sv = (nine && decide (both ≤ 200))) (f1 : impl_SharedKeys.f k l2 = some (sh, sv)) (f2 : spec_SharedKeys.f k l2 = some (sh, sv)) (f3 : impl_CountShared.f k l2 = some (both, nine)) (f4 : spec_CountShared.f k l2 = some (both, nine)) (f5 : impl_GhostKeys.f k l2 = some (gh, nine)) (f6 : spec_GhostKeys.f k l2 = some (gh, nine)) (f7 : impl_MasterOf.f k l2 = some (mn, M, nine)) (f8 : spec_MasterOf.f k l2 = some (mn, M, nine)) (f9 : laws_eTexts.f k sh sh = some true) (f10 : laws_ePins.f k mn M mn M = some true)
    (kc : Int) (ev : List ByteArray) (op : Nat → Nat → Bool) (N : Nat → Nat → Int) (Z H : Nat → Int)
    (g1 : nine = true → impl_CountKeys.f k mn M = some (kc, true) ∧ impl_ArePins.f mn M = some true ∧ 0 ≤ gh ∧ gh < kc ∧ both ≤ kc) (g2 : nine = true → kc ≤ 200 → impl_AllKeys.f k mn M = some (ev, true) ∧ ev.length ≤ 200 ∧ Z ev.length = gh ∧ H ev.length = both ∧ ∀ (i : Nat) (hi : i < ev.length) (j : Nat) (hj : j < l2.length), impl_DoesOpen.f k l2[j].f0 l2[j].f1 ev[i] = some (op i j, true))
    (hN0 : ∀ i, N i 0 = 0) (hNs : ∀ i j, N i (j + 1) = if op i j then N i j + 1 else N i j) (hZ0 : Z 0 = 0) (hZs : ∀ i, Z (i + 1) = if N i l2.length = 0 then Z i + 1 else Z i) (hH0 : H 0 = 0) (hHs : ∀ i, H (i + 1) = if N i l2.length = (l2.length : Int) then H i + 1 else H i) (hNb : ∀ i j, 0 ≤ N i j ∧ N i j ≤ j) (hZb : ∀ i, 0 ≤ Z i ∧ Z i ≤ i) (hHb : ∀ i, 0 ≤ H i ∧ H i ≤ i)
    (pn : Int) (P : List (List Int)) (okp : Bool) (i1 : impl_MasterPins.f k n3 L3 n4 L4 = some (pn, P, okp)) (i2 : spec_MasterPins.f k n3 L3 n4 L4 = some (pn, P, okp)) (i3 : laws_ePins.f k pn P pn P = some true) (i4 : okp = true → impl_MasterPins.f k n4 L4 n3 L3 = some (pn, P, true)) :
    Calls Try.prog 3 #[.agg #[.int .i64 n0, .slice A0 L0.length c0], .string a1, .slice A2 l2.length c2, .agg #[.int .i64 n3, .slice A3 L3.length c3], .agg #[.int .i64 n4, .slice A4 L4.length c4]] w fun e w' => e = .returned (.bool true) ∧ Below w.heap.size w w' := by
  have hu24 := Try.underlying24
  have hu22 := Try.underlying22
  have hu25 := Try.underlying25
  have hu30 := Try.underlying30
  have cz1 : decide (1048576 < (a1.size : Int)) = false := decide_eq_false (by omega)
  have cz2 : decide (1048576 < a1.size) = false := decide_eq_false (by omega)
  have cz3 : decide (10000 < (l2.length : Int)) = false := decide_eq_false (by omega)
  have cz4 : decide (10000 < l2.length) = false := decide_eq_false (by omega)
  have Hok := amk hok
  have H5 := amk h5
  have Hsv := amk hsv
  have E1 := amk e1
  have E2 := amk e2
  have E3 := amk e3
  have E4 := amk e4
  have E5 := amk e5
  have E6 := amk e6
  have E7 := amk e7
  have E8 := amk e8
  have E9 := amk e9
  have E10 := amk e10
  have E11 := amk e11
  have E12 := amk e12
  have F1 := amk f1
  have F2 := amk f2
  have F3 := amk f3
  have F4 := amk f4
  have F5 := amk f5
  have F6 := amk f6
  have F7 := amk f7
  have F8 := amk f8
  have F9 := amk f9
  have F10 := amk f10
  have G1 := amk g1
  have G2 := amk g2
  have HN0 := amk hN0
  have HNs := amk hNs
  have HZ0 := amk hZ0
  have HZs := amk hZs
  have HH0 := amk hH0
  have HHs := amk hHs
  have HNb := amk hNb
  have HZb := amk hZb
  have HHb := amk hHb
  have I1 := amk i1
  have I2 := amk i2
  have I3 := amk i3
  have I4 := amk i4
  have Hr0 := amk hr0
  have Hc0 := amk hc0
  have Hr2 := amk hr2
  have Hc2 := amk hc2
  have Hr3 := amk hr3
  have Hc3 := amk hc3
  have Hr4 := amk hr4
  have Hc4 := amk hc4
  have Hz := amk hz
  have Hl := amk hl
  have S0 := amk (show KO w (bxK n0 A0 L0.length c0) (bxK n3 A3 L3.length c3) (bxK n4 A4 L4.length c4) (((w.alloc (bxK n0 A0 L0.length c0)).alloc (bxK n3 A3 L3.length c3)).alloc (bxK n4 A4 L4.length c4)) from ⟨(((Below.refl w.heap.size w).alloc (Nat.le_refl _) _).alloc (by simp) _).alloc (by simp <;> omega) _, by simpa using (((Below.refl _ _).alloc (Nat.le_refl _) _).alloc (by simp) _).block _ (by simp) |>.trans (blk_new w (bxK n0 A0 L0.length c0)), by simpa using ((Below.refl _ _).alloc (Nat.le_refl _) _).block _ (by simp) |>.trans (blk_new (w.alloc (bxK n0 A0 L0.length c0)) (bxK n3 A3 L3.length c3)), by simpa using blk_new ((w.alloc (bxK n0 A0 L0.length c0)).alloc (bxK n3 A3 L3.length c3)) (bxK n4 A4 L4.length c4)⟩)
  clear hok h5 hsv e1 e2 e3 e4 e5 e6 e7 e8 e9 e10 e11 e12 f1 f2 f3 f4 f5 f6 f7 f8 f9 f10 g1 g2 hN0 hNs hZ0 hZs hH0 hHs hNb hZb hHb i1 i2 i3 i4 hr0 hc0 hr2 hc2 hr3 hc3 hr4 hc4 hz hl
  obtain ⟨q0, q1, _, _, _⟩ := two_cells S0.out.2.1
  go_enter Try.func3, Try.ntmps3
  go_wp2_with (go_at_call 5; refine Calls.mono (impl_DoesOpen.calls k n0 _ _ L0 a1 o ok _ (Kd.C_below Hr0.out S0.out.1) Hc0.out E1.out) ?_; rintro e wx ⟨rfl, hb⟩; have nS0 := amk (KO_below S0.out hb); clear S0; have S0 := nS0; clear nS0; clear hb; clear q0 q1; obtain ⟨q0, q1, _, _, _⟩ := two_cells S0.out.2.1)
  go_wp2_with (go_at_call 6; refine Calls.mono (spec_DoesOpen.calls k n0 _ _ L0 a1 o ok _ (Kd.C_below Hr0.out S0.out.1) Hc0.out E2.out) ?_; rintro e wx ⟨rfl, hb⟩; have nS0 := amk (KO_below S0.out hb); clear S0; have S0 := nS0; clear nS0; clear hb; clear q0 q1; obtain ⟨q0, q1, _, _, _⟩ := two_cells S0.out.2.1)
  go_wp2_with (go_at_call 7; refine Calls.mono (impl_IsKey.calls k n0 _ _ L0 a1 is V _ (Kd.C_below Hr0.out S0.out.1) Hc0.out E3.out) ?_; rintro e wx ⟨rfl, hb⟩; have nS0 := amk (KO_below S0.out hb); clear S0; have S0 := nS0; clear nS0; clear hb; clear q0 q1; obtain ⟨q0, q1, _, _, _⟩ := two_cells S0.out.2.1)
  go_wp2_with (go_at_call 8; refine Calls.mono (spec_IsKey.calls k n0 _ _ L0 a1 is V _ (Kd.C_below Hr0.out S0.out.1) Hc0.out E4.out) ?_; rintro e wx ⟨rfl, hb⟩; have nS0 := amk (KO_below S0.out hb); clear S0; have S0 := nS0; clear nS0; clear hb; clear q0 q1; obtain ⟨q0, q1, _, _, _⟩ := two_cells S0.out.2.1)
  go_wp2_with (go_at_call 9; refine Calls.mono (impl_CountKeys.calls k n0 _ _ L0 ct V _ (Kd.C_below Hr0.out S0.out.1) Hc0.out E5.out) ?_; rintro e wx ⟨rfl, hb⟩; have nS0 := amk (KO_below S0.out hb); clear S0; have S0 := nS0; clear nS0; clear hb; clear q0 q1; obtain ⟨q0, q1, _, _, _⟩ := two_cells S0.out.2.1)
  go_wp2_with (go_at_call 10; refine Calls.mono (spec_CountKeys.calls k n0 _ _ L0 ct V _ (Kd.C_below Hr0.out S0.out.1) Hc0.out E6.out) ?_; rintro e wx ⟨rfl, hb⟩; have nS0 := amk (KO_below S0.out hb); clear S0; have S0 := nS0; clear nS0; clear hb; clear q0 q1; obtain ⟨q0, q1, _, _, _⟩ := two_cells S0.out.2.1)
  go_wp2_with (go_at_call 11; refine Calls.mono (impl_AllKeys.calls k n0 _ _ L0 all five _ (Kd.C_below Hr0.out S0.out.1) Hc0.out E7.out) ?_; rintro e wx ⟨v7, rfl, hs, hb⟩; have nS0 := amk (KO_below S0.out hb); clear S0; have S0 := nS0; clear nS0; obtain ⟨A7, c7, rfl⟩ := Kd.R_slice hs; have R7 := amk (Kd.R_reads' hs).2.2; have C7 := amk (Kd.R_reads' hs).2.1; clear hs hb; clear q0 q1; obtain ⟨q0, q1, _, _, _⟩ := two_cells S0.out.2.1)
  go_upto_region 11 with (go_at_call 12; refine Calls.mono (spec_AllKeys.calls k n0 _ _ L0 all five _ (Kd.C_below Hr0.out S0.out.1) Hc0.out E8.out) ?_; rintro e wx ⟨v8, rfl, hs, hb⟩; have nS0 := amk (KO_below S0.out hb); clear S0; have S0 := nS0; clear nS0; have nR7 := amk (Kd.C_below R7.out hb); clear R7; have R7 := nR7; clear nR7; obtain ⟨A8, c8, rfl⟩ := Kd.R_slice hs; have R8 := amk (Kd.R_reads' hs).2.2; have C8 := amk (Kd.R_reads' hs).2.1; clear hs hb; clear q0 q1; obtain ⟨q0, q1, _, _, _⟩ := two_cells S0.out.2.1)
  clear q0 q1
  refine KOA _ _ (fun _ _ _ _ _ h => h) k n0 L0 A0 A7 A8 c0 c7 c8 _ _ _ o is V ok five ct all Hok.out H5.out Hr0.out Hc0.out E9.out E10.out E11.out S0.out R7.out C7.out R8.out C8.out (fun {u120 u121 u122 u123 u124 u125 u126 u127 u128 u129 u130 u131 u132 u133 u134 u135 u136 u137 u138 u139 u140 u141 u142 u143 u144 u145 u146 u147 u148 u149 u150 u151 u152 u153 u154 u155 u156 u157 u158 u159 u160 u161 u162 u163 u164 u165 u166 u167 u168 u169 u170 u171 u172 u173 u174 u175 u176 u177 u178 u179 u180 u181 u182 u183 u184 u185 u186 u187 u188 u189 u190 u191 u192} W1 s1 r1 => ?_)
  clear S0 R7 R8; have S0 := amk s1; have R7 := amk r1; clear s1 r1
  go_upto_if 194 with (fail)
  refine KOPB _ _ (fun _ _ _ _ _ h => h) k n0 L0 a1 A0 A7 c0 c7 _ _ _ o is V ok five ct all Hok.out H5.out Hr0.out Hc0.out E12.out S0.out R7.out C7.out (fun {u10 u28 u29 u30 u195 u196 u197 u198 u199 u200 u201 u202 u203 u204 u205 u206 u207 u208 u209 u210 u211 u212 u213 u214 u215 u216 u217 u218 u219 u220 u221 u222 u223 u224 u225 u226 u227 u228 u229 u230 u231 u232} W2 s1 => ?_)
  clear S0 R7; have S0 := amk s1; clear s1
  go_wp2_with (go_at_call 18; refine Calls.mono (impl_SharedKeys.calls k _ _ l2 sh sv _ (Kd.C_below Hr2.out S0.out.1) Hc2.out F1.out) ?_; rintro e wx ⟨v, rfl, hs, hb⟩; obtain ⟨A10, c10, rfl⟩ := Kd.R_slice hs; have R10 := amk (Kd.R_reads' hs).2.2; have C10 := amk (Kd.R_reads' hs).2.1; clear hs; have n0 := amk (KO_below S0.out hb); clear S0; have S0 := n0; clear n0; clear hb)
  go_wp2_with (go_at_call 19; refine Calls.mono (spec_SharedKeys.calls k _ _ l2 sh sv _ (Kd.C_below Hr2.out S0.out.1) Hc2.out F2.out) ?_; rintro e wx ⟨v, rfl, hs, hb⟩; obtain ⟨A11, c11, rfl⟩ := Kd.R_slice hs; have R11 := amk (Kd.R_reads' hs).2.2; have C11 := amk (Kd.R_reads' hs).2.1; clear hs; have n0 := amk (KO_below S0.out hb); have n1 := amk (Kd.C_below R10.out hb); clear S0 R10; have S0 := n0; have R10 := n1; clear n0 n1; clear hb)
  go_wp2_with (go_at_call 20; refine Calls.mono (impl_CountShared.calls k _ _ l2 both nine _ (Kd.C_below Hr2.out S0.out.1) Hc2.out F3.out) ?_; rintro e wx ⟨rfl, hb⟩; have n0 := amk (KO_below S0.out hb); have n1 := amk (Kd.C_below R10.out hb); have n2 := amk (Kd.C_below R11.out hb); clear S0 R10 R11; have S0 := n0; have R10 := n1; have R11 := n2; clear n0 n1 n2; clear hb)
  go_wp2_with (go_at_call 21; refine Calls.mono (spec_CountShared.calls k _ _ l2 both nine _ (Kd.C_below Hr2.out S0.out.1) Hc2.out F4.out) ?_; rintro e wx ⟨rfl, hb⟩; have n0 := amk (KO_below S0.out hb); have n1 := amk (Kd.C_below R10.out hb); have n2 := amk (Kd.C_below R11.out hb); clear S0 R10 R11; have S0 := n0; have R10 := n1; have R11 := n2; clear n0 n1 n2; clear hb)
  go_wp2_with (go_at_call 22; refine Calls.mono (impl_GhostKeys.calls k (fun k_ => k_ < w.heap.size) _ _ l2 gh nine _ (Kd.V_mk Hc2.out (Kd.F_below (Kd.C_F k24_heap Hr2.out) S0.out.1)) F5.out) ?_; rintro e wx ⟨rfl, hb⟩; have n0 := amk (KO_below S0.out hb); have n1 := amk (Kd.C_below R10.out hb); have n2 := amk (Kd.C_below R11.out hb); clear S0 R10 R11; have S0 := n0; have R10 := n1; have R11 := n2; clear n0 n1 n2; clear hb)
  go_wp2_with (go_at_call 23; refine Calls.mono (spec_GhostKeys.calls k (fun k_ => k_ < w.heap.size) _ _ l2 gh nine _ (Kd.V_mk Hc2.out (Kd.F_below (Kd.C_F k24_heap Hr2.out) S0.out.1)) F6.out) ?_; rintro e wx ⟨rfl, hb⟩; have n0 := amk (KO_below S0.out hb); have n1 := amk (Kd.C_below R10.out hb); have n2 := amk (Kd.C_below R11.out hb); clear S0 R10 R11; have S0 := n0; have R10 := n1; have R11 := n2; clear n0 n1 n2; clear hb)
  go_wp2_with (go_at_call 24; refine Calls.mono (impl_MasterOf.calls k _ _ l2 mn M nine _ (Kd.C_below Hr2.out S0.out.1) Hc2.out F7.out) ?_; rintro e wm ⟨v, rfl, hs, hb⟩; obtain ⟨A12, c12, rfl⟩ := Kd.S_slice hs; have R12 := amk (Kd.C_alloc (Kd.S_reads' hs).2.2 (bxK mn A12 M.length c12)); have C12 := amk (Kd.S_reads' hs).2.1; have B12 := amk (blk_new wm (bxK mn A12 M.length c12)); clear hs; have n0 := amk (KO_below (KO_below S0.out hb) ((Below.refl _ wm).alloc (Nat.le_refl _) (bxK mn A12 M.length c12))); have n1 := amk (Kd.C_below (Kd.C_below R10.out hb) ((Below.refl _ wm).alloc (Nat.le_refl _) (bxK mn A12 M.length c12))); have n2 := amk (Kd.C_below (Kd.C_below R11.out hb) ((Below.refl _ wm).alloc (Nat.le_refl _) (bxK mn A12 M.length c12))); clear S0 R10 R11; have S0 := n0; have R10 := n1; have R11 := n2; clear n0 n1 n2; clear hb)
  go_upto_region 31 with (go_at_call 25; refine Calls.mono (spec_MasterOf.calls k _ _ l2 mn M nine _ (Kd.C_below Hr2.out S0.out.1) Hc2.out F8.out) ?_; rintro e wt ⟨v, rfl, hs, hb⟩; obtain ⟨A13, c13, rfl⟩ := Kd.S_slice hs; have R13 := amk (Kd.C_alloc (Kd.S_reads' hs).2.2 (bxK mn A13 M.length c13)); have C13 := amk (Kd.S_reads' hs).2.1; have B13 := amk (blk_new wt (bxK mn A13 M.length c13)); clear hs; have n0 := amk (KO_below (KO_below S0.out hb) ((Below.refl _ wt).alloc (Nat.le_refl _) (bxK mn A13 M.length c13))); have n1 := amk (Kd.C_below (Kd.C_below R10.out hb) ((Below.refl _ wt).alloc (Nat.le_refl _) (bxK mn A13 M.length c13))); have n2 := amk (Kd.C_below (Kd.C_below R11.out hb) ((Below.refl _ wt).alloc (Nat.le_refl _) (bxK mn A13 M.length c13))); have n3 := amk (Kd.C_below (Kd.C_below R12.out hb) ((Below.refl _ wt).alloc (Nat.le_refl _) (bxK mn A13 M.length c13))); have n4 := amk (blk_below (blk_below B12.out hb) ((Below.refl _ wt).alloc (Nat.le_refl _) (bxK mn A13 M.length c13))); clear S0 R10 R11 R12 B12; have S0 := n0; have R10 := n1; have R11 := n2; have R12 := n3; have B12 := n4; clear n0 n1 n2 n3 n4; clear hb)
  refine KOC _ _ (fun _ _ _ _ _ h => h) k A10 A11 A12 A13 c10 c11 c12 c13 wm.heap.size wt.heap.size _ _ _ _ sv nine both gh mn sh M Hsv.out F9.out F10.out S0.out R10.out C10.out R11.out C11.out R12.out C12.out R13.out C13.out B12.out B13.out (fun {u273 u274 u275 u276 u277 u278 u279 u280 u281 u282 u283 u284 u285 u286 u287 u288 u289 u290 u291 u292 u293 u294 u295 u296 u297 u298 u299 u300 u301 u302 u303 u304 u305 u306 u307 u308 u309 u310 u311 u312 u313 u314 u315 u316 u317 u318 u319 u320 u321 u322 u323 u324 u325 u326 u327 u328 u329 u330} W3 s1 r1 b1 => ?_)
  clear S0 R10 R11 R12 R13 B12 B13; have S0 := amk s1; have R12 := amk r1; have B12 := amk b1; clear s1 r1 b1
  go_upto_if 332 with (fail)
  refine KOD _ _ (fun _ _ _ _ _ h => h) k A2 A12 c2 c12 wm.heap.size _ _ _ _ nine both gh mn kc M l2 ev op N Z H Hr2.out Hl.out G1.out G2.out HN0.out HNs.out HZ0.out HZs.out HH0.out HHs.out HNb.out HZb.out HHb.out S0.out R12.out C12.out B12.out (fun {u10 u47 u48 u49 u50 u51 u52 u54 u55 u57 u58 u59 u333 u334 u335 u336 u337 u338 u339 u340 u341 u342 u343 u344 u345 u346 u347 u348 u349 u350 u351 u352 u353 u354 u355 u356 u357 u358 u359 u360 u361 u362 u363 u364 u365 u366 u367 u368 u369 u370 u371 u372 u373 u374 u375 u376 u377 u378 u379 u380 u381 u382 u383 u384 u385 u386 u387 u388 u389 u390 u391 u392 u393 u394 u395 u396 u397 u398 u399 u400 u401 u402 u403 u404 u405 u406 u407 u408 u409 u410} W4 s1 => ?_)
  clear S0 R12 B12; have S0 := amk s1; clear s1
  have hbb : ∀ b : Bool, (b != b) = false := fun b => by cases b <;> rfl
  obtain ⟨b0, b1, _, _, _⟩ := two_cells S0.out.2.2.1
  obtain ⟨e0, e1, _, _, _⟩ := two_cells S0.out.2.2.2
  go_wp2_with (go_at_call 27; refine Calls.mono (impl_MasterPins.calls k n3 _ _ L3 n4 _ _ L4 pn P okp _ (Kd.C_below Hr3.out S0.out.1) Hc3.out (Kd.C_below Hr4.out S0.out.1) Hc4.out I1.out) ?_; rintro e wp ⟨v, rfl, hs, hb⟩; obtain ⟨A15, c15, rfl⟩ := Kd.S_slice hs; have R15 := amk (Kd.C_alloc (Kd.S_reads' hs).2.2 (bxK pn A15 P.length c15)); have C15 := amk (Kd.S_reads' hs).2.1; have B15 := amk (blk_new wp (bxK pn A15 P.length c15)); clear hs; have n0 := amk (KO_below (KO_below S0.out hb) ((Below.refl _ wp).alloc (Nat.le_refl _) (bxK pn A15 P.length c15))); clear S0; have S0 := n0; clear n0; clear hb; clear b0 b1 e0 e1; obtain ⟨b0, b1, _, _, _⟩ := two_cells S0.out.2.2.1; obtain ⟨e0, e1, _, _, _⟩ := two_cells S0.out.2.2.2)
  go_wp2_with (go_at_call 28; refine Calls.mono (spec_MasterPins.calls k n3 _ _ L3 n4 _ _ L4 pn P okp _ (Kd.C_below Hr3.out S0.out.1) Hc3.out (Kd.C_below Hr4.out S0.out.1) Hc4.out I2.out) ?_; rintro e wq ⟨v, rfl, hs, hb⟩; obtain ⟨A16, c16, rfl⟩ := Kd.S_slice hs; have R16 := amk (Kd.C_alloc (Kd.S_reads' hs).2.2 (bxK pn A16 P.length c16)); have C16 := amk (Kd.S_reads' hs).2.1; have B16 := amk (blk_new wq (bxK pn A16 P.length c16)); clear hs; have n0 := amk (KO_below (KO_below S0.out hb) ((Below.refl _ wq).alloc (Nat.le_refl _) (bxK pn A16 P.length c16))); have n1 := amk (Kd.C_below (Kd.C_below R15.out hb) ((Below.refl _ wq).alloc (Nat.le_refl _) (bxK pn A16 P.length c16))); have n2 := amk (blk_below (blk_below B15.out hb) ((Below.refl _ wq).alloc (Nat.le_refl _) (bxK pn A16 P.length c16))); clear S0 R15 B15; have S0 := n0; have R15 := n1; have B15 := n2; clear n0 n1 n2; clear hb; clear b0 b1 e0 e1; obtain ⟨b0, b1, _, _, _⟩ := two_cells S0.out.2.2.1; obtain ⟨e0, e1, _, _, _⟩ := two_cells S0.out.2.2.2; obtain ⟨x0, x1, _, _, _⟩ := two_cells B15.out; obtain ⟨y0, y1, _, _, _⟩ := two_cells B16.out)
  go_upto_if 432 with (go_at_call 26; refine Calls.mono (laws_ePins.calls k pn _ _ P pn _ _ P true _ R15.out C15.out R16.out C16.out I3.out) ?_; rintro e wx ⟨rfl, hb⟩; have n0 := amk (KO_below S0.out hb); have n1 := amk (Kd.C_below R15.out hb); have n2 := amk (blk_below B15.out hb); have n3 := amk (Kd.C_below R16.out hb); have n4 := amk (blk_below B16.out hb); clear S0 R15 B15 R16 B16; have S0 := n0; have R15 := n1; have B15 := n2; have R16 := n3; have B16 := n4; clear n0 n1 n2 n3 n4; clear hb; clear b0 b1 e0 e1; obtain ⟨b0, b1, _, _, _⟩ := two_cells S0.out.2.2.1; obtain ⟨e0, e1, _, _, _⟩ := two_cells S0.out.2.2.2)
  clear x0 x1 y0 y1 R16 B16
  cases okp with
  | false => go_wp2; go_ret; exact ⟨rfl, S0.out.1⟩
  | true =>
    have I5 := amk (show impl_MasterOf.f k [(⟨n3, L3⟩ : S24), (⟨n4, L4⟩ : S24)] = some (pn, P, true) from I1.out)
    have I6 := amk (I4.out rfl)
    go_wp2_with (go_at_call 27; refine Calls.mono (impl_MasterPins.calls k n4 _ _ L4 n3 _ _ L3 pn P true _ (Kd.C_below Hr4.out S0.out.1) Hc4.out (Kd.C_below Hr3.out S0.out.1) Hc3.out I6.out) ?_; rintro e wu ⟨v, rfl, hs, hb⟩; obtain ⟨A17, c17, rfl⟩ := Kd.S_slice hs; have R17 := amk (Kd.C_alloc (Kd.S_reads' hs).2.2 (bxK pn A17 P.length c17)); have C17 := amk (Kd.S_reads' hs).2.1; have B17 := amk (blk_new wu (bxK pn A17 P.length c17)); clear hs; have n0 := amk (KO_below (KO_below S0.out hb) ((Below.refl _ wu).alloc (Nat.le_refl _) (bxK pn A17 P.length c17))); have n1 := amk (Kd.C_below (Kd.C_below R15.out hb) ((Below.refl _ wu).alloc (Nat.le_refl _) (bxK pn A17 P.length c17))); have n2 := amk (blk_below (blk_below B15.out hb) ((Below.refl _ wu).alloc (Nat.le_refl _) (bxK pn A17 P.length c17))); clear S0 R15 B15; have S0 := n0; have R15 := n1; have B15 := n2; clear n0 n1 n2; clear hb; clear b0 b1 e0 e1; obtain ⟨b0, b1, _, _, _⟩ := two_cells S0.out.2.2.1; obtain ⟨e0, e1, _, _, _⟩ := two_cells S0.out.2.2.2)
    have NB := amk (blk_new (wu.alloc (bxK pn A17 P.length c17)) (.cells #[.int .i64 n3, .slice A3 L3.length c3, .int .i64 n4, .slice A4 L4.length c4] 24 (0, 0)))
    have HB4 := amk (S0.out.1.alloc S0.out.1.size (.cells #[.int .i64 n3, .slice A3 L3.length c3, .int .i64 n4, .slice A4 L4.length c4] 24 (0, 0)))
    go_upto_region 69 with (go_at_call 24; refine Calls.mono (impl_MasterOf.calls k _ 2 [(⟨n3, L3⟩ : S24), (⟨n4, L4⟩ : S24)] pn P true _ (two_pins (g := wu.heap.size + 1) (by simpa using NB.out) (Kd.C_below Hr3.out HB4.out) Hc3.out (Kd.C_below Hr4.out HB4.out) Hc4.out) (Nat.le_refl _) I5.out) ?_; rintro e wv ⟨v, rfl, hs, hb⟩; obtain ⟨A18, c18, rfl⟩ := Kd.S_slice hs; have R18 := amk (Kd.C_alloc (Kd.S_reads' hs).2.2 (bxK pn A18 P.length c18)); have C18 := amk (Kd.S_reads' hs).2.1; have B18 := amk (blk_new wv (bxK pn A18 P.length c18)); clear hs; have HBB := (((Below.refl _ (wu.alloc (bxK pn A17 P.length c17))).alloc (Nat.le_refl _) (.cells #[.int .i64 n3, .slice A3 L3.length c3, .int .i64 n4, .slice A4 L4.length c4] 24 (0, 0))).trans (hb.mono ((Below.refl _ (wu.alloc (bxK pn A17 P.length c17))).alloc (Nat.le_refl _) (.cells #[.int .i64 n3, .slice A3 L3.length c3, .int .i64 n4, .slice A4 L4.length c4] 24 (0, 0))).size)).trans (((Below.refl _ wv).alloc (Nat.le_refl _) (bxK pn A18 P.length c18)).mono (((Below.refl _ (wu.alloc (bxK pn A17 P.length c17))).alloc (Nat.le_refl _) (.cells #[.int .i64 n3, .slice A3 L3.length c3, .int .i64 n4, .slice A4 L4.length c4] 24 (0, 0))).trans (hb.mono ((Below.refl _ (wu.alloc (bxK pn A17 P.length c17))).alloc (Nat.le_refl _) (.cells #[.int .i64 n3, .slice A3 L3.length c3, .int .i64 n4, .slice A4 L4.length c4] 24 (0, 0))).size)).size); have n0 := amk (KO_below S0.out HBB); have n1 := amk (Kd.C_below R15.out HBB); have n2 := amk (blk_below B15.out HBB); have n3 := amk (Kd.C_below R17.out HBB); have n4 := amk (blk_below B17.out HBB); clear S0 R15 B15 R17 B17; have S0 := n0; have R15 := n1; have B15 := n2; have R17 := n3; have B17 := n4; clear n0 n1 n2 n3 n4; clear hb HBB; clear b0 b1 e0 e1; obtain ⟨x0, x1, _, _, _⟩ := two_cells B15.out; obtain ⟨y0, y1, _, _, _⟩ := two_cells B17.out; obtain ⟨u0, u1, _, _, _⟩ := two_cells B18.out)
    go_wp2_with (go_at_call 26; refine Calls.mono (laws_ePins.calls k pn _ _ P pn _ _ P true _ R17.out C17.out R15.out C15.out I3.out) ?_; rintro e wx ⟨rfl, hb⟩; have n0 := amk (KO_below S0.out hb); have n1 := amk (Kd.C_below R15.out hb); have n2 := amk (blk_below B15.out hb); have n3 := amk (Kd.C_below R17.out hb); have n4 := amk (blk_below B17.out hb); have n5 := amk (Kd.C_below R18.out hb); have n6 := amk (blk_below B18.out hb); clear S0 R15 B15 R17 B17 R18 B18; have S0 := n0; have R15 := n1; have B15 := n2; have R17 := n3; have B17 := n4; have R18 := n5; have B18 := n6; clear n0 n1 n2 n3 n4 n5 n6; clear hb x0 x1 y0 y1 u0 u1; obtain ⟨x0, x1, _, _, _⟩ := two_cells B15.out; obtain ⟨y0, y1, _, _, _⟩ := two_cells B17.out; obtain ⟨u0, u1, _, _, _⟩ := two_cells B18.out)
    go_wp2_with (go_at_call 26; refine Calls.mono (laws_ePins.calls k pn _ _ P pn _ _ P true _ R18.out C18.out R15.out C15.out I3.out) ?_; rintro e wx ⟨rfl, hb⟩; have n0 := amk (KO_below S0.out hb); clear S0; have S0 := n0; clear n0; clear hb)
    go_ret
    exact ⟨rfl, S0.out.1⟩
/-! Numbers told by digits. -/
def textB (l : List Int) : ByteArray := strOfNums (l.map fun x => wrap64 (48 + x) % 256)
/-! Locks: which numbers are one, how many codes there are. -/
/-! Codes of a lock as texts, their digits, what clues tell of them. -/
theorem bt_textB {D : List Int} (h : ∀ x ∈ D, 0 ≤ x ∧ x < 10) {i : Nat} (hi : i < D.length) : bt (textB D) (i : Nat) = 48 + D[i] := by
  have hx := h D[i] (List.getElem_mem hi)
  have hs : (textB D).size = D.length := by unfold textB; rw [strOfNums_size, List.length_map]
  unfold bt
  rw [dif_pos (by rw [hs]; simpa using hi)]
  have e1 : ((textB D)[(i : Int).toNat]'(by rw [hs]; simpa using hi)) = UInt8.ofNat (wrap64 (48 + D[i]) % 256).toNat := by
    show (textB D).data[(i : Int).toNat]'_ = _
    have : (textB D).data = ((D.map fun x => wrap64 (48 + x) % 256).map fun n => UInt8.ofNat n.toNat).toArray := rfl
    simp [this]
  rw [e1, w64 (by omega) (by omega)]
  simp
  omega
/-! Facts that hold from some number of rounds on. -/
def Evt (P : Nat → Prop) : Prop := ∃ K, ∀ k, K ≤ k → P k
theorem Evt.and {P Q : Nat → Prop} (h : Evt P) (g : Evt Q) : Evt fun k => P k ∧ Q k := by
  obtain ⟨a, h⟩ := h
  obtain ⟨b, g⟩ := g
  exact ⟨a + b, fun k hk => ⟨h k (by omega), g k (by omega)⟩⟩
theorem Evt.pure {P : Nat → Prop} (h : ∀ k, P k) : Evt P := ⟨0, fun k _ => h k⟩
theorem Evt.imp {c : Prop} {P : Nat → Prop} (h : c → Evt P) : Evt fun k => c → P k := by
  by_cases hc : c
  · obtain ⟨K, h⟩ := h hc
    exact ⟨K, fun k hk _ => h k hk⟩
  · exact ⟨0, fun k _ h => absurd h hc⟩
theorem Evt.all {α : Type} {P : Nat → α → Prop} : ∀ (l : List α), (∀ x ∈ l, Evt fun k => P k x) → Evt fun k => ∀ x ∈ l, P k x := by
  intro l
  induction l with
  | nil => intro _; exact ⟨0, fun k _ x hx => by cases hx⟩
  | cons a t ih =>
    intro h
    obtain ⟨K1, h1⟩ := h a List.mem_cons_self
    obtain ⟨K2, h2⟩ := ih (fun x hx => h x (List.mem_cons_of_mem _ hx))
    refine ⟨K1 + K2, fun k hk x hx => ?_⟩
    rcases List.mem_cons.mp hx with rfl | hx
    · exact h1 k (by omega)
    · exact h2 k (by omega) x hx
theorem Evt.mono {P Q : Nat → Prop} (h : Evt P) (g : ∀ k, P k → Q k) : Evt Q := by
  obtain ⟨K, h⟩ := h
  exact ⟨K, fun k hk => g k (h k hk)⟩
/-- Counting from the front. -/
def cntN (f : Nat → Bool) : Nat → Int
  | 0 => 0
  | j + 1 => if f j = true then cntN f j + 1 else cntN f j
theorem cntN_bd (f : Nat → Bool) : ∀ j : Nat, 0 ≤ cntN f j ∧ cntN f j ≤ (j : Int) := by
  intro j
  induction j with
  | zero => exact ⟨Int.le_refl _, Int.le_refl _⟩
  | succ j ih =>
    unfold cntN
    by_cases h : f j = true
    · rw [if_pos h]; omega
    · rw [if_neg h]; omega
theorem cntN_list {α : Type} (P : α → Bool) (xs : List α) : ∀ n : Nat, cntN (fun i => (xs[i]?).any P) n = ((xs.take n).countP P : Nat) := by
  intro n
  induction n with
  | zero => rfl
  | succ n ih =>
    unfold cntN
    rw [ih, List.take_add_one, List.countP_append]
    cases h : xs[n]? with
    | none => simp [h]
    | some a =>
      by_cases hp : P a = true
      · simp [hp]
      · simp [hp]
theorem cntN_congr {f g : Nat → Bool} : ∀ n : Nat, (∀ i < n, f i = g i) → cntN f n = cntN g n := by
  intro n
  induction n with
  | zero => intro _; rfl
  | succ n ih =>
    intro h
    unfold cntN
    rw [h n (Nat.lt_succ_self n), ih (fun i hi => h i (by omega))]
/-! Joined pins, over lists alone. -/
def rngFrom (s m : Nat) : List Int := (List.range' s m).map fun (d : Nat) => (d : Int)
theorem rngFrom_zero (s : Nat) : rngFrom s 0 = [] := rfl
theorem rngFrom_len (s m : Nat) : (rngFrom s m).length = m := by unfold rngFrom; simp
theorem rngFrom_mem {s m : Nat} {x : Int} (h : x ∈ rngFrom s m) : (s : Int) ≤ x ∧ x < s + m := by
  unfold rngFrom at h
  obtain ⟨d, hd, rfl⟩ := List.mem_map.mp h
  rw [List.mem_range'_1] at hd
  omega
theorem filter_len_le {α : Type} (p : α → Bool) (l : List α) : (l.filter p).length ≤ l.length := List.length_filter_le p l
/-- A depth of both rows, or of one. -/
def joinT (b : Bool) (r s : List Int) (d : Int) : Bool := (r.contains d && s.contains d) || (!b && (r.contains d || s.contains d))
def joinRows (b : Bool) (n : Nat) (x y : List (List Int)) : List (List Int) := (List.range' 0 x.length).map fun i => (rngFrom 0 n).filter (joinT b (x.getD i []) (y.getD i []))
def rowsOf (n m : Nat) (f : Nat → Int → Bool) : List (List Int) := (List.range' 0 m).map fun i => (rngFrom 0 n).filter (f i)
theorem rowsOf_len (n m : Nat) (f : Nat → Int → Bool) : (rowsOf n m f).length = m := by unfold rowsOf; simp
theorem rowsOf_get (n m : Nat) (f : Nat → Int → Bool) (i : Nat) (hi : i < m) : (rowsOf n m f).getD i [] = (rngFrom 0 n).filter (f i) := by
  unfold rowsOf
  simp [List.getD, hi]
theorem rowsOf_congr {n m : Nat} {f g : Nat → Int → Bool} (h : ∀ i < m, ∀ d ∈ rngFrom 0 n, f i d = g i d) : rowsOf n m f = rowsOf n m g := by
  unfold rowsOf
  apply List.map_congr_left
  intro i hi
  rw [List.mem_range'_1] at hi
  exact List.filter_congr (fun d hd => h i (by omega) d hd)
theorem contains_filter {f : Int → Bool} {n : Nat} {d : Int} (hd : d ∈ rngFrom 0 n) : ((rngFrom 0 n).filter f).contains d = f d := by
  rw [Bool.eq_iff_iff, List.contains_iff_mem, List.mem_filter]
  exact ⟨fun h => h.2, fun h => ⟨hd, h⟩⟩
theorem joinRows_is (b : Bool) (n : Nat) (x y : List (List Int)) : joinRows b n x y = rowsOf n x.length fun i => joinT b (x.getD i []) (y.getD i []) := rfl
/-- Whether a depth is in all of a list's pins at a place, or in one of them. -/
def inB (b : Bool) (l : List S24) (i : Nat) (d : Int) : Bool := if b then l.all fun p => (p.f1.getD i []).contains d else l.any fun p => (p.f1.getD i []).contains d
theorem inB_cons (b : Bool) (q : S24) (l : List S24) (i : Nat) (d : Int) : inB b (q :: l) i d = if b then (q.f1.getD i []).contains d && inB b l i d else (q.f1.getD i []).contains d || inB b l i d := by
  cases b <;> simp [inB]
theorem inB_snoc (b : Bool) (q : S24) (l : List S24) (i : Nat) (d : Int) : inB b (l ++ [q]) i d = if b then inB b l i d && (q.f1.getD i []).contains d else inB b l i d || (q.f1.getD i []).contains d := by
  cases b <;> simp [inB]
theorem joinT_in (b : Bool) (r s : List Int) (d : Int) : joinT b r s d = if b then r.contains d && s.contains d else r.contains d || s.contains d := by
  unfold joinT
  cases b <;> cases r.contains d <;> cases s.contains d <;> rfl
/-- Joining on, behind what was joined before. -/
theorem joinRows_step (b : Bool) (n m : Nat) (P : List S24) (q : S24) : joinRows b n (rowsOf n m (inB b P)) q.f1 = rowsOf n m (inB b (P ++ [q])) := by
  rw [joinRows_is, rowsOf_len]
  apply rowsOf_congr
  intro i hi d hd
  rw [rowsOf_get n m _ i hi, joinT_in, contains_filter hd, inB_snoc]
theorem joinRows_first (b : Bool) (n : Nat) (q : S24) : joinRows b n q.f1 q.f1 = rowsOf n q.f1.length (inB b [q]) := by
  rw [joinRows_is]
  apply rowsOf_congr
  intro i hi d hd
  rw [joinT_in]
  cases b <;> simp [inB]
/-- What impl counts: in how many of them. -/
theorem inB_count_all (l : List S24) (i : Nat) (d : Int) : decide (l.length ≤ l.countP fun p => (p.f1.getD i []).contains d) = inB true l i d := by
  unfold inB
  rw [if_pos rfl, Bool.eq_iff_iff, decide_eq_true_eq, List.all_eq_true]
  have h := List.countP_le_length (p := fun p : S24 => (p.f1.getD i []).contains d) (l := l)
  constructor
  · intro h1
    exact List.countP_eq_length.mp (by omega)
  · intro h1
    rw [List.countP_eq_length.mpr h1]; exact Nat.le_refl _
theorem inB_count_any (l : List S24) (i : Nat) (d : Int) : decide (1 ≤ l.countP fun p => (p.f1.getD i []).contains d) = inB false l i d := by
  unfold inB
  rw [if_neg (by simp), Bool.eq_iff_iff, decide_eq_true_eq, List.any_eq_true]
  rw [show (1 ≤ l.countP fun p => (p.f1.getD i []).contains d) ↔ 0 < l.countP (fun p => (p.f1.getD i []).contains d) from Iff.rfl, List.countP_pos_iff]
/-- How many keys open. -/
def keysF (l : List (List Int)) : Int := l.foldl (fun n r => wrap64 (n * r.length)) 1
/-! Declarations moved out of EHelpPins. -/
theorem rd_row {xs : List (List Int)} {i : Nat} (h : i < xs.length) : rd_L1 xs (i : Nat) = xs[i] := by unfold rd_L1; simp [List.getD, h]
theorem rd_int {xs : List Int} {i : Nat} (h : i < xs.length) : rd xs (i : Nat) = xs[i] := by rw [rd_at (by simpa using h)]; simp
def RowsV (x : List (List Int)) : Prop := x.length ≤ 9223372036854775807 ∧ ∀ r ∈ x, r.length ≤ 9223372036854775807
/-! Texts of digits: their sizes. -/
theorem strOfNums_app (a b : List Int) : strOfNums (a ++ b) = strOfNums a ++ strOfNums b := by
  apply ByteArray.ext
  simp [strOfNums, ByteArray.data_append]
theorem textB_app (a : List Int) (x : Int) : textB (a ++ [x]) = textB a ++ strOfNums [wrap64 (48 + x) % 256] := by
  unfold textB; rw [List.map_append, strOfNums_app]; rfl
theorem textB_size (l : List Int) : (textB l).size = l.length := by unfold textB; rw [strOfNums_size, List.length_map]
/-! Declarations moved out of EDead. -/
theorem wr_big {c : Nat} (h : c ≤ 9223372036854775806) : wrap64 ((c : Int) + 1) = ((c + 1 : Nat) : Int) := w64 (by omega) (by omega)
/-! Joined pins and counted keys: what they come to. -/
theorem spec_l1Has.lev (a : Int) (l : List Int) (hl : l.length ≤ 9223372036854775807) : ∀ (m i : Nat), i + m = l.length → Ev (fun k => spec_l1Has.l0 k a l (l.length : Int) (i : Nat)) ((l.drop i).contains a) := by
  intro m
  induction m with
  | zero =>
    intro i hi
    refine Ev.step (fun k => rfl) (Ev.no (by omega) (Ev.id ?_))
    rw [List.drop_eq_nil_of_le (by omega)]; rfl
  | succ m ih =>
    intro i hi
    have hlt : i < l.length := by omega
    refine Ev.step (fun k => rfl) (Ev.yes (by omega) (Ev.yes (by omega) (Ev.yes (by omega) ?_)))
    rw [rd_int hlt, List.drop_eq_getElem_cons hlt, List.contains_cons]
    by_cases h : l[i] = a
    · exact Ev.yes h (Ev.id (by simp [h]))
    · refine Ev.no h ?_
      rw [w64 (x := (i : Int) + 1) (by omega) (by omega), show (a == l[i]) = false from beq_eq_false_iff_ne.mpr (fun e => h e.symm), Bool.false_or]
      exact ih (i + 1) (by omega)
theorem spec_l1Has.ev (l : List Int) (a : Int) (hl : l.length ≤ 9223372036854775807) : Ev (fun k => spec_l1Has.f k l a) (l.contains a) := by
  unfold spec_l1Has.f
  have := spec_l1Has.lev a l hl l.length 0 (by omega)
  simpa using this
theorem slices_Index_int_int.lev (a : Int) (l : List Int) (hl : l.length ≤ 9223372036854775807) : ∀ (m i : Nat), i + m = l.length → ∃ r : Int, Ev (fun k => slices_Index_int_int.l0 k l a (l.length : Int) (i : Nat)) r ∧ decide (r ≥ 0) = (l.drop i).contains a := by
  intro m
  induction m with
  | zero =>
    intro i hi
    refine ⟨-1, Ev.step (fun k => rfl) (Ev.no (by omega) (Ev.now _)), ?_⟩
    rw [List.drop_eq_nil_of_le (by omega)]; rfl
  | succ m ih =>
    intro i hi
    have hlt : i < l.length := by omega
    rw [List.drop_eq_getElem_cons hlt, List.contains_cons]
    by_cases h : a = l[i]
    · refine ⟨(i : Nat), Ev.step (fun k => rfl) (Ev.yes (by omega) (Ev.yes (by omega) (Ev.yes (by omega) ?_))), ?_⟩
      · rw [rd_int hlt]; exact Ev.yes h (Ev.now _)
      · rw [show (a == l[i]) = true from beq_iff_eq.mpr h]; simp
    · obtain ⟨r, he, hr⟩ := ih (i + 1) (by omega)
      refine ⟨r, Ev.step (fun k => rfl) (Ev.yes (by omega) (Ev.yes (by omega) (Ev.yes (by omega) ?_))), ?_⟩
      · rw [rd_int hlt, w64 (x := (i : Int) + 1) (by omega) (by omega)]; exact Ev.no h he
      · rw [show (a == l[i]) = false from beq_eq_false_iff_ne.mpr h, Bool.false_or]; exact hr
theorem slices_Contains_int_int.ev (l : List Int) (a : Int) (hl : l.length ≤ 9223372036854775807) : Ev (fun k => slices_Contains_int_int.f k l a) (l.contains a) := by
  unfold slices_Contains_int_int.f slices_Index_int_int.f
  obtain ⟨r, he, hr⟩ := slices_Index_int_int.lev a l hl l.length 0 (by omega)
  refine Ev.bind he (Ev.id ?_)
  rw [hr]; simp
theorem impl_Pins_keys.lev (l : List (List Int)) (hl1 : l.length ≤ 9223372036854775807) : ∀ (m i : Nat) (a : Int), i + m = l.length → Ev (fun k => impl_Pins_keys.l0 k a l (l.length : Int) (i : Nat)) ((l.drop i).foldl (fun n r => wrap64 (n * r.length)) a) := by
  intro m
  induction m with
  | zero =>
    intro i a hi
    refine Ev.step (fun k => rfl) (Ev.no (by omega) (Ev.id ?_))
    rw [List.drop_eq_nil_of_le (by omega)]; rfl
  | succ m ih =>
    intro i a hi
    have hlt : i < l.length := by omega
    refine Ev.step (fun k => rfl) (Ev.yes (by omega) (Ev.yes (by omega) (Ev.yes (by omega) ?_)))
    rw [rd_row hlt, List.drop_eq_getElem_cons hlt, List.foldl_cons, w64 (x := (i : Int) + 1) (by omega) (by omega)]
    exact ih (i + 1) _ (by omega)
theorem impl_Pins_keys.ev (n : Int) (l : List (List Int)) (hl1 : l.length ≤ 9223372036854775807) : Ev (fun k => impl_Pins_keys.f k n l) (keysF l) := by
  unfold impl_Pins_keys.f keysF
  have := impl_Pins_keys.lev l hl1 l.length 0 1 (by omega)
  simpa using this
theorem spec_keCount.lev (l : List (List Int)) (hl1 : l.length ≤ 9223372036854775807) : ∀ (m i : Nat) (a : Int), i + m = l.length → Ev (fun k => spec_keCount.l0 k a l (l.length : Int) (i : Nat)) ((l.drop i).foldl (fun n r => wrap64 (n * r.length)) a) := by
  intro m
  induction m with
  | zero =>
    intro i a hi
    refine Ev.step (fun k => rfl) (Ev.no (by omega) (Ev.id ?_))
    rw [List.drop_eq_nil_of_le (by omega)]; rfl
  | succ m ih =>
    intro i a hi
    have hlt : i < l.length := by omega
    refine Ev.step (fun k => rfl) (Ev.yes (by omega) (Ev.yes (by omega) (Ev.yes (by omega) ?_)))
    rw [rd_row hlt, List.drop_eq_getElem_cons hlt, List.foldl_cons, w64 (x := (i : Int) + 1) (by omega) (by omega)]
    exact ih (i + 1) _ (by omega)
theorem spec_keCount.ev (n : Int) (l : List (List Int)) (hl1 : l.length ≤ 9223372036854775807) : Ev (fun k => spec_keCount.f k n l) (keysF l) := by
  unfold spec_keCount.f keysF
  have := spec_keCount.lev l hl1 l.length 0 1 (by omega)
  simpa using this
/-! spec.keJoin -/
theorem spec_keJoin.lev1 (b : Bool) (n : Nat) (hn : n ≤ 9) (x y : List (List Int)) (m' : Int) (i : Nat) (hi : i < x.length) (hiy : i < y.length) (hx : RowsV x) (hy : RowsV y) (R : List (List Int)) (hR : R.length ≤ 1000) (o : Int × List (List Int))
    (hgo : Ev (fun k => spec_keJoin.l0 k b x (x.length : Int) (wrap64 ((i : Int) + 1)) (n : Int) x m' y (n : Int) (R ++ [(rngFrom 0 n).filter (joinT b x[i] y[i])])) o) :
    ∀ (m d : Nat), d + m = n → Ev (fun k => spec_keJoin.l1 k b (i : Int) x[i] ((rngFrom 0 d).filter (joinT b x[i] y[i])) (d : Int) x (x.length : Int) (i : Int) (n : Int) x m' y (n : Int) R) o := by
  intro m
  induction m with
  | zero =>
    intro d hd
    obtain rfl : d = n := by omega
    refine Ev.step (fun k => rfl) (Ev.no (by omega) (Ev.yes (by omega) hgo))
  | succ m ih =>
    intro d hd
    have hx1 := hx.1
    refine Ev.step (fun k => rfl) (Ev.yes (by omega) (Ev.bind (spec_l1Has.ev _ _ (hx.2 _ (List.getElem_mem hi))) (Ev.yes (by omega) (Ev.yes (by omega) ?_))))
    rw [rd_row hiy]
    refine Ev.bind (spec_l1Has.ev _ _ (hy.2 _ (List.getElem_mem hiy))) ?_
    have hw : wrap64 ((d : Int) + 1) = ((d + 1 : Nat) : Int) := w64 (by omega) (by omega)
    have hl := filter_len_le (joinT b x[i] y[i]) (rngFrom 0 d)
    rw [rngFrom_len] at hl
    have hgo' := ih (d + 1) (by omega)
    have hs : rngFrom 0 (d + 1) = rngFrom 0 d ++ [(d : Int)] := by unfold rngFrom; rw [List.range'_concat]; simp
    rw [hs, List.filter_append] at hgo'
    rw [hw]
    cases e1 : x[i].contains (d : Int) <;> cases e2 : y[i].contains (d : Int) <;> cases b
    · rw [show List.filter (joinT false x[i] y[i]) [(d : Int)] = [] by rw [List.filter_cons]; simp only [joinT, e1, e2]; rfl, List.append_nil] at hgo'
      exact Ev.no (by simp) (Ev.no (by simp) (Ev.no (by simp) hgo'))
    · rw [show List.filter (joinT true x[i] y[i]) [(d : Int)] = [] by rw [List.filter_cons]; simp only [joinT, e1, e2]; rfl, List.append_nil] at hgo'
      exact Ev.no (by simp) (Ev.yes rfl hgo')
    · rw [show List.filter (joinT false x[i] y[i]) [(d : Int)] = [(d : Int)] by rw [List.filter_cons]; simp only [joinT, e1, e2]; rfl] at hgo'
      exact Ev.no (by simp) (Ev.no (by simp) (Ev.yes rfl (Ev.yes (by omega) hgo')))
    · rw [show List.filter (joinT true x[i] y[i]) [(d : Int)] = [] by rw [List.filter_cons]; simp only [joinT, e1, e2]; rfl, List.append_nil] at hgo'
      exact Ev.no (by simp) (Ev.yes rfl hgo')
    · rw [show List.filter (joinT false x[i] y[i]) [(d : Int)] = [(d : Int)] by rw [List.filter_cons]; simp only [joinT, e1, e2]; rfl] at hgo'
      exact Ev.yes rfl (Ev.no (by simp) (Ev.no (by simp) (Ev.yes (by omega) hgo')))
    · rw [show List.filter (joinT true x[i] y[i]) [(d : Int)] = [] by rw [List.filter_cons]; simp only [joinT, e1, e2]; rfl, List.append_nil] at hgo'
      exact Ev.yes rfl (Ev.no (by simp) (Ev.yes rfl hgo'))
    · rw [show List.filter (joinT false x[i] y[i]) [(d : Int)] = [(d : Int)] by rw [List.filter_cons]; simp only [joinT, e1, e2]; rfl] at hgo'
      exact Ev.yes rfl (Ev.yes rfl (Ev.yes (by omega) hgo'))
    · rw [show List.filter (joinT true x[i] y[i]) [(d : Int)] = [(d : Int)] by rw [List.filter_cons]; simp only [joinT, e1, e2]; rfl] at hgo'
      exact Ev.yes rfl (Ev.yes rfl (Ev.yes (by omega) hgo'))
theorem spec_keJoin.lev0 (b : Bool) (n : Nat) (hn : n ≤ 9) (x y : List (List Int)) (m' : Int) (hxy : x.length ≤ y.length) (hx9 : x.length ≤ 1000) (hx : RowsV x) (hy : RowsV y) :
    ∀ (m i : Nat), i + m = x.length → Ev (fun k => spec_keJoin.l0 k b x (x.length : Int) (i : Int) (n : Int) x m' y (n : Int) ((List.range' 0 i).map fun j => (rngFrom 0 n).filter (joinT b (x.getD j []) (y.getD j [])))) ((n : Int), joinRows b n x y) := by
  intro m
  induction m with
  | zero =>
    intro i hi
    obtain rfl : i = x.length := by omega
    exact Ev.step (fun k => rfl) (Ev.no (by omega) (Ev.now _))
  | succ m ih =>
    intro i hi
    have hlt : i < x.length := by omega
    have hly : i < y.length := by omega
    refine Ev.step (fun k => rfl) (Ev.yes (by omega) (Ev.yes (by omega) (Ev.yes (by omega) ?_)))
    rw [rd_row hlt]
    have h0 : ([] : List Int) = (rngFrom 0 0).filter (joinT b x[i] y[i]) := rfl
    rw [h0]
    refine spec_keJoin.lev1 b n hn x y m' i hlt hly hx hy _ (by simp; omega) _ ?_ n 0 (by omega)
    have hgo := ih (i + 1) (by omega)
    rw [List.range'_concat, List.map_append, List.map_cons, List.map_nil, Nat.zero_add, Nat.one_mul, show x.getD i [] = x[i] from getD_at hlt, show y.getD i [] = y[i] from getD_at hly] at hgo
    rw [w64 (x := (i : Int) + 1) (by omega) (by omega)]
    exact hgo
theorem spec_keJoin.ev (b : Bool) (n : Nat) (hn : n ≤ 9) (x y : List (List Int)) (m' : Int) (hxy : x.length ≤ y.length) (hx9 : x.length ≤ 1000) (hx : RowsV x) (hy : RowsV y) : Ev (fun k => spec_keJoin.f k (n : Int) x m' y b) ((n : Int), joinRows b n x y) := by
  unfold spec_keJoin.f
  exact spec_keJoin.lev0 b n hn x y m' hxy hx9 hx hy x.length 0 (by omega)
theorem rowsOf_v (n m : Nat) (hn : n ≤ 1000) (hm : m ≤ 1000) (f : Nat → Int → Bool) : RowsV (rowsOf n m f) := by
  refine ⟨by rw [rowsOf_len]; omega, fun r hr => ?_⟩
  unfold rowsOf at hr
  obtain ⟨i, _, rfl⟩ := List.mem_map.mp hr
  have := filter_len_le (f i) (rngFrom 0 n)
  rw [rngFrom_len] at this
  omega
/-- Pins of one kind: n depths, m places. -/
def KindL (n m : Nat) (l : List S24) : Prop := n ≤ 9 ∧ m ≤ 7 ∧ ∀ p ∈ l, p.f0 = (n : Int) ∧ p.f1.length = m ∧ RowsV p.f1
theorem keStep_lev (b : Bool) (n m : Nat) : ∀ (l : List S24) (P : List S24), KindL n m l → Ev (fun k => keStep k b (n : Int) (rowsOf n m (inB b P)) l) ((n : Int), rowsOf n m (inB b (P ++ l))) := by
  intro l
  induction l with
  | nil => intro P h; rw [List.append_nil]; exact Ev.now _
  | cons p t ih =>
    intro P h
    obtain ⟨hn, hm, hp⟩ := h
    obtain ⟨h0, h1, h2⟩ := hp p List.mem_cons_self
    have hj := spec_keJoin.ev b n hn (rowsOf n m (inB b P)) p.f1 p.f0 (by rw [rowsOf_len]; omega) (by rw [rowsOf_len]; omega) (rowsOf_v n m (by omega) (by omega) _) h2
    rw [joinRows_step] at hj
    have hgo := ih (P ++ [p]) ⟨hn, hm, fun q hq => hp q (List.mem_cons_of_mem _ hq)⟩
    rw [List.append_assoc] at hgo
    exact Ev.bind hj hgo
theorem spec_keJoined.ev (b : Bool) (n m : Nat) (l : List S24) (hne : 0 < l.length) (h : KindL n m l) : Ev (fun k => spec_keJoined.f k l b) ((n : Int), rowsOf n m (inB b l)) := by
  unfold spec_keJoined.f
  refine Ev.no (by omega) ?_
  cases l with
  | nil => simp at hne
  | cons q t =>
    obtain ⟨hn, hm, hp⟩ := h
    obtain ⟨h0, h1, h2⟩ := hp q List.mem_cons_self
    have hq : rd_T24 (q :: t) 0 = q := rfl
    rw [hq, h0]
    have hj := spec_keJoin.ev b n hn q.f1 q.f1 q.f0 (Nat.le_refl _) (by omega) h2 h2
    rw [joinRows_first, h1] at hj
    have hgo := keStep_lev b n m t [q] ⟨hn, hm, fun p hq => hp p (List.mem_cons_of_mem _ hq)⟩
    exact Ev.bind hj hgo
/-! impl.joined -/
def cntP (l : List S24) (i : Nat) (d : Int) : Nat := l.countP fun p => (p.f1.getD i []).contains d
theorem wr_succ {c : Nat} (h : c ≤ 1000) : wrap64 ((c : Int) + 1) = ((c + 1 : Nat) : Int) := w64 (by omega) (by omega)
theorem impl_joined.lev2 (l : List S24) (a : Int) (n m : Nat) (h : KindL n m l) (hl1 : l.length ≤ 1000) (i : Nat) (him : i < m) (row : List Int) (d : Nat) (mI : Int) (R : List (List Int)) (hrow : row.length ≤ 1000) (o : Int × List (List Int)) (t : Nat)
    (hgo : Ev (fun k => impl_joined.l1 k l a (i : Int) (if a ≤ (t : Int) then row ++ [(d : Int)] else row) mI (i : Int) (n : Int) (wrap64 ((d : Int) + 1)) (n : Int) R) o) :
    ∀ (q j : Nat) (c : Nat), j + q = l.length → c ≤ j → c + ((l.drop j).countP fun p => (p.f1.getD i []).contains (d : Int)) = t → Ev (fun k => impl_joined.l2 k l a (i : Int) row (d : Int) (c : Int) mI (i : Int) (n : Int) (d : Int) l (l.length : Int) (j : Int) (n : Int) R) o := by
  intro q
  induction q with
  | zero =>
    intro j c hj hc hcnt
    rw [List.drop_eq_nil_of_le (by omega)] at hcnt
    simp at hcnt
    refine Ev.step (fun k => rfl) (Ev.no (by omega) ?_)
    rw [← hcnt] at hgo
    by_cases e : a ≤ (c : Int)
    · rw [if_pos e] at hgo
      exact Ev.yes (by omega) (Ev.yes (by omega) hgo)
    · rw [if_neg e] at hgo
      exact Ev.no (by omega) hgo
  | succ q ih =>
    intro j c hj hc hcnt
    have hlt : j < l.length := by omega
    have hw := amk (wr_succ (c := j) (by omega))
    have hw2 := amk (wr_succ (c := c) (by omega))
    have u1 : j + 1 + q = l.length := by omega
    have u2 : c + 1 ≤ j + 1 := by omega
    have u3 : c ≤ j + 1 := by omega
    obtain ⟨hn, hm, hp⟩ := h
    obtain ⟨p0, p1, p2⟩ := hp l[j] (List.getElem_mem hlt)
    refine Ev.step (fun k => rfl) (Ev.yes (by omega) (Ev.yes (by omega) (Ev.yes (by omega) (Ev.yes (by omega) ?_))))
    rw [rd_pins hlt]
    refine Ev.yes (by omega) ?_
    rw [rd_row (by omega)]
    refine Ev.bind (slices_Contains_int_int.ev _ _ (p2.2 _ (List.getElem_mem _))) ?_
    rw [List.drop_eq_getElem_cons hlt, List.countP_cons, show l[j].f1.getD i [] = l[j].f1[i] from getD_at (by omega)] at hcnt
    rw [hw.out]
    have ih1 := ih (j + 1)
    clear ih
    generalize (l.drop (j + 1)).countP (fun p => (p.f1.getD i []).contains (d : Int)) = v at hcnt ih1
    cases e : l[j].f1[i].contains (d : Int) with
    | true =>
      rw [e] at hcnt
      refine Ev.yes rfl ?_
      rw [if_pos rfl] at hcnt
      rw [hw2.out]
      exact ih1 (c + 1) u1 u2 (by rw [← hcnt, Nat.add_assoc, Nat.add_comm 1 v])
    | false =>
      rw [e] at hcnt
      refine Ev.no (by simp) ?_
      rw [if_neg (by simp)] at hcnt
      exact ih1 c u1 u3 hcnt
theorem impl_joined.lev1 (l : List S24) (a : Int) (n m : Nat) (h : KindL n m l) (hl1 : l.length ≤ 1000) (i : Nat) (him : i < m) (mI : Int) (R : List (List Int)) (hR : R.length ≤ 1000) (o : Int × List (List Int))
    (hgo : Ev (fun k => impl_joined.l0 k l a mI (wrap64 ((i : Int) + 1)) (n : Int) (R ++ [(rngFrom 0 n).filter fun d => decide (a ≤ (cntP l i d : Int))])) o) :
    ∀ (q d : Nat), d + q = n → Ev (fun k => impl_joined.l1 k l a (i : Int) ((rngFrom 0 d).filter fun d => decide (a ≤ (cntP l i d : Int))) mI (i : Int) (n : Int) (d : Int) (n : Int) R) o := by
  have hn := h.1
  intro q
  induction q with
  | zero =>
    intro d hd
    obtain rfl : d = n := by omega
    exact Ev.step (fun k => rfl) (Ev.no (by omega) (Ev.yes (by omega) hgo))
  | succ q ih =>
    intro d hd
    have hl := filter_len_le (fun d => decide (a ≤ (cntP l i d : Int))) (rngFrom 0 d)
    rw [rngFrom_len] at hl
    refine Ev.step (fun k => rfl) (Ev.yes (by omega) ?_)
    refine impl_joined.lev2 l a n m h hl1 i him _ d mI R (by omega) o (cntP l i (d : Int)) ?_ l.length 0 0 (by omega) (by omega) (by rw [List.drop_zero, Nat.zero_add]; rfl)
    rw [w64 (x := (d : Int) + 1) (by omega) (by omega)]
    have hgo' := ih (d + 1) (by omega)
    have hs : rngFrom 0 (d + 1) = rngFrom 0 d ++ [(d : Int)] := by unfold rngFrom; rw [List.range'_concat]; simp
    rw [hs, List.filter_append] at hgo'
    by_cases e : a ≤ (cntP l i (d : Int) : Int)
    · rw [if_pos e]
      rw [show List.filter (fun d => decide (a ≤ (cntP l i d : Int))) [(d : Int)] = [(d : Int)] by simp [e]] at hgo'
      exact hgo'
    · rw [if_neg e]
      rw [show List.filter (fun d => decide (a ≤ (cntP l i d : Int))) [(d : Int)] = [] by simp [e], List.append_nil] at hgo'
      exact hgo'
theorem impl_joined.lev0 (l : List S24) (a : Int) (n m : Nat) (h : KindL n m l) (hl1 : l.length ≤ 1000) :
    ∀ (q i : Nat), i + q = m → Ev (fun k => impl_joined.l0 k l a (m : Int) (i : Int) (n : Int) (rowsOf n i fun i d => decide (a ≤ (cntP l i d : Int)))) ((n : Int), rowsOf n m fun i d => decide (a ≤ (cntP l i d : Int))) := by
  have hm := h.2.1
  intro q
  induction q with
  | zero =>
    intro i hi
    obtain rfl : i = m := by omega
    exact Ev.step (fun k => rfl) (Ev.no (by omega) (Ev.now _))
  | succ q ih =>
    intro i hi
    refine Ev.step (fun k => rfl) (Ev.yes (by omega) ?_)
    have hgo := ih (i + 1) (by omega)
    have hs : rowsOf n (i + 1) (fun i d => decide (a ≤ (cntP l i d : Int))) = rowsOf n i (fun i d => decide (a ≤ (cntP l i d : Int))) ++ [(rngFrom 0 n).filter fun d => decide (a ≤ (cntP l i d : Int))] := by
      unfold rowsOf
      rw [List.range'_concat, List.map_append, List.map_cons, List.map_nil, Nat.zero_add, Nat.one_mul]
    rw [hs, show ((i + 1 : Nat) : Int) = wrap64 ((i : Int) + 1) from (w64 (by omega) (by omega)).symm] at hgo
    have h1 := impl_joined.lev1 l a n m h hl1 i (by omega) (m : Int) _ (by rw [rowsOf_len]; omega) _ hgo n 0 (by omega)
    rw [rngFrom_zero, List.filter_nil] at h1
    exact h1
theorem impl_joined.ev (l : List S24) (a : Int) (n m : Nat) (hne : 0 < l.length) (h : KindL n m l) (hl1 : l.length ≤ 1000) : Ev (fun k => impl_joined.f k l a) ((n : Int), rowsOf n m fun i d => decide (a ≤ (cntP l i d : Int))) := by
  unfold impl_joined.f
  refine Ev.yes (by omega) ?_
  have hq : rd_T24 l 0 = l[0] := rd_pins hne
  obtain ⟨h0, h1, _⟩ := h.2.2 l[0] (List.getElem_mem hne)
  rw [hq, h0, h1]
  exact impl_joined.lev0 l a n m h hl1 m 0 (by omega)
theorem impl_shared.ev (l : List S24) (n m : Nat) (hne : 0 < l.length) (h : KindL n m l) (hl1 : l.length ≤ 1000) : Ev (fun k => impl_shared.f k l) ((n : Int), rowsOf n m (inB true l)) := by
  unfold impl_shared.f
  refine Ev.bind (impl_joined.ev l _ n m hne h hl1) (Ev.id ?_)
  rw [Prod.mk.injEq]
  refine ⟨rfl, ?_⟩
  apply rowsOf_congr
  intro i _ d _
  rw [← inB_count_all l i d]
  unfold cntP
  simp
theorem impl_master.ev (l : List S24) (n m : Nat) (hne : 0 < l.length) (h : KindL n m l) (hl1 : l.length ≤ 1000) : Ev (fun k => impl_joined.f k l 1) ((n : Int), rowsOf n m (inB false l)) := by
  refine Ev.eq (impl_joined.ev l 1 n m hne h hl1) ?_
  rw [Prod.mk.injEq]
  refine ⟨rfl, ?_⟩
  apply rowsOf_congr
  intro i _ d _
  rw [← inB_count_any l i d]
  unfold cntP
  congr 1
  rw [eq_iff_iff]
  omega
theorem kindB_KindL {l : List S24} (h : kindB l = true) (hv : ∀ p ∈ l, RowsV p.f1) : ∃ n m : Nat, KindL n m l ∧ 0 < l.length ∧ l.length ≤ 6 := by
  obtain ⟨⟨h1, h2⟩, h3⟩ := kindB_parts h
  obtain ⟨a1, a2, a3⟩ := pinsB_parts (h3 l[0] (List.getElem_mem h1)).1
  refine ⟨l[0].f0.toNat, l[0].f1.length, ⟨by omega, a2.2, fun p hp => ?_⟩, h1, h2⟩
  obtain ⟨_, b2, b3⟩ := h3 p hp
  have hq : rd_T24 l 0 = l[0] := rd_pins h1
  rw [hq] at b2 b3
  exact ⟨by omega, b3, hv p hp⟩
/-! spec's numbers of one digit. -/
theorem spec_l1Num.one {x : Int} (h : x < 10) : Ev (fun k => spec_l1Num.f k x) (strOfNums [wrap64 (48 + x) % 256]) :=
  Ev.step (fun k => rfl) (Ev.yes h (Ev.now _))
/-! spec's pins: what they come to. -/
theorem spec_l1Rising.lev (n : Int) (hn : 1 ≤ n ∧ n ≤ 9) (l : List Int) (hl : l.length ≤ 9223372036854775807) : ∀ (m i : Nat), i + m = l.length → (-1 ≤ lastI l i) → Ev (fun k => spec_l1Rising.l0 k l 0 (n - 1) l (l.length : Int) (i : Nat)) (risF n (lastI l i) (l.drop i)) := by
  intro m
  induction m with
  | zero =>
    intro i hi _
    refine Ev.step (fun k => rfl) (Ev.no (by omega) (Ev.id ?_))
    rw [List.drop_eq_nil_of_le (by omega)]
    rfl
  | succ m ih =>
    intro i hi hq
    have hlt : i < l.length := by omega
    have hr : rd l (i : Nat) = l[i] := rd_int hlt
    refine Ev.step (fun k => rfl) (Ev.yes (by omega) (Ev.yes (by omega) (Ev.yes (by omega) (Ev.bindc (spec_l1In.bs _ _ _) ?_))))
    rw [hr, List.drop_eq_getElem_cons hlt]
    unfold risF
    have hw : wrap64 ((i : Int) + 1) = ((i + 1 : Nat) : Int) := w64 (by omega) (by omega)
    have hla : lastI l (i + 1) = l[i] := lastI_at hlt
    by_cases h1 : 0 ≤ l[i] ∧ l[i] ≤ n - 1
    · refine Ev.yes (decide_eq_true h1) ?_
      have hgo := ih (i + 1) (by omega) (by rw [hla]; omega)
      rw [hla] at hgo
      cases i with
      | zero =>
        refine Ev.no (by omega) ?_
        rw [hw]
        refine Ev.eq hgo ?_
        have h2 : decide (lastI l 0 < l[0]) = true := decide_eq_true (show (-1 : Int) < l[0] by omega)
        have h3 : decide (l[0] ≤ n - 1) = true := decide_eq_true h1.2
        rw [h2, h3]; rfl
      | succ i =>
        have hp : wrap64 (((i + 1 : Nat) : Int) - 1) = (i : Nat) := by rw [w64 (by omega) (by omega)]; omega
        have hr1 : rd l (i : Nat) = l[i] := rd_int (by omega)
        have hlb : lastI l (i + 1) = l[i] := lastI_at (by omega)
        refine Ev.yes (by omega) ?_
        rw [hp, hr1, hlb]
        refine Ev.yes (by omega) (Ev.yes (by omega) ?_)
        by_cases h2 : l[i] ≥ l[i + 1]
        · refine Ev.yes h2 (Ev.id ?_)
          rw [decide_eq_false (by omega : ¬ l[i] < l[i + 1])]; rfl
        · refine Ev.no h2 ?_
          rw [hw]
          refine Ev.eq hgo ?_
          rw [decide_eq_true (by omega : l[i] < l[i + 1]), decide_eq_true h1.2]; rfl
    · refine Ev.no (by rw [decide_eq_false h1]; simp) (Ev.id ?_)
      by_cases h2 : lastI l i < l[i]
      · have h3 : ¬ l[i] ≤ n - 1 := fun h => h1 ⟨by omega, h⟩
        rw [decide_eq_false h3]; simp
      · rw [decide_eq_false h2]; rfl
theorem spec_l1Rising.ev (n : Int) (hn : 1 ≤ n ∧ n ≤ 9) (l : List Int) (hl : l.length ≤ 9223372036854775807) : Ev (fun k => spec_l1Rising.f k l 0 (n - 1)) (risF n (-1) l) := by
  unfold spec_l1Rising.f
  exact spec_l1Rising.lev n hn l hl l.length 0 (by omega) (show (-1 : Int) ≤ -1 by omega)
theorem spec_keGood.lev (n : Int) (hn : 1 ≤ n ∧ n ≤ 9) (l : List (List Int)) (hl : RowsV l) : ∀ (m i : Nat), i + m = l.length → Ev (fun k => spec_keGood.l0 k l (l.length : Int) (i : Nat) n l) ((l.drop i).all (rowB n)) := by
  have hl1 := hl.1
  intro m
  induction m with
  | zero =>
    intro i hi
    refine Ev.step (fun k => rfl) (Ev.no (by omega) (Ev.id ?_))
    rw [List.drop_eq_nil_of_le (by omega)]; rfl
  | succ m ih =>
    intro i hi
    have hlt : i < l.length := by omega
    refine Ev.step (fun k => rfl) (Ev.yes (by omega) (Ev.yes (by omega) (Ev.yes (by omega) ?_)))
    rw [rd_row hlt, List.drop_eq_getElem_cons hlt, List.all_cons]
    have hx := hl.2 l[i] (List.getElem_mem hlt)
    have hgo := ih (i + 1) (by omega)
    generalize l[i] = x at hx ⊢
    unfold rowB
    by_cases h0 : (x.length : Int) = 0
    · refine Ev.yes h0 (Ev.id ?_)
      obtain rfl : x = [] := List.length_eq_zero_iff.mp (by omega)
      rfl
    · refine Ev.no h0 ?_
      have h1 : (!x.isEmpty) = true := by cases x <;> simp_all
      rw [w64 (x := n - 1) (by omega) (by omega), h1, Bool.true_and]
      refine Ev.bind (spec_l1Rising.ev n hn x hx) ?_
      cases risF n (-1) x with
      | false => exact Ev.no (by simp) (Ev.id rfl)
      | true =>
        refine Ev.yes rfl ?_
        rw [w64 (x := (i : Int) + 1) (by omega) (by omega), Bool.true_and]
        exact hgo
theorem spec_keGood.ev (n : Int) (l : List (List Int)) (hl : RowsV l) : Ev (fun k => spec_keGood.f k n l) (pinsB n l) := by
  unfold spec_keGood.f pinsB
  refine Ev.bindc (spec_l1In.bs _ _ _) ?_
  by_cases h1 : 1 ≤ n ∧ n ≤ 9
  · rw [decide_eq_true h1]
    refine Ev.yes rfl (Ev.bindc (spec_l1In.bs _ _ _) (Ev.step (fun k => rfl) ?_))
    simp only [spec_keGood.j0]
    by_cases h2 : 1 ≤ (l.length : Int) ∧ (l.length : Int) ≤ 7
    · rw [decide_eq_true h2]
      refine Ev.no (by simp) ?_
      have := spec_keGood.lev n h1 l hl l.length 0 (by omega)
      simpa using this
    · rw [decide_eq_false h2]
      exact Ev.yes (by simp) (Ev.id (by simp))
  · rw [decide_eq_false h1]
    refine Ev.no (by simp) (Ev.step (fun k => rfl) ?_)
    simp only [spec_keGood.j0]
    exact Ev.yes trivial (Ev.id (by simp))
/-! Digits of texts, texts of digits: what they come to. -/
theorem impl_text.lev (l : List Int) (hl : l.length ≤ 1000000) : ∀ (j : Nat) (i : Int) (x : List Int), 0 ≤ i → i ≤ l.length → (l.length : Int) - i = j → x = (l.take i.toNat).map (fun x => wrap64 (48 + x) % 256) →
    Ev (fun k => impl_text.l0 k x l (l.length : Int) i) (textB l) := by
  intro j
  induction j with
  | zero =>
    intro i x h0 hi hj hx
    refine Ev.step (fun k => rfl) (Ev.no (by omega) (Ev.id ?_))
    rw [hx, List.take_of_length_le (by omega)]; rfl
  | succ j ih =>
    intro i x h0 hi hj hx
    have hlt : i.toNat < l.length := by omega
    have hxl : x.length ≤ 1000000 := by rw [hx, List.length_map, List.length_take]; omega
    refine Ev.step (fun k => rfl) (Ev.yes (by omega) (Ev.yes h0 (Ev.yes (by omega) (Ev.yes (by omega) ?_))))
    rw [w64 (x := i + 1) (by omega) (by omega)]
    refine ih (i + 1) _ (by omega) (by omega) (by omega) ?_
    rw [toNat_succ h0, List.take_succ_eq_append_getElem hlt, List.map_append, hx, rd_at hlt]; rfl
theorem impl_text.ev (l : List Int) (hl : l.length ≤ 1000000) : Ev (fun k => impl_text.f k l) (textB l) := by
  unfold impl_text.f
  exact impl_text.lev l hl l.length 0 [] (by omega) (by omega) (by omega) (by simp)
/-! All keys that open: what impl (place after place) and spec (key after key) come to. -/
def dT (d : Int) : ByteArray := textB [d]
theorem dT_size (d : Int) : (dT d).size = 1 := by unfold dT; rw [textB_size]; rfl
def extK : List (List Int) → ByteArray → List ByteArray
  | [], s => [s]
  | r :: t, s => r.flatMap fun d => extK t (s ++ dT d)
def bfsK : List (List Int) → List ByteArray → List ByteArray
  | [], L => L
  | r :: t, L => bfsK t (L.flatMap fun s => r.map fun d => s ++ dT d)
theorem bfsK_ext : ∀ (l : List (List Int)) (L : List ByteArray), bfsK l L = L.flatMap (extK l) := by
  intro l
  induction l with
  | nil => intro L; show L = L.flatMap (fun s => [s]); rw [List.flatMap_singleton']
  | cons r t ih =>
    intro L
    show bfsK t (L.flatMap fun s => r.map fun d => s ++ dT d) = L.flatMap fun s => r.flatMap fun d => extK t (s ++ dT d)
    rw [ih, List.flatMap_assoc]
    congr 1
    funext s
    rw [List.flatMap_map]
def prodK (l : List (List Int)) : Nat := l.foldr (fun r n => r.length * n) 1
theorem flatMap_len {α β : Type} (f : α → List β) (c : Nat) : ∀ (l : List α), (∀ x ∈ l, (f x).length = c) → (l.flatMap f).length = l.length * c := by
  intro l
  induction l with
  | nil => intro _; simp
  | cons a t ih =>
    intro h
    rw [List.flatMap_cons, List.length_append, h a List.mem_cons_self, ih (fun x hx => h x (List.mem_cons_of_mem _ hx)), List.length_cons, Nat.succ_mul, Nat.add_comm]
theorem extK_len : ∀ (l : List (List Int)) (s : ByteArray), (extK l s).length = prodK l := by
  intro l
  induction l with
  | nil => intro s; rfl
  | cons r t ih =>
    intro s
    show (r.flatMap fun d => extK t (s ++ dT d)).length = r.length * prodK t
    exact flatMap_len _ _ _ (fun d _ => ih _)
/-- Rows of pins: short ones. -/
def Short (l : List (List Int)) : Prop := l.length ≤ 7 ∧ ∀ r ∈ l, r.length ≤ 9 ∧ ∀ x ∈ r, 0 ≤ x ∧ x < 10
theorem prodK_le : ∀ (l : List (List Int)), (∀ r ∈ l, r.length ≤ 9) → prodK l ≤ 9 ^ l.length := by
  intro l
  induction l with
  | nil => intro _; exact Nat.le_refl _
  | cons r t ih =>
    intro h
    show r.length * prodK t ≤ 9 ^ (t.length + 1)
    rw [Nat.pow_succ, Nat.mul_comm]
    exact Nat.mul_le_mul (ih (fun x hx => h x (List.mem_cons_of_mem _ hx))) (h r List.mem_cons_self)
theorem prodK_big {l : List (List Int)} (h : Short l) : prodK l ≤ 4782969 := Nat.le_trans (prodK_le l (fun r hr => (h.2 r hr).1)) (Nat.le_trans (Nat.pow_le_pow_right (by omega) h.1) (by decide))
theorem keysF_prod : ∀ (l : List (List Int)) (a : Nat), (∀ r ∈ l, r.length ≤ 9) → a * 9 ^ l.length ≤ 4782969 → l.foldl (fun n r => wrap64 (n * r.length)) (a : Int) = ((a * prodK l : Nat) : Int) := by
  intro l
  induction l with
  | nil => intro a _ _; show (a : Int) = ((a * 1 : Nat) : Int); rw [Nat.mul_one]
  | cons r t ih =>
    intro a h hb
    have hr := h r List.mem_cons_self
    rw [List.foldl_cons]
    have h1 : a * r.length * 9 ^ t.length ≤ 4782969 := by
      refine Nat.le_trans ?_ hb
      rw [List.length_cons, Nat.pow_succ, Nat.mul_assoc]
      refine Nat.mul_le_mul_left a ?_
      rw [Nat.mul_comm]
      exact Nat.mul_le_mul_left _ hr
    have h2 : a * r.length ≤ 4782969 := Nat.le_trans (Nat.le_mul_of_pos_right _ (Nat.pow_pos (by omega))) h1
    have hw : wrap64 ((a : Int) * (r.length : Int)) = ((a * r.length : Nat) : Int) := by
      rw [Int.natCast_mul a r.length |>.symm]
      exact w64 (by omega) (by omega)
    rw [hw, ih (a * r.length) (fun x hx => h x (List.mem_cons_of_mem _ hx)) h1]
    show ((a * r.length * prodK t : Nat) : Int) = ((a * (r.length * prodK t) : Nat) : Int)
    rw [Nat.mul_assoc]
theorem keysF_is {l : List (List Int)} (h : Short l) : keysF l = (prodK l : Int) := by
  have := keysF_prod l 1 (fun r hr => (h.2 r hr).1) (by rw [Nat.one_mul]; exact Nat.le_trans (Nat.pow_le_pow_right (by omega) h.1) (by decide))
  rw [Nat.one_mul] at this
  exact this
/-! spec -/
theorem spec_keAll.lev (n : Int) (L : List (List Int)) (hS : Short L) : ∀ (m : Nat) (s : ByteArray), s.size + m = L.length → Ev (fun k => spec_keAll.f k n L s) (extK (L.drop s.size) s) := by
  have h7 := hS.1
  intro m
  induction m with
  | zero =>
    intro s hs
    refine Ev.step (fun k => rfl) (Ev.yes (by omega) (Ev.id ?_))
    rw [List.drop_eq_nil_of_le (by omega)]; rfl
  | succ m ih =>
    intro s hs
    have hlt : s.size < L.length := by omega
    refine Ev.step (fun k => rfl) (Ev.no (by omega) (Ev.yes (by omega) (Ev.yes (by omega) ?_)))
    rw [rd_row hlt, List.drop_eq_getElem_cons hlt]
    have hrow := hS.2 L[s.size] (List.getElem_mem hlt)
    have hbig : (extK (L[s.size] :: L.drop (s.size + 1)) s).length ≤ 4782969 := by
      rw [extK_len]
      refine prodK_big ⟨?_, fun r hr => ?_⟩
      · rw [List.length_cons, List.length_drop]; omega
      · rcases List.mem_cons.mp hr with rfl | hr
        · exact hrow
        · exact hS.2 r (List.mem_of_mem_drop hr)
    have hT : extK (L[s.size] :: L.drop (s.size + 1)) s = L[s.size].flatMap fun d => extK (L.drop (s.size + 1)) (s ++ dT d) := rfl
    rw [hT] at hbig ⊢
    generalize L[s.size] = row at hrow hbig ⊢
    have hlev : ∀ (q i : Nat) (acc : List ByteArray), i + q = row.length → acc ++ ((row.drop i).flatMap fun d => extK (L.drop (s.size + 1)) (s ++ dT d)) = (row.flatMap fun d => extK (L.drop (s.size + 1)) (s ++ dT d)) → Ev (fun k => spec_keAll.l0 k s acc row (row.length : Int) (i : Nat) n L) (row.flatMap fun d => extK (L.drop (s.size + 1)) (s ++ dT d)) := by
      intro q
      induction q with
      | zero =>
        intro i acc hi hacc
        rw [show row.drop i = [] from List.drop_eq_nil_of_le (by omega), List.flatMap_nil, List.append_nil] at hacc
        exact Ev.step (fun k => rfl) (Ev.no (by omega) (Ev.id hacc))
      | succ q ihq =>
        intro i acc hi hacc
        have hil : i < row.length := by omega
        have hx := hrow.2 row[i] (List.getElem_mem hil)
        have hlen := hacc
        rw [List.drop_eq_getElem_cons hil, List.flatMap_cons] at hacc
        have hl2 : acc.length + (extK (L.drop (s.size + 1)) (s ++ dT row[i])).length ≤ 4782969 := by
          refine Nat.le_trans ?_ hbig
          rw [← hacc, List.length_append, List.length_append]
          omega
        have hsz : (s ++ dT row[i]).size = s.size + 1 := by rw [ByteArray.size_append, dT_size]
        have hr9 := hrow.1
        have hgo := ih (s ++ dT row[i]) (by omega)
        rw [hsz] at hgo
        have hw := amk (wr_succ (c := i) (by omega))
        have hd1 := dT_size row[i]
        refine Ev.step (fun k => rfl) (Ev.yes (by omega) (Ev.yes (by omega) (Ev.yes (by omega) ?_)))
        rw [rd_int hil, hw.out]
        refine Ev.bind (spec_l1Num.one hx.2) (Ev.yes ?_ (Ev.bind hgo (Ev.yes (by omega) ?_)))
        · show s.size + (dT row[i]).size ≤ 9223372036854775807
          omega
        · exact ihq (i + 1) _ (by omega) (by rw [List.append_assoc]; exact hacc)
    exact hlev row.length 0 [] (by omega) (by rw [List.drop_zero]; rfl)
theorem spec_keAll.ev (n : Int) (L : List (List Int)) (hS : Short L) : Ev (fun k => spec_keAll.f k n L ⟨#[]⟩) (extK L ⟨#[]⟩) := by
  have := spec_keAll.lev n L hS L.length ⟨#[]⟩ (by show 0 + L.length = L.length; omega)
  exact this
/-! impl -/
theorem impl_text.one (d : Int) : Ev (fun k => impl_text.f k [d]) (dT d) := impl_text.ev [d] (by show 1 ≤ 1000000; omega)
theorem impl_Pins_all.lev2 (L : List (List Int)) (li : Int) (row : List Int) (hrow : row.length ≤ 9) (s : ByteArray) (hs : s.size ≤ 7) (X : List ByteArray) (j : Nat) (N : Nat) (hN : N ≤ 4782969 * 9) (o : List ByteArray × Bool) (T : List ByteArray) (hT : T.length ≤ N)
    (hgo : Ev (fun k => impl_Pins_all.l1 k row T L (L.length : Int) li X (X.length : Int) (wrap64 ((j : Int) + 1))) o) :
    ∀ (q i : Nat) (acc : List ByteArray), i + q = row.length → acc ++ ((row.drop i).map fun d => s ++ dT d) = T → Ev (fun k => impl_Pins_all.l2 k row acc s L (L.length : Int) li X (X.length : Int) (j : Int) row (row.length : Int) (i : Int)) o := by
  intro q
  induction q with
  | zero =>
    intro i acc hi hacc
    rw [List.drop_eq_nil_of_le (by omega), List.map_nil, List.append_nil] at hacc
    subst hacc
    exact Ev.step (fun k => rfl) (Ev.no (by omega) hgo)
  | succ q ih =>
    intro i acc hi hacc
    have hil : i < row.length := by omega
    rw [List.drop_eq_getElem_cons hil, List.map_cons] at hacc
    have hl2 : acc.length ≤ N := by
      refine Nat.le_trans ?_ hT
      rw [← hacc, List.length_append]
      omega
    have hw := amk (wr_succ (c := i) (by omega))
    have hd1 := dT_size row[i]
    refine Ev.step (fun k => rfl) (Ev.yes (by omega) (Ev.yes (by omega) (Ev.yes (by omega) ?_)))
    rw [rd_int hil, hw.out]
    refine Ev.bind (impl_text.one _) (Ev.yes (by omega) (Ev.yes (by omega) ?_))
    exact ih (i + 1) _ (by omega) (by rw [List.append_assoc]; exact hacc)
theorem impl_Pins_all.lev1 (L : List (List Int)) (li : Int) (row : List Int) (hrow : row.length ≤ 9) (X : List ByteArray) (hX : X.length ≤ 4782969) (hXs : ∀ s ∈ X, s.size ≤ 7) (o : List ByteArray × Bool)
    (hgo : Ev (fun k => impl_Pins_all.l0 k (X.flatMap fun s => row.map fun d => s ++ dT d) L (L.length : Int) (wrap64 (li + 1))) o) :
    ∀ (q j : Nat) (acc : List ByteArray), j + q = X.length → acc.length ≤ j * 9 → acc ++ ((X.drop j).flatMap fun s => row.map fun d => s ++ dT d) = (X.flatMap fun s => row.map fun d => s ++ dT d) → Ev (fun k => impl_Pins_all.l1 k row acc L (L.length : Int) li X (X.length : Int) (j : Int)) o := by
  intro q
  induction q with
  | zero =>
    intro j acc hj hal hacc
    rw [List.drop_eq_nil_of_le (by omega), List.flatMap_nil, List.append_nil] at hacc
    rw [← hacc] at hgo
    exact Ev.step (fun k => rfl) (Ev.no (by omega) hgo)
  | succ q ih =>
    intro j acc hj hal hacc
    have hjl : j < X.length := by omega
    rw [List.drop_eq_getElem_cons hjl, List.flatMap_cons] at hacc
    have hw := amk (wr_big (c := j) (by omega))
    have hs7 := hXs X[j] (List.getElem_mem hjl)
    refine Ev.step (fun k => rfl) (Ev.yes (by omega) (Ev.yes (by omega) (Ev.yes (by omega) ?_)))
    rw [rd_str hjl]
    have hml : (row.map fun d => X[j] ++ dT d).length = row.length := List.length_map _
    refine impl_Pins_all.lev2 L li row hrow X[j] hs7 X j (4782969 * 9) (Nat.le_refl _) o (acc ++ (row.map fun d => X[j] ++ dT d)) (by rw [List.length_append, hml]; omega) ?_ row.length 0 acc (by omega) (by rw [List.drop_zero])
    rw [hw.out]
    exact ih (j + 1) _ (by omega) (by rw [List.length_append, hml]; omega) (by rw [List.append_assoc]; exact hacc)
theorem impl_Pins_all.lev0 (L : List (List Int)) (hS : Short L) : ∀ (q i : Nat) (X : List ByteArray), i + q = L.length → X.length ≤ 9 ^ i → (∀ s ∈ X, s.size = i) → Ev (fun k => impl_Pins_all.l0 k X L (L.length : Int) (i : Int)) (bfsK (L.drop i) X, true) := by
  have h7 := hS.1
  intro q
  induction q with
  | zero =>
    intro i X hi hX hXs
    refine Ev.step (fun k => rfl) (Ev.no (by omega) (Ev.id ?_))
    rw [List.drop_eq_nil_of_le (by omega)]; rfl
  | succ q ih =>
    intro i X hi hX hXs
    have hil : i < L.length := by omega
    have hrow := hS.2 L[i] (List.getElem_mem hil)
    have h9 : 9 ^ i ≤ 4782969 := Nat.le_trans (Nat.pow_le_pow_right (by omega) (by omega : i ≤ 7)) (by decide)
    have hw := amk (wr_succ (c := i) (by omega))
    refine Ev.step (fun k => rfl) (Ev.yes (by omega) (Ev.yes (by omega) (Ev.yes (by omega) ?_)))
    rw [rd_row hil, List.drop_eq_getElem_cons hil]
    refine impl_Pins_all.lev1 L i L[i] hrow.1 X (by omega) (fun s hs => by have := hXs s hs; omega) _ ?_ X.length 0 [] (by omega) (Nat.zero_le _) (by rw [List.drop_zero]; rfl)
    rw [hw.out]
    refine ih (i + 1) _ (by omega) ?_ ?_
    · rw [flatMap_len _ L[i].length X (fun s _ => List.length_map _), Nat.pow_succ]
      exact Nat.mul_le_mul hX hrow.1
    · intro s hs
      obtain ⟨t, ht, hs⟩ := List.mem_flatMap.mp hs
      obtain ⟨d, _, rfl⟩ := List.mem_map.mp hs
      rw [ByteArray.size_append, dT_size, hXs t ht]
def allV (n : Int) (L : List (List Int)) : List ByteArray × Bool := if pinsB n L = true ∧ prodK L ≤ 200 then (extK L ⟨#[]⟩, true) else ([], false)
theorem pinsB_Short {n : Int} {L : List (List Int)} (h : pinsB n L = true) : Short L := by
  obtain ⟨h1, h2, h3⟩ := pinsB_parts h
  refine ⟨h2.2, fun r hr => ⟨?_, fun x hx => ?_⟩⟩
  · have := (rowB_len (by omega) (h3 r hr)).2
    omega
  · have := rowB_mem (h3 r hr) x hx
    omega
theorem allV_len (n : Int) (L : List (List Int)) : (allV n L).1.length ≤ 200 := by
  unfold allV
  by_cases h : pinsB n L = true ∧ prodK L ≤ 200
  · rw [if_pos h]
    show (extK L ⟨#[]⟩).length ≤ 200
    rw [extK_len]; exact h.2
  · rw [if_neg h]; exact Nat.zero_le _
theorem allV_no1 {n : Int} {L : List (List Int)} (h : pinsB n L = false) : allV n L = ([], false) := if_neg (fun hh => by rw [h] at hh; cases hh.1)
theorem allV_no2 {n : Int} {L : List (List Int)} (h : ¬ prodK L ≤ 200) : allV n L = ([], false) := if_neg (fun hh => h hh.2)
theorem allV_yes {n : Int} {L : List (List Int)} (h : pinsB n L = true) (h2 : prodK L ≤ 200) : allV n L = (extK L ⟨#[]⟩, true) := if_pos ⟨h, h2⟩
theorem spec_AllKeys.ev (n : Int) (L : List (List Int)) (hl : RowsV L) : Ev (fun k => spec_AllKeys.f k n L) (allV n L) := by
  unfold spec_AllKeys.f
  refine Ev.bind (spec_keGood.ev n L hl) ?_
  cases h : pinsB n L with
  | false => rw [allV_no1 h]; exact Ev.no (by simp) (Ev.now _)
  | true =>
    have hS := pinsB_Short h
    refine Ev.yes rfl (Ev.bind (spec_keCount.ev n L hl.1) ?_)
    rw [keysF_is hS]
    by_cases h2 : prodK L ≤ 200
    · rw [allV_yes h h2]
      exact Ev.no (by omega) (Ev.bind (spec_keAll.ev n L hS) (Ev.now _))
    · rw [allV_no2 h2]
      exact Ev.yes (by omega) (Ev.now _)
theorem impl_AllKeys.ev (n : Int) (L : List (List Int)) (hl : RowsV L) : Ev (fun k => impl_AllKeys.f k n L) (allV n L) := by
  unfold impl_AllKeys.f impl_ArePins.f
  refine Ev.bindc rfl ?_
  cases h : pinsB n L with
  | false => rw [allV_no1 h]; exact Ev.no (by simp) (Ev.now _)
  | true =>
    have hS := pinsB_Short h
    refine Ev.yes rfl ?_
    unfold impl_Pins_all.f
    by_cases h2 : prodK L ≤ 200
    · rw [allV_yes h h2]
      have hb := impl_Pins_all.lev0 L hS L.length 0 [⟨#[]⟩] (by omega) (by show 1 ≤ 9 ^ 0; decide) (fun s hs => by rw [List.mem_singleton.mp hs]; rfl)
      rw [List.drop_zero, bfsK_ext, List.flatMap_cons, List.flatMap_nil, List.append_nil] at hb
      refine Ev.bind (Ev.bind (impl_Pins_keys.ev n L hl.1) (Ev.no ?_ hb)) (Ev.now _)
      rw [keysF_is hS]; omega
    · rw [allV_no2 h2]
      refine Ev.bind (Ev.bind (impl_Pins_keys.ev n L hl.1) (Ev.yes ?_ (Ev.now _))) (Ev.now _)
      rw [keysF_is hS]; omega
/-! Declarations moved out of EPinsS. -/
theorem spec_keKind.is (n : Int) (x : List (List Int)) (m : Int) (y : List (List Int)) : spec_keKind.f n x m y = some ((n == m) && (x.length == y.length)) := by
  unfold spec_keKind.f
  by_cases h : n = m
  · rw [if_pos h, h]
    congr 1
    rw [Bool.eq_iff_iff]
    simp only [beq_iff_eq, Bool.and_eq_true, true_and]
    omega
  · rw [if_neg h]
    simp [h]
theorem spec_keList.lev (l : List S24) (hl1 : l.length ≤ 9223372036854775807) (hl : ∀ p ∈ l, RowsV p.f1) : ∀ (m i : Nat), i + m = l.length → Ev (fun k => spec_keList.l0 k l l (l.length : Int) (i : Nat)) ((l.drop i).all fun p => pinsB p.f0 p.f1 && (p.f0 == (rd_T24 l 0).f0) && (p.f1.length == (rd_T24 l 0).f1.length)) := by
  intro m
  induction m with
  | zero =>
    intro i hi
    refine Ev.step (fun k => rfl) (Ev.no (by omega) (Ev.id ?_))
    rw [List.drop_eq_nil_of_le (by omega)]; rfl
  | succ m ih =>
    intro i hi
    have hlt : i < l.length := by omega
    refine Ev.step (fun k => rfl) (Ev.yes (by omega) (Ev.yes (by omega) (Ev.yes (by omega) ?_)))
    rw [rd_pins hlt, List.drop_eq_getElem_cons hlt, List.all_cons]
    refine Ev.bind (spec_keGood.ev _ _ (hl _ (List.getElem_mem hlt))) ?_
    have hgo := ih (i + 1) (by omega)
    cases pinsB l[i].f0 l[i].f1 with
    | false => exact Ev.no (by simp) (Ev.id (by simp))
    | true =>
      refine Ev.yes rfl (Ev.yes (by omega) (Ev.bindc (spec_keKind.is _ _ _ _) ?_))
      rw [Bool.true_and]
      cases (l[i].f0 == (rd_T24 l 0).f0) && (l[i].f1.length == (rd_T24 l 0).f1.length) with
      | false => exact Ev.no (by simp) (Ev.id rfl)
      | true =>
        refine Ev.yes rfl ?_
        rw [w64 (x := (i : Int) + 1) (by omega) (by omega), Bool.true_and]
        exact hgo
theorem spec_keList.ev (l : List S24) (hl1 : l.length ≤ 9223372036854775807) (hl : ∀ p ∈ l, RowsV p.f1) : Ev (fun k => spec_keList.f k l) (kindB l) := by
  unfold spec_keList.f kindB
  refine Ev.bindc (spec_l1In.bs _ _ _) ?_
  by_cases h1 : 1 ≤ (l.length : Int) ∧ (l.length : Int) ≤ 6
  · rw [decide_eq_true h1]
    refine Ev.yes rfl ?_
    have := spec_keList.lev l hl1 hl l.length 0 (by omega)
    simpa using this
  · rw [decide_eq_false h1]
    exact Ev.no (by simp) (Ev.id (by simp))
/-! Declarations moved out of LFnExactGhostKeys. -/
theorem shl_pow : ∀ n : Fin 7, shl .i64 1 ((n.val : Nat) : Int) = ((2 ^ n.val : Nat) : Int) := by decide +kernel
def bitB (s i : Nat) : Bool := decide (Int.tmod (shr .i64 ((s : Nat) : Int) ((i : Nat) : Int)) 2 = 1)
theorem bit_and : ∀ s : Fin 64, ∀ i : Fin 6, decide (Go.bits .and .i64 (shr .i64 ((s.val : Nat) : Int) ((i.val : Nat) : Int)) 1 = 1) = bitB s.val i.val := by decide +kernel
theorem bit_some : ∀ n : Fin 7, ∀ s : Fin 64, 1 ≤ s.val → s.val < 2 ^ n.val → ∃ i : Fin 6, i.val < n.val ∧ bitB s.val i.val = true := by decide +kernel
def pickS (s : Nat) : List S24 → Nat → List S24
  | [], _ => []
  | p :: t, i => if bitB s i = true then p :: pickS s t (i + 1) else pickS s t (i + 1)
theorem pickS_cons (s : Nat) (p : S24) (t : List S24) (i : Nat) : pickS s (p :: t) i = if bitB s i = true then p :: pickS s t (i + 1) else pickS s t (i + 1) := rfl
theorem pickS_mem (s : Nat) : ∀ (l : List S24) (i : Nat), ∀ p ∈ pickS s l i, p ∈ l := by
  intro l
  induction l with
  | nil => intro i p hp; exact hp
  | cons q t ih =>
    intro i p hp
    unfold pickS at hp
    by_cases e : bitB s i = true
    · rw [if_pos e] at hp
      rcases List.mem_cons.mp hp with rfl | hp
      · exact List.mem_cons_self
      · exact List.mem_cons_of_mem _ (ih _ p hp)
    · rw [if_neg e] at hp
      exact List.mem_cons_of_mem _ (ih _ p hp)
theorem pickS_len (s : Nat) : ∀ (l : List S24) (i : Nat), (pickS s l i).length ≤ l.length := by
  intro l
  induction l with
  | nil => intro i; exact Nat.le_refl _
  | cons q t ih =>
    intro i
    unfold pickS
    have := ih (i + 1)
    by_cases e : bitB s i = true
    · rw [if_pos e]; simp; omega
    · rw [if_neg e]; simp; omega
theorem pickS_pos (s : Nat) : ∀ (l : List S24) (i j : Nat), i ≤ j → j < i + l.length → bitB s j = true → 0 < (pickS s l i).length := by
  intro l
  induction l with
  | nil => intro i j h1 h2 _; simp at h2; omega
  | cons q t ih =>
    intro i j h1 h2 hb
    unfold pickS
    by_cases e : bitB s i = true
    · rw [if_pos e]; simp
    · rw [if_neg e]
      have hne : i ≠ j := fun h => e (h ▸ hb)
      simp only [List.length_cons] at h2
      exact ih (i + 1) j (by omega) (by omega) hb
def ghostC (n m : Nat) (l : List S24) (s : Nat) (c : Int) : Int :=
  if ((pickS s l 0).length : Int) % 2 = 1 then wrap64 (c - keysF (rowsOf n m (inB true (pickS s l 0)))) else wrap64 (c + keysF (rowsOf n m (inB true (pickS s l 0))))
def ghostF (n m : Nat) (l : List S24) : Nat → Nat → Int → Int
  | 0, _, c => c
  | q + 1, s, c => ghostF n m l q (s + 1) (ghostC n m l s c)
theorem KindL_pick {n m : Nat} {l : List S24} (h : KindL n m l) (s : Nat) : KindL n m (pickS s l 0) := ⟨h.1, h.2.1, fun p hp => h.2.2 p (pickS_mem s l 0 p hp)⟩
theorem rows_short {n m : Nat} {l : List S24} (h : KindL n m l) (f : Nat → Int → Bool) : (rowsOf n m f).length ≤ 9223372036854775807 := by rw [rowsOf_len]; have := h.2.1; omega
theorem impl_GhostKeys.lev1 (n m : Nat) (l : List S24) (h : KindL n m l) (hl : l.length ≤ 6) (s : Nat) (hs : s < 64) (hpos : 0 < (pickS s l 0).length) (c : Int) (o : Int × Bool) (hgo : Ev (fun k => impl_GhostKeys.l0 k l (ghostC n m l s c) ((s + 1 : Nat) : Int)) o) :
    ∀ (q i : Nat) (acc : List S24), i + q = l.length → acc.length ≤ i → acc ++ pickS s (l.drop i) i = pickS s l 0 → Ev (fun k => impl_GhostKeys.l1 k l c (s : Int) acc l (l.length : Int) (i : Int)) o := by
  intro q
  induction q with
  | zero =>
    intro i acc hi ha hacc
    have hws := amk (wr_succ (c := s) (by omega))
    rw [List.drop_eq_nil_of_le (by omega)] at hacc
    have hacc2 : acc = pickS s l 0 := by rw [← hacc]; exact (List.append_nil acc).symm
    refine Ev.step (fun k => rfl) (Ev.no (by omega) ?_)
    have hle := pickS_len s l 0
    rw [hacc2]
    refine Ev.bind (impl_shared.ev (pickS s l 0) n m hpos (KindL_pick h s) (by omega)) (Ev.bind (impl_Pins_keys.ev _ _ (rows_short h _)) ?_)
    rw [hws.out]
    unfold ghostC at hgo
    by_cases e : ((pickS s l 0).length : Int) % 2 = 1
    · rw [if_pos e] at hgo
      exact Ev.yes e hgo
    · rw [if_neg e] at hgo
      exact Ev.no e hgo
  | succ q ih =>
    intro i acc hi ha hacc
    have hlt : i < l.length := by omega
    have hwi := amk (wr_succ (c := i) (by omega))
    rw [List.drop_eq_getElem_cons hlt, pickS_cons] at hacc
    have hb := bit_and ⟨s, hs⟩ ⟨i, by omega⟩
    simp only [] at hb
    refine Ev.step (fun k => rfl) (Ev.yes (by omega) (Ev.yes (by omega) (Ev.yes (by omega) ?_)))
    rw [rd_pins hlt, hwi.out]
    by_cases e : bitB s i = true
    · rw [if_pos e] at hacc
      rw [e] at hb
      refine Ev.yes (of_decide_eq_true hb) (Ev.yes (by omega) ?_)
      exact ih (i + 1) (acc ++ [l[i]]) (by omega) (by simp; omega) (by rw [List.append_assoc]; exact hacc)
    · rw [if_neg e] at hacc
      rw [Bool.eq_false_iff.mpr e] at hb
      exact Ev.no (of_decide_eq_false hb) (ih (i + 1) acc (by omega) (by omega) hacc)
theorem spec_GhostKeys.lev1 (n m : Nat) (l : List S24) (h : KindL n m l) (hl : l.length ≤ 6) (s : Nat) (hs : s < 64) (hpos : 0 < (pickS s l 0).length) (c : Int) (o : Int × Bool) (hgo : Ev (fun k => spec_GhostKeys.l0 k l (ghostC n m l s c) ((s + 1 : Nat) : Int)) o) :
    ∀ (q i : Nat) (acc : List S24), i + q = l.length → acc.length ≤ i → acc ++ pickS s (l.drop i) i = pickS s l 0 → Ev (fun k => spec_GhostKeys.l1 k l c (s : Int) acc l (l.length : Int) (i : Int)) o := by
  intro q
  induction q with
  | zero =>
    intro i acc hi ha hacc
    have hws := amk (wr_succ (c := s) (by omega))
    rw [List.drop_eq_nil_of_le (by omega)] at hacc
    have hacc2 : acc = pickS s l 0 := by rw [← hacc]; exact (List.append_nil acc).symm
    refine Ev.step (fun k => rfl) (Ev.no (by omega) ?_)
    rw [hacc2]
    refine Ev.bind (spec_keJoined.ev true n m (pickS s l 0) hpos (KindL_pick h s)) (Ev.bind (spec_keCount.ev _ _ (rows_short h _)) ?_)
    rw [hws.out]
    unfold ghostC at hgo
    by_cases e : ((pickS s l 0).length : Int) % 2 = 1
    · rw [if_pos e] at hgo
      exact Ev.yes e hgo
    · rw [if_neg e] at hgo
      exact Ev.no e hgo
  | succ q ih =>
    intro i acc hi ha hacc
    have hlt : i < l.length := by omega
    have hwi := amk (wr_succ (c := i) (by omega))
    rw [List.drop_eq_getElem_cons hlt, pickS_cons] at hacc
    refine Ev.step (fun k => rfl) (Ev.yes (by omega) (Ev.yes (by omega) (Ev.yes (by omega) ?_)))
    rw [rd_pins hlt, hwi.out]
    by_cases e : bitB s i = true
    · rw [if_pos e] at hacc
      refine Ev.yes (of_decide_eq_true e) (Ev.yes (by omega) ?_)
      exact ih (i + 1) (acc ++ [l[i]]) (by omega) (by simp; omega) (by rw [List.append_assoc]; exact hacc)
    · rw [if_neg e] at hacc
      exact Ev.no (fun hh => e (decide_eq_true hh)) (ih (i + 1) acc (by omega) (by omega) hacc)
theorem ghost_pos {l : List S24} (hl : l.length ≤ 6) {s : Nat} (h1 : 1 ≤ s) (h2 : s < 2 ^ l.length) (hs : s < 64) : 0 < (pickS s l 0).length := by
  obtain ⟨i, hi, hb⟩ := bit_some ⟨l.length, by omega⟩ ⟨s, hs⟩ h1 h2
  exact pickS_pos s l 0 i.val (by omega) (by simp only [] at hi; omega) hb
theorem impl_GhostKeys.lev0 (n m : Nat) (l : List S24) (h : KindL n m l) (hl : l.length ≤ 6) (hp : 2 ^ l.length ≤ 64) : ∀ (q s : Nat) (c : Int), s + q = 2 ^ l.length → 1 ≤ s → Ev (fun k => impl_GhostKeys.l0 k l c (s : Int)) (ghostF n m l q s c, true) := by
  have hshl := amk (shl_pow ⟨l.length, by omega⟩)
  generalize hT : 2 ^ l.length = T at hp
  intro q
  induction q with
  | zero =>
    intro s c hs h1
    refine Ev.step (fun k => rfl) (Ev.no ?_ (Ev.now _))
    rw [show shl .i64 1 (l.length : Int) = ((2 ^ l.length : Nat) : Int) from hshl.out, hT]
    omega
  | succ q ih =>
    intro s c hs h1
    have hpos := ghost_pos hl h1 (by rw [hT]; omega) (by omega)
    refine Ev.step (fun k => rfl) (Ev.yes ?_ ?_)
    · rw [show shl .i64 1 (l.length : Int) = ((2 ^ l.length : Nat) : Int) from hshl.out, hT]
      omega
    · exact impl_GhostKeys.lev1 n m l h hl s (by omega) hpos c _ (ih (s + 1) (ghostC n m l s c) (by omega) (by omega)) l.length 0 [] (by omega) (Nat.le_refl _) rfl
theorem spec_GhostKeys.lev0 (n m : Nat) (l : List S24) (h : KindL n m l) (hl : l.length ≤ 6) (hp : 2 ^ l.length ≤ 64) : ∀ (q s : Nat) (c : Int), s + q = 2 ^ l.length → 1 ≤ s → Ev (fun k => spec_GhostKeys.l0 k l c (s : Int)) (ghostF n m l q s c, true) := by
  have hshl := amk (shl_pow ⟨l.length, by omega⟩)
  generalize hT : 2 ^ l.length = T at hp
  intro q
  induction q with
  | zero =>
    intro s c hs h1
    refine Ev.step (fun k => rfl) (Ev.no ?_ (Ev.now _))
    rw [show shl .i64 1 (l.length : Int) = ((2 ^ l.length : Nat) : Int) from hshl.out, hT]
    omega
  | succ q ih =>
    intro s c hs h1
    have hpos := ghost_pos hl h1 (by rw [hT]; omega) (by omega)
    refine Ev.step (fun k => rfl) (Ev.yes ?_ ?_)
    · rw [show shl .i64 1 (l.length : Int) = ((2 ^ l.length : Nat) : Int) from hshl.out, hT]
      omega
    · exact spec_GhostKeys.lev1 n m l h hl s (by omega) hpos c _ (ih (s + 1) (ghostC n m l s c) (by omega) (by omega)) l.length 0 [] (by omega) (Nat.le_refl _) rfl
def ghostV (L : List S24) : Int × Bool :=
  if kindB L = true then (ghostF (rd_T24 L 0).f0.toNat (rd_T24 L 0).f1.length L (2 ^ L.length - 1) 1 (keysF (rowsOf (rd_T24 L 0).f0.toNat (rd_T24 L 0).f1.length (inB false L))), true) else (0, false)
theorem GhostKeys.both (L : List S24) (hl2 : L.length ≤ 9223372036854775807) (hv2 : ∀ p ∈ L, RowsV p.f1) : Ev (fun k => spec_GhostKeys.f k L) (ghostV L) ∧ Ev (fun k => impl_GhostKeys.f k L) (ghostV L) := by
  unfold spec_GhostKeys.f impl_GhostKeys.f impl_ofKind.f ghostV
  cases hk : kindB L with
  | false =>
    refine ⟨Ev.bind (spec_keList.ev L hl2 hv2) (Ev.no (by rw [hk]; simp) (Ev.id (by simp))), Ev.bindc rfl (Ev.no (by simp) (Ev.id (by simp)))⟩
  | true =>
    obtain ⟨n, m, hkl, hne, h6⟩ := kindB_KindL hk hv2
    obtain ⟨h0, h1, _⟩ := hkl.2.2 L[0] (List.getElem_mem hne)
    have hq : rd_T24 L 0 = L[0] := rd_pins hne
    have hn0 : L[0].f0.toNat = n := by omega
    have hp : 2 ^ L.length ≤ 64 := Nat.le_trans (Nat.pow_le_pow_right (by omega) h6) (by decide)
    have hp1 : 1 ≤ 2 ^ L.length := Nat.one_le_two_pow
    rw [hq, hn0, h1, if_pos rfl]
    generalize hT : 2 ^ L.length = T at hp1
    refine ⟨Ev.bind (spec_keList.ev L hl2 hv2) (Ev.yes hk (Ev.bind (spec_keJoined.ev false n m L hne hkl) (Ev.bind (spec_keCount.ev _ _ (rows_short hkl _)) ?_))), Ev.bindc rfl (Ev.yes rfl (Ev.bind (impl_master.ev L n m hne hkl (by omega)) (Ev.bind (impl_Pins_keys.ev _ _ (rows_short hkl _)) ?_)))⟩
    · exact spec_GhostKeys.lev0 n m L hkl h6 hp (T - 1) 1 _ (by omega) (Nat.le_refl _)
    · exact impl_GhostKeys.lev0 n m L hkl h6 hp (T - 1) 1 _ (by omega) (Nat.le_refl _)
/-! Declarations moved out of LFnExactSharedKeys. -/
theorem impl_Pins_all.ev (n : Int) (L : List (List Int)) (hS : Short L) : Ev (fun k => impl_Pins_all.f k n L) (if prodK L ≤ 200 then (extK L ⟨#[]⟩, true) else ([], false)) := by
  have h7 := hS.1
  unfold impl_Pins_all.f
  by_cases h2 : prodK L ≤ 200
  · rw [if_pos h2]
    have hb := impl_Pins_all.lev0 L hS L.length 0 [⟨#[]⟩] (by omega) (by show 1 ≤ 9 ^ 0; decide) (fun s hs => by rw [List.mem_singleton.mp hs]; rfl)
    rw [List.drop_zero, bfsK_ext, List.flatMap_cons, List.flatMap_nil, List.append_nil] at hb
    refine Ev.bind (impl_Pins_keys.ev n L (by omega)) (Ev.no ?_ hb)
    rw [keysF_is hS]; omega
  · rw [if_neg h2]
    refine Ev.bind (impl_Pins_keys.ev n L (by omega)) (Ev.yes ?_ (Ev.now _))
    rw [keysF_is hS]; omega
theorem rowsOf_short (n m : Nat) (hn : n ≤ 9) (hm : m ≤ 7) (f : Nat → Int → Bool) : Short (rowsOf n m f) := by
  refine ⟨by rw [rowsOf_len]; exact hm, fun r hr => ?_⟩
  unfold rowsOf at hr
  obtain ⟨i, _, rfl⟩ := List.mem_map.mp hr
  refine ⟨Nat.le_trans (filter_len_le _ _) (by rw [rngFrom_len]; exact hn), fun x hx => ?_⟩
  have := rngFrom_mem (List.mem_filter.mp hx).1
  omega
def shV (L : List S24) : List ByteArray × Bool := if kindB L = true then (if prodK (rowsOf (rd_T24 L 0).f0.toNat (rd_T24 L 0).f1.length (inB true L)) ≤ 200 then (extK (rowsOf (rd_T24 L 0).f0.toNat (rd_T24 L 0).f1.length (inB true L)) ⟨#[]⟩, true) else ([], false)) else ([], false)
theorem shV_len (L : List S24) : (shV L).1.length ≤ 200 := by
  unfold shV
  by_cases h : kindB L = true
  · rw [if_pos h]
    by_cases h2 : prodK (rowsOf (rd_T24 L 0).f0.toNat (rd_T24 L 0).f1.length (inB true L)) ≤ 200
    · rw [if_pos h2]
      show (extK _ ⟨#[]⟩).length ≤ 200
      rw [extK_len]; exact h2
    · rw [if_neg h2]; exact Nat.zero_le _
  · rw [if_neg h]; exact Nat.zero_le _
theorem SharedKeys.both (L : List S24) (hl2 : L.length ≤ 9223372036854775807) (hv2 : ∀ p ∈ L, RowsV p.f1) : Ev (fun k => spec_SharedKeys.f k L) (shV L) ∧ Ev (fun k => impl_SharedKeys.f k L) (shV L) := by
  unfold spec_SharedKeys.f impl_SharedKeys.f impl_ofKind.f shV
  cases hk : kindB L with
  | false =>
    refine ⟨Ev.bind (spec_keList.ev L hl2 hv2) (Ev.no (by rw [hk]; simp) (Ev.id (by simp))), Ev.bindc rfl (Ev.no (by simp) (Ev.id (by simp)))⟩
  | true =>
    obtain ⟨n, m, hkl, hne, h6⟩ := kindB_KindL hk hv2
    obtain ⟨h0, h1, _⟩ := hkl.2.2 L[0] (List.getElem_mem hne)
    have hq : rd_T24 L 0 = L[0] := rd_pins hne
    have hn0 : L[0].f0.toNat = n := by omega
    have hS := rowsOf_short n m hkl.1 hkl.2.1 (inB true L)
    have hlen : (rowsOf n m (inB true L)).length ≤ 9223372036854775807 := by have := hS.1; omega
    rw [hq, hn0, h1, if_pos rfl]
    refine ⟨Ev.bind (spec_keList.ev L hl2 hv2) (Ev.yes hk (Ev.bind (spec_keJoined.ev true n m L hne hkl) (Ev.bind (spec_keCount.ev _ _ hlen) ?_))), Ev.bindc rfl (Ev.yes rfl (Ev.bind (impl_shared.ev L n m hne hkl (by omega)) (Ev.bind (impl_Pins_all.ev _ _ hS) (Ev.id rfl))))⟩
    rw [keysF_is hS]
    by_cases h2 : prodK (rowsOf n m (inB true L)) ≤ 200
    · rw [if_pos h2]
      exact Ev.no (by omega) (Ev.bind (spec_keAll.ev _ _ hS) (Ev.now _))
    · rw [if_neg h2]
      exact Ev.yes (by omega) (Ev.now _)
/-! Keys of pins as rows of numbers; how many of them open none of a list: inclusion and exclusion. No program. -/
def tupK : List (List Int) → List (List Int)
  | [] => [[]]
  | r :: t => r.flatMap fun d => (tupK t).map fun x => d :: x
def opT (A : Nat → Int → Bool) : Nat → List Int → Bool
  | _, [] => true
  | i, d :: x => A i d && opT A (i + 1) x
def filtK (A : Nat → Int → Bool) : Nat → List (List Int) → List (List Int)
  | _, [] => []
  | i, r :: t => r.filter (A i) :: filtK A (i + 1) t
theorem tupK_len : ∀ (l : List (List Int)), (tupK l).length = prodK l := by
  intro l
  induction l with
  | nil => rfl
  | cons r t ih =>
    show (r.flatMap fun d => (tupK t).map fun x => d :: x).length = r.length * prodK t
    exact flatMap_len _ _ _ (fun d _ => by rw [List.length_map, ih])
theorem tupK_count (A : Nat → Int → Bool) : ∀ (l : List (List Int)) (i : Nat), (tupK l).countP (opT A i) = prodK (filtK A i l) := by
  intro l
  induction l with
  | nil => intro i; rfl
  | cons r t ih =>
    intro i
    show (r.flatMap fun d => (tupK t).map fun x => d :: x).countP (opT A i) = (r.filter (A i)).length * prodK (filtK A (i + 1) t)
    rw [← ih (i + 1)]
    induction r with
    | nil => show (0 : Nat) = 0 * _; rw [Nat.zero_mul]
    | cons d r ihr =>
      rw [List.flatMap_cons, List.countP_append, ihr, List.countP_map]
      by_cases h : A i d = true
      · rw [List.filter_cons_of_pos h, List.length_cons, Nat.succ_mul, Nat.add_comm]
        congr 1
        apply List.countP_congr
        intro x _
        show (A i d && opT A (i + 1) x) = true ↔ opT A (i + 1) x = true
        rw [h, Bool.true_and]
      · rw [List.filter_cons_of_neg h]
        have hz : (tupK t).countP (opT A i ∘ fun x => d :: x) = 0 := by
          rw [List.countP_eq_zero]
          intro x _
          show ¬ (A i d && opT A (i + 1) x) = true
          rw [Bool.eq_false_iff.mpr h, Bool.false_and]; simp
        rw [hz, Nat.zero_add]
theorem filtK_range (A : Nat → Int → Bool) (g : Nat → List Int) : ∀ (m s : Nat), filtK A s ((List.range' s m).map g) = (List.range' s m).map fun i => (g i).filter (A i) := by
  intro m
  induction m with
  | zero => intro s; rfl
  | succ m ih =>
    intro s
    rw [List.range'_succ, List.map_cons, List.map_cons]
    show (g s).filter (A s) :: filtK A (s + 1) _ = _
    rw [ih]
theorem filtK_rows (A f : Nat → Int → Bool) (n m : Nat) : filtK A 0 (rowsOf n m f) = rowsOf n m fun i d => f i d && A i d := by
  unfold rowsOf
  rw [filtK_range]
  apply List.map_congr_left
  intro i _
  rw [List.filter_filter]
  apply List.filter_congr
  intro d _
  rw [Bool.and_comm]
theorem opT_and (A B : Nat → Int → Bool) : ∀ (x : List Int) (i : Nat), opT (fun i d => A i d && B i d) i x = (opT A i x && opT B i x) := by
  intro x
  induction x with
  | nil => intro i; rfl
  | cons d x ih =>
    intro i
    show (A i d && B i d && opT (fun i d => A i d && B i d) (i + 1) x) = (A i d && opT A (i + 1) x && (B i d && opT B (i + 1) x))
    rw [ih]
    cases A i d <;> cases B i d <;> cases opT A (i + 1) x <;> cases opT B (i + 1) x <;> rfl
theorem opT_true : ∀ (x : List Int) (i : Nat), opT (fun _ _ => true) i x = true := by
  intro x
  induction x with
  | nil => intro i; rfl
  | cons d x ih => intro i; exact ih (i + 1)
def hasT (p : S24) (i : Nat) (d : Int) : Bool := (p.f1.getD i []).contains d
def opP (p : S24) (x : List Int) : Bool := opT (hasT p) 0 x
theorem opT_all (x : List Int) : ∀ (l : List S24), opT (inB true l) 0 x = l.all fun p => opP p x := by
  intro l
  induction l with
  | nil => exact opT_true x 0
  | cons p t ih =>
    have h : inB true (p :: t) = fun i d => hasT p i d && inB true t i d := by
      funext i d
      rw [inB_cons, if_pos rfl]; rfl
    rw [h, opT_and, ih, List.all_cons]; rfl
/-- What is counted: of the master's keys, those that open all of some. -/
theorem count_all (n m : Nat) (L T : List S24) (hs : ∀ p ∈ T, p ∈ L) (h0 : 0 < T.length) : (tupK (rowsOf n m (inB false L))).countP (fun x => T.all fun p => opP p x) = prodK (rowsOf n m (inB true T)) := by
  rw [show (fun x => T.all fun p => opP p x) = opT (inB true T) 0 from funext fun x => (opT_all x T).symm, tupK_count, filtK_rows]
  congr 1
  apply rowsOf_congr
  intro i _ d _
  cases h : inB true T i d with
  | false => rw [Bool.and_false]
  | true =>
    rw [Bool.and_true]
    unfold inB at h ⊢
    rw [if_pos rfl, List.all_eq_true] at h
    rw [if_neg (by simp), List.any_eq_true]
    exact ⟨T[0], hs _ (List.getElem_mem h0), h _ (List.getElem_mem h0)⟩
/-! Sums, and what the bits choose. -/
def sumR (f : Nat → Int) : Nat → Nat → Int
  | 0, _ => 0
  | q + 1, s => f s + sumR f q (s + 1)
theorem sumR_two (f : Nat → Int) : ∀ (q s : Nat), sumR f (2 * q) (2 * s) = sumR (fun j => f (2 * j) + f (2 * j + 1)) q s := by
  intro q
  induction q with
  | zero => intro s; rfl
  | succ q ih =>
    intro s
    have h := ih (s + 1)
    show f (2 * s) + (f (2 * s + 1) + sumR f (2 * q) (2 * (s + 1))) = _
    rw [h]
    show _ = (f (2 * s) + f (2 * s + 1)) + sumR (fun j => f (2 * j) + f (2 * j + 1)) q (s + 1)
    omega
theorem sumR_congr {f g : Nat → Int} : ∀ (q s : Nat), (∀ j, s ≤ j → j < s + q → f j = g j) → sumR f q s = sumR g q s := by
  intro q
  induction q with
  | zero => intro s _; rfl
  | succ q ih =>
    intro s h
    show f s + sumR f q (s + 1) = g s + sumR g q (s + 1)
    rw [h s (Nat.le_refl _) (by omega), ih (s + 1) (fun j h1 h2 => h j (by omega) (by omega))]
theorem sumR_sub (f g : Nat → Int) : ∀ (q s : Nat), sumR (fun j => f j - g j) q s = sumR f q s - sumR g q s := by
  intro q
  induction q with
  | zero => intro s; rfl
  | succ q ih =>
    intro s
    show f s - g s + sumR (fun j => f j - g j) q (s + 1) = f s + sumR f q (s + 1) - (g s + sumR g q (s + 1))
    rw [ih]; omega
theorem bit_low : ∀ s : Fin 32, bitB (2 * s.val) 0 = false ∧ bitB (2 * s.val + 1) 0 = true := by decide +kernel
theorem bit_up : ∀ s : Fin 32, ∀ i : Fin 5, bitB (2 * s.val) (i.val + 1) = bitB s.val i.val ∧ bitB (2 * s.val + 1) (i.val + 1) = bitB s.val i.val := by decide +kernel
theorem pickS_up {s s2 : Nat} : ∀ (l : List S24) (i : Nat), (∀ j, i ≤ j → j < i + l.length → bitB s2 (j + 1) = bitB s j) → pickS s2 l (i + 1) = pickS s l i := by
  intro l
  induction l with
  | nil => intro i _; rfl
  | cons p t ih =>
    intro i h
    rw [pickS_cons, pickS_cons, h i (Nat.le_refl _) (by rw [List.length_cons]; omega), ih (i + 1) (fun j h1 h2 => h j (by omega) (by rw [List.length_cons]; omega))]
theorem pickS_even {s : Nat} (hs : s < 32) (p : S24) (t : List S24) (ht : t.length ≤ 5) : pickS (2 * s) (p :: t) 0 = pickS s t 0 := by
  rw [pickS_cons, if_neg (by rw [(bit_low ⟨s, hs⟩).1]; simp)]
  exact pickS_up t 0 (fun j _ h2 => (bit_up ⟨s, hs⟩ ⟨j, by omega⟩).1)
theorem pickS_odd {s : Nat} (hs : s < 32) (p : S24) (t : List S24) (ht : t.length ≤ 5) : pickS (2 * s + 1) (p :: t) 0 = p :: pickS s t 0 := by
  rw [pickS_cons, if_pos (bit_low ⟨s, hs⟩).2]
  congr 1
  exact pickS_up t 0 (fun j _ h2 => (bit_up ⟨s, hs⟩ ⟨j, by omega⟩).2)
def sgK (l : List S24) (c : Nat) : Int := if (l.length : Int) % 2 = 1 then -(c : Int) else (c : Int)
theorem sgK_cons (p : S24) (l : List S24) (c : Nat) : sgK (p :: l) c = -sgK l c := by
  unfold sgK
  rw [List.length_cons]
  by_cases h : (l.length : Int) % 2 = 1
  · rw [if_pos h, if_neg (by omega)]; omega
  · rw [if_neg h, if_pos (by omega)]
theorem countP_part {α : Type} (P Q : α → Bool) : ∀ (l : List α), l.countP P = l.countP (fun x => P x && Q x) + l.countP (fun x => P x && !Q x) := by
  intro l
  induction l with
  | nil => rfl
  | cons a t ih =>
    rw [List.countP_cons, List.countP_cons, List.countP_cons, ih]
    cases P a <;> cases Q a <;> simp <;> omega
theorem incl_excl (K : List (List Int)) : ∀ (t : List S24) (P : List Int → Bool), t.length ≤ 6 →
    sumR (fun s => sgK (pickS s t 0) (K.countP fun x => P x && (pickS s t 0).all fun p => opP p x)) (2 ^ t.length) 0 = ((K.countP fun x => P x && t.all fun p => !opP p x : Nat) : Int) := by
  intro t
  induction t with
  | nil =>
    intro P _
    show sgK [] (K.countP fun x => P x && true) + 0 = _
    unfold sgK
    rw [if_neg (by decide), Int.add_zero]
    rfl
  | cons p t ih =>
    intro P ht
    rw [List.length_cons] at ht
    have h32 : 2 ^ t.length ≤ 32 := Nat.le_trans (Nat.pow_le_pow_right (by omega) (by omega : t.length ≤ 5)) (by decide)
    have h1 := ih P (by omega)
    have h2 := ih (fun x => P x && opP p x) (by omega)
    have hr : (K.countP fun x => P x && (p :: t).all fun p => !opP p x) + (K.countP fun x => P x && opP p x && t.all fun p => !opP p x) = K.countP fun x => P x && t.all fun p => !opP p x := by
      rw [countP_part (fun x => P x && t.all fun p => !opP p x) (opP p) K, Nat.add_comm]
      congr 1
      · apply List.countP_congr
        intro x _
        cases P x <;> cases opP p x <;> cases (t.all fun p => !opP p x) <;> simp
      · apply List.countP_congr
        intro x _
        rw [List.all_cons]
        cases P x <;> cases opP p x <;> cases (t.all fun p => !opP p x) <;> simp
    have hs : 2 ^ (p :: t).length = 2 * 2 ^ t.length := by rw [List.length_cons, Nat.pow_succ, Nat.mul_comm]
    rw [hs, show (0 : Nat) = 2 * 0 from rfl, sumR_two]
    rw [sumR_congr (g := fun s => sgK (pickS s t 0) (K.countP fun x => P x && (pickS s t 0).all fun p => opP p x) - sgK (pickS s t 0) (K.countP fun x => P x && opP p x && (pickS s t 0).all fun p => opP p x)) (2 ^ t.length) 0 (fun j _ h2 => ?_)]
    · rw [sumR_sub, h1, h2]
      omega
    · show sgK (pickS (2 * j) (p :: t) 0) _ + sgK (pickS (2 * j + 1) (p :: t) 0) _ = _
      rw [pickS_even (by omega) p t (by omega), pickS_odd (by omega) p t (by omega), sgK_cons, Int.sub_eq_add_neg]
      congr 3
      apply List.countP_congr
      intro x _
      rw [List.all_cons, Bool.and_assoc]
/-! What the program's sum comes to. -/
theorem ghostF_sum (n m : Nat) (hn : n ≤ 9) (hm : m ≤ 7) (L : List S24) : ∀ (q s : Nat) (c : Int), -1000000000 ≤ c - 4782969 * q → c + 4782969 * q ≤ 1000000000 → ghostF n m L q s c = c + sumR (fun j => sgK (pickS j L 0) (prodK (rowsOf n m (inB true (pickS j L 0))))) q s := by
  intro q
  induction q with
  | zero => intro s c _ _; show c = c + 0; omega
  | succ q ih =>
    intro s c h1 h2
    have hS := rowsOf_short n m hn hm (inB true (pickS s L 0))
    have hb := prodK_big hS
    have hc : ghostC n m L s c = c + sgK (pickS s L 0) (prodK (rowsOf n m (inB true (pickS s L 0)))) := by
      unfold ghostC sgK
      rw [keysF_is hS]
      by_cases e : ((pickS s L 0).length : Int) % 2 = 1
      · rw [if_pos e, if_pos e, w64 (by omega) (by omega)]; omega
      · rw [if_neg e, if_neg e, w64 (by omega) (by omega)]
    have hsg : -4782969 ≤ sgK (pickS s L 0) (prodK (rowsOf n m (inB true (pickS s L 0)))) ∧ sgK (pickS s L 0) (prodK (rowsOf n m (inB true (pickS s L 0)))) ≤ 4782969 := by
      unfold sgK
      by_cases e : ((pickS s L 0).length : Int) % 2 = 1
      · rw [if_pos e]; omega
      · rw [if_neg e]; omega
    show ghostF n m L q (s + 1) (ghostC n m L s c) = c + (sgK (pickS s L 0) (prodK (rowsOf n m (inB true (pickS s L 0)))) + sumR _ q (s + 1))
    rw [hc, ih (s + 1) _ (by omega) (by omega)]
    omega
theorem pickS_zero : ∀ (l : List S24), l.length ≤ 6 → pickS 0 l 0 = [] := by
  intro l h
  have hb : ∀ i : Fin 6, bitB 0 i.val = false := by decide +kernel
  have : ∀ (t : List S24) (i : Nat), i + t.length ≤ 6 → pickS 0 t i = [] := by
    intro t
    induction t with
    | nil => intro i _; rfl
    | cons p t ih =>
      intro i hi
      rw [List.length_cons] at hi
      rw [pickS_cons, if_neg (by rw [hb ⟨i, by omega⟩]; simp)]
      exact ih (i + 1) (by omega)
  exact this l 0 (by omega)
/-- Ghosts: the master's keys that open none. -/
theorem ghosts_count (n m : Nat) (hn : n ≤ 9) (hm : m ≤ 7) (L : List S24) (h6 : L.length ≤ 6) :
    ghostF n m L (2 ^ L.length - 1) 1 (keysF (rowsOf n m (inB false L))) = (((tupK (rowsOf n m (inB false L))).countP fun x => L.all fun p => !opP p x : Nat) : Int) := by
  have hS := rowsOf_short n m hn hm (inB false L)
  have hb := prodK_big hS
  have hp : 2 ^ L.length ≤ 64 := Nat.le_trans (Nat.pow_le_pow_right (by omega) h6) (by decide)
  have hp1 : 1 ≤ 2 ^ L.length := Nat.one_le_two_pow
  have hi := incl_excl (tupK (rowsOf n m (inB false L))) L (fun _ => true) h6
  simp only [Bool.true_and] at hi
  rw [← hi, keysF_is hS]
  generalize hT : 2 ^ L.length = T at hp hp1
  rw [ghostF_sum n m hn hm L (T - 1) 1 _ (by omega) (by omega)]
  obtain ⟨q, rfl⟩ : ∃ q, T = q + 1 := ⟨T - 1, by omega⟩
  show _ = sgK (pickS 0 L 0) _ + sumR _ q (0 + 1)
  have h0 : sgK (pickS 0 L 0) ((tupK (rowsOf n m (inB false L))).countP fun x => (pickS 0 L 0).all fun p => opP p x) = (prodK (rowsOf n m (inB false L)) : Int) := by
    rw [pickS_zero L h6]
    unfold sgK
    rw [if_neg (by decide), ← tupK_len]
    congr 1
    exact List.countP_eq_length.mpr (fun x _ => rfl)
  rw [h0, Nat.add_sub_cancel]
  congr 1
  apply sumR_congr
  intro j h1 h2
  rw [count_all n m L (pickS j L 0) (fun p hp => pickS_mem j L 0 p hp) ?_]
  exact ghost_pos h6 (by omega) (by omega) (by omega)
theorem ghosts_less (n m : Nat) (L : List S24) (h0 : 0 < L.length) (hpos : 0 < prodK (rowsOf n m (inB true [L[0]]))) :
    ((tupK (rowsOf n m (inB false L))).countP fun x => L.all fun p => !opP p x) < prodK (rowsOf n m (inB false L)) := by
  rw [← count_all n m L [L[0]] (fun p hp => by rw [List.mem_singleton.mp hp]; exact List.getElem_mem h0) (by show 0 < 1; decide)] at hpos
  rw [← tupK_len]
  generalize tupK (rowsOf n m (inB false L)) = K at hpos
  have h1 := countP_part (fun _ => true) (fun x => opP L[0] x) K
  have h2 : K.countP (fun x => L.all fun p => !opP p x) ≤ K.countP (fun x => true && !opP L[0] x) := by
    apply List.countP_mono_left
    intro x _ hx
    rw [List.all_eq_true] at hx
    rw [Bool.true_and]
    exact hx _ (List.getElem_mem h0)
  have h3 : K.countP (fun _ => true) = K.length := List.countP_eq_length.mpr (fun x _ => rfl)
  have h4 : K.countP (fun x => true && opP L[0] x) = K.countP (fun x => [L[0]].all fun p => opP p x) := by
    apply List.countP_congr
    intro x _
    simp
  omega
/-! Keys as texts. -/
def txK : ByteArray → List Int → ByteArray
  | s, [] => s
  | s, d :: x => txK (s ++ dT d) x
theorem extK_tup : ∀ (l : List (List Int)) (s : ByteArray), extK l s = (tupK l).map (txK s) := by
  intro l
  induction l with
  | nil => intro s; rfl
  | cons r t ih =>
    intro s
    show (r.flatMap fun d => extK t (s ++ dT d)) = (r.flatMap fun d => (tupK t).map fun x => d :: x).map (txK s)
    rw [List.map_flatMap]
    congr 1
    funext d
    rw [ih, List.map_map]
    rfl
/-! Declarations moved out of LFnExactParsePins. -/
theorem textB_bytes {r : List Int} (h : ∀ x ∈ r, 0 ≤ x ∧ x < 10) : (textB r).data.toList = r.map (fun x => UInt8.ofNat (48 + x.toNat)) := by
  unfold textB strOfNums
  rw [List.toList_toArray, List.map_map]
  refine List.map_congr_left (fun x hx => ?_)
  have hx2 := h x hx
  have e : wrap64 (48 + x) % 256 = 48 + x := by rw [w64 (by omega) (by omega)]; omega
  show UInt8.ofNat (wrap64 (48 + x) % 256).toNat = _
  rw [e]
  congr 1
  omega
/-! Which keys open: what impl and spec come to. -/
def opensB (L : List (List Int)) (s : ByteArray) : Bool := (List.range L.length).all fun i => (L.getD i []).contains (bt s (i : Nat) - 48)
def isKB (n : Int) (L : List (List Int)) (s : ByteArray) : Bool := decide (s.size = L.length) && keyB n s
theorem bt_rng {s : ByteArray} {i : Nat} (h : i < s.size) : 0 ≤ bt s (i : Nat) ∧ bt s (i : Nat) < 256 := by
  have e := bt_nat h
  have := (s[i]'h).toNat_lt
  omega
theorem keyB_at {n : Int} {s : ByteArray} (h : keyB n s = true) {i : Nat} (hi : i < s.size) : 0 ≤ bt s (i : Nat) - 48 ∧ bt s (i : Nat) - 48 ≤ n - 1 := by
  unfold keyB at h
  rw [List.all_eq_true] at h
  exact of_decide_eq_true (h i (List.mem_range.mpr hi))
theorem impl_isDepthText.lev (n : Int) (h1 : 1 ≤ n) (h9 : n ≤ 9) (s : ByteArray) (hs : 1 ≤ s.size) (hs7 : s.size ≤ 7) : ∀ (m i : Nat), i + m = s.size → Ev (fun k => impl_isDepthText.l0 k n s (s.size : Int) (i : Nat)) ((List.range' i m).all fun i => decide (0 ≤ bt s (i : Nat) - 48 ∧ bt s (i : Nat) - 48 ≤ n - 1)) := by
  intro m
  induction m with
  | zero =>
    intro i hi
    refine Ev.step (fun k => rfl) (Ev.no (by omega) (Ev.bindc (impl_within.bs _ _ _) (Ev.yes (decide_eq_true ⟨h1, h9⟩) (Ev.bindc (impl_within.bs _ _ _) (Ev.id ?_)))))
    rw [decide_eq_true (by omega)]; rfl
  | succ m ih =>
    intro i hi
    have hlt : i < s.size := by omega
    have hr := bt_rng hlt
    have e1 : wrap64 (bt s (i : Nat)) = bt s (i : Nat) := w64 (by omega) (by omega)
    have e2 : wrap64 (wrap64 (48 + n) - 1) = 48 + n - 1 := by rw [w64 (x := 48 + n) (by omega) (by omega), w64 (by omega) (by omega)]
    have e3 : wrap64 ((i : Int) + 1) = ((i + 1 : Nat) : Int) := w64 (by omega) (by omega)
    refine Ev.step (fun k => rfl) (Ev.yes (by omega) (Ev.yes (by omega) (Ev.yes (by omega) (Ev.bindc (impl_within.bs _ _ _) ?_))))
    rw [e1, e2, e3, List.range'_succ, List.all_cons]
    clear e1 e2 e3
    by_cases h : 0 ≤ bt s (i : Nat) - 48 ∧ bt s (i : Nat) - 48 ≤ n - 1
    · rw [decide_eq_true h]
      refine Ev.yes (decide_eq_true (by omega)) ?_
      rw [Bool.true_and]
      exact ih (i + 1) (by omega)
    · rw [decide_eq_false h]
      exact Ev.no (by rw [decide_eq_false (by omega)]; simp) (Ev.id (by simp))
theorem impl_Pins_isKey.ev (n : Int) (h1 : 1 ≤ n) (h9 : n ≤ 9) (L : List (List Int)) (hL : 1 ≤ L.length ∧ L.length ≤ 7) (s : ByteArray) : Ev (fun k => impl_Pins_isKey.f k n L s) (isKB n L s) := by
  unfold impl_Pins_isKey.f isKB impl_isDepthText.f
  by_cases h : s.size = L.length
  · rw [decide_eq_true h, Bool.true_and]
    refine Ev.yes (by omega) (Ev.bind (impl_isDepthText.lev n h1 h9 s (by omega) (by omega) s.size 0 (by omega)) (Ev.id ?_))
    unfold keyB
    rw [List.range_eq_range']
  · rw [decide_eq_false h]
    exact Ev.no (by omega) (Ev.id (by simp))
theorem spec_keIs.is (n : Int) (h1 : 1 ≤ n) (h9 : n ≤ 9) (L : List (List Int)) (hL : 1 ≤ L.length ∧ L.length ≤ 7) (s : ByteArray) : spec_keIs.f n L s = some (isKB n L s) := by
  unfold spec_keIs.f isKB
  by_cases h : s.size = L.length
  · rw [decide_eq_true h, Bool.true_and, if_pos (by omega)]
    unfold spec_keKey.f
    rw [if_pos ⟨h1, h9, by omega⟩]; rfl
  · rw [decide_eq_false h, if_neg (by omega)]; simp
def dgK (s : ByteArray) : List Int := (List.range s.size).map fun i => bt s (i : Nat) - 48
theorem impl_digits_of7 {s : ByteArray} (h6 : s.size ≤ 7) (h : ∀ i < s.size, 48 ≤ bt s (i : Nat) ∧ bt s (i : Nat) ≤ 57) : Ev (fun k => impl_digits.f k s) (dgK s) := by
  have : ∀ m i : Nat, i + m = s.size → ∀ xs : List Int, xs.length = i → Ev (fun k => impl_digits.l0 k s xs (s.size : Int) (i : Nat)) (xs ++ (List.range' i m).map fun i => bt s (i : Nat) - 48) := by
    intro m
    induction m with
    | zero =>
      intro i hi xs hx
      refine Ev.step (fun k => rfl) ?_
      refine Ev.no (by omega) ?_
      exact Ev.id (by simp)
    | succ m ih =>
      intro i hi xs hx
      refine Ev.step (fun k => rfl) ?_
      refine Ev.yes (by omega) (Ev.yes (by omega) (Ev.yes (by omega) (Ev.yes (by omega) ?_)))
      have := ih (i + 1) (by omega) (xs ++ [bt s (i : Nat) - 48]) (by simp [hx])
      have hb := h i (by omega)
      rw [show ((bt s (i : Nat)) - 48) % 256 = bt s (i : Nat) - 48 by omega, show wrap64 ((i : Int) + 1) = ((i + 1 : Nat) : Int) from w64 (by omega) (by omega)]
      refine Ev.eq this ?_
      rw [List.range'_succ]
      simp
  have := this s.size 0 (by omega) [] rfl
  refine Ev.eq this ?_
  unfold dgK
  simp [List.range_eq_range']
theorem dgK_len (s : ByteArray) : (dgK s).length = s.size := by unfold dgK; simp
theorem dgK_at {s : ByteArray} {i : Nat} (h : i < (dgK s).length) : (dgK s)[i] = bt s (i : Nat) - 48 := by simp only [dgK, List.getElem_map, List.getElem_range]
theorem impl_DoesOpen.lev (n : Int) (L : List (List Int)) (hL : ∀ r ∈ L, r.length ≤ 9) (s : ByteArray) (hs : s.size = L.length) (h7 : L.length ≤ 7) : ∀ (m i : Nat), i + m = s.size → Ev (fun k => impl_DoesOpen.l0 k (dgK s) ((dgK s).length : Int) (i : Nat) n L) ((List.range' i m).all fun i => (L.getD i []).contains (bt s (i : Nat) - 48), true) := by
  have hd := dgK_len s
  intro m
  induction m with
  | zero => intro i hi; exact Ev.step (fun k => rfl) (Ev.no (by omega) (Ev.now _))
  | succ m ih =>
    intro i hi
    have hil : i < L.length := by omega
    have hid : i < (dgK s).length := by omega
    have hrow := hL L[i] (List.getElem_mem hil)
    refine Ev.step (fun k => rfl) (Ev.yes (by omega) (Ev.yes (by omega) (Ev.yes (by omega) (Ev.yes (by omega) ?_))))
    rw [rd_row hil, rd_int hid, dgK_at hid, show wrap64 ((i : Int) + 1) = ((i + 1 : Nat) : Int) from w64 (by omega) (by omega), List.range'_succ, List.all_cons, show L.getD i [] = L[i] from getD_at hil]
    refine Ev.bind (slices_Contains_int_int.ev _ _ (by omega)) ?_
    cases h : L[i].contains (bt s (i : Nat) - 48) with
    | true =>
      refine Ev.yes rfl ?_
      rw [Bool.true_and]
      exact ih (i + 1) (by omega)
    | false => exact Ev.no (by simp) (Ev.id (by simp))
theorem spec_keOpens.lev (L : List (List Int)) (hL : ∀ r ∈ L, r.length ≤ 9) (s : ByteArray) (hs : s.size = L.length) (h7 : L.length ≤ 7) : ∀ (m i : Nat), i + m = L.length → Ev (fun k => spec_keOpens.l0 k s L (L.length : Int) (i : Nat)) ((List.range' i m).all fun i => (L.getD i []).contains (bt s (i : Nat) - 48)) := by
  intro m
  induction m with
  | zero => intro i hi; exact Ev.step (fun k => rfl) (Ev.no (by omega) (Ev.now _))
  | succ m ih =>
    intro i hi
    have hil : i < L.length := by omega
    have hrow := hL L[i] (List.getElem_mem hil)
    have hr := bt_rng (s := s) (i := i) (by omega)
    have e1 : wrap64 (wrap64 (bt s (i : Nat)) - 48) = bt s (i : Nat) - 48 := by rw [w64 (x := bt s (i : Nat)) (by omega) (by omega), w64 (by omega) (by omega)]
    refine Ev.step (fun k => rfl) (Ev.yes (by omega) (Ev.yes (by omega) (Ev.yes (by omega) (Ev.yes (by omega) ?_))))
    rw [rd_row hil, e1, show wrap64 ((i : Int) + 1) = ((i + 1 : Nat) : Int) from w64 (by omega) (by omega), List.range'_succ, List.all_cons, show L.getD i [] = L[i] from getD_at hil]
    clear e1
    refine Ev.bind (spec_l1Has.ev _ _ (by omega)) ?_
    cases h : L[i].contains (bt s (i : Nat) - 48) with
    | true =>
      refine Ev.yes rfl ?_
      rw [Bool.true_and]
      exact ih (i + 1) (by omega)
    | false => exact Ev.no (by simp) (Ev.id (by simp))
def opV (n : Int) (L : List (List Int)) (s : ByteArray) : Bool × Bool := (pinsB n L && isKB n L s && opensB L s, pinsB n L && isKB n L s)
theorem pinsB_rows9 {n : Int} {L : List (List Int)} (h : pinsB n L = true) : ∀ r ∈ L, r.length ≤ 9 := fun r hr => ((pinsB_Short h).2 r hr).1
theorem impl_DoesOpen.ev (n : Int) (L : List (List Int)) (s : ByteArray) : Ev (fun k => impl_DoesOpen.f k n L s) (opV n L s) := by
  unfold impl_DoesOpen.f impl_ArePins.f opV
  refine Ev.bindc rfl ?_
  cases h : pinsB n L with
  | false =>
    refine Ev.no (by simp) (Ev.step (fun k => rfl) ?_)
    simp only [impl_DoesOpen.j0]
    exact Ev.yes (by first | rfl | trivial) (Ev.id (by simp))
  | true =>
    obtain ⟨a1, a2, a3⟩ := pinsB_parts h
    refine Ev.yes rfl (Ev.bind (impl_Pins_isKey.ev n a1.1 a1.2 L a2 s) ?_)
    cases hk : isKB n L s with
    | false =>
      refine Ev.step (fun k => rfl) ?_
      simp only [impl_DoesOpen.j0]
      exact Ev.yes rfl (Ev.id (by simp))
    | true =>
      unfold isKB at hk
      rw [Bool.and_eq_true, decide_eq_true_eq] at hk
      refine Ev.step (fun k => rfl) ?_
      simp only [impl_DoesOpen.j0]
      refine (Ev.no (by simp) (Ev.bind (impl_digits_of7 (by omega) (fun i hi => by have := keyB_at hk.2 hi; omega)) ?_))
      have := impl_DoesOpen.lev n L (pinsB_rows9 h) s hk.1 a2.2 s.size 0 (by omega)
      refine Ev.eq this ?_
      unfold opensB
      rw [List.range_eq_range', ← hk.1]; simp
theorem spec_DoesOpen.ev (n : Int) (L : List (List Int)) (hl : RowsV L) (s : ByteArray) : Ev (fun k => spec_DoesOpen.f k n L s) (opV n L s) := by
  unfold spec_DoesOpen.f opV
  refine Ev.bind (spec_keGood.ev n L hl) ?_
  cases h : pinsB n L with
  | false => exact Ev.no (by simp) (Ev.id (by simp))
  | true =>
    obtain ⟨a1, a2, a3⟩ := pinsB_parts h
    refine Ev.yes rfl (Ev.bindc (spec_keIs.is n a1.1 a1.2 L a2 s) ?_)
    cases hk : isKB n L s with
    | false => exact Ev.no (by simp) (Ev.id (by simp))
    | true =>
      unfold isKB at hk
      rw [Bool.and_eq_true, decide_eq_true_eq] at hk
      have := spec_keOpens.lev L (pinsB_rows9 h) s hk.1 a2.2 L.length 0 (by omega)
      refine Ev.yes rfl (Ev.bind this (Ev.id ?_))
      unfold opensB
      rw [List.range_eq_range']; simp
theorem impl_IsKey.ev (n : Int) (L : List (List Int)) (s : ByteArray) : Ev (fun k => impl_IsKey.f k n L s) (pinsB n L && isKB n L s, pinsB n L) := by
  unfold impl_IsKey.f impl_ArePins.f
  refine Ev.bindc rfl ?_
  cases h : pinsB n L with
  | false => exact Ev.no (by simp) (Ev.id (by simp))
  | true =>
    obtain ⟨a1, a2, a3⟩ := pinsB_parts h
    exact Ev.yes rfl (Ev.bind (impl_Pins_isKey.ev n a1.1 a1.2 L a2 s) (Ev.id (by simp)))
theorem spec_IsKey.ev (n : Int) (L : List (List Int)) (hl : RowsV L) (s : ByteArray) : Ev (fun k => spec_IsKey.f k n L s) (pinsB n L && isKB n L s, pinsB n L) := by
  unfold spec_IsKey.f
  refine Ev.bind (spec_keGood.ev n L hl) ?_
  cases h : pinsB n L with
  | false => exact Ev.no (by simp) (Ev.id (by simp))
  | true =>
    obtain ⟨a1, a2, a3⟩ := pinsB_parts h
    exact Ev.yes rfl (Ev.bindc (spec_keIs.is n a1.1 a1.2 L a2 s) (Ev.id (by simp)))
def ctV (n : Int) (L : List (List Int)) : Int := if pinsB n L = true then (prodK L : Int) else 0
theorem impl_CountKeys.ev (n : Int) (L : List (List Int)) (hl : RowsV L) : Ev (fun k => impl_CountKeys.f k n L) (ctV n L, pinsB n L) := by
  unfold impl_CountKeys.f impl_ArePins.f ctV
  refine Ev.bindc rfl ?_
  cases h : pinsB n L with
  | false => exact Ev.no (by simp) (Ev.id (by simp))
  | true =>
    refine Ev.yes rfl (Ev.bind (impl_Pins_keys.ev n L hl.1) (Ev.id ?_))
    rw [keysF_is (pinsB_Short h), if_pos rfl]
theorem spec_CountKeys.ev (n : Int) (L : List (List Int)) (hl : RowsV L) : Ev (fun k => spec_CountKeys.f k n L) (ctV n L, pinsB n L) := by
  unfold spec_CountKeys.f ctV
  refine Ev.bind (spec_keGood.ev n L hl) ?_
  cases h : pinsB n L with
  | false => exact Ev.no (by simp) (Ev.id (by simp))
  | true =>
    refine Ev.yes rfl (Ev.bind (spec_keCount.ev n L hl.1) (Ev.id ?_))
    rw [keysF_is (pinsB_Short h), if_pos rfl]
theorem spec_ArePins.ev (n : Int) (L : List (List Int)) (hl : RowsV L) : Ev (fun k => spec_ArePins.f k n L) (pinsB n L) := by
  unfold spec_ArePins.f
  exact Ev.bind (spec_keGood.ev n L hl) (Ev.now _)
/-! Keys as texts and as rows of numbers: which are keys of pins, and their order. -/
theorem bytesEqK {a b : ByteArray} (h : a.toList = b.toList) : a = b := by
  rw [ByteArray.toList_eq, ByteArray.toList_eq] at h
  exact ByteArray.ext (Array.toList_inj.mp h)
def atR (L : List (List Int)) (i : Nat) (d : Int) : Bool := (L.getD i []).contains d
theorem opT_shift (A : Nat → Int → Bool) : ∀ (x : List Int) (i : Nat), opT A (i + 1) x = opT (fun i => A (i + 1)) i x := by
  intro x
  induction x with
  | nil => intro i; rfl
  | cons d x ih =>
    intro i
    show (A (i + 1) d && opT A (i + 1 + 1) x) = (A (i + 1) d && opT (fun i => A (i + 1)) (i + 1) x)
    rw [ih (i + 1)]
theorem tupK_mem : ∀ (L : List (List Int)) (x : List Int), x ∈ tupK L ↔ x.length = L.length ∧ opT (atR L) 0 x = true := by
  intro L
  induction L with
  | nil =>
    intro x
    show x ∈ [[]] ↔ _
    rw [List.mem_singleton]
    constructor
    · rintro rfl; exact ⟨rfl, rfl⟩
    · intro h; exact List.eq_nil_of_length_eq_zero h.1
  | cons r t ih =>
    intro x
    show x ∈ (r.flatMap fun d => (tupK t).map fun x => d :: x) ↔ _
    rw [List.mem_flatMap]
    have hsh : (fun i => atR (r :: t) (i + 1)) = atR t := by funext i d; simp [atR]
    constructor
    · rintro ⟨d, hd, hx⟩
      obtain ⟨y, hy, rfl⟩ := List.mem_map.mp hx
      obtain ⟨h1, h2⟩ := (ih y).mp hy
      refine ⟨by rw [List.length_cons, List.length_cons, h1], ?_⟩
      show (atR (r :: t) 0 d && opT (atR (r :: t)) (0 + 1) y) = true
      rw [opT_shift, hsh, h2, Bool.and_true]
      exact List.contains_iff_mem.mpr hd
    · rintro ⟨h1, h2⟩
      cases x with
      | nil => simp at h1
      | cons d y =>
        have h3 : (atR (r :: t) 0 d && opT (atR (r :: t)) (0 + 1) y) = true := h2
        rw [opT_shift, hsh, Bool.and_eq_true] at h3
        refine ⟨d, List.contains_iff_mem.mp h3.1, List.mem_map.mpr ⟨y, (ih y).mpr ⟨?_, h3.2⟩, rfl⟩⟩
        simpa using h1
theorem opT_get (A : Nat → Int → Bool) : ∀ (x : List Int) (i : Nat), opT A i x = (List.range x.length).all fun j => A (i + j) (x.getD j 0) := by
  intro x
  induction x with
  | nil => intro i; rfl
  | cons d x ih =>
    intro i
    show (A i d && opT A (i + 1) x) = _
    rw [ih (i + 1), List.length_cons, List.range_succ_eq_map, List.all_cons, List.all_map]
    congr 1
    congr 1
    funext j
    show A (i + 1 + j) _ = A (i + (j + 1)) _
    rw [show i + 1 + j = i + (j + 1) by omega]; rfl
theorem tupK_dig {L : List (List Int)} (hS : Short L) {x : List Int} (hx : x ∈ tupK L) : ∀ d ∈ x, 0 ≤ d ∧ d < 10 := by
  obtain ⟨h1, h2⟩ := (tupK_mem L x).mp hx
  intro d hd
  obtain ⟨j, hj, rfl⟩ := List.getElem_of_mem hd
  rw [opT_get, List.all_eq_true] at h2
  have h3 := h2 j (List.mem_range.mpr hj)
  rw [Nat.zero_add, show x.getD j 0 = x[j] from getD_at hj] at h3
  unfold atR at h3
  have hjl : j < L.length := by omega
  rw [show L.getD j [] = L[j] from getD_at hjl] at h3
  exact (hS.2 L[j] (List.getElem_mem hjl)).2 _ (List.contains_iff_mem.mp h3)
theorem txK_text : ∀ (x a : List Int), txK (textB a) x = textB (a ++ x) := by
  intro x
  induction x with
  | nil => intro a; rw [List.append_nil]; rfl
  | cons d x ih =>
    intro a
    show txK (textB a ++ dT d) x = _
    rw [show textB a ++ dT d = textB (a ++ [d]) from (textB_app a d).symm, ih, List.append_assoc]; rfl
theorem extK_text (L : List (List Int)) : extK L ⟨#[]⟩ = (tupK L).map textB := by
  rw [extK_tup]
  congr 1
  funext x
  exact txK_text x []
theorem opensB_text {L : List (List Int)} {x : List Int} (hl : x.length = L.length) (hx : ∀ d ∈ x, 0 ≤ d ∧ d < 10) : opensB L (textB x) = opT (atR L) 0 x := by
  rw [opT_get]
  unfold opensB
  rw [hl, Bool.eq_iff_iff, List.all_eq_true, List.all_eq_true]
  have e : ∀ j ∈ List.range L.length, ((L.getD j []).contains (bt (textB x) (j : Nat) - 48)) = atR L (0 + j) (x.getD j 0) := by
    intro j hj
    have hjx : j < x.length := by rw [hl]; exact List.mem_range.mp hj
    rw [bt_textB hx hjx, Nat.zero_add, show x.getD j 0 = x[j] from getD_at hjx]
    unfold atR
    rw [show 48 + x[j] - 48 = x[j] by omega]
  exact ⟨fun h j hj => by rw [← e j hj]; exact h j hj, fun h j hj => by rw [e j hj]; exact h j hj⟩
/-- A text of digits is the text of its digits. -/
theorem text_dgK {s : ByteArray} (h : ∀ i < s.size, 48 ≤ bt s (i : Nat) ∧ bt s (i : Nat) ≤ 57) : textB (dgK s) = s := by
  have hd : ∀ d ∈ dgK s, 0 ≤ d ∧ d < 10 := by
    intro d hd
    obtain ⟨j, hj, rfl⟩ := List.getElem_of_mem hd
    rw [dgK_at]
    have := h j (by rw [← dgK_len]; exact hj)
    omega
  apply ByteArray.ext
  apply Array.toList_inj.mp
  rw [textB_bytes hd]
  apply List.ext_getElem
  · rw [List.length_map, dgK_len]; rfl
  · intro i h1 h2
    have hi : i < s.size := by rw [List.length_map, dgK_len] at h1; exact h1
    have hb := h i hi
    have e := bt_nat hi
    rw [List.getElem_map, dgK_at]
    apply UInt8.toNat_inj.mp
    have hn : (s.data.toList[i]'h2).toNat = (s[i]'hi).toNat := rfl
    rw [hn, UInt8.toNat_ofNat']
    omega
theorem textB_inj {x y : List Int} (hx : ∀ d ∈ x, 0 ≤ d ∧ d < 10) (hy : ∀ d ∈ y, 0 ≤ d ∧ d < 10) (h : textB x = textB y) : x = y := by
  have hl : x.length = y.length := by rw [← textB_size x, h, textB_size]
  apply List.ext_getElem hl
  intro i h1 h2
  have e1 := bt_textB hx h1
  rw [h, bt_textB hy h2] at e1
  omega
/-- Whether a key is among all of them. -/
theorem extK_has {n : Int} {L : List (List Int)} (hp : pinsB n L = true) {s : ByteArray} (hk : isKB n L s = true) : ((extK L ⟨#[]⟩).any fun x => decide (x.toList = s.toList)) = opensB L s := by
  have hS := pinsB_Short hp
  obtain ⟨a1, _, _⟩ := pinsB_parts hp
  unfold isKB at hk
  rw [Bool.and_eq_true, decide_eq_true_eq] at hk
  have hb : ∀ i < s.size, 48 ≤ bt s (i : Nat) ∧ bt s (i : Nat) ≤ 57 := fun i hi => by have := keyB_at hk.2 hi; omega
  have ht := text_dgK hb
  have hd : ∀ d ∈ dgK s, 0 ≤ d ∧ d < 10 := by
    intro d hd
    obtain ⟨j, hj, rfl⟩ := List.getElem_of_mem hd
    rw [dgK_at]
    have := hb j (by rw [← dgK_len]; exact hj)
    omega
  have ho := opensB_text (L := L) (x := dgK s) (by rw [dgK_len, hk.1]) hd
  rw [ht] at ho
  rw [ho, Bool.eq_iff_iff, List.any_eq_true, extK_text]
  constructor
  · rintro ⟨y, hy, e⟩
    obtain ⟨x, hx, rfl⟩ := List.mem_map.mp hy
    have e2 := bytesEqK (of_decide_eq_true e)
    rw [← ht] at e2
    have := textB_inj (tupK_dig hS hx) hd e2
    rw [← this]
    exact ((tupK_mem L x).mp hx).2
  · intro h
    exact ⟨textB (dgK s), List.mem_map.mpr ⟨dgK s, (tupK_mem L _).mpr ⟨by rw [dgK_len, hk.1], h⟩, rfl⟩, decide_eq_true (by rw [ht])⟩
/-! Their order. -/
theorem less_cons {a b : UInt8} {x y : List UInt8} (h : a < b ∨ (a = b ∧ Op.bytesLess x y = true)) : Op.bytesLess (a :: x) (b :: y) = true := by
  simp only [Op.bytesLess]
  rcases h with h | ⟨rfl, h⟩
  · simp [h]
  · simp [h]
def byK (d : Int) : UInt8 := UInt8.ofNat (48 + d.toNat)
theorem byK_lt {a b : Int} (ha : 0 ≤ a ∧ a < 10) (hb : 0 ≤ b ∧ b < 10) (h : a < b) : byK a < byK b := by
  rw [UInt8.lt_iff_toNat_lt]
  unfold byK
  rw [UInt8.toNat_ofNat', UInt8.toNat_ofNat']
  omega
theorem tupK_rises : ∀ (L : List (List Int)), (∀ r ∈ L, r.Pairwise (· < ·) ∧ ∀ d ∈ r, 0 ≤ d ∧ d < 10) → (tupK L).Pairwise fun x y => Op.bytesLess (x.map byK) (y.map byK) = true := by
  intro L
  induction L with
  | nil => intro _; exact List.pairwise_singleton _ _
  | cons r t ih =>
    intro h
    obtain ⟨hr, hd⟩ := h r List.mem_cons_self
    have iht := ih (fun q hq => h q (List.mem_cons_of_mem _ hq))
    show (r.flatMap fun d => (tupK t).map fun x => d :: x).Pairwise _
    rw [List.pairwise_flatMap]
    refine ⟨fun d _ => ?_, ?_⟩
    · rw [List.pairwise_map]
      exact iht.imp (fun hxy => less_cons (Or.inr ⟨rfl, hxy⟩))
    · refine List.Pairwise.imp_of_mem ?_ hr
      intro a b ha hb hab x hx y hy
      obtain ⟨x', _, rfl⟩ := List.mem_map.mp hx
      obtain ⟨y', _, rfl⟩ := List.mem_map.mp hy
      exact less_cons (Or.inl (byK_lt (hd a ha) (hd b hb) hab))
theorem risF_pair {n : Int} : ∀ (l : List Int) (q : Int), risF n q l = true → l.Pairwise (· < ·) := by
  intro l
  induction l with
  | nil => intro q _; exact List.Pairwise.nil
  | cons a l ih =>
    intro q h
    unfold risF at h
    rw [Bool.and_eq_true, Bool.and_eq_true] at h
    refine List.Pairwise.cons (fun b hb => ?_) (ih a h.2)
    exact (risF_mem h.2 b hb).1
theorem extK_rises {n : Int} {L : List (List Int)} (hp : pinsB n L = true) (i j : Nat) (hi : i < (extK L ⟨#[]⟩).length) (hj : j < (extK L ⟨#[]⟩).length) (hij : i < j) : Op.bytesLess (extK L ⟨#[]⟩)[i].toList (extK L ⟨#[]⟩)[j].toList = true := by
  have hS := pinsB_Short hp
  obtain ⟨_, _, a3⟩ := pinsB_parts hp
  have h := tupK_rises L (fun r hr => by
    refine ⟨?_, (hS.2 r hr).2⟩
    have := a3 r hr
    unfold rowB at this
    rw [Bool.and_eq_true] at this
    exact risF_pair r _ this.2)
  rw [List.pairwise_iff_getElem] at h
  have hlen : (extK L ⟨#[]⟩).length = (tupK L).length := by rw [extK_text, List.length_map]
  have e : ∀ (k : Nat) (hk : k < (extK L ⟨#[]⟩).length), (extK L ⟨#[]⟩)[k].toList = ((tupK L)[k]'(by omega)).map byK := by
    intro k hk
    have hx := tupK_dig hS (List.getElem_mem (show k < (tupK L).length by omega))
    have hk2 : (extK L ⟨#[]⟩)[k] = textB ((tupK L)[k]'(by omega)) := by
      simp only [extK_text, List.getElem_map]
    rw [hk2, ByteArray.toList_eq, textB_bytes hx]
    rfl
  rw [e i hi, e j hj]
  exact h i j (by omega) (by omega) hij
section
/-! What a readable argument holds, told by kinds: the bridge from a statement's reading to the print's words. -/
open Go.WideShapes in
def Opens {α : Type} (P : Program) (t : TypeId) (d : Kd α) (V : α → Prop) : Prop :=
  ∀ (H : Type) (enc : TypeId × Value → H) (w : World) (base : Nat) (spare : Nat → Bool) (held : Bool) (fuel : Nat) (cs : List Value) (x : DataW H × List MemPlace),
    DataW.trod enc P w base spare held fuel t cs = some x → ∃ a : α, d.K w a cs ∧ V a
def IntV (a : Int) : Prop := -9223372036854775808 ≤ a ∧ a ≤ 9223372036854775807
def StrV (s : ByteArray) : Prop := s.size ≤ 9223372036854775807
def ListV {α : Type} (V : α → Prop) (l : List α) : Prop := l.length ≤ 9223372036854775807 ∧ ∀ x ∈ l, V x
theorem opens_int {P : Program} {t : TypeId} (ht : P.underlying t = some (.int .i64)) : Opens P t (Kd.int .i64) IntV := by
  intro H enc w base spare held fuel cs x h
  obtain ⟨n, rfl, _, hw⟩ := DataW.trod_int ht h
  refine ⟨n, rfl, ?_⟩
  have hb : (IntKind.i64.min ≤ n ∧ n ≤ IntKind.i64.max) := by simpa [Lit.wf] using hw
  have e1 : IntKind.i64.min = -9223372036854775808 := rfl
  have e2 : IntKind.i64.max = 9223372036854775807 := rfl
  rw [e1, e2] at hb
  unfold IntV
  omega
theorem cells_list {w : World} {base : Nat} {a : Addr} {n : Nat} {cs : List Value} (h : w.cells? base a n = some cs) : cs.length = n ∧ ∀ i u, cs[i]? = some u → w.cell? (a.add i) = some u := by
  unfold World.cells? at h
  split at h
  · have hl := mapM_some_length h
    refine ⟨by simpa using hl, fun i u hu => ?_⟩
    have hi : i < n := by
      have := (List.getElem?_eq_some_iff.1 hu).1
      rw [hl] at this; simpa using this
    have := mapM_some_get h i i (by simp [hi])
    rw [hu] at this
    exact this
  · cases h
theorem opens_slice {α : Type} {P : Program} {t e : TypeId} {d : Kd α} {V : α → Prop} (ht : P.underlying t = some (.slice e)) (hd : Opens P e d V) (hsz : P.cellsOf e = d.sz) : Opens P t (Kd.slice e d) (ListV V) := by
  intro H enc w base spare held fuel cs x h
  rcases Go.Deep.open_slice ht h with ⟨rfl, _⟩ | ⟨a, len, cap, m, n, D, Pl, rfl, _, hl, hm, hmm, _, hel⟩
  · exact ⟨[], ⟨none, 0, rfl, Nat.le_refl _, ⟨rfl, by simp, fun h0 => absurd h0 (by simp)⟩⟩, ⟨by simp, fun x hx => by simp at hx⟩⟩
  · have hle : len ≤ m := by rw [hmm]; split <;> omega
    have each : ∀ i : Nat, ∃ a' : Option α, i < len → ∃ z cs', a' = some z ∧ V z ∧ d.K w z cs' ∧ ∀ j u, cs'[j]? = some u → w.cell? (a.add (i * d.sz + j)) = some u := by
      intro i
      by_cases hi : i < len
      · obtain ⟨cs', h1, h2⟩ := hel i (by omega)
        obtain ⟨z, hK, hV⟩ := hd H enc w base spare held n cs' _ h2
        refine ⟨some z, fun _ => ⟨z, cs', rfl, hV, hK, fun j u hu => ?_⟩⟩
        obtain ⟨_, hc⟩ := cells_list h1
        have := hc j u hu
        rw [Go.Deep.add_add, hsz] at this
        exact this
      · exact ⟨none, fun h0 => absurd h0 hi⟩
    have ⟨f, hf⟩ := Classical.axiomOfChoice each
    have hz : ∀ i, i < len → ∃ z, f i = some z ∧ V z ∧ ∃ cs', d.K w z cs' ∧ ∀ j u, cs'[j]? = some u → w.cell? (a.add (i * d.sz + j)) = some u := by
      intro i hi
      obtain ⟨z, cs', h1, h2, h3, h4⟩ := hf i hi
      exact ⟨z, h1, h2, cs', h3, h4⟩
    have hlist : ∃ l : List α, l.length = len ∧ ∀ i, i < len → f i = l[i]? := by
      clear hf each hel hmm hle
      have : ∀ n, n ≤ len → ∃ l : List α, l.length = n ∧ ∀ i, i < n → f i = l[i]? := by
        intro n
        induction n with
        | zero => intro _; exact ⟨[], rfl, fun i hi => by omega⟩
        | succ n ih =>
          intro hn
          obtain ⟨l, hl1, hl2⟩ := ih (by omega)
          obtain ⟨z, h1, _⟩ := hz n (by omega)
          refine ⟨l ++ [z], by simp [hl1], fun i hi => ?_⟩
          by_cases e : i < n
          · rw [List.getElem?_append_left (by omega)]; exact hl2 i e
          · obtain rfl : i = n := by omega
            rw [h1, ← hl1]; simp
      exact this len (Nat.le_refl _)
    obtain ⟨l, hlen, hget⟩ := hlist
    have hV : ∀ x ∈ l, V x := by
      intro x hx
      obtain ⟨i, hi, rfl⟩ := List.getElem_of_mem hx
      obtain ⟨z, h1, h2, _⟩ := hz i (by omega)
      have h3 := hget i (by omega)
      rw [h1, List.getElem?_eq_getElem hi] at h3
      injection h3 with h3
      rw [← h3]; exact h2
    unfold maxLen at hm
    subst hlen
    refine ⟨l, ⟨some a, cap, rfl, hl, ⟨rfl, by omega, fun _ => ⟨a, rfl, fun j p hp => ?_⟩⟩⟩, ⟨by omega, hV⟩⟩
    have hj : j < l.length := (List.getElem?_eq_some_iff.1 hp).1
    obtain ⟨z, h1, _, cs', h3, h4⟩ := hz j hj
    have h5 := hget j hj
    rw [h1, hp] at h5
    injection h5 with h5
    subst h5
    exact ⟨cs', d.K_len h3, h3, h4⟩
theorem opens_pair {α β : Type} {P : Program} {t : TypeId} {f0 f1 : Field} {d0 : Kd α} {d1 : Kd β} {V0 : α → Prop} {V1 : β → Prop} (ht : P.underlying t = some (.struct #[f0, f1]))
    (h0 : Opens P f0.type d0 V0) (h1 : Opens P f1.type d1 V1) (o0 : f0.offset = 0) (o1 : f1.offset = d0.sz) (z0 : P.cellsOf f0.type = d0.sz) (z1 : P.cellsOf f1.type = d1.sz) (zt : P.cellsOf t = d0.sz + d1.sz) :
    Opens P t (Kd.pair d0 d1) (fun x => V0 x.1 ∧ V1 x.2) := by
  intro H enc w base spare held fuel cs x h
  obtain ⟨y0, y1, n, _, hl, g0, g1⟩ := ChangeShapes.trod_struct2 ht h
  rw [o0, z0, List.drop_zero] at g0
  rw [o1, z1] at g1
  obtain ⟨a, ka, va⟩ := h0 H enc w base spare held n _ _ g0
  obtain ⟨b, kb, vb⟩ := h1 H enc w base spare held n _ _ g1
  refine ⟨(a, b), ⟨_, _, ?_, ka, kb⟩, va, vb⟩
  rw [List.take_of_length_le (l := cs.drop d0.sz) (by rw [List.length_drop, hl, zt]; omega), List.take_append_drop]
theorem opens_iso {α β : Type} {P : Program} {t : TypeId} {d : Kd α} {V : α → Prop} (h : Opens P t d V) (f : β → α) (g : α → β) (e : ∀ a, f (g a) = a) : Opens P t (Kd.iso d f) (fun x => V (f x)) := by
  intro H enc w base spare held fuel cs x hx
  obtain ⟨a, ka, va⟩ := h H enc w base spare held fuel cs x hx
  exact ⟨g a, by show d.K w (f (g a)) cs; rw [e]; exact ka, by show V (f (g a)); rw [e]; exact va⟩
section
variable {H : Type} {enc : TypeId × Value → H} {P : Program} {w : World} {base : Nat} {spare : Nat → Bool} {held : Bool} {r : Reach} {b0 : Nat} {t : TypeId} {v : Value} {x : DataW H} {p : List MemPlace}
theorem arg_struct {α : Type} {d : Kd α} {V : α → Prop} (ho : Opens P t d V) {fs : Array Field} (hs : P.underlying t = some (.struct fs)) (hv : Value.okWide P w r b0 t v) (h : DataW.Trod enc P w base spare held t v x p) :
    ∃ a cs, v = .agg (List.toArray cs) ∧ d.K w a cs ∧ V a := by
  obtain ⟨cs, rfl, _⟩ := WideShapes.okWide_struct hs hv
  obtain ⟨fuel, hf⟩ := h
  obtain ⟨a, hk, hV⟩ := ho H enc w base spare held fuel _ _ hf
  exact ⟨a, cs.toList, by simp, by simpa [Value.cells] using hk, hV⟩
theorem arg_slice {α : Type} {d : Kd α} {e : TypeId} {V : List α → Prop} (ho : Opens P t (Kd.slice e d) V) (ht : P.underlying t = some (.slice e)) (hv : Value.okWide P w r b0 t v) (h : DataW.Trod enc P w base spare held t v x p) :
    ∃ A l c, v = .slice A (List.length l) c ∧ l.length ≤ c ∧ d.C w A l.length l ∧ V l := by
  obtain ⟨a, len, cap, rfl⟩ := WideShapes.okWide_slice ht hv
  obtain ⟨fuel, hf⟩ := h
  obtain ⟨l, ⟨A, c, hc, hl, hC⟩, hV⟩ := ho H enc w base spare held fuel _ _ hf
  simp only [Value.cells, List.cons.injEq, and_true] at hc
  injection hc with e1 e2 e3
  subst e1 e2 e3
  exact ⟨_, l, _, rfl, hl, hC, hV⟩
theorem arg_string (ht : P.underlying t = some .string) (hv : Value.okWide P w r b0 t v) (h : DataW.Trod enc P w base spare held t v x p) : ∃ a, v = .string a ∧ StrV a := by
  obtain ⟨a, rfl, _, _, hw⟩ := ChangeMaps.open_string ht hv h
  unfold maxLen at hw
  exact ⟨a, rfl, hw⟩
theorem arg_lt (h : DataW.Trod enc P w base spare held t v x p) : ∀ y ∈ p, y.block < w.heap.size := by
  obtain ⟨m, hm⟩ := h
  exact DataW.trod_lt m _ _ _ hm
end
end
/-! Declarations moved out of LFnExactAllKeys. -/
theorem C_rowsV {w : World} {A : Option Addr} {l : List (List Int)} (h : Kd.C (Kd.slice 3 (Kd.int .i64)) w A l.length l) : RowsV l := by
  refine ⟨h.2.1, fun r hr => ?_⟩
  obtain ⟨i, hi, rfl⟩ := List.getElem_of_mem hr
  obtain ⟨ad, cs, e, _, hK, _⟩ := Kd.C_get h ([] : List Int) (i : Int) (by omega) (by omega)
  obtain ⟨A0, c0, _, l0, g0⟩ := hK
  rw [Int.toNat_natCast, getD_at hi] at g0
  exact g0.2.1
/-! The laws' own comparisons: what they come to. -/
theorem laws_eTexts.ev (l : List ByteArray) (hn : l.length ≤ 1000000) : Ev (fun k => laws_eTexts.f k l l) true := by
  have : ∀ (m i : Nat), i + m = l.length → Ev (fun k => laws_eTexts.l0 k l l (l.length : Int) (i : Nat)) true := by
    intro m
    induction m with
    | zero => intro i hi; exact Ev.step (fun k => rfl) (Ev.no (by omega) (Ev.now _))
    | succ m ih =>
      intro i hi
      refine Ev.step (fun k => rfl) (Ev.yes (by omega) (Ev.yes (by omega) (Ev.yes (by omega) (Ev.yes (by omega) (Ev.yes rfl ?_)))))
      rw [show wrap64 ((i : Int) + 1) = ((i + 1 : Nat) : Int) from w64 (by omega) (by omega)]
      exact ih (i + 1) (by omega)
  unfold laws_eTexts.f
  exact Ev.yes rfl (this l.length 0 (by omega))
theorem laws_eSame.ev (l : List Int) (hn : l.length ≤ 9223372036854775807) : Ev (fun k => laws_eSame.f k l l) true := by
  have : ∀ (m i : Nat), i + m = l.length → Ev (fun k => laws_eSame.l0 k l l (l.length : Int) (i : Nat)) true := by
    intro m
    induction m with
    | zero => intro i hi; exact Ev.step (fun k => rfl) (Ev.no (by omega) (Ev.now _))
    | succ m ih =>
      intro i hi
      refine Ev.step (fun k => rfl) (Ev.yes (by omega) (Ev.yes (by omega) (Ev.yes (by omega) (Ev.yes (by omega) (Ev.yes rfl ?_)))))
      rw [show wrap64 ((i : Int) + 1) = ((i + 1 : Nat) : Int) from w64 (by omega) (by omega)]
      exact ih (i + 1) (by omega)
  unfold laws_eSame.f
  exact Ev.yes rfl (this l.length 0 (by omega))
theorem laws_eRows.ev (l : List (List Int)) (hl : RowsV l) : Ev (fun k => laws_eRows.f k l l) true := by
  have hn := hl.1
  have : ∀ (m i : Nat), i + m = l.length → Ev (fun k => laws_eRows.l0 k l l (l.length : Int) (i : Nat)) true := by
    intro m
    induction m with
    | zero => intro i hi; exact Ev.step (fun k => rfl) (Ev.no (by omega) (Ev.now _))
    | succ m ih =>
      intro i hi
      have hlt : i < l.length := by omega
      refine Ev.step (fun k => rfl) (Ev.yes (by omega) (Ev.yes (by omega) (Ev.yes (by omega) (Ev.yes (by omega) ?_))))
      rw [rd_row hlt]
      refine Ev.bind (laws_eSame.ev _ (hl.2 _ (List.getElem_mem hlt))) (Ev.yes rfl ?_)
      rw [show wrap64 ((i : Int) + 1) = ((i + 1 : Nat) : Int) from w64 (by omega) (by omega)]
      exact ih (i + 1) (by omega)
  unfold laws_eRows.f
  exact Ev.yes rfl (this l.length 0 (by omega))
theorem laws_ePins.ev (n : Int) (l : List (List Int)) (hl : RowsV l) : Ev (fun k => laws_ePins.f k n l n l) true := by
  unfold laws_ePins.f
  exact Ev.yes rfl (Ev.bind (laws_eRows.ev l hl) (Ev.now _))
theorem laws_eSorted.ev (l : List ByteArray) (hn : l.length ≤ 1000000) (h : ∀ (i j : Nat) (hi : i < l.length) (hj : j < l.length), i < j → Op.bytesLess l[i].toList l[j].toList = true) : Ev (fun k => laws_eSorted.f k l) true := by
  have : ∀ (m i : Nat), i + m = l.length + 1 → 1 ≤ i → Ev (fun k => laws_eSorted.l0 k l (i : Nat)) true := by
    intro m
    induction m with
    | zero => intro i hi _; exact Ev.step (fun k => rfl) (Ev.no (by omega) (Ev.now _))
    | succ m ih =>
      intro i hi h1
      by_cases hlt : i < l.length
      · have e : wrap64 ((i : Int) - 1) = ((i - 1 : Nat) : Int) := by rw [w64 (by omega) (by omega)]; omega
        have e2 : wrap64 ((i : Int) + 1) = ((i + 1 : Nat) : Int) := w64 (by omega) (by omega)
        refine Ev.step (fun k => rfl) (Ev.yes (by omega) ?_)
        rw [e, e2]
        clear e e2
        refine Ev.yes (by omega) (Ev.yes (by omega) (Ev.yes (by omega) ?_))
        have hlt2 : i - 1 < l.length := by omega
        rw [rd_str hlt, rd_str hlt2]
        exact Ev.yes (h (i - 1) i hlt2 hlt (by omega)) (ih (i + 1) (by omega) (by omega))
      · exact Ev.step (fun k => rfl) (Ev.no (by omega) (Ev.now _))
  unfold laws_eSorted.f
  exact this l.length 1 (by omega) (Nat.le_refl _)
theorem laws_eText.ev (l : List ByteArray) (hn : l.length ≤ 1000000) (s : ByteArray) : Ev (fun k => laws_eText.f k l s) (l.any fun x => decide (x.toList = s.toList)) := by
  have : ∀ (m i : Nat), i + m = l.length → Ev (fun k => laws_eText.l0 k s l (l.length : Int) (i : Nat)) ((l.drop i).any fun x => decide (x.toList = s.toList)) := by
    intro m
    induction m with
    | zero =>
      intro i hi
      refine Ev.step (fun k => rfl) (Ev.no (by omega) (Ev.id ?_))
      rw [List.drop_eq_nil_of_le (by omega)]; rfl
    | succ m ih =>
      intro i hi
      have hlt : i < l.length := by omega
      rw [List.drop_eq_getElem_cons hlt, List.any_cons]
      refine Ev.step (fun k => rfl) (Ev.yes (by omega) (Ev.yes (by omega) (Ev.yes (by omega) ?_)))
      rw [rd_str hlt]
      by_cases h : l[i].toList = s.toList
      · exact Ev.yes h (Ev.id (by rw [decide_eq_true h]; rfl))
      · refine Ev.no h ?_
        rw [show wrap64 ((i : Int) + 1) = ((i + 1 : Nat) : Int) from w64 (by omega) (by omega), decide_eq_false h, Bool.false_or]
        exact ih (i + 1) (by omega)
  unfold laws_eText.f
  have := this l.length 0 (by omega)
  rw [List.drop_zero] at this
  exact this
/-! Declarations moved out of LFnExactAllKeys. -/
def totL (l : List (List Int)) : Nat := l.foldr (fun r n => r.length + n) 0
theorem totL_le (c : Nat) : ∀ l : List (List Int), (∀ r ∈ l, r.length ≤ c) → totL l ≤ l.length * c := by
  intro l
  induction l with
  | nil => intro _; exact Nat.zero_le _
  | cons r t ih =>
    intro h
    have h1 := ih (fun q hq => h q (List.mem_cons_of_mem _ hq))
    have h2 := h r List.mem_cons_self
    show r.length + totL t ≤ (t.length + 1) * c
    rw [Nat.succ_mul]
    omega
/-! Declarations moved out of LFnExactMasterOf. -/
def moV (L : List S24) : Int × List (List Int) × Bool := if kindB L = true then ((rd_T24 L 0).f0, rowsOf (rd_T24 L 0).f0.toNat (rd_T24 L 0).f1.length (inB false L), true) else (0, [], false)
theorem moV_small (L : List S24) (hv2 : ∀ p ∈ L, RowsV p.f1) : (moV L).2.1.length ≤ 7 ∧ totL (moV L).2.1 ≤ 63 ∧ RowsV (moV L).2.1 := by
  unfold moV
  by_cases h : kindB L = true
  · rw [if_pos h]
    obtain ⟨n, m, hkl, hne, h6⟩ := kindB_KindL h hv2
    obtain ⟨h0, h1, _⟩ := hkl.2.2 L[0] (List.getElem_mem hne)
    have hq : rd_T24 L 0 = L[0] := rd_pins hne
    have hn0 : L[0].f0.toNat = n := by omega
    rw [hq, hn0, h1]
    have hl : (rowsOf n m (inB false L)).length ≤ 7 := by rw [rowsOf_len]; exact hkl.2.1
    refine ⟨hl, Nat.le_trans (totL_le 9 _ (fun r hr => ?_)) (Nat.mul_le_mul_right 9 hl), rowsOf_v n m (by have := hkl.1; omega) (by have := hkl.2.1; omega) _⟩
    unfold rowsOf at hr
    obtain ⟨i, _, rfl⟩ := List.mem_map.mp hr
    exact Nat.le_trans (filter_len_le _ _) (by rw [rngFrom_len]; exact hkl.1)
  · rw [if_neg h]
    exact ⟨by decide, by decide, ⟨by decide, fun r hr => by cases hr⟩⟩
theorem MasterOf.both (L : List S24) (hl2 : L.length ≤ 9223372036854775807) (hv2 : ∀ p ∈ L, RowsV p.f1) : Ev (fun k => spec_MasterOf.f k L) (moV L) ∧ Ev (fun k => impl_MasterOf.f k L) (moV L) := by
  unfold spec_MasterOf.f impl_MasterOf.f impl_ofKind.f moV
  cases hk : kindB L with
  | false =>
    refine ⟨Ev.bind (spec_keList.ev L hl2 hv2) (Ev.no (by rw [hk]; simp) (Ev.id (by simp))), Ev.bindc rfl (Ev.no (by simp) (Ev.id (by simp)))⟩
  | true =>
    obtain ⟨n, m, hkl, hne, h6⟩ := kindB_KindL hk hv2
    obtain ⟨h0, h1, _⟩ := hkl.2.2 L[0] (List.getElem_mem hne)
    have hq : rd_T24 L 0 = L[0] := rd_pins hne
    have hn0 : L[0].f0.toNat = n := by omega
    rw [hq, hn0, h1, h0, if_pos rfl]
    exact ⟨Ev.bind (spec_keList.ev L hl2 hv2) (Ev.yes hk (Ev.bind (spec_keJoined.ev false n m L hne hkl) (Ev.now _))), Ev.bindc rfl (Ev.yes rfl (Ev.bind (impl_master.ev L n m hne hkl (by omega)) (Ev.now _)))⟩
/-! Declarations moved out of LFnExactMasterPins. -/
def masB (n : Int) (x : List (List Int)) (m : Int) (y : List (List Int)) : Bool := pinsB n x && (pinsB m y && ((n == m) && (x.length == y.length)))
def masV (n : Int) (x : List (List Int)) (m : Int) (y : List (List Int)) : Int × List (List Int) × Bool := if masB n x m y = true then (n, joinRows false n.toNat x y, true) else (0, [], false)
theorem masB_parts {n m : Int} {x y : List (List Int)} (h : masB n x m y = true) : pinsB n x = true ∧ pinsB m y = true ∧ n = m ∧ x.length = y.length := by
  unfold masB at h
  rw [Bool.and_eq_true, Bool.and_eq_true, Bool.and_eq_true, beq_iff_eq, beq_iff_eq] at h
  exact ⟨h.1, h.2.1, h.2.2.1, h.2.2.2⟩
theorem kindB_two (n m : Int) (x y : List (List Int)) : kindB [(⟨n, x⟩ : S24), (⟨m, y⟩ : S24)] = masB n x m y := by
  have hq : rd_T24 [(⟨n, x⟩ : S24), (⟨m, y⟩ : S24)] 0 = ⟨n, x⟩ := rd_pins (by decide : 0 < 2)
  unfold kindB masB
  rw [hq]
  simp only [List.length_cons, List.length_nil, List.all_cons, List.all_nil]
  rw [Bool.eq_iff_iff]
  simp only [Bool.and_eq_true, decide_eq_true_eq, beq_iff_eq]
  constructor
  · rintro ⟨_, ⟨⟨h1, _⟩, _⟩, ⟨⟨h2, h3⟩, h4⟩, _⟩
    exact ⟨h1, h2, h3.symm, h4.symm⟩
  · rintro ⟨h1, h2, h3, h4⟩
    exact ⟨by omega, ⟨⟨h1, trivial⟩, trivial⟩, ⟨⟨h2, h3.symm⟩, h4.symm⟩, trivial⟩
theorem joinRows_two (n : Nat) (a b : Int) (x y : List (List Int)) : rowsOf n x.length (inB false [(⟨a, x⟩ : S24), (⟨b, y⟩ : S24)]) = joinRows false n x y := by
  rw [joinRows_is]
  apply rowsOf_congr
  intro i _ d _
  rw [joinT_in]
  simp [inB]
theorem masV_small (n m : Int) (x y : List (List Int)) : (masV n x m y).2.1.length ≤ 7 ∧ totL (masV n x m y).2.1 ≤ 63 ∧ RowsV (masV n x m y).2.1 := by
  unfold masV
  by_cases h : masB n x m y = true
  · rw [if_pos h]
    obtain ⟨h1, _, _, _⟩ := masB_parts h
    obtain ⟨a1, a2, _⟩ := pinsB_parts h1
    have hl : (joinRows false n.toNat x y).length ≤ 7 := by rw [joinRows_is, rowsOf_len]; exact a2.2
    refine ⟨hl, ?_, ?_⟩
    · refine Nat.le_trans (totL_le 9 _ ?_) (Nat.mul_le_mul_right 9 hl)
      intro r hr
      unfold joinRows at hr
      obtain ⟨i, _, rfl⟩ := List.mem_map.mp hr
      refine Nat.le_trans (filter_len_le _ _) ?_
      rw [rngFrom_len]
      omega
    · exact rowsOf_v n.toNat x.length (by omega) (by omega) _
  · rw [if_neg h]
    exact ⟨by decide, by decide, ⟨by decide, fun r hr => by cases hr⟩⟩
theorem spec_MasterPins.ev (n m : Int) (x y : List (List Int)) (hx : RowsV x) (hy : RowsV y) : Ev (fun k => spec_MasterPins.f k n x m y) (masV n x m y) := by
  unfold spec_MasterPins.f masV
  refine Ev.bind (spec_keGood.ev n x hx) ?_
  cases h1 : pinsB n x with
  | false => exact Ev.no (by simp) (Ev.id (by unfold masB; rw [h1]; rfl))
  | true =>
    refine Ev.yes rfl (Ev.bind (spec_keGood.ev m y hy) ?_)
    cases h2 : pinsB m y with
    | false => exact Ev.no (by simp) (Ev.id (by unfold masB; rw [h1, h2]; rfl))
    | true =>
      refine Ev.yes rfl (Ev.bindc (spec_keKind.is n x m y) ?_)
      cases h3 : ((n == m) && (x.length == y.length)) with
      | false => exact Ev.no (by simp) (Ev.id (by unfold masB; rw [h1, h2, h3]; rfl))
      | true =>
        have hb : masB n x m y = true := by unfold masB; rw [h1, h2, h3]; rfl
        obtain ⟨_, _, e1, e2⟩ := masB_parts hb
        obtain ⟨a1, a2, _⟩ := pinsB_parts h1
        have hj := spec_keJoin.ev false n.toNat (by omega) x y m (by omega) (by omega) hx hy
        rw [show ((n.toNat : Nat) : Int) = n by omega] at hj
        refine Ev.yes rfl (Ev.bind hj (Ev.id ?_))
        rw [if_pos hb]
theorem impl_MasterPins.ev (n m : Int) (x y : List (List Int)) (hx : RowsV x) (hy : RowsV y) : Ev (fun k => impl_MasterPins.f k n x m y) (masV n x m y) := by
  unfold impl_MasterPins.f impl_MasterOf.f impl_ofKind.f masV
  have hv : ∀ p ∈ [(⟨n, x⟩ : S24), (⟨m, y⟩ : S24)], RowsV p.f1 := by
    intro p hp
    rcases List.mem_cons.mp hp with rfl | hp
    · exact hx
    · rcases List.mem_cons.mp hp with rfl | hp
      · exact hy
      · cases hp
  refine Ev.bindc rfl ?_
  rw [kindB_two]
  cases hb : masB n x m y with
  | false => exact Ev.no (by simp) (Ev.id (by simp))
  | true =>
    obtain ⟨h1, h2, e1, e2⟩ := masB_parts hb
    obtain ⟨a1, a2, _⟩ := pinsB_parts h1
    have hk : KindL n.toNat x.length [(⟨n, x⟩ : S24), (⟨m, y⟩ : S24)] := by
      refine ⟨by omega, a2.2, fun p hp => ?_⟩
      rcases List.mem_cons.mp hp with rfl | hp
      · exact ⟨by show n = _; omega, rfl, hx⟩
      · rcases List.mem_cons.mp hp with rfl | hp
        · exact ⟨by show m = _; omega, e2.symm, hy⟩
        · cases hp
    have hj := impl_master.ev _ n.toNat x.length (by show 0 < 2; omega) hk (by show 2 ≤ 1000; omega)
    rw [joinRows_two] at hj
    rw [show ((n.toNat : Nat) : Int) = n by omega] at hj
    refine Ev.yes rfl (Ev.bind hj (Ev.id ?_))
    rw [if_pos rfl]
/-! What KeysOpenOfAll asks of lists of pins: masters, ghosts, shared keys. -/
def csV (L : List S24) : Int := if kindB L = true then keysF (rowsOf (rd_T24 L 0).f0.toNat (rd_T24 L 0).f1.length (inB true L)) else 0
theorem CountShared.both (L : List S24) (hl2 : L.length ≤ 9223372036854775807) (hv2 : ∀ p ∈ L, RowsV p.f1) : Ev (fun k => spec_CountShared.f k L) (csV L, kindB L) ∧ Ev (fun k => impl_CountShared.f k L) (csV L, kindB L) := by
  unfold spec_CountShared.f impl_CountShared.f impl_ofKind.f csV
  cases hk : kindB L with
  | false =>
    refine ⟨Ev.bind (spec_keList.ev L hl2 hv2) (Ev.no (by rw [hk]; simp) (Ev.id (by simp))), Ev.bindc rfl (Ev.no (by simp) (Ev.id (by simp)))⟩
  | true =>
    obtain ⟨n, m, hkl, hne, h6⟩ := kindB_KindL hk hv2
    obtain ⟨h0, h1, _⟩ := hkl.2.2 L[0] (List.getElem_mem hne)
    have hq : rd_T24 L 0 = L[0] := rd_pins hne
    have hn0 : L[0].f0.toNat = n := by omega
    have hlen : (rowsOf n m (inB true L)).length ≤ 9223372036854775807 := by rw [rowsOf_len]; have := hkl.2.1; omega
    rw [hq, hn0, h1, if_pos rfl]
    exact ⟨Ev.bind (spec_keList.ev L hl2 hv2) (Ev.yes hk (Ev.bind (spec_keJoined.ev true n m L hne hkl) (Ev.bind (spec_keCount.ev _ _ hlen) (Ev.now _)))), Ev.bindc rfl (Ev.yes rfl (Ev.bind (impl_shared.ev L n m hne hkl (by omega)) (Ev.bind (impl_Pins_keys.ev _ _ hlen) (Ev.now _))))⟩
theorem extK_len2 (L : List (List Int)) : (extK L ⟨#[]⟩).length = prodK L := extK_len L _
/-- What is known of a list of one kind. -/
theorem kind_known {L : List S24} (hv2 : ∀ p ∈ L, RowsV p.f1) (hk : kindB L = true) : ∃ n m : Nat, KindL n m L ∧ 0 < L.length ∧ L.length ≤ 6 ∧ (∀ p ∈ L, pinsB p.f0 p.f1 = true) ∧ (moV L).1 = (n : Int) ∧ (moV L).2.1 = rowsOf n m (inB false L) ∧ csV L = (prodK (rowsOf n m (inB true L)) : Int) ∧ (ghostV L).1 = (((tupK (rowsOf n m (inB false L))).countP fun x => L.all fun p => !opP p x : Nat) : Int) ∧ (shV L).2 = decide (csV L ≤ 200) := by
  obtain ⟨n, m, hkl, hne, h6⟩ := kindB_KindL hk hv2
  obtain ⟨h0, h1, _⟩ := hkl.2.2 L[0] (List.getElem_mem hne)
  have hq : rd_T24 L 0 = L[0] := rd_pins hne
  have hn0 : L[0].f0.toNat = n := by omega
  have hS := rowsOf_short n m hkl.1 hkl.2.1 (inB true L)
  refine ⟨n, m, hkl, hne, h6, fun p hp => ((kindB_parts hk).2 p hp).1, ?_, ?_, ?_, ?_, ?_⟩
  · unfold moV; rw [if_pos hk, hq, h0]
  · unfold moV; rw [if_pos hk, hq, hn0, h1]
  · unfold csV; rw [if_pos hk, hq, hn0, h1, keysF_is hS]
  · unfold ghostV
    rw [if_pos hk, hq, hn0, h1]
    exact ghosts_count n m hkl.1 hkl.2.1 L h6
  · unfold shV csV
    rw [if_pos hk, if_pos hk, hq, hn0, h1, keysF_is hS]
    by_cases h2 : prodK (rowsOf n m (inB true L)) ≤ 200
    · rw [if_pos h2, decide_eq_true (by omega)]
    · rw [if_neg h2, decide_eq_false (by omega)]
theorem kind_not {L : List S24} (hk : kindB L = false) : (moV L).2.2 = false ∧ (ghostV L).2 = false ∧ (shV L).2 = false := by
  have hn : ¬ kindB L = true := by rw [hk]; simp
  unfold moV ghostV shV
  rw [if_neg hn, if_neg hn, if_neg hn]
  exact ⟨rfl, rfl, rfl⟩
theorem kind_yes {L : List S24} (hk : kindB L = true) : (moV L).2.2 = true ∧ (ghostV L).2 = true := by
  unfold moV ghostV
  rw [if_pos hk, if_pos hk]
  exact ⟨rfl, rfl⟩
theorem risF_of {n : Int} : ∀ (l : List Int) (q : Int), l.Pairwise (· < ·) → (∀ x ∈ l, q < x ∧ x ≤ n - 1) → risF n q l = true := by
  intro l
  induction l with
  | nil => intro q _ _; rfl
  | cons a l ih =>
    intro q hp h
    unfold risF
    have ha := h a List.mem_cons_self
    rw [decide_eq_true ha.1, decide_eq_true ha.2, Bool.true_and, Bool.true_and]
    rw [List.pairwise_cons] at hp
    exact ih a hp.2 (fun x hx => ⟨hp.1 x hx, (h x (List.mem_cons_of_mem _ hx)).2⟩)
theorem rngFrom_pair (s m : Nat) : (rngFrom s m).Pairwise (· < ·) := by
  unfold rngFrom
  rw [List.pairwise_map]
  exact (List.pairwise_lt_range' (s := s) (n := m)).imp (fun h => by omega)
theorem rngFrom_has {n : Nat} {d : Int} (h0 : 0 ≤ d) (h : d < n) : d ∈ rngFrom 0 n := by
  unfold rngFrom
  exact List.mem_map.mpr ⟨d.toNat, List.mem_range'_1.mpr ⟨Nat.zero_le _, by omega⟩, by omega⟩
theorem prodK_pos : ∀ (l : List (List Int)), (∀ r ∈ l, 0 < r.length) → 0 < prodK l := by
  intro l
  induction l with
  | nil => intro _; show 0 < 1; decide
  | cons r t ih =>
    intro h
    exact Nat.mul_pos (h r List.mem_cons_self) (ih (fun q hq => h q (List.mem_cons_of_mem _ hq)))
/-- A row of what is joined holds the first depth of the first pins' row. -/
theorem row_pos {n m : Nat} {L : List S24} (f : Nat → Int → Bool) (hkl : KindL n m L) (hne : 0 < L.length) (hp : pinsB L[0].f0 L[0].f1 = true) (hf : ∀ i < m, ∀ d, (L[0].f1.getD i []).contains d = true → f i d = true) : ∀ r ∈ rowsOf n m f, 0 < r.length := by
  intro r hr
  unfold rowsOf at hr
  obtain ⟨i, hi, rfl⟩ := List.mem_map.mp hr
  rw [List.mem_range'_1] at hi
  obtain ⟨h0, h1, _⟩ := hkl.2.2 L[0] (List.getElem_mem hne)
  obtain ⟨a1, a2, a3⟩ := pinsB_parts hp
  have hil : i < L[0].f1.length := by omega
  have hrow := a3 L[0].f1[i] (List.getElem_mem hil)
  have hl := (rowB_len (by omega) hrow).1
  have hd := rowB_mem hrow (L[0].f1[i][0]) (List.getElem_mem hl)
  have hc : (L[0].f1.getD i []).contains (L[0].f1[i][0]) = true := by
    rw [show L[0].f1.getD i [] = L[0].f1[i] from getD_at hil]
    exact List.contains_iff_mem.mpr (List.getElem_mem hl)
  exact List.length_pos_of_mem (List.mem_filter.mpr ⟨rngFrom_has hd.1 (by omega), hf i (by omega) _ hc⟩)
theorem inB_first {L : List S24} (hne : 0 < L.length) (i : Nat) (d : Int) (h : (L[0].f1.getD i []).contains d = true) : inB false L i d = true := by
  unfold inB
  rw [if_neg (by simp), List.any_eq_true]
  exact ⟨L[0], List.getElem_mem hne, h⟩
theorem inB_one (q : S24) (i : Nat) (d : Int) (h : (q.f1.getD i []).contains d = true) : inB true [q] i d = true := by
  unfold inB
  rw [if_pos rfl, List.all_cons, h]; rfl
theorem pinsB_master {n m : Nat} {L : List S24} (hkl : KindL n m L) (hne : 0 < L.length) (hp : pinsB L[0].f0 L[0].f1 = true) : pinsB (n : Int) (rowsOf n m (inB false L)) = true := by
  obtain ⟨h0, h1, _⟩ := hkl.2.2 L[0] (List.getElem_mem hne)
  obtain ⟨a1, a2, a3⟩ := pinsB_parts hp
  have hpos := row_pos (inB false L) hkl hne hp (fun i _ d h => inB_first hne i d h)
  unfold pinsB
  rw [decide_eq_true (by omega), rowsOf_len, decide_eq_true (by omega), Bool.true_and, Bool.true_and, List.all_eq_true]
  intro r hr
  have h2 := hpos r hr
  unfold rowsOf at hr
  obtain ⟨i, _, rfl⟩ := List.mem_map.mp hr
  unfold rowB
  rw [Bool.and_eq_true]
  refine ⟨?_, risF_of _ _ ((rngFrom_pair 0 n).filter _) (fun x hx => ?_)⟩
  · cases hl : (rngFrom 0 n).filter (inB false L i) with
    | nil => rw [hl] at h2; exact absurd h2 (by simp)
    | cons a t => rfl
  · have := rngFrom_mem (List.mem_filter.mp hx).1
    omega
/-- The keys of a list's master, opened or not by each. -/
theorem key_opens {n m : Nat} {L : List S24} (hkl : KindL n m L) (hb : ∀ p ∈ L, pinsB p.f0 p.f1 = true) {f : Nat → Int → Bool} {x : List Int} (hx : x ∈ tupK (rowsOf n m f)) {q : S24} (hq : q ∈ L) : opV q.f0 q.f1 (textB x) = (opP q x, true) := by
  obtain ⟨h0, h1, _⟩ := hkl.2.2 q hq
  have hp := hb q hq
  obtain ⟨a1, a2, a3⟩ := pinsB_parts hp
  have hS := rowsOf_short n m hkl.1 hkl.2.1 f
  have hd := tupK_dig hS hx
  obtain ⟨t1, t2⟩ := (tupK_mem _ x).mp hx
  rw [rowsOf_len] at t1
  have hk : isKB q.f0 q.f1 (textB x) = true := by
    unfold isKB keyB
    rw [Bool.and_eq_true, decide_eq_true_eq, List.all_eq_true, textB_size, t1, h1]
    refine ⟨rfl, fun i hi => decide_eq_true ?_⟩
    rw [List.mem_range] at hi
    have hix : i < x.length := by omega
    rw [bt_textB hd hix]
    rw [opT_get, List.all_eq_true] at t2
    have h3 := t2 i (List.mem_range.mpr hix)
    rw [Nat.zero_add, show x.getD i 0 = x[i] from getD_at hix] at h3
    unfold atR at h3
    rw [rowsOf_get n m f i hi, List.contains_iff_mem] at h3
    have := rngFrom_mem (List.mem_filter.mp h3).1
    omega
  unfold opV
  rw [hp, hk, Bool.true_and, Bool.true_and, opensB_text (by rw [t1, h1]) hd]
  rfl
/-! Joining two pins, one way and the other. -/
theorem joinT_sym (r s : List Int) (d : Int) : joinT false r s d = joinT false s r d := by
  unfold joinT
  cases r.contains d <;> cases s.contains d <;> rfl
theorem joinRows_sym (n : Nat) (x y : List (List Int)) (h : x.length = y.length) : joinRows false n x y = joinRows false n y x := by
  rw [joinRows_is, joinRows_is, h]
  apply rowsOf_congr
  intro i _ d _
  exact joinT_sym _ _ _
theorem masV_sym {n m : Int} {x y : List (List Int)} (h : (masV n x m y).2.2 = true) : masV m y n x = masV n x m y := by
  have hb : masB n x m y = true := by
    by_cases hb : masB n x m y = true
    · exact hb
    · unfold masV at h; rw [if_neg hb] at h; cases h
  obtain ⟨h1, h2, h3, h4⟩ := masB_parts hb
  have hb2 : masB m y n x = true := by
    unfold masB
    rw [h1, h2, h3, h4]; simp
  unfold masV
  rw [if_pos hb, if_pos hb2, h3, joinRows_sym _ _ _ h4]
theorem opens_t3 : Opens Try.prog 3 (Kd.int .i64) IntV := opens_int Try.underlying3
theorem opens_t52 : Opens Try.prog 52 (Kd.slice 3 (Kd.int .i64)) (ListV IntV) := opens_slice Try.underlying52 opens_t3 (by kernel_rfl)
theorem opens_t22 : Opens Try.prog 22 (Kd.slice 52 (Kd.slice 3 (Kd.int .i64))) (ListV (ListV IntV)) := opens_slice Try.underlying22 opens_t52 (by kernel_rfl)
def V24 (x : S24) : Prop := IntV x.f0 ∧ (ListV (ListV IntV)) x.f1
theorem opens_t24 : Opens Try.prog 24 k24 V24 := opens_iso (opens_pair Try.underlying24 opens_t3 opens_t22 (by kernel_rfl) (by kernel_rfl) (by kernel_rfl) (by kernel_rfl) (by kernel_rfl)) (fun x : S24 => (x.f0, x.f1)) (fun p => ⟨p.1, p.2⟩) (fun _ => rfl)
theorem opens_t25 : Opens Try.prog 25 (Kd.slice 24 k24) (ListV V24) := opens_slice Try.underlying25 opens_t24 (by kernel_rfl)
/-! The law FnKeysOpenOfAll: its calls, all told. -/
def laws_FnKeysOpenOfAll.f (a0 : Int) (l0 : List (List Int)) (a1 : ByteArray) (l2 : List S24) (a3 : Int) (l3 : List (List Int)) (a4 : Int) (l4 : List (List Int)) : Option Bool := some true
theorem C_listVI {w : World} {A : Option Addr} {l : List S24} (h : Kd.C k24 w A l.length l) : ∀ p ∈ l, RowsV p.f1 := by
  intro p hp
  obtain ⟨i, hi, rfl⟩ := List.getElem_of_mem hp
  obtain ⟨ad, A1, c1, _, _, _, _, g⟩ := at_T24 h (i : Int) (by omega) (by omega)
  rw [rd_pins hi] at g
  exact C_rowsV g
def opNumK (L : List S24) (K : List (List Int)) (i j : Nat) : Bool := (K[i]?).any fun x => (L[j]?).any fun q => opP q x
def nNumK (L : List S24) (K : List (List Int)) (i j : Nat) : Int := cntN (opNumK L K i) j
theorem nNumK_is {L : List S24} {K : List (List Int)} {i : Nat} (h : i < K.length) : nNumK L K i L.length = (L.countP fun q => opP q K[i] : Nat) := by
  unfold nNumK
  rw [cntN_congr (g := fun j => (L[j]?).any fun q => opP q K[i]) L.length (fun j _ => by unfold opNumK; rw [List.getElem?_eq_getElem h]; rfl), cntN_list, List.take_length]
def zNumK (L : List S24) (K : List (List Int)) (i : Nat) : Int := cntN (fun i => decide (nNumK L K i L.length = 0)) i
def hNumK (L : List S24) (K : List (List Int)) (i : Nat) : Int := cntN (fun i => decide (nNumK L K i L.length = (L.length : Int))) i
theorem zNumK_is (L : List S24) (K : List (List Int)) : zNumK L K K.length = ((K.countP fun x => L.all fun p => !opP p x : Nat) : Int) := by
  unfold zNumK
  rw [cntN_congr (g := fun i => (K[i]?).any fun x => L.all fun p => !opP p x) K.length (fun i hi => ?_), cntN_list, List.take_length]
  rw [nNumK_is hi, List.getElem?_eq_getElem hi]
  show decide (((L.countP fun q => opP q K[i] : Nat) : Int) = 0) = L.all fun p => !opP p K[i]
  rw [Bool.eq_iff_iff, decide_eq_true_eq, List.all_eq_true, show (((L.countP fun q => opP q K[i] : Nat) : Int) = 0) ↔ (L.countP fun q => opP q K[i]) = 0 from by omega, List.countP_eq_zero]
  simp
theorem hNumK_is (L : List S24) (K : List (List Int)) : hNumK L K K.length = ((K.countP fun x => L.all fun p => opP p x : Nat) : Int) := by
  unfold hNumK
  rw [cntN_congr (g := fun i => (K[i]?).any fun x => L.all fun p => opP p x) K.length (fun i hi => ?_), cntN_list, List.take_length]
  rw [nNumK_is hi, List.getElem?_eq_getElem hi]
  show decide (((L.countP fun q => opP q K[i] : Nat) : Int) = (L.length : Int)) = L.all fun p => opP p K[i]
  rw [Bool.eq_iff_iff, decide_eq_true_eq, List.all_eq_true, show (((L.countP fun q => opP q K[i] : Nat) : Int) = (L.length : Int)) ↔ (L.countP fun q => opP q K[i]) = L.length from by omega, List.countP_eq_length]
theorem nNumK_step (L : List S24) (K : List (List Int)) (i j : Nat) : nNumK L K i (j + 1) = if opNumK L K i j = true then nNumK L K i j + 1 else nNumK L K i j := rfl
theorem zNumK_step (L : List S24) (K : List (List Int)) (i : Nat) : zNumK L K (i + 1) = if nNumK L K i L.length = 0 then zNumK L K i + 1 else zNumK L K i := by
  show (if decide (nNumK L K i L.length = 0) = true then zNumK L K i + 1 else zNumK L K i) = _
  simp only [decide_eq_true_eq]
theorem hNumK_step (L : List S24) (K : List (List Int)) (i : Nat) : hNumK L K (i + 1) = if nNumK L K i L.length = (L.length : Int) then hNumK L K i + 1 else hNumK L K i := by
  show (if decide (nNumK L K i L.length = (L.length : Int)) = true then hNumK L K i + 1 else hNumK L K i) = _
  simp only [decide_eq_true_eq]
theorem allV_5 (n : Int) (L : List (List Int)) : (allV n L).2 = (pinsB n L && decide (ctV n L ≤ 200)) := by
  unfold allV ctV
  cases h : pinsB n L with
  | false => rw [if_neg (by simp)]; rfl
  | true =>
    by_cases h2 : prodK L ≤ 200
    · rw [if_pos ⟨rfl, h2⟩, if_pos rfl, decide_eq_true (by omega)]; rfl
    · rw [if_neg (fun hh => h2 hh.2), if_pos rfl, decide_eq_false (by omega)]; rfl
/-- The keys of one lot of pins. -/
theorem part_all (n : Int) (L : List (List Int)) (s : ByteArray) : Evt fun k => pinsB n L = true → ctV n L ≤ 200 → ((allV n L).1.length : Int) = ctV n L ∧ laws_eSorted.f k (allV n L).1 = some true ∧ ((pinsB n L && isKB n L s) = true → laws_eText.f k (allV n L).1 s = some (opV n L s).1) ∧ (allV n L).1.length ≤ 200 ∧ ∀ (i : Nat) (hi : i < (allV n L).1.length), impl_DoesOpen.f k n L (allV n L).1[i] = some (true, true) := by
  refine Evt.imp (fun hp => Evt.imp (fun hc => ?_))
  have hct : ctV n L = (prodK L : Int) := by unfold ctV; rw [if_pos hp]
  have hpr : prodK L ≤ 200 := by omega
  have hall : (allV n L).1 = extK L ⟨#[]⟩ := by rw [allV_yes hp hpr]
  have hlen : (extK L ⟨#[]⟩).length = prodK L := extK_len2 L
  rw [hall, hct]
  have e1 : Evt fun k => laws_eSorted.f k (extK L ⟨#[]⟩) = some true := laws_eSorted.ev _ (by omega) (fun i j hi hj hij => extK_rises hp i j hi hj hij)
  have e2 : Evt fun k => (pinsB n L && isKB n L s) = true → laws_eText.f k (extK L ⟨#[]⟩) s = some (opV n L s).1 := by
    refine Evt.imp (fun hk => ?_)
    have hk2 : isKB n L s = true := by rw [hp, Bool.true_and] at hk; exact hk
    have h := laws_eText.ev (extK L ⟨#[]⟩) (by omega) s
    rw [extK_has hp hk2] at h
    have e : (opV n L s).1 = opensB L s := by unfold opV; rw [hp, hk2]; rfl
    rw [e]
    exact h
  have e3 : Evt fun k => ∀ x ∈ extK L ⟨#[]⟩, impl_DoesOpen.f k n L x = some (true, true) := by
    refine Evt.all _ (fun y hy => ?_)
    rw [extK_text] at hy
    obtain ⟨x, hx, rfl⟩ := List.mem_map.mp hy
    have hd := tupK_dig (pinsB_Short hp) hx
    obtain ⟨t1, t2⟩ := (tupK_mem L x).mp hx
    have h := impl_DoesOpen.ev n L (textB x)
    obtain ⟨a1, a2, a3⟩ := pinsB_parts hp
    have hk : isKB n L (textB x) = true := by
      unfold isKB keyB
      rw [Bool.and_eq_true, decide_eq_true_eq, List.all_eq_true, textB_size]
      refine ⟨t1, fun i hi => decide_eq_true ?_⟩
      rw [List.mem_range] at hi
      have hil : i < L.length := by omega
      rw [bt_textB hd hi]
      rw [opT_get, List.all_eq_true] at t2
      have h3 := t2 i (List.mem_range.mpr hi)
      rw [Nat.zero_add, show x.getD i 0 = x[i] from getD_at hi] at h3
      unfold atR at h3
      rw [show L.getD i [] = L[i] from getD_at hil, List.contains_iff_mem] at h3
      have := rowB_mem (a3 L[i] (List.getElem_mem hil)) _ h3
      omega
    have e : opV n L (textB x) = (true, true) := by
      unfold opV
      rw [hp, hk, opensB_text t1 hd, t2]; rfl
    rw [e] at h
    exact h
  exact (e1.and (e2.and e3)).mono (fun k hk => ⟨by omega, hk.1, hk.2.1, by omega, fun i hi => hk.2.2 _ (List.getElem_mem hi)⟩)
set_option maxRecDepth 100000 in
theorem laws_FnKeysOpenOfAll.walkBig (n0 n3 n4 : Int) (L0 L3 L4 : List (List Int)) (a1 : ByteArray) (l2 : List S24) (A0 A2 A3 A4 : Option Addr) (c0 c2 c3 c4 : Nat) (w : World) (h : ¬ (a1.size ≤ 1048576 ∧ l2.length ≤ 10000)) :
    Calls Try.prog 3 #[.agg #[.int .i64 n0, .slice A0 L0.length c0], .string a1, .slice A2 l2.length c2, .agg #[.int .i64 n3, .slice A3 L3.length c3], .agg #[.int .i64 n4, .slice A4 L4.length c4]] w fun e w' => e = .returned (.bool true) ∧ Below w.heap.size w w' := by
  have hu := Try.underlying24
  have hu2 := Try.underlying22
  have hu3 := Try.underlying25
  have hB := amk ((((Below.refl w.heap.size w).alloc (Nat.le_refl _) (bxK n0 A0 L0.length c0)).alloc (by simp) (bxK n3 A3 L3.length c3)).alloc (by simp <;> omega) (bxK n4 A4 L4.length c4))
  by_cases hz : a1.size ≤ 1048576
  · have hl : 10000 < l2.length := by
      by_cases hl : l2.length ≤ 10000
      · exact absurd ⟨hz, hl⟩ h
      · omega
    have cz1 : decide (1048576 < (a1.size : Int)) = false := decide_eq_false (by omega)
    have cz2 : decide (1048576 < a1.size) = false := decide_eq_false (by omega)
    have cz3 : decide (10000 < (l2.length : Int)) = true := decide_eq_true (by omega)
    have cz4 : decide (10000 < l2.length) = true := decide_eq_true hl
    clear h hz hl
    go_enter Try.func3, Try.ntmps3
    go_wp2
    go_ret
    exact ⟨rfl, hB.out⟩
  · have cz1 : decide (1048576 < (a1.size : Int)) = true := decide_eq_true (by omega)
    have cz2 : decide (1048576 < a1.size) = true := decide_eq_true (by omega)
    clear h hz
    go_enter Try.func3, Try.ntmps3
    go_wp2
    go_ret
    exact ⟨rfl, hB.out⟩
/-- What is asked of the list, told at once. -/
theorem part_list (L : List S24) (hl2 : L.length ≤ 9223372036854775807) (hv : ∀ p ∈ L, RowsV p.f1) : ∃ (kc : Int) (ev : List ByteArray) (K : List (List Int)), Evt fun k =>
    (kindB L = true → impl_CountKeys.f k (moV L).1 (moV L).2.1 = some (kc, true) ∧ impl_ArePins.f (moV L).1 (moV L).2.1 = some true ∧ 0 ≤ (ghostV L).1 ∧ (ghostV L).1 < kc ∧ csV L ≤ kc) ∧
    (kindB L = true → kc ≤ 200 → impl_AllKeys.f k (moV L).1 (moV L).2.1 = some (ev, true) ∧ ev.length ≤ 200 ∧ zNumK L K ev.length = (ghostV L).1 ∧ hNumK L K ev.length = csV L ∧ ∀ (i : Nat) (hi : i < ev.length) (j : Nat) (hj : j < L.length), impl_DoesOpen.f k L[j].f0 L[j].f1 ev[i] = some (opNumK L K i j, true)) := by
  by_cases hk : kindB L = true
  · obtain ⟨n, m, hkl, hne, h6, hpb, k1, k2, k3, k4, k5⟩ := kind_known hv hk
    have hp0 := hpb L[0] (List.getElem_mem hne)
    have hpm := pinsB_master hkl hne hp0
    have hvm := rowsOf_v n m (by have := hkl.1; omega) (by have := hkl.2.1; omega) (inB false L)
    have hgl := ghosts_less n m L hne (prodK_pos _ (row_pos (inB true [L[0]]) hkl hne hp0 (fun i _ d h => inB_one L[0] i d h)))
    have hca := count_all n m L L (fun p hp => hp) hne
    have hcl := List.countP_le_length (p := fun x => L.all fun p => opP p x) (l := tupK (rowsOf n m (inB false L)))
    have htl := tupK_len (rowsOf n m (inB false L))
    refine ⟨(prodK (rowsOf n m (inB false L)) : Int), extK (rowsOf n m (inB false L)) ⟨#[]⟩, tupK (rowsOf n m (inB false L)), ?_⟩
    rw [k1, k2, k3, k4]
    have hel := extK_len2 (rowsOf n m (inB false L))
    have e1 := impl_CountKeys.ev (n : Int) (rowsOf n m (inB false L)) hvm
    have hct : ctV (n : Int) (rowsOf n m (inB false L)) = (prodK (rowsOf n m (inB false L)) : Int) := by unfold ctV; rw [if_pos hpm]
    rw [hct, hpm] at e1
    have e2 : Evt fun k => prodK (rowsOf n m (inB false L)) ≤ 200 → impl_AllKeys.f k (n : Int) (rowsOf n m (inB false L)) = some (extK (rowsOf n m (inB false L)) ⟨#[]⟩, true) := by
      refine Evt.imp (fun h2 => ?_)
      have h := impl_AllKeys.ev (n : Int) (rowsOf n m (inB false L)) hvm
      rw [allV_yes hpm h2] at h
      exact h
    have e3 : Evt fun k => ∀ x ∈ tupK (rowsOf n m (inB false L)), ∀ q ∈ L, impl_DoesOpen.f k q.f0 q.f1 (textB x) = some (opP q x, true) := by
      refine Evt.all _ (fun x hx => Evt.all _ (fun q hq => ?_))
      have h := impl_DoesOpen.ev q.f0 q.f1 (textB x)
      rw [key_opens hkl hpb hx hq] at h
      exact h
    refine (Evt.and e1 (Evt.and e2 e3)).mono (fun k hh => ⟨fun _ => ⟨hh.1, ?_, by omega, by omega, by omega⟩, fun _ h200 => ⟨hh.2.1 (by omega), by omega, ?_, ?_, fun i hi j hj => ?_⟩⟩)
    · unfold impl_ArePins.f; rw [hpm]
    · rw [hel, ← htl, zNumK_is]
    · rw [hel, ← htl, hNumK_is, hca]
    · have hit : i < (tupK (rowsOf n m (inB false L))).length := by omega
      have h := hh.2.2 _ (List.getElem_mem hit) _ (List.getElem_mem hj)
      have e : (extK (rowsOf n m (inB false L)) ⟨#[]⟩)[i] = textB (tupK (rowsOf n m (inB false L)))[i] := by simp only [extK_text, List.getElem_map]
      rw [e, h]
      unfold opNumK
      rw [List.getElem?_eq_getElem hit, List.getElem?_eq_getElem hj]; rfl
  · exact ⟨0, [], [], Evt.pure (fun k => ⟨fun h => absurd h hk, fun h => absurd h hk⟩)⟩
theorem laws_FnKeysOpenOfAll.calls (a0_0 : Int) (A0_1 : Option Addr) (c0_1 : Nat) (l0_1 : List (List Int)) (a1 : ByteArray) (A2 : Option Addr) (c2 : Nat) (l2 : List S24) (a3_0 : Int) (A3_1 : Option Addr) (c3_1 : Nat) (l3_1 : List (List Int)) (a4_0 : Int) (A4_1 : Option Addr) (c4_1 : Nat) (l4_1 : List (List Int)) (r : Bool) (w : World) (hr0_1 : Kd.C (Kd.slice 3 (Kd.int .i64)) w A0_1 l0_1.length l0_1) (hc0_1 : l0_1.length ≤ c0_1) (hr2 : Kd.C k24 w A2 l2.length l2) (hc2 : l2.length ≤ c2) (hr3_1 : Kd.C (Kd.slice 3 (Kd.int .i64)) w A3_1 l3_1.length l3_1) (hc3_1 : l3_1.length ≤ c3_1) (hr4_1 : Kd.C (Kd.slice 3 (Kd.int .i64)) w A4_1 l4_1.length l4_1) (hc4_1 : l4_1.length ≤ c4_1) (h : laws_FnKeysOpenOfAll.f a0_0 l0_1 a1 l2 a3_0 l3_1 a4_0 l4_1 = some r) :
    Calls Try.prog 3 #[.agg #[.int .i64 a0_0, .slice A0_1 l0_1.length c0_1], .string a1, .slice A2 l2.length c2, .agg #[.int .i64 a3_0, .slice A3_1 l3_1.length c3_1], .agg #[.int .i64 a4_0, .slice A4_1 l4_1.length c4_1]] w fun e w' => e = .returned (.bool r) ∧ Below w.heap.size w w' := by
  obtain rfl := Option.some.inj h
  by_cases hbig : a1.size ≤ 1048576 ∧ l2.length ≤ 10000
  · have V0 := C_rowsV hr0_1
    have V3 := C_rowsV hr3_1
    have V4 := C_rowsV hr4_1
    have VL := C_listVI hr2
    have hl2 : l2.length ≤ 9223372036854775807 := by omega
    have hall := allV_len a0_0 l0_1
    have hsh := shV_len l2
    obtain ⟨_, _, hmv⟩ := moV_small l2 VL
    obtain ⟨_, _, hpv⟩ := masV_small a3_0 a4_0 l3_1 l4_1
    have g1 := CountShared.both l2 hl2 VL
    have g2 := GhostKeys.both l2 hl2 VL
    have g3 := MasterOf.both l2 hl2 VL
    have g4 := SharedKeys.both l2 hl2 VL
    have hn1 : (moV l2).2.2 = kindB l2 := by cases hk : kindB l2 with | true => exact (kind_yes hk).1 | false => exact (kind_not hk).1
    have hn2 : (ghostV l2).2 = kindB l2 := by cases hk : kindB l2 with | true => exact (kind_yes hk).2 | false => exact (kind_not hk).2.1
    have hsv : (shV l2).2 = (kindB l2 && decide (csV l2 ≤ 200)) := by
      cases hk : kindB l2 with
      | true => obtain ⟨n, m, _, _, _, _, _, _, _, _, k5⟩ := kind_known VL hk; rw [k5]; rfl
      | false => exact (kind_not hk).2.2
    obtain ⟨kc, ev, K, hD⟩ := part_list l2 hl2 VL
    have hok : (opV a0_0 l0_1 a1).2 = (pinsB a0_0 l0_1 && (pinsB a0_0 l0_1 && isKB a0_0 l0_1 a1)) := by
      show (pinsB a0_0 l0_1 && isKB a0_0 l0_1 a1) = _
      cases pinsB a0_0 l0_1 <;> rfl
    have E := Evt.and (impl_DoesOpen.ev a0_0 l0_1 a1) (Evt.and (spec_DoesOpen.ev a0_0 l0_1 V0 a1) (Evt.and (impl_IsKey.ev a0_0 l0_1 a1) (Evt.and (spec_IsKey.ev a0_0 l0_1 V0 a1) (Evt.and (impl_CountKeys.ev a0_0 l0_1 V0) (Evt.and (spec_CountKeys.ev a0_0 l0_1 V0) (Evt.and (impl_AllKeys.ev a0_0 l0_1 V0) (Evt.and (spec_AllKeys.ev a0_0 l0_1 V0) (Evt.and (laws_eTexts.ev (allV a0_0 l0_1).1 (by omega)) (Evt.and (spec_ArePins.ev a0_0 l0_1 V0) (part_all a0_0 l0_1 a1))))))))))
    have F := Evt.and g4.2 (Evt.and g4.1 (Evt.and g1.2 (Evt.and g1.1 (Evt.and g2.2 (Evt.and g2.1 (Evt.and g3.2 (Evt.and g3.1 (Evt.and (laws_eTexts.ev (shV l2).1 (by omega)) (Evt.and (laws_ePins.ev (moV l2).1 (moV l2).2.1 hmv) hD)))))))))
    have I4 : Evt fun k => (masV a3_0 l3_1 a4_0 l4_1).2.2 = true → impl_MasterPins.f k a4_0 l4_1 a3_0 l3_1 = some ((masV a3_0 l3_1 a4_0 l4_1).1, (masV a3_0 l3_1 a4_0 l4_1).2.1, true) := by
      refine Evt.imp (fun ho => ?_)
      have h := impl_MasterPins.ev a4_0 a3_0 l4_1 l3_1 V4 V3
      rw [masV_sym ho] at h
      have e : masV a3_0 l3_1 a4_0 l4_1 = ((masV a3_0 l3_1 a4_0 l4_1).1, (masV a3_0 l3_1 a4_0 l4_1).2.1, true) := by rw [← ho]
      rw [e] at h
      exact h
    have G := Evt.and (impl_MasterPins.ev a3_0 a4_0 l3_1 l4_1 V3 V4) (Evt.and (spec_MasterPins.ev a3_0 a4_0 l3_1 l4_1 V3 V4) (Evt.and (laws_ePins.ev (masV a3_0 l3_1 a4_0 l4_1).1 (masV a3_0 l3_1 a4_0 l4_1).2.1 hpv) I4))
    obtain ⟨k, hk⟩ := Evt.and E (Evt.and F G)
    obtain ⟨⟨e1, e2, e3, e4, e5, e6, e7, e8, e9, e11, e12⟩, ⟨f1, f2, f3, f4, f5, f6, f7, f8, f9, f10, f11, f12⟩, i1, i2, i3, i4⟩ := hk k (Nat.le_refl _)
    rw [← hn1] at f3 f4
    exact laws_FnKeysOpenOfAll.walk k a0_0 a3_0 a4_0 l0_1 l3_1 l4_1 a1 l2 A0_1 A2 A3_1 A4_1 c0_1 c2 c3_1 c4_1 w hr0_1 hc0_1 hr2 hc2 hr3_1 hc3_1 hr4_1 hc4_1 hbig.1 hbig.2
      (opV a0_0 l0_1 a1).1 (pinsB a0_0 l0_1 && isKB a0_0 l0_1 a1) (pinsB a0_0 l0_1) (ctV a0_0 l0_1) (allV a0_0 l0_1).1
      (opV a0_0 l0_1 a1).2 (allV a0_0 l0_1).2 (shV l2).2 hok (allV_5 a0_0 l0_1) e1 e2 e3 e4 e5 e6 e7 e8 e9 rfl e11 e12
      (shV l2).1 (moV l2).2.2 (csV l2) (ghostV l2).1 (moV l2).1 (moV l2).2.1
      (by rw [hsv, hn1]) f1 f2 f3 f4 (by rw [hn1, ← hn2]; exact f5) (by rw [hn1, ← hn2]; exact f6) f7 f8 f9 f10
      kc ev (opNumK l2 K) (nNumK l2 K) (zNumK l2 K) (hNumK l2 K) (by rw [hn1]; exact f11) (by rw [hn1]; exact f12)
      (fun _ => rfl) (nNumK_step l2 K) rfl (zNumK_step l2 K) rfl (hNumK_step l2 K) (fun i j => cntN_bd _ j) (fun i => cntN_bd _ i) (fun i => cntN_bd _ i)
      (masV a3_0 l3_1 a4_0 l4_1).1 (masV a3_0 l3_1 a4_0 l4_1).2.1 (masV a3_0 l3_1 a4_0 l4_1).2.2 i1 i2 i3 i4
  · exact laws_FnKeysOpenOfAll.walkBig a0_0 a3_0 a4_0 l0_1 l3_1 l4_1 a1 l2 A0_1 A2 A3_1 A4_1 c0_1 c2 c3_1 c4_1 w hbig
theorem pure_FnKeysOpenOfAll (p : S24) (_ : V24 p) (s : ByteArray) (_ : StrV s) (l : List S24) (_ : ListV V24 l) (a : S24) (_ : V24 a) (b : S24) (_ : V24 b) : laws_FnKeysOpenOfAll.f p.f0 p.f1 s l a.f0 a.f1 b.f0 b.f1 = some true := rfl
end Go.Proofs.Ytcbeihidnodceaa.P