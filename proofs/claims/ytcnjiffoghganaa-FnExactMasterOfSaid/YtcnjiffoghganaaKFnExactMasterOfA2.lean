import Derived.Test.YtcnjiffoghganaaKFnExactMasterOfA0
import Derived.Test.YtcnjiffoghganaaKFnExactMasterOfA1
import Derived.ProofKit
import Derived.Lib.SmallJoins
import Derived.Deep.Slices
import Derived.Deep.RegionHeld3
namespace Go.Proofs.Ytcnjiffoghganaa.P
open Go.RowKit Go.Proofs.YtcnjiffoghganaaW.PrintWords Go.Proofs.YtcnjiffoghganaaW.PrintLast Go.Proofs.YtcnjiffoghganaaW.PrintMore
attribute [local go_sem] max2_int min2_int max_two min_two max_three min_three max_four min_four
set_option linter.unusedVariables false
set_option linter.unusedSimpArgs false
/-! ### laws_markIntS: function 133 -/
def laws_markIntS.l0 : Nat → List Int → Int → Int → Option (Int × List Int)
  | 0, _, _, _ => none
  | k + 1, x0, x1, x5 => if x5 < (x0.length : Int) then (if 0 ≤ x5 then (laws_markIntS.l0 k (x0.set (x5 : Int).toNat x1) (wrap64 (x1 + 1)) (wrap64 (x5 + 1))) else (none)) else (some (x1, x0))
def laws_markIntS.f (k : Nat) (l0 : List Int) (a1 : Int) : Option (Int × List Int) := laws_markIntS.l0 k l0 a1 0
set_option maxHeartbeats 8000000 in
set_option maxRecDepth 100000 in
theorem laws_markIntS.calls (k : Nat) (P0_ : Nat → Prop) (u9000_ : Value) (l0 : List Int) (a1 : Int) (r1 : Int) (r2 : List Int) (w0 w : World) (hB : Below w0.heap.size w0 w) (ho0 : Kd.R (Kd.int .i64) 3 w w0.heap.size P0_ u9000_ l0) (h : laws_markIntS.f k l0 a1 = some (r1, r2)) :
    Calls Try.prog 133 #[u9000_, .int .i64 a1] w fun e w' => e = .returned (.int .i64 r1) ∧ Kd.R (Kd.int .i64) 3 w' w0.heap.size (fun k_ => (P0_ k_ ∨ w.heap.size ≤ k_)) u9000_ r2 ∧ Below w0.heap.size w0 w' ∧ Kept w w' (fun k_ => P0_ k_) := by
  have HO0 := amk (show Kd.R (Kd.int .i64) 3 w w0.heap.size (fun k_ => (P0_ k_ ∨ w.heap.size ≤ k_)) u9000_ l0 from Kd.R_mono ho0 (fun k_ hk => (.inl hk)))
  have HK := amk (Kept.refl w (fun k_ => P0_ k_))
  have HW0 := amk hB.size
  have HB := amk hB
  clear hB
  have H : (laws_markIntS.l0 k l0 a1 0) = some (r1, r2) := h
  clear h
  have H' := amk H
  clear H
  go_enter Try.func133, Try.ntmps133
  go_wp2
  go_loopg [1, 5] k (fun kq v1 v5 w' => ∃ (x0_1 : List Int) (x1_1 : Int) (x5_1 : Int), v1 = .int .i64 x1_1 ∧ v5 = .int .i64 x5_1 ∧ Aside0 (laws_markIntS.l0 kq x0_1 x1_1 x5_1 = some (r1, r2)) ∧ Aside0 (kq ≤ k) ∧ Aside0 (Kd.R (Kd.int .i64) 3 w' w0.heap.size (fun k_ => (P0_ k_ ∨ w.heap.size ≤ k_)) u9000_ x0_1) ∧ Aside0 (Kept w w' (fun k_ => P0_ k_)) ∧ Aside0 (Below w0.heap.size w0 w'))
  case atStart => exact ⟨(l0), (a1), (0), (by first | rfl | (simp; done) | (simp [*]; done)), (by first | rfl | (simp; done) | (simp [*]; done)), H', ⟨Nat.le_refl _⟩, ⟨by (with_reducible repeat (first | apply Kd.R_alloc | apply Kd.R_drewN | apply Kd.R_drew)); exact HO0.out⟩, ⟨by repeat (first | (with_reducible first | exact HK.out | apply Kept.alloc | apply Kept.drewN | apply Kept.drew) | exact HK.out)⟩, ⟨by repeat (first | (with_reducible first | exact HB.out | apply ba_ | apply bn_ | apply bd_) | exact HB.out)⟩⟩
  case round =>
    clear H'
    try clear c1; try clear p2
    obtain ⟨x0_1, x1_1, x5_1, rfl, rfl, HA, HK1, HO_0, HK, HB⟩ := hrel
    cases gk with
    | zero => exact absurd HA.out (by simp [laws_markIntS.l0])
    | succ k1 =>
      have H := HA.out
      clear HA
      simp only [laws_markIntS.l0] at H
      by_cases c3 : x5_1 < (x0_1.length : Int)
      · rw [if_pos c3] at H
        have c3b0 : decide (x5_1 < (x0_1.length : Int)) = true := decide_eq_true c3
        clear c3
        by_cases c4 : 0 ≤ x5_1
        · rw [if_pos c4] at H
          have c4b0 : decide (0 ≤ x5_1) = true := decide_eq_true c4
          clear c4
          obtain ⟨y375, hy375⟩ : ∃ y_ : List Int, y_ = (x0_1.set (x5_1 : Int).toNat x1_1) := ⟨_, rfl⟩
          replace H : (laws_markIntS.l0 k1 y375 (wrap64 (x1_1 + 1)) (wrap64 (x5_1 + 1))) = some (r1, r2) := by first | (rw [hy375]; with_reducible exact H) | (have H2_ := (Option.bind_some _ _).symm.trans H; rw [hy375]; with_reducible exact H2_) | (have H2_ := (Option.bind_some _ _).symm.trans H; with_reducible exact H2_) | with_reducible exact H | (rw [hy375]; exact H) | exact H
          have Ny375 := amk hy375
          clear hy375
          have H' := amk H
          clear H
          obtain ⟨Ao6, co6, eo6⟩ := Kd.R_slice HO_0.out
          subst eo6
          have p5 : 0 ≤ (x5_1 : Int) := of_decide_eq_true (by first | (with_reducible assumption) | assumption)
          have q5 : (x5_1 : Int) < ((x0_1.length : Int) : Int) := of_decide_eq_true (by first | (with_reducible assumption) | assumption)
          obtain ⟨go5, co5, eo5, gb5, gl5, cl5, HG5⟩ := Kd.R_form HO_0.out (by omega)
          (first | cases eo5 | (injection eo5 with ea_ en_ ec_; (first | subst ea_ | (injection ea_ with ea_; subst ea_)); subst ec_; clear en_))
          have GB5 := amk gb5
          have GG5 := amk HG5
          clear gb5 gl5 HG5
          have HMgo5 := amk (show (P0_ go5 ∨ w.heap.size ≤ go5) from (HO_0.out.1 _ rfl))
          obtain ⟨hx5_0, hf5_0⟩ := Kd.R_celln 0 HO_0.out (x5_1 : Int) p5 q5
          replace p5 := eq_true p5
          replace q5 := eq_true q5
          have HP7 := Kd.R_putg HO_0.out (x5_1 : Int) x1_1
          go_wp2_with (first | ((with_reducible refine gate_store (t := 3) (p := 15) rfl ?_); refine store_event (t := 3) (p := 15) (v := ?vo_w8) (w1 := (wr.setCell ⟨go5, (x5_1 : Int).toNat, none⟩ (.int .i64 x1_1))) ?hg ?ho ?hn ?hr ?_; (case ho => rfl); (case hg => rfl); (case hn => rfl); (case hr => first | (go_simp; done) | (go_simp; rfl)); intro w8 hw; have hg : wr.grownBy w8 (some go5) := (by rw [hw]; exact HP7.2); have hp_ : Kd.R (Kd.int .i64) 3 w8 w0.heap.size (fun k_ => (P0_ k_ ∨ w.heap.size ≤ k_)) (.slice (some ⟨go5, 0, none⟩) x0_1.length co6) y375 := (by rw [hw, Ny375.out]; exact HP7.1); clear HP7; have n0_ := amk (hp_); have n1_ := amk ((by rw [hw]; exact bs_ (HB.out) GB5.out : Below w0.heap.size w0 w8)); have n2_ := amk (Kept.of_grown (S := (fun k_ => P0_ k_)) hg (by repeat (first | (with_reducible first | exact HK.out | apply Kept.alloc | apply Kept.drewN | apply Kept.drew) | exact HK.out)) (fun k_ e_ => (HO_0.out.1 k_ e_))); clear HO_0; clear HB; clear HK; have HO_0 := n0_; have HB := n1_; have HK := n2_; clear n0_ n1_ n2_; clear hg hw hp_))
          go_roundg k1
          case measure => have := HK1.out; omega
          case rel => exact ⟨(y375), (wrap64 (x1_1 + 1)), (wrap64 (x5_1 + 1)), (by first | rfl | (simp; done) | (simp [*]; done)), (by first | rfl | (simp; done) | (simp [*]; done)), H', ⟨by have := HK1.out; omega⟩, ⟨by (with_reducible repeat (first | apply Kd.R_alloc | apply Kd.R_drewN | apply Kd.R_drew)); exact HO_0.out⟩, ⟨by repeat (first | (with_reducible first | exact HK.out | apply Kept.alloc | apply Kept.drewN | apply Kept.drew) | exact HK.out)⟩, ⟨by repeat (first | (with_reducible first | exact HB.out | apply ba_ | apply bn_ | apply bd_) | exact HB.out)⟩⟩
        · rw [if_neg c4] at H
          exact absurd H (by simp)
      · rw [if_neg c3] at H
        have c3b0 : decide (x5_1 < (x0_1.length : Int)) = false := decide_eq_false c3
        clear c3
        simp only [Option.some.injEq, Prod.mk.injEq] at H
        obtain ⟨rfl, rfl⟩ := H
        obtain ⟨Ao9, co9, eo9⟩ := Kd.R_slice HO_0.out
        subst eo9
        go_wp2
        go_ret
        exact ⟨by first | rfl | (simp [errW_none, errW_some] <;> rfl) | (simp [*, errW_none, errW_some] <;> rfl), by (with_reducible repeat (first | apply Kd.R_alloc | apply Kd.R_drewN | apply Kd.R_drew)); exact HO_0.out, by repeat (first | (with_reducible first | exact HB.out | apply ba_ | apply bn_ | apply bd_) | exact HB.out), by repeat (first | (with_reducible first | exact HK.out | apply Kept.alloc | apply Kept.drewN | apply Kept.drew) | exact HK.out)⟩
/-! laws.markIntSS, by hand: each row is lent, written, and given back. -/
def markRows (k : Nat) : List (List Int) → Int → Option (Int × List (List Int))
  | [], a => some (a, [])
  | x :: t, a => (laws_markIntS.f k x a).bind fun p => (markRows k t p.1).bind fun q => some (q.1, p.2 :: q.2)
def laws_markIntSS.f (k : Nat) (l : List (List Int)) (a : Int) : Option (Int × List (List Int)) := markRows k l a
theorem laws_markIntSS.empty (u : Value) (a1 : Int) (w : World) (A : Option Addr) (c : Nat) (hu : u = .slice A 0 c) : Calls Try.prog 82 #[u, .int .i64 a1] w fun e w' => e = .returned (.int .i64 a1) ∧ w' = w := by
  subst hu
  have hu35 := Try.underlying35
  go_enter Try.func82, Try.ntmps82
  go_wp2
  go_loopg [1, 5] 0 (fun gg s1 s5 wr => s1 = .int .i64 a1 ∧ s5 = .int .i64 0 ∧ wr = w)
  case atStart => exact ⟨rfl, rfl, rfl⟩
  case round =>
    obtain ⟨rfl, rfl, rfl⟩ := hrel
    go_wp2
    go_ret
    exact ⟨rfl, rfl⟩
set_option maxHeartbeats 4000000 in
set_option maxRecDepth 100000 in
theorem laws_markIntSS.calls (k : Nat) (P0_ : Nat → Prop) (u9000_ : Value) (l0 : List (List Int)) (a1 : Int) (r1 : Int) (r2 : List (List Int)) (w0 w : World) (hB : Below w0.heap.size w0 w) (ho0 : Kd.S (Kd.slice 3 (Kd.int .i64)) 86 w w0.heap.size P0_ u9000_ l0) (h : laws_markIntSS.f k l0 a1 = some (r1, r2)) :
    Calls Try.prog 82 #[u9000_, .int .i64 a1] w fun e w' => e = .returned (.int .i64 r1) ∧ Kd.S (Kd.slice 3 (Kd.int .i64)) 86 w' w0.heap.size P0_ u9000_ r2 ∧ Below w0.heap.size w0 w' ∧ Kept w w' P0_ := by
  by_cases hpos : 0 < l0.length
  · obtain ⟨g, cap, rfl, hg1, hg2, _⟩ := Kd.S_form ho0 hpos
    have hbig := (Kd.S_reads' ho0).2.2.2.1
    have hu35 := Try.underlying35
    unfold laws_markIntSS.f at h
    have HO := amk ho0
    have H := amk h
    have HB := amk hB
    clear ho0 h hB hg1 hg2 hpos
    generalize hn : l0.length = n at hbig
    have HN := amk hn
    clear hn
    go_enter Try.func82, Try.ntmps82
    go_wp2
    go_loopg [1, 5] n (fun gg s1 s5 wr => ∃ (i : Nat) (a : Int) (D R' : List (List Int)), s1 = .int .i64 a ∧ s5 = .int .i64 (i : Int) ∧ Aside0 (i ≤ n) ∧ Aside0 (n - i ≤ gg) ∧ Aside0 (D.length = i) ∧ Aside0 (markRows k (l0.drop i) a = some (r1, R')) ∧ Aside0 (r2 = D ++ R') ∧ Aside0 (Kd.S (Kd.slice 3 (Kd.int .i64)) 86 wr w0.heap.size P0_ (.slice (some ⟨g, 0, none⟩) n cap) (D ++ l0.drop i)) ∧ Aside0 (Below w0.heap.size w0 wr) ∧ Aside0 (Kept w wr P0_))
    case atStart => exact ⟨0, a1, [], r2, rfl, rfl, ⟨by omega⟩, ⟨by omega⟩, ⟨rfl⟩, H, ⟨rfl⟩, ⟨by have := HO.out; rw [HN.out] at this; exact this⟩, HB, ⟨Kept.refl _ _⟩⟩
    case round =>
      obtain ⟨i, a, D, R', rfl, rfl, HI, HG, HD, HM, HR2, HS, HBB, HK⟩ := hrel
      by_cases hlt : i < n
      · have hlw : decide ((i : Int) < (n : Int)) = true := decide_eq_true (by omega)
        have hlwn : decide (i < n) = true := decide_eq_true hlt
        have hiz : ((0 : Int) ≤ (i : Int)) = True := eq_true (by omega)
        have hlz2 : ((i : Int) < (n : Int)) = True := eq_true (by omega)
        have hnl := HN.out
        have hdr : l0.drop i = l0[i] :: l0.drop (i + 1) := List.drop_eq_getElem_cons (by omega)
        have hm := HM.out
        rw [hdr] at hm
        unfold markRows at hm
        obtain ⟨p, hp, hm⟩ := Option.bind_eq_some_iff.mp hm
        obtain ⟨q, hq, hm⟩ := Option.bind_eq_some_iff.mp hm
        obtain ⟨pa, px⟩ := p
        obtain ⟨qa, qx⟩ := q
        injection hm with hm
        injection hm with e1 e2
        subst e1
        obtain ⟨oki, cs, hcl, hMx, hcc, hoki, hH⟩ := Kd.S_lend HS.out [] (i : Int) (by omega) (by omega)
        have hx : (D ++ l0.drop i).getD (i : Int).toNat [] = l0[i] := by
          have hd := HD.out
          rw [Int.toNat_natCast, hdr, List.getD_eq_getElem?_getD, List.getElem?_append_right (by omega), hd, Nat.sub_self]
          rfl
        rw [hx] at hMx
        obtain ⟨v, rfl, hRv⟩ := hMx
        have hcell := hcc 0 v rfl
        simp only [Int.toNat_natCast] at hcell
        rw [show i * (Kd.slice 3 (Kd.int .i64)).sz + 0 = i from Nat.mul_one i] at hcell
        have HV := amk hRv
        have HH := amk hH
        have HP := amk hp
        have HQ := amk hq
        have HE2 := amk e2
        have HOK := amk hoki
        have HDR := amk hdr
        have hw1 : wrap64 ((i : Int) + 1) = ((i + 1 : Nat) : Int) := by unfold wrap64; omega
        clear hRv hH hp hq hm e2 hcc hcl hx hdr hoki
        have HLT := amk hlt
        go_wp2_with (go_at_call 133; refine (laws_markIntS.calls k oki _ _ _ _ _ w0 _ HBB.out HV.out HP.out).mono ?_; rintro e w9 ⟨rfl, hr9, hb9, hk9⟩)
        go_roundg (n - (i + 1))
        case measure => have := HG.out; have := HLT.out; omega
        case rel =>
          have hd := HD.out
          have hR9 : (Kd.int .i64).R 3 w9 w0.heap.size oki v px := Kd.R_reok rfl hr9 (fun k_ e_ => HV.out.1 k_ e_)
          have hM9 : (Kd.slice 3 (Kd.int .i64)).M w9 w0.heap.size oki px [v] := ⟨v, rfl, hR9⟩
          have hH9 := Kd.H_kept HH.out hk9 (fun k_ _ hn => hn)
          have hS9 := Kd.H_back hH9 hM9 (fun _ h => h)
          have hset : (D ++ l0.drop i).set (i : Int).toNat px = (D ++ [px]) ++ l0.drop (i + 1) := by
            rw [Int.toNat_natCast, HDR.out, List.set_append_right _ _ (by omega), hd, Nat.sub_self, List.set_cons_zero, List.append_assoc]
            rfl
          rw [hset] at hS9
          refine ⟨i + 1, pa, D ++ [px], qx, rfl, rfl, ⟨by have := HLT.out; omega⟩, ⟨by omega⟩, ⟨by rw [List.length_append, hd]; rfl⟩, HQ, ⟨by rw [HR2.out, ← HE2.out, List.append_assoc]; rfl⟩, ⟨hS9⟩, ⟨hb9⟩, ⟨HK.out.then_ hk9 (fun k_ hk => .inl (HOK.out k_ hk).1)⟩⟩
      · have hlw : decide ((i : Int) < (n : Int)) = false := decide_eq_false (by omega)
        have hlwn : decide (i < n) = false := decide_eq_false hlt
        have hin : i = n := by have := HI.out; omega
        have hm := HM.out
        rw [List.drop_eq_nil_of_le (by rw [HN.out]; omega)] at hm
        unfold markRows at hm
        injection hm with hm
        injection hm with e1 e2
        subst e1
        have HSX := HS.out
        rw [List.drop_eq_nil_of_le (by rw [HN.out]; omega), e2, ← HR2.out] at HSX
        have HSXX := amk HSX
        clear HSX hin hlt e2
        go_wp2
        go_ret
        exact ⟨rfl, HSXX.out, HBB.out, HK.out⟩
  · obtain rfl : l0 = [] := List.length_eq_zero_iff.mp (by omega)
    obtain ⟨A, c, he⟩ := Kd.S_slice ho0
    unfold laws_markIntSS.f markRows at h
    injection h with h
    injection h with e1 e2
    subst e1 e2
    refine (laws_markIntSS.empty u9000_ a1 w A c he).mono ?_
    rintro e w' ⟨rfl, rfl⟩
    exact ⟨rfl, ho0, hB, Kept.refl _ _⟩
/-! Lists of pins whose rows lie apart: three levels. -/
def P3L (W : World) (base g : Nat) : Nat → Nat → Nat → List S41 → Prop
  | _, lo, hi, [] => lo ≤ hi
  | i, lo, hi, p :: t => ∃ (A : Option Addr) (c mid : Nat), W.cell? ⟨g, 2 * i, none⟩ = some (.int .i64 p.f0) ∧ W.cell? ⟨g, 2 * i + 1, none⟩ = some (.slice A p.f1.length c) ∧ lo ≤ mid ∧ Kd.S (Kd.slice 3 (Kd.int .i64)) 86 W base (fun j => lo ≤ j ∧ j < mid) (.slice A p.f1.length c) p.f1 ∧ P3L W base g (i + 1) mid hi t
theorem P3L_le {W : World} {base g : Nat} : ∀ (l : List S41) (i lo hi : Nat), P3L W base g i lo hi l → lo ≤ hi := by
  intro l
  induction l with
  | nil => intro i lo hi h; exact h
  | cons p t ih =>
    intro i lo hi h
    obtain ⟨A, c, mid, _, _, h3, _, h5⟩ := h
    have := ih _ _ _ h5
    omega
theorem P3L_move {W W2 : World} {base g : Nat} : ∀ (l : List S41) (i lo hi : Nat), P3L W base g i lo hi l → (∀ o, 2 * i ≤ o → o < 2 * (i + l.length) → W2.cell? ⟨g, o, none⟩ = W.cell? ⟨g, o, none⟩) → (∀ k, lo ≤ k → k < hi → W2.heap[k]? = W.heap[k]?) → P3L W2 base g i lo hi l := by
  intro l
  induction l with
  | nil => intro i lo hi h _ _; exact h
  | cons p t ih =>
    intro i lo hi h hc hk
    obtain ⟨A, c, mid, h1, h2, h3, h4, h5⟩ := h
    have hle := P3L_le t _ _ _ h5
    rw [List.length_cons] at hc
    exact ⟨A, c, mid, (hc _ (by omega) (by omega)).trans h1, (hc _ (by omega) (by omega)).trans h2, h3, Kd.S_step h4 (fun k hk1 _ => hk k hk1.1 (by omega)), ih _ _ _ h5 (fun o h6 h7 => hc o (by omega) (by omega)) (fun k h6 h7 => hk k (by omega) h7)⟩
theorem P3L_snoc {W : World} {base g : Nat} {p : S41} {A : Option Addr} {c hi2 : Nat} : ∀ (l : List S41) (i lo hi : Nat), P3L W base g i lo hi l → W.cell? ⟨g, 2 * (i + l.length), none⟩ = some (.int .i64 p.f0) → W.cell? ⟨g, 2 * (i + l.length) + 1, none⟩ = some (.slice A p.f1.length c) → hi ≤ hi2 → Kd.S (Kd.slice 3 (Kd.int .i64)) 86 W base (fun j => hi ≤ j ∧ j < hi2) (.slice A p.f1.length c) p.f1 → P3L W base g i lo hi2 (l ++ [p]) := by
  intro l
  induction l with
  | nil =>
    intro i lo hi h h1 h2 h3 h4
    have h : lo ≤ hi := h
    exact ⟨A, c, hi2, h1, h2, by omega, Kd.S_mono h4 (fun k hk => ⟨by omega, hk.2⟩), Nat.le_refl _⟩
  | cons q t ih =>
    intro i lo hi h h1 h2 h3 h4
    obtain ⟨B, d, mid, g1, g2, g3, g4, g5⟩ := h
    rw [List.length_cons, show i + (t.length + 1) = i + 1 + t.length by omega] at h1 h2
    exact ⟨B, d, mid, g1, g2, g3, g4, ih _ _ _ g5 h1 h2 h3 h4⟩
theorem P3L_get {W : World} {base g : Nat} : ∀ (l : List S41) (i lo hi : Nat), P3L W base g i lo hi l → ∀ j p, l[j]? = some p → ∃ A c, W.cell? ⟨g, 2 * (i + j), none⟩ = some (.int .i64 p.f0) ∧ W.cell? ⟨g, 2 * (i + j) + 1, none⟩ = some (.slice A p.f1.length c) ∧ p.f1.length ≤ c ∧ Kd.C (Kd.slice 3 (Kd.int .i64)) W A p.f1.length p.f1 := by
  intro l
  induction l with
  | nil => intro i lo hi h j p hj; simp at hj
  | cons q t ih =>
    intro i lo hi h j p hj
    obtain ⟨B, d, mid, g1, g2, g3, g4, g5⟩ := h
    cases j with
    | zero =>
      injection hj with hj
      subst hj
      exact ⟨B, d, g1, g2, (Kd.S_reads' g4).2.1, (Kd.S_reads' g4).2.2⟩
    | succ j =>
      obtain ⟨A, c, e1, e2, e3, e4⟩ := ih _ _ _ g5 j p hj
      rw [show i + 1 + j = i + (j + 1) by omega] at e1 e2
      exact ⟨A, c, e1, e2, e3, e4⟩
theorem P3L_C {W : World} {base g lo hi : Nat} {l : List S41} (h : P3L W base g 0 lo hi l) (hb : l.length ≤ 9223372036854775807) : Kd.C k41 W (some ⟨g, 0, none⟩) l.length l := by
  refine ⟨rfl, hb, fun _ => ⟨_, rfl, fun j p hj => ?_⟩⟩
  obtain ⟨A, c, e1, e2, e3, e4⟩ := P3L_get l 0 lo hi h j p hj
  rw [Nat.zero_add] at e1 e2
  refine ⟨[.int .i64 p.f0, .slice A p.f1.length c], rfl, k41_mk W p e3 e4, fun i u hi => ?_⟩
  match i, hi with
  | 0, hi =>
    injection hi with hi; subst hi
    have : (⟨g, 0, none⟩ : Addr).add (j * k41.sz + 0) = ⟨g, 2 * j, none⟩ := by
      show (⟨g, 0, none⟩ : Addr).add (j * 2 + 0) = _
      rw [Nat.add_zero, Nat.mul_comm j 2]
      generalize 2 * j = o
      by_cases h0 : o = 0 <;> simp [Addr.add, h0]
    rw [this]; exact e1
  | 1, hi =>
    injection hi with hi; subst hi
    have : (⟨g, 0, none⟩ : Addr).add (j * k41.sz + 1) = ⟨g, 2 * j + 1, none⟩ := by
      show (⟨g, 0, none⟩ : Addr).add (j * 2 + 1) = _
      rw [Nat.mul_comm j 2]
      simp [Addr.add]
    rw [this]; exact e2
/-! laws.markPinsS, by hand, on pins whose rows lie apart: which blocks it writes, and the number it gives back. -/
def markP (k : Nat) : List S41 → Int → Option Int
  | [], a => some a
  | p :: t, a => (laws_markIntSS.f k p.f1 (wrap64 (a + 1))).bind fun q => markP k t q.1
theorem set1 {w : World} {g t o : Nat} {cu : Array Value} {u : Value} (h : w.heap[g]? = some (.cells cu t (0, 0))) :
    (∃ cu2 : Array Value, (w.setCell ⟨g, o, none⟩ u).heap[g]? = some (.cells cu2 t (0, 0)) ∧ cu2.size = cu.size) ∧ (∀ j, j ≠ o → (w.setCell ⟨g, o, none⟩ u).cell? ⟨g, j, none⟩ = w.cell? ⟨g, j, none⟩) ∧ (∀ k, k ≠ g → (w.setCell ⟨g, o, none⟩ u).heap[k]? = w.heap[k]?) := by
  have h1 := heap_setCell_same w g o cu t u h
  refine ⟨⟨_, h1, by simp⟩, fun j hj => ?_, fun k hk => Below.heap_setCell _ _ _ _ hk⟩
  rw [blk_cell h1 j, blk_cell h j]; simp [Array.getElem?_setIfInBounds]; intro h2; omega
set_option maxHeartbeats 4000000 in
set_option maxRecDepth 100000 in
theorem laws_markPinsS.calls3 (k g n cap base lo hi : Nat) (l : List S41) (a1 r1 : Int) (w0 w : World) (hB : Below w0.heap.size w0 w) (hbase : w0.heap.size ≤ base) (hg : w0.heap.size ≤ g) (hgl : g < lo) (hhi : hi ≤ w.heap.size) (hn : l.length = n) (hbig : n ≤ 1048576) (hbk : ∃ cu : Array Value, w.heap[g]? = some (.cells cu 41 (0, 0)) ∧ 2 * n ≤ cu.size) (hp : P3L w base g 0 lo hi l) (h : markP k l a1 = some r1) :
    Calls Try.prog 45 #[.slice (some ⟨g, 0, none⟩) n cap, .int .i64 a1] w fun e w' => e = .returned (.int .i64 r1) ∧ Below w0.heap.size w0 w' ∧ Kept w w' (fun j => j = g ∨ (lo ≤ j ∧ j < hi)) := by
  have hu41 := Try.underlying41
  have hu57 := Try.underlying57
  have hu35 := Try.underlying35
  have H := amk h
  have HB := amk hB
  have HBK := amk hbk
  have HP := amk hp
  have HN := amk hn
  have HBA := amk hbase
  have HGG := amk hg
  have HGL := amk hgl
  have HHI := amk hhi
  clear h hB hbk hp hn hbase hg hgl hhi
  go_enter Try.func45, Try.ntmps45
  go_wp2
  go_loopg [1, 5] n (fun gg s1 s5 wr => ∃ (i : Nat) (a : Int) (li : Nat), s1 = .int .i64 a ∧ s5 = .int .i64 (i : Int) ∧ Aside0 (i ≤ n) ∧ Aside0 (n - i ≤ gg) ∧ Aside0 (markP k (l.drop i) a = some r1) ∧ Aside0 (∃ cu : Array Value, wr.heap[g]? = some (.cells cu 41 (0, 0)) ∧ 2 * n ≤ cu.size) ∧ Aside0 (lo ≤ li) ∧ Aside0 (P3L wr base g i li hi (l.drop i)) ∧ Aside0 (Below w0.heap.size w0 wr) ∧ Aside0 (Kept w wr (fun j => j = g ∨ (lo ≤ j ∧ j < hi))))
  case atStart => exact ⟨0, a1, lo, rfl, rfl, ⟨Nat.zero_le _⟩, ⟨by omega⟩, H, HBK, ⟨Nat.le_refl _⟩, HP, HB, ⟨Kept.refl _ _⟩⟩
  case round =>
    obtain ⟨i, a, li, rfl, rfl, HI, HM, HMK, HC4, HLI, HPP, HBB, HK⟩ := hrel
    by_cases hlt : i < n
    · have hd : decide ((i : Int) < (n : Int)) = true := decide_eq_true (by omega)
      have hd2 : (i < n) = True := eq_true hlt
      have hd3 : ((i : Int) < (n : Int)) = True := eq_true (by omega)
      have hd4 : ((0 : Int) ≤ (i : Int)) = True := eq_true (by omega)
      have hlt0 : i < l.length := by have := HN.out; omega
      have hdr : l.drop i = l[i] :: l.drop (i + 1) := List.drop_eq_getElem_cons hlt0
      have hmk := HMK.out
      have hpp := HPP.out
      rw [hdr] at hmk hpp
      unfold markP at hmk
      obtain ⟨q, hq, hmk2⟩ := Option.bind_eq_some_iff.mp hmk
      clear hmk
      obtain ⟨qa, qx⟩ := q
      obtain ⟨A, c, mid, e1, e2, e3, e4, e5⟩ := hpp
      generalize l[i] = p at *
      obtain ⟨cu, hcu, hcs⟩ := HC4.out
      rw [Nat.mul_comm 2 i] at e1 e2
      have hle5 := P3L_le _ _ _ _ e5
      have HCU := amk hcu
      have HCS := amk hcs
      have HQ := amk hq
      have HMK2 := amk hmk2
      have HE3 := amk e3
      have HE4 := amk e4
      have HE5 := amk e5
      have HLE5 := amk hle5
      have HLT := amk hlt
      have HWR := amk (show wrap64 ((i : Int) + 1) = ((i + 1 : Nat) : Int) from w64 (by omega) (by omega))
      obtain ⟨⟨cu1, f1, f2⟩, f3, f4⟩ := set1 (u := .int .i64 a) (o := i * 2) hcu
      have W1 := amk f1
      have W2 := amk f2
      have W3 := amk f3
      have W4 := amk f4
      have hf0 := blk_frozen hcu (i * 2)
      have hf1 := blk_frozen hcu (i * 2 + 1)
      have hg2 := (f3 (i * 2 + 1) (by omega)).trans e2
      clear hlt hlt0 hdr hmk2 hq e3 e4 e5 hle5 hcs hcu f1 f2 f3 f4
      have S1 := amk (show Kd.S (Kd.slice 3 (Kd.int .i64)) 86 (wr.setCell ⟨g, i * 2, none⟩ (.int .i64 a)) w0.heap.size (fun j => li ≤ j ∧ j < mid) (.slice A p.f1.length c) p.f1 from Kd.S_step (Kd.S_lower HE4.out HBA.out) (fun q hq _ => W4.out q (by have := hq.1; have := HGL.out; have := HLI.out; omega)))
      have HB1 := amk (HBB.out.setCell (p := ⟨g, i * 2, none⟩) HGG.out (.int .i64 a))
      go_wp2_with (go_at_call 82; refine Calls.mono (laws_markIntSS.calls k (fun j => li ≤ j ∧ j < mid) _ p.f1 _ qa qx w0 _ HB1.out S1.out HQ.out) ?_; rintro e w9 ⟨rfl, hs9, hb9, hk9⟩; have HB9 := amk hb9; have HK9 := amk hk9; clear hs9 hb9 hk9)
      go_roundg (n - (i + 1))
      case measure => have := HM.out; have := HLT.out; omega
      case rel =>
        have hgl := HGL.out
        have hli := HLI.out
        have he3 := HE3.out
        have hle := HLE5.out
        have hng : ¬ (li ≤ g ∧ g < mid) := by omega
        refine ⟨i + 1, qa, mid, rfl, ?_, ⟨by have := HLT.out; omega⟩, ⟨by omega⟩, HMK2, ⟨⟨cu1, blk_kept W1.out HK9.out hng, by have := W2.out; have := HCS.out; omega⟩⟩, ⟨by omega⟩, ⟨?_⟩, HB9, ⟨?_⟩⟩
        · rw [HWR.out]
        · refine P3L_move _ _ _ _ HE5.out (fun o h1 h2 => ?_) (fun q h1 h2 => ?_)
          · have hb := blk_kept W1.out HK9.out hng
            rw [blk_cell hb o, ← blk_cell W1.out o]
            exact W3.out o (by omega)
          · have hz := HK.out.1
            have hh := HHI.out
            have hw : (wr.setCell ⟨g, i * 2, none⟩ (.int .i64 a)).heap.size = wr.heap.size := by simp [World.setCell]
            rw [HK9.out.2 q (by omega) (by omega)]
            exact W4.out q (by omega)
        · exact (HK.out.setCell (p := ⟨g, i * 2, none⟩) (.inl (.inl rfl)) _).then_ HK9.out (fun q hq => .inl (.inr ⟨by have := hq.1; omega, by have := hq.2; omega⟩))
    · have hd : decide ((i : Int) < (n : Int)) = false := decide_eq_false (by omega)
      have hmk := HMK.out
      rw [List.drop_eq_nil_of_le (by have := HN.out; omega)] at hmk
      injection hmk with hmk
      subst hmk
      go_wp2
      go_ret
      exact ⟨rfl, HBB.out, HK.out⟩
/-! laws.toPinsS, by hand: what it makes lies apart, pin by pin. -/
theorem own3_of_R {w : World} {base n : Nat} {ok : Nat → Prop} {v : Value} {xs : List S41} (h : Kd.R k41 41 w base ok v xs) (hn : xs.length = n) (hv : ∃ b, v.ownBlock = some b) : ∃ (g cap : Nat) (cur : Array Value), v = .slice (some ⟨g, 0, none⟩) n cap ∧ base ≤ g ∧ n ≤ cap ∧ cap ≤ maxLen ∧ 2 * n ≤ cur.size ∧ w.heap[g]? = some (.cells cur 41 (0, 0)) := by
  obtain ⟨_, inner, hown, _⟩ := h
  rcases hown.2 with ⟨hnil, _⟩ | ⟨g, cap, cur, hs, hb, hh, hnc, hcm, hcs, _⟩
  · obtain ⟨b, hb⟩ := hv
    rw [hnil] at hb
    cases hb
  · have h2 : cur.size = cap * 2 := hcs
    exact ⟨g, cap, cur, by rw [hs, hn], hb, by omega, hcm, by omega, hh⟩
theorem set2 {w : World} {g t o : Nat} {cu : Array Value} {u v : Value} (h : w.heap[g]? = some (.cells cu t (0, 0))) (ho : o + 1 < cu.size) :
    (∃ cu2 : Array Value, ((w.setCell ⟨g, o, none⟩ u).setCell ⟨g, o + 1, none⟩ v).heap[g]? = some (.cells cu2 t (0, 0)) ∧ cu2.size = cu.size) ∧ ((w.setCell ⟨g, o, none⟩ u).setCell ⟨g, o + 1, none⟩ v).cell? ⟨g, o, none⟩ = some u ∧ ((w.setCell ⟨g, o, none⟩ u).setCell ⟨g, o + 1, none⟩ v).cell? ⟨g, o + 1, none⟩ = some v ∧ (∀ j, j < o → ((w.setCell ⟨g, o, none⟩ u).setCell ⟨g, o + 1, none⟩ v).cell? ⟨g, j, none⟩ = w.cell? ⟨g, j, none⟩) ∧ (∀ k, k ≠ g → ((w.setCell ⟨g, o, none⟩ u).setCell ⟨g, o + 1, none⟩ v).heap[k]? = w.heap[k]?) := by
  have h1 := heap_setCell_same w g o cu t u h
  have h2 := heap_setCell_same (w.setCell ⟨g, o, none⟩ u) g (o + 1) _ t v h1
  refine ⟨⟨_, h2, by simp⟩, ?_, ?_, fun j hj => ?_, fun k hk => ?_⟩
  · rw [blk_cell h2 o]; simp [Array.getElem?_setIfInBounds]; omega
  · rw [blk_cell h2 (o + 1)]; simp [Array.getElem?_setIfInBounds]; omega
  · rw [blk_cell h2 j, blk_cell h j]; simp [Array.getElem?_setIfInBounds]; rw [if_neg (by omega), if_neg (by omega)]
  · rw [Below.heap_setCell _ _ _ _ hk, Below.heap_setCell _ _ _ _ hk]
set_option maxHeartbeats 4000000 in
set_option maxRecDepth 100000 in
theorem laws_toPinsS.calls3 (k : Nat) (A0 : Option Addr) (c0 : Nat) (l0 : List S37) (w : World) (hr0 : Kd.C k37 w A0 l0.length l0) (hc0 : l0.length ≤ c0) (hl : l0.length ≤ 1048576) (he : ∀ p ∈ l0, laws_toPins.f k p.f0 p.f1 = some (p.f0, p.f1)) :
    Calls Try.prog 36 #[.slice A0 l0.length c0] w fun e w' => ∃ (g cap lo : Nat), e = .returned (.slice (some ⟨g, 0, none⟩) l0.length cap) ∧ w.heap.size ≤ g ∧ g < lo ∧ l0.length ≤ cap ∧ (∃ cur : Array Value, w'.heap[g]? = some (.cells cur 41 (0, 0)) ∧ 2 * l0.length ≤ cur.size) ∧ P3L w' w.heap.size g 0 lo w'.heap.size (l0.map pinsOf) ∧ Below w.heap.size w w' := by
  have hu37 := Try.underlying37
  have hu41 := Try.underlying41
  have hu57 := Try.underlying57
  have hu54 := Try.underlying54
  have HR := amk hr0
  have HC := amk hc0
  have HL := amk hl
  have HE := amk he
  have hbig := hr0.2.1
  clear hr0 hc0 he
  generalize hn : l0.length = n at hbig hl
  have HN := amk hn
  go_enter Try.func36, Try.ntmps36
  clear hn
  go_wp2_with ((with_reducible refine gate_dst (N := 7) rfl ?_); refine Kd.R_make k41 (w0 := w) w.heap.size 41 rfl (N := 7) rfl 57 _ _ rfl (n : Int) rfl rfl Try.underlying57 (.agg #[(.int .i64 0), (.slice none 0 0)]) 32 info41 rfl (by decide) (by omega) z41 (ok := fun _ => True) (okp := fun _ => True) (k41_mkM _ _ _ z41 (Kd.R_nil _ _ _ _ _)) (fun _ hk => hk) trivial (by omega) (by rw [Int.toNat_natCast]; omega) (Below.refl _ _) (Nat.le_refl _) ?_; intro v4 w4 ho hb _ hnew; obtain ⟨b4, hb4, _⟩ := hnew; obtain ⟨g, cap, cur, rfl, hg, hnc, hcm, hcz, hh⟩ := own3_of_R (n := n) ho (by simp) ⟨b4, hb4⟩; have HG := amk hg; have HNC := amk hnc; have HH := amk (And.intro hh hcz); have HB4 := amk hb; have HGL := amk (Array.getElem?_eq_some_iff.mp hh).1; clear ho hb hb4 hg hnc hcm hcz hh)
  go_loopg [4] n (fun gg s4 wr => ∃ (i : Nat) (cu : Array Value), s4 = .int .i64 (i : Int) ∧ Aside0 (i ≤ n) ∧ Aside0 (n - i ≤ gg) ∧ Aside0 (wr.heap[g]? = some (.cells cu 41 (0, 0)) ∧ 2 * n ≤ cu.size) ∧ Aside0 (w4.heap.size ≤ wr.heap.size) ∧ Aside0 (P3L wr w.heap.size g 0 w4.heap.size wr.heap.size ((l0.take i).map pinsOf)) ∧ Aside0 (Below w.heap.size w wr))
  case atStart => exact ⟨0, cur, rfl, ⟨Nat.zero_le _⟩, ⟨by omega⟩, HH, ⟨Nat.le_refl _⟩, ⟨Nat.le_refl w4.heap.size⟩, HB4⟩
  case round =>
    obtain ⟨i, cu, rfl, HI, HGG, HC4, HZ, HP, HB⟩ := hrel
    by_cases hlt : i < n
    · have hd : decide ((i : Int) < (n : Int)) = true := decide_eq_true (by omega)
      have hd2 : (i < n) = True := eq_true hlt
      have hd3 : ((i : Int) < (n : Int)) = True := eq_true (by omega)
      have hd4 : ((0 : Int) ≤ (i : Int)) = True := eq_true (by omega)
      have hlt0 : i < l0.length := by have := HN.out; omega
      obtain ⟨ad, A2, c2, e2, ha0, ha1, l2, g2⟩ := at_T37 HR.out (i : Int) (by omega) (by omega)
      cases e2
      replace ha0 := (HB.out.cell (World.block_lt_of_cell? w _ ha0)).trans ha0
      replace ha1 := (HB.out.cell (World.block_lt_of_cell? w _ ha1)).trans ha1
      have hyi : rd_T37 l0 (i : Int) = l0[i] := by unfold rd_T37; simp [List.getD, hlt0]
      rw [hyi] at ha0 ha1 l2 g2
      simp only [Int.toNat_natCast] at ha0 ha1
      have htk : (l0.take (i + 1)).map pinsOf = (l0.take i).map pinsOf ++ [pinsOf l0[i]] := by rw [List.take_succ_eq_append_getElem hlt0, List.map_append]; rfl
      have htl : ((l0.take i).map pinsOf).length = i := by rw [List.length_map, List.length_take]; omega
      have hep := HE.out l0[i] (List.getElem_mem hlt0)
      generalize l0[i] = p at *
      have HTK := amk htk
      have HTL := amk htl
      have HEP := amk hep
      have HL2 := amk l2
      have HG2 := amk g2
      have HLT := amk hlt
      have HWR := amk (show wrap64 ((i : Int) + 1) = ((i + 1 : Nat) : Int) from w64 (by omega) (by omega))
      clear hlt hlt0 htk htl hep l2 g2 hyi
      go_wp2_with (go_at_call 22; refine Calls.mono (laws_toPins.calls k p.f0 _ _ p.f1 p.f0 p.f1 _ (Kd.C_below HG2.out HB.out) HL2.out HEP.out) ?_; rintro e w9 ⟨v9, rfl, hs, hb⟩; obtain ⟨A9, c9, rfl⟩ := Kd.S_slice hs; have S9 := amk (S_ivC hs); have HB9 := amk hb; have HC9 := amk ((hb.block g (Array.getElem?_eq_some_iff.mp HC4.out.1).1).trans HC4.out.1); have hf0 := blk_frozen HC9.out (i * 2); have hf1 := blk_frozen HC9.out (i * 2 + 1); have hsz := HC4.out.2; have hi2 := HLT.out; obtain ⟨u0, hc0⟩ : ∃ u, w9.cell? ⟨g, i * 2, none⟩ = some u := ⟨_, (blk_cell HC9.out (i * 2)).trans (Array.getElem?_eq_getElem (by omega))⟩; obtain ⟨u1, hc1⟩ : ∃ u, w9.cell? ⟨g, i * 2 + 1, none⟩ = some u := ⟨_, (blk_cell HC9.out (i * 2 + 1)).trans (Array.getElem?_eq_getElem (by omega))⟩; clear hs hb hsz hi2)
      go_roundg (n - (i + 1))
      case measure => have := HGG.out; have := HLT.out; omega
      case rel =>
        have hsz := HC4.out.2
        have hi2 := HLT.out
        obtain ⟨⟨cu2, k1, k2⟩, k3, k4, k5, k6⟩ := set2 (u := .int .i64 p.f0) (v := .slice A9 p.f1.length c9) HC9.out (o := i * 2) (by omega)
        have hwz : ((w9.setCell ⟨g, i * 2, none⟩ (.int .i64 p.f0)).setCell ⟨g, i * 2 + 1, none⟩ (.slice A9 p.f1.length c9)).heap.size = w9.heap.size := by simp [World.setCell]
        have hz := HZ.out
        have hz9 := HB9.out.size
        have hgl := HGL.out
        refine ⟨i + 1, cu2, ?_, ⟨by omega⟩, ⟨by omega⟩, ⟨k1, by omega⟩, ⟨by rw [hwz]; omega⟩, ⟨?_⟩, ⟨?_⟩⟩
        · rw [HWR.out]
        · rw [HTK.out, hwz]
          refine P3L_snoc _ 0 w4.heap.size wr.heap.size (P3L_move _ 0 _ _ HP.out (fun o h1 h2 => ?_) (fun q h1 h2 => ?_)) (by rw [HTL.out, Nat.zero_add, Nat.mul_comm 2 i]; exact k3) (by rw [HTL.out, Nat.zero_add, Nat.mul_comm 2 i]; exact k4) hz9 ?_
          · rw [HTL.out] at h2
            rw [k5 o (by omega)]
            exact HB9.out.cell (p := ⟨g, o, none⟩) (by show g < wr.heap.size; omega)
          · rw [k6 q (by omega)]
            exact HB9.out.block q h2
          · exact Kd.S_step (Kd.S_lower S9.out HB.out.size) (fun q hq _ => k6 q (by have := hq.1; omega))
        · have hg := HG.out
          exact ((HB.out.trans (HB9.out.mono HB.out.size)).setCell (p := ⟨g, i * 2, none⟩) hg _).setCell (p := ⟨g, i * 2 + 1, none⟩) hg _
    · have hd : decide ((i : Int) < (n : Int)) = false := decide_eq_false (by omega)
      have hin : i = n := by have := HI.out; omega
      subst hin
      go_wp2
      go_ret
      have hp := HP.out
      rw [← HN.out, List.take_length] at hp
      exact ⟨g, cap, w4.heap.size, rfl, HG.out, HGL.out, HNC.out, ⟨cu, HC4.out⟩, hp, HB.out⟩
/-! laws.FnExactSharedKeys, by hand: the argument's rows of rows are marked. -/
def X3 (w : World) (bx g lo hi n cap : Nat) (M : List S41) (W : World) : Prop := w.heap.size ≤ bx ∧ bx ≤ g ∧ g < lo ∧ hi ≤ W.heap.size ∧ n ≤ cap ∧ (∃ cur : Array Value, W.heap[g]? = some (.cells cur 41 (0, 0)) ∧ 2 * n ≤ cur.size) ∧ P3L W bx g 0 lo hi M
theorem X3_below {w W W2 : World} {bx g lo hi n cap : Nat} {M : List S41} (h : X3 w bx g lo hi n cap M W) (hb : Below W.heap.size W W2) : X3 w bx g lo hi n cap M W2 := by
  obtain ⟨h1, h2, h3, h4, h5, ⟨cu, h6, h7⟩, h8⟩ := h
  have hz := hb.size
  have hg := (Array.getElem?_eq_some_iff.mp h6).1
  exact ⟨h1, h2, h3, by omega, h5, ⟨cu, (hb.block g hg).trans h6, h7⟩, P3L_move _ _ _ _ h8 (fun o _ _ => hb.cell (p := ⟨g, o, none⟩) hg) (fun k _ hk => hb.block k (by omega))⟩
section
variable {w W W2 : World} {V G G' : List ByteArray} {Aw Ag : Option Addr} {cw a1 a2 cg b1 b2 : Nat}
end
/-! laws.markPins, by hand. -/
def laws_markPins.f (k : Nat) (n : Int) (l : List (List Int)) (a : Int) : Option (Int × List (List Int)) := laws_markIntSS.f k l a
set_option maxRecDepth 100000 in
theorem laws_markPins.calls (k : Nat) (P0_ : Nat → Prop) (n : Int) (A : Option Addr) (m c : Nat) (l0 : List (List Int)) (a1 : Int) (r1 : Int) (r2 : List (List Int)) (w0 w : World) (hB : Below w0.heap.size w0 w) (hP : ∀ j, P0_ j → j < w.heap.size) (ho0 : Kd.S (Kd.slice 3 (Kd.int .i64)) 86 w w0.heap.size P0_ (.slice A m c) l0) (h : laws_markPins.f k n l0 a1 = some (r1, r2)) :
    Calls Try.prog 27 #[.agg #[.int .i64 n, .slice A m c], .int .i64 a1] w fun e w' => e = .returned (.int .i64 r1) ∧ Kd.S (Kd.slice 3 (Kd.int .i64)) 86 w' w0.heap.size P0_ (.slice A m c) r2 ∧ Below w0.heap.size w0 w' ∧ Kept w w' P0_ := by
  have hu41 := Try.underlying41
  have hu35 := Try.underlying35
  have HO := amk (Kd.S_alloc ho0 (.cells #[.int .i64 n, .slice A m c] 41 (0, 0)))
  have H := amk h
  have HB := amk (hB.alloc hB.size (.cells #[.int .i64 n, .slice A m c] 41 (0, 0)))
  clear ho0 h hB
  go_enter Try.func27, Try.ntmps27
  go_wp2_with (go_at_call 82; refine (laws_markIntSS.calls k P0_ _ _ _ _ _ w0 _ HB.out HO.out H.out).mono ?_; rintro e w9 ⟨rfl, hs9, hb9, hk9⟩)
  go_ret
  exact ⟨rfl, hs9, hb9, ⟨by have := hk9.1; simp at this; omega, fun i hi hn => (hk9.2 i (by simp; omega) hn).trans (((Below.refl _ w).alloc (Nat.le_refl _) _).block i hi)⟩⟩
/-! laws.FnExactMasterOf, by hand: the argument's rows of rows are marked. -/
def MK (w : World) (rn : Int) (R : List (List Int)) (Aw : Option Addr) (cw a1 bw : Nat) (G : List (List Int)) (Ag : Option Addr) (cg b1 bg : Nat) (W : World) : Prop := Below w.heap.size w W ∧ W.heap[bw]? = some (.cells #[.int .i64 rn, .slice Aw R.length cw] 41 (0, 0)) ∧ Kd.S (Kd.slice 3 (Kd.int .i64)) 86 W w.heap.size (fun j => a1 ≤ j ∧ j < bw) (.slice Aw R.length cw) R ∧ W.heap[bg]? = some (.cells #[.int .i64 rn, .slice Ag R.length cg] 41 (0, 0)) ∧ Kd.S (Kd.slice 3 (Kd.int .i64)) 86 W w.heap.size (fun j => b1 ≤ j ∧ j < bg) (.slice Ag R.length cg) G
section
variable {w W W2 : World} {rn : Int} {R G G' : List (List Int)} {Aw Ag : Option Addr} {cw a1 bw cg b1 bg : Nat}
theorem MK_below (h : MK w rn R Aw cw a1 bw G Ag cg b1 bg W) (hb : Below W.heap.size W W2) : MK w rn R Aw cw a1 bw G Ag cg b1 bg W2 := ⟨h.1.trans (hb.mono h.1.size), (hb.block _ (two_cells h.2.1).2.2.2.2).trans h.2.1, Kd.S_below h.2.2.1 hb, (hb.block _ (two_cells h.2.2.2.1).2.2.2.2).trans h.2.2.2.1, Kd.S_below h.2.2.2.2 hb⟩
theorem MK_markX {S : Nat → Prop} (h : MK w rn R Aw cw a1 bw G Ag cg b1 bg W) (hb : Below w.heap.size w W2) (hk : Kept W W2 S) (h1 : ∀ j, a1 ≤ j → j ≤ bw → ¬ S j) (h2 : ∀ j, b1 ≤ j → j ≤ bg → ¬ S j) (h3 : a1 ≤ bw) (h4 : b1 ≤ bg) : MK w rn R Aw cw a1 bw G Ag cg b1 bg W2 :=
  ⟨hb, blk_kept h.2.1 hk (h1 bw h3 (Nat.le_refl _)), Kd.S_step h.2.2.1 (fun j hj hl => hk.2 j hl (h1 j hj.1 (by omega))), blk_kept h.2.2.2.1 hk (h2 bg h4 (Nat.le_refl _)), Kd.S_step h.2.2.2.2 (fun j hj hl => hk.2 j hl (h2 j hj.1 (by omega)))⟩
theorem MK_markG (h : MK w rn R Aw cw a1 bw G Ag cg b1 bg W) (hd : bw < b1) (hb : Below w.heap.size w W2) (hk : Kept W W2 (fun j => b1 ≤ j ∧ j < bg)) (hg : Kd.S (Kd.slice 3 (Kd.int .i64)) 86 W2 w.heap.size (fun j => b1 ≤ j ∧ j < bg) (.slice Ag R.length cg) G') : MK w rn R Aw cw a1 bw G' Ag cg b1 bg W2 :=
  ⟨hb, blk_kept h.2.1 hk (by omega), Kd.S_step h.2.2.1 (fun j hj hl => hk.2 j hl (by have := hj.2; omega)), blk_kept h.2.2.2.1 hk (by omega), hg⟩
def M1 (w : World) (rn : Int) (R : List (List Int)) (Aw : Option Addr) (cw a1 bw : Nat) (W : World) : Prop := Below w.heap.size w W ∧ W.heap[bw]? = some (.cells #[.int .i64 rn, .slice Aw R.length cw] 41 (0, 0)) ∧ Kd.S (Kd.slice 3 (Kd.int .i64)) 86 W w.heap.size (fun j => a1 ≤ j ∧ j < bw) (.slice Aw R.length cw) R ∧ a1 ≤ bw
theorem M1_below (h : M1 w rn R Aw cw a1 bw W) (hb : Below W.heap.size W W2) : M1 w rn R Aw cw a1 bw W2 := ⟨h.1.trans (hb.mono h.1.size), (hb.block _ (two_cells h.2.1).2.2.2.2).trans h.2.1, Kd.S_below h.2.2.1 hb, h.2.2.2⟩
theorem M1_make (h : Below w.heap.size w W) (hs : Kd.S (Kd.slice 3 (Kd.int .i64)) 86 W a1 (fun j => a1 ≤ j ∧ j < W.heap.size) (.slice Aw R.length cw) R) (h1 : w.heap.size ≤ a1) (h2 : a1 ≤ W.heap.size) : M1 w rn R Aw cw a1 W.heap.size (W.alloc (.cells #[.int .i64 rn, .slice Aw R.length cw] 41 (0, 0))) := ⟨h.alloc h.size _, blk_new _ _, Kd.S_alloc (Kd.S_lower hs h1) _, h2⟩
theorem MK_make (h : M1 w rn R Aw cw a1 bw W) (hs : Kd.S (Kd.slice 3 (Kd.int .i64)) 86 W b1 (fun j => b1 ≤ j ∧ j < W.heap.size) (.slice Ag R.length cg) G) (h1 : w.heap.size ≤ b1) : MK w rn R Aw cw a1 bw G Ag cg b1 W.heap.size (W.alloc (.cells #[.int .i64 rn, .slice Ag R.length cg] 41 (0, 0))) := by
  have h2 := M1_below h ((Below.refl _ W).alloc (Nat.le_refl _) (.cells #[.int .i64 rn, .slice Ag R.length cg] 41 (0, 0)))
  exact ⟨h2.1, h2.2.1, h2.2.2.1, blk_new _ _, Kd.S_alloc (Kd.S_lower hs h1) _⟩
end
def laws_FnExactMasterOf.f (l : List S37) : Option Bool := some true
set_option maxHeartbeats 16000000 in
set_option maxRecDepth 100000 in
theorem laws_FnExactMasterOf.walk (k : Nat) (L : List S37) (M : List S41) (hM : M = L.map pinsOf) (rn : Int) (R R' : List (List Int)) (ok : Bool) (r0 m1 m : Int) (A : Option Addr) (c : Nat) (w : World) (hr : Kd.C k37 w A L.length L) (hc : L.length ≤ c) (hl : L.length ≤ 1048576)
    (e1 : laws_szPinsS.f k L 1048576 = some r0) (h0 : 0 ≤ r0) (e2 : ∀ p ∈ L, laws_toPins.f k p.f0 p.f1 = some (p.f0, p.f1)) (e3 : spec_MasterOf.f k M = some (rn, R, ok)) (e4 : impl_MasterOf.f k M = some (rn, R, ok)) (e5 : laws_eqPins.f k rn R rn R = some true) (e6 : laws_eqPinsS.f k M M = some true) (e7 : markP k M 1 = some m1) (h7 : 0 ≤ m1) (e8 : laws_markPins.f k rn R 1 = some (m, R')) (h8 : 0 ≤ m) (e9 : laws_heldPins.f k rn R' 1 = some m) :
    Calls Try.prog 10 #[.slice A L.length c] w fun e w' => e = .returned (.bool true) ∧ Below w.heap.size w w' := by
  have hu54 := Try.underlying54
  have hu41 := Try.underlying41
  have hu35 := Try.underlying35
  have hu57 := Try.underlying57
  have hd0 : decide (r0 < 0) = false := decide_eq_false (by omega)
  have hd7 : decide (m1 < 0) = false := decide_eq_false (by omega)
  have hd8 : decide (m < 0) = false := decide_eq_false (by omega)
  have hok : (ok != ok) = false := by cases ok <;> rfl
  have hmm : (m != m) = false := by simp
  have hML : M.length = L.length := by rw [hM, List.length_map]
  have TOP := amk (show ∀ W, Below w.heap.size w W → Calls Try.prog 36 #[.slice A L.length c] W fun e w' => ∃ (g cap lo : Nat), e = .returned (.slice (some ⟨g, 0, none⟩) L.length cap) ∧ X3 w W.heap.size g lo w'.heap.size L.length cap M w' ∧ Below W.heap.size W w' from fun W hb => by
    refine Calls.mono (laws_toPinsS.calls3 k A c L W (Kd.C_below hr hb) hc hl e2) ?_
    rintro e w' ⟨g, cap, lo, he, h1, h2, h3, h4, h5, h6⟩
    exact ⟨g, cap, lo, he, ⟨hb.size, h1, h2, Nat.le_refl _, h3, h4, hM ▸ h5⟩, h6⟩)
  have SPC := amk (show ∀ W g cap, Kd.C k41 W (some ⟨g, 0, none⟩) M.length M → L.length ≤ cap → Calls Try.prog 43 #[.slice (some ⟨g, 0, none⟩) L.length cap] W fun e w' => ∃ v0_ : Value, e = .returned (.tuple #[.agg #[.int .i64 rn, v0_], .bool ok]) ∧ Kd.S (Kd.slice 3 (Kd.int .i64)) 86 w' W.heap.size (fun _ => True) v0_ R ∧ Below W.heap.size W w' from fun W g cap hC hcap => by
    have := spec_MasterOf.calls k (some ⟨g, 0, none⟩) cap M rn R ok W hC (by omega) e3
    rw [hML] at this
    exact this)
  have IMC := amk (show ∀ W g cap, Kd.C k41 W (some ⟨g, 0, none⟩) M.length M → L.length ≤ cap → Calls Try.prog 44 #[.slice (some ⟨g, 0, none⟩) L.length cap] W fun e w' => ∃ v0_ : Value, e = .returned (.tuple #[.agg #[.int .i64 rn, v0_], .bool ok]) ∧ Kd.S (Kd.slice 3 (Kd.int .i64)) 86 w' W.heap.size (fun _ => True) v0_ R ∧ Below W.heap.size W w' from fun W g cap hC hcap => by
    have := impl_MasterOf.calls k (some ⟨g, 0, none⟩) cap M rn R ok W hC (by omega) e4
    rw [hML] at this
    exact this)
  have EQC := amk (show ∀ W g cap g2 cap2, Kd.C k41 W (some ⟨g, 0, none⟩) M.length M → L.length ≤ cap → Kd.C k41 W (some ⟨g2, 0, none⟩) M.length M → L.length ≤ cap2 → Calls Try.prog 38 #[.slice (some ⟨g, 0, none⟩) L.length cap, .slice (some ⟨g2, 0, none⟩) L.length cap2] W fun e w' => e = .returned (.bool true) ∧ Below W.heap.size W w' from fun W g cap g2 cap2 hC hcap hC2 hcap2 => by
    have := laws_eqPinsS.calls k (some ⟨g, 0, none⟩) cap M (some ⟨g2, 0, none⟩) cap2 M true W hC (by omega) hC2 (by omega) e6
    rw [hML] at this
    exact this)
  have MBIG := amk (show M.length ≤ 9223372036854775807 by omega)
  have HL := amk hl
  have HML := amk hML
  have E1 := amk e1
  have E5 := amk e5
  have E7 := amk e7
  have E8 := amk e8
  have E9 := amk e9
  have HC := amk hc
  have HR := amk hr
  clear e1 e2 e3 e4 e5 e6 e7 e8 e9 hc hr h0 h7 h8 hML hM hl
  go_enter Try.func10, Try.ntmps10
  go_wp2_with (go_at_call 34; refine Calls.mono (laws_szPinsS.calls k _ _ L _ r0 _ HR.out HC.out E1.out) ?_; rintro e w2 ⟨rfl, hb⟩; have B2 := amk hb; clear hb)
  go_wp2_with (go_at_call 36; refine Calls.mono (TOP.out _ B2.out) ?_; rintro e w3 ⟨g3, c3, l3, rfl, hx, hb⟩; have X3a := amk hx; have B3 := amk (B2.out.trans (hb.mono B2.out.size)); clear hx hb)
  go_wp2_with (go_at_call 43; refine Calls.mono (SPC.out _ _ _ (P3L_C X3a.out.2.2.2.2.2.2 MBIG.out) X3a.out.2.2.2.2.1) ?_; rintro e w4 ⟨v4, rfl, hs, hb⟩; obtain ⟨A4, c4, rfl⟩ := Kd.S_slice hs; have M4 := amk (M1_make (rn := rn) (B3.out.trans (hb.mono B3.out.size)) (S_ivC hs) B3.out.size hb.size); have Z4 := amk hb.size; have hw0 := (two_cells M4.out.2.1).1; have hw1 := (two_cells M4.out.2.1).2.1; clear hs hb)
  go_wp2_with (go_at_call 36; refine Calls.mono (TOP.out _ M4.out.1) ?_; rintro e w5 ⟨g5, c5, l5, rfl, hx, hb⟩; have X5 := amk hx; have M5 := amk (M1_below M4.out hb); have Z5 := amk hb.size; clear hw0 hw1; have hw0 := (two_cells M5.out.2.1).1; have hw1 := (two_cells M5.out.2.1).2.1; clear hx hb)
  go_wp2_with (go_at_call 44; refine Calls.mono (IMC.out _ _ _ (P3L_C X5.out.2.2.2.2.2.2 MBIG.out) X5.out.2.2.2.2.1) ?_; rintro e w6 ⟨v6, rfl, hs, hb⟩; obtain ⟨A6, c6, rfl⟩ := Kd.S_slice hs; have K6 := amk (MK_make (M1_below M5.out hb) (S_ivC hs) M5.out.1.size); have Z6 := amk hb.size; have X6 := amk (X3_below X5.out (hb.alloc hb.size (.cells #[.int .i64 rn, .slice A6 R.length c6] 41 (0, 0)))); clear hw0 hw1; have hw0 := (two_cells K6.out.2.1).1; have hw1 := (two_cells K6.out.2.1).2.1; have hg0 := (two_cells K6.out.2.2.2.1).1; have hg1 := (two_cells K6.out.2.2.2.1).2.1; clear hs hb)
  go_wp2_with (go_at_call 24; refine Calls.mono (laws_eqPins.calls k rn _ _ R rn _ _ R true _ (Kd.S_reads' K6.out.2.2.2.2).2.2 (Kd.S_reads' K6.out.2.2.2.2).2.1 (Kd.S_reads' K6.out.2.2.1).2.2 (Kd.S_reads' K6.out.2.2.1).2.1 E5.out) ?_; rintro e w7 ⟨rfl, hb⟩; have K7 := amk (MK_below K6.out hb); have X7 := amk (X3_below X6.out hb); clear hw0 hw1 hg0 hg1; have hw0 := (two_cells K7.out.2.1).1; have hw1 := (two_cells K7.out.2.1).2.1; have hg0 := (two_cells K7.out.2.2.2.1).1; have hg1 := (two_cells K7.out.2.2.2.1).2.1; clear hb)
  go_wp2_with (go_at_call 36; refine Calls.mono (TOP.out _ K7.out.1) ?_; rintro e w8 ⟨g8, c8, l8, rfl, hx, hb⟩; have X8b := amk hx; have K8 := amk (MK_below K7.out hb); have X8 := amk (X3_below X7.out hb); clear hw0 hw1 hg0 hg1; have hw0 := (two_cells K8.out.2.1).1; have hw1 := (two_cells K8.out.2.1).2.1; have hg0 := (two_cells K8.out.2.2.2.1).1; have hg1 := (two_cells K8.out.2.2.2.1).2.1; clear hx hb)
  go_wp2_with (go_at_call 38; refine Calls.mono (EQC.out _ _ _ _ _ (P3L_C X8.out.2.2.2.2.2.2 MBIG.out) X8.out.2.2.2.2.1 (P3L_C X8b.out.2.2.2.2.2.2 MBIG.out) X8b.out.2.2.2.2.1) ?_; rintro e w9 ⟨rfl, hb⟩; have K9 := amk (MK_below K8.out hb); have X9 := amk (X3_below X8.out hb); clear hw0 hw1 hg0 hg1; have hw0 := (two_cells K9.out.2.1).1; have hw1 := (two_cells K9.out.2.1).2.1; have hg0 := (two_cells K9.out.2.2.2.1).1; have hg1 := (two_cells K9.out.2.2.2.1).2.1; clear hb)
  go_wp2_with (go_at_call 45; refine Calls.mono (laws_markPinsS.calls3 k g5 L.length c5 _ l5 _ M 1 m1 w _ K9.out.1 X9.out.1 (Nat.le_trans X9.out.1 X9.out.2.1) X9.out.2.2.1 X9.out.2.2.2.1 HML.out HL.out X9.out.2.2.2.2.2.1 X9.out.2.2.2.2.2.2 E7.out) ?_; rintro e w10 ⟨rfl, hb, hk⟩; have K10 := amk (MK_markX K9.out hb hk (fun j h1 h2 => by have := X9.out.2.1; have := X9.out.2.2.1; simp at this ⊢; simp at *; omega) (fun j h1 h2 => by have := X9.out.2.2.1; have := P3L_le _ _ _ _ X9.out.2.2.2.2.2.2; omega) Z4.out Z6.out); clear hw0 hw1 hg0 hg1; have hw0 := (two_cells K10.out.2.1).1; have hw1 := (two_cells K10.out.2.1).2.1; have hg0 := (two_cells K10.out.2.2.2.1).1; have hg1 := (two_cells K10.out.2.2.2.1).2.1; clear hb hk)
  go_wp2_with (go_at_call 24; refine Calls.mono (laws_eqPins.calls k rn _ _ R rn _ _ R true _ (Kd.S_reads' K10.out.2.2.2.2).2.2 (Kd.S_reads' K10.out.2.2.2.2).2.1 (Kd.S_reads' K10.out.2.2.1).2.2 (Kd.S_reads' K10.out.2.2.1).2.1 E5.out) ?_; rintro e w11 ⟨rfl, hb⟩; have K11 := amk (MK_below K10.out hb); clear hw0 hw1 hg0 hg1; have hw0 := (two_cells K11.out.2.1).1; have hw1 := (two_cells K11.out.2.1).2.1; have hg0 := (two_cells K11.out.2.2.2.1).1; have hg1 := (two_cells K11.out.2.2.2.1).2.1; clear hb)
  go_wp2_with (go_at_call 27; refine Calls.mono (laws_markPins.calls k (fun j => w5.heap.size ≤ j ∧ j < w6.heap.size) rn _ _ _ R 1 m R' w _ K11.out.1 (fun j hj => by have := (two_cells K11.out.2.2.2.1).2.2.2.2; omega) K11.out.2.2.2.2 E8.out) ?_; rintro e w12 ⟨rfl, hs, hb, hk⟩; have K12 := amk (MK_markG K11.out (by have := Z5.out; simp at this; omega) hb hk hs); clear hw0 hw1 hg0 hg1; have hw0 := (two_cells K12.out.2.1).1; have hw1 := (two_cells K12.out.2.1).2.1; have hg0 := (two_cells K12.out.2.2.2.1).1; have hg1 := (two_cells K12.out.2.2.2.1).2.1; clear hs hb hk)
  have hlen : R'.length = R.length := (Kd.S_reads' K12.out.2.2.2.2).1.symm
  have HHA := amk (show ∀ W, Kd.C (Kd.slice 3 (Kd.int .i64)) W A6 R'.length R' → Calls Try.prog 28 #[.agg #[.int .i64 rn, .slice A6 R.length c6], .int .i64 1] W fun e w' => e = .returned (.int .i64 m) ∧ Below W.heap.size W w' from fun W hC => by
    have := laws_heldPins.calls k rn A6 c6 R' 1 m W hC (by have := (Kd.S_reads' K12.out.2.2.2.2).2.1; omega) E9.out
    rw [hlen] at this
    exact this)
  clear hlen
  go_wp2_with (go_at_call 28; refine Calls.mono (HHA.out _ (Kd.S_reads' K12.out.2.2.2.2).2.2) ?_; rintro e w13 ⟨rfl, hb⟩; have K13 := amk (MK_below K12.out hb); clear hw0 hw1 hg0 hg1; have hw0 := (two_cells K13.out.2.1).1; have hw1 := (two_cells K13.out.2.1).2.1; have hg0 := (two_cells K13.out.2.2.2.1).1; have hg1 := (two_cells K13.out.2.2.2.1).2.1; clear hb)
  go_wp2_with (go_at_call 36; refine Calls.mono (TOP.out _ K13.out.1) ?_; rintro e w14 ⟨g14, c14, l14, rfl, hx, hb⟩; have X14 := amk hx; have K14 := amk (MK_below K13.out hb); clear hw0 hw1 hg0 hg1; have hw0 := (two_cells K14.out.2.1).1; have hw1 := (two_cells K14.out.2.1).2.1; have hg0 := (two_cells K14.out.2.2.2.1).1; have hg1 := (two_cells K14.out.2.2.2.1).2.1; clear hx hb)
  go_wp2_with (go_at_call 44; refine Calls.mono (IMC.out _ _ _ (P3L_C X14.out.2.2.2.2.2.2 MBIG.out) X14.out.2.2.2.2.1) ?_; rintro e w15 ⟨v15, rfl, hs, hb⟩; obtain ⟨A15, c15, rfl⟩ := Kd.S_slice hs; have S15 := amk (Kd.S_alloc hs (.cells #[.int .i64 rn, .slice A15 R.length c15] 41 (0, 0))); have K15 := amk (MK_below (MK_below K14.out hb) ((Below.refl _ w15).alloc (Nat.le_refl _) (.cells #[.int .i64 rn, .slice A15 R.length c15] 41 (0, 0)))); clear hw0 hw1 hg0 hg1; have hw0 := (two_cells K15.out.2.1).1; have hw1 := (two_cells K15.out.2.1).2.1; have hg0 := (two_cells K15.out.2.2.2.1).1; have hg1 := (two_cells K15.out.2.2.2.1).2.1; clear hs hb)
  go_wp2_with (go_at_call 24; refine Calls.mono (laws_eqPins.calls k rn _ _ R rn _ _ R true _ (Kd.S_reads' S15.out).2.2 (Kd.S_reads' S15.out).2.1 (Kd.S_reads' K15.out.2.2.1).2.2 (Kd.S_reads' K15.out.2.2.1).2.1 E5.out) ?_; rintro e w16 ⟨rfl, hb⟩; have K16 := amk (MK_below K15.out hb); clear hw0 hw1 hg0 hg1; have hw0 := (two_cells K16.out.2.1).1; have hw1 := (two_cells K16.out.2.1).2.1; have hg0 := (two_cells K16.out.2.2.2.1).1; have hg1 := (two_cells K16.out.2.2.2.1).2.1; clear hb)
  go_wp2_with (go_at_call 28; refine Calls.mono (HHA.out _ (Kd.S_reads' K16.out.2.2.2.2).2.2) ?_; rintro e w17 ⟨rfl, hb⟩; have K17 := amk (MK_below K16.out hb); clear hw0 hw1 hg0 hg1; have hw0 := (two_cells K17.out.2.1).1; have hw1 := (two_cells K17.out.2.1).2.1; have hg0 := (two_cells K17.out.2.2.2.1).1; have hg1 := (two_cells K17.out.2.2.2.1).2.1; clear hb)
  go_ret
  exact ⟨rfl, K17.out.1⟩
/-! Joined pins, over lists alone. -/
def rngFrom (s m : Nat) : List Int := (List.range' s m).map fun (d : Nat) => (d : Int)
theorem rngFrom_zero (s : Nat) : rngFrom s 0 = [] := rfl
theorem rngFrom_len (s m : Nat) : (rngFrom s m).length = m := by unfold rngFrom; simp
theorem filter_len_le {α : Type} (p : α → Bool) (l : List α) : (l.filter p).length ≤ l.length := List.length_filter_le p l
/-- A depth of both rows, or of one. -/
def joinT (b : Bool) (r s : List Int) (d : Int) : Bool := (r.contains d && s.contains d) || (!b && (r.contains d || s.contains d))
def joinRows (b : Bool) (n : Nat) (x y : List (List Int)) : List (List Int) := (List.range' 0 x.length).map fun i => (rngFrom 0 n).filter (joinT b (x.getD i []) (y.getD i []))
def rowsOf (n m : Nat) (f : Nat → Int → Bool) : List (List Int) := (List.range' 0 m).map fun i => (rngFrom 0 n).filter (f i)
theorem rowsOf_len (n m : Nat) (f : Nat → Int → Bool) : (rowsOf n m f).length = m := by unfold rowsOf; simp
theorem rowsOf_get (n m : Nat) (f : Nat → Int → Bool) (i : Nat) (hi : i < m) : (rowsOf n m f).getD i [] = (rngFrom 0 n).filter (f i) := by
  unfold rowsOf
  simp [List.getD, hi]
theorem rowsOf_congr {n m : Nat} {f g : Nat → Int → Bool} (h : ∀ i < m, ∀ d ∈ rngFrom 0 n, f i d = g i d) : rowsOf n m f = rowsOf n m g := by
  unfold rowsOf
  apply List.map_congr_left
  intro i hi
  rw [List.mem_range'_1] at hi
  exact List.filter_congr (fun d hd => h i (by omega) d hd)
theorem contains_filter {f : Int → Bool} {n : Nat} {d : Int} (hd : d ∈ rngFrom 0 n) : ((rngFrom 0 n).filter f).contains d = f d := by
  rw [Bool.eq_iff_iff, List.contains_iff_mem, List.mem_filter]
  exact ⟨fun h => h.2, fun h => ⟨hd, h⟩⟩
theorem joinRows_is (b : Bool) (n : Nat) (x y : List (List Int)) : joinRows b n x y = rowsOf n x.length fun i => joinT b (x.getD i []) (y.getD i []) := rfl
/-- Whether a depth is in all of a list's pins at a place, or in one of them. -/
def inB (b : Bool) (l : List S41) (i : Nat) (d : Int) : Bool := if b then l.all fun p => (p.f1.getD i []).contains d else l.any fun p => (p.f1.getD i []).contains d
theorem inB_snoc (b : Bool) (q : S41) (l : List S41) (i : Nat) (d : Int) : inB b (l ++ [q]) i d = if b then inB b l i d && (q.f1.getD i []).contains d else inB b l i d || (q.f1.getD i []).contains d := by
  cases b <;> simp [inB]
theorem joinT_in (b : Bool) (r s : List Int) (d : Int) : joinT b r s d = if b then r.contains d && s.contains d else r.contains d || s.contains d := by
  unfold joinT
  cases b <;> cases r.contains d <;> cases s.contains d <;> rfl
/-- Joining on, behind what was joined before. -/
theorem joinRows_step (b : Bool) (n m : Nat) (P : List S41) (q : S41) : joinRows b n (rowsOf n m (inB b P)) q.f1 = rowsOf n m (inB b (P ++ [q])) := by
  rw [joinRows_is, rowsOf_len]
  apply rowsOf_congr
  intro i hi d hd
  rw [rowsOf_get n m _ i hi, joinT_in, contains_filter hd, inB_snoc]
theorem joinRows_first (b : Bool) (n : Nat) (q : S41) : joinRows b n q.f1 q.f1 = rowsOf n q.f1.length (inB b [q]) := by
  rw [joinRows_is]
  apply rowsOf_congr
  intro i hi d hd
  rw [joinT_in]
  cases b <;> simp [inB]
theorem inB_count_any (l : List S41) (i : Nat) (d : Int) : decide (1 ≤ l.countP fun p => (p.f1.getD i []).contains d) = inB false l i d := by
  unfold inB
  rw [if_neg (by simp), Bool.eq_iff_iff, decide_eq_true_eq, List.any_eq_true]
  rw [show (1 ≤ l.countP fun p => (p.f1.getD i []).contains d) ↔ 0 < l.countP (fun p => (p.f1.getD i []).contains d) from Iff.rfl, List.countP_pos_iff]
section
/-! What a readable argument holds, told by kinds: the bridge from a statement's reading to the print's words. -/
open Go.WideShapes in
def Opens {α : Type} (P : Program) (t : TypeId) (d : Kd α) (V : α → Prop) : Prop :=
  ∀ (H : Type) (enc : TypeId × Value → H) (w : World) (base : Nat) (spare : Nat → Bool) (held : Bool) (fuel : Nat) (cs : List Value) (x : DataW H × List MemPlace),
    DataW.trod enc P w base spare held fuel t cs = some x → ∃ a : α, d.K w a cs ∧ V a
def IntV (a : Int) : Prop := -9223372036854775808 ≤ a ∧ a ≤ 9223372036854775807
def ListV {α : Type} (V : α → Prop) (l : List α) : Prop := l.length ≤ 9223372036854775807 ∧ ∀ x ∈ l, V x
theorem opens_int {P : Program} {t : TypeId} (ht : P.underlying t = some (.int .i64)) : Opens P t (Kd.int .i64) IntV := by
  intro H enc w base spare held fuel cs x h
  obtain ⟨n, rfl, _, hw⟩ := DataW.trod_int ht h
  refine ⟨n, rfl, ?_⟩
  have hb : (IntKind.i64.min ≤ n ∧ n ≤ IntKind.i64.max) := by simpa [Lit.wf] using hw
  have e1 : IntKind.i64.min = -9223372036854775808 := rfl
  have e2 : IntKind.i64.max = 9223372036854775807 := rfl
  rw [e1, e2] at hb
  unfold IntV
  omega
theorem cells_list {w : World} {base : Nat} {a : Addr} {n : Nat} {cs : List Value} (h : w.cells? base a n = some cs) : cs.length = n ∧ ∀ i u, cs[i]? = some u → w.cell? (a.add i) = some u := by
  unfold World.cells? at h
  split at h
  · have hl := mapM_some_length h
    refine ⟨by simpa using hl, fun i u hu => ?_⟩
    have hi : i < n := by
      have := (List.getElem?_eq_some_iff.1 hu).1
      rw [hl] at this; simpa using this
    have := mapM_some_get h i i (by simp [hi])
    rw [hu] at this
    exact this
  · cases h
theorem opens_slice {α : Type} {P : Program} {t e : TypeId} {d : Kd α} {V : α → Prop} (ht : P.underlying t = some (.slice e)) (hd : Opens P e d V) (hsz : P.cellsOf e = d.sz) : Opens P t (Kd.slice e d) (ListV V) := by
  intro H enc w base spare held fuel cs x h
  rcases Go.Deep.open_slice ht h with ⟨rfl, _⟩ | ⟨a, len, cap, m, n, D, Pl, rfl, _, hl, hm, hmm, _, hel⟩
  · exact ⟨[], ⟨none, 0, rfl, Nat.le_refl _, ⟨rfl, by simp, fun h0 => absurd h0 (by simp)⟩⟩, ⟨by simp, fun x hx => by simp at hx⟩⟩
  · have hle : len ≤ m := by rw [hmm]; split <;> omega
    have each : ∀ i : Nat, ∃ a' : Option α, i < len → ∃ z cs', a' = some z ∧ V z ∧ d.K w z cs' ∧ ∀ j u, cs'[j]? = some u → w.cell? (a.add (i * d.sz + j)) = some u := by
      intro i
      by_cases hi : i < len
      · obtain ⟨cs', h1, h2⟩ := hel i (by omega)
        obtain ⟨z, hK, hV⟩ := hd H enc w base spare held n cs' _ h2
        refine ⟨some z, fun _ => ⟨z, cs', rfl, hV, hK, fun j u hu => ?_⟩⟩
        obtain ⟨_, hc⟩ := cells_list h1
        have := hc j u hu
        rw [Go.Deep.add_add, hsz] at this
        exact this
      · exact ⟨none, fun h0 => absurd h0 hi⟩
    have ⟨f, hf⟩ := Classical.axiomOfChoice each
    have hz : ∀ i, i < len → ∃ z, f i = some z ∧ V z ∧ ∃ cs', d.K w z cs' ∧ ∀ j u, cs'[j]? = some u → w.cell? (a.add (i * d.sz + j)) = some u := by
      intro i hi
      obtain ⟨z, cs', h1, h2, h3, h4⟩ := hf i hi
      exact ⟨z, h1, h2, cs', h3, h4⟩
    have hlist : ∃ l : List α, l.length = len ∧ ∀ i, i < len → f i = l[i]? := by
      clear hf each hel hmm hle
      have : ∀ n, n ≤ len → ∃ l : List α, l.length = n ∧ ∀ i, i < n → f i = l[i]? := by
        intro n
        induction n with
        | zero => intro _; exact ⟨[], rfl, fun i hi => by omega⟩
        | succ n ih =>
          intro hn
          obtain ⟨l, hl1, hl2⟩ := ih (by omega)
          obtain ⟨z, h1, _⟩ := hz n (by omega)
          refine ⟨l ++ [z], by simp [hl1], fun i hi => ?_⟩
          by_cases e : i < n
          · rw [List.getElem?_append_left (by omega)]; exact hl2 i e
          · obtain rfl : i = n := by omega
            rw [h1, ← hl1]; simp
      exact this len (Nat.le_refl _)
    obtain ⟨l, hlen, hget⟩ := hlist
    have hV : ∀ x ∈ l, V x := by
      intro x hx
      obtain ⟨i, hi, rfl⟩ := List.getElem_of_mem hx
      obtain ⟨z, h1, h2, _⟩ := hz i (by omega)
      have h3 := hget i (by omega)
      rw [h1, List.getElem?_eq_getElem hi] at h3
      injection h3 with h3
      rw [← h3]; exact h2
    unfold maxLen at hm
    subst hlen
    refine ⟨l, ⟨some a, cap, rfl, hl, ⟨rfl, by omega, fun _ => ⟨a, rfl, fun j p hp => ?_⟩⟩⟩, ⟨by omega, hV⟩⟩
    have hj : j < l.length := (List.getElem?_eq_some_iff.1 hp).1
    obtain ⟨z, h1, _, cs', h3, h4⟩ := hz j hj
    have h5 := hget j hj
    rw [h1, hp] at h5
    injection h5 with h5
    subst h5
    exact ⟨cs', d.K_len h3, h3, h4⟩
theorem opens_pair {α β : Type} {P : Program} {t : TypeId} {f0 f1 : Field} {d0 : Kd α} {d1 : Kd β} {V0 : α → Prop} {V1 : β → Prop} (ht : P.underlying t = some (.struct #[f0, f1]))
    (h0 : Opens P f0.type d0 V0) (h1 : Opens P f1.type d1 V1) (o0 : f0.offset = 0) (o1 : f1.offset = d0.sz) (z0 : P.cellsOf f0.type = d0.sz) (z1 : P.cellsOf f1.type = d1.sz) (zt : P.cellsOf t = d0.sz + d1.sz) :
    Opens P t (Kd.pair d0 d1) (fun x => V0 x.1 ∧ V1 x.2) := by
  intro H enc w base spare held fuel cs x h
  obtain ⟨y0, y1, n, _, hl, g0, g1⟩ := ChangeShapes.trod_struct2 ht h
  rw [o0, z0, List.drop_zero] at g0
  rw [o1, z1] at g1
  obtain ⟨a, ka, va⟩ := h0 H enc w base spare held n _ _ g0
  obtain ⟨b, kb, vb⟩ := h1 H enc w base spare held n _ _ g1
  refine ⟨(a, b), ⟨_, _, ?_, ka, kb⟩, va, vb⟩
  rw [List.take_of_length_le (l := cs.drop d0.sz) (by rw [List.length_drop, hl, zt]; omega), List.take_append_drop]
theorem opens_iso {α β : Type} {P : Program} {t : TypeId} {d : Kd α} {V : α → Prop} (h : Opens P t d V) (f : β → α) (g : α → β) (e : ∀ a, f (g a) = a) : Opens P t (Kd.iso d f) (fun x => V (f x)) := by
  intro H enc w base spare held fuel cs x hx
  obtain ⟨a, ka, va⟩ := h H enc w base spare held fuel cs x hx
  exact ⟨g a, by show d.K w (f (g a)) cs; rw [e]; exact ka, by show V (f (g a)); rw [e]; exact va⟩
section
variable {H : Type} {enc : TypeId × Value → H} {P : Program} {w : World} {base : Nat} {spare : Nat → Bool} {held : Bool} {r : Reach} {b0 : Nat} {t : TypeId} {v : Value} {x : DataW H} {p : List MemPlace}
theorem arg_slice {α : Type} {d : Kd α} {e : TypeId} {V : List α → Prop} (ho : Opens P t (Kd.slice e d) V) (ht : P.underlying t = some (.slice e)) (hv : Value.okWide P w r b0 t v) (h : DataW.Trod enc P w base spare held t v x p) :
    ∃ A l c, v = .slice A (List.length l) c ∧ l.length ≤ c ∧ d.C w A l.length l ∧ V l := by
  obtain ⟨a, len, cap, rfl⟩ := WideShapes.okWide_slice ht hv
  obtain ⟨fuel, hf⟩ := h
  obtain ⟨l, ⟨A, c, hc, hl, hC⟩, hV⟩ := ho H enc w base spare held fuel _ _ hf
  simp only [Value.cells, List.cons.injEq, and_true] at hc
  injection hc with e1 e2 e3
  subst e1 e2 e3
  exact ⟨_, l, _, rfl, hl, hC, hV⟩
theorem arg_lt (h : DataW.Trod enc P w base spare held t v x p) : ∀ y ∈ p, y.block < w.heap.size := by
  obtain ⟨m, hm⟩ := h
  exact DataW.trod_lt m _ _ _ hm
end
end
/-! Locks: which numbers are one, how many codes there are. -/
/-! Numbers told by digits. -/
/-! The places and the digits that two codes share. -/
/-! Codes of a lock as texts, their digits, what clues tell of them. -/
/-! ### impl_IsLock: function 155 -/
/-! ### impl_power: function 186 -/
/-! ### impl_Lock_count: function 176 -/
/-! ### impl_isSmall: function 154 -/
/-! impl's functions on locks: what they come to. -/
/-! ### spec_whCount: function 175 -/
/-! ### spec_whGood: function 174 -/
/-! spec's functions on locks and clues: what they come to. -/
/-! ### impl_Lock_isText: function 177 -/
/-! ### impl_Lock_isCode: function 156 -/
/-! ### impl_has: function 122 -/
/-! ### spec_whCode: function 152 -/
/-! Which texts are codes: both sides. -/
/-! Texts compared by '<=', '>', '>=', told by '<' alone. -/
theorem less_le : ∀ x y : List UInt8, (Op.bytesLess x y || x == y) = !(Op.bytesLess y x)
  | [], [] => rfl
  | [], _ :: _ => rfl
  | _ :: _, [] => rfl
  | a :: x, b :: y => by
    have ih := less_le x y
    simp only [Op.bytesLess, List.cons_beq_cons]
    by_cases h1 : a < b
    · have h2 : ¬ b < a := fun h => absurd h1 (UInt8.lt_asymm h)
      have h3 : (b == a) = false := beq_eq_false_iff_ne.mpr (fun e => by subst e; exact UInt8.lt_irrefl _ h1)
      simp [h1, h2, h3]
    · by_cases h2 : b < a
      · have h3 : (a == b) = false := beq_eq_false_iff_ne.mpr (fun e => by subst e; exact UInt8.lt_irrefl _ h2)
        simp [h1, h2, h3]
      · have h3 : a = b := UInt8.le_antisymm (UInt8.not_lt.mp h2) (UInt8.not_lt.mp h1)
        subst h3
        simp only [h1, decide_false, Bool.false_or, BEq.rfl, Bool.true_and]
        exact ih
theorem binOp_leq_n (t : TypeId) (a b : ByteArray) : binOp .leq t (.string a) (.string b) = pure (.bool !(Op.bytesLess b.toList a.toList)) := by
  rw [← less_le]; simp [binOp, Op.stringOp]
theorem binOp_gtr_n (t : TypeId) (a b : ByteArray) : binOp .gtr t (.string a) (.string b) = pure (.bool (Op.bytesLess b.toList a.toList)) := by
  rw [show Op.bytesLess b.toList a.toList = !(Op.bytesLess a.toList b.toList || a.toList == b.toList) by rw [less_le]; simp]; simp [binOp, Op.stringOp]
theorem binOp_geq_n (t : TypeId) (a b : ByteArray) : binOp .geq t (.string a) (.string b) = pure (.bool !(Op.bytesLess a.toList b.toList)) := by simp [binOp, Op.stringOp]
section
attribute [local go_sem high] binOp_leq_n binOp_gtr_n binOp_geq_n
/-! ### impl_areDead: function 121 -/
end
/-! ### slices_Index_string_string: function 158 -/
/-! ### slices_Contains_string_string: function 125 -/
section
attribute [local go_sem high] binOp_leq_n binOp_gtr_n binOp_geq_n
/-! ### spec_deList: function 151 -/
end
/-! ### spec_l1HasS: function 153 -/
/-! Dead codes: what is asked of them. -/
theorem wr_big {c : Nat} (h : c ≤ 9223372036854775806) : wrap64 ((c : Int) + 1) = ((c + 1 : Nat) : Int) := w64 (by omega) (by omega)
/-! Marks on numbers, that they are held, lists of numbers compared. -/
theorem laws_markIntS.lev : ∀ (j : Nat) (l : List Int) (a : Int) (i : Nat), i + j = l.length → l.length ≤ 1048576 → 0 ≤ a → a + j ≤ 2000000 →
    ∃ l' : List Int, l'.length = l.length ∧ (∀ m : Nat, m < i → l'[m]? = l[m]?) ∧ Ev (fun k => laws_markIntS.l0 k l a (i : Nat)) (a + j, l') ∧ Ev (fun k => laws_heldIntS.l0 k l' a (i : Nat)) (a + j) := by
  intro j
  induction j with
  | zero =>
    intro l a i hi hn ha hb
    exact ⟨l, rfl, fun _ _ => rfl, Ev.step (fun k => rfl) (Ev.no (by omega) (Ev.id (by simp))), Ev.step (fun k => rfl) (Ev.no (by omega) (Ev.id (by simp)))⟩
  | succ j ih =>
    intro l a i hi hn ha hb
    have hlt : i < l.length := by omega
    have e1 : wrap64 (a + 1) = a + 1 := w64 (by omega) (by omega)
    have e4 : wrap64 ((i : Int) + 1) = ((i + 1 : Nat) : Int) := w64 (by omega) (by omega)
    obtain ⟨l', hl, hk, hm, hh⟩ := ih (l.set i a) (a + 1) (i + 1) (by simp; omega) (by simpa using hn) (by omega) (by omega)
    rw [List.length_set] at hl
    have hat : l'[i]? = some a := by
      rw [hk i (by omega)]
      simp [hlt]
    have hat' : rd l' (i : Nat) = a := by
      unfold rd
      simp [List.getD, hat]
    refine ⟨l', hl, fun m hmi => ?_, ?_, ?_⟩
    · rw [hk m (by omega), List.getElem?_set_ne (by omega)]
    · refine Ev.step (fun k => rfl) (Ev.yes (by omega) (Ev.yes (by omega) ?_))
      rw [e1, e4, Int.toNat_natCast]
      exact Ev.eq hm (by rw [Prod.mk.injEq]; exact ⟨by omega, rfl⟩)
    · refine Ev.step (fun k => rfl) (Ev.yes (by omega) (Ev.yes (by omega) ?_))
      rw [e1, e4]
      exact Ev.yes hat' (Ev.eq hh (by omega))
/-! Texts of digits: their sizes. -/
/-! Joined pins and counted keys: what they come to. -/
theorem spec_l1Has.lev (a : Int) (l : List Int) (hl : l.length ≤ 9223372036854775807) : ∀ (m i : Nat), i + m = l.length → Ev (fun k => spec_l1Has.l0 k a l (l.length : Int) (i : Nat)) ((l.drop i).contains a) := by
  intro m
  induction m with
  | zero =>
    intro i hi
    refine Ev.step (fun k => rfl) (Ev.no (by omega) (Ev.id ?_))
    rw [List.drop_eq_nil_of_le (by omega)]; rfl
  | succ m ih =>
    intro i hi
    have hlt : i < l.length := by omega
    refine Ev.step (fun k => rfl) (Ev.yes (by omega) (Ev.yes (by omega) (Ev.yes (by omega) ?_)))
    rw [rd_int hlt, List.drop_eq_getElem_cons hlt, List.contains_cons]
    by_cases h : l[i] = a
    · exact Ev.yes h (Ev.id (by simp [h]))
    · refine Ev.no h ?_
      rw [w64 (x := (i : Int) + 1) (by omega) (by omega), show (a == l[i]) = false from beq_eq_false_iff_ne.mpr (fun e => h e.symm), Bool.false_or]
      exact ih (i + 1) (by omega)
theorem spec_l1Has.ev (l : List Int) (a : Int) (hl : l.length ≤ 9223372036854775807) : Ev (fun k => spec_l1Has.f k l a) (l.contains a) := by
  unfold spec_l1Has.f
  have := spec_l1Has.lev a l hl l.length 0 (by omega)
  simpa using this
theorem slices_Index_int_int.lev (a : Int) (l : List Int) (hl : l.length ≤ 9223372036854775807) : ∀ (m i : Nat), i + m = l.length → ∃ r : Int, Ev (fun k => slices_Index_int_int.l0 k l a (l.length : Int) (i : Nat)) r ∧ decide (r ≥ 0) = (l.drop i).contains a := by
  intro m
  induction m with
  | zero =>
    intro i hi
    refine ⟨-1, Ev.step (fun k => rfl) (Ev.no (by omega) (Ev.now _)), ?_⟩
    rw [List.drop_eq_nil_of_le (by omega)]; rfl
  | succ m ih =>
    intro i hi
    have hlt : i < l.length := by omega
    rw [List.drop_eq_getElem_cons hlt, List.contains_cons]
    by_cases h : a = l[i]
    · refine ⟨(i : Nat), Ev.step (fun k => rfl) (Ev.yes (by omega) (Ev.yes (by omega) (Ev.yes (by omega) ?_))), ?_⟩
      · rw [rd_int hlt]; exact Ev.yes h (Ev.now _)
      · rw [show (a == l[i]) = true from beq_iff_eq.mpr h]; simp
    · obtain ⟨r, he, hr⟩ := ih (i + 1) (by omega)
      refine ⟨r, Ev.step (fun k => rfl) (Ev.yes (by omega) (Ev.yes (by omega) (Ev.yes (by omega) ?_))), ?_⟩
      · rw [rd_int hlt, w64 (x := (i : Int) + 1) (by omega) (by omega)]; exact Ev.no h he
      · rw [show (a == l[i]) = false from beq_eq_false_iff_ne.mpr h, Bool.false_or]; exact hr
theorem slices_Contains_int_int.ev (l : List Int) (a : Int) (hl : l.length ≤ 9223372036854775807) : Ev (fun k => slices_Contains_int_int.f k l a) (l.contains a) := by
  unfold slices_Contains_int_int.f slices_Index_int_int.f
  obtain ⟨r, he, hr⟩ := slices_Index_int_int.lev a l hl l.length 0 (by omega)
  refine Ev.bind he (Ev.id ?_)
  rw [hr]; simp
/-! spec.keJoin -/
theorem spec_keJoin.lev1 (b : Bool) (n : Nat) (hn : n ≤ 9) (x y : List (List Int)) (m' : Int) (i : Nat) (hi : i < x.length) (hiy : i < y.length) (hx : RowsV x) (hy : RowsV y) (R : List (List Int)) (hR : R.length ≤ 1000) (o : Int × List (List Int))
    (hgo : Ev (fun k => spec_keJoin.l0 k b x (x.length : Int) (wrap64 ((i : Int) + 1)) (n : Int) x m' y (n : Int) (R ++ [(rngFrom 0 n).filter (joinT b x[i] y[i])])) o) :
    ∀ (m d : Nat), d + m = n → Ev (fun k => spec_keJoin.l1 k b (i : Int) x[i] ((rngFrom 0 d).filter (joinT b x[i] y[i])) (d : Int) x (x.length : Int) (i : Int) (n : Int) x m' y (n : Int) R) o := by
  intro m
  induction m with
  | zero =>
    intro d hd
    obtain rfl : d = n := by omega
    refine Ev.step (fun k => rfl) (Ev.no (by omega) (Ev.yes (by omega) hgo))
  | succ m ih =>
    intro d hd
    have hx1 := hx.1
    refine Ev.step (fun k => rfl) (Ev.yes (by omega) (Ev.bind (spec_l1Has.ev _ _ (hx.2 _ (List.getElem_mem hi))) (Ev.yes (by omega) (Ev.yes (by omega) ?_))))
    rw [rd_row hiy]
    refine Ev.bind (spec_l1Has.ev _ _ (hy.2 _ (List.getElem_mem hiy))) ?_
    have hw : wrap64 ((d : Int) + 1) = ((d + 1 : Nat) : Int) := w64 (by omega) (by omega)
    have hl := filter_len_le (joinT b x[i] y[i]) (rngFrom 0 d)
    rw [rngFrom_len] at hl
    have hgo' := ih (d + 1) (by omega)
    have hs : rngFrom 0 (d + 1) = rngFrom 0 d ++ [(d : Int)] := by unfold rngFrom; rw [List.range'_concat]; simp
    rw [hs, List.filter_append] at hgo'
    rw [hw]
    cases e1 : x[i].contains (d : Int) <;> cases e2 : y[i].contains (d : Int) <;> cases b
    · rw [show List.filter (joinT false x[i] y[i]) [(d : Int)] = [] by rw [List.filter_cons]; simp only [joinT, e1, e2]; rfl, List.append_nil] at hgo'
      exact Ev.no (by simp) (Ev.no (by simp) (Ev.no (by simp) hgo'))
    · rw [show List.filter (joinT true x[i] y[i]) [(d : Int)] = [] by rw [List.filter_cons]; simp only [joinT, e1, e2]; rfl, List.append_nil] at hgo'
      exact Ev.no (by simp) (Ev.yes rfl hgo')
    · rw [show List.filter (joinT false x[i] y[i]) [(d : Int)] = [(d : Int)] by rw [List.filter_cons]; simp only [joinT, e1, e2]; rfl] at hgo'
      exact Ev.no (by simp) (Ev.no (by simp) (Ev.yes rfl (Ev.yes (by omega) hgo')))
    · rw [show List.filter (joinT true x[i] y[i]) [(d : Int)] = [] by rw [List.filter_cons]; simp only [joinT, e1, e2]; rfl, List.append_nil] at hgo'
      exact Ev.no (by simp) (Ev.yes rfl hgo')
    · rw [show List.filter (joinT false x[i] y[i]) [(d : Int)] = [(d : Int)] by rw [List.filter_cons]; simp only [joinT, e1, e2]; rfl] at hgo'
      exact Ev.yes rfl (Ev.no (by simp) (Ev.no (by simp) (Ev.yes (by omega) hgo')))
    · rw [show List.filter (joinT true x[i] y[i]) [(d : Int)] = [] by rw [List.filter_cons]; simp only [joinT, e1, e2]; rfl, List.append_nil] at hgo'
      exact Ev.yes rfl (Ev.no (by simp) (Ev.yes rfl hgo'))
    · rw [show List.filter (joinT false x[i] y[i]) [(d : Int)] = [(d : Int)] by rw [List.filter_cons]; simp only [joinT, e1, e2]; rfl] at hgo'
      exact Ev.yes rfl (Ev.yes rfl (Ev.yes (by omega) hgo'))
    · rw [show List.filter (joinT true x[i] y[i]) [(d : Int)] = [(d : Int)] by rw [List.filter_cons]; simp only [joinT, e1, e2]; rfl] at hgo'
      exact Ev.yes rfl (Ev.yes rfl (Ev.yes (by omega) hgo'))
theorem spec_keJoin.lev0 (b : Bool) (n : Nat) (hn : n ≤ 9) (x y : List (List Int)) (m' : Int) (hxy : x.length ≤ y.length) (hx9 : x.length ≤ 1000) (hx : RowsV x) (hy : RowsV y) :
    ∀ (m i : Nat), i + m = x.length → Ev (fun k => spec_keJoin.l0 k b x (x.length : Int) (i : Int) (n : Int) x m' y (n : Int) ((List.range' 0 i).map fun j => (rngFrom 0 n).filter (joinT b (x.getD j []) (y.getD j [])))) ((n : Int), joinRows b n x y) := by
  intro m
  induction m with
  | zero =>
    intro i hi
    obtain rfl : i = x.length := by omega
    exact Ev.step (fun k => rfl) (Ev.no (by omega) (Ev.now _))
  | succ m ih =>
    intro i hi
    have hlt : i < x.length := by omega
    have hly : i < y.length := by omega
    refine Ev.step (fun k => rfl) (Ev.yes (by omega) (Ev.yes (by omega) (Ev.yes (by omega) ?_)))
    rw [rd_row hlt]
    have h0 : ([] : List Int) = (rngFrom 0 0).filter (joinT b x[i] y[i]) := rfl
    rw [h0]
    refine spec_keJoin.lev1 b n hn x y m' i hlt hly hx hy _ (by simp; omega) _ ?_ n 0 (by omega)
    have hgo := ih (i + 1) (by omega)
    rw [List.range'_concat, List.map_append, List.map_cons, List.map_nil, Nat.zero_add, Nat.one_mul, show x.getD i [] = x[i] from getD_at hlt, show y.getD i [] = y[i] from getD_at hly] at hgo
    rw [w64 (x := (i : Int) + 1) (by omega) (by omega)]
    exact hgo
theorem spec_keJoin.ev (b : Bool) (n : Nat) (hn : n ≤ 9) (x y : List (List Int)) (m' : Int) (hxy : x.length ≤ y.length) (hx9 : x.length ≤ 1000) (hx : RowsV x) (hy : RowsV y) : Ev (fun k => spec_keJoin.f k (n : Int) x m' y b) ((n : Int), joinRows b n x y) := by
  unfold spec_keJoin.f
  exact spec_keJoin.lev0 b n hn x y m' hxy hx9 hx hy x.length 0 (by omega)
theorem rowsOf_v (n m : Nat) (hn : n ≤ 1000) (hm : m ≤ 1000) (f : Nat → Int → Bool) : RowsV (rowsOf n m f) := by
  refine ⟨by rw [rowsOf_len]; omega, fun r hr => ?_⟩
  unfold rowsOf at hr
  obtain ⟨i, _, rfl⟩ := List.mem_map.mp hr
  have := filter_len_le (f i) (rngFrom 0 n)
  rw [rngFrom_len] at this
  omega
/-- Pins of one kind: n depths, m places. -/
def KindL (n m : Nat) (l : List S41) : Prop := n ≤ 9 ∧ m ≤ 7 ∧ ∀ p ∈ l, p.f0 = (n : Int) ∧ p.f1.length = m ∧ RowsV p.f1
theorem keStep_lev (b : Bool) (n m : Nat) : ∀ (l : List S41) (P : List S41), KindL n m l → Ev (fun k => keStep k b (n : Int) (rowsOf n m (inB b P)) l) ((n : Int), rowsOf n m (inB b (P ++ l))) := by
  intro l
  induction l with
  | nil => intro P h; rw [List.append_nil]; exact Ev.now _
  | cons p t ih =>
    intro P h
    obtain ⟨hn, hm, hp⟩ := h
    obtain ⟨h0, h1, h2⟩ := hp p List.mem_cons_self
    have hj := spec_keJoin.ev b n hn (rowsOf n m (inB b P)) p.f1 p.f0 (by rw [rowsOf_len]; omega) (by rw [rowsOf_len]; omega) (rowsOf_v n m (by omega) (by omega) _) h2
    rw [joinRows_step] at hj
    have hgo := ih (P ++ [p]) ⟨hn, hm, fun q hq => hp q (List.mem_cons_of_mem _ hq)⟩
    rw [List.append_assoc] at hgo
    exact Ev.bind hj hgo
theorem spec_keJoined.ev (b : Bool) (n m : Nat) (l : List S41) (hne : 0 < l.length) (h : KindL n m l) : Ev (fun k => spec_keJoined.f k l b) ((n : Int), rowsOf n m (inB b l)) := by
  unfold spec_keJoined.f
  refine Ev.no (by omega) ?_
  cases l with
  | nil => simp at hne
  | cons q t =>
    obtain ⟨hn, hm, hp⟩ := h
    obtain ⟨h0, h1, h2⟩ := hp q List.mem_cons_self
    have hq : rd_T41 (q :: t) 0 = q := rfl
    rw [hq, h0]
    have hj := spec_keJoin.ev b n hn q.f1 q.f1 q.f0 (Nat.le_refl _) (by omega) h2 h2
    rw [joinRows_first, h1] at hj
    have hgo := keStep_lev b n m t [q] ⟨hn, hm, fun p hq => hp p (List.mem_cons_of_mem _ hq)⟩
    exact Ev.bind hj hgo
/-! impl.joined -/
def cntP (l : List S41) (i : Nat) (d : Int) : Nat := l.countP fun p => (p.f1.getD i []).contains d
theorem wr_succ {c : Nat} (h : c ≤ 1000) : wrap64 ((c : Int) + 1) = ((c + 1 : Nat) : Int) := w64 (by omega) (by omega)
theorem impl_joined.lev2 (l : List S41) (a : Int) (n m : Nat) (h : KindL n m l) (hl1 : l.length ≤ 1000) (i : Nat) (him : i < m) (row : List Int) (d : Nat) (mI : Int) (R : List (List Int)) (hrow : row.length ≤ 1000) (o : Int × List (List Int)) (t : Nat)
    (hgo : Ev (fun k => impl_joined.l1 k l a (i : Int) (if a ≤ (t : Int) then row ++ [(d : Int)] else row) mI (i : Int) (n : Int) (wrap64 ((d : Int) + 1)) (n : Int) R) o) :
    ∀ (q j : Nat) (c : Nat), j + q = l.length → c ≤ j → c + ((l.drop j).countP fun p => (p.f1.getD i []).contains (d : Int)) = t → Ev (fun k => impl_joined.l2 k l a (i : Int) row (d : Int) (c : Int) mI (i : Int) (n : Int) (d : Int) l (l.length : Int) (j : Int) (n : Int) R) o := by
  intro q
  induction q with
  | zero =>
    intro j c hj hc hcnt
    rw [List.drop_eq_nil_of_le (by omega)] at hcnt
    simp at hcnt
    refine Ev.step (fun k => rfl) (Ev.no (by omega) ?_)
    rw [← hcnt] at hgo
    by_cases e : a ≤ (c : Int)
    · rw [if_pos e] at hgo
      exact Ev.yes (by omega) (Ev.yes (by omega) hgo)
    · rw [if_neg e] at hgo
      exact Ev.no (by omega) hgo
  | succ q ih =>
    intro j c hj hc hcnt
    have hlt : j < l.length := by omega
    have hw := amk (wr_succ (c := j) (by omega))
    have hw2 := amk (wr_succ (c := c) (by omega))
    have u1 : j + 1 + q = l.length := by omega
    have u2 : c + 1 ≤ j + 1 := by omega
    have u3 : c ≤ j + 1 := by omega
    obtain ⟨hn, hm, hp⟩ := h
    obtain ⟨p0, p1, p2⟩ := hp l[j] (List.getElem_mem hlt)
    refine Ev.step (fun k => rfl) (Ev.yes (by omega) (Ev.yes (by omega) (Ev.yes (by omega) (Ev.yes (by omega) ?_))))
    rw [rd_pins hlt]
    refine Ev.yes (by omega) ?_
    rw [rd_row (by omega)]
    refine Ev.bind (slices_Contains_int_int.ev _ _ (p2.2 _ (List.getElem_mem _))) ?_
    rw [List.drop_eq_getElem_cons hlt, List.countP_cons, show l[j].f1.getD i [] = l[j].f1[i] from getD_at (by omega)] at hcnt
    rw [hw.out]
    have ih1 := ih (j + 1)
    clear ih
    generalize (l.drop (j + 1)).countP (fun p => (p.f1.getD i []).contains (d : Int)) = v at hcnt ih1
    cases e : l[j].f1[i].contains (d : Int) with
    | true =>
      rw [e] at hcnt
      refine Ev.yes rfl ?_
      rw [if_pos rfl] at hcnt
      rw [hw2.out]
      exact ih1 (c + 1) u1 u2 (by rw [← hcnt, Nat.add_assoc, Nat.add_comm 1 v])
    | false =>
      rw [e] at hcnt
      refine Ev.no (by simp) ?_
      rw [if_neg (by simp)] at hcnt
      exact ih1 c u1 u3 hcnt
theorem impl_joined.lev1 (l : List S41) (a : Int) (n m : Nat) (h : KindL n m l) (hl1 : l.length ≤ 1000) (i : Nat) (him : i < m) (mI : Int) (R : List (List Int)) (hR : R.length ≤ 1000) (o : Int × List (List Int))
    (hgo : Ev (fun k => impl_joined.l0 k l a mI (wrap64 ((i : Int) + 1)) (n : Int) (R ++ [(rngFrom 0 n).filter fun d => decide (a ≤ (cntP l i d : Int))])) o) :
    ∀ (q d : Nat), d + q = n → Ev (fun k => impl_joined.l1 k l a (i : Int) ((rngFrom 0 d).filter fun d => decide (a ≤ (cntP l i d : Int))) mI (i : Int) (n : Int) (d : Int) (n : Int) R) o := by
  have hn := h.1
  intro q
  induction q with
  | zero =>
    intro d hd
    obtain rfl : d = n := by omega
    exact Ev.step (fun k => rfl) (Ev.no (by omega) (Ev.yes (by omega) hgo))
  | succ q ih =>
    intro d hd
    have hl := filter_len_le (fun d => decide (a ≤ (cntP l i d : Int))) (rngFrom 0 d)
    rw [rngFrom_len] at hl
    refine Ev.step (fun k => rfl) (Ev.yes (by omega) ?_)
    refine impl_joined.lev2 l a n m h hl1 i him _ d mI R (by omega) o (cntP l i (d : Int)) ?_ l.length 0 0 (by omega) (by omega) (by rw [List.drop_zero, Nat.zero_add]; rfl)
    rw [w64 (x := (d : Int) + 1) (by omega) (by omega)]
    have hgo' := ih (d + 1) (by omega)
    have hs : rngFrom 0 (d + 1) = rngFrom 0 d ++ [(d : Int)] := by unfold rngFrom; rw [List.range'_concat]; simp
    rw [hs, List.filter_append] at hgo'
    by_cases e : a ≤ (cntP l i (d : Int) : Int)
    · rw [if_pos e]
      rw [show List.filter (fun d => decide (a ≤ (cntP l i d : Int))) [(d : Int)] = [(d : Int)] by simp [e]] at hgo'
      exact hgo'
    · rw [if_neg e]
      rw [show List.filter (fun d => decide (a ≤ (cntP l i d : Int))) [(d : Int)] = [] by simp [e], List.append_nil] at hgo'
      exact hgo'
theorem impl_joined.lev0 (l : List S41) (a : Int) (n m : Nat) (h : KindL n m l) (hl1 : l.length ≤ 1000) :
    ∀ (q i : Nat), i + q = m → Ev (fun k => impl_joined.l0 k l a (m : Int) (i : Int) (n : Int) (rowsOf n i fun i d => decide (a ≤ (cntP l i d : Int)))) ((n : Int), rowsOf n m fun i d => decide (a ≤ (cntP l i d : Int))) := by
  have hm := h.2.1
  intro q
  induction q with
  | zero =>
    intro i hi
    obtain rfl : i = m := by omega
    exact Ev.step (fun k => rfl) (Ev.no (by omega) (Ev.now _))
  | succ q ih =>
    intro i hi
    refine Ev.step (fun k => rfl) (Ev.yes (by omega) ?_)
    have hgo := ih (i + 1) (by omega)
    have hs : rowsOf n (i + 1) (fun i d => decide (a ≤ (cntP l i d : Int))) = rowsOf n i (fun i d => decide (a ≤ (cntP l i d : Int))) ++ [(rngFrom 0 n).filter fun d => decide (a ≤ (cntP l i d : Int))] := by
      unfold rowsOf
      rw [List.range'_concat, List.map_append, List.map_cons, List.map_nil, Nat.zero_add, Nat.one_mul]
    rw [hs, show ((i + 1 : Nat) : Int) = wrap64 ((i : Int) + 1) from (w64 (by omega) (by omega)).symm] at hgo
    have h1 := impl_joined.lev1 l a n m h hl1 i (by omega) (m : Int) _ (by rw [rowsOf_len]; omega) _ hgo n 0 (by omega)
    rw [rngFrom_zero, List.filter_nil] at h1
    exact h1
theorem impl_joined.ev (l : List S41) (a : Int) (n m : Nat) (hne : 0 < l.length) (h : KindL n m l) (hl1 : l.length ≤ 1000) : Ev (fun k => impl_joined.f k l a) ((n : Int), rowsOf n m fun i d => decide (a ≤ (cntP l i d : Int))) := by
  unfold impl_joined.f
  refine Ev.yes (by omega) ?_
  have hq : rd_T41 l 0 = l[0] := rd_pins hne
  obtain ⟨h0, h1, _⟩ := h.2.2 l[0] (List.getElem_mem hne)
  rw [hq, h0, h1]
  exact impl_joined.lev0 l a n m h hl1 m 0 (by omega)
theorem impl_master.ev (l : List S41) (n m : Nat) (hne : 0 < l.length) (h : KindL n m l) (hl1 : l.length ≤ 1000) : Ev (fun k => impl_joined.f k l 1) ((n : Int), rowsOf n m (inB false l)) := by
  refine Ev.eq (impl_joined.ev l 1 n m hne h hl1) ?_
  rw [Prod.mk.injEq]
  refine ⟨rfl, ?_⟩
  apply rowsOf_congr
  intro i _ d _
  rw [← inB_count_any l i d]
  unfold cntP
  congr 1
  rw [eq_iff_iff]
  omega
theorem kindB_KindL {l : List S41} (h : kindB l = true) (hv : ∀ p ∈ l, RowsV p.f1) : ∃ n m : Nat, KindL n m l ∧ 0 < l.length ∧ l.length ≤ 6 := by
  obtain ⟨⟨h1, h2⟩, h3⟩ := kindB_parts h
  obtain ⟨a1, a2, a3⟩ := pinsB_parts (h3 l[0] (List.getElem_mem h1)).1
  refine ⟨l[0].f0.toNat, l[0].f1.length, ⟨by omega, a2.2, fun p hp => ?_⟩, h1, h2⟩
  obtain ⟨_, b2, b3⟩ := h3 p hp
  have hq : rd_T41 l 0 = l[0] := rd_pins h1
  rw [hq] at b2 b3
  exact ⟨by omega, b3, hv p hp⟩
/-! spec's numbers of one digit. -/
/-! spec's pins: what they come to. -/
theorem spec_l1Rising.lev (n : Int) (hn : 1 ≤ n ∧ n ≤ 9) (l : List Int) (hl : l.length ≤ 9223372036854775807) : ∀ (m i : Nat), i + m = l.length → (-1 ≤ lastI l i) → Ev (fun k => spec_l1Rising.l0 k l 0 (n - 1) l (l.length : Int) (i : Nat)) (risF n (lastI l i) (l.drop i)) := by
  intro m
  induction m with
  | zero =>
    intro i hi _
    refine Ev.step (fun k => rfl) (Ev.no (by omega) (Ev.id ?_))
    rw [List.drop_eq_nil_of_le (by omega)]
    rfl
  | succ m ih =>
    intro i hi hq
    have hlt : i < l.length := by omega
    have hr : rd l (i : Nat) = l[i] := rd_int hlt
    refine Ev.step (fun k => rfl) (Ev.yes (by omega) (Ev.yes (by omega) (Ev.yes (by omega) (Ev.bindc (spec_l1In.bs _ _ _) ?_))))
    rw [hr, List.drop_eq_getElem_cons hlt]
    unfold risF
    have hw : wrap64 ((i : Int) + 1) = ((i + 1 : Nat) : Int) := w64 (by omega) (by omega)
    have hla : lastI l (i + 1) = l[i] := lastI_at hlt
    by_cases h1 : 0 ≤ l[i] ∧ l[i] ≤ n - 1
    · refine Ev.yes (decide_eq_true h1) ?_
      have hgo := ih (i + 1) (by omega) (by rw [hla]; omega)
      rw [hla] at hgo
      cases i with
      | zero =>
        refine Ev.no (by omega) ?_
        rw [hw]
        refine Ev.eq hgo ?_
        have h2 : decide (lastI l 0 < l[0]) = true := decide_eq_true (show (-1 : Int) < l[0] by omega)
        have h3 : decide (l[0] ≤ n - 1) = true := decide_eq_true h1.2
        rw [h2, h3]; rfl
      | succ i =>
        have hp : wrap64 (((i + 1 : Nat) : Int) - 1) = (i : Nat) := by rw [w64 (by omega) (by omega)]; omega
        have hr1 : rd l (i : Nat) = l[i] := rd_int (by omega)
        have hlb : lastI l (i + 1) = l[i] := lastI_at (by omega)
        refine Ev.yes (by omega) ?_
        rw [hp, hr1, hlb]
        refine Ev.yes (by omega) (Ev.yes (by omega) ?_)
        by_cases h2 : l[i] ≥ l[i + 1]
        · refine Ev.yes h2 (Ev.id ?_)
          rw [decide_eq_false (by omega : ¬ l[i] < l[i + 1])]; rfl
        · refine Ev.no h2 ?_
          rw [hw]
          refine Ev.eq hgo ?_
          rw [decide_eq_true (by omega : l[i] < l[i + 1]), decide_eq_true h1.2]; rfl
    · refine Ev.no (by rw [decide_eq_false h1]; simp) (Ev.id ?_)
      by_cases h2 : lastI l i < l[i]
      · have h3 : ¬ l[i] ≤ n - 1 := fun h => h1 ⟨by omega, h⟩
        rw [decide_eq_false h3]; simp
      · rw [decide_eq_false h2]; rfl
theorem spec_l1Rising.ev (n : Int) (hn : 1 ≤ n ∧ n ≤ 9) (l : List Int) (hl : l.length ≤ 9223372036854775807) : Ev (fun k => spec_l1Rising.f k l 0 (n - 1)) (risF n (-1) l) := by
  unfold spec_l1Rising.f
  exact spec_l1Rising.lev n hn l hl l.length 0 (by omega) (show (-1 : Int) ≤ -1 by omega)
theorem spec_keGood.lev (n : Int) (hn : 1 ≤ n ∧ n ≤ 9) (l : List (List Int)) (hl : RowsV l) : ∀ (m i : Nat), i + m = l.length → Ev (fun k => spec_keGood.l0 k l (l.length : Int) (i : Nat) n l) ((l.drop i).all (rowB n)) := by
  have hl1 := hl.1
  intro m
  induction m with
  | zero =>
    intro i hi
    refine Ev.step (fun k => rfl) (Ev.no (by omega) (Ev.id ?_))
    rw [List.drop_eq_nil_of_le (by omega)]; rfl
  | succ m ih =>
    intro i hi
    have hlt : i < l.length := by omega
    refine Ev.step (fun k => rfl) (Ev.yes (by omega) (Ev.yes (by omega) (Ev.yes (by omega) ?_)))
    rw [rd_row hlt, List.drop_eq_getElem_cons hlt, List.all_cons]
    have hx := hl.2 l[i] (List.getElem_mem hlt)
    have hgo := ih (i + 1) (by omega)
    generalize l[i] = x at hx ⊢
    unfold rowB
    by_cases h0 : (x.length : Int) = 0
    · refine Ev.yes h0 (Ev.id ?_)
      obtain rfl : x = [] := List.length_eq_zero_iff.mp (by omega)
      rfl
    · refine Ev.no h0 ?_
      have h1 : (!x.isEmpty) = true := by cases x <;> simp_all
      rw [w64 (x := n - 1) (by omega) (by omega), h1, Bool.true_and]
      refine Ev.bind (spec_l1Rising.ev n hn x hx) ?_
      cases risF n (-1) x with
      | false => exact Ev.no (by simp) (Ev.id rfl)
      | true =>
        refine Ev.yes rfl ?_
        rw [w64 (x := (i : Int) + 1) (by omega) (by omega), Bool.true_and]
        exact hgo
theorem spec_keGood.ev (n : Int) (l : List (List Int)) (hl : RowsV l) : Ev (fun k => spec_keGood.f k n l) (pinsB n l) := by
  unfold spec_keGood.f pinsB
  refine Ev.bindc (spec_l1In.bs _ _ _) ?_
  by_cases h1 : 1 ≤ n ∧ n ≤ 9
  · rw [decide_eq_true h1]
    refine Ev.yes rfl (Ev.bindc (spec_l1In.bs _ _ _) (Ev.step (fun k => rfl) ?_))
    simp only [spec_keGood.j0]
    by_cases h2 : 1 ≤ (l.length : Int) ∧ (l.length : Int) ≤ 7
    · rw [decide_eq_true h2]
      refine Ev.no (by simp) ?_
      have := spec_keGood.lev n h1 l hl l.length 0 (by omega)
      simpa using this
    · rw [decide_eq_false h2]
      exact Ev.yes (by simp) (Ev.id (by simp))
  · rw [decide_eq_false h1]
    refine Ev.no (by simp) (Ev.step (fun k => rfl) ?_)
    simp only [spec_keGood.j0]
    exact Ev.yes trivial (Ev.id (by simp))
theorem spec_keKind.is (n : Int) (x : List (List Int)) (m : Int) (y : List (List Int)) : spec_keKind.f n x m y = some ((n == m) && (x.length == y.length)) := by
  unfold spec_keKind.f
  by_cases h : n = m
  · rw [if_pos h, h]
    congr 1
    rw [Bool.eq_iff_iff]
    simp only [beq_iff_eq, Bool.and_eq_true, true_and]
    omega
  · rw [if_neg h]
    simp [h]
theorem spec_keList.lev (l : List S41) (hl1 : l.length ≤ 9223372036854775807) (hl : ∀ p ∈ l, RowsV p.f1) : ∀ (m i : Nat), i + m = l.length → Ev (fun k => spec_keList.l0 k l l (l.length : Int) (i : Nat)) ((l.drop i).all fun p => pinsB p.f0 p.f1 && (p.f0 == (rd_T41 l 0).f0) && (p.f1.length == (rd_T41 l 0).f1.length)) := by
  intro m
  induction m with
  | zero =>
    intro i hi
    refine Ev.step (fun k => rfl) (Ev.no (by omega) (Ev.id ?_))
    rw [List.drop_eq_nil_of_le (by omega)]; rfl
  | succ m ih =>
    intro i hi
    have hlt : i < l.length := by omega
    refine Ev.step (fun k => rfl) (Ev.yes (by omega) (Ev.yes (by omega) (Ev.yes (by omega) ?_)))
    rw [rd_pins hlt, List.drop_eq_getElem_cons hlt, List.all_cons]
    refine Ev.bind (spec_keGood.ev _ _ (hl _ (List.getElem_mem hlt))) ?_
    have hgo := ih (i + 1) (by omega)
    cases pinsB l[i].f0 l[i].f1 with
    | false => exact Ev.no (by simp) (Ev.id (by simp))
    | true =>
      refine Ev.yes rfl (Ev.yes (by omega) (Ev.bindc (spec_keKind.is _ _ _ _) ?_))
      rw [Bool.true_and]
      cases (l[i].f0 == (rd_T41 l 0).f0) && (l[i].f1.length == (rd_T41 l 0).f1.length) with
      | false => exact Ev.no (by simp) (Ev.id rfl)
      | true =>
        refine Ev.yes rfl ?_
        rw [w64 (x := (i : Int) + 1) (by omega) (by omega), Bool.true_and]
        exact hgo
theorem spec_keList.ev (l : List S41) (hl1 : l.length ≤ 9223372036854775807) (hl : ∀ p ∈ l, RowsV p.f1) : Ev (fun k => spec_keList.f k l) (kindB l) := by
  unfold spec_keList.f kindB
  refine Ev.bindc (spec_l1In.bs _ _ _) ?_
  by_cases h1 : 1 ≤ (l.length : Int) ∧ (l.length : Int) ≤ 6
  · rw [decide_eq_true h1]
    refine Ev.yes rfl ?_
    have := spec_keList.lev l hl1 hl l.length 0 (by omega)
    simpa using this
  · rw [decide_eq_false h1]
    exact Ev.no (by simp) (Ev.id (by simp))
/-! Digits of texts, texts of digits: what they come to. -/
/-! ### impl_AllKeys: function 30 -/
/-! ### spec_AllKeys: function 29 -/
/-! All keys that open: what impl (place after place) and spec (key after key) come to. -/
/-! spec -/
/-! impl -/
/-! Marks on texts, that they are held, lists of texts compared. -/
/-! laws.FnExactAllKeys, by hand: the arguments' rows are marked. -/
section
variable {w W W2 : World} {n : Int} {A : Option Addr} {c : Nat} {L Lx Lx' : List (List Int)} {bx ax : Nat} {Ax : Option Addr} {cx aw bw : Nat} {Aw : Option Addr} {cw : Nat} {V : List ByteArray} {ag bg : Nat} {Ag : Option Addr} {cg : Nat} {Vg Vg' : List ByteArray}
end
theorem opens_t3 : Opens Try.prog 3 (Kd.int .i64) IntV := opens_int Try.underlying3
theorem opens_t86 : Opens Try.prog 86 (Kd.slice 3 (Kd.int .i64)) (ListV IntV) := opens_slice Try.underlying86 opens_t3 (by kernel_rfl)
theorem opens_t35 : Opens Try.prog 35 (Kd.slice 86 (Kd.slice 3 (Kd.int .i64))) (ListV (ListV IntV)) := opens_slice Try.underlying35 opens_t86 (by kernel_rfl)
def V37 (x : S37) : Prop := IntV x.f0 ∧ (ListV (ListV IntV)) x.f1
theorem opens_t37 : Opens Try.prog 37 k37 V37 := opens_iso (opens_pair Try.underlying37 opens_t3 opens_t35 (by kernel_rfl) (by kernel_rfl) (by kernel_rfl) (by kernel_rfl) (by kernel_rfl)) (fun x : S37 => (x.f0, x.f1)) (fun p => ⟨p.1, p.2⟩) (fun _ => rfl)
theorem opens_t54 : Opens Try.prog 54 (Kd.slice 37 k37) (ListV V37) := opens_slice Try.underlying54 opens_t37 (by kernel_rfl)
/-! The law FnExactAllKeys: its calls, all told. -/
def totL (l : List (List Int)) : Nat := l.foldr (fun r n => r.length + n) 0
theorem markRows_ev : ∀ (l : List (List Int)) (a : Int), 0 ≤ a → a + (totL l : Int) ≤ 2000000 → totL l ≤ 1048576 → ∃ l', Ev (fun k => markRows k l a) (a + (totL l : Int), l') := by
  intro l
  induction l with
  | nil => intro a h0 _ _; exact ⟨[], Ev.id (by rw [Prod.mk.injEq]; exact ⟨by show a = a + 0; omega, rfl⟩)⟩
  | cons x t ih =>
    intro a h0 h1 h2
    have ht : totL (x :: t) = x.length + totL t := rfl
    rw [ht] at h1 h2 ⊢
    obtain ⟨x', _, _, hm, _⟩ := laws_markIntS.lev x.length x a 0 (by omega) (by omega) h0 (by omega)
    obtain ⟨t', ht'⟩ := ih (a + x.length) (by omega) (by omega) (by omega)
    refine ⟨x' :: t', Ev.bind hm (Ev.bind ht' (Ev.id ?_))⟩
    rw [Prod.mk.injEq]
    exact ⟨by omega, rfl⟩
theorem C_rowsV {w : World} {A : Option Addr} {l : List (List Int)} (h : Kd.C (Kd.slice 3 (Kd.int .i64)) w A l.length l) : RowsV l := by
  refine ⟨h.2.1, fun r hr => ?_⟩
  obtain ⟨i, hi, rfl⟩ := List.getElem_of_mem hr
  obtain ⟨ad, cs, e, _, hK, _⟩ := Kd.C_get h ([] : List Int) (i : Int) (by omega) (by omega)
  obtain ⟨A0, c0, _, l0, g0⟩ := hK
  rw [Int.toNat_natCast, getD_at hi] at g0
  exact g0.2.1
/-! Marks on rows of numbers: what is marked is held. -/
theorem laws_szPins.evA (n : Int) (l : List (List Int)) (hl : RowsV l) (a : Int) (h0 : 0 ≤ a) (h1 : a ≤ 1048576) : ∃ r, Ev (fun k => laws_szPins.f k n l a) r ∧ (0 ≤ r → (totL l : Int) + r ≤ a ∧ RowsM l) := by
  have hl1 := hl.1
  have hlev : ∀ (m i : Nat) (a : Int), i + m = l.length → 0 ≤ a → a ≤ 1048576 → ∃ r, r ≤ a ∧ Ev (fun k => laws_szIntSS.l0 k l a (i : Nat)) r ∧ (0 ≤ r → (totL (l.drop i) : Int) + r ≤ a) := by
    intro m
    induction m with
    | zero =>
      intro i a hi h0 h1
      refine ⟨a, Int.le_refl _, Ev.step (fun k => rfl) (Ev.no (by omega) (Ev.now _)), fun _ => ?_⟩
      rw [List.drop_eq_nil_of_le (by omega)]
      show ((0 : Nat) : Int) + a ≤ a
      omega
    | succ m ih =>
      intro i a hi h0 h1
      have hlt : i < l.length := by omega
      have hx := hl.2 l[i] (List.getElem_mem hlt)
      by_cases h : (l[i].length : Int) ≤ a
      · obtain ⟨r, hr, he, hf⟩ := ih (i + 1) (a - l[i].length) (by omega) (by omega) (by omega)
        refine ⟨r, by omega, Ev.step (fun k => rfl) (Ev.yes (by omega) (Ev.yes (by omega) ?_)), fun hr0 => ?_⟩
        · rw [rd_row hlt]
          refine Ev.bindc (laws_szIntS.is _ _ h0 h1 hx) ?_
          rw [if_pos h, w64 (x := (i : Int) + 1) (by omega) (by omega)]
          exact Ev.no (by omega) he
        · rw [List.drop_eq_getElem_cons hlt]
          have := hf hr0
          show ((l[i].length + totL (l.drop (i + 1)) : Nat) : Int) + r ≤ a
          omega
      · refine ⟨-1, by omega, Ev.step (fun k => rfl) (Ev.yes (by omega) (Ev.yes (by omega) ?_)), fun hr0 => by omega⟩
        rw [rd_row hlt]
        refine Ev.bindc (laws_szIntS.is _ _ h0 h1 hx) ?_
        rw [if_neg h]
        exact Ev.yes (by omega) (Ev.now _)
  obtain ⟨q, _, hq, hqf⟩ := laws_szPins.ev n l hl a h0 h1
  unfold laws_szPins.f laws_szIntSS.f at hq ⊢
  rw [w64 (x := a - (l.length : Int)) (by omega) (by omega)] at hq ⊢
  by_cases h : (l.length : Int) ≤ a
  · obtain ⟨r, hr, he, hf⟩ := hlev l.length 0 (a - l.length) (by omega) (by omega) (by omega)
    by_cases h2 : 0 ≤ r
    · have hx : Ev (fun k => ((if a - (l.length : Int) < 0 then some (-1) else laws_szIntSS.l0 k l (a - (l.length : Int)) 0).bind fun t => if t < 0 then some (-1) else some t)) r := Ev.bind (Ev.no (by omega) he) (Ev.no (by omega) (Ev.now _))
      have hqr : q = r := Ev.un hq hx
      refine ⟨r, hx, fun hr0 => ⟨?_, hqf (by omega)⟩⟩
      have := hf hr0
      rw [List.drop_zero] at this
      omega
    · exact ⟨-1, Ev.bind (Ev.no (by omega) he) (Ev.yes (by omega) (Ev.now _)), fun hr0 => by omega⟩
  · exact ⟨-1, Ev.bind (Ev.yes (by omega) (Ev.now _)) (Ev.yes (by omega) (Ev.now _)), fun hr0 => by omega⟩
/-- What markRows leaves is held, whatever stands ahead of it. -/
theorem markRows_held : ∀ (l : List (List Int)) (a : Int), 0 ≤ a → a + (totL l : Int) ≤ 2000000 → totL l ≤ 1048576 → l.length ≤ 1048576 → ∃ l' : List (List Int), l'.length = l.length ∧ Ev (fun k => markRows k l a) (a + (totL l : Int), l') ∧ ∀ D : List (List Int), D.length + l.length ≤ 1048576 → Ev (fun k => laws_heldIntSS.l0 k (D ++ l') a (D.length : Int)) (a + (totL l : Int)) := by
  intro l
  induction l with
  | nil =>
    intro a h0 _ _ _
    refine ⟨[], rfl, Ev.id (by rw [Prod.mk.injEq]; exact ⟨by show a = a + 0; omega, rfl⟩), fun D hD => Ev.step (fun k => rfl) (Ev.no (by simp) (Ev.id (by show a = a + 0; omega)))⟩
  | cons x t ih =>
    intro a h0 h1 h2 h3
    have ht : totL (x :: t) = x.length + totL t := rfl
    rw [ht] at h1 h2 ⊢
    rw [List.length_cons] at h3
    obtain ⟨x', hx1, _, hm, hh⟩ := laws_markIntS.lev x.length x a 0 (by omega) (by omega) h0 (by omega)
    obtain ⟨t', ht1, ht2, ht3⟩ := ih (a + x.length) (by omega) (by omega) (by omega) (by omega)
    refine ⟨x' :: t', by rw [List.length_cons, List.length_cons, ht1], Ev.bind hm (Ev.bind ht2 (Ev.id ?_)), fun D hD => ?_⟩
    · rw [Prod.mk.injEq]
      exact ⟨by omega, rfl⟩
    · have hlt : D.length < (D ++ x' :: t').length := by rw [List.length_append, List.length_cons]; omega
      have hget : (D ++ x' :: t')[D.length] = x' := by rw [List.getElem_append_right (Nat.le_refl _)]; simp
      rw [List.length_cons] at hD
      have hw := amk (wr_big (c := D.length) (by omega))
      have hgo := ht3 (D ++ [x']) (by rw [List.length_append, List.length_singleton]; omega)
      rw [List.append_assoc, List.length_append, List.length_singleton] at hgo
      refine Ev.step (fun k => rfl) (Ev.yes (by omega) (Ev.yes (by omega) ?_))
      rw [rd_row hlt, hget, hw.out]
      refine Ev.bind (a := a + x.length) hh (Ev.no (by omega) ?_)
      exact Ev.eq hgo (by omega)
theorem laws_markPins.evH (n : Int) (l : List (List Int)) (h2 : totL l ≤ 1048576) (h3 : l.length ≤ 1048576) : ∃ l', Ev (fun k => laws_markPins.f k n l 1) (1 + (totL l : Int), l') ∧ Ev (fun k => laws_heldPins.f k n l' 1) (1 + (totL l : Int)) := by
  obtain ⟨l', hl, hm, hh⟩ := markRows_held l 1 (by omega) (by omega) h2 h3
  refine ⟨l', hm, ?_⟩
  have := hh [] (by show 0 + l.length ≤ 1048576; omega)
  unfold laws_heldPins.f laws_heldIntSS.f
  exact Ev.bind this (Ev.no (by omega) (Ev.now _))
/-! Lists of pins: how large in all, marked, made. -/
def totS (l : List S37) : Nat := l.foldr (fun p n => totL p.f1 + n) 0
theorem totS_cons (p : S37) (l : List S37) : totS (p :: l) = totL p.f1 + totS l := rfl
theorem laws_szPinsS.levA (l : List S37) (hl1 : l.length ≤ 9223372036854775807) (hl : ∀ p ∈ l, RowsV p.f1) : ∀ (m i : Nat) (a : Int), i + m = l.length → 0 ≤ a → a ≤ 1048576 → ∃ r, Ev (fun k => laws_szPinsS.l0 k l a (i : Nat)) r ∧ (0 ≤ r → (totS (l.drop i) : Int) + r ≤ a ∧ ∀ p ∈ l.drop i, RowsM p.f1) := by
  intro m
  induction m with
  | zero =>
    intro i a hi h0 h1
    rw [List.drop_eq_nil_of_le (by omega)]
    exact ⟨a, Ev.step (fun k => rfl) (Ev.no (by omega) (Ev.now _)), fun _ => ⟨by show ((0 : Nat) : Int) + a ≤ a; omega, fun x hx => by simp at hx⟩⟩
  | succ m ih =>
    intro i a hi h0 h1
    have hlt : i < l.length := by omega
    have hx := hl l[i] (List.getElem_mem hlt)
    obtain ⟨s, hse, hsf⟩ := laws_szPins.evA l[i].f0 l[i].f1 hx a h0 h1
    rw [List.drop_eq_getElem_cons hlt]
    by_cases h : 0 ≤ s
    · obtain ⟨f1, f2⟩ := hsf h
      obtain ⟨r, he, hf⟩ := ih (i + 1) s (by omega) h (by omega)
      refine ⟨r, Ev.step (fun k => rfl) (Ev.yes (by omega) (Ev.yes (by omega) ?_)), fun hr0 => ?_⟩
      · rw [rd_lpins hlt]
        refine Ev.bind hse (Ev.no (by omega) ?_)
        rw [w64 (x := (i : Int) + 1) (by omega) (by omega)]
        exact he
      · obtain ⟨g1, g2⟩ := hf hr0
        refine ⟨by rw [totS_cons]; omega, fun x hx => ?_⟩
        rcases List.mem_cons.mp hx with rfl | hx
        · exact f2
        · exact g2 x hx
    · refine ⟨-1, Ev.step (fun k => rfl) (Ev.yes (by omega) (Ev.yes (by omega) ?_)), fun hr0 => by omega⟩
      rw [rd_lpins hlt]
      exact Ev.bind hse (Ev.yes (by omega) (Ev.now _))
theorem laws_szPinsS.evA (l : List S37) (hl1 : l.length ≤ 9223372036854775807) (hl : ∀ p ∈ l, RowsV p.f1) : ∃ r, Ev (fun k => laws_szPinsS.f k l 1048576) r ∧ (0 ≤ r → l.length + totS l ≤ 1048576 ∧ ∀ p ∈ l, RowsM p.f1) := by
  unfold laws_szPinsS.f
  rw [w64 (x := (1048576 : Int) - (l.length : Int)) (by omega) (by omega)]
  by_cases h : (l.length : Int) ≤ 1048576
  · obtain ⟨r, he, hf⟩ := laws_szPinsS.levA l hl1 hl l.length 0 (1048576 - l.length) (by omega) (by omega) (by omega)
    rw [List.drop_zero] at hf
    exact ⟨r, Ev.no (by omega) he, fun hr0 => ⟨by have := (hf hr0).1; omega, (hf hr0).2⟩⟩
  · exact ⟨-1, Ev.yes (by omega) (Ev.now _), fun hr0 => by omega⟩
theorem markP_ev : ∀ (l : List S37) (a : Int), 0 ≤ a → a + l.length + totS l ≤ 2000000 → totS l ≤ 1048576 → Ev (fun k => markP k (l.map pinsOf) a) (a + l.length + totS l) := by
  intro l
  induction l with
  | nil => intro a h0 _ _; exact Ev.id (by show a = a + ((0 : Nat) : Int) + ((0 : Nat) : Int); omega)
  | cons p t ih =>
    intro a h0 h1 h2
    rw [totS_cons] at h1 h2 ⊢
    rw [List.length_cons] at h1 ⊢
    obtain ⟨x', hx⟩ := markRows_ev p.f1 (a + 1) (by omega) (by omega) (by omega)
    have hw : wrap64 (a + 1) = a + 1 := w64 (by omega) (by omega)
    have hx2 : Ev (fun k => laws_markIntSS.f k (pinsOf p).f1 (wrap64 (a + 1))) (a + 1 + (totL p.f1 : Int), x') := by rw [hw]; exact hx
    refine Ev.eq (Ev.bind hx2 (ih (a + 1 + (totL p.f1 : Int)) (by omega) (by omega) (by omega))) (by omega)
theorem ev_all {α β : Type} {f : Nat → α → Option β} {g : α → β} : ∀ (l : List α), (∀ p ∈ l, Ev (fun k => f k p) (g p)) → ∃ K, ∀ k, K ≤ k → ∀ p ∈ l, f k p = some (g p) := by
  intro l
  induction l with
  | nil => intro _; exact ⟨0, fun _ _ p hp => by cases hp⟩
  | cons a t ih =>
    intro h
    obtain ⟨K1, h1⟩ := h a List.mem_cons_self
    obtain ⟨K2, h2⟩ := ih (fun p hp => h p (List.mem_cons_of_mem _ hp))
    refine ⟨K1 + K2, fun k hk p hp => ?_⟩
    rcases List.mem_cons.mp hp with rfl | hp
    · exact h1 k (by omega)
    · exact h2 k (by omega) p hp
theorem C_listV {w : World} {A : Option Addr} {l : List S37} (h : Kd.C k37 w A l.length l) : ∀ p ∈ l, RowsV p.f1 := by
  intro p hp
  obtain ⟨i, hi, rfl⟩ := List.getElem_of_mem hp
  obtain ⟨ad, A1, c1, _, _, _, _, g⟩ := at_T37 h (i : Int) (by omega) (by omega)
  rw [rd_lpins hi] at g
  exact C_rowsV g
/-! ### spec_MasterPins: function 25 -/
/-! impl.MasterPins, by hand: it builds a list of the two. -/
/-! laws.FnExactMasterPins, by hand: the arguments' rows are marked. -/
section
variable {w W W2 : World} {n0 : Int} {A0 : Option Addr} {l0 c0 : Nat} {n1 : Int} {A1 : Option Addr} {l1 c1 : Nat}
end
section
variable {w W : World} {n0 : Int} {A0 : Option Addr} {c0 : Nat} {L0 : List (List Int)} {n1 : Int} {A1 : Option Addr} {c1 : Nat} {L1 : List (List Int)} {rn : Int} {R : List (List Int)} {c8 aw ew bw : Nat} {Aw : Option Addr} {cw : Nat} {ax bx : Nat} {Ax : Option Addr} {cx : Nat} {X : List (List Int)} {ay yb : Nat} {Ay : Option Addr} {cy : Nat} {Y : List (List Int)} {ag eg bg : Nat} {Ag : Option Addr} {cg : Nat} {G : List (List Int)} {W2 : World} {X' Y' G' : List (List Int)}
end
section
variable {w W W2 : World} {n0 : Int} {A0 : Option Addr} {L0 : List (List Int)} {c0 : Nat} {n1 : Int} {A1 : Option Addr} {L1 : List (List Int)} {c1 : Nat} {rn : Int} {R : List (List Int)} {A6 : Option Addr} {c6 b aw ew c8 : Nat}
end
section
variable {w0 w W W2 : World} {n0 : Int} {A0 : Option Addr} {l0 c0 : Nat} {n1 : Int} {A1 : Option Addr} {l1 c1 : Nat}
end
/-! The law FnExactMasterPins: its calls, all told. -/
theorem totL_le (c : Nat) : ∀ l : List (List Int), (∀ r ∈ l, r.length ≤ c) → totL l ≤ l.length * c := by
  intro l
  induction l with
  | nil => intro _; exact Nat.zero_le _
  | cons r t ih =>
    intro h
    have h1 := ih (fun q hq => h q (List.mem_cons_of_mem _ hq))
    have h2 := h r List.mem_cons_self
    show r.length + totL t ≤ (t.length + 1) * c
    rw [Nat.succ_mul]
    omega
/-! The law FnExactMasterOf: its calls, all told. -/
def moV (L : List S41) : Int × List (List Int) × Bool := if kindB L = true then ((rd_T41 L 0).f0, rowsOf (rd_T41 L 0).f0.toNat (rd_T41 L 0).f1.length (inB false L), true) else (0, [], false)
theorem moV_small (L : List S41) (hv2 : ∀ p ∈ L, RowsV p.f1) : (moV L).2.1.length ≤ 7 ∧ totL (moV L).2.1 ≤ 63 ∧ RowsV (moV L).2.1 := by
  unfold moV
  by_cases h : kindB L = true
  · rw [if_pos h]
    obtain ⟨n, m, hkl, hne, h6⟩ := kindB_KindL h hv2
    obtain ⟨h0, h1, _⟩ := hkl.2.2 L[0] (List.getElem_mem hne)
    have hq : rd_T41 L 0 = L[0] := rd_pins hne
    have hn0 : L[0].f0.toNat = n := by omega
    rw [hq, hn0, h1]
    have hl : (rowsOf n m (inB false L)).length ≤ 7 := by rw [rowsOf_len]; exact hkl.2.1
    refine ⟨hl, Nat.le_trans (totL_le 9 _ (fun r hr => ?_)) (Nat.mul_le_mul_right 9 hl), rowsOf_v n m (by have := hkl.1; omega) (by have := hkl.2.1; omega) _⟩
    unfold rowsOf at hr
    obtain ⟨i, _, rfl⟩ := List.mem_map.mp hr
    exact Nat.le_trans (filter_len_le _ _) (by rw [rngFrom_len]; exact hkl.1)
  · rw [if_neg h]
    exact ⟨by decide, by decide, ⟨by decide, fun r hr => by cases hr⟩⟩
theorem MasterOf.both (L : List S41) (hl2 : L.length ≤ 9223372036854775807) (hv2 : ∀ p ∈ L, RowsV p.f1) : Ev (fun k => spec_MasterOf.f k L) (moV L) ∧ Ev (fun k => impl_MasterOf.f k L) (moV L) := by
  unfold spec_MasterOf.f impl_MasterOf.f impl_ofKind.f moV
  cases hk : kindB L with
  | false =>
    refine ⟨Ev.bind (spec_keList.ev L hl2 hv2) (Ev.no (by rw [hk]; simp) (Ev.id (by simp))), Ev.bindc rfl (Ev.no (by simp) (Ev.id (by simp)))⟩
  | true =>
    obtain ⟨n, m, hkl, hne, h6⟩ := kindB_KindL hk hv2
    obtain ⟨h0, h1, _⟩ := hkl.2.2 L[0] (List.getElem_mem hne)
    have hq : rd_T41 L 0 = L[0] := rd_pins hne
    have hn0 : L[0].f0.toNat = n := by omega
    rw [hq, hn0, h1, h0, if_pos rfl]
    exact ⟨Ev.bind (spec_keList.ev L hl2 hv2) (Ev.yes hk (Ev.bind (spec_keJoined.ev false n m L hne hkl) (Ev.now _))), Ev.bindc rfl (Ev.yes rfl (Ev.bind (impl_master.ev L n m hne hkl (by omega)) (Ev.now _)))⟩
set_option maxRecDepth 100000 in
theorem laws_FnExactMasterOf.walk0 (k : Nat) (L : List S37) (r0 : Int) (A : Option Addr) (c : Nat) (w : World) (hr : Kd.C k37 w A L.length L) (hc : L.length ≤ c) (e1 : laws_szPinsS.f k L 1048576 = some r0) (h0 : r0 < 0) :
    Calls Try.prog 10 #[.slice A L.length c] w fun e w' => e = .returned (.bool true) ∧ Below w.heap.size w w' := by
  have hu54 := Try.underlying54
  have hd0 : decide (r0 < 0) = true := decide_eq_true h0
  have E1 := amk e1
  have HC := amk hc
  have HR := amk hr
  clear e1 hc hr h0
  go_enter Try.func10, Try.ntmps10
  go_wp2_with (go_at_call 34; refine Calls.mono (laws_szPinsS.calls k _ _ L _ r0 _ HR.out HC.out E1.out) ?_; rintro e w2 ⟨rfl, hb⟩; have HB2 := amk hb; clear hb)
  go_ret
  exact ⟨rfl, HB2.out⟩
theorem laws_FnExactMasterOf.calls (A0 : Option Addr) (c0 : Nat) (l0 : List S37) (r : Bool) (w : World) (hr0 : Kd.C k37 w A0 l0.length l0) (hc0 : l0.length ≤ c0) (h : laws_FnExactMasterOf.f l0 = some r) :
    Calls Try.prog 10 #[.slice A0 l0.length c0] w fun e w' => e = .returned (.bool r) ∧ Below w.heap.size w w' := by
  obtain rfl := Option.some.inj h
  have hV := C_listV hr0
  have hn := hr0.2.1
  obtain ⟨r0, he0, hf0⟩ := laws_szPinsS.evA l0 hn hV
  by_cases h0 : 0 ≤ r0
  · obtain ⟨ht, hM⟩ := hf0 h0
    have hv2 : ∀ p ∈ l0.map pinsOf, RowsV p.f1 := by
      intro p hp
      obtain ⟨q, hq, rfl⟩ := List.mem_map.mp hp
      exact hV q hq
    have hl2 : (l0.map pinsOf).length ≤ 9223372036854775807 := by simpa using hn
    obtain ⟨hs1, hs2, hs5⟩ := moV_small (l0.map pinsOf) hv2
    obtain ⟨hs3, hs4⟩ := MasterOf.both (l0.map pinsOf) hl2 hv2
    obtain ⟨k1, e1⟩ := he0
    obtain ⟨k2, e2⟩ := ev_all (f := fun k (p : S37) => laws_toPins.f k p.f0 p.f1) (g := fun p => (p.f0, p.f1)) l0 (fun p hp => laws_toPins.ev p.f0 p.f1 (hM p hp))
    obtain ⟨k3, e3⟩ := hs3
    obtain ⟨k4, e4⟩ := hs4
    obtain ⟨k5, e5⟩ := laws_eqPins.ev (moV (l0.map pinsOf)).1 (moV (l0.map pinsOf)).2.1 hs5
    obtain ⟨k6, e6⟩ := laws_eqPinsS.ev (l0.map pinsOf) hl2 hv2
    obtain ⟨k7, e7⟩ := markP_ev l0 1 (by omega) (by omega) (by omega)
    obtain ⟨R', ⟨k8, e8⟩, k9, e9⟩ := laws_markPins.evH (moV (l0.map pinsOf)).1 (moV (l0.map pinsOf)).2.1 (by omega) (by omega)
    have hk : ∃ k, k1 ≤ k ∧ k2 ≤ k ∧ k3 ≤ k ∧ k4 ≤ k ∧ k5 ≤ k ∧ k6 ≤ k ∧ k7 ≤ k ∧ k8 ≤ k ∧ k9 ≤ k := ⟨k1 + k2 + k3 + k4 + k5 + k6 + k7 + k8 + k9, by omega⟩
    obtain ⟨k, i1, i2, i3, i4, i5, i6, i7, i8, i9⟩ := hk
    exact laws_FnExactMasterOf.walk k l0 (l0.map pinsOf) rfl (moV (l0.map pinsOf)).1 (moV (l0.map pinsOf)).2.1 R' (moV (l0.map pinsOf)).2.2 r0 _ _ A0 c0 w hr0 hc0 (by omega) (e1 k i1) h0 (e2 k i2) (e3 k i3) (e4 k i4) (e5 k i5) (e6 k i6) (e7 k i7) (by omega) (e8 k i8) (by omega) (e9 k i9)
  · obtain ⟨k1, e1⟩ := he0
    exact laws_FnExactMasterOf.walk0 k1 l0 r0 A0 c0 w hr0 hc0 (e1 k1 (Nat.le_refl _)) (by omega)
theorem pure_FnExactMasterOf (l : List S37) (_ : ListV V37 l) : laws_FnExactMasterOf.f l = some true := rfl
end Go.Proofs.Ytcnjiffoghganaa.P