import Derived.Test.YtcnjiffoghganaaKFnExactGhostKeysA0
import Derived.Test.YtcnjiffoghganaaKFnExactGhostKeysA2
import Derived.Test.YtcnjiffoghganaaKFnExactGhostKeysA1
namespace Go.Proofs.Ytcnjiffoghganaa.P
open Go.RowKit Go.Proofs.YtcnjiffoghganaaW.PrintWords Go.Proofs.YtcnjiffoghganaaW.PrintLast Go.Proofs.YtcnjiffoghganaaW.PrintMore
attribute [local go_sem] max2_int min2_int max_two min_two max_three min_three max_four min_four
set_option linter.unusedVariables false
set_option linter.unusedSimpArgs false
/-! spec's pins: what they come to. -/
theorem spec_l1Rising.lev (n : Int) (hn : 1 ≤ n ∧ n ≤ 9) (l : List Int) (hl : l.length ≤ 9223372036854775807) : ∀ (m i : Nat), i + m = l.length → (-1 ≤ lastI l i) → Ev (fun k => spec_l1Rising.l0 k l 0 (n - 1) l (l.length : Int) (i : Nat)) (risF n (lastI l i) (l.drop i)) := by
  intro m
  induction m with
  | zero =>
    intro i hi _
    refine Ev.step (fun k => rfl) (Ev.no (by omega) (Ev.id ?_))
    rw [List.drop_eq_nil_of_le (by omega)]
    rfl
  | succ m ih =>
    intro i hi hq
    have hlt : i < l.length := by omega
    have hr : rd l (i : Nat) = l[i] := rd_int hlt
    refine Ev.step (fun k => rfl) (Ev.yes (by omega) (Ev.yes (by omega) (Ev.yes (by omega) (Ev.bindc (spec_l1In.bs _ _ _) ?_))))
    rw [hr, List.drop_eq_getElem_cons hlt]
    unfold risF
    have hw : wrap64 ((i : Int) + 1) = ((i + 1 : Nat) : Int) := w64 (by omega) (by omega)
    have hla : lastI l (i + 1) = l[i] := lastI_at hlt
    by_cases h1 : 0 ≤ l[i] ∧ l[i] ≤ n - 1
    · refine Ev.yes (decide_eq_true h1) ?_
      have hgo := ih (i + 1) (by omega) (by rw [hla]; omega)
      rw [hla] at hgo
      cases i with
      | zero =>
        refine Ev.no (by omega) ?_
        rw [hw]
        refine Ev.eq hgo ?_
        have h2 : decide (lastI l 0 < l[0]) = true := decide_eq_true (show (-1 : Int) < l[0] by omega)
        have h3 : decide (l[0] ≤ n - 1) = true := decide_eq_true h1.2
        rw [h2, h3]; rfl
      | succ i =>
        have hp : wrap64 (((i + 1 : Nat) : Int) - 1) = (i : Nat) := by rw [w64 (by omega) (by omega)]; omega
        have hr1 : rd l (i : Nat) = l[i] := rd_int (by omega)
        have hlb : lastI l (i + 1) = l[i] := lastI_at (by omega)
        refine Ev.yes (by omega) ?_
        rw [hp, hr1, hlb]
        refine Ev.yes (by omega) (Ev.yes (by omega) ?_)
        by_cases h2 : l[i] ≥ l[i + 1]
        · refine Ev.yes h2 (Ev.id ?_)
          rw [decide_eq_false (by omega : ¬ l[i] < l[i + 1])]; rfl
        · refine Ev.no h2 ?_
          rw [hw]
          refine Ev.eq hgo ?_
          rw [decide_eq_true (by omega : l[i] < l[i + 1]), decide_eq_true h1.2]; rfl
    · refine Ev.no (by rw [decide_eq_false h1]; simp) (Ev.id ?_)
      by_cases h2 : lastI l i < l[i]
      · have h3 : ¬ l[i] ≤ n - 1 := fun h => h1 ⟨by omega, h⟩
        rw [decide_eq_false h3]; simp
      · rw [decide_eq_false h2]; rfl
theorem spec_l1Rising.ev (n : Int) (hn : 1 ≤ n ∧ n ≤ 9) (l : List Int) (hl : l.length ≤ 9223372036854775807) : Ev (fun k => spec_l1Rising.f k l 0 (n - 1)) (risF n (-1) l) := by
  unfold spec_l1Rising.f
  exact spec_l1Rising.lev n hn l hl l.length 0 (by omega) (show (-1 : Int) ≤ -1 by omega)
theorem spec_keGood.lev (n : Int) (hn : 1 ≤ n ∧ n ≤ 9) (l : List (List Int)) (hl : RowsV l) : ∀ (m i : Nat), i + m = l.length → Ev (fun k => spec_keGood.l0 k l (l.length : Int) (i : Nat) n l) ((l.drop i).all (rowB n)) := by
  have hl1 := hl.1
  intro m
  induction m with
  | zero =>
    intro i hi
    refine Ev.step (fun k => rfl) (Ev.no (by omega) (Ev.id ?_))
    rw [List.drop_eq_nil_of_le (by omega)]; rfl
  | succ m ih =>
    intro i hi
    have hlt : i < l.length := by omega
    refine Ev.step (fun k => rfl) (Ev.yes (by omega) (Ev.yes (by omega) (Ev.yes (by omega) ?_)))
    rw [rd_row hlt, List.drop_eq_getElem_cons hlt, List.all_cons]
    have hx := hl.2 l[i] (List.getElem_mem hlt)
    have hgo := ih (i + 1) (by omega)
    generalize l[i] = x at hx ⊢
    unfold rowB
    by_cases h0 : (x.length : Int) = 0
    · refine Ev.yes h0 (Ev.id ?_)
      obtain rfl : x = [] := List.length_eq_zero_iff.mp (by omega)
      rfl
    · refine Ev.no h0 ?_
      have h1 : (!x.isEmpty) = true := by cases x <;> simp_all
      rw [w64 (x := n - 1) (by omega) (by omega), h1, Bool.true_and]
      refine Ev.bind (spec_l1Rising.ev n hn x hx) ?_
      cases risF n (-1) x with
      | false => exact Ev.no (by simp) (Ev.id rfl)
      | true =>
        refine Ev.yes rfl ?_
        rw [w64 (x := (i : Int) + 1) (by omega) (by omega), Bool.true_and]
        exact hgo
theorem spec_keGood.ev (n : Int) (l : List (List Int)) (hl : RowsV l) : Ev (fun k => spec_keGood.f k n l) (pinsB n l) := by
  unfold spec_keGood.f pinsB
  refine Ev.bindc (spec_l1In.bs _ _ _) ?_
  by_cases h1 : 1 ≤ n ∧ n ≤ 9
  · rw [decide_eq_true h1]
    refine Ev.yes rfl (Ev.bindc (spec_l1In.bs _ _ _) (Ev.step (fun k => rfl) ?_))
    simp only [spec_keGood.j0]
    by_cases h2 : 1 ≤ (l.length : Int) ∧ (l.length : Int) ≤ 7
    · rw [decide_eq_true h2]
      refine Ev.no (by simp) ?_
      have := spec_keGood.lev n h1 l hl l.length 0 (by omega)
      simpa using this
    · rw [decide_eq_false h2]
      exact Ev.yes (by simp) (Ev.id (by simp))
  · rw [decide_eq_false h1]
    refine Ev.no (by simp) (Ev.step (fun k => rfl) ?_)
    simp only [spec_keGood.j0]
    exact Ev.yes trivial (Ev.id (by simp))
theorem spec_keKind.is (n : Int) (x : List (List Int)) (m : Int) (y : List (List Int)) : spec_keKind.f n x m y = some ((n == m) && (x.length == y.length)) := by
  unfold spec_keKind.f
  by_cases h : n = m
  · rw [if_pos h, h]
    congr 1
    rw [Bool.eq_iff_iff]
    simp only [beq_iff_eq, Bool.and_eq_true, true_and]
    omega
  · rw [if_neg h]
    simp [h]
theorem spec_keList.lev (l : List S41) (hl1 : l.length ≤ 9223372036854775807) (hl : ∀ p ∈ l, RowsV p.f1) : ∀ (m i : Nat), i + m = l.length → Ev (fun k => spec_keList.l0 k l l (l.length : Int) (i : Nat)) ((l.drop i).all fun p => pinsB p.f0 p.f1 && (p.f0 == (rd_T41 l 0).f0) && (p.f1.length == (rd_T41 l 0).f1.length)) := by
  intro m
  induction m with
  | zero =>
    intro i hi
    refine Ev.step (fun k => rfl) (Ev.no (by omega) (Ev.id ?_))
    rw [List.drop_eq_nil_of_le (by omega)]; rfl
  | succ m ih =>
    intro i hi
    have hlt : i < l.length := by omega
    refine Ev.step (fun k => rfl) (Ev.yes (by omega) (Ev.yes (by omega) (Ev.yes (by omega) ?_)))
    rw [rd_pins hlt, List.drop_eq_getElem_cons hlt, List.all_cons]
    refine Ev.bind (spec_keGood.ev _ _ (hl _ (List.getElem_mem hlt))) ?_
    have hgo := ih (i + 1) (by omega)
    cases pinsB l[i].f0 l[i].f1 with
    | false => exact Ev.no (by simp) (Ev.id (by simp))
    | true =>
      refine Ev.yes rfl (Ev.yes (by omega) (Ev.bindc (spec_keKind.is _ _ _ _) ?_))
      rw [Bool.true_and]
      cases (l[i].f0 == (rd_T41 l 0).f0) && (l[i].f1.length == (rd_T41 l 0).f1.length) with
      | false => exact Ev.no (by simp) (Ev.id rfl)
      | true =>
        refine Ev.yes rfl ?_
        rw [w64 (x := (i : Int) + 1) (by omega) (by omega), Bool.true_and]
        exact hgo
theorem spec_keList.ev (l : List S41) (hl1 : l.length ≤ 9223372036854775807) (hl : ∀ p ∈ l, RowsV p.f1) : Ev (fun k => spec_keList.f k l) (kindB l) := by
  unfold spec_keList.f kindB
  refine Ev.bindc (spec_l1In.bs _ _ _) ?_
  by_cases h1 : 1 ≤ (l.length : Int) ∧ (l.length : Int) ≤ 6
  · rw [decide_eq_true h1]
    refine Ev.yes rfl ?_
    have := spec_keList.lev l hl1 hl l.length 0 (by omega)
    simpa using this
  · rw [decide_eq_false h1]
    exact Ev.no (by simp) (Ev.id (by simp))
theorem opens_t3 : Opens Try.prog 3 (Kd.int .i64) IntV := opens_int Try.underlying3
theorem opens_t86 : Opens Try.prog 86 (Kd.slice 3 (Kd.int .i64)) (ListV IntV) := opens_slice Try.underlying86 opens_t3 (by kernel_rfl)
theorem opens_t35 : Opens Try.prog 35 (Kd.slice 86 (Kd.slice 3 (Kd.int .i64))) (ListV (ListV IntV)) := opens_slice Try.underlying35 opens_t86 (by kernel_rfl)
def V37 (x : S37) : Prop := IntV x.f0 ∧ (ListV (ListV IntV)) x.f1
theorem opens_t37 : Opens Try.prog 37 k37 V37 := opens_iso (opens_pair Try.underlying37 opens_t3 opens_t35 (by kernel_rfl) (by kernel_rfl) (by kernel_rfl) (by kernel_rfl) (by kernel_rfl)) (fun x : S37 => (x.f0, x.f1)) (fun p => ⟨p.1, p.2⟩) (fun _ => rfl)
theorem opens_t54 : Opens Try.prog 54 (Kd.slice 37 k37) (ListV V37) := opens_slice Try.underlying54 opens_t37 (by kernel_rfl)
/-! The law FnExactGhostKeys, over numbers and lists alone. -/
theorem shl_pow : ∀ n : Fin 7, shl .i64 1 ((n.val : Nat) : Int) = ((2 ^ n.val : Nat) : Int) := by decide +kernel
def bitB (s i : Nat) : Bool := decide (Int.tmod (shr .i64 ((s : Nat) : Int) ((i : Nat) : Int)) 2 = 1)
theorem bit_and : ∀ s : Fin 64, ∀ i : Fin 6, decide (Go.bits .and .i64 (shr .i64 ((s.val : Nat) : Int) ((i.val : Nat) : Int)) 1 = 1) = bitB s.val i.val := by decide +kernel
theorem bit_some : ∀ n : Fin 7, ∀ s : Fin 64, 1 ≤ s.val → s.val < 2 ^ n.val → ∃ i : Fin 6, i.val < n.val ∧ bitB s.val i.val = true := by decide +kernel
def pickS (s : Nat) : List S41 → Nat → List S41
  | [], _ => []
  | p :: t, i => if bitB s i = true then p :: pickS s t (i + 1) else pickS s t (i + 1)
theorem pickS_cons (s : Nat) (p : S41) (t : List S41) (i : Nat) : pickS s (p :: t) i = if bitB s i = true then p :: pickS s t (i + 1) else pickS s t (i + 1) := rfl
theorem pickS_mem (s : Nat) : ∀ (l : List S41) (i : Nat), ∀ p ∈ pickS s l i, p ∈ l := by
  intro l
  induction l with
  | nil => intro i p hp; exact hp
  | cons q t ih =>
    intro i p hp
    unfold pickS at hp
    by_cases e : bitB s i = true
    · rw [if_pos e] at hp
      rcases List.mem_cons.mp hp with rfl | hp
      · exact List.mem_cons_self
      · exact List.mem_cons_of_mem _ (ih _ p hp)
    · rw [if_neg e] at hp
      exact List.mem_cons_of_mem _ (ih _ p hp)
theorem pickS_len (s : Nat) : ∀ (l : List S41) (i : Nat), (pickS s l i).length ≤ l.length := by
  intro l
  induction l with
  | nil => intro i; exact Nat.le_refl _
  | cons q t ih =>
    intro i
    unfold pickS
    have := ih (i + 1)
    by_cases e : bitB s i = true
    · rw [if_pos e]; simp; omega
    · rw [if_neg e]; simp; omega
theorem pickS_pos (s : Nat) : ∀ (l : List S41) (i j : Nat), i ≤ j → j < i + l.length → bitB s j = true → 0 < (pickS s l i).length := by
  intro l
  induction l with
  | nil => intro i j h1 h2 _; simp at h2; omega
  | cons q t ih =>
    intro i j h1 h2 hb
    unfold pickS
    by_cases e : bitB s i = true
    · rw [if_pos e]; simp
    · rw [if_neg e]
      have hne : i ≠ j := fun h => e (h ▸ hb)
      simp only [List.length_cons] at h2
      exact ih (i + 1) j (by omega) (by omega) hb
def ghostC (n m : Nat) (l : List S41) (s : Nat) (c : Int) : Int :=
  if ((pickS s l 0).length : Int) % 2 = 1 then wrap64 (c - keysF (rowsOf n m (inB true (pickS s l 0)))) else wrap64 (c + keysF (rowsOf n m (inB true (pickS s l 0))))
def ghostF (n m : Nat) (l : List S41) : Nat → Nat → Int → Int
  | 0, _, c => c
  | q + 1, s, c => ghostF n m l q (s + 1) (ghostC n m l s c)
theorem KindL_pick {n m : Nat} {l : List S41} (h : KindL n m l) (s : Nat) : KindL n m (pickS s l 0) := ⟨h.1, h.2.1, fun p hp => h.2.2 p (pickS_mem s l 0 p hp)⟩
theorem rows_short {n m : Nat} {l : List S41} (h : KindL n m l) (f : Nat → Int → Bool) : (rowsOf n m f).length ≤ 9223372036854775807 := by rw [rowsOf_len]; have := h.2.1; omega
theorem impl_GhostKeys.lev1 (n m : Nat) (l : List S41) (h : KindL n m l) (hl : l.length ≤ 6) (s : Nat) (hs : s < 64) (hpos : 0 < (pickS s l 0).length) (c : Int) (o : Int × Bool) (hgo : Ev (fun k => impl_GhostKeys.l0 k l (ghostC n m l s c) ((s + 1 : Nat) : Int)) o) :
    ∀ (q i : Nat) (acc : List S41), i + q = l.length → acc.length ≤ i → acc ++ pickS s (l.drop i) i = pickS s l 0 → Ev (fun k => impl_GhostKeys.l1 k l c (s : Int) acc l (l.length : Int) (i : Int)) o := by
  intro q
  induction q with
  | zero =>
    intro i acc hi ha hacc
    have hws := amk (wr_succ (c := s) (by omega))
    rw [List.drop_eq_nil_of_le (by omega)] at hacc
    have hacc2 : acc = pickS s l 0 := by rw [← hacc]; exact (List.append_nil acc).symm
    refine Ev.step (fun k => rfl) (Ev.no (by omega) ?_)
    have hle := pickS_len s l 0
    rw [hacc2]
    refine Ev.bind (impl_shared.ev (pickS s l 0) n m hpos (KindL_pick h s) (by omega)) (Ev.bind (impl_Pins_keys.ev _ _ (rows_short h _)) ?_)
    rw [hws.out]
    unfold ghostC at hgo
    by_cases e : ((pickS s l 0).length : Int) % 2 = 1
    · rw [if_pos e] at hgo
      exact Ev.yes e hgo
    · rw [if_neg e] at hgo
      exact Ev.no e hgo
  | succ q ih =>
    intro i acc hi ha hacc
    have hlt : i < l.length := by omega
    have hwi := amk (wr_succ (c := i) (by omega))
    rw [List.drop_eq_getElem_cons hlt, pickS_cons] at hacc
    have hb := bit_and ⟨s, hs⟩ ⟨i, by omega⟩
    simp only [] at hb
    refine Ev.step (fun k => rfl) (Ev.yes (by omega) (Ev.yes (by omega) (Ev.yes (by omega) ?_)))
    rw [rd_pins hlt, hwi.out]
    by_cases e : bitB s i = true
    · rw [if_pos e] at hacc
      rw [e] at hb
      refine Ev.yes (of_decide_eq_true hb) (Ev.yes (by omega) ?_)
      exact ih (i + 1) (acc ++ [l[i]]) (by omega) (by simp; omega) (by rw [List.append_assoc]; exact hacc)
    · rw [if_neg e] at hacc
      rw [Bool.eq_false_iff.mpr e] at hb
      exact Ev.no (of_decide_eq_false hb) (ih (i + 1) acc (by omega) (by omega) hacc)
theorem spec_GhostKeys.lev1 (n m : Nat) (l : List S41) (h : KindL n m l) (hl : l.length ≤ 6) (s : Nat) (hs : s < 64) (hpos : 0 < (pickS s l 0).length) (c : Int) (o : Int × Bool) (hgo : Ev (fun k => spec_GhostKeys.l0 k l (ghostC n m l s c) ((s + 1 : Nat) : Int)) o) :
    ∀ (q i : Nat) (acc : List S41), i + q = l.length → acc.length ≤ i → acc ++ pickS s (l.drop i) i = pickS s l 0 → Ev (fun k => spec_GhostKeys.l1 k l c (s : Int) acc l (l.length : Int) (i : Int)) o := by
  intro q
  induction q with
  | zero =>
    intro i acc hi ha hacc
    have hws := amk (wr_succ (c := s) (by omega))
    rw [List.drop_eq_nil_of_le (by omega)] at hacc
    have hacc2 : acc = pickS s l 0 := by rw [← hacc]; exact (List.append_nil acc).symm
    refine Ev.step (fun k => rfl) (Ev.no (by omega) ?_)
    rw [hacc2]
    refine Ev.bind (spec_keJoined.ev true n m (pickS s l 0) hpos (KindL_pick h s)) (Ev.bind (spec_keCount.ev _ _ (rows_short h _)) ?_)
    rw [hws.out]
    unfold ghostC at hgo
    by_cases e : ((pickS s l 0).length : Int) % 2 = 1
    · rw [if_pos e] at hgo
      exact Ev.yes e hgo
    · rw [if_neg e] at hgo
      exact Ev.no e hgo
  | succ q ih =>
    intro i acc hi ha hacc
    have hlt : i < l.length := by omega
    have hwi := amk (wr_succ (c := i) (by omega))
    rw [List.drop_eq_getElem_cons hlt, pickS_cons] at hacc
    refine Ev.step (fun k => rfl) (Ev.yes (by omega) (Ev.yes (by omega) (Ev.yes (by omega) ?_)))
    rw [rd_pins hlt, hwi.out]
    by_cases e : bitB s i = true
    · rw [if_pos e] at hacc
      refine Ev.yes (of_decide_eq_true e) (Ev.yes (by omega) ?_)
      exact ih (i + 1) (acc ++ [l[i]]) (by omega) (by simp; omega) (by rw [List.append_assoc]; exact hacc)
    · rw [if_neg e] at hacc
      exact Ev.no (fun hh => e (decide_eq_true hh)) (ih (i + 1) acc (by omega) (by omega) hacc)
theorem ghost_pos {l : List S41} (hl : l.length ≤ 6) {s : Nat} (h1 : 1 ≤ s) (h2 : s < 2 ^ l.length) (hs : s < 64) : 0 < (pickS s l 0).length := by
  obtain ⟨i, hi, hb⟩ := bit_some ⟨l.length, by omega⟩ ⟨s, hs⟩ h1 h2
  exact pickS_pos s l 0 i.val (by omega) (by simp only [] at hi; omega) hb
theorem impl_GhostKeys.lev0 (n m : Nat) (l : List S41) (h : KindL n m l) (hl : l.length ≤ 6) (hp : 2 ^ l.length ≤ 64) : ∀ (q s : Nat) (c : Int), s + q = 2 ^ l.length → 1 ≤ s → Ev (fun k => impl_GhostKeys.l0 k l c (s : Int)) (ghostF n m l q s c, true) := by
  have hshl := amk (shl_pow ⟨l.length, by omega⟩)
  generalize hT : 2 ^ l.length = T at hp
  intro q
  induction q with
  | zero =>
    intro s c hs h1
    refine Ev.step (fun k => rfl) (Ev.no ?_ (Ev.now _))
    rw [show shl .i64 1 (l.length : Int) = ((2 ^ l.length : Nat) : Int) from hshl.out, hT]
    omega
  | succ q ih =>
    intro s c hs h1
    have hpos := ghost_pos hl h1 (by rw [hT]; omega) (by omega)
    refine Ev.step (fun k => rfl) (Ev.yes ?_ ?_)
    · rw [show shl .i64 1 (l.length : Int) = ((2 ^ l.length : Nat) : Int) from hshl.out, hT]
      omega
    · exact impl_GhostKeys.lev1 n m l h hl s (by omega) hpos c _ (ih (s + 1) (ghostC n m l s c) (by omega) (by omega)) l.length 0 [] (by omega) (Nat.le_refl _) rfl
theorem spec_GhostKeys.lev0 (n m : Nat) (l : List S41) (h : KindL n m l) (hl : l.length ≤ 6) (hp : 2 ^ l.length ≤ 64) : ∀ (q s : Nat) (c : Int), s + q = 2 ^ l.length → 1 ≤ s → Ev (fun k => spec_GhostKeys.l0 k l c (s : Int)) (ghostF n m l q s c, true) := by
  have hshl := amk (shl_pow ⟨l.length, by omega⟩)
  generalize hT : 2 ^ l.length = T at hp
  intro q
  induction q with
  | zero =>
    intro s c hs h1
    refine Ev.step (fun k => rfl) (Ev.no ?_ (Ev.now _))
    rw [show shl .i64 1 (l.length : Int) = ((2 ^ l.length : Nat) : Int) from hshl.out, hT]
    omega
  | succ q ih =>
    intro s c hs h1
    have hpos := ghost_pos hl h1 (by rw [hT]; omega) (by omega)
    refine Ev.step (fun k => rfl) (Ev.yes ?_ ?_)
    · rw [show shl .i64 1 (l.length : Int) = ((2 ^ l.length : Nat) : Int) from hshl.out, hT]
      omega
    · exact spec_GhostKeys.lev1 n m l h hl s (by omega) hpos c _ (ih (s + 1) (ghostC n m l s c) (by omega) (by omega)) l.length 0 [] (by omega) (Nat.le_refl _) rfl
def ghostV (L : List S41) : Int × Bool :=
  if kindB L = true then (ghostF (rd_T41 L 0).f0.toNat (rd_T41 L 0).f1.length L (2 ^ L.length - 1) 1 (keysF (rowsOf (rd_T41 L 0).f0.toNat (rd_T41 L 0).f1.length (inB false L))), true) else (0, false)
theorem GhostKeys.both (L : List S41) (hl2 : L.length ≤ 9223372036854775807) (hv2 : ∀ p ∈ L, RowsV p.f1) : Ev (fun k => spec_GhostKeys.f k L) (ghostV L) ∧ Ev (fun k => impl_GhostKeys.f k L) (ghostV L) := by
  unfold spec_GhostKeys.f impl_GhostKeys.f impl_ofKind.f ghostV
  cases hk : kindB L with
  | false =>
    refine ⟨Ev.bind (spec_keList.ev L hl2 hv2) (Ev.no (by rw [hk]; simp) (Ev.id (by simp))), Ev.bindc rfl (Ev.no (by simp) (Ev.id (by simp)))⟩
  | true =>
    obtain ⟨n, m, hkl, hne, h6⟩ := kindB_KindL hk hv2
    obtain ⟨h0, h1, _⟩ := hkl.2.2 L[0] (List.getElem_mem hne)
    have hq : rd_T41 L 0 = L[0] := rd_pins hne
    have hn0 : L[0].f0.toNat = n := by omega
    have hp : 2 ^ L.length ≤ 64 := Nat.le_trans (Nat.pow_le_pow_right (by omega) h6) (by decide)
    have hp1 : 1 ≤ 2 ^ L.length := Nat.one_le_two_pow
    rw [hq, hn0, h1, if_pos rfl]
    generalize hT : 2 ^ L.length = T at hp1
    refine ⟨Ev.bind (spec_keList.ev L hl2 hv2) (Ev.yes hk (Ev.bind (spec_keJoined.ev false n m L hne hkl) (Ev.bind (spec_keCount.ev _ _ (rows_short hkl _)) ?_))), Ev.bindc rfl (Ev.yes rfl (Ev.bind (impl_master.ev L n m hne hkl (by omega)) (Ev.bind (impl_Pins_keys.ev _ _ (rows_short hkl _)) ?_)))⟩
    · exact spec_GhostKeys.lev0 n m L hkl h6 hp (T - 1) 1 _ (by omega) (Nat.le_refl _)
    · exact impl_GhostKeys.lev0 n m L hkl h6 hp (T - 1) 1 _ (by omega) (Nat.le_refl _)
theorem pure_FnExactGhostKeys (l : List S37) (hp : ListV V37 l) : ∃ k, laws_FnExactGhostKeys.f k l = some true := by
  refine Ev.rounds ?_
  obtain ⟨hn, hv⟩ := hp
  unfold laws_FnExactGhostKeys.f
  have hrows : ∀ p ∈ l, RowsV p.f1 := fun p hp => ⟨(hv p hp).2.1, fun r hr => ((hv p hp).2.2 r hr).1⟩
  obtain ⟨r, he, hf⟩ := laws_szPinsS.ev l hn hrows
  refine Ev.bind he ?_
  by_cases h : 0 ≤ r
  · obtain ⟨f1, f2⟩ := hf h
    have hto := laws_toPinsS.ev l f1 f2
    have hv2 : ∀ p ∈ l.map pinsOf, RowsV p.f1 := by
      intro p hp
      obtain ⟨q, hq, rfl⟩ := List.mem_map.mp hp
      exact (f2 q hq).v
    have hl2 : (l.map pinsOf).length ≤ 9223372036854775807 := by simpa using hn
    have heq := laws_eqPinsS.ev (l.map pinsOf) hl2 hv2
    have hsp := GhostKeys.both (l.map pinsOf) hl2 hv2
    refine Ev.no (by omega) (Ev.bind hto (Ev.bind hsp.1 (Ev.bind hto (Ev.bind hsp.2 (Ev.yes rfl (Ev.step (fun k => rfl) ?_))))))
    simp only [laws_FnExactGhostKeys.j0]
    exact Ev.no (by simp) (Ev.bind hto (Ev.bind heq (Ev.yes rfl (Ev.now _))))
  · exact Ev.yes (by omega) (Ev.now _)
end Go.Proofs.Ytcnjiffoghganaa.P