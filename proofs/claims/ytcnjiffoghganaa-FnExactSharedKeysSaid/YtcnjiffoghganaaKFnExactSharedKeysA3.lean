import Derived.Test.YtcnjiffoghganaaKFnExactSharedKeysA0
import Derived.Test.YtcnjiffoghganaaKFnExactSharedKeysA2
import Derived.Test.YtcnjiffoghganaaKFnExactSharedKeysA1
import Derived.Deep.RegionHeld3
namespace Go.Proofs.Ytcnjiffoghganaa.P
open Go.RowKit Go.Proofs.YtcnjiffoghganaaW.PrintWords Go.Proofs.YtcnjiffoghganaaW.PrintLast Go.Proofs.YtcnjiffoghganaaW.PrintMore
attribute [local go_sem] max2_int min2_int max_two min_two max_three min_three max_four min_four
set_option linter.unusedVariables false
set_option linter.unusedSimpArgs false
/-! All keys that open: what impl (place after place) and spec (key after key) come to. -/
def dT (d : Int) : ByteArray := textB [d]
theorem dT_size (d : Int) : (dT d).size = 1 := by unfold dT; rw [textB_size]; rfl
def extK : List (List Int) → ByteArray → List ByteArray
  | [], s => [s]
  | r :: t, s => r.flatMap fun d => extK t (s ++ dT d)
def bfsK : List (List Int) → List ByteArray → List ByteArray
  | [], L => L
  | r :: t, L => bfsK t (L.flatMap fun s => r.map fun d => s ++ dT d)
theorem bfsK_ext : ∀ (l : List (List Int)) (L : List ByteArray), bfsK l L = L.flatMap (extK l) := by
  intro l
  induction l with
  | nil => intro L; show L = L.flatMap (fun s => [s]); rw [List.flatMap_singleton']
  | cons r t ih =>
    intro L
    show bfsK t (L.flatMap fun s => r.map fun d => s ++ dT d) = L.flatMap fun s => r.flatMap fun d => extK t (s ++ dT d)
    rw [ih, List.flatMap_assoc]
    congr 1
    funext s
    rw [List.flatMap_map]
def prodK (l : List (List Int)) : Nat := l.foldr (fun r n => r.length * n) 1
theorem flatMap_len {α β : Type} (f : α → List β) (c : Nat) : ∀ (l : List α), (∀ x ∈ l, (f x).length = c) → (l.flatMap f).length = l.length * c := by
  intro l
  induction l with
  | nil => intro _; simp
  | cons a t ih =>
    intro h
    rw [List.flatMap_cons, List.length_append, h a List.mem_cons_self, ih (fun x hx => h x (List.mem_cons_of_mem _ hx)), List.length_cons, Nat.succ_mul, Nat.add_comm]
theorem extK_len : ∀ (l : List (List Int)) (s : ByteArray), (extK l s).length = prodK l := by
  intro l
  induction l with
  | nil => intro s; rfl
  | cons r t ih =>
    intro s
    show (r.flatMap fun d => extK t (s ++ dT d)).length = r.length * prodK t
    exact flatMap_len _ _ _ (fun d _ => ih _)
/-- Rows of pins: short ones. -/
def Short (l : List (List Int)) : Prop := l.length ≤ 7 ∧ ∀ r ∈ l, r.length ≤ 9 ∧ ∀ x ∈ r, 0 ≤ x ∧ x < 10
theorem prodK_le : ∀ (l : List (List Int)), (∀ r ∈ l, r.length ≤ 9) → prodK l ≤ 9 ^ l.length := by
  intro l
  induction l with
  | nil => intro _; exact Nat.le_refl _
  | cons r t ih =>
    intro h
    show r.length * prodK t ≤ 9 ^ (t.length + 1)
    rw [Nat.pow_succ, Nat.mul_comm]
    exact Nat.mul_le_mul (ih (fun x hx => h x (List.mem_cons_of_mem _ hx))) (h r List.mem_cons_self)
theorem prodK_big {l : List (List Int)} (h : Short l) : prodK l ≤ 4782969 := Nat.le_trans (prodK_le l (fun r hr => (h.2 r hr).1)) (Nat.le_trans (Nat.pow_le_pow_right (by omega) h.1) (by decide))
theorem keysF_prod : ∀ (l : List (List Int)) (a : Nat), (∀ r ∈ l, r.length ≤ 9) → a * 9 ^ l.length ≤ 4782969 → l.foldl (fun n r => wrap64 (n * r.length)) (a : Int) = ((a * prodK l : Nat) : Int) := by
  intro l
  induction l with
  | nil => intro a _ _; show (a : Int) = ((a * 1 : Nat) : Int); rw [Nat.mul_one]
  | cons r t ih =>
    intro a h hb
    have hr := h r List.mem_cons_self
    rw [List.foldl_cons]
    have h1 : a * r.length * 9 ^ t.length ≤ 4782969 := by
      refine Nat.le_trans ?_ hb
      rw [List.length_cons, Nat.pow_succ, Nat.mul_assoc]
      refine Nat.mul_le_mul_left a ?_
      rw [Nat.mul_comm]
      exact Nat.mul_le_mul_left _ hr
    have h2 : a * r.length ≤ 4782969 := Nat.le_trans (Nat.le_mul_of_pos_right _ (Nat.pow_pos (by omega))) h1
    have hw : wrap64 ((a : Int) * (r.length : Int)) = ((a * r.length : Nat) : Int) := by
      rw [Int.natCast_mul a r.length |>.symm]
      exact w64 (by omega) (by omega)
    rw [hw, ih (a * r.length) (fun x hx => h x (List.mem_cons_of_mem _ hx)) h1]
    show ((a * r.length * prodK t : Nat) : Int) = ((a * (r.length * prodK t) : Nat) : Int)
    rw [Nat.mul_assoc]
theorem keysF_is {l : List (List Int)} (h : Short l) : keysF l = (prodK l : Int) := by
  have := keysF_prod l 1 (fun r hr => (h.2 r hr).1) (by rw [Nat.one_mul]; exact Nat.le_trans (Nat.pow_le_pow_right (by omega) h.1) (by decide))
  rw [Nat.one_mul] at this
  exact this
/-! spec -/
theorem spec_keAll.lev (n : Int) (L : List (List Int)) (hS : Short L) : ∀ (m : Nat) (s : ByteArray), s.size + m = L.length → Ev (fun k => spec_keAll.f k n L s) (extK (L.drop s.size) s) := by
  have h7 := hS.1
  intro m
  induction m with
  | zero =>
    intro s hs
    refine Ev.step (fun k => rfl) (Ev.yes (by omega) (Ev.id ?_))
    rw [List.drop_eq_nil_of_le (by omega)]; rfl
  | succ m ih =>
    intro s hs
    have hlt : s.size < L.length := by omega
    refine Ev.step (fun k => rfl) (Ev.no (by omega) (Ev.yes (by omega) (Ev.yes (by omega) ?_)))
    rw [rd_row hlt, List.drop_eq_getElem_cons hlt]
    have hrow := hS.2 L[s.size] (List.getElem_mem hlt)
    have hbig : (extK (L[s.size] :: L.drop (s.size + 1)) s).length ≤ 4782969 := by
      rw [extK_len]
      refine prodK_big ⟨?_, fun r hr => ?_⟩
      · rw [List.length_cons, List.length_drop]; omega
      · rcases List.mem_cons.mp hr with rfl | hr
        · exact hrow
        · exact hS.2 r (List.mem_of_mem_drop hr)
    have hT : extK (L[s.size] :: L.drop (s.size + 1)) s = L[s.size].flatMap fun d => extK (L.drop (s.size + 1)) (s ++ dT d) := rfl
    rw [hT] at hbig ⊢
    generalize L[s.size] = row at hrow hbig ⊢
    have hlev : ∀ (q i : Nat) (acc : List ByteArray), i + q = row.length → acc ++ ((row.drop i).flatMap fun d => extK (L.drop (s.size + 1)) (s ++ dT d)) = (row.flatMap fun d => extK (L.drop (s.size + 1)) (s ++ dT d)) → Ev (fun k => spec_keAll.l0 k s acc row (row.length : Int) (i : Nat) n L) (row.flatMap fun d => extK (L.drop (s.size + 1)) (s ++ dT d)) := by
      intro q
      induction q with
      | zero =>
        intro i acc hi hacc
        rw [show row.drop i = [] from List.drop_eq_nil_of_le (by omega), List.flatMap_nil, List.append_nil] at hacc
        exact Ev.step (fun k => rfl) (Ev.no (by omega) (Ev.id hacc))
      | succ q ihq =>
        intro i acc hi hacc
        have hil : i < row.length := by omega
        have hx := hrow.2 row[i] (List.getElem_mem hil)
        have hlen := hacc
        rw [List.drop_eq_getElem_cons hil, List.flatMap_cons] at hacc
        have hl2 : acc.length + (extK (L.drop (s.size + 1)) (s ++ dT row[i])).length ≤ 4782969 := by
          refine Nat.le_trans ?_ hbig
          rw [← hacc, List.length_append, List.length_append]
          omega
        have hsz : (s ++ dT row[i]).size = s.size + 1 := by rw [ByteArray.size_append, dT_size]
        have hr9 := hrow.1
        have hgo := ih (s ++ dT row[i]) (by omega)
        rw [hsz] at hgo
        have hw := amk (wr_succ (c := i) (by omega))
        have hd1 := dT_size row[i]
        refine Ev.step (fun k => rfl) (Ev.yes (by omega) (Ev.yes (by omega) (Ev.yes (by omega) ?_)))
        rw [rd_int hil, hw.out]
        refine Ev.bind (spec_l1Num.one hx.2) (Ev.yes ?_ (Ev.bind hgo (Ev.yes (by omega) ?_)))
        · show s.size + (dT row[i]).size ≤ 9223372036854775807
          omega
        · exact ihq (i + 1) _ (by omega) (by rw [List.append_assoc]; exact hacc)
    exact hlev row.length 0 [] (by omega) (by rw [List.drop_zero]; rfl)
theorem spec_keAll.ev (n : Int) (L : List (List Int)) (hS : Short L) : Ev (fun k => spec_keAll.f k n L ⟨#[]⟩) (extK L ⟨#[]⟩) := by
  have := spec_keAll.lev n L hS L.length ⟨#[]⟩ (by show 0 + L.length = L.length; omega)
  exact this
/-! impl -/
theorem impl_text.one (d : Int) : Ev (fun k => impl_text.f k [d]) (dT d) := impl_text.ev [d] (by show 1 ≤ 1000000; omega)
theorem impl_Pins_all.lev2 (L : List (List Int)) (li : Int) (row : List Int) (hrow : row.length ≤ 9) (s : ByteArray) (hs : s.size ≤ 7) (X : List ByteArray) (j : Nat) (N : Nat) (hN : N ≤ 4782969 * 9) (o : List ByteArray × Bool) (T : List ByteArray) (hT : T.length ≤ N)
    (hgo : Ev (fun k => impl_Pins_all.l1 k row T L (L.length : Int) li X (X.length : Int) (wrap64 ((j : Int) + 1))) o) :
    ∀ (q i : Nat) (acc : List ByteArray), i + q = row.length → acc ++ ((row.drop i).map fun d => s ++ dT d) = T → Ev (fun k => impl_Pins_all.l2 k row acc s L (L.length : Int) li X (X.length : Int) (j : Int) row (row.length : Int) (i : Int)) o := by
  intro q
  induction q with
  | zero =>
    intro i acc hi hacc
    rw [List.drop_eq_nil_of_le (by omega), List.map_nil, List.append_nil] at hacc
    subst hacc
    exact Ev.step (fun k => rfl) (Ev.no (by omega) hgo)
  | succ q ih =>
    intro i acc hi hacc
    have hil : i < row.length := by omega
    rw [List.drop_eq_getElem_cons hil, List.map_cons] at hacc
    have hl2 : acc.length ≤ N := by
      refine Nat.le_trans ?_ hT
      rw [← hacc, List.length_append]
      omega
    have hw := amk (wr_succ (c := i) (by omega))
    have hd1 := dT_size row[i]
    refine Ev.step (fun k => rfl) (Ev.yes (by omega) (Ev.yes (by omega) (Ev.yes (by omega) ?_)))
    rw [rd_int hil, hw.out]
    refine Ev.bind (impl_text.one _) (Ev.yes (by omega) (Ev.yes (by omega) ?_))
    exact ih (i + 1) _ (by omega) (by rw [List.append_assoc]; exact hacc)
theorem impl_Pins_all.lev1 (L : List (List Int)) (li : Int) (row : List Int) (hrow : row.length ≤ 9) (X : List ByteArray) (hX : X.length ≤ 4782969) (hXs : ∀ s ∈ X, s.size ≤ 7) (o : List ByteArray × Bool)
    (hgo : Ev (fun k => impl_Pins_all.l0 k (X.flatMap fun s => row.map fun d => s ++ dT d) L (L.length : Int) (wrap64 (li + 1))) o) :
    ∀ (q j : Nat) (acc : List ByteArray), j + q = X.length → acc.length ≤ j * 9 → acc ++ ((X.drop j).flatMap fun s => row.map fun d => s ++ dT d) = (X.flatMap fun s => row.map fun d => s ++ dT d) → Ev (fun k => impl_Pins_all.l1 k row acc L (L.length : Int) li X (X.length : Int) (j : Int)) o := by
  intro q
  induction q with
  | zero =>
    intro j acc hj hal hacc
    rw [List.drop_eq_nil_of_le (by omega), List.flatMap_nil, List.append_nil] at hacc
    rw [← hacc] at hgo
    exact Ev.step (fun k => rfl) (Ev.no (by omega) hgo)
  | succ q ih =>
    intro j acc hj hal hacc
    have hjl : j < X.length := by omega
    rw [List.drop_eq_getElem_cons hjl, List.flatMap_cons] at hacc
    have hw := amk (wr_big (c := j) (by omega))
    have hs7 := hXs X[j] (List.getElem_mem hjl)
    refine Ev.step (fun k => rfl) (Ev.yes (by omega) (Ev.yes (by omega) (Ev.yes (by omega) ?_)))
    rw [rd_str hjl]
    have hml : (row.map fun d => X[j] ++ dT d).length = row.length := List.length_map _
    refine impl_Pins_all.lev2 L li row hrow X[j] hs7 X j (4782969 * 9) (Nat.le_refl _) o (acc ++ (row.map fun d => X[j] ++ dT d)) (by rw [List.length_append, hml]; omega) ?_ row.length 0 acc (by omega) (by rw [List.drop_zero])
    rw [hw.out]
    exact ih (j + 1) _ (by omega) (by rw [List.length_append, hml]; omega) (by rw [List.append_assoc]; exact hacc)
theorem impl_Pins_all.lev0 (L : List (List Int)) (hS : Short L) : ∀ (q i : Nat) (X : List ByteArray), i + q = L.length → X.length ≤ 9 ^ i → (∀ s ∈ X, s.size = i) → Ev (fun k => impl_Pins_all.l0 k X L (L.length : Int) (i : Int)) (bfsK (L.drop i) X, true) := by
  have h7 := hS.1
  intro q
  induction q with
  | zero =>
    intro i X hi hX hXs
    refine Ev.step (fun k => rfl) (Ev.no (by omega) (Ev.id ?_))
    rw [List.drop_eq_nil_of_le (by omega)]; rfl
  | succ q ih =>
    intro i X hi hX hXs
    have hil : i < L.length := by omega
    have hrow := hS.2 L[i] (List.getElem_mem hil)
    have h9 : 9 ^ i ≤ 4782969 := Nat.le_trans (Nat.pow_le_pow_right (by omega) (by omega : i ≤ 7)) (by decide)
    have hw := amk (wr_succ (c := i) (by omega))
    refine Ev.step (fun k => rfl) (Ev.yes (by omega) (Ev.yes (by omega) (Ev.yes (by omega) ?_)))
    rw [rd_row hil, List.drop_eq_getElem_cons hil]
    refine impl_Pins_all.lev1 L i L[i] hrow.1 X (by omega) (fun s hs => by have := hXs s hs; omega) _ ?_ X.length 0 [] (by omega) (Nat.zero_le _) (by rw [List.drop_zero]; rfl)
    rw [hw.out]
    refine ih (i + 1) _ (by omega) ?_ ?_
    · rw [flatMap_len _ L[i].length X (fun s _ => List.length_map _), Nat.pow_succ]
      exact Nat.mul_le_mul hX hrow.1
    · intro s hs
      obtain ⟨t, ht, hs⟩ := List.mem_flatMap.mp hs
      obtain ⟨d, _, rfl⟩ := List.mem_map.mp hs
      rw [ByteArray.size_append, dT_size, hXs t ht]
/-! Marks on texts, that they are held, lists of texts compared. -/
theorem laws_markText.lev : ∀ (n : Nat) (x : Int) (s : ByteArray), 0 ≤ x → x ≤ n → s.size + n ≤ 2000000 → ∃ t, Ev (fun k => laws_markText.l0 k x s) t := by
  intro n
  induction n with
  | zero =>
    intro x s h0 hx hs
    exact ⟨_, Ev.step (fun k => rfl) (Ev.no (by omega) (Ev.yes (by omega) (Ev.now _)))⟩
  | succ n ih =>
    intro x s h0 hx hs
    by_cases e : x > 0
    · have hd : Int.tdiv x 10 = x / 10 := Int.tdiv_eq_ediv_of_nonneg h0
      have hq : wrap64 (Int.tdiv x 10) = x / 10 := by rw [hd]; exact w64 (by omega) (by omega)
      have hsz : (strOfNums [wrap64 (48 + Int.tmod x 10) % 256]).size = 1 := by rw [strOfNums_size]; rfl
      obtain ⟨t, ht⟩ := ih (x / 10) (strOfNums [wrap64 (48 + Int.tmod x 10) % 256] ++ s) (by omega) (by omega) (by rw [ByteArray.size_append, hsz]; omega)
      refine ⟨t, Ev.step (fun k => rfl) (Ev.yes e ?_)⟩
      simp only [Option.bind_some, hq]
      exact Ev.yes (by rw [hsz]; omega) ht
    · exact ⟨_, Ev.step (fun k => rfl) (Ev.no e (Ev.yes (by omega) (Ev.now _)))⟩
theorem laws_markText.ev (a : Int) (h0 : 0 ≤ a) (h1 : a ≤ 1000000) : ∃ t, Ev (fun k => laws_markText.f k a) t := by
  by_cases e : a ≤ 0
  · exact ⟨_, by unfold laws_markText.f; exact Ev.yes e (Ev.now _)⟩
  · obtain ⟨t, ht⟩ := laws_markText.lev a.toNat a ⟨#[]⟩ (by omega) (by omega) (by show 0 + _ ≤ _; omega)
    exact ⟨t, by unfold laws_markText.f; exact Ev.no e ht⟩
theorem laws_eqStringS.lev (l : List ByteArray) (hn : l.length ≤ 1000000) : ∀ (m i : Nat), i + m = l.length → Ev (fun k => laws_eqStringS.l0 k l l (i : Nat)) true := by
  intro m
  induction m with
  | zero => intro i hi; exact Ev.step (fun k => rfl) (Ev.no (by omega) (Ev.now _))
  | succ m ih =>
    intro i hi
    refine Ev.step (fun k => rfl) (Ev.yes (by omega) (Ev.yes (by omega) (Ev.yes (by omega) (Ev.yes rfl ?_))))
    rw [show wrap64 ((i : Int) + 1) = ((i + 1 : Nat) : Int) from w64 (by omega) (by omega)]
    exact ih (i + 1) (by omega)
theorem laws_eqStringS.ev (l : List ByteArray) (hn : l.length ≤ 1000000) : Ev (fun k => laws_eqStringS.f k l l) true := by
  unfold laws_eqStringS.f
  exact Ev.yes rfl (laws_eqStringS.lev l hn l.length 0 (by omega))
theorem laws_markStringS.lev : ∀ (j : Nat) (l : List ByteArray) (a : Int) (i : Nat), i + j = l.length → l.length ≤ 1000 → 0 ≤ a → a + j ≤ 2000 →
    ∃ l' : List ByteArray, l'.length = l.length ∧ (∀ m : Nat, m < i → l'[m]? = l[m]?) ∧ Ev (fun k => laws_markStringS.l0 k l a (i : Nat)) (a + j, l') ∧ Ev (fun k => laws_heldStringS.l0 k l' a (i : Nat)) (a + j) := by
  intro j
  induction j with
  | zero =>
    intro l a i hi hn ha hb
    exact ⟨l, rfl, fun _ _ => rfl, Ev.step (fun k => rfl) (Ev.no (by omega) (Ev.id (by simp))), Ev.step (fun k => rfl) (Ev.no (by omega) (Ev.id (by simp)))⟩
  | succ j ih =>
    intro l a i hi hn ha hb
    have hlt : i < l.length := by omega
    have e1 : wrap64 (a + 1) = a + 1 := w64 (by omega) (by omega)
    have e4 : wrap64 ((i : Int) + 1) = ((i + 1 : Nat) : Int) := w64 (by omega) (by omega)
    obtain ⟨t, ht⟩ := laws_markText.ev a ha (by omega)
    obtain ⟨l', hl, hk, hm, hh⟩ := ih (l.set i t) (a + 1) (i + 1) (by simp; omega) (by simpa using hn) (by omega) (by omega)
    rw [List.length_set] at hl
    have hat : l'[i]? = some t := by
      rw [hk i (by omega)]
      simp [hlt]
    have hat' : rdOf ByteArray.empty l' (i : Nat) = t := by
      unfold rdOf
      simp [List.getD, hat]
    refine ⟨l', hl, fun m hmi => ?_, ?_, ?_⟩
    · rw [hk m (by omega), List.getElem?_set_ne (by omega)]
    · refine Ev.step (fun k => rfl) (Ev.yes (by omega) (Ev.bind ht (Ev.yes (by omega) ?_)))
      rw [e1, e4, Int.toNat_natCast]
      exact Ev.eq hm (by rw [Prod.mk.injEq]; exact ⟨by omega, rfl⟩)
    · refine Ev.step (fun k => rfl) (Ev.yes (by omega) (Ev.yes (by omega) (Ev.bind ht ?_)))
      rw [e1, e4]
      exact Ev.yes (by rw [hat']) (Ev.eq hh (by omega))
theorem laws_markStringS.ev (l : List ByteArray) (hn : l.length ≤ 1000) : ∃ l' : List ByteArray, Ev (fun k => laws_markStringS.f k l 1) (1 + (l.length : Nat), l') ∧ Ev (fun k => laws_heldStringS.f k l' 1) (1 + (l.length : Nat)) := by
  obtain ⟨l', _, _, hm, hh⟩ := laws_markStringS.lev l.length l 1 0 (by omega) hn (by omega) (by omega)
  exact ⟨l', hm, hh⟩
/-! ### laws_heldIntS: function 134 -/
def laws_heldIntS.l0 : Nat → List Int → Int → Int → Option (Int)
  | 0, _, _, _ => none
  | k + 1, x0, x1, x5 => if x5 < (x0.length : Int) then (if 0 ≤ x5 then (if (rd x0 x5) = x1 then (laws_heldIntS.l0 k x0 (wrap64 (x1 + 1)) (wrap64 (x5 + 1))) else (some (-1))) else (none)) else (some x1)
/-! Marks on numbers, that they are held, lists of numbers compared. -/
theorem laws_markIntS.lev : ∀ (j : Nat) (l : List Int) (a : Int) (i : Nat), i + j = l.length → l.length ≤ 1048576 → 0 ≤ a → a + j ≤ 2000000 →
    ∃ l' : List Int, l'.length = l.length ∧ (∀ m : Nat, m < i → l'[m]? = l[m]?) ∧ Ev (fun k => laws_markIntS.l0 k l a (i : Nat)) (a + j, l') ∧ Ev (fun k => laws_heldIntS.l0 k l' a (i : Nat)) (a + j) := by
  intro j
  induction j with
  | zero =>
    intro l a i hi hn ha hb
    exact ⟨l, rfl, fun _ _ => rfl, Ev.step (fun k => rfl) (Ev.no (by omega) (Ev.id (by simp))), Ev.step (fun k => rfl) (Ev.no (by omega) (Ev.id (by simp)))⟩
  | succ j ih =>
    intro l a i hi hn ha hb
    have hlt : i < l.length := by omega
    have e1 : wrap64 (a + 1) = a + 1 := w64 (by omega) (by omega)
    have e4 : wrap64 ((i : Int) + 1) = ((i + 1 : Nat) : Int) := w64 (by omega) (by omega)
    obtain ⟨l', hl, hk, hm, hh⟩ := ih (l.set i a) (a + 1) (i + 1) (by simp; omega) (by simpa using hn) (by omega) (by omega)
    rw [List.length_set] at hl
    have hat : l'[i]? = some a := by
      rw [hk i (by omega)]
      simp [hlt]
    have hat' : rd l' (i : Nat) = a := by
      unfold rd
      simp [List.getD, hat]
    refine ⟨l', hl, fun m hmi => ?_, ?_, ?_⟩
    · rw [hk m (by omega), List.getElem?_set_ne (by omega)]
    · refine Ev.step (fun k => rfl) (Ev.yes (by omega) (Ev.yes (by omega) ?_))
      rw [e1, e4, Int.toNat_natCast]
      exact Ev.eq hm (by rw [Prod.mk.injEq]; exact ⟨by omega, rfl⟩)
    · refine Ev.step (fun k => rfl) (Ev.yes (by omega) (Ev.yes (by omega) ?_))
      rw [e1, e4]
      exact Ev.yes hat' (Ev.eq hh (by omega))
/-! ### laws_heldIntSS: function 83 -/
/-! ### laws_heldPins: function 28 -/
/-! laws.markPins, by hand. -/
/-! laws.FnExactAllKeys, by hand: the arguments' rows are marked. -/
section
variable {w W W2 : World} {n : Int} {A : Option Addr} {c : Nat} {L Lx Lx' : List (List Int)} {bx ax : Nat} {Ax : Option Addr} {cx aw bw : Nat} {Aw : Option Addr} {cw : Nat} {V : List ByteArray} {ag bg : Nat} {Ag : Option Addr} {cg : Nat} {Vg Vg' : List ByteArray}
end
theorem opens_t3 : Opens Try.prog 3 (Kd.int .i64) IntV := opens_int Try.underlying3
theorem opens_t86 : Opens Try.prog 86 (Kd.slice 3 (Kd.int .i64)) (ListV IntV) := opens_slice Try.underlying86 opens_t3 (by kernel_rfl)
theorem opens_t35 : Opens Try.prog 35 (Kd.slice 86 (Kd.slice 3 (Kd.int .i64))) (ListV (ListV IntV)) := opens_slice Try.underlying35 opens_t86 (by kernel_rfl)
def V37 (x : S37) : Prop := IntV x.f0 ∧ (ListV (ListV IntV)) x.f1
theorem opens_t37 : Opens Try.prog 37 k37 V37 := opens_iso (opens_pair Try.underlying37 opens_t3 opens_t35 (by kernel_rfl) (by kernel_rfl) (by kernel_rfl) (by kernel_rfl) (by kernel_rfl)) (fun x : S37 => (x.f0, x.f1)) (fun p => ⟨p.1, p.2⟩) (fun _ => rfl)
theorem opens_t54 : Opens Try.prog 54 (Kd.slice 37 k37) (ListV V37) := opens_slice Try.underlying54 opens_t37 (by kernel_rfl)
/-! The law FnExactAllKeys: its calls, all told. -/
def totL (l : List (List Int)) : Nat := l.foldr (fun r n => r.length + n) 0
theorem markRows_ev : ∀ (l : List (List Int)) (a : Int), 0 ≤ a → a + (totL l : Int) ≤ 2000000 → totL l ≤ 1048576 → ∃ l', Ev (fun k => markRows k l a) (a + (totL l : Int), l') := by
  intro l
  induction l with
  | nil => intro a h0 _ _; exact ⟨[], Ev.id (by rw [Prod.mk.injEq]; exact ⟨by show a = a + 0; omega, rfl⟩)⟩
  | cons x t ih =>
    intro a h0 h1 h2
    have ht : totL (x :: t) = x.length + totL t := rfl
    rw [ht] at h1 h2 ⊢
    obtain ⟨x', _, _, hm, _⟩ := laws_markIntS.lev x.length x a 0 (by omega) (by omega) h0 (by omega)
    obtain ⟨t', ht'⟩ := ih (a + x.length) (by omega) (by omega) (by omega)
    refine ⟨x' :: t', Ev.bind hm (Ev.bind ht' (Ev.id ?_))⟩
    rw [Prod.mk.injEq]
    exact ⟨by omega, rfl⟩
theorem C_rowsV {w : World} {A : Option Addr} {l : List (List Int)} (h : Kd.C (Kd.slice 3 (Kd.int .i64)) w A l.length l) : RowsV l := by
  refine ⟨h.2.1, fun r hr => ?_⟩
  obtain ⟨i, hi, rfl⟩ := List.getElem_of_mem hr
  obtain ⟨ad, cs, e, _, hK, _⟩ := Kd.C_get h ([] : List Int) (i : Int) (by omega) (by omega)
  obtain ⟨A0, c0, _, l0, g0⟩ := hK
  rw [Int.toNat_natCast, getD_at hi] at g0
  exact g0.2.1
/-! Marks on rows of numbers: what is marked is held. -/
theorem laws_szPins.evA (n : Int) (l : List (List Int)) (hl : RowsV l) (a : Int) (h0 : 0 ≤ a) (h1 : a ≤ 1048576) : ∃ r, Ev (fun k => laws_szPins.f k n l a) r ∧ (0 ≤ r → (totL l : Int) + r ≤ a ∧ RowsM l) := by
  have hl1 := hl.1
  have hlev : ∀ (m i : Nat) (a : Int), i + m = l.length → 0 ≤ a → a ≤ 1048576 → ∃ r, r ≤ a ∧ Ev (fun k => laws_szIntSS.l0 k l a (i : Nat)) r ∧ (0 ≤ r → (totL (l.drop i) : Int) + r ≤ a) := by
    intro m
    induction m with
    | zero =>
      intro i a hi h0 h1
      refine ⟨a, Int.le_refl _, Ev.step (fun k => rfl) (Ev.no (by omega) (Ev.now _)), fun _ => ?_⟩
      rw [List.drop_eq_nil_of_le (by omega)]
      show ((0 : Nat) : Int) + a ≤ a
      omega
    | succ m ih =>
      intro i a hi h0 h1
      have hlt : i < l.length := by omega
      have hx := hl.2 l[i] (List.getElem_mem hlt)
      by_cases h : (l[i].length : Int) ≤ a
      · obtain ⟨r, hr, he, hf⟩ := ih (i + 1) (a - l[i].length) (by omega) (by omega) (by omega)
        refine ⟨r, by omega, Ev.step (fun k => rfl) (Ev.yes (by omega) (Ev.yes (by omega) ?_)), fun hr0 => ?_⟩
        · rw [rd_row hlt]
          refine Ev.bindc (laws_szIntS.is _ _ h0 h1 hx) ?_
          rw [if_pos h, w64 (x := (i : Int) + 1) (by omega) (by omega)]
          exact Ev.no (by omega) he
        · rw [List.drop_eq_getElem_cons hlt]
          have := hf hr0
          show ((l[i].length + totL (l.drop (i + 1)) : Nat) : Int) + r ≤ a
          omega
      · refine ⟨-1, by omega, Ev.step (fun k => rfl) (Ev.yes (by omega) (Ev.yes (by omega) ?_)), fun hr0 => by omega⟩
        rw [rd_row hlt]
        refine Ev.bindc (laws_szIntS.is _ _ h0 h1 hx) ?_
        rw [if_neg h]
        exact Ev.yes (by omega) (Ev.now _)
  obtain ⟨q, _, hq, hqf⟩ := laws_szPins.ev n l hl a h0 h1
  unfold laws_szPins.f laws_szIntSS.f at hq ⊢
  rw [w64 (x := a - (l.length : Int)) (by omega) (by omega)] at hq ⊢
  by_cases h : (l.length : Int) ≤ a
  · obtain ⟨r, hr, he, hf⟩ := hlev l.length 0 (a - l.length) (by omega) (by omega) (by omega)
    by_cases h2 : 0 ≤ r
    · have hx : Ev (fun k => ((if a - (l.length : Int) < 0 then some (-1) else laws_szIntSS.l0 k l (a - (l.length : Int)) 0).bind fun t => if t < 0 then some (-1) else some t)) r := Ev.bind (Ev.no (by omega) he) (Ev.no (by omega) (Ev.now _))
      have hqr : q = r := Ev.un hq hx
      refine ⟨r, hx, fun hr0 => ⟨?_, hqf (by omega)⟩⟩
      have := hf hr0
      rw [List.drop_zero] at this
      omega
    · exact ⟨-1, Ev.bind (Ev.no (by omega) he) (Ev.yes (by omega) (Ev.now _)), fun hr0 => by omega⟩
  · exact ⟨-1, Ev.bind (Ev.yes (by omega) (Ev.now _)) (Ev.yes (by omega) (Ev.now _)), fun hr0 => by omega⟩
/-! Lists of pins: how large in all, marked, made. -/
def totS (l : List S37) : Nat := l.foldr (fun p n => totL p.f1 + n) 0
theorem totS_cons (p : S37) (l : List S37) : totS (p :: l) = totL p.f1 + totS l := rfl
theorem laws_szPinsS.levA (l : List S37) (hl1 : l.length ≤ 9223372036854775807) (hl : ∀ p ∈ l, RowsV p.f1) : ∀ (m i : Nat) (a : Int), i + m = l.length → 0 ≤ a → a ≤ 1048576 → ∃ r, Ev (fun k => laws_szPinsS.l0 k l a (i : Nat)) r ∧ (0 ≤ r → (totS (l.drop i) : Int) + r ≤ a ∧ ∀ p ∈ l.drop i, RowsM p.f1) := by
  intro m
  induction m with
  | zero =>
    intro i a hi h0 h1
    rw [List.drop_eq_nil_of_le (by omega)]
    exact ⟨a, Ev.step (fun k => rfl) (Ev.no (by omega) (Ev.now _)), fun _ => ⟨by show ((0 : Nat) : Int) + a ≤ a; omega, fun x hx => by simp at hx⟩⟩
  | succ m ih =>
    intro i a hi h0 h1
    have hlt : i < l.length := by omega
    have hx := hl l[i] (List.getElem_mem hlt)
    obtain ⟨s, hse, hsf⟩ := laws_szPins.evA l[i].f0 l[i].f1 hx a h0 h1
    rw [List.drop_eq_getElem_cons hlt]
    by_cases h : 0 ≤ s
    · obtain ⟨f1, f2⟩ := hsf h
      obtain ⟨r, he, hf⟩ := ih (i + 1) s (by omega) h (by omega)
      refine ⟨r, Ev.step (fun k => rfl) (Ev.yes (by omega) (Ev.yes (by omega) ?_)), fun hr0 => ?_⟩
      · rw [rd_lpins hlt]
        refine Ev.bind hse (Ev.no (by omega) ?_)
        rw [w64 (x := (i : Int) + 1) (by omega) (by omega)]
        exact he
      · obtain ⟨g1, g2⟩ := hf hr0
        refine ⟨by rw [totS_cons]; omega, fun x hx => ?_⟩
        rcases List.mem_cons.mp hx with rfl | hx
        · exact f2
        · exact g2 x hx
    · refine ⟨-1, Ev.step (fun k => rfl) (Ev.yes (by omega) (Ev.yes (by omega) ?_)), fun hr0 => by omega⟩
      rw [rd_lpins hlt]
      exact Ev.bind hse (Ev.yes (by omega) (Ev.now _))
theorem laws_szPinsS.evA (l : List S37) (hl1 : l.length ≤ 9223372036854775807) (hl : ∀ p ∈ l, RowsV p.f1) : ∃ r, Ev (fun k => laws_szPinsS.f k l 1048576) r ∧ (0 ≤ r → l.length + totS l ≤ 1048576 ∧ ∀ p ∈ l, RowsM p.f1) := by
  unfold laws_szPinsS.f
  rw [w64 (x := (1048576 : Int) - (l.length : Int)) (by omega) (by omega)]
  by_cases h : (l.length : Int) ≤ 1048576
  · obtain ⟨r, he, hf⟩ := laws_szPinsS.levA l hl1 hl l.length 0 (1048576 - l.length) (by omega) (by omega) (by omega)
    rw [List.drop_zero] at hf
    exact ⟨r, Ev.no (by omega) he, fun hr0 => ⟨by have := (hf hr0).1; omega, (hf hr0).2⟩⟩
  · exact ⟨-1, Ev.yes (by omega) (Ev.now _), fun hr0 => by omega⟩
theorem markP_ev : ∀ (l : List S37) (a : Int), 0 ≤ a → a + l.length + totS l ≤ 2000000 → totS l ≤ 1048576 → Ev (fun k => markP k (l.map pinsOf) a) (a + l.length + totS l) := by
  intro l
  induction l with
  | nil => intro a h0 _ _; exact Ev.id (by show a = a + ((0 : Nat) : Int) + ((0 : Nat) : Int); omega)
  | cons p t ih =>
    intro a h0 h1 h2
    rw [totS_cons] at h1 h2 ⊢
    rw [List.length_cons] at h1 ⊢
    obtain ⟨x', hx⟩ := markRows_ev p.f1 (a + 1) (by omega) (by omega) (by omega)
    have hw : wrap64 (a + 1) = a + 1 := w64 (by omega) (by omega)
    have hx2 : Ev (fun k => laws_markIntSS.f k (pinsOf p).f1 (wrap64 (a + 1))) (a + 1 + (totL p.f1 : Int), x') := by rw [hw]; exact hx
    refine Ev.eq (Ev.bind hx2 (ih (a + 1 + (totL p.f1 : Int)) (by omega) (by omega) (by omega))) (by omega)
theorem ev_all {α β : Type} {f : Nat → α → Option β} {g : α → β} : ∀ (l : List α), (∀ p ∈ l, Ev (fun k => f k p) (g p)) → ∃ K, ∀ k, K ≤ k → ∀ p ∈ l, f k p = some (g p) := by
  intro l
  induction l with
  | nil => intro _; exact ⟨0, fun _ _ p hp => by cases hp⟩
  | cons a t ih =>
    intro h
    obtain ⟨K1, h1⟩ := h a List.mem_cons_self
    obtain ⟨K2, h2⟩ := ih (fun p hp => h p (List.mem_cons_of_mem _ hp))
    refine ⟨K1 + K2, fun k hk p hp => ?_⟩
    rcases List.mem_cons.mp hp with rfl | hp
    · exact h1 k (by omega)
    · exact h2 k (by omega) p hp
theorem C_listV {w : World} {A : Option Addr} {l : List S37} (h : Kd.C k37 w A l.length l) : ∀ p ∈ l, RowsV p.f1 := by
  intro p hp
  obtain ⟨i, hi, rfl⟩ := List.getElem_of_mem hp
  obtain ⟨ad, A1, c1, _, _, _, _, g⟩ := at_T37 h (i : Int) (by omega) (by omega)
  rw [rd_lpins hi] at g
  exact C_rowsV g
/-! The law FnExactSharedKeys: its calls, all told. -/
theorem impl_Pins_all.ev (n : Int) (L : List (List Int)) (hS : Short L) : Ev (fun k => impl_Pins_all.f k n L) (if prodK L ≤ 200 then (extK L ⟨#[]⟩, true) else ([], false)) := by
  have h7 := hS.1
  unfold impl_Pins_all.f
  by_cases h2 : prodK L ≤ 200
  · rw [if_pos h2]
    have hb := impl_Pins_all.lev0 L hS L.length 0 [⟨#[]⟩] (by omega) (by show 1 ≤ 9 ^ 0; decide) (fun s hs => by rw [List.mem_singleton.mp hs]; rfl)
    rw [List.drop_zero, bfsK_ext, List.flatMap_cons, List.flatMap_nil, List.append_nil] at hb
    refine Ev.bind (impl_Pins_keys.ev n L (by omega)) (Ev.no ?_ hb)
    rw [keysF_is hS]; omega
  · rw [if_neg h2]
    refine Ev.bind (impl_Pins_keys.ev n L (by omega)) (Ev.yes ?_ (Ev.now _))
    rw [keysF_is hS]; omega
theorem rowsOf_short (n m : Nat) (hn : n ≤ 9) (hm : m ≤ 7) (f : Nat → Int → Bool) : Short (rowsOf n m f) := by
  refine ⟨by rw [rowsOf_len]; exact hm, fun r hr => ?_⟩
  unfold rowsOf at hr
  obtain ⟨i, _, rfl⟩ := List.mem_map.mp hr
  refine ⟨Nat.le_trans (filter_len_le _ _) (by rw [rngFrom_len]; exact hn), fun x hx => ?_⟩
  have := rngFrom_mem (List.mem_filter.mp hx).1
  omega
def shV (L : List S41) : List ByteArray × Bool := if kindB L = true then (if prodK (rowsOf (rd_T41 L 0).f0.toNat (rd_T41 L 0).f1.length (inB true L)) ≤ 200 then (extK (rowsOf (rd_T41 L 0).f0.toNat (rd_T41 L 0).f1.length (inB true L)) ⟨#[]⟩, true) else ([], false)) else ([], false)
theorem shV_len (L : List S41) : (shV L).1.length ≤ 200 := by
  unfold shV
  by_cases h : kindB L = true
  · rw [if_pos h]
    by_cases h2 : prodK (rowsOf (rd_T41 L 0).f0.toNat (rd_T41 L 0).f1.length (inB true L)) ≤ 200
    · rw [if_pos h2]
      show (extK _ ⟨#[]⟩).length ≤ 200
      rw [extK_len]; exact h2
    · rw [if_neg h2]; exact Nat.zero_le _
  · rw [if_neg h]; exact Nat.zero_le _
theorem SharedKeys.both (L : List S41) (hl2 : L.length ≤ 9223372036854775807) (hv2 : ∀ p ∈ L, RowsV p.f1) : Ev (fun k => spec_SharedKeys.f k L) (shV L) ∧ Ev (fun k => impl_SharedKeys.f k L) (shV L) := by
  unfold spec_SharedKeys.f impl_SharedKeys.f impl_ofKind.f shV
  cases hk : kindB L with
  | false =>
    refine ⟨Ev.bind (spec_keList.ev L hl2 hv2) (Ev.no (by rw [hk]; simp) (Ev.id (by simp))), Ev.bindc rfl (Ev.no (by simp) (Ev.id (by simp)))⟩
  | true =>
    obtain ⟨n, m, hkl, hne, h6⟩ := kindB_KindL hk hv2
    obtain ⟨h0, h1, _⟩ := hkl.2.2 L[0] (List.getElem_mem hne)
    have hq : rd_T41 L 0 = L[0] := rd_pins hne
    have hn0 : L[0].f0.toNat = n := by omega
    have hS := rowsOf_short n m hkl.1 hkl.2.1 (inB true L)
    have hlen : (rowsOf n m (inB true L)).length ≤ 9223372036854775807 := by have := hS.1; omega
    rw [hq, hn0, h1, if_pos rfl]
    refine ⟨Ev.bind (spec_keList.ev L hl2 hv2) (Ev.yes hk (Ev.bind (spec_keJoined.ev true n m L hne hkl) (Ev.bind (spec_keCount.ev _ _ hlen) ?_))), Ev.bindc rfl (Ev.yes rfl (Ev.bind (impl_shared.ev L n m hne hkl (by omega)) (Ev.bind (impl_Pins_all.ev _ _ hS) (Ev.id rfl))))⟩
    rw [keysF_is hS]
    by_cases h2 : prodK (rowsOf n m (inB true L)) ≤ 200
    · rw [if_pos h2]
      exact Ev.no (by omega) (Ev.bind (spec_keAll.ev _ _ hS) (Ev.now _))
    · rw [if_neg h2]
      exact Ev.yes (by omega) (Ev.now _)
set_option maxRecDepth 100000 in
theorem laws_FnExactSharedKeys.walk0 (k : Nat) (L : List S37) (r0 : Int) (A : Option Addr) (c : Nat) (w : World) (hr : Kd.C k37 w A L.length L) (hc : L.length ≤ c) (e1 : laws_szPinsS.f k L 1048576 = some r0) (h0 : r0 < 0) :
    Calls Try.prog 11 #[.slice A L.length c] w fun e w' => e = .returned (.bool true) ∧ Below w.heap.size w w' := by
  have hu54 := Try.underlying54
  have hd0 : decide (r0 < 0) = true := decide_eq_true h0
  have E1 := amk e1
  have HC := amk hc
  have HR := amk hr
  clear e1 hc hr h0
  go_enter Try.func11, Try.ntmps11
  go_wp2_with (go_at_call 34; refine Calls.mono (laws_szPinsS.calls k _ _ L _ r0 _ HR.out HC.out E1.out) ?_; rintro e w2 ⟨rfl, hb⟩; have HB2 := amk hb; clear hb)
  go_ret
  exact ⟨rfl, HB2.out⟩
theorem laws_FnExactSharedKeys.calls (A0 : Option Addr) (c0 : Nat) (l0 : List S37) (r : Bool) (w : World) (hr0 : Kd.C k37 w A0 l0.length l0) (hc0 : l0.length ≤ c0) (h : laws_FnExactSharedKeys.f l0 = some r) :
    Calls Try.prog 11 #[.slice A0 l0.length c0] w fun e w' => e = .returned (.bool r) ∧ Below w.heap.size w w' := by
  obtain rfl := Option.some.inj h
  have hV := C_listV hr0
  have hn := hr0.2.1
  obtain ⟨r0, he0, hf0⟩ := laws_szPinsS.evA l0 hn hV
  by_cases h0 : 0 ≤ r0
  · obtain ⟨ht, hM⟩ := hf0 h0
    have hv2 : ∀ p ∈ l0.map pinsOf, RowsV p.f1 := by
      intro p hp
      obtain ⟨q, hq, rfl⟩ := List.mem_map.mp hp
      exact hV q hq
    have hl2 : (l0.map pinsOf).length ≤ 9223372036854775807 := by simpa using hn
    have hlen := shV_len (l0.map pinsOf)
    obtain ⟨hs3, hs4⟩ := SharedKeys.both (l0.map pinsOf) hl2 hv2
    obtain ⟨k1, e1⟩ := he0
    obtain ⟨k2, e2⟩ := ev_all (f := fun k (p : S37) => laws_toPins.f k p.f0 p.f1) (g := fun p => (p.f0, p.f1)) l0 (fun p hp => laws_toPins.ev p.f0 p.f1 (hM p hp))
    obtain ⟨k3, e3⟩ := hs3
    obtain ⟨k4, e4⟩ := hs4
    obtain ⟨k5, e5⟩ := laws_eqStringS.ev (shV (l0.map pinsOf)).1 (by omega)
    obtain ⟨k6, e6⟩ := laws_eqPinsS.ev (l0.map pinsOf) hl2 hv2
    obtain ⟨k7, e7⟩ := markP_ev l0 1 (by omega) (by omega) (by omega)
    obtain ⟨V', ⟨k8, e8⟩, k9, e9⟩ := laws_markStringS.ev (shV (l0.map pinsOf)).1 (by omega)
    have hk : ∃ k, k1 ≤ k ∧ k2 ≤ k ∧ k3 ≤ k ∧ k4 ≤ k ∧ k5 ≤ k ∧ k6 ≤ k ∧ k7 ≤ k ∧ k8 ≤ k ∧ k9 ≤ k := ⟨k1 + k2 + k3 + k4 + k5 + k6 + k7 + k8 + k9, by omega⟩
    obtain ⟨k, i1, i2, i3, i4, i5, i6, i7, i8, i9⟩ := hk
    exact laws_FnExactSharedKeys.walk k l0 (l0.map pinsOf) rfl (shV (l0.map pinsOf)).1 V' (shV (l0.map pinsOf)).2 r0 _ _ A0 c0 w hr0 hc0 (by omega) (e1 k i1) h0 (e2 k i2) (e3 k i3) (e4 k i4) (e5 k i5) (e6 k i6) (e7 k i7) (by omega) (e8 k i8) (by omega) (e9 k i9)
  · obtain ⟨k1, e1⟩ := he0
    exact laws_FnExactSharedKeys.walk0 k1 l0 r0 A0 c0 w hr0 hc0 (e1 k1 (Nat.le_refl _)) (by omega)
theorem pure_FnExactSharedKeys (l : List S37) (_ : ListV V37 l) : laws_FnExactSharedKeys.f l = some true := rfl
end Go.Proofs.Ytcnjiffoghganaa.P