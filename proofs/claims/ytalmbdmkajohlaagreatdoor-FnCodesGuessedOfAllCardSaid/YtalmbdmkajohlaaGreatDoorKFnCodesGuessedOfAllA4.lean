import Derived.Test.YtalmbdmkajohlaaGreatDoorKFnCodesGuessedOfAllA0
import Derived.Test.YtalmbdmkajohlaaGreatDoorKFnCodesGuessedOfAllA3
import Derived.Test.YtalmbdmkajohlaaGreatDoorKFnCodesGuessedOfAllA2
import Derived.Test.YtalmbdmkajohlaaGreatDoorKFnCodesGuessedOfAllA1
import Derived.HandedShaped
import Derived.LaidMore
import Derived.LaidLaws
import Derived.Lay
import Derived.ProofKit
namespace Go.Proofs.YtalmbdmkajohlaaGreatDoor.P
open Go.RowKit Go.Proofs.YtalmbdmkajohlaaGreatDoorW.PrintWords Go.Proofs.YtalmbdmkajohlaaGreatDoorW.PrintLast Go.Proofs.YtalmbdmkajohlaaGreatDoorW.PrintMore
attribute [local go_sem] max2_int min2_int max_two min_two max_three min_three max_four min_four
set_option linter.unusedVariables false
set_option linter.unusedSimpArgs false
/-! Numbers told by digits, as texts: their order. -/
theorem less_app : ∀ (x y p q : List UInt8), x.length = y.length → Op.bytesLess x y = true → Op.bytesLess (x ++ p) (y ++ q) = true := by
  intro x
  induction x with
  | nil => intro y p q hl h; cases y with
    | nil => exact absurd h (by simp [Op.bytesLess])
    | cons b y => simp at hl
  | cons a x ih => intro y p q hl h; cases y with
    | nil => simp at hl
    | cons b y =>
      have := ih y p q (by simpa using hl)
      simp only [List.cons_append, Op.bytesLess] at h ⊢
      by_cases e : a < b
      · simp [e]
      · simp [e] at h ⊢
        exact ⟨h.1, this h.2⟩
theorem less_pre : ∀ (x p q : List UInt8), Op.bytesLess p q = true → Op.bytesLess (x ++ p) (x ++ q) = true := by
  intro x
  induction x with
  | nil => intro p q h; exact h
  | cons a x ih => intro p q h; simp [Op.bytesLess, ih p q h]
def byD (d : Int) : UInt8 := UInt8.ofNat (48 + d.toNat)
theorem byD_lt {a b : Int} (ha : 0 ≤ a ∧ a < 10) (hb : 0 ≤ b ∧ b < 10) (h : a < b) : byD a < byD b := by
  rw [UInt8.lt_iff_toNat_lt]
  unfold byD
  rw [UInt8.toNat_ofNat', UInt8.toNat_ofNat']
  omega
theorem digs_less {d : Int} (hd : 2 ≤ d) (hd2 : d ≤ 10) : ∀ (m : Nat) (a b : Int), 0 ≤ a → a < b → b < d ^ m → Op.bytesLess ((digs d m a).map byD) ((digs d m b).map byD) = true := by
  intro m
  induction m with
  | zero => intro a b h0 h1 h2; simp at h2; omega
  | succ m ih =>
    intro a b h0 h1 h2
    rw [digs, digs, List.map_append, List.map_append]
    have hm1 := Int.emod_nonneg a (show d ≠ 0 by omega)
    have hm2 := Int.emod_lt_of_pos a (show 0 < d by omega)
    have hm3 := Int.emod_nonneg b (show d ≠ 0 by omega)
    have hm4 := Int.emod_lt_of_pos b (show 0 < d by omega)
    have ha := Int.mul_ediv_add_emod a d
    have hb := Int.mul_ediv_add_emod b d
    have hle : a / d ≤ b / d := Int.ediv_le_ediv (by omega) (by omega)
    by_cases e : a / d < b / d
    · refine less_app _ _ _ _ (by rw [List.length_map, List.length_map, digs_length, digs_length]) (ih _ _ (Int.ediv_nonneg h0 (by omega)) e ?_)
      refine Int.ediv_lt_of_lt_mul (by omega) ?_
      rw [← Int.pow_succ]; exact h2
    · have e2 : a / d = b / d := by omega
      rw [e2]
      refine less_pre _ _ _ ?_
      rw [e2] at ha
      have := byD_lt (a := a % d) (b := b % d) ⟨hm1, by omega⟩ ⟨hm3, by omega⟩ (by omega)
      simp [Op.bytesLess, this]
/-! Solutions: they come in order, they fit all clues, fewer clues leave more of them. -/
theorem codeB_less {w d : Int} (hl : lockB w d = true) {a b : Int} (h0 : 0 ≤ a) (h1 : a < b) (h2 : b < d ^ w.toNat) : Op.bytesLess (codeB w d a).toList (codeB w d b).toList = true := by
  obtain ⟨w1, w2, d1, d2⟩ := lockB_iff.mp hl
  have e : ∀ n, (codeB w d n).toList = (digs d w.toNat n).map byD := fun n => by
    rw [ByteArray.toList_eq]
    exact textB_bytes (fun x hx => by have := digs_range (d := d) (by omega) w.toNat n x hx; omega)
  rw [e, e]
  exact digs_less d1 d2 _ _ _ h0 h1 h2
theorem solA_mem {w d : Int} {l : List S45} : ∀ n, ∀ s ∈ solA w d l n, ∃ k : Nat, k < n ∧ s = codeB w d (k : Nat) ∧ fitA w d l s = true
  | 0 => fun s hs => by simp [solA] at hs
  | n + 1 => fun s hs => by
    unfold solA at hs
    rw [List.mem_append] at hs
    rcases hs with hs | hs
    · obtain ⟨k, h1, h2⟩ := solA_mem n s hs
      exact ⟨k, by omega, h2⟩
    · split at hs
      · rename_i hf
        rw [List.mem_singleton] at hs
        subst hs
        exact ⟨n, by omega, rfl, hf⟩
      · simp at hs
theorem solA_rises {w d : Int} (hl : lockB w d = true) (l : List S45) : ∀ n : Nat, (n : Int) ≤ d ^ w.toNat → (solA w d l n).Pairwise fun x y => Op.bytesLess x.toList y.toList = true
  | 0 => fun _ => List.Pairwise.nil
  | n + 1 => fun hn => by
    unfold solA
    rw [List.pairwise_append]
    refine ⟨solA_rises hl l n (by omega), by split <;> simp, fun x hx y hy => ?_⟩
    split at hy
    · rw [List.mem_singleton] at hy
      subst hy
      obtain ⟨k, h1, rfl, _⟩ := solA_mem n x hx
      exact codeB_less hl (by omega) (by omega) (by omega)
    · simp at hy
theorem solA_nil {w d : Int} : ∀ n, (solA w d [] n).length = n
  | 0 => rfl
  | n + 1 => by unfold solA; rw [List.length_append, solA_nil n]; rfl
/-! Fewer clues leave more solutions. -/
theorem fitA_sub {w d : Int} {l m : List S45} (h : m.Sublist l) {s : ByteArray} (hf : fitA w d l s = true) : fitA w d m s = true := by
  unfold fitA at hf ⊢
  rw [List.all_eq_true] at hf ⊢
  exact fun c hc => hf c (h.subset hc)
theorem solA_sub {w d : Int} {l m : List S45} (h : m.Sublist l) : ∀ n, (solA w d l n).Sublist (solA w d m n)
  | 0 => List.Sublist.refl _
  | n + 1 => by
    unfold solA
    refine List.Sublist.append (solA_sub h n) ?_
    by_cases e : fitA w d l (codeB w d (n : Nat)) = true
    · rw [if_pos e, if_pos (fitA_sub h e)]; exact List.Sublist.refl _
    · rw [if_neg e]; exact List.nil_sublist _
/-! What NeedlessClues comes to, over numbers and lists alone. -/
def needL (w d : Int) (l : List S45) : Nat → List Int
  | 0 => []
  | i + 1 => needL w d l i ++ if (solA w d (l.eraseIdx i) (d ^ w.toNat).toNat).length = (solA w d l (d ^ w.toNat).toNat).length then [((i : Nat) : Int)] else []
theorem needL_len (w d : Int) (l : List S45) : ∀ n, (needL w d l n).length ≤ n
  | 0 => by simp [needL]
  | n + 1 => by
    have := needL_len w d l n
    simp only [needL, List.length_append]
    split <;> simp <;> omega
theorem erase_ok {w d : Int} {l : List S45} (h : ∀ c ∈ l, clueB w d c.f0 c.f1 c.f2 = true) (i : Nat) : ∀ c ∈ l.eraseIdx i, clueB w d c.f0 c.f1 c.f2 = true := fun c hc => h c (List.mem_of_mem_eraseIdx hc)
theorem spec_pzWithout.one {l : List S45} {i : Nat} (h6 : l.length ≤ 6) (hi : i < l.length) : spec_pzWithout.f l (i : Nat) = some (l.eraseIdx i) := by
  unfold spec_pzWithout.f
  have hw : wrap64 ((i : Int) + 1) = ((i + 1 : Nat) : Int) := w64 (by omega) (by omega)
  simp only [Option.bind_some, hw, Int.toNat_natCast, List.nil_append]
  rw [if_pos (by omega), if_pos (by omega), if_pos (by simp; omega), if_pos (by omega), if_pos (by omega), if_pos (by simp; omega), List.eraseIdx_eq_take_drop_succ]
theorem impl_but.one {l : List S45} {i : Nat} (h6 : l.length ≤ 6) (hi : i < l.length) : impl_but.f l (i : Nat) = some (l.eraseIdx i) := by
  unfold impl_but.f
  rw [if_pos ⟨by omega, by omega, by omega⟩, Int.toNat_natCast]
theorem impl_NeedlessClues.lev {w d : Int} (hl : lockB w d = true) (l : List S45) (h6 : l.length ≤ 6) (h : ∀ c ∈ l, clueB w d c.f0 c.f1 c.f2 = true) : ∀ (m i : Nat), i + m = l.length → Ev (fun k => impl_NeedlessClues.l0 k (solA w d l (d ^ w.toNat).toNat) (needL w d l i) (l.length : Int) (i : Nat) w d l) (needL w d l l.length, true) := by
  intro m
  induction m with
  | zero =>
    intro i hi
    refine Ev.step (fun k => rfl) (Ev.no (by omega) (Ev.id ?_))
    rw [show i = l.length by omega]
  | succ m ih =>
    intro i hi
    have hx := needL_len w d l i
    refine Ev.step (fun k => rfl) (Ev.yes (by omega) (Ev.bindc (impl_but.one h6 (by omega)) (Ev.bind (impl_Lock_solutions.ev hl _ (erase_ok h i)) ?_)))
    rw [show wrap64 ((i : Int) + 1) = ((i + 1 : Nat) : Int) from w64 (by omega) (by omega)]
    have hh := ih (i + 1) (by omega)
    rw [needL] at hh
    by_cases e : (solA w d (l.eraseIdx i) (d ^ w.toNat).toNat).length = (solA w d l (d ^ w.toNat).toNat).length
    · rw [if_pos e] at hh; exact Ev.yes (by omega) (Ev.yes (by omega) hh)
    · rw [if_neg e, List.append_nil] at hh; exact Ev.no (by omega) hh
def needR (w d : Int) (l : List S45) : List Int × Bool := if puzzleB w d l = true then (needL w d l l.length, true) else ([], false)
theorem needR_len (w d : Int) (l : List S45) : (needR w d l).1.length ≤ 1000000 := by
  unfold needR
  cases h : puzzleB w d l with
  | true => obtain ⟨_, h2, _⟩ := puzzleB_parts h; have := needL_len w d l l.length; rw [if_pos rfl]; show (needL w d l l.length).length ≤ _; omega
  | false => simp
theorem impl_NeedlessClues.ev (w d : Int) (l : List S45) : Ev (fun k => impl_NeedlessClues.f k w d l) (needR w d l) := by
  unfold impl_NeedlessClues.f needR
  refine Ev.bind (impl_Solutions.ev w d l) ?_
  cases h : puzzleB w d l with
  | true =>
    obtain ⟨h1, h2, h3⟩ := puzzleB_parts h
    rw [if_pos rfl, if_pos rfl]
    exact Ev.yes rfl (impl_NeedlessClues.lev h1 l h2 h3 l.length 0 (by omega))
  | false =>
    rw [if_neg (by simp), if_neg (by simp)]
    exact Ev.no (by simp) (Ev.now _)
/-! First solutions, sure digits, what clues leave, needless clues, best clues: what the law asks of them. -/
theorem first_is {xs : List ByteArray} (h : ¬ xs.length = 0) : firstV xs = (rdOf ByteArray.empty xs 0, true) := by unfold firstV; exact if_neg h
theorem bt_nums {L : List Int} (h : ∀ x ∈ L, 0 ≤ x ∧ x < 256) {i : Nat} (hi : i < L.length) : bt (strOfNums L) (i : Nat) = L[i] := by
  have hx := h L[i] (List.getElem_mem hi)
  have hs : (strOfNums L).size = L.length := strOfNums_size L
  unfold bt
  rw [dif_pos (by rw [hs]; simpa using hi)]
  have e1 : ((strOfNums L)[(i : Int).toNat]'(by rw [hs]; simpa using hi)) = UInt8.ofNat (L[i]).toNat := by
    show (strOfNums L).data[(i : Int).toNat]'_ = _
    have : (strOfNums L).data = (L.map fun n => UInt8.ofNat n.toNat).toArray := rfl
    simp [this]
  rw [e1]
  simp
  omega
theorem bt_byteB (s : ByteArray) (i : Int) : 0 ≤ bt s i ∧ bt s i < 256 := by
  unfold bt
  split
  · exact ⟨Int.natCast_nonneg _, by have := (s[i.toNat]).toNat_lt; omega⟩
  · exact ⟨Int.le_refl _, by omega⟩
theorem sureC_byte (xs : List ByteArray) (s : ByteArray) (j i : Nat) : 0 ≤ sureC xs s j i ∧ sureC xs s j i < 256 := by
  unfold sureC
  split
  · exact bt_byteB s _
  · omega
theorem sureC_fits {xs : List ByteArray} {s t : ByteArray} (ht : t ∈ xs) (i : Nat) : sureC xs s xs.length i = 63 ∨ sureC xs s xs.length i = bt t (i : Nat) := by
  unfold sureC
  split
  · rename_i h
    rw [List.all_eq_true] at h
    exact Or.inr (of_decide_eq_true (h t (by rw [List.take_length]; exact ht))).symm
  · exact Or.inl rfl
theorem sureL_byte (xs : List ByteArray) (s : ByteArray) (j n : Nat) : ∀ x ∈ sureL xs s j n, 0 ≤ x ∧ x < 256 := by
  intro x hx
  obtain ⟨i, _, rfl⟩ := List.mem_map.mp hx
  exact sureC_byte xs s j i
theorem bt_sureL (xs : List ByteArray) (s : ByteArray) (j n i : Nat) (h : i < n) : bt (strOfNums (sureL xs s j n)) (i : Nat) = sureC xs s j i := by
  rw [bt_nums (sureL_byte xs s j n) (by rw [sureL_length]; exact h), sureL_get]
theorem bt_all {a b : ByteArray} (hs : a.size = b.size) (h : ∀ i < a.size, bt a (i : Nat) = bt b (i : Nat)) : a = b := by
  apply ByteArray.ext
  apply Array.ext
  · exact hs
  · intro i h1 h2
    have := h i h1
    unfold bt at this
    rw [dif_pos (by simpa using h1), dif_pos (by simpa using h2)] at this
    simp only [Int.toNat_natCast] at this
    exact UInt8.toNat_inj.mp (by exact_mod_cast this)
theorem sureV_yes {w d : Int} {l : List S45} (hp : puzzleB w d l = true) (h0 : ¬ (solA w d l (d ^ w.toNat).toNat).length = 0) : ∃ S, sureV w d l = (S, true) ∧ S.size = w.toNat ∧ (∀ t ∈ solA w d l (d ^ w.toNat).toNat, ∀ i : Nat, i < w.toNat → bt S (i : Nat) = 63 ∨ bt S (i : Nat) = bt t (i : Nat)) ∧ ((solA w d l (d ^ w.toNat).toNat).length = 1 → S = rdOf ByteArray.empty (solA w d l (d ^ w.toNat).toNat) 0) := by
  have hl := (puzzleB_parts hp).1
  have hc := solA_code hl l (d ^ w.toNat).toNat
  unfold sureV
  rw [if_pos hp, if_neg h0]
  generalize solA w d l (d ^ w.toNat).toNat = xs at h0 hc
  have hm : hdS xs ∈ xs := by
    show rdOf ByteArray.empty xs ((0 : Nat) : Int) ∈ xs
    rw [rdOf_get (by omega)]
    exact List.getElem_mem _
  have hsz := (hc _ hm).1
  have hS : (strOfNums (sureL xs (hdS xs) xs.length (hdS xs).size)).size = w.toNat := by rw [strOfNums_size, sureL_length, hsz]
  refine ⟨_, rfl, hS, fun t ht i hi => ?_, fun h1 => ?_⟩
  · rw [bt_sureL _ _ _ _ _ (by omega)]
    exact sureC_fits ht i
  · refine bt_all (by rw [hS]; exact hsz.symm) (fun i hi => ?_)
    rw [bt_sureL _ _ _ _ _ (by omega)]
    show _ = bt (hdS xs) (i : Nat)
    unfold sureC
    rw [if_pos]
    rw [List.all_eq_true, List.take_length]
    intro t ht
    have : t = hdS xs := by
      match xs, h1, ht with
      | [x], _, ht => rw [List.mem_singleton] at ht; rw [ht]; rfl
    rw [this]
    exact decide_eq_true rfl
theorem rd_left {w d : Int} {l : List S45} {n j : Nat} (h : j < n) : rd (leftL w d l n) (j : Nat) = ((solA w d (l.take j) (d ^ w.toNat).toNat).length : Int) := by
  rw [rd_at (by simpa [leftL] using h)]
  simp [leftL]
theorem left_falls {w d : Int} {l : List S45} {n j : Nat} (h : j + 1 < n) : rd (leftL w d l n) ((j + 1 : Nat) : Int) ≤ rd (leftL w d l n) (j : Nat) := by
  rw [rd_left h, rd_left (by omega)]
  have := (solA_sub (w := w) (d := d) (List.take_sublist_take_left (l := l) (show j ≤ j + 1 by omega)) (d ^ w.toNat).toNat).length_le
  omega
theorem left_len {w d : Int} {l : List S45} {n : Nat} : (leftL w d l n).length = n := by simp [leftL]
theorem left_first {w d : Int} {l : List S45} {n : Nat} (hd : 0 ≤ d) (h : 0 < n) : rd (leftL w d l n) ((0 : Nat) : Int) = d ^ w.toNat := by
  rw [rd_left h, List.take_zero, solA_nil]
  have : 0 ≤ d ^ w.toNat := Int.pow_nonneg hd
  omega
theorem left_last {w d : Int} {l : List S45} : rd (leftL w d l (l.length + 1)) (l.length : Nat) = ((solA w d l (d ^ w.toNat).toNat).length : Int) := by
  rw [rd_left (Nat.lt_succ_self _), List.take_length]
theorem needL_mem {w d : Int} {l : List S45} {i : Nat} : ∀ n, ((i : Int) ∈ needL w d l n ↔ i < n ∧ (solA w d (l.eraseIdx i) (d ^ w.toNat).toNat).length = (solA w d l (d ^ w.toNat).toNat).length)
  | 0 => by simp [needL]
  | n + 1 => by
    rw [needL, List.mem_append, needL_mem n]
    constructor
    · rintro (h | h)
      · exact ⟨by omega, h.2⟩
      · split at h
        · rename_i e
          rw [List.mem_singleton] at h
          have : i = n := by omega
          subst this
          exact ⟨by omega, e⟩
        · simp at h
    · intro h
      by_cases e : i = n
      · subst e
        right
        rw [if_pos h.2]
        exact List.mem_singleton.mpr rfl
      · exact Or.inl ⟨by omega, h.2⟩
theorem bestV_range {f : Nat → Int} {N : Nat} : ∀ (m i : Nat) (b x : Int), i + m = N → 0 ≤ b → b < N → 0 ≤ bestV f m i b x ∧ bestV f m i b x < N
  | 0, _, _, _ => fun _ h0 h1 => ⟨h0, h1⟩
  | m + 1, i, b, x => fun h h0 h1 => by
    unfold bestV
    split
    · exact bestV_range m (i + 1) _ _ (by omega) (by omega) (by omega)
    · exact bestV_range m (i + 1) _ _ (by omega) h0 h1
/-! What IsSolved comes to, over numbers and lists alone. -/
theorem impl_IsSolved.ev (w d : Int) (l : List S45) : Ev (fun k => impl_IsSolved.f k w d l) (if puzzleB w d l = true then (((solA w d l (d ^ w.toNat).toNat).length : Int) == 1, true) else (false, false)) := by
  unfold impl_IsSolved.f
  refine Ev.bind (impl_Solutions.ev w d l) (Ev.id ?_)
  cases h : puzzleB w d l <;> simp
/-! Solved or not, as the reference tells it. -/
theorem spec_IsSolved.ev (w d : Int) (l : List S45) (hn : l.length ≤ 9223372036854775807) : Ev (fun k => spec_IsSolved.f k w d l) (if puzzleB w d l = true then (((solA w d l (d ^ w.toNat).toNat).length : Int) == 1, true) else (false, false)) := by
  unfold spec_IsSolved.f spec_pzSolved.f
  refine Ev.bind (spec_pzGood.ev w d l hn) ?_
  cases h : puzzleB w d l with
  | true =>
    obtain ⟨h1, h2, h3⟩ := puzzleB_parts h
    rw [if_pos rfl]
    exact Ev.yes rfl (Ev.bind (Ev.bind (spec_pzAll.ev h1 l h2 h3) (Ev.now _)) (Ev.now _))
  | false =>
    rw [if_neg (by simp)]
    exact Ev.no (by simp) (Ev.now _)
/-! What clues leave: what the two come to. -/
theorem spec_LeftByClues.lev {w d : Int} (hl : lockB w d = true) (l : List S45) (h6 : l.length ≤ 6) (h : ∀ c ∈ l, clueB w d c.f0 c.f1 c.f2 = true) : ∀ (m i : Nat), i + m = l.length + 1 → Ev (fun k => spec_LeftByClues.l0 k (leftL w d l i) (i : Nat) w d l) (leftL w d l (l.length + 1), true) := by
  intro m
  induction m with
  | zero =>
    intro i hi
    refine Ev.step (fun k => rfl) (Ev.no (by omega) (Ev.id ?_))
    rw [show i = l.length + 1 by omega]
  | succ m ih =>
    intro i hi
    refine Ev.step (fun k => rfl) (Ev.yes (by omega) (Ev.yes (by omega) ?_))
    rw [Int.toNat_natCast]
    refine Ev.bind (spec_pzAll.ev hl _ (by rw [List.length_take]; omega) (take_ok h i)) (Ev.yes (by simp [leftL]; omega) ?_)
    rw [show wrap64 ((i : Int) + 1) = ((i + 1 : Nat) : Int) from w64 (by omega) (by omega), ← leftL_succ]
    exact ih (i + 1) (by omega)
theorem impl_LeftByClues.lev {w d : Int} (hl : lockB w d = true) (l : List S45) (h6 : l.length ≤ 6) (h : ∀ c ∈ l, clueB w d c.f0 c.f1 c.f2 = true) : ∀ (m i : Nat), i + m = l.length + 1 → Ev (fun k => impl_LeftByClues.l0 k (leftL w d l i) (((l.length + 1 : Nat)) : Int) (i : Nat) w d l) (leftL w d l (l.length + 1), true) := by
  intro m
  induction m with
  | zero =>
    intro i hi
    refine Ev.step (fun k => rfl) (Ev.no (by omega) (Ev.id ?_))
    rw [show i = l.length + 1 by omega]
  | succ m ih =>
    intro i hi
    refine Ev.step (fun k => rfl) (Ev.yes (by omega) (Ev.yes (by omega) (Ev.yes (by omega) ?_)))
    rw [Int.toNat_natCast]
    refine Ev.bind (impl_Lock_solutions.ev hl _ (take_ok h i)) (Ev.yes (by simp [leftL]; omega) ?_)
    rw [show wrap64 ((i : Int) + 1) = ((i + 1 : Nat) : Int) from w64 (by omega) (by omega), ← leftL_succ]
    exact ih (i + 1) (by omega)
theorem spec_LeftByClues.ev (w d : Int) (l : List S45) (hn : l.length ≤ 9223372036854775807) : Ev (fun k => spec_LeftByClues.f k w d l) (leftR w d l) := by
  unfold spec_LeftByClues.f leftR
  refine Ev.bind (spec_pzGood.ev w d l hn) ?_
  cases h : puzzleB w d l with
  | true =>
    obtain ⟨h1, h2, h3⟩ := puzzleB_parts h
    rw [if_pos rfl]
    exact Ev.yes rfl (spec_LeftByClues.lev h1 l h2 h3 (l.length + 1) 0 (by omega))
  | false =>
    rw [if_neg (by simp)]
    exact Ev.no (by simp) (Ev.now _)
theorem impl_LeftByClues.ev (w d : Int) (l : List S45) : Ev (fun k => impl_LeftByClues.f k w d l) (leftR w d l) := by
  unfold impl_LeftByClues.f leftR
  refine Ev.bindc (show impl_IsPuzzle.f w d l = some (puzzleB w d l) from rfl) ?_
  cases h : puzzleB w d l with
  | true =>
    obtain ⟨h1, h2, h3⟩ := puzzleB_parts h
    rw [if_pos rfl]
    rw [show wrap64 ((l.length : Int) + 1) = ((l.length + 1 : Nat) : Int) from w64 (by omega) (by omega)]
    exact Ev.yes rfl (impl_LeftByClues.lev h1 l h2 h3 (l.length + 1) 0 (by omega))
  | false =>
    rw [if_neg (by simp)]
    exact Ev.no (by simp) (Ev.now _)
/-! Needless clues, as the reference tells them. -/
theorem spec_NeedlessClues.lev {w d : Int} (hl : lockB w d = true) (l : List S45) (h6 : l.length ≤ 6) (h : ∀ c ∈ l, clueB w d c.f0 c.f1 c.f2 = true) : ∀ (m i : Nat), i + m = l.length → Ev (fun k => spec_NeedlessClues.l0 k (needL w d l i) ((solA w d l (d ^ w.toNat).toNat).length : Int) (l.length : Int) (i : Nat) w d l) (needL w d l l.length, true) := by
  intro m
  induction m with
  | zero =>
    intro i hi
    refine Ev.step (fun k => rfl) (Ev.no (by omega) (Ev.id ?_))
    rw [show i = l.length by omega]
  | succ m ih =>
    intro i hi
    have hx := needL_len w d l i
    have he := List.length_eraseIdx_le l i
    refine Ev.step (fun k => rfl) (Ev.yes (by omega) (Ev.bindc (spec_pzWithout.one h6 (by omega)) (Ev.bind (spec_pzAll.ev hl _ (by omega) (erase_ok h i)) ?_)))
    rw [show wrap64 ((i : Int) + 1) = ((i + 1 : Nat) : Int) from w64 (by omega) (by omega)]
    have hh := ih (i + 1) (by omega)
    rw [needL] at hh
    by_cases e : (solA w d (l.eraseIdx i) (d ^ w.toNat).toNat).length = (solA w d l (d ^ w.toNat).toNat).length
    · rw [if_pos e] at hh; exact Ev.yes (by omega) (Ev.yes (by omega) hh)
    · rw [if_neg e, List.append_nil] at hh; exact Ev.no (by omega) hh
theorem spec_NeedlessClues.ev (w d : Int) (l : List S45) (hn : l.length ≤ 9223372036854775807) : Ev (fun k => spec_NeedlessClues.f k w d l) (needR w d l) := by
  unfold spec_NeedlessClues.f needR
  refine Ev.bind (spec_pzGood.ev w d l hn) ?_
  cases h : puzzleB w d l with
  | true =>
    obtain ⟨h1, h2, h3⟩ := puzzleB_parts h
    rw [if_pos rfl]
    exact Ev.yes rfl (Ev.bind (spec_pzAll.ev h1 l h2 h3) (spec_NeedlessClues.lev h1 l h2 h3 l.length 0 (by omega)))
  | false =>
    rw [if_neg (by simp)]
    exact Ev.no (by simp) (Ev.now _)
/-! What Solutions comes to, over numbers and lists alone. -/
def solR (w d : Int) (l : List S45) : List ByteArray × Bool := if puzzleB w d l = true then (solA w d l (d ^ w.toNat).toNat, true) else ([], false)
theorem solR_len (w d : Int) (l : List S45) : (solR w d l).1.length ≤ 1000 := by
  unfold solR
  cases h : puzzleB w d l with
  | true =>
    have h2 : smallB w d 125 = true := by unfold puzzleB at h; rw [Bool.and_eq_true, Bool.and_eq_true] at h; exact h.1.1
    have := (smallB_iff.mp h2).2
    have := solA_len w d l (d ^ w.toNat).toNat
    rw [if_pos rfl]; show (solA w d l (d ^ w.toNat).toNat).length ≤ _; omega
  | false => simp
theorem impl_Solutions.evR (w d : Int) (l : List S45) : Ev (fun k => impl_Solutions.f k w d l) (solR w d l) := impl_Solutions.ev w d l
/-! Solutions, as the reference tells them. -/
theorem spec_Solutions.ev (w d : Int) (l : List S45) (hn : l.length ≤ 9223372036854775807) : Ev (fun k => spec_Solutions.f k w d l) (solR w d l) := by
  unfold spec_Solutions.f solR
  refine Ev.bind (spec_pzGood.ev w d l hn) ?_
  cases h : puzzleB w d l with
  | true =>
    obtain ⟨h1, h2, h3⟩ := puzzleB_parts h
    rw [if_pos rfl]
    exact Ev.yes rfl (Ev.bind (spec_pzAll.ev h1 l h2 h3) (Ev.now _))
  | false =>
    rw [if_neg (by simp)]
    exact Ev.no (by simp) (Ev.now _)
/-! Sure digits: what the two come to. -/
theorem spec_SureDigits.ev (w d : Int) (l : List S45) (hn : l.length ≤ 9223372036854775807) : Ev (fun k => spec_SureDigits.f k w d l) (sureV w d l) := by
  unfold spec_SureDigits.f sureV
  refine Ev.bind (spec_pzGood.ev w d l hn) ?_
  cases h : puzzleB w d l with
  | true =>
    obtain ⟨h1, h2, h3⟩ := puzzleB_parts h
    rw [if_pos rfl]
    refine Ev.yes rfl (Ev.bind (spec_pzAll.ev h1 l h2 h3) ?_)
    by_cases e : (solA w d l (d ^ w.toNat).toNat).length = 0
    · exact Ev.eq (Ev.yes e (Ev.now _)) (by rw [if_pos e])
    · exact Ev.eq (Ev.no e (Ev.yes (sureOk_solA h1 l _ e) (Ev.now _))) (by rw [if_neg e])
  | false =>
    rw [if_neg (by simp)]
    exact Ev.no (by simp) (Ev.now _)
theorem impl_SureDigits.ev (w d : Int) (l : List S45) : Ev (fun k => impl_SureDigits.f k w d l) (sureV w d l) := by
  unfold impl_SureDigits.f sureV
  refine Ev.bind (impl_Solutions.ev w d l) ?_
  cases h : puzzleB w d l with
  | true =>
    obtain ⟨h1, h2, h3⟩ := puzzleB_parts h
    have hs := sureOk_solA h1 l (d ^ w.toNat).toNat
    rw [if_pos rfl]
    simp only [if_true]
    generalize solA w d l (d ^ w.toNat).toNat = xs at hs
    by_cases e : xs.length = 0
    · exact Ev.eq (Ev.yes e (Ev.now _)) (by rw [if_pos e])
    · exact Ev.eq (Ev.no e (Ev.yes (hs e) (Ev.now _))) (by rw [if_neg e])
  | false =>
    exact Ev.now ((⟨#[]⟩ : ByteArray), false)
/-! What the callees of the law FnCodesGuessedOfAll come to, told at once. -/
theorem laws_eHas.ev (l : List Int) (hn : l.length ≤ 1000000) (n : Int) : Ev (fun k => laws_eHas.f k l n) (decide (n ∈ l)) := by
  have : ∀ (m i : Nat), i + m = l.length → Ev (fun k => laws_eHas.l0 k n l (l.length : Int) (i : Nat)) (decide (n ∈ l.drop i)) := by
    intro m
    induction m with
    | zero =>
      intro i hi
      refine Ev.step (fun k => rfl) (Ev.no (by omega) (Ev.id ?_))
      rw [List.drop_eq_nil_of_le (by omega)]; rfl
    | succ m ih =>
      intro i hi
      have hlt : i < l.length := by omega
      rw [List.drop_eq_getElem_cons hlt]
      refine Ev.step (fun k => rfl) (Ev.yes (by omega) (Ev.yes (by omega) (Ev.yes (by omega) ?_)))
      rw [show rd l (i : Nat) = l[i] from rd_at (by simpa using hlt)]
      by_cases h : l[i] = n
      · exact Ev.yes h (Ev.id (decide_eq_true (by rw [h]; exact List.mem_cons_self)).symm)
      · refine Ev.no h ?_
        rw [show wrap64 ((i : Int) + 1) = ((i + 1 : Nat) : Int) from w64 (by omega) (by omega), show decide (n ∈ l[i] :: l.drop (i + 1)) = decide (n ∈ l.drop (i + 1)) from decide_eq_decide.mpr (by rw [List.mem_cons]; exact ⟨fun e => e.resolve_left (fun e => h e.symm), Or.inr⟩)]
        exact ih (i + 1) (by omega)
  unfold laws_eHas.f
  have := this l.length 0 (by omega)
  rw [List.drop_zero] at this
  exact this
theorem impl_CountCodes.ev {w d : Int} (h : lockB w d = true) : Ev (fun k => impl_CountCodes.f k w d) (d ^ w.toNat, true) := by
  unfold impl_CountCodes.f
  rw [impl_IsLock.is, h]
  exact Ev.bindc rfl (Ev.yes rfl (Ev.bind (impl_Lock_count.ev h) (Ev.now _)))
theorem parse_own {w d : Int} {l : List S45} (h : puzzleB w d l = true) : Ev (fun k => impl_ParsePuzzle.f k (puzzleT w d l)) (w, d, l, true) := by
  have hs := puzzleT_small h
  obtain ⟨w1, d1, l1, hi, o1⟩ := impl_ParsePuzzle.ev (puzzleT w d l) (by omega)
  obtain ⟨rfl, rfl, rfl⟩ := o1 w d l h rfl
  have e : qqV w1 d1 l1 (puzzleT w1 d1 l1) = (w1, d1, l1, true) := by unfold qqV; exact if_pos ⟨h, rfl⟩
  rw [e] at hi
  exact hi
theorem guess_S : Guess_S := by
  intro s hs
  obtain ⟨w1, d1, l1, hi, o1⟩ := impl_ParsePuzzle.ev s hs
  obtain ⟨w2, d2, l2, hx, o2⟩ := spec_ParsePuzzle.ev s hs
  rw [qqV_own o2 o1] at hx
  have q1 := qqV_len w1 d1 l1 s
  by_cases h : puzzleB w1 d1 l1 = true ∧ puzzleT w1 d1 l1 = s
  · have e : qqV w1 d1 l1 s = (w1, d1, l1, true) := by unfold qqV; exact if_pos h
    rw [e] at hi hx q1
    have ht := impl_PuzzleText.ev w1 d1 l1
    have e2 : pzV w1 d1 l1 = (s, true) := by unfold pzV; rw [if_pos h.1, h.2]
    rw [e2] at ht
    obtain ⟨k, hk⟩ := Evt.and hi (Evt.and hx (Evt.and (laws_ePuzzle.ev w1 d1 l1 (by simp only at q1; omega)) ht))
    obtain ⟨g1, g2, g3, g4⟩ := hk k (Nat.le_refl _)
    exact ⟨k, w1, d1, l1, true, g1, g2, g3, fun _ => g4⟩
  · have e : qqV w1 d1 l1 s = (0, 0, [], false) := by unfold qqV; exact if_neg h
    rw [e] at hi hx
    obtain ⟨k, hk⟩ := Evt.and hi (Evt.and hx (laws_ePuzzle.ev 0 0 [] (by simp)))
    obtain ⟨g1, g2, g3⟩ := hk k (Nat.le_refl _)
    exact ⟨k, 0, 0, [], false, g1, g2, g3, fun h => absurd h (by simp)⟩
theorem guess_fits {w d : Int} {l : List S45} (h : puzzleB w d l = true) {t : ByteArray} (ht : t ∈ solA w d l (d ^ w.toNat).toNat) {c : S45} (hc : c ∈ l) : Ev (fun k => impl_DoesFit.f k w d c.f0 c.f1 c.f2 t) (true, true) := by
  obtain ⟨hl, h6, hcl⟩ := puzzleB_parts h
  have hs := solA_code hl l _ t ht
  obtain ⟨_, _, _, hf⟩ := solA_mem _ t ht
  have h1 : smallB w d 125 = true := by unfold puzzleB at h; rw [Bool.and_eq_true, Bool.and_eq_true] at h; exact h.1.1
  have e := impl_DoesFit.ev w d c.f0 c.f1 c.f2 t
  unfold fitA at hf
  rw [List.all_eq_true] at hf
  have e2 : doesV w d c.f0 c.f1 c.f2 t = (true, true) := by
    unfold doesV
    rw [if_pos (by rw [h1, hcl c hc, codeT_iff.mpr hs]; rfl), hf c hc]
  rw [e2] at e
  exact e
theorem guess_drop {w d : Int} {l : List S45} (h : puzzleB w d l = true) (i : Nat) (hi : i < l.length) : Evt fun k => ∃ still, impl_CountSolutions.f k w d (l.eraseIdx i) = some (still, true) ∧ laws_eHas.f k (needL w d l l.length) (i : Nat) = some (still == ((solA w d l (d ^ w.toNat).toNat).length : Int)) := by
  obtain ⟨hl, h6, hcl⟩ := puzzleB_parts h
  have hq : puzzleB w d (l.eraseIdx i) = true := by
    unfold puzzleB at h ⊢
    simp only [Bool.and_eq_true, decide_eq_true_eq, List.all_eq_true] at h ⊢
    refine ⟨⟨h.1.1, ?_⟩, fun c hc => h.2 c (List.mem_of_mem_eraseIdx hc)⟩
    rw [List.length_eraseIdx_of_lt hi]; omega
  have e1 := impl_CountSolutions.ev w d (l.eraseIdx i)
  rw [if_pos hq] at e1
  have hn := needL_len w d l l.length
  have e2 := laws_eHas.ev (needL w d l l.length) (by omega) (i : Nat)
  have e3 : decide (((i : Nat) : Int) ∈ needL w d l l.length) = (((solA w d (l.eraseIdx i) (d ^ w.toNat).toNat).length : Int) == ((solA w d l (d ^ w.toNat).toNat).length : Int)) := by
    rw [Bool.eq_iff_iff, decide_eq_true_eq, needL_mem, beq_iff_eq]
    constructor
    · intro e; omega
    · intro e; exact ⟨hi, by omega⟩
  rw [e3] at e2
  exact Evt.mono (Evt.and e1 e2) (fun k e => ⟨_, e.1, e.2⟩)
theorem guess_P : Guess_P := by
  intro P D L hL
  have A1 := impl_Solutions.evR P D L
  have A2 := spec_Solutions.ev P D L (by omega)
  have A3 := impl_CountSolutions.ev P D L
  have A4 := spec_CountSolutions.ev P D L (by omega)
  have A5 := impl_FirstSolution.ev P D L
  have A6 := spec_FirstSolution.ev P D L (by omega)
  have A7 := impl_SureDigits.ev P D L
  have A8 := spec_SureDigits.ev P D L (by omega)
  have A9 := impl_IsSolved.ev P D L
  have A10 := spec_IsSolved.ev P D L (by omega)
  have A11 := impl_NeedlessClues.ev P D L
  have A12 := spec_NeedlessClues.ev P D L (by omega)
  have A13 := impl_LeftByClues.ev P D L
  have A14 := spec_LeftByClues.ev P D L (by omega)
  have A15 := impl_BestClue.ev P D L
  have A16 := spec_BestClue.ev P D L (by omega)
  have A17 := impl_PuzzleText.ev P D L
  have A18 := spec_PuzzleText.ev P D L (by omega)
  have A20 : Ev (fun k => spec_IsPuzzle.f k P D L) (puzzleB P D L) := Ev.bind (spec_pzGood.ev P D L (by omega)) (Ev.now _)
  have hsl := solR_len P D L
  have hnl := needR_len P D L
  have hll := leftR_len P D L
  cases h : puzzleB P D L with
  | false =>
    have z1 : solR P D L = ([], false) := by unfold solR; rw [h]; exact if_neg (by simp)
    have z2 : sureV P D L = (⟨#[]⟩, false) := by unfold sureV; rw [h]; exact if_neg (by simp)
    have z3 : needR P D L = ([], false) := by unfold needR; rw [h]; exact if_neg (by simp)
    have z4 : leftR P D L = ([], false) := by unfold leftR; rw [h]; exact if_neg (by simp)
    have z5 : bestR P D L = (0, false) := by unfold bestR; rw [h]; exact if_neg (by simp)
    have z6 : pzV P D L = (⟨#[]⟩, false) := by unfold pzV; rw [h]; exact if_neg (by simp)
    rw [h, if_neg (by simp)] at A3 A4 A5 A6 A9 A10
    rw [z1] at A1 A2
    rw [z2] at A7 A8
    rw [z3] at A11 A12
    rw [z4] at A13 A14
    rw [z5] at A15 A16
    rw [z6] at A17 A18
    rw [h] at A20
    obtain ⟨k, hk⟩ := Evt.and A1 (Evt.and A2 (Evt.and A3 (Evt.and A4 (Evt.and A5 (Evt.and A6 (Evt.and A7 (Evt.and A8 (Evt.and A9 (Evt.and A10 (Evt.and A11 (Evt.and A12 (Evt.and A13 (Evt.and A14 (Evt.and A15 (Evt.and A16 (Evt.and A17 (Evt.and A18 (Evt.and A20 (Evt.and (laws_eTexts.ev [] (by simp)) (laws_eSame.ev [] (by simp)))))))))))))))))))))
    obtain ⟨g1, g2, g3, g4, g5, g6, g7, g8, g9, g10, g11, g12, g13, g14, g15, g16, g17, g18, g20, g21, g22⟩ := hk k (Nat.le_refl _)
    exact ⟨k, [], false, false, false, false, 0, 0, 0, ⟨#[]⟩, ⟨#[]⟩, ⟨#[]⟩, [], [], g1, g2, g3, g4, g5, g6, g7, g8, g9, g10, g11, g12, g13, g14, g15, g16, g17, g18, congrArg some h, g20, g21, g22, g22, rfl, rfl, fun h => absurd h (by simp)⟩
  | true =>
    obtain ⟨hl, h6, hcl⟩ := puzzleB_parts h
    obtain ⟨w1, w2, d1, d2⟩ := lockB_iff.mp hl
    have hpos : 0 ≤ D ^ P.toNat := Int.pow_nonneg (by omega)
    have z1 : solR P D L = (solA P D L (D ^ P.toNat).toNat, true) := by unfold solR; exact if_pos h
    have z3 : needR P D L = (needL P D L L.length, true) := by unfold needR; exact if_pos h
    have z4 : leftR P D L = (leftL P D L (L.length + 1), true) := by unfold leftR; exact if_pos h
    have z6 : pzV P D L = (puzzleT P D L, true) := by unfold pzV; exact if_pos h
    obtain ⟨best, five, z5, hfive, hbest⟩ : ∃ best five, bestR P D L = (best, five) ∧ five = decide ((L.length : Int) > 0) ∧ (0 < L.length → 0 ≤ best ∧ best < L.length) := by
      unfold bestR
      rw [if_pos h]
      by_cases e : L.length = 0
      · rw [if_pos e]; exact ⟨_, _, rfl, (decide_eq_false (by omega)).symm, fun h => by omega⟩
      · rw [if_neg e]; exact ⟨_, _, rfl, (decide_eq_true (by omega)).symm, fun _ => bestV_range (N := L.length) _ _ _ _ (by omega) (Int.le_refl _) (by omega)⟩
    have hri := solA_rises hl L (D ^ P.toNat).toNat (by omega)
    have hco := solA_code hl L (D ^ P.toNat).toNat
    obtain ⟨first, sure, three, z7, z2, h3, h3s, h1s, hfit⟩ : ∃ first sure three, firstV (solA P D L (D ^ P.toNat).toNat) = (first, three) ∧ sureV P D L = (sure, three) ∧ three = decide (((solA P D L (D ^ P.toNat).toNat).length : Int) > 0) ∧ (three = true → first = rdOf ByteArray.empty (solA P D L (D ^ P.toNat).toNat) 0 ∧ sure.size = P.toNat) ∧ ((solA P D L (D ^ P.toNat).toNat).length = 1 → sure = first) ∧ (∀ t ∈ solA P D L (D ^ P.toNat).toNat, ∀ i : Nat, i < P.toNat → bt sure (i : Nat) = 63 ∨ bt sure (i : Nat) = bt t (i : Nat)) := by
      by_cases e : (solA P D L (D ^ P.toNat).toNat).length = 0
      · refine ⟨⟨#[]⟩, ⟨#[]⟩, false, by unfold firstV; exact if_pos e, by unfold sureV; rw [if_pos h, if_pos e], (decide_eq_false (by omega)).symm, fun h => absurd h (by simp), fun e1 => by omega, fun t ht => ?_⟩
        rw [List.eq_nil_of_length_eq_zero e] at ht
        simp at ht
      · obtain ⟨S, s1, s2, s3, s4⟩ := sureV_yes h e
        exact ⟨_, S, true, first_is e, s1, (decide_eq_true (by omega)).symm, fun _ => ⟨rfl, s2⟩, fun e1 => s4 e1, s3⟩
    rw [h, if_pos rfl] at A3 A4 A5 A6 A9 A10
    rw [z1] at A1 A2 hsl
    rw [z2] at A7 A8
    rw [z3] at A11 A12 hnl
    rw [z4] at A13 A14 hll
    rw [z5] at A15 A16
    rw [z6] at A17 A18
    rw [z7] at A5 A6
    rw [h] at A20
    have hsl2 : (solA P D L (D ^ P.toNat).toNat).length ≤ 1000 := hsl
    have B1 := laws_eTexts.ev (solA P D L (D ^ P.toNat).toNat) (by omega)
    have B2 := laws_eSame.ev (needL P D L L.length) (by have := needL_len P D L L.length; omega)
    have B3 := laws_eSame.ev (leftL P D L (L.length + 1)) (by rw [left_len]; omega)
    have B4 := impl_CountCodes.ev hl
    have B5 := laws_eSorted.ev (solA P D L (D ^ P.toNat).toNat) (by omega) (fun i j hi hj hij => List.pairwise_iff_getElem.mp hri i j hi hj hij)
    have B6 : Evt fun k => ∀ t ∈ solA P D L (D ^ P.toNat).toNat, ∀ c ∈ L, impl_DoesFit.f k P D c.f0 c.f1 c.f2 t = some (true, true) := Evt.all _ (fun t ht => Evt.all _ (fun c hc => guess_fits h ht hc))
    have B7 : Evt fun k => ∀ i ∈ List.range L.length, ∃ still, impl_CountSolutions.f k P D (L.eraseIdx i) = some (still, true) ∧ laws_eHas.f k (needL P D L L.length) (i : Nat) = some (still == ((solA P D L (D ^ P.toNat).toNat).length : Int)) := Evt.all _ (fun i hi => guess_drop h i (List.mem_range.mp hi))
    obtain ⟨k, hk⟩ := Evt.and A1 (Evt.and A2 (Evt.and A3 (Evt.and A4 (Evt.and A5 (Evt.and A6 (Evt.and A7 (Evt.and A8 (Evt.and A9 (Evt.and A10 (Evt.and A11 (Evt.and A12 (Evt.and A13 (Evt.and A14 (Evt.and A15 (Evt.and A16 (Evt.and A17 (Evt.and A18 (Evt.and A20 (Evt.and B1 (Evt.and B2 (Evt.and B3 (Evt.and B4 (Evt.and B5 (Evt.and B6 (Evt.and B7 (Evt.and (parse_own h) (laws_ePuzzle.ev P D L (by omega))))))))))))))))))))))))))))
    obtain ⟨g1, g2, g3, g4, g5, g6, g7, g8, g9, g10, g11, g12, g13, g14, g15, g16, g17, g18, g20, b1, b2, b3, b4, b5, b6, b7, b8, b9⟩ := hk k (Nat.le_refl _)
    refine ⟨k, solA P D L (D ^ P.toNat).toNat, true, three, _, five, _, D ^ P.toNat, best, first, sure, puzzleT P D L, needL P D L L.length, leftL P D L (L.length + 1), g1, g2, g3, g4, g5, g6, g7, g8, g9, g10, g11, g12, g13, g14, g15, g16, g17, g18, congrArg some h, g20, b1, b2, b3, by rw [h3]; rfl, by rw [hfive]; rfl,
      fun _ => ⟨b4, rfl, hsl2, h6, by omega, by omega, h3s, rfl, left_len, left_first (by omega) (by omega), left_last, fun hs => h1s (by have := beq_iff_eq.mp hs; omega), b5, fun j hj => ⟨(hco _ (List.getElem_mem hj)).1, fun i hi => ⟨?_, hfit _ (List.getElem_mem hj) i (by rw [← (hco _ (List.getElem_mem hj)).1]; exact hi)⟩, fun c hc => b6 _ (List.getElem_mem hj) c hc⟩, fun i hi => ⟨?_, (hbest (by omega)).1, (hbest (by omega)).2, ?_, b7 i (List.mem_range.mpr hi)⟩, b8, b9⟩⟩
    · have := (hco _ (List.getElem_mem hj)).2 i hi
      omega
    · rw [impl_DropClue.is P D L (i : Nat) (by omega), if_pos ⟨h, by omega, by omega⟩]
      rfl
    · have := left_falls (w := P) (d := D) (l := L) (n := L.length + 1) (j := i) (by omega)
      rw [show ((i : Int) + 1) = ((i + 1 : Nat) : Int) by omega]
      exact this
theorem opens_t3 : Opens Tryz.prog 3 (Kd.int .i64) IntV := opens_int Tryz.underlying3
def V23 (x : S23) : Prop := IntV x.f0 ∧ IntV x.f1
theorem opens_t23 : Opens Tryz.prog 23 k23 V23 := opens_iso (opens_pair Tryz.underlying23 opens_t3 opens_t3 (by kernel_rfl) (by kernel_rfl) (by kernel_rfl) (by kernel_rfl) (by kernel_rfl)) (fun x : S23 => (x.f0, x.f1)) (fun p => ⟨p.1, p.2⟩) (fun _ => rfl)
def V45 (x : S45) : Prop := IntV x.f0 ∧ IntV x.f1 ∧ IntV x.f2
theorem opens_t45 : Opens Tryz.prog 45 k45 V45 := opens_iso (opens_trip Tryz.underlying45 opens_t3 opens_t3 opens_t3 (by kernel_rfl) (by kernel_rfl) (by kernel_rfl) (by kernel_rfl) (by kernel_rfl) (by kernel_rfl) (by kernel_rfl)) (fun x : S45 => (x.f0, x.f1, x.f2)) (fun p => ⟨p.1, p.2.1, p.2.2⟩) (fun _ => rfl)
theorem opens_t24 : Opens Tryz.prog 24 (Kd.slice 45 k45) (ListV V45) := opens_slice Tryz.underlying24 opens_t45 (by kernel_rfl)
def V26 (x : S26) : Prop := V23 x.f0 ∧ (ListV V45) x.f1
theorem opens_t26 : Opens Tryz.prog 26 k26 V26 := opens_iso (opens_pair Tryz.underlying26 opens_t23 opens_t24 (by kernel_rfl) (by kernel_rfl) (by kernel_rfl) (by kernel_rfl) (by kernel_rfl)) (fun x : S26 => (x.f0, x.f1)) (fun p => ⟨p.1, p.2⟩) (fun _ => rfl)
/-! The law FnCodesGuessedOfAll: long texts, and the whole. -/
def laws_FnCodesGuessedOfAll.f (_ _ : Int) (l : List S45) (_ : ByteArray) : Option Bool := if l.length ≤ 9223372036854775807 then some true else none
set_option maxRecDepth 100000 in
theorem laws_FnCodesGuessedOfAll.walkBig (P D : Int) (L : List S45) (A : Option Addr) (c : Nat) (s : ByteArray) (w : World) (hs : ¬ s.size ≤ 1048576) :
    Calls Tryz.prog 3 #[.agg #[.int .i64 P, .int .i64 D, .slice A L.length c], .string s] w fun e w' => e = .returned (.bool true) ∧ Below w.heap.size w w' := by
  have hu26 := Tryz.underlying26
  have hu9 := Tryz.underlying9
  have hsz : (s.size > 1048576) = True := eq_true (by omega)
  have hsz2 : decide ((s.size : Int) > 1048576) = true := decide_eq_true (by omega)
  have hsz3 : decide ((1048576 : Int) < (s.size : Int)) = true := decide_eq_true (by omega)
  have hsz4 : decide (1048576 < s.size) = true := decide_eq_true (by omega)
  have HB := amk (Below.refl w.heap.size w)
  clear hs
  go_enter Tryz.func3, Tryz.ntmps3
  go_wp2_with ((with_reducible refine gate_dst (N := 2) rfl ?_); refine boxE_ HB 2 #[.int .i64 P, .int .i64 D, .slice A L.length c] 26 ?_; clear HB; intro gp w3 HB BK GW GE hb; clear hb)
  go_ret; exact ⟨rfl, HB.out⟩
theorem laws_FnCodesGuessedOfAll.calls (a0_0 a0_1 : Int) (A0_2 : Option Addr) (c0_2 : Nat) (l0_2 : List S45) (a1 : ByteArray) (r : Bool) (w : World) (hr0_2 : Kd.C k45 w A0_2 l0_2.length l0_2) (hc0_2 : l0_2.length ≤ c0_2) (htp : EnvP w) (h : laws_FnCodesGuessedOfAll.f a0_0 a0_1 l0_2 a1 = some r) :
    Calls Tryz.prog 3 #[.agg #[.int .i64 a0_0, .int .i64 a0_1, .slice A0_2 l0_2.length c0_2], .string a1] w fun e w' => e = .returned (.bool r) ∧ Below w.heap.size w w' := by
  unfold laws_FnCodesGuessedOfAll.f at h
  split at h
  · rename_i hl
    obtain rfl := Option.some.inj h
    by_cases hs : a1.size ≤ 1048576
    · exact laws_FnCodesGuessedOfAll.walk a0_0 a0_1 l0_2 A0_2 c0_2 a1 w hr0_2 hc0_2 hl hs htp guess_P guess_S
    · exact laws_FnCodesGuessedOfAll.walkBig a0_0 a0_1 l0_2 A0_2 c0_2 a1 w hs
  · exact absurd h (by simp)
theorem pure_FnCodesGuessedOfAll (p : S26) (hp : V26 p) (s : ByteArray) (_ : StrV s) : laws_FnCodesGuessedOfAll.f p.f0.f0 p.f0.f1 p.f1 s = some true := by
  obtain ⟨_, hn, _⟩ := hp
  unfold laws_FnCodesGuessedOfAll.f
  exact if_pos (by simpa using hn)
/-! A row that lists variables and keeps the world's shape; what a listed variable of an interface type holds. -/
section
variable {H : Type} {enc : TypeId × Value → H}
theorem handed_and_shaped {a : Assume} {C : Checked} {os : Os} {f : FuncId} {fn : Func} {s : ChangeSpec} {conds : List PathCond} {apart fresh handsOn again : Bool} {X : World → Array Value → Prop}
    (hX : ∀ (w w' : World) (args : Array Value), w.heap = w'.heap → X w args → X w' args)
    (own : ownKnob C.prog.godebug = none) (started : os.Started) (noInit : C.prog.inits.idxOf? f = none) (hfn : C.prog.funcs[f]? = some fn)
    (witness : ∃ (w : World) (tape : Tape) (i : Input), w.os = os ∧ (w.forCall tape i).Shaped C.prog ∧ i.vars = [] ∧ Input.okWide C.prog (w.forCall tape i) .any w.heap.size f i ∧
      ((s.pre enc C.prog fn conds apart (w.forCall tape i).memory i.args ∧ X (w.forCall tape i).memory i.args) ∧ sizedMet enc C.prog fn (OpenSpec.ofChange s) apart (w.forCall tape i).memory i.args) ∧ a.holds C.prog (lone (Frame.enter C.prog f i.args .normal) [] (w.forCall tape i)))
    (contract : ∀ (W : World) (base : Nat) (args : Array Value) (ds gs : List (DataW H)) (before : List MemPlace),
      (∀ (j : Nat) t v, fn.params[j]? = some t → args[j]? = some v → Value.okWide C.prog W .any base t v) →
      DataW.Whole enc C.prog fn.params.toList s.vars apart W args.toList ds gs before →
      conds.all (PathCond.test C.prog ⟨fn.params.toList, ds, s.plain.varTypes C.prog, gs⟩) = true →
      (DataW.weightsEach C.prog (fn.params.toList ++ s.plain.varTypes C.prog) (ds ++ gs)).all (· ≤ reachBytes) = true → X W args → W.ShapedOpen C.prog →
      a.holds C.prog (lone (Frame.enter C.prog f args .normal) [] W) →
      Calls C.prog f args W fun e W' => ∃ v, e = .returned v ∧ s.post enc C.prog fn apart fresh handsOn again W args v W') :
    ReturnsInHanded a C os f .any (fun w args => (s.pre enc C.prog fn conds apart w args ∧ X w args) ∧ sizedMet enc C.prog fn (OpenSpec.ofChange s) apart w args) (s.post enc C.prog fn apart fresh handsOn again) := by
  refine returnsInHanded_of_calls own started noInit witness ?_
  intro w tape i _ hsh _ hok hpre hholds
  obtain ⟨_, _, _, fn', hfn', _, _, _, _, hval⟩ := hok
  have e : fn' = fn := Option.some.inj (hfn'.symm.trans hfn)
  subst e
  obtain ⟨⟨⟨ds, gs, before, hw, hc⟩, hx⟩, hz⟩ := hpre
  have hw' := DataW.Whole.of_heap (w' := w.forCall tape i) (by rfl) hw
  refine (contract (w.forCall tape i) w.heap.size i.args ds gs before hval hw' hc (hz.weights hw) (hX _ _ _ (by rfl) hx) hsh hholds).mono fun e W' ⟨v, he, hp⟩ => ?_
  subst he
  exact ChangeSpec.post_blind hp
end
theorem laid_iface {P : Program} {n nm : String} {d : DataW Unit} {r : List (String × DataW Unit)} {W : World} {g : Nat} {ti : TypeId} {ms : Array (String × TypeId)}
    (h : laidMet P ((n, .iface nm d) :: r) W) (hg : P.globalNamed n = some g) (ht : (P.globals[g]?).map (·.type) = some ti) (hi : P.underlying ti = some (.interface ms)) : ∃ te pe, W.cell? ⟨g, 0, none⟩ = some (.iface te pe) := by
  obtain ⟨ps, ⟨g0, t0, cs0, f0, p0, q0, hg0, ht0, hv0, hd0, _, e0⟩, _, hrows⟩ := h
  obtain rfl := Option.some.inj (hg.symm.trans hg0)
  obtain rfl := Option.some.inj (ht.symm.trans ht0)
  obtain ⟨l0⟩ := cs0
  obtain ⟨_, u, v, rfl, _⟩ := iface_of_trod hi hd0
  exact ⟨u, v, by simpa using World.var?_cell hg0 hv0 0⟩
end Go.Proofs.YtalmbdmkajohlaaGreatDoor.P