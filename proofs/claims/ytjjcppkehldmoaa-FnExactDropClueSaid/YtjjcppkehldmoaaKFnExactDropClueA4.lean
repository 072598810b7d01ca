import Derived.Test.YtjjcppkehldmoaaKFnExactDropClueA0
import Derived.Test.YtjjcppkehldmoaaKFnExactDropClueA3
import Derived.Test.YtjjcppkehldmoaaKFnExactDropClueA2
import Derived.Test.YtjjcppkehldmoaaKFnExactDropClueA1
namespace Go.Proofs.Ytjjcppkehldmoaa.P
open Go.RowKit Go.Proofs.YtjjcppkehldmoaaW.PrintWords Go.Proofs.YtjjcppkehldmoaaW.PrintLast Go.Proofs.YtjjcppkehldmoaaW.PrintMore
attribute [local go_sem] max2_int min2_int max_two min_two max_three min_three max_four min_four   -- for this text's walks alone
set_option linter.unusedVariables false
set_option linter.unusedSimpArgs false

/-! spec's puzzles: what they come to. -/
theorem spec_pzGood.lev (w d : Int) (hl : lockB w d = true) (l : List S29) (hn : l.length ≤ 9223372036854775807) : ∀ (j : Nat) (i : Int), 0 ≤ i → i ≤ l.length → (l.length : Int) - i = j →
    Ev (fun k => spec_pzGood.l0 k l (l.length : Int) i w d l) ((l.drop i.toNat).all fun c => clueB w d c.f0 c.f1 c.f2) := by
  intro j
  induction j with
  | zero =>
    intro i h0 hi hj
    refine Ev.step (fun k => rfl) (Ev.no (by omega) (Ev.id ?_))
    rw [List.drop_eq_nil_of_le (by omega)]; rfl
  | succ j ih =>
    intro i h0 hi hj
    have hlt : i.toNat < l.length := by omega
    refine Ev.step (fun k => rfl) (Ev.yes (by omega) (Ev.yes h0 (Ev.yes (by omega) ?_)))
    refine Ev.bind (spec_pzClue.ev w d _ _ _ hl) ?_
    rw [List.drop_eq_getElem_cons hlt, List.all_cons, ← rd_clue hlt]
    cases clueB w d (rd_T29 l i).f0 (rd_T29 l i).f1 (rd_T29 l i).f2 with
    | false => exact Ev.no (by simp) (Ev.id (by simp))
    | true =>
      refine Ev.yes rfl ?_
      rw [w64 (x := i + 1) (by omega) (by omega), Bool.true_and, ← toNat_succ h0]
      exact ih (i + 1) (by omega) (by omega) (by omega)
theorem spec_pzGood.ev (w d : Int) (l : List S29) (hn : l.length ≤ 9223372036854775807) : Ev (fun k => spec_pzGood.f k w d l) (puzzleB w d l) := by
  unfold spec_pzGood.f puzzleB
  refine Ev.bind (spec_pzLock.ev w d) ?_
  cases h : smallB w d 125 with
  | false =>
    refine Ev.no (by simp) (Ev.step (fun k => rfl) ?_)
    simp only [spec_pzGood.j0]
    exact Ev.id (by simp)
  | true =>
    refine Ev.yes rfl (Ev.step (fun k => rfl) ?_)
    simp only [spec_pzGood.j0]
    by_cases h6 : l.length ≤ 6
    · refine Ev.no (by simp; omega) ?_
      have := spec_pzGood.lev w d (smallB_lock h) l hn l.length 0 (by omega) (by omega) (by omega)
      simpa [h6] using this
    · exact Ev.yes (by simp; omega) (Ev.id (by simp [h6]))
end Go.Proofs.Ytjjcppkehldmoaa.P

namespace Go.Proofs.Ytjjcppkehldmoaa.P
open Go.RowKit Go.Proofs.YtjjcppkehldmoaaW.PrintWords Go.Proofs.YtjjcppkehldmoaaW.PrintLast Go.Proofs.YtjjcppkehldmoaaW.PrintMore
attribute [local go_sem] max2_int min2_int max_two min_two max_three min_three max_four min_four   -- for this text's walks alone
set_option linter.unusedVariables false
set_option linter.unusedSimpArgs false

/-! Clues without one: spec's and impl's. -/
theorem spec_pzWithout.is (l : List S29) (a : Int) (hn : l.length ≤ 1048576) (h0 : 0 ≤ a) (h1 : a < l.length) : spec_pzWithout.f l a = some (l.eraseIdx a.toNat) := by
  unfold spec_pzWithout.f
  simp only [Option.bind_some, w64 (x := a + 1) (by omega) (by omega), List.nil_append, List.length_nil]
  have e1 : (List.take a.toNat l).length ≤ l.length := by rw [List.length_take]; omega
  have e2 : (List.drop (a + 1).toNat l).length ≤ l.length := by rw [List.length_drop]; omega
  rw [if_pos h0, if_pos (by omega), if_pos (by omega), if_pos (by omega), if_pos (by omega), if_pos (by omega)]
  rw [List.eraseIdx_eq_take_drop_succ, toNat_succ h0]
theorem spec_DropClue.ev (w d : Int) (l : List S29) (a : Int) (hn : l.length ≤ 1048576) :
    Ev (fun k => spec_DropClue.f k w d l a) (if puzzleB w d l = true ∧ 0 ≤ a ∧ a < l.length then (w, d, l.eraseIdx a.toNat, true) else (0, 0, [], false)) := by
  unfold spec_DropClue.f
  refine Ev.bind (spec_pzGood.ev w d l (by omega)) ?_
  cases h : puzzleB w d l with
  | false => exact Ev.no (by simp) (Ev.id (by simp))
  | true =>
    refine Ev.yes rfl ?_
    simp only [spec_l1In.is, Option.bind_some, w64 (x := (l.length : Int) - 1) (by omega) (by omega)]
    by_cases h1 : 0 ≤ a ∧ a < l.length
    · refine Ev.yes (by simp; omega) ?_
      rw [spec_pzWithout.is l a hn h1.1 h1.2, if_pos ⟨by simp, h1⟩]
      exact Ev.now _
    · refine Ev.no (by simp; omega) ?_
      rw [if_neg (fun h => h1 h.2)]
      exact Ev.now _
theorem impl_DropClue.is (w d : Int) (l : List S29) (a : Int) (hn : l.length ≤ 1048576) :
    impl_DropClue.f w d l a = some (if puzzleB w d l = true ∧ 0 ≤ a ∧ a < l.length then (w, d, l.eraseIdx a.toNat, true) else (0, 0, [], false)) := by
  unfold impl_DropClue.f impl_IsPuzzle.f
  simp only [Option.bind_some, impl_within.is, w64 (x := (l.length : Int) - 1) (by omega) (by omega)]
  cases h : puzzleB w d l with
  | false => rw [if_neg (by simp), if_neg (by simp)]
  | true =>
    rw [if_pos rfl]
    by_cases h1 : 0 ≤ a ∧ a < l.length
    · rw [if_pos (by simp; omega), impl_but.is (by omega) h1.1 h1.2, if_pos ⟨by simp, h1⟩]
      rfl
    · rw [if_neg (by simp; omega), if_neg (fun h => h1 h.2)]
end Go.Proofs.Ytjjcppkehldmoaa.P

namespace Go.Proofs.Ytjjcppkehldmoaa.P
open Go.RowKit Go.Proofs.YtjjcppkehldmoaaW.PrintWords Go.Proofs.YtjjcppkehldmoaaW.PrintLast Go.Proofs.YtjjcppkehldmoaaW.PrintMore
attribute [local go_sem] max2_int min2_int max_two min_two max_three min_three max_four min_four   -- for this text's walks alone
set_option linter.unusedVariables false
set_option linter.unusedSimpArgs false

/-! Marks on clues, and that they are held. -/
theorem laws_markClueS.lev : ∀ (j : Nat) (l : List S29) (a i : Int), 0 ≤ i → i ≤ l.length → (l.length : Int) - i = j → l.length ≤ 9223372036854775807 → 0 ≤ a → a + 3 * j ≤ 4611686018427387904 →
    ∃ l' : List S29, l'.length = l.length ∧ (∀ m : Nat, (m : Int) < i → l'[m]? = l[m]?) ∧ Ev (fun k => laws_markClueS.l0 k l a i) (a + 3 * j, l') ∧ Ev (fun k => laws_heldClueS.l0 k l' a i) (a + 3 * j) := by
  intro j
  induction j with
  | zero =>
    intro l a i h0 hi hj hn ha hb
    exact ⟨l, rfl, fun _ _ => rfl, Ev.step (fun k => rfl) (Ev.no (by omega) (Ev.id (by simp))), Ev.step (fun k => rfl) (Ev.no (by omega) (Ev.id (by simp)))⟩
  | succ j ih =>
    intro l a i h0 hi hj hn ha hb
    have hlt : i.toNat < l.length := by omega
    have e1 : wrap64 (a + 1) = a + 1 := w64 (by omega) (by omega)
    have e2 : wrap64 (a + 1 + 1) = a + 2 := by rw [w64 (by omega) (by omega)]; omega
    have e3 : wrap64 (a + 2 + 1) = a + 3 := by rw [w64 (by omega) (by omega)]; omega
    have e4 : wrap64 (i + 1) = i + 1 := w64 (by omega) (by omega)
    obtain ⟨l', hl, hk, hm, hh⟩ := ih (l.set i.toNat ⟨a, a + 1, a + 2⟩) (a + 3) (i + 1) (by omega) (by simp; omega) (by simp; omega) (by simpa using hn) (by omega) (by omega)
    rw [List.length_set] at hl
    have hat : l'[i.toNat]? = some ⟨a, a + 1, a + 2⟩ := by
      rw [hk i.toNat (by omega)]
      simp [hlt]
    have hat' : rd_T29 l' i = ⟨a, a + 1, a + 2⟩ := by
      unfold rd_T29
      simp [List.getD, hat]
    refine ⟨l', hl, fun m hmi => ?_, ?_, ?_⟩
    · rw [hk m (by omega), List.getElem?_set_ne (by omega)]
    · refine Ev.step (fun k => rfl) (Ev.yes (by omega) (Ev.yes h0 ?_))
      simp only [Option.bind_some, e1, e2, e3, e4]
      have r1 : ∀ x : S29, rd_T29 (l.set i.toNat x) i = x := fun x => by rw [rd_clue (by simpa using hlt)]; simp
      simp only [r1, List.set_set]
      exact Ev.eq hm (by rw [Prod.mk.injEq]; exact ⟨by omega, rfl⟩)
    · refine Ev.step (fun k => rfl) (Ev.yes (by omega) (Ev.yes h0 ?_))
      simp only [e1, e2, e3, e4, hat']
      exact Ev.yes trivial (Ev.yes trivial (Ev.yes trivial (Ev.eq hh (by omega))))
theorem laws_markPuzzle.ev (w d : Int) (l : List S29) (a : Int) (ha : 0 ≤ a) (hb : a + 3 * l.length ≤ 4611686018427387904) :
    ∃ l' : List S29, Ev (fun k => laws_markPuzzle.f k w d l a) (a + 3 * l.length, l') ∧ Ev (fun k => laws_heldPuzzle.f k w d l' a) (a + 3 * l.length) := by
  obtain ⟨l', _, _, hm, hh⟩ := laws_markClueS.lev l.length l a 0 (by omega) (by omega) (by omega) (by omega) ha hb
  refine ⟨l', ?_, ?_⟩
  · unfold laws_markPuzzle.f laws_markClueS.f
    exact Ev.bind hm (Ev.now _)
  · unfold laws_heldPuzzle.f laws_heldClueS.f
    exact Ev.bind hh (Ev.no (by omega) (Ev.now _))
end Go.Proofs.Ytjjcppkehldmoaa.P

namespace Go.Proofs.Ytjjcppkehldmoaa.P
open Go.RowKit Go.Proofs.YtjjcppkehldmoaaW.PrintWords Go.Proofs.YtjjcppkehldmoaaW.PrintLast Go.Proofs.YtjjcppkehldmoaaW.PrintMore
attribute [local go_sem] max2_int min2_int max_two min_two max_three min_three max_four min_four   -- for this text's walks alone
set_option linter.unusedVariables false
set_option linter.unusedSimpArgs false

theorem opens_t3 : Opens Try.prog 3 (Kd.int .i64) IntV := opens_int Try.underlying3
def V23 (x : S23) : Prop := IntV x.f0 ∧ IntV x.f1
theorem opens_t23 : Opens Try.prog 23 k23 V23 := opens_iso (opens_pair Try.underlying23 opens_t3 opens_t3 (by kernel_rfl) (by kernel_rfl) (by kernel_rfl) (by kernel_rfl) (by kernel_rfl)) (fun x : S23 => (x.f0, x.f1)) (fun p => ⟨p.1, p.2⟩) (fun _ => rfl)
def V25 (x : S25) : Prop := IntV x.f0 ∧ IntV x.f1 ∧ IntV x.f2
theorem opens_t25 : Opens Try.prog 25 k25 V25 := opens_iso (opens_trip Try.underlying25 opens_t3 opens_t3 opens_t3 (by kernel_rfl) (by kernel_rfl) (by kernel_rfl) (by kernel_rfl) (by kernel_rfl) (by kernel_rfl) (by kernel_rfl)) (fun x : S25 => (x.f0, x.f1, x.f2)) (fun p => ⟨p.1, p.2.1, p.2.2⟩) (fun _ => rfl)
theorem opens_t39 : Opens Try.prog 39 (Kd.slice 25 k25) (ListV V25) := opens_slice Try.underlying39 opens_t25 (by kernel_rfl)
def V41 (x : S41) : Prop := V23 x.f0 ∧ (ListV V25) x.f1
theorem opens_t41 : Opens Try.prog 41 k41 V41 := opens_iso (opens_pair Try.underlying41 opens_t23 opens_t39 (by kernel_rfl) (by kernel_rfl) (by kernel_rfl) (by kernel_rfl) (by kernel_rfl)) (fun x : S41 => (x.f0, x.f1)) (fun p => ⟨p.1, p.2⟩) (fun _ => rfl)
theorem opens_t9 : Opens Try.prog 9 Kd.string StrV := opens_string Try.underlying9
theorem opens_t32 : Opens Try.prog 32 (Kd.slice 9 Kd.string) (ListV StrV) := opens_slice Try.underlying32 opens_t9 (by kernel_rfl)
def V51 (x : S51) : Prop := V23 x.f0 ∧ StrV x.f1 ∧ (ListV StrV) x.f2
theorem opens_t51 : Opens Try.prog 51 k51 V51 := opens_iso (opens_trip Try.underlying51 opens_t23 opens_t9 opens_t32 (by kernel_rfl) (by kernel_rfl) (by kernel_rfl) (by kernel_rfl) (by kernel_rfl) (by kernel_rfl) (by kernel_rfl)) (fun x : S51 => (x.f0, x.f1, x.f2)) (fun p => ⟨p.1, p.2.1, p.2.2⟩) (fun _ => rfl)
theorem opens_t106 : Opens Try.prog 106 (Kd.slice 3 (Kd.int .i64)) (ListV IntV) := opens_slice Try.underlying106 opens_t3 (by kernel_rfl)
theorem opens_t62 : Opens Try.prog 62 (Kd.slice 106 (Kd.slice 3 (Kd.int .i64))) (ListV (ListV IntV)) := opens_slice Try.underlying62 opens_t106 (by kernel_rfl)
def V64 (x : S64) : Prop := IntV x.f0 ∧ (ListV (ListV IntV)) x.f1
theorem opens_t64 : Opens Try.prog 64 k64 V64 := opens_iso (opens_pair Try.underlying64 opens_t3 opens_t62 (by kernel_rfl) (by kernel_rfl) (by kernel_rfl) (by kernel_rfl) (by kernel_rfl)) (fun x : S64 => (x.f0, x.f1)) (fun p => ⟨p.1, p.2⟩) (fun _ => rfl)
theorem opens_t81 : Opens Try.prog 81 (Kd.slice 64 k64) (ListV V64) := opens_slice Try.underlying81 opens_t64 (by kernel_rfl)
end Go.Proofs.Ytjjcppkehldmoaa.P

namespace Go.Proofs.Ytjjcppkehldmoaa.P
open Go.RowKit Go.Proofs.YtjjcppkehldmoaaW.PrintWords Go.Proofs.YtjjcppkehldmoaaW.PrintLast Go.Proofs.YtjjcppkehldmoaaW.PrintMore
attribute [local go_sem] max2_int min2_int max_two min_two max_three min_three max_four min_four   -- for this text's walks alone
set_option linter.unusedVariables false
set_option linter.unusedSimpArgs false

/-! The law FnExactDropClue, over numbers and lists alone. -/
theorem pure_FnExactDropClue (p : S41) (hp : V41 p) (a : Int) (_ : IntV a) : ∃ k, laws_FnExactDropClue.f k p.f0.f0 p.f0.f1 p.f1 a = some true := by
  refine Ev.rounds ?_
  obtain ⟨_, hn, _⟩ := hp
  unfold laws_FnExactDropClue.f
  refine Ev.bindc (laws_szPuzzle.is _ _ _ hn) ?_
  by_cases hl : (p.f1.length : Int) ≤ 1048576
  · rw [if_pos hl]
    refine Ev.no (by omega) ?_
    have hm : (p.f1.map clueOf).length ≤ 1048576 := by simp; omega
    have hto := laws_toPuzzle.ev p.f0.f0 p.f0.f1 p.f1 (by omega)
    refine Ev.bind hto ?_
    refine Ev.bind (spec_DropClue.ev _ _ _ a hm) ?_
    refine Ev.bind hto ?_
    refine Ev.bindc (impl_DropClue.is _ _ _ a hm) ?_
    generalize hr : (if puzzleB p.f0.f0 p.f0.f1 (p.f1.map clueOf) = true ∧ 0 ≤ a ∧ a < (p.f1.map clueOf).length then (p.f0.f0, p.f0.f1, (p.f1.map clueOf).eraseIdx a.toNat, true) else (0, 0, [], false)) = r
    have hrl : r.2.2.1.length ≤ 1048576 := by
      rw [← hr]
      split
      · have := List.length_eraseIdx_le (p.f1.map clueOf) a.toNat
        show (List.eraseIdx _ _).length ≤ _; omega
      · simp
    have heq := fun l h => laws_eqPuzzle.ev r.1 r.2.1 l h
    refine Ev.bind (laws_eqPuzzle.ev _ _ _ (by omega)) (Ev.yes rfl ?_)
    refine Ev.step (fun k => rfl) ?_
    simp only [laws_FnExactDropClue.j0]
    refine Ev.no (by simp) ?_
    refine Ev.bind hto ?_
    refine Ev.bind (laws_eqPuzzle.ev _ _ _ (by omega)) (Ev.yes rfl ?_)
    obtain ⟨x', hx1, hx2⟩ := laws_markPuzzle.ev p.f0.f0 p.f0.f1 (p.f1.map clueOf) 1 (by omega) (by omega)
    refine Ev.bind hx1 (Ev.no (by simp only []; omega) ?_)
    refine Ev.bind (laws_eqPuzzle.ev _ _ _ (by omega)) (Ev.yes rfl ?_)
    refine Ev.step (fun k => rfl) ?_
    simp only [laws_FnExactDropClue.j1]
    refine Ev.no (by simp) ?_
    obtain ⟨g', hg1, hg2⟩ := laws_markPuzzle.ev r.1 r.2.1 r.2.2.1 1 (by omega) (by omega)
    refine Ev.bind hg1 (Ev.bind hg2 (Ev.no (by omega) (Ev.yes rfl ?_)))
    refine Ev.bind hto ?_
    refine Ev.bindc (impl_DropClue.is _ _ _ a hm) ?_
    rw [hr]
    refine Ev.bind (laws_eqPuzzle.ev _ _ _ (by omega)) (Ev.yes rfl ?_)
    refine Ev.step (fun k => rfl) ?_
    simp only [laws_FnExactDropClue.j2]
    refine Ev.no (by simp) ?_
    exact Ev.bind hg2 (Ev.no (by omega) (Ev.yes rfl (Ev.now _)))
  · rw [if_neg hl]
    exact Ev.yes (by omega) (Ev.now _)
end Go.Proofs.Ytjjcppkehldmoaa.P
