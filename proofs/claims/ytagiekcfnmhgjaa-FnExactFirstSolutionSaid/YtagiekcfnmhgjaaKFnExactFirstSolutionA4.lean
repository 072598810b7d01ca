import Derived.Test.YtagiekcfnmhgjaaKFnExactFirstSolutionA0
import Derived.ProofKit
import Derived.Lib.SmallJoins
import Derived.Deep.Slices
import Derived.Test.YtagiekcfnmhgjaaKFnExactFirstSolutionA3
import Derived.Test.YtagiekcfnmhgjaaKFnExactFirstSolutionA1
namespace Go.Proofs.Ytagiekcfnmhgjaa.P
open Go.RowKit Go.Proofs.YtagiekcfnmhgjaaW.PrintWords Go.Proofs.YtagiekcfnmhgjaaW.PrintLast Go.Proofs.YtagiekcfnmhgjaaW.PrintMore
attribute [local go_sem] max2_int min2_int max_two min_two max_three min_three max_four min_four   -- for this text's walks alone
set_option linter.unusedVariables false
set_option linter.unusedSimpArgs false

/-! What a readable argument holds, told by kinds: the bridge from a statement's reading to the print's words. -/
open Go.WideShapes in
def Opens {α : Type} (P : Program) (t : TypeId) (d : Kd α) (V : α → Prop) : Prop :=
  ∀ (H : Type) (enc : TypeId × Value → H) (w : World) (base : Nat) (spare : Nat → Bool) (held : Bool) (fuel : Nat) (cs : List Value) (x : DataW H × List MemPlace),
    DataW.trod enc P w base spare held fuel t cs = some x → ∃ a : α, d.K w a cs ∧ V a
def IntV (a : Int) : Prop := -9223372036854775808 ≤ a ∧ a ≤ 9223372036854775807
def StrV (s : ByteArray) : Prop := s.size ≤ 9223372036854775807
def ListV {α : Type} (V : α → Prop) (l : List α) : Prop := l.length ≤ 9223372036854775807 ∧ ∀ x ∈ l, V x
theorem opens_int {P : Program} {t : TypeId} (ht : P.underlying t = some (.int .i64)) : Opens P t (Kd.int .i64) IntV := by
  intro H enc w base spare held fuel cs x h
  obtain ⟨n, rfl, _, hw⟩ := DataW.trod_int ht h
  refine ⟨n, rfl, ?_⟩
  have hb : (IntKind.i64.min ≤ n ∧ n ≤ IntKind.i64.max) := by simpa [Lit.wf] using hw
  have e1 : IntKind.i64.min = -9223372036854775808 := rfl
  have e2 : IntKind.i64.max = 9223372036854775807 := rfl
  rw [e1, e2] at hb
  unfold IntV
  omega
theorem opens_bool {P : Program} {t : TypeId} (ht : P.underlying t = some .bool) : Opens P t Kd.bool (fun _ => True) := by
  intro H enc w base spare held fuel cs x h
  obtain ⟨n, rfl, _⟩ := DataW.trod_bool ht h
  exact ⟨n, rfl, trivial⟩
theorem opens_string {P : Program} {t : TypeId} (ht : P.underlying t = some .string) : Opens P t Kd.string StrV := by
  intro H enc w base spare held fuel cs x h
  obtain ⟨n, rfl, _, hw⟩ := DataW.trod_string ht h
  unfold maxLen at hw
  exact ⟨n, rfl, hw⟩
theorem cells_list {w : World} {base : Nat} {a : Addr} {n : Nat} {cs : List Value} (h : w.cells? base a n = some cs) : cs.length = n ∧ ∀ i u, cs[i]? = some u → w.cell? (a.add i) = some u := by
  unfold World.cells? at h
  split at h
  · have hl := mapM_some_length h
    refine ⟨by simpa using hl, fun i u hu => ?_⟩
    have hi : i < n := by
      have := (List.getElem?_eq_some_iff.1 hu).1
      rw [hl] at this; simpa using this
    have := mapM_some_get h i i (by simp [hi])
    rw [hu] at this
    exact this
  · cases h
theorem opens_slice {α : Type} {P : Program} {t e : TypeId} {d : Kd α} {V : α → Prop} (ht : P.underlying t = some (.slice e)) (hd : Opens P e d V) (hsz : P.cellsOf e = d.sz) : Opens P t (Kd.slice e d) (ListV V) := by
  intro H enc w base spare held fuel cs x h
  rcases Go.Deep.open_slice ht h with ⟨rfl, _⟩ | ⟨a, len, cap, m, n, D, Pl, rfl, _, hl, hm, hmm, _, hel⟩
  · exact ⟨[], ⟨none, 0, rfl, Nat.le_refl _, ⟨rfl, by simp, fun h0 => absurd h0 (by simp)⟩⟩, ⟨by simp, fun x hx => by simp at hx⟩⟩
  · have hle : len ≤ m := by rw [hmm]; split <;> omega
    have each : ∀ i : Nat, ∃ a' : Option α, i < len → ∃ z cs', a' = some z ∧ V z ∧ d.K w z cs' ∧ ∀ j u, cs'[j]? = some u → w.cell? (a.add (i * d.sz + j)) = some u := by
      intro i
      by_cases hi : i < len
      · obtain ⟨cs', h1, h2⟩ := hel i (by omega)
        obtain ⟨z, hK, hV⟩ := hd H enc w base spare held n cs' _ h2
        refine ⟨some z, fun _ => ⟨z, cs', rfl, hV, hK, fun j u hu => ?_⟩⟩
        obtain ⟨_, hc⟩ := cells_list h1
        have := hc j u hu
        rw [Go.Deep.add_add, hsz] at this
        exact this
      · exact ⟨none, fun h0 => absurd h0 hi⟩
    have ⟨f, hf⟩ := Classical.axiomOfChoice each
    have hz : ∀ i, i < len → ∃ z, f i = some z ∧ V z ∧ ∃ cs', d.K w z cs' ∧ ∀ j u, cs'[j]? = some u → w.cell? (a.add (i * d.sz + j)) = some u := by
      intro i hi
      obtain ⟨z, cs', h1, h2, h3, h4⟩ := hf i hi
      exact ⟨z, h1, h2, cs', h3, h4⟩
    have hlist : ∃ l : List α, l.length = len ∧ ∀ i, i < len → f i = l[i]? := by
      clear hf each hel hmm hle
      have : ∀ n, n ≤ len → ∃ l : List α, l.length = n ∧ ∀ i, i < n → f i = l[i]? := by
        intro n
        induction n with
        | zero => intro _; exact ⟨[], rfl, fun i hi => by omega⟩
        | succ n ih =>
          intro hn
          obtain ⟨l, hl1, hl2⟩ := ih (by omega)
          obtain ⟨z, h1, _⟩ := hz n (by omega)
          refine ⟨l ++ [z], by simp [hl1], fun i hi => ?_⟩
          by_cases e : i < n
          · rw [List.getElem?_append_left (by omega)]; exact hl2 i e
          · obtain rfl : i = n := by omega
            rw [h1, ← hl1]; simp
      exact this len (Nat.le_refl _)
    obtain ⟨l, hlen, hget⟩ := hlist
    have hV : ∀ x ∈ l, V x := by
      intro x hx
      obtain ⟨i, hi, rfl⟩ := List.getElem_of_mem hx
      obtain ⟨z, h1, h2, _⟩ := hz i (by omega)
      have h3 := hget i (by omega)
      rw [h1, List.getElem?_eq_getElem hi] at h3
      injection h3 with h3
      rw [← h3]; exact h2
    unfold maxLen at hm
    subst hlen
    refine ⟨l, ⟨some a, cap, rfl, hl, ⟨rfl, by omega, fun _ => ⟨a, rfl, fun j p hp => ?_⟩⟩⟩, ⟨by omega, hV⟩⟩
    have hj : j < l.length := (List.getElem?_eq_some_iff.1 hp).1
    obtain ⟨z, h1, _, cs', h3, h4⟩ := hz j hj
    have h5 := hget j hj
    rw [h1, hp] at h5
    injection h5 with h5
    subst h5
    exact ⟨cs', d.K_len h3, h3, h4⟩
theorem opens_pair {α β : Type} {P : Program} {t : TypeId} {f0 f1 : Field} {d0 : Kd α} {d1 : Kd β} {V0 : α → Prop} {V1 : β → Prop} (ht : P.underlying t = some (.struct #[f0, f1]))
    (h0 : Opens P f0.type d0 V0) (h1 : Opens P f1.type d1 V1) (o0 : f0.offset = 0) (o1 : f1.offset = d0.sz) (z0 : P.cellsOf f0.type = d0.sz) (z1 : P.cellsOf f1.type = d1.sz) (zt : P.cellsOf t = d0.sz + d1.sz) :
    Opens P t (Kd.pair d0 d1) (fun x => V0 x.1 ∧ V1 x.2) := by
  intro H enc w base spare held fuel cs x h
  obtain ⟨y0, y1, n, _, hl, g0, g1⟩ := ChangeShapes.trod_struct2 ht h
  rw [o0, z0, List.drop_zero] at g0
  rw [o1, z1] at g1
  obtain ⟨a, ka, va⟩ := h0 H enc w base spare held n _ _ g0
  obtain ⟨b, kb, vb⟩ := h1 H enc w base spare held n _ _ g1
  refine ⟨(a, b), ⟨_, _, ?_, ka, kb⟩, va, vb⟩
  rw [List.take_of_length_le (l := cs.drop d0.sz) (by rw [List.length_drop, hl, zt]; omega), List.take_append_drop]
theorem opens_trip {α β γ : Type} {P : Program} {t : TypeId} {f0 f1 f2 : Field} {d0 : Kd α} {d1 : Kd β} {d2 : Kd γ} {V0 : α → Prop} {V1 : β → Prop} {V2 : γ → Prop} (ht : P.underlying t = some (.struct #[f0, f1, f2]))
    (h0 : Opens P f0.type d0 V0) (h1 : Opens P f1.type d1 V1) (h2 : Opens P f2.type d2 V2) (o0 : f0.offset = 0) (o1 : f1.offset = d0.sz) (o2 : f2.offset = d0.sz + d1.sz)
    (z0 : P.cellsOf f0.type = d0.sz) (z1 : P.cellsOf f1.type = d1.sz) (z2 : P.cellsOf f2.type = d2.sz) (zt : P.cellsOf t = d0.sz + d1.sz + d2.sz) :
    Opens P t (Kd.pair d0 (Kd.pair d1 d2)) (fun x => V0 x.1 ∧ V1 x.2.1 ∧ V2 x.2.2) := by
  intro H enc w base spare held fuel cs x h
  obtain ⟨xs, n, _, _, hl, hxl, hf⟩ := DataW.trod_struct ht h
  match xs, hxl with
  | [y0, y1, y2], _ =>
    have g0 := hf 0 f0 rfl
    have g1 := hf 1 f1 rfl
    have g2 := hf 2 f2 rfl
    rw [o0, z0, List.drop_zero] at g0
    rw [o1, z1] at g1
    rw [o2, z2] at g2
    obtain ⟨a, ka, va⟩ := h0 H enc w base spare held n _ _ g0
    obtain ⟨b, kb, vb⟩ := h1 H enc w base spare held n _ _ g1
    obtain ⟨c, kc, vc⟩ := h2 H enc w base spare held n _ _ g2
    refine ⟨(a, b, c), ⟨_, _, ?_, ka, ⟨_, _, rfl, kb, kc⟩⟩, va, vb, vc⟩
    rw [List.take_of_length_le (l := cs.drop (d0.sz + d1.sz)) (by rw [List.length_drop, hl, zt]; omega)]
    rw [← List.drop_drop, List.take_append_drop, List.take_append_drop]
theorem opens_iso {α β : Type} {P : Program} {t : TypeId} {d : Kd α} {V : α → Prop} (h : Opens P t d V) (f : β → α) (g : α → β) (e : ∀ a, f (g a) = a) : Opens P t (Kd.iso d f) (fun x => V (f x)) := by
  intro H enc w base spare held fuel cs x hx
  obtain ⟨a, ka, va⟩ := h H enc w base spare held fuel cs x hx
  exact ⟨g a, by show d.K w (f (g a)) cs; rw [e]; exact ka, by show V (f (g a)); rw [e]; exact va⟩
theorem opens_mono {α : Type} {P : Program} {t : TypeId} {d : Kd α} {V V' : α → Prop} (h : Opens P t d V) (hv : ∀ a, V a → V' a) : Opens P t d V' := by
  intro H enc w base spare held fuel cs x hx
  obtain ⟨a, ka, va⟩ := h H enc w base spare held fuel cs x hx
  exact ⟨a, ka, hv a va⟩
section
variable {H : Type} {enc : TypeId × Value → H} {P : Program} {w : World} {base : Nat} {spare : Nat → Bool} {held : Bool} {r : Reach} {b0 : Nat} {t : TypeId} {v : Value} {x : DataW H} {p : List MemPlace}
theorem arg_struct {α : Type} {d : Kd α} {V : α → Prop} (ho : Opens P t d V) {fs : Array Field} (hs : P.underlying t = some (.struct fs)) (hv : Value.okWide P w r b0 t v) (h : DataW.Trod enc P w base spare held t v x p) :
    ∃ a cs, v = .agg (List.toArray cs) ∧ d.K w a cs ∧ V a := by
  obtain ⟨cs, rfl, _⟩ := WideShapes.okWide_struct hs hv
  obtain ⟨fuel, hf⟩ := h
  obtain ⟨a, hk, hV⟩ := ho H enc w base spare held fuel _ _ hf
  exact ⟨a, cs.toList, by simp, by simpa [Value.cells] using hk, hV⟩
theorem arg_slice {α : Type} {d : Kd α} {e : TypeId} {V : List α → Prop} (ho : Opens P t (Kd.slice e d) V) (ht : P.underlying t = some (.slice e)) (hv : Value.okWide P w r b0 t v) (h : DataW.Trod enc P w base spare held t v x p) :
    ∃ A l c, v = .slice A (List.length l) c ∧ l.length ≤ c ∧ d.C w A l.length l ∧ V l := by
  obtain ⟨a, len, cap, rfl⟩ := WideShapes.okWide_slice ht hv
  obtain ⟨fuel, hf⟩ := h
  obtain ⟨l, ⟨A, c, hc, hl, hC⟩, hV⟩ := ho H enc w base spare held fuel _ _ hf
  simp only [Value.cells, List.cons.injEq, and_true] at hc
  injection hc with e1 e2 e3
  subst e1 e2 e3
  exact ⟨_, l, _, rfl, hl, hC, hV⟩
theorem arg_int (ht : P.underlying t = some (.int .i64)) (hv : Value.okWide P w r b0 t v) (h : DataW.Trod enc P w base spare held t v x p) : ∃ a, v = .int .i64 a ∧ IntV a := by
  obtain ⟨a, rfl, _, _, hw⟩ := ChangeShapes.open_int ht hv h
  have hb : (IntKind.i64.min ≤ a ∧ a ≤ IntKind.i64.max) := by simpa [Lit.wf] using hw
  exact ⟨a, rfl, hb.1, hb.2⟩
theorem arg_bool (ht : P.underlying t = some .bool) (hv : Value.okWide P w r b0 t v) (h : DataW.Trod enc P w base spare held t v x p) : ∃ a, v = .bool a := by
  obtain ⟨a, rfl, _, _⟩ := RowKit.open_bool ht hv h
  exact ⟨a, rfl⟩
theorem arg_string (ht : P.underlying t = some .string) (hv : Value.okWide P w r b0 t v) (h : DataW.Trod enc P w base spare held t v x p) : ∃ a, v = .string a ∧ StrV a := by
  obtain ⟨a, rfl, _, _, hw⟩ := ChangeMaps.open_string ht hv h
  unfold maxLen at hw
  exact ⟨a, rfl, hw⟩
theorem arg_lt (h : DataW.Trod enc P w base spare held t v x p) : ∀ y ∈ p, y.block < w.heap.size := by
  obtain ⟨m, hm⟩ := h
  exact DataW.trod_lt m _ _ _ hm
end
end Go.Proofs.Ytagiekcfnmhgjaa.P

namespace Go.Proofs.Ytagiekcfnmhgjaa.P
open Go.RowKit Go.Proofs.YtagiekcfnmhgjaaW.PrintWords Go.Proofs.YtagiekcfnmhgjaaW.PrintLast Go.Proofs.YtagiekcfnmhgjaaW.PrintMore
attribute [local go_sem] max2_int min2_int max_two min_two max_three min_three max_four min_four   -- for this text's walks alone
set_option linter.unusedVariables false
set_option linter.unusedSimpArgs false

theorem opens_t3 : Opens Try.prog 3 (Kd.int .i64) IntV := opens_int Try.underlying3
def V23 (x : S23) : Prop := IntV x.f0 ∧ IntV x.f1
theorem opens_t23 : Opens Try.prog 23 k23 V23 := opens_iso (opens_pair Try.underlying23 opens_t3 opens_t3 (by kernel_rfl) (by kernel_rfl) (by kernel_rfl) (by kernel_rfl) (by kernel_rfl)) (fun x : S23 => (x.f0, x.f1)) (fun p => ⟨p.1, p.2⟩) (fun _ => rfl)
def V25 (x : S25) : Prop := IntV x.f0 ∧ IntV x.f1 ∧ IntV x.f2
theorem opens_t25 : Opens Try.prog 25 k25 V25 := opens_iso (opens_trip Try.underlying25 opens_t3 opens_t3 opens_t3 (by kernel_rfl) (by kernel_rfl) (by kernel_rfl) (by kernel_rfl) (by kernel_rfl) (by kernel_rfl) (by kernel_rfl)) (fun x : S25 => (x.f0, x.f1, x.f2)) (fun p => ⟨p.1, p.2.1, p.2.2⟩) (fun _ => rfl)
theorem opens_t9 : Opens Try.prog 9 Kd.string StrV := opens_string Try.underlying9
theorem opens_t41 : Opens Try.prog 41 (Kd.slice 25 k25) (ListV V25) := opens_slice Try.underlying41 opens_t25 (by kernel_rfl)
def V43 (x : S43) : Prop := V23 x.f0 ∧ (ListV V25) x.f1
theorem opens_t43 : Opens Try.prog 43 k43 V43 := opens_iso (opens_pair Try.underlying43 opens_t23 opens_t41 (by kernel_rfl) (by kernel_rfl) (by kernel_rfl) (by kernel_rfl) (by kernel_rfl)) (fun x : S43 => (x.f0, x.f1)) (fun p => ⟨p.1, p.2⟩) (fun _ => rfl)
end Go.Proofs.Ytagiekcfnmhgjaa.P

namespace Go.Proofs.Ytagiekcfnmhgjaa.P
open Go.RowKit Go.Proofs.YtagiekcfnmhgjaaW.PrintWords Go.Proofs.YtagiekcfnmhgjaaW.PrintLast Go.Proofs.YtagiekcfnmhgjaaW.PrintMore
attribute [local go_sem] max2_int min2_int max_two min_two max_three min_three max_four min_four   -- for this text's walks alone
set_option linter.unusedVariables false
set_option linter.unusedSimpArgs false

/-! The law FnExactFirstSolution, over numbers and lists alone. -/
def firstV (xs : List ByteArray) : ByteArray × Bool := if xs.length = 0 then (⟨#[]⟩, false) else (rdOf ByteArray.empty xs 0, true)
theorem spec_FirstSolution.ev (w d : Int) (l : List S30) (hn : l.length ≤ 9223372036854775807) : Ev (fun k => spec_FirstSolution.f k w d l) (if puzzleB w d l = true then firstV (solA w d l (d ^ w.toNat).toNat) else (⟨#[]⟩, false)) := by
  unfold spec_FirstSolution.f
  refine Ev.bind (spec_pzGood.ev w d l hn) ?_
  cases h : puzzleB w d l with
  | true =>
    obtain ⟨h1, h2, h3⟩ := puzzleB_parts h
    rw [if_pos rfl]
    refine Ev.yes rfl (Ev.bind (spec_pzAll.ev h1 l h2 h3) ?_)
    unfold firstV
    by_cases e : (solA w d l (d ^ w.toNat).toNat).length = 0
    · rw [if_pos e]; exact Ev.yes (by omega) (Ev.now _)
    · rw [if_neg e]; exact Ev.no (by omega) (Ev.yes (by omega) (Ev.now _))
  | false =>
    rw [if_neg (by simp)]
    exact Ev.no (by simp) (Ev.now _)
theorem impl_FirstSolution.ev (w d : Int) (l : List S30) : Ev (fun k => impl_FirstSolution.f k w d l) (if puzzleB w d l = true then firstV (solA w d l (d ^ w.toNat).toNat) else (⟨#[]⟩, false)) := by
  unfold impl_FirstSolution.f
  refine Ev.bind (impl_Solutions.ev w d l) ?_
  generalize solA w d l (d ^ w.toNat).toNat = xs
  cases h : puzzleB w d l with
  | true =>
    show Ev (fun _ => if (xs.length : Int) = 0 then some ((⟨#[]⟩ : ByteArray), false) else if 0 < (xs.length : Int) then some (rdOf ByteArray.empty xs 0, true) else none) (firstV xs)
    unfold firstV
    by_cases e : xs.length = 0
    · rw [if_pos e]; exact Ev.yes (by omega) (Ev.now _)
    · rw [if_neg e]; exact Ev.no (by omega) (Ev.yes (by omega) (Ev.now _))
  | false =>
    exact Ev.now ((⟨#[]⟩ : ByteArray), false)
theorem pure_FnExactFirstSolution (p : S43) (hp : V43 p) : ∃ k, laws_FnExactFirstSolution.f k p.f0.f0 p.f0.f1 p.f1 = some true := by
  refine Ev.rounds ?_
  obtain ⟨_, hn, _⟩ := hp
  unfold laws_FnExactFirstSolution.f
  refine Ev.bindc (laws_szPuzzle.is _ _ _ hn) ?_
  by_cases hl : (p.f1.length : Int) ≤ 1048576
  · rw [if_pos hl]
    refine Ev.no (by omega) ?_
    refine Ev.bind (laws_toPuzzle.ev _ _ _ (by omega)) ?_
    refine Ev.bind (spec_FirstSolution.ev _ _ _ (by simpa using hn)) ?_
    refine Ev.bind (laws_toPuzzle.ev _ _ _ (by omega)) ?_
    refine Ev.bind (impl_FirstSolution.ev _ _ _) ?_
    refine Ev.yes rfl (Ev.step (fun k => rfl) ?_)
    simp only [laws_FnExactFirstSolution.j0]
    refine Ev.no (by simp) ?_
    refine Ev.bind (laws_toPuzzle.ev _ _ _ (by omega)) ?_
    exact Ev.bind (laws_eqPuzzle.ev _ _ _ (by simpa using hn)) (Ev.yes rfl (Ev.now _))
  · rw [if_neg hl]
    exact Ev.yes (by omega) (Ev.now _)
end Go.Proofs.Ytagiekcfnmhgjaa.P
