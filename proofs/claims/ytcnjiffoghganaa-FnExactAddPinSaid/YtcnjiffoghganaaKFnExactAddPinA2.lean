import Derived.Test.YtcnjiffoghganaaKFnExactAddPinA0
import Derived.Test.YtcnjiffoghganaaKFnExactAddPinA1
import Derived.ProofKit
import Derived.Lib.SmallJoins
import Derived.Deep.Slices
import Derived.Deep.RegionHeld3
import Derived.Shelf.Abstract
import Derived.BigQuiet
namespace Go.Proofs.Ytcnjiffoghganaa.P
open Go.RowKit Go.Proofs.YtcnjiffoghganaaW.PrintWords Go.Proofs.YtcnjiffoghganaaW.PrintLast Go.Proofs.YtcnjiffoghganaaW.PrintMore
attribute [local go_sem] max2_int min2_int max_two min_two max_three min_three max_four min_four
set_option linter.unusedVariables false
set_option linter.unusedSimpArgs false
/-! A number put into a rising row. -/
def insI : List Int → Int → List Int
  | [], d => [d]
  | x :: t, d => if d < x then d :: x :: t else x :: insI t d
theorem insI_cons (x : Int) (t : List Int) (d : Int) : insI (x :: t) d = if d < x then d :: x :: t else x :: insI t d := rfl
theorem insI_len : ∀ (l : List Int) (d : Int), (insI l d).length = l.length + 1 := by
  intro l
  induction l with
  | nil => intro d; rfl
  | cons x t ih =>
    intro d
    rw [insI_cons]
    by_cases h : d < x
    · rw [if_pos h]; simp
    · rw [if_neg h, List.length_cons, ih, List.length_cons]
theorem insI_split (d : Int) : ∀ (a b : List Int), (∀ x ∈ a, ¬ d < x) → (∀ x ∈ b, d < x) → insI (a ++ b) d = a ++ d :: b := by
  intro a
  induction a with
  | nil =>
    intro b _ hb
    cases b with
    | nil => rfl
    | cons y t => show insI (y :: t) d = _; rw [insI_cons, if_pos (hb y List.mem_cons_self)]; rfl
  | cons x t ih =>
    intro b ha hb
    show insI (x :: (t ++ b)) d = _
    rw [insI_cons, if_neg (ha x List.mem_cons_self), ih b (fun y hy => ha y (List.mem_cons_of_mem _ hy)) hb]
    rfl
theorem ris_pair {n : Int} : ∀ {l : List Int} {q : Int}, risF n q l = true → l.Pairwise (· < ·) := by
  intro l
  induction l with
  | nil => intro q _; exact List.Pairwise.nil
  | cons x t ih =>
    intro q h
    obtain ⟨_, _, h3⟩ := risF_cons h
    exact List.Pairwise.cons (fun y hy => (risF_mem h3 y hy).1) (ih h3)
theorem ris_ins {n d : Int} (hd : d ≤ n - 1) : ∀ {l : List Int} {q : Int}, q < d → risF n q l = true → l.contains d = false → risF n q (insI l d) = true := by
  intro l
  induction l with
  | nil => intro q hq _ _; exact risF_mk hq hd rfl
  | cons x t ih =>
    intro q hq h hc
    obtain ⟨h1, h2, h3⟩ := risF_cons h
    rw [List.contains_cons, Bool.or_eq_false_iff] at hc
    have hne : d ≠ x := by have := hc.1; simpa using this
    rw [insI_cons]
    by_cases e : d < x
    · rw [if_pos e]; exact risF_mk hq hd (risF_mk e h2 h3)
    · rw [if_neg e]; exact risF_mk h1 h2 (ih (by omega) h3 hc.2)
theorem ris_ins_dup {n d : Int} : ∀ {l : List Int} {q : Int}, risF n q l = true → l.contains d = true → risF n q (insI l d) = false := by
  intro l
  induction l with
  | nil => intro q _ h; simp at h
  | cons x t ih =>
    intro q h hc
    obtain ⟨h1, h2, h3⟩ := risF_cons h
    rw [insI_cons]
    by_cases e : d = x
    · subst e
      rw [if_neg (Int.lt_irrefl d)]
      have h4 : insI t d = d :: t := by
        have := insI_split d [] t (by simp) (fun y hy => (risF_mem h3 y hy).1)
        simpa using this
      rw [h4]
      unfold risF
      rw [show risF n d (d :: t) = false by unfold risF; rw [decide_eq_false (Int.lt_irrefl d)]; rfl, Bool.and_false]
    · have hc2 : t.contains d = true := by
        rw [List.contains_cons, show (d == x) = false from beq_eq_false_iff_ne.mpr e, Bool.false_or] at hc
        exact hc
      have := (risF_mem h3 d (List.contains_iff_mem.mp hc2)).1
      rw [if_neg (by omega)]
      unfold risF
      rw [ih h3 hc2, Bool.and_false]
theorem rowB_ins {n d : Int} {l : List Int} (h : rowB n l = true) (h0 : 0 ≤ d) (h1 : d ≤ n - 1) : rowB n (insI l d) = !l.contains d := by
  unfold rowB at h ⊢
  rw [Bool.and_eq_true] at h
  have he : (insI l d).isEmpty = false := by
    have := insI_len l d
    cases e : insI l d with
    | nil => rw [e] at this; simp at this
    | cons _ _ => rfl
  rw [he]
  cases e : l.contains d with
  | true => rw [ris_ins_dup h.2 e]; rfl
  | false => rw [ris_ins h1 (by omega) h.2 e]; rfl
theorem swap_two (A B : List Int) (y d : Int) : ((A ++ y :: d :: B).set (A.length + 1) y).set A.length d = A ++ d :: y :: B := by
  rw [List.set_append_right _ _ (by omega), List.set_append_right _ _ (by omega), show A.length + 1 - A.length = 1 by omega, Nat.sub_self]
  rfl
theorem two_fst (A B : List Int) (y d : Int) : rd (A ++ y :: d :: B) (A.length : Int) = y := by
  rw [rd_at (by simp)]
  simp
theorem two_snd (A B : List Int) (y d : Int) : rd (A ++ y :: d :: B) ((A.length + 1 : Nat) : Int) = d := by
  rw [rd_at (by simp)]
  simp
section
/-! What a readable argument holds, told by kinds: the bridge from a statement's reading to the print's words. -/
open Go.WideShapes in
def Opens {α : Type} (P : Program) (t : TypeId) (d : Kd α) (V : α → Prop) : Prop :=
  ∀ (H : Type) (enc : TypeId × Value → H) (w : World) (base : Nat) (spare : Nat → Bool) (held : Bool) (fuel : Nat) (cs : List Value) (x : DataW H × List MemPlace),
    DataW.trod enc P w base spare held fuel t cs = some x → ∃ a : α, d.K w a cs ∧ V a
def IntV (a : Int) : Prop := -9223372036854775808 ≤ a ∧ a ≤ 9223372036854775807
def ListV {α : Type} (V : α → Prop) (l : List α) : Prop := l.length ≤ 9223372036854775807 ∧ ∀ x ∈ l, V x
theorem opens_int {P : Program} {t : TypeId} (ht : P.underlying t = some (.int .i64)) : Opens P t (Kd.int .i64) IntV := by
  intro H enc w base spare held fuel cs x h
  obtain ⟨n, rfl, _, hw⟩ := DataW.trod_int ht h
  refine ⟨n, rfl, ?_⟩
  have hb : (IntKind.i64.min ≤ n ∧ n ≤ IntKind.i64.max) := by simpa [Lit.wf] using hw
  have e1 : IntKind.i64.min = -9223372036854775808 := rfl
  have e2 : IntKind.i64.max = 9223372036854775807 := rfl
  rw [e1, e2] at hb
  unfold IntV
  omega
theorem cells_list {w : World} {base : Nat} {a : Addr} {n : Nat} {cs : List Value} (h : w.cells? base a n = some cs) : cs.length = n ∧ ∀ i u, cs[i]? = some u → w.cell? (a.add i) = some u := by
  unfold World.cells? at h
  split at h
  · have hl := mapM_some_length h
    refine ⟨by simpa using hl, fun i u hu => ?_⟩
    have hi : i < n := by
      have := (List.getElem?_eq_some_iff.1 hu).1
      rw [hl] at this; simpa using this
    have := mapM_some_get h i i (by simp [hi])
    rw [hu] at this
    exact this
  · cases h
theorem opens_slice {α : Type} {P : Program} {t e : TypeId} {d : Kd α} {V : α → Prop} (ht : P.underlying t = some (.slice e)) (hd : Opens P e d V) (hsz : P.cellsOf e = d.sz) : Opens P t (Kd.slice e d) (ListV V) := by
  intro H enc w base spare held fuel cs x h
  rcases Go.Deep.open_slice ht h with ⟨rfl, _⟩ | ⟨a, len, cap, m, n, D, Pl, rfl, _, hl, hm, hmm, _, hel⟩
  · exact ⟨[], ⟨none, 0, rfl, Nat.le_refl _, ⟨rfl, by simp, fun h0 => absurd h0 (by simp)⟩⟩, ⟨by simp, fun x hx => by simp at hx⟩⟩
  · have hle : len ≤ m := by rw [hmm]; split <;> omega
    have each : ∀ i : Nat, ∃ a' : Option α, i < len → ∃ z cs', a' = some z ∧ V z ∧ d.K w z cs' ∧ ∀ j u, cs'[j]? = some u → w.cell? (a.add (i * d.sz + j)) = some u := by
      intro i
      by_cases hi : i < len
      · obtain ⟨cs', h1, h2⟩ := hel i (by omega)
        obtain ⟨z, hK, hV⟩ := hd H enc w base spare held n cs' _ h2
        refine ⟨some z, fun _ => ⟨z, cs', rfl, hV, hK, fun j u hu => ?_⟩⟩
        obtain ⟨_, hc⟩ := cells_list h1
        have := hc j u hu
        rw [Go.Deep.add_add, hsz] at this
        exact this
      · exact ⟨none, fun h0 => absurd h0 hi⟩
    have ⟨f, hf⟩ := Classical.axiomOfChoice each
    have hz : ∀ i, i < len → ∃ z, f i = some z ∧ V z ∧ ∃ cs', d.K w z cs' ∧ ∀ j u, cs'[j]? = some u → w.cell? (a.add (i * d.sz + j)) = some u := by
      intro i hi
      obtain ⟨z, cs', h1, h2, h3, h4⟩ := hf i hi
      exact ⟨z, h1, h2, cs', h3, h4⟩
    have hlist : ∃ l : List α, l.length = len ∧ ∀ i, i < len → f i = l[i]? := by
      clear hf each hel hmm hle
      have : ∀ n, n ≤ len → ∃ l : List α, l.length = n ∧ ∀ i, i < n → f i = l[i]? := by
        intro n
        induction n with
        | zero => intro _; exact ⟨[], rfl, fun i hi => by omega⟩
        | succ n ih =>
          intro hn
          obtain ⟨l, hl1, hl2⟩ := ih (by omega)
          obtain ⟨z, h1, _⟩ := hz n (by omega)
          refine ⟨l ++ [z], by simp [hl1], fun i hi => ?_⟩
          by_cases e : i < n
          · rw [List.getElem?_append_left (by omega)]; exact hl2 i e
          · obtain rfl : i = n := by omega
            rw [h1, ← hl1]; simp
      exact this len (Nat.le_refl _)
    obtain ⟨l, hlen, hget⟩ := hlist
    have hV : ∀ x ∈ l, V x := by
      intro x hx
      obtain ⟨i, hi, rfl⟩ := List.getElem_of_mem hx
      obtain ⟨z, h1, h2, _⟩ := hz i (by omega)
      have h3 := hget i (by omega)
      rw [h1, List.getElem?_eq_getElem hi] at h3
      injection h3 with h3
      rw [← h3]; exact h2
    unfold maxLen at hm
    subst hlen
    refine ⟨l, ⟨some a, cap, rfl, hl, ⟨rfl, by omega, fun _ => ⟨a, rfl, fun j p hp => ?_⟩⟩⟩, ⟨by omega, hV⟩⟩
    have hj : j < l.length := (List.getElem?_eq_some_iff.1 hp).1
    obtain ⟨z, h1, _, cs', h3, h4⟩ := hz j hj
    have h5 := hget j hj
    rw [h1, hp] at h5
    injection h5 with h5
    subst h5
    exact ⟨cs', d.K_len h3, h3, h4⟩
theorem opens_pair {α β : Type} {P : Program} {t : TypeId} {f0 f1 : Field} {d0 : Kd α} {d1 : Kd β} {V0 : α → Prop} {V1 : β → Prop} (ht : P.underlying t = some (.struct #[f0, f1]))
    (h0 : Opens P f0.type d0 V0) (h1 : Opens P f1.type d1 V1) (o0 : f0.offset = 0) (o1 : f1.offset = d0.sz) (z0 : P.cellsOf f0.type = d0.sz) (z1 : P.cellsOf f1.type = d1.sz) (zt : P.cellsOf t = d0.sz + d1.sz) :
    Opens P t (Kd.pair d0 d1) (fun x => V0 x.1 ∧ V1 x.2) := by
  intro H enc w base spare held fuel cs x h
  obtain ⟨y0, y1, n, _, hl, g0, g1⟩ := ChangeShapes.trod_struct2 ht h
  rw [o0, z0, List.drop_zero] at g0
  rw [o1, z1] at g1
  obtain ⟨a, ka, va⟩ := h0 H enc w base spare held n _ _ g0
  obtain ⟨b, kb, vb⟩ := h1 H enc w base spare held n _ _ g1
  refine ⟨(a, b), ⟨_, _, ?_, ka, kb⟩, va, vb⟩
  rw [List.take_of_length_le (l := cs.drop d0.sz) (by rw [List.length_drop, hl, zt]; omega), List.take_append_drop]
theorem opens_iso {α β : Type} {P : Program} {t : TypeId} {d : Kd α} {V : α → Prop} (h : Opens P t d V) (f : β → α) (g : α → β) (e : ∀ a, f (g a) = a) : Opens P t (Kd.iso d f) (fun x => V (f x)) := by
  intro H enc w base spare held fuel cs x hx
  obtain ⟨a, ka, va⟩ := h H enc w base spare held fuel cs x hx
  exact ⟨g a, by show d.K w (f (g a)) cs; rw [e]; exact ka, by show V (f (g a)); rw [e]; exact va⟩
section
variable {H : Type} {enc : TypeId × Value → H} {P : Program} {w : World} {base : Nat} {spare : Nat → Bool} {held : Bool} {r : Reach} {b0 : Nat} {t : TypeId} {v : Value} {x : DataW H} {p : List MemPlace}
theorem arg_struct {α : Type} {d : Kd α} {V : α → Prop} (ho : Opens P t d V) {fs : Array Field} (hs : P.underlying t = some (.struct fs)) (hv : Value.okWide P w r b0 t v) (h : DataW.Trod enc P w base spare held t v x p) :
    ∃ a cs, v = .agg (List.toArray cs) ∧ d.K w a cs ∧ V a := by
  obtain ⟨cs, rfl, _⟩ := WideShapes.okWide_struct hs hv
  obtain ⟨fuel, hf⟩ := h
  obtain ⟨a, hk, hV⟩ := ho H enc w base spare held fuel _ _ hf
  exact ⟨a, cs.toList, by simp, by simpa [Value.cells] using hk, hV⟩
theorem arg_int (ht : P.underlying t = some (.int .i64)) (hv : Value.okWide P w r b0 t v) (h : DataW.Trod enc P w base spare held t v x p) : ∃ a, v = .int .i64 a ∧ IntV a := by
  obtain ⟨a, rfl, _, _, hw⟩ := ChangeShapes.open_int ht hv h
  have hb : (IntKind.i64.min ≤ a ∧ a ≤ IntKind.i64.max) := by simpa [Lit.wf] using hw
  exact ⟨a, rfl, hb.1, hb.2⟩
theorem arg_lt (h : DataW.Trod enc P w base spare held t v x p) : ∀ y ∈ p, y.block < w.heap.size := by
  obtain ⟨m, hm⟩ := h
  exact DataW.trod_lt m _ _ _ hm
end
end
/-! Locks: which numbers are one, how many codes there are. -/
/-! Numbers told by digits. -/
/-! The places and the digits that two codes share. -/
/-! Codes of a lock as texts, their digits, what clues tell of them. -/
/-! ### impl_IsLock: function 155 -/
/-! ### impl_power: function 186 -/
/-! ### impl_Lock_count: function 176 -/
/-! ### impl_isSmall: function 154 -/
/-! impl's functions on locks: what they come to. -/
/-! ### spec_whCount: function 175 -/
/-! ### spec_whGood: function 174 -/
/-! spec's functions on locks and clues: what they come to. -/
/-! ### impl_Lock_isText: function 177 -/
/-! ### impl_Lock_isCode: function 156 -/
/-! ### impl_has: function 122 -/
/-! ### spec_whCode: function 152 -/
/-! Which texts are codes: both sides. -/
/-! Texts compared by '<=', '>', '>=', told by '<' alone. -/
theorem less_le : ∀ x y : List UInt8, (Op.bytesLess x y || x == y) = !(Op.bytesLess y x)
  | [], [] => rfl
  | [], _ :: _ => rfl
  | _ :: _, [] => rfl
  | a :: x, b :: y => by
    have ih := less_le x y
    simp only [Op.bytesLess, List.cons_beq_cons]
    by_cases h1 : a < b
    · have h2 : ¬ b < a := fun h => absurd h1 (UInt8.lt_asymm h)
      have h3 : (b == a) = false := beq_eq_false_iff_ne.mpr (fun e => by subst e; exact UInt8.lt_irrefl _ h1)
      simp [h1, h2, h3]
    · by_cases h2 : b < a
      · have h3 : (a == b) = false := beq_eq_false_iff_ne.mpr (fun e => by subst e; exact UInt8.lt_irrefl _ h2)
        simp [h1, h2, h3]
      · have h3 : a = b := UInt8.le_antisymm (UInt8.not_lt.mp h2) (UInt8.not_lt.mp h1)
        subst h3
        simp only [h1, decide_false, Bool.false_or, BEq.rfl, Bool.true_and]
        exact ih
theorem binOp_leq_n (t : TypeId) (a b : ByteArray) : binOp .leq t (.string a) (.string b) = pure (.bool !(Op.bytesLess b.toList a.toList)) := by
  rw [← less_le]; simp [binOp, Op.stringOp]
theorem binOp_gtr_n (t : TypeId) (a b : ByteArray) : binOp .gtr t (.string a) (.string b) = pure (.bool (Op.bytesLess b.toList a.toList)) := by
  rw [show Op.bytesLess b.toList a.toList = !(Op.bytesLess a.toList b.toList || a.toList == b.toList) by rw [less_le]; simp]; simp [binOp, Op.stringOp]
theorem binOp_geq_n (t : TypeId) (a b : ByteArray) : binOp .geq t (.string a) (.string b) = pure (.bool !(Op.bytesLess a.toList b.toList)) := by simp [binOp, Op.stringOp]
section
attribute [local go_sem high] binOp_leq_n binOp_gtr_n binOp_geq_n
/-! ### impl_areDead: function 121 -/
end
/-! ### slices_Index_string_string: function 158 -/
/-! ### slices_Contains_string_string: function 125 -/
section
attribute [local go_sem high] binOp_leq_n binOp_gtr_n binOp_geq_n
/-! ### spec_deList: function 151 -/
end
/-! ### spec_l1HasS: function 153 -/
/-! Dead codes: what is asked of them. -/
theorem wr_big {c : Nat} (h : c ≤ 9223372036854775806) : wrap64 ((c : Int) + 1) = ((c + 1 : Nat) : Int) := w64 (by omega) (by omega)
/-! ### laws_eqPinsS: function 38 -/
/-! ### laws_szPinsS: function 34 -/
/-! ### laws_toPinsS: function 36 -/
/-! The statements' own helpers on rows and pins: what they come to. -/
theorem rd_row {xs : List (List Int)} {i : Nat} (h : i < xs.length) : rd_L5 xs (i : Nat) = xs[i] := by unfold rd_L5; simp [List.getD, h]
theorem rd_pins {xs : List S41} {i : Nat} (h : i < xs.length) : rd_T41 xs (i : Nat) = xs[i] := by unfold rd_T41; simp [List.getD, h]
theorem rd_int {xs : List Int} {i : Nat} (h : i < xs.length) : rd xs (i : Nat) = xs[i] := by rw [rd_at (by simpa using h)]; simp
/-- The lengths are numbers of Go. -/
def RowsV (x : List (List Int)) : Prop := x.length ≤ 9223372036854775807 ∧ ∀ r ∈ x, r.length ≤ 9223372036854775807
/-- No longer than a million. -/
def RowsM (x : List (List Int)) : Prop := x.length ≤ 1048576 ∧ ∀ r ∈ x, r.length ≤ 1048576
theorem RowsM.v {x : List (List Int)} (h : RowsM x) : RowsV x := ⟨by have := h.1; omega, fun r hr => by have := h.2 r hr; omega⟩
theorem laws_szIntS.is (l : List Int) (a : Int) (h0 : 0 ≤ a) (h1 : a ≤ 1048576) (hl : l.length ≤ 9223372036854775807) : laws_szIntS.f l a = some (if (l.length : Int) ≤ a then a - l.length else -1) := by
  unfold laws_szIntS.f
  rw [w64 (x := a - (l.length : Int)) (by omega) (by omega)]
  by_cases h : (l.length : Int) ≤ a
  · rw [if_neg (by omega), if_pos h]
  · rw [if_pos (by omega), if_neg h]
theorem laws_szIntSS.lev (l : List (List Int)) (hl : RowsV l) : ∀ (m i : Nat) (a : Int), i + m = l.length → 0 ≤ a → a ≤ 1048576 → ∃ r, r ≤ a ∧ Ev (fun k => laws_szIntSS.l0 k l a (i : Nat)) r ∧ (0 ≤ r → ∀ x ∈ l.drop i, (x.length : Int) ≤ 1048576) := by
  have hl1 := hl.1
  intro m
  induction m with
  | zero =>
    intro i a hi h0 h1
    refine ⟨a, Int.le_refl _, Ev.step (fun k => rfl) (Ev.no (by omega) (Ev.now _)), fun _ x hx => ?_⟩
    rw [List.drop_eq_nil_of_le (by omega)] at hx
    simp at hx
  | succ m ih =>
    intro i a hi h0 h1
    have hlt : i < l.length := by omega
    have hx := hl.2 l[i] (List.getElem_mem hlt)
    by_cases h : (l[i].length : Int) ≤ a
    · obtain ⟨r, hr, he, hf⟩ := ih (i + 1) (a - l[i].length) (by omega) (by omega) (by omega)
      refine ⟨r, by omega, Ev.step (fun k => rfl) (Ev.yes (by omega) (Ev.yes (by omega) ?_)), fun hr0 x hx => ?_⟩
      · rw [rd_row hlt]
        refine Ev.bindc (laws_szIntS.is _ _ h0 h1 hx) ?_
        rw [if_pos h, w64 (x := (i : Int) + 1) (by omega) (by omega)]
        exact Ev.no (by omega) he
      · rw [List.drop_eq_getElem_cons hlt] at hx
        rcases List.mem_cons.mp hx with rfl | hx
        · omega
        · exact hf hr0 x hx
    · refine ⟨-1, by omega, Ev.step (fun k => rfl) (Ev.yes (by omega) (Ev.yes (by omega) ?_)), fun hr0 => by omega⟩
      rw [rd_row hlt]
      refine Ev.bindc (laws_szIntS.is _ _ h0 h1 hx) ?_
      rw [if_neg h]
      exact Ev.yes (by omega) (Ev.now _)
theorem laws_szIntSS.ev (l : List (List Int)) (hl : RowsV l) (a : Int) (h0 : 0 ≤ a) (h1 : a ≤ 1048576) : ∃ r, r ≤ a ∧ Ev (fun k => laws_szIntSS.f k l a) r ∧ (0 ≤ r → RowsM l) := by
  have hl1 := hl.1
  unfold laws_szIntSS.f
  rw [w64 (x := a - (l.length : Int)) (by omega) (by omega)]
  by_cases h : (l.length : Int) ≤ a
  · obtain ⟨r, hr, he, hf⟩ := laws_szIntSS.lev l hl l.length 0 (a - l.length) (by omega) (by omega) (by omega)
    refine ⟨r, by omega, Ev.no (by omega) he, fun hr0 => ⟨by omega, fun x hx => ?_⟩⟩
    have := hf hr0 x (by simpa using hx)
    omega
  · exact ⟨-1, by omega, Ev.yes (by omega) (Ev.now _), fun hr0 => by omega⟩
theorem laws_szPins.ev (n : Int) (l : List (List Int)) (hl : RowsV l) (a : Int) (h0 : 0 ≤ a) (h1 : a ≤ 1048576) : ∃ r, r ≤ a ∧ Ev (fun k => laws_szPins.f k n l a) r ∧ (0 ≤ r → RowsM l) := by
  obtain ⟨r, hr, he, hf⟩ := laws_szIntSS.ev l hl a h0 h1
  by_cases h : 0 ≤ r
  · exact ⟨r, hr, Ev.bind he (Ev.no (by omega) (Ev.now _)), hf⟩
  · exact ⟨-1, by omega, Ev.bind he (Ev.yes (by omega) (Ev.now _)), fun hr0 => by omega⟩
theorem laws_toIntS.lev (l : List Int) (hl : l.length ≤ 1048576) : ∀ (m i : Nat), i + m = l.length → Ev (fun k => laws_toIntS.l0 k l ((l.take i).map id ++ List.replicate (l.length - i) 0) (i : Nat)) l := by
  intro m
  induction m with
  | zero => intro i hi; exact Ev.step (fun k => rfl) (Ev.no (by omega) (Ev.id (by rw [show i = l.length by omega]; simp)))
  | succ m ih =>
    intro i hi
    have hlt : i < l.length := by omega
    refine Ev.step (fun k => rfl) (Ev.yes (by omega) (Ev.yes (by omega) (Ev.yes (by simp; omega) ?_)))
    rw [rd_int hlt, Int.toNat_natCast]
    have this : ((l.take i).map id ++ List.replicate (l.length - i) 0).set i l[i] = (l.take (i + 1)).map id ++ List.replicate (l.length - (i + 1)) 0 := fill_step id l 0 i hlt
    rw [this, w64 (x := (i : Int) + 1) (by omega) (by omega)]
    exact ih (i + 1) (by omega)
theorem laws_toIntS.ev (l : List Int) (hl : l.length ≤ 1048576) : Ev (fun k => laws_toIntS.f k l) l := by
  unfold laws_toIntS.f
  refine Ev.yes (by omega) (Ev.yes (by simp; omega) ?_)
  have := laws_toIntS.lev l hl l.length 0 (by omega)
  simpa using this
theorem laws_toIntSS.lev (l : List (List Int)) (hl : RowsM l) : ∀ (m i : Nat), i + m = l.length → Ev (fun k => laws_toIntSS.l0 k l ((l.take i).map id ++ List.replicate (l.length - i) []) (i : Nat)) l := by
  have hl1 := hl.1
  intro m
  induction m with
  | zero => intro i hi; exact Ev.step (fun k => rfl) (Ev.no (by omega) (Ev.id (by rw [show i = l.length by omega]; simp)))
  | succ m ih =>
    intro i hi
    have hlt : i < l.length := by omega
    refine Ev.step (fun k => rfl) (Ev.yes (by omega) (Ev.yes (by omega) ?_))
    rw [rd_row hlt]
    refine Ev.bind (laws_toIntS.ev _ (hl.2 _ (List.getElem_mem hlt))) (Ev.yes (by simp; omega) ?_)
    rw [Int.toNat_natCast]
    have this : ((l.take i).map id ++ List.replicate (l.length - i) []).set i l[i] = (l.take (i + 1)).map id ++ List.replicate (l.length - (i + 1)) [] := fill_step id l [] i hlt
    rw [this, w64 (x := (i : Int) + 1) (by omega) (by omega)]
    exact ih (i + 1) (by omega)
theorem laws_toIntSS.ev (l : List (List Int)) (hl : RowsM l) : Ev (fun k => laws_toIntSS.f k l) l := by
  have hl1 := hl.1
  unfold laws_toIntSS.f
  refine Ev.yes (by omega) (Ev.yes (by simp; omega) ?_)
  have := laws_toIntSS.lev l hl l.length 0 (by omega)
  simpa using this
theorem laws_toPins.ev (n : Int) (l : List (List Int)) (hl : RowsM l) : Ev (fun k => laws_toPins.f k n l) (n, l) := by
  unfold laws_toPins.f
  exact Ev.bind (laws_toIntSS.ev l hl) (Ev.now _)
theorem laws_eqIntS.levB (l : List Int) (hn : l.length ≤ 9223372036854775807) : ∀ (m i : Nat), i + m = l.length → Ev (fun k => laws_eqIntS.l0 k l l (i : Nat)) true := by
  intro m
  induction m with
  | zero => intro i hi; exact Ev.step (fun k => rfl) (Ev.no (by omega) (Ev.now _))
  | succ m ih =>
    intro i hi
    refine Ev.step (fun k => rfl) (Ev.yes (by omega) (Ev.yes (by omega) (Ev.yes (by omega) (Ev.yes rfl ?_))))
    rw [w64 (x := (i : Int) + 1) (by omega) (by omega)]
    exact ih (i + 1) (by omega)
theorem laws_eqIntS.evB (l : List Int) (hn : l.length ≤ 9223372036854775807) : Ev (fun k => laws_eqIntS.f k l l) true := by
  unfold laws_eqIntS.f
  exact Ev.yes rfl (laws_eqIntS.levB l hn l.length 0 (by omega))
theorem laws_eqIntSS.lev (l : List (List Int)) (hl : RowsV l) : ∀ (m i : Nat), i + m = l.length → Ev (fun k => laws_eqIntSS.l0 k l l (i : Nat)) true := by
  have hl1 := hl.1
  intro m
  induction m with
  | zero => intro i hi; exact Ev.step (fun k => rfl) (Ev.no (by omega) (Ev.now _))
  | succ m ih =>
    intro i hi
    have hlt : i < l.length := by omega
    refine Ev.step (fun k => rfl) (Ev.yes (by omega) (Ev.yes (by omega) (Ev.yes (by omega) ?_)))
    rw [rd_row hlt]
    refine Ev.bind (laws_eqIntS.evB _ (hl.2 _ (List.getElem_mem hlt))) (Ev.yes rfl ?_)
    rw [w64 (x := (i : Int) + 1) (by omega) (by omega)]
    exact ih (i + 1) (by omega)
theorem laws_eqIntSS.ev (l : List (List Int)) (hl : RowsV l) : Ev (fun k => laws_eqIntSS.f k l l) true := by
  unfold laws_eqIntSS.f
  exact Ev.yes rfl (laws_eqIntSS.lev l hl l.length 0 (by omega))
theorem laws_eqPins.ev (n : Int) (l : List (List Int)) (hl : RowsV l) : Ev (fun k => laws_eqPins.f k n l n l) true := by
  unfold laws_eqPins.f
  exact Ev.yes rfl (Ev.bind (laws_eqIntSS.ev l hl) (Ev.yes rfl (Ev.now _)))
/-! Marks on numbers, that they are held, lists of numbers compared. -/
theorem laws_markIntS.lev : ∀ (j : Nat) (l : List Int) (a : Int) (i : Nat), i + j = l.length → l.length ≤ 1048576 → 0 ≤ a → a + j ≤ 2000000 →
    ∃ l' : List Int, l'.length = l.length ∧ (∀ m : Nat, m < i → l'[m]? = l[m]?) ∧ Ev (fun k => laws_markIntS.l0 k l a (i : Nat)) (a + j, l') ∧ Ev (fun k => laws_heldIntS.l0 k l' a (i : Nat)) (a + j) := by
  intro j
  induction j with
  | zero =>
    intro l a i hi hn ha hb
    exact ⟨l, rfl, fun _ _ => rfl, Ev.step (fun k => rfl) (Ev.no (by omega) (Ev.id (by simp))), Ev.step (fun k => rfl) (Ev.no (by omega) (Ev.id (by simp)))⟩
  | succ j ih =>
    intro l a i hi hn ha hb
    have hlt : i < l.length := by omega
    have e1 : wrap64 (a + 1) = a + 1 := w64 (by omega) (by omega)
    have e4 : wrap64 ((i : Int) + 1) = ((i + 1 : Nat) : Int) := w64 (by omega) (by omega)
    obtain ⟨l', hl, hk, hm, hh⟩ := ih (l.set i a) (a + 1) (i + 1) (by simp; omega) (by simpa using hn) (by omega) (by omega)
    rw [List.length_set] at hl
    have hat : l'[i]? = some a := by
      rw [hk i (by omega)]
      simp [hlt]
    have hat' : rd l' (i : Nat) = a := by
      unfold rd
      simp [List.getD, hat]
    refine ⟨l', hl, fun m hmi => ?_, ?_, ?_⟩
    · rw [hk m (by omega), List.getElem?_set_ne (by omega)]
    · refine Ev.step (fun k => rfl) (Ev.yes (by omega) (Ev.yes (by omega) ?_))
      rw [e1, e4, Int.toNat_natCast]
      exact Ev.eq hm (by rw [Prod.mk.injEq]; exact ⟨by omega, rfl⟩)
    · refine Ev.step (fun k => rfl) (Ev.yes (by omega) (Ev.yes (by omega) ?_))
      rw [e1, e4]
      exact Ev.yes hat' (Ev.eq hh (by omega))
/-! Texts of digits: their sizes. -/
/-! Lists of pins: which are of one kind, what is joined. -/
/-! ### impl_Pins_keys: function 92 -/
/-! ### impl_shared: function 91 -/
/-! ### spec_keCount: function 84 -/
/-! Joined pins and counted keys: what they come to. -/
theorem spec_l1Has.lev (a : Int) (l : List Int) (hl : l.length ≤ 9223372036854775807) : ∀ (m i : Nat), i + m = l.length → Ev (fun k => spec_l1Has.l0 k a l (l.length : Int) (i : Nat)) ((l.drop i).contains a) := by
  intro m
  induction m with
  | zero =>
    intro i hi
    refine Ev.step (fun k => rfl) (Ev.no (by omega) (Ev.id ?_))
    rw [List.drop_eq_nil_of_le (by omega)]; rfl
  | succ m ih =>
    intro i hi
    have hlt : i < l.length := by omega
    refine Ev.step (fun k => rfl) (Ev.yes (by omega) (Ev.yes (by omega) (Ev.yes (by omega) ?_)))
    rw [rd_int hlt, List.drop_eq_getElem_cons hlt, List.contains_cons]
    by_cases h : l[i] = a
    · exact Ev.yes h (Ev.id (by simp [h]))
    · refine Ev.no h ?_
      rw [w64 (x := (i : Int) + 1) (by omega) (by omega), show (a == l[i]) = false from beq_eq_false_iff_ne.mpr (fun e => h e.symm), Bool.false_or]
      exact ih (i + 1) (by omega)
theorem spec_l1Has.ev (l : List Int) (a : Int) (hl : l.length ≤ 9223372036854775807) : Ev (fun k => spec_l1Has.f k l a) (l.contains a) := by
  unfold spec_l1Has.f
  have := spec_l1Has.lev a l hl l.length 0 (by omega)
  simpa using this
theorem slices_Index_int_int.lev (a : Int) (l : List Int) (hl : l.length ≤ 9223372036854775807) : ∀ (m i : Nat), i + m = l.length → ∃ r : Int, Ev (fun k => slices_Index_int_int.l0 k l a (l.length : Int) (i : Nat)) r ∧ decide (r ≥ 0) = (l.drop i).contains a := by
  intro m
  induction m with
  | zero =>
    intro i hi
    refine ⟨-1, Ev.step (fun k => rfl) (Ev.no (by omega) (Ev.now _)), ?_⟩
    rw [List.drop_eq_nil_of_le (by omega)]; rfl
  | succ m ih =>
    intro i hi
    have hlt : i < l.length := by omega
    rw [List.drop_eq_getElem_cons hlt, List.contains_cons]
    by_cases h : a = l[i]
    · refine ⟨(i : Nat), Ev.step (fun k => rfl) (Ev.yes (by omega) (Ev.yes (by omega) (Ev.yes (by omega) ?_))), ?_⟩
      · rw [rd_int hlt]; exact Ev.yes h (Ev.now _)
      · rw [show (a == l[i]) = true from beq_iff_eq.mpr h]; simp
    · obtain ⟨r, he, hr⟩ := ih (i + 1) (by omega)
      refine ⟨r, Ev.step (fun k => rfl) (Ev.yes (by omega) (Ev.yes (by omega) (Ev.yes (by omega) ?_))), ?_⟩
      · rw [rd_int hlt, w64 (x := (i : Int) + 1) (by omega) (by omega)]; exact Ev.no h he
      · rw [show (a == l[i]) = false from beq_eq_false_iff_ne.mpr h, Bool.false_or]; exact hr
theorem slices_Contains_int_int.ev (l : List Int) (a : Int) (hl : l.length ≤ 9223372036854775807) : Ev (fun k => slices_Contains_int_int.f k l a) (l.contains a) := by
  unfold slices_Contains_int_int.f slices_Index_int_int.f
  obtain ⟨r, he, hr⟩ := slices_Index_int_int.lev a l hl l.length 0 (by omega)
  refine Ev.bind he (Ev.id ?_)
  rw [hr]; simp
/-! spec.keJoin -/
/-- Pins of one kind: n depths, m places. -/
def KindL (n m : Nat) (l : List S41) : Prop := n ≤ 9 ∧ m ≤ 7 ∧ ∀ p ∈ l, p.f0 = (n : Int) ∧ p.f1.length = m ∧ RowsV p.f1
/-! impl.joined -/
def cntP (l : List S41) (i : Nat) (d : Int) : Nat := l.countP fun p => (p.f1.getD i []).contains d
theorem wr_succ {c : Nat} (h : c ≤ 1000) : wrap64 ((c : Int) + 1) = ((c + 1 : Nat) : Int) := w64 (by omega) (by omega)
theorem impl_joined.lev2 (l : List S41) (a : Int) (n m : Nat) (h : KindL n m l) (hl1 : l.length ≤ 1000) (i : Nat) (him : i < m) (row : List Int) (d : Nat) (mI : Int) (R : List (List Int)) (hrow : row.length ≤ 1000) (o : Int × List (List Int)) (t : Nat)
    (hgo : Ev (fun k => impl_joined.l1 k l a (i : Int) (if a ≤ (t : Int) then row ++ [(d : Int)] else row) mI (i : Int) (n : Int) (wrap64 ((d : Int) + 1)) (n : Int) R) o) :
    ∀ (q j : Nat) (c : Nat), j + q = l.length → c ≤ j → c + ((l.drop j).countP fun p => (p.f1.getD i []).contains (d : Int)) = t → Ev (fun k => impl_joined.l2 k l a (i : Int) row (d : Int) (c : Int) mI (i : Int) (n : Int) (d : Int) l (l.length : Int) (j : Int) (n : Int) R) o := by
  intro q
  induction q with
  | zero =>
    intro j c hj hc hcnt
    rw [List.drop_eq_nil_of_le (by omega)] at hcnt
    simp at hcnt
    refine Ev.step (fun k => rfl) (Ev.no (by omega) ?_)
    rw [← hcnt] at hgo
    by_cases e : a ≤ (c : Int)
    · rw [if_pos e] at hgo
      exact Ev.yes (by omega) (Ev.yes (by omega) hgo)
    · rw [if_neg e] at hgo
      exact Ev.no (by omega) hgo
  | succ q ih =>
    intro j c hj hc hcnt
    have hlt : j < l.length := by omega
    have hw := amk (wr_succ (c := j) (by omega))
    have hw2 := amk (wr_succ (c := c) (by omega))
    have u1 : j + 1 + q = l.length := by omega
    have u2 : c + 1 ≤ j + 1 := by omega
    have u3 : c ≤ j + 1 := by omega
    obtain ⟨hn, hm, hp⟩ := h
    obtain ⟨p0, p1, p2⟩ := hp l[j] (List.getElem_mem hlt)
    refine Ev.step (fun k => rfl) (Ev.yes (by omega) (Ev.yes (by omega) (Ev.yes (by omega) (Ev.yes (by omega) ?_))))
    rw [rd_pins hlt]
    refine Ev.yes (by omega) ?_
    rw [rd_row (by omega)]
    refine Ev.bind (slices_Contains_int_int.ev _ _ (p2.2 _ (List.getElem_mem _))) ?_
    rw [List.drop_eq_getElem_cons hlt, List.countP_cons, show l[j].f1.getD i [] = l[j].f1[i] from getD_at (by omega)] at hcnt
    rw [hw.out]
    have ih1 := ih (j + 1)
    clear ih
    generalize (l.drop (j + 1)).countP (fun p => (p.f1.getD i []).contains (d : Int)) = v at hcnt ih1
    cases e : l[j].f1[i].contains (d : Int) with
    | true =>
      rw [e] at hcnt
      refine Ev.yes rfl ?_
      rw [if_pos rfl] at hcnt
      rw [hw2.out]
      exact ih1 (c + 1) u1 u2 (by rw [← hcnt, Nat.add_assoc, Nat.add_comm 1 v])
    | false =>
      rw [e] at hcnt
      refine Ev.no (by simp) ?_
      rw [if_neg (by simp)] at hcnt
      exact ih1 c u1 u3 hcnt
theorem impl_joined.lev1 (l : List S41) (a : Int) (n m : Nat) (h : KindL n m l) (hl1 : l.length ≤ 1000) (i : Nat) (him : i < m) (mI : Int) (R : List (List Int)) (hR : R.length ≤ 1000) (o : Int × List (List Int))
    (hgo : Ev (fun k => impl_joined.l0 k l a mI (wrap64 ((i : Int) + 1)) (n : Int) (R ++ [(rngFrom 0 n).filter fun d => decide (a ≤ (cntP l i d : Int))])) o) :
    ∀ (q d : Nat), d + q = n → Ev (fun k => impl_joined.l1 k l a (i : Int) ((rngFrom 0 d).filter fun d => decide (a ≤ (cntP l i d : Int))) mI (i : Int) (n : Int) (d : Int) (n : Int) R) o := by
  have hn := h.1
  intro q
  induction q with
  | zero =>
    intro d hd
    obtain rfl : d = n := by omega
    exact Ev.step (fun k => rfl) (Ev.no (by omega) (Ev.yes (by omega) hgo))
  | succ q ih =>
    intro d hd
    have hl := filter_len_le (fun d => decide (a ≤ (cntP l i d : Int))) (rngFrom 0 d)
    rw [rngFrom_len] at hl
    refine Ev.step (fun k => rfl) (Ev.yes (by omega) ?_)
    refine impl_joined.lev2 l a n m h hl1 i him _ d mI R (by omega) o (cntP l i (d : Int)) ?_ l.length 0 0 (by omega) (by omega) (by rw [List.drop_zero, Nat.zero_add]; rfl)
    rw [w64 (x := (d : Int) + 1) (by omega) (by omega)]
    have hgo' := ih (d + 1) (by omega)
    have hs : rngFrom 0 (d + 1) = rngFrom 0 d ++ [(d : Int)] := by unfold rngFrom; rw [List.range'_concat]; simp
    rw [hs, List.filter_append] at hgo'
    by_cases e : a ≤ (cntP l i (d : Int) : Int)
    · rw [if_pos e]
      rw [show List.filter (fun d => decide (a ≤ (cntP l i d : Int))) [(d : Int)] = [(d : Int)] by simp [e]] at hgo'
      exact hgo'
    · rw [if_neg e]
      rw [show List.filter (fun d => decide (a ≤ (cntP l i d : Int))) [(d : Int)] = [] by simp [e], List.append_nil] at hgo'
      exact hgo'
theorem impl_joined.lev0 (l : List S41) (a : Int) (n m : Nat) (h : KindL n m l) (hl1 : l.length ≤ 1000) :
    ∀ (q i : Nat), i + q = m → Ev (fun k => impl_joined.l0 k l a (m : Int) (i : Int) (n : Int) (rowsOf n i fun i d => decide (a ≤ (cntP l i d : Int)))) ((n : Int), rowsOf n m fun i d => decide (a ≤ (cntP l i d : Int))) := by
  have hm := h.2.1
  intro q
  induction q with
  | zero =>
    intro i hi
    obtain rfl : i = m := by omega
    exact Ev.step (fun k => rfl) (Ev.no (by omega) (Ev.now _))
  | succ q ih =>
    intro i hi
    refine Ev.step (fun k => rfl) (Ev.yes (by omega) ?_)
    have hgo := ih (i + 1) (by omega)
    have hs : rowsOf n (i + 1) (fun i d => decide (a ≤ (cntP l i d : Int))) = rowsOf n i (fun i d => decide (a ≤ (cntP l i d : Int))) ++ [(rngFrom 0 n).filter fun d => decide (a ≤ (cntP l i d : Int))] := by
      unfold rowsOf
      rw [List.range'_concat, List.map_append, List.map_cons, List.map_nil, Nat.zero_add, Nat.one_mul]
    rw [hs, show ((i + 1 : Nat) : Int) = wrap64 ((i : Int) + 1) from (w64 (by omega) (by omega)).symm] at hgo
    have h1 := impl_joined.lev1 l a n m h hl1 i (by omega) (m : Int) _ (by rw [rowsOf_len]; omega) _ hgo n 0 (by omega)
    rw [rngFrom_zero, List.filter_nil] at h1
    exact h1
theorem impl_joined.ev (l : List S41) (a : Int) (n m : Nat) (hne : 0 < l.length) (h : KindL n m l) (hl1 : l.length ≤ 1000) : Ev (fun k => impl_joined.f k l a) ((n : Int), rowsOf n m fun i d => decide (a ≤ (cntP l i d : Int))) := by
  unfold impl_joined.f
  refine Ev.yes (by omega) ?_
  have hq : rd_T41 l 0 = l[0] := rd_pins hne
  obtain ⟨h0, h1, _⟩ := h.2.2 l[0] (List.getElem_mem hne)
  rw [hq, h0, h1]
  exact impl_joined.lev0 l a n m h hl1 m 0 (by omega)
theorem impl_master.ev (l : List S41) (n m : Nat) (hne : 0 < l.length) (h : KindL n m l) (hl1 : l.length ≤ 1000) : Ev (fun k => impl_joined.f k l 1) ((n : Int), rowsOf n m (inB false l)) := by
  refine Ev.eq (impl_joined.ev l 1 n m hne h hl1) ?_
  rw [Prod.mk.injEq]
  refine ⟨rfl, ?_⟩
  apply rowsOf_congr
  intro i _ d _
  rw [← inB_count_any l i d]
  unfold cntP
  congr 1
  rw [eq_iff_iff]
  omega
/-! ### spec_l1Num: function 135 -/
/-! spec's numbers of one digit. -/
/-! ### spec_keKind: function 80 -/
/-! ### spec_keList: function 88 -/
/-! spec's pins: what they come to. -/
theorem spec_l1Rising.lev (n : Int) (hn : 1 ≤ n ∧ n ≤ 9) (l : List Int) (hl : l.length ≤ 9223372036854775807) : ∀ (m i : Nat), i + m = l.length → (-1 ≤ lastI l i) → Ev (fun k => spec_l1Rising.l0 k l 0 (n - 1) l (l.length : Int) (i : Nat)) (risF n (lastI l i) (l.drop i)) := by
  intro m
  induction m with
  | zero =>
    intro i hi _
    refine Ev.step (fun k => rfl) (Ev.no (by omega) (Ev.id ?_))
    rw [List.drop_eq_nil_of_le (by omega)]
    rfl
  | succ m ih =>
    intro i hi hq
    have hlt : i < l.length := by omega
    have hr : rd l (i : Nat) = l[i] := rd_int hlt
    refine Ev.step (fun k => rfl) (Ev.yes (by omega) (Ev.yes (by omega) (Ev.yes (by omega) (Ev.bindc (spec_l1In.bs _ _ _) ?_))))
    rw [hr, List.drop_eq_getElem_cons hlt]
    unfold risF
    have hw : wrap64 ((i : Int) + 1) = ((i + 1 : Nat) : Int) := w64 (by omega) (by omega)
    have hla : lastI l (i + 1) = l[i] := lastI_at hlt
    by_cases h1 : 0 ≤ l[i] ∧ l[i] ≤ n - 1
    · refine Ev.yes (decide_eq_true h1) ?_
      have hgo := ih (i + 1) (by omega) (by rw [hla]; omega)
      rw [hla] at hgo
      cases i with
      | zero =>
        refine Ev.no (by omega) ?_
        rw [hw]
        refine Ev.eq hgo ?_
        have h2 : decide (lastI l 0 < l[0]) = true := decide_eq_true (show (-1 : Int) < l[0] by omega)
        have h3 : decide (l[0] ≤ n - 1) = true := decide_eq_true h1.2
        rw [h2, h3]; rfl
      | succ i =>
        have hp : wrap64 (((i + 1 : Nat) : Int) - 1) = (i : Nat) := by rw [w64 (by omega) (by omega)]; omega
        have hr1 : rd l (i : Nat) = l[i] := rd_int (by omega)
        have hlb : lastI l (i + 1) = l[i] := lastI_at (by omega)
        refine Ev.yes (by omega) ?_
        rw [hp, hr1, hlb]
        refine Ev.yes (by omega) (Ev.yes (by omega) ?_)
        by_cases h2 : l[i] ≥ l[i + 1]
        · refine Ev.yes h2 (Ev.id ?_)
          rw [decide_eq_false (by omega : ¬ l[i] < l[i + 1])]; rfl
        · refine Ev.no h2 ?_
          rw [hw]
          refine Ev.eq hgo ?_
          rw [decide_eq_true (by omega : l[i] < l[i + 1]), decide_eq_true h1.2]; rfl
    · refine Ev.no (by rw [decide_eq_false h1]; simp) (Ev.id ?_)
      by_cases h2 : lastI l i < l[i]
      · have h3 : ¬ l[i] ≤ n - 1 := fun h => h1 ⟨by omega, h⟩
        rw [decide_eq_false h3]; simp
      · rw [decide_eq_false h2]; rfl
theorem spec_l1Rising.ev (n : Int) (hn : 1 ≤ n ∧ n ≤ 9) (l : List Int) (hl : l.length ≤ 9223372036854775807) : Ev (fun k => spec_l1Rising.f k l 0 (n - 1)) (risF n (-1) l) := by
  unfold spec_l1Rising.f
  exact spec_l1Rising.lev n hn l hl l.length 0 (by omega) (show (-1 : Int) ≤ -1 by omega)
theorem spec_keGood.lev (n : Int) (hn : 1 ≤ n ∧ n ≤ 9) (l : List (List Int)) (hl : RowsV l) : ∀ (m i : Nat), i + m = l.length → Ev (fun k => spec_keGood.l0 k l (l.length : Int) (i : Nat) n l) ((l.drop i).all (rowB n)) := by
  have hl1 := hl.1
  intro m
  induction m with
  | zero =>
    intro i hi
    refine Ev.step (fun k => rfl) (Ev.no (by omega) (Ev.id ?_))
    rw [List.drop_eq_nil_of_le (by omega)]; rfl
  | succ m ih =>
    intro i hi
    have hlt : i < l.length := by omega
    refine Ev.step (fun k => rfl) (Ev.yes (by omega) (Ev.yes (by omega) (Ev.yes (by omega) ?_)))
    rw [rd_row hlt, List.drop_eq_getElem_cons hlt, List.all_cons]
    have hx := hl.2 l[i] (List.getElem_mem hlt)
    have hgo := ih (i + 1) (by omega)
    generalize l[i] = x at hx ⊢
    unfold rowB
    by_cases h0 : (x.length : Int) = 0
    · refine Ev.yes h0 (Ev.id ?_)
      obtain rfl : x = [] := List.length_eq_zero_iff.mp (by omega)
      rfl
    · refine Ev.no h0 ?_
      have h1 : (!x.isEmpty) = true := by cases x <;> simp_all
      rw [w64 (x := n - 1) (by omega) (by omega), h1, Bool.true_and]
      refine Ev.bind (spec_l1Rising.ev n hn x hx) ?_
      cases risF n (-1) x with
      | false => exact Ev.no (by simp) (Ev.id rfl)
      | true =>
        refine Ev.yes rfl ?_
        rw [w64 (x := (i : Int) + 1) (by omega) (by omega), Bool.true_and]
        exact hgo
theorem spec_keGood.ev (n : Int) (l : List (List Int)) (hl : RowsV l) : Ev (fun k => spec_keGood.f k n l) (pinsB n l) := by
  unfold spec_keGood.f pinsB
  refine Ev.bindc (spec_l1In.bs _ _ _) ?_
  by_cases h1 : 1 ≤ n ∧ n ≤ 9
  · rw [decide_eq_true h1]
    refine Ev.yes rfl (Ev.bindc (spec_l1In.bs _ _ _) (Ev.step (fun k => rfl) ?_))
    simp only [spec_keGood.j0]
    by_cases h2 : 1 ≤ (l.length : Int) ∧ (l.length : Int) ≤ 7
    · rw [decide_eq_true h2]
      refine Ev.no (by simp) ?_
      have := spec_keGood.lev n h1 l hl l.length 0 (by omega)
      simpa using this
    · rw [decide_eq_false h2]
      exact Ev.yes (by simp) (Ev.id (by simp))
  · rw [decide_eq_false h1]
    refine Ev.no (by simp) (Ev.step (fun k => rfl) ?_)
    simp only [spec_keGood.j0]
    exact Ev.yes trivial (Ev.id (by simp))
/-! ### impl_text: function 136 -/
/-! Digits of texts, texts of digits: what they come to. -/
/-! ### impl_Pins_all: function 86 -/
/-! ### impl_AllKeys: function 30 -/
/-! ### spec_keAll: function 85 -/
/-! ### spec_AllKeys: function 29 -/
/-! All keys that open: what impl (place after place) and spec (key after key) come to. -/
/-! spec -/
/-! impl -/
/-! ### laws_eqStringS: function 31 -/
/-! ### laws_markText: function 87 -/
/-! ### laws_heldStringS: function 33 -/
/-! ### laws_markStringS: function 32 -/
/-! Marks on texts, that they are held, lists of texts compared. -/
/-! laws.FnExactAllKeys, by hand: the arguments' rows are marked. -/
section
variable {w W W2 : World} {n : Int} {A : Option Addr} {c : Nat} {L Lx Lx' : List (List Int)} {bx ax : Nat} {Ax : Option Addr} {cx aw bw : Nat} {Aw : Option Addr} {cw : Nat} {V : List ByteArray} {ag bg : Nat} {Ag : Option Addr} {cg : Nat} {Vg Vg' : List ByteArray}
end
theorem opens_t3 : Opens Try.prog 3 (Kd.int .i64) IntV := opens_int Try.underlying3
theorem opens_t86 : Opens Try.prog 86 (Kd.slice 3 (Kd.int .i64)) (ListV IntV) := opens_slice Try.underlying86 opens_t3 (by kernel_rfl)
theorem opens_t35 : Opens Try.prog 35 (Kd.slice 86 (Kd.slice 3 (Kd.int .i64))) (ListV (ListV IntV)) := opens_slice Try.underlying35 opens_t86 (by kernel_rfl)
def V37 (x : S37) : Prop := IntV x.f0 ∧ (ListV (ListV IntV)) x.f1
theorem opens_t37 : Opens Try.prog 37 k37 V37 := opens_iso (opens_pair Try.underlying37 opens_t3 opens_t35 (by kernel_rfl) (by kernel_rfl) (by kernel_rfl) (by kernel_rfl) (by kernel_rfl)) (fun x : S37 => (x.f0, x.f1)) (fun p => ⟨p.1, p.2⟩) (fun _ => rfl)
/-! The law FnExactAllKeys: its calls, all told. -/
def totL (l : List (List Int)) : Nat := l.foldr (fun r n => r.length + n) 0
theorem markRows_ev : ∀ (l : List (List Int)) (a : Int), 0 ≤ a → a + (totL l : Int) ≤ 2000000 → totL l ≤ 1048576 → ∃ l', Ev (fun k => markRows k l a) (a + (totL l : Int), l') := by
  intro l
  induction l with
  | nil => intro a h0 _ _; exact ⟨[], Ev.id (by rw [Prod.mk.injEq]; exact ⟨by show a = a + 0; omega, rfl⟩)⟩
  | cons x t ih =>
    intro a h0 h1 h2
    have ht : totL (x :: t) = x.length + totL t := rfl
    rw [ht] at h1 h2 ⊢
    obtain ⟨x', _, _, hm, _⟩ := laws_markIntS.lev x.length x a 0 (by omega) (by omega) h0 (by omega)
    obtain ⟨t', ht'⟩ := ih (a + x.length) (by omega) (by omega) (by omega)
    refine ⟨x' :: t', Ev.bind hm (Ev.bind ht' (Ev.id ?_))⟩
    rw [Prod.mk.injEq]
    exact ⟨by omega, rfl⟩
theorem C_rowsV {w : World} {A : Option Addr} {l : List (List Int)} (h : Kd.C (Kd.slice 3 (Kd.int .i64)) w A l.length l) : RowsV l := by
  refine ⟨h.2.1, fun r hr => ?_⟩
  obtain ⟨i, hi, rfl⟩ := List.getElem_of_mem hr
  obtain ⟨ad, cs, e, _, hK, _⟩ := Kd.C_get h ([] : List Int) (i : Int) (by omega) (by omega)
  obtain ⟨A0, c0, _, l0, g0⟩ := hK
  rw [Int.toNat_natCast, getD_at hi] at g0
  exact g0.2.1
/-! Marks on rows of numbers: what is marked is held. -/
theorem laws_szPins.evA (n : Int) (l : List (List Int)) (hl : RowsV l) (a : Int) (h0 : 0 ≤ a) (h1 : a ≤ 1048576) : ∃ r, Ev (fun k => laws_szPins.f k n l a) r ∧ (0 ≤ r → (totL l : Int) + r ≤ a ∧ RowsM l) := by
  have hl1 := hl.1
  have hlev : ∀ (m i : Nat) (a : Int), i + m = l.length → 0 ≤ a → a ≤ 1048576 → ∃ r, r ≤ a ∧ Ev (fun k => laws_szIntSS.l0 k l a (i : Nat)) r ∧ (0 ≤ r → (totL (l.drop i) : Int) + r ≤ a) := by
    intro m
    induction m with
    | zero =>
      intro i a hi h0 h1
      refine ⟨a, Int.le_refl _, Ev.step (fun k => rfl) (Ev.no (by omega) (Ev.now _)), fun _ => ?_⟩
      rw [List.drop_eq_nil_of_le (by omega)]
      show ((0 : Nat) : Int) + a ≤ a
      omega
    | succ m ih =>
      intro i a hi h0 h1
      have hlt : i < l.length := by omega
      have hx := hl.2 l[i] (List.getElem_mem hlt)
      by_cases h : (l[i].length : Int) ≤ a
      · obtain ⟨r, hr, he, hf⟩ := ih (i + 1) (a - l[i].length) (by omega) (by omega) (by omega)
        refine ⟨r, by omega, Ev.step (fun k => rfl) (Ev.yes (by omega) (Ev.yes (by omega) ?_)), fun hr0 => ?_⟩
        · rw [rd_row hlt]
          refine Ev.bindc (laws_szIntS.is _ _ h0 h1 hx) ?_
          rw [if_pos h, w64 (x := (i : Int) + 1) (by omega) (by omega)]
          exact Ev.no (by omega) he
        · rw [List.drop_eq_getElem_cons hlt]
          have := hf hr0
          show ((l[i].length + totL (l.drop (i + 1)) : Nat) : Int) + r ≤ a
          omega
      · refine ⟨-1, by omega, Ev.step (fun k => rfl) (Ev.yes (by omega) (Ev.yes (by omega) ?_)), fun hr0 => by omega⟩
        rw [rd_row hlt]
        refine Ev.bindc (laws_szIntS.is _ _ h0 h1 hx) ?_
        rw [if_neg h]
        exact Ev.yes (by omega) (Ev.now _)
  obtain ⟨q, _, hq, hqf⟩ := laws_szPins.ev n l hl a h0 h1
  unfold laws_szPins.f laws_szIntSS.f at hq ⊢
  rw [w64 (x := a - (l.length : Int)) (by omega) (by omega)] at hq ⊢
  by_cases h : (l.length : Int) ≤ a
  · obtain ⟨r, hr, he, hf⟩ := hlev l.length 0 (a - l.length) (by omega) (by omega) (by omega)
    by_cases h2 : 0 ≤ r
    · have hx : Ev (fun k => ((if a - (l.length : Int) < 0 then some (-1) else laws_szIntSS.l0 k l (a - (l.length : Int)) 0).bind fun t => if t < 0 then some (-1) else some t)) r := Ev.bind (Ev.no (by omega) he) (Ev.no (by omega) (Ev.now _))
      have hqr : q = r := Ev.un hq hx
      refine ⟨r, hx, fun hr0 => ⟨?_, hqf (by omega)⟩⟩
      have := hf hr0
      rw [List.drop_zero] at this
      omega
    · exact ⟨-1, Ev.bind (Ev.no (by omega) he) (Ev.yes (by omega) (Ev.now _)), fun hr0 => by omega⟩
  · exact ⟨-1, Ev.bind (Ev.yes (by omega) (Ev.now _)) (Ev.yes (by omega) (Ev.now _)), fun hr0 => by omega⟩
/-- What markRows leaves is held, whatever stands ahead of it. -/
theorem markRows_held : ∀ (l : List (List Int)) (a : Int), 0 ≤ a → a + (totL l : Int) ≤ 2000000 → totL l ≤ 1048576 → l.length ≤ 1048576 → ∃ l' : List (List Int), l'.length = l.length ∧ Ev (fun k => markRows k l a) (a + (totL l : Int), l') ∧ ∀ D : List (List Int), D.length + l.length ≤ 1048576 → Ev (fun k => laws_heldIntSS.l0 k (D ++ l') a (D.length : Int)) (a + (totL l : Int)) := by
  intro l
  induction l with
  | nil =>
    intro a h0 _ _ _
    refine ⟨[], rfl, Ev.id (by rw [Prod.mk.injEq]; exact ⟨by show a = a + 0; omega, rfl⟩), fun D hD => Ev.step (fun k => rfl) (Ev.no (by simp) (Ev.id (by show a = a + 0; omega)))⟩
  | cons x t ih =>
    intro a h0 h1 h2 h3
    have ht : totL (x :: t) = x.length + totL t := rfl
    rw [ht] at h1 h2 ⊢
    rw [List.length_cons] at h3
    obtain ⟨x', hx1, _, hm, hh⟩ := laws_markIntS.lev x.length x a 0 (by omega) (by omega) h0 (by omega)
    obtain ⟨t', ht1, ht2, ht3⟩ := ih (a + x.length) (by omega) (by omega) (by omega) (by omega)
    refine ⟨x' :: t', by rw [List.length_cons, List.length_cons, ht1], Ev.bind hm (Ev.bind ht2 (Ev.id ?_)), fun D hD => ?_⟩
    · rw [Prod.mk.injEq]
      exact ⟨by omega, rfl⟩
    · have hlt : D.length < (D ++ x' :: t').length := by rw [List.length_append, List.length_cons]; omega
      have hget : (D ++ x' :: t')[D.length] = x' := by rw [List.getElem_append_right (Nat.le_refl _)]; simp
      rw [List.length_cons] at hD
      have hw := amk (wr_big (c := D.length) (by omega))
      have hgo := ht3 (D ++ [x']) (by rw [List.length_append, List.length_singleton]; omega)
      rw [List.append_assoc, List.length_append, List.length_singleton] at hgo
      refine Ev.step (fun k => rfl) (Ev.yes (by omega) (Ev.yes (by omega) ?_))
      rw [rd_row hlt, hget, hw.out]
      refine Ev.bind (a := a + x.length) hh (Ev.no (by omega) ?_)
      exact Ev.eq hgo (by omega)
theorem laws_markPins.evH (n : Int) (l : List (List Int)) (h2 : totL l ≤ 1048576) (h3 : l.length ≤ 1048576) : ∃ l', Ev (fun k => laws_markPins.f k n l 1) (1 + (totL l : Int), l') ∧ Ev (fun k => laws_heldPins.f k n l' 1) (1 + (totL l : Int)) := by
  obtain ⟨l', hl, hm, hh⟩ := markRows_held l 1 (by omega) (by omega) h2 h3
  refine ⟨l', hm, ?_⟩
  have := hh [] (by show 0 + l.length ≤ 1048576; omega)
  unfold laws_heldPins.f laws_heldIntSS.f
  exact Ev.bind this (Ev.no (by omega) (Ev.now _))
/-! slices.IndexFunc and slices.ContainsFunc at pins, under any predicate that makes nothing but new memory. -/
/-! impl.ofKind, by hand: it asks its pins through slices.ContainsFunc and a closure over the list. -/
/-! ### impl_MasterOf: function 44 -/
/-! ### spec_MasterPins: function 25 -/
/-! impl.MasterPins, by hand: it builds a list of the two. -/
/-! laws.FnExactMasterPins, by hand: the arguments' rows are marked. -/
section
variable {w W W2 : World} {n0 : Int} {A0 : Option Addr} {l0 c0 : Nat} {n1 : Int} {A1 : Option Addr} {l1 c1 : Nat}
end
section
variable {w W : World} {n0 : Int} {A0 : Option Addr} {c0 : Nat} {L0 : List (List Int)} {n1 : Int} {A1 : Option Addr} {c1 : Nat} {L1 : List (List Int)} {rn : Int} {R : List (List Int)} {c8 aw ew bw : Nat} {Aw : Option Addr} {cw : Nat} {ax bx : Nat} {Ax : Option Addr} {cx : Nat} {X : List (List Int)} {ay yb : Nat} {Ay : Option Addr} {cy : Nat} {Y : List (List Int)} {ag eg bg : Nat} {Ag : Option Addr} {cg : Nat} {G : List (List Int)} {W2 : World} {X' Y' G' : List (List Int)}
end
section
variable {w W W2 : World} {n0 : Int} {A0 : Option Addr} {L0 : List (List Int)} {c0 : Nat} {n1 : Int} {A1 : Option Addr} {L1 : List (List Int)} {c1 : Nat} {rn : Int} {R : List (List Int)} {A6 : Option Addr} {c6 b aw ew c8 : Nat}
end
section
variable {w0 w W W2 : World} {n0 : Int} {A0 : Option Addr} {l0 c0 : Nat} {n1 : Int} {A1 : Option Addr} {l1 c1 : Nat}
end
/-! The law FnExactMasterPins: its calls, all told. -/
theorem totL_le (c : Nat) : ∀ l : List (List Int), (∀ r ∈ l, r.length ≤ c) → totL l ≤ l.length * c := by
  intro l
  induction l with
  | nil => intro _; exact Nat.zero_le _
  | cons r t ih =>
    intro h
    have h1 := ih (fun q hq => h q (List.mem_cons_of_mem _ hq))
    have h2 := h r List.mem_cons_self
    show r.length + totL t ≤ (t.length + 1) * c
    rw [Nat.succ_mul]
    omega
/-! ### spec_TakePin: function 39 -/
/-! laws.FnExactTakePin, by hand: the argument's rows are marked. (Printed by gentk.py) -/
section
variable {w : World} {n : Int} {A : Option Addr} {c : Nat} {L : List (List Int)} {rn : Int} {R : List (List Int)} {aw bw : Nat} {Aw : Option Addr} {cw : Nat} {bx : Nat} {Ax : Option Addr} {cx : Nat} {X : List (List Int)} {bg : Nat} {Ag : Option Addr} {cg : Nat} {G : List (List Int)} {W W2 : World} {X' G' : List (List Int)} {l : Nat}
end
/-! The law FnExactTakePin: its calls, all told. -/
def plB (n : Int) (L : List (List Int)) (p d : Int) : Bool := pinsB n L && (decide (0 ≤ p ∧ p ≤ (L.length : Int) - 1) && decide (0 ≤ d ∧ d ≤ n - 1))
theorem plB_parts {n : Int} {L : List (List Int)} {p d : Int} (h : plB n L p d = true) : pinsB n L = true ∧ (0 ≤ p ∧ p ≤ (L.length : Int) - 1) ∧ 0 ≤ d ∧ d ≤ n - 1 := by
  unfold plB at h
  rw [Bool.and_eq_true, Bool.and_eq_true, decide_eq_true_eq, decide_eq_true_eq] at h
  exact ⟨h.1, h.2.1, h.2.2⟩
theorem spec_kePlace.ev (n : Int) (L : List (List Int)) (p d : Int) (hL : RowsV L) : Ev (fun k => spec_kePlace.f k n L p d) (plB n L p d) := by
  unfold spec_kePlace.f plB
  refine Ev.bind (spec_keGood.ev n L hL) ?_
  cases h1 : pinsB n L with
  | false => exact Ev.no (by simp) (Ev.id (by simp))
  | true =>
    obtain ⟨a1, a2, _⟩ := pinsB_parts h1
    rw [w64 (x := (L.length : Int) - 1) (by omega) (by omega), w64 (x := n - 1) (by omega) (by omega)]
    refine Ev.yes rfl (Ev.bindc (spec_l1In.bs _ _ _) ?_)
    by_cases h2 : 0 ≤ p ∧ p ≤ (L.length : Int) - 1
    · rw [decide_eq_true h2]
      exact Ev.yes rfl (Ev.bindc (spec_l1In.bs _ _ _) (Ev.id (by simp)))
    · rw [decide_eq_false h2]
      exact Ev.no (by simp) (Ev.id (by simp))
theorem impl_hasDepth.is (n : Int) (L : List (List Int)) (p d : Int) : impl_hasDepth.f n L p d = some (plB n L p d) := by
  unfold impl_hasDepth.f impl_ArePins.f plB
  cases h1 : pinsB n L with
  | false => simp
  | true =>
    obtain ⟨a1, a2, _⟩ := pinsB_parts h1
    rw [w64 (x := (L.length : Int) - 1) (by omega) (by omega), w64 (x := n - 1) (by omega) (by omega)]
    rw [impl_within.bs, impl_within.bs]
    by_cases h2 : 0 ≤ p ∧ p ≤ (L.length : Int) - 1
    · simp [h2]
    · rw [decide_eq_false h2]; simp
theorem spec_keOwn.lev (n : Int) (L : List (List Int)) (hL : L.length ≤ 7) (hr : ∀ r ∈ L, r.length ≤ 9) : ∀ (m i : Nat) (acc : List (List Int)), i + m = L.length → acc.length ≤ i → Ev (fun k => spec_keOwn.l0 k L (L.length : Int) (i : Nat) n acc) (n, acc ++ L.drop i) := by
  intro m
  induction m with
  | zero =>
    intro i acc hi _
    refine Ev.step (fun k => rfl) (Ev.no (by omega) (Ev.id ?_))
    rw [List.drop_eq_nil_of_le (by omega), List.append_nil]
  | succ m ih =>
    intro i acc hi ha
    have hlt : i < L.length := by omega
    have hx := hr L[i] (List.getElem_mem hlt)
    refine Ev.step (fun k => rfl) (Ev.yes (by omega) (Ev.yes (by omega) (Ev.yes (by omega) ?_)))
    rw [rd_row hlt, w64 (x := (i : Int) + 1) (by omega) (by omega)]
    have ho : spec_l1Own.f L[i] = some L[i] := by
      unfold spec_l1Own.f
      rw [Option.bind_some, if_pos (by simp; omega), List.nil_append]
    refine Ev.bindc ho (Ev.yes (by omega) ?_)
    have := ih (i + 1) (acc ++ [L[i]]) (by omega) (by simp; omega)
    rw [List.drop_eq_getElem_cons hlt]
    rw [List.append_assoc] at this
    exact this
theorem rows_self {n : Int} {L : List (List Int)} (h : pinsB n L = true) : rowsOf n.toNat L.length (inB false [(⟨n, L⟩ : S41)]) = L := by
  obtain ⟨h1, h2, h3⟩ := pinsB_parts h
  apply List.ext_getElem
  · rw [rowsOf_len]
  · intro i hi1 hi2
    have hg := rowsOf_get n.toNat L.length (inB false [(⟨n, L⟩ : S41)]) i hi2
    rw [show (rowsOf n.toNat L.length (inB false [(⟨n, L⟩ : S41)])).getD i [] = (rowsOf n.toNat L.length (inB false [(⟨n, L⟩ : S41)]))[i] by simp [List.getD, hi1]] at hg
    rw [hg]
    have hb := h3 L[i] (List.getElem_mem hi2)
    unfold rowB at hb
    rw [Bool.and_eq_true] at hb
    have := ris_self n.toNat 0 L[i] (by rw [show ((0 + n.toNat : Nat) : Int) = n by omega]; exact hb.2)
    rw [← this]
    apply List.filter_congr
    intro d _
    simp [inB, List.getD, hi2]
theorem impl_changed.ev (n : Int) (L : List (List Int)) (hL : RowsV L) (h : pinsB n L = true) (i : Nat) (hi : i < L.length) (row : List Int) : Ev (fun k => impl_Pins_changed.f k n L (i : Int) row) (if rowB n row = true then (n, L.set i row, true) else (0, [], false)) := by
  obtain ⟨h1, h2, h3⟩ := pinsB_parts h
  unfold impl_Pins_changed.f impl_ArePins.f
  have hk : KindL n.toNat L.length [(⟨n, L⟩ : S41)] := by
    refine ⟨by omega, h2.2, fun p hp => ?_⟩
    rw [List.mem_singleton.mp hp]
    exact ⟨by show n = _; omega, rfl, hL⟩
  have hj := impl_master.ev _ n.toNat L.length (by show 0 < 1; omega) hk (by show 1 ≤ 1000; omega)
  rw [rows_self h, show ((n.toNat : Nat) : Int) = n by omega] at hj
  refine Ev.bind hj (Ev.yes (by omega) (Ev.yes (by show (i : Int) < (L.length : Int); omega) ?_))
  simp only [Option.bind_some, Int.toNat_natCast]
  rw [pinsB_set h i hi row]
  cases e : rowB n row with
  | true => exact Ev.yes rfl (Ev.id (by simp))
  | false => exact Ev.no (by simp) (Ev.id (by simp))
/-! The law FnExactAddPin: its calls, all told. -/
theorem cmp_Less_int.is (a b : Int) : cmp_Less_int.f a b = some (decide (a < b)) := by
  unfold cmp_Less_int.f cmp_isNaN_int.f
  simp
theorem slices_insertionSort.lev1 (d : Int) (N : Int) (X : List Int) : ∀ (m : Nat) (A B : List Int), A.length = m → (A ++ B).Pairwise (· < ·) → (∀ x ∈ B, d < x) → (A ++ B).length ≤ 11 → insI (A ++ B) d = X → N = (((A ++ B).length + 1 : Nat) : Int) → Ev (fun k => slices_insertionSortOrdered_int.l1 k (A ++ d :: B) 0 N ((A ++ B).length : Int) (A.length : Int)) X := by
  intro m
  induction m with
  | zero =>
    intro A B hA hp hB hl hX hN
    obtain rfl : A = [] := List.eq_nil_of_length_eq_zero hA
    have hx : X = d :: B := by rw [← hX]; exact insI_split d [] B (by simp) hB
    have hw : wrap64 ((([] ++ B : List Int).length : Int) + 1) = N := by rw [hN]; exact w64 (by omega) (by omega)
    refine Ev.step (fun k => rfl) (Ev.no (by simp) ?_)
    rw [hw, hx]
    exact Ev.step (fun k => rfl) (Ev.no (by omega) (Ev.now _))
  | succ m ih =>
    intro A B hA hp hB hl hX hN
    obtain ⟨A', y, rfl⟩ : ∃ A' y, A = A' ++ [y] := ⟨A.dropLast, A.getLast (by intro h; rw [h] at hA; simp at hA), (List.dropLast_concat_getLast _).symm⟩
    have hA' : A'.length = m := by simp at hA; exact hA
    have hlen : (A' ++ [y]).length = A'.length + 1 := by simp
    have hass : (A' ++ [y]) ++ d :: B = A' ++ y :: d :: B := by simp
    have hass2 : (A' ++ [y]) ++ B = A' ++ y :: B := by simp
    rw [hass2] at hp hl hX hN ⊢
    have hl2 : (A' ++ y :: B).length = A'.length + B.length + 1 := by simp; omega
    have hw1 : wrap64 (((A'.length + 1 : Nat) : Int) - 1) = (A'.length : Int) := by rw [w64 (by omega) (by omega)]; omega
    have hl3 : (A' ++ y :: d :: B).length = A'.length + B.length + 2 := by simp; omega
    rw [hass, hlen]
    refine Ev.step (fun k => rfl) (Ev.yes (by omega) (Ev.yes (by omega) (Ev.yes (by omega) ?_)))
    rw [hw1, two_fst, two_snd]
    refine Ev.yes (by omega) (Ev.yes (by omega) (Ev.bindc (cmp_Less_int.is d y) ?_))
    by_cases h : d < y
    · refine Ev.yes (decide_eq_true h) ?_
      rw [Int.toNat_natCast, Int.toNat_natCast, swap_two]
      exact ih A' (y :: B) hA' hp (fun x hx => by
        rcases List.mem_cons.mp hx with rfl | hx
        · exact h
        · exact hB x hx) hl hX hN
    · have hx : X = A' ++ y :: d :: B := by
        rw [← hX, ← hass2, ← hass]
        refine insI_split d (A' ++ [y]) B (fun x hx => ?_) hB
        rcases List.mem_append.mp hx with hx | hx
        · have := (List.pairwise_append.mp hp).2.2 x hx y List.mem_cons_self
          omega
        · rw [List.mem_singleton.mp hx]; exact h
      have hw : wrap64 (((A' ++ y :: B).length : Int) + 1) = N := by rw [hN]; exact w64 (by omega) (by omega)
      refine Ev.no (by rw [decide_eq_false h]; simp) ?_
      rw [hw, hx]
      exact Ev.step (fun k => rfl) (Ev.no (by omega) (Ev.now _))
theorem slices_insertionSort.lev0 (d : Int) (row : List Int) (hp : row.Pairwise (· < ·)) (hl : row.length ≤ 11) : ∀ (m i : Nat), i + m = row.length → 1 ≤ i → Ev (fun k => slices_insertionSortOrdered_int.l0 k (row ++ [d]) 0 ((row.length + 1 : Nat) : Int) (i : Int)) (insI row d) := by
  have hlen : (row ++ [d]).length = row.length + 1 := by simp
  intro m
  induction m with
  | zero =>
    intro i hi h1
    have hil : i = row.length := by omega
    subst hil
    refine Ev.step (fun k => rfl) (Ev.yes (by omega) ?_)
    have := slices_insertionSort.lev1 d ((row.length + 1 : Nat) : Int) (insI row d) row.length row [] rfl (by simpa using hp) (by simp) (by simpa using hl) (by simp) (by simp)
    simpa using this
  | succ m ih =>
    intro i hi h1
    have hlt : i < row.length := by omega
    have hw1 : wrap64 ((i : Int) - 1) = ((i - 1 : Nat) : Int) := by rw [w64 (by omega) (by omega)]; omega
    have hw2 : wrap64 ((i : Int) + 1) = ((i + 1 : Nat) : Int) := by rw [w64 (by omega) (by omega)]; omega
    have g1 : rd (row ++ [d]) (i : Int) = row[i] := by rw [rd_at (by simp; omega)]; simp [List.getElem_append_left hlt]
    have g2 : rd (row ++ [d]) ((i - 1 : Nat) : Int) = row[i - 1] := by rw [rd_at (by simp; omega)]; simp [List.getElem_append_left (show i - 1 < row.length by omega)]
    have hlt2 := List.pairwise_iff_getElem.mp hp (i - 1) i (by omega) hlt (by omega)
    refine Ev.step (fun k => rfl) (Ev.yes (by omega) (Ev.step (fun k => rfl) (Ev.yes (by omega) (Ev.yes (by omega) (Ev.yes (by omega) ?_)))))
    rw [hw1, g1, g2, hw2]
    refine Ev.yes (by omega) (Ev.yes (by omega) (Ev.bindc (cmp_Less_int.is _ _) (Ev.no (by rw [decide_eq_false (by omega)]; simp) ?_)))
    exact ih (i + 1) (by omega) (by omega)
theorem slices_insertionSort.ev (d : Int) (row : List Int) (hp : row.Pairwise (· < ·)) (hl : row.length ≤ 11) (h1 : 1 ≤ row.length) : Ev (fun k => slices_insertionSortOrdered_int.f k (row ++ [d]) 0 ((row.length + 1 : Nat) : Int)) (insI row d) := by
  unfold slices_insertionSortOrdered_int.f
  have hw : wrap64 ((0 : Int) + 1) = ((1 : Nat) : Int) := by rw [w64 (by omega) (by omega)]; rfl
  rw [hw]
  exact slices_insertionSort.lev0 d row hp hl (row.length - 1) 1 (by omega) (by omega)
theorem spec_l1Put.lev (d : Int) (row : List Int) (hl : row.length ≤ 11) (hc : row.contains d = false) : ∀ (m i : Nat), i + m = row.length → Ev (fun k => spec_l1Put.l0 k row d (i : Int)) (row.take i ++ insI (row.drop i) d) := by
  intro m
  induction m with
  | zero =>
    intro i hi
    have hil : i = row.length := by omega
    have h2 : insI (row.drop i) d = [d] := by rw [List.drop_eq_nil_of_le (by omega)]; rfl
    rw [h2]
    have ht : (row.take (i : Int).toNat).length = row.length := by rw [Int.toNat_natCast, List.length_take]; omega
    refine Ev.step (fun k => rfl) (Ev.no (by omega) (Ev.bindc rfl (Ev.yes (by omega) (Ev.yes (by omega) (Ev.bindc rfl (Ev.yes (by rw [ht]; simp; omega) (Ev.bindc rfl (Ev.yes (by rw [List.length_append, ht]; simp; omega) (Ev.bindc rfl (Ev.bindc rfl (Ev.yes ?_ (Ev.id ?_))))))))))))
    · rw [List.length_append, List.length_append, ht, List.length_drop]; simp; omega
    · rw [Int.toNat_natCast, List.drop_eq_nil_of_le (by omega : row.length ≤ i), List.append_nil, List.nil_append]
  | succ m ih =>
    intro i hi
    have hlt : i < row.length := by omega
    have hne : row[i] ≠ d := fun e => by
      have : row.contains d = true := List.contains_iff_mem.mpr (e ▸ List.getElem_mem hlt)
      rw [hc] at this; cases this
    have hw : wrap64 ((i : Int) + 1) = ((i + 1 : Nat) : Int) := by rw [w64 (by omega) (by omega)]; omega
    refine Ev.step (fun k => rfl) (Ev.yes (by omega) (Ev.yes (by omega) ?_))
    rw [rd_int hlt, hw]
    by_cases h : row[i] < d
    · have hins : insI (row.drop i) d = row[i] :: insI (row.drop (i + 1)) d := by rw [List.drop_eq_getElem_cons hlt, insI_cons, if_neg (by omega)]
      rw [hins]
      have := ih (i + 1) (by omega)
      rw [List.take_succ_eq_append_getElem hlt, List.append_assoc] at this
      exact Ev.yes h this
    · have hins : insI (row.drop i) d = d :: row.drop i := by rw [List.drop_eq_getElem_cons hlt, insI_cons, if_pos (by omega)]
      rw [hins]
      have ht : (row.take (i : Int).toNat).length = i := by rw [Int.toNat_natCast, List.length_take]; omega
      refine Ev.no h (Ev.no hne (Ev.bindc rfl (Ev.yes (by omega) (Ev.bindc rfl (Ev.yes (by rw [ht]; simp; omega) (Ev.bindc rfl (Ev.yes (by rw [List.length_append, ht]; simp; omega) (Ev.bindc rfl (Ev.bindc rfl (Ev.yes ?_ (Ev.id ?_)))))))))))
      · rw [List.length_append, List.length_append, ht, List.length_drop]; simp; omega
      · rw [Int.toNat_natCast, List.nil_append, List.append_assoc]; rfl
theorem spec_l1Put.ev (d : Int) (row : List Int) (hl : row.length ≤ 11) (hc : row.contains d = false) : Ev (fun k => spec_l1Put.f k row d) (insI row d) := by
  unfold spec_l1Put.f
  have := spec_l1Put.lev d row hl hc row.length 0 (by omega)
  rw [List.drop_zero, List.take_zero, List.nil_append] at this
  exact this
def apB (n : Int) (L : List (List Int)) (p d : Int) : Bool := plB n L p d && !(L.getD p.toNat []).contains d
def apV (n : Int) (L : List (List Int)) (p d : Int) : Int × List (List Int) × Bool := if apB n L p d = true then (n, L.set p.toNat (insI (L.getD p.toNat []) d), true) else (0, [], false)
theorem spec_AddPin.ev (n : Int) (L : List (List Int)) (p d : Int) (hL : RowsV L) : Ev (fun k => spec_AddPin.f k n L p d) (apV n L p d) := by
  unfold spec_AddPin.f apV apB
  refine Ev.bind (spec_kePlace.ev n L p d hL) ?_
  cases h1 : plB n L p d with
  | false => exact Ev.no (by simp) (Ev.id (by simp))
  | true =>
    obtain ⟨b1, b2, b3⟩ := plB_parts h1
    obtain ⟨a1, a2, a3⟩ := pinsB_parts b1
    obtain ⟨i, rfl⟩ := Int.eq_ofNat_of_zero_le b2.1
    have hi : i < L.length := by omega
    have hg : L.getD i [] = L[i] := by simp [List.getD, hi]
    have hrb := a3 L[i] (List.getElem_mem hi)
    have h9 := rowB_len (by omega) hrb
    refine Ev.yes rfl (Ev.yes ⟨by omega, by omega⟩ ?_)
    rw [Int.toNat_natCast, hg]
    refine Ev.bind (spec_l1Has.ev L[i] d (by omega)) ?_
    cases h2 : L[i].contains d with
    | true => exact Ev.yes rfl (Ev.id (by simp))
    | false =>
      have ho := spec_keOwn.lev n L a2.2 (fun r hr => by have := rowB_len (by omega) (a3 r hr); omega) L.length 0 [] (by omega) (Nat.le_refl _)
      rw [List.drop_zero, List.nil_append] at ho
      refine Ev.no (by simp) (Ev.bind ho (Ev.yes (by show (i : Int) < (L.length : Int); omega) ?_))
      simp only [hg]
      exact Ev.bind (spec_l1Put.ev d L[i] (by omega) h2) (Ev.id (by simp))
theorem impl_AddPin.ev (n : Int) (L : List (List Int)) (p d : Int) (hL : RowsV L) : Ev (fun k => impl_AddPin.f k n L p d) (apV n L p d) := by
  unfold impl_AddPin.f apV apB
  refine Ev.bindc (impl_hasDepth.is n L p d) ?_
  cases h1 : plB n L p d with
  | false => exact Ev.no (by simp) (Ev.id (by simp))
  | true =>
    obtain ⟨b1, b2, b3⟩ := plB_parts h1
    obtain ⟨a1, a2, a3⟩ := pinsB_parts b1
    obtain ⟨i, rfl⟩ := Int.eq_ofNat_of_zero_le b2.1
    have hi : i < L.length := by omega
    have hg : L.getD i [] = L[i] := by simp [List.getD, hi]
    have hrb := a3 L[i] (List.getElem_mem hi)
    have h9 := rowB_len (by omega) hrb
    have hris := hrb
    unfold rowB at hris
    rw [Bool.and_eq_true] at hris
    refine Ev.yes rfl (Ev.yes ⟨by omega, by omega⟩ ?_)
    rw [Int.toNat_natCast, hg]
    refine Ev.yes (by omega) (Ev.bind (slices_insertionSort.ev d L[i] (ris_pair hris.2) (by omega) h9.1) ?_)
    have hc := impl_changed.ev n L hL b1 i hi (insI L[i] d)
    rw [rowB_ins hrb b3.1 b3.2] at hc
    cases h2 : L[i].contains d with
    | true => rw [h2] at hc; simpa using hc
    | false => rw [h2] at hc; simpa using hc
theorem apV_small (n : Int) (L : List (List Int)) (p d : Int) (hL : RowsV L) : (apV n L p d).2.1.length ≤ 7 ∧ totL (apV n L p d).2.1 ≤ 70 ∧ RowsV (apV n L p d).2.1 := by
  unfold apV
  by_cases h : apB n L p d = true
  · rw [if_pos h]
    unfold apB at h
    rw [Bool.and_eq_true] at h
    obtain ⟨b1, b2, b3⟩ := plB_parts h.1
    obtain ⟨a1, a2, a3⟩ := pinsB_parts b1
    have hr9 : ∀ r ∈ L.set p.toNat (insI (L.getD p.toNat []) d), r.length ≤ 10 := by
      intro r hr
      rcases List.mem_or_eq_of_mem_set hr with hr | rfl
      · have := rowB_len (by omega) (a3 r hr); omega
      · have hi : p.toNat < L.length := by omega
        rw [insI_len, show L.getD p.toNat [] = L[p.toNat] by simp [List.getD, hi]]
        have := rowB_len (by omega) (a3 _ (List.getElem_mem hi)); omega
    have hl : (L.set p.toNat (insI (L.getD p.toNat []) d)).length ≤ 7 := by rw [List.length_set]; exact a2.2
    exact ⟨hl, Nat.le_trans (totL_le 10 _ hr9) (Nat.mul_le_mul_right 10 hl), Nat.le_trans hl (by decide), fun r hr => by have := hr9 r hr; omega⟩
  · rw [if_neg h]
    exact ⟨by decide, by decide, ⟨by decide, fun r hr => by cases hr⟩⟩
set_option maxRecDepth 100000 in
theorem laws_FnExactAddPin.walk0 (k : Nat) (n : Int) (L : List (List Int)) (p d : Int) (r0 : Int) (A : Option Addr) (c : Nat) (w : World) (hr : Kd.C (Kd.slice 3 (Kd.int .i64)) w A L.length L) (hc : L.length ≤ c) (e1 : laws_szPins.f k n L 1048576 = some r0) (h0 : r0 < 0) :
    Calls Try.prog 14 #[.agg #[.int .i64 n, .slice A L.length c], .int .i64 p, .int .i64 d] w fun e w' => e = .returned (.bool true) ∧ Below w.heap.size w w' := by
  have hu37 := Try.underlying37
  have hu35 := Try.underlying35
  have hd0 : decide (r0 < 0) = true := decide_eq_true h0
  have E1 := amk e1
  have HC := amk hc
  have HR := amk (Kd.C_alloc hr (.cells #[.int .i64 n, .slice A L.length c] 37 (0, 0)))
  have HB := amk ((Below.refl w.heap.size w).alloc (Nat.le_refl _) (.cells #[.int .i64 n, .slice A L.length c] 37 (0, 0)))
  clear e1 hc hr h0
  go_enter Try.func14, Try.ntmps14
  go_wp2_with (go_at_call 20; refine Calls.mono (laws_szPins.calls k n _ _ L _ r0 _ HR.out HC.out E1.out) ?_; rintro e w2 ⟨rfl, hb⟩; have HB2 := amk (HB.out.trans (hb.mono HB.out.size)); clear hb)
  go_ret
  exact ⟨rfl, HB2.out⟩
theorem laws_FnExactAddPin.calls (a0_0 : Int) (A0_1 : Option Addr) (c0_1 : Nat) (l0_1 : List (List Int)) (a1 : Int) (a2 : Int) (r : Bool) (w : World) (hr0_1 : Kd.C (Kd.slice 3 (Kd.int .i64)) w A0_1 l0_1.length l0_1) (hc0_1 : l0_1.length ≤ c0_1) (h : laws_FnExactAddPin.f a0_0 l0_1 a1 a2 = some r) :
    Calls Try.prog 14 #[.agg #[.int .i64 a0_0, .slice A0_1 l0_1.length c0_1], .int .i64 a1, .int .i64 a2] w fun e w' => e = .returned (.bool r) ∧ Below w.heap.size w w' := by
  obtain rfl := Option.some.inj h
  have hV := C_rowsV hr0_1
  obtain ⟨r0, he0, hf0⟩ := laws_szPins.evA a0_0 l0_1 hV 1048576 (by omega) (by omega)
  by_cases h0 : 0 ≤ r0
  · obtain ⟨ht0, hM0⟩ := hf0 h0
    obtain ⟨hs1, hs2, hs3⟩ := apV_small a0_0 l0_1 a1 a2 hV
    obtain ⟨k1, e1⟩ := he0
    obtain ⟨k2, e2⟩ := laws_toPins.ev a0_0 l0_1 hM0
    obtain ⟨k3, e3⟩ := spec_AddPin.ev a0_0 l0_1 a1 a2 hV
    obtain ⟨k4, e4⟩ := impl_AddPin.ev a0_0 l0_1 a1 a2 hV
    obtain ⟨k5, e5⟩ := laws_eqPins.ev (apV a0_0 l0_1 a1 a2).1 (apV a0_0 l0_1 a1 a2).2.1 hs3
    obtain ⟨k6, e6⟩ := laws_eqPins.ev a0_0 l0_1 hV
    obtain ⟨X', k7, e7⟩ := markRows_ev l0_1 1 (by omega) (by omega) (by omega)
    obtain ⟨R', ⟨k8, e8⟩, k9, e9⟩ := laws_markPins.evH (apV a0_0 l0_1 a1 a2).1 (apV a0_0 l0_1 a1 a2).2.1 (by omega) (by omega)
    have hk : ∃ k, (k1 ≤ k ∧ k2 ≤ k ∧ k3 ≤ k ∧ k4 ≤ k ∧ k5 ≤ k) ∧ k6 ≤ k ∧ k7 ≤ k ∧ k8 ≤ k ∧ k9 ≤ k := ⟨k1 + k2 + k3 + k4 + k5 + k6 + k7 + k8 + k9, by omega⟩
    obtain ⟨k, ⟨i1, i2, i3, i4, i5⟩, i6, i7, i8, i9⟩ := hk
    exact laws_FnExactAddPin.walk k a0_0 l0_1 a1 a2 (apV a0_0 l0_1 a1 a2).1 (apV a0_0 l0_1 a1 a2).2.1 R' X' (apV a0_0 l0_1 a1 a2).2.2 r0 _ _ A0_1 c0_1 w hr0_1 hc0_1 (e1 k i1) h0 (e2 k i2) (e3 k i3) (e4 k i4) (e5 k i5) (e6 k i6) (e7 k i7) (by omega) (e8 k i8) (by omega) (e9 k i9)
  · obtain ⟨k1, e1⟩ := he0
    exact laws_FnExactAddPin.walk0 k1 a0_0 l0_1 a1 a2 r0 A0_1 c0_1 w hr0_1 hc0_1 (e1 k1 (Nat.le_refl _)) (by omega)
theorem pure_FnExactAddPin (p : S37) (_ : V37 p) (q : Int) (_ : IntV q) (s : Int) (_ : IntV s) : laws_FnExactAddPin.f p.f0 p.f1 q s = some true := rfl
end Go.Proofs.Ytcnjiffoghganaa.P