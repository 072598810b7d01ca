import Derived.Test.YtcbeihidnodceaaProg
import Derived.Below
import Derived.Deep.Draws
import Derived.Deep.AppendLies
import Derived.Maps.AppendAt
import Derived.OwnWalk
import Derived.Laws.BytesArg
import Derived.Laws.MakeOwn
import Derived.Laws.OwnMore
import Derived.Deep.OwnRows
import Derived.Tactics
import Derived.Lib.ConvBytes
import Derived.Laws.Slices
import Derived.WalkKit
import Derived.KernelRfl
import Derived.RowKit3
import Derived.Deep.LoopGhost
import Derived.Deep.QuietTactic
import Derived.BigQuiet
import Derived.WideLaws
import Derived.Deep.DeepCutAuto
import Derived.Deep.CutBlock
import Derived.Deep.RegionHeld3
import Derived.Laws.Rows
import Derived.Lib.AppendStr
import Derived.ArgAppend
import Derived.Laws.IdiomCopy
import Derived.OrdersHeld
import Derived.Laws.BitsLemmas
import Derived.RowKit
import Derived.Test.YtcbeihidnodceaaKFnKeysOpenWWords
import Derived.Test.YtcbeihidnodceaaKFnKeysOpenWLast
import Derived.Test.YtcbeihidnodceaaKFnKeysOpenWTab
import Derived.Test.YtcbeihidnodceaaKFnKeysOpenWQPut
import Derived.Test.YtcbeihidnodceaaKFnKeysOpenWApart
import Derived.Test.YtcbeihidnodceaaKFnKeysOpenWArr
import Derived.Test.YtcbeihidnodceaaKFnKeysOpenWZeros
import Derived.Test.YtcbeihidnodceaaKFnKeysOpenWFoot
import Derived.Test.YtcbeihidnodceaaKFnKeysOpenWKept
import Derived.Test.YtcbeihidnodceaaKFnKeysOpenWShare
import Derived.Test.YtcbeihidnodceaaKFnKeysOpenWN
import Derived.Test.YtcbeihidnodceaaKFnKeysOpenWRepsOne
import Derived.Test.YtcbeihidnodceaaKFnKeysOpenWGuard
import Derived.Test.YtcbeihidnodceaaKFnKeysOpenWNEv
import Derived.Test.YtcbeihidnodceaaKFnKeysOpenWMore
import Derived.Laws.BitsAllLaws
import Derived.Shelf.Abstract
namespace Go.Proofs.Ytcbeihidnodceaa.P
open Go.RowKit Go.Proofs.YtcbeihidnodceaaW.PrintWords Go.Proofs.YtcbeihidnodceaaW.PrintLast Go.Proofs.YtcbeihidnodceaaW.PrintMore
attribute [local go_sem] max2_int min2_int max_two min_two max_three min_three max_four min_four
set_option linter.unusedVariables false
set_option linter.unusedSimpArgs false
theorem amk {p : Prop} (h : p) : Aside0 p := Aside0.mk h
theorem bn_ : type_of% @pw_below_drewN := @pw_below_drewN
theorem bd_ : type_of% @below_drew1 := @below_drew1
theorem ba_ : type_of% @below_alloc := @below_alloc
theorem bs_ : type_of% @below_set := @below_set
theorem kn_ : type_of% @blk_drewN := @blk_drewN
theorem ka_ : type_of% @blk_alloc := @blk_alloc
theorem bp_ : type_of% @below_step := @below_step
def errW : Option Int → Value
  | none => .nilIface
  | some c => .iface 0 (.int .i64 c)
theorem errW_none : errW none = .nilIface := rfl
theorem errW_some (c : Int) : errW (some c) = .iface 0 (.int .i64 c) := rfl
theorem info3 : (Try.prog.info? 3).map (fun i => (i.zero, i.size, i.bytes)) = some (some (.int .i64 0), 1, 8) := by kernel_rfl
theorem info5 : (Try.prog.info? 5).map (fun i => (i.zero, i.size, i.bytes)) = some (some (.int .u8 0), 1, 1) := by kernel_rfl
theorem info9 : (Try.prog.info? 9).map (fun i => (i.zero, i.size, i.bytes)) = some (some (.string ⟨#[]⟩), 1, 16) := by kernel_rfl
theorem info24 : (Try.prog.info? 24).map (fun i => (i.zero, i.size, i.bytes)) = some (some (.agg #[(.int .i64 0), (.slice none 0 0)]), 2, 32) := by kernel_rfl
theorem info52 : (Try.prog.info? 52).map (fun i => (i.zero, i.size, i.bytes)) = some (some (.slice none 0 0), 1, 24) := by kernel_rfl
-- the values' own types
def rd_L1 (xs : List (List Int)) (i : Int) : (List Int) := xs.getD i.toNat ([] : List Int)
theorem at_L1 {w : World} {A : Option Addr} {n : Nat} {xs : List (List Int)} (h : Kd.C (Kd.slice 3 (Kd.int .i64)) w A n xs) (i : Int) (h0 : 0 ≤ i) (h1 : i < n) : ∃ ad A0 c0, A = some ad ∧ w.cell? (ad.add i.toNat) = some (.slice A0 (rd_L1 xs i).length c0) ∧ (rd_L1 xs i).length ≤ c0 ∧ (Kd.int .i64).C w A0 (rd_L1 xs i).length (rd_L1 xs i) := by
  obtain ⟨ad, c, e, _, hK, hc0⟩ := Kd.C_get h ([] : List Int) i h0 h1
  have hc : ∀ j u, c[j]? = some u → w.cell? (ad.add (i.toNat * 1 + j)) = some u := hc0
  obtain ⟨A0, c0, rfl, l0, g0⟩ := hK
  exact ⟨ad, A0, c0, e, by have hq := hc 0 _ rfl; rwa [Nat.mul_one, Nat.add_zero] at hq, l0, g0⟩
/-! #### struct type 24 -/
structure S24 where
  f0 : Int
  f1 : (List (List Int))
def z24 : S24 := ⟨(0 : Int), ([] : List (List Int))⟩
def k24 : Kd S24 := Kd.iso (Kd.pair (Kd.int .i64) (Kd.slice 52 (Kd.slice 3 (Kd.int .i64)))) (fun x : S24 => (x.f0, x.f1))
theorem k24_open {w : World} {x : S24} {cs : List Value} (h : k24.K w x cs) : ∃ A1 c1, cs = [.int .i64 x.f0, .slice A1 x.f1.length c1] ∧ x.f1.length ≤ c1 ∧ (Kd.slice 3 (Kd.int .i64)).C w A1 x.f1.length x.f1 := by
  obtain ⟨_, _, rfl, rfl, ⟨A1, c1, rfl, l1, g1⟩⟩ := h
  exact ⟨A1, c1, rfl, l1, g1⟩
theorem k24_mk (w : World) (x : S24) {A1 : Option Addr} {c1 : Nat} (l1 : x.f1.length ≤ c1) (g1 : (Kd.slice 3 (Kd.int .i64)).C w A1 x.f1.length x.f1) : k24.K w x [.int .i64 x.f0, .slice A1 x.f1.length c1] := ⟨[.int .i64 x.f0], [.slice A1 x.f1.length c1], rfl, rfl, ⟨A1, c1, rfl, l1, g1⟩⟩
theorem k24_openF {W : World} {ok : Nat → Prop} {x : S24} {cs : List Value} (h : Kd.FK k24 W ok x cs) : ∃ A1 c1, cs = [.int .i64 x.f0, .slice A1 x.f1.length c1] ∧ x.f1.length ≤ c1 ∧ Kd.F (Kd.slice 3 (Kd.int .i64)) W ok A1 x.f1.length x.f1 := by
  obtain ⟨A1, c1, rfl, l1, _⟩ := k24_open (Kd.FK_now h)
  exact ⟨A1, c1, rfl, l1, (fun W' hW => by obtain ⟨A1_, c1_, he, l1_, g1_⟩ := k24_open (h W' hW); injection (Option.some.inj (show some (Value.slice A1 x.f1.length c1) = some (Value.slice A1_ x.f1.length c1_) from congrArg (fun l => l[1]?) he)) with ha_ _ _; rw [ha_]; exact g1_)⟩
theorem k24_mkF (W : World) (ok : Nat → Prop) (x : S24) {A1 : Option Addr} {c1 : Nat} (l1 : x.f1.length ≤ c1) (g1 : Kd.F (Kd.slice 3 (Kd.int .i64)) W ok A1 x.f1.length x.f1) : Kd.FK k24 W ok x [.int .i64 x.f0, .slice A1 x.f1.length c1] := fun W2 hW => k24_mk W2 x l1 (g1 W2 hW)
def rd_T24 (xs : List S24) (i : Int) : S24 := xs.getD i.toNat z24
theorem at_T24 {w : World} {A : Option Addr} {n : Nat} {xs : List S24} (h : Kd.C k24 w A n xs) (i : Int) (h0 : 0 ≤ i) (h1 : i < n) : ∃ ad A1 c1, A = some ad ∧ w.cell? (ad.add (i.toNat * 2)) = some (.int .i64 (rd_T24 xs i).f0) ∧ w.cell? ⟨(ad.add (i.toNat * 2)).block, (ad.add (i.toNat * 2)).off + 1, none⟩ = some (.slice A1 (rd_T24 xs i).f1.length c1) ∧ (rd_T24 xs i).f1.length ≤ c1 ∧ (Kd.slice 3 (Kd.int .i64)).C w A1 (rd_T24 xs i).f1.length (rd_T24 xs i).f1 := by
  obtain ⟨ad, c, e, _, hK, hc0⟩ := Kd.C_get h z24 i h0 h1
  have hc : ∀ j u, c[j]? = some u → w.cell? (ad.add (i.toNat * 2 + j)) = some u := hc0
  obtain ⟨A1, c1, rfl, l1, g1⟩ := k24_open hK
  exact ⟨ad, A1, c1, e, hc 0 _ rfl, by rw [← add_field _ _ 1 (by omega)]; exact hc 1 _ rfl, l1, g1⟩
/-! Small laws on blocks of two and of three cells, and on what lies in an interval of blocks. -/
theorem two_cells {w : World} {g t : Nat} {a b : Value} (h : w.heap[g]? = some (.cells #[a, b] t (0, 0))) : w.cell? ⟨g, 0, none⟩ = some a ∧ w.cell? ⟨g, 1, none⟩ = some b ∧ w.frozen? ⟨g, 0, none⟩ = false ∧ w.frozen? ⟨g, 1, none⟩ = false ∧ g < w.heap.size :=
  ⟨by simp [World.cell?, h], by simp [World.cell?, h], by simp [World.frozen?, h], by simp [World.frozen?, h], (Array.getElem?_eq_some_iff.mp h).1⟩
theorem two_set {w : World} {g t : Nat} {a b : Value} (h : w.heap[g]? = some (.cells #[a, b] t (0, 0))) (c d : Value) : ((w.setCell ⟨g, 0, none⟩ c).setCell ⟨g, 1, none⟩ d).heap[g]? = some (.cells #[c, d] t (0, 0)) := by
  have h1 := heap_setCell_same w g 0 #[a, b] t c h
  have h2 := heap_setCell_same (w.setCell ⟨g, 0, none⟩ c) g 1 _ t d h1
  rw [h2]
  rfl
theorem S_iv {α : Type} {d : Kd α} {e : Nat} {w : World} {base : Nat} {ok : Nat → Prop} {v : Value} {xs : List α} (h : Kd.S d e w base ok v xs) : Kd.S d e w base (fun j => base ≤ j ∧ j < w.heap.size) v xs := Kd.S_mono (Kd.S_bound h) (fun _ hk => ⟨hk.2.1, hk.2.2.1⟩)
/-! Small laws on 'from some number of rounds on'. -/
theorem Ev.yes {α : Type} {c : Prop} [Decidable c] {f g : Nat → Option α} {r : α} (h : c) (k : Ev f r) : Ev (fun n => if c then f n else g n) r := by
  simp only [if_pos h]; exact k
theorem Ev.no {α : Type} {c : Prop} [Decidable c] {f g : Nat → Option α} {r : α} (h : ¬ c) (k : Ev g r) : Ev (fun n => if c then f n else g n) r := by
  simp only [if_neg h]; exact k
theorem Ev.bindc {α β : Type} {o : Option α} {f : Nat → α → Option β} {a : α} {r : β} (h : o = some a) (k : Ev (fun n => f n a) r) : Ev (fun n => o.bind (f n)) r := by
  subst h; exact k
theorem Ev.id {α : Type} {r s : α} (h : s = r) : Ev (fun _ => some s) r := by subst h; exact Ev.now s
theorem Ev.eq {α : Type} {g : Nat → Option α} {r s : α} (h : Ev g r) (e : r = s) : Ev g s := by subst e; exact h
theorem Ev.both {α : Type} {c : Prop} [Decidable c] {f g : Nat → Option α} {r : α} (h : c → Ev f r) (k : ¬ c → Ev g r) : Ev (fun n => if c then f n else g n) r := by
  by_cases e : c
  · exact Ev.yes e (h e)
  · exact Ev.no e (k e)
theorem w64 {x : Int} (h : -9223372036854775808 ≤ x) (h' : x ≤ 9223372036854775807) : wrap64 x = x := by unfold wrap64; omega
/-! Plain laws on lists: filling one in place, reading. -/
theorem rd_at {xs : List Int} {i : Int} (h : i.toNat < xs.length) : rd xs i = xs[i.toNat] := by unfold rd; simp [List.getD, h]
theorem rdOf_at {α : Type} {d : α} {xs : List α} {i : Int} (h : i.toNat < xs.length) : rdOf d xs i = xs[i.toNat] := by unfold rdOf; simp [List.getD, h]
theorem getD_at {α : Type} {d : α} {xs : List α} {i : Nat} (h : i < xs.length) : xs.getD i d = xs[i] := by simp [List.getD, h]
theorem toNat_succ {i : Int} (h : 0 ≤ i) : (i + 1).toNat = i.toNat + 1 := by omega
/-! Declarations moved out of EDead. -/
theorem rd_str {xs : List ByteArray} {i : Nat} (h : i < xs.length) : rdOf ByteArray.empty xs (i : Nat) = xs[i] := by rw [rdOf_at (by simpa using h)]; simp
/-! Declarations moved out of EHelpPins. -/
theorem rd_row {xs : List (List Int)} {i : Nat} (h : i < xs.length) : rd_L1 xs (i : Nat) = xs[i] := by unfold rd_L1; simp [List.getD, h]
theorem rd_int {xs : List Int} {i : Nat} (h : i < xs.length) : rd xs (i : Nat) = xs[i] := by rw [rd_at (by simpa using h)]; simp
def RowsV (x : List (List Int)) : Prop := x.length ≤ 9223372036854775807 ∧ ∀ r ∈ x, r.length ≤ 9223372036854775807
/-! Short words for what the printed walks say over and over: each proof is told once, as a default. -/
theorem bB {P : Prop} (h : P := by repeat (first | (with_reducible first | exact HB.out | apply ba_ | apply bn_ | apply bd_ | refine bs_ ?_ (Aside0.out (by with_reducible assumption))) | exact HB.out)) : P := h
theorem kB {P Q : Prop} (a : Aside0 P) (f : P → Q := by intro h; (with_reducible repeat (first | refine kn_ ?_ _ | refine blk_drew ?_ | refine ka_ ?_ _ | refine blk_far ?_ (Aside0.out (by with_reducible assumption)) _)); exact h) : Q := f a.out
theorem kb2 {W W' w2 : World} {g : Nat} {o : Obj} (a : Aside0 (W.heap[g]? = some o)) (hb : Below W'.heap.size W' w2) (f : W.heap[g]? = some o → W'.heap[g]? = some o := by intro h; (with_reducible repeat (first | refine kn_ ?_ _ | refine blk_drew ?_ | refine ka_ ?_ _ | refine blk_far ?_ (Aside0.out (by with_reducible assumption)) _)); exact h) : Aside0 (w2.heap[g]? = some o) := ⟨blk_below (f a.out) hb⟩
theorem hB2 {w W W' w2 : World} (a : Aside0 (Below w.heap.size w W)) (hb : Below W'.heap.size W' w2) (f : Below w.heap.size w W → Below w.heap.size w W' := by intro h; repeat (first | (with_reducible first | exact h | apply ba_ | apply bn_ | apply bd_ | refine bs_ ?_ (Aside0.out (by with_reducible assumption))) | exact h)) : Aside0 (Below w.heap.size w w2) := ⟨bp_ (f a.out) hb⟩
theorem cB {P Q : Prop} (h : P) (f : P → Q := by intro h; repeat (first | exact h | (with_reducible refine Kd.C_alloc ?_ _) | (with_reducible refine Kd.C_drewN ?_ _) | (with_reducible refine Kd.C_drew ?_))) : Q := f h
theorem oX {P Q : Prop} (a : Aside0 P) (f : P → Q := by intro h; (with_reducible repeat (first | apply Kd.R_alloc | apply Kd.R_drewN | apply Kd.R_drew | apply Kd.S_alloc | apply Kd.S_drewN | apply Kd.S_drew | apply Kd.V_alloc | apply Kd.V_drewN | apply Kd.V_drew | apply Kd.N_alloc | apply Kd.N_drewN | apply Kd.N_drew)); exact h) : Q := f a.out
theorem gL_ {P : Prop} (h : P := by (try simp only [List.map_toArray, List.map_cons, List.map_nil]); first | done | rfl | (simp only [List.length_drop, List.length_take]; rfl)) : P := h
theorem rF_ {P : Prop} (h : P := by first | rfl | (simp [errW_none, errW_some] <;> rfl) | (simp [*, errW_none, errW_some] <;> rfl)) : P := h
theorem dA_ {P : Prop} [Decidable P] (h : decide P = true := by first | (with_reducible assumption) | assumption) : P := of_decide_eq_true h
theorem rS_ {P : Prop} (h : P := by first | rfl | (simp; done) | (simp [*]; done)) : P := h
theorem dR_ {P : Prop} (h : P := by repeat (first | exact Drawn0.refl _ | apply Drawn0.step)) : P := h
theorem xN_ {P : Prop} (h : P := by first | exact Kd.S_nil _ _ _ _ _ | exact Kd.N_nil _ _ _ _ _ | exact Kd.V_nil _ _ _ _ _ | exact Kd.Q_nil _ _ _ _ _ | exact Kd.R_nil _ _ _ _ _) : P := h
theorem iteN {α : Type} {c : Prop} [Decidable c] {a : Option α} {r : α} (H : (if c then a else none) = some r) : decide c = true ∧ a = some r := by
  by_cases h : c
  · rw [if_pos h] at H; exact ⟨decide_eq_true h, H⟩
  · rw [if_neg h] at H; exact absurd H (by simp)
theorem iteE {α : Type} {c : Prop} [Decidable c] {a b : Option α} {r : Option α} (H : (if c then a else b) = r) : (decide c = true ∧ a = r) ∨ (decide c = false ∧ b = r) := by
  by_cases h : c
  · rw [if_pos h] at H; exact .inl ⟨decide_eq_true h, H⟩
  · rw [if_neg h] at H; exact .inr ⟨decide_eq_false h, H⟩
section
variable {P : Program} {ops : Array Oper} {o : Oper} {rest : List Oper} {a : Act} {Q : Exit → Act → World → Prop} {w W W0 : World}
theorem boxE_ (HB : Aside0 (Below w.heap.size w W0)) (N : Tmp) (cs : Array Value) (t : TypeId)
    (h : ∀ g w1, Aside0 (Below w.heap.size w w1) → Aside0 (w1.heap[g]? = some (.cells cs t (0, 0))) → Aside0 (w.heap.size ≤ g) → Aside0 (w.heap.size ≤ g) → Below W.heap.size W w1 → wpList P ops Q rest (a.put o.dst (.pointer (some ⟨g, 0, none⟩))) w1)
    (hd : o.dst = some N := by rfl) (hgd : o.guard = none := by rfl) (hrun : (execOp a.eval o).run P W = .ok (.value (.pointer (some ⟨W.heap.size, 0, none⟩))) (W.alloc (.cells cs t (0, 0))) := by first | (go_simp; done) | (go_simp; rfl))
    (f : Below w.heap.size w W0 → Below w.heap.size w W := by intro h; repeat (first | (with_reducible first | exact h | apply ba_ | apply bn_ | apply bd_ | refine bs_ ?_ (Aside0.out (by with_reducible assumption))) | exact h)) : wpList P ops Q (o :: rest) a W :=
  box_event hgd hd hrun fun g e w1 hbox hb => h g w1 ⟨bp_ (f HB.out) hb⟩ ⟨hbox⟩ ⟨by rw [e]; exact (f HB.out).size⟩ ⟨by rw [e]; exact (f HB.out).size⟩ hb
end
theorem bK {P : Prop} (h : P := by repeat (first | (with_reducible first | exact HK.out | apply KeepBut.set_ | apply keep_drewN | apply keep_drew | apply keep_alloc | refine keep_far ?_ (Aside0.out (by with_reducible assumption)) _) | exact HK.out)) : P := h
section
variable {w0 w W0 W w2 : World} {g gb g2 : Nat} {o : Obj} {row : Option Nat}
theorem neL (a : Aside0 (W0.heap[g]? = some o)) (e : g2 = W.heap.size) (f : W0.heap[g]? = some o → W.heap[g]? = some o := by intro h; (with_reducible repeat (first | refine kn_ ?_ _ | refine blk_drew ?_ | refine ka_ ?_ _ | refine blk_far ?_ (Aside0.out (by with_reducible assumption)) _)); exact h) : Aside0 (g ≠ g2) := ⟨by rw [e]; exact Nat.ne_of_lt (blk_lt (f a.out))⟩
theorem neR (a : Aside0 (W0.heap[g]? = some o)) (e : g2 = W.heap.size) (f : W0.heap[g]? = some o → W.heap[g]? = some o := by intro h; (with_reducible repeat (first | refine kn_ ?_ _ | refine blk_drew ?_ | refine ka_ ?_ _ | refine blk_far ?_ (Aside0.out (by with_reducible assumption)) _)); exact h) : Aside0 (g2 ≠ g) := ⟨by rw [e]; exact Nat.ne_of_gt (blk_lt (f a.out))⟩
theorem bG (a : Aside0 (W0.heap[g]? = some o)) (hg : W.grownBy w2 row) (hn : some g ≠ row) (f : W0.heap[g]? = some o → W.heap[g]? = some o := by intro h; (with_reducible repeat (first | refine kn_ ?_ _ | refine blk_drew ?_ | refine ka_ ?_ _ | refine blk_far ?_ (Aside0.out (by with_reducible assumption)) _)); exact h) : Aside0 (w2.heap[g]? = some o) := ⟨blk_grown (f a.out) hg hn⟩
theorem kQ (a : Aside0 (W0.heap[gb]? = some o)) (hk : KeepBut W w2 g none) (n : gb ≠ g) (f : W0.heap[gb]? = some o → W.heap[gb]? = some o := by intro h; (with_reducible repeat (first | refine kn_ ?_ _ | refine blk_drew ?_ | refine ka_ ?_ _ | refine blk_far ?_ (Aside0.out (by with_reducible assumption)) _)); exact h) : Aside0 (w2.heap[gb]? = some o) := ⟨KeepBut.blk hk (f a.out) n (by simp)⟩
theorem sZ (a : Aside0 (Below w.heap.size w W0)) (e : gb = W.heap.size) (f : Below w.heap.size w W0 → Below w.heap.size w W := by intro h; repeat (first | (with_reducible first | exact h | apply ba_ | apply bn_ | apply bd_ | refine bs_ ?_ (Aside0.out (by with_reducible assumption))) | exact h)) : Aside0 (w.heap.size ≤ gb) := ⟨by rw [e]; exact (f a.out).size⟩
theorem kS (a : Aside0 (KeepBut w W0 g row)) (e : gb = W.heap.size) (f : KeepBut w W0 g row → KeepBut w W g row := by intro h; repeat (first | (with_reducible first | exact h | apply KeepBut.set_ | apply keep_drewN | apply keep_drew | apply keep_alloc | refine keep_far ?_ (Aside0.out (by with_reducible assumption)) _) | exact h)) : Aside0 (w.heap.size ≤ gb) := ⟨by rw [e]; exact keep_size (f a.out)⟩
theorem kE (b : Aside0 (w0.heap.size ≤ w.heap.size)) (c : Aside0 (w.heap.size ≤ gb)) : Aside0 (w0.heap.size ≤ gb) := ⟨Nat.le_trans b.out c.out⟩
theorem kT (a : Aside0 (KeepBut w W0 g none)) (hb : Below W.heap.size W w2) (f : KeepBut w W0 g none → KeepBut w W g none := by intro h; repeat (first | (with_reducible first | exact h | apply KeepBut.set_ | apply keep_drewN | apply keep_drew | apply keep_alloc | refine keep_far ?_ (Aside0.out (by with_reducible assumption)) _) | exact h)) : Aside0 (KeepBut w w2 g none) := ⟨KeepBut.trans (f a.out) (KeepBut.of_below hb g none) (.inl rfl)⟩
theorem kT2 (a : Aside0 (KeepBut w W0 g none)) (hk : KeepBut W w2 g none) (f : KeepBut w W0 g none → KeepBut w W g none := by intro h; repeat (first | (with_reducible first | exact h | apply KeepBut.set_ | apply keep_drewN | apply keep_drew | apply keep_alloc | refine keep_far ?_ (Aside0.out (by with_reducible assumption)) _) | exact h)) : Aside0 (KeepBut w w2 g none) := ⟨KeepBut.trans (f a.out) hk (.inl rfl)⟩
end
theorem dN_ {P : Prop} (h : P := by first | exact ⟨rfl, _, World.drewN_drewN _ _ _⟩ | exact ⟨rfl, _, Eq.trans (World.drewN_drewN _ _ _) (congrArg (World.drewN _) (Nat.add_assoc _ _ _))⟩) : P := h
theorem bE {α β : Type} {o : Option α} {f : α → Option β} {r : β} (H : o.bind f = some r) : ∃ t, Aside0 (o = some t) ∧ f t = some r := by
  obtain ⟨t, h1, h2⟩ := Option.bind_eq_some_iff.mp H
  exact ⟨t, ⟨h1⟩, h2⟩
theorem iteB {α : Type} {b : Bool} {x y : Option α} {r : Option α} (H : (if b = true then x else y) = r) : (b = true ∧ x = r) ∨ (b = false ∧ y = r) := by
  cases b with
  | true => rw [if_pos rfl] at H; exact .inl ⟨rfl, H⟩
  | false => rw [if_neg (by decide)] at H; exact .inr ⟨rfl, H⟩
section
variable {P : Program} {ops : Array Oper} {o : Oper} {rest : List Oper} {a : Act} {Q : Exit → Act → World → Prop} {w W W0 : World}
theorem boxG_ (N : Tmp) (cs : Array Value) (t : TypeId)
    (h : ∀ g w1, g = W.heap.size → Aside0 (w1.heap[g]? = some (.cells cs t (0, 0))) → Below W.heap.size W w1 → wpList P ops Q rest (a.put o.dst (.pointer (some ⟨g, 0, none⟩))) w1)
    (hd : o.dst = some N := by rfl) (hgd : o.guard = none := by rfl) (hrun : (execOp a.eval o).run P W = .ok (.value (.pointer (some ⟨W.heap.size, 0, none⟩))) (W.alloc (.cells cs t (0, 0))) := by first | (go_simp; done) | (go_simp; rfl)) : wpList P ops Q (o :: rest) a W :=
  box_event hgd hd hrun fun g e w1 hbox hb => h g w1 e ⟨hbox⟩ hb
theorem gc_ {oi : Oper} {xs : Array Operand} {ts : Array TypeId} {fn : Func} (f : FuncId) (N : Tmp) (hf : P.funcs[f]? = some fn) (args : Array Value)
    (h : Calls P f args W fun e w' => ∃ v, e = .returned v ∧ wpList P ops Q rest (a.put (some N) v) w')
    (hop : oi.op = .call { callee := .value (.func f), args := xs, argTypes := ts } := by with_reducible rfl) (hd : oi.dst = some N := by rfl) (hg : oi.guard = none := by rfl)
    (hname : (fn.name == "runtime.NumGoroutine") = false := by kernel_rfl) (hb : fn.body.isSome = true := by rfl)
    (hargs : xs.map a.eval = args := by (try simp only [List.map_toArray, List.map_cons, List.map_nil]); first | done | rfl | (simp only [List.length_drop, List.length_take]; rfl)) : wpList P ops Q (oi :: rest) a W :=
  goesL_ (some N) hd hg hf hname hb args hop hargs h
end
/-- A state of type 73 at block g of W; what its slices lead to came in by w0. -/
def IsS73 (w0 W : World) (g : Nat) (f0 : List Int) (f1 : Int) (f2 : Int) : Prop := ∃ A0 c0, W.heap[g]? = some (.cells #[.slice A0 f0.length c0, .int .i64 f1, .int .u64 f2] 73 (0, 0)) ∧ w0.heap.size ≤ g ∧ Kd.C (Kd.int .u8) w0 A0 f0.length f0
theorem IsS73.grown {w0 W : World} {g : Nat} {f0 : List Int} {f1 : Int} {f2 : Int} {W1 : World} {row : Option Nat} (h : IsS73 w0 W g f0 f1 f2) (hw : W.grownBy W1 row) (hne : some g ≠ row) : IsS73 w0 W1 g f0 f1 f2 := by
  obtain ⟨A0, c0, hb, hg, hr0⟩ := h
  exact ⟨A0, c0, blk_grown hb hw hne, hg, hr0⟩
theorem IsS73.own_neN {w0 W : World} {g : Nat} {f0 : List Int} {f1 : Int} {f2 : Int} {α : Type} {d : Kd α} {e : Nat} {base : Nat} {ok : Nat → Prop} {v : Value} {xs : List α} (h : IsS73 w0 W g f0 f1 f2) (ho : Kd.N d e W base ok v xs) (ht : e ≠ 73) : some g ≠ v.ownBlock := by
  obtain ⟨A0, c0, hb, hg, hr0⟩ := h
  exact Kd.N_ne ho hb ht
theorem IsS73.fresh {w0 W : World} {g : Nat} {f0 : List Int} {f1 : Int} {f2 : Int} (h : IsS73 w0 W g f0 f1 f2) : ∀ k, W.heap.size ≤ k → k ≠ g := by
  obtain ⟨A0, c0, hb, hg, hr0⟩ := h
  exact Kd.freshB hb
theorem IsS73.kept {w0 W : World} {g : Nat} {f0 : List Int} {f1 : Int} {f2 : Int} {W1 : World} {S : Nat → Prop} (h : IsS73 w0 W g f0 f1 f2) (hk : Kept W W1 S) (hne : ¬ S g) : IsS73 w0 W1 g f0 f1 f2 := by
  obtain ⟨A0, c0, hb, hg, hr0⟩ := h
  exact ⟨A0, c0, blk_kept hb hk hne, hg, hr0⟩
theorem IsS73.below {w0 W : World} {g : Nat} {f0 : List Int} {f1 : Int} {f2 : Int} {W1 : World} (h : IsS73 w0 W g f0 f1 f2) (hw : Below W.heap.size W W1) : IsS73 w0 W1 g f0 f1 f2 := h.grown (grown_of_below hw none) (by simp)
theorem IsS73.alloc {w0 W : World} {g : Nat} {f0 : List Int} {f1 : Int} {f2 : Int} (h : IsS73 w0 W g f0 f1 f2) (o : Obj) : IsS73 w0 (W.alloc o) g f0 f1 f2 := h.below (ba_ (Below.refl _ _) o)
theorem IsS73.drewN {w0 W : World} {g : Nat} {f0 : List Int} {f1 : Int} {f2 : Int} (h : IsS73 w0 W g f0 f1 f2) (m : Nat) : IsS73 w0 (W.drewN m) g f0 f1 f2 := h
theorem IsS73.drew {w0 W : World} {g : Nat} {f0 : List Int} {f1 : Int} {f2 : Int} (h : IsS73 w0 W g f0 f1 f2) : IsS73 w0 W.drew g f0 f1 f2 := h
theorem IsS73.at_ {w0 W : World} {g : Nat} {f0 : List Int} {f1 : Int} {f2 : Int} {w' : World} {m : Nat} (hq : W.drewN m = w') (h : IsS73 w0 W g f0 f1 f2) : IsS73 w0 w' g f0 f1 f2 := by subst hq; exact IsS73.drewN h m
theorem IsS73.apart {w0 W : World} {g : Nat} {f0 : List Int} {f1 : Int} {f2 : Int} {α : Type} {d : Kd α} {e : Nat} {base : Nat} {ok : Nat → Prop} {v : Value} {xs : List α} (h : IsS73 w0 W g f0 f1 f2) (ho : d.R e W base ok v xs) (ht : ∀ q, q ∈ e :: d.E → q ≠ 73) : d.R e W base (fun k => ok k ∧ k ≠ g) v xs := by
  obtain ⟨A0, c0, hb, hg, hr0⟩ := h
  exact Kd.R_types ho hb ht
theorem IsS73.own_ne {w0 W : World} {g : Nat} {f0 : List Int} {f1 : Int} {f2 : Int} {α : Type} {d : Kd α} {e : Nat} {base : Nat} {ok : Nat → Prop} {v : Value} {xs : List α} (h : IsS73 w0 W g f0 f1 f2) (ho : d.R e W base ok v xs) (ht : e ≠ 73) : some g ≠ v.ownBlock := by
  obtain ⟨A0, c0, hb, hg, hr0⟩ := h
  exact Kd.R_ne ho hb ht
theorem IsS73.apartS {w0 W : World} {g : Nat} {f0 : List Int} {f1 : Int} {f2 : Int} {α : Type} {d : Kd α} {e : Nat} {base : Nat} {ok : Nat → Prop} {v : Value} {xs : List α} (h : IsS73 w0 W g f0 f1 f2) (ho : d.S e W base ok v xs) (ht : ∀ q, q ∈ e :: d.E → q ≠ 73) : d.S e W base (fun k => ok k ∧ k ≠ g) v xs := by
  obtain ⟨A0, c0, hb, hg, hr0⟩ := h
  exact Kd.S_types ho hb ht
theorem IsS73.own_neS {w0 W : World} {g : Nat} {f0 : List Int} {f1 : Int} {f2 : Int} {α : Type} {d : Kd α} {e : Nat} {base : Nat} {ok : Nat → Prop} {v : Value} {xs : List α} (h : IsS73 w0 W g f0 f1 f2) (ho : d.S e W base ok v xs) (ht : e ≠ 73) : some g ≠ v.ownBlock := by
  obtain ⟨A0, c0, hb, hg, hr0⟩ := h
  exact Kd.S_ne ho hb ht
theorem IsS73.lt {w0 W : World} {g : Nat} {f0 : List Int} {f1 : Int} {f2 : Int} (h : IsS73 w0 W g f0 f1 f2) : g < W.heap.size := by
  obtain ⟨A0, c0, hb, hg, hr0⟩ := h
  exact blk_lt hb
theorem IsS73.ge {w0 W : World} {g : Nat} {f0 : List Int} {f1 : Int} {f2 : Int} (h : IsS73 w0 W g f0 f1 f2) : w0.heap.size ≤ g := by
  obtain ⟨A0, c0, hb, hg, hr0⟩ := h
  exact hg
theorem IsS73.far {w0 W : World} {g : Nat} {f0 : List Int} {f1 : Int} {f2 : Int} {p : Addr} (h : IsS73 w0 W g f0 f1 f2) (hne : g ≠ p.block) (u : Value) : IsS73 w0 (W.setCell p u) g f0 f1 f2 := by
  obtain ⟨A0, c0, hb, hg, hr0⟩ := h
  exact ⟨A0, c0, blk_far hb hne u, hg, hr0⟩
theorem cellS73_0 {W : World} {g : Nat} {A0 : Option Addr} {c0 : Nat} {f0 : List Int} {f1 : Int} {f2 : Int} (h : W.heap[g]? = some (.cells #[.slice A0 f0.length c0, .int .i64 f1, .int .u64 f2] 73 (0, 0))) : W.cell? ⟨g, 0, none⟩ = some (.slice A0 f0.length c0) := (blk_cell h 0).trans rfl
theorem cellS73_1 {W : World} {g : Nat} {A0 : Option Addr} {c0 : Nat} {f0 : List Int} {f1 : Int} {f2 : Int} (h : W.heap[g]? = some (.cells #[.slice A0 f0.length c0, .int .i64 f1, .int .u64 f2] 73 (0, 0))) : W.cell? ⟨g, 1, none⟩ = some (.int .i64 f1) := (blk_cell h 1).trans rfl
theorem IsS73.set_1 {w0 W : World} {g : Nat} {f0 : List Int} {f1 : Int} {f2 : Int} (h : IsS73 w0 W g f0 f1 f2) (x : Int) : IsS73 w0 (W.setCell ⟨g, 1, none⟩ (.int .i64 x)) g f0 x f2 := by
  obtain ⟨A0, c0, hb, hg, hr0⟩ := h
  exact ⟨A0, c0, by simpa using blk_set hb 1 (.int .i64 x), hg, hr0⟩
theorem cellS73_2 {W : World} {g : Nat} {A0 : Option Addr} {c0 : Nat} {f0 : List Int} {f1 : Int} {f2 : Int} (h : W.heap[g]? = some (.cells #[.slice A0 f0.length c0, .int .i64 f1, .int .u64 f2] 73 (0, 0))) : W.cell? ⟨g, 2, none⟩ = some (.int .u64 f2) := (blk_cell h 2).trans rfl
theorem IsS73.set_2 {w0 W : World} {g : Nat} {f0 : List Int} {f1 : Int} {f2 : Int} (h : IsS73 w0 W g f0 f1 f2) (x : Int) : IsS73 w0 (W.setCell ⟨g, 2, none⟩ (.int .u64 x)) g f0 f1 x := by
  obtain ⟨A0, c0, hb, hg, hr0⟩ := h
  exact ⟨A0, c0, by simpa using blk_set hb 2 (.int .u64 x), hg, hr0⟩
theorem IsS73.new (w0 W : World) (A0 : Option Addr) (c0 : Nat) (f0 : List Int) (f1 : Int) (f2 : Int) (hB : Below w0.heap.size w0 W) (hr0 : Kd.C (Kd.int .u8) w0 A0 f0.length f0) : IsS73 w0 (W.alloc (.cells #[.slice A0 f0.length c0, .int .i64 f1, .int .u64 f2] 73)) W.heap.size f0 f1 f2 := ⟨A0, c0, by simpa using heap_alloc_new W _, hB.size, hr0⟩
/-! ### spec_l1Cur_next: function 76 -/
def spec_l1Cur_next.f (s0_0 : List Int) (s0_1 : Int) (s0_2 : Int) : Option (Int × Int × Int) := if s0_1 < (s0_0.length : Int) then (if 0 ≤ s0_1 then (if (wrap64 (s0_1 + 1)) ≤ (s0_0.length : Int) then (some (wrap64 (rd s0_0 s0_1), wrap64 (s0_1 + 1), IntKind.u64.wrap ((IntKind.u64.wrap ((IntKind.u64.wrap (s0_2 * 6364136223846793005)) + (IntKind.u64.wrap (wrap64 (rd s0_0 s0_1))))) + 1442695040888963407))) else (some (wrap64 (Go.bits .and .u64 ((IntKind.u64.wrap ((IntKind.u64.wrap ((IntKind.u64.wrap (s0_2 * 6364136223846793005)) + (IntKind.u64.wrap (wrap64 (rd s0_0 s0_1))))) + 1442695040888963407)) / 1099511627776) 255), wrap64 (s0_1 + 1), IntKind.u64.wrap ((IntKind.u64.wrap ((IntKind.u64.wrap (s0_2 * 6364136223846793005)) + (IntKind.u64.wrap (wrap64 (rd s0_0 s0_1))))) + 1442695040888963407)))) else (none)) else (if (wrap64 (s0_1 + 1)) ≤ (s0_0.length : Int) then (some (0, wrap64 (s0_1 + 1), IntKind.u64.wrap ((IntKind.u64.wrap (IntKind.u64.wrap (s0_2 * 6364136223846793005))) + 1442695040888963407))) else (some (wrap64 (Go.bits .and .u64 ((IntKind.u64.wrap ((IntKind.u64.wrap (IntKind.u64.wrap (s0_2 * 6364136223846793005))) + 1442695040888963407)) / 1099511627776) 255), wrap64 (s0_1 + 1), IntKind.u64.wrap ((IntKind.u64.wrap (IntKind.u64.wrap (s0_2 * 6364136223846793005))) + 1442695040888963407))))
set_option maxHeartbeats 8000000 in
set_option maxRecDepth 100000 in
theorem spec_l1Cur_next.calls (g : Nat) (s0_0 : List Int) (s0_1 : Int) (s0_2 : Int) (r1 : Int) (r2 : Int) (r3 : Int) (w0 w : World) (hI : IsS73 w0 w g s0_0 s0_1 s0_2) (hB : Below w0.heap.size w0 w) (h : spec_l1Cur_next.f s0_0 s0_1 s0_2 = some (r1, r2, r3)) :
    Calls Try.prog 76 #[.pointer (some ⟨g, 0, none⟩)] w fun e w' => e = .returned (.int .i64 r1) ∧ IsS73 w0 w' g s0_0 r2 r3 ∧ Below w0.heap.size w0 w' ∧ KeepBut w w' g none := by
  have HI0 := amk hI
  have HK := amk (KeepBut.refl w g none)
  have HL := amk hB.size
  clear hI
  have HW0 := amk hB.size
  have HB := amk hB
  clear hB
  have H : (if s0_1 < (s0_0.length : Int) then (if 0 ≤ s0_1 then (if (wrap64 (s0_1 + 1)) ≤ (s0_0.length : Int) then (some (wrap64 (rd s0_0 s0_1), wrap64 (s0_1 + 1), IntKind.u64.wrap ((IntKind.u64.wrap ((IntKind.u64.wrap (s0_2 * 6364136223846793005)) + (IntKind.u64.wrap (wrap64 (rd s0_0 s0_1))))) + 1442695040888963407))) else (some (wrap64 (Go.bits .and .u64 ((IntKind.u64.wrap ((IntKind.u64.wrap ((IntKind.u64.wrap (s0_2 * 6364136223846793005)) + (IntKind.u64.wrap (wrap64 (rd s0_0 s0_1))))) + 1442695040888963407)) / 1099511627776) 255), wrap64 (s0_1 + 1), IntKind.u64.wrap ((IntKind.u64.wrap ((IntKind.u64.wrap (s0_2 * 6364136223846793005)) + (IntKind.u64.wrap (wrap64 (rd s0_0 s0_1))))) + 1442695040888963407)))) else (none)) else (if (wrap64 (s0_1 + 1)) ≤ (s0_0.length : Int) then (some (0, wrap64 (s0_1 + 1), IntKind.u64.wrap ((IntKind.u64.wrap (IntKind.u64.wrap (s0_2 * 6364136223846793005))) + 1442695040888963407))) else (some (wrap64 (Go.bits .and .u64 ((IntKind.u64.wrap ((IntKind.u64.wrap (IntKind.u64.wrap (s0_2 * 6364136223846793005))) + 1442695040888963407)) / 1099511627776) 255), wrap64 (s0_1 + 1), IntKind.u64.wrap ((IntKind.u64.wrap (IntKind.u64.wrap (s0_2 * 6364136223846793005))) + 1442695040888963407))))) = some (r1, r2, r3) := h
  clear h
  replace H := iteE H; obtain ⟨c2b0, H⟩ | ⟨c2b0, H⟩ := H
  · replace H := iteN H; obtain ⟨c3b0, H⟩ := H
    replace H := iteE H; obtain ⟨c4b0, H⟩ | ⟨c4b0, H⟩ := H
    · simp only [Option.some.injEq, Prod.mk.injEq] at H
      obtain ⟨rfl, rfl, rfl⟩ := H
      obtain ⟨ASz5_0, cSz5_0, HGz5, hgz5, HSz5_0⟩ := HI0.out
      have hcz5_0 := cellS73_0 HGz5
      have hcz5_1 := cellS73_1 HGz5
      have hcz5_2 := cellS73_2 HGz5
      have hfz5_1 := blk_frozen HGz5 1
      have hfz5_2 := blk_frozen HGz5 2
      clear HGz5 hgz5
      have p370 : 0 ≤ (s0_1 : Int) := dA_
      have q370 : s0_1 < (s0_0.length : Int) := dA_
      obtain ⟨ad370, e370, hx370_0⟩ := Kd.at_int HSz5_0 s0_1 p370 q370
      cases e370
      replace hx370_0 := pw_cell_below HB.out hx370_0
      replace p370 := eq_true p370
      replace q370 := eq_true q370
      go_enter Try.func76, Try.ntmps76
      go_wp2
      repeat (go_quiet (fail); try go_wp2)
      go_ret
      exact ⟨rF_, by repeat (first | (with_reducible first | exact HI0.out | apply IsS73.alloc | apply IsS73.drewN | apply IsS73.drew | apply IsS73.set_1 | apply IsS73.set_2) | exact HI0.out), by repeat (first | (with_reducible first | exact HB.out | apply ba_ | apply bn_ | apply bd_ | refine bs_ ?_ (IsS73.ge HI0.out)) | exact HB.out), bK⟩
    · simp only [Option.some.injEq, Prod.mk.injEq] at H
      obtain ⟨rfl, rfl, rfl⟩ := H
      obtain ⟨ASz6_0, cSz6_0, HGz6, hgz6, HSz6_0⟩ := HI0.out
      have hcz6_0 := cellS73_0 HGz6
      have hcz6_1 := cellS73_1 HGz6
      have hcz6_2 := cellS73_2 HGz6
      have hfz6_1 := blk_frozen HGz6 1
      have hfz6_2 := blk_frozen HGz6 2
      clear HGz6 hgz6
      have p370 : 0 ≤ (s0_1 : Int) := dA_
      have q370 : s0_1 < (s0_0.length : Int) := dA_
      obtain ⟨ad370, e370, hx370_0⟩ := Kd.at_int HSz6_0 s0_1 p370 q370
      cases e370
      replace hx370_0 := pw_cell_below HB.out hx370_0
      replace p370 := eq_true p370
      replace q370 := eq_true q370
      go_enter Try.func76, Try.ntmps76
      go_wp2
      repeat (go_quiet (fail); try go_wp2)
      go_ret
      exact ⟨rF_, by repeat (first | (with_reducible first | exact HI0.out | apply IsS73.alloc | apply IsS73.drewN | apply IsS73.drew | apply IsS73.set_1 | apply IsS73.set_2) | exact HI0.out), by repeat (first | (with_reducible first | exact HB.out | apply ba_ | apply bn_ | apply bd_ | refine bs_ ?_ (IsS73.ge HI0.out)) | exact HB.out), bK⟩
  · replace H := iteE H; obtain ⟨c7b0, H⟩ | ⟨c7b0, H⟩ := H
    · simp only [Option.some.injEq, Prod.mk.injEq] at H
      obtain ⟨rfl, rfl, rfl⟩ := H
      obtain ⟨ASz8_0, cSz8_0, HGz8, hgz8, HSz8_0⟩ := HI0.out
      have hcz8_0 := cellS73_0 HGz8
      have hcz8_1 := cellS73_1 HGz8
      have hcz8_2 := cellS73_2 HGz8
      have hfz8_1 := blk_frozen HGz8 1
      have hfz8_2 := blk_frozen HGz8 2
      clear HGz8 hgz8
      go_enter Try.func76, Try.ntmps76
      go_wp2
      repeat (go_quiet (fail); try go_wp2)
      go_ret
      exact ⟨rF_, by repeat (first | (with_reducible first | exact HI0.out | apply IsS73.alloc | apply IsS73.drewN | apply IsS73.drew | apply IsS73.set_1 | apply IsS73.set_2) | exact HI0.out), by repeat (first | (with_reducible first | exact HB.out | apply ba_ | apply bn_ | apply bd_ | refine bs_ ?_ (IsS73.ge HI0.out)) | exact HB.out), bK⟩
    · simp only [Option.some.injEq, Prod.mk.injEq] at H
      obtain ⟨rfl, rfl, rfl⟩ := H
      obtain ⟨ASz9_0, cSz9_0, HGz9, hgz9, HSz9_0⟩ := HI0.out
      have hcz9_0 := cellS73_0 HGz9
      have hcz9_1 := cellS73_1 HGz9
      have hcz9_2 := cellS73_2 HGz9
      have hfz9_1 := blk_frozen HGz9 1
      have hfz9_2 := blk_frozen HGz9 2
      clear HGz9 hgz9
      go_enter Try.func76, Try.ntmps76
      go_wp2
      repeat (go_quiet (fail); try go_wp2)
      go_ret
      exact ⟨rF_, by repeat (first | (with_reducible first | exact HI0.out | apply IsS73.alloc | apply IsS73.drewN | apply IsS73.drew | apply IsS73.set_1 | apply IsS73.set_2) | exact HI0.out), by repeat (first | (with_reducible first | exact HB.out | apply ba_ | apply bn_ | apply bd_ | refine bs_ ?_ (IsS73.ge HI0.out)) | exact HB.out), bK⟩
/-! The same short words, for what holds a cursor. -/
theorem bI {P : Prop} (h : P := by repeat (first | (with_reducible first | exact HI0.out | apply IsS73.alloc | apply IsS73.drewN | apply IsS73.drew | apply IsS73.set_1 | apply IsS73.set_2 | refine IsS73.far ?_ (Aside0.out (by with_reducible assumption)) _) | exact HI0.out)) : P := h
theorem bBI {P : Prop} (h : P := by repeat (first | (with_reducible first | exact HB.out | apply ba_ | apply bn_ | apply bd_ | refine bs_ ?_ (Aside0.out (by with_reducible assumption)) | refine bs_ ?_ (IsS73.ge HI0.out)) | exact HB.out)) : P := h
section
variable {w0 w W0 W w2 : World} {g gb : Nat} {f0 : List Int} {f1 f2 : Int}
theorem hBI (a : Aside0 (Below w.heap.size w W0)) (hb : Below W.heap.size W w2) (f : Below w.heap.size w W0 → Below w.heap.size w W := by intro h; repeat (first | (with_reducible first | exact h | apply ba_ | apply bn_ | apply bd_ | refine bs_ ?_ (Aside0.out (by with_reducible assumption)) | refine bs_ ?_ (IsS73.ge HI0.out)) | exact h)) : Aside0 (Below w.heap.size w w2) := ⟨bp_ (f a.out) hb⟩
theorem iL (f0 : List Int) (f1 f2 : Int) (e : gb = W.heap.size) (h : IsS73 w0 W g f0 f1 f2 := by exact bI) : Aside0 (g ≠ gb) := ⟨by rw [e]; exact Nat.ne_of_lt h.lt⟩
theorem iR (f0 : List Int) (f1 f2 : Int) (e : gb = W.heap.size) (h : IsS73 w0 W g f0 f1 f2 := by exact bI) : Aside0 (gb ≠ g) := ⟨by rw [e]; exact Nat.ne_of_gt h.lt⟩
end
/-! ### spec_l1Cur_pick: function 59 -/
def spec_l1Cur_pick.f (s0_0 : List Int) (s0_1 : Int) (s0_2 : Int) (a1 : Int) : Option (Int × Int × Int) := if a1 ≤ 1 then (some (0, s0_1, s0_2)) else ((spec_l1Cur_next.f s0_0 s0_1 s0_2).bind fun bt371 => (if a1 > 200 then ((spec_l1Cur_next.f s0_0 bt371.2.1 bt371.2.2).bind fun bt374 => (if a1 = 0 then (none) else (some (Int.tmod (wrap64 ((wrap64 (bt371.1 * 256)) + bt374.1)) a1, bt374.2.1, bt374.2.2)))) else (if a1 = 0 then (none) else (some (Int.tmod bt371.1 a1, bt371.2.1, bt371.2.2)))))
set_option maxHeartbeats 8000000 in
set_option maxRecDepth 100000 in
theorem spec_l1Cur_pick.calls (g : Nat) (s0_0 : List Int) (s0_1 : Int) (s0_2 : Int) (a1 : Int) (r1 : Int) (r2 : Int) (r3 : Int) (w0 w : World) (hI : IsS73 w0 w g s0_0 s0_1 s0_2) (hB : Below w0.heap.size w0 w) (h : spec_l1Cur_pick.f s0_0 s0_1 s0_2 a1 = some (r1, r2, r3)) :
    Calls Try.prog 59 #[.pointer (some ⟨g, 0, none⟩), .int .i64 a1] w fun e w' => e = .returned (.int .i64 r1) ∧ IsS73 w0 w' g s0_0 r2 r3 ∧ Below w0.heap.size w0 w' ∧ KeepBut w w' g none := by
  have HI0 := amk hI
  have HK := amk (KeepBut.refl w g none)
  have HL := amk hB.size
  clear hI
  have HW0 := amk hB.size
  have HB := amk hB
  clear hB
  have H : (if a1 ≤ 1 then (some (0, s0_1, s0_2)) else ((spec_l1Cur_next.f s0_0 s0_1 s0_2).bind fun bt371 => (if a1 > 200 then ((spec_l1Cur_next.f s0_0 bt371.2.1 bt371.2.2).bind fun bt374 => (if a1 = 0 then (none) else (some (Int.tmod (wrap64 ((wrap64 (bt371.1 * 256)) + bt374.1)) a1, bt374.2.1, bt374.2.2)))) else (if a1 = 0 then (none) else (some (Int.tmod bt371.1 a1, bt371.2.1, bt371.2.2)))))) = some (r1, r2, r3) := h
  clear h
  replace H := iteE H; obtain ⟨c3b0, H⟩ | ⟨c3b0, H⟩ := H
  · simp only [Option.some.injEq, Prod.mk.injEq] at H
    obtain ⟨rfl, rfl, rfl⟩ := H
    go_enter Try.func59, Try.ntmps59
    go_wp2
    go_ret
    exact ⟨rF_, bI, bBI, bK⟩
  · replace H := Option.bind_eq_some_iff.mp H
    obtain ⟨⟨t371, t372, t373⟩, A40, H⟩ := H
    replace H : (if a1 > 200 then ((spec_l1Cur_next.f s0_0 t372 t373).bind fun bt374 => (if a1 = 0 then (none) else (some (Int.tmod (wrap64 ((wrap64 (t371 * 256)) + bt374.1)) a1, bt374.2.1, bt374.2.2)))) else (if a1 = 0 then (none) else (some (Int.tmod t371 a1, t372, t373)))) = some (r1, r2, r3) := H
    have A4 := amk A40
    clear A40
    by_cases c5 : a1 > 200
    · rw [if_pos c5] at H
      have c5b0 : decide (200 < a1) = true := decide_eq_true c5
      clear c5
      replace H := bE H
      obtain ⟨⟨t374, t375, t376⟩, A6, H⟩ := H
      try dsimp only at H
      by_cases c7 : a1 = 0
      · rw [if_pos c7] at H
        exact absurd H (by simp)
      · rw [if_neg c7] at H
        have c7b0 : (a1 == 0) = false := beq_eq_false_iff_ne.mpr c7
        have c7b1 : (a1 != 0) = true := bne_iff_ne.mpr c7
        simp only [Option.some.injEq, Prod.mk.injEq] at H
        obtain ⟨rfl, rfl, rfl⟩ := H
        go_enter Try.func59, Try.ntmps59
        go_wp2_with (first | (refine gc_ 76 9 Try.func76 #[.pointer (some ⟨g, 0, none⟩)] ?_; (with_reducible refine (spec_l1Cur_next.calls g s0_0 s0_1 s0_2 t371 t372 t373 w0 _ ?_ ?_ A4.out).mono ?_); exact bI; exact bBI; rintro e w8 ⟨rfl, hi, hb, hk⟩; refine ⟨_, rfl, ?_⟩; replace HK := kT2 HK hk; replace HB := amk (hb); replace HI0 := amk (hi); (try clear hb); (try clear hk); (try clear hi)) | (refine gc_ 76 15 Try.func76 #[.pointer (some ⟨g, 0, none⟩)] ?_; (with_reducible refine (spec_l1Cur_next.calls g s0_0 t372 t373 t374 t375 t376 w0 _ ?_ ?_ A6.out).mono ?_); exact bI; exact bBI; rintro e w9 ⟨rfl, hi, hb, hk⟩; refine ⟨_, rfl, ?_⟩; replace HK := kT2 HK hk; replace HB := amk (hb); replace HI0 := amk (hi); (try clear hb); (try clear hk); (try clear hi)))
        go_ret
        exact ⟨rF_, bI, bBI, bK⟩
    · rw [if_neg c5] at H
      have c5b0 : decide (200 < a1) = false := decide_eq_false c5
      clear c5
      by_cases c10 : a1 = 0
      · rw [if_pos c10] at H
        exact absurd H (by simp)
      · rw [if_neg c10] at H
        have c10b0 : (a1 == 0) = false := beq_eq_false_iff_ne.mpr c10
        have c10b1 : (a1 != 0) = true := bne_iff_ne.mpr c10
        simp only [Option.some.injEq, Prod.mk.injEq] at H
        obtain ⟨rfl, rfl, rfl⟩ := H
        go_enter Try.func59, Try.ntmps59
        go_wp2_with (first | (refine gc_ 76 9 Try.func76 #[.pointer (some ⟨g, 0, none⟩)] ?_; (with_reducible refine (spec_l1Cur_next.calls g s0_0 s0_1 s0_2 t371 t372 t373 w0 _ ?_ ?_ A4.out).mono ?_); exact bI; exact bBI; rintro e w11 ⟨rfl, hi, hb, hk⟩; refine ⟨_, rfl, ?_⟩; replace HK := kT2 HK hk; replace HB := amk (hb); replace HI0 := amk (hi); (try clear hb); (try clear hk); (try clear hi)))
        go_ret
        exact ⟨rF_, bI, bBI, bK⟩
/-! ### spec_l1Cur_among: function 74 -/
def spec_l1Cur_among.f (s0_0 : List Int) (s0_1 : Int) (s0_2 : Int) (l1 : List Int) : Option (Int × Int × Int) := (spec_l1Cur_pick.f s0_0 s0_1 s0_2 (l1.length : Int)).bind fun bt400 => (if 0 ≤ bt400.1 then (if bt400.1 < (l1.length : Int) then (some (rd l1 bt400.1, bt400.2.1, bt400.2.2)) else (none)) else (none))
set_option maxHeartbeats 8000000 in
set_option maxRecDepth 100000 in
theorem spec_l1Cur_among.calls (g : Nat) (s0_0 : List Int) (s0_1 : Int) (s0_2 : Int) (A1 : Option Addr) (c1 : Nat) (l1 : List Int) (r1 : Int) (r2 : Int) (r3 : Int) (w0 w : World) (hI : IsS73 w0 w g s0_0 s0_1 s0_2) (hB : Below w0.heap.size w0 w) (hr1 : Kd.C (Kd.int .i64) w A1 l1.length l1) (hc1 : l1.length ≤ c1) (hf1 : ∀ ad, A1 = some ad → 0 < l1.length → ad.block ≠ g) (h : spec_l1Cur_among.f s0_0 s0_1 s0_2 l1 = some (r1, r2, r3)) :
    Calls Try.prog 74 #[.pointer (some ⟨g, 0, none⟩), .slice A1 l1.length c1] w fun e w' => e = .returned (.int .i64 r1) ∧ IsS73 w0 w' g s0_0 r2 r3 ∧ Below w0.heap.size w0 w' ∧ KeepBut w w' g none := by
  have HR1 := amk hr1
  have HC1 := amk hc1
  clear hr1 hc1
  have HI0 := amk hI
  have HK := amk (KeepBut.refl w g none)
  have HL := amk hB.size
  clear hI
  have HW0 := amk hB.size
  have HB := amk hB
  clear hB
  have H : ((spec_l1Cur_pick.f s0_0 s0_1 s0_2 (l1.length : Int)).bind fun bt400 => (if 0 ≤ bt400.1 then (if bt400.1 < (l1.length : Int) then (some (rd l1 bt400.1, bt400.2.1, bt400.2.2)) else (none)) else (none))) = some (r1, r2, r3) := h
  clear h
  replace H := bE H
  obtain ⟨⟨t400, t401, t402⟩, A3, H⟩ := H
  try dsimp only at H
  replace H := iteN H; obtain ⟨c4b0, H⟩ := H
  replace H := iteN H; obtain ⟨c5b0, H⟩ := H
  simp only [Option.some.injEq, Prod.mk.injEq] at H
  obtain ⟨rfl, rfl, rfl⟩ := H
  go_enter Try.func74, Try.ntmps74
  go_wp2_with (first | (refine gc_ 59 9 Try.func59 #[.pointer (some ⟨g, 0, none⟩), .int .i64 (l1.length : Int)] ?_; (with_reducible refine (spec_l1Cur_pick.calls g s0_0 s0_1 s0_2 (l1.length : Int) t400 t401 t402 w0 _ ?_ ?_ A3.out).mono ?_); exact bI; exact bBI; rintro e w6 ⟨rfl, hi, hb, hk⟩; refine ⟨_, rfl, ?_⟩; replace HK := kT2 HK hk; replace HB := amk (hb); replace HI0 := amk (hi); (try clear hb); (try clear hk); (try clear hi); have p403 : 0 ≤ (t400 : Int) := dA_; have q403 : t400 < (l1.length : Int) := dA_; obtain ⟨ad403, e403, hx403_0⟩ := Kd.at_int HR1.out t400 p403 q403; cases e403; replace hx403_0 := keep_cell HK.out hx403_0 (by first | (rw [add_block]; exact hf1 _ rfl (by omega)) | exact hf1 _ rfl (by omega) | exact hf1 ad403 rfl (by omega)); replace p403 := eq_true p403; replace q403 := eq_true q403))
  go_ret
  exact ⟨rF_, bI, bBI, bK⟩
/-! ### spec_l1Cur_few3: function 75 -/
def spec_l1Cur_few3.l0 : Nat → List Int → Int → List Int → Int → Int → Option (List Int × Int × Int)
  | 0, _, _, _, _, _ => none
  | k + 1, x3, x4, x1000, x1001, x1002 => if x4 > 0 then ((spec_l1Cur_pick.f x1000 x1001 x1002 7).bind fun bt407 => (if x3.length < 17592186044416 then (spec_l1Cur_few3.l0 k (x3 ++ [wrap64 (bt407.1 - 1)]) (wrap64 (x4 - 1)) x1000 bt407.2.1 bt407.2.2) else (none))) else (some (x3, x1001, x1002))
def spec_l1Cur_few3.f (k : Nat) (s0_0 : List Int) (s0_1 : Int) (s0_2 : Int) : Option (List Int × Int × Int) := (spec_l1Cur_pick.f s0_0 s0_1 s0_2 4).bind fun bt404 => (spec_l1Cur_few3.l0 k ([] : List Int) bt404.1 s0_0 bt404.2.1 bt404.2.2)
set_option maxHeartbeats 8000000 in
set_option maxRecDepth 100000 in
theorem spec_l1Cur_few3.calls (k : Nat) (g : Nat) (s0_0 : List Int) (s0_1 : Int) (s0_2 : Int) (r1 : List Int) (r2 : Int) (r3 : Int) (w0 w : World) (hI : IsS73 w0 w g s0_0 s0_1 s0_2) (hB : Below w0.heap.size w0 w) (h : spec_l1Cur_few3.f k s0_0 s0_1 s0_2 = some (r1, r2, r3)) :
    Calls Try.prog 75 #[.pointer (some ⟨g, 0, none⟩)] w fun e w' => ∃ v0_ : Value, e = .returned (v0_) ∧ Kd.R (Kd.int .i64) 3 w' w.heap.size (fun _ => True) v0_ r1 ∧ IsS73 w0 w' g s0_0 r2 r3 ∧ Below w0.heap.size w0 w' ∧ KeepBut w w' g none := by
  have HI0 := amk hI
  have HK := amk (KeepBut.refl w g none)
  have HL := amk hB.size
  clear hI
  have HW0 := amk hB.size
  have HB := amk hB
  clear hB
  have H : ((spec_l1Cur_pick.f s0_0 s0_1 s0_2 4).bind fun bt404 => (spec_l1Cur_few3.l0 k ([] : List Int) bt404.1 s0_0 bt404.2.1 bt404.2.2)) = some (r1, r2, r3) := h
  clear h
  replace H := bE H
  obtain ⟨⟨t404, t405, t406⟩, A2, H⟩ := H
  try dsimp only at H
  have H' := amk H
  clear H
  go_enter Try.func75, Try.ntmps75
  go_wp2_with (first | (refine gc_ 59 6 Try.func59 #[.pointer (some ⟨g, 0, none⟩), .int .i64 4] ?_; (with_reducible refine (spec_l1Cur_pick.calls g s0_0 s0_1 s0_2 4 t404 t405 t406 w0 _ ?_ ?_ A2.out).mono ?_); exact bI; exact bBI; rintro e w3 ⟨rfl, hi, hb, hk⟩; refine ⟨_, rfl, ?_⟩; replace HK := kT2 HK hk; replace HB := amk (hb); replace HI0 := amk (hi); (try clear hb); (try clear hk); (try clear hi)))
  go_loopg [3, 4] k (fun kq v3 v4 w' => ∃ (x3_1 : List Int) (x4_1 : Int) (x1001_1 : Int) (x1002_1 : Int), v4 = .int .i64 x4_1 ∧ Aside0 (spec_l1Cur_few3.l0 kq x3_1 x4_1 s0_0 x1001_1 x1002_1 = some (r1, r2, r3)) ∧ Aside0 (kq ≤ k) ∧ Aside0 (Kd.R (Kd.int .i64) 3 w' w.heap.size (fun _ => True) v3 x3_1) ∧ Aside0 (IsS73 w0 w' g s0_0 x1001_1 x1002_1) ∧ Aside0 (KeepBut w w' g none) ∧ Aside0 (Below w0.heap.size w0 w'))
  case atStart => exact ⟨(([] : List Int)), (t404), (t405), (t406), rS_, H', ⟨Nat.le_refl _⟩, ⟨xN_⟩, ⟨bI⟩, ⟨bK⟩, ⟨bBI⟩⟩
  case round =>
    clear H'
    try clear p2
    obtain ⟨x3_1, x4_1, x1001_1, x1002_1, rfl, HA, HK1, HO_3, HI0, HK, HB⟩ := hrel
    cases gk with
    | zero => exact absurd HA.out (by simp [spec_l1Cur_few3.l0])
    | succ k1 =>
      have H := HA.out
      clear HA
      simp only [spec_l1Cur_few3.l0] at H
      by_cases c4 : x4_1 > 0
      · rw [if_pos c4] at H
        have c4b0 : decide (0 < x4_1) = true := decide_eq_true c4
        clear c4
        replace H := bE H
        obtain ⟨⟨t407, t408, t409⟩, A5, H⟩ := H
        try dsimp only at H
        by_cases c6 : x3_1.length < 17592186044416
        · rw [if_pos c6] at H
          have LMc6 := amk c6
          clear c6
          obtain ⟨y410, hy410⟩ : ∃ y_ : List Int, y_ = (x3_1 ++ [wrap64 (t407 - 1)]) := ⟨_, rfl⟩
          replace H : (spec_l1Cur_few3.l0 k1 y410 (wrap64 (x4_1 - 1)) s0_0 t408 t409) = some (r1, r2, r3) := by first | (rw [hy410]; with_reducible exact H) | (have H2_ := (Option.bind_some _ _).symm.trans H; rw [hy410]; with_reducible exact H2_) | (have H2_ := (Option.bind_some _ _).symm.trans H; with_reducible exact H2_) | with_reducible exact H | (rw [hy410]; exact H) | exact H
          have Ny410 := amk hy410
          clear hy410
          have H' := amk H
          clear H
          go_wp2_with (first | (refine gc_ 59 13 Try.func59 #[.pointer (some ⟨g, 0, none⟩), .int .i64 7] ?_; (with_reducible refine (spec_l1Cur_pick.calls g s0_0 x1001_1 x1002_1 7 t407 t408 t409 w0 _ ?_ ?_ A5.out).mono ?_); exact bI; exact bBI; rintro e w7 ⟨rfl, hi, hb, hk⟩; refine ⟨_, rfl, ?_⟩; replace HO_3 := amk (Kd.R_mono (Kd.R_keep (IsS73.apart (show IsS73 w0 _ g s0_0 x1001_1 x1002_1 from bI) (oX HO_3) (by decide)) hk (fun _ h => h.2)) (fun _ h => h.1)); replace HK := kT2 HK hk; replace HB := amk (hb); replace HI0 := amk (hi); (try clear hb); (try clear hk); (try clear hi)) | ((with_reducible refine gate_builtin (b := .append) (xs := #[.tmp 11, .tmp 15]) rfl ?_); at_builtin; refine Kd.R_append (Kd.int .i64) w.heap.size rfl (.tmp 11) (.tmp 15) 52 3 (.int .i64 0) 8 rfl Try.underlying52 info3 rfl (by decide) (by omega) u3 x3_1 (wrap64 (t407 - 1)) [.int .i64 (wrap64 (t407 - 1))] (fun _ => True) (fun _ => False) rfl rfl rfl (fun _ hk => hk.elim) (fun _ _ => trivial) (oX HO_3) (Below.refl _ _) (keep_size (w := w) (g := g) (row := none) bK) (by have := LMc6.out; omega) ?_; intro v411 w8 ho hb hg hat; rw [← Ny410.out] at ho; replace HB := amk (below_weaken bBI HL.out hb); replace HI0 := amk (IsS73.grown bI hg (IsS73.own_ne HI0.out HO_3.out (by decide))); replace HK := amk (KeepBut.trans bK (KeepBut.of_grown hg g) (Kd.R_base2 HO_3.out)); have HO412 := amk (ho); clear HO_3; clear ho hb hg hat))
          go_roundg k1
          case measure => have := HK1.out; omega
          case rel => exact ⟨(y410), (wrap64 (x4_1 - 1)), (t408), (t409), rS_, H', ⟨by have := HK1.out; omega⟩, ⟨oX HO412⟩, ⟨bI⟩, ⟨bK⟩, ⟨bBI⟩⟩
        · rw [if_neg c6] at H
          exact absurd H (by simp)
      · rw [if_neg c4] at H
        have c4b0 : decide (0 < x4_1) = false := decide_eq_false c4
        clear c4
        simp only [Option.some.injEq, Prod.mk.injEq] at H
        obtain ⟨rfl, rfl, rfl⟩ := H
        go_wp2
        go_ret
        exact ⟨_, rF_, oX HO_3, bI, bBI, bK⟩
/-! ### spec_l1Cur_of: function 80 -/
def spec_l1Cur_of.f (s0_0 : List Int) (s0_1 : Int) (s0_2 : Int) (l1 : List ByteArray) : Option (ByteArray × Int × Int) := (spec_l1Cur_pick.f s0_0 s0_1 s0_2 (l1.length : Int)).bind fun bt451 => (if 0 ≤ bt451.1 then (if bt451.1 < (l1.length : Int) then (some (rdOf ByteArray.empty l1 bt451.1, bt451.2.1, bt451.2.2)) else (none)) else (none))
set_option maxHeartbeats 8000000 in
set_option maxRecDepth 100000 in
theorem spec_l1Cur_of.calls (g : Nat) (s0_0 : List Int) (s0_1 : Int) (s0_2 : Int) (A1 : Option Addr) (c1 : Nat) (l1 : List ByteArray) (r1 : ByteArray) (r2 : Int) (r3 : Int) (w0 w : World) (hI : IsS73 w0 w g s0_0 s0_1 s0_2) (hB : Below w0.heap.size w0 w) (hr1 : Kd.C Kd.string w A1 l1.length l1) (hc1 : l1.length ≤ c1) (hf1 : ∀ ad, A1 = some ad → 0 < l1.length → ad.block ≠ g) (h : spec_l1Cur_of.f s0_0 s0_1 s0_2 l1 = some (r1, r2, r3)) :
    Calls Try.prog 80 #[.pointer (some ⟨g, 0, none⟩), .slice A1 l1.length c1] w fun e w' => e = .returned (.string r1) ∧ IsS73 w0 w' g s0_0 r2 r3 ∧ Below w0.heap.size w0 w' ∧ KeepBut w w' g none := by
  have HR1 := amk hr1
  have HC1 := amk hc1
  clear hr1 hc1
  have HI0 := amk hI
  have HK := amk (KeepBut.refl w g none)
  have HL := amk hB.size
  clear hI
  have HW0 := amk hB.size
  have HB := amk hB
  clear hB
  have H : ((spec_l1Cur_pick.f s0_0 s0_1 s0_2 (l1.length : Int)).bind fun bt451 => (if 0 ≤ bt451.1 then (if bt451.1 < (l1.length : Int) then (some (rdOf ByteArray.empty l1 bt451.1, bt451.2.1, bt451.2.2)) else (none)) else (none))) = some (r1, r2, r3) := h
  clear h
  replace H := bE H
  obtain ⟨⟨t451, t452, t453⟩, A3, H⟩ := H
  try dsimp only at H
  replace H := iteN H; obtain ⟨c4b0, H⟩ := H
  replace H := iteN H; obtain ⟨c5b0, H⟩ := H
  simp only [Option.some.injEq, Prod.mk.injEq] at H
  obtain ⟨rfl, rfl, rfl⟩ := H
  go_enter Try.func80, Try.ntmps80
  go_wp2_with (first | (refine gc_ 59 9 Try.func59 #[.pointer (some ⟨g, 0, none⟩), .int .i64 (l1.length : Int)] ?_; (with_reducible refine (spec_l1Cur_pick.calls g s0_0 s0_1 s0_2 (l1.length : Int) t451 t452 t453 w0 _ ?_ ?_ A3.out).mono ?_); exact bI; exact bBI; rintro e w6 ⟨rfl, hi, hb, hk⟩; refine ⟨_, rfl, ?_⟩; replace HK := kT2 HK hk; replace HB := amk (hb); replace HI0 := amk (hi); (try clear hb); (try clear hk); (try clear hi); have p454 : 0 ≤ (t451 : Int) := dA_; have q454 : t451 < (l1.length : Int) := dA_; obtain ⟨ad454, e454, hx454_0⟩ := Kd.at_string HR1.out t451 p454 q454; cases e454; replace hx454_0 := keep_cell HK.out hx454_0 (by first | (rw [add_block]; exact hf1 _ rfl (by omega)) | exact hf1 _ rfl (by omega) | exact hf1 ad454 rfl (by omega)); replace p454 := eq_true p454; replace q454 := eq_true q454))
  go_ret
  exact ⟨rF_, bI, bBI, bK⟩
/-! ### spec_l1Cur_one: function 57 -/
def spec_l1Cur_one.f (s0_0 : List Int) (s0_1 : Int) (s0_2 : Int) (a1 : Int) : Option (Bool × Int × Int) := (spec_l1Cur_pick.f s0_0 s0_1 s0_2 a1).bind fun bt377 => (some ((bt377.1 == 0), bt377.2.1, bt377.2.2))
set_option maxHeartbeats 8000000 in
set_option maxRecDepth 100000 in
theorem spec_l1Cur_one.calls (g : Nat) (s0_0 : List Int) (s0_1 : Int) (s0_2 : Int) (a1 : Int) (r1 : Bool) (r2 : Int) (r3 : Int) (w0 w : World) (hI : IsS73 w0 w g s0_0 s0_1 s0_2) (hB : Below w0.heap.size w0 w) (h : spec_l1Cur_one.f s0_0 s0_1 s0_2 a1 = some (r1, r2, r3)) :
    Calls Try.prog 57 #[.pointer (some ⟨g, 0, none⟩), .int .i64 a1] w fun e w' => e = .returned (.bool r1) ∧ IsS73 w0 w' g s0_0 r2 r3 ∧ Below w0.heap.size w0 w' ∧ KeepBut w w' g none := by
  have HI0 := amk hI
  have HK := amk (KeepBut.refl w g none)
  have HL := amk hB.size
  clear hI
  have HW0 := amk hB.size
  have HB := amk hB
  clear hB
  have H : ((spec_l1Cur_pick.f s0_0 s0_1 s0_2 a1).bind fun bt377 => (some ((bt377.1 == 0), bt377.2.1, bt377.2.2))) = some (r1, r2, r3) := h
  clear h
  replace H := bE H
  obtain ⟨⟨t377, t378, t379⟩, A3, H⟩ := H
  try dsimp only at H
  simp only [Option.some.injEq, Prod.mk.injEq] at H
  obtain ⟨rfl, rfl, rfl⟩ := H
  go_enter Try.func57, Try.ntmps57
  go_wp2_with (first | (refine gc_ 59 7 Try.func59 #[.pointer (some ⟨g, 0, none⟩), .int .i64 a1] ?_; (with_reducible refine (spec_l1Cur_pick.calls g s0_0 s0_1 s0_2 a1 t377 t378 t379 w0 _ ?_ ?_ A3.out).mono ?_); exact bI; exact bBI; rintro e w4 ⟨rfl, hi, hb, hk⟩; refine ⟨_, rfl, ?_⟩; replace HK := kT2 HK hk; replace HB := amk (hb); replace HI0 := amk (hi); (try clear hb); (try clear hk); (try clear hi)))
  go_ret
  exact ⟨rF_, bI, bBI, bK⟩
/-! ### spec_l1Cur_surePins: function 60 -/
mutual
def spec_l1Cur_surePins.l0 : Nat → Int → Int → List Int → Int → Int → Int → List (List Int) → Option (Int × (List (List Int)) × Int × Int)
  | 0, _, _, _, _, _, _, _ => none
  | k + 1, x1, x2, x1000, x1001, x1002, x382000, x382001 => if x2 > 0 then (spec_l1Cur_surePins.l1 k x1 x2 ([] : List Int) 0 x1000 x1001 x1002 x382000 x382001) else (some (x382000, x382001, x1001, x1002))
def spec_l1Cur_surePins.l1 : Nat → Int → Int → List Int → Int → List Int → Int → Int → Int → List (List Int) → Option (Int × (List (List Int)) × Int × Int)
  | 0, _, _, _, _, _, _, _, _, _ => none
  | k + 1, x1, x2, x8, x9, x1000, x1001, x1002, x382000, x382001 => if x9 < x1 then ((spec_l1Cur_one.f x1000 x1001 x1002 3).bind fun bt382 => (if bt382.1 = true then (if x8.length < 17592186044416 then (spec_l1Cur_surePins.l1 k x1 x2 (x8 ++ [x9]) (wrap64 (x9 + 1)) x1000 bt382.2.1 bt382.2.2 x382000 x382001) else (none)) else (spec_l1Cur_surePins.l1 k x1 x2 x8 (wrap64 (x9 + 1)) x1000 bt382.2.1 bt382.2.2 x382000 x382001))) else (if (x8.length : Int) = 0 then ((spec_l1Cur_pick.f x1000 x1001 x1002 x1).bind fun bt388 => (if x382001.length < 5864062014805 then (spec_l1Cur_surePins.l0 k x1 (wrap64 (x2 - 1)) x1000 bt388.2.1 bt388.2.2 x382000 (x382001 ++ [(([bt388.1] : List Int))])) else (none))) else (if x382001.length < 5864062014805 then (spec_l1Cur_surePins.l0 k x1 (wrap64 (x2 - 1)) x1000 x1001 x1002 x382000 (x382001 ++ [x8])) else (none)))
end
def spec_l1Cur_surePins.f (k : Nat) (s0_0 : List Int) (s0_1 : Int) (s0_2 : Int) (a1 : Int) (a2 : Int) : Option (Int × (List (List Int)) × Int × Int) := spec_l1Cur_surePins.l0 k a1 a2 s0_0 s0_1 s0_2 a1 ([] : List (List Int))
set_option maxHeartbeats 8000000 in
set_option maxRecDepth 100000 in
theorem spec_l1Cur_surePins.calls (k : Nat) (g : Nat) (s0_0 : List Int) (s0_1 : Int) (s0_2 : Int) (a1 : Int) (a2 : Int) (r1 : Int) (r2 : List (List Int)) (r3 : Int) (r4 : Int) (w0 w : World) (hI : IsS73 w0 w g s0_0 s0_1 s0_2) (hB : Below w0.heap.size w0 w) (h : spec_l1Cur_surePins.f k s0_0 s0_1 s0_2 a1 a2 = some (r1, r2, r3, r4)) :
    Calls Try.prog 60 #[.pointer (some ⟨g, 0, none⟩), .int .i64 a1, .int .i64 a2] w fun e w' => ∃ v1_ : Value, e = .returned (.agg #[.int .i64 r1, v1_]) ∧ Kd.S (Kd.slice 3 (Kd.int .i64)) 52 w' w.heap.size (fun _ => True) v1_ r2 ∧ IsS73 w0 w' g s0_0 r3 r4 ∧ Below w0.heap.size w0 w' ∧ KeepBut w w' g none := by
  have hu24 := Try.underlying24
  have HI0 := amk hI
  have HK := amk (KeepBut.refl w g none)
  have HL := amk hB.size
  clear hI
  have HW0 := amk hB.size
  have HB := amk hB
  clear hB
  have H : (spec_l1Cur_surePins.l0 k a1 a2 s0_0 s0_1 s0_2 a1 ([] : List (List Int))) = some (r1, r2, r3, r4) := h
  clear h
  have H' := amk H
  clear H
  go_enter Try.func60, Try.ntmps60
  go_wp2_with (first | ((with_reducible refine gate_dst (N := 6) rfl ?_); refine boxG_ 6 #[.int .i64 0, .slice none 0 0] 24 ?_; intro gb380 w4 hg BK380 hb; replace HB := hBI HB hb; have GW380 := kS HK hg; have GE380 := kE HW0 GW380; replace HK := kT HK hb; have NB0_380 := iL s0_0 s0_1 s0_2 hg; have NB380_0 := iR s0_0 s0_1 s0_2 hg; replace HI0 := amk (IsS73.below bI hb); clear hb hg) | ((with_reducible refine gate_dst (N := 7) rfl ?_); refine boxG_ 7 #[.int .i64 0, .slice none 0 0] 24 ?_; intro gb381 w5 hg BK381 hb; replace HB := hBI HB hb; have GW381 := kS HK hg; have GE381 := kE HW0 GW381; replace HK := kT HK hb; have NB380_381 := neL BK380 hg; have NB381_380 := neR BK380 hg; replace BK380 := kb2 BK380 hb; have NB0_381 := iL s0_0 s0_1 s0_2 hg; have NB381_0 := iR s0_0 s0_1 s0_2 hg; replace HI0 := amk (IsS73.below bI hb); clear hb hg; have hnb6 := NB381_380.out; have hnc6 := NB380_381.out; have hnb7 := NB381_0.out; have hnc7 := NB0_381.out; obtain ⟨hcz8_0, hcz8_1, hfz8_0, hfz8_1, _⟩ := two_cells BK381.out))
  go_loopg [2] k (fun kq v2 w' => ∃ (x2_1 : Int) (x1001_1 : Int) (x1002_1 : Int) (x382001_1 : List (List Int)) (u382001 : Value), v2 = .int .i64 x2_1 ∧ Aside0 (spec_l1Cur_surePins.l0 kq a1 x2_1 s0_0 x1001_1 x1002_1 a1 x382001_1 = some (r1, r2, r3, r4)) ∧ Aside0 (kq ≤ k) ∧ Aside0 (Kd.S (Kd.slice 3 (Kd.int .i64)) 52 w' w.heap.size (fun _ => True) u382001 x382001_1) ∧ Aside0 (w'.heap[gb380]? = some (.cells #[.int .i64 0, (.slice none 0 0)] 24 (0, 0))) ∧ Aside0 (w'.heap[gb381]? = some (.cells #[.int .i64 a1, u382001] 24 (0, 0))) ∧ Aside0 (IsS73 w0 w' g s0_0 x1001_1 x1002_1) ∧ Aside0 (KeepBut w w' g none) ∧ Aside0 (Below w0.heap.size w0 w'))
  case atStart => exact ⟨(a2), (s0_1), (s0_2), (([] : List (List Int))), (.slice none 0 0), rS_, H', ⟨Nat.le_refl _⟩, ⟨xN_⟩, ⟨kB BK380⟩, ⟨by (with_reducible repeat (first | refine kn_ ?_ _ | refine blk_drew ?_ | refine ka_ ?_ _)); refine blk_put (cs := #[.int .i64 a1, .slice none 0 0]) ?_ 1 _ rfl; (with_reducible repeat (first | refine kn_ ?_ _ | refine blk_drew ?_ | refine ka_ ?_ _)); refine blk_put (cs := #[.int .i64 0, .slice none 0 0]) ?_ 0 _ rfl; (with_reducible repeat (first | refine kn_ ?_ _ | refine blk_drew ?_ | refine ka_ ?_ _)); exact BK381.out⟩, ⟨bI⟩, ⟨bK⟩, ⟨bBI⟩⟩
  case round =>
    clear H'
    try clear p2; try clear c6; try clear c7; try clear hcz8_0; try clear hcz8_1; try clear hfz8_0; try clear hfz8_1
    obtain ⟨x2_1, x1001_1, x1002_1, x382001_1, u382001, rfl, HA, HK1, HO_382001, BK380, BK381, HI0, HK, HB⟩ := hrel
    cases gk with
    | zero => exact absurd HA.out (by simp [spec_l1Cur_surePins.l0])
    | succ k1 =>
      have H := HA.out
      clear HA
      simp only [spec_l1Cur_surePins.l0] at H
      by_cases c9 : x2_1 > 0
      · rw [if_pos c9] at H
        have c9b0 : decide (0 < x2_1) = true := decide_eq_true c9
        clear c9
        have H' := amk H
        clear H
        go_wp2
        go_loopg [8, 9] k1 (fun kq v8 v9 w' => ∃ (x8_2 : List Int) (x9_2 : Int) (x1001_2 : Int) (x1002_2 : Int), v9 = .int .i64 x9_2 ∧ Aside0 (spec_l1Cur_surePins.l1 kq a1 x2_1 x8_2 x9_2 s0_0 x1001_2 x1002_2 a1 x382001_1 = some (r1, r2, r3, r4)) ∧ Aside0 (kq ≤ k1) ∧ Aside0 (Kd.R (Kd.int .i64) 3 w' w.heap.size (fun _ => True) v8 x8_2) ∧ Aside0 (Kd.S (Kd.slice 3 (Kd.int .i64)) 52 w' w.heap.size (fun k_ => some k_ ≠ (v8 : Value).ownBlock) u382001 x382001_1) ∧ Aside0 (w'.heap[gb380]? = some (.cells #[.int .i64 0, (.slice none 0 0)] 24 (0, 0))) ∧ Aside0 (w'.heap[gb381]? = some (.cells #[.int .i64 a1, u382001] 24 (0, 0))) ∧ Aside0 (IsS73 w0 w' g s0_0 x1001_2 x1002_2) ∧ Aside0 (KeepBut w w' g none) ∧ Aside0 (Below w0.heap.size w0 w'))
        case atStart => exact ⟨(([] : List Int)), (0), (x1001_1), (x1002_1), rS_, H', ⟨Nat.le_refl _⟩, ⟨xN_⟩, ⟨by (with_reducible repeat (first | apply Kd.S_alloc | apply Kd.S_drewN | apply Kd.S_drew)); exact Kd.S_mono HO_382001.out (fun _ hk => (by simp [Value.ownBlock]))⟩, ⟨kB BK380⟩, ⟨kB BK381⟩, ⟨bI⟩, ⟨bK⟩, ⟨bBI⟩⟩
        case round =>
          clear H'
          try clear p2; try clear c6; try clear c7; try clear c9; try clear c9b0; try clear hcz8_0; try clear hcz8_1; try clear hfz8_0; try clear hfz8_1; try clear p2
          obtain ⟨x8_2, x9_2, x1001_2, x1002_2, rfl, HA, HK2, HO_8, HO_382001, BK380, BK381, HI0, HK, HB⟩ := hrel
          cases gk with
          | zero => exact absurd HA.out (by simp [spec_l1Cur_surePins.l1])
          | succ k2 =>
            have H := HA.out
            clear HA
            simp only [spec_l1Cur_surePins.l1] at H
            replace H := iteE H; obtain ⟨c10b0, H⟩ | ⟨c10b0, H⟩ := H
            · replace H := Option.bind_eq_some_iff.mp H
              obtain ⟨⟨t382, t383, t384⟩, A110, H⟩ := H
              replace H : (if t382 = true then (if x8_2.length < 17592186044416 then (spec_l1Cur_surePins.l1 k2 a1 x2_1 (x8_2 ++ [x9_2]) (wrap64 (x9_2 + 1)) s0_0 t383 t384 a1 x382001_1) else (none)) else (spec_l1Cur_surePins.l1 k2 a1 x2_1 x8_2 (wrap64 (x9_2 + 1)) s0_0 t383 t384 a1 x382001_1)) = some (r1, r2, r3, r4) := H
              have A11 := amk A110
              clear A110
              replace H := iteB H; obtain ⟨rfl, H⟩ | ⟨rfl, H⟩ := H
              · by_cases c13 : x8_2.length < 17592186044416
                · rw [if_pos c13] at H
                  have LMc13 := amk c13
                  clear c13
                  obtain ⟨y385, hy385⟩ : ∃ y_ : List Int, y_ = (x8_2 ++ [x9_2]) := ⟨_, rfl⟩
                  replace H : (spec_l1Cur_surePins.l1 k2 a1 x2_1 y385 (wrap64 (x9_2 + 1)) s0_0 t383 t384 a1 x382001_1) = some (r1, r2, r3, r4) := by first | (rw [hy385]; with_reducible exact H) | (have H2_ := (Option.bind_some _ _).symm.trans H; rw [hy385]; with_reducible exact H2_) | (have H2_ := (Option.bind_some _ _).symm.trans H; with_reducible exact H2_) | with_reducible exact H | (rw [hy385]; exact H) | exact H
                  have Ny385 := amk hy385
                  clear hy385
                  have H' := amk H
                  clear H
                  go_wp2_with (first | (refine gc_ 57 22 Try.func57 #[.pointer (some ⟨g, 0, none⟩), .int .i64 3] ?_; (with_reducible refine (spec_l1Cur_one.calls g s0_0 x1001_2 x1002_2 3 true t383 t384 w0 _ ?_ ?_ A11.out).mono ?_); exact bI; exact bBI; rintro e w14 ⟨rfl, hi, hb, hk⟩; refine ⟨_, rfl, ?_⟩; replace HO_8 := amk (Kd.R_mono (Kd.R_keep (IsS73.apart (show IsS73 w0 _ g s0_0 x1001_2 x1002_2 from bI) (oX HO_8) (by decide)) hk (fun _ h => h.2)) (fun _ h => h.1)); replace HO_382001 := amk (Kd.S_mono (Kd.S_keep (IsS73.apartS (show IsS73 w0 _ g s0_0 x1001_2 x1002_2 from bI) (oX HO_382001) (by decide)) hk (fun _ h => h.2)) (fun _ h => h.1)); replace BK380 := kQ BK380 hk NB380_0.out; replace BK381 := kQ BK381 hk NB381_0.out; replace HK := kT2 HK hk; replace HB := amk (hb); replace HI0 := amk (hi); (try clear hb); (try clear hk); (try clear hi)) | ((with_reducible refine gate_builtin (b := .append) (xs := #[.tmp 23, .tmp 25]) rfl ?_); at_builtin; refine Kd.R_append (Kd.int .i64) w.heap.size rfl (.tmp 23) (.tmp 25) 52 3 (.int .i64 0) 8 rfl Try.underlying52 info3 rfl (by decide) (by omega) u8 x8_2 x9_2 [.int .i64 x9_2] (fun _ => True) (fun _ => False) rfl rfl rfl (fun _ hk => hk.elim) (fun _ _ => trivial) (oX HO_8) (Below.refl _ _) (keep_size (w := w) (g := g) (row := none) bK) (by have := LMc13.out; omega) ?_; intro v386 w15 ho hb hg hat; rw [← Ny385.out] at ho; replace HO_382001 := amk (Kd.S_after (ok := (fun _ => True)) (by (with_reducible repeat (first | apply Kd.S_alloc | apply Kd.S_drewN | apply Kd.S_drew)); exact Kd.S_mono HO_382001.out (fun _ hk => ⟨trivial, hk⟩)) hg hat); replace BK380 := bG BK380 hg (Kd.R_ne HO_8.out BK380.out (by decide)); replace BK381 := bG BK381 hg (Kd.R_ne HO_8.out BK381.out (by decide)); replace HB := amk (below_weaken bBI HL.out hb); replace HI0 := amk (IsS73.grown bI hg (IsS73.own_ne HI0.out HO_8.out (by decide))); replace HK := amk (KeepBut.trans bK (KeepBut.of_grown hg g) (Kd.R_base2 HO_8.out)); have HO387 := amk (ho); clear HO_8; clear ho hb hg hat))
                  go_roundg k2
                  case measure => have := HK1.out; have := HK2.out; omega
                  case rel => exact ⟨(y385), (wrap64 (x9_2 + 1)), (t383), (t384), rS_, H', ⟨by have := HK1.out; have := HK2.out; omega⟩, ⟨oX HO387⟩, ⟨by (with_reducible repeat (first | apply Kd.S_alloc | apply Kd.S_drewN | apply Kd.S_drew)); exact Kd.S_mono HO_382001.out (fun _ hk => hk.2)⟩, ⟨kB BK380⟩, ⟨kB BK381⟩, ⟨bI⟩, ⟨bK⟩, ⟨bBI⟩⟩
                · rw [if_neg c13] at H
                  exact absurd H (by simp)
              · have H' := amk H
                clear H
                go_wp2_with (first | (refine gc_ 57 22 Try.func57 #[.pointer (some ⟨g, 0, none⟩), .int .i64 3] ?_; (with_reducible refine (spec_l1Cur_one.calls g s0_0 x1001_2 x1002_2 3 false t383 t384 w0 _ ?_ ?_ A11.out).mono ?_); exact bI; exact bBI; rintro e w16 ⟨rfl, hi, hb, hk⟩; refine ⟨_, rfl, ?_⟩; replace HO_8 := amk (Kd.R_mono (Kd.R_keep (IsS73.apart (show IsS73 w0 _ g s0_0 x1001_2 x1002_2 from bI) (oX HO_8) (by decide)) hk (fun _ h => h.2)) (fun _ h => h.1)); replace HO_382001 := amk (Kd.S_mono (Kd.S_keep (IsS73.apartS (show IsS73 w0 _ g s0_0 x1001_2 x1002_2 from bI) (oX HO_382001) (by decide)) hk (fun _ h => h.2)) (fun _ h => h.1)); replace BK380 := kQ BK380 hk NB380_0.out; replace BK381 := kQ BK381 hk NB381_0.out; replace HK := kT2 HK hk; replace HB := amk (hb); replace HI0 := amk (hi); (try clear hb); (try clear hk); (try clear hi)))
                go_roundg k2
                case measure => have := HK1.out; have := HK2.out; omega
                case rel => exact ⟨(x8_2), (wrap64 (x9_2 + 1)), (t383), (t384), rS_, H', ⟨by have := HK1.out; have := HK2.out; omega⟩, ⟨oX HO_8⟩, ⟨oX HO_382001⟩, ⟨kB BK380⟩, ⟨kB BK381⟩, ⟨bI⟩, ⟨bK⟩, ⟨bBI⟩⟩
            · by_cases c17 : (x8_2.length : Int) = 0
              · rw [if_pos c17] at H
                have c17b0 : ((x8_2.length : Int) == 0) = true := beq_iff_eq.mpr c17
                have c17b1 : ((x8_2.length : Int) != 0) = false := bne_eq_false_iff_eq.mpr c17
                clear c17
                replace H := bE H
                obtain ⟨⟨t388, t389, t390⟩, A18, H⟩ := H
                try dsimp only at H
                obtain ⟨y391, hy391⟩ : ∃ y_ : List Int, y_ = (([t388] : List Int)) := ⟨_, rfl⟩
                replace H : (if x382001_1.length < 5864062014805 then (spec_l1Cur_surePins.l0 k2 a1 (wrap64 (x2_1 - 1)) s0_0 t389 t390 a1 (x382001_1 ++ [y391])) else (none)) = some (r1, r2, r3, r4) := by first | (rw [hy391]; with_reducible exact H) | (have H2_ := (Option.bind_some _ _).symm.trans H; rw [hy391]; with_reducible exact H2_) | (have H2_ := (Option.bind_some _ _).symm.trans H; with_reducible exact H2_) | with_reducible exact H | (rw [hy391]; exact H) | exact H
                have Ny391 := amk hy391
                clear hy391
                by_cases c19 : x382001_1.length < 5864062014805
                · rw [if_pos c19] at H
                  have LMc19 := amk c19
                  clear c19
                  obtain ⟨y394, hy394⟩ : ∃ y_ : List (List Int), y_ = (x382001_1 ++ [y391]) := ⟨_, rfl⟩
                  replace H : (spec_l1Cur_surePins.l0 k2 a1 (wrap64 (x2_1 - 1)) s0_0 t389 t390 a1 y394) = some (r1, r2, r3, r4) := by first | (rw [hy394]; with_reducible exact H) | (have H2_ := (Option.bind_some _ _).symm.trans H; rw [hy394]; with_reducible exact H2_) | (have H2_ := (Option.bind_some _ _).symm.trans H; with_reducible exact H2_) | with_reducible exact H | (rw [hy394]; exact H) | exact H
                  have Ny394 := amk hy394
                  clear hy394
                  have H' := amk H
                  clear H
                  obtain ⟨Ao20, co20, eo20⟩ := Kd.R_slice HO_8.out
                  subst eo20
                  go_wp2_with (first | (refine gc_ 59 32 Try.func59 #[.pointer (some ⟨g, 0, none⟩), .int .i64 a1] ?_; (with_reducible refine (spec_l1Cur_pick.calls g s0_0 x1001_2 x1002_2 a1 t388 t389 t390 w0 _ ?_ ?_ A18.out).mono ?_); exact bI; exact bBI; rintro e w21 ⟨rfl, hi, hb, hk⟩; refine ⟨_, rfl, ?_⟩; replace HO_8 := amk (Kd.R_mono (Kd.R_keep (IsS73.apart (show IsS73 w0 _ g s0_0 x1001_2 x1002_2 from bI) (oX HO_8) (by decide)) hk (fun _ h => h.2)) (fun _ h => h.1)); replace HO_382001 := amk (Kd.S_mono (Kd.S_keep (IsS73.apartS (show IsS73 w0 _ g s0_0 x1001_2 x1002_2 from bI) (oX HO_382001) (by decide)) hk (fun _ h => h.2)) (fun _ h => h.1)); replace BK380 := kQ BK380 hk NB380_0.out; replace BK381 := kQ BK381 hk NB381_0.out; replace HK := kT2 HK hk; replace HB := amk (hb); replace HI0 := amk (hi); (try clear hb); (try clear hk); (try clear hi)) | ((with_reducible refine gate_dst (N := 33) rfl ?_); refine Kd.R_lit (Kd.int .i64) _ 3 ?hg (N := 33) ?hd (xs := ([t388] : List Int)) (inner := [.int .i64 t388]) (ok := fun _ => True) (okp := fun _ => True) ?hr ?hp (fun _ hk => hk) trivial (Below.refl _ _) (Nat.le_refl _) (by simp) ?_; (case hd => rfl); (case hg => rfl); (case hr => first | (go_simp; done) | (go_simp; rfl)); (case hp => exact (Reps.one (show Kd.M (Kd.int .i64) _ _ _ t388 [.int .i64 t388] from rfl) (Reps.none _ _))); intro v392 w22 ho23 hb hg_ hnew_; clear hg_ hnew_; (first | rw [← Ny391.out] at ho23 | (simp only [Int.reduceToNat] at ho23; rw [← Ny391.out] at ho23)); replace HO_382001 := amk (Kd.S_elder' (oX HO_382001) (Kd.R_base ho23) hb); have HO393 := amk (Kd.R_lower (Kd.R_new' ho23 (Kd.R_lt (oX HO_8))) (keep_size (w := w) (g := g) (row := none) bK)); replace HO_8 := amk (Kd.R_elder' (oX HO_8) (Kd.R_base ho23) hb); replace BK380 := kb2 BK380 hb; replace BK381 := kb2 BK381 hb; replace HK := kT HK hb; replace HB := hBI HB hb; replace HI0 := amk (IsS73.below bI hb); clear hb ho23; have hnb24 := NB381_380.out; have hnc24 := NB380_381.out; have hnb25 := NB381_0.out; have hnc25 := NB0_381.out; obtain ⟨hcz26_0, hcz26_1, hfz26_0, hfz26_1, _⟩ := two_cells BK381.out; obtain ⟨Ao28, co28, eo28⟩ := Kd.R_slice HO393.out; subst eo28) | ((with_reducible refine gate_builtin (b := .append) (xs := #[.tmp 35, .tmp 37]) rfl ?_); at_builtin; refine Kd.S_append (Kd.slice 3 (Kd.int .i64)) w.heap.size rfl (.tmp 35) (.tmp 37) 22 52 (.slice none 0 0) 24 rfl Try.underlying22 info52 rfl (by decide) (by omega) u382001 x382001_1 y391 [.slice Ao28 y391.length co28] (fun k_ => some k_ ≠ (.slice Ao20 x8_2.length co20 : Value).ownBlock) (fun k_ => some k_ = (.slice Ao28 y391.length co28 : Value).ownBlock) rfl rfl (Kd.M_row (Kd.R_mono (Kd.R_tight rfl (Kd.R_mono (ok' := fun k_ => ((fun k_ => some k_ ≠ (.slice Ao20 x8_2.length co20 : Value).ownBlock)) k_ ∧ some k_ ≠ (u382001 : Value).ownBlock) (Kd.R_apart' (HO393.out) (Kd.S_typed HO_382001.out) (by decide)) (fun k_ hk => ⟨hk.1.2, hk.2⟩))) (fun _ h_ => h_))) (fun k_ hk_ => ((Kd.R_mono (ok' := fun k_ => ((fun k_ => some k_ ≠ (.slice Ao20 x8_2.length co20 : Value).ownBlock)) k_ ∧ some k_ ≠ (u382001 : Value).ownBlock) (Kd.R_apart' (HO393.out) (Kd.S_typed HO_382001.out) (by decide)) (fun k_ hk => ⟨hk.1.2, hk.2⟩))).1 k_ hk_.symm) (fun k_ hk => Kd.fresh' (Kd.R_lt (oX HO_8)) k_ hk) (by (with_reducible repeat (first | apply Kd.S_alloc | apply Kd.S_drewN | apply Kd.S_drew)); exact Kd.S_mono HO_382001.out (fun k_ hk => ⟨hk.1, fun e_ => hk.2 e_⟩)) (Below.refl _ _) (keep_size (w := w) (g := g) (row := none) bK) (by have := LMc19.out; omega) ?_; intro v395 w27 ho hb hg hat; rw [← Ny394.out] at ho; replace HO_8 := amk (Kd.R_over' (oX HO_8) (Kd.S_typed (oX HO_382001)) (by decide) hg); replace BK380 := bG BK380 hg (Kd.S_ne HO_382001.out BK380.out (by decide)); replace BK381 := bG BK381 hg (Kd.S_ne HO_382001.out BK381.out (by decide)); replace HB := amk (below_weaken bBI HL.out hb); replace HI0 := amk (IsS73.grown bI hg (IsS73.own_neS HI0.out HO_382001.out (by decide))); replace HK := amk (KeepBut.trans bK (KeepBut.of_grown hg g) (Kd.S_base2 HO_382001.out)); have HO396 := amk (ho); clear HO_382001 HO393; clear ho hb hg hat; obtain ⟨Ao29, co29, eo29⟩ := Kd.S_slice HO396.out; subst eo29; obtain ⟨hcz30_0, hcz30_1, hfz30_0, hfz30_1, _⟩ := two_cells BK381.out))
                  go_roundg k2
                  case measure => have := HK1.out; have := HK2.out; omega
                  case rel => exact ⟨(wrap64 (x2_1 - 1)), (t389), (t390), (y394), (.slice Ao29 y394.length co29), rS_, H', ⟨by have := HK1.out; have := HK2.out; omega⟩, ⟨by (with_reducible repeat (first | apply Kd.S_alloc | apply Kd.S_drewN | apply Kd.S_drew)); exact Kd.S_mono (Kd.S_far (p := ⟨gb381, 1, none⟩) (Kd.S_types HO396.out BK381.out (by decide)) (fun _ hk => hk.2) (.slice Ao29 y394.length co29)) (fun _ hk => trivial)⟩, ⟨kB BK380⟩, ⟨by (with_reducible repeat (first | refine kn_ ?_ _ | refine blk_drew ?_ | refine ka_ ?_ _)); refine blk_put (cs := #[.int .i64 a1, u382001]) ?_ 1 _ rfl; (with_reducible repeat (first | refine kn_ ?_ _ | refine blk_drew ?_ | refine ka_ ?_ _)); exact BK381.out⟩, ⟨bI⟩, ⟨bK⟩, ⟨bBI⟩⟩
                · rw [if_neg c19] at H
                  exact absurd H (by simp)
              · rw [if_neg c17] at H
                have c17b0 : ((x8_2.length : Int) == 0) = false := beq_eq_false_iff_ne.mpr c17
                have c17b1 : ((x8_2.length : Int) != 0) = true := bne_iff_ne.mpr c17
                have c17b2 : ¬ (x8_2 = []) := fun h_ => c17 (by rw [h_]; rfl)
                by_cases c31 : x382001_1.length < 5864062014805
                · rw [if_pos c31] at H
                  have LMc31 := amk c31
                  clear c31
                  obtain ⟨y397, hy397⟩ : ∃ y_ : List (List Int), y_ = (x382001_1 ++ [x8_2]) := ⟨_, rfl⟩
                  replace H : (spec_l1Cur_surePins.l0 k2 a1 (wrap64 (x2_1 - 1)) s0_0 x1001_2 x1002_2 a1 y397) = some (r1, r2, r3, r4) := by first | (rw [hy397]; with_reducible exact H) | (have H2_ := (Option.bind_some _ _).symm.trans H; rw [hy397]; with_reducible exact H2_) | (have H2_ := (Option.bind_some _ _).symm.trans H; with_reducible exact H2_) | with_reducible exact H | (rw [hy397]; exact H) | exact H
                  have Ny397 := amk hy397
                  clear hy397
                  have H' := amk H
                  clear H
                  obtain ⟨Ao32, co32, eo32⟩ := Kd.R_slice HO_8.out
                  subst eo32
                  have hnb33 := NB381_380.out
                  have hnc33 := NB380_381.out
                  have hnb34 := NB381_0.out
                  have hnc34 := NB0_381.out
                  obtain ⟨hcz35_0, hcz35_1, hfz35_0, hfz35_1, _⟩ := two_cells BK381.out
                  go_wp2_with (first | ((with_reducible refine gate_builtin (b := .append) (xs := #[.tmp 35, .tmp 37]) rfl ?_); at_builtin; refine Kd.S_append (Kd.slice 3 (Kd.int .i64)) w.heap.size rfl (.tmp 35) (.tmp 37) 22 52 (.slice none 0 0) 24 rfl Try.underlying22 info52 rfl (by decide) (by omega) u382001 x382001_1 x8_2 [.slice Ao32 x8_2.length co32] (fun _ => True) (fun k_ => some k_ = (.slice Ao32 x8_2.length co32 : Value).ownBlock) rfl rfl (Kd.M_row (Kd.R_mono (Kd.R_tight rfl (Kd.R_mono (ok' := fun k_ => ((fun _ => True)) k_ ∧ some k_ ≠ (u382001 : Value).ownBlock) (Kd.R_apart' (HO_8.out) (Kd.S_typed HO_382001.out) (by decide)) (fun k_ hk => ⟨trivial, hk.2⟩))) (fun _ h_ => h_))) (fun k_ hk_ => ((Kd.R_mono (ok' := fun k_ => ((fun _ => True)) k_ ∧ some k_ ≠ (u382001 : Value).ownBlock) (Kd.R_apart' (HO_8.out) (Kd.S_typed HO_382001.out) (by decide)) (fun k_ hk => ⟨trivial, hk.2⟩))).1 k_ hk_.symm) (fun _ _ => trivial) (by (with_reducible repeat (first | apply Kd.S_alloc | apply Kd.S_drewN | apply Kd.S_drew)); exact Kd.S_mono HO_382001.out (fun k_ hk => ⟨trivial, fun e_ => hk e_⟩)) (Below.refl _ _) (keep_size (w := w) (g := g) (row := none) bK) (by have := LMc31.out; omega) ?_; intro v398 w36 ho hb hg hat; rw [← Ny397.out] at ho; replace BK380 := bG BK380 hg (Kd.S_ne HO_382001.out BK380.out (by decide)); replace BK381 := bG BK381 hg (Kd.S_ne HO_382001.out BK381.out (by decide)); replace HB := amk (below_weaken bBI HL.out hb); replace HI0 := amk (IsS73.grown bI hg (IsS73.own_neS HI0.out HO_382001.out (by decide))); replace HK := amk (KeepBut.trans bK (KeepBut.of_grown hg g) (Kd.S_base2 HO_382001.out)); have HO399 := amk (ho); clear HO_382001 HO_8; clear ho hb hg hat; obtain ⟨Ao37, co37, eo37⟩ := Kd.S_slice HO399.out; subst eo37; obtain ⟨hcz38_0, hcz38_1, hfz38_0, hfz38_1, _⟩ := two_cells BK381.out))
                  go_roundg k2
                  case measure => have := HK1.out; have := HK2.out; omega
                  case rel => exact ⟨(wrap64 (x2_1 - 1)), (x1001_2), (x1002_2), (y397), (.slice Ao37 y397.length co37), rS_, H', ⟨by have := HK1.out; have := HK2.out; omega⟩, ⟨by (with_reducible repeat (first | apply Kd.S_alloc | apply Kd.S_drewN | apply Kd.S_drew)); exact Kd.S_mono (Kd.S_far (p := ⟨gb381, 1, none⟩) (Kd.S_types HO399.out BK381.out (by decide)) (fun _ hk => hk.2) (.slice Ao37 y397.length co37)) (fun _ hk => trivial)⟩, ⟨kB BK380⟩, ⟨by (with_reducible repeat (first | refine kn_ ?_ _ | refine blk_drew ?_ | refine ka_ ?_ _)); refine blk_put (cs := #[.int .i64 a1, u382001]) ?_ 1 _ rfl; (with_reducible repeat (first | refine kn_ ?_ _ | refine blk_drew ?_ | refine ka_ ?_ _)); exact BK381.out⟩, ⟨bI⟩, ⟨bK⟩, ⟨bBI⟩⟩
                · rw [if_neg c31] at H
                  exact absurd H (by simp)
      · rw [if_neg c9] at H
        have c9b0 : decide (0 < x2_1) = false := decide_eq_false c9
        clear c9
        simp only [Option.some.injEq, Prod.mk.injEq] at H
        obtain ⟨rfl, rfl, rfl, rfl⟩ := H
        have hnb39 := NB381_380.out
        have hnc39 := NB380_381.out
        have hnb40 := NB381_0.out
        have hnc40 := NB0_381.out
        obtain ⟨hcz41_0, hcz41_1, hfz41_0, hfz41_1, _⟩ := two_cells BK381.out
        have hnb42 := NB380_0.out
        have hnc42 := NB0_380.out
        obtain ⟨hcz43_0, hcz43_1, hfz43_0, hfz43_1, _⟩ := two_cells BK380.out
        obtain ⟨Ao44, co44, eo44⟩ := Kd.S_slice HO_382001.out
        subst eo44
        go_wp2
        refine bodyPost_ret (results_cell_row rfl _ _ gb380 24 #[.int .i64 a1, .slice Ao44 x382001_1.length co44] (0, 0) _ rfl (by (with_reducible repeat (first | refine kn_ ?_ _ | refine blk_drew ?_ | refine ka_ ?_ _)); refine blk_put (cs := #[.int .i64 a1, .slice none 0 0]) ?_ 1 _ rfl; (with_reducible repeat (first | refine kn_ ?_ _ | refine blk_drew ?_ | refine ka_ ?_ _)); refine blk_put (cs := #[.int .i64 0, .slice none 0 0]) ?_ 0 _ rfl; (with_reducible repeat (first | refine kn_ ?_ _ | refine blk_drew ?_ | refine ka_ ?_ _)); exact BK380.out) Try.underlying24 rfl (by kernel_rfl)) rfl ?_
        exact ⟨_, rF_, by (with_reducible repeat (first | apply Kd.S_alloc | apply Kd.S_drewN | apply Kd.S_drew)); exact Kd.S_mono (Kd.S_far (p := ⟨gb380, 1, none⟩) (Kd.S_far (p := ⟨gb380, 0, none⟩) (Kd.S_types HO_382001.out BK380.out (by decide)) (fun _ hk => hk.2) (.int .i64 a1)) (fun _ hk => hk.2) (.slice Ao44 x382001_1.length co44)) (fun _ hk => trivial), bI, bBI, bK⟩
/-! The draws: that they come to an end, and how great what they give is. -/
theorem u64_rng (n : Int) : 0 ≤ IntKind.u64.wrap n ∧ IntKind.u64.wrap n < 18446744073709551616 := by
  have : IntKind.u64.wrap n = n % 18446744073709551616 := by simp [IntKind.wrap, IntKind.bits, IntKind.signed]
  rw [this]; omega
theorem and255 (n : Int) : 0 ≤ Go.bits .and .u64 (IntKind.u64.wrap n / 1099511627776) 255 ∧ Go.bits .and .u64 (IntKind.u64.wrap n / 1099511627776) 255 ≤ 255 := by
  obtain ⟨h0, h1⟩ := u64_rng n
  rw [u64_and _ _ (by omega) (by omega) (by omega) (by omega)]
  have := Nat.and_le_right (n := (IntKind.u64.wrap n / 1099511627776).toNat) (m := (255 : Int).toNat)
  have e : ((255 : Int).toNat : Nat) = 255 := rfl
  rw [e] at this ⊢
  omega
theorem wr_dec {p : Nat} (h : p ≤ 1000) : wrap64 (((p + 1 : Nat) : Int) - 1) = (p : Int) := by rw [w64 (by omega) (by omega)]; omega
theorem wr_inc {i : Nat} (h : i ≤ 1000) : wrap64 ((i : Int) + 1) = ((i + 1 : Nat) : Int) := w64 (by omega) (by omega)
def BytesV (s : List Int) : Prop := (∀ x ∈ s, 0 ≤ x ∧ x < 256) ∧ s.length ≤ 1000000000000
theorem dnext_ok {s : List Int} (hs : BytesV s) {a : Int} (h0 : 0 ≤ a) (h1 : a ≤ 1000000000) (b : Int) : ∃ r b', spec_l1Cur_next.f s a b = some (r, a + 1, b') ∧ 0 ≤ r ∧ r < 256 := by
  have hw : wrap64 (a + 1) = a + 1 := w64 (by omega) (by omega)
  have hl := hs.2
  unfold spec_l1Cur_next.f
  rw [hw]
  clear hw
  by_cases h : a < (s.length : Int)
  · obtain ⟨i, rfl⟩ : ∃ i : Nat, a = (i : Int) := ⟨a.toNat, by omega⟩
    have hi : i < s.length := by omega
    have hx := hs.1 s[i] (List.getElem_mem hi)
    rw [if_pos h, if_pos h0, if_pos (by omega), rd_int hi]
    refine ⟨_, _, rfl, ?_⟩
    rw [w64 (by omega) (by omega)]
    exact hx
  · rw [if_neg h, if_neg (by omega)]
    refine ⟨_, _, rfl, ?_⟩
    have := and255 ((IntKind.u64.wrap (IntKind.u64.wrap (b * 6364136223846793005))) + 1442695040888963407)
    rw [w64 (by omega) (by omega)]
    omega
theorem dpick_ok {s : List Int} (hs : BytesV s) {a : Int} (h0 : 0 ≤ a) (h1 : a ≤ 1000000000) (b : Int) {n : Int} (hn : n ≤ 200) : ∃ r a' b', spec_l1Cur_pick.f s a b n = some (r, a', b') ∧ 0 ≤ r ∧ (r < n ∨ r = 0) ∧ a ≤ a' ∧ a' ≤ a + 1 := by
  unfold spec_l1Cur_pick.f
  by_cases h : n ≤ 1
  · rw [if_pos h]
    exact ⟨0, a, b, rfl, Int.le_refl _, Or.inr rfl, Int.le_refl _, by omega⟩
  · obtain ⟨r, b', e, r0, r1⟩ := dnext_ok hs h0 h1 b
    rw [if_neg h, e]
    show ∃ r_ a' b'_, (if n > 200 then _ else if n = 0 then none else some (Int.tmod r n, a + 1, b')) = some (r_, a', b'_) ∧ _
    rw [if_neg (by omega), if_neg (by omega)]
    refine ⟨_, _, _, rfl, ?_, Or.inl ?_, by omega, Int.le_refl _⟩
    · exact Int.tmod_nonneg _ r0
    · exact Int.tmod_lt_of_pos _ (by omega)
theorem done_ok {s : List Int} (hs : BytesV s) {a : Int} (h0 : 0 ≤ a) (h1 : a ≤ 1000000000) (b : Int) {n : Int} (hn : n ≤ 200) : ∃ r a' b', spec_l1Cur_one.f s a b n = some (r, a', b') ∧ a ≤ a' ∧ a' ≤ a + 1 := by
  obtain ⟨r, a', b', e, _, _, h2, h3⟩ := dpick_ok hs h0 h1 b hn
  unfold spec_l1Cur_one.f
  rw [e]
  exact ⟨_, _, _, rfl, h2, h3⟩
theorem damong_ok {s : List Int} (hs : BytesV s) {a : Int} (h0 : 0 ≤ a) (h1 : a ≤ 1000000000) (b : Int) {l : List Int} (hl : 0 < l.length) (hl2 : l.length ≤ 200) : ∃ r a' b', spec_l1Cur_among.f s a b l = some (r, a', b') ∧ r ∈ l ∧ a ≤ a' ∧ a' ≤ a + 1 := by
  obtain ⟨r, a', b', e, r0, r1, h2, h3⟩ := dpick_ok hs h0 h1 b (n := (l.length : Int)) (by omega)
  unfold spec_l1Cur_among.f
  rw [e]
  obtain ⟨i, rfl⟩ : ∃ i : Nat, r = (i : Int) := ⟨r.toNat, by omega⟩
  have hi : i < l.length := by omega
  show ∃ r_ a'_ b'_, (if 0 ≤ (i : Int) then if (i : Int) < (l.length : Int) then some (rd l i, a', b') else none else none) = some (r_, a'_, b'_) ∧ _
  rw [if_pos r0, if_pos (by omega), rd_int hi]
  exact ⟨_, _, _, rfl, List.getElem_mem hi, h2, h3⟩
theorem dof_ok {s : List Int} (hs : BytesV s) {a : Int} (h0 : 0 ≤ a) (h1 : a ≤ 1000000000) (b : Int) {l : List ByteArray} (hl : 0 < l.length) (hl2 : l.length ≤ 200) : ∃ r a' b', spec_l1Cur_of.f s a b l = some (r, a', b') ∧ r ∈ l ∧ a ≤ a' ∧ a' ≤ a + 1 := by
  obtain ⟨r, a', b', e, r0, r1, h2, h3⟩ := dpick_ok hs h0 h1 b (n := (l.length : Int)) (by omega)
  unfold spec_l1Cur_of.f
  rw [e]
  obtain ⟨i, rfl⟩ : ∃ i : Nat, r = (i : Int) := ⟨r.toNat, by omega⟩
  have hi : i < l.length := by omega
  show ∃ r_ a'_ b'_, (if 0 ≤ (i : Int) then if (i : Int) < (l.length : Int) then some (rdOf ByteArray.empty l i, a', b') else none else none) = some (r_, a'_, b'_) ∧ _
  rw [if_pos r0, if_pos (by omega), rd_str hi]
  exact ⟨_, _, _, rfl, List.getElem_mem hi, h2, h3⟩
/-- From some number of rounds on, with these bounds. -/
theorem dfew3_ok {s : List Int} (hs : BytesV s) {a : Int} (h0 : 0 ≤ a) (h1 : a ≤ 100000000) (b : Int) : ∃ r a' b', Ev (fun k => spec_l1Cur_few3.f k s a b) (r, a', b') ∧ r.length ≤ 4 ∧ a ≤ a' ∧ a' ≤ a + 5 := by
  obtain ⟨n, a1, b1, e, n0, n1, h2, h3⟩ := dpick_ok hs h0 (by omega) b (n := 4) (by omega)
  have key : ∀ (m : Nat) (x : List Int) (a : Int) (b : Int), 0 ≤ a → a + m ≤ 100000100 → x.length + m ≤ 4 → ∃ r a' b', Ev (fun k => spec_l1Cur_few3.l0 k x (m : Int) s a b) (r, a', b') ∧ r.length ≤ 4 ∧ a ≤ a' ∧ a' ≤ a + m := by
    intro m
    induction m with
    | zero =>
      intro x a b _ _ hx
      exact ⟨x, a, b, Ev.step (fun k => rfl) (Ev.no (by omega) (Ev.now _)), by omega, Int.le_refl _, by omega⟩
    | succ m ih =>
      intro x a b h0 h1 hx
      obtain ⟨r, a1, b1, e, _, _, h2, h3⟩ := dpick_ok hs h0 (by omega) b (n := 7) (by omega)
      obtain ⟨r2, a2, b2, e2, h4, h5, h6⟩ := ih (x ++ [wrap64 (r - 1)]) a1 b1 (by omega) (by omega) (by rw [List.length_append, List.length_singleton]; omega)
      refine ⟨r2, a2, b2, Ev.step (fun k => rfl) (Ev.yes (by omega) (Ev.bindc e (Ev.yes (by omega) ?_))), h4, by omega, by omega⟩
      rw [wr_dec (by omega)]
      exact e2
  obtain ⟨r2, a2, b2, e2, h4, h5, h6⟩ := key n.toNat [] a1 b1 (by omega) (by omega) (by show 0 + _ ≤ 4; omega)
  rw [show ((n.toNat : Nat) : Int) = n by omega] at e2
  unfold spec_l1Cur_few3.f
  exact ⟨r2, a2, b2, Ev.bindc e e2, h4, by omega, by omega⟩
def SmallR (L : List (List Int)) : Prop := L.length ≤ 10 ∧ ∀ r ∈ L, r.length ≤ 10
theorem SmallR.v {L : List (List Int)} (h : SmallR L) : RowsV L := ⟨by have := h.1; omega, fun r hr => by have := h.2 r hr; omega⟩
theorem dsurePins_ok {s : List Int} (hs : BytesV s) {a : Int} (h0 : 0 ≤ a) (h1 : a ≤ 10000000) (b : Int) {n m : Nat} (hn : n ≤ 9) (hm : m ≤ 8) : ∃ r a' b', Ev (fun k => spec_l1Cur_surePins.f k s a b (n : Int) (m : Int)) ((n : Int), r, a', b') ∧ SmallR r ∧ r.length = m ∧ a ≤ a' ∧ a' ≤ a + 100 := by
  have key : ∀ (p : Nat) (L : List (List Int)) (a : Int) (b : Int), 0 ≤ a → a + 10 * p ≤ 20000000 → (∀ r ∈ L, r.length ≤ 10) → L.length + p = m → ∃ r a' b', Ev (fun k => spec_l1Cur_surePins.l0 k (n : Int) (p : Int) s a b (n : Int) L) ((n : Int), r, a', b') ∧ SmallR r ∧ r.length = m ∧ a ≤ a' ∧ a' ≤ a + 10 * p := by
    intro p
    induction p with
    | zero =>
      intro L a b _ _ hL hl
      refine ⟨L, a, b, Ev.step (fun k => rfl) ?_, ⟨by omega, hL⟩, by omega, Int.le_refl _, by omega⟩
      simp only [spec_l1Cur_surePins.l0]
      exact Ev.no (by omega) (Ev.now _)
    | succ p ih =>
      intro L a b h0 h1 hL hl
      have hwp := amk (wr_dec (p := p) (by omega))
      have row : ∀ (q i : Nat) (x : List Int) (a : Int) (b : Int), i + q = n → 0 ≤ a → a + q + 1 + 10 * p ≤ 20000000 → x.length ≤ i → ∃ r a' b', Ev (fun k => spec_l1Cur_surePins.l1 k (n : Int) ((p + 1 : Nat) : Int) x (i : Int) s a b (n : Int) L) ((n : Int), r, a', b') ∧ SmallR r ∧ r.length = m ∧ a ≤ a' ∧ a' ≤ a + q + 1 + 10 * p := by
        intro q
        induction q with
        | zero =>
          intro i x a b hi h0 h1 hx
          by_cases hz : (x.length : Int) = 0
          · obtain ⟨r, a1, b1, e, _, _, h2, h3⟩ := dpick_ok hs h0 (by omega) b (n := (n : Int)) (by omega)
            obtain ⟨r2, a2, b2, e2, h4, h5, h6, h7⟩ := ih (L ++ [[r]]) a1 b1 (by omega) (by omega) (fun y hy => by
              rcases List.mem_append.mp hy with hy | hy
              · exact hL y hy
              · rw [List.mem_singleton.mp hy]; show 1 ≤ 10; omega) (by rw [List.length_append, List.length_singleton]; omega)
            refine ⟨r2, a2, b2, Ev.step (fun k => rfl) ?_, h4, h5, by omega, by omega⟩
            simp only [spec_l1Cur_surePins.l1]
            refine Ev.no (by omega) (Ev.yes hz (Ev.bindc e (Ev.yes (by omega) ?_)))
            rw [hwp.out]; exact e2
          · obtain ⟨r2, a2, b2, e2, h4, h5, h6, h7⟩ := ih (L ++ [x]) a b (by omega) (by omega) (fun y hy => by
              rcases List.mem_append.mp hy with hy | hy
              · exact hL y hy
              · rw [List.mem_singleton.mp hy]; omega) (by rw [List.length_append, List.length_singleton]; omega)
            refine ⟨r2, a2, b2, Ev.step (fun k => rfl) ?_, h4, h5, by omega, by omega⟩
            simp only [spec_l1Cur_surePins.l1]
            refine Ev.no (by omega) (Ev.no hz (Ev.yes (by omega) ?_))
            rw [hwp.out]; exact e2
        | succ q ihq =>
          intro i x a b hi h0 h1 hx
          have hwi := amk (wr_inc (i := i) (by omega))
          obtain ⟨r, a1, b1, e, h2, h3⟩ := done_ok hs h0 (by omega) b (n := 3) (by omega)
          cases r with
          | true =>
            obtain ⟨r2, a2, b2, e2, h4, h5, h6, h7⟩ := ihq (i + 1) (x ++ [(i : Int)]) a1 b1 (by omega) (by omega) (by omega) (by rw [List.length_append, List.length_singleton]; omega)
            refine ⟨r2, a2, b2, Ev.step (fun k => rfl) ?_, h4, h5, by omega, by omega⟩
            simp only [spec_l1Cur_surePins.l1]
            refine Ev.yes (by omega) (Ev.bindc e (Ev.yes rfl (Ev.yes (by omega) ?_)))
            rw [hwi.out]; exact e2
          | false =>
            obtain ⟨r2, a2, b2, e2, h4, h5, h6, h7⟩ := ihq (i + 1) x a1 b1 (by omega) (by omega) (by omega) (by omega)
            refine ⟨r2, a2, b2, Ev.step (fun k => rfl) ?_, h4, h5, by omega, by omega⟩
            simp only [spec_l1Cur_surePins.l1]
            refine Ev.yes (by omega) (Ev.bindc e (Ev.no (by simp) ?_))
            rw [hwi.out]; exact e2
      obtain ⟨r2, a2, b2, e2, h4, h5, h6, h7⟩ := row n 0 [] a b (by omega) h0 (by omega) (Nat.le_refl _)
      refine ⟨r2, a2, b2, Ev.step (fun k => rfl) ?_, h4, h5, h6, by omega⟩
      simp only [spec_l1Cur_surePins.l0]
      exact Ev.yes (by omega) e2
  unfold spec_l1Cur_surePins.f
  obtain ⟨r, a', b', e, h2, h3, h4, h5⟩ := key m [] a b h0 (by omega) (fun r hr => by cases hr) (by show 0 + m = m; omega)
  exact ⟨r, a', b', e, h2, h3, h4, by omega⟩
/-! Declarations moved out of EHelpPinsS. -/
theorem rd_pins {xs : List S24} {i : Nat} (h : i < xs.length) : rd_T24 xs (i : Nat) = xs[i] := by unfold rd_T24; simp [List.getD, h]
/-! ### spec_l1Cur_pins: function 58 -/
def spec_l1Cur_pins.f (k : Nat) (s0_0 : List Int) (s0_1 : Int) (s0_2 : Int) : Option (Int × (List (List Int)) × Int × Int) := (spec_l1Cur_pick.f s0_0 s0_1 s0_2 6).bind fun bt414 => ((spec_l1Cur_pick.f s0_0 bt414.2.1 bt414.2.2 5).bind fun bt417 => ((spec_l1Cur_surePins.f k s0_0 bt417.2.1 bt417.2.2 (wrap64 (1 + bt414.1)) (wrap64 (1 + bt417.1))).bind fun bt420 => ((spec_l1Cur_pick.f s0_0 bt420.2.2.1 bt420.2.2.2 16).bind fun bt427 => (if bt427.1 = 0 then ((spec_l1Cur_among.f s0_0 bt427.2.1 bt427.2.2 (([(-1), 0, 1, 9, 10, 4611686018427387904] : List Int))).bind fun bt433 => (some (bt433.1, bt420.2.1, bt433.2.1, bt433.2.2))) else (if bt427.1 = 1 then ((spec_l1Cur_few3.f k s0_0 bt427.2.1 bt427.2.2).bind fun bt436 => (if 0 < (bt420.2.1.length : Int) then (some (bt420.1, (bt420.2.1.set (0 : Int).toNat bt436.1), bt436.2.1, bt436.2.2)) else (none))) else (if bt427.1 = 2 then ((spec_l1Cur_pick.f s0_0 bt427.2.1 bt427.2.2 2).bind fun bt442 => ((spec_l1Cur_surePins.f k s0_0 bt442.2.1 bt442.2.2 9 (wrap64 (7 + bt442.1))).bind fun bt445 => (some (bt445.1, bt445.2.1, bt445.2.2.1, bt445.2.2.2)))) else (if bt427.1 = 3 then (some (bt420.1, ([] : List (List Int)), bt427.2.1, bt427.2.2)) else (some (bt420.1, bt420.2.1, bt427.2.1, bt427.2.2)))))))))
set_option maxHeartbeats 8000000 in
set_option maxRecDepth 100000 in
theorem spec_l1Cur_pins.calls (k : Nat) (g : Nat) (s0_0 : List Int) (s0_1 : Int) (s0_2 : Int) (r1 : Int) (r2 : List (List Int)) (r3 : Int) (r4 : Int) (w0 w : World) (hI : IsS73 w0 w g s0_0 s0_1 s0_2) (hB : Below w0.heap.size w0 w) (h : spec_l1Cur_pins.f k s0_0 s0_1 s0_2 = some (r1, r2, r3, r4)) :
    Calls Try.prog 58 #[.pointer (some ⟨g, 0, none⟩)] w fun e w' => ∃ v1_ : Value, e = .returned (.agg #[.int .i64 r1, v1_]) ∧ Kd.N (Kd.slice 3 (Kd.int .i64)) 52 w' w.heap.size (fun k_ => (w.heap.size ≤ k_)) v1_ r2 ∧ IsS73 w0 w' g s0_0 r3 r4 ∧ Below w0.heap.size w0 w' ∧ KeepBut w w' g none := by
  have hu24 := Try.underlying24
  have HI0 := amk hI
  have HK := amk (KeepBut.refl w g none)
  have HL := amk hB.size
  clear hI
  have HW0 := amk hB.size
  have HB := amk hB
  clear hB
  have H : ((spec_l1Cur_pick.f s0_0 s0_1 s0_2 6).bind fun bt414 => ((spec_l1Cur_pick.f s0_0 bt414.2.1 bt414.2.2 5).bind fun bt417 => ((spec_l1Cur_surePins.f k s0_0 bt417.2.1 bt417.2.2 (wrap64 (1 + bt414.1)) (wrap64 (1 + bt417.1))).bind fun bt420 => ((spec_l1Cur_pick.f s0_0 bt420.2.2.1 bt420.2.2.2 16).bind fun bt427 => (if bt427.1 = 0 then ((spec_l1Cur_among.f s0_0 bt427.2.1 bt427.2.2 (([(-1), 0, 1, 9, 10, 4611686018427387904] : List Int))).bind fun bt433 => (some (bt433.1, bt420.2.1, bt433.2.1, bt433.2.2))) else (if bt427.1 = 1 then ((spec_l1Cur_few3.f k s0_0 bt427.2.1 bt427.2.2).bind fun bt436 => (if 0 < (bt420.2.1.length : Int) then (some (bt420.1, (bt420.2.1.set (0 : Int).toNat bt436.1), bt436.2.1, bt436.2.2)) else (none))) else (if bt427.1 = 2 then ((spec_l1Cur_pick.f s0_0 bt427.2.1 bt427.2.2 2).bind fun bt442 => ((spec_l1Cur_surePins.f k s0_0 bt442.2.1 bt442.2.2 9 (wrap64 (7 + bt442.1))).bind fun bt445 => (some (bt445.1, bt445.2.1, bt445.2.2.1, bt445.2.2.2)))) else (if bt427.1 = 3 then (some (bt420.1, ([] : List (List Int)), bt427.2.1, bt427.2.2)) else (some (bt420.1, bt420.2.1, bt427.2.1, bt427.2.2)))))))))) = some (r1, r2, r3, r4) := h
  clear h
  replace H := bE H
  obtain ⟨⟨t414, t415, t416⟩, A2, H⟩ := H
  try dsimp only at H
  replace H := bE H
  obtain ⟨⟨t417, t418, t419⟩, A3, H⟩ := H
  try dsimp only at H
  replace H := bE H
  obtain ⟨⟨t420, t421, t424, t425⟩, A4, H⟩ := H
  try dsimp only at H
  replace H := bE H
  obtain ⟨⟨t427, t428, t429⟩, A5, H⟩ := H
  try dsimp only at H
  by_cases c6 : t427 = 0
  · rw [if_pos c6] at H
    have c6b0 : (t427 == 0) = true := beq_iff_eq.mpr c6
    have c6b1 : (t427 != 0) = false := bne_eq_false_iff_eq.mpr c6
    clear c6
    obtain ⟨y430, hy430⟩ : ∃ y_ : List Int, y_ = (([(-1), 0, 1, 9, 10, 4611686018427387904] : List Int)) := ⟨_, rfl⟩
    replace H : ((spec_l1Cur_among.f s0_0 t428 t429 y430).bind fun bt433 => (some (bt433.1, t421, bt433.2.1, bt433.2.2))) = some (r1, r2, r3, r4) := by first | (rw [hy430]; with_reducible exact H) | (have H2_ := (Option.bind_some _ _).symm.trans H; rw [hy430]; with_reducible exact H2_) | (have H2_ := (Option.bind_some _ _).symm.trans H; with_reducible exact H2_) | with_reducible exact H | (rw [hy430]; exact H) | exact H
    have Ny430 := amk hy430
    clear hy430
    replace H := bE H
    obtain ⟨⟨t433, t434, t435⟩, A7, H⟩ := H
    try dsimp only at H
    simp only [Option.some.injEq, Prod.mk.injEq] at H
    obtain ⟨rfl, rfl, rfl, rfl⟩ := H
    go_enter Try.func58, Try.ntmps58
    go_wp2_with (first | ((with_reducible refine gate_dst (N := 2) rfl ?_); refine boxG_ 2 #[.int .i64 0, .slice none 0 0] 24 ?_; intro gb413 w8 hg BK413 hb; replace HB := hBI HB hb; have GW413 := kS HK hg; have GE413 := kE HW0 GW413; replace HK := kT HK hb; have NB0_413 := iL s0_0 s0_1 s0_2 hg; have NB413_0 := iR s0_0 s0_1 s0_2 hg; replace HI0 := amk (IsS73.below bI hb); clear hb hg) | (refine gc_ 59 6 Try.func59 #[.pointer (some ⟨g, 0, none⟩), .int .i64 6] ?_; (with_reducible refine (spec_l1Cur_pick.calls g s0_0 s0_1 s0_2 6 t414 t415 t416 w0 _ ?_ ?_ A2.out).mono ?_); exact bI; exact bBI; rintro e w9 ⟨rfl, hi, hb, hk⟩; refine ⟨_, rfl, ?_⟩; replace BK413 := kQ BK413 hk NB413_0.out; replace HK := kT2 HK hk; replace HB := amk (hb); replace HI0 := amk (hi); (try clear hb); (try clear hk); (try clear hi)) | (refine gc_ 59 9 Try.func59 #[.pointer (some ⟨g, 0, none⟩), .int .i64 5] ?_; (with_reducible refine (spec_l1Cur_pick.calls g s0_0 t415 t416 5 t417 t418 t419 w0 _ ?_ ?_ A3.out).mono ?_); exact bI; exact bBI; rintro e w10 ⟨rfl, hi, hb, hk⟩; refine ⟨_, rfl, ?_⟩; replace BK413 := kQ BK413 hk NB413_0.out; replace HK := kT2 HK hk; replace HB := amk (hb); replace HI0 := amk (hi); (try clear hb); (try clear hk); (try clear hi)) | (refine gc_ 60 11 Try.func60 #[.pointer (some ⟨g, 0, none⟩), .int .i64 (wrap64 (1 + t414)), .int .i64 (wrap64 (1 + t417))] ?_; (with_reducible refine (spec_l1Cur_surePins.calls k g s0_0 t418 t419 (wrap64 (1 + t414)) (wrap64 (1 + t417)) t420 t421 t424 t425 w0 _ ?_ ?_ A4.out).mono ?_); exact bI; exact bBI; rintro e w11 ⟨v422, rfl, ho0, hi, hb, hk⟩; refine ⟨_, rfl, ?_⟩; have HO423 := amk (Kd.N_lower (Kd.N_mono (ok' := fun k_ => (w.heap.size ≤ k_) ∧ k_ ≠ gb413 ∧ k_ ≠ g) (Kd.S_N (Kd.S_bound ho0)) (fun k_ hk_ => ⟨(Nat.le_trans (keep_size (w := w) (g := g) (row := none) bK) hk_.2.1), (Kd.freshB (g := gb413) (o := .cells #[.int .i64 0, .slice none 0 0] 24 (0, 0)) (kB BK413) k_ hk_.2.1), (IsS73.fresh bI k_ hk_.2.1)⟩)) (keep_size (w := w) (g := g) (row := none) bK)); replace BK413 := kQ BK413 hk NB413_0.out; replace HK := kT2 HK hk; replace HB := amk (hb); replace HI0 := amk (hi); (try clear hb); (try clear hk); (try clear hi); (try clear ho0)) | ((with_reducible refine gate_dst (N := 3) rfl ?_); refine boxG_ 3 #[.int .i64 0, .slice none 0 0] 24 ?_; intro gb426 w12 hg BK426 hb; replace HO423 := amk (Kd.N_below (Kd.N_elderB (oX HO423) gb426 (Nat.le_of_eq hg.symm)) hb); replace HB := hBI HB hb; have GW426 := kS HK hg; have GE426 := kE HW0 GW426; replace HK := kT HK hb; have NB413_426 := neL BK413 hg; have NB426_413 := neR BK413 hg; replace BK413 := kb2 BK413 hb; have NB0_426 := iL s0_0 t424 t425 hg; have NB426_0 := iR s0_0 t424 t425 hg; replace HI0 := amk (IsS73.below bI hb); clear hb hg; have hnb13 := NB426_413.out; have hnc13 := NB413_426.out; have hnb14 := NB426_0.out; have hnc14 := NB0_426.out; obtain ⟨hcz15_0, hcz15_1, hfz15_0, hfz15_1, _⟩ := two_cells BK426.out; obtain ⟨Ao16, co16, eo16⟩ := Kd.N_slice HO423.out; subst eo16) | (refine gc_ 59 13 Try.func59 #[.pointer (some ⟨g, 0, none⟩), .int .i64 16] ?_; (with_reducible refine (spec_l1Cur_pick.calls g s0_0 t424 t425 16 t427 t428 t429 w0 _ ?_ ?_ A5.out).mono ?_); exact bI; exact bBI; rintro e w17 ⟨rfl, hi, hb, hk⟩; refine ⟨_, rfl, ?_⟩; replace BK413 := kQ BK413 hk NB413_0.out; replace HO423 := amk (Kd.N_mono (Kd.N_keep (Kd.N_mono (ok := fun k_ => ((((w.heap.size ≤ k_)) ∧ (k_ ≠ gb413 ∧ k_ ≠ g)) ∧ k_ ≠ gb426)) (by (with_reducible repeat (first | apply Kd.N_alloc | apply Kd.N_drewN | apply Kd.N_drew)); exact (Kd.N_mono (Kd.N_far (p := ⟨gb426, 1, none⟩) (Kd.N_far (p := ⟨gb426, 0, none⟩) (Kd.N_mono HO423.out (fun k_ hk => (⟨hk, hk.2⟩ : _ ∧ k_ ≠ gb426))) (fun _ hk => hk.2) (.int .i64 t420)) (fun _ hk => hk.2) (.slice Ao16 t421.length co16)) (fun _ h_ => h_.1))) (fun k_ hk_ => (⟨hk_, hk_.1.2.2⟩ : _ ∧ k_ ≠ g))) hk (fun _ h => h.2)) (fun _ h => h.1)); replace BK426 := amk (KeepBut.blk hk (g' := gb426) (o := .cells #[.int .i64 t420, .slice Ao16 t421.length co16] 24 (0, 0)) (by (with_reducible repeat (first | refine kn_ ?_ _ | refine blk_drew ?_ | refine ka_ ?_ _)); refine blk_put (cs := #[.int .i64 t420, .slice none 0 0]) ?_ 1 _ rfl; (with_reducible repeat (first | refine kn_ ?_ _ | refine blk_drew ?_ | refine ka_ ?_ _)); refine blk_put (cs := #[.int .i64 0, .slice none 0 0]) ?_ 0 _ rfl; (with_reducible repeat (first | refine kn_ ?_ _ | refine blk_drew ?_ | refine ka_ ?_ _)); exact BK426.out) NB426_0.out (by simp)); replace HK := kT2 HK hk; replace HB := amk (hb); replace HI0 := amk (hi); (try clear hb); (try clear hk); (try clear hi)) | ((with_reducible refine gate_dst (N := 17) rfl ?_); refine Kd.R_lit (Kd.int .i64) _ 3 ?hg (N := 17) ?hd (xs := ([(-1), 0, 1, 9, 10, 4611686018427387904] : List Int)) (inner := [.int .i64 (-1), .int .i64 0, .int .i64 1, .int .i64 9, .int .i64 10, .int .i64 4611686018427387904]) (ok := fun _ => True) (okp := fun _ => True) ?hr ?hp (fun _ hk => hk) trivial (Below.refl _ _) (Nat.le_refl _) (by simp) ?_; (case hd => rfl); (case hg => rfl); (case hr => first | (go_simp; done) | (go_simp; rfl)); (case hp => exact (Reps.one (show Kd.M (Kd.int .i64) _ _ _ (-1) [.int .i64 (-1)] from rfl) (Reps.one (show Kd.M (Kd.int .i64) _ _ _ 0 [.int .i64 0] from rfl) (Reps.one (show Kd.M (Kd.int .i64) _ _ _ 1 [.int .i64 1] from rfl) (Reps.one (show Kd.M (Kd.int .i64) _ _ _ 9 [.int .i64 9] from rfl) (Reps.one (show Kd.M (Kd.int .i64) _ _ _ 10 [.int .i64 10] from rfl) (Reps.one (show Kd.M (Kd.int .i64) _ _ _ 4611686018427387904 [.int .i64 4611686018427387904] from rfl) (Reps.none _ _)))))))); intro v431 w18 ho19 hb hg_ hnew_; clear hg_ hnew_; (first | rw [← Ny430.out] at ho19 | (simp only [Int.reduceToNat] at ho19; rw [← Ny430.out] at ho19)); replace HO423 := amk (Kd.N_elder' (oX HO423) (Kd.R_base ho19) hb); have HO432 := amk (Kd.R_lower (Kd.R_newM (M := fun k_ => (w.heap.size ≤ k_)) ho19 (keep_size (w := w) (g := g) (row := none) bK) (fun k_ h_ => h_)) (keep_size (w := w) (g := g) (row := none) bK)); replace BK413 := kb2 BK413 hb; replace BK426 := kb2 BK426 hb; replace HK := kT HK hb; replace HB := hBI HB hb; replace HI0 := amk (IsS73.below bI hb); clear hb ho19; obtain ⟨Ao20, co20, eo20⟩ := Kd.R_slice HO432.out; subst eo20) | (refine gc_ 74 18 Try.func74 #[.pointer (some ⟨g, 0, none⟩), .slice Ao20 y430.length co20] ?_; (with_reducible refine (spec_l1Cur_among.calls g s0_0 t428 t429 _ _ y430 t433 t434 t435 w0 _ ?_ ?_ ?_ ?_ ?_ A7.out).mono ?_); exact bI; exact bBI; exact cB ((Kd.R_reads' HO432.out).2.2); exact (Kd.R_reads' HO432.out).2.1; exact far_slice (IsS73.own_ne HI0.out HO432.out (by decide)); rintro e w21 ⟨rfl, hi, hb, hk⟩; refine ⟨_, rfl, ?_⟩; replace BK413 := kQ BK413 hk NB413_0.out; replace HO423 := amk (Kd.N_mono (Kd.N_keep (Kd.N_mono (ok := fun k_ => (((((w.heap.size ≤ k_)) ∧ (k_ ≠ gb413 ∧ k_ ≠ g)) ∧ k_ ≠ gb426) ∧ some k_ ≠ (.slice Ao20 y430.length co20 : Value).ownBlock)) (oX HO423) (fun k_ hk_ => (⟨hk_, hk_.1.1.2.2⟩ : _ ∧ k_ ≠ g))) hk (fun _ h => h.2)) (fun _ h => h.1)); replace BK426 := kQ BK426 hk NB426_0.out; replace HO432 := amk (Kd.R_mono (Kd.R_keep (IsS73.apart (show IsS73 w0 _ g s0_0 t428 t429 from bI) (oX HO432) (by decide)) hk (fun _ h => h.2)) (fun _ h => h.1)); replace HK := kT2 HK hk; replace HB := amk (hb); replace HI0 := amk (hi); (try clear hb); (try clear hk); (try clear hi); obtain ⟨hcz22_0, hcz22_1, hfz22_0, hfz22_1, _⟩ := two_cells BK426.out; have hnb23 := NB413_0.out; have hnc23 := NB0_413.out; obtain ⟨hcz24_0, hcz24_1, hfz24_0, hfz24_1, _⟩ := two_cells BK413.out))
    refine bodyPost_ret (results_cell_row rfl _ _ gb413 24 #[.int .i64 t433, .slice Ao16 t421.length co16] (0, 0) _ rfl (by (with_reducible repeat (first | refine kn_ ?_ _ | refine blk_drew ?_ | refine ka_ ?_ _)); refine blk_put (cs := #[.int .i64 t433, .slice none 0 0]) ?_ 1 _ rfl; (with_reducible repeat (first | refine kn_ ?_ _ | refine blk_drew ?_ | refine ka_ ?_ _)); refine blk_put (cs := #[.int .i64 0, .slice none 0 0]) ?_ 0 _ rfl; (with_reducible repeat (first | refine kn_ ?_ _ | refine blk_drew ?_ | refine ka_ ?_ _)); refine blk_far ?_ NB413_426.out _; (with_reducible repeat (first | refine kn_ ?_ _ | refine blk_drew ?_ | refine ka_ ?_ _)); exact BK413.out) Try.underlying24 rfl (by kernel_rfl)) rfl ?_
    exact ⟨_, rF_, by (with_reducible repeat (first | apply Kd.N_alloc | apply Kd.N_drewN | apply Kd.N_drew)); exact Kd.N_mono (Kd.N_far (p := ⟨gb413, 1, none⟩) (Kd.N_far (p := ⟨gb413, 0, none⟩) (Kd.N_far (p := ⟨gb426, 0, none⟩) (Kd.N_mono (Kd.N_mono HO423.out (fun k_ hk => (⟨hk, hk.1.2⟩ : _ ∧ k_ ≠ gb426))) (fun k_ hk => (⟨hk, hk.1.1.1.2.1⟩ : _ ∧ k_ ≠ gb413))) (fun _ hk => hk.1.2) (.int .i64 t433)) (fun _ hk => hk.2) (.int .i64 t433)) (fun _ hk => hk.2) (.slice Ao16 t421.length co16)) (fun _ hk => hk.1.1.1.1.1), bI, bBI, bK⟩
  · rw [if_neg c6] at H
    have c6b0 : (t427 == 0) = false := beq_eq_false_iff_ne.mpr c6
    have c6b1 : (t427 != 0) = true := bne_iff_ne.mpr c6
    by_cases c25 : t427 = 1
    · rw [if_pos c25] at H
      have c25b0 : (t427 == 1) = true := beq_iff_eq.mpr c25
      have c25b1 : (t427 != 1) = false := bne_eq_false_iff_eq.mpr c25
      clear c25
      replace H := bE H
      obtain ⟨⟨t436, t439, t440⟩, A26, H⟩ := H
      try dsimp only at H
      by_cases c27 : 0 < (t421.length : Int)
      · rw [if_pos c27] at H
        have c27b0 : decide (0 < (t421.length : Int)) = true := decide_eq_true c27
        have c27b1 : decide (0 < t421.length) = true := decide_eq_true (by omega)
        clear c27
        obtain ⟨y441, hy441⟩ : ∃ y_ : List (List Int), y_ = (t421.set (0 : Int).toNat t436) := ⟨_, rfl⟩
        replace H : (some (t420, y441, t439, t440)) = some (r1, r2, r3, r4) := by first | (rw [hy441]; with_reducible exact H) | (have H2_ := (Option.bind_some _ _).symm.trans H; rw [hy441]; with_reducible exact H2_) | (have H2_ := (Option.bind_some _ _).symm.trans H; with_reducible exact H2_) | with_reducible exact H | (rw [hy441]; exact H) | exact H
        have Ny441 := amk hy441
        clear hy441
        simp only [Option.some.injEq, Prod.mk.injEq] at H
        obtain ⟨rfl, rfl, rfl, rfl⟩ := H
        go_enter Try.func58, Try.ntmps58
        try go_wp2_with (first | ((with_reducible refine gate_dst (N := 2) rfl ?_); refine boxG_ 2 #[.int .i64 0, .slice none 0 0] 24 ?_; intro gb413 w29 hg BK413 hb; replace HB := hBI HB hb; have GW413 := kS HK hg; have GE413 := kE HW0 GW413; replace HK := kT HK hb; have NB0_413 := iL s0_0 s0_1 s0_2 hg; have NB413_0 := iR s0_0 s0_1 s0_2 hg; replace HI0 := amk (IsS73.below bI hb); clear hb hg) | (refine gc_ 59 6 Try.func59 #[.pointer (some ⟨g, 0, none⟩), .int .i64 6] ?_; (with_reducible refine (spec_l1Cur_pick.calls g s0_0 s0_1 s0_2 6 t414 t415 t416 w0 _ ?_ ?_ A2.out).mono ?_); exact bI; exact bBI; rintro e w30 ⟨rfl, hi, hb, hk⟩; refine ⟨_, rfl, ?_⟩; replace BK413 := kQ BK413 hk NB413_0.out; replace HK := kT2 HK hk; replace HB := amk (hb); replace HI0 := amk (hi); (try clear hb); (try clear hk); (try clear hi)) | (refine gc_ 59 9 Try.func59 #[.pointer (some ⟨g, 0, none⟩), .int .i64 5] ?_; (with_reducible refine (spec_l1Cur_pick.calls g s0_0 t415 t416 5 t417 t418 t419 w0 _ ?_ ?_ A3.out).mono ?_); exact bI; exact bBI; rintro e w31 ⟨rfl, hi, hb, hk⟩; refine ⟨_, rfl, ?_⟩; replace BK413 := kQ BK413 hk NB413_0.out; replace HK := kT2 HK hk; replace HB := amk (hb); replace HI0 := amk (hi); (try clear hb); (try clear hk); (try clear hi)) | (refine gc_ 60 11 Try.func60 #[.pointer (some ⟨g, 0, none⟩), .int .i64 (wrap64 (1 + t414)), .int .i64 (wrap64 (1 + t417))] ?_; (with_reducible refine (spec_l1Cur_surePins.calls k g s0_0 t418 t419 (wrap64 (1 + t414)) (wrap64 (1 + t417)) t420 t421 t424 t425 w0 _ ?_ ?_ A4.out).mono ?_); exact bI; exact bBI; rintro e w32 ⟨v422, rfl, ho0, hi, hb, hk⟩; refine ⟨_, rfl, ?_⟩; have HO423 := amk (Kd.N_lower (Kd.N_mono (ok' := fun k_ => (w.heap.size ≤ k_) ∧ k_ ≠ gb413 ∧ k_ ≠ g) (Kd.S_N (Kd.S_bound ho0)) (fun k_ hk_ => ⟨(Nat.le_trans (keep_size (w := w) (g := g) (row := none) bK) hk_.2.1), (Kd.freshB (g := gb413) (o := .cells #[.int .i64 0, .slice none 0 0] 24 (0, 0)) (kB BK413) k_ hk_.2.1), (IsS73.fresh bI k_ hk_.2.1)⟩)) (keep_size (w := w) (g := g) (row := none) bK)); replace BK413 := kQ BK413 hk NB413_0.out; replace HK := kT2 HK hk; replace HB := amk (hb); replace HI0 := amk (hi); (try clear hb); (try clear hk); (try clear hi); (try clear ho0)) | ((with_reducible refine gate_dst (N := 3) rfl ?_); refine boxG_ 3 #[.int .i64 0, .slice none 0 0] 24 ?_; intro gb426 w33 hg BK426 hb; replace HO423 := amk (Kd.N_below (Kd.N_elderB (oX HO423) gb426 (Nat.le_of_eq hg.symm)) hb); replace HB := hBI HB hb; have GW426 := kS HK hg; have GE426 := kE HW0 GW426; replace HK := kT HK hb; have NB413_426 := neL BK413 hg; have NB426_413 := neR BK413 hg; replace BK413 := kb2 BK413 hb; have NB0_426 := iL s0_0 t424 t425 hg; have NB426_0 := iR s0_0 t424 t425 hg; replace HI0 := amk (IsS73.below bI hb); clear hb hg; have hnb34 := NB426_413.out; have hnc34 := NB413_426.out; have hnb35 := NB426_0.out; have hnc35 := NB0_426.out; obtain ⟨hcz36_0, hcz36_1, hfz36_0, hfz36_1, _⟩ := two_cells BK426.out; obtain ⟨Ao37, co37, eo37⟩ := Kd.N_slice HO423.out; subst eo37) | (refine gc_ 59 13 Try.func59 #[.pointer (some ⟨g, 0, none⟩), .int .i64 16] ?_; (with_reducible refine (spec_l1Cur_pick.calls g s0_0 t424 t425 16 t427 t428 t429 w0 _ ?_ ?_ A5.out).mono ?_); exact bI; exact bBI; rintro e w38 ⟨rfl, hi, hb, hk⟩; refine ⟨_, rfl, ?_⟩; replace BK413 := kQ BK413 hk NB413_0.out; replace HO423 := amk (Kd.N_mono (Kd.N_keep (Kd.N_mono (ok := fun k_ => ((((w.heap.size ≤ k_)) ∧ (k_ ≠ gb413 ∧ k_ ≠ g)) ∧ k_ ≠ gb426)) (by (with_reducible repeat (first | apply Kd.N_alloc | apply Kd.N_drewN | apply Kd.N_drew)); exact (Kd.N_mono (Kd.N_far (p := ⟨gb426, 1, none⟩) (Kd.N_far (p := ⟨gb426, 0, none⟩) (Kd.N_mono HO423.out (fun k_ hk => (⟨hk, hk.2⟩ : _ ∧ k_ ≠ gb426))) (fun _ hk => hk.2) (.int .i64 t420)) (fun _ hk => hk.2) (.slice Ao37 t421.length co37)) (fun _ h_ => h_.1))) (fun k_ hk_ => (⟨hk_, hk_.1.2.2⟩ : _ ∧ k_ ≠ g))) hk (fun _ h => h.2)) (fun _ h => h.1)); replace BK426 := amk (KeepBut.blk hk (g' := gb426) (o := .cells #[.int .i64 t420, .slice Ao37 t421.length co37] 24 (0, 0)) (by (with_reducible repeat (first | refine kn_ ?_ _ | refine blk_drew ?_ | refine ka_ ?_ _)); refine blk_put (cs := #[.int .i64 t420, .slice none 0 0]) ?_ 1 _ rfl; (with_reducible repeat (first | refine kn_ ?_ _ | refine blk_drew ?_ | refine ka_ ?_ _)); refine blk_put (cs := #[.int .i64 0, .slice none 0 0]) ?_ 0 _ rfl; (with_reducible repeat (first | refine kn_ ?_ _ | refine blk_drew ?_ | refine ka_ ?_ _)); exact BK426.out) NB426_0.out (by simp)); replace HK := kT2 HK hk; replace HB := amk (hb); replace HI0 := amk (hi); (try clear hb); (try clear hk); (try clear hi)))
        have n0_ := amk (Kd.N_drew HO423.out)
        have n1_ := amk (blk_drew BK413.out)
        have n2_ := amk (blk_drew BK426.out)
        have n3_ := amk (IsS73.drew HI0.out)
        have n4_ := amk (keep_drew HK.out)
        have n5_ := amk (bd_ HB.out)
        clear HO423
        clear BK413
        clear BK426
        clear HI0
        clear HK
        clear HB
        have HO423 := n0_
        have BK413 := n1_
        have BK426 := n2_
        have HI0 := n3_
        have HK := n4_
        have HB := n5_
        clear n0_ n1_ n2_ n3_ n4_ n5_
        refine start_ (n := 6) (S := fun w' => w'.cell? ⟨gb426, 0, none⟩ = some (.int .i64 t420) ∧ w'.cell? ⟨gb426, 1, none⟩ = some (.slice Ao37 t421.length co37)) (ds := [5]) #[false, false, false, false, false, false] (by kernel_rfl) rfl rfl ⟨(blk_cell BK426.out 0).trans rfl, (blk_cell BK426.out 1).trans rfl⟩ (fun hHeld => ?_)
        generalize w38.drew = w39 at HO423 BK413 BK426 HI0 HK HB hHeld ⊢
        refine pure_ (i := 0) (N := some 22) (v := ?_) (a' := ?_) #[true, false, false, false, false, false] rfl rfl (by kernel_rfl) (fun _ _ _ h => h) (Or.inl ⟨by rfl, ?_⟩) ?_ ?_
        rotate_left
        · intro w'
          go_simp
          with_reducible rfl
        rotate_left
        · simp only [Act.put, List.setIfInBounds_toArray, List.set_cons_zero, List.set_cons_succ, i64_w, i32_w]
          rfl
        refine pure_ (i := 2) (N := some 24) (v := ?_) (a' := ?_) #[true, false, true, false, false, false] rfl rfl (by kernel_rfl) (fun _ _ _ h => h) (Or.inl ⟨by rfl, ?_⟩) ?_ ?_
        rotate_left
        · intro w'
          go_simp
          with_reducible rfl
        rotate_left
        · simp only [Act.put, List.setIfInBounds_toArray, List.set_cons_zero, List.set_cons_succ, i64_w, i32_w]
          rfl
        refine take_ (i := 1) (N := some 23) (v := ?_) (a' := ?_) #[true, true, true, false, false, false] rfl rfl (by kernel_rfl) (fun _ _ _ h => h) (Or.inl ⟨by rfl, ?_⟩) hHeld ?_ ?_
        rotate_left
        · rintro w' ⟨s0, s1⟩
          go_simp
          with_reducible rfl
        rotate_left
        · simp only [Act.put, List.setIfInBounds_toArray, List.set_cons_zero, List.set_cons_succ, i64_w, i32_w]
          rfl
        refine one_ (i := 3) (N := some 25) #[true, true, true, true, false, false] rfl rfl (by kernel_rfl) (by decide) (fun K hK => ?_)
        refine goes_ Try.func75 (by kernel_rfl) rfl #[.pointer (some ⟨g, 0, none⟩)] (by rfl) rfl rfl gL_ ?_
        with_reducible refine (spec_l1Cur_few3.calls k g s0_0 t428 t429 t436 t439 t440 w0 _ ?side1 ?side2 A26.out).mono ?_
        (case side1 => exact bI)
        (case side2 => exact bBI)
        rintro e w40 ⟨v437, rfl, ho0, hi, hb, hk⟩
        refine ⟨_, rfl, ?_⟩
        have n0_ := amk (KeepBut.blk hk (g' := gb413) (o := .cells #[.int .i64 0, .slice none 0 0] 24 (0, 0)) (kB BK413) NB413_0.out (by simp))
        have n1_ := amk (Kd.N_mono (Kd.N_told (Kd.N_oldK (Kd.N_mono (ok := fun k_ => ((((w.heap.size ≤ k_)) ∧ (k_ ≠ gb413 ∧ k_ ≠ g)) ∧ k_ ≠ gb426)) (oX HO423) (fun k_ hk_ => (⟨hk_, hk_.1.2.2⟩ : _ ∧ k_ ≠ g))) hk) (Kd.R_base ho0)) (fun _ h_ => h_.1))
        have n2_ := amk (KeepBut.blk hk (g' := gb426) (o := .cells #[.int .i64 t420, .slice Ao37 t421.length co37] 24 (0, 0)) (kB BK426) NB426_0.out (by simp))
        have n3_ := amk (Kd.R_lower (Kd.R_newM (M := fun k_ => (w.heap.size ≤ k_)) ho0 (keep_size (w := w) (g := g) (row := none) bK) (fun k_ h_ => h_)) (keep_size (w := w) (g := g) (row := none) bK))
        have n4_ := amk (KeepBut.trans bK hk (.inl rfl))
        have n5_ := amk (hb)
        have n6_ := amk (hi)
        clear BK413
        clear HO423
        clear BK426
        clear HK
        clear HB
        clear HI0
        have BK413 := n0_
        have HO423 := n1_
        have BK426 := n2_
        have HO438 := n3_
        have HK := n4_
        have HB := n5_
        have HI0 := n6_
        clear n0_ n1_ n2_ n3_ n4_ n5_ n6_
        (try clear hb)
        (try clear hb2)
        (try clear hk)
        (try clear hi)
        (try clear ho0)
        have p28 : 0 ≤ (0 : Int) := (by omega)
        have q28 : (0 : Int) < ((t421.length : Int) : Int) := dA_
        have qi28 : (0 < t421.length) = True := eq_true (by omega)
        obtain ⟨go28, co28, eo28, gb28, gl28, cl28, HG28⟩ := Kd.N_form HO423.out (by omega)
        (first | cases eo28 | (injection eo28 with ea_ en_ ec_; (first | subst ea_ | (injection ea_ with ea_; subst ea_)); subst ec_; clear en_))
        have GB28 := amk gb28
        have GG28 := amk HG28
        clear gb28 gl28 HG28
        obtain ⟨ce28, hcl28, hM28, hcc28, hfr28⟩ := Kd.N_elem HO423.out [] (0 : Int) p28 q28
        obtain ⟨ua28_0, uc28_0, rfl, ul28_0, ge28_0⟩ := Kd.FK_slice_open hM28
        have hx28_0 := hcc28 0 _ rfl
        have hf28_0 := hfr28 0
        (try simp only [show ((Kd.slice 3 (Kd.int .i64))).sz = 1 from rfl, Nat.mul_one, Nat.add_zero] at hx28_0)
        (try simp only [show ((Kd.slice 3 (Kd.int .i64))).sz = 1 from rfl, Nat.mul_one, Nat.add_zero] at hf28_0)
        (try clear hcl28); (try clear hcc28); (try clear hfr28); (try clear hM28)
        (try rw [show ((0 : Int)).toNat = 0 from rfl] at hx28_0)
        (try simp only [Nat.reduceMul, Nat.zero_mul, Nat.zero_add, Nat.reduceAdd] at hx28_0)
        (try rw [show ((0 : Int)).toNat = 0 from rfl] at hf28_0)
        (try simp only [Nat.reduceMul, Nat.zero_mul, Nat.zero_add, Nat.reduceAdd] at hf28_0)
        replace p28 := eq_true p28
        replace q28 := eq_true q28
        have HN0_go28 := amk (show g ≠ go28 from by have h_ := IsS73.own_neN HI0.out HO423.out (by decide); intro e_; exact h_ (by rw [e_]; rfl))
        obtain ⟨A4_, c4_, e4_⟩ := Kd.R_slice HO438.out
        subst e4_
        have HX41 := amk (show Kd.N (Kd.slice 3 (Kd.int .i64)) 52 _ w.heap.size (fun k_ => (w.heap.size ≤ k_) ∧ some k_ ≠ (.slice A4_ t436.length c4_ : Value).ownBlock ∧ k_ ≠ gb413 ∧ k_ ≠ gb426 ∧ k_ ≠ g) (.slice (some ⟨go28, 0, none⟩) t421.length co37) t421 from (Kd.N_mono (HO423.out) (fun k_ hk => ⟨hk.1.1.1, ⟨hk.2, ⟨hk.1.1.2.1, ⟨hk.1.2, hk.1.1.2.2⟩⟩⟩⟩)))
        replace HX41 := amk (show Kd.N (Kd.slice 3 (Kd.int .i64)) 52 _ w.heap.size (fun k_ => (w.heap.size ≤ k_) ∧ k_ ≠ gb413 ∧ k_ ≠ gb426 ∧ k_ ≠ g) (.slice (some ⟨go28, 0, none⟩) t421.length co37) t421 from Kd.N_mono HX41.out (fun k_ hk => ⟨hk.1, ⟨hk.2.2.1, ⟨hk.2.2.2.1, hk.2.2.2.2⟩⟩⟩))
        obtain ⟨ce41, hcl41, hM41, hcc41, hfr41⟩ := Kd.N_elem HX41.out [] (0 : Int) (by omega) (by have h_ : (0 : Int) < ((t421.length : Int) : Int) := dA_; first | exact h_ | (have e_ := (Kd.N_reads' HO423.out).1; omega) | simpa using h_)
        obtain ⟨ua41_0, uc41_0, rfl, ul41_0, ge41_0⟩ := Kd.FK_slice_open hM41
        have Z1_ := Kd.R_apart' (HO438.out) (Kd.N_typed HO423.out) (by decide)
        have Z2_ := Kd.R_types Z1_ BK413.out (by decide)
        have Z3_ := Kd.R_types Z2_ BK426.out (by decide)
        have Z4_ := IsS73.apart HI0.out Z3_ (by decide)
        have HP41 := (Kd.N_seg HX41.out (0 : Int) (by omega) (by have h_ : (0 : Int) < ((t421.length : Int) : Int) := dA_; first | exact h_ | (have e_ := (Kd.N_reads' HO423.out).1; omega) | simpa using h_) (seg := [(.slice A4_ t436.length c4_)]) (j := 0) hcl41 hcc41 (show 1 ≤ 1 from by decide) (x' := t436) (Kd.FK_slice_mk (Kd.R_reads' (Kd.R_mono (ok' := (fun k_ => ((fun k_ => (w.heap.size ≤ k_) ∧ k_ ≠ gb413 ∧ k_ ≠ gb426 ∧ k_ ≠ g)) k_ ∧ k_ ≠ go28)) Z4_ (fun k_ hk => ⟨⟨hk.1.1.1.1.1, ⟨hk.1.1.2, ⟨hk.1.2, hk.2⟩⟩⟩, fun e_ => (hk.1.1.1.2) (by rw [e_]; rfl)⟩))).2.1 (Kd.R_F (Kd.R_mono (ok' := (fun k_ => ((fun k_ => (w.heap.size ≤ k_) ∧ k_ ≠ gb413 ∧ k_ ≠ gb426 ∧ k_ ≠ g)) k_ ∧ k_ ≠ go28)) Z4_ (fun k_ hk => ⟨⟨hk.1.1.1.1.1, ⟨hk.1.1.2, ⟨hk.1.2, hk.2⟩⟩⟩, fun e_ => (hk.1.1.1.2) (by rw [e_]; rfl)⟩)))) (fun _ hk => hk)).1
        (try simp only [show ((Kd.slice 3 (Kd.int .i64))).sz = 1 from rfl, Nat.mul_one, Nat.add_zero] at HP41)
        rw [← Ny441.out] at HP41
        have HQ41 := amk HP41
        (try clear hcl41); (try clear hcc41); (try clear hfr41); (try clear hM41); (try clear HP41)
        refine hK.out _ _ ⟨(blk_cell BK426.out 0).trans rfl, (blk_cell BK426.out 1).trans rfl⟩ (fun hHeld => ?_)
        clear hK K
        refine norm_ (a' := ?_) ?_ ?_
        rotate_left
        · show Act.put _ (some 25) _ = _
          simp only [Act.put, List.setIfInBounds_toArray, List.set_cons_zero, List.set_cons_succ, i64_w, i32_w]
          rfl
        refine pure_ (i := 4) (N := some 26) (v := ?_) (a' := ?_) #[true, true, true, true, true, false] rfl rfl (by kernel_rfl) (fun _ _ _ h => h) (Or.inl ⟨by rfl, ?_⟩) ?_ ?_
        rotate_left
        · intro w'
          go_simp
          with_reducible rfl
        rotate_left
        · simp only [Act.put, List.setIfInBounds_toArray, List.set_cons_zero, List.set_cons_succ, i64_w, i32_w]
          rfl
        refine last_ (i := 5) (N := none) #[true, true, true, true, true, true] rfl rfl (by kernel_rfl) (by decide) (fun K hK => ?_)
        refine skip_ (w1 := ?_) (by rfl) rfl ?_ ?_
        rotate_left
        · go_simp
          rfl
        refine hK.out _ _ ?_
        clear hK K
        refine done_ (by kernel_rfl) ?_
        have n0_ : Aside0 (Kd.N (Kd.slice 3 (Kd.int .i64)) 52 (w40.setCell ⟨go28, 0, none⟩ ((.slice A4_ t436.length c4_))) w.heap.size (fun k_ => (w.heap.size ≤ k_) ∧ k_ ≠ gb413 ∧ k_ ≠ g ∧ k_ ≠ gb426) (.slice (some ⟨go28, 0, none⟩) t421.length co37) y441) := ⟨by (with_reducible repeat (first | apply Kd.N_alloc | apply Kd.N_drewN | apply Kd.N_drew)); exact Kd.N_mono HQ41.out (fun _ hk => ⟨hk.1, ⟨hk.2.1, ⟨hk.2.2.2, hk.2.2.1⟩⟩⟩)⟩
        have n1_ : Aside0 ((w40.setCell ⟨go28, 0, none⟩ ((.slice A4_ t436.length c4_))).heap[gb413]? = some (.cells #[.int .i64 0, .slice none 0 0] 24 (0, 0))) := ⟨by (with_reducible repeat (first | refine kn_ ?_ _ | refine blk_drew ?_ | refine ka_ ?_ _)); refine blk_far ?_ (by have h_ := Kd.N_away HO423.out (fun _ hk => hk.1.1.2.1); intro e_; exact h_ (by rw [e_]; rfl)) _; (with_reducible repeat (first | refine kn_ ?_ _ | refine blk_drew ?_ | refine ka_ ?_ _)); exact BK413.out⟩
        have n2_ : Aside0 ((w40.setCell ⟨go28, 0, none⟩ ((.slice A4_ t436.length c4_))).heap[gb426]? = some (.cells #[.int .i64 t420, .slice (some ⟨go28, 0, none⟩) t421.length co37] 24 (0, 0))) := ⟨by (with_reducible repeat (first | refine kn_ ?_ _ | refine blk_drew ?_ | refine ka_ ?_ _)); refine blk_far ?_ (by have h_ := Kd.N_away HO423.out (fun _ hk => hk.1.2); intro e_; exact h_ (by rw [e_]; rfl)) _; (with_reducible repeat (first | refine kn_ ?_ _ | refine blk_drew ?_ | refine ka_ ?_ _)); exact BK426.out⟩
        have n3_ : Aside0 (IsS73 w0 (w40.setCell ⟨go28, 0, none⟩ ((.slice A4_ t436.length c4_))) g s0_0 t439 t440) := ⟨by repeat (first | (with_reducible first | exact HI0.out | apply IsS73.alloc | apply IsS73.drewN | apply IsS73.drew | apply IsS73.set_1 | apply IsS73.set_2 | refine IsS73.far ?_ HN0_go28.out _ | refine IsS73.far ?_ NB0_413.out _ | refine IsS73.far ?_ NB0_426.out _) | exact HI0.out)⟩
        have n4_ : Aside0 (KeepBut w (w40.setCell ⟨go28, 0, none⟩ ((.slice A4_ t436.length c4_))) g none) := ⟨by repeat (first | (with_reducible first | exact HK.out | apply KeepBut.set_ | apply keep_drewN | apply keep_drew | apply keep_alloc | refine keep_far ?_ GB28.out _ | refine keep_far ?_ GW413.out _ | refine keep_far ?_ GW426.out _) | exact HK.out)⟩
        have n5_ : Aside0 (Below w0.heap.size w0 (w40.setCell ⟨go28, 0, none⟩ ((.slice A4_ t436.length c4_)))) := ⟨by repeat (first | (with_reducible first | exact HB.out | apply ba_ | apply bn_ | apply bd_ | refine bs_ ?_ (Nat.le_trans HL.out GB28.out) | refine bs_ ?_ (IsS73.ge HI0.out) | refine bs_ ?_ GE413.out | refine bs_ ?_ GE426.out) | exact HB.out)⟩
        (try clear HO423)
        (try clear BK413)
        (try clear BK426)
        (try clear HI0)
        (try clear HK)
        (try clear HB)
        generalize (w40.setCell ⟨go28, 0, none⟩ ((.slice A4_ t436.length c4_))) = w42 at n0_ n1_ n2_ n3_ n4_ n5_ ⊢
        have HO423 := n0_
        have BK413 := n1_
        have BK426 := n2_
        have HI0 := n3_
        have HK := n4_
        have HB := n5_
        clear n0_ n1_ n2_ n3_ n4_ n5_
        obtain ⟨hcz43_0, hcz43_1, hfz43_0, hfz43_1, _⟩ := two_cells BK426.out
        have hnb44 := NB413_0.out
        have hnc44 := NB0_413.out
        obtain ⟨hcz45_0, hcz45_1, hfz45_0, hfz45_1, _⟩ := two_cells BK413.out
        try go_wp2
        refine bodyPost_ret (results_cell_row rfl _ _ gb413 24 #[.int .i64 t420, .slice (some ⟨go28, 0, none⟩) t421.length co37] (0, 0) _ rfl (by (with_reducible repeat (first | refine kn_ ?_ _ | refine blk_drew ?_ | refine ka_ ?_ _)); refine blk_put (cs := #[.int .i64 t420, .slice none 0 0]) ?_ 1 _ rfl; (with_reducible repeat (first | refine kn_ ?_ _ | refine blk_drew ?_ | refine ka_ ?_ _)); refine blk_put (cs := #[.int .i64 0, .slice none 0 0]) ?_ 0 _ rfl; (with_reducible repeat (first | refine kn_ ?_ _ | refine blk_drew ?_ | refine ka_ ?_ _)); exact BK413.out) Try.underlying24 rfl (by kernel_rfl)) rfl ?_
        exact ⟨_, rF_, by (with_reducible repeat (first | apply Kd.N_alloc | apply Kd.N_drewN | apply Kd.N_drew)); exact Kd.N_mono (Kd.N_far (p := ⟨gb413, 1, none⟩) (Kd.N_far (p := ⟨gb413, 0, none⟩) (Kd.N_mono HO423.out (fun k_ hk => (⟨hk, hk.2.1⟩ : _ ∧ k_ ≠ gb413))) (fun _ hk => hk.2) (.int .i64 t420)) (fun _ hk => hk.2) (.slice (some ⟨go28, 0, none⟩) t421.length co37)) (fun _ hk => hk.1.1), bI, bBI, bK⟩
      · rw [if_neg c27] at H
        exact absurd H (by simp)
    · rw [if_neg c25] at H
      have c25b0 : (t427 == 1) = false := beq_eq_false_iff_ne.mpr c25
      have c25b1 : (t427 != 1) = true := bne_iff_ne.mpr c25
      by_cases c46 : t427 = 2
      · rw [if_pos c46] at H
        have c46b0 : (t427 == 2) = true := beq_iff_eq.mpr c46
        have c46b1 : (t427 != 2) = false := bne_eq_false_iff_eq.mpr c46
        clear c46
        replace H := bE H
        obtain ⟨⟨t442, t443, t444⟩, A47, H⟩ := H
        try dsimp only at H
        replace H := bE H
        obtain ⟨⟨t445, t446, t449, t450⟩, A48, H⟩ := H
        try dsimp only at H
        simp only [Option.some.injEq, Prod.mk.injEq] at H
        obtain ⟨rfl, rfl, rfl, rfl⟩ := H
        go_enter Try.func58, Try.ntmps58
        go_wp2_with (first | ((with_reducible refine gate_dst (N := 2) rfl ?_); refine boxG_ 2 #[.int .i64 0, .slice none 0 0] 24 ?_; intro gb413 w49 hg BK413 hb; replace HB := hBI HB hb; have GW413 := kS HK hg; have GE413 := kE HW0 GW413; replace HK := kT HK hb; have NB0_413 := iL s0_0 s0_1 s0_2 hg; have NB413_0 := iR s0_0 s0_1 s0_2 hg; replace HI0 := amk (IsS73.below bI hb); clear hb hg) | (refine gc_ 59 6 Try.func59 #[.pointer (some ⟨g, 0, none⟩), .int .i64 6] ?_; (with_reducible refine (spec_l1Cur_pick.calls g s0_0 s0_1 s0_2 6 t414 t415 t416 w0 _ ?_ ?_ A2.out).mono ?_); exact bI; exact bBI; rintro e w50 ⟨rfl, hi, hb, hk⟩; refine ⟨_, rfl, ?_⟩; replace BK413 := kQ BK413 hk NB413_0.out; replace HK := kT2 HK hk; replace HB := amk (hb); replace HI0 := amk (hi); (try clear hb); (try clear hk); (try clear hi)) | (refine gc_ 59 9 Try.func59 #[.pointer (some ⟨g, 0, none⟩), .int .i64 5] ?_; (with_reducible refine (spec_l1Cur_pick.calls g s0_0 t415 t416 5 t417 t418 t419 w0 _ ?_ ?_ A3.out).mono ?_); exact bI; exact bBI; rintro e w51 ⟨rfl, hi, hb, hk⟩; refine ⟨_, rfl, ?_⟩; replace BK413 := kQ BK413 hk NB413_0.out; replace HK := kT2 HK hk; replace HB := amk (hb); replace HI0 := amk (hi); (try clear hb); (try clear hk); (try clear hi)) | (refine gc_ 60 11 Try.func60 #[.pointer (some ⟨g, 0, none⟩), .int .i64 (wrap64 (1 + t414)), .int .i64 (wrap64 (1 + t417))] ?_; (with_reducible refine (spec_l1Cur_surePins.calls k g s0_0 t418 t419 (wrap64 (1 + t414)) (wrap64 (1 + t417)) t420 t421 t424 t425 w0 _ ?_ ?_ A4.out).mono ?_); exact bI; exact bBI; rintro e w52 ⟨v422, rfl, ho0, hi, hb, hk⟩; refine ⟨_, rfl, ?_⟩; have HO423 := amk (Kd.N_lower (Kd.N_mono (ok' := fun k_ => (w.heap.size ≤ k_) ∧ k_ ≠ gb413 ∧ k_ ≠ g) (Kd.S_N (Kd.S_bound ho0)) (fun k_ hk_ => ⟨(Nat.le_trans (keep_size (w := w) (g := g) (row := none) bK) hk_.2.1), (Kd.freshB (g := gb413) (o := .cells #[.int .i64 0, .slice none 0 0] 24 (0, 0)) (kB BK413) k_ hk_.2.1), (IsS73.fresh bI k_ hk_.2.1)⟩)) (keep_size (w := w) (g := g) (row := none) bK)); replace BK413 := kQ BK413 hk NB413_0.out; replace HK := kT2 HK hk; replace HB := amk (hb); replace HI0 := amk (hi); (try clear hb); (try clear hk); (try clear hi); (try clear ho0)) | ((with_reducible refine gate_dst (N := 3) rfl ?_); refine boxG_ 3 #[.int .i64 0, .slice none 0 0] 24 ?_; intro gb426 w53 hg BK426 hb; replace HO423 := amk (Kd.N_below (Kd.N_elderB (oX HO423) gb426 (Nat.le_of_eq hg.symm)) hb); replace HB := hBI HB hb; have GW426 := kS HK hg; have GE426 := kE HW0 GW426; replace HK := kT HK hb; have NB413_426 := neL BK413 hg; have NB426_413 := neR BK413 hg; replace BK413 := kb2 BK413 hb; have NB0_426 := iL s0_0 t424 t425 hg; have NB426_0 := iR s0_0 t424 t425 hg; replace HI0 := amk (IsS73.below bI hb); clear hb hg; have hnb54 := NB426_413.out; have hnc54 := NB413_426.out; have hnb55 := NB426_0.out; have hnc55 := NB0_426.out; obtain ⟨hcz56_0, hcz56_1, hfz56_0, hfz56_1, _⟩ := two_cells BK426.out; obtain ⟨Ao57, co57, eo57⟩ := Kd.N_slice HO423.out; subst eo57) | (refine gc_ 59 13 Try.func59 #[.pointer (some ⟨g, 0, none⟩), .int .i64 16] ?_; (with_reducible refine (spec_l1Cur_pick.calls g s0_0 t424 t425 16 t427 t428 t429 w0 _ ?_ ?_ A5.out).mono ?_); exact bI; exact bBI; rintro e w58 ⟨rfl, hi, hb, hk⟩; refine ⟨_, rfl, ?_⟩; replace BK413 := kQ BK413 hk NB413_0.out; replace HO423 := amk (Kd.N_mono (Kd.N_keep (Kd.N_mono (ok := fun k_ => ((((w.heap.size ≤ k_)) ∧ (k_ ≠ gb413 ∧ k_ ≠ g)) ∧ k_ ≠ gb426)) (by (with_reducible repeat (first | apply Kd.N_alloc | apply Kd.N_drewN | apply Kd.N_drew)); exact (Kd.N_mono (Kd.N_far (p := ⟨gb426, 1, none⟩) (Kd.N_far (p := ⟨gb426, 0, none⟩) (Kd.N_mono HO423.out (fun k_ hk => (⟨hk, hk.2⟩ : _ ∧ k_ ≠ gb426))) (fun _ hk => hk.2) (.int .i64 t420)) (fun _ hk => hk.2) (.slice Ao57 t421.length co57)) (fun _ h_ => h_.1))) (fun k_ hk_ => (⟨hk_, hk_.1.2.2⟩ : _ ∧ k_ ≠ g))) hk (fun _ h => h.2)) (fun _ h => h.1)); replace BK426 := amk (KeepBut.blk hk (g' := gb426) (o := .cells #[.int .i64 t420, .slice Ao57 t421.length co57] 24 (0, 0)) (by (with_reducible repeat (first | refine kn_ ?_ _ | refine blk_drew ?_ | refine ka_ ?_ _)); refine blk_put (cs := #[.int .i64 t420, .slice none 0 0]) ?_ 1 _ rfl; (with_reducible repeat (first | refine kn_ ?_ _ | refine blk_drew ?_ | refine ka_ ?_ _)); refine blk_put (cs := #[.int .i64 0, .slice none 0 0]) ?_ 0 _ rfl; (with_reducible repeat (first | refine kn_ ?_ _ | refine blk_drew ?_ | refine ka_ ?_ _)); exact BK426.out) NB426_0.out (by simp)); replace HK := kT2 HK hk; replace HB := amk (hb); replace HI0 := amk (hi); (try clear hb); (try clear hk); (try clear hi)) | (refine gc_ 59 31 Try.func59 #[.pointer (some ⟨g, 0, none⟩), .int .i64 2] ?_; (with_reducible refine (spec_l1Cur_pick.calls g s0_0 t428 t429 2 t442 t443 t444 w0 _ ?_ ?_ A47.out).mono ?_); exact bI; exact bBI; rintro e w59 ⟨rfl, hi, hb, hk⟩; refine ⟨_, rfl, ?_⟩; replace BK413 := kQ BK413 hk NB413_0.out; replace HO423 := amk (Kd.N_mono (Kd.N_keep (Kd.N_mono (ok := fun k_ => ((((w.heap.size ≤ k_)) ∧ (k_ ≠ gb413 ∧ k_ ≠ g)) ∧ k_ ≠ gb426)) (oX HO423) (fun k_ hk_ => (⟨hk_, hk_.1.2.2⟩ : _ ∧ k_ ≠ g))) hk (fun _ h => h.2)) (fun _ h => h.1)); replace BK426 := kQ BK426 hk NB426_0.out; replace HK := kT2 HK hk; replace HB := amk (hb); replace HI0 := amk (hi); (try clear hb); (try clear hk); (try clear hi)) | (refine gc_ 60 33 Try.func60 #[.pointer (some ⟨g, 0, none⟩), .int .i64 9, .int .i64 (wrap64 (7 + t442))] ?_; (with_reducible refine (spec_l1Cur_surePins.calls k g s0_0 t443 t444 9 (wrap64 (7 + t442)) t445 t446 t449 t450 w0 _ ?_ ?_ A48.out).mono ?_); exact bI; exact bBI; rintro e w60 ⟨v447, rfl, ho0, hi, hb, hk⟩; refine ⟨_, rfl, ?_⟩; have HO448 := amk (Kd.N_lower (Kd.N_mono (ok' := fun k_ => (w.heap.size ≤ k_) ∧ some k_ ≠ (.slice Ao57 t421.length co57 : Value).ownBlock ∧ k_ ≠ gb413 ∧ k_ ≠ gb426 ∧ k_ ≠ g) (Kd.S_N (Kd.S_bound ho0)) (fun k_ hk_ => ⟨(Nat.le_trans (keep_size (w := w) (g := g) (row := none) bK) hk_.2.1), (Kd.fresh' (Kd.N_lt (oX HO423)) k_ hk_.2.1), (Kd.freshB (g := gb413) (o := .cells #[.int .i64 0, .slice none 0 0] 24 (0, 0)) (kB BK413) k_ hk_.2.1), (Kd.freshB (g := gb426) (o := .cells #[.int .i64 t420, .slice Ao57 t421.length co57] 24 (0, 0)) (kB BK426) k_ hk_.2.1), (IsS73.fresh bI k_ hk_.2.1)⟩)) (keep_size (w := w) (g := g) (row := none) bK)); replace BK413 := kQ BK413 hk NB413_0.out; replace HO423 := amk (Kd.N_mono (Kd.N_told (Kd.N_oldK (Kd.N_mono (ok := fun k_ => ((((w.heap.size ≤ k_)) ∧ (k_ ≠ gb413 ∧ k_ ≠ g)) ∧ k_ ≠ gb426)) (oX HO423) (fun k_ hk_ => (⟨hk_, hk_.1.2.2⟩ : _ ∧ k_ ≠ g))) hk) (by first | exact Kd.N_base ho0 | exact Kd.S_base ho0 | exact Kd.R_base ho0)) (fun _ h_ => h_.1)); replace BK426 := kQ BK426 hk NB426_0.out; replace HK := kT2 HK hk; replace HB := amk (hb); replace HI0 := amk (hi); (try clear hb); (try clear hk); (try clear hi); (try clear ho0); obtain ⟨hcz61_0, hcz61_1, hfz61_0, hfz61_1, _⟩ := two_cells BK426.out; obtain ⟨Ao62, co62, eo62⟩ := Kd.N_slice HO448.out; subst eo62; have hnb63 := NB413_0.out; have hnc63 := NB0_413.out; obtain ⟨hcz64_0, hcz64_1, hfz64_0, hfz64_1, _⟩ := two_cells BK413.out))
        refine bodyPost_ret (results_cell_row rfl _ _ gb413 24 #[.int .i64 t445, .slice Ao62 t446.length co62] (0, 0) _ rfl (by (with_reducible repeat (first | refine kn_ ?_ _ | refine blk_drew ?_ | refine ka_ ?_ _)); refine blk_put (cs := #[.int .i64 t445, .slice none 0 0]) ?_ 1 _ rfl; (with_reducible repeat (first | refine kn_ ?_ _ | refine blk_drew ?_ | refine ka_ ?_ _)); refine blk_put (cs := #[.int .i64 0, .slice none 0 0]) ?_ 0 _ rfl; (with_reducible repeat (first | refine kn_ ?_ _ | refine blk_drew ?_ | refine ka_ ?_ _)); refine blk_far ?_ NB413_426.out _; (with_reducible repeat (first | refine kn_ ?_ _ | refine blk_drew ?_ | refine ka_ ?_ _)); refine blk_far ?_ NB413_426.out _; (with_reducible repeat (first | refine kn_ ?_ _ | refine blk_drew ?_ | refine ka_ ?_ _)); exact BK413.out) Try.underlying24 rfl (by kernel_rfl)) rfl ?_
        exact ⟨_, rF_, by (with_reducible repeat (first | apply Kd.N_alloc | apply Kd.N_drewN | apply Kd.N_drew)); exact Kd.N_mono (Kd.N_far (p := ⟨gb413, 1, none⟩) (Kd.N_far (p := ⟨gb413, 0, none⟩) (Kd.N_far (p := ⟨gb426, 1, none⟩) (Kd.N_far (p := ⟨gb426, 0, none⟩) (Kd.N_mono (Kd.N_mono HO448.out (fun k_ hk => (⟨hk, hk.2.2.2.1⟩ : _ ∧ k_ ≠ gb426))) (fun k_ hk => (⟨hk, hk.1.2.2.1⟩ : _ ∧ k_ ≠ gb413))) (fun _ hk => hk.1.2) (.int .i64 t445)) (fun _ hk => hk.1.2) (.slice Ao62 t446.length co62)) (fun _ hk => hk.2) (.int .i64 t445)) (fun _ hk => hk.2) (.slice Ao62 t446.length co62)) (fun _ hk => hk.1.1.1), bI, bBI, bK⟩
      · rw [if_neg c46] at H
        have c46b0 : (t427 == 2) = false := beq_eq_false_iff_ne.mpr c46
        have c46b1 : (t427 != 2) = true := bne_iff_ne.mpr c46
        by_cases c65 : t427 = 3
        · rw [if_pos c65] at H
          have c65b0 : (t427 == 3) = true := beq_iff_eq.mpr c65
          have c65b1 : (t427 != 3) = false := bne_eq_false_iff_eq.mpr c65
          clear c65
          simp only [Option.some.injEq, Prod.mk.injEq] at H
          obtain ⟨rfl, rfl, rfl, rfl⟩ := H
          go_enter Try.func58, Try.ntmps58
          go_wp2_with (first | ((with_reducible refine gate_dst (N := 2) rfl ?_); refine boxG_ 2 #[.int .i64 0, .slice none 0 0] 24 ?_; intro gb413 w66 hg BK413 hb; replace HB := hBI HB hb; have GW413 := kS HK hg; have GE413 := kE HW0 GW413; replace HK := kT HK hb; have NB0_413 := iL s0_0 s0_1 s0_2 hg; have NB413_0 := iR s0_0 s0_1 s0_2 hg; replace HI0 := amk (IsS73.below bI hb); clear hb hg) | (refine gc_ 59 6 Try.func59 #[.pointer (some ⟨g, 0, none⟩), .int .i64 6] ?_; (with_reducible refine (spec_l1Cur_pick.calls g s0_0 s0_1 s0_2 6 t414 t415 t416 w0 _ ?_ ?_ A2.out).mono ?_); exact bI; exact bBI; rintro e w67 ⟨rfl, hi, hb, hk⟩; refine ⟨_, rfl, ?_⟩; replace BK413 := kQ BK413 hk NB413_0.out; replace HK := kT2 HK hk; replace HB := amk (hb); replace HI0 := amk (hi); (try clear hb); (try clear hk); (try clear hi)) | (refine gc_ 59 9 Try.func59 #[.pointer (some ⟨g, 0, none⟩), .int .i64 5] ?_; (with_reducible refine (spec_l1Cur_pick.calls g s0_0 t415 t416 5 t417 t418 t419 w0 _ ?_ ?_ A3.out).mono ?_); exact bI; exact bBI; rintro e w68 ⟨rfl, hi, hb, hk⟩; refine ⟨_, rfl, ?_⟩; replace BK413 := kQ BK413 hk NB413_0.out; replace HK := kT2 HK hk; replace HB := amk (hb); replace HI0 := amk (hi); (try clear hb); (try clear hk); (try clear hi)) | (refine gc_ 60 11 Try.func60 #[.pointer (some ⟨g, 0, none⟩), .int .i64 (wrap64 (1 + t414)), .int .i64 (wrap64 (1 + t417))] ?_; (with_reducible refine (spec_l1Cur_surePins.calls k g s0_0 t418 t419 (wrap64 (1 + t414)) (wrap64 (1 + t417)) t420 t421 t424 t425 w0 _ ?_ ?_ A4.out).mono ?_); exact bI; exact bBI; rintro e w69 ⟨v422, rfl, ho0, hi, hb, hk⟩; refine ⟨_, rfl, ?_⟩; have HO423 := amk (Kd.N_lower (Kd.N_mono (ok' := fun k_ => (w.heap.size ≤ k_) ∧ k_ ≠ gb413 ∧ k_ ≠ g) (Kd.S_N (Kd.S_bound ho0)) (fun k_ hk_ => ⟨(Nat.le_trans (keep_size (w := w) (g := g) (row := none) bK) hk_.2.1), (Kd.freshB (g := gb413) (o := .cells #[.int .i64 0, .slice none 0 0] 24 (0, 0)) (kB BK413) k_ hk_.2.1), (IsS73.fresh bI k_ hk_.2.1)⟩)) (keep_size (w := w) (g := g) (row := none) bK)); replace BK413 := kQ BK413 hk NB413_0.out; replace HK := kT2 HK hk; replace HB := amk (hb); replace HI0 := amk (hi); (try clear hb); (try clear hk); (try clear hi); (try clear ho0)) | ((with_reducible refine gate_dst (N := 3) rfl ?_); refine boxG_ 3 #[.int .i64 0, .slice none 0 0] 24 ?_; intro gb426 w70 hg BK426 hb; replace HO423 := amk (Kd.N_below (Kd.N_elderB (oX HO423) gb426 (Nat.le_of_eq hg.symm)) hb); replace HB := hBI HB hb; have GW426 := kS HK hg; have GE426 := kE HW0 GW426; replace HK := kT HK hb; have NB413_426 := neL BK413 hg; have NB426_413 := neR BK413 hg; replace BK413 := kb2 BK413 hb; have NB0_426 := iL s0_0 t424 t425 hg; have NB426_0 := iR s0_0 t424 t425 hg; replace HI0 := amk (IsS73.below bI hb); clear hb hg; have hnb71 := NB426_413.out; have hnc71 := NB413_426.out; have hnb72 := NB426_0.out; have hnc72 := NB0_426.out; obtain ⟨hcz73_0, hcz73_1, hfz73_0, hfz73_1, _⟩ := two_cells BK426.out; obtain ⟨Ao74, co74, eo74⟩ := Kd.N_slice HO423.out; subst eo74) | (refine gc_ 59 13 Try.func59 #[.pointer (some ⟨g, 0, none⟩), .int .i64 16] ?_; (with_reducible refine (spec_l1Cur_pick.calls g s0_0 t424 t425 16 t427 t428 t429 w0 _ ?_ ?_ A5.out).mono ?_); exact bI; exact bBI; rintro e w75 ⟨rfl, hi, hb, hk⟩; refine ⟨_, rfl, ?_⟩; replace BK413 := kQ BK413 hk NB413_0.out; replace HO423 := amk (Kd.N_mono (Kd.N_keep (Kd.N_mono (ok := fun k_ => ((((w.heap.size ≤ k_)) ∧ (k_ ≠ gb413 ∧ k_ ≠ g)) ∧ k_ ≠ gb426)) (by (with_reducible repeat (first | apply Kd.N_alloc | apply Kd.N_drewN | apply Kd.N_drew)); exact (Kd.N_mono (Kd.N_far (p := ⟨gb426, 1, none⟩) (Kd.N_far (p := ⟨gb426, 0, none⟩) (Kd.N_mono HO423.out (fun k_ hk => (⟨hk, hk.2⟩ : _ ∧ k_ ≠ gb426))) (fun _ hk => hk.2) (.int .i64 t420)) (fun _ hk => hk.2) (.slice Ao74 t421.length co74)) (fun _ h_ => h_.1))) (fun k_ hk_ => (⟨hk_, hk_.1.2.2⟩ : _ ∧ k_ ≠ g))) hk (fun _ h => h.2)) (fun _ h => h.1)); replace BK426 := amk (KeepBut.blk hk (g' := gb426) (o := .cells #[.int .i64 t420, .slice Ao74 t421.length co74] 24 (0, 0)) (by (with_reducible repeat (first | refine kn_ ?_ _ | refine blk_drew ?_ | refine ka_ ?_ _)); refine blk_put (cs := #[.int .i64 t420, .slice none 0 0]) ?_ 1 _ rfl; (with_reducible repeat (first | refine kn_ ?_ _ | refine blk_drew ?_ | refine ka_ ?_ _)); refine blk_put (cs := #[.int .i64 0, .slice none 0 0]) ?_ 0 _ rfl; (with_reducible repeat (first | refine kn_ ?_ _ | refine blk_drew ?_ | refine ka_ ?_ _)); exact BK426.out) NB426_0.out (by simp)); replace HK := kT2 HK hk; replace HB := amk (hb); replace HI0 := amk (hi); (try clear hb); (try clear hk); (try clear hi); obtain ⟨hcz76_0, hcz76_1, hfz76_0, hfz76_1, _⟩ := two_cells BK426.out; have hnb77 := NB413_0.out; have hnc77 := NB0_413.out; obtain ⟨hcz78_0, hcz78_1, hfz78_0, hfz78_1, _⟩ := two_cells BK413.out))
          refine bodyPost_ret (results_cell_row rfl _ _ gb413 24 #[.int .i64 t420, .slice none 0 0] (0, 0) _ rfl (by (with_reducible repeat (first | refine kn_ ?_ _ | refine blk_drew ?_ | refine ka_ ?_ _)); refine blk_put (cs := #[.int .i64 t420, .slice none 0 0]) ?_ 1 _ rfl; (with_reducible repeat (first | refine kn_ ?_ _ | refine blk_drew ?_ | refine ka_ ?_ _)); refine blk_put (cs := #[.int .i64 0, .slice none 0 0]) ?_ 0 _ rfl; (with_reducible repeat (first | refine kn_ ?_ _ | refine blk_drew ?_ | refine ka_ ?_ _)); refine blk_far ?_ NB413_426.out _; (with_reducible repeat (first | refine kn_ ?_ _ | refine blk_drew ?_ | refine ka_ ?_ _)); exact BK413.out) Try.underlying24 rfl (by kernel_rfl)) rfl ?_
          exact ⟨_, rF_, xN_, bI, bBI, bK⟩
        · rw [if_neg c65] at H
          have c65b0 : (t427 == 3) = false := beq_eq_false_iff_ne.mpr c65
          have c65b1 : (t427 != 3) = true := bne_iff_ne.mpr c65
          simp only [Option.some.injEq, Prod.mk.injEq] at H
          obtain ⟨rfl, rfl, rfl, rfl⟩ := H
          go_enter Try.func58, Try.ntmps58
          go_wp2_with (first | ((with_reducible refine gate_dst (N := 2) rfl ?_); refine boxG_ 2 #[.int .i64 0, .slice none 0 0] 24 ?_; intro gb413 w79 hg BK413 hb; replace HB := hBI HB hb; have GW413 := kS HK hg; have GE413 := kE HW0 GW413; replace HK := kT HK hb; have NB0_413 := iL s0_0 s0_1 s0_2 hg; have NB413_0 := iR s0_0 s0_1 s0_2 hg; replace HI0 := amk (IsS73.below bI hb); clear hb hg) | (refine gc_ 59 6 Try.func59 #[.pointer (some ⟨g, 0, none⟩), .int .i64 6] ?_; (with_reducible refine (spec_l1Cur_pick.calls g s0_0 s0_1 s0_2 6 t414 t415 t416 w0 _ ?_ ?_ A2.out).mono ?_); exact bI; exact bBI; rintro e w80 ⟨rfl, hi, hb, hk⟩; refine ⟨_, rfl, ?_⟩; replace BK413 := kQ BK413 hk NB413_0.out; replace HK := kT2 HK hk; replace HB := amk (hb); replace HI0 := amk (hi); (try clear hb); (try clear hk); (try clear hi)) | (refine gc_ 59 9 Try.func59 #[.pointer (some ⟨g, 0, none⟩), .int .i64 5] ?_; (with_reducible refine (spec_l1Cur_pick.calls g s0_0 t415 t416 5 t417 t418 t419 w0 _ ?_ ?_ A3.out).mono ?_); exact bI; exact bBI; rintro e w81 ⟨rfl, hi, hb, hk⟩; refine ⟨_, rfl, ?_⟩; replace BK413 := kQ BK413 hk NB413_0.out; replace HK := kT2 HK hk; replace HB := amk (hb); replace HI0 := amk (hi); (try clear hb); (try clear hk); (try clear hi)) | (refine gc_ 60 11 Try.func60 #[.pointer (some ⟨g, 0, none⟩), .int .i64 (wrap64 (1 + t414)), .int .i64 (wrap64 (1 + t417))] ?_; (with_reducible refine (spec_l1Cur_surePins.calls k g s0_0 t418 t419 (wrap64 (1 + t414)) (wrap64 (1 + t417)) t420 t421 t424 t425 w0 _ ?_ ?_ A4.out).mono ?_); exact bI; exact bBI; rintro e w82 ⟨v422, rfl, ho0, hi, hb, hk⟩; refine ⟨_, rfl, ?_⟩; have HO423 := amk (Kd.N_lower (Kd.N_mono (ok' := fun k_ => (w.heap.size ≤ k_) ∧ k_ ≠ gb413 ∧ k_ ≠ g) (Kd.S_N (Kd.S_bound ho0)) (fun k_ hk_ => ⟨(Nat.le_trans (keep_size (w := w) (g := g) (row := none) bK) hk_.2.1), (Kd.freshB (g := gb413) (o := .cells #[.int .i64 0, .slice none 0 0] 24 (0, 0)) (kB BK413) k_ hk_.2.1), (IsS73.fresh bI k_ hk_.2.1)⟩)) (keep_size (w := w) (g := g) (row := none) bK)); replace BK413 := kQ BK413 hk NB413_0.out; replace HK := kT2 HK hk; replace HB := amk (hb); replace HI0 := amk (hi); (try clear hb); (try clear hk); (try clear hi); (try clear ho0)) | ((with_reducible refine gate_dst (N := 3) rfl ?_); refine boxG_ 3 #[.int .i64 0, .slice none 0 0] 24 ?_; intro gb426 w83 hg BK426 hb; replace HO423 := amk (Kd.N_below (Kd.N_elderB (oX HO423) gb426 (Nat.le_of_eq hg.symm)) hb); replace HB := hBI HB hb; have GW426 := kS HK hg; have GE426 := kE HW0 GW426; replace HK := kT HK hb; have NB413_426 := neL BK413 hg; have NB426_413 := neR BK413 hg; replace BK413 := kb2 BK413 hb; have NB0_426 := iL s0_0 t424 t425 hg; have NB426_0 := iR s0_0 t424 t425 hg; replace HI0 := amk (IsS73.below bI hb); clear hb hg; have hnb84 := NB426_413.out; have hnc84 := NB413_426.out; have hnb85 := NB426_0.out; have hnc85 := NB0_426.out; obtain ⟨hcz86_0, hcz86_1, hfz86_0, hfz86_1, _⟩ := two_cells BK426.out; obtain ⟨Ao87, co87, eo87⟩ := Kd.N_slice HO423.out; subst eo87) | (refine gc_ 59 13 Try.func59 #[.pointer (some ⟨g, 0, none⟩), .int .i64 16] ?_; (with_reducible refine (spec_l1Cur_pick.calls g s0_0 t424 t425 16 t427 t428 t429 w0 _ ?_ ?_ A5.out).mono ?_); exact bI; exact bBI; rintro e w88 ⟨rfl, hi, hb, hk⟩; refine ⟨_, rfl, ?_⟩; replace BK413 := kQ BK413 hk NB413_0.out; replace HO423 := amk (Kd.N_mono (Kd.N_keep (Kd.N_mono (ok := fun k_ => ((((w.heap.size ≤ k_)) ∧ (k_ ≠ gb413 ∧ k_ ≠ g)) ∧ k_ ≠ gb426)) (by (with_reducible repeat (first | apply Kd.N_alloc | apply Kd.N_drewN | apply Kd.N_drew)); exact (Kd.N_mono (Kd.N_far (p := ⟨gb426, 1, none⟩) (Kd.N_far (p := ⟨gb426, 0, none⟩) (Kd.N_mono HO423.out (fun k_ hk => (⟨hk, hk.2⟩ : _ ∧ k_ ≠ gb426))) (fun _ hk => hk.2) (.int .i64 t420)) (fun _ hk => hk.2) (.slice Ao87 t421.length co87)) (fun _ h_ => h_.1))) (fun k_ hk_ => (⟨hk_, hk_.1.2.2⟩ : _ ∧ k_ ≠ g))) hk (fun _ h => h.2)) (fun _ h => h.1)); replace BK426 := amk (KeepBut.blk hk (g' := gb426) (o := .cells #[.int .i64 t420, .slice Ao87 t421.length co87] 24 (0, 0)) (by (with_reducible repeat (first | refine kn_ ?_ _ | refine blk_drew ?_ | refine ka_ ?_ _)); refine blk_put (cs := #[.int .i64 t420, .slice none 0 0]) ?_ 1 _ rfl; (with_reducible repeat (first | refine kn_ ?_ _ | refine blk_drew ?_ | refine ka_ ?_ _)); refine blk_put (cs := #[.int .i64 0, .slice none 0 0]) ?_ 0 _ rfl; (with_reducible repeat (first | refine kn_ ?_ _ | refine blk_drew ?_ | refine ka_ ?_ _)); exact BK426.out) NB426_0.out (by simp)); replace HK := kT2 HK hk; replace HB := amk (hb); replace HI0 := amk (hi); (try clear hb); (try clear hk); (try clear hi); obtain ⟨hcz89_0, hcz89_1, hfz89_0, hfz89_1, _⟩ := two_cells BK426.out; have hnb90 := NB413_0.out; have hnc90 := NB0_413.out; obtain ⟨hcz91_0, hcz91_1, hfz91_0, hfz91_1, _⟩ := two_cells BK413.out))
          refine bodyPost_ret (results_cell_row rfl _ _ gb413 24 #[.int .i64 t420, .slice Ao87 t421.length co87] (0, 0) _ rfl (by (with_reducible repeat (first | refine kn_ ?_ _ | refine blk_drew ?_ | refine ka_ ?_ _)); refine blk_put (cs := #[.int .i64 t420, .slice none 0 0]) ?_ 1 _ rfl; (with_reducible repeat (first | refine kn_ ?_ _ | refine blk_drew ?_ | refine ka_ ?_ _)); refine blk_put (cs := #[.int .i64 0, .slice none 0 0]) ?_ 0 _ rfl; (with_reducible repeat (first | refine kn_ ?_ _ | refine blk_drew ?_ | refine ka_ ?_ _)); exact BK413.out) Try.underlying24 rfl (by kernel_rfl)) rfl ?_
          exact ⟨_, rF_, by (with_reducible repeat (first | apply Kd.N_alloc | apply Kd.N_drewN | apply Kd.N_drew)); exact Kd.N_mono (Kd.N_far (p := ⟨gb413, 1, none⟩) (Kd.N_far (p := ⟨gb413, 0, none⟩) (Kd.N_mono HO423.out (fun k_ hk => (⟨hk, hk.1.2.1⟩ : _ ∧ k_ ≠ gb413))) (fun _ hk => hk.2) (.int .i64 t420)) (fun _ hk => hk.2) (.slice Ao87 t421.length co87)) (fun _ hk => hk.1.1.1), bI, bBI, bK⟩
/-! ### spec_l1Cur_locks: function 56 -/
mutual
def spec_l1Cur_locks.l0 : Nat → Int → Int → List (S24) → Int → List Int → Int → Int → Option ((List (S24)) × Int × Int)
  | 0, _, _, _, _, _, _, _ => none
  | k + 1, x3, x4, x5, x6, x1000, x1001, x1002 => if x6 > 0 then ((spec_l1Cur_surePins.f k x1000 x1001 x1002 x3 x4).bind fun bt464 => (if x5.length < 4398046511104 then (spec_l1Cur_locks.l0 k x3 x4 (x5 ++ [(⟨bt464.1, bt464.2.1⟩ : S24)]) (wrap64 (x6 - 1)) x1000 bt464.2.2.1 bt464.2.2.2) else (none))) else ((spec_l1Cur_pick.f x1000 x1001 x1002 14).bind fun bt473 => (if bt473.1 = 0 then ((spec_l1Cur_pins.f k x1000 bt473.2.1 bt473.2.2).bind fun bt476 => (if x5.length < 4398046511104 then (some ((x5 ++ [(⟨bt476.1, bt476.2.1⟩ : S24)]), bt476.2.2.1, bt476.2.2.2)) else (none))) else (if bt473.1 = 1 then (some (([] : List (S24)), bt473.2.1, bt473.2.2)) else (if bt473.1 = 2 then (spec_l1Cur_locks.l1 k x5 x1000 bt473.2.1 bt473.2.2) else (some (x5, bt473.2.1, bt473.2.2))))))
def spec_l1Cur_locks.l1 : Nat → List (S24) → List Int → Int → Int → Option ((List (S24)) × Int × Int)
  | 0, _, _, _, _ => none
  | k + 1, x5, x1000, x1001, x1002 => (spec_l1Cur_pick.f x1000 x1001 x1002 2).bind fun bt485 => (if (x5.length : Int) < (wrap64 (6 + bt485.1)) then (if 0 < (x5.length : Int) then (if x5.length < 4398046511104 then (spec_l1Cur_locks.l1 k (x5 ++ [(⟨(rd_T24 x5 0).f0, (rd_T24 x5 0).f1⟩ : S24)]) x1000 bt485.2.1 bt485.2.2) else (none)) else (none)) else (some (x5, bt485.2.1, bt485.2.2)))
end
def spec_l1Cur_locks.f (k : Nat) (s0_0 : List Int) (s0_1 : Int) (s0_2 : Int) : Option ((List (S24)) × Int × Int) := (spec_l1Cur_pick.f s0_0 s0_1 s0_2 5).bind fun bt455 => ((spec_l1Cur_pick.f s0_0 bt455.2.1 bt455.2.2 4).bind fun bt458 => ((spec_l1Cur_pick.f s0_0 bt458.2.1 bt458.2.2 4).bind fun bt461 => (spec_l1Cur_locks.l0 k (wrap64 (1 + bt455.1)) (wrap64 (1 + bt458.1)) ([] : List (S24)) (wrap64 (1 + bt461.1)) s0_0 bt461.2.1 bt461.2.2)))
set_option maxHeartbeats 8000000 in
set_option maxRecDepth 100000 in
theorem spec_l1Cur_locks.calls (k : Nat) (g : Nat) (s0_0 : List Int) (s0_1 : Int) (s0_2 : Int) (r1 : List (S24)) (r2 : Int) (r3 : Int) (w0 w : World) (hI : IsS73 w0 w g s0_0 s0_1 s0_2) (hB : Below w0.heap.size w0 w) (h : spec_l1Cur_locks.f k s0_0 s0_1 s0_2 = some (r1, r2, r3)) :
    Calls Try.prog 56 #[.pointer (some ⟨g, 0, none⟩)] w fun e w' => ∃ v0_ : Value, e = .returned (v0_) ∧ Kd.N k24 24 w' w.heap.size (fun k_ => (w.heap.size ≤ k_)) v0_ r1 ∧ IsS73 w0 w' g s0_0 r2 r3 ∧ Below w0.heap.size w0 w' ∧ KeepBut w w' g none := by
  have hu24 := Try.underlying24
  have HI0 := amk hI
  have HK := amk (KeepBut.refl w g none)
  have HL := amk hB.size
  clear hI
  have HW0 := amk hB.size
  have HB := amk hB
  clear hB
  have H : ((spec_l1Cur_pick.f s0_0 s0_1 s0_2 5).bind fun bt455 => ((spec_l1Cur_pick.f s0_0 bt455.2.1 bt455.2.2 4).bind fun bt458 => ((spec_l1Cur_pick.f s0_0 bt458.2.1 bt458.2.2 4).bind fun bt461 => (spec_l1Cur_locks.l0 k (wrap64 (1 + bt455.1)) (wrap64 (1 + bt458.1)) ([] : List (S24)) (wrap64 (1 + bt461.1)) s0_0 bt461.2.1 bt461.2.2)))) = some (r1, r2, r3) := h
  clear h
  replace H := bE H
  obtain ⟨⟨t455, t456, t457⟩, A2, H⟩ := H
  try dsimp only at H
  replace H := bE H
  obtain ⟨⟨t458, t459, t460⟩, A3, H⟩ := H
  try dsimp only at H
  replace H := bE H
  obtain ⟨⟨t461, t462, t463⟩, A4, H⟩ := H
  try dsimp only at H
  have H' := amk H
  clear H
  go_enter Try.func56, Try.ntmps56
  go_wp2_with (first | (refine gc_ 59 8 Try.func59 #[.pointer (some ⟨g, 0, none⟩), .int .i64 5] ?_; (with_reducible refine (spec_l1Cur_pick.calls g s0_0 s0_1 s0_2 5 t455 t456 t457 w0 _ ?_ ?_ A2.out).mono ?_); exact bI; exact bBI; rintro e w5 ⟨rfl, hi, hb, hk⟩; refine ⟨_, rfl, ?_⟩; replace HK := kT2 HK hk; replace HB := amk (hb); replace HI0 := amk (hi); (try clear hb); (try clear hk); (try clear hi)) | (refine gc_ 59 11 Try.func59 #[.pointer (some ⟨g, 0, none⟩), .int .i64 4] ?_; (with_reducible refine (spec_l1Cur_pick.calls g s0_0 t456 t457 4 t458 t459 t460 w0 _ ?_ ?_ A3.out).mono ?_); exact bI; exact bBI; rintro e w6 ⟨rfl, hi, hb, hk⟩; refine ⟨_, rfl, ?_⟩; replace HK := kT2 HK hk; replace HB := amk (hb); replace HI0 := amk (hi); (try clear hb); (try clear hk); (try clear hi)) | (refine gc_ 59 14 Try.func59 #[.pointer (some ⟨g, 0, none⟩), .int .i64 4] ?_; (with_reducible refine (spec_l1Cur_pick.calls g s0_0 t459 t460 4 t461 t462 t463 w0 _ ?_ ?_ A4.out).mono ?_); exact bI; exact bBI; rintro e w7 ⟨rfl, hi, hb, hk⟩; refine ⟨_, rfl, ?_⟩; replace HK := kT2 HK hk; replace HB := amk (hb); replace HI0 := amk (hi); (try clear hb); (try clear hk); (try clear hi)))
  go_loopg [5, 6] k (fun kq v5 v6 w' => ∃ (x5_1 : List (S24)) (x6_1 : Int) (x1001_1 : Int) (x1002_1 : Int), v6 = .int .i64 x6_1 ∧ Aside0 (spec_l1Cur_locks.l0 kq (wrap64 (1 + t455)) (wrap64 (1 + t458)) x5_1 x6_1 s0_0 x1001_1 x1002_1 = some (r1, r2, r3)) ∧ Aside0 (kq ≤ k) ∧ Aside0 (Kd.N k24 24 w' w.heap.size (fun k_ => (w.heap.size ≤ k_) ∧ k_ ≠ g) v5 x5_1) ∧ Aside0 (IsS73 w0 w' g s0_0 x1001_1 x1002_1) ∧ Aside0 (KeepBut w w' g none) ∧ Aside0 (Below w0.heap.size w0 w'))
  case atStart => exact ⟨(([] : List (S24))), (wrap64 (1 + t461)), (t462), (t463), rS_, H', ⟨Nat.le_refl _⟩, ⟨xN_⟩, ⟨bI⟩, ⟨bK⟩, ⟨bBI⟩⟩
  case round =>
    clear H'
    try clear p2; try clear c5; try clear p6
    obtain ⟨x5_1, x6_1, x1001_1, x1002_1, rfl, HA, HK1, HO_5, HI0, HK, HB⟩ := hrel
    cases gk with
    | zero => exact absurd HA.out (by simp [spec_l1Cur_locks.l0])
    | succ k1 =>
      have H := HA.out
      clear HA
      simp only [spec_l1Cur_locks.l0] at H
      by_cases c8 : x6_1 > 0
      · rw [if_pos c8] at H
        have c8b0 : decide (0 < x6_1) = true := decide_eq_true c8
        clear c8
        replace H := bE H
        obtain ⟨⟨t464, t465, t468, t469⟩, A9, H⟩ := H
        try dsimp only at H
        by_cases c10 : x5_1.length < 4398046511104
        · rw [if_pos c10] at H
          have LMc10 := amk c10
          clear c10
          obtain ⟨y470, hy470⟩ : ∃ y_ : List (S24), y_ = (x5_1 ++ [(⟨t464, t465⟩ : S24)]) := ⟨_, rfl⟩
          replace H : (spec_l1Cur_locks.l0 k1 (wrap64 (1 + t455)) (wrap64 (1 + t458)) y470 (wrap64 (x6_1 - 1)) s0_0 t468 t469) = some (r1, r2, r3) := by first | (rw [hy470]; with_reducible exact H) | (have H2_ := (Option.bind_some _ _).symm.trans H; rw [hy470]; with_reducible exact H2_) | (have H2_ := (Option.bind_some _ _).symm.trans H; with_reducible exact H2_) | with_reducible exact H | (rw [hy470]; exact H) | exact H
          have Ny470 := amk hy470
          clear hy470
          have H' := amk H
          clear H
          go_wp2_with (first | (refine gc_ 60 24 Try.func60 #[.pointer (some ⟨g, 0, none⟩), .int .i64 (wrap64 (1 + t455)), .int .i64 (wrap64 (1 + t458))] ?_; (with_reducible refine (spec_l1Cur_surePins.calls k1 g s0_0 x1001_1 x1002_1 (wrap64 (1 + t455)) (wrap64 (1 + t458)) t464 t465 t468 t469 w0 _ ?_ ?_ A9.out).mono ?_); exact bI; exact bBI; rintro e w11 ⟨v466, rfl, ho0, hi, hb, hk⟩; refine ⟨_, rfl, ?_⟩; have HO467 := amk (Kd.N_lower (Kd.N_mono (ok' := fun k_ => (w.heap.size ≤ k_) ∧ some k_ ≠ (u5 : Value).ownBlock ∧ k_ ≠ g) (Kd.S_N (Kd.S_bound ho0)) (fun k_ hk_ => ⟨(Nat.le_trans (keep_size (w := w) (g := g) (row := none) bK) hk_.2.1), (Kd.fresh' (Kd.N_lt (oX HO_5)) k_ hk_.2.1), (IsS73.fresh bI k_ hk_.2.1)⟩)) (keep_size (w := w) (g := g) (row := none) bK)); replace HO_5 := amk (Kd.N_mono (Kd.N_told (Kd.N_oldK (Kd.N_mono (ok := fun k_ => (((w.heap.size ≤ k_)) ∧ k_ ≠ g)) (oX HO_5) (fun k_ hk_ => (⟨hk_, hk_.2⟩ : _ ∧ k_ ≠ g))) hk) (by first | exact Kd.N_base ho0 | exact Kd.S_base ho0 | exact Kd.R_base ho0)) (fun _ h_ => h_.1)); replace HK := kT2 HK hk; replace HB := amk (hb); replace HI0 := amk (hi); (try clear hb); (try clear hk); (try clear hi); (try clear ho0); obtain ⟨Ao13, co13, eo13⟩ := Kd.N_slice HO467.out; subst eo13) | ((with_reducible refine gate_builtin (b := .append) (xs := #[.tmp 20, .tmp 25]) rfl ?_); at_builtin; refine Kd.N_append k24 w.heap.size rfl (.tmp 20) (.tmp 25) 25 24 (.agg #[(.int .i64 0), (.slice none 0 0)]) 32 rfl Try.underlying25 info24 rfl (by decide) (by omega) u5 x5_1 (⟨t464, t465⟩ : S24) [.int .i64 t464, .slice Ao13 t465.length co13] (fun k_ => (w.heap.size ≤ k_) ∧ k_ ≠ g) (fun k_ => ((fun k_ => (w.heap.size ≤ k_) ∧ k_ ≠ g)) k_ ∧ some k_ ≠ (u5 : Value).ownBlock) rfl rfl (k24_mkF _ _ (⟨t464, t465⟩ : S24) (Kd.N_reads' (Kd.N_mono (ok' := (fun k_ => ((fun k_ => (w.heap.size ≤ k_) ∧ k_ ≠ g)) k_ ∧ some k_ ≠ (u5 : Value).ownBlock)) (HO467.out) (fun k_ hk => ⟨⟨hk.1, hk.2.2⟩, hk.2.1⟩))).2.1 (Kd.N_F (Kd.N_mono (ok' := (fun k_ => ((fun k_ => (w.heap.size ≤ k_) ∧ k_ ≠ g)) k_ ∧ some k_ ≠ (u5 : Value).ownBlock)) (HO467.out) (fun k_ hk => ⟨⟨hk.1, hk.2.2⟩, hk.2.1⟩)))) (fun _ hk => hk) (fun k_ hk => ⟨(Nat.le_trans (keep_size (w := w) (g := g) (row := none) bK) hk), IsS73.fresh bI k_ hk⟩) (by (with_reducible repeat (first | apply Kd.N_alloc | apply Kd.N_drewN | apply Kd.N_drew)); exact Kd.N_mono HO_5.out (fun _ hk => ⟨hk.1.1, hk.1.2⟩)) (Below.refl _ _) (keep_size (w := w) (g := g) (row := none) bK) (by have := LMc10.out; omega) ?_; intro v471 w12 ho hb hg hat; rw [← Ny470.out] at ho; replace HB := amk (below_weaken bBI HL.out hb); replace HI0 := amk (IsS73.grown bI hg (IsS73.own_neN HI0.out HO_5.out (by decide))); replace HK := amk (KeepBut.trans bK (KeepBut.of_grown hg g) (Kd.N_base2 HO_5.out)); have HO472 := amk (ho); clear HO_5 HO467; clear ho hb hg hat))
          go_roundg k1
          case measure => have := HK1.out; omega
          case rel => exact ⟨(y470), (wrap64 (x6_1 - 1)), (t468), (t469), rS_, H', ⟨by have := HK1.out; omega⟩, ⟨oX HO472⟩, ⟨bI⟩, ⟨bK⟩, ⟨bBI⟩⟩
        · rw [if_neg c10] at H
          exact absurd H (by simp)
      · rw [if_neg c8] at H
        have c8b0 : decide (0 < x6_1) = false := decide_eq_false c8
        clear c8
        replace H := bE H
        obtain ⟨⟨t473, t474, t475⟩, A14, H⟩ := H
        try dsimp only at H
        by_cases c15 : t473 = 0
        · rw [if_pos c15] at H
          have c15b0 : (t473 == 0) = true := beq_iff_eq.mpr c15
          have c15b1 : (t473 != 0) = false := bne_eq_false_iff_eq.mpr c15
          clear c15
          replace H := bE H
          obtain ⟨⟨t476, t477, t480, t481⟩, A16, H⟩ := H
          try dsimp only at H
          by_cases c17 : x5_1.length < 4398046511104
          · rw [if_pos c17] at H
            have LMc17 := amk c17
            clear c17
            obtain ⟨y482, hy482⟩ : ∃ y_ : List (S24), y_ = (x5_1 ++ [(⟨t476, t477⟩ : S24)]) := ⟨_, rfl⟩
            replace H : (some (y482, t480, t481)) = some (r1, r2, r3) := by first | (rw [hy482]; with_reducible exact H) | (have H2_ := (Option.bind_some _ _).symm.trans H; rw [hy482]; with_reducible exact H2_) | (have H2_ := (Option.bind_some _ _).symm.trans H; with_reducible exact H2_) | with_reducible exact H | (rw [hy482]; exact H) | exact H
            have Ny482 := amk hy482
            clear hy482
            simp only [Option.some.injEq, Prod.mk.injEq] at H
            obtain ⟨rfl, rfl, rfl⟩ := H
            go_wp2_with (first | (refine gc_ 59 28 Try.func59 #[.pointer (some ⟨g, 0, none⟩), .int .i64 14] ?_; (with_reducible refine (spec_l1Cur_pick.calls g s0_0 x1001_1 x1002_1 14 t473 t474 t475 w0 _ ?_ ?_ A14.out).mono ?_); exact bI; exact bBI; rintro e w18 ⟨rfl, hi, hb, hk⟩; refine ⟨_, rfl, ?_⟩; replace HO_5 := amk (Kd.N_mono (Kd.N_keep (Kd.N_mono (ok := fun k_ => (((w.heap.size ≤ k_)) ∧ k_ ≠ g)) (oX HO_5) (fun k_ hk_ => (⟨hk_, hk_.2⟩ : _ ∧ k_ ≠ g))) hk (fun _ h => h.2)) (fun _ h => h.1)); replace HK := kT2 HK hk; replace HB := amk (hb); replace HI0 := amk (hi); (try clear hb); (try clear hk); (try clear hi)) | (refine gc_ 58 33 Try.func58 #[.pointer (some ⟨g, 0, none⟩)] ?_; (with_reducible refine (spec_l1Cur_pins.calls k1 g s0_0 t474 t475 t476 t477 t480 t481 w0 _ ?_ ?_ A16.out).mono ?_); exact bI; exact bBI; rintro e w19 ⟨v478, rfl, ho0, hi, hb, hk⟩; refine ⟨_, rfl, ?_⟩; have HO479 := amk (Kd.N_lower (Kd.N_mono (ok' := fun k_ => (w.heap.size ≤ k_) ∧ some k_ ≠ (u5 : Value).ownBlock ∧ k_ ≠ g) ho0 (fun k_ hk_ => ⟨(Nat.le_trans (keep_size (w := w) (g := g) (row := none) bK) hk_), (Kd.fresh' (Kd.N_lt (oX HO_5)) k_ hk_), (IsS73.fresh bI k_ hk_)⟩)) (keep_size (w := w) (g := g) (row := none) bK)); replace HO_5 := amk (Kd.N_mono (Kd.N_told (Kd.N_oldK (Kd.N_mono (ok := fun k_ => (((w.heap.size ≤ k_)) ∧ k_ ≠ g)) (oX HO_5) (fun k_ hk_ => (⟨hk_, hk_.2⟩ : _ ∧ k_ ≠ g))) hk) (by first | exact Kd.N_base ho0 | exact Kd.S_base ho0 | exact Kd.R_base ho0)) (fun _ h_ => h_.1)); replace HK := kT2 HK hk; replace HB := amk (hb); replace HI0 := amk (hi); (try clear hb); (try clear hk); (try clear hi); (try clear ho0); obtain ⟨Ao21, co21, eo21⟩ := Kd.N_slice HO479.out; subst eo21) | ((with_reducible refine gate_builtin (b := .append) (xs := #[.tmp 31, .tmp 34]) rfl ?_); at_builtin; refine Kd.N_append k24 w.heap.size rfl (.tmp 31) (.tmp 34) 25 24 (.agg #[(.int .i64 0), (.slice none 0 0)]) 32 rfl Try.underlying25 info24 rfl (by decide) (by omega) u5 x5_1 (⟨t476, t477⟩ : S24) [.int .i64 t476, .slice Ao21 t477.length co21] (fun k_ => (w.heap.size ≤ k_) ∧ k_ ≠ g) (fun k_ => ((fun k_ => (w.heap.size ≤ k_) ∧ k_ ≠ g)) k_ ∧ some k_ ≠ (u5 : Value).ownBlock) rfl rfl (k24_mkF _ _ (⟨t476, t477⟩ : S24) (Kd.N_reads' (Kd.N_mono (ok' := (fun k_ => ((fun k_ => (w.heap.size ≤ k_) ∧ k_ ≠ g)) k_ ∧ some k_ ≠ (u5 : Value).ownBlock)) (HO479.out) (fun k_ hk => ⟨⟨hk.1, hk.2.2⟩, hk.2.1⟩))).2.1 (Kd.N_F (Kd.N_mono (ok' := (fun k_ => ((fun k_ => (w.heap.size ≤ k_) ∧ k_ ≠ g)) k_ ∧ some k_ ≠ (u5 : Value).ownBlock)) (HO479.out) (fun k_ hk => ⟨⟨hk.1, hk.2.2⟩, hk.2.1⟩)))) (fun _ hk => hk) (fun k_ hk => ⟨(Nat.le_trans (keep_size (w := w) (g := g) (row := none) bK) hk), IsS73.fresh bI k_ hk⟩) (by (with_reducible repeat (first | apply Kd.N_alloc | apply Kd.N_drewN | apply Kd.N_drew)); exact Kd.N_mono HO_5.out (fun _ hk => ⟨hk.1.1, hk.1.2⟩)) (Below.refl _ _) (keep_size (w := w) (g := g) (row := none) bK) (by have := LMc17.out; omega) ?_; intro v483 w20 ho hb hg hat; rw [← Ny482.out] at ho; replace HB := amk (below_weaken bBI HL.out hb); replace HI0 := amk (IsS73.grown bI hg (IsS73.own_neN HI0.out HO_5.out (by decide))); replace HK := amk (KeepBut.trans bK (KeepBut.of_grown hg g) (Kd.N_base2 HO_5.out)); have HO484 := amk (ho); clear HO_5 HO479; clear ho hb hg hat))
            go_ret
            exact ⟨_, rF_, by (with_reducible repeat (first | apply Kd.N_alloc | apply Kd.N_drewN | apply Kd.N_drew)); exact Kd.N_mono HO484.out (fun _ hk => hk.1), bI, bBI, bK⟩
          · rw [if_neg c17] at H
            exact absurd H (by simp)
        · rw [if_neg c15] at H
          have c15b0 : (t473 == 0) = false := beq_eq_false_iff_ne.mpr c15
          have c15b1 : (t473 != 0) = true := bne_iff_ne.mpr c15
          by_cases c22 : t473 = 1
          · rw [if_pos c22] at H
            have c22b0 : (t473 == 1) = true := beq_iff_eq.mpr c22
            have c22b1 : (t473 != 1) = false := bne_eq_false_iff_eq.mpr c22
            clear c22
            simp only [Option.some.injEq, Prod.mk.injEq] at H
            obtain ⟨rfl, rfl, rfl⟩ := H
            go_wp2_with (first | (refine gc_ 59 28 Try.func59 #[.pointer (some ⟨g, 0, none⟩), .int .i64 14] ?_; (with_reducible refine (spec_l1Cur_pick.calls g s0_0 x1001_1 x1002_1 14 t473 t474 t475 w0 _ ?_ ?_ A14.out).mono ?_); exact bI; exact bBI; rintro e w23 ⟨rfl, hi, hb, hk⟩; refine ⟨_, rfl, ?_⟩; replace HO_5 := amk (Kd.N_mono (Kd.N_keep (Kd.N_mono (ok := fun k_ => (((w.heap.size ≤ k_)) ∧ k_ ≠ g)) (oX HO_5) (fun k_ hk_ => (⟨hk_, hk_.2⟩ : _ ∧ k_ ≠ g))) hk (fun _ h => h.2)) (fun _ h => h.1)); replace HK := kT2 HK hk; replace HB := amk (hb); replace HI0 := amk (hi); (try clear hb); (try clear hk); (try clear hi)))
            go_ret
            exact ⟨_, rF_, xN_, bI, bBI, bK⟩
          · rw [if_neg c22] at H
            have c22b0 : (t473 == 1) = false := beq_eq_false_iff_ne.mpr c22
            have c22b1 : (t473 != 1) = true := bne_iff_ne.mpr c22
            by_cases c24 : t473 = 2
            · rw [if_pos c24] at H
              have c24b0 : (t473 == 2) = true := beq_iff_eq.mpr c24
              have c24b1 : (t473 != 2) = false := bne_eq_false_iff_eq.mpr c24
              clear c24
              have H' := amk H
              clear H
              go_wp2_with (first | (refine gc_ 59 28 Try.func59 #[.pointer (some ⟨g, 0, none⟩), .int .i64 14] ?_; (with_reducible refine (spec_l1Cur_pick.calls g s0_0 x1001_1 x1002_1 14 t473 t474 t475 w0 _ ?_ ?_ A14.out).mono ?_); exact bI; exact bBI; rintro e w25 ⟨rfl, hi, hb, hk⟩; refine ⟨_, rfl, ?_⟩; replace HO_5 := amk (Kd.N_mono (Kd.N_keep (Kd.N_mono (ok := fun k_ => (((w.heap.size ≤ k_)) ∧ k_ ≠ g)) (oX HO_5) (fun k_ hk_ => (⟨hk_, hk_.2⟩ : _ ∧ k_ ≠ g))) hk (fun _ h => h.2)) (fun _ h => h.1)); replace HK := kT2 HK hk; replace HB := amk (hb); replace HI0 := amk (hi); (try clear hb); (try clear hk); (try clear hi)))
              go_loopg [5] k1 (fun kq v5 w' => ∃ (x5_2 : List (S24)) (x1001_2 : Int) (x1002_2 : Int), Aside0 (spec_l1Cur_locks.l1 kq x5_2 s0_0 x1001_2 x1002_2 = some (r1, r2, r3)) ∧ Aside0 (kq ≤ k1) ∧ Aside0 (Kd.N k24 24 w' w.heap.size (fun k_ => (w.heap.size ≤ k_) ∧ k_ ≠ g) v5 x5_2) ∧ Aside0 (IsS73 w0 w' g s0_0 x1001_2 x1002_2) ∧ Aside0 (KeepBut w w' g none) ∧ Aside0 (Below w0.heap.size w0 w'))
              case atStart => exact ⟨(x5_1), (t474), (t475), H', ⟨Nat.le_refl _⟩, ⟨oX HO_5⟩, ⟨bI⟩, ⟨bK⟩, ⟨bBI⟩⟩
              case round =>
                clear H'
                try clear c1; try clear c2; try clear p2; try clear c5; try clear c6; try clear p6; try clear c8; try clear c8b0; try clear c10; try clear c15; try clear c15b0; try clear c15b1; try clear c17; try clear c22; try clear c22b0; try clear c22b1; try clear c24; try clear c24b0; try clear c24b1; try clear p2; try clear p6
                obtain ⟨x5_2, x1001_2, x1002_2, HA, HK2, HO_5, HI0, HK, HB⟩ := hrel
                cases gk with
                | zero => exact absurd HA.out (by simp [spec_l1Cur_locks.l1])
                | succ k2 =>
                  have H := HA.out
                  clear HA
                  simp only [spec_l1Cur_locks.l1] at H
                  replace H := bE H
                  obtain ⟨⟨t485, t486, t487⟩, A26, H⟩ := H
                  try dsimp only at H
                  replace H := iteE H; obtain ⟨c27b0, H⟩ | ⟨c27b0, H⟩ := H
                  · by_cases c28 : 0 < (x5_2.length : Int)
                    · rw [if_pos c28] at H
                      have c28b0 : decide (0 < (x5_2.length : Int)) = true := decide_eq_true c28
                      have c28b1 : decide (0 < x5_2.length) = true := decide_eq_true (by omega)
                      clear c28
                      by_cases c29 : x5_2.length < 4398046511104
                      · rw [if_pos c29] at H
                        have LMc29 := amk c29
                        clear c29
                        obtain ⟨y489, hy489⟩ : ∃ y_ : List (S24), y_ = (x5_2 ++ [(⟨(rd_T24 x5_2 0).f0, (rd_T24 x5_2 0).f1⟩ : S24)]) := ⟨_, rfl⟩
                        replace H : (spec_l1Cur_locks.l1 k2 y489 s0_0 t486 t487) = some (r1, r2, r3) := by first | (rw [hy489]; with_reducible exact H) | (have H2_ := (Option.bind_some _ _).symm.trans H; rw [hy489]; with_reducible exact H2_) | (have H2_ := (Option.bind_some _ _).symm.trans H; with_reducible exact H2_) | with_reducible exact H | (rw [hy489]; exact H) | exact H
                        have Ny489 := amk hy489
                        clear hy489
                        have H' := amk H
                        clear H
                        obtain ⟨Ao30, co30, eo30⟩ := Kd.N_slice HO_5.out
                        subst eo30
                        go_wp2_with (first | (refine gc_ 59 43 Try.func59 #[.pointer (some ⟨g, 0, none⟩), .int .i64 2] ?_; (with_reducible refine (spec_l1Cur_pick.calls g s0_0 x1001_2 x1002_2 2 t485 t486 t487 w0 _ ?_ ?_ A26.out).mono ?_); exact bI; exact bBI; rintro e w31 ⟨rfl, hi, hb, hk⟩; refine ⟨_, rfl, ?_⟩; replace HO_5 := amk (Kd.N_mono (Kd.N_keep (Kd.N_mono (ok := fun k_ => (((w.heap.size ≤ k_)) ∧ k_ ≠ g)) (oX HO_5) (fun k_ hk_ => (⟨hk_, hk_.2⟩ : _ ∧ k_ ≠ g))) hk (fun _ h => h.2)) (fun _ h => h.1)); replace HK := kT2 HK hk; replace HB := amk (hb); replace HI0 := amk (hi); (try clear hb); (try clear hk); (try clear hi); have p488 : 0 ≤ (0 : Int) := (by omega); have q488 : 0 < (x5_2.length : Int) := dA_; obtain ⟨ad488, A488_1, c488_1, e488, hx488_0, hx488_1, hl488_1, hi488_1⟩ := at_T24 (Kd.N_reads' HO_5.out).2.2 0 p488 q488; cases e488; obtain ⟨ce488, hce488, hMe488, hcc488⟩ := Kd.N_get HO_5.out z24 0 p488 (by first | exact q488 | exact dA_ | (have e_ := (Kd.N_reads' HO_5.out).1; omega)); obtain ⟨ua488_1, uc488_1, rfl, ul488_1, ge488_1⟩ := k24_openF hMe488; have hv488_1 := hcc488 1 _ rfl; rw [add_field _ _ 1 (by omega)] at hv488_1; replace hv488_1 := Option.some.inj (hv488_1.symm.trans hx488_1); injection hv488_1 with hva_ hvn_ hvc_; rw [hva_] at ge488_1; rw [hvc_] at ul488_1; have HL488_1 := amk (show Kd.V (Kd.slice 3 (Kd.int .i64)) 52 _ w.heap.size _ _ ((rd_T24 x5_2 0).f1) from Kd.V_mk ul488_1 ge488_1); clear hva_ hvn_ hvc_ ge488_1 ul488_1; clear hcc488 hce488; have qi488 : (0 < x5_2.length) = True := eq_true (by omega); (try rw [show ((0 : Int)).toNat = 0 from rfl] at hx488_0); (try rw [show 0 * 2 = 0 from rfl] at hx488_0); (try rw [Addr.add_zero'] at hx488_0); (try rw [show ((0 : Int)).toNat = 0 from rfl] at hx488_1); (try rw [show 0 * 2 = 0 from rfl] at hx488_1); (try rw [Addr.add_zero'] at hx488_1); have HR488_1 := amk hi488_1; have HC488_1 := amk hl488_1; clear hi488_1 hl488_1; replace p488 := eq_true p488; replace q488 := eq_true q488) | ((with_reducible refine gate_builtin (b := .append) (xs := #[.tmp 46, .tmp 50]) rfl ?_); at_builtin; refine Kd.N_append k24 w.heap.size rfl (.tmp 46) (.tmp 50) 25 24 (.agg #[(.int .i64 0), (.slice none 0 0)]) 32 rfl Try.underlying25 info24 rfl (by decide) (by omega) (.slice (some ad488) x5_2.length co30) x5_2 (⟨(rd_T24 x5_2 0).f0, (rd_T24 x5_2 0).f1⟩ : S24) [.int .i64 ((rd_T24 x5_2 0).f0), .slice A488_1 ((rd_T24 x5_2 0).f1).length c488_1] (fun k_ => (w.heap.size ≤ k_) ∧ k_ ≠ g) (fun k_ => ((fun k_ => (w.heap.size ≤ k_) ∧ k_ ≠ g)) k_ ∧ some k_ ≠ (.slice (some ad488) x5_2.length co30 : Value).ownBlock) rfl rfl (k24_mkF _ _ (⟨(rd_T24 x5_2 0).f0, (rd_T24 x5_2 0).f1⟩ : S24) (Kd.V_reads' (Kd.V_mono (ok' := (fun k_ => ((fun k_ => (w.heap.size ≤ k_) ∧ k_ ≠ g)) k_ ∧ some k_ ≠ (.slice (some ad488) x5_2.length co30 : Value).ownBlock)) (HL488_1.out) (fun k_ hk => ⟨⟨hk.1.1, hk.1.2⟩, hk.2⟩))).2.1 (Kd.V_F (Kd.V_mono (ok' := (fun k_ => ((fun k_ => (w.heap.size ≤ k_) ∧ k_ ≠ g)) k_ ∧ some k_ ≠ (.slice (some ad488) x5_2.length co30 : Value).ownBlock)) (HL488_1.out) (fun k_ hk => ⟨⟨hk.1.1, hk.1.2⟩, hk.2⟩)))) (fun _ hk => hk) (fun k_ hk => ⟨(Nat.le_trans (keep_size (w := w) (g := g) (row := none) bK) hk), IsS73.fresh bI k_ hk⟩) (oX HO_5) (Below.refl _ _) (keep_size (w := w) (g := g) (row := none) bK) (by have := LMc29.out; omega) ?_; intro v490 w32 ho hb hg hat; rw [← Ny489.out] at ho; replace HL488_1 := amk (Kd.V_afterv (ok := (fun k_ => (w.heap.size ≤ k_) ∧ k_ ≠ g)) (oX HL488_1) hg hat); replace HB := amk (below_weaken bBI HL.out hb); replace HI0 := amk (IsS73.grown bI hg (IsS73.own_neN HI0.out HO_5.out (by decide))); replace HK := amk (KeepBut.trans bK (KeepBut.of_grown hg g) (Kd.N_base2 HO_5.out)); have HO491 := amk (ho); clear HO_5; clear ho hb hg hat))
                        go_roundg k2
                        case measure => have := HK1.out; have := HK2.out; omega
                        case rel => exact ⟨(y489), (t486), (t487), H', ⟨by have := HK1.out; have := HK2.out; omega⟩, ⟨oX HO491⟩, ⟨bI⟩, ⟨bK⟩, ⟨bBI⟩⟩
                      · rw [if_neg c29] at H
                        exact absurd H (by simp)
                    · rw [if_neg c28] at H
                      exact absurd H (by simp)
                  · simp only [Option.some.injEq, Prod.mk.injEq] at H
                    obtain ⟨rfl, rfl, rfl⟩ := H
                    obtain ⟨Ao33, co33, eo33⟩ := Kd.N_slice HO_5.out
                    subst eo33
                    go_wp2_with (first | (refine gc_ 59 43 Try.func59 #[.pointer (some ⟨g, 0, none⟩), .int .i64 2] ?_; (with_reducible refine (spec_l1Cur_pick.calls g s0_0 x1001_2 x1002_2 2 t485 t486 t487 w0 _ ?_ ?_ A26.out).mono ?_); exact bI; exact bBI; rintro e w34 ⟨rfl, hi, hb, hk⟩; refine ⟨_, rfl, ?_⟩; replace HO_5 := amk (Kd.N_mono (Kd.N_keep (Kd.N_mono (ok := fun k_ => (((w.heap.size ≤ k_)) ∧ k_ ≠ g)) (oX HO_5) (fun k_ hk_ => (⟨hk_, hk_.2⟩ : _ ∧ k_ ≠ g))) hk (fun _ h => h.2)) (fun _ h => h.1)); replace HK := kT2 HK hk; replace HB := amk (hb); replace HI0 := amk (hi); (try clear hb); (try clear hk); (try clear hi)))
                    go_ret
                    exact ⟨_, rF_, by (with_reducible repeat (first | apply Kd.N_alloc | apply Kd.N_drewN | apply Kd.N_drew)); exact Kd.N_mono HO_5.out (fun _ hk => hk.1), bI, bBI, bK⟩
            · rw [if_neg c24] at H
              have c24b0 : (t473 == 2) = false := beq_eq_false_iff_ne.mpr c24
              have c24b1 : (t473 != 2) = true := bne_iff_ne.mpr c24
              simp only [Option.some.injEq, Prod.mk.injEq] at H
              obtain ⟨rfl, rfl, rfl⟩ := H
              go_wp2_with (first | (refine gc_ 59 28 Try.func59 #[.pointer (some ⟨g, 0, none⟩), .int .i64 14] ?_; (with_reducible refine (spec_l1Cur_pick.calls g s0_0 x1001_1 x1002_1 14 t473 t474 t475 w0 _ ?_ ?_ A14.out).mono ?_); exact bI; exact bBI; rintro e w35 ⟨rfl, hi, hb, hk⟩; refine ⟨_, rfl, ?_⟩; replace HO_5 := amk (Kd.N_mono (Kd.N_keep (Kd.N_mono (ok := fun k_ => (((w.heap.size ≤ k_)) ∧ k_ ≠ g)) (oX HO_5) (fun k_ hk_ => (⟨hk_, hk_.2⟩ : _ ∧ k_ ≠ g))) hk (fun _ h => h.2)) (fun _ h => h.1)); replace HK := kT2 HK hk; replace HB := amk (hb); replace HI0 := amk (hi); (try clear hb); (try clear hk); (try clear hi)))
              go_ret
              exact ⟨_, rF_, by (with_reducible repeat (first | apply Kd.N_alloc | apply Kd.N_drewN | apply Kd.N_drew)); exact Kd.N_mono HO_5.out (fun _ hk => hk.1), bI, bBI, bK⟩
/-! The draws of pins and of lists of pins. -/
theorem dpins_ok {s : List Int} (hs : BytesV s) {a : Int} (h0 : 0 ≤ a) (h1 : a ≤ 1000000) (b : Int) : ∃ n L a' b', Ev (fun k => spec_l1Cur_pins.f k s a b) (n, L, a', b') ∧ SmallR L ∧ a ≤ a' ∧ a' ≤ a + 300 := by
  obtain ⟨x1, a1, b1, e1, p1, q1, u1, v1⟩ := dpick_ok hs h0 (by omega) b (n := 6) (by omega)
  obtain ⟨x2, a2, b2, e2, p2, q2, u2, v2⟩ := dpick_ok hs (a := a1) (by omega) (by omega) b1 (n := 5) (by omega)
  obtain ⟨L, a3, b3, e3, hL, hl, u3, v3⟩ := dsurePins_ok hs (a := a2) (by omega) (by omega) b2 (n := (1 + x1).toNat) (m := (1 + x2).toNat) (by omega) (by omega)
  have w1 := amk (show wrap64 (1 + x1) = (((1 + x1).toNat : Nat) : Int) by rw [w64 (by omega) (by omega)]; omega)
  have w2 := amk (show wrap64 (1 + x2) = (((1 + x2).toNat : Nat) : Int) by rw [w64 (by omega) (by omega)]; omega)
  obtain ⟨x4, a4, b4, e4, p4, q4, u4, v4⟩ := dpick_ok hs (a := a3) (by omega) (by omega) b3 (n := 16) (by omega)
  have hlp : 0 < L.length := by omega
  by_cases c0 : x4 = 0
  · obtain ⟨r, a5, b5, e5, _, u5, v5⟩ := damong_ok hs (a := a4) (by omega) (by omega) b4 (l := [(-1), 0, 1, 9, 10, 4611686018427387904]) (by decide) (by decide)
    refine ⟨r, L, a5, b5, ?_, hL, by omega, by omega⟩
    unfold spec_l1Cur_pins.f
    refine Ev.bindc e1 (Ev.bindc e2 ?_)
    simp only [w1.out, w2.out]
    exact Ev.bind e3 (Ev.bindc e4 (Ev.yes c0 (Ev.bindc e5 (Ev.now _))))
  · by_cases c1 : x4 = 1
    · obtain ⟨r, a5, b5, e5, hr, u5, v5⟩ := dfew3_ok hs (a := a4) (by omega) (by omega) b4
      refine ⟨(((1 + x1).toNat : Nat) : Int), L.set (0 : Int).toNat r, a5, b5, ?_, ⟨by rw [List.length_set]; exact hL.1, fun y hy => ?_⟩, by omega, by omega⟩
      · unfold spec_l1Cur_pins.f
        refine Ev.bindc e1 (Ev.bindc e2 ?_)
        simp only [w1.out, w2.out]
        exact Ev.bind e3 (Ev.bindc e4 (Ev.no c0 (Ev.yes c1 (Ev.bind e5 (Ev.yes (by show (0 : Int) < (L.length : Int); omega) (Ev.now _))))))
      · rcases List.mem_or_eq_of_mem_set hy with hy | rfl
        · exact hL.2 y hy
        · omega
    · by_cases c2 : x4 = 2
      · obtain ⟨x5, a5, b5, e5, p5, q5, u5, v5⟩ := dpick_ok hs (a := a4) (by omega) (by omega) b4 (n := 2) (by omega)
        obtain ⟨L6, a6, b6, e6, hL6, _, u6, v6⟩ := dsurePins_ok hs (a := a5) (by omega) (by omega) b5 (n := 9) (m := (7 + x5).toNat) (by omega) (by omega)
        have w3 := amk (show wrap64 (7 + x5) = (((7 + x5).toNat : Nat) : Int) by rw [w64 (by omega) (by omega)]; omega)
        refine ⟨((9 : Nat) : Int), L6, a6, b6, ?_, hL6, by omega, by omega⟩
        unfold spec_l1Cur_pins.f
        refine Ev.bindc e1 (Ev.bindc e2 ?_)
        simp only [w1.out, w2.out]
        refine Ev.bind e3 (Ev.bindc e4 (Ev.no c0 (Ev.no c1 (Ev.yes c2 (Ev.bindc e5 ?_)))))
        simp only [w3.out]
        exact Ev.bind e6 (Ev.now _)
      · by_cases c3 : x4 = 3
        · refine ⟨(((1 + x1).toNat : Nat) : Int), [], a4, b4, ?_, ⟨by decide, fun y hy => by cases hy⟩, by omega, by omega⟩
          unfold spec_l1Cur_pins.f
          refine Ev.bindc e1 (Ev.bindc e2 ?_)
          simp only [w1.out, w2.out]
          exact Ev.bind e3 (Ev.bindc e4 (Ev.no c0 (Ev.no c1 (Ev.no c2 (Ev.yes c3 (Ev.now _))))))
        · refine ⟨(((1 + x1).toNat : Nat) : Int), L, a4, b4, ?_, hL, by omega, by omega⟩
          unfold spec_l1Cur_pins.f
          refine Ev.bindc e1 (Ev.bindc e2 ?_)
          simp only [w1.out, w2.out]
          exact Ev.bind e3 (Ev.bindc e4 (Ev.no c0 (Ev.no c1 (Ev.no c2 (Ev.no c3 (Ev.now _))))))
def SmallP (l : List S24) : Prop := l.length ≤ 20 ∧ ∀ p ∈ l, SmallR p.f1
theorem SmallP.snoc {l : List S24} {q : S24} (h : ∀ p ∈ l, SmallR p.f1) (hq : SmallR q.f1) : ∀ p ∈ l ++ [q], SmallR p.f1 := by
  intro p hp
  rcases List.mem_append.mp hp with hp | hp
  · exact h p hp
  · rw [List.mem_singleton.mp hp]; exact hq
theorem locks1_ok {s : List Int} (hs : BytesV s) : ∀ (m : Nat) (l : List S24) (a : Int) (b : Int), 0 ≤ a → a + m ≤ 100000 → 0 < l.length → (∀ p ∈ l, SmallR p.f1) → 8 ≤ l.length + m → l.length ≤ 8 → ∃ r a' b', Ev (fun k => spec_l1Cur_locks.l1 k l s a b) (r, a', b') ∧ SmallP r := by
  intro m
  induction m with
  | zero =>
    intro l a b h0 h1 hl hp h8 h9
    obtain ⟨x, a1, b1, e, p1, q1, u1, v1⟩ := dpick_ok hs h0 (by omega) b (n := 2) (by omega)
    have w1 := amk (show wrap64 (6 + x) = 6 + x from w64 (by omega) (by omega))
    refine ⟨l, a1, b1, Ev.step (fun k => rfl) ?_, ⟨by omega, hp⟩⟩
    simp only [spec_l1Cur_locks.l1]
    refine Ev.bindc e ?_
    simp only [w1.out]
    exact Ev.no (by omega) (Ev.now _)
  | succ m ih =>
    intro l a b h0 h1 hl hp h8 h9
    obtain ⟨x, a1, b1, e, p1, q1, u1, v1⟩ := dpick_ok hs h0 (by omega) b (n := 2) (by omega)
    have w1 := amk (show wrap64 (6 + x) = 6 + x from w64 (by omega) (by omega))
    by_cases c : (l.length : Int) < 6 + x
    · have hr0 : rd_T24 l 0 = l[0] := rd_pins hl
      obtain ⟨r, a2, b2, e2, h2⟩ := ih (l ++ [(⟨l[0].f0, l[0].f1⟩ : S24)]) a1 b1 (by omega) (by omega) (by simp) (SmallP.snoc hp (hp l[0] (List.getElem_mem hl))) (by rw [List.length_append, List.length_singleton]; omega) (by rw [List.length_append, List.length_singleton]; omega)
      refine ⟨r, a2, b2, Ev.step (fun k => rfl) ?_, h2⟩
      simp only [spec_l1Cur_locks.l1]
      refine Ev.bindc e ?_
      simp only [w1.out, hr0]
      exact Ev.yes c (Ev.yes (by omega) (Ev.yes (by omega) e2))
    · refine ⟨l, a1, b1, Ev.step (fun k => rfl) ?_, ⟨by omega, hp⟩⟩
      simp only [spec_l1Cur_locks.l1]
      refine Ev.bindc e ?_
      simp only [w1.out]
      exact Ev.no c (Ev.now _)
theorem locks0_ok {s : List Int} (hs : BytesV s) {d p : Nat} (hd : d ≤ 9) (hp8 : p ≤ 8) : ∀ (m : Nat) (l : List S24) (a : Int) (b : Int), 0 ≤ a → a + 100 * m ≤ 50000 → 0 < l.length + m → l.length + m ≤ 5 → (∀ q ∈ l, SmallR q.f1) → ∃ r a' b', Ev (fun k => spec_l1Cur_locks.l0 k (d : Int) (p : Int) l (m : Int) s a b) (r, a', b') ∧ SmallP r := by
  intro m
  induction m with
  | zero =>
    intro l a b h0 h1 hl h5 hp
    obtain ⟨x, a1, b1, e, p1, q1, u1, v1⟩ := dpick_ok hs h0 (by omega) b (n := 14) (by omega)
    by_cases c0 : x = 0
    · obtain ⟨n, L, a2, b2, e2, hL, u2, v2⟩ := dpins_ok hs (a := a1) (by omega) (by omega) b1
      refine ⟨l ++ [(⟨n, L⟩ : S24)], a2, b2, Ev.step (fun k => rfl) ?_, ⟨by rw [List.length_append, List.length_singleton]; omega, SmallP.snoc hp hL⟩⟩
      simp only [spec_l1Cur_locks.l0]
      exact Ev.no (by omega) (Ev.bindc e (Ev.yes c0 (Ev.bind e2 (Ev.yes (by omega) (Ev.now _)))))
    · by_cases c1 : x = 1
      · refine ⟨[], a1, b1, Ev.step (fun k => rfl) ?_, ⟨by decide, fun q hq => by cases hq⟩⟩
        simp only [spec_l1Cur_locks.l0]
        exact Ev.no (by omega) (Ev.bindc e (Ev.no c0 (Ev.yes c1 (Ev.now _))))
      · by_cases c2 : x = 2
        · obtain ⟨r, a2, b2, e2, h2⟩ := locks1_ok hs 8 l a1 b1 (by omega) (by omega) (by omega) hp (by omega) (by omega)
          refine ⟨r, a2, b2, Ev.step (fun k => rfl) ?_, h2⟩
          simp only [spec_l1Cur_locks.l0]
          exact Ev.no (by omega) (Ev.bindc e (Ev.no c0 (Ev.no c1 (Ev.yes c2 e2))))
        · refine ⟨l, a1, b1, Ev.step (fun k => rfl) ?_, ⟨by omega, hp⟩⟩
          simp only [spec_l1Cur_locks.l0]
          exact Ev.no (by omega) (Ev.bindc e (Ev.no c0 (Ev.no c1 (Ev.no c2 (Ev.now _)))))
  | succ m ih =>
    intro l a b h0 h1 hl h5 hp
    obtain ⟨L, a1, b1, e, hL, _, u1, v1⟩ := dsurePins_ok hs (a := a) h0 (by omega) b hd hp8
    obtain ⟨r, a2, b2, e2, h2⟩ := ih (l ++ [(⟨(d : Int), L⟩ : S24)]) a1 b1 (by omega) (by omega) (by rw [List.length_append, List.length_singleton]; omega) (by rw [List.length_append, List.length_singleton]; omega) (SmallP.snoc hp hL)
    refine ⟨r, a2, b2, Ev.step (fun k => rfl) ?_, h2⟩
    simp only [spec_l1Cur_locks.l0]
    refine Ev.yes (by omega) (Ev.bind e (Ev.yes (by omega) ?_))
    simp only [wr_dec (p := m) (by omega)]
    exact e2
theorem locks_ok {s : List Int} (hs : BytesV s) (b : Int) : ∃ r a' b', Ev (fun k => spec_l1Cur_locks.f k s 0 b) (r, a', b') ∧ SmallP r := by
  obtain ⟨x1, a1, b1, e1, p1, q1, u1, v1⟩ := dpick_ok hs (a := 0) (by omega) (by omega) b (n := 5) (by omega)
  obtain ⟨x2, a2, b2, e2, p2, q2, u2, v2⟩ := dpick_ok hs (a := a1) (by omega) (by omega) b1 (n := 4) (by omega)
  obtain ⟨x3, a3, b3, e3, p3, q3, u3, v3⟩ := dpick_ok hs (a := a2) (by omega) (by omega) b2 (n := 4) (by omega)
  obtain ⟨r, a4, b4, e4, h4⟩ := locks0_ok hs (d := (1 + x1).toNat) (p := (1 + x2).toNat) (by omega) (by omega) (1 + x3).toNat [] a3 b3 (by omega) (by omega) (by show 0 < 0 + _; omega) (by show 0 + _ ≤ 5; omega) (fun q hq => by cases hq)
  have w1 := amk (show wrap64 (1 + x1) = (((1 + x1).toNat : Nat) : Int) by rw [w64 (by omega) (by omega)]; omega)
  have w2 := amk (show wrap64 (1 + x2) = (((1 + x2).toNat : Nat) : Int) by rw [w64 (by omega) (by omega)]; omega)
  have w3 := amk (show wrap64 (1 + x3) = (((1 + x3).toNat : Nat) : Int) by rw [w64 (by omega) (by omega)]; omega)
  refine ⟨r, a4, b4, ?_, h4⟩
  unfold spec_l1Cur_locks.f
  refine Ev.bindc e1 (Ev.bindc e2 (Ev.bindc e3 ?_))
  simp only [w1.out, w2.out, w3.out]
  exact e4
/-! Reads at an index, with what the walks make of them. -/
theorem at_L1q {w W : World} {A : Option Addr} {n : Nat} {xs : List (List Int)} (h : Aside0 (Kd.C (Kd.slice 3 (Kd.int .i64)) w A n xs)) (HB : Aside0 (Below w.heap.size w W)) (i : Int) (h0 : 0 ≤ i := by exact dA_) (h1 : i < n := by exact dA_) : (0 ≤ i) = True ∧ (i < n) = True ∧ ∃ ad A0 c0, A = some ad ∧ W.cell? (ad.add i.toNat) = some (.slice A0 (rd_L1 xs i).length c0) ∧ Aside0 ((rd_L1 xs i).length ≤ c0) ∧ Aside0 ((Kd.int .i64).C w A0 (rd_L1 xs i).length (rd_L1 xs i)) := by
  obtain ⟨ad, A0, c0, e, hx, hl, hi⟩ := at_L1 h.out i h0 h1
  exact ⟨eq_true h0, eq_true h1, ad, A0, c0, e, (HB.out.cell (World.block_lt_of_cell? w _ hx)).trans hx, ⟨hl⟩, ⟨hi⟩⟩
/-! ### impl_Pins_keys: function 39 -/
def impl_Pins_keys.l0 : Nat → Int → List (List Int) → Int → Int → Option (Int)
  | 0, _, _, _, _ => none
  | k + 1, x3, x7, x8, x9 => if x9 < x8 then (if 0 ≤ x9 then (if x9 < (x7.length : Int) then (impl_Pins_keys.l0 k (wrap64 (x3 * ((rd_L1 x7 x9).length : Int))) x7 x8 (wrap64 (x9 + 1))) else (none)) else (none)) else (some x3)
def impl_Pins_keys.f (k : Nat) (a0_0 : Int) (l0_1 : List (List Int)) : Option (Int) := impl_Pins_keys.l0 k 1 l0_1 (l0_1.length : Int) 0
set_option maxHeartbeats 8000000 in
set_option maxRecDepth 100000 in
theorem impl_Pins_keys.calls (k : Nat) (a0_0 : Int) (A0_1 : Option Addr) (c0_1 : Nat) (l0_1 : List (List Int)) (r : Int) (w : World) (hr0_1 : Kd.C (Kd.slice 3 (Kd.int .i64)) w A0_1 l0_1.length l0_1) (hc0_1 : l0_1.length ≤ c0_1) (h : impl_Pins_keys.f k a0_0 l0_1 = some r) :
    Calls Try.prog 39 #[.agg #[.int .i64 a0_0, .slice A0_1 l0_1.length c0_1]] w fun e w' => e = .returned (.int .i64 r) ∧ Below w.heap.size w w' := by
  have hu24 := Try.underlying24
  have HR0_1 := amk hr0_1
  have HC0_1 := amk hc0_1
  clear hr0_1 hc0_1
  have HB := amk (Below.refl w.heap.size w)
  have H : (impl_Pins_keys.l0 k 1 l0_1 (l0_1.length : Int) 0) = some r := h
  clear h
  have H' := amk H
  clear H
  go_enter Try.func39, Try.ntmps39
  go_wp2_with (first | ((with_reducible refine gate_dst (N := 1) rfl ?_); refine boxE_ HB 1 #[.int .i64 a0_0, .slice A0_1 l0_1.length c0_1] 24 ?_; clear HB; intro gb150 w2 HB BK150 GW150 GE150 hb; clear hb; obtain ⟨hcz3_0, hcz3_1, hfz3_0, hfz3_1, _⟩ := two_cells BK150.out))
  go_loopg [3, 9] k (fun kq v3 v9 w' => ∃ (x3_1 : Int) (x9_1 : Int), v3 = .int .i64 x3_1 ∧ v9 = .int .i64 x9_1 ∧ Aside0 (impl_Pins_keys.l0 kq x3_1 l0_1 (l0_1.length : Int) x9_1 = some r) ∧ Aside0 (kq ≤ k) ∧ Aside0 (w'.heap[gb150]? = some (.cells #[.int .i64 a0_0, (.slice A0_1 l0_1.length c0_1)] 24 (0, 0))) ∧ Aside0 (Below w.heap.size w w'))
  case atStart => exact ⟨(1), (0), rS_, rS_, H', ⟨Nat.le_refl _⟩, ⟨kB BK150⟩, ⟨bB⟩⟩
  case round =>
    clear H'
    try clear p2; try clear c3; try clear hcz3_0; try clear hcz3_1; try clear hfz3_0; try clear hfz3_1
    obtain ⟨x3_1, x9_1, rfl, rfl, HA, HK1, BK150, HB⟩ := hrel
    cases gk with
    | zero => exact absurd HA.out (by simp [impl_Pins_keys.l0])
    | succ k1 =>
      have H := HA.out
      clear HA
      simp only [impl_Pins_keys.l0] at H
      replace H := iteE H; obtain ⟨c4b0, H⟩ | ⟨c4b0, H⟩ := H
      · replace H := iteN H; obtain ⟨c5b0, H⟩ := H
        replace H := iteN H; obtain ⟨c6b0, H⟩ := H
        have H' := amk H
        clear H
        obtain ⟨p151, q151, ad151, A151_0, c151_0, e151, hx151_0, HC151_0, HR151_0⟩ := at_L1q HR0_1 HB x9_1
        cases e151
        go_wp2
        go_roundg k1
        case measure => have := HK1.out; omega
        case rel => exact ⟨(wrap64 (x3_1 * ((rd_L1 l0_1 x9_1).length : Int))), (wrap64 (x9_1 + 1)), rS_, rS_, H', ⟨by have := HK1.out; omega⟩, ⟨kB BK150⟩, ⟨bB⟩⟩
      · obtain rfl := Option.some.inj H
        go_wp2
        go_ret
        exact ⟨rF_, bB⟩
/-! ### impl_text: function 67 -/
def impl_text.l0 : Nat → List Int → List Int → Int → Int → Option (ByteArray)
  | 0, _, _, _, _ => none
  | k + 1, x3, x7, x8, x9 => if x9 < x8 then (if 0 ≤ x9 then (if x9 < (x7.length : Int) then (if x3.length < 140737488355328 then (impl_text.l0 k (x3 ++ [(wrap64 (48 + (rd x7 x9))) % 256]) x7 x8 (wrap64 (x9 + 1))) else (none)) else (none)) else (none)) else (some (strOfNums x3))
def impl_text.f (k : Nat) (l0 : List Int) : Option (ByteArray) := impl_text.l0 k (([] : List Int)) l0 (l0.length : Int) 0
set_option maxHeartbeats 8000000 in
set_option maxRecDepth 100000 in
theorem impl_text.calls (k : Nat) (A0 : Option Addr) (c0 : Nat) (l0 : List Int) (r : ByteArray) (w : World) (hr0 : Kd.C (Kd.int .i64) w A0 l0.length l0) (hc0 : l0.length ≤ c0) (h : impl_text.f k l0 = some r) :
    Calls Try.prog 67 #[.slice A0 l0.length c0] w fun e w' => e = .returned (.string r) ∧ Below w.heap.size w w' := by
  have HR0 := amk hr0
  have HC0 := amk hc0
  clear hr0 hc0
  have HB := amk (Below.refl w.heap.size w)
  have H : (impl_text.l0 k (([] : List Int)) l0 (l0.length : Int) 0) = some r := h
  clear h
  obtain ⟨y160, hy160⟩ : ∃ y_ : List Int, y_ = (([] : List Int)) := ⟨_, rfl⟩
  replace H : (impl_text.l0 k y160 l0 (l0.length : Int) 0) = some r := by first | (rw [hy160]; with_reducible exact H) | (have H2_ := (Option.bind_some _ _).symm.trans H; rw [hy160]; with_reducible exact H2_) | (have H2_ := (Option.bind_some _ _).symm.trans H; with_reducible exact H2_) | with_reducible exact H | (rw [hy160]; exact H) | exact H
  have Ny160 := amk hy160
  clear hy160
  have H' := amk H
  clear H
  go_enter Try.func67, Try.ntmps67
  go_wp2_with (first | ((with_reducible refine gate_dst (N := 6) rfl ?_); refine Kd.R_lit (Kd.int .u8) _ 5 ?hg (N := 6) ?hd (xs := ([] : List Int)) (inner := []) (ok := fun _ => True) (okp := fun _ => True) ?hr ?hp (fun _ hk => hk) trivial (Below.refl _ _) (Nat.le_refl _) (by simp) ?_; (case hd => rfl); (case hg => rfl); (case hr => first | (go_simp; done) | (go_simp; rfl)); (case hp => exact (Reps.none _ _)); intro v161 w2 ho3 hb hg_ hnew_; clear hg_ hnew_; (first | rw [← Ny160.out] at ho3 | (simp only [Int.reduceToNat] at ho3; rw [← Ny160.out] at ho3)); have HO162 := amk (Kd.R_lower ho3 (below_size bB)); replace HB := hB2 HB hb; clear hb ho3))
  go_loopg [3, 9] k (fun kq v3 v9 w' => ∃ (x3_1 : List Int) (x9_1 : Int), v9 = .int .i64 x9_1 ∧ Aside0 (impl_text.l0 kq x3_1 l0 (l0.length : Int) x9_1 = some r) ∧ Aside0 (kq ≤ k) ∧ Aside0 (Kd.R (Kd.int .u8) 5 w' w.heap.size (fun _ => True) v3 x3_1) ∧ Aside0 (Below w.heap.size w w'))
  case atStart => exact ⟨(y160), (0), rS_, H', ⟨Nat.le_refl _⟩, ⟨oX HO162⟩, ⟨bB⟩⟩
  case round =>
    clear H'
    try clear p2
    obtain ⟨x3_1, x9_1, rfl, HA, HK1, HO_3, HB⟩ := hrel
    cases gk with
    | zero => exact absurd HA.out (by simp [impl_text.l0])
    | succ k1 =>
      have H := HA.out
      clear HA
      simp only [impl_text.l0] at H
      replace H := iteE H; obtain ⟨c4b0, H⟩ | ⟨c4b0, H⟩ := H
      · replace H := iteN H; obtain ⟨c5b0, H⟩ := H
        replace H := iteN H; obtain ⟨c6b0, H⟩ := H
        by_cases c7 : x3_1.length < 140737488355328
        · rw [if_pos c7] at H
          have LMc7 := amk c7
          clear c7
          obtain ⟨y164, hy164⟩ : ∃ y_ : List Int, y_ = (x3_1 ++ [(wrap64 (48 + (rd l0 x9_1))) % 256]) := ⟨_, rfl⟩
          replace H : (impl_text.l0 k1 y164 l0 (l0.length : Int) (wrap64 (x9_1 + 1))) = some r := by first | (rw [hy164]; with_reducible exact H) | (have H2_ := (Option.bind_some _ _).symm.trans H; rw [hy164]; with_reducible exact H2_) | (have H2_ := (Option.bind_some _ _).symm.trans H; with_reducible exact H2_) | with_reducible exact H | (rw [hy164]; exact H) | exact H
          have Ny164 := amk hy164
          clear hy164
          have H' := amk H
          clear H
          have p163 : 0 ≤ (x9_1 : Int) := dA_
          have q163 : x9_1 < (l0.length : Int) := dA_
          obtain ⟨ad163, e163, hx163_0⟩ := Kd.at_int HR0.out x9_1 p163 q163
          cases e163
          replace hx163_0 := (HB.out.cell (World.block_lt_of_cell? w _ hx163_0)).trans hx163_0
          replace p163 := eq_true p163
          replace q163 := eq_true q163
          go_wp2_with (first | ((with_reducible refine gate_builtin (b := .append) (xs := #[.tmp 13, .tmp 17]) rfl ?_); at_builtin; refine Kd.R_append (Kd.int .u8) (w0 := w) w.heap.size rfl (.tmp 13) (.tmp 17) 44 5 (.int .u8 0) 1 rfl Try.underlying44 info5 rfl (by decide) (by omega) u3 x3_1 ((wrap64 (48 + (rd l0 x9_1))) % 256) [.int .u8 ((wrap64 (48 + (rd l0 x9_1))) % 256)] (fun _ => True) (fun _ => False) rfl rfl rfl (fun _ hk => hk.elim) (fun _ _ => trivial) (oX HO_3) bB (below_size bB) (by have := LMc7.out; omega) ?_; intro v165 w8 ho hb hg hat; rw [← Ny164.out] at ho; replace HB := amk (hb); have HO166 := amk (ho); clear HO_3; clear ho hb hg hat))
          go_roundg k1
          case measure => have := HK1.out; omega
          case rel => exact ⟨(y164), (wrap64 (x9_1 + 1)), rS_, H', ⟨by have := HK1.out; omega⟩, ⟨oX HO166⟩, ⟨bB⟩⟩
        · rw [if_neg c7] at H
          exact absurd H (by simp)
      · obtain rfl := Option.some.inj H
        have hcv9 := own_string (P := Try.prog) Try.underlying44 Try.underlying5 Try.underlying9 (Kd.own_of_R HO_3.out)
        go_wp2
        go_ret
        exact ⟨rF_, bB⟩
/-! ### impl_Pins_all: function 41 -/
mutual
def impl_Pins_all.l0 : Nat → List ByteArray → List (List Int) → Int → Int → Option (List ByteArray × Bool)
  | 0, _, _, _, _ => none
  | k + 1, x4, x17, x18, x19 => if x19 < x18 then (if 0 ≤ x19 then (if x19 < (x17.length : Int) then (impl_Pins_all.l1 k (rd_L1 x17 x19) (([] : List ByteArray)) x17 x18 x19 x4 (x4.length : Int) 0) else (none)) else (none)) else (some (x4, true))
def impl_Pins_all.l1 : Nat → List Int → List ByteArray → List (List Int) → Int → Int → List ByteArray → Int → Int → Option (List ByteArray × Bool)
  | 0, _, _, _, _, _, _, _, _ => none
  | k + 1, x6, x7, x17, x18, x19, x24, x25, x26 => if x26 < x25 then (if 0 ≤ x26 then (if x26 < (x24.length : Int) then (impl_Pins_all.l2 k x6 x7 (rdOf ByteArray.empty x24 x26) x17 x18 x19 x24 x25 x26 x6 (x6.length : Int) 0) else (none)) else (none)) else (impl_Pins_all.l0 k x7 x17 x18 (wrap64 (x19 + 1)))
def impl_Pins_all.l2 : Nat → List Int → List ByteArray → ByteArray → List (List Int) → Int → Int → List ByteArray → Int → Int → List Int → Int → Int → Option (List ByteArray × Bool)
  | 0, _, _, _, _, _, _, _, _, _, _, _, _ => none
  | k + 1, x6, x7, x9, x17, x18, x19, x24, x25, x26, x30, x31, x32 => if x32 < x31 then (if 0 ≤ x32 then (if x32 < (x30.length : Int) then ((impl_text.f k (([rd x30 x32] : List Int))).bind fun t181 => (if x9.size + t181.size ≤ 9223372036854775807 then (if x7.length < 8796093022208 then (impl_Pins_all.l2 k x6 (x7 ++ [x9 ++ t181]) x9 x17 x18 x19 x24 x25 x26 x30 x31 (wrap64 (x32 + 1))) else (none)) else (none))) else (none)) else (none)) else (impl_Pins_all.l1 k x6 x7 x17 x18 x19 x24 x25 (wrap64 (x26 + 1)))
end
def impl_Pins_all.f (k : Nat) (a0_0 : Int) (l0_1 : List (List Int)) : Option (List ByteArray × Bool) := (impl_Pins_keys.f k a0_0 l0_1).bind fun t168 => (if t168 > 200 then (some (([] : List ByteArray), false)) else (impl_Pins_all.l0 k (([(⟨#[]⟩ : ByteArray)] : List ByteArray)) l0_1 (l0_1.length : Int) 0))
set_option maxHeartbeats 8000000 in
set_option maxRecDepth 100000 in
theorem impl_Pins_all.calls (k : Nat) (a0_0 : Int) (A0_1 : Option Addr) (c0_1 : Nat) (l0_1 : List (List Int)) (r1 : List ByteArray) (r2 : Bool) (w : World) (hr0_1 : Kd.C (Kd.slice 3 (Kd.int .i64)) w A0_1 l0_1.length l0_1) (hc0_1 : l0_1.length ≤ c0_1) (h : impl_Pins_all.f k a0_0 l0_1 = some (r1, r2)) :
    Calls Try.prog 41 #[.agg #[.int .i64 a0_0, .slice A0_1 l0_1.length c0_1]] w fun e w' => ∃ v0_ : Value, e = .returned (.tuple #[v0_, .bool r2]) ∧ Kd.R Kd.string 9 w' w.heap.size (fun _ => True) v0_ r1 ∧ Below w.heap.size w w' := by
  have hu24 := Try.underlying24
  have HR0_1 := amk hr0_1
  have HC0_1 := amk hc0_1
  clear hr0_1 hc0_1
  have HB := amk (Below.refl w.heap.size w)
  have H : ((impl_Pins_keys.f k a0_0 l0_1).bind fun t168 => (if t168 > 200 then (some (([] : List ByteArray), false)) else (impl_Pins_all.l0 k (([(⟨#[]⟩ : ByteArray)] : List ByteArray)) l0_1 (l0_1.length : Int) 0))) = some (r1, r2) := h
  clear h
  replace H := bE H
  obtain ⟨t168, A2, H⟩ := H
  by_cases c3 : t168 > 200
  · rw [if_pos c3] at H
    have c3b0 : decide (200 < t168) = true := decide_eq_true c3
    clear c3
    simp only [Option.some.injEq, Prod.mk.injEq] at H
    obtain ⟨rfl, rfl⟩ := H
    go_enter Try.func41, Try.ntmps41
    go_wp2_with (first | ((with_reducible refine gate_dst (N := 1) rfl ?_); refine boxE_ HB 1 #[.int .i64 a0_0, .slice A0_1 l0_1.length c0_1] 24 ?_; clear HB; intro gb167 w4 HB BK167 GW167 GE167 hb; clear hb; obtain ⟨hcz5_0, hcz5_1, hfz5_0, hfz5_1, _⟩ := two_cells BK167.out) | (refine gc_ 39 13 Try.func39 #[.agg #[.int .i64 a0_0, .slice A0_1 l0_1.length c0_1]] ?_; (with_reducible refine (impl_Pins_keys.calls k a0_0 _ _ l0_1 t168 _ ?_ ?_ A2.out).mono ?_); exact cB (Kd.C_below HR0_1.out HB.out); exact HC0_1.out; rintro e w6 ⟨rfl, hb⟩; refine ⟨_, rfl, ?_⟩; replace BK167 := kb2 BK167 hb; replace HB := hB2 HB hb; (try clear hb)))
    go_ret2
    exact ⟨_, rF_, xN_, bB⟩
  · rw [if_neg c3] at H
    have c3b0 : decide (200 < t168) = false := decide_eq_false c3
    clear c3
    obtain ⟨y169, hy169⟩ : ∃ y_ : List ByteArray, y_ = (([(⟨#[]⟩ : ByteArray)] : List ByteArray)) := ⟨_, rfl⟩
    replace H : (impl_Pins_all.l0 k y169 l0_1 (l0_1.length : Int) 0) = some (r1, r2) := by first | (rw [hy169]; with_reducible exact H) | (have H2_ := (Option.bind_some _ _).symm.trans H; rw [hy169]; with_reducible exact H2_) | (have H2_ := (Option.bind_some _ _).symm.trans H; with_reducible exact H2_) | with_reducible exact H | (rw [hy169]; exact H) | exact H
    have Ny169 := amk hy169
    clear hy169
    have H' := amk H
    clear H
    go_enter Try.func41, Try.ntmps41
    go_wp2_with (first | ((with_reducible refine gate_dst (N := 1) rfl ?_); refine boxE_ HB 1 #[.int .i64 a0_0, .slice A0_1 l0_1.length c0_1] 24 ?_; clear HB; intro gb167 w7 HB BK167 GW167 GE167 hb; clear hb; obtain ⟨hcz8_0, hcz8_1, hfz8_0, hfz8_1, _⟩ := two_cells BK167.out) | (refine gc_ 39 13 Try.func39 #[.agg #[.int .i64 a0_0, .slice A0_1 l0_1.length c0_1]] ?_; (with_reducible refine (impl_Pins_keys.calls k a0_0 _ _ l0_1 t168 _ ?_ ?_ A2.out).mono ?_); exact cB (Kd.C_below HR0_1.out HB.out); exact HC0_1.out; rintro e w9 ⟨rfl, hb⟩; refine ⟨_, rfl, ?_⟩; replace BK167 := kb2 BK167 hb; replace HB := hB2 HB hb; (try clear hb)) | ((with_reducible refine gate_dst (N := 15) rfl ?_); refine Kd.R_lit Kd.string _ 9 ?hg (N := 15) ?hd (xs := ([(⟨#[]⟩ : ByteArray)] : List ByteArray)) (inner := [.string (⟨#[]⟩ : ByteArray)]) (ok := fun _ => True) (okp := fun _ => True) ?hr ?hp (fun _ hk => hk) trivial (Below.refl _ _) (Nat.le_refl _) (by simp) ?_; (case hd => rfl); (case hg => rfl); (case hr => first | (go_simp; done) | (go_simp; rfl)); (case hp => exact (Reps.one (show Kd.M Kd.string _ _ _ (⟨#[]⟩ : ByteArray) [.string (⟨#[]⟩ : ByteArray)] from rfl) (Reps.none _ _))); intro v170 w10 ho11 hb hg_ hnew_; clear hg_ hnew_; (first | rw [← Ny169.out] at ho11 | (simp only [Int.reduceToNat] at ho11; rw [← Ny169.out] at ho11)); have HO171 := amk (Kd.R_lower ho11 (below_size bB)); replace BK167 := kb2 BK167 hb; replace HB := hB2 HB hb; clear hb ho11; obtain ⟨hcz12_0, hcz12_1, hfz12_0, hfz12_1, _⟩ := two_cells BK167.out))
    go_loopg [4, 19] k (fun kq v4 v19 w' => ∃ (x4_1 : List ByteArray) (x19_1 : Int), v19 = .int .i64 x19_1 ∧ Aside0 (impl_Pins_all.l0 kq x4_1 l0_1 (l0_1.length : Int) x19_1 = some (r1, r2)) ∧ Aside0 (kq ≤ k) ∧ Aside0 (Kd.R Kd.string 9 w' w.heap.size (fun _ => True) v4 x4_1) ∧ Aside0 (w'.heap[gb167]? = some (.cells #[.int .i64 a0_0, (.slice A0_1 l0_1.length c0_1)] 24 (0, 0))) ∧ Aside0 (Below w.heap.size w w'))
    case atStart => exact ⟨(y169), (0), rS_, H', ⟨Nat.le_refl _⟩, ⟨oX HO171⟩, ⟨kB BK167⟩, ⟨bB⟩⟩
    case round =>
      clear H'
      try clear p2; try clear c3; try clear c3b0; try clear c4; try clear hcz12_0; try clear hcz12_1; try clear hcz5_0; try clear hcz5_1; try clear hcz8_0; try clear hcz8_1; try clear hfz12_0; try clear hfz12_1; try clear hfz5_0; try clear hfz5_1; try clear hfz8_0; try clear hfz8_1
      obtain ⟨x4_1, x19_1, rfl, HA, HK1, HO_4, BK167, HB⟩ := hrel
      cases gk with
      | zero => exact absurd HA.out (by simp [impl_Pins_all.l0])
      | succ k1 =>
        have H := HA.out
        clear HA
        simp only [impl_Pins_all.l0] at H
        replace H := iteE H; obtain ⟨c13b0, H⟩ | ⟨c13b0, H⟩ := H
        · replace H := iteN H; obtain ⟨c14b0, H⟩ := H
          replace H := iteN H; obtain ⟨c15b0, H⟩ := H
          obtain ⟨y173, hy173⟩ : ∃ y_ : List ByteArray, y_ = (([] : List ByteArray)) := ⟨_, rfl⟩
          replace H : (impl_Pins_all.l1 k1 (rd_L1 l0_1 x19_1) y173 l0_1 (l0_1.length : Int) x19_1 x4_1 (x4_1.length : Int) 0) = some (r1, r2) := by first | (rw [hy173]; with_reducible exact H) | (have H2_ := (Option.bind_some _ _).symm.trans H; rw [hy173]; with_reducible exact H2_) | (have H2_ := (Option.bind_some _ _).symm.trans H; with_reducible exact H2_) | with_reducible exact H | (rw [hy173]; exact H) | exact H
          have Ny173 := amk hy173
          clear hy173
          have H' := amk H
          clear H
          obtain ⟨p172, q172, ad172, A172_0, c172_0, e172, hx172_0, HC172_0, HR172_0⟩ := at_L1q HR0_1 HB x19_1
          cases e172
          go_wp2_with (first | ((with_reducible refine gate_dst (N := 23) rfl ?_); refine Kd.R_lit Kd.string _ 9 ?hg (N := 23) ?hd (xs := ([] : List ByteArray)) (inner := []) (ok := fun _ => True) (okp := fun _ => True) ?hr ?hp (fun _ hk => hk) trivial (Below.refl _ _) (Nat.le_refl _) (by simp) ?_; (case hd => rfl); (case hg => rfl); (case hr => first | (go_simp; done) | (go_simp; rfl)); (case hp => exact (Reps.none _ _)); intro v174 w16 ho17 hb hg_ hnew_; clear hg_ hnew_; (first | rw [← Ny173.out] at ho17 | (simp only [Int.reduceToNat] at ho17; rw [← Ny173.out] at ho17)); have HO175 := amk (Kd.R_lower (Kd.R_new' ho17 (Kd.R_lt (oX HO_4))) (below_size bB)); replace HO_4 := amk (Kd.R_elder' (oX HO_4) (Kd.R_base ho17) hb); replace BK167 := kb2 BK167 hb; replace HB := hB2 HB hb; clear hb ho17; obtain ⟨Ao18, co18, eo18⟩ := Kd.R_slice HO_4.out; subst eo18))
          go_loopg [7, 26] k1 (fun kq v7 v26 w' => ∃ (x7_2 : List ByteArray) (x26_2 : Int), v26 = .int .i64 x26_2 ∧ Aside0 (impl_Pins_all.l1 kq (rd_L1 l0_1 x19_1) x7_2 l0_1 (l0_1.length : Int) x19_1 x4_1 (x4_1.length : Int) x26_2 = some (r1, r2)) ∧ Aside0 (kq ≤ k1) ∧ Aside0 (Kd.R Kd.string 9 w' w.heap.size (fun k_ => some k_ ≠ ((.slice Ao18 x4_1.length co18) : Value).ownBlock) v7 x7_2) ∧ Aside0 (Kd.R Kd.string 9 w' w.heap.size (fun k_ => some k_ ≠ (v7 : Value).ownBlock) (.slice Ao18 x4_1.length co18) x4_1) ∧ Aside0 (w'.heap[gb167]? = some (.cells #[.int .i64 a0_0, (.slice (some ad172) l0_1.length c0_1)] 24 (0, 0))) ∧ Aside0 (Below w.heap.size w w'))
          case atStart => exact ⟨(y173), (0), rS_, H', ⟨Nat.le_refl _⟩, ⟨by (with_reducible repeat (first | apply Kd.R_alloc | apply Kd.R_drewN | apply Kd.R_drew)); exact Kd.R_mono HO175.out (fun _ hk => hk.2)⟩, ⟨by (with_reducible repeat (first | apply Kd.R_alloc | apply Kd.R_drewN | apply Kd.R_drew)); exact Kd.R_mono HO_4.out (fun _ hk => hk.2)⟩, ⟨kB BK167⟩, ⟨bB⟩⟩
          case round =>
            clear H'
            try clear c1; try clear p1; try clear q1; try clear hx1; try clear p2; try clear c3; try clear c3b0; try clear c4; try clear c13; try clear c13b0; try clear c14; try clear c14b0; try clear c15; try clear c15b0; try clear c17; try clear p17; try clear q17; try clear hx17; try clear hcz12_0; try clear hcz12_1; try clear hcz5_0; try clear hcz5_1; try clear hcz8_0; try clear hcz8_1; try clear hfz12_0; try clear hfz12_1; try clear hfz5_0; try clear hfz5_1; try clear hfz8_0; try clear hfz8_1; try clear hx172_0; try clear p172; try clear p2; try clear q172
            obtain ⟨x7_2, x26_2, rfl, HA, HK2, HO_7, HO_24, BK167, HB⟩ := hrel
            cases gk with
            | zero => exact absurd HA.out (by simp [impl_Pins_all.l1])
            | succ k2 =>
              have H := HA.out
              clear HA
              simp only [impl_Pins_all.l1] at H
              replace H := iteE H; obtain ⟨c19b0, H⟩ | ⟨c19b0, H⟩ := H
              · replace H := iteN H; obtain ⟨c20b0, H⟩ := H
                replace H := iteN H; obtain ⟨c21b0, H⟩ := H
                have H' := amk H
                clear H
                have p176 : 0 ≤ (x26_2 : Int) := dA_
                have q176 : x26_2 < (x4_1.length : Int) := dA_
                obtain ⟨ad176, e176, hx176_0⟩ := Kd.at_string (Kd.R_reads' HO_24.out).2.2 x26_2 p176 q176
                cases e176
                replace p176 := eq_true p176
                replace q176 := eq_true q176
                go_wp2
                go_loopg [7, 32] k2 (fun kq v7 v32 w' => ∃ (x7_3 : List ByteArray) (x32_3 : Int), v32 = .int .i64 x32_3 ∧ Aside0 (impl_Pins_all.l2 kq (rd_L1 l0_1 x19_1) x7_3 (rdOf ByteArray.empty x4_1 x26_2) l0_1 (l0_1.length : Int) x19_1 x4_1 (x4_1.length : Int) x26_2 (rd_L1 l0_1 x19_1) ((rd_L1 l0_1 x19_1).length : Int) x32_3 = some (r1, r2)) ∧ Aside0 (kq ≤ k2) ∧ Aside0 (Kd.R Kd.string 9 w' w.heap.size (fun k_ => some k_ ≠ ((.slice (some ad176) x4_1.length co18) : Value).ownBlock) v7 x7_3) ∧ Aside0 (Kd.R Kd.string 9 w' w.heap.size (fun k_ => some k_ ≠ (v7 : Value).ownBlock) (.slice (some ad176) x4_1.length co18) x4_1) ∧ Aside0 (w'.heap[gb167]? = some (.cells #[.int .i64 a0_0, (.slice (some ad172) l0_1.length c0_1)] 24 (0, 0))) ∧ Aside0 (Below w.heap.size w w'))
                case atStart => exact ⟨(x7_2), (0), rS_, H', ⟨Nat.le_refl _⟩, ⟨oX HO_7⟩, ⟨oX HO_24⟩, ⟨kB BK167⟩, ⟨bB⟩⟩
                case round =>
                  clear H'
                  try clear c1; try clear p1; try clear q1; try clear hx1; try clear c2; try clear p2; try clear c3; try clear c3b0; try clear c4; try clear c13; try clear c13b0; try clear c14; try clear c14b0; try clear c15; try clear c15b0; try clear c17; try clear p17; try clear q17; try clear hx17; try clear c19; try clear c19b0; try clear c20; try clear c20b0; try clear c21; try clear c21b0; try clear hcz12_0; try clear hcz12_1; try clear hcz5_0; try clear hcz5_1; try clear hcz8_0; try clear hcz8_1; try clear hfz12_0; try clear hfz12_1; try clear hfz5_0; try clear hfz5_1; try clear hfz8_0; try clear hfz8_1; try clear hx172_0; try clear hx176_0; try clear p1; try clear p17; try clear p172; try clear p176; try clear p2; try clear q1; try clear q17; try clear q172; try clear q176
                  obtain ⟨x7_3, x32_3, rfl, HA, HK3, HO_7, HO_24, BK167, HB⟩ := hrel
                  cases gk with
                  | zero => exact absurd HA.out (by simp [impl_Pins_all.l2])
                  | succ k3 =>
                    have H := HA.out
                    clear HA
                    simp only [impl_Pins_all.l2] at H
                    replace H := iteE H; obtain ⟨c22b0, H⟩ | ⟨c22b0, H⟩ := H
                    · replace H := iteN H; obtain ⟨c23b0, H⟩ := H
                      replace H := iteN H; obtain ⟨c24b0, H⟩ := H
                      obtain ⟨y178, hy178⟩ : ∃ y_ : List Int, y_ = (([rd (rd_L1 l0_1 x19_1) x32_3] : List Int)) := ⟨_, rfl⟩
                      replace H : ((impl_text.f k3 y178).bind fun t181 => (if (rdOf ByteArray.empty x4_1 x26_2).size + t181.size ≤ 9223372036854775807 then (if x7_3.length < 8796093022208 then (impl_Pins_all.l2 k3 (rd_L1 l0_1 x19_1) (x7_3 ++ [(rdOf ByteArray.empty x4_1 x26_2) ++ t181]) (rdOf ByteArray.empty x4_1 x26_2) l0_1 (l0_1.length : Int) x19_1 x4_1 (x4_1.length : Int) x26_2 (rd_L1 l0_1 x19_1) ((rd_L1 l0_1 x19_1).length : Int) (wrap64 (x32_3 + 1))) else (none)) else (none))) = some (r1, r2) := by first | (rw [hy178]; with_reducible exact H) | (have H2_ := (Option.bind_some _ _).symm.trans H; rw [hy178]; with_reducible exact H2_) | (have H2_ := (Option.bind_some _ _).symm.trans H; with_reducible exact H2_) | with_reducible exact H | (rw [hy178]; exact H) | exact H
                      have Ny178 := amk hy178
                      clear hy178
                      replace H := bE H
                      obtain ⟨t181, A25, H⟩ := H
                      by_cases c26 : (rdOf ByteArray.empty x4_1 x26_2).size + t181.size ≤ 9223372036854775807
                      · rw [if_pos c26] at H
                        have c26b0 := eq_true c26
                        have c26b1 : decide ((rdOf ByteArray.empty x4_1 x26_2).size + t181.size ≤ 9223372036854775807) = true := decide_eq_true c26
                        try have c26b2 : (9223372036854775807 < (rdOf ByteArray.empty x4_1 x26_2).size + t181.size) = False := eq_false (Nat.not_lt.2 c26)
                        try have c26b3 : (9223372036854775807 < rdOf ByteArray.empty x4_1 x26_2.size + t181.size) = False := eq_false (by have h9 := Nat.not_lt.2 c26; simp only [ByteArray.size_append] at h9; exact h9)
                        try have c26b4 : decide (rdOf ByteArray.empty x4_1 x26_2.size + t181.size ≤ 9223372036854775807) = true := decide_eq_true (by have h9 := c26; simp only [ByteArray.size_append] at h9; exact h9)
                        by_cases c27 : x7_3.length < 8796093022208
                        · rw [if_pos c27] at H
                          have LMc27 := amk c27
                          clear c27
                          obtain ⟨y182, hy182⟩ : ∃ y_ : List ByteArray, y_ = (x7_3 ++ [(rdOf ByteArray.empty x4_1 x26_2) ++ t181]) := ⟨_, rfl⟩
                          replace H : (impl_Pins_all.l2 k3 (rd_L1 l0_1 x19_1) y182 (rdOf ByteArray.empty x4_1 x26_2) l0_1 (l0_1.length : Int) x19_1 x4_1 (x4_1.length : Int) x26_2 (rd_L1 l0_1 x19_1) ((rd_L1 l0_1 x19_1).length : Int) (wrap64 (x32_3 + 1))) = some (r1, r2) := by first | (rw [hy182]; with_reducible exact H) | (have H2_ := (Option.bind_some _ _).symm.trans H; rw [hy182]; with_reducible exact H2_) | (have H2_ := (Option.bind_some _ _).symm.trans H; with_reducible exact H2_) | with_reducible exact H | (rw [hy182]; exact H) | exact H
                          have Ny182 := amk hy182
                          clear hy182
                          have H' := amk H
                          clear H
                          have p177 : 0 ≤ (x32_3 : Int) := dA_
                          have q177 : x32_3 < ((rd_L1 l0_1 x19_1).length : Int) := dA_
                          obtain ⟨ad177, e177, hx177_0⟩ := Kd.at_int HR172_0.out x32_3 p177 q177
                          cases e177
                          replace hx177_0 := (HB.out.cell (World.block_lt_of_cell? w _ hx177_0)).trans hx177_0
                          replace p177 := eq_true p177
                          replace q177 := eq_true q177
                          go_wp2_with (first | ((with_reducible refine gate_dst (N := 39) rfl ?_); refine Kd.R_lit (Kd.int .i64) _ 3 ?hg (N := 39) ?hd (xs := ([rd (rd_L1 l0_1 x19_1) x32_3] : List Int)) (inner := [.int .i64 (rd (rd_L1 l0_1 x19_1) x32_3)]) (ok := fun _ => True) (okp := fun _ => True) ?hr ?hp (fun _ hk => hk) trivial (Below.refl _ _) (Nat.le_refl _) (by simp) ?_; (case hd => rfl); (case hg => rfl); (case hr => first | (go_simp; done) | (go_simp; rfl)); (case hp => exact (Reps.one (show Kd.M (Kd.int .i64) _ _ _ (rd (rd_L1 l0_1 x19_1) x32_3) [.int .i64 (rd (rd_L1 l0_1 x19_1) x32_3)] from rfl) (Reps.none _ _))); intro v179 w28 ho29 hb hg_ hnew_; clear hg_ hnew_; (first | rw [← Ny178.out] at ho29 | (simp only [Int.reduceToNat] at ho29; rw [← Ny178.out] at ho29)); replace HO_7 := amk (Kd.R_below (oX HO_7) hb); replace HO_24 := amk (Kd.R_below (oX HO_24) hb); have HO180 := amk (Kd.R_lower ho29 (below_size bB)); replace BK167 := kb2 BK167 hb; replace HB := hB2 HB hb; clear hb ho29; obtain ⟨Ao30, co30, eo30⟩ := Kd.R_slice HO180.out; subst eo30) | (refine gc_ 67 40 Try.func67 #[.slice Ao30 y178.length co30] ?_; (with_reducible refine (impl_text.calls k3 _ _ y178 t181 _ ?_ ?_ A25.out).mono ?_); exact cB ((Kd.R_reads' HO180.out).2.2); exact (Kd.R_reads' HO180.out).2.1; rintro e w31 ⟨rfl, hb⟩; refine ⟨_, rfl, ?_⟩; replace HO_7 := amk (Kd.R_below (oX HO_7) hb); replace HO_24 := amk (Kd.R_below (oX HO_24) hb); replace HO180 := amk (Kd.R_below (oX HO180) hb); replace BK167 := kb2 BK167 hb; replace HB := hB2 HB hb; (try clear hb)) | ((with_reducible refine gate_builtin (b := .append) (xs := #[.tmp 36, .tmp 42]) rfl ?_); at_builtin; refine Kd.R_append Kd.string (w0 := w) w.heap.size rfl (.tmp 36) (.tmp 42) 30 9 (.string ⟨#[]⟩) 16 rfl Try.underlying30 info9 rfl (by decide) (by omega) u7 x7_3 ((rdOf ByteArray.empty x4_1 x26_2) ++ t181) [.string ((rdOf ByteArray.empty x4_1 x26_2) ++ t181)] (fun k_ => some k_ ≠ (.slice (some ad176) x4_1.length co18 : Value).ownBlock) (fun _ => False) rfl rfl rfl (fun _ hk => hk.elim) (fun k_ hk => Kd.fresh' (Kd.R_lt (oX HO_24)) k_ hk) (oX HO_7) bB (below_size bB) (by have := LMc27.out; omega) ?_; intro v183 w32 ho hb hg hat; rw [← Ny182.out] at ho; replace HO_24 := amk (Kd.R_after (ok := (fun _ => True)) (by (with_reducible repeat (first | apply Kd.R_alloc | apply Kd.R_drewN | apply Kd.R_drew)); exact Kd.R_mono HO_24.out (fun _ hk => ⟨trivial, hk⟩)) hg hat); replace BK167 := bG BK167 hg (Kd.R_ne HO_7.out BK167.out (by decide)); replace HO180 := amk (Kd.R_over' (oX HO180) (Kd.R_typed (oX HO_7)) (by decide) hg); replace HB := amk (hb); have HO184 := amk (ho); clear HO_7; clear ho hb hg hat))
                          go_roundg k3
                          case measure => have := HK1.out; have := HK2.out; have := HK3.out; omega
                          case rel => exact ⟨(y182), (wrap64 (x32_3 + 1)), rS_, H', ⟨by have := HK1.out; have := HK2.out; have := HK3.out; omega⟩, ⟨oX HO184⟩, ⟨by (with_reducible repeat (first | apply Kd.R_alloc | apply Kd.R_drewN | apply Kd.R_drew)); exact Kd.R_mono HO_24.out (fun _ hk => hk.2)⟩, ⟨kB BK167⟩, ⟨bB⟩⟩
                        · rw [if_neg c27] at H
                          exact absurd H (by simp)
                      · rw [if_neg c26] at H
                        exact absurd H (by simp)
                    · have H' := amk H
                      clear H
                      go_wp2
                      go_roundg k3
                      case measure => have := HK1.out; have := HK2.out; have := HK3.out; omega
                      case rel => exact ⟨(x7_3), (wrap64 (x26_2 + 1)), rS_, H', ⟨by have := HK1.out; have := HK2.out; have := HK3.out; omega⟩, ⟨oX HO_7⟩, ⟨oX HO_24⟩, ⟨kB BK167⟩, ⟨bB⟩⟩
              · have H' := amk H
                clear H
                go_wp2
                go_roundg k2
                case measure => have := HK1.out; have := HK2.out; omega
                case rel => exact ⟨(x7_2), (wrap64 (x19_1 + 1)), rS_, H', ⟨by have := HK1.out; have := HK2.out; omega⟩, ⟨by (with_reducible repeat (first | apply Kd.R_alloc | apply Kd.R_drewN | apply Kd.R_drew)); exact Kd.R_mono HO_7.out (fun _ hk => trivial)⟩, ⟨kB BK167⟩, ⟨bB⟩⟩
        · simp only [Option.some.injEq, Prod.mk.injEq] at H
          obtain ⟨rfl, rfl⟩ := H
          go_wp2
          go_ret2
          exact ⟨_, rF_, oX HO_4, bB⟩
/-! Pins: which rows of numbers are some. -/
def risF (n : Int) : Int → List Int → Bool
  | _, [] => true
  | q, x :: l => decide (q < x) && decide (x ≤ n - 1) && risF n x l
def rowB (n : Int) (l : List Int) : Bool := !l.isEmpty && risF n (-1) l
def pinsB (n : Int) (l : List (List Int)) : Bool := decide (1 ≤ n ∧ n ≤ 9) && decide (1 ≤ (l.length : Int) ∧ (l.length : Int) ≤ 7) && l.all (rowB n)
theorem pinsB_parts {n : Int} {l : List (List Int)} (h : pinsB n l = true) : (1 ≤ n ∧ n ≤ 9) ∧ (1 ≤ l.length ∧ l.length ≤ 7) ∧ ∀ x ∈ l, rowB n x = true := by
  unfold pinsB at h
  rw [Bool.and_eq_true, Bool.and_eq_true, decide_eq_true_eq, decide_eq_true_eq, List.all_eq_true] at h
  exact ⟨h.1.1, ⟨by omega, by omega⟩, h.2⟩
theorem risF_mem {n : Int} : ∀ {l : List Int} {q : Int}, risF n q l = true → ∀ x ∈ l, q < x ∧ x ≤ n - 1 := by
  intro l
  induction l with
  | nil => intro q _ x hx; simp at hx
  | cons a l ih =>
    intro q h x hx
    unfold risF at h
    rw [Bool.and_eq_true, Bool.and_eq_true, decide_eq_true_eq, decide_eq_true_eq] at h
    rcases List.mem_cons.mp hx with rfl | hm
    · exact ⟨h.1.1, h.1.2⟩
    · have := ih h.2 x hm
      omega
theorem rowB_mem {n : Int} {l : List Int} (h : rowB n l = true) : ∀ x ∈ l, 0 ≤ x ∧ x ≤ n - 1 := by
  unfold rowB at h
  rw [Bool.and_eq_true] at h
  intro x hx
  have := risF_mem h.2 x hx
  omega
theorem risF_len {n : Int} : ∀ {l : List Int} {q : Int}, q ≤ n - 1 → risF n q l = true → (l.length : Int) ≤ n - 1 - q := by
  intro l
  induction l with
  | nil => intro q hq _; simp; omega
  | cons a l ih =>
    intro q hq h
    unfold risF at h
    rw [Bool.and_eq_true, Bool.and_eq_true, decide_eq_true_eq, decide_eq_true_eq] at h
    have := ih (q := a) (by omega) h.2
    simp only [List.length_cons]
    omega
theorem rowB_len {n : Int} {l : List Int} (hn : 0 ≤ n) (h : rowB n l = true) : 1 ≤ l.length ∧ (l.length : Int) ≤ n := by
  unfold rowB at h
  rw [Bool.and_eq_true] at h
  have := risF_len (q := -1) (by omega) h.2
  refine ⟨?_, by omega⟩
  cases l with
  | nil => simp at h
  | cons a l => simp
/-- The last number so far, -1 at the start. -/
def lastI (l : List Int) : Nat → Int
  | 0 => -1
  | i + 1 => l.getD i 0
theorem lastI_at {l : List Int} {i : Nat} (h : i < l.length) : lastI l (i + 1) = l[i] := by unfold lastI; simp [List.getD, h]
/-! ### impl_within: function 43 -/
def impl_within.f (a0 : Int) (a1 : Int) (a2 : Int) : Option (Bool) := if a1 ≤ a0 then (some (decide (a0 ≤ a2))) else (some false)
set_option maxHeartbeats 8000000 in
set_option maxRecDepth 100000 in
theorem impl_within.calls (a0 : Int) (a1 : Int) (a2 : Int) (r : Bool) (w : World) (h : impl_within.f a0 a1 a2 = some r) :
    Calls Try.prog 43 #[.int .i64 a0, .int .i64 a1, .int .i64 a2] w fun e w' => e = .returned (.bool r) ∧ Drawn0 w w' := by
  have H : (if a1 ≤ a0 then (some (decide (a0 ≤ a2))) else (some false)) = some r := h
  clear h
  replace H := iteE H; obtain ⟨c4b0, H⟩ | ⟨c4b0, H⟩ := H
  · obtain rfl := Option.some.inj H
    go_enter Try.func43, Try.ntmps43
    go_wp2
    go_ret
    exact ⟨rS_, dR_⟩
  · obtain rfl := Option.some.inj H
    go_enter Try.func43, Try.ntmps43
    go_wp2
    go_ret
    exact ⟨rS_, dR_⟩
/-! ### impl_areDepths: function 46 -/
def impl_areDepths.l0 : Nat → Int → List Int → List Int → Int → Int → Option (Bool)
  | 0, _, _, _, _, _ => none
  | k + 1, x0, x1, x7, x8, x9 => if x9 < x8 then (if 0 ≤ x9 then (if x9 < (x7.length : Int) then ((impl_within.f (rd x7 x9) 0 (wrap64 (x0 - 1))).bind fun t102 => (if t102 = true then (if x9 > 0 then (if 0 ≤ (wrap64 (x9 - 1)) then (if (wrap64 (x9 - 1)) < (x1.length : Int) then (if (rd x7 x9) ≤ (rd x1 (wrap64 (x9 - 1))) then (some false) else (impl_areDepths.l0 k x0 x1 x7 x8 (wrap64 (x9 + 1)))) else (none)) else (none)) else (impl_areDepths.l0 k x0 x1 x7 x8 (wrap64 (x9 + 1)))) else (some false))) else (none)) else (none)) else (some (decide ((x1.length : Int) > 0)))
def impl_areDepths.f (k : Nat) (a0 : Int) (l1 : List Int) : Option (Bool) := impl_areDepths.l0 k a0 l1 l1 (l1.length : Int) 0
set_option maxHeartbeats 8000000 in
set_option maxRecDepth 100000 in
theorem impl_areDepths.calls (k : Nat) (a0 : Int) (A1 : Option Addr) (c1 : Nat) (l1 : List Int) (r : Bool) (w : World) (hr1 : Kd.C (Kd.int .i64) w A1 l1.length l1) (hc1 : l1.length ≤ c1) (h : impl_areDepths.f k a0 l1 = some r) :
    Calls Try.prog 46 #[.int .i64 a0, .slice A1 l1.length c1] w fun e w' => e = .returned (.bool r) ∧ Drawn0 w w' := by
  have HR1 := amk hr1
  have HC1 := amk hc1
  clear hr1 hc1
  have H : (impl_areDepths.l0 k a0 l1 l1 (l1.length : Int) 0) = some r := h
  clear h
  have H' := amk H
  clear H
  go_enter Try.func46, Try.ntmps46
  go_wp2
  go_loopg [9] k (fun kq v9 w' => ∃ (x9_1 : Int), v9 = .int .i64 x9_1 ∧ Aside0 (impl_areDepths.l0 kq a0 l1 l1 (l1.length : Int) x9_1 = some r) ∧ Aside0 (kq ≤ k) ∧ Drawn0 w w')
  case atStart => exact ⟨(0), rS_, H', ⟨Nat.le_refl _⟩, dR_⟩
  case round =>
    clear H'
    try clear c1; try clear p2
    obtain ⟨x9_1, rfl, HA, HK1, ⟨m1, rfl⟩⟩ := hrel
    cases gk with
    | zero => exact absurd HA.out (by simp [impl_areDepths.l0])
    | succ k1 =>
      have H := HA.out
      clear HA
      simp only [impl_areDepths.l0] at H
      replace H := iteE H; obtain ⟨c3b0, H⟩ | ⟨c3b0, H⟩ := H
      · replace H := iteN H; obtain ⟨c4b0, H⟩ := H
        replace H := iteN H; obtain ⟨c5b0, H⟩ := H
        replace H := bE H
        obtain ⟨t102, A6, H⟩ := H
        replace H := iteB H; obtain ⟨rfl, H⟩ | ⟨rfl, H⟩ := H
        · by_cases c8 : x9_1 > 0
          · rw [if_pos c8] at H
            have c8b0 : decide (0 < x9_1) = true := decide_eq_true c8
            clear c8
            obtain ⟨ji9, hji9⟩ : ∃ j_ : Int, (wrap64 (x9_1 - 1)) = j_ := ⟨_, rfl⟩
            replace H : (if 0 ≤ (ji9) then (if (ji9) < (l1.length : Int) then (if (rd l1 x9_1) ≤ (rd l1 (ji9)) then (some false) else (impl_areDepths.l0 k1 a0 l1 l1 (l1.length : Int) (wrap64 (x9_1 + 1)))) else (none)) else (none)) = some r := by first | (rw [hji9] at H; exact H) | (simp only [hji9] at H ⊢; exact H)
            (try rw [hji9] at A6)
            have hji9w : (IntKind.i64.wrap (x9_1 - 1)) = ji9 := (i64_w _).trans hji9
            replace H := iteN H; obtain ⟨c10b0, H⟩ := H
            replace H := iteN H; obtain ⟨c11b0, H⟩ := H
            replace H := iteE H; obtain ⟨c12b0, H⟩ | ⟨c12b0, H⟩ := H
            · obtain rfl := Option.some.inj H
              have p101 : 0 ≤ (x9_1 : Int) := dA_
              have q101 : x9_1 < (l1.length : Int) := dA_
              obtain ⟨ad101, e101, hx101_0⟩ := Kd.at_int HR1.out x9_1 p101 q101
              cases e101
              replace p101 := eq_true p101
              replace q101 := eq_true q101
              go_wp2_with (first | (refine gc_ 43 17 Try.func43 #[.int .i64 (rd l1 x9_1), .int .i64 0, .int .i64 (wrap64 (a0 - 1))] ?_; (with_reducible refine (impl_within.calls (rd l1 x9_1) 0 (wrap64 (a0 - 1)) true _ A6.out).mono ?_); rintro e w' ⟨rfl, ⟨nd, rfl⟩⟩; refine ⟨_, rfl, ?_⟩; have p103 : 0 ≤ ((ji9) : Int) := dA_; have q103 : (ji9) < (l1.length : Int) := dA_; obtain ⟨ad103, e103, hx103_0⟩ := Kd.at_int HR1.out (ji9) p103 q103; obtain rfl : ad101 = ad103 := (by injection e103); replace p103 := eq_true p103; replace q103 := eq_true q103))
              go_ret
              exact ⟨by first | rfl | (simp; done) | (simp only [← hji9] <;> (first | rfl | simp)) | (simp [*]; done), dR_⟩
            · have H' := amk H
              clear H
              have p101 : 0 ≤ (x9_1 : Int) := dA_
              have q101 : x9_1 < (l1.length : Int) := dA_
              obtain ⟨ad101, e101, hx101_0⟩ := Kd.at_int HR1.out x9_1 p101 q101
              cases e101
              replace p101 := eq_true p101
              replace q101 := eq_true q101
              go_wp2_with (first | (refine gc_ 43 17 Try.func43 #[.int .i64 (rd l1 x9_1), .int .i64 0, .int .i64 (wrap64 (a0 - 1))] ?_; (with_reducible refine (impl_within.calls (rd l1 x9_1) 0 (wrap64 (a0 - 1)) true _ A6.out).mono ?_); rintro e w' ⟨rfl, ⟨nd, rfl⟩⟩; refine ⟨_, rfl, ?_⟩; have p103 : 0 ≤ ((ji9) : Int) := dA_; have q103 : (ji9) < (l1.length : Int) := dA_; obtain ⟨ad103, e103, hx103_0⟩ := Kd.at_int HR1.out (ji9) p103 q103; obtain rfl : ad101 = ad103 := (by injection e103); replace p103 := eq_true p103; replace q103 := eq_true q103))
              go_roundg k1
              case measure => have := HK1.out; omega
              case rel => exact ⟨(wrap64 (x9_1 + 1)), rS_, H', ⟨by have := HK1.out; omega⟩, dR_⟩
          · rw [if_neg c8] at H
            have c8b0 : decide (0 < x9_1) = false := decide_eq_false c8
            clear c8
            have H' := amk H
            clear H
            have p101 : 0 ≤ (x9_1 : Int) := dA_
            have q101 : x9_1 < (l1.length : Int) := dA_
            obtain ⟨ad101, e101, hx101_0⟩ := Kd.at_int HR1.out x9_1 p101 q101
            cases e101
            replace p101 := eq_true p101
            replace q101 := eq_true q101
            go_wp2_with (first | (refine gc_ 43 17 Try.func43 #[.int .i64 (rd l1 x9_1), .int .i64 0, .int .i64 (wrap64 (a0 - 1))] ?_; (with_reducible refine (impl_within.calls (rd l1 x9_1) 0 (wrap64 (a0 - 1)) true _ A6.out).mono ?_); rintro e w' ⟨rfl, ⟨nd, rfl⟩⟩; refine ⟨_, rfl, ?_⟩))
            go_roundg k1
            case measure => have := HK1.out; omega
            case rel => exact ⟨(wrap64 (x9_1 + 1)), rS_, H', ⟨by have := HK1.out; omega⟩, dR_⟩
        · obtain rfl := Option.some.inj H
          have p101 : 0 ≤ (x9_1 : Int) := dA_
          have q101 : x9_1 < (l1.length : Int) := dA_
          obtain ⟨ad101, e101, hx101_0⟩ := Kd.at_int HR1.out x9_1 p101 q101
          cases e101
          replace p101 := eq_true p101
          replace q101 := eq_true q101
          go_wp2_with (first | (refine gc_ 43 17 Try.func43 #[.int .i64 (rd l1 x9_1), .int .i64 0, .int .i64 (wrap64 (a0 - 1))] ?_; (with_reducible refine (impl_within.calls (rd l1 x9_1) 0 (wrap64 (a0 - 1)) false _ A6.out).mono ?_); rintro e w' ⟨rfl, ⟨nd, rfl⟩⟩; refine ⟨_, rfl, ?_⟩))
          go_ret
          exact ⟨rS_, dR_⟩
      · obtain rfl := Option.some.inj H
        go_wp2
        go_ret
        exact ⟨rS_, dR_⟩
/-! ### spec_l1In: function 63 -/
def spec_l1In.f (a0 : Int) (a1 : Int) (a2 : Int) : Option (Bool) := if a0 ≥ a1 then (some (decide (a0 ≤ a2))) else (some false)
set_option maxHeartbeats 8000000 in
set_option maxRecDepth 100000 in
theorem spec_l1In.calls (a0 : Int) (a1 : Int) (a2 : Int) (r : Bool) (w : World) (h : spec_l1In.f a0 a1 a2 = some r) :
    Calls Try.prog 63 #[.int .i64 a0, .int .i64 a1, .int .i64 a2] w fun e w' => e = .returned (.bool r) ∧ Drawn0 w w' := by
  have H : (if a0 ≥ a1 then (some (decide (a0 ≤ a2))) else (some false)) = some r := h
  clear h
  by_cases c4 : a0 ≥ a1
  · rw [if_pos c4] at H
    have c4b0 : decide (a1 ≤ a0) = true := decide_eq_true c4
    clear c4
    obtain rfl := Option.some.inj H
    go_enter Try.func63, Try.ntmps63
    go_wp2
    go_ret
    exact ⟨rS_, dR_⟩
  · rw [if_neg c4] at H
    have c4b0 : decide (a1 ≤ a0) = false := decide_eq_false c4
    clear c4
    obtain rfl := Option.some.inj H
    go_enter Try.func63, Try.ntmps63
    go_wp2
    go_ret
    exact ⟨rS_, dR_⟩
/-! impl's areDepths and spec's l1Rising: what they come to. -/
theorem impl_within.bs (a b c : Int) : impl_within.f a b c = some (decide (b ≤ a ∧ a ≤ c)) := by
  unfold impl_within.f
  by_cases h : b ≤ a
  · rw [if_pos h]; simp [h]
  · rw [if_neg h]; simp [h]
theorem spec_l1In.bs (a b c : Int) : spec_l1In.f a b c = some (decide (b ≤ a ∧ a ≤ c)) := by
  unfold spec_l1In.f
  by_cases h : b ≤ a
  · rw [if_pos h]; simp [h]
  · rw [if_neg h]; simp [h]
theorem impl_areDepths.lev (n : Int) (hn : 1 ≤ n ∧ n ≤ 9) (l : List Int) (hl : l.length ≤ 9223372036854775807) : ∀ (m i : Nat), i + m = l.length → (-1 ≤ lastI l i) → Ev (fun k => impl_areDepths.l0 k n l l (l.length : Int) (i : Nat)) (decide (0 < l.length) && risF n (lastI l i) (l.drop i)) := by
  intro m
  induction m with
  | zero =>
    intro i hi _
    refine Ev.step (fun k => rfl) (Ev.no (by omega) (Ev.id ?_))
    rw [List.drop_eq_nil_of_le (by omega)]
    by_cases h : 0 < l.length
    · simp [risF, h]
    · simp [risF, h]
  | succ m ih =>
    intro i hi hq
    have hlt : i < l.length := by omega
    have hr : rd l (i : Nat) = l[i] := by rw [rd_at (by simpa using hlt)]; simp
    refine Ev.step (fun k => rfl) (Ev.yes (by omega) (Ev.yes (by omega) (Ev.yes (by omega) (Ev.bindc (impl_within.bs _ _ _) ?_))))
    rw [w64 (x := n - 1) (by omega) (by omega), hr]
    rw [List.drop_eq_getElem_cons hlt]
    have hd : decide (0 < l.length) = true := decide_eq_true (by omega)
    rw [hd, Bool.true_and]
    unfold risF
    have hw : wrap64 ((i : Int) + 1) = ((i + 1 : Nat) : Int) := w64 (by omega) (by omega)
    have hla : lastI l (i + 1) = l[i] := lastI_at hlt
    have hlt0 := hlt
    by_cases h1 : 0 ≤ l[i] ∧ l[i] ≤ n - 1
    · refine Ev.yes (decide_eq_true h1) ?_
      have hgo := ih (i + 1) (by omega) (by rw [hla]; omega)
      rw [hla, hd, Bool.true_and] at hgo
      cases i with
      | zero =>
        refine Ev.no (by omega) ?_
        rw [hw]
        refine Ev.eq hgo ?_
        have h2 : decide (lastI l 0 < l[0]) = true := decide_eq_true (show (-1 : Int) < l[0] by omega)
        have h3 : decide (l[0] ≤ n - 1) = true := decide_eq_true h1.2
        rw [h2, h3]; rfl
      | succ i =>
        have hp : wrap64 (((i + 1 : Nat) : Int) - 1) = (i : Nat) := by rw [w64 (by omega) (by omega)]; omega
        have hr1 : rd l (i : Nat) = l[i] := by rw [rd_at (by simp; omega)]; simp
        have hlb : lastI l (i + 1) = l[i] := lastI_at (by omega)
        refine Ev.yes (by omega) ?_
        rw [hp, hr1, hlb]
        refine Ev.yes (by omega) (Ev.yes (by omega) ?_)
        by_cases h2 : l[i + 1] ≤ l[i]
        · refine Ev.yes h2 (Ev.id ?_)
          rw [decide_eq_false (by omega : ¬ l[i] < l[i + 1])]; rfl
        · refine Ev.no h2 ?_
          rw [hw]
          refine Ev.eq hgo ?_
          rw [decide_eq_true (by omega : l[i] < l[i + 1]), decide_eq_true h1.2]; rfl
    · refine Ev.no (by rw [decide_eq_false h1]; simp) (Ev.id ?_)
      by_cases h2 : lastI l i < l[i]
      · have h3 : ¬ l[i] ≤ n - 1 := fun h => h1 ⟨by omega, h⟩
        rw [decide_eq_false h3]; simp
      · rw [decide_eq_false h2]; rfl
theorem impl_areDepths.ev (n : Int) (hn : 1 ≤ n ∧ n ≤ 9) (l : List Int) (hl : l.length ≤ 9223372036854775807) : Ev (fun k => impl_areDepths.f k n l) (rowB n l) := by
  unfold impl_areDepths.f
  refine Ev.eq (impl_areDepths.lev n hn l hl l.length 0 (by omega) (show (-1 : Int) ≤ -1 by omega)) ?_
  unfold rowB
  cases l <;> simp [lastI]
/-! the first place where a test holds. -/
def idxOf {α : Type} (p : α → Bool) (xs : List α) : Int := if xs.any p then (xs.findIdx p : Int) else -1
theorem idxOf_hit {α : Type} {p : α → Bool} {xs : List α} {i : Nat} {y : α} (hi : xs[i]? = some y) (h : p y = true) (hb : ∀ (j : Nat) z, j < i → xs[j]? = some z → p z = false) : idxOf p xs = i := by
  obtain ⟨hl, rfl⟩ := List.getElem?_eq_some_iff.1 hi
  unfold idxOf
  rw [if_pos (List.any_eq_true.mpr ⟨xs[i], List.getElem_mem hl, h⟩)]
  congr 1
  exact (List.findIdx_eq hl).mpr ⟨h, fun j hj => hb j _ hj (List.getElem?_eq_getElem (by omega))⟩
theorem idxOf_miss {α : Type} {p : α → Bool} {xs : List α} (hb : ∀ (j : Nat) z, xs[j]? = some z → p z = false) : idxOf p xs = -1 := by
  unfold idxOf
  rw [if_neg]
  rw [Bool.not_eq_true, List.any_eq_false]
  intro x hx
  obtain ⟨j, hj, rfl⟩ := List.getElem_of_mem hx
  simp [hb j _ (List.getElem?_eq_getElem hj)]
theorem idxOf_nonneg {α : Type} (p : α → Bool) (xs : List α) : decide (0 ≤ idxOf p xs) = xs.any p := by
  unfold idxOf
  split
  · rename_i h; rw [h]; simp
  · rename_i h; rw [Bool.eq_false_iff.mpr h]; simp
/-! slices.IndexFunc and slices.ContainsFunc at rows of numbers, under any predicate that makes nothing but new memory. -/
def PredRow (g : Nat) (cap : Array Value) (p : List Int → Bool) (xs : List (List Int)) (w : World) : Prop :=
  ∀ x, x ∈ xs → ∀ (W : World) (A0 : Option Addr) (c0 : Nat), Below w.heap.size w W → x.length ≤ c0 → (Kd.int .i64).C W A0 x.length x → Calls Try.prog g (#[.slice A0 x.length c0] ++ cap) W fun e w' => e = .returned (.bool (p x)) ∧ Below w.heap.size w w'
set_option maxHeartbeats 2000000 in
set_option maxRecDepth 100000 in
theorem idx_Row (g : Nat) (cap : Array Value) (p : List Int → Bool) (A : Option Addr) (c : Nat) (xs : List (List Int)) (w : World) (eg : ∀ args w, (callFunc g args).run Try.prog w = .ok (.enter g args) w)
    (hr : Kd.C (Kd.slice 3 (Kd.int .i64)) w A xs.length xs) (hp : PredRow g cap p xs w) :
    Calls Try.prog 69 #[.slice A xs.length c, .func (.func g) #[] cap] w fun e w' => e = .returned (.int .i64 (idxOf p xs)) ∧ Below w.heap.size w w' := by
  have hbig := hr.2.1
  have HR := amk hr
  have HP := amk hp
  clear hr hp
  go_enter Try.func69, Try.ntmps69
  go_wp2
  go_loopg [5, 8] xs.length (fun gg _ s8 wr => ∃ i : Int, s8 = .int .i64 i ∧ Aside0 (0 ≤ i) ∧ Aside0 (i ≤ xs.length) ∧ Aside0 ((xs.length : Int) - i ≤ gg) ∧ Aside0 (Below w.heap.size w wr) ∧ Aside0 (∀ (j : Nat) z, (j : Int) < i → xs[j]? = some z → p z = false))
  case atStart => exact ⟨0, rfl, ⟨by omega⟩, ⟨by omega⟩, ⟨by omega⟩, ⟨Below.refl _ w⟩, ⟨fun j hj => by omega⟩⟩
  case round =>
    obtain ⟨i, rfl, I0, I1, IG, BW, AA⟩ := hrel
    by_cases hlt : i < (xs.length : Int)
    · have hlw : decide (i < (xs.length : Int)) = true := decide_eq_true hlt
      have i0 : 0 ≤ i := I0.out
      obtain ⟨ad, cs, e, _, hK, hc0⟩ := Kd.C_get HR.out ([] : List Int) i i0 hlt
      cases e
      have hc : ∀ j u, cs[j]? = some u → w.cell? (ad.add (i.toNat * 1 + j)) = some u := hc0
      obtain ⟨A0, c0, rfl, l0, g0⟩ := hK
      have hx0 := hc 0 _ rfl
      rw [Nat.mul_one, Nat.add_zero] at hx0
      clear hc hc0
      replace hx0 := (BW.out.cell (World.block_lt_of_cell? w _ hx0)).trans hx0
      replace g0 := Kd.C_below g0 BW.out
      have HY : Aside0 (xs[i.toNat]? = some (xs.getD i.toNat [])) := ⟨by
        have hin : i.toNat < xs.length := by omega
        simp [List.getD, hin]⟩
      generalize xs.getD i.toNat [] = y at hx0 l0 g0 HY
      have hcall := HP.out y (List.mem_of_getElem? HY.out) wr A0 c0 BW.out l0 g0
      have L0 := amk l0
      have G0 := amk g0
      clear l0 g0
      have HLT := amk hlt
      replace hlt := eq_true hlt
      replace i0 := eq_true i0
      cases hq : p y with
      | true =>
        rw [hq] at hcall
        have HQ := amk hq
        clear hq
        go_wp2_with (go_at_fn g; refine hcall.mono ?_; rintro e w' ⟨rfl, hb'⟩)
        go_ret
        refine ⟨?_, hb'⟩
        have h1 := idxOf_hit (p := p) HY.out HQ.out (fun j z hj hz => AA.out j z (by omega) hz)
        rw [h1]
        have := I0.out
        show Ending.returned (.int .i64 i) = Ending.returned (.int .i64 ((i.toNat : Nat) : Int))
        rw [Int.toNat_of_nonneg this]
      | false =>
        rw [hq] at hcall
        have HQ := amk hq
        clear hq
        go_wp2_with (go_at_fn g; refine hcall.mono ?_; rintro e w' ⟨rfl, hb'⟩)
        have hw1 : wrap64 (i + 1) = i + 1 := by
          have := I0.out
          have := HLT.out
          unfold wrap64; omega
        go_roundg (xs.length - (i.toNat + 1))
        case measure => have := I0.out; have := HLT.out; have := IG.out; omega
        case rel =>
          have a1 := I0.out
          have a2 := HLT.out
          refine ⟨i + 1, by rw [hw1], ⟨by omega⟩, ⟨by omega⟩, ⟨by omega⟩, ⟨hb'⟩, ⟨fun j z hj hz => ?_⟩⟩
          by_cases e : j = i.toNat
          · subst e
            rw [HY.out] at hz
            injection hz with hz
            rw [← hz]; exact HQ.out
          · exact AA.out j z (by omega) hz
    · have hlw : decide (i < (xs.length : Int)) = false := decide_eq_false hlt
      have HK := amk hlt
      clear hlt
      go_wp2
      go_ret
      refine ⟨?_, BW.out⟩
      rw [idxOf_miss (fun j z hz => AA.out j z (by have := HK.out; have := (List.getElem?_eq_some_iff.1 hz).1; omega) hz)]
      rfl
theorem contains_Row (g : Nat) (cap : Array Value) (p : List Int → Bool) (A : Option Addr) (c : Nat) (xs : List (List Int)) (w : World) (eg : ∀ args w, (callFunc g args).run Try.prog w = .ok (.enter g args) w)
    (hr : Kd.C (Kd.slice 3 (Kd.int .i64)) w A xs.length xs) (hp : PredRow g cap p xs w) :
    Calls Try.prog 44 #[.slice A xs.length c, .func (.func g) #[] cap] w fun e w' => e = .returned (.bool (xs.any p)) ∧ Below w.heap.size w w' := by
  rw [← idxOf_nonneg p xs]
  have HC := amk (idx_Row g cap p A c xs w eg hr hp)
  clear hr hp
  go_enter Try.func44, Try.ntmps44
  go_wp2_with (go_at_call 69; refine HC.out.mono ?_; rintro e w' ⟨rfl, hb'⟩)
  go_ret
  exact ⟨rfl, hb'⟩
/-! impl.within and spec.l1In, by hand: the world stays. -/
def winB (a b c : Int) : Bool := decide (b ≤ a ∧ a ≤ c)
theorem winB_yes {a b c : Int} (h : b ≤ a ∧ a ≤ c) : winB a b c = true := by unfold winB; simp [h]
theorem winB_no {a b c : Int} (h : ¬ (b ≤ a ∧ a ≤ c)) : winB a b c = false := by unfold winB; simp [h]
theorem within_same (a b c : Int) (w : World) : Calls Try.prog 43 #[.int .i64 a, .int .i64 b, .int .i64 c] w fun e w' => e = .returned (.bool (winB a b c)) ∧ w = w' := by
  by_cases h1 : b ≤ a
  · by_cases h2 : a ≤ c
    · rw [winB_yes ⟨h1, h2⟩]
      go_enter Try.func43, Try.ntmps43
      go_wp2
      go_ret
      exact ⟨rfl, rfl⟩
    · rw [winB_no (fun h => h2 h.2)]
      go_enter Try.func43, Try.ntmps43
      go_wp2
      go_ret
      exact ⟨rfl, rfl⟩
  · rw [winB_no (fun h => h1 h.1)]
    go_enter Try.func43, Try.ntmps43
    go_wp2
    go_ret
    exact ⟨rfl, rfl⟩
/-! impl.ArePins, by hand: it asks its rows through slices.ContainsFunc and a closure. -/
theorem arePins_closure (n : Int) (hn : 1 ≤ n ∧ n ≤ 9) (gb : Nat) (W : World) (h0 : W.cell? ⟨gb, 0, none⟩ = some (.int .i64 n)) (x : List Int) (A0 : Option Addr) (c0 : Nat) (hc0 : x.length ≤ c0) (hr0 : (Kd.int .i64).C W A0 x.length x) :
    Calls Try.prog 45 #[.slice A0 x.length c0, .pointer (some ⟨gb, 0, none⟩)] W fun e w' => e = .returned (.bool (!rowB n x)) ∧ Below W.heap.size W w' := by
  obtain ⟨k, hk⟩ := (impl_areDepths.ev n hn x hr0.2.1).rounds
  have hu41 := Try.underlying24
  have HK := amk hk
  have HR := amk hr0
  have HC := amk hc0
  clear hk hn hr0 hc0
  generalize rowB n x = b at HK ⊢
  go_enter Try.func45, Try.ntmps45
  go_wp2_with (go_at_call 46; refine (impl_areDepths.calls k _ _ _ _ _ _ HR.out HC.out HK.out).mono ?_; rintro e w' ⟨rfl, hb⟩)
  go_ret
  exact ⟨rfl, hb.below⟩
def impl_ArePins.f (a : Int) (l : List (List Int)) : Option Bool := some (pinsB a l)
set_option maxHeartbeats 2000000 in
set_option maxRecDepth 100000 in
theorem impl_ArePins.calls (a0_0 : Int) (A0_1 : Option Addr) (c0_1 : Nat) (l0_1 : List (List Int)) (r : Bool) (w : World) (hr0_1 : Kd.C (Kd.slice 3 (Kd.int .i64)) w A0_1 l0_1.length l0_1) (hc0_1 : l0_1.length ≤ c0_1) (h : impl_ArePins.f a0_0 l0_1 = some r) :
    Calls Try.prog 14 #[.agg #[.int .i64 a0_0, .slice A0_1 l0_1.length c0_1]] w fun e w' => e = .returned (.bool r) ∧ Below w.heap.size w w' := by
  obtain rfl := Option.some.inj h
  clear h
  have hu41 := Try.underlying24
  have hu35 := Try.underlying22
  have eg : ∀ args w, (callFunc 45 args).run Try.prog w = .ok (.enter 45 args) w := enters_of Try.func45 (by kernel_rfl) rfl
  have HE := amk eg
  clear eg
  have HR := amk hr0_1
  clear hr0_1
  unfold pinsB
  by_cases h1 : 1 ≤ a0_0 ∧ a0_0 ≤ 9
  · by_cases h2 : 1 ≤ (l0_1.length : Int) ∧ (l0_1.length : Int) ≤ 7
    · rw [decide_eq_true h1, decide_eq_true h2, show (l0_1.all (rowB a0_0)) = !(l0_1.any fun c => !rowB a0_0 c) by simp [List.all_eq_not_any_not]]
      have hw1 := winB_yes h1
      have hw2 := winB_yes h2
      generalize hz : (l0_1.any fun c => !rowB a0_0 c) = z
      have HZ := amk hz
      have H1 := amk h1
      clear hz h1 h2
      go_enter Try.func14, Try.ntmps14
      go_wp2_with (first | (go_at_call 44; refine (contains_Row 45 #[.pointer (some ⟨w.heap.size, 0, none⟩)] (fun c => !rowB a0_0 c) A0_1 c0_1 l0_1 _ HE.out (Kd.C_alloc HR.out _) (fun x _ W A0 c0 hW hc hr => (arePins_closure a0_0 H1.out w.heap.size W ((hW.cell (p := ⟨w.heap.size, 0, none⟩) (by simp)).trans (by simp)) x A0 c0 hc hr).mono (fun e w' ⟨h1, h2⟩ => ⟨h1, hW.trans (h2.mono hW.size)⟩))).mono ?_; rintro e w2 ⟨rfl, hb2⟩) | (go_at_call 43; refine (within_same _ _ _ _).mono ?_; rintro e w' ⟨rfl, rfl⟩))
      go_ret
      exact ⟨by rw [HZ.out]; rfl, ((Below.refl _ w).alloc (Nat.le_refl _) _).trans (hb2.mono (by simp))⟩
    · rw [decide_eq_false h2]
      have hw1 := winB_yes h1
      have hw2 := winB_no h2
      clear h1 h2
      go_enter Try.func14, Try.ntmps14
      go_wp2_with (first | (go_at_call 43; refine (within_same _ _ _ _).mono ?_; rintro e w' ⟨rfl, rfl⟩))
      go_ret
      exact ⟨by simp, (Below.refl _ w).alloc (Nat.le_refl _) _⟩
  · rw [decide_eq_false h1]
    have hw1 := winB_no h1
    clear h1
    go_enter Try.func14, Try.ntmps14
    go_wp2_with (go_at_call 43; refine (within_same _ _ _ _).mono ?_; rintro e w' ⟨rfl, rfl⟩)
    go_ret
    exact ⟨by simp, (Below.refl _ w).alloc (Nat.le_refl _) _⟩
/-! ### impl_AllKeys: function 11 -/
def impl_AllKeys.f (k : Nat) (a0_0 : Int) (l0_1 : List (List Int)) : Option (List ByteArray × Bool) := (impl_ArePins.f a0_0 l0_1).bind fun t186 => (if t186 = true then ((impl_Pins_all.f k a0_0 l0_1).bind fun bt187 => (some (bt187.1, bt187.2))) else (some (([] : List ByteArray), false)))
set_option maxHeartbeats 8000000 in
set_option maxRecDepth 100000 in
theorem impl_AllKeys.calls (k : Nat) (a0_0 : Int) (A0_1 : Option Addr) (c0_1 : Nat) (l0_1 : List (List Int)) (r1 : List ByteArray) (r2 : Bool) (w : World) (hr0_1 : Kd.C (Kd.slice 3 (Kd.int .i64)) w A0_1 l0_1.length l0_1) (hc0_1 : l0_1.length ≤ c0_1) (h : impl_AllKeys.f k a0_0 l0_1 = some (r1, r2)) :
    Calls Try.prog 11 #[.agg #[.int .i64 a0_0, .slice A0_1 l0_1.length c0_1]] w fun e w' => ∃ v0_ : Value, e = .returned (.tuple #[v0_, .bool r2]) ∧ Kd.R Kd.string 9 w' w.heap.size (fun _ => True) v0_ r1 ∧ Below w.heap.size w w' := by
  have hu24 := Try.underlying24
  have HR0_1 := amk hr0_1
  have HC0_1 := amk hc0_1
  clear hr0_1 hc0_1
  have HB := amk (Below.refl w.heap.size w)
  have H : ((impl_ArePins.f a0_0 l0_1).bind fun t186 => (if t186 = true then ((impl_Pins_all.f k a0_0 l0_1).bind fun bt187 => (some (bt187.1, bt187.2))) else (some (([] : List ByteArray), false)))) = some (r1, r2) := h
  clear h
  replace H := bE H
  obtain ⟨t186, A2, H⟩ := H
  replace H := iteB H; obtain ⟨rfl, H⟩ | ⟨rfl, H⟩ := H
  · replace H := Option.bind_eq_some_iff.mp H
    obtain ⟨⟨t187, t190⟩, A40, H⟩ := H
    replace H : (some (t187, t190)) = some (r1, r2) := H
    have A4 := amk A40
    clear A40
    simp only [Option.some.injEq, Prod.mk.injEq] at H
    obtain ⟨rfl, rfl⟩ := H
    go_enter Try.func11, Try.ntmps11
    go_wp2_with (first | ((with_reducible refine gate_dst (N := 1) rfl ?_); refine boxE_ HB 1 #[.int .i64 a0_0, .slice A0_1 l0_1.length c0_1] 24 ?_; clear HB; intro gb185 w5 HB BK185 GW185 GE185 hb; clear hb; obtain ⟨hcz6_0, hcz6_1, hfz6_0, hfz6_1, _⟩ := two_cells BK185.out) | (refine gc_ 14 5 Try.func14 #[.agg #[.int .i64 a0_0, .slice A0_1 l0_1.length c0_1]] ?_; (with_reducible refine (impl_ArePins.calls a0_0 _ _ l0_1 true _ ?_ ?_ A2.out).mono ?_); exact cB (Kd.C_below HR0_1.out HB.out); exact HC0_1.out; rintro e w7 ⟨rfl, hb⟩; refine ⟨_, rfl, ?_⟩; replace BK185 := kb2 BK185 hb; replace HB := hB2 HB hb; (try clear hb); obtain ⟨hcz8_0, hcz8_1, hfz8_0, hfz8_1, _⟩ := two_cells BK185.out) | (refine gc_ 41 8 Try.func41 #[.agg #[.int .i64 a0_0, .slice A0_1 l0_1.length c0_1]] ?_; (with_reducible refine (impl_Pins_all.calls k a0_0 _ _ l0_1 t187 t190 _ ?_ ?_ A4.out).mono ?_); exact cB (Kd.C_below HR0_1.out HB.out); exact HC0_1.out; rintro e w9 ⟨v188, rfl, ho0, hb⟩; refine ⟨_, rfl, ?_⟩; have HO189 := amk (Kd.R_lower ho0 (below_size bB)); replace BK185 := kb2 BK185 hb; replace HB := hB2 HB hb; (try clear hb); (try clear ho0)))
    go_ret2
    exact ⟨_, rF_, oX HO189, bB⟩
  · simp only [Option.some.injEq, Prod.mk.injEq] at H
    obtain ⟨rfl, rfl⟩ := H
    go_enter Try.func11, Try.ntmps11
    go_wp2_with (first | ((with_reducible refine gate_dst (N := 1) rfl ?_); refine boxE_ HB 1 #[.int .i64 a0_0, .slice A0_1 l0_1.length c0_1] 24 ?_; clear HB; intro gb185 w10 HB BK185 GW185 GE185 hb; clear hb; obtain ⟨hcz11_0, hcz11_1, hfz11_0, hfz11_1, _⟩ := two_cells BK185.out) | (refine gc_ 14 5 Try.func14 #[.agg #[.int .i64 a0_0, .slice A0_1 l0_1.length c0_1]] ?_; (with_reducible refine (impl_ArePins.calls a0_0 _ _ l0_1 false _ ?_ ?_ A2.out).mono ?_); exact cB (Kd.C_below HR0_1.out HB.out); exact HC0_1.out; rintro e w12 ⟨rfl, hb⟩; refine ⟨_, rfl, ?_⟩; replace BK185 := kb2 BK185 hb; replace HB := hB2 HB hb; (try clear hb)))
    go_ret2
    exact ⟨_, rF_, xN_, bB⟩
/-! ### impl_CountKeys: function 9 -/
def impl_CountKeys.f (k : Nat) (a0_0 : Int) (l0_1 : List (List Int)) : Option (Int × Bool) := (impl_ArePins.f a0_0 l0_1).bind fun t153 => (if t153 = true then ((impl_Pins_keys.f k a0_0 l0_1).bind fun t154 => (some (t154, true))) else (some (0, false)))
set_option maxHeartbeats 8000000 in
set_option maxRecDepth 100000 in
theorem impl_CountKeys.calls (k : Nat) (a0_0 : Int) (A0_1 : Option Addr) (c0_1 : Nat) (l0_1 : List (List Int)) (r1 : Int) (r2 : Bool) (w : World) (hr0_1 : Kd.C (Kd.slice 3 (Kd.int .i64)) w A0_1 l0_1.length l0_1) (hc0_1 : l0_1.length ≤ c0_1) (h : impl_CountKeys.f k a0_0 l0_1 = some (r1, r2)) :
    Calls Try.prog 9 #[.agg #[.int .i64 a0_0, .slice A0_1 l0_1.length c0_1]] w fun e w' => e = .returned (.tuple #[.int .i64 r1, .bool r2]) ∧ Below w.heap.size w w' := by
  have hu24 := Try.underlying24
  have HR0_1 := amk hr0_1
  have HC0_1 := amk hc0_1
  clear hr0_1 hc0_1
  have HB := amk (Below.refl w.heap.size w)
  have H : ((impl_ArePins.f a0_0 l0_1).bind fun t153 => (if t153 = true then ((impl_Pins_keys.f k a0_0 l0_1).bind fun t154 => (some (t154, true))) else (some (0, false)))) = some (r1, r2) := h
  clear h
  replace H := bE H
  obtain ⟨t153, A2, H⟩ := H
  replace H := iteB H; obtain ⟨rfl, H⟩ | ⟨rfl, H⟩ := H
  · replace H := Option.bind_eq_some_iff.mp H
    obtain ⟨t154, A40, H⟩ := H
    replace H : (some (t154, true)) = some (r1, r2) := H
    have A4 := amk A40
    clear A40
    simp only [Option.some.injEq, Prod.mk.injEq] at H
    obtain ⟨rfl, rfl⟩ := H
    go_enter Try.func9, Try.ntmps9
    go_wp2_with (first | ((with_reducible refine gate_dst (N := 1) rfl ?_); refine boxE_ HB 1 #[.int .i64 a0_0, .slice A0_1 l0_1.length c0_1] 24 ?_; clear HB; intro gb152 w5 HB BK152 GW152 GE152 hb; clear hb; obtain ⟨hcz6_0, hcz6_1, hfz6_0, hfz6_1, _⟩ := two_cells BK152.out) | (refine gc_ 14 5 Try.func14 #[.agg #[.int .i64 a0_0, .slice A0_1 l0_1.length c0_1]] ?_; (with_reducible refine (impl_ArePins.calls a0_0 _ _ l0_1 true _ ?_ ?_ A2.out).mono ?_); exact cB (Kd.C_below HR0_1.out HB.out); exact HC0_1.out; rintro e w7 ⟨rfl, hb⟩; refine ⟨_, rfl, ?_⟩; replace BK152 := kb2 BK152 hb; replace HB := hB2 HB hb; (try clear hb); obtain ⟨hcz8_0, hcz8_1, hfz8_0, hfz8_1, _⟩ := two_cells BK152.out) | (refine gc_ 39 8 Try.func39 #[.agg #[.int .i64 a0_0, .slice A0_1 l0_1.length c0_1]] ?_; (with_reducible refine (impl_Pins_keys.calls k a0_0 _ _ l0_1 t154 _ ?_ ?_ A4.out).mono ?_); exact cB (Kd.C_below HR0_1.out HB.out); exact HC0_1.out; rintro e w9 ⟨rfl, hb⟩; refine ⟨_, rfl, ?_⟩; replace BK152 := kb2 BK152 hb; replace HB := hB2 HB hb; (try clear hb)))
    go_ret2
    exact ⟨rF_, bB⟩
  · simp only [Option.some.injEq, Prod.mk.injEq] at H
    obtain ⟨rfl, rfl⟩ := H
    go_enter Try.func9, Try.ntmps9
    go_wp2_with (first | ((with_reducible refine gate_dst (N := 1) rfl ?_); refine boxE_ HB 1 #[.int .i64 a0_0, .slice A0_1 l0_1.length c0_1] 24 ?_; clear HB; intro gb152 w10 HB BK152 GW152 GE152 hb; clear hb; obtain ⟨hcz11_0, hcz11_1, hfz11_0, hfz11_1, _⟩ := two_cells BK152.out) | (refine gc_ 14 5 Try.func14 #[.agg #[.int .i64 a0_0, .slice A0_1 l0_1.length c0_1]] ?_; (with_reducible refine (impl_ArePins.calls a0_0 _ _ l0_1 false _ ?_ ?_ A2.out).mono ?_); exact cB (Kd.C_below HR0_1.out HB.out); exact HC0_1.out; rintro e w12 ⟨rfl, hb⟩; refine ⟨_, rfl, ?_⟩; replace BK152 := kb2 BK152 hb; replace HB := hB2 HB hb; (try clear hb)))
    go_ret2
    exact ⟨rF_, bB⟩
/-! ### slices_Index_int_int: function 62 -/
def slices_Index_int_int.l0 : Nat → List Int → Int → Int → Int → Option (Int)
  | 0, _, _, _, _ => none
  | k + 1, x0, x1, x7, x8 => if x8 < x7 then (if 0 ≤ x8 then (if x8 < (x0.length : Int) then (if x1 = (rd x0 x8) then (some x8) else (slices_Index_int_int.l0 k x0 x1 x7 (wrap64 (x8 + 1)))) else (none)) else (none)) else (some (-1))
def slices_Index_int_int.f (k : Nat) (l0 : List Int) (a1 : Int) : Option (Int) := slices_Index_int_int.l0 k l0 a1 (l0.length : Int) 0
set_option maxHeartbeats 8000000 in
set_option maxRecDepth 100000 in
theorem slices_Index_int_int.calls (k : Nat) (A0 : Option Addr) (c0 : Nat) (l0 : List Int) (a1 : Int) (r : Int) (w : World) (hr0 : Kd.C (Kd.int .i64) w A0 l0.length l0) (hc0 : l0.length ≤ c0) (h : slices_Index_int_int.f k l0 a1 = some r) :
    Calls Try.prog 62 #[.slice A0 l0.length c0, .int .i64 a1] w fun e w' => e = .returned (.int .i64 r) ∧ Drawn0 w w' := by
  have HR0 := amk hr0
  have HC0 := amk hc0
  clear hr0 hc0
  have H : (slices_Index_int_int.l0 k l0 a1 (l0.length : Int) 0) = some r := h
  clear h
  have H' := amk H
  clear H
  go_enter Try.func62, Try.ntmps62
  go_wp2
  go_loopg [8] k (fun kq v8 w' => ∃ (x8_1 : Int), v8 = .int .i64 x8_1 ∧ Aside0 (slices_Index_int_int.l0 kq l0 a1 (l0.length : Int) x8_1 = some r) ∧ Aside0 (kq ≤ k) ∧ Drawn0 w w')
  case atStart => exact ⟨(0), rS_, H', ⟨Nat.le_refl _⟩, dR_⟩
  case round =>
    clear H'
    try clear p2
    obtain ⟨x8_1, rfl, HA, HK1, ⟨m1, rfl⟩⟩ := hrel
    cases gk with
    | zero => exact absurd HA.out (by simp [slices_Index_int_int.l0])
    | succ k1 =>
      have H := HA.out
      clear HA
      simp only [slices_Index_int_int.l0] at H
      replace H := iteE H; obtain ⟨c3b0, H⟩ | ⟨c3b0, H⟩ := H
      · replace H := iteN H; obtain ⟨c4b0, H⟩ := H
        replace H := iteN H; obtain ⟨c5b0, H⟩ := H
        by_cases c6 : a1 = (rd l0 x8_1)
        · rw [if_pos c6] at H
          have c6b0 : (a1 == (rd l0 x8_1)) = true := beq_iff_eq.mpr c6
          have c6b1 : (a1 != (rd l0 x8_1)) = false := bne_eq_false_iff_eq.mpr c6
          clear c6
          obtain rfl := Option.some.inj H
          have p115 : 0 ≤ (x8_1 : Int) := dA_
          have q115 : x8_1 < (l0.length : Int) := dA_
          obtain ⟨ad115, e115, hx115_0⟩ := Kd.at_int HR0.out x8_1 p115 q115
          cases e115
          replace p115 := eq_true p115
          replace q115 := eq_true q115
          go_wp2
          go_ret
          exact ⟨rS_, dR_⟩
        · rw [if_neg c6] at H
          have c6b0 : (a1 == (rd l0 x8_1)) = false := beq_eq_false_iff_ne.mpr c6
          have c6b1 : (a1 != (rd l0 x8_1)) = true := bne_iff_ne.mpr c6
          have H' := amk H
          clear H
          have p115 : 0 ≤ (x8_1 : Int) := dA_
          have q115 : x8_1 < (l0.length : Int) := dA_
          obtain ⟨ad115, e115, hx115_0⟩ := Kd.at_int HR0.out x8_1 p115 q115
          cases e115
          replace p115 := eq_true p115
          replace q115 := eq_true q115
          go_wp2
          go_roundg k1
          case measure => have := HK1.out; omega
          case rel => exact ⟨(wrap64 (x8_1 + 1)), rS_, H', ⟨by have := HK1.out; omega⟩, dR_⟩
      · obtain rfl := Option.some.inj H
        go_wp2
        go_ret
        exact ⟨rS_, dR_⟩
/-! ### slices_Contains_int_int: function 35 -/
def slices_Contains_int_int.f (k : Nat) (l0 : List Int) (a1 : Int) : Option (Bool) := (slices_Index_int_int.f k l0 a1).bind fun t116 => (some (decide (t116 ≥ 0)))
set_option maxHeartbeats 8000000 in
set_option maxRecDepth 100000 in
theorem slices_Contains_int_int.calls (k : Nat) (A0 : Option Addr) (c0 : Nat) (l0 : List Int) (a1 : Int) (r : Bool) (w : World) (hr0 : Kd.C (Kd.int .i64) w A0 l0.length l0) (hc0 : l0.length ≤ c0) (h : slices_Contains_int_int.f k l0 a1 = some r) :
    Calls Try.prog 35 #[.slice A0 l0.length c0, .int .i64 a1] w fun e w' => e = .returned (.bool r) ∧ Drawn0 w w' := by
  have HR0 := amk hr0
  have HC0 := amk hc0
  clear hr0 hc0
  have H : ((slices_Index_int_int.f k l0 a1).bind fun t116 => (some (decide (t116 ≥ 0)))) = some r := h
  clear h
  replace H := bE H
  obtain ⟨t116, A3, H⟩ := H
  obtain rfl := Option.some.inj H
  go_enter Try.func35, Try.ntmps35
  go_wp2_with (first | (refine gc_ 62 7 Try.func62 #[.slice A0 l0.length c0, .int .i64 a1] ?_; (with_reducible refine (slices_Index_int_int.calls k _ _ l0 a1 t116 _ ?_ ?_ A3.out).mono ?_); exact cB HR0.out; exact HC0.out; rintro e w' ⟨rfl, ⟨nd, rfl⟩⟩; refine ⟨_, rfl, ?_⟩))
  go_ret
  exact ⟨rS_, dR_⟩
end Go.Proofs.Ytcbeihidnodceaa.P