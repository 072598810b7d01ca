import Derived.Test.YtalmbdmkajohlaaGreatDoorProg
import Derived.Below
import Derived.Deep.Draws
import Derived.Deep.AppendLies
import Derived.Maps.AppendAt
import Derived.OwnWalk
import Derived.Laws.BytesArg
import Derived.Laws.MakeOwn
import Derived.Laws.OwnMore
import Derived.Deep.OwnRows
import Derived.Tactics
import Derived.Lib.ConvBytes
import Derived.Laws.Slices
import Derived.WalkKit
import Derived.KernelRfl
import Derived.RowKit3
import Derived.Deep.LoopGhost
import Derived.Deep.QuietTactic
import Derived.BigQuiet
import Derived.WideLaws
import Derived.Deep.DeepCutAuto
import Derived.Deep.CutBlock
import Derived.Deep.RegionHeld3
import Derived.Laws.Rows
import Derived.Lib.AppendStr
import Derived.ArgAppend
import Derived.Laws.IdiomCopy
import Derived.OrdersHeld
import Derived.Laws.BitsLemmas
import Derived.RowKit
import Derived.Test.YtalmbdmkajohlaaGreatDoorKFnCodesGuessedOfAllWWords
import Derived.Test.YtalmbdmkajohlaaGreatDoorKFnCodesGuessedOfAllWLast
import Derived.Test.YtalmbdmkajohlaaGreatDoorKFnCodesGuessedOfAllWTab
import Derived.Test.YtalmbdmkajohlaaGreatDoorKFnCodesGuessedOfAllWQPut
import Derived.Test.YtalmbdmkajohlaaGreatDoorKFnCodesGuessedOfAllWApart
import Derived.Test.YtalmbdmkajohlaaGreatDoorKFnCodesGuessedOfAllWArr
import Derived.Test.YtalmbdmkajohlaaGreatDoorKFnCodesGuessedOfAllWZeros
import Derived.Test.YtalmbdmkajohlaaGreatDoorKFnCodesGuessedOfAllWFoot
import Derived.Test.YtalmbdmkajohlaaGreatDoorKFnCodesGuessedOfAllWKept
import Derived.Test.YtalmbdmkajohlaaGreatDoorKFnCodesGuessedOfAllWShare
import Derived.Test.YtalmbdmkajohlaaGreatDoorKFnCodesGuessedOfAllWN
import Derived.Test.YtalmbdmkajohlaaGreatDoorKFnCodesGuessedOfAllWEqStruct
import Derived.Test.YtalmbdmkajohlaaGreatDoorKFnCodesGuessedOfAllWRepsOne
import Derived.Test.YtalmbdmkajohlaaGreatDoorKFnCodesGuessedOfAllWInv
import Derived.Test.YtalmbdmkajohlaaGreatDoorKFnCodesGuessedOfAllWGuard
import Derived.Test.YtalmbdmkajohlaaGreatDoorKFnCodesGuessedOfAllWNEv
import Derived.Test.YtalmbdmkajohlaaGreatDoorKFnCodesGuessedOfAllWMore
import Derived.Lib.IndexMore
import Derived.Test.YtalmbdmkajohlaaGreatDoorHShelf
import Derived.Lib.Join
import Derived.Lib.SplitLaws
import Derived.Test.YtalmbdmkajohlaaGreatDoorHShelfP
import Derived.Shelf.Abstract
namespace Go.Proofs.YtalmbdmkajohlaaGreatDoor.P
open Go.RowKit Go.Proofs.YtalmbdmkajohlaaGreatDoorW.PrintWords Go.Proofs.YtalmbdmkajohlaaGreatDoorW.PrintLast Go.Proofs.YtalmbdmkajohlaaGreatDoorW.PrintMore
attribute [local go_sem] max2_int min2_int max_two min_two max_three min_three max_four min_four
set_option linter.unusedVariables false
set_option linter.unusedSimpArgs false
theorem amk {p : Prop} (h : p) : Aside0 p := Aside0.mk h
theorem bn_ : type_of% @pw_below_drewN := @pw_below_drewN
theorem bd_ : type_of% @below_drew1 := @below_drew1
theorem ba_ : type_of% @below_alloc := @below_alloc
theorem bs_ : type_of% @below_set := @below_set
theorem kn_ : type_of% @blk_drewN := @blk_drewN
theorem ka_ : type_of% @blk_alloc := @blk_alloc
theorem bp_ : type_of% @below_step := @below_step
def errW : Option Int → Value
  | none => .nilIface
  | some c => .iface 105 (.int .i64 c)
theorem errW_none : errW none = .nilIface := rfl
theorem errW_some (c : Int) : errW (some c) = .iface 105 (.int .i64 c) := rfl
theorem info3 : (Tryz.prog.info? 3).map (fun i => (i.zero, i.size, i.bytes)) = some (some (.int .i64 0), 1, 8) := by kernel_rfl
theorem info5 : (Tryz.prog.info? 5).map (fun i => (i.zero, i.size, i.bytes)) = some (some (.int .u8 0), 1, 1) := by kernel_rfl
theorem info9 : (Tryz.prog.info? 9).map (fun i => (i.zero, i.size, i.bytes)) = some (some (.string ⟨#[]⟩), 1, 16) := by kernel_rfl
theorem info45 : (Tryz.prog.info? 45).map (fun i => (i.zero, i.size, i.bytes)) = some (some (.agg #[(.int .i64 0), (.int .i64 0), (.int .i64 0)]), 3, 24) := by kernel_rfl
-- the values' own types
/-! #### struct type 23 -/
structure S23 where
  f0 : Int
  f1 : Int
def k23 : Kd S23 := Kd.iso (Kd.pair (Kd.int .i64) (Kd.int .i64)) (fun x : S23 => (x.f0, x.f1))
theorem k23_open {w : World} {x : S23} {cs : List Value} (h : k23.K w x cs) : cs = [.int .i64 x.f0, .int .i64 x.f1] := by
  obtain ⟨_, _, rfl, rfl, rfl⟩ := h; exact rfl
/-! #### struct type 45 -/
structure S45 where
  f0 : Int
  f1 : Int
  f2 : Int
def z45 : S45 := ⟨(0 : Int), (0 : Int), (0 : Int)⟩
def k45 : Kd S45 := Kd.iso (Kd.pair (Kd.int .i64) (Kd.pair (Kd.int .i64) (Kd.int .i64))) (fun x : S45 => (x.f0, x.f1, x.f2))
theorem k45_open {w : World} {x : S45} {cs : List Value} (h : k45.K w x cs) : cs = [.int .i64 x.f0, .int .i64 x.f1, .int .i64 x.f2] := by
  obtain ⟨_, _, rfl, rfl, ⟨_, _, rfl, rfl, rfl⟩⟩ := h; exact rfl
theorem k45_mkM (w : World) (base : Nat) (ok : Nat → Prop) (x : S45)  : k45.M w base ok x [.int .i64 x.f0, .int .i64 x.f1, .int .i64 x.f2] := ⟨[.int .i64 x.f0], [.int .i64 x.f1, .int .i64 x.f2], rfl, rfl, ⟨[.int .i64 x.f1], [.int .i64 x.f2], rfl, rfl, rfl⟩⟩
def rd_T45 (xs : List S45) (i : Int) : S45 := xs.getD i.toNat z45
theorem at_T45 {w : World} {A : Option Addr} {n : Nat} {xs : List S45} (h : Kd.C k45 w A n xs) (i : Int) (h0 : 0 ≤ i) (h1 : i < n) : ∃ ad , A = some ad ∧ w.cell? (ad.add (i.toNat * 3)) = some (.int .i64 (rd_T45 xs i).f0) ∧ w.cell? ⟨(ad.add (i.toNat * 3)).block, (ad.add (i.toNat * 3)).off + 1, none⟩ = some (.int .i64 (rd_T45 xs i).f1) ∧ w.cell? ⟨(ad.add (i.toNat * 3)).block, (ad.add (i.toNat * 3)).off + 2, none⟩ = some (.int .i64 (rd_T45 xs i).f2) := by
  obtain ⟨ad, c, e, _, hK, hc0⟩ := Kd.C_get h z45 i h0 h1; have hc : ∀ j u, c[j]? = some u → w.cell? (ad.add (i.toNat * 3 + j)) = some u := hc0; obtain rfl := k45_open hK; exact ⟨ad, e, hc 0 _ rfl, by rw [← add_field _ _ 1 (by omega)]; exact hc 1 _ rfl, by rw [← add_field _ _ 2 (by omega)]; exact hc 2 _ rfl⟩
/-! #### struct type 26 -/
structure S26 where
  f0 : S23
  f1 : (List S45)
def k26 : Kd S26 := Kd.iso (Kd.pair k23 (Kd.slice 45 k45)) (fun x : S26 => (x.f0, x.f1))
theorem k26_open {w : World} {x : S26} {cs : List Value} (h : k26.K w x cs) : ∃ A2 c2, cs = [.int .i64 x.f0.f0, .int .i64 x.f0.f1, .slice A2 x.f1.length c2] ∧ x.f1.length ≤ c2 ∧ k45.C w A2 x.f1.length x.f1 := by
  obtain ⟨_, _, rfl, s0, ⟨A2, c2, rfl, l2, g2⟩⟩ := h; obtain rfl := k23_open s0; exact ⟨A2, c2, rfl, l2, g2⟩
/-! Short words for what the printed walks say over and over: each proof is told once, as a default. -/
theorem bB {P : Prop} (h : P := by repeat (first | (with_reducible first | exact HB.out | apply ba_ | apply bn_ | apply bd_ | refine bs_ ?_ (Aside0.out (by with_reducible assumption))) | exact HB.out)) : P := h
theorem kB {P Q : Prop} (a : Aside0 P) (f : P → Q := by intro h; (with_reducible repeat (first | refine kn_ ?_ _ | refine blk_drew ?_ | refine ka_ ?_ _ | refine blk_far ?_ (Aside0.out (by with_reducible assumption)) _)); exact h) : Q := f a.out
theorem kP {P Q : Prop} (a : Aside0 P) (f : P → Q := by intro h; (repeat (first | (with_reducible first | refine kn_ ?_ _ | refine blk_drew ?_ | refine ka_ ?_ _ | refine blk_far ?_ (Aside0.out (by with_reducible assumption)) _ | apply blk_put) | apply blk_put)); exact h; all_goals rfl) : Q := f a.out
theorem kb2 {W W' w2 : World} {g : Nat} {o : Obj} (a : Aside0 (W.heap[g]? = some o)) (hb : Below W'.heap.size W' w2) (f : W.heap[g]? = some o → W'.heap[g]? = some o := by intro h; (with_reducible repeat (first | refine kn_ ?_ _ | refine blk_drew ?_ | refine ka_ ?_ _ | refine blk_far ?_ (Aside0.out (by with_reducible assumption)) _)); exact h) : Aside0 (w2.heap[g]? = some o) := ⟨blk_below (f a.out) hb⟩
theorem hB2 {w W W' w2 : World} (a : Aside0 (Below w.heap.size w W)) (hb : Below W'.heap.size W' w2) (f : Below w.heap.size w W → Below w.heap.size w W' := by intro h; repeat (first | (with_reducible first | exact h | apply ba_ | apply bn_ | apply bd_ | refine bs_ ?_ (Aside0.out (by with_reducible assumption))) | exact h)) : Aside0 (Below w.heap.size w w2) := ⟨bp_ (f a.out) hb⟩
theorem cB {P Q : Prop} (h : P) (f : P → Q := by intro h; repeat (first | exact h | (with_reducible refine Kd.C_alloc ?_ _) | (with_reducible refine Kd.C_drewN ?_ _) | (with_reducible refine Kd.C_drew ?_))) : Q := f h
theorem oX {P Q : Prop} (a : Aside0 P) (f : P → Q := by intro h; (with_reducible repeat (first | apply Kd.R_alloc | apply Kd.R_drewN | apply Kd.R_drew | apply Kd.S_alloc | apply Kd.S_drewN | apply Kd.S_drew | apply Kd.V_alloc | apply Kd.V_drewN | apply Kd.V_drew | apply Kd.N_alloc | apply Kd.N_drewN | apply Kd.N_drew)); exact h) : Q := f a.out
theorem gL_ {P : Prop} (h : P := by (try simp only [List.map_toArray, List.map_cons, List.map_nil]); first | done | rfl | (simp only [List.length_drop, List.length_take]; rfl)) : P := h
theorem rF_ {P : Prop} (h : P := by first | rfl | (simp [errW_none, errW_some] <;> rfl) | (simp [*, errW_none, errW_some] <;> rfl)) : P := h
theorem dA_ {P : Prop} [Decidable P] (h : decide P = true := by first | (with_reducible assumption) | assumption) : P := of_decide_eq_true h
theorem rS_ {P : Prop} (h : P := by first | rfl | (simp; done) | (simp [*]; done)) : P := h
theorem dR_ {P : Prop} (h : P := by repeat (first | exact Drawn0.refl _ | apply Drawn0.step)) : P := h
theorem xN_ {P : Prop} (h : P := by first | exact Kd.S_nil _ _ _ _ _ | exact Kd.N_nil _ _ _ _ _ | exact Kd.V_nil _ _ _ _ _ | exact Kd.Q_nil _ _ _ _ _ | exact Kd.R_nil _ _ _ _ _) : P := h
theorem iteN {α : Type} {c : Prop} [Decidable c] {a : Option α} {r : α} (H : (if c then a else none) = some r) : decide c = true ∧ a = some r := by
  by_cases h : c
  · rw [if_pos h] at H; exact ⟨decide_eq_true h, H⟩
  · rw [if_neg h] at H; exact absurd H (by simp)
theorem iteE {α : Type} {c : Prop} [Decidable c] {a b : Option α} {r : Option α} (H : (if c then a else b) = r) : (decide c = true ∧ a = r) ∨ (decide c = false ∧ b = r) := by
  by_cases h : c
  · rw [if_pos h] at H; exact .inl ⟨decide_eq_true h, H⟩
  · rw [if_neg h] at H; exact .inr ⟨decide_eq_false h, H⟩
section
variable {P : Program} {ops : Array Oper} {o : Oper} {rest : List Oper} {a : Act} {Q : Exit → Act → World → Prop} {w W W0 : World}
theorem boxE_ (HB : Aside0 (Below w.heap.size w W0)) (N : Tmp) (cs : Array Value) (t : TypeId)
    (h : ∀ g w1, Aside0 (Below w.heap.size w w1) → Aside0 (w1.heap[g]? = some (.cells cs t (0, 0))) → Aside0 (w.heap.size ≤ g) → Aside0 (w.heap.size ≤ g) → Below W.heap.size W w1 → wpList P ops Q rest (a.put o.dst (.pointer (some ⟨g, 0, none⟩))) w1)
    (hd : o.dst = some N := by rfl) (hgd : o.guard = none := by rfl) (hrun : (execOp a.eval o).run P W = .ok (.value (.pointer (some ⟨W.heap.size, 0, none⟩))) (W.alloc (.cells cs t (0, 0))) := by first | (go_simp; done) | (go_simp; rfl))
    (f : Below w.heap.size w W0 → Below w.heap.size w W := by intro h; repeat (first | (with_reducible first | exact h | apply ba_ | apply bn_ | apply bd_ | refine bs_ ?_ (Aside0.out (by with_reducible assumption))) | exact h)) : wpList P ops Q (o :: rest) a W :=
  box_event hgd hd hrun fun g e w1 hbox hb => h g w1 ⟨bp_ (f HB.out) hb⟩ ⟨hbox⟩ ⟨by rw [e]; exact (f HB.out).size⟩ ⟨by rw [e]; exact (f HB.out).size⟩ hb
end
section
variable {w0 w W0 W w2 : World} {g gb g2 : Nat} {o : Obj} {row : Option Nat}
theorem neL (a : Aside0 (W0.heap[g]? = some o)) (e : g2 = W.heap.size) (f : W0.heap[g]? = some o → W.heap[g]? = some o := by intro h; (with_reducible repeat (first | refine kn_ ?_ _ | refine blk_drew ?_ | refine ka_ ?_ _ | refine blk_far ?_ (Aside0.out (by with_reducible assumption)) _)); exact h) : Aside0 (g ≠ g2) := ⟨by rw [e]; exact Nat.ne_of_lt (blk_lt (f a.out))⟩
theorem neR (a : Aside0 (W0.heap[g]? = some o)) (e : g2 = W.heap.size) (f : W0.heap[g]? = some o → W.heap[g]? = some o := by intro h; (with_reducible repeat (first | refine kn_ ?_ _ | refine blk_drew ?_ | refine ka_ ?_ _ | refine blk_far ?_ (Aside0.out (by with_reducible assumption)) _)); exact h) : Aside0 (g2 ≠ g) := ⟨by rw [e]; exact Nat.ne_of_gt (blk_lt (f a.out))⟩
theorem bG (a : Aside0 (W0.heap[g]? = some o)) (hg : W.grownBy w2 row) (hn : some g ≠ row) (f : W0.heap[g]? = some o → W.heap[g]? = some o := by intro h; (with_reducible repeat (first | refine kn_ ?_ _ | refine blk_drew ?_ | refine ka_ ?_ _ | refine blk_far ?_ (Aside0.out (by with_reducible assumption)) _)); exact h) : Aside0 (w2.heap[g]? = some o) := ⟨blk_grown (f a.out) hg hn⟩
theorem sZ (a : Aside0 (Below w.heap.size w W0)) (e : gb = W.heap.size) (f : Below w.heap.size w W0 → Below w.heap.size w W := by intro h; repeat (first | (with_reducible first | exact h | apply ba_ | apply bn_ | apply bd_ | refine bs_ ?_ (Aside0.out (by with_reducible assumption))) | exact h)) : Aside0 (w.heap.size ≤ gb) := ⟨by rw [e]; exact (f a.out).size⟩
end
theorem dN_ {P : Prop} (h : P := by first | exact ⟨rfl, _, World.drewN_drewN _ _ _⟩ | exact ⟨rfl, _, Eq.trans (World.drewN_drewN _ _ _) (congrArg (World.drewN _) (Nat.add_assoc _ _ _))⟩) : P := h
theorem bE {α β : Type} {o : Option α} {f : α → Option β} {r : β} (H : o.bind f = some r) : ∃ t, Aside0 (o = some t) ∧ f t = some r := by
  obtain ⟨t, h1, h2⟩ := Option.bind_eq_some_iff.mp H
  exact ⟨t, ⟨h1⟩, h2⟩
theorem iteB {α : Type} {b : Bool} {x y : Option α} {r : Option α} (H : (if b = true then x else y) = r) : (b = true ∧ x = r) ∨ (b = false ∧ y = r) := by
  cases b with
  | true => rw [if_pos rfl] at H; exact .inl ⟨rfl, H⟩
  | false => rw [if_neg (by decide)] at H; exact .inr ⟨rfl, H⟩
section
variable {P : Program} {ops : Array Oper} {o : Oper} {rest : List Oper} {a : Act} {Q : Exit → Act → World → Prop} {w W W0 : World}
theorem boxG_ (N : Tmp) (cs : Array Value) (t : TypeId)
    (h : ∀ g w1, g = W.heap.size → Aside0 (w1.heap[g]? = some (.cells cs t (0, 0))) → Below W.heap.size W w1 → wpList P ops Q rest (a.put o.dst (.pointer (some ⟨g, 0, none⟩))) w1)
    (hd : o.dst = some N := by rfl) (hgd : o.guard = none := by rfl) (hrun : (execOp a.eval o).run P W = .ok (.value (.pointer (some ⟨W.heap.size, 0, none⟩))) (W.alloc (.cells cs t (0, 0))) := by first | (go_simp; done) | (go_simp; rfl)) : wpList P ops Q (o :: rest) a W :=
  box_event hgd hd hrun fun g e w1 hbox hb => h g w1 e ⟨hbox⟩ hb
end
theorem cells2 {w : World} {g t : Nat} {a b : Value} (h : w.heap[g]? = some (.cells #[a, b] t (0, 0))) : w.cell? ⟨g, 0, none⟩ = some a ∧ w.cell? ⟨g, 1, none⟩ = some b ∧ w.frozen? ⟨g, 0, none⟩ = false ∧ w.frozen? ⟨g, 1, none⟩ = false := ⟨(blk_cell h 0).trans rfl, (blk_cell h 1).trans rfl, blk_frozen h 0, blk_frozen h 1⟩
theorem cells3 {w : World} {g t : Nat} {a b c : Value} (h : w.heap[g]? = some (.cells #[a, b, c] t (0, 0))) : w.cell? ⟨g, 0, none⟩ = some a ∧ w.cell? ⟨g, 1, none⟩ = some b ∧ w.cell? ⟨g, 2, none⟩ = some c ∧ w.frozen? ⟨g, 0, none⟩ = false ∧ w.frozen? ⟨g, 1, none⟩ = false ∧ w.frozen? ⟨g, 2, none⟩ = false := ⟨(blk_cell h 0).trans rfl, (blk_cell h 1).trans rfl, (blk_cell h 2).trans rfl, blk_frozen h 0, blk_frozen h 1, blk_frozen h 2⟩
/-! Lengths of what a cut gives. -/
theorem cut_len (l sep : List UInt8) : (Lib.cut l sep).1.length ≤ l.length ∧ (Lib.cut l sep).2.1.length ≤ l.length := by
  unfold Lib.cut
  split
  · simp only [List.length_take, List.length_drop]; omega
  · simp
/-! Small laws on 'from some number of rounds on'. -/
theorem Ev.yes {α : Type} {c : Prop} [Decidable c] {f g : Nat → Option α} {r : α} (h : c) (k : Ev f r) : Ev (fun n => if c then f n else g n) r := by
  simp only [if_pos h]; exact k
theorem Ev.no {α : Type} {c : Prop} [Decidable c] {f g : Nat → Option α} {r : α} (h : ¬ c) (k : Ev g r) : Ev (fun n => if c then f n else g n) r := by
  simp only [if_neg h]; exact k
theorem Ev.bindc {α β : Type} {o : Option α} {f : Nat → α → Option β} {a : α} {r : β} (h : o = some a) (k : Ev (fun n => f n a) r) : Ev (fun n => o.bind (f n)) r := by
  subst h; exact k
theorem Ev.id {α : Type} {r s : α} (h : s = r) : Ev (fun _ => some s) r := by subst h; exact Ev.now s
theorem Ev.eq {α : Type} {g : Nat → Option α} {r s : α} (h : Ev g r) (e : r = s) : Ev g s := by subst e; exact h
theorem Ev.both {α : Type} {c : Prop} [Decidable c] {f g : Nat → Option α} {r : α} (h : c → Ev f r) (k : ¬ c → Ev g r) : Ev (fun n => if c then f n else g n) r := by
  by_cases e : c
  · exact Ev.yes e (h e)
  · exact Ev.no e (k e)
theorem Ev.un {α : Type} {g : Nat → Option α} {r s : α} (h : Ev g r) (k : Ev g s) : r = s := by
  obtain ⟨K, h⟩ := h; obtain ⟨K', k⟩ := k
  have a := h (max K K') (by omega); have b := k (max K K') (by omega)
  rw [a] at b; exact Option.some.inj b
theorem w64 {x : Int} (h : -9223372036854775808 ≤ x) (h' : x ≤ 9223372036854775807) : wrap64 x = x := by unfold wrap64; omega
/-! Locks: which numbers are one, how many codes there are. -/
def lockB (w d : Int) : Bool := decide (1 ≤ w) && decide (w ≤ 6) && decide (2 ≤ d) && decide (d ≤ 10)
def smallB (w d m : Int) : Bool := lockB w d && decide (d ^ w.toNat ≤ m)
def clueB (w d k a b : Int) : Bool :=
  if k = 0 then decide (0 ≤ a ∧ a ≤ w - 1) && decide (0 ≤ b ∧ b ≤ d - 1)
  else if k = 1 then decide (0 ≤ a ∧ a ≤ 60) && (b == 0)
  else if k = 2 then decide (0 ≤ a ∧ a ≤ d ^ w.toNat - 1) && decide (0 ≤ b ∧ b ≤ w)
  else if k = 3 then decide (0 ≤ a ∧ a ≤ d ^ w.toNat - 1) && decide (0 ≤ b ∧ b ≤ 60)
  else if k = 4 then decide (2 ≤ a ∧ a ≤ 9) && decide (0 ≤ b ∧ b ≤ a - 1)
  else false
theorem lockB_iff {w d : Int} : lockB w d = true ↔ 1 ≤ w ∧ w ≤ 6 ∧ 2 ≤ d ∧ d ≤ 10 := by
  unfold lockB; simp only [Bool.and_eq_true, decide_eq_true_eq]; constructor
  · rintro ⟨⟨⟨a, b⟩, c⟩, e⟩; exact ⟨a, b, c, e⟩
  · rintro ⟨a, b, c, e⟩; exact ⟨⟨⟨a, b⟩, c⟩, e⟩
theorem smallB_iff {w d m : Int} : smallB w d m = true ↔ (1 ≤ w ∧ w ≤ 6 ∧ 2 ≤ d ∧ d ≤ 10) ∧ d ^ w.toNat ≤ m := by
  unfold smallB; rw [Bool.and_eq_true, lockB_iff, decide_eq_true_eq]
theorem smallB_lock {w d m : Int} (h : smallB w d m = true) : lockB w d = true := (Bool.and_eq_true_iff.mp h).1
theorem pow_one_le {d : Int} (h : 1 ≤ d) : ∀ n : Nat, 1 ≤ d ^ n
  | 0 => by simp
  | n + 1 => by
    have ih := pow_one_le h n
    rw [Int.pow_succ]
    calc (1 : Int) ≤ d ^ n := ih
      _ = d ^ n * 1 := by omega
      _ ≤ d ^ n * d := Int.mul_le_mul_of_nonneg_left h (by omega)
theorem pow_mono {d : Int} (h : 1 ≤ d) {m n : Nat} (hmn : m ≤ n) : d ^ m ≤ d ^ n := by
  obtain ⟨k, rfl⟩ : ∃ k, n = m + k := ⟨n - m, by omega⟩
  have h1 := pow_one_le h k
  have h2 := pow_one_le h m
  rw [Int.pow_add]
  calc d ^ m = d ^ m * 1 := by omega
    _ ≤ d ^ m * d ^ k := Int.mul_le_mul_of_nonneg_left h1 (by omega)
theorem pow_base {d e : Int} (h0 : 0 ≤ d) (h : d ≤ e) : ∀ n : Nat, d ^ n ≤ e ^ n
  | 0 => by simp
  | n + 1 => by
    have ih := pow_base h0 h n
    rw [Int.pow_succ, Int.pow_succ]
    have hn : 0 ≤ d ^ n := Int.pow_nonneg h0
    have hn' : 0 ≤ e ^ n := Int.pow_nonneg (by omega)
    exact Int.mul_le_mul ih h h0 hn'
theorem pow_bound {d : Int} {n : Nat} (h1 : 1 ≤ d) (h2 : d ≤ 10) (hn : n ≤ 6) : 1 ≤ d ^ n ∧ d ^ n ≤ 1000000 := by
  refine ⟨pow_one_le h1 n, ?_⟩
  have a := pow_base (by omega) h2 n
  have b : (10 : Int) ^ n ≤ 10 ^ 6 := pow_mono (by omega) hn
  have c : (10 : Int) ^ 6 = 1000000 := by decide
  omega
theorem count_bound {w d : Int} (h : lockB w d = true) : 1 ≤ d ^ w.toNat ∧ d ^ w.toNat ≤ 1000000 := by
  obtain ⟨a, b, c, e⟩ := lockB_iff.mp h
  exact pow_bound (by omega) e (by omega)
/-! Puzzles: which values are one. -/
def puzzleB (w d : Int) (l : List S45) : Bool := smallB w d 125 && decide (l.length ≤ 6) && l.all (fun c => clueB w d c.f0 c.f1 c.f2)
/-! strconv.Itoa, at numbers of one digit or two: the kit's contract. -/
def decB (n : Int) : ByteArray := ⟨(Lib.decDigits n.toNat).toArray⟩
def strconv_Itoa.f (n : Int) : Option ByteArray := if 0 ≤ n ∧ n < 100 then some (decB n) else none
theorem strconv_Itoa.calls (a0 : Int) (r : ByteArray) (w : World) (h : strconv_Itoa.f a0 = some r) :
    Calls Tryz.prog 64 #[.int .i64 a0] w fun e w' => e = .returned (.string r) ∧ Below w.heap.size w w' := by
  unfold strconv_Itoa.f at h
  by_cases p : 0 ≤ a0 ∧ a0 < 100
  · rw [if_pos p] at h
    obtain rfl := Option.some.inj h
    obtain ⟨n, rfl⟩ := Int.eq_ofNat_of_zero_le p.1
    unfold decB
    rw [Int.toNat_natCast]
    exact Calls.mono (Tryz.strconv_Itoa_small n (by omega) w) (fun e w' hh => ⟨hh.1, hh.2 ▸ Below.refl _ _⟩)
  · rw [if_neg p] at h; cases h
/-! strings.Join, at not too many texts: the kit's contract. -/
def joinB (l : List ByteArray) (sep : ByteArray) : ByteArray := ⟨(Lib.join (l.map (·.data.toList)) sep.data.toList).toArray⟩
def strings_Join.f (l : List ByteArray) (sep : ByteArray) : Option ByteArray := if l.length ≤ 1000 ∧ (joinB l sep).size ≤ 1000000 then some (joinB l sep) else none
theorem spot_none {w : World} {ad : Addr} {v : Value} (h : w.cell? ad = some v) : ad.spot = none := by
  unfold World.cell? at h
  split at h
  · split at h
    · cases h
    · rename_i hs
      cases e : ad.spot with
      | none => rfl
      | some q => rw [e] at hs; simp at hs
  · cases h
theorem strings_Join.calls (A0 : Option Addr) (c0 : Nat) (l0 : List ByteArray) (a1 : ByteArray) (r : ByteArray) (w : World) (hr0 : Kd.C Kd.string w A0 l0.length l0) (hc0 : l0.length ≤ c0) (h : strings_Join.f l0 a1 = some r) :
    Calls Tryz.prog 66 #[.slice A0 l0.length c0, .string a1] w fun e w' => e = .returned (.string r) ∧ Below w.heap.size w w' := by
  unfold strings_Join.f at h
  by_cases p : l0.length ≤ 1000 ∧ (joinB l0 a1).size ≤ 1000000
  · rw [if_pos p] at h
    obtain rfl := Option.some.inj h
    cases l0 with
    | nil =>
      refine Calls.mono (Tryz.strings_Join_none A0 c0 a1 w) (fun e w' hh => ⟨?_, hh.2 ▸ Below.refl _ _⟩)
      rw [hh.1]; rfl
    | cons x l =>
      obtain ⟨ad, rfl, hx⟩ := Kd.at_string hr0 0 (Int.le_refl 0) (by simp)
      have hs := spot_none hx
      obtain ⟨bk, o, sp⟩ := ad
      have hs2 : sp = none := hs
      subst hs2
      refine Tryz.strings_Join bk o c0 (x :: l) a1 w (fun j y hy => ?_) ?_ (by omega) hc0 ?_
      · obtain ⟨hj, rfl⟩ := List.getElem?_eq_some_iff.mp hy
        obtain ⟨ad2, e2, hx2⟩ := Kd.at_string hr0 (j : Int) (by omega) (by omega)
        cases e2
        rw [Int.toNat_natCast] at hx2
        have e3 : rdOf ByteArray.empty (x :: l) (j : Int) = (x :: l)[j] := by
          unfold rdOf
          rw [Int.toNat_natCast, List.getD_eq_getElem?_getD, List.getElem?_eq_getElem hj]
          rfl
        rw [e3, show (⟨bk, o, none⟩ : Addr).add j = ⟨bk, o + j, none⟩ by by_cases h0 : j = 0 <;> simp [Addr.add, h0]] at hx2
        exact hx2
      · exact World.block_lt_of_cell? w _ hx
      · have := p.2
        have e : (joinB (x :: l) a1).size = (Lib.join ((x :: l).map (·.data.toList)) a1.data.toList).length := by unfold joinB; simp [ByteArray.size]
        omega
  · rw [if_neg p] at h; cases h
/-! Joined texts, as Lean's lists tell them. -/
theorem joinB_nil (s : ByteArray) : joinB [] s = ⟨#[]⟩ := by unfold joinB; rfl
theorem joinB_one (x s : ByteArray) : joinB [x] s = x := by
  apply ByteArray.ext
  unfold joinB
  simp [Lib.join_one]
theorem joinTail_snoc (sep : List UInt8) (r : List (List UInt8)) (x : List UInt8) : Lib.joinTail sep (r ++ [x]) = Lib.joinTail sep r ++ (sep ++ x) := by
  simp [Lib.joinTail]
theorem joinB_snoc (l : List ByteArray) (x s : ByteArray) (h : l ≠ []) : joinB (l ++ [x]) s = joinB l s ++ s ++ x := by
  cases l with
  | nil => exact absurd rfl h
  | cons y r =>
    apply ByteArray.ext
    unfold joinB
    simp only [List.cons_append, List.map_cons, List.map_append, List.map_nil, Lib.join_cons, joinTail_snoc, ByteArray.data_append]
    apply Array.ext'
    simp [List.append_assoc]
theorem lens_le (m : Nat) : ∀ (r : List ByteArray), (∀ x ∈ r, x.size ≤ m) → Lib.lens (r.map (·.data.toList)) ≤ m * r.length
  | [], _ => by simp [Lib.lens]
  | y :: r, h => by
    have := lens_le m r (fun x hx => h x (List.mem_cons_of_mem _ hx))
    have h1 := h y List.mem_cons_self
    have h2 : y.data.toList.length = y.size := Array.length_toList
    unfold Lib.lens at this ⊢
    rw [List.map_cons, List.map_cons, List.sum_cons, h2, List.length_cons, Nat.mul_succ]
    omega
theorem joinB_size (m : Nat) (s : ByteArray) (l : List ByteArray) (h : ∀ x ∈ l, x.size ≤ m) : (joinB l s).size ≤ (m + s.size) * l.length := by
  cases l with
  | nil => rw [joinB_nil]; exact Nat.zero_le _
  | cons y r =>
    have h1 := h y List.mem_cons_self
    have h3 := lens_le m r (fun x hx => h x (List.mem_cons_of_mem _ hx))
    have e : (joinB (y :: r) s).size = y.size + (s.size * r.length + Lib.lens (r.map (·.data.toList))) := by
      have e2 : (joinB (y :: r) s).size = (Lib.join ((y :: r).map (·.data.toList)) s.data.toList).length := List.size_toArray
      have e3 : s.data.toList.length = s.size := Array.length_toList
      have e4 : y.data.toList.length = y.size := Array.length_toList
      rw [e2, List.map_cons, Lib.join_cons, List.length_append, Lib.joinTail_length, List.length_map, e3, e4]
    rw [e, List.length_cons, Nat.add_mul, Nat.mul_succ, Nat.mul_succ]
    omega
theorem decB_one {n : Int} (h0 : 0 ≤ n) (h : n < 10) : decB n = strOfNums [wrap64 (48 + n) % 256] := by
  obtain ⟨n, rfl⟩ := Int.eq_ofNat_of_zero_le h0
  have h2 : n < 10 := by omega
  unfold decB
  rw [Int.toNat_natCast]
  unfold Lib.decDigits
  rw [dif_pos h2]
  have key : ∀ m : Fin 10, ([UInt8.ofNat (48 + m.val)] : List UInt8) = (strOfNums [wrap64 (48 + (m.val : Int)) % 256]).data.toList := by decide +kernel
  have := key ⟨n, h2⟩
  apply ByteArray.ext
  rw [this]
/-! Short words for the steps of a region that draws. -/
def bA (n m : Nat) : Array Bool := ((List.range n).map fun i => m.testBit i).toArray
theorem bc_ {w : World} {g t : Nat} {cs : Array Value} {i : Nat} {v : Option Value} (a : Aside0 (w.heap[g]? = some (.cells cs t (0, 0)))) (e : cs[i]? = v) : w.cell? ⟨g, i, none⟩ = v := (blk_cell a.out i).trans e
theorem hC_ {P : Prop} (h : P := by (repeat' apply And.intro); all_goals first | exact bc_ (by with_reducible assumption) rfl | exact bc_ (by assumption) rfl) : P := h
section
variable {P : Program} {ops : Array Oper} {Q : Exit → Act → World → Prop} {md : Region.Mode} {S : World → Prop} {ds : List Nat} {T : Bool × List (List Nat × List Nat)} {B : List Nat} {fuel : Nat} {l : Array Bool} {a a' : Act} {w : World} {oi : Oper}
theorem pU_ (HT : Aside0 (rtab md ops = T)) (i : Nat) (N : Option Tmp) (l' : Array Bool) {v : Value} (h : wpAnyLast P md ops Q S ds fuel l' a' w)
    (hi : ops[i]? = some oi := by rfl) (hN : oi.dst = N := by rfl) (hc : anyT T l.toList l'.toList i = true := by kernel_rfl) (hQ : ∀ c a w, Q (.panic c) (a.put oi.dst v) w → Q (.panic c) a w := by exact fun _ _ _ h => h)
    (hw : Region.wanted oi (yielded ops a.tmps) = true := by rfl) (hy : ∀ w, (execOp a.eval oi).run P w = .ok (.value v) w := by (intro w'; go_simp; with_reducible rfl)) (ha : a.put N v = a' := by (simp only [Act.put, List.setIfInBounds_toArray, List.set_cons_zero, List.set_cons_succ, i64_w, i32_w]; rfl)) : wpAnyLast P md ops Q S ds (fuel + 1) l a w :=
  pure_ l' hi hN (any_of HT.out hc) hQ (.inl ⟨hw, hy⟩) ha h
theorem pZ_ (HT : Aside0 (rtab md ops = T)) (i : Nat) (N : Option Tmp) (l' : Array Bool) (h : wpAnyLast P md ops Q S ds fuel l' a' w)
    (hi : ops[i]? = some oi := by rfl) (hN : oi.dst = N := by rfl) (hc : anyT T l.toList l'.toList i = true := by kernel_rfl) (hQ : ∀ c a w, Q (.panic c) (a.put oi.dst undef) w → Q (.panic c) a w := by exact fun _ _ _ h => h)
    (hw : Region.wanted oi (yielded ops a.tmps) = false := by rfl) (ha : a.put N undef = a' := by (simp only [Act.put, List.setIfInBounds_toArray, List.set_cons_zero, List.set_cons_succ, i64_w, i32_w]; rfl)) : wpAnyLast P md ops Q S ds (fuel + 1) l a w :=
  pure_ l' hi hN (any_of HT.out hc) hQ (.inr ⟨hw, rfl⟩) ha h
theorem tK_ (HT : Aside0 (rtab md ops = T)) (HW : Aside0 (waitsOk T.2 B = true)) (hS : S w) (i : Nat) (N : Option Tmp) (l' : Array Bool) {v : Value} (h : wpAnyLast P md ops Q S ds fuel l' a' w)
    (hi : ops[i]? = some oi := by rfl) (hN : oi.dst = N := by rfl) (hc : takeW T B ds l.toList l'.toList i = true := by kernel_rfl) (hQ : ∀ c a w, Q (.panic c) (a.put oi.dst v) w → Q (.panic c) a w := by exact fun _ _ _ h => h)
    (hw : Region.wanted oi (yielded ops a.tmps) = true := by rfl) (hy : ∀ w, S w → (execOp a.eval oi).run P w = .ok (.value v) w := by (intro w' s; repeat (have := And.left s; replace s := And.right s); go_simp; with_reducible rfl)) (ha : a.put N v = a' := by (simp only [Act.put, List.setIfInBounds_toArray, List.set_cons_zero, List.set_cons_succ, i64_w, i32_w]; rfl)) : wpAnyLast P md ops Q S ds (fuel + 1) l a w :=
  take_ l' hi hN (take_ofW HT.out HW.out hc) hQ (.inl ⟨hw, hy⟩) hS ha h
theorem oN_ (HT : Aside0 (rtab md ops = T)) (i : Nat) (N : Option Tmp) (l' : Array Bool)
    (h : ∀ K : Act → World → Prop, Shut (∀ a' w', S w' → (S w' → wpAnyLast P md ops Q S ds fuel l' a' w') → K a' w') → if Region.wanted oi (yielded ops a.tmps) = true then Oper.wp P oi a w K Q else K (a.put N undef) w)
    (hi : ops[i]? = some oi := by rfl) (hN : oi.dst = N := by rfl) (hc : (readyT T.2 l.toList == [i] && l.toList.set i true == l'.toList) = true := by kernel_rfl) (hd : i ∉ ds := by decide) : wpAnyLast P md ops Q S ds (fuel + 1) l a w :=
  one_ l' hi hN (one_of HT.out hc) hd h
theorem nN_ (N : Option Tmp) {v : Value} (h : wpAnyLast P md ops Q S ds fuel l a' w) (ha : a.put N v = a' := by (simp only [Act.put, List.setIfInBounds_toArray, List.set_cons_zero, List.set_cons_succ, i64_w, i32_w]; rfl)) : wpAnyLast P md ops Q S ds fuel l (a.put N v) w := norm_ ha h
theorem gs_ {N : Option Tmp} {K : Act → World → Prop} {f : FuncId} {fn : Func} {xs : Array Operand} {ts : Array TypeId} (hf : P.funcs[f]? = some fn) (args : Array Value)
    (h : Calls P f args w fun e w' => ∃ v, e = .returned v ∧ K (a.put N v) w') (hname : (fn.name == "runtime.NumGoroutine") = false := by kernel_rfl) (hb : fn.body.isSome = true := by rfl)
    (hw : Region.wanted oi (yielded ops a.tmps) = true := by rfl) (hN : oi.dst = N := by rfl) (hop : oi.op = .call { callee := .value (.func f), args := xs, argTypes := ts } := by rfl)
    (hargs : xs.map a.eval = args := by (try simp only [List.map_toArray, List.map_cons, List.map_nil]); first | done | rfl | (simp only [List.length_drop, List.length_take]; rfl)) : if Region.wanted oi (yielded ops a.tmps) = true then Oper.wp P oi a w K Q else K (a.put N undef) w :=
  goes_ hf hname hb args hw hN hop hargs h
end
/-! ### spec_l1Num: function 67 -/
def spec_l1Num.f : Nat → Int → Option (ByteArray)
  | 0, _ => none
  | k + 1, a0 => if a0 < 10 then (some (strOfNums (([(wrap64 (48 + a0)) % 256] : List Int)))) else ((spec_l1Num.f k (wrap64 (Int.tdiv a0 10))).bind fun t137 => ((some (([(wrap64 (48 + (Int.tmod a0 10))) % 256] : List Int) : List Int)).bind fun y138 => (if t137.size + (strOfNums y138).size ≤ 9223372036854775807 then (some (t137 ++ (strOfNums y138))) else (none))))
def spec_l1Num.T3 : Bool × List (List Nat × List Nat) := (true, [([], []), ([0], [0]), ([1], [1]), ([], []), ([3], [3]), ([4], [4]), ([5], [5]), ([6], [6]), ([7], [7]), ([2, 8], [2, 8]), ([9, 2, 0, 1, 2, 3, 4, 5, 6, 7, 8, 9], [9])])
def spec_l1Num.B3 : List Nat := [0, 1, 3, 0, 8, 24, 56, 120, 248, 511, 1023]
theorem spec_l1Num.tab3 : rtab .any (opsOf Tryz.f67 3) = spec_l1Num.T3 := by kernel_rfl
theorem spec_l1Num.bits3 : waitsOk spec_l1Num.T3.2 spec_l1Num.B3 = true := by kernel_rfl
set_option maxHeartbeats 8000000 in
set_option maxRecDepth 100000 in
theorem spec_l1Num.calls (k : Nat) : ∀ (a0 : Int) (r : ByteArray) (w : World) (h : spec_l1Num.f k a0 = some r),
    Calls Tryz.prog 67 #[.int .i64 a0] w fun e w' => e = .returned (.string r) ∧ Below w.heap.size w w' := by
  induction k using Nat.strongRecOn with
  | _ k ih =>
  intro a0 r w h
  cases k with
  | zero => exact absurd h (by simp [spec_l1Num.f])
  | succ k =>
  simp only [spec_l1Num.f] at h; have HB := amk (Below.refl w.heap.size w); have H : (if a0 < 10 then (some (strOfNums (([(wrap64 (48 + a0)) % 256] : List Int)))) else ((spec_l1Num.f k (wrap64 (Int.tdiv a0 10))).bind fun t137 => ((some (([(wrap64 (48 + (Int.tmod a0 10))) % 256] : List Int) : List Int)).bind fun y138 => (if t137.size + (strOfNums y138).size ≤ 9223372036854775807 then (some (t137 ++ (strOfNums y138))) else (none))))) = some r := h; clear h; replace H := iteE H; obtain ⟨c2b0, H⟩ | ⟨c2b0, H⟩ := H
  · (try rw [Option.bind_some] at H); generalize hy134 : (([(wrap64 (48 + a0)) % 256] : List Int)) = y134 at H; have Ny134 := amk hy134.symm; clear hy134; obtain rfl := Option.some.inj H; go_enter Tryz.func67, Tryz.ntmps67; go_wp2_with (first | ((with_reducible refine gate_dst (N := 8) rfl ?_); refine Kd.R_lit (Kd.int .u8) _ 5 ?hg (N := 8) ?hd (xs := ([(wrap64 (48 + a0)) % 256] : List Int)) (inner := [.int .u8 ((wrap64 (48 + a0)) % 256)]) (ok := fun _ => True) (okp := fun _ => True) ?hr ?hp (fun _ hk => hk) trivial (Below.refl _ _) (Nat.le_refl _) (by simp) ?_; (case hd => rfl); (case hg => rfl); (case hr => first | (go_simp; done) | (go_simp; rfl)); (case hp => exact (Reps.one (show Kd.M (Kd.int .u8) _ _ _ ((wrap64 (48 + a0)) % 256) [.int .u8 ((wrap64 (48 + a0)) % 256)] from rfl) (Reps.none _ _))); intro v135 w3 ho4 hb hg_ hnew_; clear hg_ hnew_; (first | rw [← Ny134.out] at ho4 | (simp only [Int.reduceToNat] at ho4; rw [← Ny134.out] at ho4)); have HO136 := amk (Kd.R_lower ho4 (below_size bB)); replace HB := hB2 HB hb; clear hb ho4; have hcv5 := own_string (P := Tryz.prog) Tryz.underlying55 Tryz.underlying5 Tryz.underlying9 (Kd.own_of_R HO136.out))); go_ret; exact ⟨rF_, bB⟩
  · replace H := bE H; obtain ⟨t137, A6, H⟩ := H; (try rw [Option.bind_some] at H); generalize hy138 : (([(wrap64 (48 + (Int.tmod a0 10))) % 256] : List Int)) = y138 at H; have Ny138 := amk hy138.symm; clear hy138
    by_cases c7 : t137.size + (strOfNums y138).size ≤ 9223372036854775807
    · rw [if_pos c7] at H; have c7b0 := eq_true c7; have c7b1 : decide (t137.size + (strOfNums y138).size ≤ 9223372036854775807) = true := decide_eq_true c7; (try have c7b2 : (9223372036854775807 < t137.size + (strOfNums y138).size) = False := eq_false (Nat.not_lt.2 c7)); (try have c7b3 : (9223372036854775807 < t137.size + strOfNums y138.size) = False := eq_false (by have h9 := Nat.not_lt.2 c7; simp only [ByteArray.size_append] at h9; exact h9)); (try have c7b4 : decide (t137.size + strOfNums y138.size ≤ 9223372036854775807) = true := decide_eq_true (by have h9 := c7; simp only [ByteArray.size_append] at h9; exact h9)); obtain rfl := Option.some.inj H; go_enter Tryz.func67, Tryz.ntmps67; (try go_wp2); replace HB := amk (bd_ HB.out); refine start_ (n := 11) (S := fun w' => True) (ds := []) (bA 11 0) (by kernel_rfl) rfl rfl trivial (fun hHeld => ?_); refine with_tabW spec_l1Num.tab3 spec_l1Num.bits3 (fun HT_ HW_ => ?_); generalize w.drew = w8 at HB hHeld ⊢; refine pU_ HT_ 0 (some 10) (bA 11 1) ?_; refine pU_ HT_ 1 (some 11) (bA 11 3) ?_; refine pU_ HT_ 3 (some 13) (bA 11 11) ?_; refine pU_ HT_ 4 (some 14) (bA 11 27) ?_; refine pU_ HT_ 5 (some 15) (bA 11 59) ?_; refine pU_ HT_ 6 (some 16) (bA 11 123) ?_; refine join_ (σ := Value) 2 (bA 11 511) (fun s_ => [(12, .string t137), (17, s_), (18, .string (strOfNums y138))]) (fun s_ w' => (Kd.R (Kd.int .u8) 5 w' w.heap.size (fun _ => True) s_ y138) ∧ (Below w.heap.size w w')) ?_ ?_; rotate_left
      · intro hCont; refine two_ (i := 2) (j := 7) (Ni := some 12) (Nj := some 17) (bA 11 127) (bA 11 251) rfl rfl rfl rfl (two_of HT_.out (by kernel_rfl)) (by decide) (by decide) (fun K hK => ?_) (fun K hK => ?_)
        · skip
          refine goes_ Tryz.func67 (by kernel_rfl) rfl #[.int .i64 (wrap64 (Int.tdiv a0 10))] (by rfl) rfl rfl gL_ ?_; (with_reducible refine (ih k (by omega) (wrap64 (Int.tdiv a0 10)) t137 _ A6.out).mono ?_); rintro e w9 ⟨rfl, hb⟩; refine ⟨_, rfl, ?_⟩; replace HB := hB2 HB hb; (try clear hb); refine hK.out _ _ trivial (fun hHeld => ?_); clear hK K; refine nN_ (some 12) ?_; refine oN_ HT_ 7 (some 17) (bA 11 255) (fun K hK => ?_); refine Kd.R_lit_step (Kd.int .u8) _ 5 ?hg (N := 17) ?hd (xs := ([(wrap64 (48 + (Int.tmod a0 10))) % 256] : List Int)) (inner := [.int .u8 ((wrap64 (48 + (Int.tmod a0 10))) % 256)]) (ok := fun _ => True) (okp := fun _ => True) ?hr ?hp (fun _ hk => hk) trivial (Below.refl _ _) (Nat.le_refl _) (by simp) ?_; (case hd => rfl); (case hg => rfl); (case hr => first | (go_simp; done) | (go_simp; rfl)); (case hp => exact (Reps.one (show Kd.M (Kd.int .u8) _ _ _ ((wrap64 (48 + (Int.tmod a0 10))) % 256) [.int .u8 ((wrap64 (48 + (Int.tmod a0 10))) % 256)] from rfl) (Reps.none _ _))); intro v139 w10 ho11 hb hg_ hnew_; clear hg_ hnew_; (first | rw [← Ny138.out] at ho11 | (simp only [Int.reduceToNat] at ho11; rw [← Ny138.out] at ho11)); have HO140 := amk (Kd.R_lower ho11 (below_size bB)); replace HB := hB2 HB hb; clear hb ho11; refine hK.out _ _ trivial (fun hHeld => ?_); clear hK K; refine nN_ (some 17) ?_; refine oN_ HT_ 8 (some 18) (bA 11 511) (fun K hK => ?_); have hcv12 := own_string (P := Tryz.prog) Tryz.underlying55 Tryz.underlying5 Tryz.underlying9 (Kd.own_of_R HO140.out); refine value_ (w1 := ?_) (v := ?_) (by rfl) rfl ?_ ?_; rotate_left 2
          · go_simp
            constructor
            · rfl
            · rfl
          clear hcv12; refine hK.out _ _ trivial (fun hHeld => ?_); clear hK K; refine nN_ (some 18) ?_; exact norm_ (by simp only [putAll, Act.put, List.setIfInBounds_toArray, List.set_cons_zero, List.set_cons_succ]) (hCont (v139) _ ⟨(oX HO140), bB⟩)
        · skip
          refine Kd.R_lit_step (Kd.int .u8) _ 5 ?hg (N := 17) ?hd (xs := ([(wrap64 (48 + (Int.tmod a0 10))) % 256] : List Int)) (inner := [.int .u8 ((wrap64 (48 + (Int.tmod a0 10))) % 256)]) (ok := fun _ => True) (okp := fun _ => True) ?hr ?hp (fun _ hk => hk) trivial (Below.refl _ _) (Nat.le_refl _) (by simp) ?_; (case hd => rfl); (case hg => rfl); (case hr => first | (go_simp; done) | (go_simp; rfl)); (case hp => exact (Reps.one (show Kd.M (Kd.int .u8) _ _ _ ((wrap64 (48 + (Int.tmod a0 10))) % 256) [.int .u8 ((wrap64 (48 + (Int.tmod a0 10))) % 256)] from rfl) (Reps.none _ _))); intro v139 w9 ho10 hb hg_ hnew_; clear hg_ hnew_; (first | rw [← Ny138.out] at ho10 | (simp only [Int.reduceToNat] at ho10; rw [← Ny138.out] at ho10)); have HO140 := amk (Kd.R_lower ho10 (below_size bB)); replace HB := hB2 HB hb; clear hb ho10; refine hK.out _ _ trivial (fun hHeld => ?_); clear hK K; refine nN_ (some 17) ?_; refine two_ (i := 2) (j := 8) (Ni := some 12) (Nj := some 18) (bA 11 255) (bA 11 507) rfl rfl rfl rfl (two_of HT_.out (by kernel_rfl)) (by decide) (by decide) (fun K hK => ?_) (fun K hK => ?_)
          · skip
            refine goes_ Tryz.func67 (by kernel_rfl) rfl #[.int .i64 (wrap64 (Int.tdiv a0 10))] (by rfl) rfl rfl gL_ ?_; (with_reducible refine (ih k (by omega) (wrap64 (Int.tdiv a0 10)) t137 _ A6.out).mono ?_); rintro e w11 ⟨rfl, hb⟩; refine ⟨_, rfl, ?_⟩; replace HO140 := amk (Kd.R_below (oX HO140) hb); replace HB := hB2 HB hb; (try clear hb); refine hK.out _ _ trivial (fun hHeld => ?_); clear hK K; refine nN_ (some 12) ?_; refine oN_ HT_ 8 (some 18) (bA 11 511) (fun K hK => ?_); have hcv12 := own_string (P := Tryz.prog) Tryz.underlying55 Tryz.underlying5 Tryz.underlying9 (Kd.own_of_R HO140.out); refine value_ (w1 := ?_) (v := ?_) (by rfl) rfl ?_ ?_; rotate_left 2
            · go_simp
              constructor
              · rfl
              · rfl
            clear hcv12; refine hK.out _ _ trivial (fun hHeld => ?_); clear hK K; refine nN_ (some 18) ?_; exact norm_ (by simp only [putAll, Act.put, List.setIfInBounds_toArray, List.set_cons_zero, List.set_cons_succ]) (hCont (v139) _ ⟨(oX HO140), bB⟩)
          · skip
            have hcv11 := own_string (P := Tryz.prog) Tryz.underlying55 Tryz.underlying5 Tryz.underlying9 (Kd.own_of_R HO140.out); refine value_ (w1 := ?_) (v := ?_) (by rfl) rfl ?_ ?_; rotate_left 2
            · go_simp
              constructor
              · rfl
              · rfl
            clear hcv11; refine hK.out _ _ trivial (fun hHeld => ?_); clear hK K; refine nN_ (some 18) ?_; refine oN_ HT_ 2 (some 12) (bA 11 511) (fun K hK => ?_); refine goes_ Tryz.func67 (by kernel_rfl) rfl #[.int .i64 (wrap64 (Int.tdiv a0 10))] (by rfl) rfl rfl gL_ ?_; (with_reducible refine (ih k (by omega) (wrap64 (Int.tdiv a0 10)) t137 _ A6.out).mono ?_); rintro e w12 ⟨rfl, hb⟩; refine ⟨_, rfl, ?_⟩; replace HO140 := amk (Kd.R_below (oX HO140) hb); replace HB := hB2 HB hb; (try clear hb); refine hK.out _ _ trivial (fun hHeld => ?_); clear hK K; refine nN_ (some 12) ?_; exact norm_ (by simp only [putAll, Act.put, List.setIfInBounds_toArray, List.set_cons_zero, List.set_cons_succ]) (hCont (v139) _ ⟨(oX HO140), bB⟩)
      rintro v139 w13 ⟨h0_, h1_⟩; have HO140 := amk h0_; replace HB := amk h1_; clear h0_ h1_; have hHeld := trivial; refine norm_ (a' := ?_) ?_ ?_; rotate_left
      · simp only [putAll, Act.put, List.setIfInBounds_toArray, List.set_cons_zero, List.set_cons_succ]
        rfl
      refine pU_ HT_ 9 (some 19) (bA 11 1023) ?_; refine pU_ HT_ 10 (some 2) (bA 11 2047) ?_; refine done_ (done_of HT_.out (by kernel_rfl)) ?_; (try go_wp2); go_ret; exact ⟨rF_, bB⟩
    · rw [if_neg c7] at H; exact absurd H (by simp)
/-! spec's numbers of one digit. -/
theorem spec_l1Num.one {x : Int} (h : x < 10) : Ev (fun k => spec_l1Num.f k x) (strOfNums [wrap64 (48 + x) % 256]) :=
  Ev.step (fun k => rfl) (Ev.yes h (Ev.now _))
/-! spec's numbers of up to three digits. -/
theorem decB_step {n : Nat} (h : 10 ≤ n) : decB (n : Int) = decB ((n / 10 : Nat) : Int) ++ strOfNums [wrap64 (48 + ((n % 10 : Nat) : Int)) % 256] := by
  rw [← decB_one (n := ((n % 10 : Nat) : Int)) (by omega) (by omega)]
  unfold decB
  rw [Int.toNat_natCast, Int.toNat_natCast, Int.toNat_natCast]
  rw [Lib.decDigits, dif_neg (by omega)]
  have e : Lib.decDigits (n % 10) = [UInt8.ofNat (48 + n % 10)] := by rw [Lib.decDigits, dif_pos (by omega)]
  rw [e]
  apply ByteArray.ext
  simp only [ByteArray.data_append]
  apply Array.ext'
  simp
theorem decB_size1 {n : Nat} (h : n < 10) : (decB (n : Int)).size = 1 := by
  rw [decB_one (by omega) (by omega), strOfNums_size]; rfl
theorem decB_size2 {n : Nat} (h : n < 100) : (decB (n : Int)).size ≤ 2 := by
  by_cases h1 : n < 10
  · rw [decB_size1 h1]; omega
  · rw [decB_step (by omega), ByteArray.size_append, decB_size1 (by omega), strOfNums_size]; simp
theorem decB_size3 {n : Nat} (h : n < 1000) : (decB (n : Int)).size ≤ 3 := by
  by_cases h1 : n < 10
  · rw [decB_size1 h1]; omega
  · have := decB_size2 (n := n / 10) (by omega)
    rw [decB_step (by omega), ByteArray.size_append, strOfNums_size]
    simp only [List.length_cons, List.length_nil]
    omega
theorem decB_size {n : Int} (h0 : 0 ≤ n) (h : n < 1000) : (decB n).size ≤ 3 := by
  obtain ⟨n, rfl⟩ := Int.eq_ofNat_of_zero_le h0
  exact decB_size3 (by omega)
theorem spec_l1Num.lev : ∀ (m n : Nat), n < 10 ^ (m + 1) → n < 1000 → Ev (fun k => spec_l1Num.f k (n : Int)) (decB (n : Int)) := by
  intro m
  induction m with
  | zero =>
    intro n h _
    rw [decB_one (by omega) (by omega)]
    exact spec_l1Num.one (by omega)
  | succ m ih =>
    intro n h h3
    by_cases h1 : n < 10
    · rw [decB_one (by omega) (by omega)]
      exact spec_l1Num.one (by omega)
    · have hd : n / 10 < 10 ^ (m + 1) := by
        rw [Nat.pow_succ] at h
        omega
      have hgo := ih (n / 10) hd (by omega)
      have e1 : wrap64 (Int.tdiv (n : Int) 10) = ((n / 10 : Nat) : Int) := by
        rw [Int.tdiv_eq_ediv_of_nonneg (by omega)]
        rw [w64 (by omega) (by omega)]
        omega
      have e2 : Int.tmod (n : Int) 10 = ((n % 10 : Nat) : Int) := by
        rw [Int.tmod_eq_emod_of_nonneg (by omega)]
        omega
      have hs := decB_size3 (n := n / 10) (by omega)
      refine Ev.step (fun k => rfl) (Ev.no (by omega) ?_)
      rw [e1, e2]
      refine Ev.bind hgo (Ev.bindc rfl (Ev.yes ?_ (Ev.id ?_)))
      · rw [strOfNums_size]; simp only [List.length_cons, List.length_nil]; omega
      · rw [← decB_step (by omega)]
theorem spec_l1Num.ev {n : Int} (h0 : 0 ≤ n) (h : n < 1000) : Ev (fun k => spec_l1Num.f k n) (decB n) := by
  obtain ⟨n, rfl⟩ := Int.eq_ofNat_of_zero_le h0
  exact spec_l1Num.lev 2 n (by omega) (by omega)
/-! Puzzles as texts. -/
def clueT (c : S45) : ByteArray := decB c.f0 ++ ⟨#[46]⟩ ++ decB c.f1 ++ ⟨#[46]⟩ ++ decB c.f2
def lockT (w d : Int) : ByteArray := decB w ++ ⟨#[120]⟩ ++ decB d
def puzzleT (w d : Int) (l : List S45) : ByteArray := lockT w d ++ ⟨#[58]⟩ ++ joinB (l.map clueT) ⟨#[44]⟩
def TxtClue (c : S45) : Prop := (0 ≤ c.f0 ∧ c.f0 < 1000) ∧ (0 ≤ c.f1 ∧ c.f1 < 1000) ∧ (0 ≤ c.f2 ∧ c.f2 < 1000)
theorem clueB_txt {w d k a b : Int} (h : smallB w d 125 = true) (hc : clueB w d k a b = true) : (0 ≤ k ∧ k < 1000) ∧ (0 ≤ a ∧ a < 1000) ∧ (0 ≤ b ∧ b < 1000) := by
  obtain ⟨h1, h2⟩ := smallB_iff.mp h
  unfold clueB at hc
  generalize d ^ w.toNat = q at h2 hc
  split at hc
  · simp only [Bool.and_eq_true, decide_eq_true_eq] at hc; omega
  split at hc
  · simp only [Bool.and_eq_true, decide_eq_true_eq, beq_iff_eq] at hc; omega
  split at hc
  · simp only [Bool.and_eq_true, decide_eq_true_eq] at hc; omega
  split at hc
  · simp only [Bool.and_eq_true, decide_eq_true_eq] at hc; omega
  split at hc
  · simp only [Bool.and_eq_true, decide_eq_true_eq] at hc; omega
  · cases hc
theorem puzzleB_txt {w d : Int} {l : List S45} (h : puzzleB w d l = true) : smallB w d 125 = true ∧ l.length ≤ 6 ∧ ∀ c ∈ l, TxtClue c := by
  unfold puzzleB at h
  rw [Bool.and_eq_true, Bool.and_eq_true, decide_eq_true_eq] at h
  exact ⟨h.1.1, h.1.2, fun c hc => clueB_txt h.1.1 (List.all_eq_true.mp h.2 c hc)⟩
theorem clueT_size {c : S45} (h : TxtClue c) : (clueT c).size ≤ 11 := by
  obtain ⟨h0, h1, h2⟩ := h
  have a := decB_size h0.1 h0.2
  have b := decB_size h1.1 h1.2
  have e := decB_size h2.1 h2.2
  have h1 : ((⟨#[46]⟩ : ByteArray)).size = 1 := rfl
  unfold clueT
  rw [ByteArray.size_append, ByteArray.size_append, ByteArray.size_append, ByteArray.size_append]
  omega
theorem clue_joined (l : List S45) (h : ∀ c ∈ l, TxtClue c) (s : ByteArray) (hs : s.size = 1) : (joinB (l.map clueT) s).size ≤ 12 * l.length := by
  have := joinB_size 11 s (l.map clueT) (fun x hx => by
    obtain ⟨r, hr, rfl⟩ := List.mem_map.mp hx
    exact clueT_size (h r hr))
  rw [hs, List.length_map] at this
  exact this
theorem lockT_size {w d : Int} (hw : 1 ≤ w ∧ w ≤ 6) (hd : 2 ≤ d ∧ d ≤ 10) : (lockT w d).size ≤ 7 := by
  have a := decB_size (n := w) (by omega) (by omega)
  have b := decB_size (n := d) (by omega) (by omega)
  have h1 : ((⟨#[120]⟩ : ByteArray)).size = 1 := rfl
  unfold lockT
  rw [ByteArray.size_append, ByteArray.size_append]
  omega
def pzV (w d : Int) (l : List S45) : ByteArray × Bool := if puzzleB w d l = true then (puzzleT w d l, true) else (⟨#[]⟩, false)
/-! Texts split at a byte: over lists of bytes. -/
def splL (c : UInt8) : List UInt8 → List (List UInt8)
  | [] => [[]]
  | b :: t => if b = c then [] :: splL c t else (b :: (splL c t).headD []) :: (splL c t).tail
theorem splL_no {c : UInt8} : ∀ {l : List UInt8}, (∀ b ∈ l, b ≠ c) → splL c l = [l]
  | [], _ => rfl
  | b :: t, h => by
    have ih := splL_no (l := t) (fun x hx => h x (List.mem_cons_of_mem _ hx))
    show (if b = c then [] :: splL c t else (b :: (splL c t).headD []) :: (splL c t).tail) = _
    rw [if_neg (h b List.mem_cons_self), ih]; rfl
theorem splL_app {c : UInt8} {t : List UInt8} : ∀ {l : List UInt8}, (∀ b ∈ l, b ≠ c) → splL c (l ++ c :: t) = l :: splL c t
  | [], _ => by
    show (if c = c then [] :: splL c t else (c :: (splL c t).headD []) :: (splL c t).tail) = _
    exact if_pos rfl
  | b :: l, h => by
    have ih := splL_app (t := t) (l := l) (fun x hx => h x (List.mem_cons_of_mem _ hx))
    show (if b = c then [] :: splL c (l ++ c :: t) else (b :: (splL c (l ++ c :: t)).headD []) :: (splL c (l ++ c :: t)).tail) = _
    rw [if_neg (h b List.mem_cons_self), ih]; rfl
theorem splL_join {c : UInt8} : ∀ (r : List (List UInt8)) (x : List UInt8), (∀ b ∈ x, b ≠ c) → (∀ y ∈ r, ∀ b ∈ y, b ≠ c) → splL c (Lib.join (x :: r) [c]) = x :: r
  | [], x, h, _ => by
    rw [Lib.join_one]; exact splL_no h
  | y :: r, x, h, h2 => by
    have ih := splL_join r y (h2 y List.mem_cons_self) (fun z hz => h2 z (List.mem_cons_of_mem _ hz))
    rw [Lib.join_cons] at ih ⊢
    have e : Lib.joinTail [c] (y :: r) = c :: (y ++ Lib.joinTail [c] r) := by simp [Lib.joinTail]
    rw [e, splL_app h, ih]
theorem index_one (c : UInt8) : ∀ (l : List UInt8), (Lib.index l [c] = -1 ∧ ∀ b ∈ l, b ≠ c) ∨ ∃ p t, l = p ++ c :: t ∧ (∀ b ∈ p, b ≠ c) ∧ Lib.index l [c] = (p.length : Int)
  | [] => .inl ⟨rfl, fun b hb => absurd hb (by simp)⟩
  | b :: l => by
    have e : Lib.index (b :: l) [c] = if ([c].isPrefixOf (b :: l)) = true then 0 else if (Lib.index l [c] == -1) = true then -1 else Lib.index l [c] + 1 := rfl
    have e2 : [c].isPrefixOf (b :: l) = (c == b) := by simp [List.isPrefixOf]
    rw [e, e2]
    by_cases hb : b = c
    · subst hb
      exact .inr ⟨[], l, rfl, fun x hx => absurd hx (by simp), by rw [if_pos (beq_self_eq_true b)]; rfl⟩
    · have hn : ¬ ((c == b) = true) := fun h => hb (beq_iff_eq.mp h).symm
      rw [if_neg hn]
      rcases index_one c l with ⟨h1, h2⟩ | ⟨p, t, h1, h2, h3⟩
      · refine .inl ⟨by rw [h1]; rfl, fun x hx => ?_⟩
        rcases List.mem_cons.mp hx with rfl | hx
        · exact hb
        · exact h2 x hx
      · refine .inr ⟨b :: p, t, by rw [h1]; rfl, fun x hx => ?_, ?_⟩
        · rcases List.mem_cons.mp hx with rfl | hx
          · exact hb
          · exact h2 x hx
        · rw [h3, if_neg (by intro h; have := beq_iff_eq.mp h; omega), List.length_cons]; omega
theorem cut_one {c : UInt8} {p t : List UInt8} (h : ∀ b ∈ p, b ≠ c) : Lib.cut (p ++ c :: t) [c] = (p, t, true) := by
  rcases index_one c (p ++ c :: t) with ⟨_, h2⟩ | ⟨p2, t2, h1, h2, h3⟩
  · exact absurd rfl (h2 c (by simp))
  · have hs := splL_app (t := t) h
    rw [h1, splL_app h2] at hs
    have hp : p2 = p := (List.cons.inj hs).1
    subst hp
    unfold Lib.cut
    rw [if_pos (by omega), h3, Int.toNat_natCast]
    simp
theorem splitB_spl {c : UInt8} {sep : ByteArray} (hsep : sep.data.toList = [c]) : ∀ (k : Nat) (s : ByteArray), Lib.countB s sep = k → (Lib.splitB sep 0 k s).map (·.data.toList) = splL c s.data.toList := by
  have hz : sep.size = 1 := by rw [Lib.size_eq, hsep]; rfl
  have hix : ∀ s : ByteArray, Lib.indexB s sep = Lib.index s.data.toList [c] := fun s => by rw [← hsep]
  intro k
  induction k with
  | zero =>
    intro s hk
    rw [Lib.splitB_zero]
    rcases index_one c s.data.toList with ⟨_, h2⟩ | ⟨p, t, _, _, h3⟩
    · rw [splL_no h2]; rfl
    · rw [Lib.countB_hit s sep p.length (by omega) ((hix s).trans h3)] at hk; omega
  | succ k ih =>
    intro s hk
    rcases index_one c s.data.toList with ⟨h1, _⟩ | ⟨p, t, h1, h2, h3⟩
    · rw [Lib.countB_miss s sep ((hix s).trans h1)] at hk; omega
    · rw [Lib.countB_hit s sep p.length (by omega) ((hix s).trans h3)] at hk
      rw [Lib.splitB_hit _ _ _ _ p.length ((hix s).trans h3), List.map_cons, ih _ (by omega), Lib.extract_from_zero, Lib.extract_to_end, hz, h1, splL_app h2]
      simp
/-! Plain laws on lists: filling one in place, reading. -/
theorem rd_at {xs : List Int} {i : Int} (h : i.toNat < xs.length) : rd xs i = xs[i.toNat] := by unfold rd; simp [List.getD, h]
theorem rdOf_at {α : Type} {d : α} {xs : List α} {i : Int} (h : i.toNat < xs.length) : rdOf d xs i = xs[i.toNat] := by unfold rdOf; simp [List.getD, h]
theorem getD_at {α : Type} {d : α} {xs : List α} {i : Nat} (h : i < xs.length) : xs.getD i d = xs[i] := by simp [List.getD, h]
theorem toNat_succ {i : Int} (h : 0 ≤ i) : (i + 1).toNat = i.toNat + 1 := by omega
/-! A clue read out of a list. -/
theorem rd_clue {xs : List S45} {i : Int} (h : i.toNat < xs.length) : rd_T45 xs i = xs[i.toNat] := by unfold rd_T45; exact getD_at h
/-! ### spec_l1In: function 81 -/
def spec_l1In.f (a0 : Int) (a1 : Int) (a2 : Int) : Option (Bool) := if a0 ≥ a1 then (some (decide (a0 ≤ a2))) else (some false)
set_option maxHeartbeats 8000000 in
set_option maxRecDepth 100000 in
theorem spec_l1In.calls (a0 : Int) (a1 : Int) (a2 : Int) (r : Bool) (w : World) (h : spec_l1In.f a0 a1 a2 = some r) :
    Calls Tryz.prog 81 #[.int .i64 a0, .int .i64 a1, .int .i64 a2] w fun e w' => e = .returned (.bool r) ∧ Drawn0 w w' := by
  unfold spec_l1In.f at h; have H := h; clear h
  by_cases c4 : a0 ≥ a1
  · rw [if_pos c4] at H; have c4b0 : decide (a1 ≤ a0) = true := decide_eq_true c4; clear c4; obtain rfl := Option.some.inj H; go_enter Tryz.func81, Tryz.ntmps81; go_wp2; go_ret; exact ⟨rS_, dR_⟩
  · rw [if_neg c4] at H; have c4b0 : decide (a1 ≤ a0) = false := decide_eq_false c4; clear c4; obtain rfl := Option.some.inj H; go_enter Tryz.func81, Tryz.ntmps81; go_wp2; go_ret; exact ⟨rS_, dR_⟩
/-! ### spec_whCount: function 82 -/
def spec_whCount.l0 : Nat → Int → Int → Int → Int → Option (Int)
  | 0, _, _, _, _ => none
  | k + 1, x3, x4, x134000, x134001 => if x4 > 0 then (spec_whCount.l0 k (wrap64 (x3 * x134001)) (wrap64 (x4 - 1)) x134000 x134001) else (some x3)
def spec_whCount.f (k : Nat) (a0_0 : Int) (a0_1 : Int) : Option (Int) := spec_whCount.l0 k 1 a0_0 a0_0 a0_1
set_option maxHeartbeats 8000000 in
set_option maxRecDepth 100000 in
theorem spec_whCount.calls (k : Nat) (a0_0 : Int) (a0_1 : Int) (r : Int) (w : World) (h : spec_whCount.f k a0_0 a0_1 = some r) :
    Calls Tryz.prog 82 #[.agg #[.int .i64 a0_0, .int .i64 a0_1]] w fun e w' => e = .returned (.int .i64 r) ∧ Below w.heap.size w w' := by
  have hu23 := Tryz.underlying23; have HB := amk (Below.refl w.heap.size w); unfold spec_whCount.f at h; have H := h; clear h; have H' := amk H; clear H; go_enter Tryz.func82, Tryz.ntmps82; go_wp2_with (first | ((with_reducible refine gate_dst (N := 1) rfl ?_); refine boxE_ HB 1 #[.int .i64 a0_0, .int .i64 a0_1] 23 ?_; clear HB; intro gb133 w2 HB BK133 GW133 GE133 hb; clear hb; obtain ⟨hcz3_0, hcz3_1, hfz3_0, hfz3_1⟩ := cells2 BK133.out))
  go_loopg [3, 4] k (fun kq v3 v4 w' => ∃ (x3_1 : Int) (x4_1 : Int), v3 = .int .i64 x3_1 ∧ v4 = .int .i64 x4_1 ∧ Aside0 (spec_whCount.l0 kq x3_1 x4_1 a0_0 a0_1 = some r) ∧ Aside0 (kq ≤ k) ∧ Aside0 (w'.heap[gb133]? = some (.cells #[.int .i64 a0_0, .int .i64 a0_1] 23 (0, 0))) ∧ Aside0 (Below w.heap.size w w'))
  case atStart => exact ⟨(1), (a0_0), rS_, rS_, H', ⟨Nat.le_refl _⟩, ⟨kB BK133⟩, ⟨bB⟩⟩
  case round =>
    clear H'; (try clear p2); (try clear hcz3_0); (try clear hcz3_1); (try clear hfz3_0); (try clear hfz3_1); obtain ⟨x3_1, x4_1, rfl, rfl, HA, HK1, BK133, HB⟩ := hrel
    cases gk with
    | zero => exact absurd HA.out (by simp [spec_whCount.l0])
    | succ k1 =>
      have H := HA.out; clear HA; simp only [spec_whCount.l0] at H
      by_cases c4 : x4_1 > 0
      · rw [if_pos c4] at H; have c4b0 : decide (0 < x4_1) = true := decide_eq_true c4; clear c4; have H' := amk H; clear H; obtain ⟨hcz5_0, hcz5_1, hfz5_0, hfz5_1⟩ := cells2 BK133.out; go_wp2; go_roundg k1
        case measure => have := HK1.out; omega
        case rel => exact ⟨(wrap64 (x3_1 * a0_1)), (wrap64 (x4_1 - 1)), rS_, rS_, H', ⟨by have := HK1.out; omega⟩, ⟨kB BK133⟩, ⟨bB⟩⟩
      · rw [if_neg c4] at H; have c4b0 : decide (0 < x4_1) = false := decide_eq_false c4; clear c4; obtain rfl := Option.some.inj H; go_wp2; go_ret; exact ⟨rF_, bB⟩
/-! ### spec_whGood: function 103 -/
def spec_whGood.f (a0_0 : Int) (a0_1 : Int) : Option (Bool) := (spec_l1In.f a0_0 1 6).bind fun t204 => (if t204 = true then ((spec_l1In.f a0_1 2 10).bind fun t205 => (some t205)) else (some false))
set_option maxHeartbeats 8000000 in
set_option maxRecDepth 100000 in
theorem spec_whGood.calls (a0_0 : Int) (a0_1 : Int) (r : Bool) (w : World) (h : spec_whGood.f a0_0 a0_1 = some r) :
    Calls Tryz.prog 103 #[.agg #[.int .i64 a0_0, .int .i64 a0_1]] w fun e w' => e = .returned (.bool r) ∧ Below w.heap.size w w' := by
  have hu23 := Tryz.underlying23; have HB := amk (Below.refl w.heap.size w); unfold spec_whGood.f at h; have H := h; clear h; replace H := bE H; obtain ⟨t204, A2, H⟩ := H; replace H := iteB H; obtain ⟨rfl, H⟩ | ⟨rfl, H⟩ := H
  · replace H := bE H; obtain ⟨t205, A4, H⟩ := H; obtain rfl := Option.some.inj H; go_enter Tryz.func103, Tryz.ntmps103; go_wp2_with (first | ((with_reducible refine gate_dst (N := 1) rfl ?_); refine boxE_ HB 1 #[.int .i64 a0_0, .int .i64 a0_1] 23 ?_; clear HB; intro gb203 w5 HB BK203 GW203 GE203 hb; clear hb; obtain ⟨hcz6_0, hcz6_1, hfz6_0, hfz6_1⟩ := cells2 BK203.out) | ((with_reducible refine gate_callee (f := 81) rfl ?_); refine goesL_ (some 5) rfl rfl Tryz.func81 (by kernel_rfl) rfl #[.int .i64 a0_0, .int .i64 1, .int .i64 6] rfl gL_ ?_; (with_reducible refine (spec_l1In.calls a0_0 1 6 true _ A2.out).mono ?_); rintro e w' ⟨rfl, ⟨nd, rfl⟩⟩; refine ⟨_, rfl, ?_⟩) | (go_at_call 81; (with_reducible refine (spec_l1In.calls a0_1 2 10 t205 _ A4.out).mono ?_); rintro e w' ⟨rfl, ⟨nd, rfl⟩⟩)); go_ret; exact ⟨rF_, bB⟩
  · obtain rfl := Option.some.inj H; go_enter Tryz.func103, Tryz.ntmps103; go_wp2_with (first | ((with_reducible refine gate_dst (N := 1) rfl ?_); refine boxE_ HB 1 #[.int .i64 a0_0, .int .i64 a0_1] 23 ?_; clear HB; intro gb203 w7 HB BK203 GW203 GE203 hb; clear hb; obtain ⟨hcz8_0, hcz8_1, hfz8_0, hfz8_1⟩ := cells2 BK203.out) | ((with_reducible refine gate_callee (f := 81) rfl ?_); refine goesL_ (some 5) rfl rfl Tryz.func81 (by kernel_rfl) rfl #[.int .i64 a0_0, .int .i64 1, .int .i64 6] rfl gL_ ?_; (with_reducible refine (spec_l1In.calls a0_0 1 6 false _ A2.out).mono ?_); rintro e w' ⟨rfl, ⟨nd, rfl⟩⟩; refine ⟨_, rfl, ?_⟩)); go_ret; exact ⟨rF_, bB⟩
/-! spec's functions on locks and clues: what they come to. -/
theorem spec_l1In.is (a b c : Int) : spec_l1In.f a b c = some (decide (b ≤ a ∧ a ≤ c)) := by
  unfold spec_l1In.f
  by_cases h : a ≥ b
  · rw [if_pos h]; have h' : b ≤ a := h; congr 1; simp [h']
  · rw [if_neg h]; have h' : ¬ b ≤ a := h; congr 1; simp [h']
theorem spec_whGood.is (w d : Int) : spec_whGood.f w d = some (lockB w d) := by
  unfold spec_whGood.f lockB
  simp only [spec_l1In.is, Option.bind_some]
  by_cases h : 1 ≤ w ∧ w ≤ 6 <;> simp [h]
theorem spec_whCount.lev (w d : Int) (h1 : 1 ≤ d) (h2 : d ≤ 10) (hn : w ≤ 6) : ∀ (j : Nat) (i : Int), 0 ≤ i → i ≤ w → i = j → Ev (fun k => spec_whCount.l0 k (d ^ (w - i).toNat) i w d) (d ^ w.toNat) := by
  intro j
  induction j with
  | zero =>
    intro i h0 hi hj
    obtain rfl : i = 0 := by omega
    exact Ev.step (fun k => rfl) (Ev.no (by omega) (Ev.id (by simp)))
  | succ j ih =>
    intro i h0 hi hj
    refine Ev.step (fun k => rfl) (Ev.yes (by omega) ?_)
    have hb := pow_bound h1 h2 (n := (w - i).toNat) (by omega)
    have hm : d ^ (w - i).toNat * d = d ^ (w - (i - 1)).toNat := by rw [show (w - (i - 1)).toNat = (w - i).toNat + 1 by omega, Int.pow_succ]
    have hb' := pow_bound h1 h2 (n := (w - (i - 1)).toNat) (by omega)
    rw [w64 (x := i - 1) (by omega) (by omega), hm, w64 (x := d ^ (w - (i - 1)).toNat) (by omega) (by omega)]
    exact ih (i - 1) (by omega) (by omega) (by omega)
theorem spec_whCount.ev {w d : Int} (h : lockB w d = true) : Ev (fun k => spec_whCount.f k w d) (d ^ w.toNat) := by
  obtain ⟨a, b, c, e⟩ := lockB_iff.mp h
  have := spec_whCount.lev w d (by omega) e b w.toNat w (by omega) (by omega) (by omega)
  unfold spec_whCount.f
  simpa using this
/-! ### spec_hiLock: function 80 -/
def spec_hiLock.f (k : Nat) (a0_0 : Int) (a0_1 : Int) (a1 : Int) : Option (Bool) := (spec_whGood.f a0_0 a0_1).bind fun t207 => (if t207 = true then ((spec_whCount.f k a0_0 a0_1).bind fun t208 => (some (decide (t208 ≤ a1)))) else (some false))
set_option maxHeartbeats 8000000 in
set_option maxRecDepth 100000 in
theorem spec_hiLock.calls (k : Nat) (a0_0 : Int) (a0_1 : Int) (a1 : Int) (r : Bool) (w : World) (h : spec_hiLock.f k a0_0 a0_1 a1 = some r) :
    Calls Tryz.prog 80 #[.agg #[.int .i64 a0_0, .int .i64 a0_1], .int .i64 a1] w fun e w' => e = .returned (.bool r) ∧ Below w.heap.size w w' := by
  have hu23 := Tryz.underlying23; have HB := amk (Below.refl w.heap.size w); unfold spec_hiLock.f at h; have H := h; clear h; replace H := bE H; obtain ⟨t207, A3, H⟩ := H; replace H := iteB H; obtain ⟨rfl, H⟩ | ⟨rfl, H⟩ := H
  · replace H := bE H; obtain ⟨t208, A5, H⟩ := H; obtain rfl := Option.some.inj H; go_enter Tryz.func80, Tryz.ntmps80; go_wp2_with (first | ((with_reducible refine gate_dst (N := 2) rfl ?_); refine boxE_ HB 2 #[.int .i64 a0_0, .int .i64 a0_1] 23 ?_; clear HB; intro gb206 w6 HB BK206 GW206 GE206 hb; clear hb; obtain ⟨hcz7_0, hcz7_1, hfz7_0, hfz7_1⟩ := cells2 BK206.out) | ((with_reducible refine gate_callee (f := 103) rfl ?_); refine goesL_ (some 6) rfl rfl Tryz.func103 (by kernel_rfl) rfl #[.agg #[.int .i64 a0_0, .int .i64 a0_1]] rfl gL_ ?_; (with_reducible refine (spec_whGood.calls a0_0 a0_1 true _ A3.out).mono ?_); rintro e w8 ⟨rfl, hb⟩; refine ⟨_, rfl, ?_⟩; replace BK206 := kb2 BK206 hb; replace HB := hB2 HB hb; (try clear hb); obtain ⟨hcz9_0, hcz9_1, hfz9_0, hfz9_1⟩ := cells2 BK206.out) | (go_at_call 82; (with_reducible refine (spec_whCount.calls k a0_0 a0_1 t208 _ A5.out).mono ?_); rintro e w10 ⟨rfl, hb⟩; replace BK206 := kb2 BK206 hb; replace HB := hB2 HB hb; (try clear hb))); go_ret; exact ⟨rF_, bB⟩
  · obtain rfl := Option.some.inj H; go_enter Tryz.func80, Tryz.ntmps80; go_wp2_with (first | ((with_reducible refine gate_dst (N := 2) rfl ?_); refine boxE_ HB 2 #[.int .i64 a0_0, .int .i64 a0_1] 23 ?_; clear HB; intro gb206 w11 HB BK206 GW206 GE206 hb; clear hb; obtain ⟨hcz12_0, hcz12_1, hfz12_0, hfz12_1⟩ := cells2 BK206.out) | ((with_reducible refine gate_callee (f := 103) rfl ?_); refine goesL_ (some 6) rfl rfl Tryz.func103 (by kernel_rfl) rfl #[.agg #[.int .i64 a0_0, .int .i64 a0_1]] rfl gL_ ?_; (with_reducible refine (spec_whGood.calls a0_0 a0_1 false _ A3.out).mono ?_); rintro e w13 ⟨rfl, hb⟩; refine ⟨_, rfl, ?_⟩; replace BK206 := kb2 BK206 hb; replace HB := hB2 HB hb; (try clear hb))); go_ret; exact ⟨rF_, bB⟩
/-! spec's locks of hints: what they come to. -/
theorem spec_hiLock.ev (w d m : Int) : Ev (fun k => spec_hiLock.f k w d m) (smallB w d m) := by
  unfold spec_hiLock.f smallB
  refine Ev.bindc (spec_whGood.is w d) ?_
  cases h : lockB w d with
  | true => exact Ev.yes rfl (Ev.bind (spec_whCount.ev h) (Ev.id (by simp)))
  | false => exact Ev.no (by simp) (Ev.id (by simp))
/-! ### spec_pzClue: function 58 -/
def spec_pzClue.f (k : Nat) (a0_0 : Int) (a0_1 : Int) (a1_0 : Int) (a1_1 : Int) (a1_2 : Int) : Option (Bool) := if a1_0 = 0 then ((spec_l1In.f a1_1 0 (wrap64 (a0_0 - 1))).bind fun t213 => (if t213 = true then ((spec_l1In.f a1_2 0 (wrap64 (a0_1 - 1))).bind fun t214 => (some t214)) else (some false))) else (if a1_0 = 1 then ((spec_l1In.f a1_1 0 60).bind fun t215 => (if t215 = true then (some (a1_2 == 0)) else (some false))) else (if a1_0 = 2 then ((spec_whCount.f k a0_0 a0_1).bind fun t216 => ((spec_l1In.f a1_1 0 (wrap64 (t216 - 1))).bind fun t217 => (if t217 = true then ((spec_l1In.f a1_2 0 a0_0).bind fun t218 => (some t218)) else (some false)))) else (if a1_0 = 3 then ((spec_whCount.f k a0_0 a0_1).bind fun t219 => ((spec_l1In.f a1_1 0 (wrap64 (t219 - 1))).bind fun t220 => (if t220 = true then ((spec_l1In.f a1_2 0 60).bind fun t221 => (some t221)) else (some false)))) else (if a1_0 = 4 then ((spec_l1In.f a1_1 2 9).bind fun t222 => (if t222 = true then ((spec_l1In.f a1_2 0 (wrap64 (a1_1 - 1))).bind fun t223 => (some t223)) else (some false))) else (some false)))))
def spec_pzClue.T7 : Bool × List (List Nat × List Nat) := (true, [([], []), ([0], [0]), ([], []), ([2], [2]), ([3], [3]), ([1, 4, 3], [1, 4]), ([5, 5], [5]), ([6], [6]), ([7, 6], [6, 7]), ([6], [6]), ([9, 6], [6, 9]), ([8, 10, 6, 6], [6, 8, 10]), ([6, 11], [6, 11]), ([12, 11, 0, 1, 2, 3, 4, 5, 6, 7, 8, 9, 10, 11, 12], [12])])
def spec_pzClue.B7 : List Nat := [0, 1, 0, 4, 12, 31, 63, 127, 255, 127, 639, 2047, 4095, 8191]
theorem spec_pzClue.tab7 : rtab .any (opsOf Tryz.f58 7) = spec_pzClue.T7 := by kernel_rfl
theorem spec_pzClue.bits7 : waitsOk spec_pzClue.T7.2 spec_pzClue.B7 = true := by kernel_rfl
def spec_pzClue.T9 : Bool × List (List Nat × List Nat) := (true, [([], []), ([0], [0]), ([], []), ([2], [2]), ([3], [3]), ([1, 4, 3], [1, 4]), ([5, 5], [5]), ([6], [6]), ([7, 6], [6, 7]), ([8, 6, 6], [6, 8]), ([6, 9], [6, 9]), ([10, 9, 0, 1, 2, 3, 4, 5, 6, 7, 8, 9, 10], [10])])
def spec_pzClue.B9 : List Nat := [0, 1, 0, 4, 12, 31, 63, 127, 255, 511, 1023, 2047]
theorem spec_pzClue.tab9 : rtab .any (opsOf Tryz.f58 9) = spec_pzClue.T9 := by kernel_rfl
theorem spec_pzClue.bits9 : waitsOk spec_pzClue.T9.2 spec_pzClue.B9 = true := by kernel_rfl
set_option maxHeartbeats 8000000 in
set_option maxRecDepth 100000 in
theorem spec_pzClue.calls (k : Nat) (a0_0 : Int) (a0_1 : Int) (a1_0 : Int) (a1_1 : Int) (a1_2 : Int) (r : Bool) (w : World) (h : spec_pzClue.f k a0_0 a0_1 a1_0 a1_1 a1_2 = some r) :
    Calls Tryz.prog 58 #[.agg #[.int .i64 a0_0, .int .i64 a0_1], .agg #[.int .i64 a1_0, .int .i64 a1_1, .int .i64 a1_2]] w fun e w' => e = .returned (.bool r) ∧ Below w.heap.size w w' := by
  have hu23 := Tryz.underlying23; have hu45 := Tryz.underlying45; have HB := amk (Below.refl w.heap.size w); unfold spec_pzClue.f at h; have H := h; clear h
  by_cases c3 : a1_0 = 0
  · rw [if_pos c3] at H; have c3b0 : (a1_0 == 0) = true := beq_iff_eq.mpr c3; have c3b1 : (a1_0 != 0) = false := bne_eq_false_iff_eq.mpr c3; clear c3; replace H := bE H; obtain ⟨t213, A4, H⟩ := H; replace H := iteB H; obtain ⟨rfl, H⟩ | ⟨rfl, H⟩ := H
    · replace H := bE H; obtain ⟨t214, A6, H⟩ := H; obtain rfl := Option.some.inj H; go_enter Tryz.func58, Tryz.ntmps58; go_wp2_with (first | ((with_reducible refine gate_dst (N := 2) rfl ?_); refine boxE_ HB 2 #[.int .i64 a0_0, .int .i64 a0_1] 23 ?_; clear HB; intro gb211 w7 HB BK211 GW211 GE211 hb; clear hb) | ((with_reducible refine gate_dst (N := 3) rfl ?_); refine boxG_ 3 #[.int .i64 a1_0, .int .i64 a1_1, .int .i64 a1_2] 45 ?_; intro gb212 w8 hg BK212 hb; have GW212 := sZ HB hg; have GE212 := sZ HB hg; replace HB := hB2 HB hb; have NB211_212 := neL BK211 hg; have NB212_211 := neR BK211 hg; replace BK211 := kb2 BK211 hb; clear hb hg; have hnb9 := NB212_211.out; have hnc9 := NB211_212.out; obtain ⟨hcz10_0, hcz10_1, hcz10_2, hfz10_0, hfz10_1, hfz10_2⟩ := cells3 BK212.out; obtain ⟨hcz11_0, hcz11_1, hfz11_0, hfz11_1⟩ := cells2 BK211.out) | ((with_reducible refine gate_callee (f := 81) rfl ?_); refine goesL_ (some 14) rfl rfl Tryz.func81 (by kernel_rfl) rfl #[.int .i64 a1_1, .int .i64 0, .int .i64 (wrap64 (a0_0 - 1))] rfl gL_ ?_; (with_reducible refine (spec_l1In.calls a1_1 0 (wrap64 (a0_0 - 1)) true _ A4.out).mono ?_); rintro e w' ⟨rfl, ⟨nd, rfl⟩⟩; refine ⟨_, rfl, ?_⟩) | (go_at_call 81; (with_reducible refine (spec_l1In.calls a1_2 0 (wrap64 (a0_1 - 1)) t214 _ A6.out).mono ?_); rintro e w' ⟨rfl, ⟨nd, rfl⟩⟩)); go_ret; exact ⟨rF_, bB⟩
    · obtain rfl := Option.some.inj H; go_enter Tryz.func58, Tryz.ntmps58; go_wp2_with (first | ((with_reducible refine gate_dst (N := 2) rfl ?_); refine boxE_ HB 2 #[.int .i64 a0_0, .int .i64 a0_1] 23 ?_; clear HB; intro gb211 w12 HB BK211 GW211 GE211 hb; clear hb) | ((with_reducible refine gate_dst (N := 3) rfl ?_); refine boxG_ 3 #[.int .i64 a1_0, .int .i64 a1_1, .int .i64 a1_2] 45 ?_; intro gb212 w13 hg BK212 hb; have GW212 := sZ HB hg; have GE212 := sZ HB hg; replace HB := hB2 HB hb; have NB211_212 := neL BK211 hg; have NB212_211 := neR BK211 hg; replace BK211 := kb2 BK211 hb; clear hb hg; have hnb14 := NB212_211.out; have hnc14 := NB211_212.out; obtain ⟨hcz15_0, hcz15_1, hcz15_2, hfz15_0, hfz15_1, hfz15_2⟩ := cells3 BK212.out; obtain ⟨hcz16_0, hcz16_1, hfz16_0, hfz16_1⟩ := cells2 BK211.out) | ((with_reducible refine gate_callee (f := 81) rfl ?_); refine goesL_ (some 14) rfl rfl Tryz.func81 (by kernel_rfl) rfl #[.int .i64 a1_1, .int .i64 0, .int .i64 (wrap64 (a0_0 - 1))] rfl gL_ ?_; (with_reducible refine (spec_l1In.calls a1_1 0 (wrap64 (a0_0 - 1)) false _ A4.out).mono ?_); rintro e w' ⟨rfl, ⟨nd, rfl⟩⟩; refine ⟨_, rfl, ?_⟩)); go_ret; exact ⟨rF_, bB⟩
  · rw [if_neg c3] at H; have c3b0 : (a1_0 == 0) = false := beq_eq_false_iff_ne.mpr c3; have c3b1 : (a1_0 != 0) = true := bne_iff_ne.mpr c3
    by_cases c17 : a1_0 = 1
    · rw [if_pos c17] at H; have c17b0 : (a1_0 == 1) = true := beq_iff_eq.mpr c17; have c17b1 : (a1_0 != 1) = false := bne_eq_false_iff_eq.mpr c17; clear c17; replace H := bE H; obtain ⟨t215, A18, H⟩ := H; replace H := iteB H; obtain ⟨rfl, H⟩ | ⟨rfl, H⟩ := H
      · obtain rfl := Option.some.inj H; go_enter Tryz.func58, Tryz.ntmps58; go_wp2_with (first | ((with_reducible refine gate_dst (N := 2) rfl ?_); refine boxE_ HB 2 #[.int .i64 a0_0, .int .i64 a0_1] 23 ?_; clear HB; intro gb211 w20 HB BK211 GW211 GE211 hb; clear hb) | ((with_reducible refine gate_dst (N := 3) rfl ?_); refine boxG_ 3 #[.int .i64 a1_0, .int .i64 a1_1, .int .i64 a1_2] 45 ?_; intro gb212 w21 hg BK212 hb; have GW212 := sZ HB hg; have GE212 := sZ HB hg; replace HB := hB2 HB hb; have NB211_212 := neL BK211 hg; have NB212_211 := neR BK211 hg; replace BK211 := kb2 BK211 hb; clear hb hg; have hnb22 := NB212_211.out; have hnc22 := NB211_212.out; obtain ⟨hcz23_0, hcz23_1, hcz23_2, hfz23_0, hfz23_1, hfz23_2⟩ := cells3 BK212.out) | ((with_reducible refine gate_callee (f := 81) rfl ?_); refine goesL_ (some 27) rfl rfl Tryz.func81 (by kernel_rfl) rfl #[.int .i64 a1_1, .int .i64 0, .int .i64 60] rfl gL_ ?_; (with_reducible refine (spec_l1In.calls a1_1 0 60 true _ A18.out).mono ?_); rintro e w' ⟨rfl, ⟨nd, rfl⟩⟩; refine ⟨_, rfl, ?_⟩)); go_ret; exact ⟨rF_, bB⟩
      · obtain rfl := Option.some.inj H; go_enter Tryz.func58, Tryz.ntmps58; go_wp2_with (first | ((with_reducible refine gate_dst (N := 2) rfl ?_); refine boxE_ HB 2 #[.int .i64 a0_0, .int .i64 a0_1] 23 ?_; clear HB; intro gb211 w24 HB BK211 GW211 GE211 hb; clear hb) | ((with_reducible refine gate_dst (N := 3) rfl ?_); refine boxG_ 3 #[.int .i64 a1_0, .int .i64 a1_1, .int .i64 a1_2] 45 ?_; intro gb212 w25 hg BK212 hb; have GW212 := sZ HB hg; have GE212 := sZ HB hg; replace HB := hB2 HB hb; have NB211_212 := neL BK211 hg; have NB212_211 := neR BK211 hg; replace BK211 := kb2 BK211 hb; clear hb hg; have hnb26 := NB212_211.out; have hnc26 := NB211_212.out; obtain ⟨hcz27_0, hcz27_1, hcz27_2, hfz27_0, hfz27_1, hfz27_2⟩ := cells3 BK212.out) | ((with_reducible refine gate_callee (f := 81) rfl ?_); refine goesL_ (some 27) rfl rfl Tryz.func81 (by kernel_rfl) rfl #[.int .i64 a1_1, .int .i64 0, .int .i64 60] rfl gL_ ?_; (with_reducible refine (spec_l1In.calls a1_1 0 60 false _ A18.out).mono ?_); rintro e w' ⟨rfl, ⟨nd, rfl⟩⟩; refine ⟨_, rfl, ?_⟩)); go_ret; exact ⟨rF_, bB⟩
    · rw [if_neg c17] at H; have c17b0 : (a1_0 == 1) = false := beq_eq_false_iff_ne.mpr c17; have c17b1 : (a1_0 != 1) = true := bne_iff_ne.mpr c17
      by_cases c28 : a1_0 = 2
      · rw [if_pos c28] at H; have c28b0 : (a1_0 == 2) = true := beq_iff_eq.mpr c28; have c28b1 : (a1_0 != 2) = false := bne_eq_false_iff_eq.mpr c28; clear c28; replace H := bE H; obtain ⟨t216, A29, H⟩ := H; replace H := bE H; obtain ⟨t217, A30, H⟩ := H; replace H := iteB H; obtain ⟨rfl, H⟩ | ⟨rfl, H⟩ := H
        · replace H := bE H; obtain ⟨t218, A32, H⟩ := H; obtain rfl := Option.some.inj H; go_enter Tryz.func58, Tryz.ntmps58; (try go_wp2_with (first | ((with_reducible refine gate_dst (N := 2) rfl ?_); refine boxE_ HB 2 #[.int .i64 a0_0, .int .i64 a0_1] 23 ?_; clear HB; intro gb211 w33 HB BK211 GW211 GE211 hb; clear hb) | ((with_reducible refine gate_dst (N := 3) rfl ?_); refine boxG_ 3 #[.int .i64 a1_0, .int .i64 a1_1, .int .i64 a1_2] 45 ?_; intro gb212 w34 hg BK212 hb; have GW212 := sZ HB hg; have GE212 := sZ HB hg; replace HB := hB2 HB hb; have NB211_212 := neL BK211 hg; have NB212_211 := neR BK211 hg; replace BK211 := kb2 BK211 hb; clear hb hg; have hnb35 := NB212_211.out; have hnc35 := NB211_212.out; obtain ⟨hcz36_0, hcz36_1, hcz36_2, hfz36_0, hfz36_1, hfz36_2⟩ := cells3 BK212.out))); replace BK211 := amk (blk_drew BK211.out); replace BK212 := amk (blk_drew BK212.out); replace HB := amk (bd_ HB.out); refine start_ (n := 14) (S := fun w' => w'.cell? ⟨gb212, 0, none⟩ = some (.int .i64 a1_0) ∧ w'.cell? ⟨gb212, 1, none⟩ = some (.int .i64 a1_1) ∧ w'.cell? ⟨gb212, 2, none⟩ = some (.int .i64 a1_2) ∧ w'.cell? ⟨gb211, 0, none⟩ = some (.int .i64 a0_0) ∧ w'.cell? ⟨gb211, 1, none⟩ = some (.int .i64 a0_1)) (ds := []) (bA 14 0) (by kernel_rfl) rfl rfl ⟨(blk_cell BK212.out 0).trans rfl, (blk_cell BK212.out 1).trans rfl, (blk_cell BK212.out 2).trans rfl, (blk_cell BK211.out 0).trans rfl, (blk_cell BK211.out 1).trans rfl⟩ (fun hHeld => ?_); refine with_tabW spec_pzClue.tab7 spec_pzClue.bits7 (fun HT_ HW_ => ?_); generalize w34.drew = w37 at BK211 BK212 HB hHeld ⊢; refine pU_ HT_ 0 (some 35) (bA 14 1) ?_; refine tK_ HT_ HW_ hHeld 1 (some 36) (bA 14 3) ?_; refine tK_ HT_ HW_ hHeld 2 (some 37) (bA 14 7) ?_; refine oN_ HT_ 3 (some 38) (bA 14 15) (fun K hK => ?_); refine goes_ Tryz.func82 (by kernel_rfl) rfl #[.agg #[.int .i64 a0_0, .int .i64 a0_1]] (by rfl) rfl rfl gL_ ?_; (with_reducible refine (spec_whCount.calls k a0_0 a0_1 t216 _ A29.out).mono ?_); rintro e w38 ⟨rfl, hb⟩; refine ⟨_, rfl, ?_⟩; replace BK211 := kb2 BK211 hb; replace BK212 := kb2 BK212 hb; replace HB := hB2 HB hb; (try clear hb); refine hK.out _ _ hC_ (fun hHeld => ?_); clear hK K; refine nN_ (some 38) ?_; refine pU_ HT_ 4 (some 39) (bA 14 31) ?_; refine oN_ HT_ 5 (some 40) (bA 14 63) (fun K hK => ?_); refine goes_ Tryz.func81 (by kernel_rfl) rfl #[.int .i64 a1_1, .int .i64 0, .int .i64 (wrap64 (t216 - 1))] (by rfl) rfl rfl gL_ ?_; (with_reducible refine (spec_l1In.calls a1_1 0 (wrap64 (t216 - 1)) true _ A30.out).mono ?_); rintro e w' ⟨rfl, ⟨nd, rfl⟩⟩; refine ⟨_, rfl, ?_⟩; refine hK.out _ _ hC_ (fun hHeld => ?_); clear hK K; refine nN_ (some 40) ?_; refine pU_ HT_ 6 (some 41) (bA 14 127) ?_; refine pU_ HT_ 7 (some 42) (bA 14 255) ?_; refine pU_ HT_ 9 (some 44) (bA 14 767) ?_; refine tK_ HT_ HW_ hHeld 8 (some 43) (bA 14 1023) ?_; refine tK_ HT_ HW_ hHeld 10 (some 45) (bA 14 2047) ?_; refine oN_ HT_ 11 (some 46) (bA 14 4095) (fun K hK => ?_); refine goes_ Tryz.func81 (by kernel_rfl) rfl #[.int .i64 a1_2, .int .i64 0, .int .i64 a0_0] (by rfl) rfl rfl gL_ ?_; (with_reducible refine (spec_l1In.calls a1_2 0 a0_0 t218 _ A32.out).mono ?_); rintro e w' ⟨rfl, ⟨nd, rfl⟩⟩; refine ⟨_, rfl, ?_⟩; refine hK.out _ _ hC_ (fun hHeld => ?_); clear hK K; refine nN_ (some 46) ?_; refine pU_ HT_ 12 (some 47) (bA 14 8191) ?_; refine pU_ HT_ 13 (some 4) (bA 14 16383) ?_; refine done_ (done_of HT_.out (by kernel_rfl)) ?_; (try go_wp2); go_ret; exact ⟨rF_, bB⟩
        · obtain rfl := Option.some.inj H; go_enter Tryz.func58, Tryz.ntmps58; (try go_wp2_with (first | ((with_reducible refine gate_dst (N := 2) rfl ?_); refine boxE_ HB 2 #[.int .i64 a0_0, .int .i64 a0_1] 23 ?_; clear HB; intro gb211 w39 HB BK211 GW211 GE211 hb; clear hb) | ((with_reducible refine gate_dst (N := 3) rfl ?_); refine boxG_ 3 #[.int .i64 a1_0, .int .i64 a1_1, .int .i64 a1_2] 45 ?_; intro gb212 w40 hg BK212 hb; have GW212 := sZ HB hg; have GE212 := sZ HB hg; replace HB := hB2 HB hb; have NB211_212 := neL BK211 hg; have NB212_211 := neR BK211 hg; replace BK211 := kb2 BK211 hb; clear hb hg; have hnb41 := NB212_211.out; have hnc41 := NB211_212.out; obtain ⟨hcz42_0, hcz42_1, hcz42_2, hfz42_0, hfz42_1, hfz42_2⟩ := cells3 BK212.out))); replace BK211 := amk (blk_drew BK211.out); replace BK212 := amk (blk_drew BK212.out); replace HB := amk (bd_ HB.out); refine start_ (n := 14) (S := fun w' => w'.cell? ⟨gb212, 0, none⟩ = some (.int .i64 a1_0) ∧ w'.cell? ⟨gb212, 1, none⟩ = some (.int .i64 a1_1) ∧ w'.cell? ⟨gb212, 2, none⟩ = some (.int .i64 a1_2) ∧ w'.cell? ⟨gb211, 0, none⟩ = some (.int .i64 a0_0) ∧ w'.cell? ⟨gb211, 1, none⟩ = some (.int .i64 a0_1)) (ds := []) (bA 14 0) (by kernel_rfl) rfl rfl ⟨(blk_cell BK212.out 0).trans rfl, (blk_cell BK212.out 1).trans rfl, (blk_cell BK212.out 2).trans rfl, (blk_cell BK211.out 0).trans rfl, (blk_cell BK211.out 1).trans rfl⟩ (fun hHeld => ?_); refine with_tabW spec_pzClue.tab7 spec_pzClue.bits7 (fun HT_ HW_ => ?_); generalize w40.drew = w43 at BK211 BK212 HB hHeld ⊢; refine pU_ HT_ 0 (some 35) (bA 14 1) ?_; refine tK_ HT_ HW_ hHeld 1 (some 36) (bA 14 3) ?_; refine tK_ HT_ HW_ hHeld 2 (some 37) (bA 14 7) ?_; refine oN_ HT_ 3 (some 38) (bA 14 15) (fun K hK => ?_); refine goes_ Tryz.func82 (by kernel_rfl) rfl #[.agg #[.int .i64 a0_0, .int .i64 a0_1]] (by rfl) rfl rfl gL_ ?_; (with_reducible refine (spec_whCount.calls k a0_0 a0_1 t216 _ A29.out).mono ?_); rintro e w44 ⟨rfl, hb⟩; refine ⟨_, rfl, ?_⟩; replace BK211 := kb2 BK211 hb; replace BK212 := kb2 BK212 hb; replace HB := hB2 HB hb; (try clear hb); refine hK.out _ _ hC_ (fun hHeld => ?_); clear hK K; refine nN_ (some 38) ?_; refine pU_ HT_ 4 (some 39) (bA 14 31) ?_; refine oN_ HT_ 5 (some 40) (bA 14 63) (fun K hK => ?_); refine goes_ Tryz.func81 (by kernel_rfl) rfl #[.int .i64 a1_1, .int .i64 0, .int .i64 (wrap64 (t216 - 1))] (by rfl) rfl rfl gL_ ?_; (with_reducible refine (spec_l1In.calls a1_1 0 (wrap64 (t216 - 1)) false _ A30.out).mono ?_); rintro e w' ⟨rfl, ⟨nd, rfl⟩⟩; refine ⟨_, rfl, ?_⟩; refine hK.out _ _ hC_ (fun hHeld => ?_); clear hK K; refine nN_ (some 40) ?_; refine pU_ HT_ 6 (some 41) (bA 14 127) ?_; refine pZ_ HT_ 7 (some 42) (bA 14 255) ?_; refine pZ_ HT_ 8 (some 43) (bA 14 511) ?_; refine pZ_ HT_ 9 (some 44) (bA 14 1023) ?_; refine pZ_ HT_ 10 (some 45) (bA 14 2047) ?_; refine pZ_ HT_ 11 (some 46) (bA 14 4095) ?_; refine pU_ HT_ 12 (some 47) (bA 14 8191) ?_; refine pU_ HT_ 13 (some 4) (bA 14 16383) ?_; refine done_ (done_of HT_.out (by kernel_rfl)) ?_; (try go_wp2); go_ret; exact ⟨rF_, bB⟩
      · rw [if_neg c28] at H; have c28b0 : (a1_0 == 2) = false := beq_eq_false_iff_ne.mpr c28; have c28b1 : (a1_0 != 2) = true := bne_iff_ne.mpr c28
        by_cases c45 : a1_0 = 3
        · rw [if_pos c45] at H; have c45b0 : (a1_0 == 3) = true := beq_iff_eq.mpr c45; have c45b1 : (a1_0 != 3) = false := bne_eq_false_iff_eq.mpr c45; clear c45; replace H := bE H; obtain ⟨t219, A46, H⟩ := H; replace H := bE H; obtain ⟨t220, A47, H⟩ := H; replace H := iteB H; obtain ⟨rfl, H⟩ | ⟨rfl, H⟩ := H
          · replace H := bE H; obtain ⟨t221, A49, H⟩ := H; obtain rfl := Option.some.inj H; go_enter Tryz.func58, Tryz.ntmps58; (try go_wp2_with (first | ((with_reducible refine gate_dst (N := 2) rfl ?_); refine boxE_ HB 2 #[.int .i64 a0_0, .int .i64 a0_1] 23 ?_; clear HB; intro gb211 w50 HB BK211 GW211 GE211 hb; clear hb) | ((with_reducible refine gate_dst (N := 3) rfl ?_); refine boxG_ 3 #[.int .i64 a1_0, .int .i64 a1_1, .int .i64 a1_2] 45 ?_; intro gb212 w51 hg BK212 hb; have GW212 := sZ HB hg; have GE212 := sZ HB hg; replace HB := hB2 HB hb; have NB211_212 := neL BK211 hg; have NB212_211 := neR BK211 hg; replace BK211 := kb2 BK211 hb; clear hb hg; have hnb52 := NB212_211.out; have hnc52 := NB211_212.out; obtain ⟨hcz53_0, hcz53_1, hcz53_2, hfz53_0, hfz53_1, hfz53_2⟩ := cells3 BK212.out))); replace BK211 := amk (blk_drew BK211.out); replace BK212 := amk (blk_drew BK212.out); replace HB := amk (bd_ HB.out); refine start_ (n := 12) (S := fun w' => w'.cell? ⟨gb212, 0, none⟩ = some (.int .i64 a1_0) ∧ w'.cell? ⟨gb212, 1, none⟩ = some (.int .i64 a1_1) ∧ w'.cell? ⟨gb212, 2, none⟩ = some (.int .i64 a1_2) ∧ w'.cell? ⟨gb211, 0, none⟩ = some (.int .i64 a0_0) ∧ w'.cell? ⟨gb211, 1, none⟩ = some (.int .i64 a0_1)) (ds := []) (bA 12 0) (by kernel_rfl) rfl rfl ⟨(blk_cell BK212.out 0).trans rfl, (blk_cell BK212.out 1).trans rfl, (blk_cell BK212.out 2).trans rfl, (blk_cell BK211.out 0).trans rfl, (blk_cell BK211.out 1).trans rfl⟩ (fun hHeld => ?_); refine with_tabW spec_pzClue.tab9 spec_pzClue.bits9 (fun HT_ HW_ => ?_); generalize w51.drew = w54 at BK211 BK212 HB hHeld ⊢; refine pU_ HT_ 0 (some 50) (bA 12 1) ?_; refine tK_ HT_ HW_ hHeld 1 (some 51) (bA 12 3) ?_; refine tK_ HT_ HW_ hHeld 2 (some 52) (bA 12 7) ?_; refine oN_ HT_ 3 (some 53) (bA 12 15) (fun K hK => ?_); refine goes_ Tryz.func82 (by kernel_rfl) rfl #[.agg #[.int .i64 a0_0, .int .i64 a0_1]] (by rfl) rfl rfl gL_ ?_; (with_reducible refine (spec_whCount.calls k a0_0 a0_1 t219 _ A46.out).mono ?_); rintro e w55 ⟨rfl, hb⟩; refine ⟨_, rfl, ?_⟩; replace BK211 := kb2 BK211 hb; replace BK212 := kb2 BK212 hb; replace HB := hB2 HB hb; (try clear hb); refine hK.out _ _ hC_ (fun hHeld => ?_); clear hK K; refine nN_ (some 53) ?_; refine pU_ HT_ 4 (some 54) (bA 12 31) ?_; refine oN_ HT_ 5 (some 55) (bA 12 63) (fun K hK => ?_); refine goes_ Tryz.func81 (by kernel_rfl) rfl #[.int .i64 a1_1, .int .i64 0, .int .i64 (wrap64 (t219 - 1))] (by rfl) rfl rfl gL_ ?_; (with_reducible refine (spec_l1In.calls a1_1 0 (wrap64 (t219 - 1)) true _ A47.out).mono ?_); rintro e w' ⟨rfl, ⟨nd, rfl⟩⟩; refine ⟨_, rfl, ?_⟩; refine hK.out _ _ hC_ (fun hHeld => ?_); clear hK K; refine nN_ (some 55) ?_; refine pU_ HT_ 6 (some 56) (bA 12 127) ?_; refine pU_ HT_ 7 (some 57) (bA 12 255) ?_; refine tK_ HT_ HW_ hHeld 8 (some 58) (bA 12 511) ?_; refine oN_ HT_ 9 (some 59) (bA 12 1023) (fun K hK => ?_); refine goes_ Tryz.func81 (by kernel_rfl) rfl #[.int .i64 a1_2, .int .i64 0, .int .i64 60] (by rfl) rfl rfl gL_ ?_; (with_reducible refine (spec_l1In.calls a1_2 0 60 t221 _ A49.out).mono ?_); rintro e w' ⟨rfl, ⟨nd, rfl⟩⟩; refine ⟨_, rfl, ?_⟩; refine hK.out _ _ hC_ (fun hHeld => ?_); clear hK K; refine nN_ (some 59) ?_; refine pU_ HT_ 10 (some 60) (bA 12 2047) ?_; refine pU_ HT_ 11 (some 4) (bA 12 4095) ?_; refine done_ (done_of HT_.out (by kernel_rfl)) ?_; (try go_wp2); go_ret; exact ⟨rF_, bB⟩
          · obtain rfl := Option.some.inj H; go_enter Tryz.func58, Tryz.ntmps58; (try go_wp2_with (first | ((with_reducible refine gate_dst (N := 2) rfl ?_); refine boxE_ HB 2 #[.int .i64 a0_0, .int .i64 a0_1] 23 ?_; clear HB; intro gb211 w56 HB BK211 GW211 GE211 hb; clear hb) | ((with_reducible refine gate_dst (N := 3) rfl ?_); refine boxG_ 3 #[.int .i64 a1_0, .int .i64 a1_1, .int .i64 a1_2] 45 ?_; intro gb212 w57 hg BK212 hb; have GW212 := sZ HB hg; have GE212 := sZ HB hg; replace HB := hB2 HB hb; have NB211_212 := neL BK211 hg; have NB212_211 := neR BK211 hg; replace BK211 := kb2 BK211 hb; clear hb hg; have hnb58 := NB212_211.out; have hnc58 := NB211_212.out; obtain ⟨hcz59_0, hcz59_1, hcz59_2, hfz59_0, hfz59_1, hfz59_2⟩ := cells3 BK212.out))); replace BK211 := amk (blk_drew BK211.out); replace BK212 := amk (blk_drew BK212.out); replace HB := amk (bd_ HB.out); refine start_ (n := 12) (S := fun w' => w'.cell? ⟨gb212, 0, none⟩ = some (.int .i64 a1_0) ∧ w'.cell? ⟨gb212, 1, none⟩ = some (.int .i64 a1_1) ∧ w'.cell? ⟨gb212, 2, none⟩ = some (.int .i64 a1_2) ∧ w'.cell? ⟨gb211, 0, none⟩ = some (.int .i64 a0_0) ∧ w'.cell? ⟨gb211, 1, none⟩ = some (.int .i64 a0_1)) (ds := []) (bA 12 0) (by kernel_rfl) rfl rfl ⟨(blk_cell BK212.out 0).trans rfl, (blk_cell BK212.out 1).trans rfl, (blk_cell BK212.out 2).trans rfl, (blk_cell BK211.out 0).trans rfl, (blk_cell BK211.out 1).trans rfl⟩ (fun hHeld => ?_); refine with_tabW spec_pzClue.tab9 spec_pzClue.bits9 (fun HT_ HW_ => ?_); generalize w57.drew = w60 at BK211 BK212 HB hHeld ⊢; refine pU_ HT_ 0 (some 50) (bA 12 1) ?_; refine tK_ HT_ HW_ hHeld 1 (some 51) (bA 12 3) ?_; refine tK_ HT_ HW_ hHeld 2 (some 52) (bA 12 7) ?_; refine oN_ HT_ 3 (some 53) (bA 12 15) (fun K hK => ?_); refine goes_ Tryz.func82 (by kernel_rfl) rfl #[.agg #[.int .i64 a0_0, .int .i64 a0_1]] (by rfl) rfl rfl gL_ ?_; (with_reducible refine (spec_whCount.calls k a0_0 a0_1 t219 _ A46.out).mono ?_); rintro e w61 ⟨rfl, hb⟩; refine ⟨_, rfl, ?_⟩; replace BK211 := kb2 BK211 hb; replace BK212 := kb2 BK212 hb; replace HB := hB2 HB hb; (try clear hb); refine hK.out _ _ hC_ (fun hHeld => ?_); clear hK K; refine nN_ (some 53) ?_; refine pU_ HT_ 4 (some 54) (bA 12 31) ?_; refine oN_ HT_ 5 (some 55) (bA 12 63) (fun K hK => ?_); refine goes_ Tryz.func81 (by kernel_rfl) rfl #[.int .i64 a1_1, .int .i64 0, .int .i64 (wrap64 (t219 - 1))] (by rfl) rfl rfl gL_ ?_; (with_reducible refine (spec_l1In.calls a1_1 0 (wrap64 (t219 - 1)) false _ A47.out).mono ?_); rintro e w' ⟨rfl, ⟨nd, rfl⟩⟩; refine ⟨_, rfl, ?_⟩; refine hK.out _ _ hC_ (fun hHeld => ?_); clear hK K; refine nN_ (some 55) ?_; refine pU_ HT_ 6 (some 56) (bA 12 127) ?_; refine pZ_ HT_ 7 (some 57) (bA 12 255) ?_; refine pZ_ HT_ 8 (some 58) (bA 12 511) ?_; refine pZ_ HT_ 9 (some 59) (bA 12 1023) ?_; refine pU_ HT_ 10 (some 60) (bA 12 2047) ?_; refine pU_ HT_ 11 (some 4) (bA 12 4095) ?_; refine done_ (done_of HT_.out (by kernel_rfl)) ?_; (try go_wp2); go_ret; exact ⟨rF_, bB⟩
        · rw [if_neg c45] at H; have c45b0 : (a1_0 == 3) = false := beq_eq_false_iff_ne.mpr c45; have c45b1 : (a1_0 != 3) = true := bne_iff_ne.mpr c45
          by_cases c62 : a1_0 = 4
          · rw [if_pos c62] at H; have c62b0 : (a1_0 == 4) = true := beq_iff_eq.mpr c62; have c62b1 : (a1_0 != 4) = false := bne_eq_false_iff_eq.mpr c62; clear c62; replace H := bE H; obtain ⟨t222, A63, H⟩ := H; replace H := iteB H; obtain ⟨rfl, H⟩ | ⟨rfl, H⟩ := H
            · replace H := bE H; obtain ⟨t223, A65, H⟩ := H; obtain rfl := Option.some.inj H; go_enter Tryz.func58, Tryz.ntmps58; go_wp2_with (first | ((with_reducible refine gate_dst (N := 2) rfl ?_); refine boxE_ HB 2 #[.int .i64 a0_0, .int .i64 a0_1] 23 ?_; clear HB; intro gb211 w66 HB BK211 GW211 GE211 hb; clear hb) | ((with_reducible refine gate_dst (N := 3) rfl ?_); refine boxG_ 3 #[.int .i64 a1_0, .int .i64 a1_1, .int .i64 a1_2] 45 ?_; intro gb212 w67 hg BK212 hb; have GW212 := sZ HB hg; have GE212 := sZ HB hg; replace HB := hB2 HB hb; have NB211_212 := neL BK211 hg; have NB212_211 := neR BK211 hg; replace BK211 := kb2 BK211 hb; clear hb hg; have hnb68 := NB212_211.out; have hnc68 := NB211_212.out; obtain ⟨hcz69_0, hcz69_1, hcz69_2, hfz69_0, hfz69_1, hfz69_2⟩ := cells3 BK212.out) | ((with_reducible refine gate_callee (f := 81) rfl ?_); refine goesL_ (some 65) rfl rfl Tryz.func81 (by kernel_rfl) rfl #[.int .i64 a1_1, .int .i64 2, .int .i64 9] rfl gL_ ?_; (with_reducible refine (spec_l1In.calls a1_1 2 9 true _ A63.out).mono ?_); rintro e w' ⟨rfl, ⟨nd, rfl⟩⟩; refine ⟨_, rfl, ?_⟩) | (go_at_call 81; (with_reducible refine (spec_l1In.calls a1_2 0 (wrap64 (a1_1 - 1)) t223 _ A65.out).mono ?_); rintro e w' ⟨rfl, ⟨nd, rfl⟩⟩)); go_ret; exact ⟨rF_, bB⟩
            · obtain rfl := Option.some.inj H; go_enter Tryz.func58, Tryz.ntmps58; go_wp2_with (first | ((with_reducible refine gate_dst (N := 2) rfl ?_); refine boxE_ HB 2 #[.int .i64 a0_0, .int .i64 a0_1] 23 ?_; clear HB; intro gb211 w70 HB BK211 GW211 GE211 hb; clear hb) | ((with_reducible refine gate_dst (N := 3) rfl ?_); refine boxG_ 3 #[.int .i64 a1_0, .int .i64 a1_1, .int .i64 a1_2] 45 ?_; intro gb212 w71 hg BK212 hb; have GW212 := sZ HB hg; have GE212 := sZ HB hg; replace HB := hB2 HB hb; have NB211_212 := neL BK211 hg; have NB212_211 := neR BK211 hg; replace BK211 := kb2 BK211 hb; clear hb hg; have hnb72 := NB212_211.out; have hnc72 := NB211_212.out; obtain ⟨hcz73_0, hcz73_1, hcz73_2, hfz73_0, hfz73_1, hfz73_2⟩ := cells3 BK212.out) | ((with_reducible refine gate_callee (f := 81) rfl ?_); refine goesL_ (some 65) rfl rfl Tryz.func81 (by kernel_rfl) rfl #[.int .i64 a1_1, .int .i64 2, .int .i64 9] rfl gL_ ?_; (with_reducible refine (spec_l1In.calls a1_1 2 9 false _ A63.out).mono ?_); rintro e w' ⟨rfl, ⟨nd, rfl⟩⟩; refine ⟨_, rfl, ?_⟩)); go_ret; exact ⟨rF_, bB⟩
          · rw [if_neg c62] at H; have c62b0 : (a1_0 == 4) = false := beq_eq_false_iff_ne.mpr c62; have c62b1 : (a1_0 != 4) = true := bne_iff_ne.mpr c62; obtain rfl := Option.some.inj H; go_enter Tryz.func58, Tryz.ntmps58; go_wp2_with (first | ((with_reducible refine gate_dst (N := 2) rfl ?_); refine boxE_ HB 2 #[.int .i64 a0_0, .int .i64 a0_1] 23 ?_; clear HB; intro gb211 w74 HB BK211 GW211 GE211 hb; clear hb) | ((with_reducible refine gate_dst (N := 3) rfl ?_); refine boxG_ 3 #[.int .i64 a1_0, .int .i64 a1_1, .int .i64 a1_2] 45 ?_; intro gb212 w75 hg BK212 hb; have GW212 := sZ HB hg; have GE212 := sZ HB hg; replace HB := hB2 HB hb; have NB211_212 := neL BK211 hg; have NB212_211 := neR BK211 hg; replace BK211 := kb2 BK211 hb; clear hb hg; have hnb76 := NB212_211.out; have hnc76 := NB211_212.out; obtain ⟨hcz77_0, hcz77_1, hcz77_2, hfz77_0, hfz77_1, hfz77_2⟩ := cells3 BK212.out)); go_ret; exact ⟨rF_, bB⟩
/-! ### spec_pzLock: function 57 -/
def spec_pzLock.f (k : Nat) (a0_0 : Int) (a0_1 : Int) : Option (Bool) := (spec_hiLock.f k a0_0 a0_1 125).bind fun t210 => (some t210)
set_option maxHeartbeats 8000000 in
set_option maxRecDepth 100000 in
theorem spec_pzLock.calls (k : Nat) (a0_0 : Int) (a0_1 : Int) (r : Bool) (w : World) (h : spec_pzLock.f k a0_0 a0_1 = some r) :
    Calls Tryz.prog 57 #[.agg #[.int .i64 a0_0, .int .i64 a0_1]] w fun e w' => e = .returned (.bool r) ∧ Below w.heap.size w w' := by
  have hu23 := Tryz.underlying23; have HB := amk (Below.refl w.heap.size w); unfold spec_pzLock.f at h; have H := h; clear h; replace H := bE H; obtain ⟨t210, A2, H⟩ := H; obtain rfl := Option.some.inj H; go_enter Tryz.func57, Tryz.ntmps57; go_wp2_with (first | ((with_reducible refine gate_dst (N := 1) rfl ?_); refine boxE_ HB 1 #[.int .i64 a0_0, .int .i64 a0_1] 23 ?_; clear HB; intro gb209 w3 HB BK209 GW209 GE209 hb; clear hb; obtain ⟨hcz4_0, hcz4_1, hfz4_0, hfz4_1⟩ := cells2 BK209.out) | ((with_reducible refine gate_callee (f := 80) rfl ?_); refine goesL_ (some 4) rfl rfl Tryz.func80 (by kernel_rfl) rfl #[.agg #[.int .i64 a0_0, .int .i64 a0_1], .int .i64 125] rfl gL_ ?_; (with_reducible refine (spec_hiLock.calls k a0_0 a0_1 125 t210 _ A2.out).mono ?_); rintro e w5 ⟨rfl, hb⟩; refine ⟨_, rfl, ?_⟩; replace BK209 := kb2 BK209 hb; replace HB := hB2 HB hb; (try clear hb))); go_ret; exact ⟨rF_, bB⟩
/-! spec's clues: what they come to. -/
theorem spec_pzLock.ev (w d : Int) : Ev (fun k => spec_pzLock.f k w d) (smallB w d 125) := by
  unfold spec_pzLock.f
  exact Ev.bind (spec_hiLock.ev w d 125) (Ev.now _)
theorem spec_pzClue.ev (w d a b c : Int) (hl : lockB w d = true) : Ev (fun k => spec_pzClue.f k w d a b c) (clueB w d a b c) := by
  unfold spec_pzClue.f clueB
  obtain ⟨w1, w2, d1, d2⟩ := lockB_iff.mp hl
  have hc := count_bound hl
  simp only [spec_l1In.is, Option.bind_some, w64 (x := w - 1) (by omega) (by omega), w64 (x := d - 1) (by omega) (by omega)]
  refine Ev.both (fun e => ?_) (fun e => ?_)
  · rw [if_pos e]
    exact Ev.both (fun h => Ev.id (by simp [of_decide_eq_true h])) (fun h => Ev.id (by have := decide_eq_false_iff_not.mp (Bool.eq_false_iff.mpr h); simp [this]))
  rw [if_neg e]
  refine Ev.both (fun e => ?_) (fun e => ?_)
  · rw [if_pos e]
    exact Ev.both (fun h => Ev.id (by simp [of_decide_eq_true h])) (fun h => Ev.id (by have := decide_eq_false_iff_not.mp (Bool.eq_false_iff.mpr h); simp [this]))
  rw [if_neg e]
  refine Ev.both (fun e => ?_) (fun e => ?_)
  · rw [if_pos e]
    refine Ev.bind (spec_whCount.ev hl) ?_
    rw [w64 (x := d ^ w.toNat - 1) (by omega) (by omega)]
    exact Ev.both (fun h => Ev.id (by simp [of_decide_eq_true h])) (fun h => Ev.id (by have := decide_eq_false_iff_not.mp (Bool.eq_false_iff.mpr h); simp [this]))
  rw [if_neg e]
  refine Ev.both (fun e => ?_) (fun e => ?_)
  · rw [if_pos e]
    refine Ev.bind (spec_whCount.ev hl) ?_
    rw [w64 (x := d ^ w.toNat - 1) (by omega) (by omega)]
    exact Ev.both (fun h => Ev.id (by simp [of_decide_eq_true h])) (fun h => Ev.id (by have := decide_eq_false_iff_not.mp (Bool.eq_false_iff.mpr h); simp [this]))
  rw [if_neg e]
  refine Ev.both (fun e => ?_) (fun e => ?_)
  · rw [if_pos e]
    refine Ev.both (fun h => ?_) (fun h => Ev.id (by have := decide_eq_false_iff_not.mp (Bool.eq_false_iff.mpr h); simp [this]))
    have h' := of_decide_eq_true h
    rw [w64 (x := b - 1) (by omega) (by omega)]
    exact Ev.id (by simp [h'])
  rw [if_neg e]
  exact Ev.id (by simp)
/-! ### spec_pzGood: function 35 -/
mutual
def spec_pzGood.j0 : Nat → Bool → Int → Int → List (S45) → Option (Bool)
  | 0, _, _, _, _ => none
  | k + 1, x14, x225000, x225001, x225002 => if x14 = true then (some false) else (spec_pzGood.l0 k x225002 (x225002.length : Int) 0 x225000 x225001 x225002)
def spec_pzGood.l0 : Nat → List (S45) → Int → Int → Int → Int → List (S45) → Option (Bool)
  | 0, _, _, _, _, _, _ => none
  | k + 1, x16, x17, x18, x225000, x225001, x225002 => if x18 < x17 then (if 0 ≤ x18 then (if x18 < (x16.length : Int) then ((spec_pzClue.f k x225000 x225001 ((rd_T45 x16 x18).f0) ((rd_T45 x16 x18).f1) ((rd_T45 x16 x18).f2)).bind fun t228 => (if t228 = true then (spec_pzGood.l0 k x16 x17 (wrap64 (x18 + 1)) x225000 x225001 x225002) else (some false))) else (none)) else (none)) else (some true)
end
def spec_pzGood.f (k : Nat) (a0_0 : Int) (a0_1 : Int) (l0_2 : List (S45)) : Option (Bool) := (spec_pzLock.f k a0_0 a0_1).bind fun t225 => (if t225 = true then (spec_pzGood.j0 k (decide ((l0_2.length : Int) > 6)) a0_0 a0_1 l0_2) else (spec_pzGood.j0 k true a0_0 a0_1 l0_2))
set_option maxHeartbeats 8000000 in
set_option maxRecDepth 100000 in
theorem spec_pzGood.calls (k : Nat) (a0_0 : Int) (a0_1 : Int) (A0_2 : Option Addr) (c0_2 : Nat) (l0_2 : List (S45)) (r : Bool) (w : World) (hr0_2 : Kd.C k45 w A0_2 l0_2.length l0_2) (hc0_2 : l0_2.length ≤ c0_2) (h : spec_pzGood.f k a0_0 a0_1 l0_2 = some r) :
    Calls Tryz.prog 35 #[.agg #[.int .i64 a0_0, .int .i64 a0_1, .slice A0_2 l0_2.length c0_2]] w fun e w' => e = .returned (.bool r) ∧ Below w.heap.size w w' := by
  have hu26 := Tryz.underlying26; have hu23 := Tryz.underlying23; have hu45 := Tryz.underlying45; have HR0_2 := amk hr0_2; have HC0_2 := amk hc0_2; clear hr0_2 hc0_2; have HB := amk (Below.refl w.heap.size w); unfold spec_pzGood.f at h; have H := h; clear h; have HC2 := amk H; clear H; go_enter Tryz.func35, Tryz.ntmps35
  go_upto_region 1 with (first | ((with_reducible refine gate_dst (N := 1) rfl ?_); (try (refine gate_guard (by rfl) ?_; dsimp only)); refine boxE_ HB 1 #[.int .i64 a0_0, .int .i64 a0_1, .slice A0_2 l0_2.length c0_2] 26 ?_; clear HB; intro gb224 w3 HB BK224 GW224 GE224 hb; clear hb))
  (try simp only [Act.put, List.setIfInBounds_toArray, List.set_cons_zero, List.set_cons_succ])
  go_cut [14] (fun v14 wc => ∃ (kq : Nat) (x14_1 : Bool), v14 = .bool x14_1 ∧ Aside0 (spec_pzGood.j0 kq x14_1 a0_0 a0_1 l0_2 = some r) ∧ Aside0 (kq ≤ k) ∧ Aside0 (wc.heap[gb224]? = some (.cells #[.int .i64 a0_0, .int .i64 a0_1, (.slice A0_2 l0_2.length c0_2)] 26 (0, 0))) ∧ Aside0 (Below w.heap.size w wc))
  case first =>
    have H := HC2.out; clear HC2; replace H := bE H; obtain ⟨t225, A4, H⟩ := H; replace H := iteB H; obtain ⟨rfl, H⟩ | ⟨rfl, H⟩ := H
    · have H' := amk H; clear H; obtain ⟨hcz6_0, hcz6_1, hcz6_2, hfz6_0, hfz6_1, hfz6_2⟩ := cells3 BK224.out; go_wp2_with (first | ((with_reducible refine gate_callee (f := 57) rfl ?_); refine goesL_ (some 7) rfl rfl Tryz.func57 (by kernel_rfl) rfl #[.agg #[.int .i64 a0_0, .int .i64 a0_1]] rfl gL_ ?_; (with_reducible refine (spec_pzLock.calls k a0_0 a0_1 true _ A4.out).mono ?_); rintro e w7 ⟨rfl, hb⟩; refine ⟨_, rfl, ?_⟩; replace BK224 := kb2 BK224 hb; replace HB := hB2 HB hb; (try clear hb); obtain ⟨hcz8_0, hcz8_1, hcz8_2, hfz8_0, hfz8_1, hfz8_2⟩ := cells3 BK224.out)); go_meet
      case rel => exact ⟨_, (decide ((l0_2.length : Int) > 6)), rS_, H', ⟨by first | omega | exact Nat.le_refl _⟩, ⟨kB BK224⟩, ⟨bB⟩⟩
    · have H' := amk H; clear H; obtain ⟨hcz9_0, hcz9_1, hcz9_2, hfz9_0, hfz9_1, hfz9_2⟩ := cells3 BK224.out; go_wp2_with (first | ((with_reducible refine gate_callee (f := 57) rfl ?_); refine goesL_ (some 7) rfl rfl Tryz.func57 (by kernel_rfl) rfl #[.agg #[.int .i64 a0_0, .int .i64 a0_1]] rfl gL_ ?_; (with_reducible refine (spec_pzLock.calls k a0_0 a0_1 false _ A4.out).mono ?_); rintro e w10 ⟨rfl, hb⟩; refine ⟨_, rfl, ?_⟩; replace BK224 := kb2 BK224 hb; replace HB := hB2 HB hb; (try clear hb))); go_meet
      case rel => exact ⟨_, (true), rS_, H', ⟨by first | omega | exact Nat.le_refl _⟩, ⟨kB BK224⟩, ⟨bB⟩⟩
  case rest =>
    clear HC2; (try clear p2); (try clear c3); (try clear c5); (try clear hcz6_0); (try clear hcz6_1); (try clear hcz6_2); (try clear hcz8_0); (try clear hcz8_1); (try clear hcz8_2); (try clear hcz9_0); (try clear hcz9_1); (try clear hcz9_2); (try clear hfz6_0); (try clear hfz6_1); (try clear hfz6_2); (try clear hfz8_0); (try clear hfz8_1); (try clear hfz8_2); (try clear hfz9_0); (try clear hfz9_1); (try clear hfz9_2); obtain ⟨kq, x14_1, rfl, HA, HJ1, BK224, HB⟩ := hcut
    cases kq with
    | zero => exact absurd HA.out (by simp [spec_pzGood.j0])
    | succ kj1 =>
      have H := HA.out; clear HA; simp only [spec_pzGood.j0] at H; replace H := iteB H; obtain ⟨rfl, H⟩ | ⟨rfl, H⟩ := H
      · obtain rfl := Option.some.inj H; go_wp2; go_ret; exact ⟨rF_, bB⟩
      · have H' := amk H; clear H; obtain ⟨hcz12_0, hcz12_1, hcz12_2, hfz12_0, hfz12_1, hfz12_2⟩ := cells3 BK224.out; go_wp2
        go_loopg [18] kj1 (fun kq v18 w' => ∃ (x18_2 : Int), v18 = .int .i64 x18_2 ∧ Aside0 (spec_pzGood.l0 kq l0_2 (l0_2.length : Int) x18_2 a0_0 a0_1 l0_2 = some r) ∧ Aside0 (kq ≤ kj1) ∧ Aside0 (w'.heap[gb224]? = some (.cells #[.int .i64 a0_0, .int .i64 a0_1, (.slice A0_2 l0_2.length c0_2)] 26 (0, 0))) ∧ Aside0 (Below w.heap.size w w'))
        case atStart => exact ⟨(0), rS_, H', ⟨Nat.le_refl _⟩, ⟨kB BK224⟩, ⟨bB⟩⟩
        case round =>
          clear H'; (try clear c1); (try clear p2); (try clear c3); (try clear c5); (try clear c11); (try clear hcz12_0); (try clear hcz12_1); (try clear hcz12_2); (try clear hcz6_0); (try clear hcz6_1); (try clear hcz6_2); (try clear hcz8_0); (try clear hcz8_1); (try clear hcz8_2); (try clear hcz9_0); (try clear hcz9_1); (try clear hcz9_2); (try clear hfz12_0); (try clear hfz12_1); (try clear hfz12_2); (try clear hfz6_0); (try clear hfz6_1); (try clear hfz6_2); (try clear hfz8_0); (try clear hfz8_1); (try clear hfz8_2); (try clear hfz9_0); (try clear hfz9_1); (try clear hfz9_2); (try clear p2); obtain ⟨x18_2, rfl, HA, HK2, BK224, HB⟩ := hrel
          cases gk with
          | zero => exact absurd HA.out (by simp [spec_pzGood.l0])
          | succ k2 =>
            have H := HA.out; clear HA; simp only [spec_pzGood.l0] at H; replace H := iteE H; obtain ⟨c13b0, H⟩ | ⟨c13b0, H⟩ := H
            · replace H := iteN H; obtain ⟨c14b0, H⟩ := H; replace H := iteN H; obtain ⟨c15b0, H⟩ := H; replace H := bE H; obtain ⟨t228, A16, H⟩ := H; replace H := iteB H; obtain ⟨rfl, H⟩ | ⟨rfl, H⟩ := H
              · have H' := amk H; clear H; have p226 : 0 ≤ (x18_2 : Int) := dA_; have q226 : x18_2 < (l0_2.length : Int) := dA_; obtain ⟨ad226, e226, hx226_0, hx226_1, hx226_2⟩ := at_T45 HR0_2.out x18_2 p226 q226; cases e226; replace hx226_0 := (HB.out.cell (World.block_lt_of_cell? w _ hx226_0)).trans hx226_0; replace hx226_1 := (HB.out.cell (World.block_lt_of_cell? w _ hx226_1)).trans hx226_1; replace hx226_2 := (HB.out.cell (World.block_lt_of_cell? w _ hx226_2)).trans hx226_2; replace p226 := eq_true p226; replace q226 := eq_true q226; go_wp2_with (first | ((with_reducible refine gate_dst (N := 4) rfl ?_); (try (refine gate_guard (by rfl) ?_; dsimp only)); refine boxG_ 4 #[.int .i64 0, .int .i64 0, .int .i64 0] 45 ?_; intro gb227 w18 hg BK227 hb; have GW227 := sZ HB hg; have GE227 := sZ HB hg; replace HB := hB2 HB hb; have NB224_227 := neL BK224 hg; have NB227_224 := neR BK224 hg; replace BK224 := kb2 BK224 hb; clear hb hg; have hnb19 := NB227_224.out; have hnc19 := NB224_227.out; obtain ⟨hcz20_0, hcz20_1, hcz20_2, hfz20_0, hfz20_1, hfz20_2⟩ := cells3 BK227.out; obtain ⟨hcz21_0, hcz21_1, hcz21_2, hfz21_0, hfz21_1, hfz21_2⟩ := cells3 BK224.out) | ((with_reducible refine gate_callee (f := 58) rfl ?_); refine goesL_ (some 25) rfl rfl Tryz.func58 (by kernel_rfl) rfl #[.agg #[.int .i64 a0_0, .int .i64 a0_1], .agg #[.int .i64 ((rd_T45 l0_2 x18_2).f0), .int .i64 ((rd_T45 l0_2 x18_2).f1), .int .i64 ((rd_T45 l0_2 x18_2).f2)]] rfl gL_ ?_; (with_reducible refine (spec_pzClue.calls k2 a0_0 a0_1 ((rd_T45 l0_2 x18_2).f0) ((rd_T45 l0_2 x18_2).f1) ((rd_T45 l0_2 x18_2).f2) true _ A16.out).mono ?_); rintro e w22 ⟨rfl, hb⟩; refine ⟨_, rfl, ?_⟩; replace BK224 := kb2 BK224 hb; replace BK227 := amk (blk_below (g := gb227) (o := .cells #[.int .i64 ((rd_T45 l0_2 x18_2).f0), .int .i64 ((rd_T45 l0_2 x18_2).f1), .int .i64 ((rd_T45 l0_2 x18_2).f2)] 45 (0, 0)) (kP BK227) hb); replace HB := hB2 HB hb; (try clear hb))); go_roundg k2
                case measure => have := HJ1.out; have := HK2.out; omega
                case rel => exact ⟨(wrap64 (x18_2 + 1)), rS_, H', ⟨by have := HJ1.out; have := HK2.out; omega⟩, ⟨kB BK224⟩, ⟨bB⟩⟩
              · obtain rfl := Option.some.inj H; have p226 : 0 ≤ (x18_2 : Int) := dA_; have q226 : x18_2 < (l0_2.length : Int) := dA_; obtain ⟨ad226, e226, hx226_0, hx226_1, hx226_2⟩ := at_T45 HR0_2.out x18_2 p226 q226; cases e226; replace hx226_0 := (HB.out.cell (World.block_lt_of_cell? w _ hx226_0)).trans hx226_0; replace hx226_1 := (HB.out.cell (World.block_lt_of_cell? w _ hx226_1)).trans hx226_1; replace hx226_2 := (HB.out.cell (World.block_lt_of_cell? w _ hx226_2)).trans hx226_2; replace p226 := eq_true p226; replace q226 := eq_true q226; go_wp2_with (first | ((with_reducible refine gate_dst (N := 4) rfl ?_); (try (refine gate_guard (by rfl) ?_; dsimp only)); refine boxG_ 4 #[.int .i64 0, .int .i64 0, .int .i64 0] 45 ?_; intro gb227 w23 hg BK227 hb; have GW227 := sZ HB hg; have GE227 := sZ HB hg; replace HB := hB2 HB hb; have NB224_227 := neL BK224 hg; have NB227_224 := neR BK224 hg; replace BK224 := kb2 BK224 hb; clear hb hg; have hnb24 := NB227_224.out; have hnc24 := NB224_227.out; obtain ⟨hcz25_0, hcz25_1, hcz25_2, hfz25_0, hfz25_1, hfz25_2⟩ := cells3 BK227.out; obtain ⟨hcz26_0, hcz26_1, hcz26_2, hfz26_0, hfz26_1, hfz26_2⟩ := cells3 BK224.out) | ((with_reducible refine gate_callee (f := 58) rfl ?_); refine goesL_ (some 25) rfl rfl Tryz.func58 (by kernel_rfl) rfl #[.agg #[.int .i64 a0_0, .int .i64 a0_1], .agg #[.int .i64 ((rd_T45 l0_2 x18_2).f0), .int .i64 ((rd_T45 l0_2 x18_2).f1), .int .i64 ((rd_T45 l0_2 x18_2).f2)]] rfl gL_ ?_; (with_reducible refine (spec_pzClue.calls k2 a0_0 a0_1 ((rd_T45 l0_2 x18_2).f0) ((rd_T45 l0_2 x18_2).f1) ((rd_T45 l0_2 x18_2).f2) false _ A16.out).mono ?_); rintro e w27 ⟨rfl, hb⟩; refine ⟨_, rfl, ?_⟩; replace BK224 := kb2 BK224 hb; replace BK227 := amk (blk_below (g := gb227) (o := .cells #[.int .i64 ((rd_T45 l0_2 x18_2).f0), .int .i64 ((rd_T45 l0_2 x18_2).f1), .int .i64 ((rd_T45 l0_2 x18_2).f2)] 45 (0, 0)) (kP BK227) hb); replace HB := hB2 HB hb; (try clear hb))); go_ret; exact ⟨rF_, bB⟩
            · obtain rfl := Option.some.inj H; go_wp2; go_ret; exact ⟨rF_, bB⟩
/-! spec's puzzles: what they come to. -/
theorem spec_pzGood.lev (w d : Int) (hl : lockB w d = true) (l : List S45) (hn : l.length ≤ 9223372036854775807) : ∀ (j : Nat) (i : Int), 0 ≤ i → i ≤ l.length → (l.length : Int) - i = j →
    Ev (fun k => spec_pzGood.l0 k l (l.length : Int) i w d l) ((l.drop i.toNat).all fun c => clueB w d c.f0 c.f1 c.f2) := by
  intro j
  induction j with
  | zero =>
    intro i h0 hi hj
    refine Ev.step (fun k => rfl) (Ev.no (by omega) (Ev.id ?_))
    rw [List.drop_eq_nil_of_le (by omega)]; rfl
  | succ j ih =>
    intro i h0 hi hj
    have hlt : i.toNat < l.length := by omega
    refine Ev.step (fun k => rfl) (Ev.yes (by omega) (Ev.yes h0 (Ev.yes (by omega) ?_)))
    refine Ev.bind (spec_pzClue.ev w d _ _ _ hl) ?_
    rw [List.drop_eq_getElem_cons hlt, List.all_cons, ← rd_clue hlt]
    cases clueB w d (rd_T45 l i).f0 (rd_T45 l i).f1 (rd_T45 l i).f2 with
    | false => exact Ev.no (by simp) (Ev.id (by simp))
    | true =>
      refine Ev.yes rfl ?_
      rw [w64 (x := i + 1) (by omega) (by omega), Bool.true_and, ← toNat_succ h0]
      exact ih (i + 1) (by omega) (by omega) (by omega)
theorem spec_pzGood.ev (w d : Int) (l : List S45) (hn : l.length ≤ 9223372036854775807) : Ev (fun k => spec_pzGood.f k w d l) (puzzleB w d l) := by
  unfold spec_pzGood.f puzzleB
  refine Ev.bind (spec_pzLock.ev w d) ?_
  cases h : smallB w d 125 with
  | false =>
    refine Ev.no (by simp) (Ev.step (fun k => rfl) ?_)
    simp only [spec_pzGood.j0]
    exact Ev.id (by simp)
  | true =>
    refine Ev.yes rfl (Ev.step (fun k => rfl) ?_)
    simp only [spec_pzGood.j0]
    by_cases h6 : l.length ≤ 6
    · refine Ev.no (by simp; omega) ?_
      have := spec_pzGood.lev w d (smallB_lock h) l hn l.length 0 (by omega) (by omega) (by omega)
      simpa [h6] using this
    · exact Ev.yes (by simp; omega) (Ev.id (by simp [h6]))
/-! strconv.Itoa at numbers of up to three digits: the kit's contract, with the table of tens. -/
def TabP (w : World) : Prop := Lib.TabIs Tryz.prog w "internal/strconv.uint64pow10" .u64 Lib.pow10Tab
theorem TabP.below {w0 w : World} (h : TabP w0) (hb : Below w0.heap.size w0 w) : TabP w := by
  unfold TabP Lib.TabIs World.var? at h ⊢
  obtain ⟨g, hg, h⟩ := Option.bind_eq_some_iff.mp h
  rw [Option.bind_eq_some_iff]
  refine ⟨g, hg, ?_⟩
  have hlt : g < w0.heap.size := by
    apply Classical.byContradiction
    intro hn
    rw [Array.getElem?_eq_none (by omega)] at h
    cases h
  rw [hb.block g hlt]
  exact h
theorem below_drewGrow (w : World) (k : Nat) (os : Array Obj) : Below w.heap.size w (Go.Sort.grow (w.drewN k) os) :=
  ⟨rfl, rfl, rfl, by simp [Go.Sort.grow], fun j hj => by simp [Go.Sort.grow, World.drewN, Array.getElem?_append_left hj]⟩
def strconv_ItoaT.f (n : Int) : Option ByteArray := if 0 ≤ n ∧ n < 1000 then some (decB n) else none
theorem strconv_ItoaT.calls (a0 : Int) (r : ByteArray) (w : World) (htp : TabP w) (h : strconv_ItoaT.f a0 = some r) :
    Calls Tryz.prog 64 #[.int .i64 a0] w fun e w' => e = .returned (.string r) ∧ Below w.heap.size w w' := by
  unfold strconv_ItoaT.f at h
  by_cases p : 0 ≤ a0 ∧ a0 < 1000
  · rw [if_pos p] at h
    obtain rfl := Option.some.inj h
    refine Calls.mono (Tryz.strconv_Itoa a0 (by omega) (by omega) w htp) (fun e w' hh => ⟨?_, ?_⟩)
    · rw [hh.1]; unfold decB Lib.itoa; rw [if_neg (by omega)]
    · obtain ⟨k, os, e⟩ := hh.2
      rw [e]; exact below_drewGrow w k os
  · rw [if_neg p] at h; cases h
/-! What the library's variables hold: the table of tens, MaxLen, the two errors of strconv. -/
def EnvP (w : World) : Prop := TabP w ∧ (∃ m : Int, w.cell? ⟨0, 0, none⟩ = some (.int .i64 m)) ∧ (∃ te pe, w.cell? ⟨1, 0, none⟩ = some (.iface te pe)) ∧ (∃ te pe, w.cell? ⟨2, 0, none⟩ = some (.iface te pe))
theorem EnvP.below {w0 w : World} (h : EnvP w0) (hb : Below w0.heap.size w0 w) : EnvP w := by
  obtain ⟨h1, ⟨m, h2⟩, ⟨a, b, h3⟩, c, d, h4⟩ := h
  exact ⟨h1.below hb, ⟨m, (hb.cell (World.block_lt_of_cell? w0 _ h2)).trans h2⟩, ⟨a, b, (hb.cell (World.block_lt_of_cell? w0 _ h3)).trans h3⟩, c, d, (hb.cell (World.block_lt_of_cell? w0 _ h4)).trans h4⟩
/-! strconv.Atoi, at every text that is not too long: the kit's contracts; the error that comes beside is not told. -/
def atoiV (s : ByteArray) : Int := match Lib.atoiAll s.data.toList with
  | .ok v => v
  | .range => Lib.atoiSat s.data.toList
  | _ => 0
def strconv_Atoi.f (s : ByteArray) : Option (Int × Bool) := if s.size ≤ 1000000 then some (atoiV s, true) else none
theorem strconv_Atoi.calls (a0 : ByteArray) (r1 : Int) (r2 : Bool) (w : World) (htp : EnvP w) (h : strconv_Atoi.f a0 = some (r1, r2)) :
    Calls Tryz.prog 54 #[.string a0] w fun e w' => ∃ e2_ : Value, e = .returned (.tuple #[.int .i64 r1, e2_]) ∧ Below w.heap.size w w' := by
  unfold strconv_Atoi.f at h
  by_cases p : a0.size ≤ 1000000
  · rw [if_pos p] at h
    have h2 := Option.some.inj h
    have hr : atoiV a0 = r1 := congrArg (·.1) h2
    obtain ⟨_, _, ⟨t1, p1, h3⟩, t2, p2, h4⟩ := htp
    unfold atoiV at hr
    cases hc : Lib.atoiAll a0.data.toList with
    | ok v =>
      rw [hc] at hr
      have hr : v = r1 := hr
      subst hr
      refine Calls.mono (Tryz.strconv_Atoi_ok a0 (by omega) v hc w) (fun e w' hh => ⟨_, hh.1, ?_⟩)
      rcases hh.2 with e | ⟨t, e⟩
      · rw [e]; exact Below.refl _ _
      · rw [e]; exact Lib.bytesWorld_below _ _ _
    | range =>
      rw [hc] at hr
      have hr : Lib.atoiSat a0.data.toList = r1 := hr
      subst hr
      refine Calls.mono (Tryz.strconv_Atoi_range a0 (by omega) hc _ w h4 (Or.inr ⟨_, _, rfl⟩)) (fun e w' hh => ?_)
      obtain ⟨N, he, _, _, hb⟩ := hh
      exact ⟨_, he, hb⟩
    | _ =>
      rw [hc] at hr
      have hr : (0 : Int) = r1 := hr
      subst hr
      refine Calls.mono (Tryz.strconv_Atoi_syntax a0 (by omega) hc _ w h3 (Or.inr ⟨_, _, rfl⟩)) (fun e w' hh => ?_)
      obtain ⟨N, he, _, _, hb⟩ := hh
      exact ⟨_, he, hb⟩
  · rw [if_neg p] at h; cases h
/-! Atoi's value. -/
theorem atoiV_of {s : ByteArray} {v : Int} (h : Lib.atoiAll s.data.toList = .ok v) : atoiV s = v := by
  unfold atoiV
  split
  · rename_i u e
    rw [h] at e
    exact (Lib.NumEnd.ok.inj e).symm
  · rename_i e
    rw [h] at e
    cases e
  · rename_i e1 e2
    exact absurd h (e1 _)
/-! Numbers told by digits. -/
def digs (d : Int) : Nat → Int → List Int
  | 0, _ => []
  | m + 1, n => digs d m (n / d) ++ [n % d]
theorem digs_length (d : Int) : ∀ (m : Nat) (n : Int), (digs d m n).length = m
  | 0, _ => rfl
  | m + 1, n => by simp [digs, digs_length d m]
theorem digs_range {d : Int} (hd : 0 < d) : ∀ (m : Nat) (n : Int), ∀ x ∈ digs d m n, 0 ≤ x ∧ x < d
  | 0, _ => by simp [digs]
  | m + 1, n => by
    intro x hx
    simp only [digs, List.mem_append, List.mem_singleton] at hx
    rcases hx with hx | rfl
    · exact digs_range hd m _ x hx
    · exact ⟨Int.emod_nonneg _ (by omega), Int.emod_lt_of_pos _ hd⟩
def textB (l : List Int) : ByteArray := strOfNums (l.map fun x => wrap64 (48 + x) % 256)
def codeB (w d n : Int) : ByteArray := textB (digs d w.toNat n)
theorem rep_set (i : Nat) (T : List Int) (x : Int) : (List.replicate (i + 1) (0 : Int) ++ T).set i x = List.replicate i 0 ++ x :: T := by
  rw [List.replicate_succ', List.append_assoc, List.set_append_right _ _ (by simp)]
  simp
/-! The places and the digits that two codes share. -/
def plN (s t : ByteArray) : Nat → Int
  | 0 => 0
  | i + 1 => plN s t i + if bt s i = bt t i then 1 else 0
def ctN (s : ByteArray) (d : Int) : Nat → Int
  | 0 => 0
  | i + 1 => ctN s d i + if bt s i = d then 1 else 0
def lst (a b : Int) : Int := if a < b then a else b
def cmN (s t : ByteArray) (n : Nat) : Nat → Int
  | 0 => 0
  | m + 1 => cmN s t n m + lst (ctN s (48 + m) n) (ctN t (48 + m) n)
theorem plN_range (s t : ByteArray) : ∀ n, 0 ≤ plN s t n ∧ plN s t n ≤ n
  | 0 => by simp [plN]
  | n + 1 => by have := plN_range s t n; simp only [plN]; split <;> omega
theorem ctN_range (s : ByteArray) (d : Int) : ∀ n, 0 ≤ ctN s d n ∧ ctN s d n ≤ n
  | 0 => by simp [ctN]
  | n + 1 => by have := ctN_range s d n; simp only [ctN]; split <;> omega
theorem lst_range {a b : Int} {n : Nat} (h : 0 ≤ a ∧ a ≤ n) (k : 0 ≤ b ∧ b ≤ n) : 0 ≤ lst a b ∧ lst a b ≤ n := by
  unfold lst; split <;> omega
theorem cmN_range (s t : ByteArray) (n : Nat) : ∀ m, 0 ≤ cmN s t n m ∧ cmN s t n m ≤ n * m
  | 0 => by simp [cmN]
  | m + 1 => by
    have h := cmN_range s t n m
    have h2 := lst_range (ctN_range s (48 + m) n) (ctN_range t (48 + m) n)
    have : (n : Int) * ((m + 1 : Nat) : Int) = n * m + n := by rw [Int.natCast_succ, Int.mul_add, Int.mul_one]
    simp only [cmN]
    omega
/-- Texts of the same short length whose bytes are digits. -/
def hintB (a b : ByteArray) : Bool := decide (a.size = b.size ∧ 1 ≤ a.size ∧ a.size ≤ 6 ∧ (∀ i < a.size, 48 ≤ bt a (i : Nat) ∧ bt a (i : Nat) ≤ 57) ∧ (∀ i < b.size, 48 ≤ bt b (i : Nat) ∧ bt b (i : Nat) ≤ 57))
theorem hintB_iff {a b : ByteArray} : hintB a b = true ↔ (a.size = b.size ∧ 1 ≤ a.size ∧ a.size ≤ 6 ∧ (∀ i < a.size, 48 ≤ bt a (i : Nat) ∧ bt a (i : Nat) ≤ 57) ∧ (∀ i < b.size, 48 ≤ bt b (i : Nat) ∧ bt b (i : Nat) ≤ 57)) := by simp [hintB]
theorem bt_nat {a : ByteArray} {i : Nat} (h : i < a.size) : ((a[i]'h).toNat : Int) = bt a (i : Nat) := by simp [bt, h]
theorem beq_of (x y : Int) : (x == y) = decide (x = y) := by by_cases h : x = y <;> simp [h]
/-! Codes of a lock as texts, their digits, what clues tell of them. -/
def codeS (w d : Int) (s : ByteArray) : Prop := s.size = w.toNat ∧ ∀ i < s.size, 48 ≤ bt s (i : Nat) ∧ bt s (i : Nat) < 48 + d
def dg (s : ByteArray) : List Int := (List.range s.size).map fun i => bt s (i : Nat) - 48
theorem dg_length (s : ByteArray) : (dg s).length = s.size := by simp [dg]
theorem dg_at {s : ByteArray} {i : Nat} (h : i < s.size) : rd (dg s) (i : Nat) = bt s (i : Nat) - 48 := by
  rw [rd_at (by simpa [dg] using h)]; simp [dg]
theorem bt_textB {D : List Int} (h : ∀ x ∈ D, 0 ≤ x ∧ x < 10) {i : Nat} (hi : i < D.length) : bt (textB D) (i : Nat) = 48 + D[i] := by
  have hx := h D[i] (List.getElem_mem hi)
  have hs : (textB D).size = D.length := by unfold textB; rw [strOfNums_size, List.length_map]
  unfold bt
  rw [dif_pos (by rw [hs]; simpa using hi)]
  have e1 : ((textB D)[(i : Int).toNat]'(by rw [hs]; simpa using hi)) = UInt8.ofNat (wrap64 (48 + D[i]) % 256).toNat := by
    show (textB D).data[(i : Int).toNat]'_ = _
    have : (textB D).data = ((D.map fun x => wrap64 (48 + x) % 256).map fun n => UInt8.ofNat n.toNat).toArray := rfl
    simp [this]
  rw [e1, w64 (by omega) (by omega)]
  simp
  omega
theorem codeB_code {w d a : Int} (hl : lockB w d = true) : codeS w d (codeB w d a) := by
  obtain ⟨w1, w2, d1, d2⟩ := lockB_iff.mp hl
  have hs : (codeB w d a).size = w.toNat := by unfold codeB textB; rw [strOfNums_size, List.length_map, digs_length]
  refine ⟨hs, fun i hi => ?_⟩
  have hr := digs_range (d := d) (by omega) w.toNat a
  unfold codeB
  rw [bt_textB (fun x hx => by have := hr x hx; omega) (by rw [digs_length, ← hs]; exact hi)]
  have := hr _ (List.getElem_mem (by rw [digs_length, ← hs]; exact hi) : (digs d w.toNat a)[i]'(by rw [digs_length, ← hs]; exact hi) ∈ _)
  omega
def sumF : Int → List Int → Int
  | acc, [] => acc
  | acc, x :: xs => sumF (wrap64 (acc + x)) xs
def numF (d : Int) : Int → List Int → Int
  | acc, [] => acc
  | acc, x :: xs => numF d (wrap64 (wrap64 (acc * d) + x)) xs
def turnV (d x y : Int) : Int := Int.tmod (wrap64 (Int.tmod (wrap64 (y - x)) d + d)) d
def nearV (d x y : Int) : Int := lst (turnV d x y) (Int.tmod (wrap64 (d - turnV d x y)) d)
def distF (d : Int) (s t : ByteArray) : Nat → Int
  | 0 => 0
  | i + 1 => wrap64 (distF d s t i + nearV d (bt s (i : Nat)) (bt t (i : Nat)))
def valV (w d k a : Int) (s : ByteArray) : Int :=
  if k = 0 then bt s a - 48 else if k = 1 then sumF 0 (dg s) else if k = 2 then plN (codeB w d a) s w.toNat
  else if k = 3 then distF d (codeB w d a) s w.toNat else Int.tmod (numF d 0 (dg s)) a
def fitV (w d : Int) (c : Int × Int × Int) (s : ByteArray) : Bool := if c.1 = 1 then decide (valV w d 1 0 s = c.2.1) else decide (valV w d c.1 c.2.1 s = c.2.2)
theorem codeS_hint {w d : Int} {s t : ByteArray} (hl : lockB w d = true) (hs : codeS w d s) (ht : codeS w d t) : hintB s t = true := by
  obtain ⟨w1, w2, d1, d2⟩ := lockB_iff.mp hl
  have h1 := hs.1
  have h2 := ht.1
  refine hintB_iff.mpr ⟨by omega, by omega, by omega, fun i hi => ?_, fun i hi => ?_⟩
  · have := hs.2 i hi; omega
  · have := ht.2 i hi; omega
/-! A digit's sign. -/
theorem digB (n : Nat) (h : n < 10) : (UInt8.ofNat (48 + n)).toNat = 48 + n := by
  rw [UInt8.toNat_ofNat']
  omega
/-! Texts of digits: their sizes. -/
theorem strOfNums_app (a b : List Int) : strOfNums (a ++ b) = strOfNums a ++ strOfNums b := by
  apply ByteArray.ext
  simp [strOfNums, ByteArray.data_append]
theorem textB_app (a : List Int) (x : Int) : textB (a ++ [x]) = textB a ++ strOfNums [wrap64 (48 + x) % 256] := by
  unfold textB; rw [List.map_append, strOfNums_app]; rfl
theorem textB_size (l : List Int) : (textB l).size = l.length := by unfold textB; rw [strOfNums_size, List.length_map]
/-! Declarations moved out of LFnExactParsePins. -/
theorem textB_bytes {r : List Int} (h : ∀ x ∈ r, 0 ≤ x ∧ x < 10) : (textB r).data.toList = r.map (fun x => UInt8.ofNat (48 + x.toNat)) := by
  unfold textB strOfNums
  rw [List.toList_toArray, List.map_map]
  refine List.map_congr_left (fun x hx => ?_)
  have hx2 := h x hx
  have e : wrap64 (48 + x) % 256 = 48 + x := by rw [w64 (by omega) (by omega)]; omega
  show UInt8.ofNat (wrap64 (48 + x) % 256).toNat = _
  rw [e]
  congr 1
  omega
/-! ### impl_within: function 50 -/
def impl_within.f (a0 : Int) (a1 : Int) (a2 : Int) : Option (Bool) := if a1 ≤ a0 then (some (decide (a0 ≤ a2))) else (some false)
set_option maxHeartbeats 8000000 in
set_option maxRecDepth 100000 in
theorem impl_within.calls (a0 : Int) (a1 : Int) (a2 : Int) (r : Bool) (w : World) (h : impl_within.f a0 a1 a2 = some r) :
    Calls Tryz.prog 50 #[.int .i64 a0, .int .i64 a1, .int .i64 a2] w fun e w' => e = .returned (.bool r) ∧ Drawn0 w w' := by
  unfold impl_within.f at h; have H := h; clear h; replace H := iteE H; obtain ⟨c4b0, H⟩ | ⟨c4b0, H⟩ := H
  · obtain rfl := Option.some.inj H; go_enter Tryz.func50, Tryz.ntmps50; go_wp2; go_ret; exact ⟨rS_, dR_⟩
  · obtain rfl := Option.some.inj H; go_enter Tryz.func50, Tryz.ntmps50; go_wp2; go_ret; exact ⟨rS_, dR_⟩
/-! Between two numbers. -/
theorem spec_l1In.bs (a b c : Int) : spec_l1In.f a b c = some (decide (b ≤ a ∧ a ≤ c)) := by
  unfold spec_l1In.f
  by_cases h : b ≤ a
  · rw [if_pos h]; simp [h]
  · rw [if_neg h]; simp [h]
/-! ### spec_l1Read: function 78 -/
mutual
def spec_l1Read.j0 : Nat → ByteArray → Bool → Option (Int)
  | 0, _, _ => none
  | k + 1, x0, x18 => if x18 = true then (some (-1)) else (spec_l1Read.l0 k x0 0 0)
def spec_l1Read.l0 : Nat → ByteArray → Int → Int → Option (Int)
  | 0, _, _, _ => none
  | k + 1, x0, x3, x4 => if x4 < (x0.size : Int) then (if 0 ≤ x4 then (if (bt x0 x4) < 48 then (some (-1)) else (if (bt x0 x4) > 57 then (some (-1)) else (spec_l1Read.l0 k x0 (wrap64 ((wrap64 (10 * x3)) + (((bt x0 x4) - 48) % 256))) (wrap64 (x4 + 1))))) else (none)) else (some x3)
end
def spec_l1Read.f (k : Nat) (a0 : ByteArray) : Option (Int) := (spec_l1In.f (a0.size : Int) 1 6).bind fun t571 => (if t571 = true then (if 0 < (a0.size : Int) then (if (bt a0 0) = 48 then (spec_l1Read.j0 k a0 (decide ((a0.size : Int) > 1))) else (spec_l1Read.j0 k a0 false)) else (none)) else (spec_l1Read.j0 k a0 true))
set_option maxHeartbeats 8000000 in
set_option maxRecDepth 100000 in
theorem spec_l1Read.calls (k : Nat) (a0 : ByteArray) (r : Int) (w : World) (h : spec_l1Read.f k a0 = some r) :
    Calls Tryz.prog 78 #[.string a0] w fun e w' => e = .returned (.int .i64 r) ∧ Drawn0 w w' := by
  unfold spec_l1Read.f at h; have H := h; clear h; have HC2 := amk H; clear H; go_enter Tryz.func78, Tryz.ntmps78
  go_upto_region 1 with (fail)
  go_cut [18] (fun v18 wc => ∃ (kq : Nat) (x18_1 : Bool), v18 = .bool x18_1 ∧ Aside0 (spec_l1Read.j0 kq a0 x18_1 = some r) ∧ Aside0 (kq ≤ k) ∧ Drawn0 w wc)
  case first =>
    have H := HC2.out; clear HC2; replace H := bE H; obtain ⟨t571, A3, H⟩ := H; replace H := iteB H; obtain ⟨rfl, H⟩ | ⟨rfl, H⟩ := H
    · by_cases c5 : 0 < (a0.size : Int)
      · rw [if_pos c5] at H; have c5b0 : decide (0 < (a0.size : Int)) = true := decide_eq_true c5; have c5b1 : decide (0 < a0.size) = true := decide_eq_true (by omega); clear c5; (first | rw [c5b0] | (simp only [i64_w, i32_w]; rw [c5b0]) | skip)
        by_cases c7 : (bt a0 0) = 48
        · rw [if_pos c7] at H; have c7b0 : ((bt a0 0) == 48) = true := beq_iff_eq.mpr c7; have c7b1 : ((bt a0 0) != 48) = false := bne_eq_false_iff_eq.mpr c7; clear c7; have H' := amk H; clear H; go_wp2_with (first | ((with_reducible refine gate_callee (f := 81) rfl ?_); refine goesL_ (some 7) rfl rfl Tryz.func81 (by kernel_rfl) rfl #[.int .i64 (a0.size : Int), .int .i64 1, .int .i64 6] rfl gL_ ?_; (with_reducible refine (spec_l1In.calls (a0.size : Int) 1 6 true _ A3.out).mono ?_); rintro e w' ⟨rfl, ⟨nd, rfl⟩⟩; refine ⟨_, rfl, ?_⟩; have p6 : 0 ≤ (0 : Int) := (by omega); have q6 : 0 < a0.size := (by have : (0 : Int) < (a0.size : Int) := dA_; omega); have hx6 : ∀ h : 0 < a0.size, ((a0[0]'h).toNat : Int) = bt a0 0 := bt_at a0 0; clear p6; have qi6 : (0 < (a0.size : Int)) = True := eq_true (dA_); replace q6 := eq_true q6)); go_meet
          case rel => exact ⟨_, (decide ((a0.size : Int) > 1)), rS_, H', ⟨by first | omega | exact Nat.le_refl _⟩, dR_⟩
        · rw [if_neg c7] at H; have c7b0 : ((bt a0 0) == 48) = false := beq_eq_false_iff_ne.mpr c7; have c7b1 : ((bt a0 0) != 48) = true := bne_iff_ne.mpr c7; have H' := amk H; clear H; go_wp2_with (first | ((with_reducible refine gate_callee (f := 81) rfl ?_); refine goesL_ (some 7) rfl rfl Tryz.func81 (by kernel_rfl) rfl #[.int .i64 (a0.size : Int), .int .i64 1, .int .i64 6] rfl gL_ ?_; (with_reducible refine (spec_l1In.calls (a0.size : Int) 1 6 true _ A3.out).mono ?_); rintro e w' ⟨rfl, ⟨nd, rfl⟩⟩; refine ⟨_, rfl, ?_⟩; have p6 : 0 ≤ (0 : Int) := (by omega); have q6 : 0 < a0.size := (by have : (0 : Int) < (a0.size : Int) := dA_; omega); have hx6 : ∀ h : 0 < a0.size, ((a0[0]'h).toNat : Int) = bt a0 0 := bt_at a0 0; clear p6; have qi6 : (0 < (a0.size : Int)) = True := eq_true (dA_); replace q6 := eq_true q6)); go_meet
          case rel => exact ⟨_, (false), rS_, H', ⟨by first | omega | exact Nat.le_refl _⟩, dR_⟩
      · rw [if_neg c5] at H; exact absurd H (by simp)
    · have H' := amk H; clear H; go_wp2_with (first | ((with_reducible refine gate_callee (f := 81) rfl ?_); refine goesL_ (some 7) rfl rfl Tryz.func81 (by kernel_rfl) rfl #[.int .i64 (a0.size : Int), .int .i64 1, .int .i64 6] rfl gL_ ?_; (with_reducible refine (spec_l1In.calls (a0.size : Int) 1 6 false _ A3.out).mono ?_); rintro e w' ⟨rfl, ⟨nd, rfl⟩⟩; refine ⟨_, rfl, ?_⟩)); go_meet
      case rel => exact ⟨_, (true), rS_, H', ⟨by first | omega | exact Nat.le_refl _⟩, dR_⟩
  case rest =>
    clear HC2; (try clear p2); (try clear c4); (try clear c5); (try clear c5b0); (try clear c5b1); (try clear p6); (try clear q6); (try clear hx6); (try clear qi6); (try clear c7); (try clear c7b0); (try clear c7b1); (try clear p6); (try clear q6); obtain ⟨kq, x18_1, rfl, HA, HJ1, ⟨mc1, rfl⟩⟩ := hcut
    cases kq with
    | zero => exact absurd HA.out (by simp [spec_l1Read.j0])
    | succ kj1 =>
      have H := HA.out; clear HA; simp only [spec_l1Read.j0] at H; replace H := iteB H; obtain ⟨rfl, H⟩ | ⟨rfl, H⟩ := H
      · obtain rfl := Option.some.inj H; go_wp2; go_ret; exact ⟨rS_, dR_⟩
      · have H' := amk H; clear H; go_wp2
        go_loopg [3, 4] kj1 (fun kq v3 v4 w' => ∃ (x3_2 : Int) (x4_2 : Int), v3 = .int .i64 x3_2 ∧ v4 = .int .i64 x4_2 ∧ Aside0 (spec_l1Read.l0 kq a0 x3_2 x4_2 = some r) ∧ Aside0 (kq ≤ kj1) ∧ Drawn0 w w')
        case atStart => exact ⟨(0), (0), rS_, rS_, H', ⟨Nat.le_refl _⟩, dR_⟩
        case round =>
          clear H'; (try clear c1); (try clear p2); (try clear c4); (try clear c5); (try clear c5b0); (try clear c5b1); (try clear p6); (try clear q6); (try clear hx6); (try clear qi6); (try clear c7); (try clear c7b0); (try clear c7b1); (try clear c8); (try clear p2); (try clear p6); (try clear q6); obtain ⟨x3_2, x4_2, rfl, rfl, HA, HK2, ⟨m2, rfl⟩⟩ := hrel
          cases gk with
          | zero => exact absurd HA.out (by simp [spec_l1Read.l0])
          | succ k2 =>
            have H := HA.out; clear HA; simp only [spec_l1Read.l0] at H; replace H := iteE H; obtain ⟨c9b0, H⟩ | ⟨c9b0, H⟩ := H
            · replace H := iteN H; obtain ⟨c10b0, H⟩ := H; replace H := iteE H; obtain ⟨c12b0, H⟩ | ⟨c12b0, H⟩ := H
              · obtain rfl := Option.some.inj H; have p11 : 0 ≤ (x4_2 : Int) := dA_; have q11 : x4_2 < (a0.size : Int) := dA_; have hx11 := bt_at a0 x4_2; replace p11 := eq_true p11; replace q11 := eq_true q11; go_wp2; go_ret; exact ⟨rS_, dR_⟩
              · by_cases c14 : (bt a0 x4_2) > 57
                · rw [if_pos c14] at H; have c14b0 : decide (57 < (bt a0 x4_2)) = true := decide_eq_true c14; clear c14; obtain rfl := Option.some.inj H; have p11 : 0 ≤ (x4_2 : Int) := dA_; have q11 : x4_2 < (a0.size : Int) := dA_; have hx11 := bt_at a0 x4_2; replace p11 := eq_true p11; replace q11 := eq_true q11; have p13 : 0 ≤ (x4_2 : Int) := dA_; have q13 : x4_2 < (a0.size : Int) := dA_; have hx13 := bt_at a0 x4_2; replace p13 := eq_true p13; replace q13 := eq_true q13; go_wp2; go_ret; exact ⟨rS_, dR_⟩
                · rw [if_neg c14] at H; have c14b0 : decide (57 < (bt a0 x4_2)) = false := decide_eq_false c14; clear c14; have H' := amk H; clear H; have p11 : 0 ≤ (x4_2 : Int) := dA_; have q11 : x4_2 < (a0.size : Int) := dA_; have hx11 := bt_at a0 x4_2; replace p11 := eq_true p11; replace q11 := eq_true q11; have p13 : 0 ≤ (x4_2 : Int) := dA_; have q13 : x4_2 < (a0.size : Int) := dA_; have hx13 := bt_at a0 x4_2; replace p13 := eq_true p13; replace q13 := eq_true q13; have p15 : 0 ≤ (x4_2 : Int) := dA_; have q15 : x4_2 < (a0.size : Int) := dA_; have hx15 := bt_at a0 x4_2; replace p15 := eq_true p15; replace q15 := eq_true q15; go_wp2; go_roundg k2
                  case measure => have := HJ1.out; have := HK2.out; omega
                  case rel => exact ⟨(wrap64 ((wrap64 (10 * x3_2)) + (((bt a0 x4_2) - 48) % 256))), (wrap64 (x4_2 + 1)), rS_, rS_, H', ⟨by have := HJ1.out; have := HK2.out; omega⟩, dR_⟩
            · obtain rfl := Option.some.inj H; go_wp2; go_ret; exact ⟨rS_, dR_⟩
/-! Numbers of up to three digits, read back: the reference's l1Read, the library's Atoi. -/
def foldD (a : Int) (D : List Int) : Int := D.foldl (fun x y => 10 * x + y) a
def Dig (D : List Int) : Prop := ∀ x ∈ D, 0 ≤ x ∧ x < 10
theorem Dig.one {x : Int} (h0 : 0 ≤ x) (h : x < 10) : Dig [x] := fun y hy => by rw [List.mem_singleton.mp hy]; exact ⟨h0, h⟩
theorem Dig.snoc {D : List Int} {x : Int} (h : Dig D) (h0 : 0 ≤ x) (h1 : x < 10) : Dig (D ++ [x]) := fun y hy => by
  rcases List.mem_append.mp hy with hy | hy
  · exact h y hy
  · rw [List.mem_singleton.mp hy]; exact ⟨h0, h1⟩
theorem foldD_snoc (a : Int) (D : List Int) (x : Int) : foldD a (D ++ [x]) = 10 * foldD a D + x := by unfold foldD; rw [List.foldl_append]; rfl
theorem decB_text1 {n : Nat} (h : n < 10) : decB (n : Int) = textB [(n : Int)] := decB_one (by omega) (by omega)
theorem decB_digits {n : Nat} (h : n < 1000) : ∃ D, decB (n : Int) = textB D ∧ Dig D ∧ foldD 0 D = n ∧ 1 ≤ D.length ∧ D.length ≤ 3 ∧ (D.length > 1 → D.headD 0 ≠ 0) := by
  by_cases h1 : n < 10
  · exact ⟨[(n : Int)], decB_text1 h1, Dig.one (by omega) (by omega), by unfold foldD; simp, by simp, by simp, fun h => absurd h (by simp)⟩
  · by_cases h2 : n < 100
    · refine ⟨[((n / 10 : Nat) : Int)] ++ [((n % 10 : Nat) : Int)], ?_, Dig.snoc (Dig.one (by omega) (by omega)) (by omega) (by omega), ?_, by simp, by simp, fun _ => ?_⟩
      · rw [decB_step (by omega), decB_text1 (by omega), textB_app]
      · rw [foldD_snoc]; unfold foldD; simp; omega
      · simp; omega
    · refine ⟨([((n / 100 : Nat) : Int)] ++ [((n / 10 % 10 : Nat) : Int)]) ++ [((n % 10 : Nat) : Int)], ?_, Dig.snoc (Dig.snoc (Dig.one (by omega) (by omega)) (by omega) (by omega)) (by omega) (by omega), ?_, by simp, by simp, fun _ => ?_⟩
      · rw [decB_step (by omega), decB_step (n := n / 10) (by omega), show n / 10 / 10 = n / 100 by omega, decB_text1 (by omega), textB_app, textB_app]
      · rw [foldD_snoc, foldD_snoc]; unfold foldD; simp; omega
      · simp; omega
theorem spec_l1Read.levD (D : List Int) (hD : Dig D) (hl : D.length ≤ 6) : ∀ (m i : Nat) (a : Int), i + m = D.length → 0 ≤ a → a < 10 ^ (i + 1) → Ev (fun k => spec_l1Read.l0 k (textB D) a (i : Nat)) (foldD a (D.drop i)) := by
  intro m
  induction m with
  | zero =>
    intro i a hi h0 h1
    have hz := textB_size D
    refine Ev.step (fun k => rfl) (Ev.no (by omega) (Ev.id ?_))
    rw [List.drop_eq_nil_of_le (by omega)]; rfl
  | succ m ih =>
    intro i a hi h0 h1
    have hz := textB_size D
    have hlt : i < D.length := by omega
    have hx := hD D[i] (List.getElem_mem hlt)
    have hb := bt_textB (D := D) hD hlt
    have hp : (10 : Int) ^ (i + 1) ≤ 10 ^ 6 := pow_mono (by omega) (by omega)
    have ha : a < 1000000 := by
      have : (10 : Int) ^ 6 = 1000000 := by decide
      omega
    refine Ev.step (fun k => rfl) (Ev.yes (by omega) (Ev.yes (by omega) (Ev.no (by omega) (Ev.no (by omega) ?_))))
    have e : wrap64 ((wrap64 (10 * a)) + (((bt (textB D) (i : Nat)) - 48) % 256)) = 10 * a + D[i] := by
      rw [hb, w64 (x := 10 * a) (by omega) (by omega), w64 (by omega) (by omega)]; omega
    rw [e, show wrap64 ((i : Int) + 1) = ((i + 1 : Nat) : Int) from w64 (by omega) (by omega), List.drop_eq_getElem_cons hlt]
    exact ih (i + 1) (10 * a + D[i]) (by omega) (by omega) (by rw [Int.pow_succ]; omega)
theorem spec_l1Read.text {D : List Int} (hD : Dig D) (h1 : 1 ≤ D.length) (h3 : D.length ≤ 3) (hh : D.length > 1 → D.headD 0 ≠ 0) : Ev (fun k => spec_l1Read.f k (textB D)) (foldD 0 D) := by
  have hz := textB_size D
  have hb := bt_textB (D := D) hD (i := 0) (by omega)
  have hb : bt (textB D) 0 = 48 + D[0] := hb
  have hgo := spec_l1Read.levD D hD (by omega) D.length 0 0 (by omega) (by omega) (by decide)
  rw [List.drop_zero] at hgo
  have hgo : Ev (fun k => spec_l1Read.l0 k (textB D) 0 0) (foldD 0 D) := hgo
  have hd : D.headD 0 = D[0] := by
    cases D with
    | nil => simp at h1
    | cons x t => rfl
  unfold spec_l1Read.f
  refine Ev.bindc (spec_l1In.bs _ _ _) (Ev.yes (decide_eq_true (by omega)) (Ev.yes (by omega) ?_))
  by_cases c : bt (textB D) 0 = 48
  · have : ¬ (D.length > 1) := fun h => hh h (by omega)
    refine Ev.yes c (Ev.step (fun k => rfl) ?_)
    simp only [spec_l1Read.j0]
    exact Ev.no (by simp; omega) hgo
  · refine Ev.no c (Ev.step (fun k => rfl) ?_)
    simp only [spec_l1Read.j0]
    exact Ev.no (by simp) hgo
theorem spec_l1Read.num {n : Int} (h0 : 0 ≤ n) (h : n < 1000) : Ev (fun k => spec_l1Read.f k (decB n)) n := by
  obtain ⟨n, rfl⟩ := Int.eq_ofNat_of_zero_le h0
  obtain ⟨D, e, hD, hf, h1, h3, hh⟩ := decB_digits (n := n) (by omega)
  rw [e]
  refine Ev.eq (spec_l1Read.text hD h1 h3 hh) hf
theorem parse_text : ∀ (D : List Int) (a : Nat), Dig D → (a + 1) * 10 ^ D.length ≤ 10 ^ 9 → Lib.parseUint10 a ((textB D).data.toList) = .ok (foldD (a : Int) D).toNat
  | [], a, _, _ => by
    show Lib.parseUint10 a [] = _
    unfold Lib.parseUint10 foldD
    simp
  | x :: t, a, hD, ha => by
    have hx := hD x List.mem_cons_self
    have ht : Dig t := fun z hz => hD z (List.mem_cons_of_mem _ hz)
    have hpos : 1 ≤ 10 ^ (x :: t).length := Nat.pow_le_pow_right (n := 10) (by omega) (Nat.zero_le (x :: t).length)
    have h1 : a + 1 ≤ 10 ^ 9 := Nat.le_trans (Nat.le_mul_of_pos_right _ hpos) ha
    have h9 : (10 : Nat) ^ 9 = 1000000000 := by decide
    have hb := digB x.toNat (by omega)
    have ih := parse_text t (a * 10 + x.toNat) ht (by
      refine Nat.le_trans ?_ ha
      rw [List.length_cons, Nat.pow_succ, Nat.mul_comm (10 ^ t.length) 10, ← Nat.mul_assoc]
      exact Nat.mul_le_mul_right _ (by omega))
    have e : (textB (x :: t)).data.toList = UInt8.ofNat (48 + x.toNat) :: (textB t).data.toList := by
      rw [textB_bytes hD, textB_bytes ht]; rfl
    rw [e]
    generalize UInt8.ofNat (48 + x.toNat) = b at hb
    have e2 : Lib.parseUint10 a (b :: (textB t).data.toList) = if 48 ≤ b.toNat ∧ b.toNat ≤ 57 then (if 1844674407370955162 ≤ a then .range else if 18446744073709551616 ≤ a * 10 + (b.toNat - 48) then .range else Lib.parseUint10 (a * 10 + (b.toNat - 48)) (textB t).data.toList) else Lib.NumEnd.syntax := by
      conv => lhs; unfold Lib.parseUint10
    rw [e2, if_pos (by omega), if_neg (by omega), if_neg (by omega), show b.toNat - 48 = x.toNat by omega, ih]
    congr 2
    show foldD ((a * 10 + x.toNat : Nat) : Int) t = foldD (10 * (a : Int) + x) t
    congr 1
    omega
theorem atoiV_num {n : Int} (h0 : 0 ≤ n) (h : n < 1000) : atoiV (decB n) = n := by
  obtain ⟨n, rfl⟩ := Int.eq_ofNat_of_zero_le h0
  obtain ⟨D, e, hD, hf, h1, h3, hh⟩ := decB_digits (n := n) (by omega)
  refine atoiV_of ?_
  rw [e]
  have hp := parse_text D 0 hD (by
    have : (10 : Nat) ^ D.length ≤ 10 ^ 9 := Nat.pow_le_pow_right (by omega) (by omega)
    omega)
  rw [show ((0 : Nat) : Int) = 0 from rfl, hf, Int.toNat_natCast] at hp
  cases D with
  | nil => simp at h1
  | cons x t =>
    have hx := hD x List.mem_cons_self
    have hb := digB x.toNat (by omega)
    have e3 : (textB (x :: t)).data.toList = UInt8.ofNat (48 + x.toNat) :: t.map (fun x => UInt8.ofNat (48 + x.toNat)) := by
      rw [textB_bytes hD]; rfl
    rw [e3] at hp ⊢
    generalize UInt8.ofNat (48 + x.toNat) = b at hb hp
    generalize t.map (fun x => UInt8.ofNat (48 + x.toNat)) = r at hp
    have hm : Lib.parseMag (b :: r) = .ok n := by
      unfold Lib.parseMag
      rw [if_neg (by simp)]
      exact hp
    unfold Lib.atoiAll
    simp only
    rw [if_neg (by omega), hm]
    simp only
    rw [if_neg (by omega), if_neg (by omega), if_neg (by omega)]
/-! What is in a joined row. -/
theorem mem_join {sep : List UInt8} {b : UInt8} : ∀ (xs : List (List UInt8)), b ∈ Lib.join xs sep → b ∈ sep ∨ ∃ x ∈ xs, b ∈ x
  | [], h => by rw [Lib.join_nil] at h; cases h
  | x :: r, h => by
    rw [Lib.join_cons] at h
    rcases List.mem_append.mp h with h | h
    · exact .inr ⟨x, List.mem_cons_self, h⟩
    · unfold Lib.joinTail at h
      obtain ⟨l, hl, hb⟩ := List.mem_flatten.mp h
      obtain ⟨y, hy, rfl⟩ := List.mem_map.mp hl
      rcases List.mem_append.mp hb with hb | hb
      · exact .inl hb
      · exact .inr ⟨y, List.mem_cons_of_mem _ hy, hb⟩
/-! Texts of digits bear no other signs. -/
theorem textB_ne {r : List Int} (h : ∀ x ∈ r, 0 ≤ x ∧ x < 10) {c : UInt8} (hc : c.toNat < 48) : ∀ b ∈ (textB r).data.toList, b ≠ c := by
  rw [textB_bytes h]
  intro b hb e
  obtain ⟨x, hx, rfl⟩ := List.mem_map.mp hb
  have hx2 := h x hx
  have := digB x.toNat (by omega)
  rw [e] at this
  omega
theorem textB_ne2 {r : List Int} (h : ∀ x ∈ r, 0 ≤ x ∧ x < 10) {c : UInt8} (hc : 57 < c.toNat) : ∀ b ∈ (textB r).data.toList, b ≠ c := by
  rw [textB_bytes h]
  intro b hb e
  obtain ⟨x, hx, rfl⟩ := List.mem_map.mp hb
  have hx2 := h x hx
  have := digB x.toNat (by omega)
  rw [e] at this
  omega
/-! A clue read out of a list, by a natural number. -/
theorem rd_clueN {xs : List S45} {i : Nat} (h : i < xs.length) : rd_T45 xs (i : Nat) = xs[i] := by
  rw [rd_clue (by simpa using h)]; simp
/-! ### impl_lockText: function 65 -/
def impl_lockText.f (a0_0 : Int) (a0_1 : Int) : Option (ByteArray) := (strconv_Itoa.f a0_0).bind fun t437 => (if t437.size + 1 ≤ 9223372036854775807 then ((strconv_Itoa.f a0_1).bind fun t438 => (if (t437 ++ (⟨#[120]⟩ : ByteArray)).size + t438.size ≤ 9223372036854775807 then (some ((t437 ++ (⟨#[120]⟩ : ByteArray)) ++ t438)) else (none))) else (none))
def impl_lockText.T1 : Bool × List (List Nat × List Nat) := (true, [([], []), ([0], [0]), ([1], [1]), ([2], [2]), ([], []), ([4], [4]), ([5, 2], [5]), ([3, 6], [3, 6]), ([7, 6, 0, 1, 2, 3, 4, 5, 6, 7], [7])])
def impl_lockText.B1 : List Nat := [0, 1, 3, 7, 0, 16, 55, 127, 255]
theorem impl_lockText.tab1 : rtab .any (opsOf Tryz.f65 1) = impl_lockText.T1 := by kernel_rfl
theorem impl_lockText.bits1 : waitsOk impl_lockText.T1.2 impl_lockText.B1 = true := by kernel_rfl
set_option maxHeartbeats 8000000 in
set_option maxRecDepth 100000 in
theorem impl_lockText.calls (a0_0 : Int) (a0_1 : Int) (r : ByteArray) (w : World) (h : impl_lockText.f a0_0 a0_1 = some r) :
    Calls Tryz.prog 65 #[.agg #[.int .i64 a0_0, .int .i64 a0_1]] w fun e w' => e = .returned (.string r) ∧ Below w.heap.size w w' := by
  have hu23 := Tryz.underlying23; have HB := amk (Below.refl w.heap.size w); unfold impl_lockText.f at h; have H := h; clear h; replace H := bE H; obtain ⟨t437, A2, H⟩ := H
  by_cases c3 : t437.size + 1 ≤ 9223372036854775807
  · rw [if_pos c3] at H; have c3b0 := eq_true c3; have c3b1 : decide (t437.size + 1 ≤ 9223372036854775807) = true := decide_eq_true c3; (try have c3b2 : (9223372036854775807 < t437.size + 1) = False := eq_false (Nat.not_lt.2 c3)); replace H := bE H; obtain ⟨t438, A4, H⟩ := H
    by_cases c5 : (t437 ++ (⟨#[120]⟩ : ByteArray)).size + t438.size ≤ 9223372036854775807
    · rw [if_pos c5] at H; have c5b0 := eq_true c5; have c5b1 : decide ((t437 ++ (⟨#[120]⟩ : ByteArray)).size + t438.size ≤ 9223372036854775807) = true := decide_eq_true c5; (try have c5b2 : (9223372036854775807 < (t437 ++ (⟨#[120]⟩ : ByteArray)).size + t438.size) = False := eq_false (Nat.not_lt.2 c5)); (try have c5b3 : (9223372036854775807 < t437.size + 1 + t438.size) = False := eq_false (by have h9 := Nat.not_lt.2 c5; simp only [ByteArray.size_append] at h9; exact h9)); (try have c5b4 : decide (t437.size + 1 + t438.size ≤ 9223372036854775807) = true := decide_eq_true (by have h9 := c5; simp only [ByteArray.size_append] at h9; exact h9)); obtain rfl := Option.some.inj H; go_enter Tryz.func65, Tryz.ntmps65; (try go_wp2_with (first | ((with_reducible refine gate_dst (N := 1) rfl ?_); refine boxE_ HB 1 #[.int .i64 a0_0, .int .i64 a0_1] 23 ?_; clear HB; intro gb436 w6 HB BK436 GW436 GE436 hb; clear hb))); replace BK436 := amk (blk_drew BK436.out); replace HB := amk (bd_ HB.out); refine start_ (n := 9) (S := fun w' => w'.cell? ⟨gb436, 0, none⟩ = some (.int .i64 a0_0) ∧ w'.cell? ⟨gb436, 1, none⟩ = some (.int .i64 a0_1)) (ds := []) (bA 9 0) (by kernel_rfl) rfl rfl ⟨(blk_cell BK436.out 0).trans rfl, (blk_cell BK436.out 1).trans rfl⟩ (fun hHeld => ?_); refine with_tabW impl_lockText.tab1 impl_lockText.bits1 (fun HT_ HW_ => ?_); generalize w6.drew = w7 at BK436 HB hHeld ⊢; refine pU_ HT_ 0 (some 3) (bA 9 1) ?_; refine pU_ HT_ 4 (some 7) (bA 9 17) ?_; refine tK_ HT_ HW_ hHeld 1 (some 4) (bA 9 19) ?_; refine tK_ HT_ HW_ hHeld 5 (some 8) (bA 9 51) ?_; refine oN_ HT_ 2 (some 5) (bA 9 55) (fun K hK => ?_); refine goes_ Tryz.func64 (by kernel_rfl) rfl #[.int .i64 a0_0] (by rfl) rfl rfl gL_ ?_; (with_reducible refine (strconv_Itoa.calls a0_0 t437 _ A2.out).mono ?_); rintro e w8 ⟨rfl, hb⟩; refine ⟨_, rfl, ?_⟩; replace BK436 := kb2 BK436 hb; replace HB := hB2 HB hb; (try clear hb); refine hK.out _ _ hC_ (fun hHeld => ?_); clear hK K; refine nN_ (some 5) ?_; refine pU_ HT_ 3 (some 6) (bA 9 63) ?_; refine oN_ HT_ 6 (some 9) (bA 9 127) (fun K hK => ?_); refine goes_ Tryz.func64 (by kernel_rfl) rfl #[.int .i64 a0_1] (by rfl) rfl rfl gL_ ?_; (with_reducible refine (strconv_Itoa.calls a0_1 t438 _ A4.out).mono ?_); rintro e w9 ⟨rfl, hb⟩; refine ⟨_, rfl, ?_⟩; replace BK436 := kb2 BK436 hb; replace HB := hB2 HB hb; (try clear hb); refine hK.out _ _ hC_ (fun hHeld => ?_); clear hK K; refine nN_ (some 9) ?_; refine pU_ HT_ 7 (some 10) (bA 9 255) ?_; refine pU_ HT_ 8 (some 2) (bA 9 511) ?_; refine done_ (done_of HT_.out (by kernel_rfl)) ?_; (try go_wp2); go_ret; exact ⟨rF_, bB⟩
    · rw [if_neg c5] at H; exact absurd H (by simp)
  · rw [if_neg c3] at H; exact absurd H (by simp)
/-! ### impl_puzzleText: function 41 -/
def impl_puzzleText.l0 : Nat → List ByteArray → List (S45) → Int → Int → Int → Int → List (S45) → Option (ByteArray)
  | 0, _, _, _, _, _, _, _ => none
  | k + 1, x3, x8, x9, x10, x440000, x440001, x440002 => if x10 < x9 then (if 0 ≤ x10 then (if x10 < (x8.length : Int) then ((strconv_ItoaT.f ((rd_T45 x8 x10).f0)).bind fun t445 => (if t445.size + 1 ≤ 9223372036854775807 then ((strconv_ItoaT.f ((rd_T45 x8 x10).f1)).bind fun t446 => (if (t445 ++ (⟨#[46]⟩ : ByteArray)).size + t446.size ≤ 9223372036854775807 then (if ((t445 ++ (⟨#[46]⟩ : ByteArray)) ++ t446).size + 1 ≤ 9223372036854775807 then ((strconv_ItoaT.f ((rd_T45 x8 x10).f2)).bind fun t447 => (if (((t445 ++ (⟨#[46]⟩ : ByteArray)) ++ t446) ++ (⟨#[46]⟩ : ByteArray)).size + t447.size ≤ 9223372036854775807 then (if x3.length < 8796093022208 then (impl_puzzleText.l0 k (x3 ++ [(((t445 ++ (⟨#[46]⟩ : ByteArray)) ++ t446) ++ (⟨#[46]⟩ : ByteArray)) ++ t447]) x8 x9 (wrap64 (x10 + 1)) x440000 x440001 x440002) else (none)) else (none))) else (none)) else (none))) else (none))) else (none)) else (none)) else ((impl_lockText.f x440000 x440001).bind fun t451 => (if t451.size + 1 ≤ 9223372036854775807 then ((strings_Join.f x3 (⟨#[44]⟩ : ByteArray)).bind fun t452 => (if (t451 ++ (⟨#[58]⟩ : ByteArray)).size + t452.size ≤ 9223372036854775807 then (some ((t451 ++ (⟨#[58]⟩ : ByteArray)) ++ t452)) else (none))) else (none)))
def impl_puzzleText.f (k : Nat) (a0_0 : Int) (a0_1 : Int) (l0_2 : List (S45)) : Option (ByteArray) := impl_puzzleText.l0 k (([] : List ByteArray)) l0_2 (l0_2.length : Int) 0 a0_0 a0_1 l0_2
def impl_puzzleText.T5 : Bool × List (List Nat × List Nat) := (true, [([], []), ([], []), ([1], [1]), ([2], [2]), ([3], [3]), ([], []), ([5], [5]), ([6, 3], [6]), ([4, 7], [4, 7]), ([8], [8]), ([], []), ([10], [10]), ([11, 7], [11]), ([9, 12], [9, 12]), ([13], [13]), ([0, 14, 12], [0, 14]), ([15, 15, 0, 1, 2, 3, 4, 5, 6, 7, 8, 9, 10, 11, 12, 13, 14, 15], [0, 15])])
def impl_puzzleText.B5 : List Nat := [0, 0, 2, 6, 14, 0, 32, 110, 254, 510, 0, 1024, 3310, 8190, 16382, 32767, 65535]
theorem impl_puzzleText.tab5 : rtab .any (opsOf Tryz.f41 5) = impl_puzzleText.T5 := by kernel_rfl
theorem impl_puzzleText.bits5 : waitsOk impl_puzzleText.T5.2 impl_puzzleText.B5 = true := by kernel_rfl
set_option maxHeartbeats 8000000 in
set_option maxRecDepth 100000 in
theorem impl_puzzleText.calls (k : Nat) (a0_0 : Int) (a0_1 : Int) (A0_2 : Option Addr) (c0_2 : Nat) (l0_2 : List (S45)) (r : ByteArray) (w : World) (hr0_2 : Kd.C k45 w A0_2 l0_2.length l0_2) (hc0_2 : l0_2.length ≤ c0_2) (htp : TabP w) (h : impl_puzzleText.f k a0_0 a0_1 l0_2 = some r) :
    Calls Tryz.prog 41 #[.agg #[.int .i64 a0_0, .int .i64 a0_1, .slice A0_2 l0_2.length c0_2]] w fun e w' => e = .returned (.string r) ∧ Below w.heap.size w w' := by
  have HTP := amk htp; clear htp; have hu26 := Tryz.underlying26; have hu45 := Tryz.underlying45; have hu23 := Tryz.underlying23; have HR0_2 := amk hr0_2; have HC0_2 := amk hc0_2; clear hr0_2 hc0_2; have HB := amk (Below.refl w.heap.size w); unfold impl_puzzleText.f at h; have H := h; clear h; (try rw [Option.bind_some] at H); generalize hy440 : (([] : List ByteArray)) = y440 at H; have Ny440 := amk hy440.symm; clear hy440; have H' := amk H; clear H; go_enter Tryz.func41, Tryz.ntmps41; go_wp2_with (first | ((with_reducible refine gate_dst (N := 1) rfl ?_); refine boxE_ HB 1 #[.int .i64 a0_0, .int .i64 a0_1, .slice A0_2 l0_2.length c0_2] 26 ?_; clear HB; intro gb439 w2 HB BK439 GW439 GE439 hb; clear hb) | ((with_reducible refine gate_dst (N := 6) rfl ?_); refine Kd.R_lit Kd.string _ 9 ?hg (N := 6) ?hd (xs := ([] : List ByteArray)) (inner := []) (ok := fun _ => True) (okp := fun _ => True) ?hr ?hp (fun _ hk => hk) trivial (Below.refl _ _) (Nat.le_refl _) (by simp) ?_; (case hd => rfl); (case hg => rfl); (case hr => first | (go_simp; done) | (go_simp; rfl)); (case hp => exact (Reps.none _ _)); intro v441 w3 ho4 hb hg_ hnew_; clear hg_ hnew_; (first | rw [← Ny440.out] at ho4 | (simp only [Int.reduceToNat] at ho4; rw [← Ny440.out] at ho4)); have HO442 := amk (Kd.R_lower ho4 (below_size bB)); replace BK439 := kb2 BK439 hb; replace HB := hB2 HB hb; clear hb ho4; obtain ⟨hcz5_0, hcz5_1, hcz5_2, hfz5_0, hfz5_1, hfz5_2⟩ := cells3 BK439.out))
  go_loopg [3, 10] k (fun kq v3 v10 w' => ∃ (x3_1 : List ByteArray) (x10_1 : Int), v10 = .int .i64 x10_1 ∧ Aside0 (impl_puzzleText.l0 kq x3_1 l0_2 (l0_2.length : Int) x10_1 a0_0 a0_1 l0_2 = some r) ∧ Aside0 (kq ≤ k) ∧ Aside0 (Kd.R Kd.string 9 w' w.heap.size (fun _ => True) v3 x3_1) ∧ Aside0 (w'.heap[gb439]? = some (.cells #[.int .i64 a0_0, .int .i64 a0_1, (.slice A0_2 l0_2.length c0_2)] 26 (0, 0))) ∧ Aside0 (Below w.heap.size w w'))
  case atStart => exact ⟨(y440), (0), rS_, H', ⟨Nat.le_refl _⟩, ⟨oX HO442⟩, ⟨kB BK439⟩, ⟨bB⟩⟩
  case round =>
    clear H'; (try clear p2); (try clear c4); (try clear hcz5_0); (try clear hcz5_1); (try clear hcz5_2); (try clear hfz5_0); (try clear hfz5_1); (try clear hfz5_2); obtain ⟨x3_1, x10_1, rfl, HA, HK1, HO_3, BK439, HB⟩ := hrel
    cases gk with
    | zero => exact absurd HA.out (by simp [impl_puzzleText.l0])
    | succ k1 =>
      have H := HA.out; clear HA; simp only [impl_puzzleText.l0] at H; replace H := iteE H; obtain ⟨c6b0, H⟩ | ⟨c6b0, H⟩ := H
      · replace H := iteN H; obtain ⟨c7b0, H⟩ := H; replace H := iteN H; obtain ⟨c8b0, H⟩ := H; replace H := bE H; obtain ⟨t445, A9, H⟩ := H
        by_cases c10 : t445.size + 1 ≤ 9223372036854775807
        · rw [if_pos c10] at H; have c10b0 := eq_true c10; have c10b1 : decide (t445.size + 1 ≤ 9223372036854775807) = true := decide_eq_true c10; (try have c10b2 : (9223372036854775807 < t445.size + 1) = False := eq_false (Nat.not_lt.2 c10)); replace H := bE H; obtain ⟨t446, A11, H⟩ := H
          by_cases c12 : (t445 ++ (⟨#[46]⟩ : ByteArray)).size + t446.size ≤ 9223372036854775807
          · rw [if_pos c12] at H; have c12b0 := eq_true c12; have c12b1 : decide ((t445 ++ (⟨#[46]⟩ : ByteArray)).size + t446.size ≤ 9223372036854775807) = true := decide_eq_true c12; (try have c12b2 : (9223372036854775807 < (t445 ++ (⟨#[46]⟩ : ByteArray)).size + t446.size) = False := eq_false (Nat.not_lt.2 c12)); (try have c12b3 : (9223372036854775807 < t445.size + 1 + t446.size) = False := eq_false (by have h9 := Nat.not_lt.2 c12; simp only [ByteArray.size_append] at h9; exact h9)); (try have c12b4 : decide (t445.size + 1 + t446.size ≤ 9223372036854775807) = true := decide_eq_true (by have h9 := c12; simp only [ByteArray.size_append] at h9; exact h9))
            by_cases c13 : ((t445 ++ (⟨#[46]⟩ : ByteArray)) ++ t446).size + 1 ≤ 9223372036854775807
            · rw [if_pos c13] at H; have c13b0 := eq_true c13; have c13b1 : decide (((t445 ++ (⟨#[46]⟩ : ByteArray)) ++ t446).size + 1 ≤ 9223372036854775807) = true := decide_eq_true c13; (try have c13b2 : (9223372036854775807 < ((t445 ++ (⟨#[46]⟩ : ByteArray)) ++ t446).size + 1) = False := eq_false (Nat.not_lt.2 c13)); (try have c13b3 : (9223372036854775807 < t445.size + 1 + t446.size + 1) = False := eq_false (by have h9 := Nat.not_lt.2 c13; simp only [ByteArray.size_append] at h9; exact h9)); (try have c13b4 : decide (t445.size + 1 + t446.size + 1 ≤ 9223372036854775807) = true := decide_eq_true (by have h9 := c13; simp only [ByteArray.size_append] at h9; exact h9)); replace H := bE H; obtain ⟨t447, A14, H⟩ := H
              by_cases c15 : (((t445 ++ (⟨#[46]⟩ : ByteArray)) ++ t446) ++ (⟨#[46]⟩ : ByteArray)).size + t447.size ≤ 9223372036854775807
              · rw [if_pos c15] at H; have c15b0 := eq_true c15; have c15b1 : decide ((((t445 ++ (⟨#[46]⟩ : ByteArray)) ++ t446) ++ (⟨#[46]⟩ : ByteArray)).size + t447.size ≤ 9223372036854775807) = true := decide_eq_true c15; (try have c15b2 : (9223372036854775807 < (((t445 ++ (⟨#[46]⟩ : ByteArray)) ++ t446) ++ (⟨#[46]⟩ : ByteArray)).size + t447.size) = False := eq_false (Nat.not_lt.2 c15)); (try have c15b3 : (9223372036854775807 < t445.size + 1 + t446.size + 1 + t447.size) = False := eq_false (by have h9 := Nat.not_lt.2 c15; simp only [ByteArray.size_append] at h9; exact h9)); (try have c15b4 : decide (t445.size + 1 + t446.size + 1 + t447.size ≤ 9223372036854775807) = true := decide_eq_true (by have h9 := c15; simp only [ByteArray.size_append] at h9; exact h9))
                by_cases c16 : x3_1.length < 8796093022208
                · rw [if_pos c16] at H; have LMc16 := amk c16; clear c16; (try rw [Option.bind_some] at H); generalize hy448 : ((x3_1 ++ [(((t445 ++ (⟨#[46]⟩ : ByteArray)) ++ t446) ++ (⟨#[46]⟩ : ByteArray)) ++ t447]) : List ByteArray) = y448 at H; have Ny448 := amk hy448.symm; clear hy448; have H' := amk H; clear H; have p443 : 0 ≤ (x10_1 : Int) := dA_; have q443 : x10_1 < (l0_2.length : Int) := dA_; obtain ⟨ad443, e443, hx443_0, hx443_1, hx443_2⟩ := at_T45 HR0_2.out x10_1 p443 q443; cases e443; replace hx443_0 := (HB.out.cell (World.block_lt_of_cell? w _ hx443_0)).trans hx443_0; replace hx443_1 := (HB.out.cell (World.block_lt_of_cell? w _ hx443_1)).trans hx443_1; replace hx443_2 := (HB.out.cell (World.block_lt_of_cell? w _ hx443_2)).trans hx443_2; replace p443 := eq_true p443; replace q443 := eq_true q443; (try go_wp2_with (first | ((with_reducible refine gate_dst (N := 5) rfl ?_); refine boxG_ 5 #[.int .i64 0, .int .i64 0, .int .i64 0] 45 ?_; intro gb444 w17 hg BK444 hb; replace HO_3 := amk (Kd.R_below (oX HO_3) hb); have GW444 := sZ HB hg; have GE444 := sZ HB hg; replace HB := hB2 HB hb; have NB439_444 := neL BK439 hg; have NB444_439 := neR BK439 hg; replace BK439 := kb2 BK439 hb; clear hb hg; have hnb18 := NB444_439.out; have hnc18 := NB439_444.out; obtain ⟨hcz19_0, hcz19_1, hcz19_2, hfz19_0, hfz19_1, hfz19_2⟩ := cells3 BK444.out))); have n0_ : Aside0 (Kd.R Kd.string 9 (((w17.setCell ⟨gb444, 0, none⟩ (.int .i64 ((rd_T45 l0_2 x10_1).f0))).setCell ⟨gb444, 1, none⟩ (.int .i64 ((rd_T45 l0_2 x10_1).f1))).setCell ⟨gb444, 2, none⟩ (.int .i64 ((rd_T45 l0_2 x10_1).f2))) w.heap.size (fun _ => True) u3 x3_1) := ⟨by (with_reducible repeat (first | apply Kd.R_alloc | apply Kd.R_drewN | apply Kd.R_drew)); exact Kd.R_mono (Kd.R_far (p := ⟨gb444, 2, none⟩) (Kd.R_far (p := ⟨gb444, 1, none⟩) (Kd.R_far (p := ⟨gb444, 0, none⟩) (Kd.R_types HO_3.out BK444.out (by decide)) (fun _ hk => hk.2) (.int .i64 ((rd_T45 l0_2 x10_1).f0))) (fun _ hk => hk.2) (.int .i64 ((rd_T45 l0_2 x10_1).f1))) (fun _ hk => hk.2) (.int .i64 ((rd_T45 l0_2 x10_1).f2))) (fun _ hk => trivial)⟩; have n1_ : Aside0 ((((w17.setCell ⟨gb444, 0, none⟩ (.int .i64 ((rd_T45 l0_2 x10_1).f0))).setCell ⟨gb444, 1, none⟩ (.int .i64 ((rd_T45 l0_2 x10_1).f1))).setCell ⟨gb444, 2, none⟩ (.int .i64 ((rd_T45 l0_2 x10_1).f2))).heap[gb439]? = some (.cells #[.int .i64 a0_0, .int .i64 a0_1, .slice (some ad443) l0_2.length c0_2] 26 (0, 0))) := ⟨kB BK439⟩; have n2_ : Aside0 ((((w17.setCell ⟨gb444, 0, none⟩ (.int .i64 ((rd_T45 l0_2 x10_1).f0))).setCell ⟨gb444, 1, none⟩ (.int .i64 ((rd_T45 l0_2 x10_1).f1))).setCell ⟨gb444, 2, none⟩ (.int .i64 ((rd_T45 l0_2 x10_1).f2))).heap[gb444]? = some (.cells #[.int .i64 ((rd_T45 l0_2 x10_1).f0), .int .i64 ((rd_T45 l0_2 x10_1).f1), .int .i64 ((rd_T45 l0_2 x10_1).f2)] 45 (0, 0))) := ⟨kP BK444⟩; have n3_ : Aside0 (Below w.heap.size w (((w17.setCell ⟨gb444, 0, none⟩ (.int .i64 ((rd_T45 l0_2 x10_1).f0))).setCell ⟨gb444, 1, none⟩ (.int .i64 ((rd_T45 l0_2 x10_1).f1))).setCell ⟨gb444, 2, none⟩ (.int .i64 ((rd_T45 l0_2 x10_1).f2)))) := ⟨bB⟩; (try clear HO_3); (try clear BK439); (try clear BK444); (try clear HB); generalize (((w17.setCell ⟨gb444, 0, none⟩ (.int .i64 ((rd_T45 l0_2 x10_1).f0))).setCell ⟨gb444, 1, none⟩ (.int .i64 ((rd_T45 l0_2 x10_1).f1))).setCell ⟨gb444, 2, none⟩ (.int .i64 ((rd_T45 l0_2 x10_1).f2))) = w20 at n0_ n1_ n2_ n3_ ⊢; have HO_3 := n0_; have BK439 := n1_; have BK444 := n2_; have HB := n3_; clear n0_ n1_ n2_ n3_; replace HO_3 := amk (Kd.R_drew HO_3.out); replace BK439 := amk (blk_drew BK439.out); replace BK444 := amk (blk_drew BK444.out); replace HB := amk (bd_ HB.out); refine start_ (n := 17) (S := fun w' => w'.cell? ⟨gb444, 0, none⟩ = some (.int .i64 ((rd_T45 l0_2 x10_1).f0)) ∧ w'.cell? ⟨gb444, 1, none⟩ = some (.int .i64 ((rd_T45 l0_2 x10_1).f1)) ∧ w'.cell? ⟨gb444, 2, none⟩ = some (.int .i64 ((rd_T45 l0_2 x10_1).f2))) (ds := []) (bA 17 0) (by kernel_rfl) rfl rfl ⟨(blk_cell BK444.out 0).trans rfl, (blk_cell BK444.out 1).trans rfl, (blk_cell BK444.out 2).trans rfl⟩ (fun hHeld => ?_); refine with_tabW impl_puzzleText.tab5 impl_puzzleText.bits5 (fun HT_ HW_ => ?_); generalize w20.drew = w21 at HO_3 BK439 BK444 HB hHeld ⊢; refine pU_ HT_ 0 (some 14) (bA 17 1) ?_; refine pU_ HT_ 1 (some 15) (bA 17 3) ?_; refine pU_ HT_ 5 (some 19) (bA 17 35) ?_; refine pU_ HT_ 10 (some 24) (bA 17 1059) ?_; refine tK_ HT_ HW_ hHeld 2 (some 16) (bA 17 1063) ?_; refine tK_ HT_ HW_ hHeld 6 (some 20) (bA 17 1127) ?_; refine tK_ HT_ HW_ hHeld 11 (some 25) (bA 17 3175) ?_; refine oN_ HT_ 3 (some 17) (bA 17 3183) (fun K hK => ?_); refine goes_ Tryz.func64 (by kernel_rfl) rfl #[.int .i64 ((rd_T45 l0_2 x10_1).f0)] (by rfl) rfl rfl gL_ ?_; (with_reducible refine (strconv_ItoaT.calls ((rd_T45 l0_2 x10_1).f0) t445 _ ?sideT A9.out).mono ?_)
                  case sideT => exact (HTP.out.below bB)
                  rintro e w22 ⟨rfl, hb⟩; refine ⟨_, rfl, ?_⟩; replace HO_3 := amk (Kd.R_below (oX HO_3) hb); replace BK439 := kb2 BK439 hb; replace BK444 := kb2 BK444 hb; replace HB := hB2 HB hb; (try clear hb); refine hK.out _ _ hC_ (fun hHeld => ?_); clear hK K; refine nN_ (some 17) ?_; refine pU_ HT_ 4 (some 18) (bA 17 3199) ?_; refine oN_ HT_ 7 (some 21) (bA 17 3327) (fun K hK => ?_); refine goes_ Tryz.func64 (by kernel_rfl) rfl #[.int .i64 ((rd_T45 l0_2 x10_1).f1)] (by rfl) rfl rfl gL_ ?_; (with_reducible refine (strconv_ItoaT.calls ((rd_T45 l0_2 x10_1).f1) t446 _ ?sideT A11.out).mono ?_)
                  case sideT => exact (HTP.out.below bB)
                  rintro e w23 ⟨rfl, hb⟩; refine ⟨_, rfl, ?_⟩; replace HO_3 := amk (Kd.R_below (oX HO_3) hb); replace BK439 := kb2 BK439 hb; replace BK444 := kb2 BK444 hb; replace HB := hB2 HB hb; (try clear hb); refine hK.out _ _ hC_ (fun hHeld => ?_); clear hK K; refine nN_ (some 21) ?_; refine pU_ HT_ 8 (some 22) (bA 17 3583) ?_; refine pU_ HT_ 9 (some 23) (bA 17 4095) ?_; refine oN_ HT_ 12 (some 26) (bA 17 8191) (fun K hK => ?_); refine goes_ Tryz.func64 (by kernel_rfl) rfl #[.int .i64 ((rd_T45 l0_2 x10_1).f2)] (by rfl) rfl rfl gL_ ?_; (with_reducible refine (strconv_ItoaT.calls ((rd_T45 l0_2 x10_1).f2) t447 _ ?sideT A14.out).mono ?_)
                  case sideT => exact (HTP.out.below bB)
                  rintro e w24 ⟨rfl, hb⟩; refine ⟨_, rfl, ?_⟩; replace HO_3 := amk (Kd.R_below (oX HO_3) hb); replace BK439 := kb2 BK439 hb; replace BK444 := kb2 BK444 hb; replace HB := hB2 HB hb; (try clear hb); refine hK.out _ _ hC_ (fun hHeld => ?_); clear hK K; refine nN_ (some 26) ?_; refine pU_ HT_ 13 (some 27) (bA 17 16383) ?_; refine oN_ HT_ 14 (some 28) (bA 17 32767) (fun K hK => ?_); refine value_ (w1 := ?_) (v := ?_) (by rfl) rfl ?_ ?_; rotate_left 2
                  · go_simp
                    constructor
                    · rfl
                    · rfl
                  refine hK.out _ _ ⟨(blk_cell (ka_ BK444.out _) 0).trans rfl, (blk_cell (ka_ BK444.out _) 1).trans rfl, (blk_cell (ka_ BK444.out _) 2).trans rfl⟩ (fun hHeld => ?_); clear hK K; refine nN_ (some 28) ?_; refine oN_ HT_ 15 (some 29) (bA 17 65535) (fun K hK => ?_); refine Kd.R_append_step Kd.string (w0 := w) w.heap.size (by rfl) (.tmp 14) (.tmp 28) 27 9 (.string ⟨#[]⟩) 16 rfl Tryz.underlying27 info9 rfl (by decide) (by omega) u3 x3_1 ((((t445 ++ (⟨#[46]⟩ : ByteArray)) ++ t446) ++ (⟨#[46]⟩ : ByteArray)) ++ t447) [.string ((((t445 ++ (⟨#[46]⟩ : ByteArray)) ++ t446) ++ (⟨#[46]⟩ : ByteArray)) ++ t447)] (fun _ => True) (fun _ => False) rfl rfl ?aP (fun _ hk => hk.elim) ?aF ?aO ?aB ?aS ?aL ?_; (case aP => exact rfl); (case aB => exact bB); (case aF => exact (fun _ _ => trivial)); (case aO => exact (oX HO_3)); (case aS => exact (below_size bB)); (case aL => have := LMc16.out; omega); intro v449 w25 ho hb hg hat; rw [← Ny448.out] at ho; replace BK439 := bG BK439 hg (Kd.R_ne HO_3.out BK439.out (by decide)); replace BK444 := bG BK444 hg (Kd.R_ne HO_3.out BK444.out (by decide)); replace HB := amk (hb); have HO450 := amk (ho); clear HO_3; clear ho hb hg hat; refine hK.out _ _ hC_ (fun hHeld => ?_); clear hK K; refine nN_ (some 29) ?_; refine pU_ HT_ 16 (some 3) (bA 17 131071) ?_; refine done_ (done_of HT_.out (by kernel_rfl)) ?_; (try go_wp2); go_roundg k1
                  case measure => have := HK1.out; omega
                  case rel => exact ⟨(y448), (wrap64 (x10_1 + 1)), rS_, H', ⟨by have := HK1.out; omega⟩, ⟨oX HO450⟩, ⟨kB BK439⟩, ⟨bB⟩⟩
                · rw [if_neg c16] at H; exact absurd H (by simp)
              · rw [if_neg c15] at H; exact absurd H (by simp)
            · rw [if_neg c13] at H; exact absurd H (by simp)
          · rw [if_neg c12] at H; exact absurd H (by simp)
        · rw [if_neg c10] at H; exact absurd H (by simp)
      · replace H := bE H; obtain ⟨t451, A26, H⟩ := H
        by_cases c27 : t451.size + 1 ≤ 9223372036854775807
        · rw [if_pos c27] at H; have c27b0 := eq_true c27; have c27b1 : decide (t451.size + 1 ≤ 9223372036854775807) = true := decide_eq_true c27; (try have c27b2 : (9223372036854775807 < t451.size + 1) = False := eq_false (Nat.not_lt.2 c27)); replace H := bE H; obtain ⟨t452, A28, H⟩ := H
          by_cases c29 : (t451 ++ (⟨#[58]⟩ : ByteArray)).size + t452.size ≤ 9223372036854775807
          · rw [if_pos c29] at H; have c29b0 := eq_true c29; have c29b1 : decide ((t451 ++ (⟨#[58]⟩ : ByteArray)).size + t452.size ≤ 9223372036854775807) = true := decide_eq_true c29; (try have c29b2 : (9223372036854775807 < (t451 ++ (⟨#[58]⟩ : ByteArray)).size + t452.size) = False := eq_false (Nat.not_lt.2 c29)); (try have c29b3 : (9223372036854775807 < t451.size + 1 + t452.size) = False := eq_false (by have h9 := Nat.not_lt.2 c29; simp only [ByteArray.size_append] at h9; exact h9)); (try have c29b4 : decide (t451.size + 1 + t452.size ≤ 9223372036854775807) = true := decide_eq_true (by have h9 := c29; simp only [ByteArray.size_append] at h9; exact h9)); obtain rfl := Option.some.inj H; obtain ⟨hcz30_0, hcz30_1, hcz30_2, hfz30_0, hfz30_1, hfz30_2⟩ := cells3 BK439.out; go_wp2_with (first | ((with_reducible refine gate_callee (f := 65) rfl ?_); refine goesL_ (some 33) rfl rfl Tryz.func65 (by kernel_rfl) rfl #[.agg #[.int .i64 a0_0, .int .i64 a0_1]] rfl gL_ ?_; (with_reducible refine (impl_lockText.calls a0_0 a0_1 t451 _ A26.out).mono ?_); rintro e w31 ⟨rfl, hb⟩; refine ⟨_, rfl, ?_⟩; replace HO_3 := amk (Kd.R_below (oX HO_3) hb); replace BK439 := kb2 BK439 hb; replace HB := hB2 HB hb; (try clear hb); obtain ⟨Ao32, co32, eo32⟩ := Kd.R_slice HO_3.out; subst eo32) | ((with_reducible refine gate_callee (f := 66) rfl ?_); refine goesL_ (some 36) rfl rfl Tryz.func66 (by kernel_rfl) rfl #[.slice Ao32 x3_1.length co32, .string (⟨#[44]⟩ : ByteArray)] rfl gL_ ?_; (with_reducible refine (strings_Join.calls _ _ x3_1 (⟨#[44]⟩ : ByteArray) t452 _ ?_ ?_ A28.out).mono ?_); exact cB ((Kd.R_reads' HO_3.out).2.2); exact (Kd.R_reads' HO_3.out).2.1; rintro e w33 ⟨rfl, hb⟩; refine ⟨_, rfl, ?_⟩; replace HO_3 := amk (Kd.R_below (oX HO_3) hb); replace BK439 := kb2 BK439 hb; replace HB := hB2 HB hb; (try clear hb))); go_ret; exact ⟨rF_, bB⟩
          · rw [if_neg c29] at H; exact absurd H (by simp)
        · rw [if_neg c27] at H; exact absurd H (by simp)
/-! ### impl_IsLock: function 47 -/
def impl_IsLock.f (a0_0 : Int) (a0_1 : Int) : Option (Bool) := (impl_within.f a0_0 1 6).bind fun t104 => (if t104 = true then ((impl_within.f a0_1 2 10).bind fun t105 => (some t105)) else (some false))
set_option maxHeartbeats 8000000 in
set_option maxRecDepth 100000 in
theorem impl_IsLock.calls (a0_0 : Int) (a0_1 : Int) (r : Bool) (w : World) (h : impl_IsLock.f a0_0 a0_1 = some r) :
    Calls Tryz.prog 47 #[.agg #[.int .i64 a0_0, .int .i64 a0_1]] w fun e w' => e = .returned (.bool r) ∧ Below w.heap.size w w' := by
  have hu23 := Tryz.underlying23; have HB := amk (Below.refl w.heap.size w); unfold impl_IsLock.f at h; have H := h; clear h; replace H := bE H; obtain ⟨t104, A2, H⟩ := H; replace H := iteB H; obtain ⟨rfl, H⟩ | ⟨rfl, H⟩ := H
  · replace H := bE H; obtain ⟨t105, A4, H⟩ := H; obtain rfl := Option.some.inj H; go_enter Tryz.func47, Tryz.ntmps47; go_wp2_with (first | ((with_reducible refine gate_dst (N := 1) rfl ?_); refine boxE_ HB 1 #[.int .i64 a0_0, .int .i64 a0_1] 23 ?_; clear HB; intro gb103 w5 HB BK103 GW103 GE103 hb; clear hb; obtain ⟨hcz6_0, hcz6_1, hfz6_0, hfz6_1⟩ := cells2 BK103.out) | ((with_reducible refine gate_callee (f := 50) rfl ?_); refine goesL_ (some 5) rfl rfl Tryz.func50 (by kernel_rfl) rfl #[.int .i64 a0_0, .int .i64 1, .int .i64 6] rfl gL_ ?_; (with_reducible refine (impl_within.calls a0_0 1 6 true _ A2.out).mono ?_); rintro e w' ⟨rfl, ⟨nd, rfl⟩⟩; refine ⟨_, rfl, ?_⟩) | (go_at_call 50; (with_reducible refine (impl_within.calls a0_1 2 10 t105 _ A4.out).mono ?_); rintro e w' ⟨rfl, ⟨nd, rfl⟩⟩)); go_ret; exact ⟨rF_, bB⟩
  · obtain rfl := Option.some.inj H; go_enter Tryz.func47, Tryz.ntmps47; go_wp2_with (first | ((with_reducible refine gate_dst (N := 1) rfl ?_); refine boxE_ HB 1 #[.int .i64 a0_0, .int .i64 a0_1] 23 ?_; clear HB; intro gb103 w7 HB BK103 GW103 GE103 hb; clear hb; obtain ⟨hcz8_0, hcz8_1, hfz8_0, hfz8_1⟩ := cells2 BK103.out) | ((with_reducible refine gate_callee (f := 50) rfl ?_); refine goesL_ (some 5) rfl rfl Tryz.func50 (by kernel_rfl) rfl #[.int .i64 a0_0, .int .i64 1, .int .i64 6] rfl gL_ ?_; (with_reducible refine (impl_within.calls a0_0 1 6 false _ A2.out).mono ?_); rintro e w' ⟨rfl, ⟨nd, rfl⟩⟩; refine ⟨_, rfl, ?_⟩)); go_ret; exact ⟨rF_, bB⟩
/-! ### impl_power: function 63 -/
def impl_power.l0 : Nat → Int → Int → Int → Int → Option (Int)
  | 0, _, _, _, _ => none
  | k + 1, x0, x5, x6, x7 => if x7 < x6 then (impl_power.l0 k x0 (wrap64 (x5 * x0)) x6 (wrap64 (x7 + 1))) else (some x5)
def impl_power.f (k : Nat) (a0 : Int) (a1 : Int) : Option (Int) := impl_power.l0 k a0 1 a1 0
set_option maxHeartbeats 8000000 in
set_option maxRecDepth 100000 in
theorem impl_power.calls (k : Nat) (a0 : Int) (a1 : Int) (r : Int) (w : World) (h : impl_power.f k a0 a1 = some r) :
    Calls Tryz.prog 63 #[.int .i64 a0, .int .i64 a1] w fun e w' => e = .returned (.int .i64 r) ∧ Drawn0 w w' := by
  unfold impl_power.f at h; have H := h; clear h; have H' := amk H; clear H; go_enter Tryz.func63, Tryz.ntmps63; go_wp2
  go_loopg [5, 7] k (fun kq v5 v7 w' => ∃ (x5_1 : Int) (x7_1 : Int), v5 = .int .i64 x5_1 ∧ v7 = .int .i64 x7_1 ∧ Aside0 (impl_power.l0 kq a0 x5_1 a1 x7_1 = some r) ∧ Aside0 (kq ≤ k) ∧ Drawn0 w w')
  case atStart => exact ⟨(1), (0), rS_, rS_, H', ⟨Nat.le_refl _⟩, dR_⟩
  case round =>
    clear H'; (try clear p2); obtain ⟨x5_1, x7_1, rfl, rfl, HA, HK1, ⟨m1, rfl⟩⟩ := hrel
    cases gk with
    | zero => exact absurd HA.out (by simp [impl_power.l0])
    | succ k1 =>
      have H := HA.out; clear HA; simp only [impl_power.l0] at H; replace H := iteE H; obtain ⟨c3b0, H⟩ | ⟨c3b0, H⟩ := H
      · have H' := amk H; clear H; go_wp2; go_roundg k1
        case measure => have := HK1.out; omega
        case rel => exact ⟨(wrap64 (x5_1 * a0)), (wrap64 (x7_1 + 1)), rS_, rS_, H', ⟨by have := HK1.out; omega⟩, dR_⟩
      · obtain rfl := Option.some.inj H; go_wp2; go_ret; exact ⟨rS_, dR_⟩
/-! ### impl_Lock_count: function 40 -/
def impl_Lock_count.f (k : Nat) (a0_0 : Int) (a0_1 : Int) : Option (Int) := (impl_power.f k a0_1 a0_0).bind fun t102 => (some t102)
set_option maxHeartbeats 8000000 in
set_option maxRecDepth 100000 in
theorem impl_Lock_count.calls (k : Nat) (a0_0 : Int) (a0_1 : Int) (r : Int) (w : World) (h : impl_Lock_count.f k a0_0 a0_1 = some r) :
    Calls Tryz.prog 40 #[.agg #[.int .i64 a0_0, .int .i64 a0_1]] w fun e w' => e = .returned (.int .i64 r) ∧ Below w.heap.size w w' := by
  have hu23 := Tryz.underlying23; have HB := amk (Below.refl w.heap.size w); unfold impl_Lock_count.f at h; have H := h; clear h; replace H := bE H; obtain ⟨t102, A2, H⟩ := H; obtain rfl := Option.some.inj H; go_enter Tryz.func40, Tryz.ntmps40; go_wp2_with (first | ((with_reducible refine gate_dst (N := 1) rfl ?_); refine boxE_ HB 1 #[.int .i64 a0_0, .int .i64 a0_1] 23 ?_; clear HB; intro gb101 w3 HB BK101 GW101 GE101 hb; clear hb; obtain ⟨hcz4_0, hcz4_1, hfz4_0, hfz4_1⟩ := cells2 BK101.out) | ((with_reducible refine gate_callee (f := 63) rfl ?_); refine goesL_ (some 7) rfl rfl Tryz.func63 (by kernel_rfl) rfl #[.int .i64 a0_1, .int .i64 a0_0] rfl gL_ ?_; (with_reducible refine (impl_power.calls k a0_1 a0_0 t102 _ A2.out).mono ?_); rintro e w' ⟨rfl, ⟨nd, rfl⟩⟩; refine ⟨_, rfl, ?_⟩)); go_ret; exact ⟨rF_, bB⟩
/-! ### impl_isSmall: function 68 -/
def impl_isSmall.f (k : Nat) (a0_0 : Int) (a0_1 : Int) (a1 : Int) : Option (Bool) := (impl_IsLock.f a0_0 a0_1).bind fun t107 => (if t107 = true then ((impl_Lock_count.f k a0_0 a0_1).bind fun t108 => (some (decide (t108 ≤ a1)))) else (some false))
set_option maxHeartbeats 8000000 in
set_option maxRecDepth 100000 in
theorem impl_isSmall.calls (k : Nat) (a0_0 : Int) (a0_1 : Int) (a1 : Int) (r : Bool) (w : World) (h : impl_isSmall.f k a0_0 a0_1 a1 = some r) :
    Calls Tryz.prog 68 #[.agg #[.int .i64 a0_0, .int .i64 a0_1], .int .i64 a1] w fun e w' => e = .returned (.bool r) ∧ Below w.heap.size w w' := by
  have hu23 := Tryz.underlying23; have HB := amk (Below.refl w.heap.size w); unfold impl_isSmall.f at h; have H := h; clear h; replace H := bE H; obtain ⟨t107, A3, H⟩ := H; replace H := iteB H; obtain ⟨rfl, H⟩ | ⟨rfl, H⟩ := H
  · replace H := bE H; obtain ⟨t108, A5, H⟩ := H; obtain rfl := Option.some.inj H; go_enter Tryz.func68, Tryz.ntmps68; go_wp2_with (first | ((with_reducible refine gate_dst (N := 2) rfl ?_); refine boxE_ HB 2 #[.int .i64 a0_0, .int .i64 a0_1] 23 ?_; clear HB; intro gb106 w6 HB BK106 GW106 GE106 hb; clear hb; obtain ⟨hcz7_0, hcz7_1, hfz7_0, hfz7_1⟩ := cells2 BK106.out) | ((with_reducible refine gate_callee (f := 47) rfl ?_); refine goesL_ (some 6) rfl rfl Tryz.func47 (by kernel_rfl) rfl #[.agg #[.int .i64 a0_0, .int .i64 a0_1]] rfl gL_ ?_; (with_reducible refine (impl_IsLock.calls a0_0 a0_1 true _ A3.out).mono ?_); rintro e w8 ⟨rfl, hb⟩; refine ⟨_, rfl, ?_⟩; replace BK106 := kb2 BK106 hb; replace HB := hB2 HB hb; (try clear hb); obtain ⟨hcz9_0, hcz9_1, hfz9_0, hfz9_1⟩ := cells2 BK106.out) | (go_at_call 40; (with_reducible refine (impl_Lock_count.calls k a0_0 a0_1 t108 _ A5.out).mono ?_); rintro e w10 ⟨rfl, hb⟩; replace BK106 := kb2 BK106 hb; replace HB := hB2 HB hb; (try clear hb))); go_ret; exact ⟨rF_, bB⟩
  · obtain rfl := Option.some.inj H; go_enter Tryz.func68, Tryz.ntmps68; go_wp2_with (first | ((with_reducible refine gate_dst (N := 2) rfl ?_); refine boxE_ HB 2 #[.int .i64 a0_0, .int .i64 a0_1] 23 ?_; clear HB; intro gb106 w11 HB BK106 GW106 GE106 hb; clear hb; obtain ⟨hcz12_0, hcz12_1, hfz12_0, hfz12_1⟩ := cells2 BK106.out) | ((with_reducible refine gate_callee (f := 47) rfl ?_); refine goesL_ (some 6) rfl rfl Tryz.func47 (by kernel_rfl) rfl #[.agg #[.int .i64 a0_0, .int .i64 a0_1]] rfl gL_ ?_; (with_reducible refine (impl_IsLock.calls a0_0 a0_1 false _ A3.out).mono ?_); rintro e w13 ⟨rfl, hb⟩; refine ⟨_, rfl, ?_⟩; replace BK106 := kb2 BK106 hb; replace HB := hB2 HB hb; (try clear hb))); go_ret; exact ⟨rF_, bB⟩
/-! impl's functions on locks: what they come to. -/
theorem impl_within.is (a b c : Int) : impl_within.f a b c = some (decide (b ≤ a ∧ a ≤ c)) := by
  unfold impl_within.f
  by_cases h : b ≤ a
  · rw [if_pos h]; congr 1; simp [h]
  · rw [if_neg h]; congr 1; simp [h]
theorem impl_IsLock.is (w d : Int) : impl_IsLock.f w d = some (lockB w d) := by
  unfold impl_IsLock.f lockB
  simp only [impl_within.is, Option.bind_some]
  by_cases h : 1 ≤ w ∧ w ≤ 6 <;> simp [h]
theorem impl_power.lev (d : Int) (h1 : 1 ≤ d) (h2 : d ≤ 10) (n : Int) (hn : n ≤ 6) : ∀ (j : Nat) (i : Int), 0 ≤ i → i ≤ n → n - i = j → Ev (fun k => impl_power.l0 k d (d ^ i.toNat) n i) (d ^ n.toNat) := by
  intro j
  induction j with
  | zero =>
    intro i h0 hi hj
    obtain rfl : i = n := by omega
    exact Ev.step (fun k => rfl) (Ev.no (by omega) (Ev.now _))
  | succ j ih =>
    intro i h0 hi hj
    refine Ev.step (fun k => rfl) (Ev.yes (by omega) ?_)
    have hb := pow_bound h1 h2 (n := i.toNat) (by omega)
    have hm : d ^ i.toNat * d = d ^ (i + 1).toNat := by rw [show (i + 1).toNat = i.toNat + 1 by omega, Int.pow_succ]
    have hb' := pow_bound h1 h2 (n := (i + 1).toNat) (by omega)
    rw [w64 (x := i + 1) (by omega) (by omega), hm, w64 (x := d ^ (i + 1).toNat) (by omega) (by omega)]
    exact ih (i + 1) (by omega) (by omega) (by omega)
theorem impl_power.ev {d n : Int} (h1 : 1 ≤ d) (h2 : d ≤ 10) (h0 : 0 ≤ n) (hn : n ≤ 6) : Ev (fun k => impl_power.f k d n) (d ^ n.toNat) := by
  have := impl_power.lev d h1 h2 n hn n.toNat 0 (by omega) (by omega) (by omega)
  unfold impl_power.f
  simpa using this
theorem impl_Lock_count.ev {w d : Int} (h : lockB w d = true) : Ev (fun k => impl_Lock_count.f k w d) (d ^ w.toNat) := by
  obtain ⟨a, b, c, e⟩ := lockB_iff.mp h
  unfold impl_Lock_count.f
  exact Ev.bind (impl_power.ev (by omega) e (by omega) b) (Ev.now _)
theorem impl_isSmall.ev (w d m : Int) : Ev (fun k => impl_isSmall.f k w d m) (smallB w d m) := by
  unfold impl_isSmall.f smallB
  refine Ev.bindc (impl_IsLock.is w d) ?_
  cases h : lockB w d with
  | true => exact Ev.yes rfl (Ev.bind (impl_Lock_count.ev h) (Ev.id (by simp)))
  | false => exact Ev.no (by simp) (Ev.id (by simp))
/-! ### impl_isHidden: function 43 -/
def impl_isHidden.f (k : Nat) (a0_0 : Int) (a0_1 : Int) : Option (Bool) := (impl_isSmall.f k a0_0 a0_1 125).bind fun t110 => (some t110)
set_option maxHeartbeats 8000000 in
set_option maxRecDepth 100000 in
theorem impl_isHidden.calls (k : Nat) (a0_0 : Int) (a0_1 : Int) (r : Bool) (w : World) (h : impl_isHidden.f k a0_0 a0_1 = some r) :
    Calls Tryz.prog 43 #[.agg #[.int .i64 a0_0, .int .i64 a0_1]] w fun e w' => e = .returned (.bool r) ∧ Below w.heap.size w w' := by
  have hu23 := Tryz.underlying23; have HB := amk (Below.refl w.heap.size w); unfold impl_isHidden.f at h; have H := h; clear h; replace H := bE H; obtain ⟨t110, A2, H⟩ := H; obtain rfl := Option.some.inj H; go_enter Tryz.func43, Tryz.ntmps43; go_wp2_with (first | ((with_reducible refine gate_dst (N := 1) rfl ?_); refine boxE_ HB 1 #[.int .i64 a0_0, .int .i64 a0_1] 23 ?_; clear HB; intro gb109 w3 HB BK109 GW109 GE109 hb; clear hb; obtain ⟨hcz4_0, hcz4_1, hfz4_0, hfz4_1⟩ := cells2 BK109.out) | ((with_reducible refine gate_callee (f := 68) rfl ?_); refine goesL_ (some 4) rfl rfl Tryz.func68 (by kernel_rfl) rfl #[.agg #[.int .i64 a0_0, .int .i64 a0_1], .int .i64 125] rfl gL_ ?_; (with_reducible refine (impl_isSmall.calls k a0_0 a0_1 125 t110 _ A2.out).mono ?_); rintro e w5 ⟨rfl, hb⟩; refine ⟨_, rfl, ?_⟩; replace BK109 := kb2 BK109 hb; replace HB := hB2 HB hb; (try clear hb))); go_ret; exact ⟨rF_, bB⟩
/-! ### impl_IsClue: function 46 -/
def impl_IsClue.f (k : Nat) (a0_0 : Int) (a0_1 : Int) (a1_0 : Int) (a1_1 : Int) (a1_2 : Int) : Option (Bool) := (impl_isHidden.f k a0_0 a0_1).bind fun t272 => (if t272 = true then (if a1_0 = 0 then ((impl_within.f a1_1 0 (wrap64 (a0_0 - 1))).bind fun t273 => (if t273 = true then ((impl_within.f a1_2 0 (wrap64 (a0_1 - 1))).bind fun t274 => (some t274)) else (some false))) else (if a1_0 = 1 then ((impl_within.f a1_1 0 60).bind fun t275 => (if t275 = true then (some (a1_2 == 0)) else (some false))) else (if a1_0 = 2 then ((impl_Lock_count.f k a0_0 a0_1).bind fun t276 => ((impl_within.f a1_1 0 (wrap64 (t276 - 1))).bind fun t277 => (if t277 = true then ((impl_within.f a1_2 0 a0_0).bind fun t278 => (some t278)) else (some false)))) else (if a1_0 = 3 then ((impl_Lock_count.f k a0_0 a0_1).bind fun t279 => ((impl_within.f a1_1 0 (wrap64 (t279 - 1))).bind fun t280 => (if t280 = true then ((impl_within.f a1_2 0 60).bind fun t281 => (some t281)) else (some false)))) else (if a1_0 = 4 then ((impl_within.f a1_1 2 9).bind fun t282 => (if t282 = true then ((impl_within.f a1_2 0 (wrap64 (a1_1 - 1))).bind fun t283 => (some t283)) else (some false))) else (some false)))))) else (some false))
def impl_IsClue.T9 : Bool × List (List Nat × List Nat) := (true, [([], []), ([0], [0]), ([], []), ([2], [2]), ([3], [3]), ([1, 4, 3], [1, 4]), ([5, 5], [5]), ([6], [6]), ([7, 6], [6, 7]), ([6], [6]), ([9, 6], [6, 9]), ([8, 10, 6, 6], [6, 8, 10]), ([6, 11], [6, 11]), ([12, 11, 0, 1, 2, 3, 4, 5, 6, 7, 8, 9, 10, 11, 12], [12])])
def impl_IsClue.B9 : List Nat := [0, 1, 0, 4, 12, 31, 63, 127, 255, 127, 639, 2047, 4095, 8191]
theorem impl_IsClue.tab9 : rtab .any (opsOf Tryz.f46 9) = impl_IsClue.T9 := by kernel_rfl
theorem impl_IsClue.bits9 : waitsOk impl_IsClue.T9.2 impl_IsClue.B9 = true := by kernel_rfl
def impl_IsClue.T11 : Bool × List (List Nat × List Nat) := (true, [([], []), ([0], [0]), ([], []), ([2], [2]), ([3], [3]), ([1, 4, 3], [1, 4]), ([5, 5], [5]), ([6], [6]), ([7, 6], [6, 7]), ([8, 6, 6], [6, 8]), ([6, 9], [6, 9]), ([10, 9, 0, 1, 2, 3, 4, 5, 6, 7, 8, 9, 10], [10])])
def impl_IsClue.B11 : List Nat := [0, 1, 0, 4, 12, 31, 63, 127, 255, 511, 1023, 2047]
theorem impl_IsClue.tab11 : rtab .any (opsOf Tryz.f46 11) = impl_IsClue.T11 := by kernel_rfl
theorem impl_IsClue.bits11 : waitsOk impl_IsClue.T11.2 impl_IsClue.B11 = true := by kernel_rfl
set_option maxHeartbeats 8000000 in
set_option maxRecDepth 100000 in
theorem impl_IsClue.calls (k : Nat) (a0_0 : Int) (a0_1 : Int) (a1_0 : Int) (a1_1 : Int) (a1_2 : Int) (r : Bool) (w : World) (h : impl_IsClue.f k a0_0 a0_1 a1_0 a1_1 a1_2 = some r) :
    Calls Tryz.prog 46 #[.agg #[.int .i64 a0_0, .int .i64 a0_1], .agg #[.int .i64 a1_0, .int .i64 a1_1, .int .i64 a1_2]] w fun e w' => e = .returned (.bool r) ∧ Below w.heap.size w w' := by
  have hu23 := Tryz.underlying23; have hu45 := Tryz.underlying45; have HB := amk (Below.refl w.heap.size w); unfold impl_IsClue.f at h; have H := h; clear h; replace H := bE H; obtain ⟨t272, A3, H⟩ := H; replace H := iteB H; obtain ⟨rfl, H⟩ | ⟨rfl, H⟩ := H
  · by_cases c5 : a1_0 = 0
    · rw [if_pos c5] at H; have c5b0 : (a1_0 == 0) = true := beq_iff_eq.mpr c5; have c5b1 : (a1_0 != 0) = false := bne_eq_false_iff_eq.mpr c5; clear c5; replace H := bE H; obtain ⟨t273, A6, H⟩ := H; replace H := iteB H; obtain ⟨rfl, H⟩ | ⟨rfl, H⟩ := H
      · replace H := bE H; obtain ⟨t274, A8, H⟩ := H; obtain rfl := Option.some.inj H; go_enter Tryz.func46, Tryz.ntmps46; go_wp2_with (first | ((with_reducible refine gate_dst (N := 2) rfl ?_); refine boxE_ HB 2 #[.int .i64 a0_0, .int .i64 a0_1] 23 ?_; clear HB; intro gb270 w9 HB BK270 GW270 GE270 hb; clear hb) | ((with_reducible refine gate_dst (N := 3) rfl ?_); refine boxG_ 3 #[.int .i64 a1_0, .int .i64 a1_1, .int .i64 a1_2] 45 ?_; intro gb271 w10 hg BK271 hb; have GW271 := sZ HB hg; have GE271 := sZ HB hg; replace HB := hB2 HB hb; have NB270_271 := neL BK270 hg; have NB271_270 := neR BK270 hg; replace BK270 := kb2 BK270 hb; clear hb hg; have hnb11 := NB270_271.out; have hnc11 := NB271_270.out; obtain ⟨hcz12_0, hcz12_1, hfz12_0, hfz12_1⟩ := cells2 BK270.out) | ((with_reducible refine gate_callee (f := 43) rfl ?_); refine goesL_ (some 6) rfl rfl Tryz.func43 (by kernel_rfl) rfl #[.agg #[.int .i64 a0_0, .int .i64 a0_1]] rfl gL_ ?_; (with_reducible refine (impl_isHidden.calls k a0_0 a0_1 true _ A3.out).mono ?_); rintro e w13 ⟨rfl, hb⟩; refine ⟨_, rfl, ?_⟩; replace BK270 := kb2 BK270 hb; replace BK271 := kb2 BK271 hb; replace HB := hB2 HB hb; (try clear hb); obtain ⟨hcz14_0, hcz14_1, hcz14_2, hfz14_0, hfz14_1, hfz14_2⟩ := cells3 BK271.out; obtain ⟨hcz15_0, hcz15_1, hfz15_0, hfz15_1⟩ := cells2 BK270.out) | ((with_reducible refine gate_callee (f := 50) rfl ?_); refine goesL_ (some 17) rfl rfl Tryz.func50 (by kernel_rfl) rfl #[.int .i64 a1_1, .int .i64 0, .int .i64 (wrap64 (a0_0 - 1))] rfl gL_ ?_; (with_reducible refine (impl_within.calls a1_1 0 (wrap64 (a0_0 - 1)) true _ A6.out).mono ?_); rintro e w' ⟨rfl, ⟨nd, rfl⟩⟩; refine ⟨_, rfl, ?_⟩) | (go_at_call 50; (with_reducible refine (impl_within.calls a1_2 0 (wrap64 (a0_1 - 1)) t274 _ A8.out).mono ?_); rintro e w' ⟨rfl, ⟨nd, rfl⟩⟩)); go_ret; exact ⟨rF_, bB⟩
      · obtain rfl := Option.some.inj H; go_enter Tryz.func46, Tryz.ntmps46; go_wp2_with (first | ((with_reducible refine gate_dst (N := 2) rfl ?_); refine boxE_ HB 2 #[.int .i64 a0_0, .int .i64 a0_1] 23 ?_; clear HB; intro gb270 w16 HB BK270 GW270 GE270 hb; clear hb) | ((with_reducible refine gate_dst (N := 3) rfl ?_); refine boxG_ 3 #[.int .i64 a1_0, .int .i64 a1_1, .int .i64 a1_2] 45 ?_; intro gb271 w17 hg BK271 hb; have GW271 := sZ HB hg; have GE271 := sZ HB hg; replace HB := hB2 HB hb; have NB270_271 := neL BK270 hg; have NB271_270 := neR BK270 hg; replace BK270 := kb2 BK270 hb; clear hb hg; have hnb18 := NB270_271.out; have hnc18 := NB271_270.out; obtain ⟨hcz19_0, hcz19_1, hfz19_0, hfz19_1⟩ := cells2 BK270.out) | ((with_reducible refine gate_callee (f := 43) rfl ?_); refine goesL_ (some 6) rfl rfl Tryz.func43 (by kernel_rfl) rfl #[.agg #[.int .i64 a0_0, .int .i64 a0_1]] rfl gL_ ?_; (with_reducible refine (impl_isHidden.calls k a0_0 a0_1 true _ A3.out).mono ?_); rintro e w20 ⟨rfl, hb⟩; refine ⟨_, rfl, ?_⟩; replace BK270 := kb2 BK270 hb; replace BK271 := kb2 BK271 hb; replace HB := hB2 HB hb; (try clear hb); obtain ⟨hcz21_0, hcz21_1, hcz21_2, hfz21_0, hfz21_1, hfz21_2⟩ := cells3 BK271.out; obtain ⟨hcz22_0, hcz22_1, hfz22_0, hfz22_1⟩ := cells2 BK270.out) | ((with_reducible refine gate_callee (f := 50) rfl ?_); refine goesL_ (some 17) rfl rfl Tryz.func50 (by kernel_rfl) rfl #[.int .i64 a1_1, .int .i64 0, .int .i64 (wrap64 (a0_0 - 1))] rfl gL_ ?_; (with_reducible refine (impl_within.calls a1_1 0 (wrap64 (a0_0 - 1)) false _ A6.out).mono ?_); rintro e w' ⟨rfl, ⟨nd, rfl⟩⟩; refine ⟨_, rfl, ?_⟩)); go_ret; exact ⟨rF_, bB⟩
    · rw [if_neg c5] at H; have c5b0 : (a1_0 == 0) = false := beq_eq_false_iff_ne.mpr c5; have c5b1 : (a1_0 != 0) = true := bne_iff_ne.mpr c5
      by_cases c23 : a1_0 = 1
      · rw [if_pos c23] at H; have c23b0 : (a1_0 == 1) = true := beq_iff_eq.mpr c23; have c23b1 : (a1_0 != 1) = false := bne_eq_false_iff_eq.mpr c23; clear c23; replace H := bE H; obtain ⟨t275, A24, H⟩ := H; replace H := iteB H; obtain ⟨rfl, H⟩ | ⟨rfl, H⟩ := H
        · obtain rfl := Option.some.inj H; go_enter Tryz.func46, Tryz.ntmps46; go_wp2_with (first | ((with_reducible refine gate_dst (N := 2) rfl ?_); refine boxE_ HB 2 #[.int .i64 a0_0, .int .i64 a0_1] 23 ?_; clear HB; intro gb270 w26 HB BK270 GW270 GE270 hb; clear hb) | ((with_reducible refine gate_dst (N := 3) rfl ?_); refine boxG_ 3 #[.int .i64 a1_0, .int .i64 a1_1, .int .i64 a1_2] 45 ?_; intro gb271 w27 hg BK271 hb; have GW271 := sZ HB hg; have GE271 := sZ HB hg; replace HB := hB2 HB hb; have NB270_271 := neL BK270 hg; have NB271_270 := neR BK270 hg; replace BK270 := kb2 BK270 hb; clear hb hg; have hnb28 := NB270_271.out; have hnc28 := NB271_270.out; obtain ⟨hcz29_0, hcz29_1, hfz29_0, hfz29_1⟩ := cells2 BK270.out) | ((with_reducible refine gate_callee (f := 43) rfl ?_); refine goesL_ (some 6) rfl rfl Tryz.func43 (by kernel_rfl) rfl #[.agg #[.int .i64 a0_0, .int .i64 a0_1]] rfl gL_ ?_; (with_reducible refine (impl_isHidden.calls k a0_0 a0_1 true _ A3.out).mono ?_); rintro e w30 ⟨rfl, hb⟩; refine ⟨_, rfl, ?_⟩; replace BK270 := kb2 BK270 hb; replace BK271 := kb2 BK271 hb; replace HB := hB2 HB hb; (try clear hb); obtain ⟨hcz31_0, hcz31_1, hcz31_2, hfz31_0, hfz31_1, hfz31_2⟩ := cells3 BK271.out) | ((with_reducible refine gate_callee (f := 50) rfl ?_); refine goesL_ (some 30) rfl rfl Tryz.func50 (by kernel_rfl) rfl #[.int .i64 a1_1, .int .i64 0, .int .i64 60] rfl gL_ ?_; (with_reducible refine (impl_within.calls a1_1 0 60 true _ A24.out).mono ?_); rintro e w' ⟨rfl, ⟨nd, rfl⟩⟩; refine ⟨_, rfl, ?_⟩)); go_ret; exact ⟨rF_, bB⟩
        · obtain rfl := Option.some.inj H; go_enter Tryz.func46, Tryz.ntmps46; go_wp2_with (first | ((with_reducible refine gate_dst (N := 2) rfl ?_); refine boxE_ HB 2 #[.int .i64 a0_0, .int .i64 a0_1] 23 ?_; clear HB; intro gb270 w32 HB BK270 GW270 GE270 hb; clear hb) | ((with_reducible refine gate_dst (N := 3) rfl ?_); refine boxG_ 3 #[.int .i64 a1_0, .int .i64 a1_1, .int .i64 a1_2] 45 ?_; intro gb271 w33 hg BK271 hb; have GW271 := sZ HB hg; have GE271 := sZ HB hg; replace HB := hB2 HB hb; have NB270_271 := neL BK270 hg; have NB271_270 := neR BK270 hg; replace BK270 := kb2 BK270 hb; clear hb hg; have hnb34 := NB270_271.out; have hnc34 := NB271_270.out; obtain ⟨hcz35_0, hcz35_1, hfz35_0, hfz35_1⟩ := cells2 BK270.out) | ((with_reducible refine gate_callee (f := 43) rfl ?_); refine goesL_ (some 6) rfl rfl Tryz.func43 (by kernel_rfl) rfl #[.agg #[.int .i64 a0_0, .int .i64 a0_1]] rfl gL_ ?_; (with_reducible refine (impl_isHidden.calls k a0_0 a0_1 true _ A3.out).mono ?_); rintro e w36 ⟨rfl, hb⟩; refine ⟨_, rfl, ?_⟩; replace BK270 := kb2 BK270 hb; replace BK271 := kb2 BK271 hb; replace HB := hB2 HB hb; (try clear hb); obtain ⟨hcz37_0, hcz37_1, hcz37_2, hfz37_0, hfz37_1, hfz37_2⟩ := cells3 BK271.out) | ((with_reducible refine gate_callee (f := 50) rfl ?_); refine goesL_ (some 30) rfl rfl Tryz.func50 (by kernel_rfl) rfl #[.int .i64 a1_1, .int .i64 0, .int .i64 60] rfl gL_ ?_; (with_reducible refine (impl_within.calls a1_1 0 60 false _ A24.out).mono ?_); rintro e w' ⟨rfl, ⟨nd, rfl⟩⟩; refine ⟨_, rfl, ?_⟩)); go_ret; exact ⟨rF_, bB⟩
      · rw [if_neg c23] at H; have c23b0 : (a1_0 == 1) = false := beq_eq_false_iff_ne.mpr c23; have c23b1 : (a1_0 != 1) = true := bne_iff_ne.mpr c23
        by_cases c38 : a1_0 = 2
        · rw [if_pos c38] at H; have c38b0 : (a1_0 == 2) = true := beq_iff_eq.mpr c38; have c38b1 : (a1_0 != 2) = false := bne_eq_false_iff_eq.mpr c38; clear c38; replace H := bE H; obtain ⟨t276, A39, H⟩ := H; replace H := bE H; obtain ⟨t277, A40, H⟩ := H; replace H := iteB H; obtain ⟨rfl, H⟩ | ⟨rfl, H⟩ := H
          · replace H := bE H; obtain ⟨t278, A42, H⟩ := H; obtain rfl := Option.some.inj H; go_enter Tryz.func46, Tryz.ntmps46; (try go_wp2_with (first | ((with_reducible refine gate_dst (N := 2) rfl ?_); refine boxE_ HB 2 #[.int .i64 a0_0, .int .i64 a0_1] 23 ?_; clear HB; intro gb270 w43 HB BK270 GW270 GE270 hb; clear hb) | ((with_reducible refine gate_dst (N := 3) rfl ?_); refine boxG_ 3 #[.int .i64 a1_0, .int .i64 a1_1, .int .i64 a1_2] 45 ?_; intro gb271 w44 hg BK271 hb; have GW271 := sZ HB hg; have GE271 := sZ HB hg; replace HB := hB2 HB hb; have NB270_271 := neL BK270 hg; have NB271_270 := neR BK270 hg; replace BK270 := kb2 BK270 hb; clear hb hg; have hnb45 := NB270_271.out; have hnc45 := NB271_270.out; obtain ⟨hcz46_0, hcz46_1, hfz46_0, hfz46_1⟩ := cells2 BK270.out) | ((with_reducible refine gate_callee (f := 43) rfl ?_); refine goesL_ (some 6) rfl rfl Tryz.func43 (by kernel_rfl) rfl #[.agg #[.int .i64 a0_0, .int .i64 a0_1]] rfl gL_ ?_; (with_reducible refine (impl_isHidden.calls k a0_0 a0_1 true _ A3.out).mono ?_); rintro e w47 ⟨rfl, hb⟩; refine ⟨_, rfl, ?_⟩; replace BK270 := kb2 BK270 hb; replace BK271 := kb2 BK271 hb; replace HB := hB2 HB hb; (try clear hb); obtain ⟨hcz48_0, hcz48_1, hcz48_2, hfz48_0, hfz48_1, hfz48_2⟩ := cells3 BK271.out))); replace BK270 := amk (blk_drew BK270.out); replace BK271 := amk (blk_drew BK271.out); replace HB := amk (bd_ HB.out); refine start_ (n := 14) (S := fun w' => w'.cell? ⟨gb271, 0, none⟩ = some (.int .i64 a1_0) ∧ w'.cell? ⟨gb271, 1, none⟩ = some (.int .i64 a1_1) ∧ w'.cell? ⟨gb271, 2, none⟩ = some (.int .i64 a1_2) ∧ w'.cell? ⟨gb270, 0, none⟩ = some (.int .i64 a0_0) ∧ w'.cell? ⟨gb270, 1, none⟩ = some (.int .i64 a0_1)) (ds := []) (bA 14 0) (by kernel_rfl) rfl rfl ⟨(blk_cell BK271.out 0).trans rfl, (blk_cell BK271.out 1).trans rfl, (blk_cell BK271.out 2).trans rfl, (blk_cell BK270.out 0).trans rfl, (blk_cell BK270.out 1).trans rfl⟩ (fun hHeld => ?_); refine with_tabW impl_IsClue.tab9 impl_IsClue.bits9 (fun HT_ HW_ => ?_); generalize w47.drew = w49 at BK270 BK271 HB hHeld ⊢; refine pU_ HT_ 0 (some 38) (bA 14 1) ?_; refine tK_ HT_ HW_ hHeld 1 (some 39) (bA 14 3) ?_; refine tK_ HT_ HW_ hHeld 2 (some 40) (bA 14 7) ?_; refine oN_ HT_ 3 (some 41) (bA 14 15) (fun K hK => ?_); refine goes_ Tryz.func40 (by kernel_rfl) rfl #[.agg #[.int .i64 a0_0, .int .i64 a0_1]] (by rfl) rfl rfl gL_ ?_; (with_reducible refine (impl_Lock_count.calls k a0_0 a0_1 t276 _ A39.out).mono ?_); rintro e w50 ⟨rfl, hb⟩; refine ⟨_, rfl, ?_⟩; replace BK270 := kb2 BK270 hb; replace BK271 := kb2 BK271 hb; replace HB := hB2 HB hb; (try clear hb); refine hK.out _ _ hC_ (fun hHeld => ?_); clear hK K; refine nN_ (some 41) ?_; refine pU_ HT_ 4 (some 42) (bA 14 31) ?_; refine oN_ HT_ 5 (some 43) (bA 14 63) (fun K hK => ?_); refine goes_ Tryz.func50 (by kernel_rfl) rfl #[.int .i64 a1_1, .int .i64 0, .int .i64 (wrap64 (t276 - 1))] (by rfl) rfl rfl gL_ ?_; (with_reducible refine (impl_within.calls a1_1 0 (wrap64 (t276 - 1)) true _ A40.out).mono ?_); rintro e w' ⟨rfl, ⟨nd, rfl⟩⟩; refine ⟨_, rfl, ?_⟩; refine hK.out _ _ hC_ (fun hHeld => ?_); clear hK K; refine nN_ (some 43) ?_; refine pU_ HT_ 6 (some 44) (bA 14 127) ?_; refine pU_ HT_ 7 (some 45) (bA 14 255) ?_; refine pU_ HT_ 9 (some 47) (bA 14 767) ?_; refine tK_ HT_ HW_ hHeld 8 (some 46) (bA 14 1023) ?_; refine tK_ HT_ HW_ hHeld 10 (some 48) (bA 14 2047) ?_; refine oN_ HT_ 11 (some 49) (bA 14 4095) (fun K hK => ?_); refine goes_ Tryz.func50 (by kernel_rfl) rfl #[.int .i64 a1_2, .int .i64 0, .int .i64 a0_0] (by rfl) rfl rfl gL_ ?_; (with_reducible refine (impl_within.calls a1_2 0 a0_0 t278 _ A42.out).mono ?_); rintro e w' ⟨rfl, ⟨nd, rfl⟩⟩; refine ⟨_, rfl, ?_⟩; refine hK.out _ _ hC_ (fun hHeld => ?_); clear hK K; refine nN_ (some 49) ?_; refine pU_ HT_ 12 (some 50) (bA 14 8191) ?_; refine pU_ HT_ 13 (some 4) (bA 14 16383) ?_; refine done_ (done_of HT_.out (by kernel_rfl)) ?_; (try go_wp2); go_ret; exact ⟨rF_, bB⟩
          · obtain rfl := Option.some.inj H; go_enter Tryz.func46, Tryz.ntmps46; (try go_wp2_with (first | ((with_reducible refine gate_dst (N := 2) rfl ?_); refine boxE_ HB 2 #[.int .i64 a0_0, .int .i64 a0_1] 23 ?_; clear HB; intro gb270 w51 HB BK270 GW270 GE270 hb; clear hb) | ((with_reducible refine gate_dst (N := 3) rfl ?_); refine boxG_ 3 #[.int .i64 a1_0, .int .i64 a1_1, .int .i64 a1_2] 45 ?_; intro gb271 w52 hg BK271 hb; have GW271 := sZ HB hg; have GE271 := sZ HB hg; replace HB := hB2 HB hb; have NB270_271 := neL BK270 hg; have NB271_270 := neR BK270 hg; replace BK270 := kb2 BK270 hb; clear hb hg; have hnb53 := NB270_271.out; have hnc53 := NB271_270.out; obtain ⟨hcz54_0, hcz54_1, hfz54_0, hfz54_1⟩ := cells2 BK270.out) | ((with_reducible refine gate_callee (f := 43) rfl ?_); refine goesL_ (some 6) rfl rfl Tryz.func43 (by kernel_rfl) rfl #[.agg #[.int .i64 a0_0, .int .i64 a0_1]] rfl gL_ ?_; (with_reducible refine (impl_isHidden.calls k a0_0 a0_1 true _ A3.out).mono ?_); rintro e w55 ⟨rfl, hb⟩; refine ⟨_, rfl, ?_⟩; replace BK270 := kb2 BK270 hb; replace BK271 := kb2 BK271 hb; replace HB := hB2 HB hb; (try clear hb); obtain ⟨hcz56_0, hcz56_1, hcz56_2, hfz56_0, hfz56_1, hfz56_2⟩ := cells3 BK271.out))); replace BK270 := amk (blk_drew BK270.out); replace BK271 := amk (blk_drew BK271.out); replace HB := amk (bd_ HB.out); refine start_ (n := 14) (S := fun w' => w'.cell? ⟨gb271, 0, none⟩ = some (.int .i64 a1_0) ∧ w'.cell? ⟨gb271, 1, none⟩ = some (.int .i64 a1_1) ∧ w'.cell? ⟨gb271, 2, none⟩ = some (.int .i64 a1_2) ∧ w'.cell? ⟨gb270, 0, none⟩ = some (.int .i64 a0_0) ∧ w'.cell? ⟨gb270, 1, none⟩ = some (.int .i64 a0_1)) (ds := []) (bA 14 0) (by kernel_rfl) rfl rfl ⟨(blk_cell BK271.out 0).trans rfl, (blk_cell BK271.out 1).trans rfl, (blk_cell BK271.out 2).trans rfl, (blk_cell BK270.out 0).trans rfl, (blk_cell BK270.out 1).trans rfl⟩ (fun hHeld => ?_); refine with_tabW impl_IsClue.tab9 impl_IsClue.bits9 (fun HT_ HW_ => ?_); generalize w55.drew = w57 at BK270 BK271 HB hHeld ⊢; refine pU_ HT_ 0 (some 38) (bA 14 1) ?_; refine tK_ HT_ HW_ hHeld 1 (some 39) (bA 14 3) ?_; refine tK_ HT_ HW_ hHeld 2 (some 40) (bA 14 7) ?_; refine oN_ HT_ 3 (some 41) (bA 14 15) (fun K hK => ?_); refine goes_ Tryz.func40 (by kernel_rfl) rfl #[.agg #[.int .i64 a0_0, .int .i64 a0_1]] (by rfl) rfl rfl gL_ ?_; (with_reducible refine (impl_Lock_count.calls k a0_0 a0_1 t276 _ A39.out).mono ?_); rintro e w58 ⟨rfl, hb⟩; refine ⟨_, rfl, ?_⟩; replace BK270 := kb2 BK270 hb; replace BK271 := kb2 BK271 hb; replace HB := hB2 HB hb; (try clear hb); refine hK.out _ _ hC_ (fun hHeld => ?_); clear hK K; refine nN_ (some 41) ?_; refine pU_ HT_ 4 (some 42) (bA 14 31) ?_; refine oN_ HT_ 5 (some 43) (bA 14 63) (fun K hK => ?_); refine goes_ Tryz.func50 (by kernel_rfl) rfl #[.int .i64 a1_1, .int .i64 0, .int .i64 (wrap64 (t276 - 1))] (by rfl) rfl rfl gL_ ?_; (with_reducible refine (impl_within.calls a1_1 0 (wrap64 (t276 - 1)) false _ A40.out).mono ?_); rintro e w' ⟨rfl, ⟨nd, rfl⟩⟩; refine ⟨_, rfl, ?_⟩; refine hK.out _ _ hC_ (fun hHeld => ?_); clear hK K; refine nN_ (some 43) ?_; refine pU_ HT_ 6 (some 44) (bA 14 127) ?_; refine pZ_ HT_ 7 (some 45) (bA 14 255) ?_; refine pZ_ HT_ 8 (some 46) (bA 14 511) ?_; refine pZ_ HT_ 9 (some 47) (bA 14 1023) ?_; refine pZ_ HT_ 10 (some 48) (bA 14 2047) ?_; refine pZ_ HT_ 11 (some 49) (bA 14 4095) ?_; refine pU_ HT_ 12 (some 50) (bA 14 8191) ?_; refine pU_ HT_ 13 (some 4) (bA 14 16383) ?_; refine done_ (done_of HT_.out (by kernel_rfl)) ?_; (try go_wp2); go_ret; exact ⟨rF_, bB⟩
        · rw [if_neg c38] at H; have c38b0 : (a1_0 == 2) = false := beq_eq_false_iff_ne.mpr c38; have c38b1 : (a1_0 != 2) = true := bne_iff_ne.mpr c38
          by_cases c59 : a1_0 = 3
          · rw [if_pos c59] at H; have c59b0 : (a1_0 == 3) = true := beq_iff_eq.mpr c59; have c59b1 : (a1_0 != 3) = false := bne_eq_false_iff_eq.mpr c59; clear c59; replace H := bE H; obtain ⟨t279, A60, H⟩ := H; replace H := bE H; obtain ⟨t280, A61, H⟩ := H; replace H := iteB H; obtain ⟨rfl, H⟩ | ⟨rfl, H⟩ := H
            · replace H := bE H; obtain ⟨t281, A63, H⟩ := H; obtain rfl := Option.some.inj H; go_enter Tryz.func46, Tryz.ntmps46; (try go_wp2_with (first | ((with_reducible refine gate_dst (N := 2) rfl ?_); refine boxE_ HB 2 #[.int .i64 a0_0, .int .i64 a0_1] 23 ?_; clear HB; intro gb270 w64 HB BK270 GW270 GE270 hb; clear hb) | ((with_reducible refine gate_dst (N := 3) rfl ?_); refine boxG_ 3 #[.int .i64 a1_0, .int .i64 a1_1, .int .i64 a1_2] 45 ?_; intro gb271 w65 hg BK271 hb; have GW271 := sZ HB hg; have GE271 := sZ HB hg; replace HB := hB2 HB hb; have NB270_271 := neL BK270 hg; have NB271_270 := neR BK270 hg; replace BK270 := kb2 BK270 hb; clear hb hg; have hnb66 := NB270_271.out; have hnc66 := NB271_270.out; obtain ⟨hcz67_0, hcz67_1, hfz67_0, hfz67_1⟩ := cells2 BK270.out) | ((with_reducible refine gate_callee (f := 43) rfl ?_); refine goesL_ (some 6) rfl rfl Tryz.func43 (by kernel_rfl) rfl #[.agg #[.int .i64 a0_0, .int .i64 a0_1]] rfl gL_ ?_; (with_reducible refine (impl_isHidden.calls k a0_0 a0_1 true _ A3.out).mono ?_); rintro e w68 ⟨rfl, hb⟩; refine ⟨_, rfl, ?_⟩; replace BK270 := kb2 BK270 hb; replace BK271 := kb2 BK271 hb; replace HB := hB2 HB hb; (try clear hb); obtain ⟨hcz69_0, hcz69_1, hcz69_2, hfz69_0, hfz69_1, hfz69_2⟩ := cells3 BK271.out))); replace BK270 := amk (blk_drew BK270.out); replace BK271 := amk (blk_drew BK271.out); replace HB := amk (bd_ HB.out); refine start_ (n := 12) (S := fun w' => w'.cell? ⟨gb271, 0, none⟩ = some (.int .i64 a1_0) ∧ w'.cell? ⟨gb271, 1, none⟩ = some (.int .i64 a1_1) ∧ w'.cell? ⟨gb271, 2, none⟩ = some (.int .i64 a1_2) ∧ w'.cell? ⟨gb270, 0, none⟩ = some (.int .i64 a0_0) ∧ w'.cell? ⟨gb270, 1, none⟩ = some (.int .i64 a0_1)) (ds := []) (bA 12 0) (by kernel_rfl) rfl rfl ⟨(blk_cell BK271.out 0).trans rfl, (blk_cell BK271.out 1).trans rfl, (blk_cell BK271.out 2).trans rfl, (blk_cell BK270.out 0).trans rfl, (blk_cell BK270.out 1).trans rfl⟩ (fun hHeld => ?_); refine with_tabW impl_IsClue.tab11 impl_IsClue.bits11 (fun HT_ HW_ => ?_); generalize w68.drew = w70 at BK270 BK271 HB hHeld ⊢; refine pU_ HT_ 0 (some 53) (bA 12 1) ?_; refine tK_ HT_ HW_ hHeld 1 (some 54) (bA 12 3) ?_; refine tK_ HT_ HW_ hHeld 2 (some 55) (bA 12 7) ?_; refine oN_ HT_ 3 (some 56) (bA 12 15) (fun K hK => ?_); refine goes_ Tryz.func40 (by kernel_rfl) rfl #[.agg #[.int .i64 a0_0, .int .i64 a0_1]] (by rfl) rfl rfl gL_ ?_; (with_reducible refine (impl_Lock_count.calls k a0_0 a0_1 t279 _ A60.out).mono ?_); rintro e w71 ⟨rfl, hb⟩; refine ⟨_, rfl, ?_⟩; replace BK270 := kb2 BK270 hb; replace BK271 := kb2 BK271 hb; replace HB := hB2 HB hb; (try clear hb); refine hK.out _ _ hC_ (fun hHeld => ?_); clear hK K; refine nN_ (some 56) ?_; refine pU_ HT_ 4 (some 57) (bA 12 31) ?_; refine oN_ HT_ 5 (some 58) (bA 12 63) (fun K hK => ?_); refine goes_ Tryz.func50 (by kernel_rfl) rfl #[.int .i64 a1_1, .int .i64 0, .int .i64 (wrap64 (t279 - 1))] (by rfl) rfl rfl gL_ ?_; (with_reducible refine (impl_within.calls a1_1 0 (wrap64 (t279 - 1)) true _ A61.out).mono ?_); rintro e w' ⟨rfl, ⟨nd, rfl⟩⟩; refine ⟨_, rfl, ?_⟩; refine hK.out _ _ hC_ (fun hHeld => ?_); clear hK K; refine nN_ (some 58) ?_; refine pU_ HT_ 6 (some 59) (bA 12 127) ?_; refine pU_ HT_ 7 (some 60) (bA 12 255) ?_; refine tK_ HT_ HW_ hHeld 8 (some 61) (bA 12 511) ?_; refine oN_ HT_ 9 (some 62) (bA 12 1023) (fun K hK => ?_); refine goes_ Tryz.func50 (by kernel_rfl) rfl #[.int .i64 a1_2, .int .i64 0, .int .i64 60] (by rfl) rfl rfl gL_ ?_; (with_reducible refine (impl_within.calls a1_2 0 60 t281 _ A63.out).mono ?_); rintro e w' ⟨rfl, ⟨nd, rfl⟩⟩; refine ⟨_, rfl, ?_⟩; refine hK.out _ _ hC_ (fun hHeld => ?_); clear hK K; refine nN_ (some 62) ?_; refine pU_ HT_ 10 (some 63) (bA 12 2047) ?_; refine pU_ HT_ 11 (some 4) (bA 12 4095) ?_; refine done_ (done_of HT_.out (by kernel_rfl)) ?_; (try go_wp2); go_ret; exact ⟨rF_, bB⟩
            · obtain rfl := Option.some.inj H; go_enter Tryz.func46, Tryz.ntmps46; (try go_wp2_with (first | ((with_reducible refine gate_dst (N := 2) rfl ?_); refine boxE_ HB 2 #[.int .i64 a0_0, .int .i64 a0_1] 23 ?_; clear HB; intro gb270 w72 HB BK270 GW270 GE270 hb; clear hb) | ((with_reducible refine gate_dst (N := 3) rfl ?_); refine boxG_ 3 #[.int .i64 a1_0, .int .i64 a1_1, .int .i64 a1_2] 45 ?_; intro gb271 w73 hg BK271 hb; have GW271 := sZ HB hg; have GE271 := sZ HB hg; replace HB := hB2 HB hb; have NB270_271 := neL BK270 hg; have NB271_270 := neR BK270 hg; replace BK270 := kb2 BK270 hb; clear hb hg; have hnb74 := NB270_271.out; have hnc74 := NB271_270.out; obtain ⟨hcz75_0, hcz75_1, hfz75_0, hfz75_1⟩ := cells2 BK270.out) | ((with_reducible refine gate_callee (f := 43) rfl ?_); refine goesL_ (some 6) rfl rfl Tryz.func43 (by kernel_rfl) rfl #[.agg #[.int .i64 a0_0, .int .i64 a0_1]] rfl gL_ ?_; (with_reducible refine (impl_isHidden.calls k a0_0 a0_1 true _ A3.out).mono ?_); rintro e w76 ⟨rfl, hb⟩; refine ⟨_, rfl, ?_⟩; replace BK270 := kb2 BK270 hb; replace BK271 := kb2 BK271 hb; replace HB := hB2 HB hb; (try clear hb); obtain ⟨hcz77_0, hcz77_1, hcz77_2, hfz77_0, hfz77_1, hfz77_2⟩ := cells3 BK271.out))); replace BK270 := amk (blk_drew BK270.out); replace BK271 := amk (blk_drew BK271.out); replace HB := amk (bd_ HB.out); refine start_ (n := 12) (S := fun w' => w'.cell? ⟨gb271, 0, none⟩ = some (.int .i64 a1_0) ∧ w'.cell? ⟨gb271, 1, none⟩ = some (.int .i64 a1_1) ∧ w'.cell? ⟨gb271, 2, none⟩ = some (.int .i64 a1_2) ∧ w'.cell? ⟨gb270, 0, none⟩ = some (.int .i64 a0_0) ∧ w'.cell? ⟨gb270, 1, none⟩ = some (.int .i64 a0_1)) (ds := []) (bA 12 0) (by kernel_rfl) rfl rfl ⟨(blk_cell BK271.out 0).trans rfl, (blk_cell BK271.out 1).trans rfl, (blk_cell BK271.out 2).trans rfl, (blk_cell BK270.out 0).trans rfl, (blk_cell BK270.out 1).trans rfl⟩ (fun hHeld => ?_); refine with_tabW impl_IsClue.tab11 impl_IsClue.bits11 (fun HT_ HW_ => ?_); generalize w76.drew = w78 at BK270 BK271 HB hHeld ⊢; refine pU_ HT_ 0 (some 53) (bA 12 1) ?_; refine tK_ HT_ HW_ hHeld 1 (some 54) (bA 12 3) ?_; refine tK_ HT_ HW_ hHeld 2 (some 55) (bA 12 7) ?_; refine oN_ HT_ 3 (some 56) (bA 12 15) (fun K hK => ?_); refine goes_ Tryz.func40 (by kernel_rfl) rfl #[.agg #[.int .i64 a0_0, .int .i64 a0_1]] (by rfl) rfl rfl gL_ ?_; (with_reducible refine (impl_Lock_count.calls k a0_0 a0_1 t279 _ A60.out).mono ?_); rintro e w79 ⟨rfl, hb⟩; refine ⟨_, rfl, ?_⟩; replace BK270 := kb2 BK270 hb; replace BK271 := kb2 BK271 hb; replace HB := hB2 HB hb; (try clear hb); refine hK.out _ _ hC_ (fun hHeld => ?_); clear hK K; refine nN_ (some 56) ?_; refine pU_ HT_ 4 (some 57) (bA 12 31) ?_; refine oN_ HT_ 5 (some 58) (bA 12 63) (fun K hK => ?_); refine goes_ Tryz.func50 (by kernel_rfl) rfl #[.int .i64 a1_1, .int .i64 0, .int .i64 (wrap64 (t279 - 1))] (by rfl) rfl rfl gL_ ?_; (with_reducible refine (impl_within.calls a1_1 0 (wrap64 (t279 - 1)) false _ A61.out).mono ?_); rintro e w' ⟨rfl, ⟨nd, rfl⟩⟩; refine ⟨_, rfl, ?_⟩; refine hK.out _ _ hC_ (fun hHeld => ?_); clear hK K; refine nN_ (some 58) ?_; refine pU_ HT_ 6 (some 59) (bA 12 127) ?_; refine pZ_ HT_ 7 (some 60) (bA 12 255) ?_; refine pZ_ HT_ 8 (some 61) (bA 12 511) ?_; refine pZ_ HT_ 9 (some 62) (bA 12 1023) ?_; refine pU_ HT_ 10 (some 63) (bA 12 2047) ?_; refine pU_ HT_ 11 (some 4) (bA 12 4095) ?_; refine done_ (done_of HT_.out (by kernel_rfl)) ?_; (try go_wp2); go_ret; exact ⟨rF_, bB⟩
          · rw [if_neg c59] at H; have c59b0 : (a1_0 == 3) = false := beq_eq_false_iff_ne.mpr c59; have c59b1 : (a1_0 != 3) = true := bne_iff_ne.mpr c59
            by_cases c80 : a1_0 = 4
            · rw [if_pos c80] at H; have c80b0 : (a1_0 == 4) = true := beq_iff_eq.mpr c80; have c80b1 : (a1_0 != 4) = false := bne_eq_false_iff_eq.mpr c80; clear c80; replace H := bE H; obtain ⟨t282, A81, H⟩ := H; replace H := iteB H; obtain ⟨rfl, H⟩ | ⟨rfl, H⟩ := H
              · replace H := bE H; obtain ⟨t283, A83, H⟩ := H; obtain rfl := Option.some.inj H; go_enter Tryz.func46, Tryz.ntmps46; go_wp2_with (first | ((with_reducible refine gate_dst (N := 2) rfl ?_); refine boxE_ HB 2 #[.int .i64 a0_0, .int .i64 a0_1] 23 ?_; clear HB; intro gb270 w84 HB BK270 GW270 GE270 hb; clear hb) | ((with_reducible refine gate_dst (N := 3) rfl ?_); refine boxG_ 3 #[.int .i64 a1_0, .int .i64 a1_1, .int .i64 a1_2] 45 ?_; intro gb271 w85 hg BK271 hb; have GW271 := sZ HB hg; have GE271 := sZ HB hg; replace HB := hB2 HB hb; have NB270_271 := neL BK270 hg; have NB271_270 := neR BK270 hg; replace BK270 := kb2 BK270 hb; clear hb hg; have hnb86 := NB270_271.out; have hnc86 := NB271_270.out; obtain ⟨hcz87_0, hcz87_1, hfz87_0, hfz87_1⟩ := cells2 BK270.out) | ((with_reducible refine gate_callee (f := 43) rfl ?_); refine goesL_ (some 6) rfl rfl Tryz.func43 (by kernel_rfl) rfl #[.agg #[.int .i64 a0_0, .int .i64 a0_1]] rfl gL_ ?_; (with_reducible refine (impl_isHidden.calls k a0_0 a0_1 true _ A3.out).mono ?_); rintro e w88 ⟨rfl, hb⟩; refine ⟨_, rfl, ?_⟩; replace BK270 := kb2 BK270 hb; replace BK271 := kb2 BK271 hb; replace HB := hB2 HB hb; (try clear hb); obtain ⟨hcz89_0, hcz89_1, hcz89_2, hfz89_0, hfz89_1, hfz89_2⟩ := cells3 BK271.out) | ((with_reducible refine gate_callee (f := 50) rfl ?_); refine goesL_ (some 68) rfl rfl Tryz.func50 (by kernel_rfl) rfl #[.int .i64 a1_1, .int .i64 2, .int .i64 9] rfl gL_ ?_; (with_reducible refine (impl_within.calls a1_1 2 9 true _ A81.out).mono ?_); rintro e w' ⟨rfl, ⟨nd, rfl⟩⟩; refine ⟨_, rfl, ?_⟩) | (go_at_call 50; (with_reducible refine (impl_within.calls a1_2 0 (wrap64 (a1_1 - 1)) t283 _ A83.out).mono ?_); rintro e w' ⟨rfl, ⟨nd, rfl⟩⟩)); go_ret; exact ⟨rF_, bB⟩
              · obtain rfl := Option.some.inj H; go_enter Tryz.func46, Tryz.ntmps46; go_wp2_with (first | ((with_reducible refine gate_dst (N := 2) rfl ?_); refine boxE_ HB 2 #[.int .i64 a0_0, .int .i64 a0_1] 23 ?_; clear HB; intro gb270 w90 HB BK270 GW270 GE270 hb; clear hb) | ((with_reducible refine gate_dst (N := 3) rfl ?_); refine boxG_ 3 #[.int .i64 a1_0, .int .i64 a1_1, .int .i64 a1_2] 45 ?_; intro gb271 w91 hg BK271 hb; have GW271 := sZ HB hg; have GE271 := sZ HB hg; replace HB := hB2 HB hb; have NB270_271 := neL BK270 hg; have NB271_270 := neR BK270 hg; replace BK270 := kb2 BK270 hb; clear hb hg; have hnb92 := NB270_271.out; have hnc92 := NB271_270.out; obtain ⟨hcz93_0, hcz93_1, hfz93_0, hfz93_1⟩ := cells2 BK270.out) | ((with_reducible refine gate_callee (f := 43) rfl ?_); refine goesL_ (some 6) rfl rfl Tryz.func43 (by kernel_rfl) rfl #[.agg #[.int .i64 a0_0, .int .i64 a0_1]] rfl gL_ ?_; (with_reducible refine (impl_isHidden.calls k a0_0 a0_1 true _ A3.out).mono ?_); rintro e w94 ⟨rfl, hb⟩; refine ⟨_, rfl, ?_⟩; replace BK270 := kb2 BK270 hb; replace BK271 := kb2 BK271 hb; replace HB := hB2 HB hb; (try clear hb); obtain ⟨hcz95_0, hcz95_1, hcz95_2, hfz95_0, hfz95_1, hfz95_2⟩ := cells3 BK271.out) | ((with_reducible refine gate_callee (f := 50) rfl ?_); refine goesL_ (some 68) rfl rfl Tryz.func50 (by kernel_rfl) rfl #[.int .i64 a1_1, .int .i64 2, .int .i64 9] rfl gL_ ?_; (with_reducible refine (impl_within.calls a1_1 2 9 false _ A81.out).mono ?_); rintro e w' ⟨rfl, ⟨nd, rfl⟩⟩; refine ⟨_, rfl, ?_⟩)); go_ret; exact ⟨rF_, bB⟩
            · rw [if_neg c80] at H; have c80b0 : (a1_0 == 4) = false := beq_eq_false_iff_ne.mpr c80; have c80b1 : (a1_0 != 4) = true := bne_iff_ne.mpr c80; obtain rfl := Option.some.inj H; go_enter Tryz.func46, Tryz.ntmps46; go_wp2_with (first | ((with_reducible refine gate_dst (N := 2) rfl ?_); refine boxE_ HB 2 #[.int .i64 a0_0, .int .i64 a0_1] 23 ?_; clear HB; intro gb270 w96 HB BK270 GW270 GE270 hb; clear hb) | ((with_reducible refine gate_dst (N := 3) rfl ?_); refine boxG_ 3 #[.int .i64 a1_0, .int .i64 a1_1, .int .i64 a1_2] 45 ?_; intro gb271 w97 hg BK271 hb; have GW271 := sZ HB hg; have GE271 := sZ HB hg; replace HB := hB2 HB hb; have NB270_271 := neL BK270 hg; have NB271_270 := neR BK270 hg; replace BK270 := kb2 BK270 hb; clear hb hg; have hnb98 := NB270_271.out; have hnc98 := NB271_270.out; obtain ⟨hcz99_0, hcz99_1, hfz99_0, hfz99_1⟩ := cells2 BK270.out) | ((with_reducible refine gate_callee (f := 43) rfl ?_); refine goesL_ (some 6) rfl rfl Tryz.func43 (by kernel_rfl) rfl #[.agg #[.int .i64 a0_0, .int .i64 a0_1]] rfl gL_ ?_; (with_reducible refine (impl_isHidden.calls k a0_0 a0_1 true _ A3.out).mono ?_); rintro e w100 ⟨rfl, hb⟩; refine ⟨_, rfl, ?_⟩; replace BK270 := kb2 BK270 hb; replace BK271 := kb2 BK271 hb; replace HB := hB2 HB hb; (try clear hb); obtain ⟨hcz101_0, hcz101_1, hcz101_2, hfz101_0, hfz101_1, hfz101_2⟩ := cells3 BK271.out)); go_ret; exact ⟨rF_, bB⟩
  · obtain rfl := Option.some.inj H; go_enter Tryz.func46, Tryz.ntmps46; go_wp2_with (first | ((with_reducible refine gate_dst (N := 2) rfl ?_); refine boxE_ HB 2 #[.int .i64 a0_0, .int .i64 a0_1] 23 ?_; clear HB; intro gb270 w102 HB BK270 GW270 GE270 hb; clear hb) | ((with_reducible refine gate_dst (N := 3) rfl ?_); refine boxG_ 3 #[.int .i64 a1_0, .int .i64 a1_1, .int .i64 a1_2] 45 ?_; intro gb271 w103 hg BK271 hb; have GW271 := sZ HB hg; have GE271 := sZ HB hg; replace HB := hB2 HB hb; have NB270_271 := neL BK270 hg; have NB271_270 := neR BK270 hg; replace BK270 := kb2 BK270 hb; clear hb hg; have hnb104 := NB270_271.out; have hnc104 := NB271_270.out; obtain ⟨hcz105_0, hcz105_1, hfz105_0, hfz105_1⟩ := cells2 BK270.out) | ((with_reducible refine gate_callee (f := 43) rfl ?_); refine goesL_ (some 6) rfl rfl Tryz.func43 (by kernel_rfl) rfl #[.agg #[.int .i64 a0_0, .int .i64 a0_1]] rfl gL_ ?_; (with_reducible refine (impl_isHidden.calls k a0_0 a0_1 false _ A3.out).mono ?_); rintro e w106 ⟨rfl, hb⟩; refine ⟨_, rfl, ?_⟩; replace BK270 := kb2 BK270 hb; replace BK271 := kb2 BK271 hb; replace HB := hB2 HB hb; (try clear hb))); go_ret; exact ⟨rF_, bB⟩
/-! impl's hidden locks and clues: what they come to. -/
theorem impl_isHidden.ev (w d : Int) : Ev (fun k => impl_isHidden.f k w d) (smallB w d 125) := by
  unfold impl_isHidden.f
  exact Ev.bind (impl_isSmall.ev w d 125) (Ev.now _)
theorem impl_IsClue.ev (w d a b c : Int) : Ev (fun k => impl_IsClue.f k w d a b c) (smallB w d 125 && clueB w d a b c) := by
  unfold impl_IsClue.f clueB
  refine Ev.bind (impl_isHidden.ev w d) ?_
  cases h : smallB w d 125 with
  | false => exact Ev.no (by simp) (Ev.id (by simp))
  | true =>
    refine Ev.yes rfl ?_
    have hl := smallB_lock h
    obtain ⟨w1, w2, d1, d2⟩ := lockB_iff.mp hl
    have hc := count_bound hl
    simp only [impl_within.is, Option.bind_some, w64 (x := w - 1) (by omega) (by omega), w64 (x := d - 1) (by omega) (by omega)]
    refine Ev.both (fun e => ?_) (fun e => ?_)
    · rw [if_pos e]
      exact Ev.both (fun h => Ev.id (by simp [of_decide_eq_true h])) (fun h => Ev.id (by have := decide_eq_false_iff_not.mp (Bool.eq_false_iff.mpr h); simp [this]))
    rw [if_neg e]
    refine Ev.both (fun e => ?_) (fun e => ?_)
    · rw [if_pos e]
      exact Ev.both (fun h => Ev.id (by simp [of_decide_eq_true h])) (fun h => Ev.id (by have := decide_eq_false_iff_not.mp (Bool.eq_false_iff.mpr h); simp [this]))
    rw [if_neg e]
    refine Ev.both (fun e => ?_) (fun e => ?_)
    · rw [if_pos e]
      refine Ev.bind (impl_Lock_count.ev hl) ?_
      rw [w64 (x := d ^ w.toNat - 1) (by omega) (by omega)]
      exact Ev.both (fun h => Ev.id (by simp [of_decide_eq_true h])) (fun h => Ev.id (by have := decide_eq_false_iff_not.mp (Bool.eq_false_iff.mpr h); simp [this]))
    rw [if_neg e]
    refine Ev.both (fun e => ?_) (fun e => ?_)
    · rw [if_pos e]
      refine Ev.bind (impl_Lock_count.ev hl) ?_
      rw [w64 (x := d ^ w.toNat - 1) (by omega) (by omega)]
      exact Ev.both (fun h => Ev.id (by simp [of_decide_eq_true h])) (fun h => Ev.id (by have := decide_eq_false_iff_not.mp (Bool.eq_false_iff.mpr h); simp [this]))
    rw [if_neg e]
    refine Ev.both (fun e => ?_) (fun e => ?_)
    · rw [if_pos e]
      refine Ev.both (fun h => ?_) (fun h => Ev.id (by have := decide_eq_false_iff_not.mp (Bool.eq_false_iff.mpr h); simp [this]))
      have h' := of_decide_eq_true h
      rw [w64 (x := b - 1) (by omega) (by omega)]
      exact Ev.id (by simp [h'])
    rw [if_neg e]
    exact Ev.id (by simp)
/-! the first place where a test holds. -/
def idxOf {α : Type} (p : α → Bool) (xs : List α) : Int := if xs.any p then (xs.findIdx p : Int) else -1
theorem idxOf_hit {α : Type} {p : α → Bool} {xs : List α} {i : Nat} {y : α} (hi : xs[i]? = some y) (h : p y = true) (hb : ∀ (j : Nat) z, j < i → xs[j]? = some z → p z = false) : idxOf p xs = i := by
  obtain ⟨hl, rfl⟩ := List.getElem?_eq_some_iff.1 hi
  unfold idxOf
  rw [if_pos (List.any_eq_true.mpr ⟨xs[i], List.getElem_mem hl, h⟩)]
  congr 1
  exact (List.findIdx_eq hl).mpr ⟨h, fun j hj => hb j _ hj (List.getElem?_eq_getElem (by omega))⟩
theorem idxOf_miss {α : Type} {p : α → Bool} {xs : List α} (hb : ∀ (j : Nat) z, xs[j]? = some z → p z = false) : idxOf p xs = -1 := by
  unfold idxOf
  rw [if_neg]
  rw [Bool.not_eq_true, List.any_eq_false]
  intro x hx
  obtain ⟨j, hj, rfl⟩ := List.getElem_of_mem hx
  simp [hb j _ (List.getElem?_eq_getElem hj)]
theorem idxOf_nonneg {α : Type} (p : α → Bool) (xs : List α) : decide (0 ≤ idxOf p xs) = xs.any p := by
  unfold idxOf
  split
  · rename_i h; rw [h]; simp
  · rename_i h; rw [Bool.eq_false_iff.mpr h]; simp
/-! slices.IndexFunc and slices.ContainsFunc at clues, under any predicate that makes nothing but new memory. -/
def PredClue (g : Nat) (cap : Array Value) (p : S45 → Bool) (xs : List S45) (w : World) : Prop :=
  ∀ x, x ∈ xs → ∀ W : World, Below w.heap.size w W → Calls Tryz.prog g (#[.agg #[.int .i64 x.f0, .int .i64 x.f1, .int .i64 x.f2]] ++ cap) W fun e w' => e = .returned (.bool (p x)) ∧ Below w.heap.size w w'
set_option maxHeartbeats 2000000 in
set_option maxRecDepth 100000 in
theorem idx_Clue (g : Nat) (cap : Array Value) (p : S45 → Bool) (A : Option Addr) (c : Nat) (xs : List S45) (w : World) (eg : ∀ args w, (callFunc g args).run Tryz.prog w = .ok (.enter g args) w)
    (hr : Kd.C k45 w A xs.length xs) (hp : PredClue g cap p xs w) :
    Calls Tryz.prog 69 #[.slice A xs.length c, .func (.func g) #[] cap] w fun e w' => e = .returned (.int .i64 (idxOf p xs)) ∧ Below w.heap.size w w' := by
  have hbig := hr.2.1
  have HR := amk hr
  have HP := amk hp
  have hu := Tryz.underlying45
  clear hr hp
  go_enter Tryz.func69, Tryz.ntmps69
  go_wp2
  go_loopg [5, 8] xs.length (fun gg _ s8 wr => ∃ i : Int, s8 = .int .i64 i ∧ Aside0 (0 ≤ i) ∧ Aside0 (i ≤ xs.length) ∧ Aside0 ((xs.length : Int) - i ≤ gg) ∧ Aside0 (Below w.heap.size w wr) ∧ Aside0 (∀ (j : Nat) z, (j : Int) < i → xs[j]? = some z → p z = false))
  case atStart => exact ⟨0, rfl, ⟨by omega⟩, ⟨by omega⟩, ⟨by omega⟩, ⟨Below.refl _ w⟩, ⟨fun j hj => by omega⟩⟩
  case round =>
    obtain ⟨i, rfl, I0, I1, IG, BW, AA⟩ := hrel
    by_cases hlt : i < (xs.length : Int)
    · have hlw : decide (i < (xs.length : Int)) = true := decide_eq_true hlt
      have i0 : 0 ≤ i := I0.out
      obtain ⟨ad, e, hx0, hx1, hx2⟩ := at_T45 HR.out i i0 hlt
      cases e
      replace hx0 := (BW.out.cell (World.block_lt_of_cell? w _ hx0)).trans hx0
      replace hx1 := (BW.out.cell (World.block_lt_of_cell? w _ hx1)).trans hx1
      replace hx2 := (BW.out.cell (World.block_lt_of_cell? w _ hx2)).trans hx2
      have HY : Aside0 (xs[i.toNat]? = some (rd_T45 xs i)) := ⟨by
        have hin : i.toNat < xs.length := by omega
        unfold rd_T45; simp [List.getD, hin]⟩
      generalize rd_T45 xs i = y at hx0 hx1 hx2 HY
      have hcall := HP.out y (List.mem_of_getElem? HY.out) wr BW.out
      have HLT := amk hlt
      replace hlt := eq_true hlt
      replace i0 := eq_true i0
      cases hq : p y with
      | true =>
        rw [hq] at hcall
        have HQ := amk hq
        clear hq
        go_wp2_with (go_at_fn g; refine hcall.mono ?_; rintro e w' ⟨rfl, hb'⟩)
        go_ret
        refine ⟨?_, hb'⟩
        have h1 := idxOf_hit (p := p) HY.out HQ.out (fun j z hj hz => AA.out j z (by omega) hz)
        rw [h1]
        have := I0.out
        show Ending.returned (.int .i64 i) = Ending.returned (.int .i64 ((i.toNat : Nat) : Int))
        rw [Int.toNat_of_nonneg this]
      | false =>
        rw [hq] at hcall
        have HQ := amk hq
        clear hq
        go_wp2_with (go_at_fn g; refine hcall.mono ?_; rintro e w' ⟨rfl, hb'⟩)
        have hw1 : wrap64 (i + 1) = i + 1 := by
          have := I0.out
          have := HLT.out
          unfold wrap64; omega
        go_roundg (xs.length - (i.toNat + 1))
        case measure => have := I0.out; have := HLT.out; have := IG.out; omega
        case rel =>
          have a1 := I0.out
          have a2 := HLT.out
          refine ⟨i + 1, by rw [hw1], ⟨by omega⟩, ⟨by omega⟩, ⟨by omega⟩, ⟨hb'⟩, ⟨fun j z hj hz => ?_⟩⟩
          by_cases e : j = i.toNat
          · subst e
            rw [HY.out] at hz
            injection hz with hz
            rw [← hz]; exact HQ.out
          · exact AA.out j z (by omega) hz
    · have hlw : decide (i < (xs.length : Int)) = false := decide_eq_false hlt
      have HK := amk hlt
      clear hlt
      go_wp2
      go_ret
      refine ⟨?_, BW.out⟩
      rw [idxOf_miss (fun j z hz => AA.out j z (by have := HK.out; have := (List.getElem?_eq_some_iff.1 hz).1; omega) hz)]
      rfl
theorem contains_Clue (g : Nat) (cap : Array Value) (p : S45 → Bool) (A : Option Addr) (c : Nat) (xs : List S45) (w : World) (eg : ∀ args w, (callFunc g args).run Tryz.prog w = .ok (.enter g args) w)
    (hr : Kd.C k45 w A xs.length xs) (hp : PredClue g cap p xs w) :
    Calls Tryz.prog 44 #[.slice A xs.length c, .func (.func g) #[] cap] w fun e w' => e = .returned (.bool (xs.any p)) ∧ Below w.heap.size w w' := by
  rw [← idxOf_nonneg p xs]
  have HC := amk (idx_Clue g cap p A c xs w eg hr hp)
  clear hr hp
  go_enter Tryz.func44, Tryz.ntmps44
  go_wp2_with (go_at_call 69; refine HC.out.mono ?_; rintro e w' ⟨rfl, hb'⟩)
  go_ret
  exact ⟨rfl, hb'⟩
/-! impl.IsPuzzle, by hand: it asks its clues through slices.ContainsFunc and a closure. -/
theorem isPuzzle_closure (w d : Int) (A : Option Addr) (n c gb : Nat) (W : World) (hB : gb < W.heap.size)
    (h0 : W.cell? ⟨gb, 0, none⟩ = some (.int .i64 w)) (h1 : W.cell? ⟨gb, 1, none⟩ = some (.int .i64 d)) (hs : smallB w d 125 = true) (x : S45) :
    Calls Tryz.prog 45 #[.agg #[.int .i64 x.f0, .int .i64 x.f1, .int .i64 x.f2], .pointer (some ⟨gb, 0, none⟩)] W fun e w' => e = .returned (.bool (!clueB w d x.f0 x.f1 x.f2)) ∧ Below W.heap.size W w' := by
  obtain ⟨k, hk⟩ := (impl_IsClue.ev w d x.f0 x.f1 x.f2).rounds
  rw [hs, Bool.true_and] at hk
  have hu27 := Tryz.underlying23
  have hu29 := Tryz.underlying45
  have hu46 := Tryz.underlying26
  have hne : gb ≠ W.heap.size := by omega
  have HK := amk hk
  clear hk hs
  generalize clueB w d x.f0 x.f1 x.f2 = b at HK ⊢
  go_enter Tryz.func45, Tryz.ntmps45
  go_wp2_with (go_at_call 46; refine (impl_IsClue.calls k _ _ _ _ _ _ _ HK.out).mono ?_; rintro e w' ⟨rfl, hb⟩)
  go_ret
  exact ⟨rfl, ((Below.refl _ W).alloc (Nat.le_refl _) _).trans (hb.mono (by simp))⟩
def impl_IsPuzzle.f (a b : Int) (l : List S45) : Option Bool := some (puzzleB a b l)
set_option maxHeartbeats 2000000 in
set_option maxRecDepth 100000 in
theorem impl_IsPuzzle.calls (a0_0 a0_1 : Int) (A0_2 : Option Addr) (c0_2 : Nat) (l0_2 : List S45) (r : Bool) (w : World) (hr0_2 : Kd.C k45 w A0_2 l0_2.length l0_2) (hc0_2 : l0_2.length ≤ c0_2) (h : impl_IsPuzzle.f a0_0 a0_1 l0_2 = some r) :
    Calls Tryz.prog 24 #[.agg #[.int .i64 a0_0, .int .i64 a0_1, .slice A0_2 l0_2.length c0_2]] w fun e w' => e = .returned (.bool r) ∧ Below w.heap.size w w' := by
  obtain rfl := Option.some.inj h
  clear h
  obtain ⟨k, hk⟩ := (impl_isHidden.ev a0_0 a0_1).rounds
  have hu27 := Tryz.underlying23
  have hu46 := Tryz.underlying26
  have hu44 := Tryz.underlying24
  have eg : ∀ args w, (callFunc 45 args).run Tryz.prog w = .ok (.enter 45 args) w := enters_of Tryz.func45 (by kernel_rfl) rfl
  have HE := amk eg
  clear eg
  have HR := amk hr0_2
  have HK := amk hk
  clear hr0_2 hk
  unfold puzzleB
  cases hs : smallB a0_0 a0_1 125 with
  | false =>
    rw [hs] at HK
    clear hs
    go_enter Tryz.func24, Tryz.ntmps24
    go_wp2_with (go_at_call 43; refine (impl_isHidden.calls k _ _ _ _ HK.out).mono ?_; rintro e w' ⟨rfl, hb⟩)
    go_ret
    exact ⟨by simp, ((Below.refl _ w).alloc (Nat.le_refl _) _).trans (hb.mono (by simp))⟩
  | true =>
    rw [hs] at HK
    have HS := amk hs
    clear hs
    by_cases hl : l0_2.length ≤ 6
    · have hl0 : decide (l0_2.length ≤ 6) = true := decide_eq_true hl
      have hl1 : decide ((l0_2.length : Int) ≤ 6) = true := decide_eq_true (by omega)
      rw [hl0]
      simp only [Bool.true_and]
      rw [show (l0_2.all fun c => clueB a0_0 a0_1 c.f0 c.f1 c.f2) = !(l0_2.any fun c => !clueB a0_0 a0_1 c.f0 c.f1 c.f2) by simp [List.all_eq_not_any_not]]
      generalize hz : (l0_2.any fun c => !clueB a0_0 a0_1 c.f0 c.f1 c.f2) = z
      have HZ := amk hz
      clear hz hl
      go_enter Tryz.func24, Tryz.ntmps24
      go_wp2_with (first | (go_at_call 43; refine (impl_isHidden.calls k _ _ _ _ HK.out).mono ?_; rintro e w1 ⟨rfl, hb⟩; have hq0 : w1.cell? ⟨w.heap.size, 0, none⟩ = some (.int .i64 a0_0) := (hb.cell (p := ⟨w.heap.size, 0, none⟩) (by simp)).trans (by simp); have hq1 : w1.cell? ⟨w.heap.size, 1, none⟩ = some (.int .i64 a0_1) := (hb.cell (p := ⟨w.heap.size, 1, none⟩) (by simp)).trans (by simp); have hq2 : w1.cell? ⟨w.heap.size, 2, none⟩ = some (.slice A0_2 l0_2.length c0_2) := (hb.cell (p := ⟨w.heap.size, 2, none⟩) (by simp)).trans (by simp); have BW := amk (((Below.refl _ w).alloc (Nat.le_refl _) _).trans (hb.mono (by simp))); have HSZ := amk (show w.heap.size < w1.heap.size by have := hb.size; simp at this; omega); clear hb) | (go_at_call 44; refine (contains_Clue 45 #[.pointer (some ⟨w.heap.size, 0, none⟩)] (fun c => !clueB a0_0 a0_1 c.f0 c.f1 c.f2) A0_2 c0_2 l0_2 _ HE.out (Kd.C_below HR.out BW.out) (fun x _ W hW => (isPuzzle_closure a0_0 a0_1 A0_2 l0_2.length c0_2 w.heap.size W (Nat.lt_of_lt_of_le HSZ.out hW.size) ((hW.cell (p := ⟨w.heap.size, 0, none⟩) HSZ.out).trans hq0) ((hW.cell (p := ⟨w.heap.size, 1, none⟩) HSZ.out).trans hq1) HS.out x).mono (fun e w' ⟨h1, h2⟩ => ⟨h1, hW.trans (h2.mono hW.size)⟩))).mono ?_; rintro e w2 ⟨rfl, hb2⟩; have BW2 := amk (BW.out.trans (hb2.mono BW.out.size)); clear hb2))
      go_ret
      exact ⟨by rw [HZ.out]; rfl, BW2.out⟩
    · have hl0 : decide (l0_2.length ≤ 6) = false := decide_eq_false hl
      have hl1 : decide ((l0_2.length : Int) ≤ 6) = false := decide_eq_false (by omega)
      rw [hl0]
      clear hl
      go_enter Tryz.func24, Tryz.ntmps24
      go_wp2_with (go_at_call 43; refine (impl_isHidden.calls k _ _ _ _ HK.out).mono ?_; rintro e w1 ⟨rfl, hb⟩; have hq0 : w1.cell? ⟨w.heap.size, 0, none⟩ = some (.int .i64 a0_0) := (hb.cell (p := ⟨w.heap.size, 0, none⟩) (by simp)).trans (by simp); have hq1 : w1.cell? ⟨w.heap.size, 1, none⟩ = some (.int .i64 a0_1) := (hb.cell (p := ⟨w.heap.size, 1, none⟩) (by simp)).trans (by simp); have hq2 : w1.cell? ⟨w.heap.size, 2, none⟩ = some (.slice A0_2 l0_2.length c0_2) := (hb.cell (p := ⟨w.heap.size, 2, none⟩) (by simp)).trans (by simp); have BW := amk (((Below.refl _ w).alloc (Nat.le_refl _) _).trans (hb.mono (by simp))); clear hb)
      go_ret
      exact ⟨by simp, BW.out⟩
/-! ### impl_PuzzleText: function 20 -/
def impl_PuzzleText.f (k : Nat) (a0_0 : Int) (a0_1 : Int) (l0_2 : List (S45)) : Option (ByteArray × Bool) := (impl_IsPuzzle.f a0_0 a0_1 l0_2).bind fun t454 => (if t454 = true then ((impl_puzzleText.f k a0_0 a0_1 l0_2).bind fun t455 => (some (t455, true))) else (some ((⟨#[]⟩ : ByteArray), false)))
set_option maxHeartbeats 8000000 in
set_option maxRecDepth 100000 in
theorem impl_PuzzleText.calls (k : Nat) (a0_0 : Int) (a0_1 : Int) (A0_2 : Option Addr) (c0_2 : Nat) (l0_2 : List (S45)) (r1 : ByteArray) (r2 : Bool) (w : World) (hr0_2 : Kd.C k45 w A0_2 l0_2.length l0_2) (hc0_2 : l0_2.length ≤ c0_2) (htp : TabP w) (h : impl_PuzzleText.f k a0_0 a0_1 l0_2 = some (r1, r2)) :
    Calls Tryz.prog 20 #[.agg #[.int .i64 a0_0, .int .i64 a0_1, .slice A0_2 l0_2.length c0_2]] w fun e w' => e = .returned (.tuple #[.string r1, .bool r2]) ∧ Below w.heap.size w w' := by
  have HTP := amk htp; clear htp; have hu26 := Tryz.underlying26; have HR0_2 := amk hr0_2; have HC0_2 := amk hc0_2; clear hr0_2 hc0_2; have HB := amk (Below.refl w.heap.size w); unfold impl_PuzzleText.f at h; have H := h; clear h; replace H := bE H; obtain ⟨t454, A2, H⟩ := H; replace H := iteB H; obtain ⟨rfl, H⟩ | ⟨rfl, H⟩ := H
  · replace H := bE H; obtain ⟨t455, A4, H⟩ := H; simp only [Option.some.injEq, Prod.mk.injEq] at H; obtain ⟨rfl, rfl⟩ := H; go_enter Tryz.func20, Tryz.ntmps20; go_wp2_with (first | ((with_reducible refine gate_dst (N := 1) rfl ?_); refine boxE_ HB 1 #[.int .i64 a0_0, .int .i64 a0_1, .slice A0_2 l0_2.length c0_2] 26 ?_; clear HB; intro gb453 w5 HB BK453 GW453 GE453 hb; clear hb; obtain ⟨hcz6_0, hcz6_1, hcz6_2, hfz6_0, hfz6_1, hfz6_2⟩ := cells3 BK453.out) | ((with_reducible refine gate_callee (f := 24) rfl ?_); refine goesL_ (some 5) rfl rfl Tryz.func24 (by kernel_rfl) rfl #[.agg #[.int .i64 a0_0, .int .i64 a0_1, .slice A0_2 l0_2.length c0_2]] rfl gL_ ?_; (with_reducible refine (impl_IsPuzzle.calls a0_0 a0_1 _ _ l0_2 true _ ?_ ?_ A2.out).mono ?_); exact cB (Kd.C_below HR0_2.out HB.out); exact HC0_2.out; rintro e w7 ⟨rfl, hb⟩; refine ⟨_, rfl, ?_⟩; replace BK453 := kb2 BK453 hb; replace HB := hB2 HB hb; (try clear hb); obtain ⟨hcz8_0, hcz8_1, hcz8_2, hfz8_0, hfz8_1, hfz8_2⟩ := cells3 BK453.out) | ((with_reducible refine gate_callee (f := 41) rfl ?_); refine goesL_ (some 8) rfl rfl Tryz.func41 (by kernel_rfl) rfl #[.agg #[.int .i64 a0_0, .int .i64 a0_1, .slice A0_2 l0_2.length c0_2]] rfl gL_ ?_; (with_reducible refine (impl_puzzleText.calls k a0_0 a0_1 _ _ l0_2 t455 _ ?side1 ?side2 ?sideT A4.out).mono ?_); (case sideT => exact (HTP.out.below bB)); (case side1 => exact cB (Kd.C_below HR0_2.out HB.out)); (case side2 => exact HC0_2.out); rintro e w9 ⟨rfl, hb⟩; refine ⟨_, rfl, ?_⟩; replace BK453 := kb2 BK453 hb; replace HB := hB2 HB hb; (try clear hb))); go_ret2; exact ⟨rF_, bB⟩
  · simp only [Option.some.injEq, Prod.mk.injEq] at H; obtain ⟨rfl, rfl⟩ := H; go_enter Tryz.func20, Tryz.ntmps20; go_wp2_with (first | ((with_reducible refine gate_dst (N := 1) rfl ?_); refine boxE_ HB 1 #[.int .i64 a0_0, .int .i64 a0_1, .slice A0_2 l0_2.length c0_2] 26 ?_; clear HB; intro gb453 w10 HB BK453 GW453 GE453 hb; clear hb; obtain ⟨hcz11_0, hcz11_1, hcz11_2, hfz11_0, hfz11_1, hfz11_2⟩ := cells3 BK453.out) | ((with_reducible refine gate_callee (f := 24) rfl ?_); refine goesL_ (some 5) rfl rfl Tryz.func24 (by kernel_rfl) rfl #[.agg #[.int .i64 a0_0, .int .i64 a0_1, .slice A0_2 l0_2.length c0_2]] rfl gL_ ?_; (with_reducible refine (impl_IsPuzzle.calls a0_0 a0_1 _ _ l0_2 false _ ?_ ?_ A2.out).mono ?_); exact cB (Kd.C_below HR0_2.out HB.out); exact HC0_2.out; rintro e w12 ⟨rfl, hb⟩; refine ⟨_, rfl, ?_⟩; replace BK453 := kb2 BK453 hb; replace HB := hB2 HB hb; (try clear hb))); go_ret2; exact ⟨rF_, bB⟩
/-! ### spec_pzText: function 42 -/
def spec_pzText.l0 : Nat → ByteArray → List (S45) → Int → Int → Option (ByteArray)
  | 0, _, _, _, _ => none
  | k + 1, x3, x18, x19, x20 => if x20 < x19 then (if 0 ≤ x20 then (if x20 < (x18.length : Int) then (if x20 > 0 then (if x3.size + 1 ≤ 9223372036854775807 then ((spec_l1Num.f k ((rd_T45 x18 x20).f0)).bind fun t461 => (if t461.size + 1 ≤ 9223372036854775807 then ((spec_l1Num.f k ((rd_T45 x18 x20).f1)).bind fun t462 => (if (t461 ++ (⟨#[46]⟩ : ByteArray)).size + t462.size ≤ 9223372036854775807 then (if ((t461 ++ (⟨#[46]⟩ : ByteArray)) ++ t462).size + 1 ≤ 9223372036854775807 then ((spec_l1Num.f k ((rd_T45 x18 x20).f2)).bind fun t463 => (if (((t461 ++ (⟨#[46]⟩ : ByteArray)) ++ t462) ++ (⟨#[46]⟩ : ByteArray)).size + t463.size ≤ 9223372036854775807 then (if (x3 ++ (⟨#[44]⟩ : ByteArray)).size + ((((t461 ++ (⟨#[46]⟩ : ByteArray)) ++ t462) ++ (⟨#[46]⟩ : ByteArray)) ++ t463).size ≤ 9223372036854775807 then (spec_pzText.l0 k ((x3 ++ (⟨#[44]⟩ : ByteArray)) ++ ((((t461 ++ (⟨#[46]⟩ : ByteArray)) ++ t462) ++ (⟨#[46]⟩ : ByteArray)) ++ t463)) x18 x19 (wrap64 (x20 + 1))) else (none)) else (none))) else (none)) else (none))) else (none))) else (none)) else ((spec_l1Num.f k ((rd_T45 x18 x20).f0)).bind fun t464 => (if t464.size + 1 ≤ 9223372036854775807 then ((spec_l1Num.f k ((rd_T45 x18 x20).f1)).bind fun t465 => (if (t464 ++ (⟨#[46]⟩ : ByteArray)).size + t465.size ≤ 9223372036854775807 then (if ((t464 ++ (⟨#[46]⟩ : ByteArray)) ++ t465).size + 1 ≤ 9223372036854775807 then ((spec_l1Num.f k ((rd_T45 x18 x20).f2)).bind fun t466 => (if (((t464 ++ (⟨#[46]⟩ : ByteArray)) ++ t465) ++ (⟨#[46]⟩ : ByteArray)).size + t466.size ≤ 9223372036854775807 then (if x3.size + ((((t464 ++ (⟨#[46]⟩ : ByteArray)) ++ t465) ++ (⟨#[46]⟩ : ByteArray)) ++ t466).size ≤ 9223372036854775807 then (spec_pzText.l0 k (x3 ++ ((((t464 ++ (⟨#[46]⟩ : ByteArray)) ++ t465) ++ (⟨#[46]⟩ : ByteArray)) ++ t466)) x18 x19 (wrap64 (x20 + 1))) else (none)) else (none))) else (none)) else (none))) else (none)))) else (none)) else (none)) else (some x3)
def spec_pzText.f (k : Nat) (a0_0 : Int) (a0_1 : Int) (l0_2 : List (S45)) : Option (ByteArray) := (spec_l1Num.f k a0_0).bind fun t457 => (if t457.size + 1 ≤ 9223372036854775807 then ((spec_l1Num.f k a0_1).bind fun t458 => (if (t457 ++ (⟨#[120]⟩ : ByteArray)).size + t458.size ≤ 9223372036854775807 then (if ((t457 ++ (⟨#[120]⟩ : ByteArray)) ++ t458).size + 1 ≤ 9223372036854775807 then (spec_pzText.l0 k (((t457 ++ (⟨#[120]⟩ : ByteArray)) ++ t458) ++ (⟨#[58]⟩ : ByteArray)) l0_2 (l0_2.length : Int) 0) else (none)) else (none))) else (none))
def spec_pzText.T1 : Bool × List (List Nat × List Nat) := (true, [([], []), ([0], [0]), ([1], [1]), ([2], [2]), ([3], [3]), ([], []), ([5], [5]), ([6], [6]), ([7, 3], [7]), ([4, 8], [4, 8]), ([9], [9]), ([10, 8, 0, 1, 2, 3, 4, 5, 6, 7, 8, 9, 10], [10])])
def spec_pzText.B1 : List Nat := [0, 1, 3, 7, 15, 0, 32, 96, 239, 511, 1023, 2047]
theorem spec_pzText.tab1 : rtab .any (opsOf Tryz.f42 1) = spec_pzText.T1 := by kernel_rfl
theorem spec_pzText.bits1 : waitsOk spec_pzText.T1.2 spec_pzText.B1 = true := by kernel_rfl
def spec_pzText.T7 : Bool × List (List Nat × List Nat) := (true, [([], []), ([], []), ([1], [1]), ([2], [2]), ([3], [3]), ([], []), ([5], [5]), ([6, 3], [6]), ([4, 7], [4, 7]), ([8], [8]), ([], []), ([10], [10]), ([11, 7], [11]), ([9, 12], [9, 12]), ([0, 13], [0, 13]), ([14, 12, 0, 1, 2, 3, 4, 5, 6, 7, 8, 9, 10, 11, 12, 13, 14], [0, 14])])
def spec_pzText.B7 : List Nat := [0, 0, 2, 6, 14, 0, 32, 110, 254, 510, 0, 1024, 3310, 8190, 16383, 32767]
theorem spec_pzText.tab7 : rtab .any (opsOf Tryz.f42 7) = spec_pzText.T7 := by kernel_rfl
theorem spec_pzText.bits7 : waitsOk spec_pzText.T7.2 spec_pzText.B7 = true := by kernel_rfl
set_option maxHeartbeats 8000000 in
set_option maxRecDepth 100000 in
theorem spec_pzText.calls (k : Nat) (a0_0 : Int) (a0_1 : Int) (A0_2 : Option Addr) (c0_2 : Nat) (l0_2 : List (S45)) (r : ByteArray) (w : World) (hr0_2 : Kd.C k45 w A0_2 l0_2.length l0_2) (hc0_2 : l0_2.length ≤ c0_2) (h : spec_pzText.f k a0_0 a0_1 l0_2 = some r) :
    Calls Tryz.prog 42 #[.agg #[.int .i64 a0_0, .int .i64 a0_1, .slice A0_2 l0_2.length c0_2]] w fun e w' => e = .returned (.string r) ∧ Below w.heap.size w w' := by
  have hu26 := Tryz.underlying26; have hu45 := Tryz.underlying45; have HR0_2 := amk hr0_2; have HC0_2 := amk hc0_2; clear hr0_2 hc0_2; have HB := amk (Below.refl w.heap.size w); unfold spec_pzText.f at h; have H := h; clear h; replace H := bE H; obtain ⟨t457, A2, H⟩ := H
  by_cases c3 : t457.size + 1 ≤ 9223372036854775807
  · rw [if_pos c3] at H; have c3b0 := eq_true c3; have c3b1 : decide (t457.size + 1 ≤ 9223372036854775807) = true := decide_eq_true c3; (try have c3b2 : (9223372036854775807 < t457.size + 1) = False := eq_false (Nat.not_lt.2 c3)); replace H := bE H; obtain ⟨t458, A4, H⟩ := H
    by_cases c5 : (t457 ++ (⟨#[120]⟩ : ByteArray)).size + t458.size ≤ 9223372036854775807
    · rw [if_pos c5] at H; have c5b0 := eq_true c5; have c5b1 : decide ((t457 ++ (⟨#[120]⟩ : ByteArray)).size + t458.size ≤ 9223372036854775807) = true := decide_eq_true c5; (try have c5b2 : (9223372036854775807 < (t457 ++ (⟨#[120]⟩ : ByteArray)).size + t458.size) = False := eq_false (Nat.not_lt.2 c5)); (try have c5b3 : (9223372036854775807 < t457.size + 1 + t458.size) = False := eq_false (by have h9 := Nat.not_lt.2 c5; simp only [ByteArray.size_append] at h9; exact h9)); (try have c5b4 : decide (t457.size + 1 + t458.size ≤ 9223372036854775807) = true := decide_eq_true (by have h9 := c5; simp only [ByteArray.size_append] at h9; exact h9))
      by_cases c6 : ((t457 ++ (⟨#[120]⟩ : ByteArray)) ++ t458).size + 1 ≤ 9223372036854775807
      · rw [if_pos c6] at H; have c6b0 := eq_true c6; have c6b1 : decide (((t457 ++ (⟨#[120]⟩ : ByteArray)) ++ t458).size + 1 ≤ 9223372036854775807) = true := decide_eq_true c6; (try have c6b2 : (9223372036854775807 < ((t457 ++ (⟨#[120]⟩ : ByteArray)) ++ t458).size + 1) = False := eq_false (Nat.not_lt.2 c6)); (try have c6b3 : (9223372036854775807 < t457.size + 1 + t458.size + 1) = False := eq_false (by have h9 := Nat.not_lt.2 c6; simp only [ByteArray.size_append] at h9; exact h9)); (try have c6b4 : decide (t457.size + 1 + t458.size + 1 ≤ 9223372036854775807) = true := decide_eq_true (by have h9 := c6; simp only [ByteArray.size_append] at h9; exact h9)); have H' := amk H; clear H; go_enter Tryz.func42, Tryz.ntmps42; (try go_wp2_with (first | ((with_reducible refine gate_dst (N := 1) rfl ?_); refine boxE_ HB 1 #[.int .i64 a0_0, .int .i64 a0_1, .slice A0_2 l0_2.length c0_2] 26 ?_; clear HB; intro gb456 w7 HB BK456 GW456 GE456 hb; clear hb))); replace BK456 := amk (blk_drew BK456.out); replace HB := amk (bd_ HB.out); refine start_ (n := 12) (S := fun w' => w'.cell? ⟨gb456, 0, none⟩ = some (.int .i64 a0_0) ∧ w'.cell? ⟨gb456, 1, none⟩ = some (.int .i64 a0_1) ∧ w'.cell? ⟨gb456, 2, none⟩ = some (.slice A0_2 l0_2.length c0_2)) (ds := []) (bA 12 0) (by kernel_rfl) rfl rfl ⟨(blk_cell BK456.out 0).trans rfl, (blk_cell BK456.out 1).trans rfl, (blk_cell BK456.out 2).trans rfl⟩ (fun hHeld => ?_); refine with_tabW spec_pzText.tab1 spec_pzText.bits1 (fun HT_ HW_ => ?_); generalize w7.drew = w8 at BK456 HB hHeld ⊢; refine pU_ HT_ 0 (some 6) (bA 12 1) ?_; refine pU_ HT_ 1 (some 7) (bA 12 3) ?_; refine pU_ HT_ 5 (some 11) (bA 12 35) ?_; refine pU_ HT_ 6 (some 12) (bA 12 99) ?_; refine tK_ HT_ HW_ hHeld 2 (some 8) (bA 12 103) ?_; refine tK_ HT_ HW_ hHeld 7 (some 13) (bA 12 231) ?_; refine oN_ HT_ 3 (some 9) (bA 12 239) (fun K hK => ?_); refine goes_ Tryz.func67 (by kernel_rfl) rfl #[.int .i64 a0_0] (by rfl) rfl rfl gL_ ?_; (with_reducible refine (spec_l1Num.calls k a0_0 t457 _ A2.out).mono ?_); rintro e w9 ⟨rfl, hb⟩; refine ⟨_, rfl, ?_⟩; replace BK456 := kb2 BK456 hb; replace HB := hB2 HB hb; (try clear hb); refine hK.out _ _ hC_ (fun hHeld => ?_); clear hK K; refine nN_ (some 9) ?_; refine pU_ HT_ 4 (some 10) (bA 12 255) ?_; refine oN_ HT_ 8 (some 14) (bA 12 511) (fun K hK => ?_); refine goes_ Tryz.func67 (by kernel_rfl) rfl #[.int .i64 a0_1] (by rfl) rfl rfl gL_ ?_; (with_reducible refine (spec_l1Num.calls k a0_1 t458 _ A4.out).mono ?_); rintro e w10 ⟨rfl, hb⟩; refine ⟨_, rfl, ?_⟩; replace BK456 := kb2 BK456 hb; replace HB := hB2 HB hb; (try clear hb); refine hK.out _ _ hC_ (fun hHeld => ?_); clear hK K; refine nN_ (some 14) ?_; refine pU_ HT_ 9 (some 15) (bA 12 1023) ?_; refine pU_ HT_ 10 (some 16) (bA 12 2047) ?_; refine pU_ HT_ 11 (some 3) (bA 12 4095) ?_; refine done_ (done_of HT_.out (by kernel_rfl)) ?_; obtain ⟨hcz11_0, hcz11_1, hcz11_2, hfz11_0, hfz11_1, hfz11_2⟩ := cells3 BK456.out; (try go_wp2)
        go_loopg [3, 20] k (fun kq v3 v20 w' => ∃ (x3_1 : ByteArray) (x20_1 : Int), v3 = .string x3_1 ∧ v20 = .int .i64 x20_1 ∧ Aside0 (spec_pzText.l0 kq x3_1 l0_2 (l0_2.length : Int) x20_1 = some r) ∧ Aside0 (kq ≤ k) ∧ Aside0 (w'.heap[gb456]? = some (.cells #[.int .i64 a0_0, .int .i64 a0_1, (.slice A0_2 l0_2.length c0_2)] 26 (0, 0))) ∧ Aside0 (Below w.heap.size w w'))
        case atStart => exact ⟨(((t457 ++ (⟨#[120]⟩ : ByteArray)) ++ t458) ++ (⟨#[58]⟩ : ByteArray)), (0), rS_, rS_, H', ⟨Nat.le_refl _⟩, ⟨kB BK456⟩, ⟨bB⟩⟩
        case round =>
          clear H'; (try clear p2); (try clear c3); (try clear c3b0); (try clear c3b1); (try clear c3b2); (try clear c4); (try clear c5); (try clear c5b0); (try clear c5b1); (try clear c5b2); (try clear c6); (try clear c6b0); (try clear c6b1); (try clear c6b2); (try clear hcz11_0); (try clear hcz11_1); (try clear hcz11_2); (try clear hfz11_0); (try clear hfz11_1); (try clear hfz11_2); obtain ⟨x3_1, x20_1, rfl, rfl, HA, HK1, BK456, HB⟩ := hrel
          cases gk with
          | zero => exact absurd HA.out (by simp [spec_pzText.l0])
          | succ k1 =>
            have H := HA.out; clear HA; simp only [spec_pzText.l0] at H; replace H := iteE H; obtain ⟨c12b0, H⟩ | ⟨c12b0, H⟩ := H
            · replace H := iteN H; obtain ⟨c13b0, H⟩ := H; replace H := iteN H; obtain ⟨c14b0, H⟩ := H
              by_cases c15 : x20_1 > 0
              · rw [if_pos c15] at H; have c15b0 : decide (0 < x20_1) = true := decide_eq_true c15; clear c15
                by_cases c16 : x3_1.size + 1 ≤ 9223372036854775807
                · rw [if_pos c16] at H; have c16b0 := eq_true c16; have c16b1 : decide (x3_1.size + 1 ≤ 9223372036854775807) = true := decide_eq_true c16; (try have c16b2 : (9223372036854775807 < x3_1.size + 1) = False := eq_false (Nat.not_lt.2 c16)); replace H := bE H; obtain ⟨t461, A17, H⟩ := H
                  by_cases c18 : t461.size + 1 ≤ 9223372036854775807
                  · rw [if_pos c18] at H; have c18b0 := eq_true c18; have c18b1 : decide (t461.size + 1 ≤ 9223372036854775807) = true := decide_eq_true c18; (try have c18b2 : (9223372036854775807 < t461.size + 1) = False := eq_false (Nat.not_lt.2 c18)); replace H := bE H; obtain ⟨t462, A19, H⟩ := H
                    by_cases c20 : (t461 ++ (⟨#[46]⟩ : ByteArray)).size + t462.size ≤ 9223372036854775807
                    · rw [if_pos c20] at H; have c20b0 := eq_true c20; have c20b1 : decide ((t461 ++ (⟨#[46]⟩ : ByteArray)).size + t462.size ≤ 9223372036854775807) = true := decide_eq_true c20; (try have c20b2 : (9223372036854775807 < (t461 ++ (⟨#[46]⟩ : ByteArray)).size + t462.size) = False := eq_false (Nat.not_lt.2 c20)); (try have c20b3 : (9223372036854775807 < t461.size + 1 + t462.size) = False := eq_false (by have h9 := Nat.not_lt.2 c20; simp only [ByteArray.size_append] at h9; exact h9)); (try have c20b4 : decide (t461.size + 1 + t462.size ≤ 9223372036854775807) = true := decide_eq_true (by have h9 := c20; simp only [ByteArray.size_append] at h9; exact h9))
                      by_cases c21 : ((t461 ++ (⟨#[46]⟩ : ByteArray)) ++ t462).size + 1 ≤ 9223372036854775807
                      · rw [if_pos c21] at H; have c21b0 := eq_true c21; have c21b1 : decide (((t461 ++ (⟨#[46]⟩ : ByteArray)) ++ t462).size + 1 ≤ 9223372036854775807) = true := decide_eq_true c21; (try have c21b2 : (9223372036854775807 < ((t461 ++ (⟨#[46]⟩ : ByteArray)) ++ t462).size + 1) = False := eq_false (Nat.not_lt.2 c21)); (try have c21b3 : (9223372036854775807 < t461.size + 1 + t462.size + 1) = False := eq_false (by have h9 := Nat.not_lt.2 c21; simp only [ByteArray.size_append] at h9; exact h9)); (try have c21b4 : decide (t461.size + 1 + t462.size + 1 ≤ 9223372036854775807) = true := decide_eq_true (by have h9 := c21; simp only [ByteArray.size_append] at h9; exact h9)); replace H := bE H; obtain ⟨t463, A22, H⟩ := H
                        by_cases c23 : (((t461 ++ (⟨#[46]⟩ : ByteArray)) ++ t462) ++ (⟨#[46]⟩ : ByteArray)).size + t463.size ≤ 9223372036854775807
                        · rw [if_pos c23] at H; have c23b0 := eq_true c23; have c23b1 : decide ((((t461 ++ (⟨#[46]⟩ : ByteArray)) ++ t462) ++ (⟨#[46]⟩ : ByteArray)).size + t463.size ≤ 9223372036854775807) = true := decide_eq_true c23; (try have c23b2 : (9223372036854775807 < (((t461 ++ (⟨#[46]⟩ : ByteArray)) ++ t462) ++ (⟨#[46]⟩ : ByteArray)).size + t463.size) = False := eq_false (Nat.not_lt.2 c23)); (try have c23b3 : (9223372036854775807 < t461.size + 1 + t462.size + 1 + t463.size) = False := eq_false (by have h9 := Nat.not_lt.2 c23; simp only [ByteArray.size_append] at h9; exact h9)); (try have c23b4 : decide (t461.size + 1 + t462.size + 1 + t463.size ≤ 9223372036854775807) = true := decide_eq_true (by have h9 := c23; simp only [ByteArray.size_append] at h9; exact h9))
                          by_cases c24 : (x3_1 ++ (⟨#[44]⟩ : ByteArray)).size + ((((t461 ++ (⟨#[46]⟩ : ByteArray)) ++ t462) ++ (⟨#[46]⟩ : ByteArray)) ++ t463).size ≤ 9223372036854775807
                          · rw [if_pos c24] at H; have c24b0 := eq_true c24; have c24b1 : decide ((x3_1 ++ (⟨#[44]⟩ : ByteArray)).size + ((((t461 ++ (⟨#[46]⟩ : ByteArray)) ++ t462) ++ (⟨#[46]⟩ : ByteArray)) ++ t463).size ≤ 9223372036854775807) = true := decide_eq_true c24; (try have c24b2 : (9223372036854775807 < (x3_1 ++ (⟨#[44]⟩ : ByteArray)).size + ((((t461 ++ (⟨#[46]⟩ : ByteArray)) ++ t462) ++ (⟨#[46]⟩ : ByteArray)) ++ t463).size) = False := eq_false (Nat.not_lt.2 c24)); (try have c24b3 : (9223372036854775807 < x3_1.size + 1 + (t461.size + 1 + t462.size + 1 + t463.size)) = False := eq_false (by have h9 := Nat.not_lt.2 c24; simp only [ByteArray.size_append] at h9; exact h9)); (try have c24b4 : decide (x3_1.size + 1 + (t461.size + 1 + t462.size + 1 + t463.size) ≤ 9223372036854775807) = true := decide_eq_true (by have h9 := c24; simp only [ByteArray.size_append] at h9; exact h9)); have H' := amk H; clear H; have p459 : 0 ≤ (x20_1 : Int) := dA_; have q459 : x20_1 < (l0_2.length : Int) := dA_; obtain ⟨ad459, e459, hx459_0, hx459_1, hx459_2⟩ := at_T45 HR0_2.out x20_1 p459 q459; cases e459; replace hx459_0 := (HB.out.cell (World.block_lt_of_cell? w _ hx459_0)).trans hx459_0; replace hx459_1 := (HB.out.cell (World.block_lt_of_cell? w _ hx459_1)).trans hx459_1; replace hx459_2 := (HB.out.cell (World.block_lt_of_cell? w _ hx459_2)).trans hx459_2; replace p459 := eq_true p459; replace q459 := eq_true q459; (try go_wp2_with (first | ((with_reducible refine gate_dst (N := 5) rfl ?_); refine boxG_ 5 #[.int .i64 0, .int .i64 0, .int .i64 0] 45 ?_; intro gb460 w25 hg BK460 hb; have GW460 := sZ HB hg; have GE460 := sZ HB hg; replace HB := hB2 HB hb; have NB456_460 := neL BK456 hg; have NB460_456 := neR BK456 hg; replace BK456 := kb2 BK456 hb; clear hb hg; have hnb26 := NB460_456.out; have hnc26 := NB456_460.out; obtain ⟨hcz27_0, hcz27_1, hcz27_2, hfz27_0, hfz27_1, hfz27_2⟩ := cells3 BK460.out))); have n0_ : Aside0 ((((w25.setCell ⟨gb460, 0, none⟩ (.int .i64 ((rd_T45 l0_2 x20_1).f0))).setCell ⟨gb460, 1, none⟩ (.int .i64 ((rd_T45 l0_2 x20_1).f1))).setCell ⟨gb460, 2, none⟩ (.int .i64 ((rd_T45 l0_2 x20_1).f2))).heap[gb456]? = some (.cells #[.int .i64 a0_0, .int .i64 a0_1, .slice (some ad459) l0_2.length c0_2] 26 (0, 0))) := ⟨kB BK456⟩; have n1_ : Aside0 ((((w25.setCell ⟨gb460, 0, none⟩ (.int .i64 ((rd_T45 l0_2 x20_1).f0))).setCell ⟨gb460, 1, none⟩ (.int .i64 ((rd_T45 l0_2 x20_1).f1))).setCell ⟨gb460, 2, none⟩ (.int .i64 ((rd_T45 l0_2 x20_1).f2))).heap[gb460]? = some (.cells #[.int .i64 ((rd_T45 l0_2 x20_1).f0), .int .i64 ((rd_T45 l0_2 x20_1).f1), .int .i64 ((rd_T45 l0_2 x20_1).f2)] 45 (0, 0))) := ⟨kP BK460⟩; have n2_ : Aside0 (Below w.heap.size w (((w25.setCell ⟨gb460, 0, none⟩ (.int .i64 ((rd_T45 l0_2 x20_1).f0))).setCell ⟨gb460, 1, none⟩ (.int .i64 ((rd_T45 l0_2 x20_1).f1))).setCell ⟨gb460, 2, none⟩ (.int .i64 ((rd_T45 l0_2 x20_1).f2)))) := ⟨bB⟩; generalize (((w25.setCell ⟨gb460, 0, none⟩ (.int .i64 ((rd_T45 l0_2 x20_1).f0))).setCell ⟨gb460, 1, none⟩ (.int .i64 ((rd_T45 l0_2 x20_1).f1))).setCell ⟨gb460, 2, none⟩ (.int .i64 ((rd_T45 l0_2 x20_1).f2))) = w28 at n0_ n1_ n2_ ⊢; have BK456 := n0_; have BK460 := n1_; have HB := n2_; clear n0_ n1_ n2_; replace BK456 := amk (blk_drew BK456.out); replace BK460 := amk (blk_drew BK460.out); replace HB := amk (bd_ HB.out); refine start_ (n := 16) (S := fun w' => w'.cell? ⟨gb460, 0, none⟩ = some (.int .i64 ((rd_T45 l0_2 x20_1).f0)) ∧ w'.cell? ⟨gb460, 1, none⟩ = some (.int .i64 ((rd_T45 l0_2 x20_1).f1)) ∧ w'.cell? ⟨gb460, 2, none⟩ = some (.int .i64 ((rd_T45 l0_2 x20_1).f2))) (ds := []) (bA 16 0) (by kernel_rfl) rfl rfl ⟨(blk_cell BK460.out 0).trans rfl, (blk_cell BK460.out 1).trans rfl, (blk_cell BK460.out 2).trans rfl⟩ (fun hHeld => ?_); refine with_tabW spec_pzText.tab7 spec_pzText.bits7 (fun HT_ HW_ => ?_); generalize w28.drew = w29 at BK456 BK460 HB hHeld ⊢; refine pU_ HT_ 0 (some 29) (bA 16 1) ?_; refine pU_ HT_ 1 (some 30) (bA 16 3) ?_; refine pU_ HT_ 5 (some 34) (bA 16 35) ?_; refine pU_ HT_ 10 (some 39) (bA 16 1059) ?_; refine tK_ HT_ HW_ hHeld 2 (some 31) (bA 16 1063) ?_; refine tK_ HT_ HW_ hHeld 6 (some 35) (bA 16 1127) ?_; refine tK_ HT_ HW_ hHeld 11 (some 40) (bA 16 3175) ?_; refine oN_ HT_ 3 (some 32) (bA 16 3183) (fun K hK => ?_); refine goes_ Tryz.func67 (by kernel_rfl) rfl #[.int .i64 ((rd_T45 l0_2 x20_1).f0)] (by rfl) rfl rfl gL_ ?_; (with_reducible refine (spec_l1Num.calls k1 ((rd_T45 l0_2 x20_1).f0) t461 _ A17.out).mono ?_); rintro e w30 ⟨rfl, hb⟩; refine ⟨_, rfl, ?_⟩; replace BK456 := kb2 BK456 hb; replace BK460 := kb2 BK460 hb; replace HB := hB2 HB hb; (try clear hb); refine hK.out _ _ hC_ (fun hHeld => ?_); clear hK K; refine nN_ (some 32) ?_; refine pU_ HT_ 4 (some 33) (bA 16 3199) ?_; refine oN_ HT_ 7 (some 36) (bA 16 3327) (fun K hK => ?_); refine goes_ Tryz.func67 (by kernel_rfl) rfl #[.int .i64 ((rd_T45 l0_2 x20_1).f1)] (by rfl) rfl rfl gL_ ?_; (with_reducible refine (spec_l1Num.calls k1 ((rd_T45 l0_2 x20_1).f1) t462 _ A19.out).mono ?_); rintro e w31 ⟨rfl, hb⟩; refine ⟨_, rfl, ?_⟩; replace BK456 := kb2 BK456 hb; replace BK460 := kb2 BK460 hb; replace HB := hB2 HB hb; (try clear hb); refine hK.out _ _ hC_ (fun hHeld => ?_); clear hK K; refine nN_ (some 36) ?_; refine pU_ HT_ 8 (some 37) (bA 16 3583) ?_; refine pU_ HT_ 9 (some 38) (bA 16 4095) ?_; refine oN_ HT_ 12 (some 41) (bA 16 8191) (fun K hK => ?_); refine goes_ Tryz.func67 (by kernel_rfl) rfl #[.int .i64 ((rd_T45 l0_2 x20_1).f2)] (by rfl) rfl rfl gL_ ?_; (with_reducible refine (spec_l1Num.calls k1 ((rd_T45 l0_2 x20_1).f2) t463 _ A22.out).mono ?_); rintro e w32 ⟨rfl, hb⟩; refine ⟨_, rfl, ?_⟩; replace BK456 := kb2 BK456 hb; replace BK460 := kb2 BK460 hb; replace HB := hB2 HB hb; (try clear hb); refine hK.out _ _ hC_ (fun hHeld => ?_); clear hK K; refine nN_ (some 41) ?_; refine pU_ HT_ 13 (some 42) (bA 16 16383) ?_; refine pU_ HT_ 14 (some 43) (bA 16 32767) ?_; refine pU_ HT_ 15 (some 3) (bA 16 65535) ?_; refine done_ (done_of HT_.out (by kernel_rfl)) ?_; (try go_wp2); go_roundg k1
                            case measure => have := HK1.out; omega
                            case rel => exact ⟨((x3_1 ++ (⟨#[44]⟩ : ByteArray)) ++ ((((t461 ++ (⟨#[46]⟩ : ByteArray)) ++ t462) ++ (⟨#[46]⟩ : ByteArray)) ++ t463)), (wrap64 (x20_1 + 1)), rS_, rS_, H', ⟨by have := HK1.out; omega⟩, ⟨kB BK456⟩, ⟨bB⟩⟩
                          · rw [if_neg c24] at H; exact absurd H (by simp)
                        · rw [if_neg c23] at H; exact absurd H (by simp)
                      · rw [if_neg c21] at H; exact absurd H (by simp)
                    · rw [if_neg c20] at H; exact absurd H (by simp)
                  · rw [if_neg c18] at H; exact absurd H (by simp)
                · rw [if_neg c16] at H; exact absurd H (by simp)
              · rw [if_neg c15] at H; have c15b0 : decide (0 < x20_1) = false := decide_eq_false c15; clear c15; replace H := bE H; obtain ⟨t464, A33, H⟩ := H
                by_cases c34 : t464.size + 1 ≤ 9223372036854775807
                · rw [if_pos c34] at H; have c34b0 := eq_true c34; have c34b1 : decide (t464.size + 1 ≤ 9223372036854775807) = true := decide_eq_true c34; (try have c34b2 : (9223372036854775807 < t464.size + 1) = False := eq_false (Nat.not_lt.2 c34)); replace H := bE H; obtain ⟨t465, A35, H⟩ := H
                  by_cases c36 : (t464 ++ (⟨#[46]⟩ : ByteArray)).size + t465.size ≤ 9223372036854775807
                  · rw [if_pos c36] at H; have c36b0 := eq_true c36; have c36b1 : decide ((t464 ++ (⟨#[46]⟩ : ByteArray)).size + t465.size ≤ 9223372036854775807) = true := decide_eq_true c36; (try have c36b2 : (9223372036854775807 < (t464 ++ (⟨#[46]⟩ : ByteArray)).size + t465.size) = False := eq_false (Nat.not_lt.2 c36)); (try have c36b3 : (9223372036854775807 < t464.size + 1 + t465.size) = False := eq_false (by have h9 := Nat.not_lt.2 c36; simp only [ByteArray.size_append] at h9; exact h9)); (try have c36b4 : decide (t464.size + 1 + t465.size ≤ 9223372036854775807) = true := decide_eq_true (by have h9 := c36; simp only [ByteArray.size_append] at h9; exact h9))
                    by_cases c37 : ((t464 ++ (⟨#[46]⟩ : ByteArray)) ++ t465).size + 1 ≤ 9223372036854775807
                    · rw [if_pos c37] at H; have c37b0 := eq_true c37; have c37b1 : decide (((t464 ++ (⟨#[46]⟩ : ByteArray)) ++ t465).size + 1 ≤ 9223372036854775807) = true := decide_eq_true c37; (try have c37b2 : (9223372036854775807 < ((t464 ++ (⟨#[46]⟩ : ByteArray)) ++ t465).size + 1) = False := eq_false (Nat.not_lt.2 c37)); (try have c37b3 : (9223372036854775807 < t464.size + 1 + t465.size + 1) = False := eq_false (by have h9 := Nat.not_lt.2 c37; simp only [ByteArray.size_append] at h9; exact h9)); (try have c37b4 : decide (t464.size + 1 + t465.size + 1 ≤ 9223372036854775807) = true := decide_eq_true (by have h9 := c37; simp only [ByteArray.size_append] at h9; exact h9)); replace H := bE H; obtain ⟨t466, A38, H⟩ := H
                      by_cases c39 : (((t464 ++ (⟨#[46]⟩ : ByteArray)) ++ t465) ++ (⟨#[46]⟩ : ByteArray)).size + t466.size ≤ 9223372036854775807
                      · rw [if_pos c39] at H; have c39b0 := eq_true c39; have c39b1 : decide ((((t464 ++ (⟨#[46]⟩ : ByteArray)) ++ t465) ++ (⟨#[46]⟩ : ByteArray)).size + t466.size ≤ 9223372036854775807) = true := decide_eq_true c39; (try have c39b2 : (9223372036854775807 < (((t464 ++ (⟨#[46]⟩ : ByteArray)) ++ t465) ++ (⟨#[46]⟩ : ByteArray)).size + t466.size) = False := eq_false (Nat.not_lt.2 c39)); (try have c39b3 : (9223372036854775807 < t464.size + 1 + t465.size + 1 + t466.size) = False := eq_false (by have h9 := Nat.not_lt.2 c39; simp only [ByteArray.size_append] at h9; exact h9)); (try have c39b4 : decide (t464.size + 1 + t465.size + 1 + t466.size ≤ 9223372036854775807) = true := decide_eq_true (by have h9 := c39; simp only [ByteArray.size_append] at h9; exact h9))
                        by_cases c40 : x3_1.size + ((((t464 ++ (⟨#[46]⟩ : ByteArray)) ++ t465) ++ (⟨#[46]⟩ : ByteArray)) ++ t466).size ≤ 9223372036854775807
                        · rw [if_pos c40] at H; have c40b0 := eq_true c40; have c40b1 : decide (x3_1.size + ((((t464 ++ (⟨#[46]⟩ : ByteArray)) ++ t465) ++ (⟨#[46]⟩ : ByteArray)) ++ t466).size ≤ 9223372036854775807) = true := decide_eq_true c40; (try have c40b2 : (9223372036854775807 < x3_1.size + ((((t464 ++ (⟨#[46]⟩ : ByteArray)) ++ t465) ++ (⟨#[46]⟩ : ByteArray)) ++ t466).size) = False := eq_false (Nat.not_lt.2 c40)); (try have c40b3 : (9223372036854775807 < x3_1.size + (t464.size + 1 + t465.size + 1 + t466.size)) = False := eq_false (by have h9 := Nat.not_lt.2 c40; simp only [ByteArray.size_append] at h9; exact h9)); (try have c40b4 : decide (x3_1.size + (t464.size + 1 + t465.size + 1 + t466.size) ≤ 9223372036854775807) = true := decide_eq_true (by have h9 := c40; simp only [ByteArray.size_append] at h9; exact h9)); have H' := amk H; clear H; have p459 : 0 ≤ (x20_1 : Int) := dA_; have q459 : x20_1 < (l0_2.length : Int) := dA_; obtain ⟨ad459, e459, hx459_0, hx459_1, hx459_2⟩ := at_T45 HR0_2.out x20_1 p459 q459; cases e459; replace hx459_0 := (HB.out.cell (World.block_lt_of_cell? w _ hx459_0)).trans hx459_0; replace hx459_1 := (HB.out.cell (World.block_lt_of_cell? w _ hx459_1)).trans hx459_1; replace hx459_2 := (HB.out.cell (World.block_lt_of_cell? w _ hx459_2)).trans hx459_2; replace p459 := eq_true p459; replace q459 := eq_true q459; (try go_wp2_with (first | ((with_reducible refine gate_dst (N := 5) rfl ?_); refine boxG_ 5 #[.int .i64 0, .int .i64 0, .int .i64 0] 45 ?_; intro gb460 w41 hg BK460 hb; have GW460 := sZ HB hg; have GE460 := sZ HB hg; replace HB := hB2 HB hb; have NB456_460 := neL BK456 hg; have NB460_456 := neR BK456 hg; replace BK456 := kb2 BK456 hb; clear hb hg; have hnb42 := NB460_456.out; have hnc42 := NB456_460.out; obtain ⟨hcz43_0, hcz43_1, hcz43_2, hfz43_0, hfz43_1, hfz43_2⟩ := cells3 BK460.out))); have n0_ : Aside0 ((((w41.setCell ⟨gb460, 0, none⟩ (.int .i64 ((rd_T45 l0_2 x20_1).f0))).setCell ⟨gb460, 1, none⟩ (.int .i64 ((rd_T45 l0_2 x20_1).f1))).setCell ⟨gb460, 2, none⟩ (.int .i64 ((rd_T45 l0_2 x20_1).f2))).heap[gb456]? = some (.cells #[.int .i64 a0_0, .int .i64 a0_1, .slice (some ad459) l0_2.length c0_2] 26 (0, 0))) := ⟨kB BK456⟩; have n1_ : Aside0 ((((w41.setCell ⟨gb460, 0, none⟩ (.int .i64 ((rd_T45 l0_2 x20_1).f0))).setCell ⟨gb460, 1, none⟩ (.int .i64 ((rd_T45 l0_2 x20_1).f1))).setCell ⟨gb460, 2, none⟩ (.int .i64 ((rd_T45 l0_2 x20_1).f2))).heap[gb460]? = some (.cells #[.int .i64 ((rd_T45 l0_2 x20_1).f0), .int .i64 ((rd_T45 l0_2 x20_1).f1), .int .i64 ((rd_T45 l0_2 x20_1).f2)] 45 (0, 0))) := ⟨kP BK460⟩; have n2_ : Aside0 (Below w.heap.size w (((w41.setCell ⟨gb460, 0, none⟩ (.int .i64 ((rd_T45 l0_2 x20_1).f0))).setCell ⟨gb460, 1, none⟩ (.int .i64 ((rd_T45 l0_2 x20_1).f1))).setCell ⟨gb460, 2, none⟩ (.int .i64 ((rd_T45 l0_2 x20_1).f2)))) := ⟨bB⟩; generalize (((w41.setCell ⟨gb460, 0, none⟩ (.int .i64 ((rd_T45 l0_2 x20_1).f0))).setCell ⟨gb460, 1, none⟩ (.int .i64 ((rd_T45 l0_2 x20_1).f1))).setCell ⟨gb460, 2, none⟩ (.int .i64 ((rd_T45 l0_2 x20_1).f2))) = w44 at n0_ n1_ n2_ ⊢; have BK456 := n0_; have BK460 := n1_; have HB := n2_; clear n0_ n1_ n2_; replace BK456 := amk (blk_drew BK456.out); replace BK460 := amk (blk_drew BK460.out); replace HB := amk (bd_ HB.out); refine start_ (n := 16) (S := fun w' => w'.cell? ⟨gb460, 0, none⟩ = some (.int .i64 ((rd_T45 l0_2 x20_1).f0)) ∧ w'.cell? ⟨gb460, 1, none⟩ = some (.int .i64 ((rd_T45 l0_2 x20_1).f1)) ∧ w'.cell? ⟨gb460, 2, none⟩ = some (.int .i64 ((rd_T45 l0_2 x20_1).f2))) (ds := []) (bA 16 0) (by kernel_rfl) rfl rfl ⟨(blk_cell BK460.out 0).trans rfl, (blk_cell BK460.out 1).trans rfl, (blk_cell BK460.out 2).trans rfl⟩ (fun hHeld => ?_); refine with_tabW spec_pzText.tab7 spec_pzText.bits7 (fun HT_ HW_ => ?_); generalize w44.drew = w45 at BK456 BK460 HB hHeld ⊢; refine pU_ HT_ 0 (some 29) (bA 16 1) ?_; refine pU_ HT_ 1 (some 30) (bA 16 3) ?_; refine pU_ HT_ 5 (some 34) (bA 16 35) ?_; refine pU_ HT_ 10 (some 39) (bA 16 1059) ?_; refine tK_ HT_ HW_ hHeld 2 (some 31) (bA 16 1063) ?_; refine tK_ HT_ HW_ hHeld 6 (some 35) (bA 16 1127) ?_; refine tK_ HT_ HW_ hHeld 11 (some 40) (bA 16 3175) ?_; refine oN_ HT_ 3 (some 32) (bA 16 3183) (fun K hK => ?_); refine goes_ Tryz.func67 (by kernel_rfl) rfl #[.int .i64 ((rd_T45 l0_2 x20_1).f0)] (by rfl) rfl rfl gL_ ?_; (with_reducible refine (spec_l1Num.calls k1 ((rd_T45 l0_2 x20_1).f0) t464 _ A33.out).mono ?_); rintro e w46 ⟨rfl, hb⟩; refine ⟨_, rfl, ?_⟩; replace BK456 := kb2 BK456 hb; replace BK460 := kb2 BK460 hb; replace HB := hB2 HB hb; (try clear hb); refine hK.out _ _ hC_ (fun hHeld => ?_); clear hK K; refine nN_ (some 32) ?_; refine pU_ HT_ 4 (some 33) (bA 16 3199) ?_; refine oN_ HT_ 7 (some 36) (bA 16 3327) (fun K hK => ?_); refine goes_ Tryz.func67 (by kernel_rfl) rfl #[.int .i64 ((rd_T45 l0_2 x20_1).f1)] (by rfl) rfl rfl gL_ ?_; (with_reducible refine (spec_l1Num.calls k1 ((rd_T45 l0_2 x20_1).f1) t465 _ A35.out).mono ?_); rintro e w47 ⟨rfl, hb⟩; refine ⟨_, rfl, ?_⟩; replace BK456 := kb2 BK456 hb; replace BK460 := kb2 BK460 hb; replace HB := hB2 HB hb; (try clear hb); refine hK.out _ _ hC_ (fun hHeld => ?_); clear hK K; refine nN_ (some 36) ?_; refine pU_ HT_ 8 (some 37) (bA 16 3583) ?_; refine pU_ HT_ 9 (some 38) (bA 16 4095) ?_; refine oN_ HT_ 12 (some 41) (bA 16 8191) (fun K hK => ?_); refine goes_ Tryz.func67 (by kernel_rfl) rfl #[.int .i64 ((rd_T45 l0_2 x20_1).f2)] (by rfl) rfl rfl gL_ ?_; (with_reducible refine (spec_l1Num.calls k1 ((rd_T45 l0_2 x20_1).f2) t466 _ A38.out).mono ?_); rintro e w48 ⟨rfl, hb⟩; refine ⟨_, rfl, ?_⟩; replace BK456 := kb2 BK456 hb; replace BK460 := kb2 BK460 hb; replace HB := hB2 HB hb; (try clear hb); refine hK.out _ _ hC_ (fun hHeld => ?_); clear hK K; refine nN_ (some 41) ?_; refine pU_ HT_ 13 (some 42) (bA 16 16383) ?_; refine pU_ HT_ 14 (some 43) (bA 16 32767) ?_; refine pU_ HT_ 15 (some 3) (bA 16 65535) ?_; refine done_ (done_of HT_.out (by kernel_rfl)) ?_; (try go_wp2); go_roundg k1
                          case measure => have := HK1.out; omega
                          case rel => exact ⟨(x3_1 ++ ((((t464 ++ (⟨#[46]⟩ : ByteArray)) ++ t465) ++ (⟨#[46]⟩ : ByteArray)) ++ t466)), (wrap64 (x20_1 + 1)), rS_, rS_, H', ⟨by have := HK1.out; omega⟩, ⟨kB BK456⟩, ⟨bB⟩⟩
                        · rw [if_neg c40] at H; exact absurd H (by simp)
                      · rw [if_neg c39] at H; exact absurd H (by simp)
                    · rw [if_neg c37] at H; exact absurd H (by simp)
                  · rw [if_neg c36] at H; exact absurd H (by simp)
                · rw [if_neg c34] at H; exact absurd H (by simp)
            · obtain rfl := Option.some.inj H; go_wp2; go_ret; exact ⟨rF_, bB⟩
      · rw [if_neg c6] at H; exact absurd H (by simp)
    · rw [if_neg c5] at H; exact absurd H (by simp)
  · rw [if_neg c3] at H; exact absurd H (by simp)
/-! ### spec_PuzzleText: function 21 -/
def spec_PuzzleText.f (k : Nat) (a0_0 : Int) (a0_1 : Int) (l0_2 : List (S45)) : Option (ByteArray × Bool) := (spec_pzGood.f k a0_0 a0_1 l0_2).bind fun t468 => (if t468 = true then ((spec_pzText.f k a0_0 a0_1 l0_2).bind fun t469 => (some (t469, true))) else (some ((⟨#[]⟩ : ByteArray), false)))
set_option maxHeartbeats 8000000 in
set_option maxRecDepth 100000 in
theorem spec_PuzzleText.calls (k : Nat) (a0_0 : Int) (a0_1 : Int) (A0_2 : Option Addr) (c0_2 : Nat) (l0_2 : List (S45)) (r1 : ByteArray) (r2 : Bool) (w : World) (hr0_2 : Kd.C k45 w A0_2 l0_2.length l0_2) (hc0_2 : l0_2.length ≤ c0_2) (h : spec_PuzzleText.f k a0_0 a0_1 l0_2 = some (r1, r2)) :
    Calls Tryz.prog 21 #[.agg #[.int .i64 a0_0, .int .i64 a0_1, .slice A0_2 l0_2.length c0_2]] w fun e w' => e = .returned (.tuple #[.string r1, .bool r2]) ∧ Below w.heap.size w w' := by
  have hu26 := Tryz.underlying26; have HR0_2 := amk hr0_2; have HC0_2 := amk hc0_2; clear hr0_2 hc0_2; have HB := amk (Below.refl w.heap.size w); unfold spec_PuzzleText.f at h; have H := h; clear h; replace H := bE H; obtain ⟨t468, A2, H⟩ := H; replace H := iteB H; obtain ⟨rfl, H⟩ | ⟨rfl, H⟩ := H
  · replace H := bE H; obtain ⟨t469, A4, H⟩ := H; simp only [Option.some.injEq, Prod.mk.injEq] at H; obtain ⟨rfl, rfl⟩ := H; go_enter Tryz.func21, Tryz.ntmps21; go_wp2_with (first | ((with_reducible refine gate_dst (N := 1) rfl ?_); refine boxE_ HB 1 #[.int .i64 a0_0, .int .i64 a0_1, .slice A0_2 l0_2.length c0_2] 26 ?_; clear HB; intro gb467 w5 HB BK467 GW467 GE467 hb; clear hb; obtain ⟨hcz6_0, hcz6_1, hcz6_2, hfz6_0, hfz6_1, hfz6_2⟩ := cells3 BK467.out) | ((with_reducible refine gate_callee (f := 35) rfl ?_); refine goesL_ (some 5) rfl rfl Tryz.func35 (by kernel_rfl) rfl #[.agg #[.int .i64 a0_0, .int .i64 a0_1, .slice A0_2 l0_2.length c0_2]] rfl gL_ ?_; (with_reducible refine (spec_pzGood.calls k a0_0 a0_1 _ _ l0_2 true _ ?_ ?_ A2.out).mono ?_); exact cB (Kd.C_below HR0_2.out HB.out); exact HC0_2.out; rintro e w7 ⟨rfl, hb⟩; refine ⟨_, rfl, ?_⟩; replace BK467 := kb2 BK467 hb; replace HB := hB2 HB hb; (try clear hb); obtain ⟨hcz8_0, hcz8_1, hcz8_2, hfz8_0, hfz8_1, hfz8_2⟩ := cells3 BK467.out) | ((with_reducible refine gate_callee (f := 42) rfl ?_); refine goesL_ (some 8) rfl rfl Tryz.func42 (by kernel_rfl) rfl #[.agg #[.int .i64 a0_0, .int .i64 a0_1, .slice A0_2 l0_2.length c0_2]] rfl gL_ ?_; (with_reducible refine (spec_pzText.calls k a0_0 a0_1 _ _ l0_2 t469 _ ?_ ?_ A4.out).mono ?_); exact cB (Kd.C_below HR0_2.out HB.out); exact HC0_2.out; rintro e w9 ⟨rfl, hb⟩; refine ⟨_, rfl, ?_⟩; replace BK467 := kb2 BK467 hb; replace HB := hB2 HB hb; (try clear hb))); go_ret2; exact ⟨rF_, bB⟩
  · simp only [Option.some.injEq, Prod.mk.injEq] at H; obtain ⟨rfl, rfl⟩ := H; go_enter Tryz.func21, Tryz.ntmps21; go_wp2_with (first | ((with_reducible refine gate_dst (N := 1) rfl ?_); refine boxE_ HB 1 #[.int .i64 a0_0, .int .i64 a0_1, .slice A0_2 l0_2.length c0_2] 26 ?_; clear HB; intro gb467 w10 HB BK467 GW467 GE467 hb; clear hb; obtain ⟨hcz11_0, hcz11_1, hcz11_2, hfz11_0, hfz11_1, hfz11_2⟩ := cells3 BK467.out) | ((with_reducible refine gate_callee (f := 35) rfl ?_); refine goesL_ (some 5) rfl rfl Tryz.func35 (by kernel_rfl) rfl #[.agg #[.int .i64 a0_0, .int .i64 a0_1, .slice A0_2 l0_2.length c0_2]] rfl gL_ ?_; (with_reducible refine (spec_pzGood.calls k a0_0 a0_1 _ _ l0_2 false _ ?_ ?_ A2.out).mono ?_); exact cB (Kd.C_below HR0_2.out HB.out); exact HC0_2.out; rintro e w12 ⟨rfl, hb⟩; refine ⟨_, rfl, ?_⟩; replace BK467 := kb2 BK467 hb; replace HB := hB2 HB hb; (try clear hb))); go_ret2; exact ⟨rF_, bB⟩
/-! Puzzles as texts: what the two come to. -/
theorem impl_lockText.is {w d : Int} (hw : 1 ≤ w ∧ w ≤ 6) (hd : 2 ≤ d ∧ d ≤ 10) : impl_lockText.f w d = some (lockT w d) := by
  have a := decB_size (n := w) (by omega) (by omega)
  have b := decB_size (n := d) (by omega) (by omega)
  have h1 : ((⟨#[120]⟩ : ByteArray)).size = 1 := rfl
  unfold impl_lockText.f lockT
  rw [show strconv_Itoa.f w = some (decB w) from if_pos (by omega), show strconv_Itoa.f d = some (decB d) from if_pos (by omega), Option.bind_some, Option.bind_some, if_pos (by omega), if_pos (by rw [ByteArray.size_append]; omega)]
theorem impl_puzzleText.lev (w d : Int) (hw : 1 ≤ w ∧ w ≤ 6) (hd : 2 ≤ d ∧ d ≤ 10) (l : List S45) (hl : l.length ≤ 6) (h : ∀ c ∈ l, TxtClue c) : ∀ (m i : Nat), i + m = l.length → Ev (fun k => impl_puzzleText.l0 k ((l.take i).map clueT) l (l.length : Int) (i : Nat) w d l) (puzzleT w d l) := by
  intro m
  induction m with
  | zero =>
    intro i hi
    have hs := lockT_size hw hd
    have h1 : ((⟨#[58]⟩ : ByteArray)).size = 1 := rfl
    have hj := clue_joined l h ⟨#[44]⟩ rfl
    refine Ev.step (fun k => rfl) (Ev.no (by omega) (Ev.bindc (impl_lockText.is hw hd) (Ev.yes (by omega) (Ev.bindc (a := joinB (l.map clueT) ⟨#[44]⟩) ?_ (Ev.yes (by rw [ByteArray.size_append]; omega) (Ev.id rfl))))))
    rw [List.take_of_length_le (by omega)]
    unfold strings_Join.f
    exact if_pos ⟨by rw [List.length_map]; omega, by omega⟩
  | succ m ih =>
    intro i hi
    have hlt : i < l.length := by omega
    have hx := h l[i] (List.getElem_mem hlt)
    obtain ⟨h0, h1, h2⟩ := hx
    have a := decB_size h0.1 h0.2
    have b := decB_size h1.1 h1.2
    have e := decB_size h2.1 h2.2
    have hz : ((⟨#[46]⟩ : ByteArray)).size = 1 := rfl
    refine Ev.step (fun k => rfl) (Ev.yes (by omega) (Ev.yes (by omega) (Ev.yes (by omega) ?_)))
    rw [rd_clueN hlt]
    refine Ev.bindc (show strconv_ItoaT.f l[i].f0 = some (decB l[i].f0) from if_pos h0) (Ev.yes (by omega) ?_)
    refine Ev.bindc (show strconv_ItoaT.f l[i].f1 = some (decB l[i].f1) from if_pos h1) (Ev.yes (by rw [ByteArray.size_append]; omega) (Ev.yes (by rw [ByteArray.size_append, ByteArray.size_append]; omega) ?_))
    refine Ev.bindc (show strconv_ItoaT.f l[i].f2 = some (decB l[i].f2) from if_pos h2) (Ev.yes (by rw [ByteArray.size_append, ByteArray.size_append, ByteArray.size_append]; omega) (Ev.yes (by rw [List.length_map, List.length_take]; omega) ?_))
    rw [show wrap64 ((i : Int) + 1) = ((i + 1 : Nat) : Int) from w64 (by omega) (by omega)]
    have := ih (i + 1) (by omega)
    rw [List.take_succ_eq_append_getElem hlt, List.map_append] at this
    exact this
theorem impl_puzzleText.ev (w d : Int) (hw : 1 ≤ w ∧ w ≤ 6) (hd : 2 ≤ d ∧ d ≤ 10) (l : List S45) (hl : l.length ≤ 6) (h : ∀ c ∈ l, TxtClue c) : Ev (fun k => impl_puzzleText.f k w d l) (puzzleT w d l) := by
  unfold impl_puzzleText.f
  exact impl_puzzleText.lev w d hw hd l hl h l.length 0 (by omega)
theorem spec_pzText.lev (l : List S45) (hl : l.length ≤ 6) (h : ∀ c ∈ l, TxtClue c) (t : ByteArray) (ht : t.size ≤ 8) : ∀ (m i : Nat), i + m = l.length → Ev (fun k => spec_pzText.l0 k (t ++ joinB ((l.take i).map clueT) ⟨#[44]⟩) l (l.length : Int) (i : Nat)) (t ++ joinB (l.map clueT) ⟨#[44]⟩) := by
  intro m
  induction m with
  | zero =>
    intro i hi
    refine Ev.step (fun k => rfl) (Ev.no (by omega) (Ev.id ?_))
    rw [List.take_of_length_le (by omega)]
  | succ m ih =>
    intro i hi
    have hlt : i < l.length := by omega
    have hx := h l[i] (List.getElem_mem hlt)
    have hz := clue_joined (l.take i) (fun r hr => h r (List.mem_of_mem_take hr)) ⟨#[44]⟩ rfl
    rw [List.length_take] at hz
    have hs : (t ++ joinB ((l.take i).map clueT) ⟨#[44]⟩).size ≤ 100 := by rw [ByteArray.size_append]; omega
    have hc := clueT_size hx
    have hgo := ih (i + 1) (by omega)
    rw [List.take_succ_eq_append_getElem hlt, List.map_append] at hgo
    have e9 : wrap64 ((i : Int) + 1) = ((i + 1 : Nat) : Int) := w64 (by omega) (by omega)
    obtain ⟨h0, h1, h2⟩ := hx
    have a := decB_size h0.1 h0.2
    have b := decB_size h1.1 h1.2
    have e := decB_size h2.1 h2.2
    have hd : ((⟨#[46]⟩ : ByteArray)).size = 1 := rfl
    have hk : ((⟨#[44]⟩ : ByteArray)).size = 1 := rfl
    refine Ev.step (fun k => rfl) (Ev.yes (by omega) (Ev.yes (by omega) (Ev.yes (by omega) ?_)))
    rw [rd_clueN hlt, e9]
    by_cases hi0 : i = 0
    · subst hi0
      refine Ev.no (by omega) (Ev.bind (spec_l1Num.ev h0.1 h0.2) (Ev.yes (by omega) ?_))
      refine Ev.bind (spec_l1Num.ev h1.1 h1.2) (Ev.yes (by rw [ByteArray.size_append]; omega) (Ev.yes (by rw [ByteArray.size_append, ByteArray.size_append]; omega) ?_))
      refine Ev.bind (spec_l1Num.ev h2.1 h2.2) (Ev.yes (by rw [ByteArray.size_append, ByteArray.size_append, ByteArray.size_append]; omega) (Ev.yes ?_ ?_))
      · show _ + (clueT l[0]).size ≤ _; omega
      rw [List.take_zero, List.map_nil, List.nil_append, List.map_cons, List.map_nil, joinB_one] at hgo
      rw [List.take_zero, List.map_nil, joinB_nil, show t ++ (⟨#[]⟩ : ByteArray) = t from ByteArray.append_empty]
      exact hgo
    · refine Ev.yes (by omega) (Ev.yes (by omega) (Ev.bind (spec_l1Num.ev h0.1 h0.2) (Ev.yes (by omega) ?_)))
      refine Ev.bind (spec_l1Num.ev h1.1 h1.2) (Ev.yes (by rw [ByteArray.size_append]; omega) (Ev.yes (by rw [ByteArray.size_append, ByteArray.size_append]; omega) ?_))
      refine Ev.bind (spec_l1Num.ev h2.1 h2.2) (Ev.yes (by rw [ByteArray.size_append, ByteArray.size_append, ByteArray.size_append]; omega) (Ev.yes ?_ ?_))
      · show _ + (clueT l[i]).size ≤ _; rw [ByteArray.size_append]; omega
      rw [List.map_cons, List.map_nil, joinB_snoc _ _ _ (by
        intro h2
        have := congrArg List.length h2
        rw [List.length_map, List.length_take, List.length_nil] at this
        omega), ← ByteArray.append_assoc, ← ByteArray.append_assoc] at hgo
      exact hgo
theorem spec_pzText.ev (w d : Int) (hw : 1 ≤ w ∧ w ≤ 6) (hd : 2 ≤ d ∧ d ≤ 10) (l : List S45) (hl : l.length ≤ 6) (h : ∀ c ∈ l, TxtClue c) : Ev (fun k => spec_pzText.f k w d l) (puzzleT w d l) := by
  unfold spec_pzText.f puzzleT
  have a := decB_size (n := w) (by omega) (by omega)
  have b := decB_size (n := d) (by omega) (by omega)
  have h1 : ((⟨#[120]⟩ : ByteArray)).size = 1 := rfl
  have h2 : ((⟨#[58]⟩ : ByteArray)).size = 1 := rfl
  refine Ev.bind (spec_l1Num.ev (n := w) (by omega) (by omega)) (Ev.yes (by omega) (Ev.bind (spec_l1Num.ev (n := d) (by omega) (by omega)) (Ev.yes (by rw [ByteArray.size_append]; omega) (Ev.yes (by rw [ByteArray.size_append, ByteArray.size_append]; omega) ?_))))
  have := spec_pzText.lev l hl h (lockT w d ++ ⟨#[58]⟩) (by have := lockT_size hw hd; rw [ByteArray.size_append]; omega) l.length 0 (by omega)
  rw [List.take_zero, List.map_nil, joinB_nil, show lockT w d ++ ⟨#[58]⟩ ++ (⟨#[]⟩ : ByteArray) = lockT w d ++ ⟨#[58]⟩ from ByteArray.append_empty] at this
  exact this
theorem spec_PuzzleText.ev (w d : Int) (l : List S45) (hn : l.length ≤ 9223372036854775807) : Ev (fun k => spec_PuzzleText.f k w d l) (pzV w d l) := by
  unfold spec_PuzzleText.f pzV
  refine Ev.bind (spec_pzGood.ev w d l hn) ?_
  cases h1 : puzzleB w d l with
  | false => exact Ev.no (by simp) (Ev.id (by simp))
  | true =>
    obtain ⟨a1, a2, a3⟩ := puzzleB_txt h1
    obtain ⟨b1, _⟩ := smallB_iff.mp a1
    exact Ev.yes rfl (Ev.bind (spec_pzText.ev w d (by omega) (by omega) l a2 a3) (Ev.now _))
theorem impl_PuzzleText.ev (w d : Int) (l : List S45) : Ev (fun k => impl_PuzzleText.f k w d l) (pzV w d l) := by
  unfold impl_PuzzleText.f impl_IsPuzzle.f pzV
  refine Ev.bindc rfl ?_
  cases h1 : puzzleB w d l with
  | false => exact Ev.no (by simp) (Ev.id (by simp))
  | true =>
    obtain ⟨a1, a2, a3⟩ := puzzleB_txt h1
    obtain ⟨b1, _⟩ := smallB_iff.mp a1
    exact Ev.yes rfl (Ev.bind (impl_puzzleText.ev w d (by omega) (by omega) l a2 a3) (Ev.now _))
/-! Numbers read from texts. -/
theorem spec_l1Read.lev (s : ByteArray) (hs : s.size ≤ 1048576) : ∀ (m i : Nat) (x : Int), i + m = s.size → ∃ v, Ev (fun k => spec_l1Read.l0 k s x (i : Nat)) v := by
  intro m
  induction m with
  | zero =>
    intro i x hi
    exact ⟨x, Ev.step (fun k => rfl) (Ev.no (by omega) (Ev.now _))⟩
  | succ m ih =>
    intro i x hi
    obtain ⟨v, hv⟩ := ih (i + 1) (wrap64 ((wrap64 (10 * x)) + (((bt s (i : Nat)) - 48) % 256))) (by omega)
    by_cases h1 : bt s (i : Nat) < 48
    · exact ⟨-1, Ev.step (fun k => rfl) (Ev.yes (by omega) (Ev.yes (by omega) (Ev.yes h1 (Ev.now _))))⟩
    · by_cases h2 : bt s (i : Nat) > 57
      · exact ⟨-1, Ev.step (fun k => rfl) (Ev.yes (by omega) (Ev.yes (by omega) (Ev.no h1 (Ev.yes h2 (Ev.now _)))))⟩
      · refine ⟨v, Ev.step (fun k => rfl) (Ev.yes (by omega) (Ev.yes (by omega) (Ev.no h1 (Ev.no h2 ?_))))⟩
        rw [show wrap64 ((i : Int) + 1) = ((i + 1 : Nat) : Int) from w64 (by omega) (by omega)]
        exact hv
theorem spec_l1Read.j0ev (s : ByteArray) (hs : s.size ≤ 1048576) (b : Bool) : ∃ v, Ev (fun k => spec_l1Read.j0 k s b) v := by
  cases b with
  | true =>
    refine ⟨-1, Ev.step (fun k => rfl) ?_⟩
    simp only [spec_l1Read.j0]
    first | exact Ev.yes rfl (Ev.now _) | exact Ev.yes trivial (Ev.now _) | exact Ev.now _
  | false =>
    obtain ⟨v, hv⟩ := spec_l1Read.lev s hs s.size 0 0 (by omega)
    refine ⟨v, Ev.step (fun k => rfl) ?_⟩
    simp only [spec_l1Read.j0]
    exact Ev.no (by simp) hv
/-! Numbers read from texts. -/
theorem bl_eq {a b : ByteArray} : a.toList = b.toList ↔ a = b := by
  constructor
  · intro h
    rw [ByteArray.toList_eq, ByteArray.toList_eq] at h
    exact ByteArray.ext (Array.toList_inj.mp h)
  · intro h; rw [h]
theorem splL_len (c : UInt8) : ∀ l : List UInt8, splL c l ≠ [] ∧ (splL c l).length ≤ l.length + 1 ∧ ∀ x ∈ splL c l, x.length ≤ l.length
  | [] => ⟨by unfold splL; simp, by unfold splL; simp, fun x hx => by unfold splL at hx; rw [List.mem_singleton.mp hx]; simp⟩
  | b :: t => by
    obtain ⟨h1, h2, h3⟩ := splL_len c t
    have e : splL c (b :: t) = if b = c then [] :: splL c t else (b :: (splL c t).headD []) :: (splL c t).tail := rfl
    rw [e]
    by_cases h : b = c
    · rw [if_pos h]
      refine ⟨by simp, by simp; omega, fun x hx => ?_⟩
      rcases List.mem_cons.mp hx with rfl | hx
      · simp
      · have := h3 x hx; simp; omega
    · rw [if_neg h]
      cases hc : splL c t with
      | nil => exact absurd hc h1
      | cons y r =>
        rw [hc] at h2 h3
        refine ⟨by simp, by simp at h2 ⊢; omega, fun x hx => ?_⟩
        rcases List.mem_cons.mp hx with rfl | hx
        · have := h3 y List.mem_cons_self; simp; omega
        · have := h3 x (List.mem_cons_of_mem _ hx); simp; omega
theorem rdOf_nat {α : Type} {d : α} {xs : List α} {i : Nat} (h : i < xs.length) : rdOf d xs (i : Nat) = xs[i] := by
  rw [rdOf_at (by simpa using h)]; simp
theorem spec_l1Read.ex (s : ByteArray) (hs : s.size ≤ 1048576) : ∃ v, Ev (fun k => spec_l1Read.f k s) v := by
  unfold spec_l1Read.f
  by_cases h : 1 ≤ (s.size : Int) ∧ (s.size : Int) ≤ 6
  · by_cases h2 : bt s 0 = 48
    · obtain ⟨v, hv⟩ := spec_l1Read.j0ev s hs (decide ((s.size : Int) > 1))
      exact ⟨v, Ev.bindc (spec_l1In.bs _ _ _) (Ev.yes (decide_eq_true h) (Ev.yes (by omega) (Ev.yes h2 hv)))⟩
    · obtain ⟨v, hv⟩ := spec_l1Read.j0ev s hs false
      exact ⟨v, Ev.bindc (spec_l1In.bs _ _ _) (Ev.yes (decide_eq_true h) (Ev.yes (by omega) (Ev.no h2 hv)))⟩
  · obtain ⟨v, hv⟩ := spec_l1Read.j0ev s hs true
    exact ⟨v, Ev.bindc (spec_l1In.bs _ _ _) (Ev.no (by simpa using h) hv)⟩
/-! ### impl_digits: function 90 -/
def impl_digits.l0 : Nat → ByteArray → List Int → Int → Int → Option (List Int)
  | 0, _, _, _, _ => none
  | k + 1, x0, x3, x7, x8 => if x8 < x7 then (if 0 ≤ x8 then (if x8 < (x0.size : Int) then (if x3.length < 17592186044416 then (impl_digits.l0 k x0 (x3 ++ [((bt x0 x8) - 48) % 256]) x7 (wrap64 (x8 + 1))) else (none)) else (none)) else (none)) else (some x3)
def impl_digits.f (k : Nat) (a0 : ByteArray) : Option (List Int) := impl_digits.l0 k a0 (([] : List Int)) (a0.size : Int) 0
set_option maxHeartbeats 8000000 in
set_option maxRecDepth 100000 in
theorem impl_digits.calls (k : Nat) (a0 : ByteArray) (r : List Int) (w : World) (h : impl_digits.f k a0 = some r) :
    Calls Tryz.prog 90 #[.string a0] w fun e w' => ∃ v0_ : Value, e = .returned (v0_) ∧ Kd.R (Kd.int .i64) 3 w' w.heap.size (fun _ => True) v0_ r ∧ Below w.heap.size w w' := by
  have HB := amk (Below.refl w.heap.size w); unfold impl_digits.f at h; have H := h; clear h; (try rw [Option.bind_some] at H); generalize hy229 : (([] : List Int)) = y229 at H; have Ny229 := amk hy229.symm; clear hy229; have H' := amk H; clear H; go_enter Tryz.func90, Tryz.ntmps90; go_wp2_with (first | ((with_reducible refine gate_dst (N := 5) rfl ?_); refine Kd.R_lit (Kd.int .i64) _ 3 ?hg (N := 5) ?hd (xs := ([] : List Int)) (inner := []) (ok := fun _ => True) (okp := fun _ => True) ?hr ?hp (fun _ hk => hk) trivial (Below.refl _ _) (Nat.le_refl _) (by simp) ?_; (case hd => rfl); (case hg => rfl); (case hr => first | (go_simp; done) | (go_simp; rfl)); (case hp => exact (Reps.none _ _)); intro v230 w2 ho3 hb hg_ hnew_; clear hg_ hnew_; (first | rw [← Ny229.out] at ho3 | (simp only [Int.reduceToNat] at ho3; rw [← Ny229.out] at ho3)); have HO231 := amk (Kd.R_lower ho3 (below_size bB)); replace HB := hB2 HB hb; clear hb ho3))
  go_loopg [3, 8] k (fun kq v3 v8 w' => ∃ (x3_1 : List Int) (x8_1 : Int), v8 = .int .i64 x8_1 ∧ Aside0 (impl_digits.l0 kq a0 x3_1 (a0.size : Int) x8_1 = some r) ∧ Aside0 (kq ≤ k) ∧ Aside0 (Kd.R (Kd.int .i64) 3 w' w.heap.size (fun _ => True) v3 x3_1) ∧ Aside0 (Below w.heap.size w w'))
  case atStart => exact ⟨(y229), (0), rS_, H', ⟨Nat.le_refl _⟩, ⟨oX HO231⟩, ⟨bB⟩⟩
  case round =>
    clear H'; (try clear p2); obtain ⟨x3_1, x8_1, rfl, HA, HK1, HO_3, HB⟩ := hrel
    cases gk with
    | zero => exact absurd HA.out (by simp [impl_digits.l0])
    | succ k1 =>
      have H := HA.out; clear HA; simp only [impl_digits.l0] at H; replace H := iteE H; obtain ⟨c4b0, H⟩ | ⟨c4b0, H⟩ := H
      · replace H := iteN H; obtain ⟨c5b0, H⟩ := H; replace H := iteN H; obtain ⟨c6b0, H⟩ := H
        by_cases c8 : x3_1.length < 17592186044416
        · rw [if_pos c8] at H; have LMc8 := amk c8; clear c8; (try rw [Option.bind_some] at H); generalize hy232 : ((x3_1 ++ [((bt a0 x8_1) - 48) % 256]) : List Int) = y232 at H; have Ny232 := amk hy232.symm; clear hy232; have H' := amk H; clear H; have p7 : 0 ≤ (x8_1 : Int) := dA_; have q7 : x8_1 < (a0.size : Int) := dA_; have hx7 := bt_at a0 x8_1; replace p7 := eq_true p7; replace q7 := eq_true q7; go_wp2_with (first | ((with_reducible refine gate_builtin (b := .append) (xs := #[.tmp 11, .tmp 17]) rfl ?_); at_builtin; refine Kd.R_append (Kd.int .i64) (w0 := w) w.heap.size rfl (.tmp 11) (.tmp 17) 36 3 (.int .i64 0) 8 rfl Tryz.underlying36 info3 rfl (by decide) (by omega) u3 x3_1 (((bt a0 x8_1) - 48) % 256) [.int .i64 (((bt a0 x8_1) - 48) % 256)] (fun _ => True) (fun _ => False) rfl rfl rfl (fun _ hk => hk.elim) (fun _ _ => trivial) (oX HO_3) bB (below_size bB) (by have := LMc8.out; omega) ?_; intro v233 w9 ho hb hg hat; rw [← Ny232.out] at ho; replace HB := amk (hb); have HO234 := amk (ho); clear HO_3; clear ho hb hg hat)); go_roundg k1
          case measure => have := HK1.out; omega
          case rel => exact ⟨(y232), (wrap64 (x8_1 + 1)), rS_, H', ⟨by have := HK1.out; omega⟩, ⟨oX HO234⟩, ⟨bB⟩⟩
        · rw [if_neg c8] at H; exact absurd H (by simp)
      · obtain rfl := Option.some.inj H; go_wp2; go_ret; exact ⟨_, rF_, oX HO_3, bB⟩
/-! ### spec_l1Split: function 77 -/
def spec_l1Split.l0 : Nat → ByteArray → Int → List ByteArray → Int → Int → Option (List ByteArray)
  | 0, _, _, _, _, _ => none
  | k + 1, x0, x1, x5, x6, x7 => if x7 < (x0.size : Int) then (if 0 ≤ x7 then (if (bt x0 x7) = x1 then (if 0 ≤ x6 then (if x6 ≤ x7 then (if x7 ≤ (x0.size : Int) then (if x5.length < 8796093022208 then (spec_l1Split.l0 k x0 x1 (x5 ++ [x0.extract (x6 : Int).toNat (x7 : Int).toNat]) (wrap64 (x7 + 1)) (wrap64 (x7 + 1))) else (none)) else (none)) else (none)) else (none)) else (spec_l1Split.l0 k x0 x1 x5 x6 (wrap64 (x7 + 1)))) else (none)) else (if 0 ≤ x6 then (if x6 ≤ (x0.size : Int) then (if x5.length < 8796093022208 then (some (x5 ++ [x0.extract (x6 : Int).toNat x0.size])) else (none)) else (none)) else (none))
def spec_l1Split.f (k : Nat) (a0 : ByteArray) (a1 : Int) : Option (List ByteArray) := spec_l1Split.l0 k a0 a1 ([] : List ByteArray) 0 0
set_option maxHeartbeats 8000000 in
set_option maxRecDepth 100000 in
theorem spec_l1Split.calls (k : Nat) (a0 : ByteArray) (a1 : Int) (r : List ByteArray) (w : World) (h : spec_l1Split.f k a0 a1 = some r) :
    Calls Tryz.prog 77 #[.string a0, .int .u8 a1] w fun e w' => ∃ v0_ : Value, e = .returned (v0_) ∧ Kd.R Kd.string 9 w' w.heap.size (fun _ => True) v0_ r ∧ Below w.heap.size w w' := by
  have HB := amk (Below.refl w.heap.size w); unfold spec_l1Split.f at h; have H := h; clear h; have H' := amk H; clear H; go_enter Tryz.func77, Tryz.ntmps77; go_wp2
  go_loopg [5, 6, 7] k (fun kq v5 v6 v7 w' => ∃ (x5_1 : List ByteArray) (x6_1 : Int) (x7_1 : Int), v6 = .int .i64 x6_1 ∧ v7 = .int .i64 x7_1 ∧ Aside0 (spec_l1Split.l0 kq a0 a1 x5_1 x6_1 x7_1 = some r) ∧ Aside0 (kq ≤ k) ∧ Aside0 (Kd.R Kd.string 9 w' w.heap.size (fun _ => True) v5 x5_1) ∧ Aside0 (Below w.heap.size w w'))
  case atStart => exact ⟨(([] : List ByteArray)), (0), (0), rS_, rS_, H', ⟨Nat.le_refl _⟩, ⟨xN_⟩, ⟨bB⟩⟩
  case round =>
    clear H'; (try clear p2); obtain ⟨x5_1, x6_1, x7_1, rfl, rfl, HA, HK1, HO_5, HB⟩ := hrel
    cases gk with
    | zero => exact absurd HA.out (by simp [spec_l1Split.l0])
    | succ k1 =>
      have H := HA.out; clear HA; simp only [spec_l1Split.l0] at H; replace H := iteE H; obtain ⟨c3b0, H⟩ | ⟨c3b0, H⟩ := H
      · replace H := iteN H; obtain ⟨c4b0, H⟩ := H
        by_cases c6 : (bt a0 x7_1) = a1
        · rw [if_pos c6] at H; have c6b0 : ((bt a0 x7_1) == a1) = true := beq_iff_eq.mpr c6; have c6b1 : ((bt a0 x7_1) != a1) = false := bne_eq_false_iff_eq.mpr c6; clear c6
          by_cases c7 : 0 ≤ x6_1
          · rw [if_pos c7] at H; have c7b0 := eq_true c7; have c7b1 : decide (0 ≤ x6_1) = true := decide_eq_true c7; clear c7
            by_cases c8 : x6_1 ≤ x7_1
            · rw [if_pos c8] at H; have c8b0 := eq_true c8; have c8b1 : decide (x6_1 ≤ x7_1) = true := decide_eq_true c8; clear c8
              by_cases c9 : x7_1 ≤ (a0.size : Int)
              · rw [if_pos c9] at H; have c9b0 := eq_true c9; have c9b1 : decide (x7_1 ≤ (a0.size : Int)) = true := decide_eq_true c9; clear c9
                by_cases c10 : x5_1.length < 8796093022208
                · rw [if_pos c10] at H; have LMc10 := amk c10; clear c10; (try rw [Option.bind_some] at H); generalize hy565 : ((x5_1 ++ [a0.extract (x6_1 : Int).toNat (x7_1 : Int).toNat]) : List ByteArray) = y565 at H; have Ny565 := amk hy565.symm; clear hy565; have H' := amk H; clear H; have p5 : 0 ≤ (x7_1 : Int) := dA_; have q5 : x7_1 < (a0.size : Int) := dA_; have hx5 := bt_at a0 x7_1; replace p5 := eq_true p5; replace q5 := eq_true q5; go_wp2_with (first | ((with_reducible refine gate_builtin (b := .append) (xs := #[.tmp 19, .tmp 24]) rfl ?_); at_builtin; refine Kd.R_append Kd.string (w0 := w) w.heap.size rfl (.tmp 19) (.tmp 24) 27 9 (.string ⟨#[]⟩) 16 rfl Tryz.underlying27 info9 rfl (by decide) (by omega) u5 x5_1 (a0.extract (x6_1 : Int).toNat (x7_1 : Int).toNat) [.string (a0.extract (x6_1 : Int).toNat (x7_1 : Int).toNat)] (fun _ => True) (fun _ => False) rfl rfl rfl (fun _ hk => hk.elim) (fun _ _ => trivial) (oX HO_5) bB (below_size bB) (by have := LMc10.out; omega) ?_; intro v566 w11 ho hb hg hat; rw [← Ny565.out] at ho; replace HB := amk (hb); have HO567 := amk (ho); clear HO_5; clear ho hb hg hat)); go_roundg k1
                  case measure => have := HK1.out; omega
                  case rel => exact ⟨(y565), (wrap64 (x7_1 + 1)), (wrap64 (x7_1 + 1)), rS_, rS_, H', ⟨by have := HK1.out; omega⟩, ⟨oX HO567⟩, ⟨bB⟩⟩
                · rw [if_neg c10] at H; exact absurd H (by simp)
              · rw [if_neg c9] at H; exact absurd H (by simp)
            · rw [if_neg c8] at H; exact absurd H (by simp)
          · rw [if_neg c7] at H; exact absurd H (by simp)
        · rw [if_neg c6] at H; have c6b0 : ((bt a0 x7_1) == a1) = false := beq_eq_false_iff_ne.mpr c6; have c6b1 : ((bt a0 x7_1) != a1) = true := bne_iff_ne.mpr c6; have H' := amk H; clear H; have p5 : 0 ≤ (x7_1 : Int) := dA_; have q5 : x7_1 < (a0.size : Int) := dA_; have hx5 := bt_at a0 x7_1; replace p5 := eq_true p5; replace q5 := eq_true q5; go_wp2; go_roundg k1
          case measure => have := HK1.out; omega
          case rel => exact ⟨(x5_1), (x6_1), (wrap64 (x7_1 + 1)), rS_, rS_, H', ⟨by have := HK1.out; omega⟩, ⟨oX HO_5⟩, ⟨bB⟩⟩
      · by_cases c12 : 0 ≤ x6_1
        · rw [if_pos c12] at H; have c12b0 := eq_true c12; have c12b1 : decide (0 ≤ x6_1) = true := decide_eq_true c12; clear c12
          by_cases c13 : x6_1 ≤ (a0.size : Int)
          · rw [if_pos c13] at H; have c13b0 := eq_true c13; have c13b1 : decide (x6_1 ≤ (a0.size : Int)) = true := decide_eq_true c13; clear c13
            by_cases c14 : x5_1.length < 8796093022208
            · rw [if_pos c14] at H; have LMc14 := amk c14; clear c14; (try rw [Option.bind_some] at H); generalize hy568 : ((x5_1 ++ [a0.extract (x6_1 : Int).toNat a0.size]) : List ByteArray) = y568 at H; have Ny568 := amk hy568.symm; clear hy568; obtain rfl := Option.some.inj H; go_wp2_with (first | ((with_reducible refine gate_builtin (b := .append) (xs := #[.tmp 28, .tmp 32]) rfl ?_); at_builtin; refine Kd.R_append Kd.string (w0 := w) w.heap.size rfl (.tmp 28) (.tmp 32) 27 9 (.string ⟨#[]⟩) 16 rfl Tryz.underlying27 info9 rfl (by decide) (by omega) u5 x5_1 (a0.extract (x6_1 : Int).toNat a0.size) [.string (a0.extract (x6_1 : Int).toNat a0.size)] (fun _ => True) (fun _ => False) rfl rfl rfl (fun _ hk => hk.elim) (fun _ _ => trivial) (oX HO_5) bB (below_size bB) (by have := LMc14.out; omega) ?_; intro v569 w15 ho hb hg hat; rw [← Ny568.out] at ho; replace HB := amk (hb); have HO570 := amk (ho); clear HO_5; clear ho hb hg hat)); go_ret; exact ⟨_, rF_, oX HO570, bB⟩
            · rw [if_neg c14] at H; exact absurd H (by simp)
          · rw [if_neg c13] at H; exact absurd H (by simp)
        · rw [if_neg c12] at H; exact absurd H (by simp)
end Go.Proofs.YtalmbdmkajohlaaGreatDoor.P