import Derived.Test.YtcnjiffoghganaaProg
import Derived.Below
import Derived.Deep.Draws
import Derived.Deep.AppendLies
import Derived.Maps.AppendAt
import Derived.OwnWalk
import Derived.Laws.BytesArg
import Derived.Laws.MakeOwn
import Derived.Laws.OwnMore
import Derived.Deep.OwnRows
import Derived.Tactics
import Derived.Lib.ConvBytes
import Derived.Laws.Slices
import Derived.WalkKit
import Derived.KernelRfl
import Derived.RowKit3
import Derived.Deep.LoopGhost
import Derived.Deep.QuietTactic
import Derived.BigQuiet
import Derived.WideLaws
import Derived.Deep.DeepCutAuto
import Derived.Deep.CutBlock
import Derived.Deep.RegionHeld3
import Derived.Laws.Rows
import Derived.Lib.AppendStr
import Derived.ArgAppend
import Derived.Laws.IdiomCopy
import Derived.OrdersHeld
import Derived.Laws.BitsLemmas
import Derived.RowKit
import Derived.Test.YtcnjiffoghganaaKFnExactGhostKeysWWords
import Derived.Test.YtcnjiffoghganaaKFnExactGhostKeysWLast
import Derived.Test.YtcnjiffoghganaaKFnExactGhostKeysWTab
import Derived.Test.YtcnjiffoghganaaKFnExactGhostKeysWQPut
import Derived.Test.YtcnjiffoghganaaKFnExactGhostKeysWApart
import Derived.Test.YtcnjiffoghganaaKFnExactGhostKeysWArr
import Derived.Test.YtcnjiffoghganaaKFnExactGhostKeysWZeros
import Derived.Test.YtcnjiffoghganaaKFnExactGhostKeysWFoot
import Derived.Test.YtcnjiffoghganaaKFnExactGhostKeysWKept
import Derived.Test.YtcnjiffoghganaaKFnExactGhostKeysWShare
import Derived.Test.YtcnjiffoghganaaKFnExactGhostKeysWN
import Derived.Test.YtcnjiffoghganaaKFnExactGhostKeysWRepsOne
import Derived.Test.YtcnjiffoghganaaKFnExactGhostKeysWGuard
import Derived.Test.YtcnjiffoghganaaKFnExactGhostKeysWNEv
import Derived.Test.YtcnjiffoghganaaKFnExactGhostKeysWMore
import Derived.Shelf.Abstract
namespace Go.Proofs.Ytcnjiffoghganaa.P
open Go.RowKit Go.Proofs.YtcnjiffoghganaaW.PrintWords Go.Proofs.YtcnjiffoghganaaW.PrintLast Go.Proofs.YtcnjiffoghganaaW.PrintMore
attribute [local go_sem] max2_int min2_int max_two min_two max_three min_three max_four min_four
set_option linter.unusedVariables false
set_option linter.unusedSimpArgs false
theorem amk {p : Prop} (h : p) : Aside0 p := Aside0.mk h
theorem bn_ : type_of% @pw_below_drewN := @pw_below_drewN
theorem bd_ : type_of% @below_drew1 := @below_drew1
theorem ba_ : type_of% @below_alloc := @below_alloc
theorem bs_ : type_of% @below_set := @below_set
theorem kn_ : type_of% @blk_drewN := @blk_drewN
theorem ka_ : type_of% @blk_alloc := @blk_alloc
theorem bp_ : type_of% @below_step := @below_step
def errW : Option Int → Value
  | none => .nilIface
  | some c => .iface 0 (.int .i64 c)
theorem errW_none : errW none = .nilIface := rfl
theorem errW_some (c : Int) : errW (some c) = .iface 0 (.int .i64 c) := rfl
theorem info3 : (Try.prog.info? 3).map (fun i => (i.zero, i.size, i.bytes)) = some (some (.int .i64 0), 1, 8) := by kernel_rfl
theorem info41 : (Try.prog.info? 41).map (fun i => (i.zero, i.size, i.bytes)) = some (some (.agg #[(.int .i64 0), (.slice none 0 0)]), 2, 32) := by kernel_rfl
theorem info86 : (Try.prog.info? 86).map (fun i => (i.zero, i.size, i.bytes)) = some (some (.slice none 0 0), 1, 24) := by kernel_rfl
-- the values' own types
/-! #### struct type 23 -/
structure S23 where
  f0 : Int
  f1 : Int
/-! #### struct type 26 -/
structure S26 where
  f0 : S23
  f1 : ByteArray
  f2 : (List ByteArray)
def rd_L5 (xs : List (List Int)) (i : Int) : (List Int) := xs.getD i.toNat ([] : List Int)
theorem at_L5 {w : World} {A : Option Addr} {n : Nat} {xs : List (List Int)} (h : Kd.C (Kd.slice 3 (Kd.int .i64)) w A n xs) (i : Int) (h0 : 0 ≤ i) (h1 : i < n) : ∃ ad A0 c0, A = some ad ∧ w.cell? (ad.add i.toNat) = some (.slice A0 (rd_L5 xs i).length c0) ∧ (rd_L5 xs i).length ≤ c0 ∧ (Kd.int .i64).C w A0 (rd_L5 xs i).length (rd_L5 xs i) := by
  obtain ⟨ad, c, e, _, hK, hc0⟩ := Kd.C_get h ([] : List Int) i h0 h1
  have hc : ∀ j u, c[j]? = some u → w.cell? (ad.add (i.toNat * 1 + j)) = some u := hc0
  obtain ⟨A0, c0, rfl, l0, g0⟩ := hK
  exact ⟨ad, A0, c0, e, by have hq := hc 0 _ rfl; rwa [Nat.mul_one, Nat.add_zero] at hq, l0, g0⟩
/-! #### struct type 37 -/
structure S37 where
  f0 : Int
  f1 : (List (List Int))
def z37 : S37 := ⟨(0 : Int), ([] : List (List Int))⟩
def k37 : Kd S37 := Kd.iso (Kd.pair (Kd.int .i64) (Kd.slice 86 (Kd.slice 3 (Kd.int .i64)))) (fun x : S37 => (x.f0, x.f1))
theorem k37_open {w : World} {x : S37} {cs : List Value} (h : k37.K w x cs) : ∃ A1 c1, cs = [.int .i64 x.f0, .slice A1 x.f1.length c1] ∧ x.f1.length ≤ c1 ∧ (Kd.slice 3 (Kd.int .i64)).C w A1 x.f1.length x.f1 := by
  obtain ⟨_, _, rfl, rfl, ⟨A1, c1, rfl, l1, g1⟩⟩ := h
  exact ⟨A1, c1, rfl, l1, g1⟩
def rd_T37 (xs : List S37) (i : Int) : S37 := xs.getD i.toNat z37
theorem at_T37 {w : World} {A : Option Addr} {n : Nat} {xs : List S37} (h : Kd.C k37 w A n xs) (i : Int) (h0 : 0 ≤ i) (h1 : i < n) : ∃ ad A1 c1, A = some ad ∧ w.cell? (ad.add (i.toNat * 2)) = some (.int .i64 (rd_T37 xs i).f0) ∧ w.cell? ⟨(ad.add (i.toNat * 2)).block, (ad.add (i.toNat * 2)).off + 1, none⟩ = some (.slice A1 (rd_T37 xs i).f1.length c1) ∧ (rd_T37 xs i).f1.length ≤ c1 ∧ (Kd.slice 3 (Kd.int .i64)).C w A1 (rd_T37 xs i).f1.length (rd_T37 xs i).f1 := by
  obtain ⟨ad, c, e, _, hK, hc0⟩ := Kd.C_get h z37 i h0 h1
  have hc : ∀ j u, c[j]? = some u → w.cell? (ad.add (i.toNat * 2 + j)) = some u := hc0
  obtain ⟨A1, c1, rfl, l1, g1⟩ := k37_open hK
  exact ⟨ad, A1, c1, e, hc 0 _ rfl, by rw [← add_field _ _ 1 (by omega)]; exact hc 1 _ rfl, l1, g1⟩
/-! #### struct type 41 -/
structure S41 where
  f0 : Int
  f1 : (List (List Int))
def z41 : S41 := ⟨(0 : Int), ([] : List (List Int))⟩
def k41 : Kd S41 := Kd.iso (Kd.pair (Kd.int .i64) (Kd.slice 86 (Kd.slice 3 (Kd.int .i64)))) (fun x : S41 => (x.f0, x.f1))
theorem k41_open {w : World} {x : S41} {cs : List Value} (h : k41.K w x cs) : ∃ A1 c1, cs = [.int .i64 x.f0, .slice A1 x.f1.length c1] ∧ x.f1.length ≤ c1 ∧ (Kd.slice 3 (Kd.int .i64)).C w A1 x.f1.length x.f1 := by
  obtain ⟨_, _, rfl, rfl, ⟨A1, c1, rfl, l1, g1⟩⟩ := h
  exact ⟨A1, c1, rfl, l1, g1⟩
theorem k41_openM {w : World} {base : Nat} {ok : Nat → Prop} {x : S41} {cs : List Value} (h : k41.M w base ok x cs) : ∃ v1, cs = [.int .i64 x.f0, v1] ∧ (Kd.slice 3 (Kd.int .i64)).R 86 w base ok v1 x.f1 := by
  obtain ⟨_, _, rfl, rfl, ⟨v1, rfl, g1⟩⟩ := h
  exact ⟨v1, rfl, g1⟩
theorem k41_mk (w : World) (x : S41) {A1 : Option Addr} {c1 : Nat} (l1 : x.f1.length ≤ c1) (g1 : (Kd.slice 3 (Kd.int .i64)).C w A1 x.f1.length x.f1) : k41.K w x [.int .i64 x.f0, .slice A1 x.f1.length c1] := ⟨[.int .i64 x.f0], [.slice A1 x.f1.length c1], rfl, rfl, ⟨A1, c1, rfl, l1, g1⟩⟩
theorem k41_mkM (w : World) (base : Nat) (ok : Nat → Prop) (x : S41) {v1 : Value} (g1 : (Kd.slice 3 (Kd.int .i64)).R 86 w base ok v1 x.f1) : k41.M w base ok x [.int .i64 x.f0, v1] := ⟨[.int .i64 x.f0], [v1], rfl, rfl, ⟨v1, rfl, g1⟩⟩
theorem k41_openF {W : World} {ok : Nat → Prop} {x : S41} {cs : List Value} (h : Kd.FK k41 W ok x cs) : ∃ A1 c1, cs = [.int .i64 x.f0, .slice A1 x.f1.length c1] ∧ x.f1.length ≤ c1 ∧ Kd.F (Kd.slice 3 (Kd.int .i64)) W ok A1 x.f1.length x.f1 := by
  obtain ⟨A1, c1, rfl, l1, _⟩ := k41_open (Kd.FK_now h)
  exact ⟨A1, c1, rfl, l1, (fun W' hW => by obtain ⟨A1_, c1_, he, l1_, g1_⟩ := k41_open (h W' hW); injection (Option.some.inj (show some (Value.slice A1 x.f1.length c1) = some (Value.slice A1_ x.f1.length c1_) from congrArg (fun l => l[1]?) he)) with ha_ _ _; rw [ha_]; exact g1_)⟩
theorem k41_mkF (W : World) (ok : Nat → Prop) (x : S41) {A1 : Option Addr} {c1 : Nat} (l1 : x.f1.length ≤ c1) (g1 : Kd.F (Kd.slice 3 (Kd.int .i64)) W ok A1 x.f1.length x.f1) : Kd.FK k41 W ok x [.int .i64 x.f0, .slice A1 x.f1.length c1] := fun W2 hW => k41_mk W2 x l1 (g1 W2 hW)
def rd_T41 (xs : List S41) (i : Int) : S41 := xs.getD i.toNat z41
theorem at_T41 {w : World} {A : Option Addr} {n : Nat} {xs : List S41} (h : Kd.C k41 w A n xs) (i : Int) (h0 : 0 ≤ i) (h1 : i < n) : ∃ ad A1 c1, A = some ad ∧ w.cell? (ad.add (i.toNat * 2)) = some (.int .i64 (rd_T41 xs i).f0) ∧ w.cell? ⟨(ad.add (i.toNat * 2)).block, (ad.add (i.toNat * 2)).off + 1, none⟩ = some (.slice A1 (rd_T41 xs i).f1.length c1) ∧ (rd_T41 xs i).f1.length ≤ c1 ∧ (Kd.slice 3 (Kd.int .i64)).C w A1 (rd_T41 xs i).f1.length (rd_T41 xs i).f1 := by
  obtain ⟨ad, c, e, _, hK, hc0⟩ := Kd.C_get h z41 i h0 h1
  have hc : ∀ j u, c[j]? = some u → w.cell? (ad.add (i.toNat * 2 + j)) = some u := hc0
  obtain ⟨A1, c1, rfl, l1, g1⟩ := k41_open hK
  exact ⟨ad, A1, c1, e, hc 0 _ rfl, by rw [← add_field _ _ 1 (by omega)]; exact hc 1 _ rfl, l1, g1⟩
/-! ### impl_Pins_keys: function 92 -/
def impl_Pins_keys.l0 : Nat → Int → List (List Int) → Int → Int → Option (Int)
  | 0, _, _, _, _ => none
  | k + 1, x3, x7, x8, x9 => if x9 < x8 then (if 0 ≤ x9 then (if x9 < (x7.length : Int) then (impl_Pins_keys.l0 k (wrap64 (x3 * ((rd_L5 x7 x9).length : Int))) x7 x8 (wrap64 (x9 + 1))) else (none)) else (none)) else (some x3)
def impl_Pins_keys.f (k : Nat) (a0_0 : Int) (l0_1 : List (List Int)) : Option (Int) := impl_Pins_keys.l0 k 1 l0_1 (l0_1.length : Int) 0
set_option maxHeartbeats 8000000 in
set_option maxRecDepth 100000 in
theorem impl_Pins_keys.calls (k : Nat) (a0_0 : Int) (A0_1 : Option Addr) (c0_1 : Nat) (l0_1 : List (List Int)) (r : Int) (w : World) (hr0_1 : Kd.C (Kd.slice 3 (Kd.int .i64)) w A0_1 l0_1.length l0_1) (hc0_1 : l0_1.length ≤ c0_1) (h : impl_Pins_keys.f k a0_0 l0_1 = some r) :
    Calls Try.prog 92 #[.agg #[.int .i64 a0_0, .slice A0_1 l0_1.length c0_1]] w fun e w' => e = .returned (.int .i64 r) ∧ Below w.heap.size w w' := by
  have hu41 := Try.underlying41
  have HR0_1 := amk hr0_1
  have HC0_1 := amk hc0_1
  clear hr0_1 hc0_1
  have HB := amk (Below.refl w.heap.size w)
  have H : (impl_Pins_keys.l0 k 1 l0_1 (l0_1.length : Int) 0) = some r := h
  clear h
  have H' := amk H
  clear H
  go_enter Try.func92, Try.ntmps92
  go_wp2_with (first | ((with_reducible refine gate_dst (N := 1) rfl ?_); refine box_event ?hg (N := 1) ?hd (cs := #[.int .i64 a0_0, .slice A0_1 l0_1.length c0_1]) (t := 41) ?hr ?_; (case hd => rfl); (case hg => rfl); (case hr => first | (go_simp; done) | (go_simp; rfl)); intro gb479 hg w2 hbox hb; have n0_ := amk (bp_ (by repeat (first | (with_reducible first | exact HB.out | apply ba_ | apply bn_ | apply bd_) | exact HB.out)) hb); have n1_ := amk (hbox); have n2_ := amk ((by rw [hg]; exact (below_size (by repeat (first | (with_reducible first | exact HB.out | apply ba_ | apply bn_ | apply bd_) | exact HB.out))) : w.heap.size ≤ gb479)); have n3_ := amk ((by rw [hg]; exact (below_size (by repeat (first | (with_reducible first | exact HB.out | apply ba_ | apply bn_ | apply bd_) | exact HB.out))) : w.heap.size ≤ gb479)); clear HB; have HB := n0_; have BK479 := n1_; have GW479 := n2_; have GE479 := n3_; clear n0_ n1_ n2_ n3_; clear hb hbox hg; have hcz3_0 : w2.cell? ⟨gb479, 0, none⟩ = some (.int .i64 a0_0) := (blk_cell BK479.out 0).trans rfl; have hcz3_1 : w2.cell? ⟨gb479, 1, none⟩ = some (.slice A0_1 l0_1.length c0_1) := (blk_cell BK479.out 1).trans rfl; have hfz3_0 := blk_frozen BK479.out 0; have hfz3_1 := blk_frozen BK479.out 1))
  go_loopg [3, 9] k (fun kq v3 v9 w' => ∃ (x3_1 : Int) (x9_1 : Int), v3 = .int .i64 x3_1 ∧ v9 = .int .i64 x9_1 ∧ Aside0 (impl_Pins_keys.l0 kq x3_1 l0_1 (l0_1.length : Int) x9_1 = some r) ∧ Aside0 (kq ≤ k) ∧ Aside0 (w'.heap[gb479]? = some (.cells #[.int .i64 a0_0, (.slice A0_1 l0_1.length c0_1)] 41 (0, 0))) ∧ Aside0 (Below w.heap.size w w'))
  case atStart => exact ⟨(1), (0), (by first | rfl | (simp; done) | (simp [*]; done)), (by first | rfl | (simp; done) | (simp [*]; done)), H', ⟨Nat.le_refl _⟩, ⟨by (with_reducible repeat (first | refine kn_ ?_ _ | refine blk_drew ?_ | refine ka_ ?_ _)); exact BK479.out⟩, ⟨by repeat (first | (with_reducible first | exact HB.out | apply ba_ | apply bn_ | apply bd_ | refine bs_ ?_ GE479.out) | exact HB.out)⟩⟩
  case round =>
    clear H'
    try clear p2; try clear hcz3_0; try clear hcz3_1; try clear hfz3_0; try clear hfz3_1
    obtain ⟨x3_1, x9_1, rfl, rfl, HA, HK1, BK479, HB⟩ := hrel
    cases gk with
    | zero => exact absurd HA.out (by simp [impl_Pins_keys.l0])
    | succ k1 =>
      have H := HA.out
      clear HA
      simp only [impl_Pins_keys.l0] at H
      by_cases c4 : x9_1 < (l0_1.length : Int)
      · rw [if_pos c4] at H
        have c4b0 : decide (x9_1 < (l0_1.length : Int)) = true := decide_eq_true c4
        clear c4
        by_cases c5 : 0 ≤ x9_1
        · rw [if_pos c5] at H
          have c5b0 : decide (0 ≤ x9_1) = true := decide_eq_true c5
          clear c5
          by_cases c6 : x9_1 < (l0_1.length : Int)
          · rw [if_pos c6] at H
            have c6b0 : decide (x9_1 < (l0_1.length : Int)) = true := decide_eq_true c6
            clear c6
            have H' := amk H
            clear H
            have p480 : 0 ≤ (x9_1 : Int) := of_decide_eq_true (by first | (with_reducible assumption) | assumption)
            have q480 : x9_1 < (l0_1.length : Int) := of_decide_eq_true (by first | (with_reducible assumption) | assumption)
            obtain ⟨ad480, A480_0, c480_0, e480, hx480_0, hl480_0, hi480_0⟩ := at_L5 HR0_1.out x9_1 p480 q480
            cases e480
            replace hx480_0 := (HB.out.cell (World.block_lt_of_cell? w _ hx480_0)).trans hx480_0
            have HR480_0 := amk hi480_0
            have HC480_0 := amk hl480_0
            clear hi480_0 hl480_0
            replace p480 := eq_true p480
            replace q480 := eq_true q480
            go_wp2
            go_roundg k1
            case measure => have := HK1.out; omega
            case rel => exact ⟨(wrap64 (x3_1 * ((rd_L5 l0_1 x9_1).length : Int))), (wrap64 (x9_1 + 1)), (by first | rfl | (simp; done) | (simp [*]; done)), (by first | rfl | (simp; done) | (simp [*]; done)), H', ⟨by have := HK1.out; omega⟩, ⟨by (with_reducible repeat (first | refine kn_ ?_ _ | refine blk_drew ?_ | refine ka_ ?_ _)); exact BK479.out⟩, ⟨by repeat (first | (with_reducible first | exact HB.out | apply ba_ | apply bn_ | apply bd_ | refine bs_ ?_ GE479.out) | exact HB.out)⟩⟩
          · rw [if_neg c6] at H
            exact absurd H (by simp)
        · rw [if_neg c5] at H
          exact absurd H (by simp)
      · rw [if_neg c4] at H
        have c4b0 : decide (x9_1 < (l0_1.length : Int)) = false := decide_eq_false c4
        clear c4
        obtain rfl := Option.some.inj H
        go_wp2
        go_ret
        exact ⟨by first | rfl | (simp [errW_none, errW_some] <;> rfl) | (simp [*, errW_none, errW_some] <;> rfl), by repeat (first | (with_reducible first | exact HB.out | apply ba_ | apply bn_ | apply bd_ | refine bs_ ?_ GE479.out) | exact HB.out)⟩
/-! ### slices_Index_int_int: function 97 -/
def slices_Index_int_int.l0 : Nat → List Int → Int → Int → Int → Option (Int)
  | 0, _, _, _, _ => none
  | k + 1, x0, x1, x7, x8 => if x8 < x7 then (if 0 ≤ x8 then (if x8 < (x0.length : Int) then (if x1 = (rd x0 x8) then (some x8) else (slices_Index_int_int.l0 k x0 x1 x7 (wrap64 (x8 + 1)))) else (none)) else (none)) else (some (-1))
def slices_Index_int_int.f (k : Nat) (l0 : List Int) (a1 : Int) : Option (Int) := slices_Index_int_int.l0 k l0 a1 (l0.length : Int) 0
set_option maxHeartbeats 8000000 in
set_option maxRecDepth 100000 in
theorem slices_Index_int_int.calls (k : Nat) (A0 : Option Addr) (c0 : Nat) (l0 : List Int) (a1 : Int) (r : Int) (w : World) (hr0 : Kd.C (Kd.int .i64) w A0 l0.length l0) (hc0 : l0.length ≤ c0) (h : slices_Index_int_int.f k l0 a1 = some r) :
    Calls Try.prog 97 #[.slice A0 l0.length c0, .int .i64 a1] w fun e w' => e = .returned (.int .i64 r) ∧ Drawn0 w w' := by
  have HR0 := amk hr0
  have HC0 := amk hc0
  clear hr0 hc0
  have H : (slices_Index_int_int.l0 k l0 a1 (l0.length : Int) 0) = some r := h
  clear h
  have H' := amk H
  clear H
  go_enter Try.func97, Try.ntmps97
  go_wp2
  go_loopg [8] k (fun kq v8 w' => ∃ (x8_1 : Int), v8 = .int .i64 x8_1 ∧ Aside0 (slices_Index_int_int.l0 kq l0 a1 (l0.length : Int) x8_1 = some r) ∧ Aside0 (kq ≤ k) ∧ Drawn0 w w')
  case atStart => exact ⟨(0), (by first | rfl | (simp; done) | (simp [*]; done)), H', ⟨Nat.le_refl _⟩, by repeat (first | exact Drawn0.refl _ | apply Drawn0.step)⟩
  case round =>
    clear H'
    try clear p2
    obtain ⟨x8_1, rfl, HA, HK1, ⟨m1, rfl⟩⟩ := hrel
    cases gk with
    | zero => exact absurd HA.out (by simp [slices_Index_int_int.l0])
    | succ k1 =>
      have H := HA.out
      clear HA
      simp only [slices_Index_int_int.l0] at H
      by_cases c3 : x8_1 < (l0.length : Int)
      · rw [if_pos c3] at H
        have c3b0 : decide (x8_1 < (l0.length : Int)) = true := decide_eq_true c3
        clear c3
        by_cases c4 : 0 ≤ x8_1
        · rw [if_pos c4] at H
          have c4b0 : decide (0 ≤ x8_1) = true := decide_eq_true c4
          clear c4
          by_cases c5 : x8_1 < (l0.length : Int)
          · rw [if_pos c5] at H
            have c5b0 : decide (x8_1 < (l0.length : Int)) = true := decide_eq_true c5
            clear c5
            by_cases c6 : a1 = (rd l0 x8_1)
            · rw [if_pos c6] at H
              have c6b0 : (a1 == (rd l0 x8_1)) = true := beq_iff_eq.mpr c6
              have c6b1 : (a1 != (rd l0 x8_1)) = false := bne_eq_false_iff_eq.mpr c6
              clear c6
              obtain rfl := Option.some.inj H
              have p340 : 0 ≤ (x8_1 : Int) := of_decide_eq_true (by first | (with_reducible assumption) | assumption)
              have q340 : x8_1 < (l0.length : Int) := of_decide_eq_true (by first | (with_reducible assumption) | assumption)
              obtain ⟨ad340, e340, hx340_0⟩ := Kd.at_int HR0.out x8_1 p340 q340
              cases e340
              replace p340 := eq_true p340
              replace q340 := eq_true q340
              go_wp2
              go_ret
              exact ⟨by first | rfl | (simp; done) | (simp [*]; done), by repeat (first | exact Drawn0.refl _ | apply Drawn0.step)⟩
            · rw [if_neg c6] at H
              have c6b0 : (a1 == (rd l0 x8_1)) = false := beq_eq_false_iff_ne.mpr c6
              have c6b1 : (a1 != (rd l0 x8_1)) = true := bne_iff_ne.mpr c6
              have H' := amk H
              clear H
              have p340 : 0 ≤ (x8_1 : Int) := of_decide_eq_true (by first | (with_reducible assumption) | assumption)
              have q340 : x8_1 < (l0.length : Int) := of_decide_eq_true (by first | (with_reducible assumption) | assumption)
              obtain ⟨ad340, e340, hx340_0⟩ := Kd.at_int HR0.out x8_1 p340 q340
              cases e340
              replace p340 := eq_true p340
              replace q340 := eq_true q340
              go_wp2
              go_roundg k1
              case measure => have := HK1.out; omega
              case rel => exact ⟨(wrap64 (x8_1 + 1)), (by first | rfl | (simp; done) | (simp [*]; done)), H', ⟨by have := HK1.out; omega⟩, by repeat (first | exact Drawn0.refl _ | apply Drawn0.step)⟩
          · rw [if_neg c5] at H
            exact absurd H (by simp)
        · rw [if_neg c4] at H
          exact absurd H (by simp)
      · rw [if_neg c3] at H
        have c3b0 : decide (x8_1 < (l0.length : Int)) = false := decide_eq_false c3
        clear c3
        obtain rfl := Option.some.inj H
        go_wp2
        go_ret
        exact ⟨by first | rfl | (simp; done) | (simp [*]; done), by repeat (first | exact Drawn0.refl _ | apply Drawn0.step)⟩
/-! ### slices_Contains_int_int: function 104 -/
def slices_Contains_int_int.f (k : Nat) (l0 : List Int) (a1 : Int) : Option (Bool) := (slices_Index_int_int.f k l0 a1).bind fun t341 => (some (decide (t341 ≥ 0)))
set_option maxHeartbeats 8000000 in
set_option maxRecDepth 100000 in
theorem slices_Contains_int_int.calls (k : Nat) (A0 : Option Addr) (c0 : Nat) (l0 : List Int) (a1 : Int) (r : Bool) (w : World) (hr0 : Kd.C (Kd.int .i64) w A0 l0.length l0) (hc0 : l0.length ≤ c0) (h : slices_Contains_int_int.f k l0 a1 = some r) :
    Calls Try.prog 104 #[.slice A0 l0.length c0, .int .i64 a1] w fun e w' => e = .returned (.bool r) ∧ Drawn0 w w' := by
  have HR0 := amk hr0
  have HC0 := amk hc0
  clear hr0 hc0
  have H : ((slices_Index_int_int.f k l0 a1).bind fun t341 => (some (decide (t341 ≥ 0)))) = some r := h
  clear h
  replace H := Option.bind_eq_some_iff.mp H
  obtain ⟨t341, A30, H⟩ := H
  replace H : (some (decide (t341 ≥ 0))) = some r := H
  have A3 := amk A30
  clear A30
  obtain rfl := Option.some.inj H
  go_enter Try.func104, Try.ntmps104
  go_wp2_with (first | ((with_reducible refine gate_callee (f := 97) rfl ?_); refine goesL_ (some 7) rfl rfl Try.func97 (by kernel_rfl) rfl #[.slice A0 l0.length c0, .int .i64 a1] rfl (by (try simp only [List.map_toArray, List.map_cons, List.map_nil]); first | done | rfl | (simp only [List.length_drop, List.length_take]; rfl)) ?_; (with_reducible refine (slices_Index_int_int.calls k _ _ l0 a1 t341 _ ?side1 ?side2 A3.out).mono ?_); (case side1 => repeat (first | exact HR0.out | (with_reducible refine Kd.C_alloc ?_ _) | (with_reducible refine Kd.C_drewN ?_ _) | (with_reducible refine Kd.C_drew ?_))); (case side2 => exact HC0.out); rintro e w' ⟨rfl, ⟨nd, rfl⟩⟩; refine ⟨_, rfl, ?_⟩))
  go_ret
  exact ⟨by first | rfl | (simp; done) | (simp [*]; done), by repeat (first | exact Drawn0.refl _ | apply Drawn0.step)⟩
/-! ### impl_joined: function 101 -/
mutual
def impl_joined.l0 : Nat → List (S41) → Int → Int → Int → Int → List (List Int) → Option (Int × (List (List Int)))
  | 0, _, _, _, _, _, _ => none
  | k + 1, x0, x1, x21, x22, x345000, x345001 => if x22 < x21 then (impl_joined.l1 k x0 x1 x22 (([] : List Int)) x21 x22 x345000 0 x345000 x345001) else (some (x345000, x345001))
def impl_joined.l1 : Nat → List (S41) → Int → Int → List Int → Int → Int → Int → Int → Int → List (List Int) → Option (Int × (List (List Int)))
  | 0, _, _, _, _, _, _, _, _, _, _ => none
  | k + 1, x0, x1, x6, x7, x21, x22, x27, x28, x345000, x345001 => if x28 < x27 then (impl_joined.l2 k x0 x1 x6 x7 x28 0 x21 x22 x27 x28 x0 (x0.length : Int) 0 x345000 x345001) else (if x345001.length < 5864062014805 then (impl_joined.l0 k x0 x1 x21 (wrap64 (x22 + 1)) x345000 (x345001 ++ [x7])) else (none))
def impl_joined.l2 : Nat → List (S41) → Int → Int → List Int → Int → Int → Int → Int → Int → Int → List (S41) → Int → Int → Int → List (List Int) → Option (Int × (List (List Int)))
  | 0, _, _, _, _, _, _, _, _, _, _, _, _, _, _, _ => none
  | k + 1, x0, x1, x6, x7, x8, x9, x21, x22, x27, x28, x31, x32, x33, x345000, x345001 => if x33 < x32 then (if 0 ≤ x33 then (if x33 < (x31.length : Int) then (if 0 ≤ x6 then (if x6 < (((rd_T41 x31 x33).f1).length : Int) then ((slices_Contains_int_int.f k (rd_L5 ((rd_T41 x31 x33).f1) x6) x8).bind fun t355 => (if t355 = true then (impl_joined.l2 k x0 x1 x6 x7 x8 (wrap64 (x9 + 1)) x21 x22 x27 x28 x31 x32 (wrap64 (x33 + 1)) x345000 x345001) else (impl_joined.l2 k x0 x1 x6 x7 x8 x9 x21 x22 x27 x28 x31 x32 (wrap64 (x33 + 1)) x345000 x345001))) else (none)) else (none)) else (none)) else (none)) else (if x9 ≥ x1 then (if x7.length < 17592186044416 then (impl_joined.l1 k x0 x1 x6 (x7 ++ [x8]) x21 x22 x27 (wrap64 (x28 + 1)) x345000 x345001) else (none)) else (impl_joined.l1 k x0 x1 x6 x7 x21 x22 x27 (wrap64 (x28 + 1)) x345000 x345001))
end
def impl_joined.f (k : Nat) (l0 : List (S41)) (a1 : Int) : Option (Int × (List (List Int))) := if 0 < (l0.length : Int) then (impl_joined.l0 k l0 a1 (((rd_T41 l0 0).f1).length : Int) 0 ((rd_T41 l0 0).f0) ([] : List (List Int))) else (none)
set_option maxHeartbeats 8000000 in
set_option maxRecDepth 100000 in
theorem impl_joined.calls (k : Nat) (A0 : Option Addr) (c0 : Nat) (l0 : List (S41)) (a1 : Int) (r1 : Int) (r2 : List (List Int)) (w : World) (hr0 : Kd.C k41 w A0 l0.length l0) (hc0 : l0.length ≤ c0) (h : impl_joined.f k l0 a1 = some (r1, r2)) :
    Calls Try.prog 101 #[.slice A0 l0.length c0, .int .i64 a1] w fun e w' => ∃ v1_ : Value, e = .returned (.agg #[.int .i64 r1, v1_]) ∧ Kd.S (Kd.slice 3 (Kd.int .i64)) 86 w' w.heap.size (fun _ => True) v1_ r2 ∧ Below w.heap.size w w' := by
  have hu41 := Try.underlying41
  have HR0 := amk hr0
  have HC0 := amk hc0
  clear hr0 hc0
  have HB := amk (Below.refl w.heap.size w)
  have H : (if 0 < (l0.length : Int) then (impl_joined.l0 k l0 a1 (((rd_T41 l0 0).f1).length : Int) 0 ((rd_T41 l0 0).f0) ([] : List (List Int))) else (none)) = some (r1, r2) := h
  clear h
  by_cases c3 : 0 < (l0.length : Int)
  · rw [if_pos c3] at H
    have c3b0 : decide (0 < (l0.length : Int)) = true := decide_eq_true c3
    have c3b1 : decide (0 < l0.length) = true := decide_eq_true (by omega)
    clear c3
    have H' := amk H
    clear H
    go_enter Try.func101, Try.ntmps101
    go_wp2_with (first | ((with_reducible refine gate_dst (N := 4) rfl ?_); refine box_event ?hg (N := 4) ?hd (cs := #[.int .i64 0, .slice none 0 0]) (t := 41) ?hr ?_; (case hd => rfl); (case hg => rfl); (case hr => first | (go_simp; done) | (go_simp; rfl)); intro gb342 hg w4 hbox hb; have n0_ := amk (bp_ (by repeat (first | (with_reducible first | exact HB.out | apply ba_ | apply bn_ | apply bd_) | exact HB.out)) hb); have n1_ := amk (hbox); have n2_ := amk ((by rw [hg]; exact (below_size (by repeat (first | (with_reducible first | exact HB.out | apply ba_ | apply bn_ | apply bd_) | exact HB.out))) : w.heap.size ≤ gb342)); have n3_ := amk ((by rw [hg]; exact (below_size (by repeat (first | (with_reducible first | exact HB.out | apply ba_ | apply bn_ | apply bd_) | exact HB.out))) : w.heap.size ≤ gb342)); clear HB; have HB := n0_; have BK342 := n1_; have GW342 := n2_; have GE342 := n3_; clear n0_ n1_ n2_ n3_; clear hb hbox hg; have p343 : 0 ≤ (0 : Int) := (by omega); have q343 : 0 < (l0.length : Int) := of_decide_eq_true (by first | (with_reducible assumption) | assumption); obtain ⟨ad343, A343_1, c343_1, e343, hx343_0, hx343_1, hl343_1, hi343_1⟩ := at_T41 HR0.out 0 p343 q343; cases e343; have qi343 : (0 < l0.length) = True := eq_true (by omega); (try rw [show ((0 : Int)).toNat = 0 from rfl] at hx343_0); (try rw [show 0 * 2 = 0 from rfl] at hx343_0); (try rw [Addr.add_zero'] at hx343_0); (try rw [show ((0 : Int)).toNat = 0 from rfl] at hx343_1); (try rw [show 0 * 2 = 0 from rfl] at hx343_1); (try rw [Addr.add_zero'] at hx343_1); replace hx343_0 := (HB.out.cell (World.block_lt_of_cell? w _ hx343_0)).trans hx343_0; replace hx343_1 := (HB.out.cell (World.block_lt_of_cell? w _ hx343_1)).trans hx343_1; have HR343_1 := amk hi343_1; have HC343_1 := amk hl343_1; clear hi343_1 hl343_1; replace p343 := eq_true p343; replace q343 := eq_true q343) | ((with_reducible refine gate_dst (N := 5) rfl ?_); refine box_event ?hg (N := 5) ?hd (cs := #[.int .i64 0, .slice none 0 0]) (t := 41) ?hr ?_; (case hd => rfl); (case hg => rfl); (case hr => first | (go_simp; done) | (go_simp; rfl)); intro gb344 hg w5 hbox hb; have n0_ := amk (blk_below (g := gb342) (o := .cells #[.int .i64 0, .slice none 0 0] 41 (0, 0)) (by (with_reducible repeat (first | refine kn_ ?_ _ | refine blk_drew ?_ | refine ka_ ?_ _)); exact BK342.out) hb); have n1_ := amk (bp_ (by repeat (first | (with_reducible first | exact HB.out | apply ba_ | apply bn_ | apply bd_ | refine bs_ ?_ GE342.out) | exact HB.out)) hb); have n2_ := amk (hbox); have n3_ := amk ((by rw [hg]; exact (below_size (by repeat (first | (with_reducible first | exact HB.out | apply ba_ | apply bn_ | apply bd_ | refine bs_ ?_ GE342.out) | exact HB.out))) : w.heap.size ≤ gb344)); have n4_ := amk ((by rw [hg]; exact (below_size (by repeat (first | (with_reducible first | exact HB.out | apply ba_ | apply bn_ | apply bd_ | refine bs_ ?_ GE342.out) | exact HB.out))) : w.heap.size ≤ gb344)); have n5_ := amk ((by rw [hg]; exact Nat.ne_of_lt (blk_lt (g := gb342) (o := .cells #[.int .i64 0, .slice none 0 0] 41 (0, 0)) (by (with_reducible repeat (first | refine kn_ ?_ _ | refine blk_drew ?_ | refine ka_ ?_ _)); exact BK342.out)) : gb342 ≠ gb344)); have n6_ := amk ((by rw [hg]; exact Nat.ne_of_gt (blk_lt (g := gb342) (o := .cells #[.int .i64 0, .slice none 0 0] 41 (0, 0)) (by (with_reducible repeat (first | refine kn_ ?_ _ | refine blk_drew ?_ | refine ka_ ?_ _)); exact BK342.out)) : gb344 ≠ gb342)); clear BK342; clear HB; have BK342 := n0_; have HB := n1_; have BK344 := n2_; have GW344 := n3_; have GE344 := n4_; have NB342_344 := n5_; have NB344_342 := n6_; clear n0_ n1_ n2_ n3_ n4_ n5_ n6_; clear hb hbox hg; have hnb6 := NB344_342.out; have hnc6 := NB342_344.out; have hcz7_0 : w5.cell? ⟨gb344, 0, none⟩ = some (.int .i64 0) := (blk_cell BK344.out 0).trans rfl; have hcz7_1 : w5.cell? ⟨gb344, 1, none⟩ = some (.slice none 0 0) := (blk_cell BK344.out 1).trans rfl; have hfz7_0 := blk_frozen BK344.out 0; have hfz7_1 := blk_frozen BK344.out 1; have p345 : 0 ≤ (0 : Int) := (by omega); have q345 : 0 < (l0.length : Int) := of_decide_eq_true (by first | (with_reducible assumption) | assumption); obtain ⟨ad345, A345_1, c345_1, e345, hx345_0, hx345_1, hl345_1, hi345_1⟩ := at_T41 HR0.out 0 p345 q345; obtain rfl : ad343 = ad345 := (by injection e345); have qi345 : (0 < l0.length) = True := eq_true (by omega); (try rw [show ((0 : Int)).toNat = 0 from rfl] at hx345_0); (try rw [show 0 * 2 = 0 from rfl] at hx345_0); (try rw [Addr.add_zero'] at hx345_0); (try rw [show ((0 : Int)).toNat = 0 from rfl] at hx345_1); (try rw [show 0 * 2 = 0 from rfl] at hx345_1); (try rw [Addr.add_zero'] at hx345_1); have hn345_0 : ad343.block ≠ gb344 := Nat.ne_of_lt (Nat.lt_of_lt_of_le (by have := World.block_lt_of_cell? _ _ hx345_0; first | rwa [add_block] at this | exact this) GW344.out); have hn345_1 : ad343.block ≠ gb344 := Nat.ne_of_lt (Nat.lt_of_lt_of_le (by have := World.block_lt_of_cell? _ _ hx345_0; first | rwa [add_block] at this | exact this) GW344.out); replace hx345_0 := (HB.out.cell (World.block_lt_of_cell? w _ hx345_0)).trans hx345_0; replace hx345_1 := (HB.out.cell (World.block_lt_of_cell? w _ hx345_1)).trans hx345_1; have HR345_1 := amk hi345_1; have HC345_1 := amk hl345_1; clear hi345_1 hl345_1; replace hx345_0 := (cell_far (p := ⟨gb344, 0, none⟩) (by first | (rw [add_block]; exact hn345_0) | (show (Addr.add _ _).block ≠ _; rw [add_block]; exact hn345_0) | exact hn345_0) (.int .i64 ((rd_T41 l0 0).f0))).trans hx345_0; replace hx345_1 := (cell_far (p := ⟨gb344, 0, none⟩) (by first | (rw [add_block]; exact hn345_0) | (show (Addr.add _ _).block ≠ _; rw [add_block]; exact hn345_0) | exact hn345_0) (.int .i64 ((rd_T41 l0 0).f0))).trans hx345_1; replace hx345_0 := (cell_far (p := ⟨gb344, 1, none⟩) (by first | (rw [add_block]; exact hn345_1) | (show (Addr.add _ _).block ≠ _; rw [add_block]; exact hn345_1) | exact hn345_1) (.slice none 0 0)).trans hx345_0; replace hx345_1 := (cell_far (p := ⟨gb344, 1, none⟩) (by first | (rw [add_block]; exact hn345_1) | (show (Addr.add _ _).block ≠ _; rw [add_block]; exact hn345_1) | exact hn345_1) (.slice none 0 0)).trans hx345_1; clear hn345_0; clear hn345_1; replace p345 := eq_true p345; replace q345 := eq_true q345))
    go_loopg [22] k (fun kq v22 w' => ∃ (x22_1 : Int) (x345001_1 : List (List Int)) (u345001 : Value), v22 = .int .i64 x22_1 ∧ Aside0 (impl_joined.l0 kq l0 a1 (((rd_T41 l0 0).f1).length : Int) x22_1 ((rd_T41 l0 0).f0) x345001_1 = some (r1, r2)) ∧ Aside0 (kq ≤ k) ∧ Aside0 (Kd.S (Kd.slice 3 (Kd.int .i64)) 86 w' w.heap.size (fun _ => True) u345001 x345001_1) ∧ Aside0 (w'.heap[gb342]? = some (.cells #[.int .i64 0, (.slice none 0 0)] 41 (0, 0))) ∧ Aside0 (w'.heap[gb344]? = some (.cells #[.int .i64 ((rd_T41 l0 0).f0), u345001] 41 (0, 0))) ∧ Aside0 (Below w.heap.size w w'))
    case atStart => exact ⟨(0), (([] : List (List Int))), (.slice none 0 0), (by first | rfl | (simp; done) | (simp [*]; done)), H', ⟨Nat.le_refl _⟩, ⟨by first | exact Kd.S_nil _ _ _ _ _ | exact Kd.N_nil _ _ _ _ _ | exact Kd.V_nil _ _ _ _ _ | exact Kd.Q_nil _ _ _ _ _ | exact Kd.R_nil _ _ _ _ _⟩, ⟨by (with_reducible repeat (first | refine kn_ ?_ _ | refine blk_drew ?_ | refine ka_ ?_ _)); refine blk_far ?_ NB342_344.out _; (with_reducible repeat (first | refine kn_ ?_ _ | refine blk_drew ?_ | refine ka_ ?_ _)); refine blk_far ?_ NB342_344.out _; (with_reducible repeat (first | refine kn_ ?_ _ | refine blk_drew ?_ | refine ka_ ?_ _)); exact BK342.out⟩, ⟨by (with_reducible repeat (first | refine kn_ ?_ _ | refine blk_drew ?_ | refine ka_ ?_ _)); refine blk_put (cs := #[.int .i64 ((rd_T41 l0 0).f0), .slice none 0 0]) ?_ 1 _ rfl; (with_reducible repeat (first | refine kn_ ?_ _ | refine blk_drew ?_ | refine ka_ ?_ _)); refine blk_put (cs := #[.int .i64 0, .slice none 0 0]) ?_ 0 _ rfl; (with_reducible repeat (first | refine kn_ ?_ _ | refine blk_drew ?_ | refine ka_ ?_ _)); exact BK344.out⟩, ⟨by repeat (first | (with_reducible first | exact HB.out | apply ba_ | apply bn_ | apply bd_ | refine bs_ ?_ GE342.out | refine bs_ ?_ GE344.out) | exact HB.out)⟩⟩
    case round =>
      clear H'
      try clear c1; try clear p2; try clear c3; try clear c3b0; try clear c3b1; try clear p3; try clear q3; try clear hx3; try clear qi3; try clear c6; try clear hcz7_0; try clear hcz7_1; try clear hfz7_0; try clear hfz7_1; try clear hx343_0; try clear hx343_1; try clear hx345_0; try clear hx345_1; try clear p343; try clear p345; try clear q343; try clear q345
      obtain ⟨x22_1, x345001_1, u345001, rfl, HA, HK1, HO_345001, BK342, BK344, HB⟩ := hrel
      cases gk with
      | zero => exact absurd HA.out (by simp [impl_joined.l0])
      | succ k1 =>
        have H := HA.out
        clear HA
        simp only [impl_joined.l0] at H
        by_cases c8 : x22_1 < (((rd_T41 l0 0).f1).length : Int)
        · rw [if_pos c8] at H
          have c8b0 : decide (x22_1 < (((rd_T41 l0 0).f1).length : Int)) = true := decide_eq_true c8
          clear c8
          obtain ⟨y346, hy346⟩ : ∃ y_ : List Int, y_ = (([] : List Int)) := ⟨_, rfl⟩
          replace H : (impl_joined.l1 k1 l0 a1 x22_1 y346 (((rd_T41 l0 0).f1).length : Int) x22_1 ((rd_T41 l0 0).f0) 0 ((rd_T41 l0 0).f0) x345001_1) = some (r1, r2) := by first | (rw [hy346]; with_reducible exact H) | (have H2_ := (Option.bind_some _ _).symm.trans H; rw [hy346]; with_reducible exact H2_) | (have H2_ := (Option.bind_some _ _).symm.trans H; with_reducible exact H2_) | with_reducible exact H | (rw [hy346]; exact H) | exact H
          have Ny346 := amk hy346
          clear hy346
          have H' := amk H
          clear H
          go_wp2_with (first | ((with_reducible refine gate_dst (N := 25) rfl ?_); refine Kd.R_lit (Kd.int .i64) _ 3 ?hg (N := 25) ?hd (xs := ([] : List Int)) (inner := []) (ok := fun _ => True) (okp := fun _ => True) ?hr ?hp (fun _ hk => hk) trivial (Below.refl _ _) (Nat.le_refl _) (by simp) ?_; (case hd => rfl); (case hg => rfl); (case hr => first | (go_simp; done) | (go_simp; rfl)); (case hp => exact (Reps.none _ _)); intro v347 w9 ho10 hb hg_ hnew_; clear hg_ hnew_; (first | rw [← Ny346.out] at ho10 | (simp only [Int.reduceToNat] at ho10; rw [← Ny346.out] at ho10)); have n0_ := amk (Kd.S_elder' (by (with_reducible repeat (first | apply Kd.S_alloc | apply Kd.S_drewN | apply Kd.S_drew)); exact HO_345001.out) (Kd.R_base ho10) hb); have n1_ := amk (Kd.R_lower ho10 (below_size (by repeat (first | (with_reducible first | exact HB.out | apply ba_ | apply bn_ | apply bd_ | refine bs_ ?_ GE342.out | refine bs_ ?_ GE344.out) | exact HB.out)))); have n2_ := amk (blk_below (g := gb342) (o := .cells #[.int .i64 0, .slice none 0 0] 41 (0, 0)) (by (with_reducible repeat (first | refine kn_ ?_ _ | refine blk_drew ?_ | refine ka_ ?_ _)); exact BK342.out) hb); have n3_ := amk (blk_below (g := gb344) (o := .cells #[.int .i64 ((rd_T41 l0 0).f0), u345001] 41 (0, 0)) (by (with_reducible repeat (first | refine kn_ ?_ _ | refine blk_drew ?_ | refine ka_ ?_ _)); exact BK344.out) hb); have n4_ := amk (bp_ (by repeat (first | (with_reducible first | exact HB.out | apply ba_ | apply bn_ | apply bd_ | refine bs_ ?_ GE342.out | refine bs_ ?_ GE344.out) | exact HB.out)) hb); clear HO_345001; clear BK342; clear BK344; clear HB; have HO_345001 := n0_; have HO348 := n1_; have BK342 := n2_; have BK344 := n3_; have HB := n4_; clear n0_ n1_ n2_ n3_ n4_; clear hb ho10; have hnb11 := NB344_342.out; have hnc11 := NB342_344.out; have hcz12_0 : w9.cell? ⟨gb344, 0, none⟩ = some (.int .i64 ((rd_T41 l0 0).f0)) := (blk_cell BK344.out 0).trans rfl; have hcz12_1 : w9.cell? ⟨gb344, 1, none⟩ = some (u345001) := (blk_cell BK344.out 1).trans rfl; have hfz12_0 := blk_frozen BK344.out 0; have hfz12_1 := blk_frozen BK344.out 1))
          go_loopg [7, 28] k1 (fun kq v7 v28 w' => ∃ (x7_2 : List Int) (x28_2 : Int), v28 = .int .i64 x28_2 ∧ Aside0 (impl_joined.l1 kq l0 a1 x22_1 x7_2 (((rd_T41 l0 0).f1).length : Int) x22_1 ((rd_T41 l0 0).f0) x28_2 ((rd_T41 l0 0).f0) x345001_1 = some (r1, r2)) ∧ Aside0 (kq ≤ k1) ∧ Aside0 (Kd.R (Kd.int .i64) 3 w' w.heap.size (fun _ => True) v7 x7_2) ∧ Aside0 (Kd.S (Kd.slice 3 (Kd.int .i64)) 86 w' w.heap.size (fun k_ => some k_ ≠ (v7 : Value).ownBlock) u345001 x345001_1) ∧ Aside0 (w'.heap[gb342]? = some (.cells #[.int .i64 0, (.slice none 0 0)] 41 (0, 0))) ∧ Aside0 (w'.heap[gb344]? = some (.cells #[.int .i64 ((rd_T41 l0 0).f0), u345001] 41 (0, 0))) ∧ Aside0 (Below w.heap.size w w'))
          case atStart => exact ⟨(y346), (0), (by first | rfl | (simp; done) | (simp [*]; done)), H', ⟨Nat.le_refl _⟩, ⟨by (with_reducible repeat (first | apply Kd.R_alloc | apply Kd.R_drewN | apply Kd.R_drew)); exact HO348.out⟩, ⟨by (with_reducible repeat (first | apply Kd.S_alloc | apply Kd.S_drewN | apply Kd.S_drew)); exact Kd.S_mono HO_345001.out (fun _ hk => hk.2)⟩, ⟨by (with_reducible repeat (first | refine kn_ ?_ _ | refine blk_drew ?_ | refine ka_ ?_ _)); exact BK342.out⟩, ⟨by (with_reducible repeat (first | refine kn_ ?_ _ | refine blk_drew ?_ | refine ka_ ?_ _)); exact BK344.out⟩, ⟨by repeat (first | (with_reducible first | exact HB.out | apply ba_ | apply bn_ | apply bd_ | refine bs_ ?_ GE342.out | refine bs_ ?_ GE344.out) | exact HB.out)⟩⟩
          case round =>
            clear H'
            try clear c1; try clear p2; try clear c3; try clear c3b0; try clear c3b1; try clear p3; try clear q3; try clear hx3; try clear qi3; try clear c6; try clear c8; try clear c8b0; try clear c10; try clear c11; try clear hcz12_0; try clear hcz12_1; try clear hcz7_0; try clear hcz7_1; try clear hfz12_0; try clear hfz12_1; try clear hfz7_0; try clear hfz7_1; try clear hx343_0; try clear hx343_1; try clear hx345_0; try clear hx345_1; try clear p2; try clear p3; try clear p343; try clear p345; try clear q3; try clear q343; try clear q345
            obtain ⟨x7_2, x28_2, rfl, HA, HK2, HO_7, HO_345001, BK342, BK344, HB⟩ := hrel
            cases gk with
            | zero => exact absurd HA.out (by simp [impl_joined.l1])
            | succ k2 =>
              have H := HA.out
              clear HA
              simp only [impl_joined.l1] at H
              by_cases c13 : x28_2 < ((rd_T41 l0 0).f0)
              · rw [if_pos c13] at H
                have c13b0 : decide (x28_2 < ((rd_T41 l0 0).f0)) = true := decide_eq_true c13
                clear c13
                have H' := amk H
                clear H
                go_wp2
                go_loopg [9, 33] k2 (fun kq v9 v33 w' => ∃ (x9_3 : Int) (x33_3 : Int), v9 = .int .i64 x9_3 ∧ v33 = .int .i64 x33_3 ∧ Aside0 (impl_joined.l2 kq l0 a1 x22_1 x7_2 x28_2 x9_3 (((rd_T41 l0 0).f1).length : Int) x22_1 ((rd_T41 l0 0).f0) x28_2 l0 (l0.length : Int) x33_3 ((rd_T41 l0 0).f0) x345001_1 = some (r1, r2)) ∧ Aside0 (kq ≤ k2) ∧ Aside0 (Kd.R (Kd.int .i64) 3 w' w.heap.size (fun _ => True) u7 x7_2) ∧ Aside0 (Kd.S (Kd.slice 3 (Kd.int .i64)) 86 w' w.heap.size (fun k_ => some k_ ≠ (u7 : Value).ownBlock) u345001 x345001_1) ∧ Aside0 (w'.heap[gb342]? = some (.cells #[.int .i64 0, (.slice none 0 0)] 41 (0, 0))) ∧ Aside0 (w'.heap[gb344]? = some (.cells #[.int .i64 ((rd_T41 l0 0).f0), u345001] 41 (0, 0))) ∧ Aside0 (Below w.heap.size w w'))
                case atStart => exact ⟨(0), (0), (by first | rfl | (simp; done) | (simp [*]; done)), (by first | rfl | (simp; done) | (simp [*]; done)), H', ⟨Nat.le_refl _⟩, ⟨by (with_reducible repeat (first | apply Kd.R_alloc | apply Kd.R_drewN | apply Kd.R_drew)); exact HO_7.out⟩, ⟨by (with_reducible repeat (first | apply Kd.S_alloc | apply Kd.S_drewN | apply Kd.S_drew)); exact HO_345001.out⟩, ⟨by (with_reducible repeat (first | refine kn_ ?_ _ | refine blk_drew ?_ | refine ka_ ?_ _)); exact BK342.out⟩, ⟨by (with_reducible repeat (first | refine kn_ ?_ _ | refine blk_drew ?_ | refine ka_ ?_ _)); exact BK344.out⟩, ⟨by repeat (first | (with_reducible first | exact HB.out | apply ba_ | apply bn_ | apply bd_ | refine bs_ ?_ GE342.out | refine bs_ ?_ GE344.out) | exact HB.out)⟩⟩
                case round =>
                  clear H'
                  try clear c1; try clear p2; try clear c3; try clear c3b0; try clear c3b1; try clear p3; try clear q3; try clear hx3; try clear qi3; try clear c6; try clear c8; try clear c8b0; try clear c10; try clear c11; try clear c13; try clear c13b0; try clear hcz12_0; try clear hcz12_1; try clear hcz7_0; try clear hcz7_1; try clear hfz12_0; try clear hfz12_1; try clear hfz7_0; try clear hfz7_1; try clear hx343_0; try clear hx343_1; try clear hx345_0; try clear hx345_1; try clear p2; try clear p3; try clear p343; try clear p345; try clear q3; try clear q343; try clear q345
                  obtain ⟨x9_3, x33_3, rfl, rfl, HA, HK3, HO_7, HO_345001, BK342, BK344, HB⟩ := hrel
                  cases gk with
                  | zero => exact absurd HA.out (by simp [impl_joined.l2])
                  | succ k3 =>
                    have H := HA.out
                    clear HA
                    simp only [impl_joined.l2] at H
                    by_cases c14 : x33_3 < (l0.length : Int)
                    · rw [if_pos c14] at H
                      have c14b0 : decide (x33_3 < (l0.length : Int)) = true := decide_eq_true c14
                      clear c14
                      by_cases c15 : 0 ≤ x33_3
                      · rw [if_pos c15] at H
                        have c15b0 : decide (0 ≤ x33_3) = true := decide_eq_true c15
                        clear c15
                        by_cases c16 : x33_3 < (l0.length : Int)
                        · rw [if_pos c16] at H
                          have c16b0 : decide (x33_3 < (l0.length : Int)) = true := decide_eq_true c16
                          clear c16
                          by_cases c17 : 0 ≤ x22_1
                          · rw [if_pos c17] at H
                            have c17b0 : decide (0 ≤ x22_1) = true := decide_eq_true c17
                            clear c17
                            by_cases c18 : x22_1 < (((rd_T41 l0 x33_3).f1).length : Int)
                            · rw [if_pos c18] at H
                              have c18b0 : decide (x22_1 < (((rd_T41 l0 x33_3).f1).length : Int)) = true := decide_eq_true c18
                              clear c18
                              replace H := Option.bind_eq_some_iff.mp H
                              obtain ⟨t355, A190, H⟩ := H
                              replace H : (if t355 = true then (impl_joined.l2 k3 l0 a1 x22_1 x7_2 x28_2 (wrap64 (x9_3 + 1)) (((rd_T41 l0 0).f1).length : Int) x22_1 ((rd_T41 l0 0).f0) x28_2 l0 (l0.length : Int) (wrap64 (x33_3 + 1)) ((rd_T41 l0 0).f0) x345001_1) else (impl_joined.l2 k3 l0 a1 x22_1 x7_2 x28_2 x9_3 (((rd_T41 l0 0).f1).length : Int) x22_1 ((rd_T41 l0 0).f0) x28_2 l0 (l0.length : Int) (wrap64 (x33_3 + 1)) ((rd_T41 l0 0).f0) x345001_1)) = some (r1, r2) := H
                              have A19 := amk A190
                              clear A190
                              by_cases c20 : t355 = true
                              · subst c20
                                have H1 : (impl_joined.l2 k3 l0 a1 x22_1 x7_2 x28_2 (wrap64 (x9_3 + 1)) (((rd_T41 l0 0).f1).length : Int) x22_1 ((rd_T41 l0 0).f0) x28_2 l0 (l0.length : Int) (wrap64 (x33_3 + 1)) ((rd_T41 l0 0).f0) x345001_1) = some (r1, r2) := by rw [if_pos rfl] at H; exact H
                                clear H
                                have H := H1
                                clear H1
                                have H' := amk H
                                clear H
                                have p352 : 0 ≤ (x33_3 : Int) := of_decide_eq_true (by first | (with_reducible assumption) | assumption)
                                have q352 : x33_3 < (l0.length : Int) := of_decide_eq_true (by first | (with_reducible assumption) | assumption)
                                obtain ⟨ad352, A352_1, c352_1, e352, hx352_0, hx352_1, hl352_1, hi352_1⟩ := at_T41 HR0.out x33_3 p352 q352
                                obtain rfl : ad343 = ad352 := (by injection e352)
                                replace hx352_0 := (HB.out.cell (World.block_lt_of_cell? w _ hx352_0)).trans hx352_0
                                replace hx352_1 := (HB.out.cell (World.block_lt_of_cell? w _ hx352_1)).trans hx352_1
                                have HR352_1 := amk hi352_1
                                have HC352_1 := amk hl352_1
                                clear hi352_1 hl352_1
                                replace p352 := eq_true p352
                                replace q352 := eq_true q352
                                go_wp2_with (first | ((with_reducible refine gate_dst (N := 11) rfl ?_); refine box_event ?hg (N := 11) ?hd (cs := #[.int .i64 0, .slice none 0 0]) (t := 41) ?hr ?_; (case hd => rfl); (case hg => rfl); (case hr => first | (go_simp; done) | (go_simp; rfl)); intro gb353 hg w21 hbox hb; have n0_ := amk (Kd.R_below (by (with_reducible repeat (first | apply Kd.R_alloc | apply Kd.R_drewN | apply Kd.R_drew)); exact HO_7.out) hb); have n1_ := amk (Kd.S_below (by (with_reducible repeat (first | apply Kd.S_alloc | apply Kd.S_drewN | apply Kd.S_drew)); exact HO_345001.out) hb); have n2_ := amk (blk_below (g := gb342) (o := .cells #[.int .i64 0, .slice none 0 0] 41 (0, 0)) (by (with_reducible repeat (first | refine kn_ ?_ _ | refine blk_drew ?_ | refine ka_ ?_ _)); exact BK342.out) hb); have n3_ := amk (blk_below (g := gb344) (o := .cells #[.int .i64 ((rd_T41 l0 0).f0), u345001] 41 (0, 0)) (by (with_reducible repeat (first | refine kn_ ?_ _ | refine blk_drew ?_ | refine ka_ ?_ _)); exact BK344.out) hb); have n4_ := amk (bp_ (by repeat (first | (with_reducible first | exact HB.out | apply ba_ | apply bn_ | apply bd_ | refine bs_ ?_ GE342.out | refine bs_ ?_ GE344.out) | exact HB.out)) hb); have n5_ := amk (hbox); have n6_ := amk ((by rw [hg]; exact (below_size (by repeat (first | (with_reducible first | exact HB.out | apply ba_ | apply bn_ | apply bd_ | refine bs_ ?_ GE342.out | refine bs_ ?_ GE344.out) | exact HB.out))) : w.heap.size ≤ gb353)); have n7_ := amk ((by rw [hg]; exact (below_size (by repeat (first | (with_reducible first | exact HB.out | apply ba_ | apply bn_ | apply bd_ | refine bs_ ?_ GE342.out | refine bs_ ?_ GE344.out) | exact HB.out))) : w.heap.size ≤ gb353)); have n8_ := amk ((by rw [hg]; exact Nat.ne_of_lt (blk_lt (g := gb342) (o := .cells #[.int .i64 0, .slice none 0 0] 41 (0, 0)) (by (with_reducible repeat (first | refine kn_ ?_ _ | refine blk_drew ?_ | refine ka_ ?_ _)); exact BK342.out)) : gb342 ≠ gb353)); have n9_ := amk ((by rw [hg]; exact Nat.ne_of_gt (blk_lt (g := gb342) (o := .cells #[.int .i64 0, .slice none 0 0] 41 (0, 0)) (by (with_reducible repeat (first | refine kn_ ?_ _ | refine blk_drew ?_ | refine ka_ ?_ _)); exact BK342.out)) : gb353 ≠ gb342)); have n10_ := amk ((by rw [hg]; exact Nat.ne_of_lt (blk_lt (g := gb344) (o := .cells #[.int .i64 ((rd_T41 l0 0).f0), u345001] 41 (0, 0)) (by (with_reducible repeat (first | refine kn_ ?_ _ | refine blk_drew ?_ | refine ka_ ?_ _)); exact BK344.out)) : gb344 ≠ gb353)); have n11_ := amk ((by rw [hg]; exact Nat.ne_of_gt (blk_lt (g := gb344) (o := .cells #[.int .i64 ((rd_T41 l0 0).f0), u345001] 41 (0, 0)) (by (with_reducible repeat (first | refine kn_ ?_ _ | refine blk_drew ?_ | refine ka_ ?_ _)); exact BK344.out)) : gb353 ≠ gb344)); clear HO_7; clear HO_345001; clear BK342; clear BK344; clear HB; have HO_7 := n0_; have HO_345001 := n1_; have BK342 := n2_; have BK344 := n3_; have HB := n4_; have BK353 := n5_; have GW353 := n6_; have GE353 := n7_; have NB342_353 := n8_; have NB353_342 := n9_; have NB344_353 := n10_; have NB353_344 := n11_; clear n0_ n1_ n2_ n3_ n4_ n5_ n6_ n7_ n8_ n9_ n10_ n11_; clear hb hbox hg; have hnb22 := NB353_342.out; have hnc22 := NB342_353.out; have hnb23 := NB353_344.out; have hnc23 := NB344_353.out; have hcz24_0 : w21.cell? ⟨gb353, 0, none⟩ = some (.int .i64 0) := (blk_cell BK353.out 0).trans rfl; have hcz24_1 : w21.cell? ⟨gb353, 1, none⟩ = some (.slice none 0 0) := (blk_cell BK353.out 1).trans rfl; have hfz24_0 := blk_frozen BK353.out 0; have hfz24_1 := blk_frozen BK353.out 1; have p354 : 0 ≤ (x22_1 : Int) := of_decide_eq_true (by first | (with_reducible assumption) | assumption); have q354 : x22_1 < (((rd_T41 l0 x33_3).f1).length : Int) := of_decide_eq_true (by first | (with_reducible assumption) | assumption); obtain ⟨ad354, A354_0, c354_0, e354, hx354_0, hl354_0, hi354_0⟩ := at_L5 HR352_1.out x22_1 p354 q354; cases e354; have hn354_0 : ad354.block ≠ gb353 := Nat.ne_of_lt (Nat.lt_of_lt_of_le (by have := World.block_lt_of_cell? _ _ hx354_0; first | rwa [add_block] at this | exact this) GW353.out); have hn354_1 : ad354.block ≠ gb353 := Nat.ne_of_lt (Nat.lt_of_lt_of_le (by have := World.block_lt_of_cell? _ _ hx354_0; first | rwa [add_block] at this | exact this) GW353.out); replace hx354_0 := (HB.out.cell (World.block_lt_of_cell? w _ hx354_0)).trans hx354_0; have HR354_0 := amk hi354_0; have HC354_0 := amk hl354_0; clear hi354_0 hl354_0; replace hx354_0 := (cell_far (p := ⟨gb353, 0, none⟩) (by first | (rw [add_block]; exact hn354_0) | (show (Addr.add _ _).block ≠ _; rw [add_block]; exact hn354_0) | exact hn354_0) (.int .i64 ((rd_T41 l0 x33_3).f0))).trans hx354_0; replace hx354_0 := (cell_far (p := ⟨gb353, 1, none⟩) (by first | (rw [add_block]; exact hn354_1) | (show (Addr.add _ _).block ≠ _; rw [add_block]; exact hn354_1) | exact hn354_1) (.slice (some ad354) ((rd_T41 l0 x33_3).f1).length c352_1)).trans hx354_0; clear hn354_0; clear hn354_1; replace p354 := eq_true p354; replace q354 := eq_true q354) | ((with_reducible refine gate_callee (f := 104) rfl ?_); refine goesL_ (some 43) rfl rfl Try.func104 (by kernel_rfl) rfl #[.slice A354_0 (rd_L5 ((rd_T41 l0 x33_3).f1) x22_1).length c354_0, .int .i64 x28_2] rfl (by (try simp only [List.map_toArray, List.map_cons, List.map_nil]); first | done | rfl | (simp only [List.length_drop, List.length_take]; rfl)) ?_; (with_reducible refine (slices_Contains_int_int.calls k3 _ _ (rd_L5 ((rd_T41 l0 x33_3).f1) x22_1) x28_2 true _ ?side1 ?side2 A19.out).mono ?_); (case side1 => exact Kd.C_below HR354_0.out (by repeat (first | (with_reducible first | exact HB.out | apply ba_ | apply bn_ | apply bd_ | refine bs_ ?_ GE342.out | refine bs_ ?_ GE344.out | refine bs_ ?_ GE353.out) | exact HB.out))); (case side2 => exact HC354_0.out); rintro e w' ⟨rfl, ⟨nd, rfl⟩⟩; refine ⟨_, rfl, ?_⟩))
                                go_roundg k3
                                case measure => have := HK1.out; have := HK2.out; have := HK3.out; omega
                                case rel => exact ⟨(wrap64 (x9_3 + 1)), (wrap64 (x33_3 + 1)), (by first | rfl | (simp; done) | (simp [*]; done)), (by first | rfl | (simp; done) | (simp [*]; done)), H', ⟨by have := HK1.out; have := HK2.out; have := HK3.out; omega⟩, ⟨by (with_reducible repeat (first | apply Kd.R_alloc | apply Kd.R_drewN | apply Kd.R_drew)); exact Kd.R_mono (Kd.R_far (p := ⟨gb353, 1, none⟩) (Kd.R_far (p := ⟨gb353, 0, none⟩) (Kd.R_types HO_7.out BK353.out (by decide)) (fun _ hk => hk.2) (.int .i64 ((rd_T41 l0 x33_3).f0))) (fun _ hk => hk.2) (.slice (some ad354) ((rd_T41 l0 x33_3).f1).length c352_1)) (fun _ hk => trivial)⟩, ⟨by (with_reducible repeat (first | apply Kd.S_alloc | apply Kd.S_drewN | apply Kd.S_drew)); exact Kd.S_mono (Kd.S_far (p := ⟨gb353, 1, none⟩) (Kd.S_far (p := ⟨gb353, 0, none⟩) (Kd.S_types HO_345001.out BK353.out (by decide)) (fun _ hk => hk.2) (.int .i64 ((rd_T41 l0 x33_3).f0))) (fun _ hk => hk.2) (.slice (some ad354) ((rd_T41 l0 x33_3).f1).length c352_1)) (fun _ hk => hk.1)⟩, ⟨by (with_reducible repeat (first | refine kn_ ?_ _ | refine blk_drew ?_ | refine ka_ ?_ _)); refine blk_far ?_ NB342_353.out _; (with_reducible repeat (first | refine kn_ ?_ _ | refine blk_drew ?_ | refine ka_ ?_ _)); refine blk_far ?_ NB342_353.out _; (with_reducible repeat (first | refine kn_ ?_ _ | refine blk_drew ?_ | refine ka_ ?_ _)); exact BK342.out⟩, ⟨by (with_reducible repeat (first | refine kn_ ?_ _ | refine blk_drew ?_ | refine ka_ ?_ _)); refine blk_far ?_ NB344_353.out _; (with_reducible repeat (first | refine kn_ ?_ _ | refine blk_drew ?_ | refine ka_ ?_ _)); refine blk_far ?_ NB344_353.out _; (with_reducible repeat (first | refine kn_ ?_ _ | refine blk_drew ?_ | refine ka_ ?_ _)); exact BK344.out⟩, ⟨by repeat (first | (with_reducible first | exact HB.out | apply ba_ | apply bn_ | apply bd_ | refine bs_ ?_ GE342.out | refine bs_ ?_ GE344.out | refine bs_ ?_ GE353.out) | exact HB.out)⟩⟩
                              · replace c20 := Bool.eq_false_iff.mpr c20
                                subst c20
                                have H1 : (impl_joined.l2 k3 l0 a1 x22_1 x7_2 x28_2 x9_3 (((rd_T41 l0 0).f1).length : Int) x22_1 ((rd_T41 l0 0).f0) x28_2 l0 (l0.length : Int) (wrap64 (x33_3 + 1)) ((rd_T41 l0 0).f0) x345001_1) = some (r1, r2) := by rw [if_neg (show ¬ (false = true) by decide)] at H; exact H
                                clear H
                                have H := H1
                                clear H1
                                have H' := amk H
                                clear H
                                have p352 : 0 ≤ (x33_3 : Int) := of_decide_eq_true (by first | (with_reducible assumption) | assumption)
                                have q352 : x33_3 < (l0.length : Int) := of_decide_eq_true (by first | (with_reducible assumption) | assumption)
                                obtain ⟨ad352, A352_1, c352_1, e352, hx352_0, hx352_1, hl352_1, hi352_1⟩ := at_T41 HR0.out x33_3 p352 q352
                                obtain rfl : ad343 = ad352 := (by injection e352)
                                replace hx352_0 := (HB.out.cell (World.block_lt_of_cell? w _ hx352_0)).trans hx352_0
                                replace hx352_1 := (HB.out.cell (World.block_lt_of_cell? w _ hx352_1)).trans hx352_1
                                have HR352_1 := amk hi352_1
                                have HC352_1 := amk hl352_1
                                clear hi352_1 hl352_1
                                replace p352 := eq_true p352
                                replace q352 := eq_true q352
                                go_wp2_with (first | ((with_reducible refine gate_dst (N := 11) rfl ?_); refine box_event ?hg (N := 11) ?hd (cs := #[.int .i64 0, .slice none 0 0]) (t := 41) ?hr ?_; (case hd => rfl); (case hg => rfl); (case hr => first | (go_simp; done) | (go_simp; rfl)); intro gb353 hg w25 hbox hb; have n0_ := amk (Kd.R_below (by (with_reducible repeat (first | apply Kd.R_alloc | apply Kd.R_drewN | apply Kd.R_drew)); exact HO_7.out) hb); have n1_ := amk (Kd.S_below (by (with_reducible repeat (first | apply Kd.S_alloc | apply Kd.S_drewN | apply Kd.S_drew)); exact HO_345001.out) hb); have n2_ := amk (blk_below (g := gb342) (o := .cells #[.int .i64 0, .slice none 0 0] 41 (0, 0)) (by (with_reducible repeat (first | refine kn_ ?_ _ | refine blk_drew ?_ | refine ka_ ?_ _)); exact BK342.out) hb); have n3_ := amk (blk_below (g := gb344) (o := .cells #[.int .i64 ((rd_T41 l0 0).f0), u345001] 41 (0, 0)) (by (with_reducible repeat (first | refine kn_ ?_ _ | refine blk_drew ?_ | refine ka_ ?_ _)); exact BK344.out) hb); have n4_ := amk (bp_ (by repeat (first | (with_reducible first | exact HB.out | apply ba_ | apply bn_ | apply bd_ | refine bs_ ?_ GE342.out | refine bs_ ?_ GE344.out) | exact HB.out)) hb); have n5_ := amk (hbox); have n6_ := amk ((by rw [hg]; exact (below_size (by repeat (first | (with_reducible first | exact HB.out | apply ba_ | apply bn_ | apply bd_ | refine bs_ ?_ GE342.out | refine bs_ ?_ GE344.out) | exact HB.out))) : w.heap.size ≤ gb353)); have n7_ := amk ((by rw [hg]; exact (below_size (by repeat (first | (with_reducible first | exact HB.out | apply ba_ | apply bn_ | apply bd_ | refine bs_ ?_ GE342.out | refine bs_ ?_ GE344.out) | exact HB.out))) : w.heap.size ≤ gb353)); have n8_ := amk ((by rw [hg]; exact Nat.ne_of_lt (blk_lt (g := gb342) (o := .cells #[.int .i64 0, .slice none 0 0] 41 (0, 0)) (by (with_reducible repeat (first | refine kn_ ?_ _ | refine blk_drew ?_ | refine ka_ ?_ _)); exact BK342.out)) : gb342 ≠ gb353)); have n9_ := amk ((by rw [hg]; exact Nat.ne_of_gt (blk_lt (g := gb342) (o := .cells #[.int .i64 0, .slice none 0 0] 41 (0, 0)) (by (with_reducible repeat (first | refine kn_ ?_ _ | refine blk_drew ?_ | refine ka_ ?_ _)); exact BK342.out)) : gb353 ≠ gb342)); have n10_ := amk ((by rw [hg]; exact Nat.ne_of_lt (blk_lt (g := gb344) (o := .cells #[.int .i64 ((rd_T41 l0 0).f0), u345001] 41 (0, 0)) (by (with_reducible repeat (first | refine kn_ ?_ _ | refine blk_drew ?_ | refine ka_ ?_ _)); exact BK344.out)) : gb344 ≠ gb353)); have n11_ := amk ((by rw [hg]; exact Nat.ne_of_gt (blk_lt (g := gb344) (o := .cells #[.int .i64 ((rd_T41 l0 0).f0), u345001] 41 (0, 0)) (by (with_reducible repeat (first | refine kn_ ?_ _ | refine blk_drew ?_ | refine ka_ ?_ _)); exact BK344.out)) : gb353 ≠ gb344)); clear HO_7; clear HO_345001; clear BK342; clear BK344; clear HB; have HO_7 := n0_; have HO_345001 := n1_; have BK342 := n2_; have BK344 := n3_; have HB := n4_; have BK353 := n5_; have GW353 := n6_; have GE353 := n7_; have NB342_353 := n8_; have NB353_342 := n9_; have NB344_353 := n10_; have NB353_344 := n11_; clear n0_ n1_ n2_ n3_ n4_ n5_ n6_ n7_ n8_ n9_ n10_ n11_; clear hb hbox hg; have hnb26 := NB353_342.out; have hnc26 := NB342_353.out; have hnb27 := NB353_344.out; have hnc27 := NB344_353.out; have hcz28_0 : w25.cell? ⟨gb353, 0, none⟩ = some (.int .i64 0) := (blk_cell BK353.out 0).trans rfl; have hcz28_1 : w25.cell? ⟨gb353, 1, none⟩ = some (.slice none 0 0) := (blk_cell BK353.out 1).trans rfl; have hfz28_0 := blk_frozen BK353.out 0; have hfz28_1 := blk_frozen BK353.out 1; have p354 : 0 ≤ (x22_1 : Int) := of_decide_eq_true (by first | (with_reducible assumption) | assumption); have q354 : x22_1 < (((rd_T41 l0 x33_3).f1).length : Int) := of_decide_eq_true (by first | (with_reducible assumption) | assumption); obtain ⟨ad354, A354_0, c354_0, e354, hx354_0, hl354_0, hi354_0⟩ := at_L5 HR352_1.out x22_1 p354 q354; cases e354; have hn354_0 : ad354.block ≠ gb353 := Nat.ne_of_lt (Nat.lt_of_lt_of_le (by have := World.block_lt_of_cell? _ _ hx354_0; first | rwa [add_block] at this | exact this) GW353.out); have hn354_1 : ad354.block ≠ gb353 := Nat.ne_of_lt (Nat.lt_of_lt_of_le (by have := World.block_lt_of_cell? _ _ hx354_0; first | rwa [add_block] at this | exact this) GW353.out); replace hx354_0 := (HB.out.cell (World.block_lt_of_cell? w _ hx354_0)).trans hx354_0; have HR354_0 := amk hi354_0; have HC354_0 := amk hl354_0; clear hi354_0 hl354_0; replace hx354_0 := (cell_far (p := ⟨gb353, 0, none⟩) (by first | (rw [add_block]; exact hn354_0) | (show (Addr.add _ _).block ≠ _; rw [add_block]; exact hn354_0) | exact hn354_0) (.int .i64 ((rd_T41 l0 x33_3).f0))).trans hx354_0; replace hx354_0 := (cell_far (p := ⟨gb353, 1, none⟩) (by first | (rw [add_block]; exact hn354_1) | (show (Addr.add _ _).block ≠ _; rw [add_block]; exact hn354_1) | exact hn354_1) (.slice (some ad354) ((rd_T41 l0 x33_3).f1).length c352_1)).trans hx354_0; clear hn354_0; clear hn354_1; replace p354 := eq_true p354; replace q354 := eq_true q354) | ((with_reducible refine gate_callee (f := 104) rfl ?_); refine goesL_ (some 43) rfl rfl Try.func104 (by kernel_rfl) rfl #[.slice A354_0 (rd_L5 ((rd_T41 l0 x33_3).f1) x22_1).length c354_0, .int .i64 x28_2] rfl (by (try simp only [List.map_toArray, List.map_cons, List.map_nil]); first | done | rfl | (simp only [List.length_drop, List.length_take]; rfl)) ?_; (with_reducible refine (slices_Contains_int_int.calls k3 _ _ (rd_L5 ((rd_T41 l0 x33_3).f1) x22_1) x28_2 false _ ?side1 ?side2 A19.out).mono ?_); (case side1 => exact Kd.C_below HR354_0.out (by repeat (first | (with_reducible first | exact HB.out | apply ba_ | apply bn_ | apply bd_ | refine bs_ ?_ GE342.out | refine bs_ ?_ GE344.out | refine bs_ ?_ GE353.out) | exact HB.out))); (case side2 => exact HC354_0.out); rintro e w' ⟨rfl, ⟨nd, rfl⟩⟩; refine ⟨_, rfl, ?_⟩))
                                go_roundg k3
                                case measure => have := HK1.out; have := HK2.out; have := HK3.out; omega
                                case rel => exact ⟨(x9_3), (wrap64 (x33_3 + 1)), (by first | rfl | (simp; done) | (simp [*]; done)), (by first | rfl | (simp; done) | (simp [*]; done)), H', ⟨by have := HK1.out; have := HK2.out; have := HK3.out; omega⟩, ⟨by (with_reducible repeat (first | apply Kd.R_alloc | apply Kd.R_drewN | apply Kd.R_drew)); exact Kd.R_mono (Kd.R_far (p := ⟨gb353, 1, none⟩) (Kd.R_far (p := ⟨gb353, 0, none⟩) (Kd.R_types HO_7.out BK353.out (by decide)) (fun _ hk => hk.2) (.int .i64 ((rd_T41 l0 x33_3).f0))) (fun _ hk => hk.2) (.slice (some ad354) ((rd_T41 l0 x33_3).f1).length c352_1)) (fun _ hk => trivial)⟩, ⟨by (with_reducible repeat (first | apply Kd.S_alloc | apply Kd.S_drewN | apply Kd.S_drew)); exact Kd.S_mono (Kd.S_far (p := ⟨gb353, 1, none⟩) (Kd.S_far (p := ⟨gb353, 0, none⟩) (Kd.S_types HO_345001.out BK353.out (by decide)) (fun _ hk => hk.2) (.int .i64 ((rd_T41 l0 x33_3).f0))) (fun _ hk => hk.2) (.slice (some ad354) ((rd_T41 l0 x33_3).f1).length c352_1)) (fun _ hk => hk.1)⟩, ⟨by (with_reducible repeat (first | refine kn_ ?_ _ | refine blk_drew ?_ | refine ka_ ?_ _)); refine blk_far ?_ NB342_353.out _; (with_reducible repeat (first | refine kn_ ?_ _ | refine blk_drew ?_ | refine ka_ ?_ _)); refine blk_far ?_ NB342_353.out _; (with_reducible repeat (first | refine kn_ ?_ _ | refine blk_drew ?_ | refine ka_ ?_ _)); exact BK342.out⟩, ⟨by (with_reducible repeat (first | refine kn_ ?_ _ | refine blk_drew ?_ | refine ka_ ?_ _)); refine blk_far ?_ NB344_353.out _; (with_reducible repeat (first | refine kn_ ?_ _ | refine blk_drew ?_ | refine ka_ ?_ _)); refine blk_far ?_ NB344_353.out _; (with_reducible repeat (first | refine kn_ ?_ _ | refine blk_drew ?_ | refine ka_ ?_ _)); exact BK344.out⟩, ⟨by repeat (first | (with_reducible first | exact HB.out | apply ba_ | apply bn_ | apply bd_ | refine bs_ ?_ GE342.out | refine bs_ ?_ GE344.out | refine bs_ ?_ GE353.out) | exact HB.out)⟩⟩
                            · rw [if_neg c18] at H
                              exact absurd H (by simp)
                          · rw [if_neg c17] at H
                            exact absurd H (by simp)
                        · rw [if_neg c16] at H
                          exact absurd H (by simp)
                      · rw [if_neg c15] at H
                        exact absurd H (by simp)
                    · rw [if_neg c14] at H
                      have c14b0 : decide (x33_3 < (l0.length : Int)) = false := decide_eq_false c14
                      clear c14
                      by_cases c29 : x9_3 ≥ a1
                      · rw [if_pos c29] at H
                        have c29b0 : decide (a1 ≤ x9_3) = true := decide_eq_true c29
                        clear c29
                        by_cases c30 : x7_2.length < 17592186044416
                        · rw [if_pos c30] at H
                          have LMc30 := amk c30
                          clear c30
                          obtain ⟨y356, hy356⟩ : ∃ y_ : List Int, y_ = (x7_2 ++ [x28_2]) := ⟨_, rfl⟩
                          replace H : (impl_joined.l1 k3 l0 a1 x22_1 y356 (((rd_T41 l0 0).f1).length : Int) x22_1 ((rd_T41 l0 0).f0) (wrap64 (x28_2 + 1)) ((rd_T41 l0 0).f0) x345001_1) = some (r1, r2) := by first | (rw [hy356]; with_reducible exact H) | (have H2_ := (Option.bind_some _ _).symm.trans H; rw [hy356]; with_reducible exact H2_) | (have H2_ := (Option.bind_some _ _).symm.trans H; with_reducible exact H2_) | with_reducible exact H | (rw [hy356]; exact H) | exact H
                          have Ny356 := amk hy356
                          clear hy356
                          have H' := amk H
                          clear H
                          go_wp2_with (first | ((with_reducible refine gate_builtin (b := .append) (xs := #[.tmp 50, .tmp 52]) rfl ?_); at_builtin; refine Kd.R_append (Kd.int .i64) (w0 := w) w.heap.size rfl (.tmp 50) (.tmp 52) 86 3 (.int .i64 0) 8 rfl Try.underlying86 info3 rfl (by decide) (by omega) u7 x7_2 x28_2 [.int .i64 x28_2] (fun _ => True) (fun _ => False) rfl rfl ?aP (fun _ hk => hk.elim) ?aF ?aO ?aB ?aS ?aL ?_; (case aP => exact rfl); (case aB => exact (by repeat (first | (with_reducible first | exact HB.out | apply ba_ | apply bn_ | apply bd_ | refine bs_ ?_ GE342.out | refine bs_ ?_ GE344.out) | exact HB.out))); (case aF => exact (fun _ _ => trivial)); (case aO => exact (by (with_reducible repeat (first | apply Kd.R_alloc | apply Kd.R_drewN | apply Kd.R_drew)); exact HO_7.out)); (case aS => exact (below_size (by repeat (first | (with_reducible first | exact HB.out | apply ba_ | apply bn_ | apply bd_ | refine bs_ ?_ GE342.out | refine bs_ ?_ GE344.out) | exact HB.out)))); (case aL => have := LMc30.out; omega); intro v357 w31 ho hb hg hat; rw [← Ny356.out] at ho; have n0_ := amk (Kd.S_after (ok := (fun _ => True)) (by (with_reducible repeat (first | apply Kd.S_alloc | apply Kd.S_drewN | apply Kd.S_drew)); exact Kd.S_mono HO_345001.out (fun _ hk => ⟨trivial, hk⟩)) hg hat); have n1_ := amk (blk_grown (g := gb342) (o := .cells #[.int .i64 0, .slice none 0 0] 41 (0, 0)) (by (with_reducible repeat (first | refine kn_ ?_ _ | refine blk_drew ?_ | refine ka_ ?_ _)); exact BK342.out) hg (Kd.R_ne HO_7.out BK342.out (by decide))); have n2_ := amk (blk_grown (g := gb344) (o := .cells #[.int .i64 ((rd_T41 l0 0).f0), u345001] 41 (0, 0)) (by (with_reducible repeat (first | refine kn_ ?_ _ | refine blk_drew ?_ | refine ka_ ?_ _)); exact BK344.out) hg (Kd.R_ne HO_7.out BK344.out (by decide))); have n3_ := amk (hb); have n4_ := amk (ho); clear HO_345001; clear BK342; clear BK344; clear HB; clear HO_7; have HO_345001 := n0_; have BK342 := n1_; have BK344 := n2_; have HB := n3_; have HO358 := n4_; clear n0_ n1_ n2_ n3_ n4_; clear ho hb hg hat))
                          go_roundg k3
                          case measure => have := HK1.out; have := HK2.out; have := HK3.out; omega
                          case rel => exact ⟨(y356), (wrap64 (x28_2 + 1)), (by first | rfl | (simp; done) | (simp [*]; done)), H', ⟨by have := HK1.out; have := HK2.out; have := HK3.out; omega⟩, ⟨by (with_reducible repeat (first | apply Kd.R_alloc | apply Kd.R_drewN | apply Kd.R_drew)); exact HO358.out⟩, ⟨by (with_reducible repeat (first | apply Kd.S_alloc | apply Kd.S_drewN | apply Kd.S_drew)); exact Kd.S_mono HO_345001.out (fun _ hk => hk.2)⟩, ⟨by (with_reducible repeat (first | refine kn_ ?_ _ | refine blk_drew ?_ | refine ka_ ?_ _)); exact BK342.out⟩, ⟨by (with_reducible repeat (first | refine kn_ ?_ _ | refine blk_drew ?_ | refine ka_ ?_ _)); exact BK344.out⟩, ⟨by repeat (first | (with_reducible first | exact HB.out | apply ba_ | apply bn_ | apply bd_ | refine bs_ ?_ GE342.out | refine bs_ ?_ GE344.out) | exact HB.out)⟩⟩
                        · rw [if_neg c30] at H
                          exact absurd H (by simp)
                      · rw [if_neg c29] at H
                        have c29b0 : decide (a1 ≤ x9_3) = false := decide_eq_false c29
                        clear c29
                        have H' := amk H
                        clear H
                        go_wp2
                        go_roundg k3
                        case measure => have := HK1.out; have := HK2.out; have := HK3.out; omega
                        case rel => exact ⟨(x7_2), (wrap64 (x28_2 + 1)), (by first | rfl | (simp; done) | (simp [*]; done)), H', ⟨by have := HK1.out; have := HK2.out; have := HK3.out; omega⟩, ⟨by (with_reducible repeat (first | apply Kd.R_alloc | apply Kd.R_drewN | apply Kd.R_drew)); exact HO_7.out⟩, ⟨by (with_reducible repeat (first | apply Kd.S_alloc | apply Kd.S_drewN | apply Kd.S_drew)); exact HO_345001.out⟩, ⟨by (with_reducible repeat (first | refine kn_ ?_ _ | refine blk_drew ?_ | refine ka_ ?_ _)); exact BK342.out⟩, ⟨by (with_reducible repeat (first | refine kn_ ?_ _ | refine blk_drew ?_ | refine ka_ ?_ _)); exact BK344.out⟩, ⟨by repeat (first | (with_reducible first | exact HB.out | apply ba_ | apply bn_ | apply bd_ | refine bs_ ?_ GE342.out | refine bs_ ?_ GE344.out) | exact HB.out)⟩⟩
              · rw [if_neg c13] at H
                have c13b0 : decide (x28_2 < ((rd_T41 l0 0).f0)) = false := decide_eq_false c13
                clear c13
                by_cases c32 : x345001_1.length < 5864062014805
                · rw [if_pos c32] at H
                  have LMc32 := amk c32
                  clear c32
                  obtain ⟨y349, hy349⟩ : ∃ y_ : List (List Int), y_ = (x345001_1 ++ [x7_2]) := ⟨_, rfl⟩
                  replace H : (impl_joined.l0 k2 l0 a1 (((rd_T41 l0 0).f1).length : Int) (wrap64 (x22_1 + 1)) ((rd_T41 l0 0).f0) y349) = some (r1, r2) := by first | (rw [hy349]; with_reducible exact H) | (have H2_ := (Option.bind_some _ _).symm.trans H; rw [hy349]; with_reducible exact H2_) | (have H2_ := (Option.bind_some _ _).symm.trans H; with_reducible exact H2_) | with_reducible exact H | (rw [hy349]; exact H) | exact H
                  have Ny349 := amk hy349
                  clear hy349
                  have H' := amk H
                  clear H
                  have hnb33 := NB344_342.out
                  have hnc33 := NB342_344.out
                  have hcz34_0 : wr.cell? ⟨gb344, 0, none⟩ = some (.int .i64 ((rd_T41 l0 0).f0)) := (blk_cell BK344.out 0).trans rfl
                  have hcz34_1 : wr.cell? ⟨gb344, 1, none⟩ = some (u345001) := (blk_cell BK344.out 1).trans rfl
                  have hfz34_0 := blk_frozen BK344.out 0
                  have hfz34_1 := blk_frozen BK344.out 1
                  obtain ⟨Ao36, co36, eo36⟩ := Kd.R_slice HO_7.out
                  subst eo36
                  go_wp2_with (first | ((with_reducible refine gate_builtin (b := .append) (xs := #[.tmp 56, .tmp 58]) rfl ?_); at_builtin; refine Kd.S_append (Kd.slice 3 (Kd.int .i64)) (w0 := w) w.heap.size rfl (.tmp 56) (.tmp 58) 35 86 (.slice none 0 0) 24 rfl Try.underlying35 info86 rfl (by decide) (by omega) u345001 x345001_1 x7_2 [.slice Ao36 x7_2.length co36] (fun _ => True) (fun k_ => some k_ = (.slice Ao36 x7_2.length co36 : Value).ownBlock) rfl rfl ?aP (fun k_ hk_ => ((Kd.R_mono (ok' := fun k_ => ((fun _ => True)) k_ ∧ some k_ ≠ (u345001 : Value).ownBlock) (Kd.R_apart' (HO_7.out) (Kd.S_typed HO_345001.out) (by decide)) (fun k_ hk => ⟨trivial, hk.2⟩))).1 k_ hk_.symm) ?aF ?aO ?aB ?aS ?aL ?_; (case aP => exact Kd.M_row (Kd.R_mono (Kd.R_tight rfl (Kd.R_mono (ok' := fun k_ => ((fun _ => True)) k_ ∧ some k_ ≠ (u345001 : Value).ownBlock) (Kd.R_apart' (HO_7.out) (Kd.S_typed HO_345001.out) (by decide)) (fun k_ hk => ⟨trivial, hk.2⟩))) (fun _ h_ => h_))); (case aB => exact (by repeat (first | (with_reducible first | exact HB.out | apply ba_ | apply bn_ | apply bd_ | refine bs_ ?_ GE342.out | refine bs_ ?_ GE344.out) | exact HB.out))); (case aF => exact (fun _ _ => trivial)); (case aO => exact (by (with_reducible repeat (first | apply Kd.S_alloc | apply Kd.S_drewN | apply Kd.S_drew)); exact Kd.S_mono HO_345001.out (fun k_ hk => ⟨trivial, fun e_ => hk e_⟩))); (case aS => exact (below_size (by repeat (first | (with_reducible first | exact HB.out | apply ba_ | apply bn_ | apply bd_ | refine bs_ ?_ GE342.out | refine bs_ ?_ GE344.out) | exact HB.out)))); (case aL => have := LMc32.out; omega); intro v350 w35 ho hb hg hat; rw [← Ny349.out] at ho; have n0_ := amk (blk_grown (g := gb342) (o := .cells #[.int .i64 0, .slice none 0 0] 41 (0, 0)) (by (with_reducible repeat (first | refine kn_ ?_ _ | refine blk_drew ?_ | refine ka_ ?_ _)); exact BK342.out) hg (Kd.S_ne HO_345001.out BK342.out (by decide))); have n1_ := amk (blk_grown (g := gb344) (o := .cells #[.int .i64 ((rd_T41 l0 0).f0), u345001] 41 (0, 0)) (by (with_reducible repeat (first | refine kn_ ?_ _ | refine blk_drew ?_ | refine ka_ ?_ _)); exact BK344.out) hg (Kd.S_ne HO_345001.out BK344.out (by decide))); have n2_ := amk (hb); have n3_ := amk (ho); clear BK342; clear BK344; clear HB; clear HO_345001; clear HO_7; have BK342 := n0_; have BK344 := n1_; have HB := n2_; have HO351 := n3_; clear n0_ n1_ n2_ n3_; clear ho hb hg hat; obtain ⟨Ao37, co37, eo37⟩ := Kd.S_slice HO351.out; subst eo37; have hcz38_0 : w35.cell? ⟨gb344, 0, none⟩ = some (.int .i64 ((rd_T41 l0 0).f0)) := (blk_cell BK344.out 0).trans rfl; have hcz38_1 : w35.cell? ⟨gb344, 1, none⟩ = some (u345001) := (blk_cell BK344.out 1).trans rfl; have hfz38_0 := blk_frozen BK344.out 0; have hfz38_1 := blk_frozen BK344.out 1))
                  go_roundg k2
                  case measure => have := HK1.out; have := HK2.out; omega
                  case rel => exact ⟨(wrap64 (x22_1 + 1)), (y349), (.slice Ao37 y349.length co37), (by first | rfl | (simp; done) | (simp [*]; done)), H', ⟨by have := HK1.out; have := HK2.out; omega⟩, ⟨by (with_reducible repeat (first | apply Kd.S_alloc | apply Kd.S_drewN | apply Kd.S_drew)); exact Kd.S_mono (Kd.S_far (p := ⟨gb344, 1, none⟩) (Kd.S_types HO351.out BK344.out (by decide)) (fun _ hk => hk.2) (.slice Ao37 y349.length co37)) (fun _ hk => trivial)⟩, ⟨by (with_reducible repeat (first | refine kn_ ?_ _ | refine blk_drew ?_ | refine ka_ ?_ _)); refine blk_far ?_ NB342_344.out _; (with_reducible repeat (first | refine kn_ ?_ _ | refine blk_drew ?_ | refine ka_ ?_ _)); exact BK342.out⟩, ⟨by (with_reducible repeat (first | refine kn_ ?_ _ | refine blk_drew ?_ | refine ka_ ?_ _)); refine blk_put (cs := #[.int .i64 ((rd_T41 l0 0).f0), u345001]) ?_ 1 _ rfl; (with_reducible repeat (first | refine kn_ ?_ _ | refine blk_drew ?_ | refine ka_ ?_ _)); exact BK344.out⟩, ⟨by repeat (first | (with_reducible first | exact HB.out | apply ba_ | apply bn_ | apply bd_ | refine bs_ ?_ GE342.out | refine bs_ ?_ GE344.out) | exact HB.out)⟩⟩
                · rw [if_neg c32] at H
                  exact absurd H (by simp)
        · rw [if_neg c8] at H
          have c8b0 : decide (x22_1 < (((rd_T41 l0 0).f1).length : Int)) = false := decide_eq_false c8
          clear c8
          simp only [Option.some.injEq, Prod.mk.injEq] at H
          obtain ⟨rfl, rfl⟩ := H
          have hnb39 := NB344_342.out
          have hnc39 := NB342_344.out
          have hcz40_0 : wr.cell? ⟨gb344, 0, none⟩ = some (.int .i64 ((rd_T41 l0 0).f0)) := (blk_cell BK344.out 0).trans rfl
          have hcz40_1 : wr.cell? ⟨gb344, 1, none⟩ = some (u345001) := (blk_cell BK344.out 1).trans rfl
          have hfz40_0 := blk_frozen BK344.out 0
          have hfz40_1 := blk_frozen BK344.out 1
          have hcz41_0 : wr.cell? ⟨gb342, 0, none⟩ = some (.int .i64 0) := (blk_cell BK342.out 0).trans rfl
          have hcz41_1 : wr.cell? ⟨gb342, 1, none⟩ = some (.slice none 0 0) := (blk_cell BK342.out 1).trans rfl
          have hfz41_0 := blk_frozen BK342.out 0
          have hfz41_1 := blk_frozen BK342.out 1
          obtain ⟨Ao42, co42, eo42⟩ := Kd.S_slice HO_345001.out
          subst eo42
          go_wp2
          refine bodyPost_ret (results_cell_row rfl _ _ gb342 41 #[.int .i64 ((rd_T41 l0 0).f0), .slice Ao42 x345001_1.length co42] (0, 0) _ rfl (by (with_reducible repeat (first | refine kn_ ?_ _ | refine blk_drew ?_ | refine ka_ ?_ _)); refine blk_put (cs := #[.int .i64 ((rd_T41 l0 0).f0), .slice none 0 0]) ?_ 1 _ rfl; (with_reducible repeat (first | refine kn_ ?_ _ | refine blk_drew ?_ | refine ka_ ?_ _)); refine blk_put (cs := #[.int .i64 0, .slice none 0 0]) ?_ 0 _ rfl; (with_reducible repeat (first | refine kn_ ?_ _ | refine blk_drew ?_ | refine ka_ ?_ _)); exact BK342.out) Try.underlying41 rfl (by kernel_rfl)) rfl ?_
          exact ⟨_, by first | rfl | (simp [errW_none, errW_some] <;> rfl) | (simp [*, errW_none, errW_some] <;> rfl), by (with_reducible repeat (first | apply Kd.S_alloc | apply Kd.S_drewN | apply Kd.S_drew)); exact Kd.S_mono (Kd.S_far (p := ⟨gb342, 1, none⟩) (Kd.S_far (p := ⟨gb342, 0, none⟩) (Kd.S_types HO_345001.out BK342.out (by decide)) (fun _ hk => hk.2) (.int .i64 ((rd_T41 l0 0).f0))) (fun _ hk => hk.2) (.slice Ao42 x345001_1.length co42)) (fun _ hk => trivial), by repeat (first | (with_reducible first | exact HB.out | apply ba_ | apply bn_ | apply bd_ | refine bs_ ?_ GE342.out | refine bs_ ?_ GE344.out) | exact HB.out)⟩
  · rw [if_neg c3] at H
    exact absurd H (by simp)
/-! ### impl_shared: function 91 -/
def impl_shared.f (k : Nat) (l0 : List (S41)) : Option (Int × (List (List Int))) := (impl_joined.f k l0 (l0.length : Int)).bind fun bt584 => (some (bt584.1, bt584.2))
set_option maxHeartbeats 8000000 in
set_option maxRecDepth 100000 in
theorem impl_shared.calls (k : Nat) (A0 : Option Addr) (c0 : Nat) (l0 : List (S41)) (r1 : Int) (r2 : List (List Int)) (w : World) (hr0 : Kd.C k41 w A0 l0.length l0) (hc0 : l0.length ≤ c0) (h : impl_shared.f k l0 = some (r1, r2)) :
    Calls Try.prog 91 #[.slice A0 l0.length c0] w fun e w' => ∃ v1_ : Value, e = .returned (.agg #[.int .i64 r1, v1_]) ∧ Kd.S (Kd.slice 3 (Kd.int .i64)) 86 w' w.heap.size (fun _ => True) v1_ r2 ∧ Below w.heap.size w w' := by
  have hu41 := Try.underlying41
  have HR0 := amk hr0
  have HC0 := amk hc0
  clear hr0 hc0
  have HB := amk (Below.refl w.heap.size w)
  have H : ((impl_joined.f k l0 (l0.length : Int)).bind fun bt584 => (some (bt584.1, bt584.2))) = some (r1, r2) := h
  clear h
  replace H := Option.bind_eq_some_iff.mp H
  obtain ⟨⟨t584, t585⟩, A20, H⟩ := H
  replace H : (some (t584, t585)) = some (r1, r2) := H
  have A2 := amk A20
  clear A20
  simp only [Option.some.injEq, Prod.mk.injEq] at H
  obtain ⟨rfl, rfl⟩ := H
  go_enter Try.func91, Try.ntmps91
  go_wp2_with (first | ((with_reducible refine gate_dst (N := 2) rfl ?_); refine box_event ?hg (N := 2) ?hd (cs := #[.int .i64 0, .slice none 0 0]) (t := 41) ?hr ?_; (case hd => rfl); (case hg => rfl); (case hr => first | (go_simp; done) | (go_simp; rfl)); intro gb583 hg w3 hbox hb; have n0_ := amk (bp_ (by repeat (first | (with_reducible first | exact HB.out | apply ba_ | apply bn_ | apply bd_) | exact HB.out)) hb); have n1_ := amk (hbox); have n2_ := amk ((by rw [hg]; exact (below_size (by repeat (first | (with_reducible first | exact HB.out | apply ba_ | apply bn_ | apply bd_) | exact HB.out))) : w.heap.size ≤ gb583)); have n3_ := amk ((by rw [hg]; exact (below_size (by repeat (first | (with_reducible first | exact HB.out | apply ba_ | apply bn_ | apply bd_) | exact HB.out))) : w.heap.size ≤ gb583)); clear HB; have HB := n0_; have BK583 := n1_; have GW583 := n2_; have GE583 := n3_; clear n0_ n1_ n2_ n3_; clear hb hbox hg) | ((with_reducible refine gate_callee (f := 101) rfl ?_); refine goesL_ (some 6) rfl rfl Try.func101 (by kernel_rfl) rfl #[.slice A0 l0.length c0, .int .i64 (l0.length : Int)] rfl (by (try simp only [List.map_toArray, List.map_cons, List.map_nil]); first | done | rfl | (simp only [List.length_drop, List.length_take]; rfl)) ?_; (with_reducible refine (impl_joined.calls k _ _ l0 (l0.length : Int) t584 t585 _ ?side1 ?side2 A2.out).mono ?_); (case side1 => repeat (first | exact (Kd.C_below HR0.out HB.out) | (with_reducible refine Kd.C_alloc ?_ _) | (with_reducible refine Kd.C_drewN ?_ _) | (with_reducible refine Kd.C_drew ?_))); (case side2 => exact HC0.out); rintro e w4 ⟨v586, rfl, ho0, hb⟩; refine ⟨_, rfl, ?_⟩; have n0_ := amk (Kd.S_lower ho0 (below_size (by repeat (first | (with_reducible first | exact HB.out | apply ba_ | apply bn_ | apply bd_ | refine bs_ ?_ GE583.out) | exact HB.out)))); have n1_ := amk (blk_below (g := gb583) (o := .cells #[.int .i64 0, .slice none 0 0] 41 (0, 0)) (by (with_reducible repeat (first | refine kn_ ?_ _ | refine blk_drew ?_ | refine ka_ ?_ _)); exact BK583.out) hb); have n2_ := amk (bp_ (by repeat (first | (with_reducible first | exact HB.out | apply ba_ | apply bn_ | apply bd_ | refine bs_ ?_ GE583.out) | exact HB.out)) hb); clear BK583; clear HB; have HO587 := n0_; have BK583 := n1_; have HB := n2_; clear n0_ n1_ n2_; (try clear hb); (try clear hb2); (try clear hk); (try clear hi); (try clear ho0); have hcz5_0 : w4.cell? ⟨gb583, 0, none⟩ = some (.int .i64 0) := (blk_cell BK583.out 0).trans rfl; have hcz5_1 : w4.cell? ⟨gb583, 1, none⟩ = some (.slice none 0 0) := (blk_cell BK583.out 1).trans rfl; have hfz5_0 := blk_frozen BK583.out 0; have hfz5_1 := blk_frozen BK583.out 1; obtain ⟨Ao6, co6, eo6⟩ := Kd.S_slice HO587.out; subst eo6))
  refine bodyPost_ret (results_cell_row rfl _ _ gb583 41 #[.int .i64 t584, .slice Ao6 t585.length co6] (0, 0) _ rfl (by (with_reducible repeat (first | refine kn_ ?_ _ | refine blk_drew ?_ | refine ka_ ?_ _)); refine blk_put (cs := #[.int .i64 t584, .slice none 0 0]) ?_ 1 _ rfl; (with_reducible repeat (first | refine kn_ ?_ _ | refine blk_drew ?_ | refine ka_ ?_ _)); refine blk_put (cs := #[.int .i64 0, .slice none 0 0]) ?_ 0 _ rfl; (with_reducible repeat (first | refine kn_ ?_ _ | refine blk_drew ?_ | refine ka_ ?_ _)); exact BK583.out) Try.underlying41 rfl (by kernel_rfl)) rfl ?_
  exact ⟨_, by first | rfl | (simp [errW_none, errW_some] <;> rfl) | (simp [*, errW_none, errW_some] <;> rfl), by (with_reducible repeat (first | apply Kd.S_alloc | apply Kd.S_drewN | apply Kd.S_drew)); exact Kd.S_mono (Kd.S_far (p := ⟨gb583, 1, none⟩) (Kd.S_far (p := ⟨gb583, 0, none⟩) (Kd.S_types HO587.out BK583.out (by decide)) (fun _ hk => hk.2) (.int .i64 t584)) (fun _ hk => hk.2) (.slice Ao6 t585.length co6)) (fun _ hk => trivial), by repeat (first | (with_reducible first | exact HB.out | apply ba_ | apply bn_ | apply bd_ | refine bs_ ?_ GE583.out) | exact HB.out)⟩
/-! Pins: which rows of numbers are some. -/
def risF (n : Int) : Int → List Int → Bool
  | _, [] => true
  | q, x :: l => decide (q < x) && decide (x ≤ n - 1) && risF n x l
def rowB (n : Int) (l : List Int) : Bool := !l.isEmpty && risF n (-1) l
def pinsB (n : Int) (l : List (List Int)) : Bool := decide (1 ≤ n ∧ n ≤ 9) && decide (1 ≤ (l.length : Int) ∧ (l.length : Int) ≤ 7) && l.all (rowB n)
theorem pinsB_parts {n : Int} {l : List (List Int)} (h : pinsB n l = true) : (1 ≤ n ∧ n ≤ 9) ∧ (1 ≤ l.length ∧ l.length ≤ 7) ∧ ∀ x ∈ l, rowB n x = true := by
  unfold pinsB at h
  rw [Bool.and_eq_true, Bool.and_eq_true, decide_eq_true_eq, decide_eq_true_eq, List.all_eq_true] at h
  exact ⟨h.1.1, ⟨by omega, by omega⟩, h.2⟩
/-- The last number so far, -1 at the start. -/
def lastI (l : List Int) : Nat → Int
  | 0 => -1
  | i + 1 => l.getD i 0
theorem lastI_at {l : List Int} {i : Nat} (h : i < l.length) : lastI l (i + 1) = l[i] := by unfold lastI; simp [List.getD, h]
/-! Lists of pins: which are of one kind, what is joined. -/
def kindB (l : List S41) : Bool :=
  decide (1 ≤ (l.length : Int) ∧ (l.length : Int) ≤ 6) && l.all fun p => pinsB p.f0 p.f1 && (p.f0 == (rd_T41 l 0).f0) && (p.f1.length == (rd_T41 l 0).f1.length)
theorem kindB_parts {l : List S41} (h : kindB l = true) : (1 ≤ l.length ∧ l.length ≤ 6) ∧ ∀ p ∈ l, pinsB p.f0 p.f1 = true ∧ p.f0 = (rd_T41 l 0).f0 ∧ p.f1.length = (rd_T41 l 0).f1.length := by
  unfold kindB at h
  rw [Bool.and_eq_true, decide_eq_true_eq, List.all_eq_true] at h
  refine ⟨⟨by omega, by omega⟩, fun p hp => ?_⟩
  have := h.2 p hp
  rw [Bool.and_eq_true, Bool.and_eq_true, beq_iff_eq, beq_iff_eq] at this
  exact ⟨this.1.1, this.1.2, this.2⟩
/-! Small laws on 'from some number of rounds on'. -/
theorem Ev.yes {α : Type} {c : Prop} [Decidable c] {f g : Nat → Option α} {r : α} (h : c) (k : Ev f r) : Ev (fun n => if c then f n else g n) r := by
  simp only [if_pos h]; exact k
theorem Ev.no {α : Type} {c : Prop} [Decidable c] {f g : Nat → Option α} {r : α} (h : ¬ c) (k : Ev g r) : Ev (fun n => if c then f n else g n) r := by
  simp only [if_neg h]; exact k
theorem Ev.bindc {α β : Type} {o : Option α} {f : Nat → α → Option β} {a : α} {r : β} (h : o = some a) (k : Ev (fun n => f n a) r) : Ev (fun n => o.bind (f n)) r := by
  subst h; exact k
theorem Ev.id {α : Type} {r s : α} (h : s = r) : Ev (fun _ => some s) r := by subst h; exact Ev.now s
theorem Ev.eq {α : Type} {g : Nat → Option α} {r s : α} (h : Ev g r) (e : r = s) : Ev g s := by subst e; exact h
theorem Ev.both {α : Type} {c : Prop} [Decidable c] {f g : Nat → Option α} {r : α} (h : c → Ev f r) (k : ¬ c → Ev g r) : Ev (fun n => if c then f n else g n) r := by
  by_cases e : c
  · exact Ev.yes e (h e)
  · exact Ev.no e (k e)
theorem w64 {x : Int} (h : -9223372036854775808 ≤ x) (h' : x ≤ 9223372036854775807) : wrap64 x = x := by unfold wrap64; omega
/-! Plain laws on lists: filling one in place, reading. -/
theorem fill_step {α β : Type} (f : α → β) (l : List α) (z : β) (i : Nat) (hi : i < l.length) :
    ((l.take i).map f ++ List.replicate (l.length - i) z).set i (f l[i]) = (l.take (i + 1)).map f ++ List.replicate (l.length - (i + 1)) z := by
  have h1 : ((l.take i).map f).length = i := by rw [List.length_map, List.length_take]; omega
  rw [List.set_append_right _ _ (by omega), h1, Nat.sub_self]
  obtain ⟨m, hm⟩ : ∃ m, l.length - i = m + 1 := ⟨l.length - i - 1, by omega⟩
  rw [hm, List.replicate_succ, List.set_cons_zero, show l.length - (i + 1) = m by omega, List.take_succ_eq_append_getElem hi, List.map_append]
  simp
theorem rd_at {xs : List Int} {i : Int} (h : i.toNat < xs.length) : rd xs i = xs[i.toNat] := by unfold rd; simp [List.getD, h]
theorem getD_at {α : Type} {d : α} {xs : List α} {i : Nat} (h : i < xs.length) : xs.getD i d = xs[i] := by simp [List.getD, h]
/-! ### impl_within: function 107 -/
def impl_within.f (a0 : Int) (a1 : Int) (a2 : Int) : Option (Bool) := if a1 ≤ a0 then (some (decide (a0 ≤ a2))) else (some false)
set_option maxHeartbeats 8000000 in
set_option maxRecDepth 100000 in
theorem impl_within.calls (a0 : Int) (a1 : Int) (a2 : Int) (r : Bool) (w : World) (h : impl_within.f a0 a1 a2 = some r) :
    Calls Try.prog 107 #[.int .i64 a0, .int .i64 a1, .int .i64 a2] w fun e w' => e = .returned (.bool r) ∧ Drawn0 w w' := by
  have H : (if a1 ≤ a0 then (some (decide (a0 ≤ a2))) else (some false)) = some r := h
  clear h
  by_cases c4 : a1 ≤ a0
  · rw [if_pos c4] at H
    have c4b0 : decide (a1 ≤ a0) = true := decide_eq_true c4
    clear c4
    obtain rfl := Option.some.inj H
    go_enter Try.func107, Try.ntmps107
    go_wp2
    go_ret
    exact ⟨by first | rfl | (simp; done) | (simp [*]; done), by repeat (first | exact Drawn0.refl _ | apply Drawn0.step)⟩
  · rw [if_neg c4] at H
    have c4b0 : decide (a1 ≤ a0) = false := decide_eq_false c4
    clear c4
    obtain rfl := Option.some.inj H
    go_enter Try.func107, Try.ntmps107
    go_wp2
    go_ret
    exact ⟨by first | rfl | (simp; done) | (simp [*]; done), by repeat (first | exact Drawn0.refl _ | apply Drawn0.step)⟩
/-! ### impl_areDepths: function 110 -/
def impl_areDepths.l0 : Nat → Int → List Int → List Int → Int → Int → Option (Bool)
  | 0, _, _, _, _, _ => none
  | k + 1, x0, x1, x7, x8, x9 => if x9 < x8 then (if 0 ≤ x9 then (if x9 < (x7.length : Int) then ((impl_within.f (rd x7 x9) 0 (wrap64 (x0 - 1))).bind fun t102 => (if t102 = true then (if x9 > 0 then (if 0 ≤ (wrap64 (x9 - 1)) then (if (wrap64 (x9 - 1)) < (x1.length : Int) then (if (rd x7 x9) ≤ (rd x1 (wrap64 (x9 - 1))) then (some false) else (impl_areDepths.l0 k x0 x1 x7 x8 (wrap64 (x9 + 1)))) else (none)) else (none)) else (impl_areDepths.l0 k x0 x1 x7 x8 (wrap64 (x9 + 1)))) else (some false))) else (none)) else (none)) else (some (decide ((x1.length : Int) > 0)))
def impl_areDepths.f (k : Nat) (a0 : Int) (l1 : List Int) : Option (Bool) := impl_areDepths.l0 k a0 l1 l1 (l1.length : Int) 0
set_option maxHeartbeats 8000000 in
set_option maxRecDepth 100000 in
theorem impl_areDepths.calls (k : Nat) (a0 : Int) (A1 : Option Addr) (c1 : Nat) (l1 : List Int) (r : Bool) (w : World) (hr1 : Kd.C (Kd.int .i64) w A1 l1.length l1) (hc1 : l1.length ≤ c1) (h : impl_areDepths.f k a0 l1 = some r) :
    Calls Try.prog 110 #[.int .i64 a0, .slice A1 l1.length c1] w fun e w' => e = .returned (.bool r) ∧ Drawn0 w w' := by
  have HR1 := amk hr1
  have HC1 := amk hc1
  clear hr1 hc1
  have H : (impl_areDepths.l0 k a0 l1 l1 (l1.length : Int) 0) = some r := h
  clear h
  have H' := amk H
  clear H
  go_enter Try.func110, Try.ntmps110
  go_wp2
  go_loopg [9] k (fun kq v9 w' => ∃ (x9_1 : Int), v9 = .int .i64 x9_1 ∧ Aside0 (impl_areDepths.l0 kq a0 l1 l1 (l1.length : Int) x9_1 = some r) ∧ Aside0 (kq ≤ k) ∧ Drawn0 w w')
  case atStart => exact ⟨(0), (by first | rfl | (simp; done) | (simp [*]; done)), H', ⟨Nat.le_refl _⟩, by repeat (first | exact Drawn0.refl _ | apply Drawn0.step)⟩
  case round =>
    clear H'
    try clear c1; try clear p2
    obtain ⟨x9_1, rfl, HA, HK1, ⟨m1, rfl⟩⟩ := hrel
    cases gk with
    | zero => exact absurd HA.out (by simp [impl_areDepths.l0])
    | succ k1 =>
      have H := HA.out
      clear HA
      simp only [impl_areDepths.l0] at H
      by_cases c3 : x9_1 < (l1.length : Int)
      · rw [if_pos c3] at H
        have c3b0 : decide (x9_1 < (l1.length : Int)) = true := decide_eq_true c3
        clear c3
        by_cases c4 : 0 ≤ x9_1
        · rw [if_pos c4] at H
          have c4b0 : decide (0 ≤ x9_1) = true := decide_eq_true c4
          clear c4
          by_cases c5 : x9_1 < (l1.length : Int)
          · rw [if_pos c5] at H
            have c5b0 : decide (x9_1 < (l1.length : Int)) = true := decide_eq_true c5
            clear c5
            replace H := Option.bind_eq_some_iff.mp H
            obtain ⟨t102, A60, H⟩ := H
            replace H : (if t102 = true then (if x9_1 > 0 then (if 0 ≤ (wrap64 (x9_1 - 1)) then (if (wrap64 (x9_1 - 1)) < (l1.length : Int) then (if (rd l1 x9_1) ≤ (rd l1 (wrap64 (x9_1 - 1))) then (some false) else (impl_areDepths.l0 k1 a0 l1 l1 (l1.length : Int) (wrap64 (x9_1 + 1)))) else (none)) else (none)) else (impl_areDepths.l0 k1 a0 l1 l1 (l1.length : Int) (wrap64 (x9_1 + 1)))) else (some false)) = some r := H
            have A6 := amk A60
            clear A60
            by_cases c7 : t102 = true
            · subst c7
              have H1 : (if x9_1 > 0 then (if 0 ≤ (wrap64 (x9_1 - 1)) then (if (wrap64 (x9_1 - 1)) < (l1.length : Int) then (if (rd l1 x9_1) ≤ (rd l1 (wrap64 (x9_1 - 1))) then (some false) else (impl_areDepths.l0 k1 a0 l1 l1 (l1.length : Int) (wrap64 (x9_1 + 1)))) else (none)) else (none)) else (impl_areDepths.l0 k1 a0 l1 l1 (l1.length : Int) (wrap64 (x9_1 + 1)))) = some r := by rw [if_pos rfl] at H; exact H
              clear H
              have H := H1
              clear H1
              by_cases c8 : x9_1 > 0
              · rw [if_pos c8] at H
                have c8b0 : decide (0 < x9_1) = true := decide_eq_true c8
                clear c8
                obtain ⟨ji9, hji9⟩ : ∃ j_ : Int, (wrap64 (x9_1 - 1)) = j_ := ⟨_, rfl⟩
                replace H : (if 0 ≤ (ji9) then (if (ji9) < (l1.length : Int) then (if (rd l1 x9_1) ≤ (rd l1 (ji9)) then (some false) else (impl_areDepths.l0 k1 a0 l1 l1 (l1.length : Int) (wrap64 (x9_1 + 1)))) else (none)) else (none)) = some r := by first | (rw [hji9] at H; exact H) | (simp only [hji9] at H ⊢; exact H)
                (try rw [hji9] at A6)
                have hji9w : (IntKind.i64.wrap (x9_1 - 1)) = ji9 := (i64_w _).trans hji9
                by_cases c10 : 0 ≤ (ji9)
                · rw [if_pos c10] at H
                  have c10b0 : decide (0 ≤ (ji9)) = true := decide_eq_true c10
                  clear c10
                  by_cases c11 : (ji9) < (l1.length : Int)
                  · rw [if_pos c11] at H
                    have c11b0 : decide ((ji9) < (l1.length : Int)) = true := decide_eq_true c11
                    clear c11
                    by_cases c12 : (rd l1 x9_1) ≤ (rd l1 (ji9))
                    · rw [if_pos c12] at H
                      have c12b0 : decide ((rd l1 x9_1) ≤ (rd l1 (ji9))) = true := decide_eq_true c12
                      clear c12
                      obtain rfl := Option.some.inj H
                      have p101 : 0 ≤ (x9_1 : Int) := of_decide_eq_true (by first | (with_reducible assumption) | assumption)
                      have q101 : x9_1 < (l1.length : Int) := of_decide_eq_true (by first | (with_reducible assumption) | assumption)
                      obtain ⟨ad101, e101, hx101_0⟩ := Kd.at_int HR1.out x9_1 p101 q101
                      cases e101
                      replace p101 := eq_true p101
                      replace q101 := eq_true q101
                      go_wp2_with (first | ((with_reducible refine gate_callee (f := 107) rfl ?_); refine goesL_ (some 17) rfl rfl Try.func107 (by kernel_rfl) rfl #[.int .i64 (rd l1 x9_1), .int .i64 0, .int .i64 (wrap64 (a0 - 1))] rfl (by (try simp only [List.map_toArray, List.map_cons, List.map_nil]); first | done | rfl | (simp only [List.length_drop, List.length_take]; rfl)) ?_; (with_reducible refine (impl_within.calls (rd l1 x9_1) 0 (wrap64 (a0 - 1)) true _ A6.out).mono ?_); rintro e w' ⟨rfl, ⟨nd, rfl⟩⟩; refine ⟨_, rfl, ?_⟩; have p103 : 0 ≤ ((ji9) : Int) := of_decide_eq_true (by first | (with_reducible assumption) | assumption); have q103 : (ji9) < (l1.length : Int) := of_decide_eq_true (by first | (with_reducible assumption) | assumption); obtain ⟨ad103, e103, hx103_0⟩ := Kd.at_int HR1.out (ji9) p103 q103; obtain rfl : ad101 = ad103 := (by injection e103); replace p103 := eq_true p103; replace q103 := eq_true q103))
                      go_ret
                      exact ⟨by first | rfl | (simp; done) | (simp only [← hji9] <;> (first | rfl | simp)) | (simp [*]; done), by repeat (first | exact Drawn0.refl _ | apply Drawn0.step)⟩
                    · rw [if_neg c12] at H
                      have c12b0 : decide ((rd l1 x9_1) ≤ (rd l1 (ji9))) = false := decide_eq_false c12
                      clear c12
                      have H' := amk H
                      clear H
                      have p101 : 0 ≤ (x9_1 : Int) := of_decide_eq_true (by first | (with_reducible assumption) | assumption)
                      have q101 : x9_1 < (l1.length : Int) := of_decide_eq_true (by first | (with_reducible assumption) | assumption)
                      obtain ⟨ad101, e101, hx101_0⟩ := Kd.at_int HR1.out x9_1 p101 q101
                      cases e101
                      replace p101 := eq_true p101
                      replace q101 := eq_true q101
                      go_wp2_with (first | ((with_reducible refine gate_callee (f := 107) rfl ?_); refine goesL_ (some 17) rfl rfl Try.func107 (by kernel_rfl) rfl #[.int .i64 (rd l1 x9_1), .int .i64 0, .int .i64 (wrap64 (a0 - 1))] rfl (by (try simp only [List.map_toArray, List.map_cons, List.map_nil]); first | done | rfl | (simp only [List.length_drop, List.length_take]; rfl)) ?_; (with_reducible refine (impl_within.calls (rd l1 x9_1) 0 (wrap64 (a0 - 1)) true _ A6.out).mono ?_); rintro e w' ⟨rfl, ⟨nd, rfl⟩⟩; refine ⟨_, rfl, ?_⟩; have p103 : 0 ≤ ((ji9) : Int) := of_decide_eq_true (by first | (with_reducible assumption) | assumption); have q103 : (ji9) < (l1.length : Int) := of_decide_eq_true (by first | (with_reducible assumption) | assumption); obtain ⟨ad103, e103, hx103_0⟩ := Kd.at_int HR1.out (ji9) p103 q103; obtain rfl : ad101 = ad103 := (by injection e103); replace p103 := eq_true p103; replace q103 := eq_true q103))
                      go_roundg k1
                      case measure => have := HK1.out; omega
                      case rel => exact ⟨(wrap64 (x9_1 + 1)), (by first | rfl | (simp; done) | (simp [*]; done)), H', ⟨by have := HK1.out; omega⟩, by repeat (first | exact Drawn0.refl _ | apply Drawn0.step)⟩
                  · rw [if_neg c11] at H
                    exact absurd H (by simp)
                · rw [if_neg c10] at H
                  exact absurd H (by simp)
              · rw [if_neg c8] at H
                have c8b0 : decide (0 < x9_1) = false := decide_eq_false c8
                clear c8
                have H' := amk H
                clear H
                have p101 : 0 ≤ (x9_1 : Int) := of_decide_eq_true (by first | (with_reducible assumption) | assumption)
                have q101 : x9_1 < (l1.length : Int) := of_decide_eq_true (by first | (with_reducible assumption) | assumption)
                obtain ⟨ad101, e101, hx101_0⟩ := Kd.at_int HR1.out x9_1 p101 q101
                cases e101
                replace p101 := eq_true p101
                replace q101 := eq_true q101
                go_wp2_with (first | ((with_reducible refine gate_callee (f := 107) rfl ?_); refine goesL_ (some 17) rfl rfl Try.func107 (by kernel_rfl) rfl #[.int .i64 (rd l1 x9_1), .int .i64 0, .int .i64 (wrap64 (a0 - 1))] rfl (by (try simp only [List.map_toArray, List.map_cons, List.map_nil]); first | done | rfl | (simp only [List.length_drop, List.length_take]; rfl)) ?_; (with_reducible refine (impl_within.calls (rd l1 x9_1) 0 (wrap64 (a0 - 1)) true _ A6.out).mono ?_); rintro e w' ⟨rfl, ⟨nd, rfl⟩⟩; refine ⟨_, rfl, ?_⟩))
                go_roundg k1
                case measure => have := HK1.out; omega
                case rel => exact ⟨(wrap64 (x9_1 + 1)), (by first | rfl | (simp; done) | (simp [*]; done)), H', ⟨by have := HK1.out; omega⟩, by repeat (first | exact Drawn0.refl _ | apply Drawn0.step)⟩
            · replace c7 := Bool.eq_false_iff.mpr c7
              subst c7
              have H1 : (some false) = some r := by rw [if_neg (show ¬ (false = true) by decide)] at H; exact H
              clear H
              have H := H1
              clear H1
              obtain rfl := Option.some.inj H
              have p101 : 0 ≤ (x9_1 : Int) := of_decide_eq_true (by first | (with_reducible assumption) | assumption)
              have q101 : x9_1 < (l1.length : Int) := of_decide_eq_true (by first | (with_reducible assumption) | assumption)
              obtain ⟨ad101, e101, hx101_0⟩ := Kd.at_int HR1.out x9_1 p101 q101
              cases e101
              replace p101 := eq_true p101
              replace q101 := eq_true q101
              go_wp2_with (first | ((with_reducible refine gate_callee (f := 107) rfl ?_); refine goesL_ (some 17) rfl rfl Try.func107 (by kernel_rfl) rfl #[.int .i64 (rd l1 x9_1), .int .i64 0, .int .i64 (wrap64 (a0 - 1))] rfl (by (try simp only [List.map_toArray, List.map_cons, List.map_nil]); first | done | rfl | (simp only [List.length_drop, List.length_take]; rfl)) ?_; (with_reducible refine (impl_within.calls (rd l1 x9_1) 0 (wrap64 (a0 - 1)) false _ A6.out).mono ?_); rintro e w' ⟨rfl, ⟨nd, rfl⟩⟩; refine ⟨_, rfl, ?_⟩))
              go_ret
              exact ⟨by first | rfl | (simp; done) | (simp [*]; done), by repeat (first | exact Drawn0.refl _ | apply Drawn0.step)⟩
          · rw [if_neg c5] at H
            exact absurd H (by simp)
        · rw [if_neg c4] at H
          exact absurd H (by simp)
      · rw [if_neg c3] at H
        have c3b0 : decide (x9_1 < (l1.length : Int)) = false := decide_eq_false c3
        clear c3
        obtain rfl := Option.some.inj H
        go_wp2
        go_ret
        exact ⟨by first | rfl | (simp; done) | (simp [*]; done), by repeat (first | exact Drawn0.refl _ | apply Drawn0.step)⟩
/-! ### spec_l1In: function 74 -/
def spec_l1In.f (a0 : Int) (a1 : Int) (a2 : Int) : Option (Bool) := if a0 ≥ a1 then (some (decide (a0 ≤ a2))) else (some false)
set_option maxHeartbeats 8000000 in
set_option maxRecDepth 100000 in
theorem spec_l1In.calls (a0 : Int) (a1 : Int) (a2 : Int) (r : Bool) (w : World) (h : spec_l1In.f a0 a1 a2 = some r) :
    Calls Try.prog 74 #[.int .i64 a0, .int .i64 a1, .int .i64 a2] w fun e w' => e = .returned (.bool r) ∧ Drawn0 w w' := by
  have H : (if a0 ≥ a1 then (some (decide (a0 ≤ a2))) else (some false)) = some r := h
  clear h
  by_cases c4 : a0 ≥ a1
  · rw [if_pos c4] at H
    have c4b0 : decide (a1 ≤ a0) = true := decide_eq_true c4
    clear c4
    obtain rfl := Option.some.inj H
    go_enter Try.func74, Try.ntmps74
    go_wp2
    go_ret
    exact ⟨by first | rfl | (simp; done) | (simp [*]; done), by repeat (first | exact Drawn0.refl _ | apply Drawn0.step)⟩
  · rw [if_neg c4] at H
    have c4b0 : decide (a1 ≤ a0) = false := decide_eq_false c4
    clear c4
    obtain rfl := Option.some.inj H
    go_enter Try.func74, Try.ntmps74
    go_wp2
    go_ret
    exact ⟨by first | rfl | (simp; done) | (simp [*]; done), by repeat (first | exact Drawn0.refl _ | apply Drawn0.step)⟩
/-! impl's areDepths and spec's l1Rising: what they come to. -/
theorem impl_within.bs (a b c : Int) : impl_within.f a b c = some (decide (b ≤ a ∧ a ≤ c)) := by
  unfold impl_within.f
  by_cases h : b ≤ a
  · rw [if_pos h]; simp [h]
  · rw [if_neg h]; simp [h]
theorem spec_l1In.bs (a b c : Int) : spec_l1In.f a b c = some (decide (b ≤ a ∧ a ≤ c)) := by
  unfold spec_l1In.f
  by_cases h : b ≤ a
  · rw [if_pos h]; simp [h]
  · rw [if_neg h]; simp [h]
theorem impl_areDepths.lev (n : Int) (hn : 1 ≤ n ∧ n ≤ 9) (l : List Int) (hl : l.length ≤ 9223372036854775807) : ∀ (m i : Nat), i + m = l.length → (-1 ≤ lastI l i) → Ev (fun k => impl_areDepths.l0 k n l l (l.length : Int) (i : Nat)) (decide (0 < l.length) && risF n (lastI l i) (l.drop i)) := by
  intro m
  induction m with
  | zero =>
    intro i hi _
    refine Ev.step (fun k => rfl) (Ev.no (by omega) (Ev.id ?_))
    rw [List.drop_eq_nil_of_le (by omega)]
    by_cases h : 0 < l.length
    · simp [risF, h]
    · simp [risF, h]
  | succ m ih =>
    intro i hi hq
    have hlt : i < l.length := by omega
    have hr : rd l (i : Nat) = l[i] := by rw [rd_at (by simpa using hlt)]; simp
    refine Ev.step (fun k => rfl) (Ev.yes (by omega) (Ev.yes (by omega) (Ev.yes (by omega) (Ev.bindc (impl_within.bs _ _ _) ?_))))
    rw [w64 (x := n - 1) (by omega) (by omega), hr]
    rw [List.drop_eq_getElem_cons hlt]
    have hd : decide (0 < l.length) = true := decide_eq_true (by omega)
    rw [hd, Bool.true_and]
    unfold risF
    have hw : wrap64 ((i : Int) + 1) = ((i + 1 : Nat) : Int) := w64 (by omega) (by omega)
    have hla : lastI l (i + 1) = l[i] := lastI_at hlt
    have hlt0 := hlt
    by_cases h1 : 0 ≤ l[i] ∧ l[i] ≤ n - 1
    · refine Ev.yes (decide_eq_true h1) ?_
      have hgo := ih (i + 1) (by omega) (by rw [hla]; omega)
      rw [hla, hd, Bool.true_and] at hgo
      cases i with
      | zero =>
        refine Ev.no (by omega) ?_
        rw [hw]
        refine Ev.eq hgo ?_
        have h2 : decide (lastI l 0 < l[0]) = true := decide_eq_true (show (-1 : Int) < l[0] by omega)
        have h3 : decide (l[0] ≤ n - 1) = true := decide_eq_true h1.2
        rw [h2, h3]; rfl
      | succ i =>
        have hp : wrap64 (((i + 1 : Nat) : Int) - 1) = (i : Nat) := by rw [w64 (by omega) (by omega)]; omega
        have hr1 : rd l (i : Nat) = l[i] := by rw [rd_at (by simp; omega)]; simp
        have hlb : lastI l (i + 1) = l[i] := lastI_at (by omega)
        refine Ev.yes (by omega) ?_
        rw [hp, hr1, hlb]
        refine Ev.yes (by omega) (Ev.yes (by omega) ?_)
        by_cases h2 : l[i + 1] ≤ l[i]
        · refine Ev.yes h2 (Ev.id ?_)
          rw [decide_eq_false (by omega : ¬ l[i] < l[i + 1])]; rfl
        · refine Ev.no h2 ?_
          rw [hw]
          refine Ev.eq hgo ?_
          rw [decide_eq_true (by omega : l[i] < l[i + 1]), decide_eq_true h1.2]; rfl
    · refine Ev.no (by rw [decide_eq_false h1]; simp) (Ev.id ?_)
      by_cases h2 : lastI l i < l[i]
      · have h3 : ¬ l[i] ≤ n - 1 := fun h => h1 ⟨by omega, h⟩
        rw [decide_eq_false h3]; simp
      · rw [decide_eq_false h2]; rfl
theorem impl_areDepths.ev (n : Int) (hn : 1 ≤ n ∧ n ≤ 9) (l : List Int) (hl : l.length ≤ 9223372036854775807) : Ev (fun k => impl_areDepths.f k n l) (rowB n l) := by
  unfold impl_areDepths.f
  refine Ev.eq (impl_areDepths.lev n hn l hl l.length 0 (by omega) (show (-1 : Int) ≤ -1 by omega)) ?_
  unfold rowB
  cases l <;> simp [lastI]
/-! the first place where a test holds. -/
def idxOf {α : Type} (p : α → Bool) (xs : List α) : Int := if xs.any p then (xs.findIdx p : Int) else -1
theorem idxOf_hit {α : Type} {p : α → Bool} {xs : List α} {i : Nat} {y : α} (hi : xs[i]? = some y) (h : p y = true) (hb : ∀ (j : Nat) z, j < i → xs[j]? = some z → p z = false) : idxOf p xs = i := by
  obtain ⟨hl, rfl⟩ := List.getElem?_eq_some_iff.1 hi
  unfold idxOf
  rw [if_pos (List.any_eq_true.mpr ⟨xs[i], List.getElem_mem hl, h⟩)]
  congr 1
  exact (List.findIdx_eq hl).mpr ⟨h, fun j hj => hb j _ hj (List.getElem?_eq_getElem (by omega))⟩
theorem idxOf_miss {α : Type} {p : α → Bool} {xs : List α} (hb : ∀ (j : Nat) z, xs[j]? = some z → p z = false) : idxOf p xs = -1 := by
  unfold idxOf
  rw [if_neg]
  rw [Bool.not_eq_true, List.any_eq_false]
  intro x hx
  obtain ⟨j, hj, rfl⟩ := List.getElem_of_mem hx
  simp [hb j _ (List.getElem?_eq_getElem hj)]
theorem idxOf_nonneg {α : Type} (p : α → Bool) (xs : List α) : decide (0 ≤ idxOf p xs) = xs.any p := by
  unfold idxOf
  split
  · rename_i h; rw [h]; simp
  · rename_i h; rw [Bool.eq_false_iff.mpr h]; simp
/-! slices.IndexFunc and slices.ContainsFunc at rows of numbers, under any predicate that makes nothing but new memory. -/
def PredRow (g : Nat) (cap : Array Value) (p : List Int → Bool) (xs : List (List Int)) (w : World) : Prop :=
  ∀ x, x ∈ xs → ∀ (W : World) (A0 : Option Addr) (c0 : Nat), Below w.heap.size w W → x.length ≤ c0 → (Kd.int .i64).C W A0 x.length x → Calls Try.prog g (#[.slice A0 x.length c0] ++ cap) W fun e w' => e = .returned (.bool (p x)) ∧ Below w.heap.size w w'
set_option maxHeartbeats 2000000 in
set_option maxRecDepth 100000 in
theorem idx_Row (g : Nat) (cap : Array Value) (p : List Int → Bool) (A : Option Addr) (c : Nat) (xs : List (List Int)) (w : World) (eg : ∀ args w, (callFunc g args).run Try.prog w = .ok (.enter g args) w)
    (hr : Kd.C (Kd.slice 3 (Kd.int .i64)) w A xs.length xs) (hp : PredRow g cap p xs w) :
    Calls Try.prog 142 #[.slice A xs.length c, .func (.func g) #[] cap] w fun e w' => e = .returned (.int .i64 (idxOf p xs)) ∧ Below w.heap.size w w' := by
  have hbig := hr.2.1
  have HR := amk hr
  have HP := amk hp
  clear hr hp
  go_enter Try.func142, Try.ntmps142
  go_wp2
  go_loopg [5, 8] xs.length (fun gg _ s8 wr => ∃ i : Int, s8 = .int .i64 i ∧ Aside0 (0 ≤ i) ∧ Aside0 (i ≤ xs.length) ∧ Aside0 ((xs.length : Int) - i ≤ gg) ∧ Aside0 (Below w.heap.size w wr) ∧ Aside0 (∀ (j : Nat) z, (j : Int) < i → xs[j]? = some z → p z = false))
  case atStart => exact ⟨0, rfl, ⟨by omega⟩, ⟨by omega⟩, ⟨by omega⟩, ⟨Below.refl _ w⟩, ⟨fun j hj => by omega⟩⟩
  case round =>
    obtain ⟨i, rfl, I0, I1, IG, BW, AA⟩ := hrel
    by_cases hlt : i < (xs.length : Int)
    · have hlw : decide (i < (xs.length : Int)) = true := decide_eq_true hlt
      have i0 : 0 ≤ i := I0.out
      obtain ⟨ad, cs, e, _, hK, hc0⟩ := Kd.C_get HR.out ([] : List Int) i i0 hlt
      cases e
      have hc : ∀ j u, cs[j]? = some u → w.cell? (ad.add (i.toNat * 1 + j)) = some u := hc0
      obtain ⟨A0, c0, rfl, l0, g0⟩ := hK
      have hx0 := hc 0 _ rfl
      rw [Nat.mul_one, Nat.add_zero] at hx0
      clear hc hc0
      replace hx0 := (BW.out.cell (World.block_lt_of_cell? w _ hx0)).trans hx0
      replace g0 := Kd.C_below g0 BW.out
      have HY : Aside0 (xs[i.toNat]? = some (xs.getD i.toNat [])) := ⟨by
        have hin : i.toNat < xs.length := by omega
        simp [List.getD, hin]⟩
      generalize xs.getD i.toNat [] = y at hx0 l0 g0 HY
      have hcall := HP.out y (List.mem_of_getElem? HY.out) wr A0 c0 BW.out l0 g0
      have L0 := amk l0
      have G0 := amk g0
      clear l0 g0
      have HLT := amk hlt
      replace hlt := eq_true hlt
      replace i0 := eq_true i0
      cases hq : p y with
      | true =>
        rw [hq] at hcall
        have HQ := amk hq
        clear hq
        go_wp2_with (go_at_fn g; refine hcall.mono ?_; rintro e w' ⟨rfl, hb'⟩)
        go_ret
        refine ⟨?_, hb'⟩
        have h1 := idxOf_hit (p := p) HY.out HQ.out (fun j z hj hz => AA.out j z (by omega) hz)
        rw [h1]
        have := I0.out
        show Ending.returned (.int .i64 i) = Ending.returned (.int .i64 ((i.toNat : Nat) : Int))
        rw [Int.toNat_of_nonneg this]
      | false =>
        rw [hq] at hcall
        have HQ := amk hq
        clear hq
        go_wp2_with (go_at_fn g; refine hcall.mono ?_; rintro e w' ⟨rfl, hb'⟩)
        have hw1 : wrap64 (i + 1) = i + 1 := by
          have := I0.out
          have := HLT.out
          unfold wrap64; omega
        go_roundg (xs.length - (i.toNat + 1))
        case measure => have := I0.out; have := HLT.out; have := IG.out; omega
        case rel =>
          have a1 := I0.out
          have a2 := HLT.out
          refine ⟨i + 1, by rw [hw1], ⟨by omega⟩, ⟨by omega⟩, ⟨by omega⟩, ⟨hb'⟩, ⟨fun j z hj hz => ?_⟩⟩
          by_cases e : j = i.toNat
          · subst e
            rw [HY.out] at hz
            injection hz with hz
            rw [← hz]; exact HQ.out
          · exact AA.out j z (by omega) hz
    · have hlw : decide (i < (xs.length : Int)) = false := decide_eq_false hlt
      have HK := amk hlt
      clear hlt
      go_wp2
      go_ret
      refine ⟨?_, BW.out⟩
      rw [idxOf_miss (fun j z hz => AA.out j z (by have := HK.out; have := (List.getElem?_eq_some_iff.1 hz).1; omega) hz)]
      rfl
theorem contains_Row (g : Nat) (cap : Array Value) (p : List Int → Bool) (A : Option Addr) (c : Nat) (xs : List (List Int)) (w : World) (eg : ∀ args w, (callFunc g args).run Try.prog w = .ok (.enter g args) w)
    (hr : Kd.C (Kd.slice 3 (Kd.int .i64)) w A xs.length xs) (hp : PredRow g cap p xs w) :
    Calls Try.prog 108 #[.slice A xs.length c, .func (.func g) #[] cap] w fun e w' => e = .returned (.bool (xs.any p)) ∧ Below w.heap.size w w' := by
  rw [← idxOf_nonneg p xs]
  have HC := amk (idx_Row g cap p A c xs w eg hr hp)
  clear hr hp
  go_enter Try.func108, Try.ntmps108
  go_wp2_with (go_at_call 142; refine HC.out.mono ?_; rintro e w' ⟨rfl, hb'⟩)
  go_ret
  exact ⟨rfl, hb'⟩
/-! impl.within and spec.l1In, by hand: the world stays. -/
def winB (a b c : Int) : Bool := decide (b ≤ a ∧ a ≤ c)
theorem winB_yes {a b c : Int} (h : b ≤ a ∧ a ≤ c) : winB a b c = true := by unfold winB; simp [h]
theorem winB_no {a b c : Int} (h : ¬ (b ≤ a ∧ a ≤ c)) : winB a b c = false := by unfold winB; simp [h]
theorem within_same (a b c : Int) (w : World) : Calls Try.prog 107 #[.int .i64 a, .int .i64 b, .int .i64 c] w fun e w' => e = .returned (.bool (winB a b c)) ∧ w = w' := by
  by_cases h1 : b ≤ a
  · by_cases h2 : a ≤ c
    · rw [winB_yes ⟨h1, h2⟩]
      go_enter Try.func107, Try.ntmps107
      go_wp2
      go_ret
      exact ⟨rfl, rfl⟩
    · rw [winB_no (fun h => h2 h.2)]
      go_enter Try.func107, Try.ntmps107
      go_wp2
      go_ret
      exact ⟨rfl, rfl⟩
  · rw [winB_no (fun h => h1 h.1)]
    go_enter Try.func107, Try.ntmps107
    go_wp2
    go_ret
    exact ⟨rfl, rfl⟩
/-! impl.ArePins, by hand: it asks its rows through slices.ContainsFunc and a closure. -/
theorem arePins_closure (n : Int) (hn : 1 ≤ n ∧ n ≤ 9) (gb : Nat) (W : World) (h0 : W.cell? ⟨gb, 0, none⟩ = some (.int .i64 n)) (x : List Int) (A0 : Option Addr) (c0 : Nat) (hc0 : x.length ≤ c0) (hr0 : (Kd.int .i64).C W A0 x.length x) :
    Calls Try.prog 109 #[.slice A0 x.length c0, .pointer (some ⟨gb, 0, none⟩)] W fun e w' => e = .returned (.bool (!rowB n x)) ∧ Below W.heap.size W w' := by
  obtain ⟨k, hk⟩ := (impl_areDepths.ev n hn x hr0.2.1).rounds
  have hu41 := Try.underlying41
  have HK := amk hk
  have HR := amk hr0
  have HC := amk hc0
  clear hk hn hr0 hc0
  generalize rowB n x = b at HK ⊢
  go_enter Try.func109, Try.ntmps109
  go_wp2_with (go_at_call 110; refine (impl_areDepths.calls k _ _ _ _ _ _ HR.out HC.out HK.out).mono ?_; rintro e w' ⟨rfl, hb⟩)
  go_ret
  exact ⟨rfl, hb.below⟩
def impl_ArePins.f (a : Int) (l : List (List Int)) : Option Bool := some (pinsB a l)
set_option maxHeartbeats 2000000 in
set_option maxRecDepth 100000 in
theorem impl_ArePins.calls (a0_0 : Int) (A0_1 : Option Addr) (c0_1 : Nat) (l0_1 : List (List Int)) (r : Bool) (w : World) (hr0_1 : Kd.C (Kd.slice 3 (Kd.int .i64)) w A0_1 l0_1.length l0_1) (hc0_1 : l0_1.length ≤ c0_1) (h : impl_ArePins.f a0_0 l0_1 = some r) :
    Calls Try.prog 55 #[.agg #[.int .i64 a0_0, .slice A0_1 l0_1.length c0_1]] w fun e w' => e = .returned (.bool r) ∧ Below w.heap.size w w' := by
  obtain rfl := Option.some.inj h
  clear h
  have hu41 := Try.underlying41
  have hu35 := Try.underlying35
  have eg : ∀ args w, (callFunc 109 args).run Try.prog w = .ok (.enter 109 args) w := enters_of Try.func109 (by kernel_rfl) rfl
  have HE := amk eg
  clear eg
  have HR := amk hr0_1
  clear hr0_1
  unfold pinsB
  by_cases h1 : 1 ≤ a0_0 ∧ a0_0 ≤ 9
  · by_cases h2 : 1 ≤ (l0_1.length : Int) ∧ (l0_1.length : Int) ≤ 7
    · rw [decide_eq_true h1, decide_eq_true h2, show (l0_1.all (rowB a0_0)) = !(l0_1.any fun c => !rowB a0_0 c) by simp [List.all_eq_not_any_not]]
      have hw1 := winB_yes h1
      have hw2 := winB_yes h2
      generalize hz : (l0_1.any fun c => !rowB a0_0 c) = z
      have HZ := amk hz
      have H1 := amk h1
      clear hz h1 h2
      go_enter Try.func55, Try.ntmps55
      go_wp2_with (first | (go_at_call 108; refine (contains_Row 109 #[.pointer (some ⟨w.heap.size, 0, none⟩)] (fun c => !rowB a0_0 c) A0_1 c0_1 l0_1 _ HE.out (Kd.C_alloc HR.out _) (fun x _ W A0 c0 hW hc hr => (arePins_closure a0_0 H1.out w.heap.size W ((hW.cell (p := ⟨w.heap.size, 0, none⟩) (by simp)).trans (by simp)) x A0 c0 hc hr).mono (fun e w' ⟨h1, h2⟩ => ⟨h1, hW.trans (h2.mono hW.size)⟩))).mono ?_; rintro e w2 ⟨rfl, hb2⟩) | (go_at_call 107; refine (within_same _ _ _ _).mono ?_; rintro e w' ⟨rfl, rfl⟩))
      go_ret
      exact ⟨by rw [HZ.out]; rfl, ((Below.refl _ w).alloc (Nat.le_refl _) _).trans (hb2.mono (by simp))⟩
    · rw [decide_eq_false h2]
      have hw1 := winB_yes h1
      have hw2 := winB_no h2
      clear h1 h2
      go_enter Try.func55, Try.ntmps55
      go_wp2_with (first | (go_at_call 107; refine (within_same _ _ _ _).mono ?_; rintro e w' ⟨rfl, rfl⟩))
      go_ret
      exact ⟨by simp, (Below.refl _ w).alloc (Nat.le_refl _) _⟩
  · rw [decide_eq_false h1]
    have hw1 := winB_no h1
    clear h1
    go_enter Try.func55, Try.ntmps55
    go_wp2_with (go_at_call 107; refine (within_same _ _ _ _).mono ?_; rintro e w' ⟨rfl, rfl⟩)
    go_ret
    exact ⟨by simp, (Below.refl _ w).alloc (Nat.le_refl _) _⟩
/-! slices.IndexFunc and slices.ContainsFunc at pins, under any predicate that makes nothing but new memory. -/
def PredPins (g : Nat) (cap : Array Value) (p : S41 → Bool) (xs : List S41) (w : World) : Prop :=
  ∀ x, x ∈ xs → ∀ (W : World) (A0 : Option Addr) (c0 : Nat), Below w.heap.size w W → x.f1.length ≤ c0 → (Kd.slice 3 (Kd.int .i64)).C W A0 x.f1.length x.f1 → Calls Try.prog g (#[.agg #[.int .i64 x.f0, .slice A0 x.f1.length c0]] ++ cap) W fun e w' => e = .returned (.bool (p x)) ∧ Below w.heap.size w w'
set_option maxHeartbeats 2000000 in
set_option maxRecDepth 100000 in
theorem idx_Pins (g : Nat) (cap : Array Value) (p : S41 → Bool) (A : Option Addr) (c : Nat) (xs : List S41) (w : World) (eg : ∀ args w, (callFunc g args).run Try.prog w = .ok (.enter g args) w)
    (hr : Kd.C k41 w A xs.length xs) (hp : PredPins g cap p xs w) :
    Calls Try.prog 160 #[.slice A xs.length c, .func (.func g) #[] cap] w fun e w' => e = .returned (.int .i64 (idxOf p xs)) ∧ Below w.heap.size w w' := by
  have hbig := hr.2.1
  have HR := amk hr
  have HP := amk hp
  have hu := Try.underlying41
  clear hr hp
  go_enter Try.func160, Try.ntmps160
  go_wp2
  go_loopg [5, 8] xs.length (fun gg _ s8 wr => ∃ i : Int, s8 = .int .i64 i ∧ Aside0 (0 ≤ i) ∧ Aside0 (i ≤ xs.length) ∧ Aside0 ((xs.length : Int) - i ≤ gg) ∧ Aside0 (Below w.heap.size w wr) ∧ Aside0 (∀ (j : Nat) z, (j : Int) < i → xs[j]? = some z → p z = false))
  case atStart => exact ⟨0, rfl, ⟨by omega⟩, ⟨by omega⟩, ⟨by omega⟩, ⟨Below.refl _ w⟩, ⟨fun j hj => by omega⟩⟩
  case round =>
    obtain ⟨i, rfl, I0, I1, IG, BW, AA⟩ := hrel
    by_cases hlt : i < (xs.length : Int)
    · have hlw : decide (i < (xs.length : Int)) = true := decide_eq_true hlt
      have i0 : 0 ≤ i := I0.out
      obtain ⟨ad, A0, c0, e, hx0, hx1, l0, g0⟩ := at_T41 HR.out i i0 hlt
      cases e
      replace hx0 := (BW.out.cell (World.block_lt_of_cell? w _ hx0)).trans hx0
      replace hx1 := (BW.out.cell (World.block_lt_of_cell? w _ hx1)).trans hx1
      replace g0 := Kd.C_below g0 BW.out
      have HY : Aside0 (xs[i.toNat]? = some (rd_T41 xs i)) := ⟨by
        have hin : i.toNat < xs.length := by omega
        unfold rd_T41; simp [List.getD, hin]⟩
      generalize rd_T41 xs i = y at hx0 hx1 l0 g0 HY
      have hcall := HP.out y (List.mem_of_getElem? HY.out) wr A0 c0 BW.out l0 g0
      have L0 := amk l0
      have G0 := amk g0
      clear l0 g0
      have HLT := amk hlt
      replace hlt := eq_true hlt
      replace i0 := eq_true i0
      cases hq : p y with
      | true =>
        rw [hq] at hcall
        have HQ := amk hq
        clear hq
        go_wp2_with (go_at_fn g; refine hcall.mono ?_; rintro e w' ⟨rfl, hb'⟩)
        go_ret
        refine ⟨?_, hb'⟩
        have h1 := idxOf_hit (p := p) HY.out HQ.out (fun j z hj hz => AA.out j z (by omega) hz)
        rw [h1]
        have := I0.out
        show Ending.returned (.int .i64 i) = Ending.returned (.int .i64 ((i.toNat : Nat) : Int))
        rw [Int.toNat_of_nonneg this]
      | false =>
        rw [hq] at hcall
        have HQ := amk hq
        clear hq
        go_wp2_with (go_at_fn g; refine hcall.mono ?_; rintro e w' ⟨rfl, hb'⟩)
        have hw1 : wrap64 (i + 1) = i + 1 := by
          have := I0.out
          have := HLT.out
          unfold wrap64; omega
        go_roundg (xs.length - (i.toNat + 1))
        case measure => have := I0.out; have := HLT.out; have := IG.out; omega
        case rel =>
          have a1 := I0.out
          have a2 := HLT.out
          refine ⟨i + 1, by rw [hw1], ⟨by omega⟩, ⟨by omega⟩, ⟨by omega⟩, ⟨hb'⟩, ⟨fun j z hj hz => ?_⟩⟩
          by_cases e : j = i.toNat
          · subst e
            rw [HY.out] at hz
            injection hz with hz
            rw [← hz]; exact HQ.out
          · exact AA.out j z (by omega) hz
    · have hlw : decide (i < (xs.length : Int)) = false := decide_eq_false hlt
      have HK := amk hlt
      clear hlt
      go_wp2
      go_ret
      refine ⟨?_, BW.out⟩
      rw [idxOf_miss (fun j z hz => AA.out j z (by have := HK.out; have := (List.getElem?_eq_some_iff.1 hz).1; omega) hz)]
      rfl
theorem contains_Pins (g : Nat) (cap : Array Value) (p : S41 → Bool) (A : Option Addr) (c : Nat) (xs : List S41) (w : World) (eg : ∀ args w, (callFunc g args).run Try.prog w = .ok (.enter g args) w)
    (hr : Kd.C k41 w A xs.length xs) (hp : PredPins g cap p xs w) :
    Calls Try.prog 137 #[.slice A xs.length c, .func (.func g) #[] cap] w fun e w' => e = .returned (.bool (xs.any p)) ∧ Below w.heap.size w w' := by
  rw [← idxOf_nonneg p xs]
  have HC := amk (idx_Pins g cap p A c xs w eg hr hp)
  clear hr hp
  go_enter Try.func137, Try.ntmps137
  go_wp2_with (go_at_call 160; refine HC.out.mono ?_; rintro e w' ⟨rfl, hb'⟩)
  go_ret
  exact ⟨rfl, hb'⟩
/-! impl.ofKind, by hand: it asks its pins through slices.ContainsFunc and a closure over the list. -/
def badB (l : List S41) (p : S41) : Bool := !pinsB p.f0 p.f1 || !(p.f0 == (rd_T41 l 0).f0) || !(p.f1.length == (rd_T41 l 0).f1.length)
def KindS (W : World) (gb : Nat) (ad : Addr) (n c : Nat) (y0 : Int) (y1 : Nat) (A1 : Option Addr) (c1 : Nat) (x0 : Int) (x1 : Nat) (A0 : Option Addr) (c0 : Nat) (w' : World) : Prop :=
  w'.cell? ⟨gb, 0, none⟩ = some (.slice (some ad) n c) ∧ w'.cell? ad = some (.int .i64 y0) ∧ w'.cell? ⟨ad.block, ad.off + 1, none⟩ = some (.slice A1 y1 c1) ∧ w'.cell? ⟨W.heap.size, 0, none⟩ = some (.int .i64 x0) ∧ w'.cell? ⟨W.heap.size, 1, none⟩ = some (.slice A0 x1 c0) ∧ Below W.heap.size W w' ∧ W.heap.size < w'.heap.size
theorem KindS_on {W : World} {gb : Nat} {ad : Addr} {n c : Nat} {y0 : Int} {y1 : Nat} {A1 : Option Addr} {c1 : Nat} {x0 : Int} {x1 : Nat} {A0 : Option Addr} {c0 : Nat} {w' w2 : World} (hB : gb < W.heap.size) (hA : ad.block < W.heap.size) (h : KindS W gb ad n c y0 y1 A1 c1 x0 x1 A0 c0 w') (hb : Below w'.heap.size w' w2) : KindS W gb ad n c y0 y1 A1 c1 x0 x1 A0 c0 w2 := by
  obtain ⟨h1, h2, h3, h4, h5, h6, h7⟩ := h
  have := hb.size
  exact ⟨(hb.cell (p := ⟨gb, 0, none⟩) (by show gb < _; omega)).trans h1, (hb.cell (by omega)).trans h2, (hb.cell (p := ⟨ad.block, ad.off + 1, none⟩) (by show ad.block < _; omega)).trans h3, (hb.cell (p := ⟨W.heap.size, 0, none⟩) h7).trans h4, (hb.cell (p := ⟨W.heap.size, 1, none⟩) h7).trans h5, h6.trans (hb.mono h6.size), by omega⟩
set_option maxHeartbeats 4000000 in
set_option maxRecDepth 100000 in
theorem ofKind_closure (l : List S41) (hl : 0 < l.length) (A : Option Addr) (c gb : Nat) (W : World) (hB : gb < W.heap.size) (h0 : W.cell? ⟨gb, 0, none⟩ = some (.slice A l.length c)) (hr : Kd.C k41 W A l.length l) (x : S41) (A0 : Option Addr) (c0 : Nat) (hc0 : x.f1.length ≤ c0) (hr0 : (Kd.slice 3 (Kd.int .i64)).C W A0 x.f1.length x.f1) :
    Calls Try.prog 138 #[.agg #[.int .i64 x.f0, .slice A0 x.f1.length c0], .pointer (some ⟨gb, 0, none⟩)] W fun e w' => e = .returned (.bool (badB l x)) ∧ Below W.heap.size W w' := by
  have hbx := hr0.2.1
  obtain ⟨ad, A1, c1, e, hq0, hq1, l1, g1⟩ := at_T41 hr 0 (by omega) (by omega)
  cases e
  have hby := g1.2.1
  have hll : decide (0 < (l.length : Int)) = true := decide_eq_true (by omega)
  have hu41 := Try.underlying41
  have hu35 := Try.underlying35
  have hu57 := Try.underlying57
  have HX := amk hr0
  have HC := amk hc0
  simp only [Int.toNat_zero, Nat.zero_mul] at hq0 hq1
  replace hq0 : W.cell? ad = _ := hq0
  replace hq1 : W.cell? ⟨ad.block, ad.off + 1, none⟩ = _ := hq1
  have hlz : (0 < l.length) = True := eq_true (by omega)
  clear hr hr0 hc0 g1 l1
  unfold badB
  generalize rd_T41 l 0 = y at hq0 hq1 hby ⊢
  have hab : ad.block < W.heap.size := World.block_lt_of_cell? W _ hq0
  have B1 : Below W.heap.size W (W.alloc (.cells #[.int .i64 x.f0, .slice A0 x.f1.length c0] 41)).drew := (ba_ (Below.refl _ W) _).drew
  have HS1 : Aside0 (KindS W gb ad l.length c y.f0 y.f1.length A1 c1 x.f0 x.f1.length A0 c0 (W.alloc (.cells #[.int .i64 x.f0, .slice A0 x.f1.length c0] 41)).drew) := ⟨(B1.cell (p := ⟨gb, 0, none⟩) hB).trans h0, (B1.cell hab).trans hq0, (B1.cell (p := ⟨ad.block, ad.off + 1, none⟩) hab).trans hq1, by simp, by simp, B1, by simp⟩
  have HLT := amk (And.intro hB hab)
  clear B1 hB hab hq0 hq1 h0
  cases hp : pinsB x.f0 x.f1 with
  | false =>
    have HP := amk (show impl_ArePins.f x.f0 x.f1 = some false by unfold impl_ArePins.f; rw [hp])
    clear hp
    show Calls Try.prog _ _ W fun e w' => e = .returned (.bool true) ∧ _
    go_enter Try.func138, Try.ntmps138
    go_wp2
    refine wp_region_quiet (C := KindS W gb ad l.length c y.f0 y.f1.length A1 c1 x.f0 x.f1.length A0 c0) (by kernel_rfl) (by kernel_rfl) HS1.out ?_
    simp only []
    repeat (first | go_big_quiet_skip | (go_big_quiet_want; unfold Oper.quiet; apply Exists.intro; refine ⟨fun w' hS => ?_, ?_⟩; (focus (have HSS := amk hS; obtain ⟨q1, q2, q3, q4, q5, q6, q7⟩ := hS; unfold Oper.quietAt; go_simp; first | done | exact ⟨rfl, rfl⟩ | exact rfl | (go_at_call 55; refine (impl_ArePins.calls _ _ _ _ _ _ (Kd.C_below HX.out q6) HC.out HP.out).mono ?_; rintro e w9 ⟨rfl, hb9⟩; exact ⟨rfl, KindS_on HLT.out.1 HLT.out.2 HSS.out hb9⟩))); simp only [Act.put, List.setIfInBounds_toArray, List.set_cons_zero, List.set_cons_succ]; go_big_quiet_on))
    refine wpQuiet_nil ?_
    intro w2 hS2
    obtain ⟨q1, q2, q3, q4, q5, q6, q7⟩ := hS2
    go_wp2
    go_ret
    exact ⟨rfl, q6⟩
  | true =>
    have HP := amk (show impl_ArePins.f x.f0 x.f1 = some true by unfold impl_ArePins.f; rw [hp])
    clear hp
    cases h1 : (x.f0 == y.f0) with
    | false =>
      show Calls Try.prog _ _ W fun e w' => e = .returned (.bool true) ∧ _
      have h1n : (x.f0 != y.f0) = true := by rw [bne, h1]; rfl
      go_enter Try.func138, Try.ntmps138
      go_wp2
      refine wp_region_quiet (C := KindS W gb ad l.length c y.f0 y.f1.length A1 c1 x.f0 x.f1.length A0 c0) (by kernel_rfl) (by kernel_rfl) HS1.out ?_
      simp only []
      repeat (first | go_big_quiet_skip | (go_big_quiet_want; unfold Oper.quiet; apply Exists.intro; refine ⟨fun w' hS => ?_, ?_⟩; (focus (have HSS := amk hS; obtain ⟨q1, q2, q3, q4, q5, q6, q7⟩ := hS; unfold Oper.quietAt; go_simp; first | done | exact ⟨rfl, rfl⟩ | exact rfl | (go_at_call 55; refine (impl_ArePins.calls _ _ _ _ _ _ (Kd.C_below HX.out q6) HC.out HP.out).mono ?_; rintro e w9 ⟨rfl, hb9⟩; exact ⟨rfl, KindS_on HLT.out.1 HLT.out.2 HSS.out hb9⟩))); simp only [Act.put, List.setIfInBounds_toArray, List.set_cons_zero, List.set_cons_succ]; go_big_quiet_on))
      refine wpQuiet_nil ?_
      intro w2 hS2
      obtain ⟨q1, q2, q3, q4, q5, q6, q7⟩ := hS2
      go_wp2
      go_ret
      exact ⟨rfl, q6⟩
    | true =>
      have h1n : (x.f0 != y.f0) = false := by rw [bne, h1]; rfl
      cases h2 : (x.f1.length == y.f1.length) with
      | false =>
        show Calls Try.prog _ _ W fun e w' => e = .returned (.bool true) ∧ _
        have h2n : ((x.f1.length : Int) != (y.f1.length : Int)) = true := by
          have := beq_eq_false_iff_ne.mp h2
          exact bne_iff_ne.mpr (by omega)
        go_enter Try.func138, Try.ntmps138
        go_wp2
        refine wp_region_quiet (C := KindS W gb ad l.length c y.f0 y.f1.length A1 c1 x.f0 x.f1.length A0 c0) (by kernel_rfl) (by kernel_rfl) HS1.out ?_
        simp only []
        repeat (first | go_big_quiet_skip | (go_big_quiet_want; unfold Oper.quiet; apply Exists.intro; refine ⟨fun w' hS => ?_, ?_⟩; (focus (have HSS := amk hS; obtain ⟨q1, q2, q3, q4, q5, q6, q7⟩ := hS; unfold Oper.quietAt; go_simp; first | done | exact ⟨rfl, rfl⟩ | exact rfl | (go_at_call 55; refine (impl_ArePins.calls _ _ _ _ _ _ (Kd.C_below HX.out q6) HC.out HP.out).mono ?_; rintro e w9 ⟨rfl, hb9⟩; exact ⟨rfl, KindS_on HLT.out.1 HLT.out.2 HSS.out hb9⟩))); simp only [Act.put, List.setIfInBounds_toArray, List.set_cons_zero, List.set_cons_succ]; go_big_quiet_on))
        refine wpQuiet_nil ?_
        intro w2 hS2
        obtain ⟨q1, q2, q3, q4, q5, q6, q7⟩ := hS2
        go_wp2
        go_ret
        exact ⟨rfl, q6⟩
      | true =>
        show Calls Try.prog _ _ W fun e w' => e = .returned (.bool false) ∧ _
        have h2n : ((x.f1.length : Int) != (y.f1.length : Int)) = false := by
          have := beq_iff_eq.mp h2
          simp only [this, bne_self_eq_false]
        go_enter Try.func138, Try.ntmps138
        go_wp2
        refine wp_region_quiet (C := KindS W gb ad l.length c y.f0 y.f1.length A1 c1 x.f0 x.f1.length A0 c0) (by kernel_rfl) (by kernel_rfl) HS1.out ?_
        simp only []
        repeat (first | go_big_quiet_skip | (go_big_quiet_want; unfold Oper.quiet; apply Exists.intro; refine ⟨fun w' hS => ?_, ?_⟩; (focus (have HSS := amk hS; obtain ⟨q1, q2, q3, q4, q5, q6, q7⟩ := hS; unfold Oper.quietAt; go_simp; first | done | exact ⟨rfl, rfl⟩ | exact rfl | (go_at_call 55; refine (impl_ArePins.calls _ _ _ _ _ _ (Kd.C_below HX.out q6) HC.out HP.out).mono ?_; rintro e w9 ⟨rfl, hb9⟩; exact ⟨rfl, KindS_on HLT.out.1 HLT.out.2 HSS.out hb9⟩))); simp only [Act.put, List.setIfInBounds_toArray, List.set_cons_zero, List.set_cons_succ]; go_big_quiet_on))
        refine wpQuiet_nil ?_
        intro w2 hS2
        obtain ⟨q1, q2, q3, q4, q5, q6, q7⟩ := hS2
        go_wp2
        go_ret
        exact ⟨rfl, q6⟩
def impl_ofKind.f (l : List S41) : Option Bool := some (kindB l)
set_option maxHeartbeats 2000000 in
set_option maxRecDepth 100000 in
theorem impl_ofKind.calls (A0 : Option Addr) (c0 : Nat) (l0 : List S41) (r : Bool) (w : World) (hr0 : Kd.C k41 w A0 l0.length l0) (hc0 : l0.length ≤ c0) (h : impl_ofKind.f l0 = some r) :
    Calls Try.prog 90 #[.slice A0 l0.length c0] w fun e w' => e = .returned (.bool r) ∧ Below w.heap.size w w' := by
  obtain rfl := Option.some.inj h
  clear h
  have hu57 := Try.underlying57
  have eg : ∀ args w, (callFunc 138 args).run Try.prog w = .ok (.enter 138 args) w := enters_of Try.func138 (by kernel_rfl) rfl
  have HE := amk eg
  clear eg
  have HR := amk hr0
  clear hr0
  unfold kindB
  by_cases h1 : 1 ≤ (l0.length : Int) ∧ (l0.length : Int) ≤ 6
  · rw [decide_eq_true h1, show (l0.all fun p => pinsB p.f0 p.f1 && (p.f0 == (rd_T41 l0 0).f0) && (p.f1.length == (rd_T41 l0 0).f1.length)) = !(l0.any (badB l0)) by rw [List.all_eq_not_any_not]; congr 2; funext p; simp [badB, Bool.not_and]]
    have hw1 := winB_yes h1
    generalize hz : (l0.any (badB l0)) = z
    have HZ := amk hz
    have H1 := amk h1
    clear hz h1
    go_enter Try.func90, Try.ntmps90
    go_wp2_with (first | (go_at_call 137; refine (contains_Pins 138 #[.pointer (some ⟨w.heap.size, 0, none⟩)] (badB l0) A0 c0 l0 _ HE.out (Kd.C_alloc HR.out _) (fun x _ W A1 c1 hW hc hr => (ofKind_closure l0 (by have := H1.out; omega) A0 c0 w.heap.size W (Nat.lt_of_lt_of_le (by simp) hW.size) ((hW.cell (p := ⟨w.heap.size, 0, none⟩) (by simp)).trans (by simp)) (Kd.C_below (Kd.C_alloc HR.out _) hW) x A1 c1 hc hr).mono (fun e w' ⟨h1, h2⟩ => ⟨h1, hW.trans (h2.mono hW.size)⟩))).mono ?_; rintro e w2 ⟨rfl, hb2⟩) | (go_at_call 107; refine (within_same _ _ _ _).mono ?_; rintro e w' ⟨rfl, rfl⟩))
    go_ret
    exact ⟨by rw [HZ.out]; rfl, ((Below.refl _ w).alloc (Nat.le_refl _) _).trans (hb2.mono (by simp))⟩
  · rw [decide_eq_false h1]
    have hw1 := winB_no h1
    clear h1
    go_enter Try.func90, Try.ntmps90
    go_wp2_with (go_at_call 107; refine (within_same _ _ _ _).mono ?_; rintro e w' ⟨rfl, rfl⟩)
    go_ret
    exact ⟨by simp, (Below.refl _ w).alloc (Nat.le_refl _) _⟩
/-! ### impl_GhostKeys: function 42 -/
mutual
def impl_GhostKeys.l0 : Nat → List (S41) → Int → Int → Option (Int × Bool)
  | 0, _, _, _ => none
  | k + 1, x0, x4, x5 => if x5 < (shl .i64 1 (x0.length : Int)) then (impl_GhostKeys.l1 k x0 x4 x5 (([] : List (S41))) x0 (x0.length : Int) 0) else (some (x4, true))
def impl_GhostKeys.l1 : Nat → List (S41) → Int → Int → List (S41) → List (S41) → Int → Int → Option (Int × Bool)
  | 0, _, _, _, _, _, _, _ => none
  | k + 1, x0, x4, x5, x6, x24, x25, x26 => if x26 < x25 then (if 0 ≤ x26 then (if x26 < (x24.length : Int) then (if (Go.bits .and .i64 (shr .i64 x5 x26) 1) = 1 then (if x6.length < 4398046511104 then (impl_GhostKeys.l1 k x0 x4 x5 (x6 ++ [(⟨(rd_T41 x24 x26).f0, (rd_T41 x24 x26).f1⟩ : S41)]) x24 x25 (wrap64 (x26 + 1))) else (none)) else (impl_GhostKeys.l1 k x0 x4 x5 x6 x24 x25 (wrap64 (x26 + 1)))) else (none)) else (none)) else ((impl_shared.f k x6).bind fun bt721 => ((impl_Pins_keys.f k bt721.1 bt721.2).bind fun t725 => (if ((x6.length : Int) % 2) = 1 then (impl_GhostKeys.l0 k x0 (wrap64 (x4 - t725)) (wrap64 (x5 + 1))) else (impl_GhostKeys.l0 k x0 (wrap64 (x4 + t725)) (wrap64 (x5 + 1))))))
end
def impl_GhostKeys.f (k : Nat) (l0 : List (S41)) : Option (Int × Bool) := (impl_ofKind.f l0).bind fun t707 => (if t707 = true then ((impl_joined.f k l0 1).bind fun bt708 => ((impl_Pins_keys.f k bt708.1 bt708.2).bind fun t712 => (impl_GhostKeys.l0 k l0 t712 1))) else (some (0, false)))
set_option maxHeartbeats 8000000 in
set_option maxRecDepth 100000 in
theorem impl_GhostKeys.calls (k : Nat) (P0_ : Nat → Prop) (A0 : Option Addr) (c0 : Nat) (l0 : List (S41)) (r1 : Int) (r2 : Bool) (w : World) (hs0 : Kd.V k41 41 w w.heap.size (fun k_ => P0_ k_) (.slice A0 l0.length c0) l0) (h : impl_GhostKeys.f k l0 = some (r1, r2)) :
    Calls Try.prog 42 #[.slice A0 l0.length c0] w fun e w' => e = .returned (.tuple #[.int .i64 r1, .bool r2]) ∧ Below w.heap.size w w' := by
  have hu41 := Try.underlying41
  have HO0 := amk (show Kd.V k41 41 w w.heap.size (fun k_ => (P0_ k_ ∨ w.heap.size ≤ k_)) (.slice A0 l0.length c0) l0 from Kd.V_mono hs0 (fun k_ hk => .inl hk))
  have HB := amk (Below.refl w.heap.size w)
  have H : ((impl_ofKind.f l0).bind fun t707 => (if t707 = true then ((impl_joined.f k l0 1).bind fun bt708 => ((impl_Pins_keys.f k bt708.1 bt708.2).bind fun t712 => (impl_GhostKeys.l0 k l0 t712 1))) else (some (0, false)))) = some (r1, r2) := h
  clear h
  replace H := Option.bind_eq_some_iff.mp H
  obtain ⟨t707, A20, H⟩ := H
  replace H : (if t707 = true then ((impl_joined.f k l0 1).bind fun bt708 => ((impl_Pins_keys.f k bt708.1 bt708.2).bind fun t712 => (impl_GhostKeys.l0 k l0 t712 1))) else (some (0, false))) = some (r1, r2) := H
  have A2 := amk A20
  clear A20
  by_cases c3 : t707 = true
  · subst c3
    have H1 : ((impl_joined.f k l0 1).bind fun bt708 => ((impl_Pins_keys.f k bt708.1 bt708.2).bind fun t712 => (impl_GhostKeys.l0 k l0 t712 1))) = some (r1, r2) := by rw [if_pos rfl] at H; exact H
    clear H
    have H := H1
    clear H1
    replace H := Option.bind_eq_some_iff.mp H
    obtain ⟨⟨t708, t709⟩, A40, H⟩ := H
    replace H : ((impl_Pins_keys.f k t708 t709).bind fun t712 => (impl_GhostKeys.l0 k l0 t712 1)) = some (r1, r2) := H
    have A4 := amk A40
    clear A40
    replace H := Option.bind_eq_some_iff.mp H
    obtain ⟨t712, A50, H⟩ := H
    replace H : (impl_GhostKeys.l0 k l0 t712 1) = some (r1, r2) := H
    have A5 := amk A50
    clear A50
    have H' := amk H
    clear H
    go_enter Try.func42, Try.ntmps42
    go_wp2_with (first | ((with_reducible refine gate_callee (f := 90) rfl ?_); refine goesL_ (some 11) rfl rfl Try.func90 (by kernel_rfl) rfl #[.slice A0 l0.length c0] rfl (by (try simp only [List.map_toArray, List.map_cons, List.map_nil]); first | done | rfl | (simp only [List.length_drop, List.length_take]; rfl)) ?_; (with_reducible refine (impl_ofKind.calls _ _ l0 true _ ?side1 ?side2 A2.out).mono ?_); (case side1 => repeat (first | exact (Kd.V_reads' HO0.out).2.2 | (with_reducible refine Kd.C_alloc ?_ _) | (with_reducible refine Kd.C_drewN ?_ _) | (with_reducible refine Kd.C_drew ?_))); (case side2 => exact (Kd.V_reads' HO0.out).2.1); rintro e w6 ⟨rfl, hb⟩; refine ⟨_, rfl, ?_⟩; have n0_ := amk (Kd.V_below (by (with_reducible repeat (first | apply Kd.V_alloc | apply Kd.V_drewN | apply Kd.V_drew)); exact HO0.out) hb); have n1_ := amk (bp_ (by repeat (first | (with_reducible first | exact HB.out | apply ba_ | apply bn_ | apply bd_) | exact HB.out)) hb); clear HO0; clear HB; have HO0 := n0_; have HB := n1_; clear n0_ n1_; (try clear hb); (try clear hb2); (try clear hk); (try clear hi)) | ((with_reducible refine gate_callee (f := 101) rfl ?_); refine goesL_ (some 14) rfl rfl Try.func101 (by kernel_rfl) rfl #[.slice A0 l0.length c0, .int .i64 1] rfl (by (try simp only [List.map_toArray, List.map_cons, List.map_nil]); first | done | rfl | (simp only [List.length_drop, List.length_take]; rfl)) ?_; (with_reducible refine (impl_joined.calls k _ _ l0 1 t708 t709 _ ?side1 ?side2 A4.out).mono ?_); (case side1 => repeat (first | exact (Kd.V_reads' HO0.out).2.2 | (with_reducible refine Kd.C_alloc ?_ _) | (with_reducible refine Kd.C_drewN ?_ _) | (with_reducible refine Kd.C_drew ?_))); (case side2 => exact (Kd.V_reads' HO0.out).2.1); rintro e w7 ⟨v710, rfl, ho0, hb⟩; refine ⟨_, rfl, ?_⟩; have n0_ := amk (Kd.V_elder' (by (with_reducible repeat (first | apply Kd.V_alloc | apply Kd.V_drewN | apply Kd.V_drew)); exact HO0.out) (by first | exact Kd.N_base ho0 | exact Kd.S_base ho0 | exact Kd.R_base ho0) hb); have n1_ := amk (Kd.N_lower (Kd.N_mono (ok' := fun k_ => (P0_ k_ ∨ w.heap.size ≤ k_)) (Kd.S_N (Kd.S_bound ho0)) (fun k_ hk_ => (.inr (Nat.le_trans (below_size (by repeat (first | (with_reducible first | exact HB.out | apply ba_ | apply bn_ | apply bd_) | exact HB.out))) hk_.2.1)))) (below_size (by repeat (first | (with_reducible first | exact HB.out | apply ba_ | apply bn_ | apply bd_) | exact HB.out)))); have n2_ := amk (bp_ (by repeat (first | (with_reducible first | exact HB.out | apply ba_ | apply bn_ | apply bd_) | exact HB.out)) hb); clear HO0; clear HB; have HO0 := n0_; have HO711 := n1_; have HB := n2_; clear n0_ n1_ n2_; (try clear hb); (try clear hb2); (try clear hk); (try clear hi); (try clear ho0); obtain ⟨Ao8, co8, eo8⟩ := Kd.N_slice HO711.out; subst eo8) | ((with_reducible refine gate_callee (f := 92) rfl ?_); refine goesL_ (some 15) rfl rfl Try.func92 (by kernel_rfl) rfl #[.agg #[.int .i64 t708, .slice Ao8 t709.length co8]] rfl (by (try simp only [List.map_toArray, List.map_cons, List.map_nil]); first | done | rfl | (simp only [List.length_drop, List.length_take]; rfl)) ?_; (with_reducible refine (impl_Pins_keys.calls k t708 _ _ t709 t712 _ ?side1 ?side2 A5.out).mono ?_); (case side1 => repeat (first | exact (Kd.N_reads' HO711.out).2.2 | (with_reducible refine Kd.C_alloc ?_ _) | (with_reducible refine Kd.C_drewN ?_ _) | (with_reducible refine Kd.C_drew ?_))); (case side2 => exact (Kd.N_reads' HO711.out).2.1); rintro e w9 ⟨rfl, hb⟩; refine ⟨_, rfl, ?_⟩; have n0_ := amk (Kd.V_below (by (with_reducible repeat (first | apply Kd.V_alloc | apply Kd.V_drewN | apply Kd.V_drew)); exact HO0.out) hb); have n1_ := amk (Kd.N_below (by (with_reducible repeat (first | apply Kd.N_alloc | apply Kd.N_drewN | apply Kd.N_drew)); exact HO711.out) hb); have n2_ := amk (bp_ (by repeat (first | (with_reducible first | exact HB.out | apply ba_ | apply bn_ | apply bd_) | exact HB.out)) hb); clear HO0; clear HO711; clear HB; have HO0 := n0_; have HO711 := n1_; have HB := n2_; clear n0_ n1_ n2_; (try clear hb); (try clear hb2); (try clear hk); (try clear hi)))
    go_loopg [4, 5] k (fun kq v4 v5 w' => ∃ (x4_1 : Int) (x5_1 : Int), v4 = .int .i64 x4_1 ∧ v5 = .int .i64 x5_1 ∧ Aside0 (impl_GhostKeys.l0 kq l0 x4_1 x5_1 = some (r1, r2)) ∧ Aside0 (kq ≤ k) ∧ Aside0 (Kd.V k41 41 w' w.heap.size (fun k_ => (P0_ k_ ∨ w.heap.size ≤ k_)) (.slice A0 l0.length c0) l0) ∧ Aside0 (Below w.heap.size w w'))
    case atStart => exact ⟨(t712), (1), (by first | rfl | (simp; done) | (simp [*]; done)), (by first | rfl | (simp; done) | (simp [*]; done)), H', ⟨Nat.le_refl _⟩, ⟨by (with_reducible repeat (first | apply Kd.V_alloc | apply Kd.V_drewN | apply Kd.V_drew)); exact Kd.V_mono HO0.out (fun _ hk => hk.1)⟩, ⟨by repeat (first | (with_reducible first | exact HB.out | apply ba_ | apply bn_ | apply bd_) | exact HB.out)⟩⟩
    case round =>
      clear H'
      try clear c1; try clear p2; try clear c3; try clear c4; try clear c9
      obtain ⟨x4_1, x5_1, rfl, rfl, HA, HK1, HO_0, HB⟩ := hrel
      cases gk with
      | zero => exact absurd HA.out (by simp [impl_GhostKeys.l0])
      | succ k1 =>
        have H := HA.out
        clear HA
        simp only [impl_GhostKeys.l0] at H
        obtain ⟨ji10, hji10⟩ : ∃ j_ : Int, (shl .i64 1 (l0.length : Int)) = j_ := ⟨_, rfl⟩
        replace H : (if x5_1 < (ji10) then (impl_GhostKeys.l1 k1 l0 x4_1 x5_1 (([] : List (S41))) l0 (l0.length : Int) 0) else (some (x4_1, true))) = some (r1, r2) := by first | (rw [hji10] at H; exact H) | (simp only [hji10] at H ⊢; exact H)
        have hji10_ : (IntKind.i64.wrap (1 * 2 ^ min (l0.length : Int).toNat 64)) = ji10 := hji10
        have hji10z : (l0.length : Int) ≤ 64 → (IntKind.i64.wrap (1 * 2 ^ (l0.length : Int).toNat)) = ji10 := shl_small hji10
        have hji10p : (IntKind.i64.wrap (1 * 2 ^ min l0.length 64)) = ji10 := hji10_
        have hji10q : (l0.length : Int) ≤ 64 → (IntKind.i64.wrap (1 * 2 ^ l0.length)) = ji10 := hji10z
        have hji10r : (IntKind.i64.wrap (2 ^ min l0.length 64)) = ji10 := by have h_ := hji10p; rw [Int.one_mul] at h_; exact h_
        have hji10s : (l0.length : Int) ≤ 64 → (IntKind.i64.wrap (2 ^ l0.length)) = ji10 := fun hle_ => by have h_ := hji10q hle_; rw [Int.one_mul] at h_; exact h_
        have hji10u : (IntKind.i64.wrap (2 ^ min (l0.length : Int).toNat 64)) = ji10 := by have h_ := hji10_; rw [Int.one_mul] at h_; exact h_
        have hji10v : (l0.length : Int) ≤ 64 → (IntKind.i64.wrap (2 ^ (l0.length : Int).toNat)) = ji10 := fun hle_ => by have h_ := hji10z hle_; rw [Int.one_mul] at h_; exact h_
        have hji10y : (wrap64 (1 * 2 ^ min (l0.length : Int).toNat 64)) = ji10 := (i64_w _).symm.trans hji10_
        have hji10x : (l0.length : Int) ≤ 64 → (wrap64 (1 * 2 ^ (l0.length : Int).toNat)) = ji10 := fun h_ => (i64_w _).symm.trans (hji10z h_)
        by_cases c11 : x5_1 < (ji10)
        · rw [if_pos c11] at H
          have c11b0 : decide (x5_1 < (ji10)) = true := decide_eq_true c11
          clear c11
          obtain ⟨y713, hy713⟩ : ∃ y_ : List (S41), y_ = (([] : List (S41))) := ⟨_, rfl⟩
          replace H : (impl_GhostKeys.l1 k1 l0 x4_1 x5_1 y713 l0 (l0.length : Int) 0) = some (r1, r2) := by first | (rw [hy713]; with_reducible exact H) | (have H2_ := (Option.bind_some _ _).symm.trans H; rw [hy713]; with_reducible exact H2_) | (have H2_ := (Option.bind_some _ _).symm.trans H; with_reducible exact H2_) | with_reducible exact H | (rw [hy713]; exact H) | exact H
          have Ny713 := amk hy713
          clear hy713
          have H' := amk H
          clear H
          go_wp2_with (first | ((with_reducible refine gate_dst (N := 23) rfl ?_); refine Kd.N_lit k41 _ 41 ?hg (N' := 23) ?hd (xs := ([] : List (S41))) (inner := []) (ok := (fun k_ => (P0_ k_ ∨ w.heap.size ≤ k_))) (okp := (fun k_ => (P0_ k_ ∨ w.heap.size ≤ k_))) ?hr ?hp (fun _ hk => hk) ((show ∀ k_, wr.heap.size ≤ k_ → (fun k_ => (P0_ k_ ∨ w.heap.size ≤ k_)) k_ from fun k_ hk => (.inr (Nat.le_trans (below_size (by repeat (first | (with_reducible first | exact HB.out | apply ba_ | apply bn_ | apply bd_) | exact HB.out))) hk))) _ (Nat.le_refl _)) (Below.refl _ _) (Nat.le_refl _) (by simp) ?_; (case hd => rfl); (case hg => rfl); (case hr => first | (go_simp; done) | (go_simp; rfl)); (case hp => exact (Reps.none _ _)); intro v714 w12 ho13 hb hg_ hnew_; clear hg_ hnew_; (first | rw [← Ny713.out] at ho13 | (simp only [Int.reduceToNat] at ho13; rw [← Ny713.out] at ho13)); have n0_ := amk (Kd.V_elder' (by (with_reducible repeat (first | apply Kd.V_alloc | apply Kd.V_drewN | apply Kd.V_drew)); exact HO_0.out) (by first | exact Kd.N_base ho13 | exact Kd.S_base ho13 | exact Kd.R_base ho13) hb); have n1_ := amk (Kd.N_lower ho13 (below_size (by repeat (first | (with_reducible first | exact HB.out | apply ba_ | apply bn_ | apply bd_) | exact HB.out)))); have n2_ := amk (bp_ (by repeat (first | (with_reducible first | exact HB.out | apply ba_ | apply bn_ | apply bd_) | exact HB.out)) hb); clear HO_0; clear HB; have HO_0 := n0_; have HO715 := n1_; have HB := n2_; clear n0_ n1_ n2_; clear hb ho13))
          go_loopg [6, 26] k1 (fun kq v6 v26 w' => ∃ (x6_2 : List (S41)) (x26_2 : Int), v26 = .int .i64 x26_2 ∧ Aside0 (impl_GhostKeys.l1 kq l0 x4_1 x5_1 x6_2 l0 (l0.length : Int) x26_2 = some (r1, r2)) ∧ Aside0 (kq ≤ k1) ∧ Aside0 (Kd.V k41 41 w' w.heap.size (fun k_ => (P0_ k_ ∨ w.heap.size ≤ k_) ∧ some k_ ≠ (v6 : Value).ownBlock) (.slice A0 l0.length c0) l0) ∧ Aside0 (Kd.N k41 41 w' w.heap.size (fun k_ => (P0_ k_ ∨ w.heap.size ≤ k_)) v6 x6_2) ∧ Aside0 (Kd.V k41 41 w' w.heap.size (fun k_ => (P0_ k_ ∨ w.heap.size ≤ k_) ∧ some k_ ≠ (v6 : Value).ownBlock) (.slice A0 l0.length c0) l0) ∧ Aside0 (Below w.heap.size w w'))
          case atStart => exact ⟨(y713), (0), (by first | rfl | (simp; done) | (simp [*]; done)), H', ⟨Nat.le_refl _⟩, ⟨by (with_reducible repeat (first | apply Kd.V_alloc | apply Kd.V_drewN | apply Kd.V_drew)); exact HO_0.out⟩, ⟨by (with_reducible repeat (first | apply Kd.N_alloc | apply Kd.N_drewN | apply Kd.N_drew)); exact HO715.out⟩, ⟨by (with_reducible repeat (first | apply Kd.V_alloc | apply Kd.V_drewN | apply Kd.V_drew)); exact HO_0.out⟩, ⟨by repeat (first | (with_reducible first | exact HB.out | apply ba_ | apply bn_ | apply bd_) | exact HB.out)⟩⟩
          case round =>
            clear H'
            try clear c1; try clear p2; try clear c3; try clear c4; try clear p6; try clear c9; try clear c10; try clear c11; try clear c11b0; try clear p2
            obtain ⟨x6_2, x26_2, rfl, HA, HK2, HO_0, HO_6, HO_24, HB⟩ := hrel
            cases gk with
            | zero => exact absurd HA.out (by simp [impl_GhostKeys.l1])
            | succ k2 =>
              have H := HA.out
              clear HA
              simp only [impl_GhostKeys.l1] at H
              by_cases c14 : x26_2 < (l0.length : Int)
              · rw [if_pos c14] at H
                have c14b0 : decide (x26_2 < (l0.length : Int)) = true := decide_eq_true c14
                clear c14
                by_cases c15 : 0 ≤ x26_2
                · rw [if_pos c15] at H
                  have c15b0 : decide (0 ≤ x26_2) = true := decide_eq_true c15
                  clear c15
                  by_cases c16 : x26_2 < (l0.length : Int)
                  · rw [if_pos c16] at H
                    have c16b0 : decide (x26_2 < (l0.length : Int)) = true := decide_eq_true c16
                    clear c16
                    have c17b0 := eq_true (of_decide_eq_true (by first | (with_reducible assumption) | assumption) : 0 ≤ x26_2)
                    obtain ⟨ji18, hji18⟩ : ∃ j_ : Int, (shr .i64 x5_1 x26_2) = j_ := ⟨_, rfl⟩
                    replace H : (if (Go.bits .and .i64 (ji18) 1) = 1 then (if x6_2.length < 4398046511104 then (impl_GhostKeys.l1 k2 l0 x4_1 x5_1 (x6_2 ++ [(⟨(rd_T41 l0 x26_2).f0, (rd_T41 l0 x26_2).f1⟩ : S41)]) l0 (l0.length : Int) (wrap64 (x26_2 + 1))) else (none)) else (impl_GhostKeys.l1 k2 l0 x4_1 x5_1 x6_2 l0 (l0.length : Int) (wrap64 (x26_2 + 1)))) = some (r1, r2) := by first | (rw [hji18] at H; exact H) | (simp only [hji18] at H ⊢; exact H)
                    have hji18_ : (x5_1 / 2 ^ min x26_2.toNat 64) = ji18 := hji18
                    have hji18z : x26_2 ≤ 64 → (x5_1 / 2 ^ x26_2.toNat) = ji18 := shr_small hji18
                    by_cases c19 : (Go.bits .and .i64 (ji18) 1) = 1
                    · rw [if_pos c19] at H
                      have c19b0 : ((Go.bits .and .i64 (ji18) 1) == 1) = true := beq_iff_eq.mpr c19
                      have c19b1 : ((Go.bits .and .i64 (ji18) 1) != 1) = false := bne_eq_false_iff_eq.mpr c19
                      clear c19
                      by_cases c20 : x6_2.length < 4398046511104
                      · rw [if_pos c20] at H
                        have LMc20 := amk c20
                        clear c20
                        obtain ⟨y718, hy718⟩ : ∃ y_ : List (S41), y_ = (x6_2 ++ [(⟨(rd_T41 l0 x26_2).f0, (rd_T41 l0 x26_2).f1⟩ : S41)]) := ⟨_, rfl⟩
                        replace H : (impl_GhostKeys.l1 k2 l0 x4_1 x5_1 y718 l0 (l0.length : Int) (wrap64 (x26_2 + 1))) = some (r1, r2) := by first | (rw [hy718]; with_reducible exact H) | (have H2_ := (Option.bind_some _ _).symm.trans H; rw [hy718]; with_reducible exact H2_) | (have H2_ := (Option.bind_some _ _).symm.trans H; with_reducible exact H2_) | with_reducible exact H | (rw [hy718]; exact H) | exact H
                        have Ny718 := amk hy718
                        clear hy718
                        have H' := amk H
                        clear H
                        have p716 : 0 ≤ (x26_2 : Int) := of_decide_eq_true (by first | (with_reducible assumption) | assumption)
                        have q716 : x26_2 < (l0.length : Int) := of_decide_eq_true (by first | (with_reducible assumption) | assumption)
                        obtain ⟨ad716, A716_1, c716_1, e716, hx716_0, hx716_1, hl716_1, hi716_1⟩ := at_T41 (Kd.V_reads' HO_24.out).2.2 x26_2 p716 q716
                        cases e716
                        obtain ⟨ce716, hce716, hMe716, hcc716⟩ := Kd.V_get HO_24.out z41 x26_2 p716 (by first | exact q716 | exact of_decide_eq_true (by first | (with_reducible assumption) | assumption) | (have e_ := (Kd.V_reads' HO_24.out).1; omega))
                        obtain ⟨ua716_1, uc716_1, rfl, ul716_1, ge716_1⟩ := k41_openF hMe716
                        have hv716_1 := hcc716 1 _ rfl
                        rw [add_field _ _ 1 (by omega)] at hv716_1
                        replace hv716_1 := Option.some.inj (hv716_1.symm.trans hx716_1)
                        injection hv716_1 with hva_ hvn_ hvc_
                        rw [hva_] at ge716_1
                        rw [hvc_] at ul716_1
                        have HL716_1 := amk (show Kd.V (Kd.slice 3 (Kd.int .i64)) 86 _ w.heap.size _ _ ((rd_T41 l0 x26_2).f1) from Kd.V_mk ul716_1 ge716_1)
                        clear hva_ hvn_ hvc_ ge716_1 ul716_1
                        clear hcc716 hce716
                        have HR716_1 := amk hi716_1
                        have HC716_1 := amk hl716_1
                        clear hi716_1 hl716_1
                        replace p716 := eq_true p716
                        replace q716 := eq_true q716
                        go_wp2_with (first | ((with_reducible refine gate_dst (N := 8) rfl ?_); refine box_event ?hg (N := 8) ?hd (cs := #[.int .i64 0, .slice none 0 0]) (t := 41) ?hr ?_; (case hd => rfl); (case hg => rfl); (case hr => first | (go_simp; done) | (go_simp; rfl)); intro gb717 hg w21 hbox hb; have n0_ := amk (Kd.V_below (Kd.V_elderB (by (with_reducible repeat (first | apply Kd.V_alloc | apply Kd.V_drewN | apply Kd.V_drew)); exact HO_0.out) gb717 (Nat.le_of_eq hg.symm)) hb); have n1_ := amk (Kd.N_below (Kd.N_elderB (by (with_reducible repeat (first | apply Kd.N_alloc | apply Kd.N_drewN | apply Kd.N_drew)); exact HO_6.out) gb717 (Nat.le_of_eq hg.symm)) hb); have n2_ := amk (Kd.V_below (Kd.V_elderB (by (with_reducible repeat (first | apply Kd.V_alloc | apply Kd.V_drewN | apply Kd.V_drew)); exact HO_24.out) gb717 (Nat.le_of_eq hg.symm)) hb); have n3_ := amk (Kd.V_below (Kd.V_elderB (by (with_reducible repeat (first | apply Kd.V_alloc | apply Kd.V_drewN | apply Kd.V_drew)); exact HL716_1.out) gb717 (Nat.le_of_eq hg.symm)) hb); have n4_ := amk (Kd.C_below (by repeat (first | (with_reducible exact HR716_1.out) | (with_reducible refine Kd.C_alloc ?_ _) | (with_reducible refine Kd.C_drewN ?_ _) | (with_reducible refine Kd.C_drew ?_) | exact HR716_1.out)) hb); have n5_ := amk (bp_ (by repeat (first | (with_reducible first | exact HB.out | apply ba_ | apply bn_ | apply bd_) | exact HB.out)) hb); have n6_ := amk (hbox); have n7_ := amk ((by rw [hg]; exact (below_size (by repeat (first | (with_reducible first | exact HB.out | apply ba_ | apply bn_ | apply bd_) | exact HB.out))) : w.heap.size ≤ gb717)); have n8_ := amk ((by rw [hg]; exact (below_size (by repeat (first | (with_reducible first | exact HB.out | apply ba_ | apply bn_ | apply bd_) | exact HB.out))) : w.heap.size ≤ gb717)); clear HO_0; clear HO_6; clear HO_24; clear HL716_1; clear HR716_1; clear HB; have HO_0 := n0_; have HO_6 := n1_; have HO_24 := n2_; have HL716_1 := n3_; have HR716_1 := n4_; have HB := n5_; have BK717 := n6_; have GW717 := n7_; have GE717 := n8_; clear n0_ n1_ n2_ n3_ n4_ n5_ n6_ n7_ n8_; clear hb hbox hg; have hcz22_0 : w21.cell? ⟨gb717, 0, none⟩ = some (.int .i64 0) := (blk_cell BK717.out 0).trans rfl; have hcz22_1 : w21.cell? ⟨gb717, 1, none⟩ = some (.slice none 0 0) := (blk_cell BK717.out 1).trans rfl; have hfz22_0 := blk_frozen BK717.out 0; have hfz22_1 := blk_frozen BK717.out 1) | ((with_reducible refine gate_store (t := 41) (p := 8) rfl ?_); refine store_event (t := 41) (p := 8) (v := ?vo_w23) (w1 := ((w21.setCell ⟨gb717, 0, none⟩ (.int .i64 ((rd_T41 l0 x26_2).f0))).setCell ⟨gb717, 1, none⟩ (.slice A716_1 ((rd_T41 l0 x26_2).f1).length c716_1))) ?hg ?ho ?hn ?hr ?_; (case ho => rfl); (case hg => rfl); (case hn => rfl); (case hr => first | (go_simp; done) | (go_simp; rfl)); intro w23 hw; have n0_ : Aside0 (Kd.V k41 41 w23 w.heap.size (fun k_ => (P0_ k_ ∨ w.heap.size ≤ k_) ∧ some k_ ≠ (u6 : Value).ownBlock ∧ k_ ≠ gb717) (.slice (some ad716) l0.length c0) l0) := ⟨(by rw [hw]; exact (by (with_reducible repeat (first | apply Kd.V_alloc | apply Kd.V_drewN | apply Kd.V_drew)); exact Kd.V_mono (Kd.V_far (p := ⟨gb717, 1, none⟩) (Kd.V_far (p := ⟨gb717, 0, none⟩) (Kd.V_mono HO_0.out (fun k_ hk => (⟨hk, hk.2⟩ : _ ∧ k_ ≠ gb717))) (fun _ hk => hk.2) (.int .i64 ((rd_T41 l0 x26_2).f0))) (fun _ hk => hk.2) (.slice A716_1 ((rd_T41 l0 x26_2).f1).length c716_1)) (fun _ hk => ⟨hk.1.1.1, ⟨hk.1.1.2, hk.1.2⟩⟩)))⟩; have n1_ : Aside0 (Kd.N k41 41 w23 w.heap.size (fun k_ => (P0_ k_ ∨ w.heap.size ≤ k_) ∧ k_ ≠ gb717) u6 x6_2) := ⟨(by rw [hw]; exact (by (with_reducible repeat (first | apply Kd.N_alloc | apply Kd.N_drewN | apply Kd.N_drew)); exact Kd.N_mono (Kd.N_far (p := ⟨gb717, 1, none⟩) (Kd.N_far (p := ⟨gb717, 0, none⟩) (Kd.N_mono HO_6.out (fun k_ hk => (⟨hk, hk.2⟩ : _ ∧ k_ ≠ gb717))) (fun _ hk => hk.2) (.int .i64 ((rd_T41 l0 x26_2).f0))) (fun _ hk => hk.2) (.slice A716_1 ((rd_T41 l0 x26_2).f1).length c716_1)) (fun _ hk => ⟨hk.1.1, hk.1.2⟩)))⟩; have n2_ : Aside0 (Kd.V k41 41 w23 w.heap.size (fun k_ => (P0_ k_ ∨ w.heap.size ≤ k_) ∧ some k_ ≠ (u6 : Value).ownBlock ∧ k_ ≠ gb717) (.slice (some ad716) l0.length c0) l0) := ⟨(by rw [hw]; exact (by (with_reducible repeat (first | apply Kd.V_alloc | apply Kd.V_drewN | apply Kd.V_drew)); exact Kd.V_mono (Kd.V_far (p := ⟨gb717, 1, none⟩) (Kd.V_far (p := ⟨gb717, 0, none⟩) (Kd.V_mono HO_24.out (fun k_ hk => (⟨hk, hk.2⟩ : _ ∧ k_ ≠ gb717))) (fun _ hk => hk.2) (.int .i64 ((rd_T41 l0 x26_2).f0))) (fun _ hk => hk.2) (.slice A716_1 ((rd_T41 l0 x26_2).f1).length c716_1)) (fun _ hk => ⟨hk.1.1.1, ⟨hk.1.1.2, hk.1.2⟩⟩)))⟩; have n3_ : Aside0 (Kd.V (Kd.slice 3 (Kd.int .i64)) 86 w23 w.heap.size (fun k_ => (P0_ k_ ∨ w.heap.size ≤ k_) ∧ some k_ ≠ (u6 : Value).ownBlock ∧ k_ ≠ gb717) (.slice A716_1 ((rd_T41 l0 x26_2).f1).length c716_1) ((rd_T41 l0 x26_2).f1)) := ⟨(by rw [hw]; exact (by (with_reducible repeat (first | apply Kd.V_alloc | apply Kd.V_drewN | apply Kd.V_drew)); exact Kd.V_mono (Kd.V_far (p := ⟨gb717, 1, none⟩) (Kd.V_far (p := ⟨gb717, 0, none⟩) (Kd.V_mono HL716_1.out (fun k_ hk => (⟨hk, hk.2⟩ : _ ∧ k_ ≠ gb717))) (fun _ hk => hk.2) (.int .i64 ((rd_T41 l0 x26_2).f0))) (fun _ hk => hk.2) (.slice A716_1 ((rd_T41 l0 x26_2).f1).length c716_1)) (fun _ hk => ⟨hk.1.1.1, ⟨hk.1.1.2, hk.1.2⟩⟩)))⟩; have n4_ : Aside0 (w23.heap[gb717]? = some (.cells #[.int .i64 ((rd_T41 l0 x26_2).f0), .slice A716_1 ((rd_T41 l0 x26_2).f1).length c716_1] 41 (0, 0))) := ⟨(by rw [hw]; exact (by (with_reducible repeat (first | refine kn_ ?_ _ | refine blk_drew ?_ | refine ka_ ?_ _)); refine blk_put (cs := #[.int .i64 ((rd_T41 l0 x26_2).f0), .slice none 0 0]) ?_ 1 _ rfl; (with_reducible repeat (first | refine kn_ ?_ _ | refine blk_drew ?_ | refine ka_ ?_ _)); refine blk_put (cs := #[.int .i64 0, .slice none 0 0]) ?_ 0 _ rfl; (with_reducible repeat (first | refine kn_ ?_ _ | refine blk_drew ?_ | refine ka_ ?_ _)); exact BK717.out))⟩; have n5_ : Aside0 (Below w.heap.size w w23) := ⟨(by rw [hw]; exact (by repeat (first | (with_reducible first | exact HB.out | apply ba_ | apply bn_ | apply bd_ | refine bs_ ?_ GE717.out) | exact HB.out)))⟩; clear hw; clear HO_0; clear HO_6; clear HO_24; clear HL716_1; clear BK717; clear HB; have HO_0 := n0_; have HO_6 := n1_; have HO_24 := n2_; have HL716_1 := n3_; have BK717 := n4_; have HB := n5_; clear n0_ n1_ n2_ n3_ n4_ n5_; have hcz24_0 : w23.cell? ⟨gb717, 0, none⟩ = some (.int .i64 ((rd_T41 l0 x26_2).f0)) := (blk_cell BK717.out 0).trans rfl; have hcz24_1 : w23.cell? ⟨gb717, 1, none⟩ = some (.slice A716_1 ((rd_T41 l0 x26_2).f1).length c716_1) := (blk_cell BK717.out 1).trans rfl; have hfz24_0 := blk_frozen BK717.out 0; have hfz24_1 := blk_frozen BK717.out 1) | ((with_reducible refine gate_builtin (b := .append) (xs := #[.tmp 36, .tmp 38]) rfl ?_); at_builtin; refine Kd.N_append k41 (w0 := w) w.heap.size rfl (.tmp 36) (.tmp 38) 57 41 (.agg #[(.int .i64 0), (.slice none 0 0)]) 32 rfl Try.underlying57 info41 rfl (by decide) (by omega) u6 x6_2 (⟨(rd_T41 l0 x26_2).f0, (rd_T41 l0 x26_2).f1⟩ : S41) [.int .i64 ((rd_T41 l0 x26_2).f0), .slice A716_1 ((rd_T41 l0 x26_2).f1).length c716_1] (fun k_ => (P0_ k_ ∨ w.heap.size ≤ k_) ∧ k_ ≠ gb717) (fun k_ => ((fun k_ => (P0_ k_ ∨ w.heap.size ≤ k_) ∧ k_ ≠ gb717)) k_ ∧ some k_ ≠ (u6 : Value).ownBlock) rfl rfl ?aP (fun _ hk => hk) ?aF ?aO ?aB ?aS ?aL ?_; (case aP => exact (k41_mkF _ _ (⟨(rd_T41 l0 x26_2).f0, (rd_T41 l0 x26_2).f1⟩ : S41) (Kd.V_reads' (Kd.V_mono (ok' := (fun k_ => ((fun k_ => (P0_ k_ ∨ w.heap.size ≤ k_) ∧ k_ ≠ gb717)) k_ ∧ some k_ ≠ (u6 : Value).ownBlock)) (HL716_1.out) (fun k_ hk => ⟨⟨hk.1, hk.2.2⟩, hk.2.1⟩))).2.1 (Kd.V_F (Kd.V_mono (ok' := (fun k_ => ((fun k_ => (P0_ k_ ∨ w.heap.size ≤ k_) ∧ k_ ≠ gb717)) k_ ∧ some k_ ≠ (u6 : Value).ownBlock)) (HL716_1.out) (fun k_ hk => ⟨⟨hk.1, hk.2.2⟩, hk.2.1⟩))))); (case aB => exact (by repeat (first | (with_reducible first | exact HB.out | apply ba_ | apply bn_ | apply bd_ | refine bs_ ?_ GE717.out) | exact HB.out))); (case aF => exact (fun k_ hk => ⟨(.inr (Nat.le_trans (below_size (by repeat (first | (with_reducible first | exact HB.out | apply ba_ | apply bn_ | apply bd_ | refine bs_ ?_ GE717.out) | exact HB.out))) hk)), Kd.freshB (g := gb717) (o := .cells #[.int .i64 ((rd_T41 l0 x26_2).f0), .slice A716_1 ((rd_T41 l0 x26_2).f1).length c716_1] 41 (0, 0)) (by (with_reducible repeat (first | refine kn_ ?_ _ | refine blk_drew ?_ | refine ka_ ?_ _)); exact BK717.out) k_ hk⟩)); (case aO => exact (by (with_reducible repeat (first | apply Kd.N_alloc | apply Kd.N_drewN | apply Kd.N_drew)); exact HO_6.out)); (case aS => exact (below_size (by repeat (first | (with_reducible first | exact HB.out | apply ba_ | apply bn_ | apply bd_ | refine bs_ ?_ GE717.out) | exact HB.out)))); (case aL => have := LMc20.out; omega); intro v719 w25 ho hb hg hat; rw [← Ny718.out] at ho; have n0_ := amk (Kd.V_afterv (ok := (fun k_ => (P0_ k_ ∨ w.heap.size ≤ k_) ∧ k_ ≠ gb717)) (by (with_reducible repeat (first | apply Kd.V_alloc | apply Kd.V_drewN | apply Kd.V_drew)); exact Kd.V_mono HO_0.out (fun _ hk => ⟨⟨hk.1, hk.2.2⟩, hk.2.1⟩)) hg hat); have n1_ := amk (Kd.V_afterv (ok := (fun k_ => (P0_ k_ ∨ w.heap.size ≤ k_) ∧ k_ ≠ gb717)) (by (with_reducible repeat (first | apply Kd.V_alloc | apply Kd.V_drewN | apply Kd.V_drew)); exact Kd.V_mono HO_24.out (fun _ hk => ⟨⟨hk.1, hk.2.2⟩, hk.2.1⟩)) hg hat); have n2_ := amk (Kd.V_afterv (ok := (fun k_ => (P0_ k_ ∨ w.heap.size ≤ k_) ∧ k_ ≠ gb717)) (by (with_reducible repeat (first | apply Kd.V_alloc | apply Kd.V_drewN | apply Kd.V_drew)); exact Kd.V_mono HL716_1.out (fun _ hk => ⟨⟨hk.1, hk.2.2⟩, hk.2.1⟩)) hg hat); have n3_ := amk (blk_grown (g := gb717) (o := .cells #[.int .i64 ((rd_T41 l0 x26_2).f0), .slice A716_1 ((rd_T41 l0 x26_2).f1).length c716_1] 41 (0, 0)) (by (with_reducible repeat (first | refine kn_ ?_ _ | refine blk_drew ?_ | refine ka_ ?_ _)); exact BK717.out) hg (Kd.N_away HO_6.out (fun _ hk => hk.2))); have n4_ := amk (hb); have n5_ := amk (ho); clear HO_0; clear HO_24; clear HL716_1; clear BK717; clear HB; clear HO_6; have HO_0 := n0_; have HO_24 := n1_; have HL716_1 := n2_; have BK717 := n3_; have HB := n4_; have HO720 := n5_; clear n0_ n1_ n2_ n3_ n4_ n5_; clear ho hb hg hat))
                        go_roundg k2
                        case measure => have := HK1.out; have := HK2.out; omega
                        case rel => exact ⟨(y718), (wrap64 (x26_2 + 1)), (by first | rfl | (simp; done) | (simp [*]; done)), H', ⟨by have := HK1.out; have := HK2.out; omega⟩, ⟨by (with_reducible repeat (first | apply Kd.V_alloc | apply Kd.V_drewN | apply Kd.V_drew)); exact Kd.V_mono HO_0.out (fun _ hk => ⟨hk.1.1, hk.2⟩)⟩, ⟨by (with_reducible repeat (first | apply Kd.N_alloc | apply Kd.N_drewN | apply Kd.N_drew)); exact Kd.N_mono HO720.out (fun _ hk => hk.1)⟩, ⟨by (with_reducible repeat (first | apply Kd.V_alloc | apply Kd.V_drewN | apply Kd.V_drew)); exact Kd.V_mono HO_24.out (fun _ hk => ⟨hk.1.1, hk.2⟩)⟩, ⟨by repeat (first | (with_reducible first | exact HB.out | apply ba_ | apply bn_ | apply bd_ | refine bs_ ?_ GE717.out) | exact HB.out)⟩⟩
                      · rw [if_neg c20] at H
                        exact absurd H (by simp)
                    · rw [if_neg c19] at H
                      have c19b0 : ((Go.bits .and .i64 (ji18) 1) == 1) = false := beq_eq_false_iff_ne.mpr c19
                      have c19b1 : ((Go.bits .and .i64 (ji18) 1) != 1) = true := bne_iff_ne.mpr c19
                      have H' := amk H
                      clear H
                      have p716 : 0 ≤ (x26_2 : Int) := of_decide_eq_true (by first | (with_reducible assumption) | assumption)
                      have q716 : x26_2 < (l0.length : Int) := of_decide_eq_true (by first | (with_reducible assumption) | assumption)
                      obtain ⟨ad716, A716_1, c716_1, e716, hx716_0, hx716_1, hl716_1, hi716_1⟩ := at_T41 (Kd.V_reads' HO_24.out).2.2 x26_2 p716 q716
                      cases e716
                      obtain ⟨ce716, hce716, hMe716, hcc716⟩ := Kd.V_get HO_24.out z41 x26_2 p716 (by first | exact q716 | exact of_decide_eq_true (by first | (with_reducible assumption) | assumption) | (have e_ := (Kd.V_reads' HO_24.out).1; omega))
                      obtain ⟨ua716_1, uc716_1, rfl, ul716_1, ge716_1⟩ := k41_openF hMe716
                      have hv716_1 := hcc716 1 _ rfl
                      rw [add_field _ _ 1 (by omega)] at hv716_1
                      replace hv716_1 := Option.some.inj (hv716_1.symm.trans hx716_1)
                      injection hv716_1 with hva_ hvn_ hvc_
                      rw [hva_] at ge716_1
                      rw [hvc_] at ul716_1
                      have HL716_1 := amk (show Kd.V (Kd.slice 3 (Kd.int .i64)) 86 _ w.heap.size _ _ ((rd_T41 l0 x26_2).f1) from Kd.V_mk ul716_1 ge716_1)
                      clear hva_ hvn_ hvc_ ge716_1 ul716_1
                      clear hcc716 hce716
                      have HR716_1 := amk hi716_1
                      have HC716_1 := amk hl716_1
                      clear hi716_1 hl716_1
                      replace p716 := eq_true p716
                      replace q716 := eq_true q716
                      go_wp2_with (first | ((with_reducible refine gate_dst (N := 8) rfl ?_); refine box_event ?hg (N := 8) ?hd (cs := #[.int .i64 0, .slice none 0 0]) (t := 41) ?hr ?_; (case hd => rfl); (case hg => rfl); (case hr => first | (go_simp; done) | (go_simp; rfl)); intro gb717 hg w26 hbox hb; have n0_ := amk (Kd.V_below (Kd.V_elderB (by (with_reducible repeat (first | apply Kd.V_alloc | apply Kd.V_drewN | apply Kd.V_drew)); exact HO_0.out) gb717 (Nat.le_of_eq hg.symm)) hb); have n1_ := amk (Kd.N_below (Kd.N_elderB (by (with_reducible repeat (first | apply Kd.N_alloc | apply Kd.N_drewN | apply Kd.N_drew)); exact HO_6.out) gb717 (Nat.le_of_eq hg.symm)) hb); have n2_ := amk (Kd.V_below (Kd.V_elderB (by (with_reducible repeat (first | apply Kd.V_alloc | apply Kd.V_drewN | apply Kd.V_drew)); exact HO_24.out) gb717 (Nat.le_of_eq hg.symm)) hb); have n3_ := amk (Kd.V_below (Kd.V_elderB (by (with_reducible repeat (first | apply Kd.V_alloc | apply Kd.V_drewN | apply Kd.V_drew)); exact HL716_1.out) gb717 (Nat.le_of_eq hg.symm)) hb); have n4_ := amk (Kd.C_below (by repeat (first | (with_reducible exact HR716_1.out) | (with_reducible refine Kd.C_alloc ?_ _) | (with_reducible refine Kd.C_drewN ?_ _) | (with_reducible refine Kd.C_drew ?_) | exact HR716_1.out)) hb); have n5_ := amk (bp_ (by repeat (first | (with_reducible first | exact HB.out | apply ba_ | apply bn_ | apply bd_) | exact HB.out)) hb); have n6_ := amk (hbox); have n7_ := amk ((by rw [hg]; exact (below_size (by repeat (first | (with_reducible first | exact HB.out | apply ba_ | apply bn_ | apply bd_) | exact HB.out))) : w.heap.size ≤ gb717)); have n8_ := amk ((by rw [hg]; exact (below_size (by repeat (first | (with_reducible first | exact HB.out | apply ba_ | apply bn_ | apply bd_) | exact HB.out))) : w.heap.size ≤ gb717)); clear HO_0; clear HO_6; clear HO_24; clear HL716_1; clear HR716_1; clear HB; have HO_0 := n0_; have HO_6 := n1_; have HO_24 := n2_; have HL716_1 := n3_; have HR716_1 := n4_; have HB := n5_; have BK717 := n6_; have GW717 := n7_; have GE717 := n8_; clear n0_ n1_ n2_ n3_ n4_ n5_ n6_ n7_ n8_; clear hb hbox hg; have hcz27_0 : w26.cell? ⟨gb717, 0, none⟩ = some (.int .i64 0) := (blk_cell BK717.out 0).trans rfl; have hcz27_1 : w26.cell? ⟨gb717, 1, none⟩ = some (.slice none 0 0) := (blk_cell BK717.out 1).trans rfl; have hfz27_0 := blk_frozen BK717.out 0; have hfz27_1 := blk_frozen BK717.out 1))
                      go_roundg k2
                      case measure => have := HK1.out; have := HK2.out; omega
                      case rel => exact ⟨(x6_2), (wrap64 (x26_2 + 1)), (by first | rfl | (simp; done) | (simp [*]; done)), H', ⟨by have := HK1.out; have := HK2.out; omega⟩, ⟨by (with_reducible repeat (first | apply Kd.V_alloc | apply Kd.V_drewN | apply Kd.V_drew)); exact Kd.V_mono (Kd.V_far (p := ⟨gb717, 1, none⟩) (Kd.V_far (p := ⟨gb717, 0, none⟩) (Kd.V_mono HO_0.out (fun k_ hk => (⟨hk, hk.2⟩ : _ ∧ k_ ≠ gb717))) (fun _ hk => hk.2) (.int .i64 ((rd_T41 l0 x26_2).f0))) (fun _ hk => hk.2) (.slice A716_1 ((rd_T41 l0 x26_2).f1).length c716_1)) (fun _ hk => ⟨hk.1.1.1, hk.1.1.2⟩)⟩, ⟨by (with_reducible repeat (first | apply Kd.N_alloc | apply Kd.N_drewN | apply Kd.N_drew)); exact Kd.N_mono (Kd.N_far (p := ⟨gb717, 1, none⟩) (Kd.N_far (p := ⟨gb717, 0, none⟩) (Kd.N_mono HO_6.out (fun k_ hk => (⟨hk, hk.2⟩ : _ ∧ k_ ≠ gb717))) (fun _ hk => hk.2) (.int .i64 ((rd_T41 l0 x26_2).f0))) (fun _ hk => hk.2) (.slice A716_1 ((rd_T41 l0 x26_2).f1).length c716_1)) (fun _ hk => hk.1.1)⟩, ⟨by (with_reducible repeat (first | apply Kd.V_alloc | apply Kd.V_drewN | apply Kd.V_drew)); exact Kd.V_mono (Kd.V_far (p := ⟨gb717, 1, none⟩) (Kd.V_far (p := ⟨gb717, 0, none⟩) (Kd.V_mono HO_24.out (fun k_ hk => (⟨hk, hk.2⟩ : _ ∧ k_ ≠ gb717))) (fun _ hk => hk.2) (.int .i64 ((rd_T41 l0 x26_2).f0))) (fun _ hk => hk.2) (.slice A716_1 ((rd_T41 l0 x26_2).f1).length c716_1)) (fun _ hk => ⟨hk.1.1.1, hk.1.1.2⟩)⟩, ⟨by repeat (first | (with_reducible first | exact HB.out | apply ba_ | apply bn_ | apply bd_ | refine bs_ ?_ GE717.out) | exact HB.out)⟩⟩
                  · rw [if_neg c16] at H
                    exact absurd H (by simp)
                · rw [if_neg c15] at H
                  exact absurd H (by simp)
              · rw [if_neg c14] at H
                have c14b0 : decide (x26_2 < (l0.length : Int)) = false := decide_eq_false c14
                clear c14
                replace H := Option.bind_eq_some_iff.mp H
                obtain ⟨⟨t721, t722⟩, A280, H⟩ := H
                replace H : ((impl_Pins_keys.f k2 t721 t722).bind fun t725 => (if ((x6_2.length : Int) % 2) = 1 then (impl_GhostKeys.l0 k2 l0 (wrap64 (x4_1 - t725)) (wrap64 (x5_1 + 1))) else (impl_GhostKeys.l0 k2 l0 (wrap64 (x4_1 + t725)) (wrap64 (x5_1 + 1))))) = some (r1, r2) := H
                have A28 := amk A280
                clear A280
                replace H := Option.bind_eq_some_iff.mp H
                obtain ⟨t725, A290, H⟩ := H
                replace H : (if ((x6_2.length : Int) % 2) = 1 then (impl_GhostKeys.l0 k2 l0 (wrap64 (x4_1 - t725)) (wrap64 (x5_1 + 1))) else (impl_GhostKeys.l0 k2 l0 (wrap64 (x4_1 + t725)) (wrap64 (x5_1 + 1)))) = some (r1, r2) := H
                have A29 := amk A290
                clear A290
                by_cases c30 : ((x6_2.length : Int) % 2) = 1
                · rw [if_pos c30] at H
                  have c30b0 : (((x6_2.length : Int) % 2) == 1) = true := beq_iff_eq.mpr c30
                  have c30b1 : (((x6_2.length : Int) % 2) != 1) = false := bne_eq_false_iff_eq.mpr c30
                  clear c30
                  have H' := amk H
                  clear H
                  obtain ⟨Ao31, co31, eo31⟩ := Kd.N_slice HO_6.out
                  subst eo31
                  go_wp2_with (first | ((with_reducible refine gate_callee (f := 91) rfl ?_); refine goesL_ (some 42) rfl rfl Try.func91 (by kernel_rfl) rfl #[.slice Ao31 x6_2.length co31] rfl (by (try simp only [List.map_toArray, List.map_cons, List.map_nil]); first | done | rfl | (simp only [List.length_drop, List.length_take]; rfl)) ?_; (with_reducible refine (impl_shared.calls k2 _ _ x6_2 t721 t722 _ ?side1 ?side2 A28.out).mono ?_); (case side1 => repeat (first | exact (Kd.N_reads' HO_6.out).2.2 | (with_reducible refine Kd.C_alloc ?_ _) | (with_reducible refine Kd.C_drewN ?_ _) | (with_reducible refine Kd.C_drew ?_))); (case side2 => exact (Kd.N_reads' HO_6.out).2.1); rintro e w32 ⟨v723, rfl, ho0, hb⟩; refine ⟨_, rfl, ?_⟩; have n0_ := amk (Kd.V_elder' (by (with_reducible repeat (first | apply Kd.V_alloc | apply Kd.V_drewN | apply Kd.V_drew)); exact HO_0.out) (by first | exact Kd.N_base ho0 | exact Kd.S_base ho0 | exact Kd.R_base ho0) hb); have n1_ := amk (Kd.N_elder' (by (with_reducible repeat (first | apply Kd.N_alloc | apply Kd.N_drewN | apply Kd.N_drew)); exact HO_6.out) (by first | exact Kd.N_base ho0 | exact Kd.S_base ho0 | exact Kd.R_base ho0) hb); have n2_ := amk (Kd.V_elder' (by (with_reducible repeat (first | apply Kd.V_alloc | apply Kd.V_drewN | apply Kd.V_drew)); exact HO_24.out) (by first | exact Kd.N_base ho0 | exact Kd.S_base ho0 | exact Kd.R_base ho0) hb); have n3_ := amk (Kd.N_lower (Kd.N_mono (ok' := fun k_ => (P0_ k_ ∨ w.heap.size ≤ k_) ∧ some k_ ≠ (.slice Ao31 x6_2.length co31 : Value).ownBlock) (Kd.S_N (Kd.S_bound ho0)) (fun k_ hk_ => ⟨(.inr (Nat.le_trans (below_size (by repeat (first | (with_reducible first | exact HB.out | apply ba_ | apply bn_ | apply bd_) | exact HB.out))) hk_.2.1)), (Kd.fresh' (Kd.N_lt (by (with_reducible repeat (first | apply Kd.N_alloc | apply Kd.N_drewN | apply Kd.N_drew)); exact HO_6.out)) k_ hk_.2.1)⟩)) (below_size (by repeat (first | (with_reducible first | exact HB.out | apply ba_ | apply bn_ | apply bd_) | exact HB.out)))); have n4_ := amk (bp_ (by repeat (first | (with_reducible first | exact HB.out | apply ba_ | apply bn_ | apply bd_) | exact HB.out)) hb); clear HO_0; clear HO_6; clear HO_24; clear HB; have HO_0 := n0_; have HO_6 := n1_; have HO_24 := n2_; have HO724 := n3_; have HB := n4_; clear n0_ n1_ n2_ n3_ n4_; (try clear hb); (try clear hb2); (try clear hk); (try clear hi); (try clear ho0); obtain ⟨Ao33, co33, eo33⟩ := Kd.N_slice HO724.out; subst eo33) | ((with_reducible refine gate_callee (f := 92) rfl ?_); refine goesL_ (some 43) rfl rfl Try.func92 (by kernel_rfl) rfl #[.agg #[.int .i64 t721, .slice Ao33 t722.length co33]] rfl (by (try simp only [List.map_toArray, List.map_cons, List.map_nil]); first | done | rfl | (simp only [List.length_drop, List.length_take]; rfl)) ?_; (with_reducible refine (impl_Pins_keys.calls k2 t721 _ _ t722 t725 _ ?side1 ?side2 A29.out).mono ?_); (case side1 => repeat (first | exact (Kd.N_reads' HO724.out).2.2 | (with_reducible refine Kd.C_alloc ?_ _) | (with_reducible refine Kd.C_drewN ?_ _) | (with_reducible refine Kd.C_drew ?_))); (case side2 => exact (Kd.N_reads' HO724.out).2.1); rintro e w34 ⟨rfl, hb⟩; refine ⟨_, rfl, ?_⟩; have n0_ := amk (Kd.V_below (by (with_reducible repeat (first | apply Kd.V_alloc | apply Kd.V_drewN | apply Kd.V_drew)); exact HO_0.out) hb); have n1_ := amk (Kd.N_below (by (with_reducible repeat (first | apply Kd.N_alloc | apply Kd.N_drewN | apply Kd.N_drew)); exact HO_6.out) hb); have n2_ := amk (Kd.V_below (by (with_reducible repeat (first | apply Kd.V_alloc | apply Kd.V_drewN | apply Kd.V_drew)); exact HO_24.out) hb); have n3_ := amk (Kd.N_below (by (with_reducible repeat (first | apply Kd.N_alloc | apply Kd.N_drewN | apply Kd.N_drew)); exact HO724.out) hb); have n4_ := amk (bp_ (by repeat (first | (with_reducible first | exact HB.out | apply ba_ | apply bn_ | apply bd_) | exact HB.out)) hb); clear HO_0; clear HO_6; clear HO_24; clear HO724; clear HB; have HO_0 := n0_; have HO_6 := n1_; have HO_24 := n2_; have HO724 := n3_; have HB := n4_; clear n0_ n1_ n2_ n3_ n4_; (try clear hb); (try clear hb2); (try clear hk); (try clear hi)))
                  go_roundg k2
                  case measure => have := HK1.out; have := HK2.out; omega
                  case rel => exact ⟨(wrap64 (x4_1 - t725)), (wrap64 (x5_1 + 1)), (by first | rfl | (simp; done) | (simp [*]; done)), (by first | rfl | (simp; done) | (simp [*]; done)), H', ⟨by have := HK1.out; have := HK2.out; omega⟩, ⟨by (with_reducible repeat (first | apply Kd.V_alloc | apply Kd.V_drewN | apply Kd.V_drew)); exact Kd.V_mono HO_0.out (fun _ hk => hk.1.1)⟩, ⟨by repeat (first | (with_reducible first | exact HB.out | apply ba_ | apply bn_ | apply bd_) | exact HB.out)⟩⟩
                · rw [if_neg c30] at H
                  have c30b0 : (((x6_2.length : Int) % 2) == 1) = false := beq_eq_false_iff_ne.mpr c30
                  have c30b1 : (((x6_2.length : Int) % 2) != 1) = true := bne_iff_ne.mpr c30
                  have H' := amk H
                  clear H
                  obtain ⟨Ao35, co35, eo35⟩ := Kd.N_slice HO_6.out
                  subst eo35
                  go_wp2_with (first | ((with_reducible refine gate_callee (f := 91) rfl ?_); refine goesL_ (some 42) rfl rfl Try.func91 (by kernel_rfl) rfl #[.slice Ao35 x6_2.length co35] rfl (by (try simp only [List.map_toArray, List.map_cons, List.map_nil]); first | done | rfl | (simp only [List.length_drop, List.length_take]; rfl)) ?_; (with_reducible refine (impl_shared.calls k2 _ _ x6_2 t721 t722 _ ?side1 ?side2 A28.out).mono ?_); (case side1 => repeat (first | exact (Kd.N_reads' HO_6.out).2.2 | (with_reducible refine Kd.C_alloc ?_ _) | (with_reducible refine Kd.C_drewN ?_ _) | (with_reducible refine Kd.C_drew ?_))); (case side2 => exact (Kd.N_reads' HO_6.out).2.1); rintro e w36 ⟨v723, rfl, ho0, hb⟩; refine ⟨_, rfl, ?_⟩; have n0_ := amk (Kd.V_elder' (by (with_reducible repeat (first | apply Kd.V_alloc | apply Kd.V_drewN | apply Kd.V_drew)); exact HO_0.out) (by first | exact Kd.N_base ho0 | exact Kd.S_base ho0 | exact Kd.R_base ho0) hb); have n1_ := amk (Kd.N_elder' (by (with_reducible repeat (first | apply Kd.N_alloc | apply Kd.N_drewN | apply Kd.N_drew)); exact HO_6.out) (by first | exact Kd.N_base ho0 | exact Kd.S_base ho0 | exact Kd.R_base ho0) hb); have n2_ := amk (Kd.V_elder' (by (with_reducible repeat (first | apply Kd.V_alloc | apply Kd.V_drewN | apply Kd.V_drew)); exact HO_24.out) (by first | exact Kd.N_base ho0 | exact Kd.S_base ho0 | exact Kd.R_base ho0) hb); have n3_ := amk (Kd.N_lower (Kd.N_mono (ok' := fun k_ => (P0_ k_ ∨ w.heap.size ≤ k_) ∧ some k_ ≠ (.slice Ao35 x6_2.length co35 : Value).ownBlock) (Kd.S_N (Kd.S_bound ho0)) (fun k_ hk_ => ⟨(.inr (Nat.le_trans (below_size (by repeat (first | (with_reducible first | exact HB.out | apply ba_ | apply bn_ | apply bd_) | exact HB.out))) hk_.2.1)), (Kd.fresh' (Kd.N_lt (by (with_reducible repeat (first | apply Kd.N_alloc | apply Kd.N_drewN | apply Kd.N_drew)); exact HO_6.out)) k_ hk_.2.1)⟩)) (below_size (by repeat (first | (with_reducible first | exact HB.out | apply ba_ | apply bn_ | apply bd_) | exact HB.out)))); have n4_ := amk (bp_ (by repeat (first | (with_reducible first | exact HB.out | apply ba_ | apply bn_ | apply bd_) | exact HB.out)) hb); clear HO_0; clear HO_6; clear HO_24; clear HB; have HO_0 := n0_; have HO_6 := n1_; have HO_24 := n2_; have HO724 := n3_; have HB := n4_; clear n0_ n1_ n2_ n3_ n4_; (try clear hb); (try clear hb2); (try clear hk); (try clear hi); (try clear ho0); obtain ⟨Ao37, co37, eo37⟩ := Kd.N_slice HO724.out; subst eo37) | ((with_reducible refine gate_callee (f := 92) rfl ?_); refine goesL_ (some 43) rfl rfl Try.func92 (by kernel_rfl) rfl #[.agg #[.int .i64 t721, .slice Ao37 t722.length co37]] rfl (by (try simp only [List.map_toArray, List.map_cons, List.map_nil]); first | done | rfl | (simp only [List.length_drop, List.length_take]; rfl)) ?_; (with_reducible refine (impl_Pins_keys.calls k2 t721 _ _ t722 t725 _ ?side1 ?side2 A29.out).mono ?_); (case side1 => repeat (first | exact (Kd.N_reads' HO724.out).2.2 | (with_reducible refine Kd.C_alloc ?_ _) | (with_reducible refine Kd.C_drewN ?_ _) | (with_reducible refine Kd.C_drew ?_))); (case side2 => exact (Kd.N_reads' HO724.out).2.1); rintro e w38 ⟨rfl, hb⟩; refine ⟨_, rfl, ?_⟩; have n0_ := amk (Kd.V_below (by (with_reducible repeat (first | apply Kd.V_alloc | apply Kd.V_drewN | apply Kd.V_drew)); exact HO_0.out) hb); have n1_ := amk (Kd.N_below (by (with_reducible repeat (first | apply Kd.N_alloc | apply Kd.N_drewN | apply Kd.N_drew)); exact HO_6.out) hb); have n2_ := amk (Kd.V_below (by (with_reducible repeat (first | apply Kd.V_alloc | apply Kd.V_drewN | apply Kd.V_drew)); exact HO_24.out) hb); have n3_ := amk (Kd.N_below (by (with_reducible repeat (first | apply Kd.N_alloc | apply Kd.N_drewN | apply Kd.N_drew)); exact HO724.out) hb); have n4_ := amk (bp_ (by repeat (first | (with_reducible first | exact HB.out | apply ba_ | apply bn_ | apply bd_) | exact HB.out)) hb); clear HO_0; clear HO_6; clear HO_24; clear HO724; clear HB; have HO_0 := n0_; have HO_6 := n1_; have HO_24 := n2_; have HO724 := n3_; have HB := n4_; clear n0_ n1_ n2_ n3_ n4_; (try clear hb); (try clear hb2); (try clear hk); (try clear hi)))
                  go_roundg k2
                  case measure => have := HK1.out; have := HK2.out; omega
                  case rel => exact ⟨(wrap64 (x4_1 + t725)), (wrap64 (x5_1 + 1)), (by first | rfl | (simp; done) | (simp [*]; done)), (by first | rfl | (simp; done) | (simp [*]; done)), H', ⟨by have := HK1.out; have := HK2.out; omega⟩, ⟨by (with_reducible repeat (first | apply Kd.V_alloc | apply Kd.V_drewN | apply Kd.V_drew)); exact Kd.V_mono HO_0.out (fun _ hk => hk.1.1)⟩, ⟨by repeat (first | (with_reducible first | exact HB.out | apply ba_ | apply bn_ | apply bd_) | exact HB.out)⟩⟩
        · rw [if_neg c11] at H
          have c11b0 : decide (x5_1 < (ji10)) = false := decide_eq_false c11
          clear c11
          simp only [Option.some.injEq, Prod.mk.injEq] at H
          obtain ⟨rfl, rfl⟩ := H
          go_wp2
          go_ret2
          exact ⟨by first | rfl | (simp [errW_none, errW_some] <;> rfl) | (simp only [← hji10]; first | rfl | (simp [errW_none, errW_some] <;> rfl)) | (simp [*, errW_none, errW_some] <;> rfl), by repeat (first | (with_reducible first | exact HB.out | apply ba_ | apply bn_ | apply bd_) | exact HB.out)⟩
  · replace c3 := Bool.eq_false_iff.mpr c3
    subst c3
    have H1 : (some (0, false)) = some (r1, r2) := by rw [if_neg (show ¬ (false = true) by decide)] at H; exact H
    clear H
    have H := H1
    clear H1
    simp only [Option.some.injEq, Prod.mk.injEq] at H
    obtain ⟨rfl, rfl⟩ := H
    go_enter Try.func42, Try.ntmps42
    go_wp2_with (first | ((with_reducible refine gate_callee (f := 90) rfl ?_); refine goesL_ (some 11) rfl rfl Try.func90 (by kernel_rfl) rfl #[.slice A0 l0.length c0] rfl (by (try simp only [List.map_toArray, List.map_cons, List.map_nil]); first | done | rfl | (simp only [List.length_drop, List.length_take]; rfl)) ?_; (with_reducible refine (impl_ofKind.calls _ _ l0 false _ ?side1 ?side2 A2.out).mono ?_); (case side1 => repeat (first | exact (Kd.V_reads' HO0.out).2.2 | (with_reducible refine Kd.C_alloc ?_ _) | (with_reducible refine Kd.C_drewN ?_ _) | (with_reducible refine Kd.C_drew ?_))); (case side2 => exact (Kd.V_reads' HO0.out).2.1); rintro e w39 ⟨rfl, hb⟩; refine ⟨_, rfl, ?_⟩; have n0_ := amk (Kd.V_below (by (with_reducible repeat (first | apply Kd.V_alloc | apply Kd.V_drewN | apply Kd.V_drew)); exact HO0.out) hb); have n1_ := amk (bp_ (by repeat (first | (with_reducible first | exact HB.out | apply ba_ | apply bn_ | apply bd_) | exact HB.out)) hb); clear HO0; clear HB; have HO0 := n0_; have HB := n1_; clear n0_ n1_; (try clear hb); (try clear hb2); (try clear hk); (try clear hi)))
    go_ret2
    exact ⟨by first | rfl | (simp [errW_none, errW_some] <;> rfl) | (simp [*, errW_none, errW_some] <;> rfl), by repeat (first | (with_reducible first | exact HB.out | apply ba_ | apply bn_ | apply bd_) | exact HB.out)⟩
/-! ### laws_eqIntS: function 132 -/
def laws_eqIntS.l0 : Nat → List Int → List Int → Int → Option (Bool)
  | 0, _, _, _ => none
  | k + 1, x0, x1, x5 => if x5 < (x0.length : Int) then (if 0 ≤ x5 then (if x5 < (x1.length : Int) then (if (rd x0 x5) = (rd x1 x5) then (laws_eqIntS.l0 k x0 x1 (wrap64 (x5 + 1))) else (some false)) else (none)) else (none)) else (some true)
def laws_eqIntS.f (k : Nat) (l0 : List Int) (l1 : List Int) : Option (Bool) := if (l0.length : Int) = (l1.length : Int) then (laws_eqIntS.l0 k l0 l1 0) else (some false)
set_option maxHeartbeats 8000000 in
set_option maxRecDepth 100000 in
theorem laws_eqIntS.calls (k : Nat) (A0 : Option Addr) (c0 : Nat) (l0 : List Int) (A1 : Option Addr) (c1 : Nat) (l1 : List Int) (r : Bool) (w : World) (hr0 : Kd.C (Kd.int .i64) w A0 l0.length l0) (hc0 : l0.length ≤ c0) (hr1 : Kd.C (Kd.int .i64) w A1 l1.length l1) (hc1 : l1.length ≤ c1) (h : laws_eqIntS.f k l0 l1 = some r) :
    Calls Try.prog 132 #[.slice A0 l0.length c0, .slice A1 l1.length c1] w fun e w' => e = .returned (.bool r) ∧ Drawn0 w w' := by
  have HR0 := amk hr0
  have HC0 := amk hc0
  clear hr0 hc0
  have HR1 := amk hr1
  have HC1 := amk hc1
  clear hr1 hc1
  have H : (if (l0.length : Int) = (l1.length : Int) then (laws_eqIntS.l0 k l0 l1 0) else (some false)) = some r := h
  clear h
  by_cases c3 : (l0.length : Int) = (l1.length : Int)
  · rw [if_pos c3] at H
    have c3b0 : ((l0.length : Int) == (l1.length : Int)) = true := beq_iff_eq.mpr c3
    have c3b1 : ((l0.length : Int) != (l1.length : Int)) = false := bne_eq_false_iff_eq.mpr c3
    have c3b2 : (l0.length == l1.length) = true := by first | simpa using c3 | (simp at c3 ⊢; omega)
    clear c3
    have H' := amk H
    clear H
    go_enter Try.func132, Try.ntmps132
    go_wp2
    repeat (go_quiet (fail); try go_wp2)
    go_loopg [5] k (fun kq v5 w' => ∃ (x5_1 : Int), v5 = .int .i64 x5_1 ∧ Aside0 (laws_eqIntS.l0 kq l0 l1 x5_1 = some r) ∧ Aside0 (kq ≤ k) ∧ Drawn0 w w')
    case atStart => exact ⟨(0), (by first | rfl | (simp; done) | (simp [*]; done)), H', ⟨Nat.le_refl _⟩, by repeat (first | exact Drawn0.refl _ | apply Drawn0.step)⟩
    case round =>
      clear H'
      try clear c1; try clear p2; try clear c3; try clear c3b0; try clear c3b1; try clear c3b2
      obtain ⟨x5_1, rfl, HA, HK1, ⟨m1, rfl⟩⟩ := hrel
      cases gk with
      | zero => exact absurd HA.out (by simp [laws_eqIntS.l0])
      | succ k1 =>
        have H := HA.out
        clear HA
        simp only [laws_eqIntS.l0] at H
        by_cases c4 : x5_1 < (l0.length : Int)
        · rw [if_pos c4] at H
          have c4b0 : decide (x5_1 < (l0.length : Int)) = true := decide_eq_true c4
          clear c4
          by_cases c5 : 0 ≤ x5_1
          · rw [if_pos c5] at H
            have c5b0 : decide (0 ≤ x5_1) = true := decide_eq_true c5
            clear c5
            by_cases c6 : x5_1 < (l1.length : Int)
            · rw [if_pos c6] at H
              have c6b0 : decide (x5_1 < (l1.length : Int)) = true := decide_eq_true c6
              clear c6
              by_cases c7 : (rd l0 x5_1) = (rd l1 x5_1)
              · rw [if_pos c7] at H
                have c7b0 : ((rd l0 x5_1) == (rd l1 x5_1)) = true := beq_iff_eq.mpr c7
                have c7b1 : ((rd l0 x5_1) != (rd l1 x5_1)) = false := bne_eq_false_iff_eq.mpr c7
                clear c7
                have H' := amk H
                clear H
                have p279 : 0 ≤ (x5_1 : Int) := of_decide_eq_true (by first | (with_reducible assumption) | assumption)
                have q279 : x5_1 < (l0.length : Int) := of_decide_eq_true (by first | (with_reducible assumption) | assumption)
                obtain ⟨ad279, e279, hx279_0⟩ := Kd.at_int HR0.out x5_1 p279 q279
                cases e279
                replace p279 := eq_true p279
                replace q279 := eq_true q279
                have p280 : 0 ≤ (x5_1 : Int) := of_decide_eq_true (by first | (with_reducible assumption) | assumption)
                have q280 : x5_1 < (l1.length : Int) := of_decide_eq_true (by first | (with_reducible assumption) | assumption)
                obtain ⟨ad280, e280, hx280_0⟩ := Kd.at_int HR1.out x5_1 p280 q280
                cases e280
                replace p280 := eq_true p280
                replace q280 := eq_true q280
                go_wp2
                repeat (go_quiet (fail); try go_wp2)
                go_roundg k1
                case measure => have := HK1.out; omega
                case rel => exact ⟨(wrap64 (x5_1 + 1)), (by first | rfl | (simp; done) | (simp [*]; done)), H', ⟨by have := HK1.out; omega⟩, by repeat (first | exact Drawn0.refl _ | apply Drawn0.step)⟩
              · rw [if_neg c7] at H
                have c7b0 : ((rd l0 x5_1) == (rd l1 x5_1)) = false := beq_eq_false_iff_ne.mpr c7
                have c7b1 : ((rd l0 x5_1) != (rd l1 x5_1)) = true := bne_iff_ne.mpr c7
                obtain rfl := Option.some.inj H
                have p279 : 0 ≤ (x5_1 : Int) := of_decide_eq_true (by first | (with_reducible assumption) | assumption)
                have q279 : x5_1 < (l0.length : Int) := of_decide_eq_true (by first | (with_reducible assumption) | assumption)
                obtain ⟨ad279, e279, hx279_0⟩ := Kd.at_int HR0.out x5_1 p279 q279
                cases e279
                replace p279 := eq_true p279
                replace q279 := eq_true q279
                have p280 : 0 ≤ (x5_1 : Int) := of_decide_eq_true (by first | (with_reducible assumption) | assumption)
                have q280 : x5_1 < (l1.length : Int) := of_decide_eq_true (by first | (with_reducible assumption) | assumption)
                obtain ⟨ad280, e280, hx280_0⟩ := Kd.at_int HR1.out x5_1 p280 q280
                cases e280
                replace p280 := eq_true p280
                replace q280 := eq_true q280
                go_wp2
                repeat (go_quiet (fail); try go_wp2)
                go_ret
                exact ⟨by first | rfl | (simp; done) | (simp [*]; done), by repeat (first | exact Drawn0.refl _ | apply Drawn0.step)⟩
            · rw [if_neg c6] at H
              exact absurd H (by simp)
          · rw [if_neg c5] at H
            exact absurd H (by simp)
        · rw [if_neg c4] at H
          have c4b0 : decide (x5_1 < (l0.length : Int)) = false := decide_eq_false c4
          clear c4
          obtain rfl := Option.some.inj H
          go_wp2
          repeat (go_quiet (fail); try go_wp2)
          go_ret
          exact ⟨by first | rfl | (simp; done) | (simp [*]; done), by repeat (first | exact Drawn0.refl _ | apply Drawn0.step)⟩
  · rw [if_neg c3] at H
    have c3b0 : ((l0.length : Int) == (l1.length : Int)) = false := beq_eq_false_iff_ne.mpr c3
    have c3b1 : ((l0.length : Int) != (l1.length : Int)) = true := bne_iff_ne.mpr c3
    have c3b2 : (l0.length == l1.length) = false := by first | simpa using c3 | (simp at c3 ⊢; omega)
    obtain rfl := Option.some.inj H
    go_enter Try.func132, Try.ntmps132
    go_wp2
    repeat (go_quiet (fail); try go_wp2)
    go_ret
    exact ⟨by first | rfl | (simp; done) | (simp [*]; done), by repeat (first | exact Drawn0.refl _ | apply Drawn0.step)⟩
/-! ### laws_eqIntSS: function 79 -/
def laws_eqIntSS.l0 : Nat → List (List Int) → List (List Int) → Int → Option (Bool)
  | 0, _, _, _ => none
  | k + 1, x0, x1, x5 => if x5 < (x0.length : Int) then (if 0 ≤ x5 then (if x5 < (x1.length : Int) then ((laws_eqIntS.f k (rd_L5 x0 x5) (rd_L5 x1 x5)).bind fun t283 => (if t283 = true then (laws_eqIntSS.l0 k x0 x1 (wrap64 (x5 + 1))) else (some false))) else (none)) else (none)) else (some true)
def laws_eqIntSS.f (k : Nat) (l0 : List (List Int)) (l1 : List (List Int)) : Option (Bool) := if (l0.length : Int) = (l1.length : Int) then (laws_eqIntSS.l0 k l0 l1 0) else (some false)
set_option maxHeartbeats 8000000 in
set_option maxRecDepth 100000 in
theorem laws_eqIntSS.calls (k : Nat) (A0 : Option Addr) (c0 : Nat) (l0 : List (List Int)) (A1 : Option Addr) (c1 : Nat) (l1 : List (List Int)) (r : Bool) (w : World) (hr0 : Kd.C (Kd.slice 3 (Kd.int .i64)) w A0 l0.length l0) (hc0 : l0.length ≤ c0) (hr1 : Kd.C (Kd.slice 3 (Kd.int .i64)) w A1 l1.length l1) (hc1 : l1.length ≤ c1) (h : laws_eqIntSS.f k l0 l1 = some r) :
    Calls Try.prog 79 #[.slice A0 l0.length c0, .slice A1 l1.length c1] w fun e w' => e = .returned (.bool r) ∧ Drawn0 w w' := by
  have HR0 := amk hr0
  have HC0 := amk hc0
  clear hr0 hc0
  have HR1 := amk hr1
  have HC1 := amk hc1
  clear hr1 hc1
  have H : (if (l0.length : Int) = (l1.length : Int) then (laws_eqIntSS.l0 k l0 l1 0) else (some false)) = some r := h
  clear h
  by_cases c3 : (l0.length : Int) = (l1.length : Int)
  · rw [if_pos c3] at H
    have c3b0 : ((l0.length : Int) == (l1.length : Int)) = true := beq_iff_eq.mpr c3
    have c3b1 : ((l0.length : Int) != (l1.length : Int)) = false := bne_eq_false_iff_eq.mpr c3
    have c3b2 : (l0.length == l1.length) = true := by first | simpa using c3 | (simp at c3 ⊢; omega)
    clear c3
    have H' := amk H
    clear H
    go_enter Try.func79, Try.ntmps79
    go_wp2
    repeat (go_quiet (fail); try go_wp2)
    go_loopg [5] k (fun kq v5 w' => ∃ (x5_1 : Int), v5 = .int .i64 x5_1 ∧ Aside0 (laws_eqIntSS.l0 kq l0 l1 x5_1 = some r) ∧ Aside0 (kq ≤ k) ∧ Drawn0 w w')
    case atStart => exact ⟨(0), (by first | rfl | (simp; done) | (simp [*]; done)), H', ⟨Nat.le_refl _⟩, by repeat (first | exact Drawn0.refl _ | apply Drawn0.step)⟩
    case round =>
      clear H'
      try clear c1; try clear p2; try clear c3; try clear c3b0; try clear c3b1; try clear c3b2
      obtain ⟨x5_1, rfl, HA, HK1, ⟨m1, rfl⟩⟩ := hrel
      cases gk with
      | zero => exact absurd HA.out (by simp [laws_eqIntSS.l0])
      | succ k1 =>
        have H := HA.out
        clear HA
        simp only [laws_eqIntSS.l0] at H
        by_cases c4 : x5_1 < (l0.length : Int)
        · rw [if_pos c4] at H
          have c4b0 : decide (x5_1 < (l0.length : Int)) = true := decide_eq_true c4
          clear c4
          by_cases c5 : 0 ≤ x5_1
          · rw [if_pos c5] at H
            have c5b0 : decide (0 ≤ x5_1) = true := decide_eq_true c5
            clear c5
            by_cases c6 : x5_1 < (l1.length : Int)
            · rw [if_pos c6] at H
              have c6b0 : decide (x5_1 < (l1.length : Int)) = true := decide_eq_true c6
              clear c6
              replace H := Option.bind_eq_some_iff.mp H
              obtain ⟨t283, A70, H⟩ := H
              replace H : (if t283 = true then (laws_eqIntSS.l0 k1 l0 l1 (wrap64 (x5_1 + 1))) else (some false)) = some r := H
              have A7 := amk A70
              clear A70
              by_cases c8 : t283 = true
              · subst c8
                have H1 : (laws_eqIntSS.l0 k1 l0 l1 (wrap64 (x5_1 + 1))) = some r := by rw [if_pos rfl] at H; exact H
                clear H
                have H := H1
                clear H1
                have H' := amk H
                clear H
                have p281 : 0 ≤ (x5_1 : Int) := of_decide_eq_true (by first | (with_reducible assumption) | assumption)
                have q281 : x5_1 < (l0.length : Int) := of_decide_eq_true (by first | (with_reducible assumption) | assumption)
                obtain ⟨ad281, A281_0, c281_0, e281, hx281_0, hl281_0, hi281_0⟩ := at_L5 HR0.out x5_1 p281 q281
                cases e281
                have HR281_0 := amk hi281_0
                have HC281_0 := amk hl281_0
                clear hi281_0 hl281_0
                replace p281 := eq_true p281
                replace q281 := eq_true q281
                have p282 : 0 ≤ (x5_1 : Int) := of_decide_eq_true (by first | (with_reducible assumption) | assumption)
                have q282 : x5_1 < (l1.length : Int) := of_decide_eq_true (by first | (with_reducible assumption) | assumption)
                obtain ⟨ad282, A282_0, c282_0, e282, hx282_0, hl282_0, hi282_0⟩ := at_L5 HR1.out x5_1 p282 q282
                cases e282
                have HR282_0 := amk hi282_0
                have HC282_0 := amk hl282_0
                clear hi282_0 hl282_0
                replace p282 := eq_true p282
                replace q282 := eq_true q282
                go_wp2_with (first | (go_at_call 132; (with_reducible refine (laws_eqIntS.calls k1 _ _ (rd_L5 l0 x5_1) _ _ (rd_L5 l1 x5_1) true _ ?side1 ?side2 ?side3 ?side4 A7.out).mono ?_); (case side1 => repeat (first | exact HR281_0.out | (with_reducible refine Kd.C_alloc ?_ _) | (with_reducible refine Kd.C_drewN ?_ _) | (with_reducible refine Kd.C_drew ?_))); (case side2 => exact HC281_0.out); (case side3 => repeat (first | exact HR282_0.out | (with_reducible refine Kd.C_alloc ?_ _) | (with_reducible refine Kd.C_drewN ?_ _) | (with_reducible refine Kd.C_drew ?_))); (case side4 => exact HC282_0.out); rintro e w' ⟨rfl, ⟨nd, rfl⟩⟩; (try first | exact ⟨rfl, _, World.drewN_drewN _ _ _⟩ | exact ⟨rfl, _, Eq.trans (World.drewN_drewN _ _ _) (congrArg (World.drewN _) (Nat.add_assoc _ _ _))⟩)))
                repeat (go_quiet (first | (go_at_call 132; (with_reducible refine (laws_eqIntS.calls k1 _ _ (rd_L5 l0 x5_1) _ _ (rd_L5 l1 x5_1) true _ ?side1 ?side2 ?side3 ?side4 A7.out).mono ?_); (case side1 => repeat (first | exact HR281_0.out | (with_reducible refine Kd.C_alloc ?_ _) | (with_reducible refine Kd.C_drewN ?_ _) | (with_reducible refine Kd.C_drew ?_))); (case side2 => exact HC281_0.out); (case side3 => repeat (first | exact HR282_0.out | (with_reducible refine Kd.C_alloc ?_ _) | (with_reducible refine Kd.C_drewN ?_ _) | (with_reducible refine Kd.C_drew ?_))); (case side4 => exact HC282_0.out); rintro e w' ⟨rfl, ⟨nd, rfl⟩⟩; (try first | exact ⟨rfl, _, World.drewN_drewN _ _ _⟩ | exact ⟨rfl, _, Eq.trans (World.drewN_drewN _ _ _) (congrArg (World.drewN _) (Nat.add_assoc _ _ _))⟩))); try go_wp2_with (first | (go_at_call 132; (with_reducible refine (laws_eqIntS.calls k1 _ _ (rd_L5 l0 x5_1) _ _ (rd_L5 l1 x5_1) true _ ?side1 ?side2 ?side3 ?side4 A7.out).mono ?_); (case side1 => repeat (first | exact HR281_0.out | (with_reducible refine Kd.C_alloc ?_ _) | (with_reducible refine Kd.C_drewN ?_ _) | (with_reducible refine Kd.C_drew ?_))); (case side2 => exact HC281_0.out); (case side3 => repeat (first | exact HR282_0.out | (with_reducible refine Kd.C_alloc ?_ _) | (with_reducible refine Kd.C_drewN ?_ _) | (with_reducible refine Kd.C_drew ?_))); (case side4 => exact HC282_0.out); rintro e w' ⟨rfl, ⟨nd, rfl⟩⟩; (try first | exact ⟨rfl, _, World.drewN_drewN _ _ _⟩ | exact ⟨rfl, _, Eq.trans (World.drewN_drewN _ _ _) (congrArg (World.drewN _) (Nat.add_assoc _ _ _))⟩))))
                go_roundg k1
                case measure => have := HK1.out; omega
                case rel => exact ⟨(wrap64 (x5_1 + 1)), (by first | rfl | (simp; done) | (simp [*]; done)), H', ⟨by have := HK1.out; omega⟩, by repeat (first | exact Drawn0.refl _ | apply Drawn0.step)⟩
              · replace c8 := Bool.eq_false_iff.mpr c8
                subst c8
                have H1 : (some false) = some r := by rw [if_neg (show ¬ (false = true) by decide)] at H; exact H
                clear H
                have H := H1
                clear H1
                obtain rfl := Option.some.inj H
                have p281 : 0 ≤ (x5_1 : Int) := of_decide_eq_true (by first | (with_reducible assumption) | assumption)
                have q281 : x5_1 < (l0.length : Int) := of_decide_eq_true (by first | (with_reducible assumption) | assumption)
                obtain ⟨ad281, A281_0, c281_0, e281, hx281_0, hl281_0, hi281_0⟩ := at_L5 HR0.out x5_1 p281 q281
                cases e281
                have HR281_0 := amk hi281_0
                have HC281_0 := amk hl281_0
                clear hi281_0 hl281_0
                replace p281 := eq_true p281
                replace q281 := eq_true q281
                have p282 : 0 ≤ (x5_1 : Int) := of_decide_eq_true (by first | (with_reducible assumption) | assumption)
                have q282 : x5_1 < (l1.length : Int) := of_decide_eq_true (by first | (with_reducible assumption) | assumption)
                obtain ⟨ad282, A282_0, c282_0, e282, hx282_0, hl282_0, hi282_0⟩ := at_L5 HR1.out x5_1 p282 q282
                cases e282
                have HR282_0 := amk hi282_0
                have HC282_0 := amk hl282_0
                clear hi282_0 hl282_0
                replace p282 := eq_true p282
                replace q282 := eq_true q282
                go_wp2_with (first | (go_at_call 132; (with_reducible refine (laws_eqIntS.calls k1 _ _ (rd_L5 l0 x5_1) _ _ (rd_L5 l1 x5_1) false _ ?side1 ?side2 ?side3 ?side4 A7.out).mono ?_); (case side1 => repeat (first | exact HR281_0.out | (with_reducible refine Kd.C_alloc ?_ _) | (with_reducible refine Kd.C_drewN ?_ _) | (with_reducible refine Kd.C_drew ?_))); (case side2 => exact HC281_0.out); (case side3 => repeat (first | exact HR282_0.out | (with_reducible refine Kd.C_alloc ?_ _) | (with_reducible refine Kd.C_drewN ?_ _) | (with_reducible refine Kd.C_drew ?_))); (case side4 => exact HC282_0.out); rintro e w' ⟨rfl, ⟨nd, rfl⟩⟩; (try first | exact ⟨rfl, _, World.drewN_drewN _ _ _⟩ | exact ⟨rfl, _, Eq.trans (World.drewN_drewN _ _ _) (congrArg (World.drewN _) (Nat.add_assoc _ _ _))⟩)))
                repeat (go_quiet (first | (go_at_call 132; (with_reducible refine (laws_eqIntS.calls k1 _ _ (rd_L5 l0 x5_1) _ _ (rd_L5 l1 x5_1) false _ ?side1 ?side2 ?side3 ?side4 A7.out).mono ?_); (case side1 => repeat (first | exact HR281_0.out | (with_reducible refine Kd.C_alloc ?_ _) | (with_reducible refine Kd.C_drewN ?_ _) | (with_reducible refine Kd.C_drew ?_))); (case side2 => exact HC281_0.out); (case side3 => repeat (first | exact HR282_0.out | (with_reducible refine Kd.C_alloc ?_ _) | (with_reducible refine Kd.C_drewN ?_ _) | (with_reducible refine Kd.C_drew ?_))); (case side4 => exact HC282_0.out); rintro e w' ⟨rfl, ⟨nd, rfl⟩⟩; (try first | exact ⟨rfl, _, World.drewN_drewN _ _ _⟩ | exact ⟨rfl, _, Eq.trans (World.drewN_drewN _ _ _) (congrArg (World.drewN _) (Nat.add_assoc _ _ _))⟩))); try go_wp2_with (first | (go_at_call 132; (with_reducible refine (laws_eqIntS.calls k1 _ _ (rd_L5 l0 x5_1) _ _ (rd_L5 l1 x5_1) false _ ?side1 ?side2 ?side3 ?side4 A7.out).mono ?_); (case side1 => repeat (first | exact HR281_0.out | (with_reducible refine Kd.C_alloc ?_ _) | (with_reducible refine Kd.C_drewN ?_ _) | (with_reducible refine Kd.C_drew ?_))); (case side2 => exact HC281_0.out); (case side3 => repeat (first | exact HR282_0.out | (with_reducible refine Kd.C_alloc ?_ _) | (with_reducible refine Kd.C_drewN ?_ _) | (with_reducible refine Kd.C_drew ?_))); (case side4 => exact HC282_0.out); rintro e w' ⟨rfl, ⟨nd, rfl⟩⟩; (try first | exact ⟨rfl, _, World.drewN_drewN _ _ _⟩ | exact ⟨rfl, _, Eq.trans (World.drewN_drewN _ _ _) (congrArg (World.drewN _) (Nat.add_assoc _ _ _))⟩))))
                go_ret
                exact ⟨by first | rfl | (simp; done) | (simp [*]; done), by repeat (first | exact Drawn0.refl _ | apply Drawn0.step)⟩
            · rw [if_neg c6] at H
              exact absurd H (by simp)
          · rw [if_neg c5] at H
            exact absurd H (by simp)
        · rw [if_neg c4] at H
          have c4b0 : decide (x5_1 < (l0.length : Int)) = false := decide_eq_false c4
          clear c4
          obtain rfl := Option.some.inj H
          go_wp2
          repeat (go_quiet (fail); try go_wp2)
          go_ret
          exact ⟨by first | rfl | (simp; done) | (simp [*]; done), by repeat (first | exact Drawn0.refl _ | apply Drawn0.step)⟩
  · rw [if_neg c3] at H
    have c3b0 : ((l0.length : Int) == (l1.length : Int)) = false := beq_eq_false_iff_ne.mpr c3
    have c3b1 : ((l0.length : Int) != (l1.length : Int)) = true := bne_iff_ne.mpr c3
    have c3b2 : (l0.length == l1.length) = false := by first | simpa using c3 | (simp at c3 ⊢; omega)
    obtain rfl := Option.some.inj H
    go_enter Try.func79, Try.ntmps79
    go_wp2
    repeat (go_quiet (fail); try go_wp2)
    go_ret
    exact ⟨by first | rfl | (simp; done) | (simp [*]; done), by repeat (first | exact Drawn0.refl _ | apply Drawn0.step)⟩
/-! ### laws_eqPins: function 24 -/
def laws_eqPins.f (k : Nat) (a0_0 : Int) (l0_1 : List (List Int)) (a1_0 : Int) (l1_1 : List (List Int)) : Option (Bool) := if a0_0 = a1_0 then ((laws_eqIntSS.f k l0_1 l1_1).bind fun t286 => (if t286 = true then (some true) else (some false))) else (some false)
set_option maxHeartbeats 8000000 in
set_option maxRecDepth 100000 in
theorem laws_eqPins.calls (k : Nat) (a0_0 : Int) (A0_1 : Option Addr) (c0_1 : Nat) (l0_1 : List (List Int)) (a1_0 : Int) (A1_1 : Option Addr) (c1_1 : Nat) (l1_1 : List (List Int)) (r : Bool) (w : World) (hr0_1 : Kd.C (Kd.slice 3 (Kd.int .i64)) w A0_1 l0_1.length l0_1) (hc0_1 : l0_1.length ≤ c0_1) (hr1_1 : Kd.C (Kd.slice 3 (Kd.int .i64)) w A1_1 l1_1.length l1_1) (hc1_1 : l1_1.length ≤ c1_1) (h : laws_eqPins.f k a0_0 l0_1 a1_0 l1_1 = some r) :
    Calls Try.prog 24 #[.agg #[.int .i64 a0_0, .slice A0_1 l0_1.length c0_1], .agg #[.int .i64 a1_0, .slice A1_1 l1_1.length c1_1]] w fun e w' => e = .returned (.bool r) ∧ Below w.heap.size w w' := by
  have hu41 := Try.underlying41
  have HR0_1 := amk hr0_1
  have HC0_1 := amk hc0_1
  clear hr0_1 hc0_1
  have HR1_1 := amk hr1_1
  have HC1_1 := amk hc1_1
  clear hr1_1 hc1_1
  have HB := amk (Below.refl w.heap.size w)
  have H : (if a0_0 = a1_0 then ((laws_eqIntSS.f k l0_1 l1_1).bind fun t286 => (if t286 = true then (some true) else (some false))) else (some false)) = some r := h
  clear h
  by_cases c3 : a0_0 = a1_0
  · rw [if_pos c3] at H
    have c3b0 : (a0_0 == a1_0) = true := beq_iff_eq.mpr c3
    have c3b1 : (a0_0 != a1_0) = false := bne_eq_false_iff_eq.mpr c3
    clear c3
    replace H := Option.bind_eq_some_iff.mp H
    obtain ⟨t286, A40, H⟩ := H
    replace H : (if t286 = true then (some true) else (some false)) = some r := H
    have A4 := amk A40
    clear A40
    by_cases c5 : t286 = true
    · subst c5
      have H1 : (some true) = some r := by rw [if_pos rfl] at H; exact H
      clear H
      have H := H1
      clear H1
      obtain rfl := Option.some.inj H
      go_enter Try.func24, Try.ntmps24
      go_wp2_with (first | ((with_reducible refine gate_dst (N := 2) rfl ?_); refine box_event ?hg (N := 2) ?hd (cs := #[.int .i64 a0_0, .slice A0_1 l0_1.length c0_1]) (t := 41) ?hr ?_; (case hd => rfl); (case hg => rfl); (case hr => first | (go_simp; done) | (go_simp; rfl)); intro gb284 hg w6 hbox hb; have n0_ := amk (bp_ (by repeat (first | (with_reducible first | exact HB.out | apply ba_ | apply bn_ | apply bd_) | exact HB.out)) hb); have n1_ := amk (hbox); have n2_ := amk ((by rw [hg]; exact (below_size (by repeat (first | (with_reducible first | exact HB.out | apply ba_ | apply bn_ | apply bd_) | exact HB.out))) : w.heap.size ≤ gb284)); have n3_ := amk ((by rw [hg]; exact (below_size (by repeat (first | (with_reducible first | exact HB.out | apply ba_ | apply bn_ | apply bd_) | exact HB.out))) : w.heap.size ≤ gb284)); clear HB; have HB := n0_; have BK284 := n1_; have GW284 := n2_; have GE284 := n3_; clear n0_ n1_ n2_ n3_; clear hb hbox hg) | ((with_reducible refine gate_dst (N := 3) rfl ?_); refine box_event ?hg (N := 3) ?hd (cs := #[.int .i64 a1_0, .slice A1_1 l1_1.length c1_1]) (t := 41) ?hr ?_; (case hd => rfl); (case hg => rfl); (case hr => first | (go_simp; done) | (go_simp; rfl)); intro gb285 hg w7 hbox hb; have n0_ := amk (blk_below (g := gb284) (o := .cells #[.int .i64 a0_0, .slice A0_1 l0_1.length c0_1] 41 (0, 0)) (by (with_reducible repeat (first | refine kn_ ?_ _ | refine blk_drew ?_ | refine ka_ ?_ _)); exact BK284.out) hb); have n1_ := amk (bp_ (by repeat (first | (with_reducible first | exact HB.out | apply ba_ | apply bn_ | apply bd_ | refine bs_ ?_ GE284.out) | exact HB.out)) hb); have n2_ := amk (hbox); have n3_ := amk ((by rw [hg]; exact (below_size (by repeat (first | (with_reducible first | exact HB.out | apply ba_ | apply bn_ | apply bd_ | refine bs_ ?_ GE284.out) | exact HB.out))) : w.heap.size ≤ gb285)); have n4_ := amk ((by rw [hg]; exact (below_size (by repeat (first | (with_reducible first | exact HB.out | apply ba_ | apply bn_ | apply bd_ | refine bs_ ?_ GE284.out) | exact HB.out))) : w.heap.size ≤ gb285)); have n5_ := amk ((by rw [hg]; exact Nat.ne_of_lt (blk_lt (g := gb284) (o := .cells #[.int .i64 a0_0, .slice A0_1 l0_1.length c0_1] 41 (0, 0)) (by (with_reducible repeat (first | refine kn_ ?_ _ | refine blk_drew ?_ | refine ka_ ?_ _)); exact BK284.out)) : gb284 ≠ gb285)); have n6_ := amk ((by rw [hg]; exact Nat.ne_of_gt (blk_lt (g := gb284) (o := .cells #[.int .i64 a0_0, .slice A0_1 l0_1.length c0_1] 41 (0, 0)) (by (with_reducible repeat (first | refine kn_ ?_ _ | refine blk_drew ?_ | refine ka_ ?_ _)); exact BK284.out)) : gb285 ≠ gb284)); clear BK284; clear HB; have BK284 := n0_; have HB := n1_; have BK285 := n2_; have GW285 := n3_; have GE285 := n4_; have NB284_285 := n5_; have NB285_284 := n6_; clear n0_ n1_ n2_ n3_ n4_ n5_ n6_; clear hb hbox hg; have hnb8 := NB284_285.out; have hnc8 := NB285_284.out; have hcz9_0 : w7.cell? ⟨gb284, 0, none⟩ = some (.int .i64 a0_0) := (blk_cell BK284.out 0).trans rfl; have hcz9_1 : w7.cell? ⟨gb284, 1, none⟩ = some (.slice A0_1 l0_1.length c0_1) := (blk_cell BK284.out 1).trans rfl; have hfz9_0 := blk_frozen BK284.out 0; have hfz9_1 := blk_frozen BK284.out 1; have hcz10_0 : w7.cell? ⟨gb285, 0, none⟩ = some (.int .i64 a1_0) := (blk_cell BK285.out 0).trans rfl; have hcz10_1 : w7.cell? ⟨gb285, 1, none⟩ = some (.slice A1_1 l1_1.length c1_1) := (blk_cell BK285.out 1).trans rfl; have hfz10_0 := blk_frozen BK285.out 0; have hfz10_1 := blk_frozen BK285.out 1) | ((with_reducible refine gate_callee (f := 79) rfl ?_); refine goesL_ (some 14) rfl rfl Try.func79 (by kernel_rfl) rfl #[.slice A0_1 l0_1.length c0_1, .slice A1_1 l1_1.length c1_1] rfl (by (try simp only [List.map_toArray, List.map_cons, List.map_nil]); first | done | rfl | (simp only [List.length_drop, List.length_take]; rfl)) ?_; (with_reducible refine (laws_eqIntSS.calls k _ _ l0_1 _ _ l1_1 true _ ?side1 ?side2 ?side3 ?side4 A4.out).mono ?_); (case side1 => repeat (first | exact (Kd.C_below HR0_1.out HB.out) | (with_reducible refine Kd.C_alloc ?_ _) | (with_reducible refine Kd.C_drewN ?_ _) | (with_reducible refine Kd.C_drew ?_))); (case side2 => exact HC0_1.out); (case side3 => repeat (first | exact (Kd.C_below HR1_1.out HB.out) | (with_reducible refine Kd.C_alloc ?_ _) | (with_reducible refine Kd.C_drewN ?_ _) | (with_reducible refine Kd.C_drew ?_))); (case side4 => exact HC1_1.out); rintro e w' ⟨rfl, ⟨nd, rfl⟩⟩; refine ⟨_, rfl, ?_⟩))
      go_ret
      exact ⟨by first | rfl | (simp [errW_none, errW_some] <;> rfl) | (simp [*, errW_none, errW_some] <;> rfl), by repeat (first | (with_reducible first | exact HB.out | apply ba_ | apply bn_ | apply bd_ | refine bs_ ?_ GE284.out | refine bs_ ?_ GE285.out) | exact HB.out)⟩
    · replace c5 := Bool.eq_false_iff.mpr c5
      subst c5
      have H1 : (some false) = some r := by rw [if_neg (show ¬ (false = true) by decide)] at H; exact H
      clear H
      have H := H1
      clear H1
      obtain rfl := Option.some.inj H
      go_enter Try.func24, Try.ntmps24
      go_wp2_with (first | ((with_reducible refine gate_dst (N := 2) rfl ?_); refine box_event ?hg (N := 2) ?hd (cs := #[.int .i64 a0_0, .slice A0_1 l0_1.length c0_1]) (t := 41) ?hr ?_; (case hd => rfl); (case hg => rfl); (case hr => first | (go_simp; done) | (go_simp; rfl)); intro gb284 hg w11 hbox hb; have n0_ := amk (bp_ (by repeat (first | (with_reducible first | exact HB.out | apply ba_ | apply bn_ | apply bd_) | exact HB.out)) hb); have n1_ := amk (hbox); have n2_ := amk ((by rw [hg]; exact (below_size (by repeat (first | (with_reducible first | exact HB.out | apply ba_ | apply bn_ | apply bd_) | exact HB.out))) : w.heap.size ≤ gb284)); have n3_ := amk ((by rw [hg]; exact (below_size (by repeat (first | (with_reducible first | exact HB.out | apply ba_ | apply bn_ | apply bd_) | exact HB.out))) : w.heap.size ≤ gb284)); clear HB; have HB := n0_; have BK284 := n1_; have GW284 := n2_; have GE284 := n3_; clear n0_ n1_ n2_ n3_; clear hb hbox hg) | ((with_reducible refine gate_dst (N := 3) rfl ?_); refine box_event ?hg (N := 3) ?hd (cs := #[.int .i64 a1_0, .slice A1_1 l1_1.length c1_1]) (t := 41) ?hr ?_; (case hd => rfl); (case hg => rfl); (case hr => first | (go_simp; done) | (go_simp; rfl)); intro gb285 hg w12 hbox hb; have n0_ := amk (blk_below (g := gb284) (o := .cells #[.int .i64 a0_0, .slice A0_1 l0_1.length c0_1] 41 (0, 0)) (by (with_reducible repeat (first | refine kn_ ?_ _ | refine blk_drew ?_ | refine ka_ ?_ _)); exact BK284.out) hb); have n1_ := amk (bp_ (by repeat (first | (with_reducible first | exact HB.out | apply ba_ | apply bn_ | apply bd_ | refine bs_ ?_ GE284.out) | exact HB.out)) hb); have n2_ := amk (hbox); have n3_ := amk ((by rw [hg]; exact (below_size (by repeat (first | (with_reducible first | exact HB.out | apply ba_ | apply bn_ | apply bd_ | refine bs_ ?_ GE284.out) | exact HB.out))) : w.heap.size ≤ gb285)); have n4_ := amk ((by rw [hg]; exact (below_size (by repeat (first | (with_reducible first | exact HB.out | apply ba_ | apply bn_ | apply bd_ | refine bs_ ?_ GE284.out) | exact HB.out))) : w.heap.size ≤ gb285)); have n5_ := amk ((by rw [hg]; exact Nat.ne_of_lt (blk_lt (g := gb284) (o := .cells #[.int .i64 a0_0, .slice A0_1 l0_1.length c0_1] 41 (0, 0)) (by (with_reducible repeat (first | refine kn_ ?_ _ | refine blk_drew ?_ | refine ka_ ?_ _)); exact BK284.out)) : gb284 ≠ gb285)); have n6_ := amk ((by rw [hg]; exact Nat.ne_of_gt (blk_lt (g := gb284) (o := .cells #[.int .i64 a0_0, .slice A0_1 l0_1.length c0_1] 41 (0, 0)) (by (with_reducible repeat (first | refine kn_ ?_ _ | refine blk_drew ?_ | refine ka_ ?_ _)); exact BK284.out)) : gb285 ≠ gb284)); clear BK284; clear HB; have BK284 := n0_; have HB := n1_; have BK285 := n2_; have GW285 := n3_; have GE285 := n4_; have NB284_285 := n5_; have NB285_284 := n6_; clear n0_ n1_ n2_ n3_ n4_ n5_ n6_; clear hb hbox hg; have hnb13 := NB284_285.out; have hnc13 := NB285_284.out; have hcz14_0 : w12.cell? ⟨gb284, 0, none⟩ = some (.int .i64 a0_0) := (blk_cell BK284.out 0).trans rfl; have hcz14_1 : w12.cell? ⟨gb284, 1, none⟩ = some (.slice A0_1 l0_1.length c0_1) := (blk_cell BK284.out 1).trans rfl; have hfz14_0 := blk_frozen BK284.out 0; have hfz14_1 := blk_frozen BK284.out 1; have hcz15_0 : w12.cell? ⟨gb285, 0, none⟩ = some (.int .i64 a1_0) := (blk_cell BK285.out 0).trans rfl; have hcz15_1 : w12.cell? ⟨gb285, 1, none⟩ = some (.slice A1_1 l1_1.length c1_1) := (blk_cell BK285.out 1).trans rfl; have hfz15_0 := blk_frozen BK285.out 0; have hfz15_1 := blk_frozen BK285.out 1) | ((with_reducible refine gate_callee (f := 79) rfl ?_); refine goesL_ (some 14) rfl rfl Try.func79 (by kernel_rfl) rfl #[.slice A0_1 l0_1.length c0_1, .slice A1_1 l1_1.length c1_1] rfl (by (try simp only [List.map_toArray, List.map_cons, List.map_nil]); first | done | rfl | (simp only [List.length_drop, List.length_take]; rfl)) ?_; (with_reducible refine (laws_eqIntSS.calls k _ _ l0_1 _ _ l1_1 false _ ?side1 ?side2 ?side3 ?side4 A4.out).mono ?_); (case side1 => repeat (first | exact (Kd.C_below HR0_1.out HB.out) | (with_reducible refine Kd.C_alloc ?_ _) | (with_reducible refine Kd.C_drewN ?_ _) | (with_reducible refine Kd.C_drew ?_))); (case side2 => exact HC0_1.out); (case side3 => repeat (first | exact (Kd.C_below HR1_1.out HB.out) | (with_reducible refine Kd.C_alloc ?_ _) | (with_reducible refine Kd.C_drewN ?_ _) | (with_reducible refine Kd.C_drew ?_))); (case side4 => exact HC1_1.out); rintro e w' ⟨rfl, ⟨nd, rfl⟩⟩; refine ⟨_, rfl, ?_⟩))
      go_ret
      exact ⟨by first | rfl | (simp [errW_none, errW_some] <;> rfl) | (simp [*, errW_none, errW_some] <;> rfl), by repeat (first | (with_reducible first | exact HB.out | apply ba_ | apply bn_ | apply bd_ | refine bs_ ?_ GE284.out | refine bs_ ?_ GE285.out) | exact HB.out)⟩
  · rw [if_neg c3] at H
    have c3b0 : (a0_0 == a1_0) = false := beq_eq_false_iff_ne.mpr c3
    have c3b1 : (a0_0 != a1_0) = true := bne_iff_ne.mpr c3
    obtain rfl := Option.some.inj H
    go_enter Try.func24, Try.ntmps24
    go_wp2_with (first | ((with_reducible refine gate_dst (N := 2) rfl ?_); refine box_event ?hg (N := 2) ?hd (cs := #[.int .i64 a0_0, .slice A0_1 l0_1.length c0_1]) (t := 41) ?hr ?_; (case hd => rfl); (case hg => rfl); (case hr => first | (go_simp; done) | (go_simp; rfl)); intro gb284 hg w16 hbox hb; have n0_ := amk (bp_ (by repeat (first | (with_reducible first | exact HB.out | apply ba_ | apply bn_ | apply bd_) | exact HB.out)) hb); have n1_ := amk (hbox); have n2_ := amk ((by rw [hg]; exact (below_size (by repeat (first | (with_reducible first | exact HB.out | apply ba_ | apply bn_ | apply bd_) | exact HB.out))) : w.heap.size ≤ gb284)); have n3_ := amk ((by rw [hg]; exact (below_size (by repeat (first | (with_reducible first | exact HB.out | apply ba_ | apply bn_ | apply bd_) | exact HB.out))) : w.heap.size ≤ gb284)); clear HB; have HB := n0_; have BK284 := n1_; have GW284 := n2_; have GE284 := n3_; clear n0_ n1_ n2_ n3_; clear hb hbox hg) | ((with_reducible refine gate_dst (N := 3) rfl ?_); refine box_event ?hg (N := 3) ?hd (cs := #[.int .i64 a1_0, .slice A1_1 l1_1.length c1_1]) (t := 41) ?hr ?_; (case hd => rfl); (case hg => rfl); (case hr => first | (go_simp; done) | (go_simp; rfl)); intro gb285 hg w17 hbox hb; have n0_ := amk (blk_below (g := gb284) (o := .cells #[.int .i64 a0_0, .slice A0_1 l0_1.length c0_1] 41 (0, 0)) (by (with_reducible repeat (first | refine kn_ ?_ _ | refine blk_drew ?_ | refine ka_ ?_ _)); exact BK284.out) hb); have n1_ := amk (bp_ (by repeat (first | (with_reducible first | exact HB.out | apply ba_ | apply bn_ | apply bd_ | refine bs_ ?_ GE284.out) | exact HB.out)) hb); have n2_ := amk (hbox); have n3_ := amk ((by rw [hg]; exact (below_size (by repeat (first | (with_reducible first | exact HB.out | apply ba_ | apply bn_ | apply bd_ | refine bs_ ?_ GE284.out) | exact HB.out))) : w.heap.size ≤ gb285)); have n4_ := amk ((by rw [hg]; exact (below_size (by repeat (first | (with_reducible first | exact HB.out | apply ba_ | apply bn_ | apply bd_ | refine bs_ ?_ GE284.out) | exact HB.out))) : w.heap.size ≤ gb285)); have n5_ := amk ((by rw [hg]; exact Nat.ne_of_lt (blk_lt (g := gb284) (o := .cells #[.int .i64 a0_0, .slice A0_1 l0_1.length c0_1] 41 (0, 0)) (by (with_reducible repeat (first | refine kn_ ?_ _ | refine blk_drew ?_ | refine ka_ ?_ _)); exact BK284.out)) : gb284 ≠ gb285)); have n6_ := amk ((by rw [hg]; exact Nat.ne_of_gt (blk_lt (g := gb284) (o := .cells #[.int .i64 a0_0, .slice A0_1 l0_1.length c0_1] 41 (0, 0)) (by (with_reducible repeat (first | refine kn_ ?_ _ | refine blk_drew ?_ | refine ka_ ?_ _)); exact BK284.out)) : gb285 ≠ gb284)); clear BK284; clear HB; have BK284 := n0_; have HB := n1_; have BK285 := n2_; have GW285 := n3_; have GE285 := n4_; have NB284_285 := n5_; have NB285_284 := n6_; clear n0_ n1_ n2_ n3_ n4_ n5_ n6_; clear hb hbox hg; have hnb18 := NB284_285.out; have hnc18 := NB285_284.out; have hcz19_0 : w17.cell? ⟨gb284, 0, none⟩ = some (.int .i64 a0_0) := (blk_cell BK284.out 0).trans rfl; have hcz19_1 : w17.cell? ⟨gb284, 1, none⟩ = some (.slice A0_1 l0_1.length c0_1) := (blk_cell BK284.out 1).trans rfl; have hfz19_0 := blk_frozen BK284.out 0; have hfz19_1 := blk_frozen BK284.out 1; have hcz20_0 : w17.cell? ⟨gb285, 0, none⟩ = some (.int .i64 a1_0) := (blk_cell BK285.out 0).trans rfl; have hcz20_1 : w17.cell? ⟨gb285, 1, none⟩ = some (.slice A1_1 l1_1.length c1_1) := (blk_cell BK285.out 1).trans rfl; have hfz20_0 := blk_frozen BK285.out 0; have hfz20_1 := blk_frozen BK285.out 1))
    go_ret
    exact ⟨by first | rfl | (simp [errW_none, errW_some] <;> rfl) | (simp [*, errW_none, errW_some] <;> rfl), by repeat (first | (with_reducible first | exact HB.out | apply ba_ | apply bn_ | apply bd_ | refine bs_ ?_ GE284.out | refine bs_ ?_ GE285.out) | exact HB.out)⟩
/-! ### laws_eqPinsS: function 38 -/
def laws_eqPinsS.l0 : Nat → List (S41) → List (S41) → Int → Option (Bool)
  | 0, _, _, _ => none
  | k + 1, x0, x1, x5 => if x5 < (x0.length : Int) then (if 0 ≤ x5 then (if x5 < (x1.length : Int) then ((laws_eqPins.f k ((rd_T41 x0 x5).f0) ((rd_T41 x0 x5).f1) ((rd_T41 x1 x5).f0) ((rd_T41 x1 x5).f1)).bind fun t596 => (if t596 = true then (laws_eqPinsS.l0 k x0 x1 (wrap64 (x5 + 1))) else (some false))) else (none)) else (none)) else (some true)
def laws_eqPinsS.f (k : Nat) (l0 : List (S41)) (l1 : List (S41)) : Option (Bool) := if (l0.length : Int) = (l1.length : Int) then (laws_eqPinsS.l0 k l0 l1 0) else (some false)
def laws_eqPinsS.T6 : Bool × List (List Nat × List Nat) := (true, [([], []), ([], []), ([0, 1], [0, 1]), ([2], [2]), ([], []), ([], []), ([4, 5], [4, 5]), ([6], [6]), ([3, 7], [3, 7]), ([8], [8])])
def laws_eqPinsS.B6 : List Nat := [0, 0, 3, 7, 0, 0, 48, 112, 255, 511]
theorem laws_eqPinsS.tab6 : rtab .any (opsOf Try.f38 6) = laws_eqPinsS.T6 := by kernel_rfl
theorem laws_eqPinsS.bits6 : waitsOk laws_eqPinsS.T6.2 laws_eqPinsS.B6 = true := by kernel_rfl
set_option maxHeartbeats 8000000 in
set_option maxRecDepth 100000 in
theorem laws_eqPinsS.calls (k : Nat) (A0 : Option Addr) (c0 : Nat) (l0 : List (S41)) (A1 : Option Addr) (c1 : Nat) (l1 : List (S41)) (r : Bool) (w : World) (hr0 : Kd.C k41 w A0 l0.length l0) (hc0 : l0.length ≤ c0) (hr1 : Kd.C k41 w A1 l1.length l1) (hc1 : l1.length ≤ c1) (h : laws_eqPinsS.f k l0 l1 = some r) :
    Calls Try.prog 38 #[.slice A0 l0.length c0, .slice A1 l1.length c1] w fun e w' => e = .returned (.bool r) ∧ Below w.heap.size w w' := by
  have hu41 := Try.underlying41
  have HR0 := amk hr0
  have HC0 := amk hc0
  clear hr0 hc0
  have HR1 := amk hr1
  have HC1 := amk hc1
  clear hr1 hc1
  have HB := amk (Below.refl w.heap.size w)
  have H : (if (l0.length : Int) = (l1.length : Int) then (laws_eqPinsS.l0 k l0 l1 0) else (some false)) = some r := h
  clear h
  by_cases c3 : (l0.length : Int) = (l1.length : Int)
  · rw [if_pos c3] at H
    have c3b0 : ((l0.length : Int) == (l1.length : Int)) = true := beq_iff_eq.mpr c3
    have c3b1 : ((l0.length : Int) != (l1.length : Int)) = false := bne_eq_false_iff_eq.mpr c3
    have c3b2 : (l0.length == l1.length) = true := by first | simpa using c3 | (simp at c3 ⊢; omega)
    clear c3
    have H' := amk H
    clear H
    go_enter Try.func38, Try.ntmps38
    go_wp2
    go_loopg [5] k (fun kq v5 w' => ∃ (x5_1 : Int), v5 = .int .i64 x5_1 ∧ Aside0 (laws_eqPinsS.l0 kq l0 l1 x5_1 = some r) ∧ Aside0 (kq ≤ k) ∧ Aside0 (Below w.heap.size w w'))
    case atStart => exact ⟨(0), (by first | rfl | (simp; done) | (simp [*]; done)), H', ⟨Nat.le_refl _⟩, ⟨by repeat (first | (with_reducible first | exact HB.out | apply ba_ | apply bn_ | apply bd_) | exact HB.out)⟩⟩
    case round =>
      clear H'
      try clear c1; try clear p2; try clear c3; try clear c3b0; try clear c3b1; try clear c3b2
      obtain ⟨x5_1, rfl, HA, HK1, HB⟩ := hrel
      cases gk with
      | zero => exact absurd HA.out (by simp [laws_eqPinsS.l0])
      | succ k1 =>
        have H := HA.out
        clear HA
        simp only [laws_eqPinsS.l0] at H
        by_cases c4 : x5_1 < (l0.length : Int)
        · rw [if_pos c4] at H
          have c4b0 : decide (x5_1 < (l0.length : Int)) = true := decide_eq_true c4
          clear c4
          by_cases c5 : 0 ≤ x5_1
          · rw [if_pos c5] at H
            have c5b0 : decide (0 ≤ x5_1) = true := decide_eq_true c5
            clear c5
            by_cases c6 : x5_1 < (l1.length : Int)
            · rw [if_pos c6] at H
              have c6b0 : decide (x5_1 < (l1.length : Int)) = true := decide_eq_true c6
              clear c6
              replace H := Option.bind_eq_some_iff.mp H
              obtain ⟨t596, A70, H⟩ := H
              replace H : (if t596 = true then (laws_eqPinsS.l0 k1 l0 l1 (wrap64 (x5_1 + 1))) else (some false)) = some r := H
              have A7 := amk A70
              clear A70
              by_cases c8 : t596 = true
              · subst c8
                have H1 : (laws_eqPinsS.l0 k1 l0 l1 (wrap64 (x5_1 + 1))) = some r := by rw [if_pos rfl] at H; exact H
                clear H
                have H := H1
                clear H1
                have H' := amk H
                clear H
                try go_wp2
                have n0_ := amk (bd_ HB.out)
                clear HB
                have HB := n0_
                clear n0_
                have p594 : 0 ≤ (x5_1 : Int) := of_decide_eq_true (by first | (with_reducible assumption) | assumption)
                have q594 : x5_1 < (l0.length : Int) := of_decide_eq_true (by first | (with_reducible assumption) | assumption)
                obtain ⟨ad594, A594_1, c594_1, e594, hx594_0, hx594_1, hl594_1, hi594_1⟩ := at_T41 HR0.out x5_1 p594 q594
                have hw594_1 := hx594_1
                have hw594_0 := hx594_0
                cases e594
                replace hx594_0 := (HB.out.cell (World.block_lt_of_cell? w _ hx594_0)).trans hx594_0
                replace hx594_1 := (HB.out.cell (World.block_lt_of_cell? w _ hx594_1)).trans hx594_1
                have HR594_1 := amk hi594_1
                have HC594_1 := amk hl594_1
                clear hi594_1 hl594_1
                replace p594 := eq_true p594
                replace q594 := eq_true q594
                have p595 : 0 ≤ (x5_1 : Int) := of_decide_eq_true (by first | (with_reducible assumption) | assumption)
                have q595 : x5_1 < (l1.length : Int) := of_decide_eq_true (by first | (with_reducible assumption) | assumption)
                obtain ⟨ad595, A595_1, c595_1, e595, hx595_0, hx595_1, hl595_1, hi595_1⟩ := at_T41 HR1.out x5_1 p595 q595
                have hw595_1 := hx595_1
                have hw595_0 := hx595_0
                cases e595
                replace hx595_0 := (HB.out.cell (World.block_lt_of_cell? w _ hx595_0)).trans hx595_0
                replace hx595_1 := (HB.out.cell (World.block_lt_of_cell? w _ hx595_1)).trans hx595_1
                have HR595_1 := amk hi595_1
                have HC595_1 := amk hl595_1
                clear hi595_1 hl595_1
                replace p595 := eq_true p595
                replace q595 := eq_true q595
                refine start_ (n := 10) (S := fun w' => w'.cell? (ad594.add ((x5_1).toNat * 2)) = some (.int .i64 ((rd_T41 l0 x5_1).f0)) ∧ w'.cell? ⟨(ad594.add ((x5_1).toNat * 2)).block, (ad594.add ((x5_1).toNat * 2)).off + 1, none⟩ = some (.slice A594_1 ((rd_T41 l0 x5_1).f1).length c594_1) ∧ w'.cell? (ad595.add ((x5_1).toNat * 2)) = some (.int .i64 ((rd_T41 l1 x5_1).f0)) ∧ w'.cell? ⟨(ad595.add ((x5_1).toNat * 2)).block, (ad595.add ((x5_1).toNat * 2)).off + 1, none⟩ = some (.slice A595_1 ((rd_T41 l1 x5_1).f1).length c595_1)) (ds := []) #[false, false, false, false, false, false, false, false, false, false] (by kernel_rfl) rfl rfl ⟨((HB.out.cell (World.block_lt_of_cell? w _ hw594_0)).trans hw594_0), ((HB.out.cell (World.block_lt_of_cell? w _ hw594_1)).trans hw594_1), ((HB.out.cell (World.block_lt_of_cell? w _ hw595_0)).trans hw595_0), ((HB.out.cell (World.block_lt_of_cell? w _ hw595_1)).trans hw595_1)⟩ (fun hHeld => ?_); refine with_tabW laws_eqPinsS.tab6 laws_eqPinsS.bits6 (fun HT_ HW_ => ?_)
                generalize wr.drew = w9 at HB HR594_1 HR595_1 hx594_0 hx594_1 hx595_0 hx595_1 hHeld ⊢
                refine pure_ (i := 0) (N := some 17) (v := ?_) (a' := ?_) #[true, false, false, false, false, false, false, false, false, false] rfl rfl (any_of HT_.out (by kernel_rfl)) (fun _ _ _ h => h) (Or.inl ⟨by rfl, ?_⟩) ?_ ?_
                rotate_left
                · intro w'
                  go_simp
                  with_reducible rfl
                rotate_left
                · simp only [Act.put, List.setIfInBounds_toArray, List.set_cons_zero, List.set_cons_succ, i64_w, i32_w]
                  rfl
                refine pure_ (i := 1) (N := some 18) (v := ?_) (a' := ?_) #[true, true, false, false, false, false, false, false, false, false] rfl rfl (any_of HT_.out (by kernel_rfl)) (fun _ _ _ h => h) (Or.inl ⟨by rfl, ?_⟩) ?_ ?_
                rotate_left
                · intro w'
                  go_simp
                  with_reducible rfl
                rotate_left
                · simp only [Act.put, List.setIfInBounds_toArray, List.set_cons_zero, List.set_cons_succ, i64_w, i32_w]
                  rfl
                refine pure_ (i := 2) (N := some 19) (v := ?_) (a' := ?_) #[true, true, true, false, false, false, false, false, false, false] rfl rfl (any_of HT_.out (by kernel_rfl)) (fun _ _ _ h => h) (Or.inl ⟨by rfl, ?_⟩) ?_ ?_
                rotate_left
                · intro w'
                  go_simp
                  with_reducible rfl
                rotate_left
                · simp only [Act.put, List.setIfInBounds_toArray, List.set_cons_zero, List.set_cons_succ, i64_w, i32_w]
                  rfl
                refine pure_ (i := 4) (N := some 21) (v := ?_) (a' := ?_) #[true, true, true, false, true, false, false, false, false, false] rfl rfl (any_of HT_.out (by kernel_rfl)) (fun _ _ _ h => h) (Or.inl ⟨by rfl, ?_⟩) ?_ ?_
                rotate_left
                · intro w'
                  go_simp
                  with_reducible rfl
                rotate_left
                · simp only [Act.put, List.setIfInBounds_toArray, List.set_cons_zero, List.set_cons_succ, i64_w, i32_w]
                  rfl
                refine pure_ (i := 5) (N := some 22) (v := ?_) (a' := ?_) #[true, true, true, false, true, true, false, false, false, false] rfl rfl (any_of HT_.out (by kernel_rfl)) (fun _ _ _ h => h) (Or.inl ⟨by rfl, ?_⟩) ?_ ?_
                rotate_left
                · intro w'
                  go_simp
                  with_reducible rfl
                rotate_left
                · simp only [Act.put, List.setIfInBounds_toArray, List.set_cons_zero, List.set_cons_succ, i64_w, i32_w]
                  rfl
                refine pure_ (i := 6) (N := some 23) (v := ?_) (a' := ?_) #[true, true, true, false, true, true, true, false, false, false] rfl rfl (any_of HT_.out (by kernel_rfl)) (fun _ _ _ h => h) (Or.inl ⟨by rfl, ?_⟩) ?_ ?_
                rotate_left
                · intro w'
                  go_simp
                  with_reducible rfl
                rotate_left
                · simp only [Act.put, List.setIfInBounds_toArray, List.set_cons_zero, List.set_cons_succ, i64_w, i32_w]
                  rfl
                refine take_ (i := 3) (N := some 20) (v := ?_) (a' := ?_) #[true, true, true, true, true, true, true, false, false, false] rfl rfl (take_ofW HT_.out HW_.out (by kernel_rfl)) (fun _ _ _ h => h) (Or.inl ⟨by rfl, ?_⟩) hHeld ?_ ?_
                rotate_left
                · rintro w' ⟨s0, s1, s2, s3⟩
                  go_simp
                  with_reducible rfl
                rotate_left
                · simp only [Act.put, List.setIfInBounds_toArray, List.set_cons_zero, List.set_cons_succ, i64_w, i32_w]
                  rfl
                refine take_ (i := 7) (N := some 24) (v := ?_) (a' := ?_) #[true, true, true, true, true, true, true, true, false, false] rfl rfl (take_ofW HT_.out HW_.out (by kernel_rfl)) (fun _ _ _ h => h) (Or.inl ⟨by rfl, ?_⟩) hHeld ?_ ?_
                rotate_left
                · rintro w' ⟨s0, s1, s2, s3⟩
                  go_simp
                  with_reducible rfl
                rotate_left
                · simp only [Act.put, List.setIfInBounds_toArray, List.set_cons_zero, List.set_cons_succ, i64_w, i32_w]
                  rfl
                refine one_ (i := 8) (N := some 25) #[true, true, true, true, true, true, true, true, true, false] rfl rfl (one_of HT_.out (by kernel_rfl)) (by decide) (fun K hK => ?_)
                refine goes_ Try.func24 (by kernel_rfl) rfl #[.agg #[.int .i64 ((rd_T41 l0 x5_1).f0), .slice A594_1 ((rd_T41 l0 x5_1).f1).length c594_1], .agg #[.int .i64 ((rd_T41 l1 x5_1).f0), .slice A595_1 ((rd_T41 l1 x5_1).f1).length c595_1]] (by rfl) rfl rfl (by (try simp only [List.map_toArray, List.map_cons, List.map_nil]); first | done | rfl | (simp only [List.length_drop, List.length_take]; rfl)) ?_
                with_reducible refine (laws_eqPins.calls k1 ((rd_T41 l0 x5_1).f0) _ _ ((rd_T41 l0 x5_1).f1) ((rd_T41 l1 x5_1).f0) _ _ ((rd_T41 l1 x5_1).f1) true _ ?side1 ?side2 ?side3 ?side4 A7.out).mono ?_
                (case side1 => repeat (first | exact (Kd.C_below HR594_1.out HB.out) | (with_reducible refine Kd.C_alloc ?_ _) | (with_reducible refine Kd.C_drewN ?_ _) | (with_reducible refine Kd.C_drew ?_)))
                (case side2 => exact HC594_1.out)
                (case side3 => repeat (first | exact (Kd.C_below HR595_1.out HB.out) | (with_reducible refine Kd.C_alloc ?_ _) | (with_reducible refine Kd.C_drewN ?_ _) | (with_reducible refine Kd.C_drew ?_)))
                (case side4 => exact HC595_1.out)
                rintro e w10 ⟨rfl, hb⟩
                refine ⟨_, rfl, ?_⟩
                have n0_ := amk (bp_ (by repeat (first | (with_reducible first | exact HB.out | apply ba_ | apply bn_ | apply bd_) | exact HB.out)) hb)
                clear HB
                have HB := n0_
                clear n0_
                (try clear hb)
                (try clear hb2)
                (try clear hk)
                (try clear hi)
                refine hK.out _ _ ⟨((HB.out.cell (World.block_lt_of_cell? w _ hw594_0)).trans hw594_0), ((HB.out.cell (World.block_lt_of_cell? w _ hw594_1)).trans hw594_1), ((HB.out.cell (World.block_lt_of_cell? w _ hw595_0)).trans hw595_0), ((HB.out.cell (World.block_lt_of_cell? w _ hw595_1)).trans hw595_1)⟩ (fun hHeld => ?_)
                clear hK K
                refine norm_ (a' := ?_) ?_ ?_
                rotate_left
                · show Act.put _ (some 25) _ = _
                  simp only [Act.put, List.setIfInBounds_toArray, List.set_cons_zero, List.set_cons_succ, i64_w, i32_w]
                  rfl
                refine pure_ (i := 9) (N := some 26) (v := ?_) (a' := ?_) #[true, true, true, true, true, true, true, true, true, true] rfl rfl (any_of HT_.out (by kernel_rfl)) (fun _ _ _ h => h) (Or.inl ⟨by rfl, ?_⟩) ?_ ?_
                rotate_left
                · intro w'
                  go_simp
                  with_reducible rfl
                rotate_left
                · simp only [Act.put, List.setIfInBounds_toArray, List.set_cons_zero, List.set_cons_succ, i64_w, i32_w]
                  rfl
                refine done_ (done_of HT_.out (by kernel_rfl)) ?_
                try go_wp2
                go_roundg k1
                case measure => have := HK1.out; omega
                case rel => exact ⟨(wrap64 (x5_1 + 1)), (by first | rfl | (simp; done) | (simp [*]; done)), H', ⟨by have := HK1.out; omega⟩, ⟨by repeat (first | (with_reducible first | exact HB.out | apply ba_ | apply bn_ | apply bd_) | exact HB.out)⟩⟩
              · replace c8 := Bool.eq_false_iff.mpr c8
                subst c8
                have H1 : (some false) = some r := by rw [if_neg (show ¬ (false = true) by decide)] at H; exact H
                clear H
                have H := H1
                clear H1
                obtain rfl := Option.some.inj H
                try go_wp2
                have n0_ := amk (bd_ HB.out)
                clear HB
                have HB := n0_
                clear n0_
                have p594 : 0 ≤ (x5_1 : Int) := of_decide_eq_true (by first | (with_reducible assumption) | assumption)
                have q594 : x5_1 < (l0.length : Int) := of_decide_eq_true (by first | (with_reducible assumption) | assumption)
                obtain ⟨ad594, A594_1, c594_1, e594, hx594_0, hx594_1, hl594_1, hi594_1⟩ := at_T41 HR0.out x5_1 p594 q594
                have hw594_1 := hx594_1
                have hw594_0 := hx594_0
                cases e594
                replace hx594_0 := (HB.out.cell (World.block_lt_of_cell? w _ hx594_0)).trans hx594_0
                replace hx594_1 := (HB.out.cell (World.block_lt_of_cell? w _ hx594_1)).trans hx594_1
                have HR594_1 := amk hi594_1
                have HC594_1 := amk hl594_1
                clear hi594_1 hl594_1
                replace p594 := eq_true p594
                replace q594 := eq_true q594
                have p595 : 0 ≤ (x5_1 : Int) := of_decide_eq_true (by first | (with_reducible assumption) | assumption)
                have q595 : x5_1 < (l1.length : Int) := of_decide_eq_true (by first | (with_reducible assumption) | assumption)
                obtain ⟨ad595, A595_1, c595_1, e595, hx595_0, hx595_1, hl595_1, hi595_1⟩ := at_T41 HR1.out x5_1 p595 q595
                have hw595_1 := hx595_1
                have hw595_0 := hx595_0
                cases e595
                replace hx595_0 := (HB.out.cell (World.block_lt_of_cell? w _ hx595_0)).trans hx595_0
                replace hx595_1 := (HB.out.cell (World.block_lt_of_cell? w _ hx595_1)).trans hx595_1
                have HR595_1 := amk hi595_1
                have HC595_1 := amk hl595_1
                clear hi595_1 hl595_1
                replace p595 := eq_true p595
                replace q595 := eq_true q595
                refine start_ (n := 10) (S := fun w' => w'.cell? (ad594.add ((x5_1).toNat * 2)) = some (.int .i64 ((rd_T41 l0 x5_1).f0)) ∧ w'.cell? ⟨(ad594.add ((x5_1).toNat * 2)).block, (ad594.add ((x5_1).toNat * 2)).off + 1, none⟩ = some (.slice A594_1 ((rd_T41 l0 x5_1).f1).length c594_1) ∧ w'.cell? (ad595.add ((x5_1).toNat * 2)) = some (.int .i64 ((rd_T41 l1 x5_1).f0)) ∧ w'.cell? ⟨(ad595.add ((x5_1).toNat * 2)).block, (ad595.add ((x5_1).toNat * 2)).off + 1, none⟩ = some (.slice A595_1 ((rd_T41 l1 x5_1).f1).length c595_1)) (ds := []) #[false, false, false, false, false, false, false, false, false, false] (by kernel_rfl) rfl rfl ⟨((HB.out.cell (World.block_lt_of_cell? w _ hw594_0)).trans hw594_0), ((HB.out.cell (World.block_lt_of_cell? w _ hw594_1)).trans hw594_1), ((HB.out.cell (World.block_lt_of_cell? w _ hw595_0)).trans hw595_0), ((HB.out.cell (World.block_lt_of_cell? w _ hw595_1)).trans hw595_1)⟩ (fun hHeld => ?_); refine with_tabW laws_eqPinsS.tab6 laws_eqPinsS.bits6 (fun HT_ HW_ => ?_)
                generalize wr.drew = w11 at HB HR594_1 HR595_1 hx594_0 hx594_1 hx595_0 hx595_1 hHeld ⊢
                refine pure_ (i := 0) (N := some 17) (v := ?_) (a' := ?_) #[true, false, false, false, false, false, false, false, false, false] rfl rfl (any_of HT_.out (by kernel_rfl)) (fun _ _ _ h => h) (Or.inl ⟨by rfl, ?_⟩) ?_ ?_
                rotate_left
                · intro w'
                  go_simp
                  with_reducible rfl
                rotate_left
                · simp only [Act.put, List.setIfInBounds_toArray, List.set_cons_zero, List.set_cons_succ, i64_w, i32_w]
                  rfl
                refine pure_ (i := 1) (N := some 18) (v := ?_) (a' := ?_) #[true, true, false, false, false, false, false, false, false, false] rfl rfl (any_of HT_.out (by kernel_rfl)) (fun _ _ _ h => h) (Or.inl ⟨by rfl, ?_⟩) ?_ ?_
                rotate_left
                · intro w'
                  go_simp
                  with_reducible rfl
                rotate_left
                · simp only [Act.put, List.setIfInBounds_toArray, List.set_cons_zero, List.set_cons_succ, i64_w, i32_w]
                  rfl
                refine pure_ (i := 2) (N := some 19) (v := ?_) (a' := ?_) #[true, true, true, false, false, false, false, false, false, false] rfl rfl (any_of HT_.out (by kernel_rfl)) (fun _ _ _ h => h) (Or.inl ⟨by rfl, ?_⟩) ?_ ?_
                rotate_left
                · intro w'
                  go_simp
                  with_reducible rfl
                rotate_left
                · simp only [Act.put, List.setIfInBounds_toArray, List.set_cons_zero, List.set_cons_succ, i64_w, i32_w]
                  rfl
                refine pure_ (i := 4) (N := some 21) (v := ?_) (a' := ?_) #[true, true, true, false, true, false, false, false, false, false] rfl rfl (any_of HT_.out (by kernel_rfl)) (fun _ _ _ h => h) (Or.inl ⟨by rfl, ?_⟩) ?_ ?_
                rotate_left
                · intro w'
                  go_simp
                  with_reducible rfl
                rotate_left
                · simp only [Act.put, List.setIfInBounds_toArray, List.set_cons_zero, List.set_cons_succ, i64_w, i32_w]
                  rfl
                refine pure_ (i := 5) (N := some 22) (v := ?_) (a' := ?_) #[true, true, true, false, true, true, false, false, false, false] rfl rfl (any_of HT_.out (by kernel_rfl)) (fun _ _ _ h => h) (Or.inl ⟨by rfl, ?_⟩) ?_ ?_
                rotate_left
                · intro w'
                  go_simp
                  with_reducible rfl
                rotate_left
                · simp only [Act.put, List.setIfInBounds_toArray, List.set_cons_zero, List.set_cons_succ, i64_w, i32_w]
                  rfl
                refine pure_ (i := 6) (N := some 23) (v := ?_) (a' := ?_) #[true, true, true, false, true, true, true, false, false, false] rfl rfl (any_of HT_.out (by kernel_rfl)) (fun _ _ _ h => h) (Or.inl ⟨by rfl, ?_⟩) ?_ ?_
                rotate_left
                · intro w'
                  go_simp
                  with_reducible rfl
                rotate_left
                · simp only [Act.put, List.setIfInBounds_toArray, List.set_cons_zero, List.set_cons_succ, i64_w, i32_w]
                  rfl
                refine take_ (i := 3) (N := some 20) (v := ?_) (a' := ?_) #[true, true, true, true, true, true, true, false, false, false] rfl rfl (take_ofW HT_.out HW_.out (by kernel_rfl)) (fun _ _ _ h => h) (Or.inl ⟨by rfl, ?_⟩) hHeld ?_ ?_
                rotate_left
                · rintro w' ⟨s0, s1, s2, s3⟩
                  go_simp
                  with_reducible rfl
                rotate_left
                · simp only [Act.put, List.setIfInBounds_toArray, List.set_cons_zero, List.set_cons_succ, i64_w, i32_w]
                  rfl
                refine take_ (i := 7) (N := some 24) (v := ?_) (a' := ?_) #[true, true, true, true, true, true, true, true, false, false] rfl rfl (take_ofW HT_.out HW_.out (by kernel_rfl)) (fun _ _ _ h => h) (Or.inl ⟨by rfl, ?_⟩) hHeld ?_ ?_
                rotate_left
                · rintro w' ⟨s0, s1, s2, s3⟩
                  go_simp
                  with_reducible rfl
                rotate_left
                · simp only [Act.put, List.setIfInBounds_toArray, List.set_cons_zero, List.set_cons_succ, i64_w, i32_w]
                  rfl
                refine one_ (i := 8) (N := some 25) #[true, true, true, true, true, true, true, true, true, false] rfl rfl (one_of HT_.out (by kernel_rfl)) (by decide) (fun K hK => ?_)
                refine goes_ Try.func24 (by kernel_rfl) rfl #[.agg #[.int .i64 ((rd_T41 l0 x5_1).f0), .slice A594_1 ((rd_T41 l0 x5_1).f1).length c594_1], .agg #[.int .i64 ((rd_T41 l1 x5_1).f0), .slice A595_1 ((rd_T41 l1 x5_1).f1).length c595_1]] (by rfl) rfl rfl (by (try simp only [List.map_toArray, List.map_cons, List.map_nil]); first | done | rfl | (simp only [List.length_drop, List.length_take]; rfl)) ?_
                with_reducible refine (laws_eqPins.calls k1 ((rd_T41 l0 x5_1).f0) _ _ ((rd_T41 l0 x5_1).f1) ((rd_T41 l1 x5_1).f0) _ _ ((rd_T41 l1 x5_1).f1) false _ ?side1 ?side2 ?side3 ?side4 A7.out).mono ?_
                (case side1 => repeat (first | exact (Kd.C_below HR594_1.out HB.out) | (with_reducible refine Kd.C_alloc ?_ _) | (with_reducible refine Kd.C_drewN ?_ _) | (with_reducible refine Kd.C_drew ?_)))
                (case side2 => exact HC594_1.out)
                (case side3 => repeat (first | exact (Kd.C_below HR595_1.out HB.out) | (with_reducible refine Kd.C_alloc ?_ _) | (with_reducible refine Kd.C_drewN ?_ _) | (with_reducible refine Kd.C_drew ?_)))
                (case side4 => exact HC595_1.out)
                rintro e w12 ⟨rfl, hb⟩
                refine ⟨_, rfl, ?_⟩
                have n0_ := amk (bp_ (by repeat (first | (with_reducible first | exact HB.out | apply ba_ | apply bn_ | apply bd_) | exact HB.out)) hb)
                clear HB
                have HB := n0_
                clear n0_
                (try clear hb)
                (try clear hb2)
                (try clear hk)
                (try clear hi)
                refine hK.out _ _ ⟨((HB.out.cell (World.block_lt_of_cell? w _ hw594_0)).trans hw594_0), ((HB.out.cell (World.block_lt_of_cell? w _ hw594_1)).trans hw594_1), ((HB.out.cell (World.block_lt_of_cell? w _ hw595_0)).trans hw595_0), ((HB.out.cell (World.block_lt_of_cell? w _ hw595_1)).trans hw595_1)⟩ (fun hHeld => ?_)
                clear hK K
                refine norm_ (a' := ?_) ?_ ?_
                rotate_left
                · show Act.put _ (some 25) _ = _
                  simp only [Act.put, List.setIfInBounds_toArray, List.set_cons_zero, List.set_cons_succ, i64_w, i32_w]
                  rfl
                refine pure_ (i := 9) (N := some 26) (v := ?_) (a' := ?_) #[true, true, true, true, true, true, true, true, true, true] rfl rfl (any_of HT_.out (by kernel_rfl)) (fun _ _ _ h => h) (Or.inl ⟨by rfl, ?_⟩) ?_ ?_
                rotate_left
                · intro w'
                  go_simp
                  with_reducible rfl
                rotate_left
                · simp only [Act.put, List.setIfInBounds_toArray, List.set_cons_zero, List.set_cons_succ, i64_w, i32_w]
                  rfl
                refine done_ (done_of HT_.out (by kernel_rfl)) ?_
                try go_wp2
                go_ret
                exact ⟨by first | rfl | (simp [errW_none, errW_some] <;> rfl) | (simp [*, errW_none, errW_some] <;> rfl), by repeat (first | (with_reducible first | exact HB.out | apply ba_ | apply bn_ | apply bd_) | exact HB.out)⟩
            · rw [if_neg c6] at H
              exact absurd H (by simp)
          · rw [if_neg c5] at H
            exact absurd H (by simp)
        · rw [if_neg c4] at H
          have c4b0 : decide (x5_1 < (l0.length : Int)) = false := decide_eq_false c4
          clear c4
          obtain rfl := Option.some.inj H
          go_wp2
          go_ret
          exact ⟨by first | rfl | (simp [errW_none, errW_some] <;> rfl) | (simp [*, errW_none, errW_some] <;> rfl), by repeat (first | (with_reducible first | exact HB.out | apply ba_ | apply bn_ | apply bd_) | exact HB.out)⟩
  · rw [if_neg c3] at H
    have c3b0 : ((l0.length : Int) == (l1.length : Int)) = false := beq_eq_false_iff_ne.mpr c3
    have c3b1 : ((l0.length : Int) != (l1.length : Int)) = true := bne_iff_ne.mpr c3
    have c3b2 : (l0.length == l1.length) = false := by first | simpa using c3 | (simp at c3 ⊢; omega)
    obtain rfl := Option.some.inj H
    go_enter Try.func38, Try.ntmps38
    go_wp2
    go_ret
    exact ⟨by first | rfl | (simp [errW_none, errW_some] <;> rfl) | (simp [*, errW_none, errW_some] <;> rfl), by repeat (first | (with_reducible first | exact HB.out | apply ba_ | apply bn_ | apply bd_) | exact HB.out)⟩
/-! ### laws_szIntS: function 126 -/
def laws_szIntS.f (l0 : List Int) (a1 : Int) : Option (Int) := if (wrap64 (a1 - (l0.length : Int))) < 0 then (some (-1)) else (some (wrap64 (a1 - (l0.length : Int))))
set_option maxHeartbeats 8000000 in
set_option maxRecDepth 100000 in
theorem laws_szIntS.calls (A0 : Option Addr) (c0 : Nat) (l0 : List Int) (a1 : Int) (r : Int) (w : World) (hr0 : Kd.C (Kd.int .i64) w A0 l0.length l0) (hc0 : l0.length ≤ c0) (h : laws_szIntS.f l0 a1 = some r) :
    Calls Try.prog 126 #[.slice A0 l0.length c0, .int .i64 a1] w fun e w' => e = .returned (.int .i64 r) ∧ Drawn0 w w' := by
  have HR0 := amk hr0
  have HC0 := amk hc0
  clear hr0 hc0
  have H : (if (wrap64 (a1 - (l0.length : Int))) < 0 then (some (-1)) else (some (wrap64 (a1 - (l0.length : Int))))) = some r := h
  clear h
  by_cases c3 : (wrap64 (a1 - (l0.length : Int))) < 0
  · rw [if_pos c3] at H
    have c3b0 : decide ((wrap64 (a1 - (l0.length : Int))) < 0) = true := decide_eq_true c3
    clear c3
    obtain rfl := Option.some.inj H
    go_enter Try.func126, Try.ntmps126
    go_wp2
    go_ret
    exact ⟨by first | rfl | (simp; done) | (simp [*]; done), by repeat (first | exact Drawn0.refl _ | apply Drawn0.step)⟩
  · rw [if_neg c3] at H
    have c3b0 : decide ((wrap64 (a1 - (l0.length : Int))) < 0) = false := decide_eq_false c3
    clear c3
    obtain rfl := Option.some.inj H
    go_enter Try.func126, Try.ntmps126
    go_wp2
    go_ret
    exact ⟨by first | rfl | (simp; done) | (simp [*]; done), by repeat (first | exact Drawn0.refl _ | apply Drawn0.step)⟩
/-! ### laws_szIntSS: function 72 -/
def laws_szIntSS.l0 : Nat → List (List Int) → Int → Int → Option (Int)
  | 0, _, _, _ => none
  | k + 1, x0, x1, x5 => if x5 < (x0.length : Int) then (if 0 ≤ x5 then ((laws_szIntS.f (rd_L5 x0 x5) x1).bind fun t197 => (if t197 < 0 then (some (-1)) else (laws_szIntSS.l0 k x0 t197 (wrap64 (x5 + 1))))) else (none)) else (some x1)
def laws_szIntSS.f (k : Nat) (l0 : List (List Int)) (a1 : Int) : Option (Int) := if (wrap64 (a1 - (l0.length : Int))) < 0 then (some (-1)) else (laws_szIntSS.l0 k l0 (wrap64 (a1 - (l0.length : Int))) 0)
set_option maxHeartbeats 8000000 in
set_option maxRecDepth 100000 in
theorem laws_szIntSS.calls (k : Nat) (A0 : Option Addr) (c0 : Nat) (l0 : List (List Int)) (a1 : Int) (r : Int) (w : World) (hr0 : Kd.C (Kd.slice 3 (Kd.int .i64)) w A0 l0.length l0) (hc0 : l0.length ≤ c0) (h : laws_szIntSS.f k l0 a1 = some r) :
    Calls Try.prog 72 #[.slice A0 l0.length c0, .int .i64 a1] w fun e w' => e = .returned (.int .i64 r) ∧ Drawn0 w w' := by
  have HR0 := amk hr0
  have HC0 := amk hc0
  clear hr0 hc0
  have H : (if (wrap64 (a1 - (l0.length : Int))) < 0 then (some (-1)) else (laws_szIntSS.l0 k l0 (wrap64 (a1 - (l0.length : Int))) 0)) = some r := h
  clear h
  by_cases c3 : (wrap64 (a1 - (l0.length : Int))) < 0
  · rw [if_pos c3] at H
    have c3b0 : decide ((wrap64 (a1 - (l0.length : Int))) < 0) = true := decide_eq_true c3
    clear c3
    obtain rfl := Option.some.inj H
    go_enter Try.func72, Try.ntmps72
    go_wp2
    go_ret
    exact ⟨by first | rfl | (simp; done) | (simp [*]; done), by repeat (first | exact Drawn0.refl _ | apply Drawn0.step)⟩
  · rw [if_neg c3] at H
    have c3b0 : decide ((wrap64 (a1 - (l0.length : Int))) < 0) = false := decide_eq_false c3
    clear c3
    have H' := amk H
    clear H
    go_enter Try.func72, Try.ntmps72
    go_wp2
    go_loopg [1, 5] k (fun kq v1 v5 w' => ∃ (x1_1 : Int) (x5_1 : Int), v1 = .int .i64 x1_1 ∧ v5 = .int .i64 x5_1 ∧ Aside0 (laws_szIntSS.l0 kq l0 x1_1 x5_1 = some r) ∧ Aside0 (kq ≤ k) ∧ Drawn0 w w')
    case atStart => exact ⟨(wrap64 (a1 - (l0.length : Int))), (0), (by first | rfl | (simp; done) | (simp [*]; done)), (by first | rfl | (simp; done) | (simp [*]; done)), H', ⟨Nat.le_refl _⟩, by repeat (first | exact Drawn0.refl _ | apply Drawn0.step)⟩
    case round =>
      clear H'
      try clear p2; try clear c3; try clear c3b0
      obtain ⟨x1_1, x5_1, rfl, rfl, HA, HK1, ⟨m1, rfl⟩⟩ := hrel
      cases gk with
      | zero => exact absurd HA.out (by simp [laws_szIntSS.l0])
      | succ k1 =>
        have H := HA.out
        clear HA
        simp only [laws_szIntSS.l0] at H
        by_cases c4 : x5_1 < (l0.length : Int)
        · rw [if_pos c4] at H
          have c4b0 : decide (x5_1 < (l0.length : Int)) = true := decide_eq_true c4
          clear c4
          by_cases c5 : 0 ≤ x5_1
          · rw [if_pos c5] at H
            have c5b0 : decide (0 ≤ x5_1) = true := decide_eq_true c5
            clear c5
            replace H := Option.bind_eq_some_iff.mp H
            obtain ⟨t197, A60, H⟩ := H
            replace H : (if t197 < 0 then (some (-1)) else (laws_szIntSS.l0 k1 l0 t197 (wrap64 (x5_1 + 1)))) = some r := H
            have A6 := amk A60
            clear A60
            by_cases c7 : t197 < 0
            · rw [if_pos c7] at H
              have c7b0 : decide (t197 < 0) = true := decide_eq_true c7
              clear c7
              obtain rfl := Option.some.inj H
              have p196 : 0 ≤ (x5_1 : Int) := of_decide_eq_true (by first | (with_reducible assumption) | assumption)
              have q196 : x5_1 < (l0.length : Int) := of_decide_eq_true (by first | (with_reducible assumption) | assumption)
              obtain ⟨ad196, A196_0, c196_0, e196, hx196_0, hl196_0, hi196_0⟩ := at_L5 HR0.out x5_1 p196 q196
              cases e196
              have HR196_0 := amk hi196_0
              have HC196_0 := amk hl196_0
              clear hi196_0 hl196_0
              replace p196 := eq_true p196
              replace q196 := eq_true q196
              go_wp2_with (first | ((with_reducible refine gate_callee (f := 126) rfl ?_); refine goesL_ (some 23) rfl rfl Try.func126 (by kernel_rfl) rfl #[.slice A196_0 (rd_L5 l0 x5_1).length c196_0, .int .i64 x1_1] rfl (by (try simp only [List.map_toArray, List.map_cons, List.map_nil]); first | done | rfl | (simp only [List.length_drop, List.length_take]; rfl)) ?_; (with_reducible refine (laws_szIntS.calls _ _ (rd_L5 l0 x5_1) x1_1 t197 _ ?side1 ?side2 A6.out).mono ?_); (case side1 => repeat (first | exact HR196_0.out | (with_reducible refine Kd.C_alloc ?_ _) | (with_reducible refine Kd.C_drewN ?_ _) | (with_reducible refine Kd.C_drew ?_))); (case side2 => exact HC196_0.out); rintro e w' ⟨rfl, ⟨nd, rfl⟩⟩; refine ⟨_, rfl, ?_⟩))
              go_ret
              exact ⟨by first | rfl | (simp; done) | (simp [*]; done), by repeat (first | exact Drawn0.refl _ | apply Drawn0.step)⟩
            · rw [if_neg c7] at H
              have c7b0 : decide (t197 < 0) = false := decide_eq_false c7
              clear c7
              have H' := amk H
              clear H
              have p196 : 0 ≤ (x5_1 : Int) := of_decide_eq_true (by first | (with_reducible assumption) | assumption)
              have q196 : x5_1 < (l0.length : Int) := of_decide_eq_true (by first | (with_reducible assumption) | assumption)
              obtain ⟨ad196, A196_0, c196_0, e196, hx196_0, hl196_0, hi196_0⟩ := at_L5 HR0.out x5_1 p196 q196
              cases e196
              have HR196_0 := amk hi196_0
              have HC196_0 := amk hl196_0
              clear hi196_0 hl196_0
              replace p196 := eq_true p196
              replace q196 := eq_true q196
              go_wp2_with (first | ((with_reducible refine gate_callee (f := 126) rfl ?_); refine goesL_ (some 23) rfl rfl Try.func126 (by kernel_rfl) rfl #[.slice A196_0 (rd_L5 l0 x5_1).length c196_0, .int .i64 x1_1] rfl (by (try simp only [List.map_toArray, List.map_cons, List.map_nil]); first | done | rfl | (simp only [List.length_drop, List.length_take]; rfl)) ?_; (with_reducible refine (laws_szIntS.calls _ _ (rd_L5 l0 x5_1) x1_1 t197 _ ?side1 ?side2 A6.out).mono ?_); (case side1 => repeat (first | exact HR196_0.out | (with_reducible refine Kd.C_alloc ?_ _) | (with_reducible refine Kd.C_drewN ?_ _) | (with_reducible refine Kd.C_drew ?_))); (case side2 => exact HC196_0.out); rintro e w' ⟨rfl, ⟨nd, rfl⟩⟩; refine ⟨_, rfl, ?_⟩))
              go_roundg k1
              case measure => have := HK1.out; omega
              case rel => exact ⟨(t197), (wrap64 (x5_1 + 1)), (by first | rfl | (simp; done) | (simp [*]; done)), (by first | rfl | (simp; done) | (simp [*]; done)), H', ⟨by have := HK1.out; omega⟩, by repeat (first | exact Drawn0.refl _ | apply Drawn0.step)⟩
          · rw [if_neg c5] at H
            exact absurd H (by simp)
        · rw [if_neg c4] at H
          have c4b0 : decide (x5_1 < (l0.length : Int)) = false := decide_eq_false c4
          clear c4
          obtain rfl := Option.some.inj H
          go_wp2
          go_ret
          exact ⟨by first | rfl | (simp; done) | (simp [*]; done), by repeat (first | exact Drawn0.refl _ | apply Drawn0.step)⟩
/-! ### laws_szPins: function 20 -/
def laws_szPins.f (k : Nat) (a0_0 : Int) (l0_1 : List (List Int)) (a1 : Int) : Option (Int) := (laws_szIntSS.f k l0_1 a1).bind fun t199 => (if t199 < 0 then (some (-1)) else (some t199))
set_option maxHeartbeats 8000000 in
set_option maxRecDepth 100000 in
theorem laws_szPins.calls (k : Nat) (a0_0 : Int) (A0_1 : Option Addr) (c0_1 : Nat) (l0_1 : List (List Int)) (a1 : Int) (r : Int) (w : World) (hr0_1 : Kd.C (Kd.slice 3 (Kd.int .i64)) w A0_1 l0_1.length l0_1) (hc0_1 : l0_1.length ≤ c0_1) (h : laws_szPins.f k a0_0 l0_1 a1 = some r) :
    Calls Try.prog 20 #[.agg #[.int .i64 a0_0, .slice A0_1 l0_1.length c0_1], .int .i64 a1] w fun e w' => e = .returned (.int .i64 r) ∧ Below w.heap.size w w' := by
  have hu37 := Try.underlying37
  have HR0_1 := amk hr0_1
  have HC0_1 := amk hc0_1
  clear hr0_1 hc0_1
  have HB := amk (Below.refl w.heap.size w)
  have H : ((laws_szIntSS.f k l0_1 a1).bind fun t199 => (if t199 < 0 then (some (-1)) else (some t199))) = some r := h
  clear h
  replace H := Option.bind_eq_some_iff.mp H
  obtain ⟨t199, A30, H⟩ := H
  replace H : (if t199 < 0 then (some (-1)) else (some t199)) = some r := H
  have A3 := amk A30
  clear A30
  by_cases c4 : t199 < 0
  · rw [if_pos c4] at H
    have c4b0 : decide (t199 < 0) = true := decide_eq_true c4
    clear c4
    obtain rfl := Option.some.inj H
    go_enter Try.func20, Try.ntmps20
    go_wp2_with (first | ((with_reducible refine gate_dst (N := 2) rfl ?_); refine box_event ?hg (N := 2) ?hd (cs := #[.int .i64 a0_0, .slice A0_1 l0_1.length c0_1]) (t := 37) ?hr ?_; (case hd => rfl); (case hg => rfl); (case hr => first | (go_simp; done) | (go_simp; rfl)); intro gb198 hg w5 hbox hb; have n0_ := amk (bp_ (by repeat (first | (with_reducible first | exact HB.out | apply ba_ | apply bn_ | apply bd_) | exact HB.out)) hb); have n1_ := amk (hbox); have n2_ := amk ((by rw [hg]; exact (below_size (by repeat (first | (with_reducible first | exact HB.out | apply ba_ | apply bn_ | apply bd_) | exact HB.out))) : w.heap.size ≤ gb198)); have n3_ := amk ((by rw [hg]; exact (below_size (by repeat (first | (with_reducible first | exact HB.out | apply ba_ | apply bn_ | apply bd_) | exact HB.out))) : w.heap.size ≤ gb198)); clear HB; have HB := n0_; have BK198 := n1_; have GW198 := n2_; have GE198 := n3_; clear n0_ n1_ n2_ n3_; clear hb hbox hg; have hcz6_0 : w5.cell? ⟨gb198, 0, none⟩ = some (.int .i64 a0_0) := (blk_cell BK198.out 0).trans rfl; have hcz6_1 : w5.cell? ⟨gb198, 1, none⟩ = some (.slice A0_1 l0_1.length c0_1) := (blk_cell BK198.out 1).trans rfl; have hfz6_0 := blk_frozen BK198.out 0; have hfz6_1 := blk_frozen BK198.out 1) | ((with_reducible refine gate_callee (f := 72) rfl ?_); refine goesL_ (some 8) rfl rfl Try.func72 (by kernel_rfl) rfl #[.slice A0_1 l0_1.length c0_1, .int .i64 a1] rfl (by (try simp only [List.map_toArray, List.map_cons, List.map_nil]); first | done | rfl | (simp only [List.length_drop, List.length_take]; rfl)) ?_; (with_reducible refine (laws_szIntSS.calls k _ _ l0_1 a1 t199 _ ?side1 ?side2 A3.out).mono ?_); (case side1 => repeat (first | exact (Kd.C_below HR0_1.out HB.out) | (with_reducible refine Kd.C_alloc ?_ _) | (with_reducible refine Kd.C_drewN ?_ _) | (with_reducible refine Kd.C_drew ?_))); (case side2 => exact HC0_1.out); rintro e w' ⟨rfl, ⟨nd, rfl⟩⟩; refine ⟨_, rfl, ?_⟩))
    go_ret
    exact ⟨by first | rfl | (simp [errW_none, errW_some] <;> rfl) | (simp [*, errW_none, errW_some] <;> rfl), by repeat (first | (with_reducible first | exact HB.out | apply ba_ | apply bn_ | apply bd_ | refine bs_ ?_ GE198.out) | exact HB.out)⟩
  · rw [if_neg c4] at H
    have c4b0 : decide (t199 < 0) = false := decide_eq_false c4
    clear c4
    obtain rfl := Option.some.inj H
    go_enter Try.func20, Try.ntmps20
    go_wp2_with (first | ((with_reducible refine gate_dst (N := 2) rfl ?_); refine box_event ?hg (N := 2) ?hd (cs := #[.int .i64 a0_0, .slice A0_1 l0_1.length c0_1]) (t := 37) ?hr ?_; (case hd => rfl); (case hg => rfl); (case hr => first | (go_simp; done) | (go_simp; rfl)); intro gb198 hg w7 hbox hb; have n0_ := amk (bp_ (by repeat (first | (with_reducible first | exact HB.out | apply ba_ | apply bn_ | apply bd_) | exact HB.out)) hb); have n1_ := amk (hbox); have n2_ := amk ((by rw [hg]; exact (below_size (by repeat (first | (with_reducible first | exact HB.out | apply ba_ | apply bn_ | apply bd_) | exact HB.out))) : w.heap.size ≤ gb198)); have n3_ := amk ((by rw [hg]; exact (below_size (by repeat (first | (with_reducible first | exact HB.out | apply ba_ | apply bn_ | apply bd_) | exact HB.out))) : w.heap.size ≤ gb198)); clear HB; have HB := n0_; have BK198 := n1_; have GW198 := n2_; have GE198 := n3_; clear n0_ n1_ n2_ n3_; clear hb hbox hg; have hcz8_0 : w7.cell? ⟨gb198, 0, none⟩ = some (.int .i64 a0_0) := (blk_cell BK198.out 0).trans rfl; have hcz8_1 : w7.cell? ⟨gb198, 1, none⟩ = some (.slice A0_1 l0_1.length c0_1) := (blk_cell BK198.out 1).trans rfl; have hfz8_0 := blk_frozen BK198.out 0; have hfz8_1 := blk_frozen BK198.out 1) | ((with_reducible refine gate_callee (f := 72) rfl ?_); refine goesL_ (some 8) rfl rfl Try.func72 (by kernel_rfl) rfl #[.slice A0_1 l0_1.length c0_1, .int .i64 a1] rfl (by (try simp only [List.map_toArray, List.map_cons, List.map_nil]); first | done | rfl | (simp only [List.length_drop, List.length_take]; rfl)) ?_; (with_reducible refine (laws_szIntSS.calls k _ _ l0_1 a1 t199 _ ?side1 ?side2 A3.out).mono ?_); (case side1 => repeat (first | exact (Kd.C_below HR0_1.out HB.out) | (with_reducible refine Kd.C_alloc ?_ _) | (with_reducible refine Kd.C_drewN ?_ _) | (with_reducible refine Kd.C_drew ?_))); (case side2 => exact HC0_1.out); rintro e w' ⟨rfl, ⟨nd, rfl⟩⟩; refine ⟨_, rfl, ?_⟩))
    go_ret
    exact ⟨by first | rfl | (simp [errW_none, errW_some] <;> rfl) | (simp [*, errW_none, errW_some] <;> rfl), by repeat (first | (with_reducible first | exact HB.out | apply ba_ | apply bn_ | apply bd_ | refine bs_ ?_ GE198.out) | exact HB.out)⟩
/-! ### laws_szPinsS: function 34 -/
def laws_szPinsS.l0 : Nat → List (S37) → Int → Int → Option (Int)
  | 0, _, _, _ => none
  | k + 1, x0, x1, x5 => if x5 < (x0.length : Int) then (if 0 ≤ x5 then ((laws_szPins.f k ((rd_T37 x0 x5).f0) ((rd_T37 x0 x5).f1) x1).bind fun t561 => (if t561 < 0 then (some (-1)) else (laws_szPinsS.l0 k x0 t561 (wrap64 (x5 + 1))))) else (none)) else (some x1)
def laws_szPinsS.f (k : Nat) (l0 : List (S37)) (a1 : Int) : Option (Int) := if (wrap64 (a1 - (l0.length : Int))) < 0 then (some (-1)) else (laws_szPinsS.l0 k l0 (wrap64 (a1 - (l0.length : Int))) 0)
set_option maxHeartbeats 8000000 in
set_option maxRecDepth 100000 in
theorem laws_szPinsS.calls (k : Nat) (A0 : Option Addr) (c0 : Nat) (l0 : List (S37)) (a1 : Int) (r : Int) (w : World) (hr0 : Kd.C k37 w A0 l0.length l0) (hc0 : l0.length ≤ c0) (h : laws_szPinsS.f k l0 a1 = some r) :
    Calls Try.prog 34 #[.slice A0 l0.length c0, .int .i64 a1] w fun e w' => e = .returned (.int .i64 r) ∧ Below w.heap.size w w' := by
  have hu37 := Try.underlying37
  have HR0 := amk hr0
  have HC0 := amk hc0
  clear hr0 hc0
  have HB := amk (Below.refl w.heap.size w)
  have H : (if (wrap64 (a1 - (l0.length : Int))) < 0 then (some (-1)) else (laws_szPinsS.l0 k l0 (wrap64 (a1 - (l0.length : Int))) 0)) = some r := h
  clear h
  by_cases c3 : (wrap64 (a1 - (l0.length : Int))) < 0
  · rw [if_pos c3] at H
    have c3b0 : decide ((wrap64 (a1 - (l0.length : Int))) < 0) = true := decide_eq_true c3
    clear c3
    obtain rfl := Option.some.inj H
    go_enter Try.func34, Try.ntmps34
    go_wp2
    go_ret
    exact ⟨by first | rfl | (simp [errW_none, errW_some] <;> rfl) | (simp [*, errW_none, errW_some] <;> rfl), by repeat (first | (with_reducible first | exact HB.out | apply ba_ | apply bn_ | apply bd_) | exact HB.out)⟩
  · rw [if_neg c3] at H
    have c3b0 : decide ((wrap64 (a1 - (l0.length : Int))) < 0) = false := decide_eq_false c3
    clear c3
    have H' := amk H
    clear H
    go_enter Try.func34, Try.ntmps34
    go_wp2
    go_loopg [1, 5] k (fun kq v1 v5 w' => ∃ (x1_1 : Int) (x5_1 : Int), v1 = .int .i64 x1_1 ∧ v5 = .int .i64 x5_1 ∧ Aside0 (laws_szPinsS.l0 kq l0 x1_1 x5_1 = some r) ∧ Aside0 (kq ≤ k) ∧ Aside0 (Below w.heap.size w w'))
    case atStart => exact ⟨(wrap64 (a1 - (l0.length : Int))), (0), (by first | rfl | (simp; done) | (simp [*]; done)), (by first | rfl | (simp; done) | (simp [*]; done)), H', ⟨Nat.le_refl _⟩, ⟨by repeat (first | (with_reducible first | exact HB.out | apply ba_ | apply bn_ | apply bd_) | exact HB.out)⟩⟩
    case round =>
      clear H'
      try clear p2; try clear c3; try clear c3b0
      obtain ⟨x1_1, x5_1, rfl, rfl, HA, HK1, HB⟩ := hrel
      cases gk with
      | zero => exact absurd HA.out (by simp [laws_szPinsS.l0])
      | succ k1 =>
        have H := HA.out
        clear HA
        simp only [laws_szPinsS.l0] at H
        by_cases c4 : x5_1 < (l0.length : Int)
        · rw [if_pos c4] at H
          have c4b0 : decide (x5_1 < (l0.length : Int)) = true := decide_eq_true c4
          clear c4
          by_cases c5 : 0 ≤ x5_1
          · rw [if_pos c5] at H
            have c5b0 : decide (0 ≤ x5_1) = true := decide_eq_true c5
            clear c5
            replace H := Option.bind_eq_some_iff.mp H
            obtain ⟨t561, A60, H⟩ := H
            replace H : (if t561 < 0 then (some (-1)) else (laws_szPinsS.l0 k1 l0 t561 (wrap64 (x5_1 + 1)))) = some r := H
            have A6 := amk A60
            clear A60
            by_cases c7 : t561 < 0
            · rw [if_pos c7] at H
              have c7b0 : decide (t561 < 0) = true := decide_eq_true c7
              clear c7
              obtain rfl := Option.some.inj H
              have p560 : 0 ≤ (x5_1 : Int) := of_decide_eq_true (by first | (with_reducible assumption) | assumption)
              have q560 : x5_1 < (l0.length : Int) := of_decide_eq_true (by first | (with_reducible assumption) | assumption)
              obtain ⟨ad560, A560_1, c560_1, e560, hx560_0, hx560_1, hl560_1, hi560_1⟩ := at_T37 HR0.out x5_1 p560 q560
              cases e560
              replace hx560_0 := (HB.out.cell (World.block_lt_of_cell? w _ hx560_0)).trans hx560_0
              replace hx560_1 := (HB.out.cell (World.block_lt_of_cell? w _ hx560_1)).trans hx560_1
              have HR560_1 := amk hi560_1
              have HC560_1 := amk hl560_1
              clear hi560_1 hl560_1
              replace p560 := eq_true p560
              replace q560 := eq_true q560
              go_wp2_with (first | ((with_reducible refine gate_callee (f := 20) rfl ?_); refine goesL_ (some 23) rfl rfl Try.func20 (by kernel_rfl) rfl #[.agg #[.int .i64 ((rd_T37 l0 x5_1).f0), .slice A560_1 ((rd_T37 l0 x5_1).f1).length c560_1], .int .i64 x1_1] rfl (by (try simp only [List.map_toArray, List.map_cons, List.map_nil]); first | done | rfl | (simp only [List.length_drop, List.length_take]; rfl)) ?_; (with_reducible refine (laws_szPins.calls k1 ((rd_T37 l0 x5_1).f0) _ _ ((rd_T37 l0 x5_1).f1) x1_1 t561 _ ?side1 ?side2 A6.out).mono ?_); (case side1 => repeat (first | exact (Kd.C_below HR560_1.out HB.out) | (with_reducible refine Kd.C_alloc ?_ _) | (with_reducible refine Kd.C_drewN ?_ _) | (with_reducible refine Kd.C_drew ?_))); (case side2 => exact HC560_1.out); rintro e w8 ⟨rfl, hb⟩; refine ⟨_, rfl, ?_⟩; have n0_ := amk (bp_ (by repeat (first | (with_reducible first | exact HB.out | apply ba_ | apply bn_ | apply bd_) | exact HB.out)) hb); clear HB; have HB := n0_; clear n0_; (try clear hb); (try clear hb2); (try clear hk); (try clear hi)))
              go_ret
              exact ⟨by first | rfl | (simp [errW_none, errW_some] <;> rfl) | (simp [*, errW_none, errW_some] <;> rfl), by repeat (first | (with_reducible first | exact HB.out | apply ba_ | apply bn_ | apply bd_) | exact HB.out)⟩
            · rw [if_neg c7] at H
              have c7b0 : decide (t561 < 0) = false := decide_eq_false c7
              clear c7
              have H' := amk H
              clear H
              have p560 : 0 ≤ (x5_1 : Int) := of_decide_eq_true (by first | (with_reducible assumption) | assumption)
              have q560 : x5_1 < (l0.length : Int) := of_decide_eq_true (by first | (with_reducible assumption) | assumption)
              obtain ⟨ad560, A560_1, c560_1, e560, hx560_0, hx560_1, hl560_1, hi560_1⟩ := at_T37 HR0.out x5_1 p560 q560
              cases e560
              replace hx560_0 := (HB.out.cell (World.block_lt_of_cell? w _ hx560_0)).trans hx560_0
              replace hx560_1 := (HB.out.cell (World.block_lt_of_cell? w _ hx560_1)).trans hx560_1
              have HR560_1 := amk hi560_1
              have HC560_1 := amk hl560_1
              clear hi560_1 hl560_1
              replace p560 := eq_true p560
              replace q560 := eq_true q560
              go_wp2_with (first | ((with_reducible refine gate_callee (f := 20) rfl ?_); refine goesL_ (some 23) rfl rfl Try.func20 (by kernel_rfl) rfl #[.agg #[.int .i64 ((rd_T37 l0 x5_1).f0), .slice A560_1 ((rd_T37 l0 x5_1).f1).length c560_1], .int .i64 x1_1] rfl (by (try simp only [List.map_toArray, List.map_cons, List.map_nil]); first | done | rfl | (simp only [List.length_drop, List.length_take]; rfl)) ?_; (with_reducible refine (laws_szPins.calls k1 ((rd_T37 l0 x5_1).f0) _ _ ((rd_T37 l0 x5_1).f1) x1_1 t561 _ ?side1 ?side2 A6.out).mono ?_); (case side1 => repeat (first | exact (Kd.C_below HR560_1.out HB.out) | (with_reducible refine Kd.C_alloc ?_ _) | (with_reducible refine Kd.C_drewN ?_ _) | (with_reducible refine Kd.C_drew ?_))); (case side2 => exact HC560_1.out); rintro e w9 ⟨rfl, hb⟩; refine ⟨_, rfl, ?_⟩; have n0_ := amk (bp_ (by repeat (first | (with_reducible first | exact HB.out | apply ba_ | apply bn_ | apply bd_) | exact HB.out)) hb); clear HB; have HB := n0_; clear n0_; (try clear hb); (try clear hb2); (try clear hk); (try clear hi)))
              go_roundg k1
              case measure => have := HK1.out; omega
              case rel => exact ⟨(t561), (wrap64 (x5_1 + 1)), (by first | rfl | (simp; done) | (simp [*]; done)), (by first | rfl | (simp; done) | (simp [*]; done)), H', ⟨by have := HK1.out; omega⟩, ⟨by repeat (first | (with_reducible first | exact HB.out | apply ba_ | apply bn_ | apply bd_) | exact HB.out)⟩⟩
          · rw [if_neg c5] at H
            exact absurd H (by simp)
        · rw [if_neg c4] at H
          have c4b0 : decide (x5_1 < (l0.length : Int)) = false := decide_eq_false c4
          clear c4
          obtain rfl := Option.some.inj H
          go_wp2
          go_ret
          exact ⟨by first | rfl | (simp [errW_none, errW_some] <;> rfl) | (simp [*, errW_none, errW_some] <;> rfl), by repeat (first | (with_reducible first | exact HB.out | apply ba_ | apply bn_ | apply bd_) | exact HB.out)⟩
/-! ### laws_toIntS: function 129 -/
def laws_toIntS.l0 : Nat → List Int → List Int → Int → Option (List Int)
  | 0, _, _, _ => none
  | k + 1, x0, x3, x4 => if x4 < (x0.length : Int) then (if 0 ≤ x4 then (if x4 < (x3.length : Int) then (laws_toIntS.l0 k x0 (x3.set (x4 : Int).toNat (rd x0 x4)) (wrap64 (x4 + 1))) else (none)) else (none)) else (some x3)
def laws_toIntS.f (k : Nat) (l0 : List Int) : Option (List Int) := if 0 ≤ (l0.length : Int) then (if ((l0.length : Int) : Int).toNat ≤ 35184372088832 then (laws_toIntS.l0 k l0 (List.replicate ((l0.length : Int) : Int).toNat 0) 0) else (none)) else (none)
set_option maxHeartbeats 8000000 in
set_option maxRecDepth 100000 in
theorem laws_toIntS.calls (k : Nat) (A0 : Option Addr) (c0 : Nat) (l0 : List Int) (r : List Int) (w : World) (hr0 : Kd.C (Kd.int .i64) w A0 l0.length l0) (hc0 : l0.length ≤ c0) (h : laws_toIntS.f k l0 = some r) :
    Calls Try.prog 129 #[.slice A0 l0.length c0] w fun e w' => ∃ v0_ : Value, e = .returned (v0_) ∧ Kd.R (Kd.int .i64) 3 w' w.heap.size (fun _ => True) v0_ r ∧ Below w.heap.size w w' := by
  have HR0 := amk hr0
  have HC0 := amk hc0
  clear hr0 hc0
  have HB := amk (Below.refl w.heap.size w)
  have H : (if 0 ≤ (l0.length : Int) then (if ((l0.length : Int) : Int).toNat ≤ 35184372088832 then (laws_toIntS.l0 k l0 (List.replicate ((l0.length : Int) : Int).toNat 0) 0) else (none)) else (none)) = some r := h
  clear h
  by_cases c2 : 0 ≤ (l0.length : Int)
  · rw [if_pos c2] at H
    have c2b0 := eq_true c2
    have c2b1 : decide (0 ≤ (l0.length : Int)) = true := decide_eq_true c2
    clear c2
    by_cases c3 : ((l0.length : Int) : Int).toNat ≤ 35184372088832
    · rw [if_pos c3] at H
      have c3b0 := eq_true c3
      have c3b1 : decide (((l0.length : Int) : Int).toNat ≤ 35184372088832) = true := decide_eq_true c3
      clear c3
      obtain ⟨y232, hy232⟩ : ∃ y_ : List Int, y_ = (List.replicate ((l0.length : Int) : Int).toNat 0) := ⟨_, rfl⟩
      replace H : (laws_toIntS.l0 k l0 y232 0) = some r := by first | (rw [hy232]; with_reducible exact H) | (have H2_ := (Option.bind_some _ _).symm.trans H; rw [hy232]; with_reducible exact H2_) | (have H2_ := (Option.bind_some _ _).symm.trans H; with_reducible exact H2_) | with_reducible exact H | (rw [hy232]; exact H) | exact H
      have Ny232 := amk hy232
      clear hy232
      have H' := amk H
      clear H
      go_enter Try.func129, Try.ntmps129
      go_wp2_with (first | ((with_reducible refine gate_dst (N := 7) rfl ?_); refine Kd.R_make (Kd.int .i64) _ 3 rfl (N := 7) rfl 86 _ _ rfl (l0.length : Int) rfl rfl Try.underlying86 (.int .i64 0) 8 info3 rfl (by decide) (by omega) 0 (ok := fun _ => True) (okp := fun _ => True) rfl (fun _ hk => hk) trivial (of_decide_eq_true (by first | (with_reducible assumption) | assumption)) (Nat.le_trans (Nat.mul_le_mul_right _ (of_decide_eq_true (by first | (with_reducible assumption) | assumption) : (l0.length : Int).toNat ≤ 35184372088832)) (by omega)) (Below.refl _ _) (Nat.le_refl _) ?_; intro v233 w4 ho5 hb hg_ hnew_; clear hg_ hnew_; (first | rw [← Ny232.out] at ho5 | (simp only [Int.reduceToNat] at ho5; rw [← Ny232.out] at ho5)); have n0_ := amk (Kd.R_lower ho5 (below_size (by repeat (first | (with_reducible first | exact HB.out | apply ba_ | apply bn_ | apply bd_) | exact HB.out)))); have n1_ := amk (bp_ (by repeat (first | (with_reducible first | exact HB.out | apply ba_ | apply bn_ | apply bd_) | exact HB.out)) hb); clear HB; have HO234 := n0_; have HB := n1_; clear n0_ n1_; clear hb ho5))
      go_loopg [4] k (fun kq v4 w' => ∃ (x3_1 : List Int) (x4_1 : Int), v4 = .int .i64 x4_1 ∧ Aside0 (laws_toIntS.l0 kq l0 x3_1 x4_1 = some r) ∧ Aside0 (kq ≤ k) ∧ Aside0 (Kd.R (Kd.int .i64) 3 w' w.heap.size (fun _ => True) v233 x3_1) ∧ Aside0 (Below w.heap.size w w'))
      case atStart => exact ⟨(y232), (0), (by first | rfl | (simp; done) | (simp [*]; done)), H', ⟨Nat.le_refl _⟩, ⟨by (with_reducible repeat (first | apply Kd.R_alloc | apply Kd.R_drewN | apply Kd.R_drew)); exact HO234.out⟩, ⟨by repeat (first | (with_reducible first | exact HB.out | apply ba_ | apply bn_ | apply bd_) | exact HB.out)⟩⟩
      case round =>
        clear H'
        try clear c1; try clear c2; try clear c2b0; try clear c2b1; try clear p2; try clear c3; try clear c3b0; try clear c3b1
        obtain ⟨x3_1, x4_1, rfl, HA, HK1, HO_3, HB⟩ := hrel
        cases gk with
        | zero => exact absurd HA.out (by simp [laws_toIntS.l0])
        | succ k1 =>
          have H := HA.out
          clear HA
          simp only [laws_toIntS.l0] at H
          by_cases c6 : x4_1 < (l0.length : Int)
          · rw [if_pos c6] at H
            have c6b0 : decide (x4_1 < (l0.length : Int)) = true := decide_eq_true c6
            clear c6
            by_cases c7 : 0 ≤ x4_1
            · rw [if_pos c7] at H
              have c7b0 : decide (0 ≤ x4_1) = true := decide_eq_true c7
              clear c7
              by_cases c8 : x4_1 < (x3_1.length : Int)
              · rw [if_pos c8] at H
                have c8b0 : decide (x4_1 < (x3_1.length : Int)) = true := decide_eq_true c8
                clear c8
                obtain ⟨y236, hy236⟩ : ∃ y_ : List Int, y_ = (x3_1.set (x4_1 : Int).toNat (rd l0 x4_1)) := ⟨_, rfl⟩
                replace H : (laws_toIntS.l0 k1 l0 y236 (wrap64 (x4_1 + 1))) = some r := by first | (rw [hy236]; with_reducible exact H) | (have H2_ := (Option.bind_some _ _).symm.trans H; rw [hy236]; with_reducible exact H2_) | (have H2_ := (Option.bind_some _ _).symm.trans H; with_reducible exact H2_) | with_reducible exact H | (rw [hy236]; exact H) | exact H
                have Ny236 := amk hy236
                clear hy236
                have H' := amk H
                clear H
                have p235 : 0 ≤ (x4_1 : Int) := of_decide_eq_true (by first | (with_reducible assumption) | assumption)
                have q235 : x4_1 < (l0.length : Int) := of_decide_eq_true (by first | (with_reducible assumption) | assumption)
                obtain ⟨ad235, e235, hx235_0⟩ := Kd.at_int HR0.out x4_1 p235 q235
                cases e235
                replace hx235_0 := (HB.out.cell (World.block_lt_of_cell? w _ hx235_0)).trans hx235_0
                replace p235 := eq_true p235
                replace q235 := eq_true q235
                have p9 : 0 ≤ (x4_1 : Int) := of_decide_eq_true (by first | (with_reducible assumption) | assumption)
                have q9 : (x4_1 : Int) < ((x3_1.length : Int) : Int) := of_decide_eq_true (by first | (with_reducible assumption) | assumption)
                obtain ⟨go9, co9, eo9, gb9, gl9, cl9, HG9⟩ := Kd.R_form HO_3.out (by omega)
                (first | cases eo9 | (injection eo9 with ea_ en_ ec_; (first | subst ea_ | (injection ea_ with ea_; subst ea_)); subst ec_; clear en_))
                have GB9 := amk gb9
                have GG9 := amk HG9
                clear gb9 gl9 HG9
                obtain ⟨hx9_0, hf9_0⟩ := Kd.R_celln 0 HO_3.out (x4_1 : Int) p9 q9
                replace p9 := eq_true p9
                replace q9 := eq_true q9
                have HP10 := Kd.R_putg HO_3.out (x4_1 : Int) (rd l0 x4_1)
                go_wp2_with (first | ((with_reducible refine gate_store (t := 3) (p := 20) rfl ?_); refine store_event (t := 3) (p := 20) (v := ?vo_w11) (w1 := (wr.setCell ⟨go9, (x4_1 : Int).toNat, none⟩ (.int .i64 (rd l0 x4_1)))) ?hg ?ho ?hn ?hr ?_; (case ho => rfl); (case hg => rfl); (case hn => rfl); (case hr => first | (go_simp; done) | (go_simp; rfl)); intro w11 hw; have hg : wr.grownBy w11 (some go9) := (by rw [hw]; exact HP10.2); have hp_ : Kd.R (Kd.int .i64) 3 w11 w.heap.size (fun _ => True) (.slice (some ⟨go9, 0, none⟩) x3_1.length co9) y236 := (by rw [hw, Ny236.out]; exact HP10.1); clear HP10; have n0_ := amk (hp_); have n1_ := amk ((by rw [hw]; exact bs_ (HB.out) GB9.out : Below w.heap.size w w11)); clear HO_3; clear HB; have HO_3 := n0_; have HB := n1_; clear n0_ n1_; clear hg hw hp_))
                go_roundg k1
                case measure => have := HK1.out; omega
                case rel => exact ⟨(y236), (wrap64 (x4_1 + 1)), (by first | rfl | (simp; done) | (simp [*]; done)), H', ⟨by have := HK1.out; omega⟩, ⟨by (with_reducible repeat (first | apply Kd.R_alloc | apply Kd.R_drewN | apply Kd.R_drew)); exact HO_3.out⟩, ⟨by repeat (first | (with_reducible first | exact HB.out | apply ba_ | apply bn_ | apply bd_) | exact HB.out)⟩⟩
              · rw [if_neg c8] at H
                exact absurd H (by simp)
            · rw [if_neg c7] at H
              exact absurd H (by simp)
          · rw [if_neg c6] at H
            have c6b0 : decide (x4_1 < (l0.length : Int)) = false := decide_eq_false c6
            clear c6
            obtain rfl := Option.some.inj H
            go_wp2
            go_ret
            exact ⟨_, by first | rfl | (simp [errW_none, errW_some] <;> rfl) | (simp [*, errW_none, errW_some] <;> rfl), by (with_reducible repeat (first | apply Kd.R_alloc | apply Kd.R_drewN | apply Kd.R_drew)); exact HO_3.out, by repeat (first | (with_reducible first | exact HB.out | apply ba_ | apply bn_ | apply bd_) | exact HB.out)⟩
    · rw [if_neg c3] at H
      exact absurd H (by simp)
  · rw [if_neg c2] at H
    exact absurd H (by simp)
end Go.Proofs.Ytcnjiffoghganaa.P