import Derived.Test.YtalmbdmkajohlaaGreatDoorKFnCodesGuessedOfAllA0
import Derived.Test.YtalmbdmkajohlaaGreatDoorHShelfP
import Derived.Lib.SplitLaws
import Derived.Lib.SliceRun
import Derived.RegionTactic
import Derived.ChangeAlike
import Derived.BigRegion
import Derived.Laws.RangeString
import Derived.Deep.RegionHeld3
import Derived.Shelf.Abstract
import Derived.Laws.StructEq
namespace Go.Proofs.YtalmbdmkajohlaaGreatDoor.P
open Go.RowKit Go.Proofs.YtalmbdmkajohlaaGreatDoorW.PrintWords Go.Proofs.YtalmbdmkajohlaaGreatDoorW.PrintLast Go.Proofs.YtalmbdmkajohlaaGreatDoorW.PrintMore
attribute [local go_sem] max2_int min2_int max_two min_two max_three min_three max_four min_four
set_option linter.unusedVariables false
set_option linter.unusedSimpArgs false
/-! ### spec_whDigits: function 105 -/
def spec_whDigits.l0 : Nat → ByteArray → List Int → Int → Option (List Int)
  | 0, _, _, _ => none
  | k + 1, x0, x3, x4 => if x4 < (x0.size : Int) then (if 0 ≤ x4 then (if x3.length < 17592186044416 then (spec_whDigits.l0 k x0 (x3 ++ [((bt x0 x4) - 48) % 256]) (wrap64 (x4 + 1))) else (none)) else (none)) else (some x3)
def spec_whDigits.f (k : Nat) (a0 : ByteArray) : Option (List Int) := spec_whDigits.l0 k a0 ([] : List Int) 0
set_option maxHeartbeats 8000000 in
set_option maxRecDepth 100000 in
theorem spec_whDigits.calls (k : Nat) (a0 : ByteArray) (r : List Int) (w : World) (h : spec_whDigits.f k a0 = some r) :
    Calls Tryz.prog 105 #[.string a0] w fun e w' => ∃ v0_ : Value, e = .returned (v0_) ∧ Kd.R (Kd.int .i64) 3 w' w.heap.size (fun _ => True) v0_ r ∧ Below w.heap.size w w' := by
  have HB := amk (Below.refl w.heap.size w); unfold spec_whDigits.f at h; have H := h; clear h; have H' := amk H; clear H; go_enter Tryz.func105, Tryz.ntmps105; go_wp2
  go_loopg [3, 4] k (fun kq v3 v4 w' => ∃ (x3_1 : List Int) (x4_1 : Int), v4 = .int .i64 x4_1 ∧ Aside0 (spec_whDigits.l0 kq a0 x3_1 x4_1 = some r) ∧ Aside0 (kq ≤ k) ∧ Aside0 (Kd.R (Kd.int .i64) 3 w' w.heap.size (fun _ => True) v3 x3_1) ∧ Aside0 (Below w.heap.size w w'))
  case atStart => exact ⟨(([] : List Int)), (0), rS_, H', ⟨Nat.le_refl _⟩, ⟨xN_⟩, ⟨bB⟩⟩
  case round =>
    clear H'; (try clear c1); obtain ⟨x3_1, x4_1, rfl, HA, HK1, HO_3, HB⟩ := hrel
    cases gk with
    | zero => exact absurd HA.out (by simp [spec_whDigits.l0])
    | succ k1 =>
      have H := HA.out; clear HA; simp only [spec_whDigits.l0] at H; replace H := iteE H; obtain ⟨c2b0, H⟩ | ⟨c2b0, H⟩ := H
      · replace H := iteN H; obtain ⟨c3b0, H⟩ := H
        by_cases c5 : x3_1.length < 17592186044416
        · rw [if_pos c5] at H; have LMc5 := amk c5; clear c5; (try rw [Option.bind_some] at H); generalize hy155 : ((x3_1 ++ [((bt a0 x4_1) - 48) % 256]) : List Int) = y155 at H; have Ny155 := amk hy155.symm; clear hy155; have H' := amk H; clear H; have p4 : 0 ≤ (x4_1 : Int) := dA_; have q4 : x4_1 < (a0.size : Int) := dA_; have hx4 := bt_at a0 x4_1; replace p4 := eq_true p4; replace q4 := eq_true q4; go_wp2_with (first | ((with_reducible refine gate_builtin (b := .append) (xs := #[.tmp 11, .tmp 17]) rfl ?_); at_builtin; refine Kd.R_append (Kd.int .i64) (w0 := w) w.heap.size rfl (.tmp 11) (.tmp 17) 36 3 (.int .i64 0) 8 rfl Tryz.underlying36 info3 rfl (by decide) (by omega) u3 x3_1 (((bt a0 x4_1) - 48) % 256) [.int .i64 (((bt a0 x4_1) - 48) % 256)] (fun _ => True) (fun _ => False) rfl rfl rfl (fun _ hk => hk.elim) (fun _ _ => trivial) (oX HO_3) bB (below_size bB) (by have := LMc5.out; omega) ?_; intro v156 w6 ho hb hg hat; rw [← Ny155.out] at ho; replace HB := amk (hb); have HO157 := amk (ho); clear HO_3; clear ho hb hg hat)); go_roundg k1
          case measure => have := HK1.out; omega
          case rel => exact ⟨(y155), (wrap64 (x4_1 + 1)), rS_, H', ⟨by have := HK1.out; omega⟩, ⟨oX HO157⟩, ⟨bB⟩⟩
        · rw [if_neg c5] at H; exact absurd H (by simp)
      · obtain rfl := Option.some.inj H; go_wp2; go_ret; exact ⟨_, rF_, oX HO_3, bB⟩
/-! strings.Cut: the kit's contract. -/
def byL (l : List UInt8) : ByteArray := ⟨l.toArray⟩
def strings_Cut.f (s sep : ByteArray) : Option (ByteArray × ByteArray × Bool) :=
  if s.size < 4294967281 then some (byL (Lib.cut s.data.toList sep.data.toList).1, byL (Lib.cut s.data.toList sep.data.toList).2.1, (Lib.cut s.data.toList sep.data.toList).2.2) else none
theorem below_drewN1 (w : World) (k : Nat) : Below w.heap.size w (w.drewN k) := ⟨rfl, rfl, rfl, Nat.le_refl _, fun _ _ => rfl⟩
theorem strings_Cut.calls (a0 a1 : ByteArray) (r1 r2 : ByteArray) (r3 : Bool) (w : World) (htp : EnvP w) (h : strings_Cut.f a0 a1 = some (r1, r2, r3)) :
    Calls Tryz.prog 51 #[.string a0, .string a1] w fun e w' => e = .returned (.tuple #[.string r1, .string r2, .bool r3]) ∧ Below w.heap.size w w' := by
  unfold strings_Cut.f at h
  by_cases p : a0.size < 4294967281
  · rw [if_pos p] at h
    have h2 := Option.some.inj h
    obtain ⟨_, ⟨m, hm⟩, _⟩ := htp
    refine Calls.mono (Tryz.strings_Cut a0 a1 m w p hm) (fun e w' hh => ⟨?_, ?_⟩)
    · rw [hh.1, ← show (Lib.cut a0.data.toList a1.data.toList).2.2 = r3 from congrArg (·.2.2) h2, ← show byL (Lib.cut a0.data.toList a1.data.toList).2.1 = r2 from congrArg (·.2.1) h2, ← show byL (Lib.cut a0.data.toList a1.data.toList).1 = r1 from congrArg (·.1) h2]; rfl
    · obtain ⟨n, e⟩ := hh.2
      rw [e]; exact below_drewN1 w n
  · rw [if_neg p] at h; cases h
/-! spec's split at a byte; digits of any text: what they come to. -/
theorem bytes_eq {a : ByteArray} {l : List UInt8} (h : a.data.toList = l) : a = byL l := by
  apply ByteArray.ext
  apply Array.ext'
  unfold byL
  rw [h]
theorem bytesOf_data (l : List UInt8) : (byL l).data.toList = l := by unfold byL; simp
theorem bytesOf_size (l : List UInt8) : (byL l).size = l.length := by rw [Lib.size_eq, bytesOf_data]
theorem bt_list {s : ByteArray} {i : Nat} (h : i < s.data.toList.length) : bt s (i : Nat) = ((s.data.toList[i]'h).toNat : Int) := by
  have h2 : i < s.size := by rw [Lib.size_eq]; exact h
  rw [← bt_at s (i : Nat) (by simpa using h2)]
  rfl
theorem spec_l1Split.lev (c : UInt8) (s : ByteArray) (hs : s.size ≤ 1048576) : ∀ (m from_ i : Nat) (acc : List ByteArray), i + m = s.size → from_ ≤ i → (∀ b ∈ (s.data.toList.drop from_).take (i - from_), b ≠ c) → acc.length ≤ from_ → Ev (fun k => spec_l1Split.l0 k s (c.toNat : Int) acc (from_ : Nat) (i : Nat)) (acc ++ (splL c (s.data.toList.drop from_)).map byL) := by
  have hz := Lib.size_eq s
  intro m
  induction m with
  | zero =>
    intro from_ i acc hi hf hb ha
    rw [List.take_of_length_le (by rw [List.length_drop]; omega)] at hb
    refine Ev.step (fun k => rfl) (Ev.no (by omega) (Ev.yes (by omega) (Ev.yes (by omega) (Ev.yes (by omega) (Ev.id ?_)))))
    rw [splL_no hb, Int.toNat_natCast, bytes_eq (Lib.extract_to_end s from_)]; rfl
  | succ m ih =>
    intro from_ i acc hi hf hb ha
    have hlt : i < s.data.toList.length := by omega
    have e : wrap64 ((i : Int) + 1) = ((i + 1 : Nat) : Int) := w64 (by omega) (by omega)
    have hd : (s.data.toList.drop from_) = (s.data.toList.drop from_).take (i - from_) ++ s.data.toList[i] :: s.data.toList.drop (i + 1) := by
      rw [← List.drop_eq_getElem_cons hlt]
      have h1 : s.data.toList.drop i = (s.data.toList.drop from_).drop (i - from_) := by rw [List.drop_drop]; congr 1; omega
      rw [h1, List.take_append_drop]
    refine Ev.step (fun k => rfl) (Ev.yes (by omega) (Ev.yes (by omega) ?_))
    rw [bt_list hlt, e]
    by_cases h : s.data.toList[i] = c
    · refine Ev.yes (by rw [h]) (Ev.yes (by omega) (Ev.yes (by omega) (Ev.yes (by omega) (Ev.yes (by omega) ?_))))
      have hgo := ih (i + 1) (i + 1) (acc ++ [s.extract from_ i]) (by omega) (by omega) (by rw [Nat.sub_self, List.take_zero]; intro b hb; cases hb) (by rw [List.length_append, List.length_singleton]; omega)
      rw [Int.toNat_natCast, Int.toNat_natCast]
      refine Ev.eq hgo ?_
      rw [hd, h, splL_app hb, List.map_cons, bytes_eq (Lib.extract_data s from_ i), List.append_assoc]; rfl
    · refine Ev.no (fun h2 => h (UInt8.toNat_inj.mp (by omega))) ?_
      refine ih from_ (i + 1) acc (by omega) (by omega) ?_ ha
      intro b hb2
      rw [show i + 1 - from_ = (i - from_) + 1 by omega, List.take_succ_eq_append_getElem (by rw [List.length_drop]; omega)] at hb2
      rcases List.mem_append.mp hb2 with h3 | h3
      · exact hb b h3
      · rw [List.mem_singleton.mp h3, List.getElem_drop]
        have e2 : from_ + (i - from_) = i := by omega
        simp only [e2]
        exact h
theorem spec_l1Split.ev (c : UInt8) (s : ByteArray) (hs : s.size ≤ 1048576) : Ev (fun k => spec_l1Split.f k s (c.toNat : Int)) ((splL c s.data.toList).map byL) := by
  unfold spec_l1Split.f
  have := spec_l1Split.lev c s hs s.size 0 0 [] (by omega) (by omega) (by rw [Nat.sub_self, List.take_zero]; intro b hb; cases hb) (by simp)
  rw [List.nil_append, List.drop_zero] at this
  exact this
/-! ### impl_parseLock: function 52 -/
def impl_parseLock.f (a0 : ByteArray) : Option (Int × Int) := (strings_Cut.f a0 (⟨#[120]⟩ : ByteArray)).bind fun bt518 => ((strconv_Atoi.f bt518.1).bind fun bt522 => ((strconv_Atoi.f bt518.2.1).bind fun bt524 => (some (bt522.1, bt524.1))))
set_option maxHeartbeats 8000000 in
set_option maxRecDepth 100000 in
theorem impl_parseLock.calls (a0 : ByteArray) (r1 : Int) (r2 : Int) (w : World) (htp : EnvP w) (h : impl_parseLock.f a0 = some (r1, r2)) :
    Calls Tryz.prog 52 #[.string a0] w fun e w' => e = .returned (.agg #[.int .i64 r1, .int .i64 r2]) ∧ Below w.heap.size w w' := by
  have HTP := amk htp; clear htp; have hu23 := Tryz.underlying23; have HB := amk (Below.refl w.heap.size w); unfold impl_parseLock.f at h; have H := h; clear h; replace H := bE H; obtain ⟨⟨t518, t519, t520⟩, A2, H⟩ := H; (try dsimp only at H); replace H := bE H; obtain ⟨⟨t522, t523⟩, A3, H⟩ := H; (try dsimp only at H); replace H := bE H; obtain ⟨⟨t524, t525⟩, A4, H⟩ := H; (try dsimp only at H); simp only [Option.some.injEq, Prod.mk.injEq] at H; obtain ⟨rfl, rfl⟩ := H; go_enter Tryz.func52, Tryz.ntmps52; go_wp2_with (first | ((with_reducible refine gate_dst (N := 2) rfl ?_); refine boxE_ HB 2 #[.int .i64 0, .int .i64 0] 23 ?_; clear HB; intro gb517 w5 HB BK517 GW517 GE517 hb; clear hb) | ((with_reducible refine gate_callee (f := 51) rfl ?_); refine goesL_ (some 9) rfl rfl Tryz.func51 (by kernel_rfl) rfl #[.string a0, .string (⟨#[120]⟩ : ByteArray)] rfl gL_ ?_; (with_reducible refine (strings_Cut.calls a0 (⟨#[120]⟩ : ByteArray) t518 t519 t520 _ ?sideT A2.out).mono ?_); (case sideT => exact (HTP.out.below bB)); rintro e w6 ⟨rfl, hb⟩; refine ⟨_, rfl, ?_⟩; replace BK517 := kb2 BK517 hb; replace HB := hB2 HB hb; (try clear hb)) | ((with_reducible refine gate_dst (N := 6) rfl ?_); refine boxG_ 6 #[.int .i64 0, .int .i64 0] 23 ?_; intro gb521 w7 hg BK521 hb; have GW521 := sZ HB hg; have GE521 := sZ HB hg; replace HB := hB2 HB hb; have NB517_521 := neL BK517 hg; have NB521_517 := neR BK517 hg; replace BK517 := kb2 BK517 hb; clear hb hg; have hnb8 := NB521_517.out; have hnc8 := NB517_521.out; obtain ⟨hcz9_0, hcz9_1, hfz9_0, hfz9_1⟩ := cells2 BK521.out) | ((with_reducible refine gate_callee (f := 54) rfl ?_); refine goesL_ (some 16) rfl rfl Tryz.func54 (by kernel_rfl) rfl #[.string t518] rfl gL_ ?_; (with_reducible refine (strconv_Atoi.calls t518 t522 t523 _ ?sideT A3.out).mono ?_); (case sideT => exact (HTP.out.below bB)); rintro e w10 ⟨e2_, rfl, hb⟩; refine ⟨_, rfl, ?_⟩; replace BK517 := kb2 BK517 hb; replace BK521 := amk (blk_below (g := gb521) (o := .cells #[.int .i64 0, .int .i64 0] 23 (0, 0)) (kP BK521) hb); replace HB := hB2 HB hb; (try clear hb); obtain ⟨hcz11_0, hcz11_1, hfz11_0, hfz11_1⟩ := cells2 BK521.out) | ((with_reducible refine gate_callee (f := 54) rfl ?_); refine goesL_ (some 22) rfl rfl Tryz.func54 (by kernel_rfl) rfl #[.string t519] rfl gL_ ?_; (with_reducible refine (strconv_Atoi.calls t519 t524 t525 _ ?sideT A4.out).mono ?_); (case sideT => exact (HTP.out.below bB)); rintro e w12 ⟨e2_, rfl, hb⟩; refine ⟨_, rfl, ?_⟩; replace BK517 := kb2 BK517 hb; replace BK521 := amk (blk_below (g := gb521) (o := .cells #[.int .i64 t522, .int .i64 0] 23 (0, 0)) (kP BK521) hb); replace HB := hB2 HB hb; (try clear hb); obtain ⟨hcz13_0, hcz13_1, hfz13_0, hfz13_1⟩ := cells2 BK521.out; obtain ⟨hcz14_0, hcz14_1, hfz14_0, hfz14_1⟩ := cells2 BK517.out)); refine bodyPost_ret (results_cell_row rfl _ _ gb517 23 #[.int .i64 t522, .int .i64 t524] (0, 0) _ rfl (by (with_reducible repeat (first | refine kn_ ?_ _ | refine blk_drew ?_ | refine ka_ ?_ _)); refine blk_put (cs := #[.int .i64 t522, .int .i64 0]) ?_ 1 _ rfl; (with_reducible repeat (first | refine kn_ ?_ _ | refine blk_drew ?_ | refine ka_ ?_ _)); refine blk_put (cs := #[.int .i64 0, .int .i64 0]) ?_ 0 _ rfl; (with_reducible repeat (first | refine kn_ ?_ _ | refine blk_drew ?_ | refine ka_ ?_ _)); refine blk_far ?_ NB517_521.out _; (with_reducible repeat (first | refine kn_ ?_ _ | refine blk_drew ?_ | refine ka_ ?_ _)); exact BK517.out) Tryz.underlying23 rfl (by kernel_rfl)) rfl ?_; exact ⟨rF_, bB⟩
/-! strings.Split at a separator of one byte or more: the kit's contract. -/
def splitL (s sep : ByteArray) : List ByteArray := Lib.splitB sep 0 (Lib.countB s sep) s
theorem splitL_length (sep : ByteArray) (h1 : 1 ≤ sep.size) : ∀ (k : Nat) (s : ByteArray), Lib.countB s sep = k → (Lib.splitB sep 0 k s).length = k + 1 := by
  intro k
  induction k with
  | zero => intro s _; rw [Lib.splitB_zero]; rfl
  | succ k ih =>
    intro s hk
    rcases Lib.indexB_cases s sep with h | ⟨i, h, _⟩
    · rw [Lib.countB_miss _ _ h] at hk; omega
    · rw [Lib.countB_hit _ _ i h1 h] at hk
      rw [Lib.splitB_hit _ _ _ _ i h, List.length_cons, ih _ (by omega)]
def strings_Split.f (s sep : ByteArray) : Option (List ByteArray) := if s.size < 1000000 ∧ 1 ≤ sep.size then some (splitL s sep) else none
theorem strings_Split.calls (a0 a1 : ByteArray) (r : List ByteArray) (w : World) (htp : EnvP w) (h : strings_Split.f a0 a1 = some r) :
    Calls Tryz.prog 53 #[.string a0, .string a1] w fun e w' => ∃ v0_ : Value, e = .returned v0_ ∧ Kd.R Kd.string 9 w' w.heap.size (fun _ => True) v0_ r ∧ Below w.heap.size w w' := by
  unfold strings_Split.f at h
  by_cases p : a0.size < 1000000 ∧ 1 ≤ a1.size
  · rw [if_pos p] at h
    obtain rfl := Option.some.inj h
    obtain ⟨_, ⟨m, hm⟩, _⟩ := htp
    refine Calls.mono (Tryz.strings_Split a0 a1 m w (by omega) hm p.2) (fun e w' hh => ?_)
    obtain ⟨he, hw⟩ := hh
    have hl := splitL_length a1 p.2 _ a0 rfl
    have hc := Lib.countB_le a1 p.2 _ a0 (Nat.le_refl _)
    have hl2 : (splitL a0 a1).length = Lib.countB a0 a1 + 1 := hl
    refine ⟨_, he, ?_, ?_⟩
    · rw [hw, ← hl2]
      refine Kd.R_of_own (enc := Value.string) ⟨by rw [encs_length, Nat.mul_one], .inr ⟨w.heap.size, (splitL a0 a1).length, ((splitL a0 a1).map Value.string).toArray, rfl, Nat.le_refl _, blk_new w _, Nat.le_refl _, by unfold maxLen; omega, by simp, ?_⟩⟩ (fun _ _ => trivial)
      rw [Nat.mul_one, List.take_of_length_le (by simp)]; rfl
    · rw [hw]; exact (Below.refl _ w).alloc (Nat.le_refl _) _
  · rw [if_neg p] at h; cases h
/-! ### impl_ParsePuzzle: function 31 -/
mutual
def impl_ParsePuzzle.j1 : Nat → ByteArray → Int → Int → List (S45) → Option (Int × Int × (List (S45)) × Bool)
  | 0, _, _, _, _ => none
  | k + 1, x0, x533000, x533001, x533002 => (impl_IsPuzzle.f x533000 x533001 x533002).bind fun t559 => (if t559 = true then ((impl_puzzleText.f k x533000 x533001 x533002).bind fun t560 => (if t560.toList = x0.toList then (some (x533000, x533001, x533002, true)) else (some (0, 0, ([] : List (S45)), false)))) else (some (0, 0, ([] : List (S45)), false)))
def impl_ParsePuzzle.l0 : Nat → ByteArray → ByteArray → List ByteArray → Int → Int → Int → Int → List (S45) → Option (Int × Int × (List (S45)) × Bool)
  | 0, _, _, _, _, _, _, _, _ => none
  | k + 1, x0, x5, x26, x27, x28, x533000, x533001, x533002 => if x28 < x27 then (if 0 ≤ x28 then (if x28 < (x26.length : Int) then (if x5.toList = ([] : List UInt8) then (impl_ParsePuzzle.j1 k x0 x533000 x533001 x533002) else ((strings_Split.f (rdOf ByteArray.empty x26 x28) (⟨#[46]⟩ : ByteArray)).bind fun t537 => ((some (([(⟨#[]⟩ : ByteArray), (⟨#[]⟩ : ByteArray), (⟨#[]⟩ : ByteArray)] : List ByteArray) : List ByteArray)).bind fun y540 => (if t537.length + y540.length < 8796093022208 then ((some (t537 ++ y540 : List ByteArray)).bind fun y543 => (if 0 < (y543.length : Int) then ((strconv_Atoi.f (rdOf ByteArray.empty y543 0)).bind fun bt548 => (if 1 < (y543.length : Int) then ((strconv_Atoi.f (rdOf ByteArray.empty y543 1)).bind fun bt551 => (if 2 < (y543.length : Int) then ((strconv_Atoi.f (rdOf ByteArray.empty y543 2)).bind fun bt554 => (if x533002.length < 5864062014805 then (impl_ParsePuzzle.l0 k x0 x5 x26 x27 (wrap64 (x28 + 1)) x533000 x533001 (x533002 ++ [(⟨bt548.1, bt551.1, bt554.1⟩ : S45)])) else (none))) else (none))) else (none))) else (none))) else (none))))) else (none)) else (none)) else (impl_ParsePuzzle.j1 k x0 x533000 x533001 x533002)
end
def impl_ParsePuzzle.f (k : Nat) (a0 : ByteArray) : Option (Int × Int × (List (S45)) × Bool) := if (a0.size : Int) > 200 then (some (0, 0, ([] : List (S45)), false)) else ((strings_Cut.f a0 (⟨#[58]⟩ : ByteArray)).bind fun bt527 => ((impl_parseLock.f bt527.1).bind fun bt530 => ((strings_Split.f bt527.2.1 (⟨#[44]⟩ : ByteArray)).bind fun t533 => (impl_ParsePuzzle.l0 k a0 bt527.2.1 t533 (t533.length : Int) 0 bt530.1 bt530.2 ([] : List (S45))))))
set_option maxHeartbeats 8000000 in
set_option maxRecDepth 100000 in
theorem impl_ParsePuzzle.calls (k : Nat) (a0 : ByteArray) (r1 : Int) (r2 : Int) (r3 : List (S45)) (r4 : Bool) (w : World) (htp : EnvP w) (h : impl_ParsePuzzle.f k a0 = some (r1, r2, r3, r4)) :
    Calls Tryz.prog 31 #[.string a0] w fun e w' => ∃ v2_ : Value, e = .returned (.tuple #[.agg #[.int .i64 r1, .int .i64 r2, v2_], .bool r4]) ∧ Kd.R k45 45 w' w.heap.size (fun _ => True) v2_ r3 ∧ Below w.heap.size w w' := by
  have HTP := amk htp; clear htp; have hu26 := Tryz.underlying26; have hu45 := Tryz.underlying45; have HB := amk (Below.refl w.heap.size w); unfold impl_ParsePuzzle.f at h; have H := h; clear h
  by_cases c2 : (a0.size : Int) > 200
  · rw [if_pos c2] at H; have c2b0 : decide (200 < (a0.size : Int)) = true := decide_eq_true c2; have c2b1 : decide (200 < a0.size) = true := decide_eq_true (by omega); clear c2; simp only [Option.some.injEq, Prod.mk.injEq] at H; obtain ⟨rfl, rfl, rfl, rfl⟩ := H; go_enter Tryz.func31, Tryz.ntmps31; go_wp2_with (first | ((with_reducible refine gate_dst (N := 2) rfl ?_); refine boxE_ HB 2 #[.int .i64 0, .int .i64 0, .slice none 0 0] 26 ?_; clear HB; intro gb526 w3 HB BK526 GW526 GE526 hb; clear hb; obtain ⟨hcz4_0, hcz4_1, hcz4_2, hfz4_0, hfz4_1, hfz4_2⟩ := cells3 BK526.out)); refine bodyPost_ret (results_ct rfl _ _ gb526 26 #[.int .i64 0, .int .i64 0, .slice none 0 0] (0, 0) _ rfl (kP BK526) Tryz.underlying26 rfl (by kernel_rfl)) rfl ?_; exact ⟨_, rF_, xN_, bB⟩
  · rw [if_neg c2] at H; have c2b0 : decide (200 < (a0.size : Int)) = false := decide_eq_false c2; have c2b1 : decide (200 < a0.size) = false := decide_eq_false (by omega); clear c2; replace H := bE H; obtain ⟨⟨t527, t528, t529⟩, A5, H⟩ := H; (try dsimp only at H); replace H := bE H; obtain ⟨⟨t530, t531⟩, A6, H⟩ := H; (try dsimp only at H); replace H := bE H; obtain ⟨t533, A7, H⟩ := H; have HC8 := amk H; clear H; go_enter Tryz.func31, Tryz.ntmps31
    go_upto_block 0 with (first | ((with_reducible refine gate_dst (N := 2) rfl ?_); refine boxE_ HB 2 #[.int .i64 0, .int .i64 0, .slice none 0 0] 26 ?_; clear HB; intro gb526 w9 HB BK526 GW526 GE526 hb; clear hb) | ((with_reducible refine gate_callee (f := 51) rfl ?_); refine goesL_ (some 18) rfl rfl Tryz.func51 (by kernel_rfl) rfl #[.string a0, .string (⟨#[58]⟩ : ByteArray)] rfl gL_ ?_; (with_reducible refine (strings_Cut.calls a0 (⟨#[58]⟩ : ByteArray) t527 t528 t529 _ ?sideT A5.out).mono ?_); (case sideT => exact (HTP.out.below bB)); rintro e w10 ⟨rfl, hb⟩; refine ⟨_, rfl, ?_⟩; replace BK526 := kb2 BK526 hb; replace HB := hB2 HB hb; (try clear hb)) | ((with_reducible refine gate_callee (f := 52) rfl ?_); refine goesL_ (some 23) rfl rfl Tryz.func52 (by kernel_rfl) rfl #[.string t527] rfl gL_ ?_; (with_reducible refine (impl_parseLock.calls t527 t530 t531 _ ?sideT A6.out).mono ?_); (case sideT => exact (HTP.out.below bB)); rintro e w11 ⟨rfl, hb⟩; refine ⟨_, rfl, ?_⟩; replace BK526 := kb2 BK526 hb; replace HB := hB2 HB hb; (try clear hb)) | ((with_reducible refine gate_dst (N := 7) rfl ?_); refine boxG_ 7 #[.int .i64 0, .int .i64 0, .slice none 0 0] 26 ?_; intro gb532 w12 hg BK532 hb; have GW532 := sZ HB hg; have GE532 := sZ HB hg; replace HB := hB2 HB hb; have NB526_532 := neL BK526 hg; have NB532_526 := neR BK526 hg; replace BK526 := kb2 BK526 hb; clear hb hg; have hnb13 := NB532_526.out; have hnc13 := NB526_532.out; obtain ⟨hcz14_0, hcz14_1, hcz14_2, hfz14_0, hfz14_1, hfz14_2⟩ := cells3 BK532.out) | ((with_reducible refine gate_callee (f := 53) rfl ?_); refine goesL_ (some 26) rfl rfl Tryz.func53 (by kernel_rfl) rfl #[.string t528, .string (⟨#[44]⟩ : ByteArray)] rfl gL_ ?_; (with_reducible refine (strings_Split.calls t528 (⟨#[44]⟩ : ByteArray) t533 _ ?sideT A7.out).mono ?_); (case sideT => exact (HTP.out.below bB)); rintro e w15 ⟨v534, rfl, ho0, hb⟩; refine ⟨_, rfl, ?_⟩; have HO535 := amk (Kd.R_lower ho0 (below_size bB)); replace BK526 := kb2 BK526 hb; replace BK532 := amk (blk_below (g := gb532) (o := .cells #[.int .i64 t530, .int .i64 t531, .slice none 0 0] 26 (0, 0)) (kP BK532) hb); replace HB := hB2 HB hb; (try clear hb); (try clear ho0); obtain ⟨Ao16, co16, eo16⟩ := Kd.R_slice HO535.out; subst eo16))
    (try simp only [Act.put, List.setIfInBounds_toArray, List.set_cons_zero, List.set_cons_succ])
    go_cut [] (fun wc => ∃ (kq : Nat) (x533002_7 : List (S45)) (u533002 : Value), Aside0 (impl_ParsePuzzle.j1 kq a0 t530 t531 x533002_7 = some (r1, r2, r3, r4)) ∧ Aside0 (kq ≤ k) ∧ Aside0 (Kd.R k45 45 wc w.heap.size (fun _ => True) u533002 x533002_7) ∧ Aside0 (wc.heap[gb526]? = some (.cells #[.int .i64 0, .int .i64 0, (.slice none 0 0)] 26 (0, 0))) ∧ Aside0 (wc.heap[gb532]? = some (.cells #[.int .i64 t530, .int .i64 t531, u533002] 26 (0, 0))) ∧ Aside0 (Below w.heap.size w wc))
    case first =>
      have H := HC8.out; clear HC8; have H' := amk H; clear H; go_wp2
      go_loopg [28] k (fun kq v28 w' => ∃ (x28_1 : Int) (x533002_1 : List (S45)) (u533002 : Value), v28 = .int .i64 x28_1 ∧ Aside0 (impl_ParsePuzzle.l0 kq a0 t528 t533 (t533.length : Int) x28_1 t530 t531 x533002_1 = some (r1, r2, r3, r4)) ∧ Aside0 (kq ≤ k) ∧ Aside0 (Kd.R Kd.string 9 w' w.heap.size (fun _ => True) (.slice Ao16 t533.length co16) t533) ∧ Aside0 (Kd.R k45 45 w' w.heap.size (fun _ => True) u533002 x533002_1) ∧ Aside0 (w'.heap[gb526]? = some (.cells #[.int .i64 0, .int .i64 0, (.slice none 0 0)] 26 (0, 0))) ∧ Aside0 (w'.heap[gb532]? = some (.cells #[.int .i64 t530, .int .i64 t531, u533002] 26 (0, 0))) ∧ Aside0 (Below w.heap.size w w'))
      case atStart => exact ⟨(0), (([] : List (S45))), (.slice none 0 0), rS_, H', ⟨Nat.le_refl _⟩, ⟨oX HO535⟩, ⟨xN_⟩, ⟨kB BK526⟩, ⟨kB BK532⟩, ⟨bB⟩⟩
      case round =>
        clear H'; (try clear c1); (try clear c2); (try clear c2b0); (try clear c2b1); (try clear p2); (try clear c3); (try clear c5); (try clear c13); (try clear hcz14_0); (try clear hcz14_1); (try clear hcz14_2); (try clear hcz4_0); (try clear hcz4_1); (try clear hcz4_2); (try clear hfz14_0); (try clear hfz14_1); (try clear hfz14_2); (try clear hfz4_0); (try clear hfz4_1); (try clear hfz4_2); obtain ⟨x28_1, x533002_1, u533002, rfl, HA, HK1, HO_26, HO_533002, BK526, BK532, HB⟩ := hrel
        cases gk with
        | zero => exact absurd HA.out (by simp [impl_ParsePuzzle.l0])
        | succ k1 =>
          have H := HA.out; clear HA; simp only [impl_ParsePuzzle.l0] at H; replace H := iteE H; obtain ⟨c17b0, H⟩ | ⟨c17b0, H⟩ := H
          · (first | rw [c17b0] | (simp only [i64_w, i32_w]; rw [c17b0]) | skip); replace H := iteN H; obtain ⟨c18b0, H⟩ := H; replace H := iteN H; obtain ⟨c19b0, H⟩ := H
            by_cases c20 : t528.toList = ([] : List UInt8)
            · rw [if_pos c20] at H; have c20b0 : (t528.toList == ([] : List UInt8)) = true := beq_iff_eq.mpr c20; have c20b1 : (t528.toList != ([] : List UInt8)) = false := bne_eq_false_iff_eq.mpr c20; clear c20; have H' := amk H; clear H; have p536 : 0 ≤ (x28_1 : Int) := dA_; have q536 : x28_1 < (t533.length : Int) := dA_; obtain ⟨ad536, e536, hx536_0⟩ := Kd.at_string (Kd.R_reads' HO_26.out).2.2 x28_1 p536 q536; cases e536; replace p536 := eq_true p536; replace q536 := eq_true q536; go_wp2; go_meet
              case rel => exact ⟨_, (x533002_1), (u533002), H', ⟨by have := HK1.out; first | omega | exact Nat.le_refl _⟩, ⟨oX HO_533002⟩, ⟨kB BK526⟩, ⟨kB BK532⟩, ⟨bB⟩⟩
            · rw [if_neg c20] at H; have c20b0 : (t528.toList == ([] : List UInt8)) = false := beq_eq_false_iff_ne.mpr c20; have c20b1 : (t528.toList != ([] : List UInt8)) = true := bne_iff_ne.mpr c20; replace H := bE H; obtain ⟨t537, A21, H⟩ := H; (try rw [Option.bind_some] at H); generalize hy540 : (([(⟨#[]⟩ : ByteArray), (⟨#[]⟩ : ByteArray), (⟨#[]⟩ : ByteArray)] : List ByteArray)) = y540 at H; have Ny540 := amk hy540.symm; clear hy540
              by_cases c22 : t537.length + y540.length < 8796093022208
              · rw [if_pos c22] at H; have LMc22 := amk c22; clear c22; (try rw [Option.bind_some] at H); generalize hy543 : ((t537 ++ y540) : List ByteArray) = y543 at H; have Ny543 := amk hy543.symm; clear hy543
                by_cases c23 : 0 < (y543.length : Int)
                · rw [if_pos c23] at H; have c23b0 : decide (0 < (y543.length : Int)) = true := decide_eq_true c23; have c23b1 : decide (0 < y543.length) = true := decide_eq_true (by omega); clear c23; replace H := bE H; obtain ⟨⟨t548, t549⟩, A24, H⟩ := H; (try dsimp only at H)
                  by_cases c25 : 1 < (y543.length : Int)
                  · rw [if_pos c25] at H; have c25b0 : decide (1 < (y543.length : Int)) = true := decide_eq_true c25; have c25b1 : decide (1 < y543.length) = true := decide_eq_true (by omega); clear c25; replace H := bE H; obtain ⟨⟨t551, t552⟩, A26, H⟩ := H; (try dsimp only at H)
                    by_cases c27 : 2 < (y543.length : Int)
                    · rw [if_pos c27] at H; have c27b0 : decide (2 < (y543.length : Int)) = true := decide_eq_true c27; have c27b1 : decide (2 < y543.length) = true := decide_eq_true (by omega); clear c27; replace H := bE H; obtain ⟨⟨t554, t555⟩, A28, H⟩ := H; (try dsimp only at H)
                      by_cases c29 : x533002_1.length < 5864062014805
                      · rw [if_pos c29] at H; have LMc29 := amk c29; clear c29; (try rw [Option.bind_some] at H); generalize hy556 : ((x533002_1 ++ [(⟨t548, t551, t554⟩ : S45)]) : List (S45)) = y556 at H; have Ny556 := amk hy556.symm; clear hy556; have H' := amk H; clear H; have p536 : 0 ≤ (x28_1 : Int) := dA_; have q536 : x28_1 < (t533.length : Int) := dA_; obtain ⟨ad536, e536, hx536_0⟩ := Kd.at_string (Kd.R_reads' HO_26.out).2.2 x28_1 p536 q536; cases e536; replace p536 := eq_true p536; replace q536 := eq_true q536; go_wp2_with (first | ((with_reducible refine gate_callee (f := 53) rfl ?_); refine goesL_ (some 35) rfl rfl Tryz.func53 (by kernel_rfl) rfl #[.string (rdOf ByteArray.empty t533 x28_1), .string (⟨#[46]⟩ : ByteArray)] rfl gL_ ?_; (with_reducible refine (strings_Split.calls (rdOf ByteArray.empty t533 x28_1) (⟨#[46]⟩ : ByteArray) t537 _ ?sideT A21.out).mono ?_); (case sideT => exact (HTP.out.below bB)); rintro e w30 ⟨v538, rfl, ho0, hb⟩; refine ⟨_, rfl, ?_⟩; replace HO_533002 := amk (Kd.R_below (oX HO_533002) hb); have HO539 := amk (Kd.R_lower (Kd.R_new' ho0 (Kd.R_lt (oX HO_26))) (below_size bB)); replace HO_26 := amk (Kd.R_elder' (oX HO_26) (Kd.R_base ho0) hb); replace BK526 := kb2 BK526 hb; replace BK532 := kb2 BK532 hb; replace HB := hB2 HB hb; (try clear hb); (try clear ho0)) | ((with_reducible refine gate_dst (N := 36) rfl ?_); refine Kd.R_lit Kd.string _ 9 ?hg (N := 36) ?hd (xs := ([(⟨#[]⟩ : ByteArray), (⟨#[]⟩ : ByteArray), (⟨#[]⟩ : ByteArray)] : List ByteArray)) (inner := [.string (⟨#[]⟩ : ByteArray), .string (⟨#[]⟩ : ByteArray), .string (⟨#[]⟩ : ByteArray)]) (ok := fun _ => True) (okp := fun _ => True) ?hr ?hp (fun _ hk => hk) trivial (Below.refl _ _) (Nat.le_refl _) (by simp) ?_; (case hd => rfl); (case hg => rfl); (case hr => first | (go_simp; done) | (go_simp; rfl)); (case hp => exact (Reps.one (show Kd.M Kd.string _ _ _ (⟨#[]⟩ : ByteArray) [.string (⟨#[]⟩ : ByteArray)] from rfl) (Reps.one (show Kd.M Kd.string _ _ _ (⟨#[]⟩ : ByteArray) [.string (⟨#[]⟩ : ByteArray)] from rfl) (Reps.one (show Kd.M Kd.string _ _ _ (⟨#[]⟩ : ByteArray) [.string (⟨#[]⟩ : ByteArray)] from rfl) (Reps.none _ _))))); intro v541 w31 ho32 hb hg_ hnew_; clear hg_ hnew_; (first | rw [← Ny540.out] at ho32 | (simp only [Int.reduceToNat] at ho32; rw [← Ny540.out] at ho32)); replace HO_533002 := amk (Kd.R_below (oX HO_533002) hb); have HO542 := amk (Kd.R_lower (Kd.R_new' (Kd.R_new' ho32 (Kd.R_lt (oX HO_26))) (Kd.R_lt (oX HO539))) (below_size bB)); replace HO_26 := amk (Kd.R_elder' (oX HO_26) (Kd.R_base ho32) hb); replace HO539 := amk (Kd.R_elder' (oX HO539) (Kd.R_base ho32) hb); replace BK526 := kb2 BK526 hb; replace BK532 := kb2 BK532 hb; replace HB := hB2 HB hb; clear hb ho32; obtain ⟨Ao34, co34, eo34⟩ := Kd.R_slice HO542.out; subst eo34) | ((with_reducible refine gate_builtin (b := .append) (xs := #[.tmp 35, .tmp 36]) rfl ?_); at_builtin; refine Kd.R_append_rows Kd.string (w0 := w) w.heap.size rfl (.tmp 35) (.tmp 36) 27 9 (.string ⟨#[]⟩) 16 rfl Tryz.underlying27 info9 rfl (by decide) (by omega) v538 t537 y540 _ _ _ (fun k_ => some k_ ≠ (.slice (some ad536) t533.length co16 : Value).ownBlock ∧ some k_ ≠ (.slice Ao34 y540.length co34 : Value).ownBlock) (fun _ => False) rfl rfl ?aO ?aR (fun _ _ h => h) (fun _ h => h.elim) ?aF ?aB ?aS ?aL ?_; (case aR => exact cB ((Kd.R_reads' HO542.out).2.2)); (case aB => exact bB); (case aF => exact (fun k_ hk => ⟨Kd.fresh' (Kd.R_lt (oX HO_26)) k_ hk, Kd.fresh' (Kd.R_lt (oX HO542)) k_ hk⟩)); (case aO => exact (by (with_reducible repeat (first | apply Kd.R_alloc | apply Kd.R_drewN | apply Kd.R_drew)); exact Kd.R_mono HO539.out (fun _ hk => ⟨hk.1.2, hk.2⟩))); (case aS => exact (below_size bB)); (case aL => have := LMc22.out; omega); intro v544 w33 ho hb hg hat; rw [← Ny543.out] at ho; replace HO_26 := amk (Kd.R_after (ok := (fun k_ => some k_ ≠ (.slice Ao34 y540.length co34 : Value).ownBlock)) (by (with_reducible repeat (first | apply Kd.R_alloc | apply Kd.R_drewN | apply Kd.R_drew)); exact Kd.R_mono HO_26.out (fun _ hk => ⟨hk.2, hk.1.2⟩)) hg hat); replace HO_533002 := amk (Kd.R_over' (oX HO_533002) (Kd.R_typed (oX HO539)) (by decide) hg); replace BK526 := bG BK526 hg (Kd.R_ne HO539.out BK526.out (by decide)); replace BK532 := bG BK532 hg (Kd.R_ne HO539.out BK532.out (by decide)); replace HO542 := amk (Kd.R_after (ok := (fun k_ => some k_ ≠ (.slice (some ad536) t533.length co16 : Value).ownBlock)) (by (with_reducible repeat (first | apply Kd.R_alloc | apply Kd.R_drewN | apply Kd.R_drew)); exact Kd.R_mono HO542.out (fun _ hk => ⟨hk.1.2, hk.2⟩)) hg hat); replace HB := amk (hb); have HO545 := amk (ho); clear HO539; clear ho hb hg hat) | ((with_reducible refine gate_dst (N := 11) rfl ?_); refine boxG_ 11 #[.int .i64 0, .int .i64 0, .int .i64 0] 45 ?_; intro gb546 w35 hg BK546 hb; replace HO_26 := amk (Kd.R_below (oX HO_26) hb); replace HO_533002 := amk (Kd.R_below (Kd.R_elderB (oX HO_533002) gb546 (Nat.le_of_eq hg.symm)) hb); replace HO542 := amk (Kd.R_below (oX HO542) hb); replace HO545 := amk (Kd.R_below (oX HO545) hb); have GW546 := sZ HB hg; have GE546 := sZ HB hg; replace HB := hB2 HB hb; have NB526_546 := neL BK526 hg; have NB546_526 := neR BK526 hg; replace BK526 := kb2 BK526 hb; have NB532_546 := neL BK532 hg; have NB546_532 := neR BK532 hg; replace BK532 := kb2 BK532 hb; clear hb hg; have hnb36 := NB546_526.out; have hnc36 := NB526_546.out; have hnb37 := NB546_532.out; have hnc37 := NB532_546.out; obtain ⟨hcz38_0, hcz38_1, hcz38_2, hfz38_0, hfz38_1, hfz38_2⟩ := cells3 BK546.out; obtain ⟨Ao39, co39, eo39⟩ := Kd.R_slice HO545.out; subst eo39; have p547 : 0 ≤ (0 : Int) := (by omega); have q547 : 0 < (y543.length : Int) := dA_; obtain ⟨ad547, e547, hx547_0⟩ := Kd.at_string (Kd.R_reads' HO545.out).2.2 0 p547 q547; cases e547; have qi547 : (0 < y543.length) = True := eq_true (by omega); (try rw [show ((0 : Int)).toNat = 0 from rfl] at hx547_0); (try rw [Addr.add_zero'] at hx547_0); have hn547_0 : ad547.block ≠ gb546 := Kd.own_blk (Kd.R_ne HO545.out BK546.out (by decide)); have hn547_1 : ad547.block ≠ gb546 := Kd.own_blk (Kd.R_ne HO545.out BK546.out (by decide)); have hn547_2 : ad547.block ≠ gb546 := Kd.own_blk (Kd.R_ne HO545.out BK546.out (by decide)); replace hx547_0 := (cell_far (p := ⟨gb546, 0, none⟩) (by first | (rw [add_block]; exact hn547_0) | (show (Addr.add _ _).block ≠ _; rw [add_block]; exact hn547_0) | exact hn547_0) (.int .i64 0)).trans hx547_0; replace hx547_0 := (cell_far (p := ⟨gb546, 1, none⟩) (by first | (rw [add_block]; exact hn547_1) | (show (Addr.add _ _).block ≠ _; rw [add_block]; exact hn547_1) | exact hn547_1) (.int .i64 0)).trans hx547_0; replace hx547_0 := (cell_far (p := ⟨gb546, 2, none⟩) (by first | (rw [add_block]; exact hn547_2) | (show (Addr.add _ _).block ≠ _; rw [add_block]; exact hn547_2) | exact hn547_2) (.int .i64 0)).trans hx547_0; clear hn547_0; clear hn547_1; clear hn547_2; replace p547 := eq_true p547; replace q547 := eq_true q547) | ((with_reducible refine gate_callee (f := 54) rfl ?_); refine goesL_ (some 43) rfl rfl Tryz.func54 (by kernel_rfl) rfl #[.string (rdOf ByteArray.empty y543 0)] rfl gL_ ?_; (with_reducible refine (strconv_Atoi.calls (rdOf ByteArray.empty y543 0) t548 t549 _ ?sideT A24.out).mono ?_); (case sideT => exact (HTP.out.below bB)); rintro e w40 ⟨e2_, rfl, hb⟩; refine ⟨_, rfl, ?_⟩; replace HO_26 := amk (Kd.R_below (by (with_reducible repeat (first | apply Kd.R_alloc | apply Kd.R_drewN | apply Kd.R_drew)); exact (Kd.R_mono (Kd.R_far (p := ⟨gb546, 2, none⟩) (Kd.R_far (p := ⟨gb546, 1, none⟩) (Kd.R_far (p := ⟨gb546, 0, none⟩) (Kd.R_types HO_26.out BK546.out (by decide)) (fun _ hk => hk.2) (.int .i64 0)) (fun _ hk => hk.2) (.int .i64 0)) (fun _ hk => hk.2) (.int .i64 0)) (fun _ h_ => h_.1))) hb); replace HO_533002 := amk (Kd.R_below (by (with_reducible repeat (first | apply Kd.R_alloc | apply Kd.R_drewN | apply Kd.R_drew)); exact (Kd.R_mono (Kd.R_far (p := ⟨gb546, 2, none⟩) (Kd.R_far (p := ⟨gb546, 1, none⟩) (Kd.R_far (p := ⟨gb546, 0, none⟩) (Kd.R_mono HO_533002.out (fun k_ hk => (⟨hk, hk.2⟩ : _ ∧ k_ ≠ gb546))) (fun _ hk => hk.2) (.int .i64 0)) (fun _ hk => hk.2) (.int .i64 0)) (fun _ hk => hk.2) (.int .i64 0)) (fun _ h_ => h_.1))) hb); replace HO542 := amk (Kd.R_below (by (with_reducible repeat (first | apply Kd.R_alloc | apply Kd.R_drewN | apply Kd.R_drew)); exact (Kd.R_mono (Kd.R_far (p := ⟨gb546, 2, none⟩) (Kd.R_far (p := ⟨gb546, 1, none⟩) (Kd.R_far (p := ⟨gb546, 0, none⟩) (Kd.R_types HO542.out BK546.out (by decide)) (fun _ hk => hk.2) (.int .i64 0)) (fun _ hk => hk.2) (.int .i64 0)) (fun _ hk => hk.2) (.int .i64 0)) (fun _ h_ => h_.1))) hb); replace HO545 := amk (Kd.R_below (by (with_reducible repeat (first | apply Kd.R_alloc | apply Kd.R_drewN | apply Kd.R_drew)); exact (Kd.R_mono (Kd.R_far (p := ⟨gb546, 2, none⟩) (Kd.R_far (p := ⟨gb546, 1, none⟩) (Kd.R_far (p := ⟨gb546, 0, none⟩) (Kd.R_types HO545.out BK546.out (by decide)) (fun _ hk => hk.2) (.int .i64 0)) (fun _ hk => hk.2) (.int .i64 0)) (fun _ hk => hk.2) (.int .i64 0)) (fun _ h_ => h_.1))) hb); replace BK526 := kb2 BK526 hb; replace BK532 := kb2 BK532 hb; replace BK546 := amk (blk_below (g := gb546) (o := .cells #[.int .i64 0, .int .i64 0, .int .i64 0] 45 (0, 0)) (kP BK546) hb); replace HB := hB2 HB hb; (try clear hb); obtain ⟨hcz41_0, hcz41_1, hcz41_2, hfz41_0, hfz41_1, hfz41_2⟩ := cells3 BK546.out; have p550 : 0 ≤ (1 : Int) := (by omega); have q550 : 1 < (y543.length : Int) := dA_; obtain ⟨ad550, e550, hx550_0⟩ := Kd.at_string (Kd.R_reads' HO545.out).2.2 1 p550 q550; obtain rfl : ad547 = ad550 := (by injection e550); (try simp only [show (1 : Int).toNat = 1 from rfl, Nat.reduceMul, Nat.reduceEqDiff, Go.Addr.add, ↓reduceIte] at hx550_0); have qi550 : (1 < y543.length) = True := eq_true (by omega); (try rw [show ((1 : Int)).toNat = 1 from rfl] at hx550_0); have hn550_0 : ad547.block ≠ gb546 := Kd.own_blk (Kd.R_ne HO545.out BK546.out (by decide)); replace hx550_0 := (cell_far (p := ⟨gb546, 0, none⟩) (by first | (rw [add_block]; exact hn550_0) | (show (Addr.add _ _).block ≠ _; rw [add_block]; exact hn550_0) | exact hn550_0) (.int .i64 t548)).trans hx550_0; clear hn550_0; replace p550 := eq_true p550; replace q550 := eq_true q550) | ((with_reducible refine gate_callee (f := 54) rfl ?_); refine goesL_ (some 51) rfl rfl Tryz.func54 (by kernel_rfl) rfl #[.string (rdOf ByteArray.empty y543 1)] rfl gL_ ?_; (with_reducible refine (strconv_Atoi.calls (rdOf ByteArray.empty y543 1) t551 t552 _ ?sideT A26.out).mono ?_); (case sideT => exact (HTP.out.below bB)); rintro e w42 ⟨e2_, rfl, hb⟩; refine ⟨_, rfl, ?_⟩; replace HO_26 := amk (Kd.R_below (by (with_reducible repeat (first | apply Kd.R_alloc | apply Kd.R_drewN | apply Kd.R_drew)); exact (Kd.R_mono (Kd.R_far (p := ⟨gb546, 0, none⟩) (Kd.R_types HO_26.out BK546.out (by decide)) (fun _ hk => hk.2) (.int .i64 t548)) (fun _ h_ => h_.1))) hb); replace HO_533002 := amk (Kd.R_below (by (with_reducible repeat (first | apply Kd.R_alloc | apply Kd.R_drewN | apply Kd.R_drew)); exact (Kd.R_mono (Kd.R_far (p := ⟨gb546, 0, none⟩) (Kd.R_mono HO_533002.out (fun k_ hk => (⟨hk, hk.2⟩ : _ ∧ k_ ≠ gb546))) (fun _ hk => hk.2) (.int .i64 t548)) (fun _ h_ => h_.1))) hb); replace HO542 := amk (Kd.R_below (by (with_reducible repeat (first | apply Kd.R_alloc | apply Kd.R_drewN | apply Kd.R_drew)); exact (Kd.R_mono (Kd.R_far (p := ⟨gb546, 0, none⟩) (Kd.R_types HO542.out BK546.out (by decide)) (fun _ hk => hk.2) (.int .i64 t548)) (fun _ h_ => h_.1))) hb); replace HO545 := amk (Kd.R_below (by (with_reducible repeat (first | apply Kd.R_alloc | apply Kd.R_drewN | apply Kd.R_drew)); exact (Kd.R_mono (Kd.R_far (p := ⟨gb546, 0, none⟩) (Kd.R_types HO545.out BK546.out (by decide)) (fun _ hk => hk.2) (.int .i64 t548)) (fun _ h_ => h_.1))) hb); replace BK526 := kb2 BK526 hb; replace BK532 := kb2 BK532 hb; replace BK546 := amk (blk_below (g := gb546) (o := .cells #[.int .i64 t548, .int .i64 0, .int .i64 0] 45 (0, 0)) (kP BK546) hb); replace HB := hB2 HB hb; (try clear hb); obtain ⟨hcz43_0, hcz43_1, hcz43_2, hfz43_0, hfz43_1, hfz43_2⟩ := cells3 BK546.out; have p553 : 0 ≤ (2 : Int) := (by omega); have q553 : 2 < (y543.length : Int) := dA_; obtain ⟨ad553, e553, hx553_0⟩ := Kd.at_string (Kd.R_reads' HO545.out).2.2 2 p553 q553; obtain rfl : ad547 = ad553 := (by injection e553); (try simp only [show (2 : Int).toNat = 2 from rfl, Nat.reduceMul, Nat.reduceEqDiff, Go.Addr.add, ↓reduceIte] at hx553_0); have qi553 : (2 < y543.length) = True := eq_true (by omega); (try rw [show ((2 : Int)).toNat = 2 from rfl] at hx553_0); have hn553_0 : ad547.block ≠ gb546 := Kd.own_blk (Kd.R_ne HO545.out BK546.out (by decide)); replace hx553_0 := (cell_far (p := ⟨gb546, 1, none⟩) (by first | (rw [add_block]; exact hn553_0) | (show (Addr.add _ _).block ≠ _; rw [add_block]; exact hn553_0) | exact hn553_0) (.int .i64 t551)).trans hx553_0; clear hn553_0; replace p553 := eq_true p553; replace q553 := eq_true q553) | ((with_reducible refine gate_callee (f := 54) rfl ?_); refine goesL_ (some 59) rfl rfl Tryz.func54 (by kernel_rfl) rfl #[.string (rdOf ByteArray.empty y543 2)] rfl gL_ ?_; (with_reducible refine (strconv_Atoi.calls (rdOf ByteArray.empty y543 2) t554 t555 _ ?sideT A28.out).mono ?_); (case sideT => exact (HTP.out.below bB)); rintro e w44 ⟨e2_, rfl, hb⟩; refine ⟨_, rfl, ?_⟩; replace HO_26 := amk (Kd.R_below (by (with_reducible repeat (first | apply Kd.R_alloc | apply Kd.R_drewN | apply Kd.R_drew)); exact (Kd.R_mono (Kd.R_far (p := ⟨gb546, 1, none⟩) (Kd.R_types HO_26.out BK546.out (by decide)) (fun _ hk => hk.2) (.int .i64 t551)) (fun _ h_ => h_.1))) hb); replace HO_533002 := amk (Kd.R_below (by (with_reducible repeat (first | apply Kd.R_alloc | apply Kd.R_drewN | apply Kd.R_drew)); exact (Kd.R_mono (Kd.R_far (p := ⟨gb546, 1, none⟩) (Kd.R_mono HO_533002.out (fun k_ hk => (⟨hk, hk.2⟩ : _ ∧ k_ ≠ gb546))) (fun _ hk => hk.2) (.int .i64 t551)) (fun _ h_ => h_.1))) hb); replace HO542 := amk (Kd.R_below (by (with_reducible repeat (first | apply Kd.R_alloc | apply Kd.R_drewN | apply Kd.R_drew)); exact (Kd.R_mono (Kd.R_far (p := ⟨gb546, 1, none⟩) (Kd.R_types HO542.out BK546.out (by decide)) (fun _ hk => hk.2) (.int .i64 t551)) (fun _ h_ => h_.1))) hb); replace HO545 := amk (Kd.R_below (by (with_reducible repeat (first | apply Kd.R_alloc | apply Kd.R_drewN | apply Kd.R_drew)); exact (Kd.R_mono (Kd.R_far (p := ⟨gb546, 1, none⟩) (Kd.R_types HO545.out BK546.out (by decide)) (fun _ hk => hk.2) (.int .i64 t551)) (fun _ h_ => h_.1))) hb); replace BK526 := kb2 BK526 hb; replace BK532 := kb2 BK532 hb; replace BK546 := amk (blk_below (g := gb546) (o := .cells #[.int .i64 t548, .int .i64 t551, .int .i64 0] 45 (0, 0)) (kP BK546) hb); replace HB := hB2 HB hb; (try clear hb); obtain ⟨hcz45_0, hcz45_1, hcz45_2, hfz45_0, hfz45_1, hfz45_2⟩ := cells3 BK546.out; have hnb46 := NB532_526.out; have hnc46 := NB526_532.out; obtain ⟨hcz47_0, hcz47_1, hcz47_2, hfz47_0, hfz47_1, hfz47_2⟩ := cells3 BK532.out) | ((with_reducible refine gate_builtin (b := .append) (xs := #[.tmp 64, .tmp 66]) rfl ?_); at_builtin; refine Kd.R_append k45 (w0 := w) w.heap.size rfl (.tmp 64) (.tmp 66) 24 45 (.agg #[(.int .i64 0), (.int .i64 0), (.int .i64 0)]) 24 rfl Tryz.underlying24 info45 rfl (by decide) (by omega) u533002 x533002_1 (⟨t548, t551, t554⟩ : S45) [.int .i64 t548, .int .i64 t551, .int .i64 t554] (fun k_ => k_ ≠ gb546) (fun _ => False) rfl (by first | (go_simp; done) | (go_simp; rfl)) (k45_mkM _ _ _ (⟨t548, t551, t554⟩ : S45)) (fun _ hk => hk.elim) (fun k_ hk => Kd.freshB (g := gb546) (o := .cells #[.int .i64 t548, .int .i64 t551, .int .i64 t554] 45 (0, 0)) (kP BK546) k_ hk) (by (with_reducible repeat (first | apply Kd.R_alloc | apply Kd.R_drewN | apply Kd.R_drew)); exact Kd.R_mono (Kd.R_far (p := ⟨gb546, 2, none⟩) (Kd.R_mono HO_533002.out (fun k_ hk => (⟨hk, hk.2⟩ : _ ∧ k_ ≠ gb546))) (fun _ hk => hk.2) (.int .i64 t554)) (fun _ hk => hk.1.2)) bB (below_size bB) (by have := LMc29.out; omega) ?_; intro v557 w48 ho hb hg hat; rw [← Ny556.out] at ho; replace HO_26 := amk (Kd.R_over' (by (with_reducible repeat (first | apply Kd.R_alloc | apply Kd.R_drewN | apply Kd.R_drew)); exact (Kd.R_mono (Kd.R_far (p := ⟨gb546, 2, none⟩) (Kd.R_types HO_26.out BK546.out (by decide)) (fun _ hk => hk.2) (.int .i64 t554)) (fun _ h_ => h_.1))) (Kd.R_typed (by (with_reducible repeat (first | apply Kd.R_alloc | apply Kd.R_drewN | apply Kd.R_drew)); exact (Kd.R_mono (Kd.R_far (p := ⟨gb546, 2, none⟩) (Kd.R_mono HO_533002.out (fun k_ hk => (⟨hk, hk.2⟩ : _ ∧ k_ ≠ gb546))) (fun _ hk => hk.2) (.int .i64 t554)) (fun _ h_ => h_.1)))) (by decide) hg); replace BK526 := bG BK526 hg (Kd.R_ne HO_533002.out BK526.out (by decide)); replace BK532 := bG BK532 hg (Kd.R_ne HO_533002.out BK532.out (by decide)); replace HO542 := amk (Kd.R_over' (by (with_reducible repeat (first | apply Kd.R_alloc | apply Kd.R_drewN | apply Kd.R_drew)); exact (Kd.R_mono (Kd.R_far (p := ⟨gb546, 2, none⟩) (Kd.R_types HO542.out BK546.out (by decide)) (fun _ hk => hk.2) (.int .i64 t554)) (fun _ h_ => h_.1))) (Kd.R_typed (by (with_reducible repeat (first | apply Kd.R_alloc | apply Kd.R_drewN | apply Kd.R_drew)); exact (Kd.R_mono (Kd.R_far (p := ⟨gb546, 2, none⟩) (Kd.R_mono HO_533002.out (fun k_ hk => (⟨hk, hk.2⟩ : _ ∧ k_ ≠ gb546))) (fun _ hk => hk.2) (.int .i64 t554)) (fun _ h_ => h_.1)))) (by decide) hg); replace HO545 := amk (Kd.R_over' (by (with_reducible repeat (first | apply Kd.R_alloc | apply Kd.R_drewN | apply Kd.R_drew)); exact (Kd.R_mono (Kd.R_far (p := ⟨gb546, 2, none⟩) (Kd.R_types HO545.out BK546.out (by decide)) (fun _ hk => hk.2) (.int .i64 t554)) (fun _ h_ => h_.1))) (Kd.R_typed (by (with_reducible repeat (first | apply Kd.R_alloc | apply Kd.R_drewN | apply Kd.R_drew)); exact (Kd.R_mono (Kd.R_far (p := ⟨gb546, 2, none⟩) (Kd.R_mono HO_533002.out (fun k_ hk => (⟨hk, hk.2⟩ : _ ∧ k_ ≠ gb546))) (fun _ hk => hk.2) (.int .i64 t554)) (fun _ h_ => h_.1)))) (by decide) hg); replace BK546 := amk (blk_grown (g := gb546) (o := .cells #[.int .i64 t548, .int .i64 t551, .int .i64 t554] 45 (0, 0)) (kP BK546) hg (Kd.R_away HO_533002.out (fun _ hk => hk.2))); replace HB := amk (hb); have HO558 := amk (ho); clear HO_533002; clear ho hb hg hat; obtain ⟨Ao49, co49, eo49⟩ := Kd.R_slice HO558.out; subst eo49; obtain ⟨hcz50_0, hcz50_1, hcz50_2, hfz50_0, hfz50_1, hfz50_2⟩ := cells3 BK532.out)); go_roundg k1
                        case measure => have := HK1.out; omega
                        case rel => exact ⟨(wrap64 (x28_1 + 1)), (y556), (.slice Ao49 y556.length co49), rS_, H', ⟨by have := HK1.out; omega⟩, ⟨by (with_reducible repeat (first | apply Kd.R_alloc | apply Kd.R_drewN | apply Kd.R_drew)); exact Kd.R_mono (Kd.R_far (p := ⟨gb532, 2, none⟩) (Kd.R_types HO_26.out BK532.out (by decide)) (fun _ hk => hk.2) (.slice Ao49 y556.length co49)) (fun _ hk => trivial)⟩, ⟨by (with_reducible repeat (first | apply Kd.R_alloc | apply Kd.R_drewN | apply Kd.R_drew)); exact Kd.R_mono (Kd.R_far (p := ⟨gb532, 2, none⟩) (Kd.R_types HO558.out BK532.out (by decide)) (fun _ hk => hk.2) (.slice Ao49 y556.length co49)) (fun _ hk => trivial)⟩, ⟨kB BK526⟩, ⟨kP BK532⟩, ⟨bB⟩⟩
                      · rw [if_neg c29] at H; exact absurd H (by simp)
                    · rw [if_neg c27] at H; exact absurd H (by simp)
                  · rw [if_neg c25] at H; exact absurd H (by simp)
                · rw [if_neg c23] at H; exact absurd H (by simp)
              · rw [if_neg c22] at H; exact absurd H (by simp)
          · (first | rw [c17b0] | (simp only [i64_w, i32_w]; rw [c17b0]) | skip); have H' := amk H; clear H; go_wp2; go_meet
            case rel => exact ⟨_, (x533002_1), (u533002), H', ⟨by have := HK1.out; first | omega | exact Nat.le_refl _⟩, ⟨oX HO_533002⟩, ⟨kB BK526⟩, ⟨kB BK532⟩, ⟨bB⟩⟩
    case rest =>
      clear HC8; (try clear c1); (try clear c2); (try clear c2b0); (try clear c2b1); (try clear p2); (try clear c3); (try clear c4); (try clear c5); (try clear p5); (try clear q5); (try clear hx5); (try clear qi5); (try clear p6); (try clear c13); (try clear c17); (try clear c17b0); (try clear c18); (try clear c18b0); (try clear c19); (try clear c19b0); (try clear c20); (try clear c20b0); (try clear c20b1); (try clear c22); (try clear c23); (try clear c23b0); (try clear c23b1); (try clear c25); (try clear c25b0); (try clear c25b1); (try clear c27); (try clear c27b0); (try clear c27b1); (try clear c29); (try clear c31); (try clear c36); (try clear c37); (try clear c46); (try clear hcz14_0); (try clear hcz14_1); (try clear hcz14_2); (try clear hcz38_0); (try clear hcz38_1); (try clear hcz38_2); (try clear hcz41_0); (try clear hcz41_1); (try clear hcz41_2); (try clear hcz43_0); (try clear hcz43_1); (try clear hcz43_2); (try clear hcz45_0); (try clear hcz45_1); (try clear hcz45_2); (try clear hcz47_0); (try clear hcz47_1); (try clear hcz47_2); (try clear hcz4_0); (try clear hcz4_1); (try clear hcz4_2); (try clear hcz50_0); (try clear hcz50_1); (try clear hcz50_2); (try clear hfz14_0); (try clear hfz14_1); (try clear hfz14_2); (try clear hfz38_0); (try clear hfz38_1); (try clear hfz38_2); (try clear hfz41_0); (try clear hfz41_1); (try clear hfz41_2); (try clear hfz43_0); (try clear hfz43_1); (try clear hfz43_2); (try clear hfz45_0); (try clear hfz45_1); (try clear hfz45_2); (try clear hfz47_0); (try clear hfz47_1); (try clear hfz47_2); (try clear hfz4_0); (try clear hfz4_1); (try clear hfz4_2); (try clear hfz50_0); (try clear hfz50_1); (try clear hfz50_2); (try clear hx536_0); (try clear hx547_0); (try clear hx550_0); (try clear hx553_0); (try clear p2); (try clear p536); (try clear p547); (try clear p550); (try clear p553); (try clear q536); (try clear q547); (try clear q550); (try clear q553); obtain ⟨kq, x533002_7, u533002, HA, HJ7, HO_533002, BK526, BK532, HB⟩ := hcut
      cases kq with
      | zero => exact absurd HA.out (by simp [impl_ParsePuzzle.j1])
      | succ kj7 =>
        have H := HA.out; clear HA; simp only [impl_ParsePuzzle.j1] at H; replace H := bE H; obtain ⟨t559, A51, H⟩ := H; replace H := iteB H; obtain ⟨rfl, H⟩ | ⟨rfl, H⟩ := H
        · replace H := bE H; obtain ⟨t560, A53, H⟩ := H
          by_cases c54 : t560.toList = a0.toList
          · rw [if_pos c54] at H; have c54b0 : (t560.toList == a0.toList) = true := beq_iff_eq.mpr c54; have c54b1 : (t560.toList != a0.toList) = false := bne_eq_false_iff_eq.mpr c54; clear c54; simp only [Option.some.injEq, Prod.mk.injEq] at H; obtain ⟨rfl, rfl, rfl, rfl⟩ := H; have hnb55 := NB532_526.out; have hnc55 := NB526_532.out; obtain ⟨hcz56_0, hcz56_1, hcz56_2, hfz56_0, hfz56_1, hfz56_2⟩ := cells3 BK532.out; obtain ⟨Ao57, co57, eo57⟩ := Kd.R_slice HO_533002.out; subst eo57; go_wp2_with (first | ((with_reducible refine gate_callee (f := 24) rfl ?_); refine goesL_ (some 71) rfl rfl Tryz.func24 (by kernel_rfl) rfl #[.agg #[.int .i64 t530, .int .i64 t531, .slice Ao57 x533002_7.length co57]] rfl gL_ ?_; (with_reducible refine (impl_IsPuzzle.calls t530 t531 _ _ x533002_7 true _ ?_ ?_ A51.out).mono ?_); exact cB ((Kd.R_reads' HO_533002.out).2.2); exact (Kd.R_reads' HO_533002.out).2.1; rintro e w58 ⟨rfl, hb⟩; refine ⟨_, rfl, ?_⟩; replace HO_533002 := amk (Kd.R_below (oX HO_533002) hb); replace BK526 := kb2 BK526 hb; replace BK532 := kb2 BK532 hb; replace HB := hB2 HB hb; (try clear hb); obtain ⟨hcz59_0, hcz59_1, hcz59_2, hfz59_0, hfz59_1, hfz59_2⟩ := cells3 BK532.out) | (go_at_call 41; (with_reducible refine (impl_puzzleText.calls kj7 t530 t531 _ _ x533002_7 t560 _ ?side1 ?side2 ?sideT A53.out).mono ?_); (case sideT => exact (HTP.out.below bB).1); (case side1 => exact cB ((Kd.R_reads' HO_533002.out).2.2)); (case side2 => exact (Kd.R_reads' HO_533002.out).2.1); rintro e w60 ⟨rfl, hb⟩; replace HO_533002 := amk (Kd.R_below (oX HO_533002) hb); replace BK526 := kb2 BK526 hb; replace BK532 := kb2 BK532 hb; replace HB := hB2 HB hb; (try clear hb); obtain ⟨hcz61_0, hcz61_1, hcz61_2, hfz61_0, hfz61_1, hfz61_2⟩ := cells3 BK532.out; obtain ⟨hcz62_0, hcz62_1, hcz62_2, hfz62_0, hfz62_1, hfz62_2⟩ := cells3 BK526.out)); refine bodyPost_ret (results_ct rfl _ _ gb526 26 #[.int .i64 t530, .int .i64 t531, .slice Ao57 x533002_7.length co57] (0, 0) _ rfl (kP BK526) Tryz.underlying26 rfl (by kernel_rfl)) rfl ?_; exact ⟨_, rF_, by (with_reducible repeat (first | apply Kd.R_alloc | apply Kd.R_drewN | apply Kd.R_drew)); exact Kd.R_mono (Kd.R_far (p := ⟨gb526, 2, none⟩) (Kd.R_far (p := ⟨gb526, 1, none⟩) (Kd.R_far (p := ⟨gb526, 0, none⟩) (Kd.R_types HO_533002.out BK526.out (by decide)) (fun _ hk => hk.2) (.int .i64 t530)) (fun _ hk => hk.2) (.int .i64 t531)) (fun _ hk => hk.2) (.slice Ao57 x533002_7.length co57)) (fun _ hk => trivial), bB⟩
          · rw [if_neg c54] at H; have c54b0 : (t560.toList == a0.toList) = false := beq_eq_false_iff_ne.mpr c54; have c54b1 : (t560.toList != a0.toList) = true := bne_iff_ne.mpr c54; simp only [Option.some.injEq, Prod.mk.injEq] at H; obtain ⟨rfl, rfl, rfl, rfl⟩ := H; have hnb63 := NB532_526.out; have hnc63 := NB526_532.out; obtain ⟨hcz64_0, hcz64_1, hcz64_2, hfz64_0, hfz64_1, hfz64_2⟩ := cells3 BK532.out; obtain ⟨Ao65, co65, eo65⟩ := Kd.R_slice HO_533002.out; subst eo65; go_wp2_with (first | ((with_reducible refine gate_callee (f := 24) rfl ?_); refine goesL_ (some 71) rfl rfl Tryz.func24 (by kernel_rfl) rfl #[.agg #[.int .i64 t530, .int .i64 t531, .slice Ao65 x533002_7.length co65]] rfl gL_ ?_; (with_reducible refine (impl_IsPuzzle.calls t530 t531 _ _ x533002_7 true _ ?_ ?_ A51.out).mono ?_); exact cB ((Kd.R_reads' HO_533002.out).2.2); exact (Kd.R_reads' HO_533002.out).2.1; rintro e w66 ⟨rfl, hb⟩; refine ⟨_, rfl, ?_⟩; replace HO_533002 := amk (Kd.R_below (oX HO_533002) hb); replace BK526 := kb2 BK526 hb; replace BK532 := kb2 BK532 hb; replace HB := hB2 HB hb; (try clear hb); obtain ⟨hcz67_0, hcz67_1, hcz67_2, hfz67_0, hfz67_1, hfz67_2⟩ := cells3 BK532.out) | (go_at_call 41; (with_reducible refine (impl_puzzleText.calls kj7 t530 t531 _ _ x533002_7 t560 _ ?side1 ?side2 ?sideT A53.out).mono ?_); (case sideT => exact (HTP.out.below bB).1); (case side1 => exact cB ((Kd.R_reads' HO_533002.out).2.2)); (case side2 => exact (Kd.R_reads' HO_533002.out).2.1); rintro e w68 ⟨rfl, hb⟩; replace HO_533002 := amk (Kd.R_below (oX HO_533002) hb); replace BK526 := kb2 BK526 hb; replace BK532 := kb2 BK532 hb; replace HB := hB2 HB hb; (try clear hb); obtain ⟨hcz69_0, hcz69_1, hcz69_2, hfz69_0, hfz69_1, hfz69_2⟩ := cells3 BK526.out)); refine bodyPost_ret (results_ct rfl _ _ gb526 26 #[.int .i64 0, .int .i64 0, .slice none 0 0] (0, 0) _ rfl (kP BK526) Tryz.underlying26 rfl (by kernel_rfl)) rfl ?_; exact ⟨_, rF_, xN_, bB⟩
        · simp only [Option.some.injEq, Prod.mk.injEq] at H; obtain ⟨rfl, rfl, rfl, rfl⟩ := H; have hnb70 := NB532_526.out; have hnc70 := NB526_532.out; obtain ⟨hcz71_0, hcz71_1, hcz71_2, hfz71_0, hfz71_1, hfz71_2⟩ := cells3 BK532.out; obtain ⟨Ao72, co72, eo72⟩ := Kd.R_slice HO_533002.out; subst eo72; go_wp2_with (first | ((with_reducible refine gate_callee (f := 24) rfl ?_); refine goesL_ (some 71) rfl rfl Tryz.func24 (by kernel_rfl) rfl #[.agg #[.int .i64 t530, .int .i64 t531, .slice Ao72 x533002_7.length co72]] rfl gL_ ?_; (with_reducible refine (impl_IsPuzzle.calls t530 t531 _ _ x533002_7 false _ ?_ ?_ A51.out).mono ?_); exact cB ((Kd.R_reads' HO_533002.out).2.2); exact (Kd.R_reads' HO_533002.out).2.1; rintro e w73 ⟨rfl, hb⟩; refine ⟨_, rfl, ?_⟩; replace HO_533002 := amk (Kd.R_below (oX HO_533002) hb); replace BK526 := kb2 BK526 hb; replace BK532 := kb2 BK532 hb; replace HB := hB2 HB hb; (try clear hb); obtain ⟨hcz74_0, hcz74_1, hcz74_2, hfz74_0, hfz74_1, hfz74_2⟩ := cells3 BK526.out)); refine bodyPost_ret (results_ct rfl _ _ gb526 26 #[.int .i64 0, .int .i64 0, .slice none 0 0] (0, 0) _ rfl (kP BK526) Tryz.underlying26 rfl (by kernel_rfl)) rfl ?_; exact ⟨_, rF_, xN_, bB⟩
/-! ParsePuzzle: what the program's comes to; texts are read back. -/
def qqV (w d : Int) (l : List S45) (s : ByteArray) : Int × Int × List S45 × Bool := if puzzleB w d l = true ∧ puzzleT w d l = s then (w, d, l, true) else (0, 0, [], false)
def OwnZ (w d : Int) (l : List S45) (s : ByteArray) : Prop := ∀ w' d' l', puzzleB w' d' l' = true → puzzleT w' d' l' = s → w = w' ∧ d = d' ∧ l = l'
theorem qqV_own {w1 d1 w2 d2 : Int} {l1 l2 : List S45} {s : ByteArray} (h1 : OwnZ w1 d1 l1 s) (h2 : OwnZ w2 d2 l2 s) : qqV w1 d1 l1 s = qqV w2 d2 l2 s := by
  unfold qqV
  by_cases c1 : puzzleB w1 d1 l1 = true ∧ puzzleT w1 d1 l1 = s
  · obtain ⟨e1, e2, e3⟩ := h2 w1 d1 l1 c1.1 c1.2
    rw [e1, e2, e3]
  · by_cases c2 : puzzleB w2 d2 l2 = true ∧ puzzleT w2 d2 l2 = s
    · obtain ⟨e1, e2, e3⟩ := h1 w2 d2 l2 c2.1 c2.2
      rw [e1, e2, e3]
    · rw [if_neg c1, if_neg c2]
theorem puzzleT_small {w d : Int} {l : List S45} (h : puzzleB w d l = true) : (puzzleT w d l).size ≤ 100 := by
  obtain ⟨a1, a2, a3⟩ := puzzleB_txt h
  obtain ⟨b1, _⟩ := smallB_iff.mp a1
  have hs := lockT_size (w := w) (d := d) (by omega) (by omega)
  have hj := clue_joined l a3 ⟨#[44]⟩ rfl
  have h1 : ((⟨#[58]⟩ : ByteArray)).size = 1 := rfl
  unfold puzzleT
  rw [ByteArray.size_append, ByteArray.size_append]
  omega
theorem qqV_none (s : ByteArray) : qqV 0 0 [] s = (0, 0, [], false) := by
  unfold qqV
  exact if_neg (fun h => absurd h.1 (by decide))
theorem OwnZ.of_big {s : ByteArray} (h : (s.size : Int) > 100) : OwnZ 0 0 [] s := fun w' d' l' h1 h2 => by
  have := puzzleT_small h1
  rw [h2] at this
  omega
theorem impl_ParsePuzzle.j1ev (s : ByteArray) (w d : Int) (l : List S45) : Ev (fun k => impl_ParsePuzzle.j1 k s w d l) (qqV w d l s) := by
  refine Ev.step (fun k => rfl) ?_
  simp only [impl_ParsePuzzle.j1]
  refine Ev.bindc (show impl_IsPuzzle.f w d l = some (puzzleB w d l) from rfl) ?_
  unfold qqV
  by_cases h1 : puzzleB w d l = true
  · obtain ⟨a1, a2, a3⟩ := puzzleB_txt h1
    obtain ⟨b1, _⟩ := smallB_iff.mp a1
    refine Ev.yes h1 (Ev.bind (impl_puzzleText.ev w d (by omega) (by omega) l a2 a3) ?_)
    by_cases h2 : puzzleT w d l = s
    · refine Ev.yes (bl_eq.mpr h2) (Ev.id ?_)
      rw [if_pos ⟨h1, h2⟩]
    · refine Ev.no (fun h => h2 (bl_eq.mp h)) (Ev.id ?_)
      rw [if_neg (fun h => h2 h.2)]
  · refine Ev.no h1 (Ev.id ?_)
    rw [if_neg (fun h => h1 h.1)]
theorem splitL_mapc {c : UInt8} {sep : ByteArray} (hsep : sep.data.toList = [c]) (s : ByteArray) : (splitL s sep).map (·.data.toList) = splL c s.data.toList := splitB_spl hsep _ s rfl
theorem unmap {xs : List ByteArray} {ys : List (List UInt8)} (h : xs.map (·.data.toList) = ys) : xs = ys.map byL := by
  rw [← h, List.map_map]
  conv => lhs; rw [← List.map_id xs]
  exact List.map_congr_left (fun x _ => bytes_eq rfl)
theorem splitL_small {c : UInt8} {sep : ByteArray} (hsep : sep.data.toList = [c]) (s : ByteArray) : (splitL s sep).length ≤ s.size + 1 ∧ ∀ x ∈ splitL s sep, x.size ≤ s.size := by
  have hsp := splitL_mapc hsep s
  obtain ⟨_, s2, s3⟩ := splL_len c s.data.toList
  have hz := Lib.size_eq s
  refine ⟨by rw [← List.length_map (f := fun b : ByteArray => b.data.toList), hsp]; omega, fun x hx => ?_⟩
  have := s3 x.data.toList (by rw [← hsp]; exact List.mem_map_of_mem (f := fun b : ByteArray => b.data.toList) hx)
  rw [Lib.size_eq]; omega
theorem rdOf_size {xs : List ByteArray} {N : Nat} (h : ∀ p ∈ xs, p.size ≤ N) (i : Int) : (rdOf ByteArray.empty xs i).size ≤ N := by
  unfold rdOf
  rw [List.getD_eq_getElem?_getD]
  cases hc : xs[i.toNat]? with
  | none => exact Nat.zero_le _
  | some p => exact h p (List.mem_of_getElem? hc)
def yI (x : ByteArray) : List ByteArray := splitL x ⟨#[46]⟩ ++ [⟨#[]⟩, ⟨#[]⟩, ⟨#[]⟩]
def clI (x : ByteArray) : S45 := ⟨atoiV (rdOf ByteArray.empty (yI x) 0), atoiV (rdOf ByteArray.empty (yI x) 1), atoiV (rdOf ByteArray.empty (yI x) 2)⟩
theorem yI_small {x : ByteArray} (hx : x.size ≤ 1000) : 3 ≤ (yI x).length ∧ ∀ p ∈ yI x, p.size ≤ 1000 := by
  obtain ⟨_, h2⟩ := splitL_small (sep := ⟨#[46]⟩) (c := 46) rfl x
  unfold yI
  refine ⟨by rw [List.length_append]; simp, fun p hp => ?_⟩
  rcases List.mem_append.mp hp with hp | hp
  · have := h2 p hp; omega
  · simp only [List.mem_cons, List.mem_nil_iff, or_false, or_self] at hp
    rw [hp]; exact Nat.zero_le _
theorem atoi_ok {x : ByteArray} (hx : x.size ≤ 1000) : strconv_Atoi.f x = some (atoiV x, true) := if_pos (by omega)
theorem impl_ParsePuzzle.lev (s t : ByteArray) (ht : ¬ t.toList = []) (w d : Int) (xs : List ByteArray) (hx : ∀ x ∈ xs, x.size ≤ 1000) (hl : xs.length ≤ 1001) : ∀ (m i : Nat), i + m = xs.length → Ev (fun k => impl_ParsePuzzle.l0 k s t xs (xs.length : Int) (i : Nat) w d ((xs.take i).map clI)) (qqV w d (xs.map clI) s) := by
  intro m
  induction m with
  | zero =>
    intro i hi
    refine Ev.step (fun k => rfl) (Ev.no (by omega) ?_)
    rw [List.take_of_length_le (by omega)]
    exact impl_ParsePuzzle.j1ev s w d _
  | succ m ih =>
    intro i hi
    have hlt : i < xs.length := by omega
    have hxi := hx _ (List.getElem_mem hlt)
    obtain ⟨y1, y2⟩ := yI_small hxi
    have z1 := (splitL_small (sep := ⟨#[46]⟩) (c := 46) rfl xs[i]).1
    refine Ev.step (fun k => rfl) (Ev.yes (by omega) (Ev.yes (by omega) (Ev.yes (by omega) (Ev.no ht ?_))))
    rw [rdOf_nat hlt]
    refine Ev.bindc (show strings_Split.f xs[i] ⟨#[46]⟩ = some (splitL xs[i] ⟨#[46]⟩) from if_pos ⟨by omega, by decide⟩) (Ev.bindc rfl (Ev.yes (by simp only [List.length_cons, List.length_nil]; omega) (Ev.bindc (show _ = some (yI xs[i]) from rfl) ?_)))
    refine Ev.yes (by omega) (Ev.bindc (atoi_ok (rdOf_size y2 0)) (Ev.yes (by omega) (Ev.bindc (atoi_ok (rdOf_size y2 1)) (Ev.yes (by omega) (Ev.bindc (atoi_ok (rdOf_size y2 2)) (Ev.yes (by rw [List.length_map, List.length_take]; omega) ?_))))))
    rw [show wrap64 ((i : Int) + 1) = ((i + 1 : Nat) : Int) from w64 (by omega) (by omega)]
    have := ih (i + 1) (by omega)
    rw [List.take_succ_eq_append_getElem hlt, List.map_append] at this
    exact this
theorem decB_ne {n : Int} (h0 : 0 ≤ n) (h : n < 1000) {c : UInt8} (hc : c.toNat < 48 ∨ 57 < c.toNat) : ∀ b ∈ (decB n).data.toList, b ≠ c := by
  obtain ⟨n, rfl⟩ := Int.eq_ofNat_of_zero_le h0
  obtain ⟨D, e, hD, _⟩ := decB_digits (n := n) (by omega)
  rw [e]
  rcases hc with hc | hc
  · exact textB_ne hD hc
  · exact textB_ne2 hD hc
def clueU (c : S45) : List UInt8 := (decB c.f0).data.toList ++ 46 :: ((decB c.f1).data.toList ++ 46 :: (decB c.f2).data.toList)
theorem clueT_bytes (c : S45) : (clueT c).data.toList = clueU c := by
  unfold clueT clueU
  simp only [ByteArray.data_append, Array.toList_append, List.append_assoc]
  rfl
theorem clueU_ne {c : S45} (h : TxtClue c) {u : UInt8} (hu : u.toNat < 46 ∨ 57 < u.toNat) : ∀ b ∈ clueU c, b ≠ u := by
  obtain ⟨h0, h1, h2⟩ := h
  have hd : u.toNat < 48 ∨ 57 < u.toNat := by omega
  have h46 : (46 : UInt8) ≠ u := fun e => by rw [← e] at hu; exact absurd hu (by decide)
  intro b hb
  unfold clueU at hb
  rcases List.mem_append.mp hb with hb | hb
  · exact decB_ne h0.1 h0.2 hd b hb
  rcases List.mem_cons.mp hb with rfl | hb
  · exact h46
  rcases List.mem_append.mp hb with hb | hb
  · exact decB_ne h1.1 h1.2 hd b hb
  rcases List.mem_cons.mp hb with rfl | hb
  · exact h46
  · exact decB_ne h2.1 h2.2 hd b hb
theorem clueU_split {c : S45} (h : TxtClue c) : splL 46 (clueU c) = [(decB c.f0).data.toList, (decB c.f1).data.toList, (decB c.f2).data.toList] := by
  obtain ⟨h0, h1, h2⟩ := h
  unfold clueU
  rw [splL_app (decB_ne h0.1 h0.2 (by decide)), splL_app (decB_ne h1.1 h1.2 (by decide)), splL_no (decB_ne h2.1 h2.2 (by decide))]
theorem clI_back {c : S45} (h : TxtClue c) : clI (clueT c) = c := by
  have e : splitL (clueT c) ⟨#[46]⟩ = [decB c.f0, decB c.f1, decB c.f2] := by
    have := unmap ((splitL_mapc (sep := ⟨#[46]⟩) (c := 46) rfl (clueT c)).trans (by rw [clueT_bytes, clueU_split h]))
    rw [this]
    simp only [List.map_cons, List.map_nil]
    rw [← bytes_eq (a := decB c.f0) rfl, ← bytes_eq (a := decB c.f1) rfl, ← bytes_eq (a := decB c.f2) rfl]
  obtain ⟨h0, h1, h2⟩ := h
  unfold clI yI
  rw [e]
  show (⟨atoiV (decB c.f0), atoiV (decB c.f1), atoiV (decB c.f2)⟩ : S45) = c
  rw [atoiV_num h0.1 h0.2, atoiV_num h1.1 h1.2, atoiV_num h2.1 h2.2]
def lockU (w d : Int) : List UInt8 := (decB w).data.toList ++ 120 :: (decB d).data.toList
def cluesU (l : List S45) : List UInt8 := Lib.join (l.map clueU) [44]
theorem puzzleT_bytes (w d : Int) (l : List S45) : (puzzleT w d l).data.toList = lockU w d ++ 58 :: cluesU l := by
  unfold puzzleT lockT joinB lockU cluesU
  rw [List.map_map, show ((fun x : ByteArray => x.data.toList) ∘ clueT) = clueU from funext clueT_bytes]
  simp only [ByteArray.data_append, Array.toList_append, List.append_assoc]
  rfl
theorem lockU_ne {w d : Int} (hw : 1 ≤ w ∧ w ≤ 6) (hd : 2 ≤ d ∧ d ≤ 10) : ∀ b ∈ lockU w d, b ≠ 58 := by
  intro b hb
  unfold lockU at hb
  rcases List.mem_append.mp hb with hb | hb
  · exact decB_ne (by omega) (by omega) (by decide) b hb
  rcases List.mem_cons.mp hb with rfl | hb
  · decide
  · exact decB_ne (by omega) (by omega) (by decide) b hb
theorem cluesU_ne {l : List S45} (h : ∀ c ∈ l, TxtClue c) : ∀ b ∈ cluesU l, b ≠ 58 := by
  intro b hb
  unfold cluesU at hb
  rcases mem_join _ hb with h2 | ⟨x, hx, h2⟩
  · rw [List.mem_singleton.mp h2]; decide
  · obtain ⟨q, hq, rfl⟩ := List.mem_map.mp hx
    exact clueU_ne (h q hq) (by decide) b h2
theorem cluesU_split {l : List S45} (hl : l ≠ []) (h : ∀ c ∈ l, TxtClue c) : splL 44 (cluesU l) = l.map clueU := by
  cases l with
  | nil => exact absurd rfl hl
  | cons r t =>
    unfold cluesU
    rw [List.map_cons]
    refine splL_join _ _ (clueU_ne (h r List.mem_cons_self) (by decide)) (fun y hy => ?_)
    obtain ⟨q, hq, rfl⟩ := List.mem_map.mp hy
    exact clueU_ne (h q (List.mem_cons_of_mem _ hq)) (by decide)
theorem cluesU_nil {l : List S45} : cluesU l = [] ↔ l = [] := by
  constructor
  · intro h
    cases l with
    | nil => rfl
    | cons r t =>
      unfold cluesU at h
      rw [List.map_cons, Lib.join_cons] at h
      have := congrArg List.length h
      unfold clueU at this
      simp at this
  · intro h; rw [h]; rfl
theorem map_clueU (l : List S45) : (l.map clueU).map byL = l.map clueT := by
  rw [List.map_map]
  exact List.map_congr_left (fun c _ => (bytes_eq (clueT_bytes c)).symm)
/-! ### spec_pzParse: function 55 -/
mutual
def spec_pzParse.j0 : Nat → ByteArray → List ByteArray → Bool → Option (Int × Int × (List (S45)) × Bool)
  | 0, _, _, _ => none
  | k + 1, x0, x4, x19 => if x19 = true then (some (0, 0, ([] : List (S45)), false)) else (if 0 < (x4.length : Int) then ((spec_l1Split.f k (rdOf ByteArray.empty x4 0) 120).bind fun t577 => (if (t577.length : Int) = 2 then (if 0 < (t577.length : Int) then ((spec_l1Read.f k (rdOf ByteArray.empty t577 0)).bind fun t581 => (if 1 < (t577.length : Int) then ((spec_l1Read.f k (rdOf ByteArray.empty t577 1)).bind fun t583 => (if 1 < (x4.length : Int) then (if ((rdOf ByteArray.empty x4 1).size : Int) > 0 then ((spec_l1Split.f k (rdOf ByteArray.empty x4 1) 44).bind fun t587 => (spec_pzParse.l0 k x0 t587 (t587.length : Int) 0 t581 t583 ([] : List (S45)))) else ((spec_pzGood.f k t581 t583 ([] : List (S45))).bind fun t605 => (if t605 = true then ((spec_pzText.f k t581 t583 ([] : List (S45))).bind fun t606 => (some (t581, t583, ([] : List (S45)), (t606.toList == x0.toList)))) else (some (t581, t583, ([] : List (S45)), false))))) else (none))) else (none))) else (none)) else (some (0, 0, ([] : List (S45)), false)))) else (none))
def spec_pzParse.l0 : Nat → ByteArray → List ByteArray → Int → Int → Int → Int → List (S45) → Option (Int × Int × (List (S45)) × Bool)
  | 0, _, _, _, _, _, _, _ => none
  | k + 1, x0, x47, x48, x49, x585000, x585001, x585002 => if x49 < x48 then (if 0 ≤ x49 then (if x49 < (x47.length : Int) then ((spec_l1Split.f k (rdOf ByteArray.empty x47 x49) 46).bind fun t593 => (if (t593.length : Int) = 3 then (if 0 < (t593.length : Int) then ((spec_l1Read.f k (rdOf ByteArray.empty t593 0)).bind fun t597 => (if 1 < (t593.length : Int) then ((spec_l1Read.f k (rdOf ByteArray.empty t593 1)).bind fun t599 => (if 2 < (t593.length : Int) then ((spec_l1Read.f k (rdOf ByteArray.empty t593 2)).bind fun t601 => (if x585002.length < 5864062014805 then (spec_pzParse.l0 k x0 x47 x48 (wrap64 (x49 + 1)) x585000 x585001 (x585002 ++ [(⟨t597, t599, t601⟩ : S45)])) else (none))) else (none))) else (none))) else (none)) else (some (0, 0, ([] : List (S45)), false)))) else (none)) else (none)) else ((spec_pzGood.f k x585000 x585001 x585002).bind fun t590 => (if t590 = true then ((spec_pzText.f k x585000 x585001 x585002).bind fun t591 => (some (x585000, x585001, x585002, (t591.toList == x0.toList)))) else (some (x585000, x585001, x585002, false))))
end
def spec_pzParse.f (k : Nat) (a0 : ByteArray) : Option (Int × Int × (List (S45)) × Bool) := (spec_l1Split.f k a0 58).bind fun t573 => (if (a0.size : Int) > 100 then (spec_pzParse.j0 k a0 t573 true) else (spec_pzParse.j0 k a0 t573 ((t573.length : Int) != 2)))
def spec_pzParse.T7 : Bool × List (List Nat × List Nat) := (true, [([], []), ([0], [0]), ([1], [1]), ([2], [2]), ([], []), ([4], [4]), ([5], [5]), ([6, 3], [6]), ([3, 7], [3, 7]), ([8], [8]), ([], []), ([10, 9, 7, 0, 1, 2, 3, 4, 5, 6, 7, 8, 9, 10], [9, 10])])
def spec_pzParse.B7 : List Nat := [0, 1, 3, 7, 0, 16, 48, 127, 255, 511, 0, 2047]
theorem spec_pzParse.tab7 : rtab .any (opsOf Tryz.f55 7) = spec_pzParse.T7 := by kernel_rfl
theorem spec_pzParse.bits7 : waitsOk spec_pzParse.T7.2 spec_pzParse.B7 = true := by kernel_rfl
def spec_pzParse.T15 : Bool × List (List Nat × List Nat) := (true, [([], []), ([0], [0]), ([], []), ([2], [2]), ([3], [3]), ([4], [4]), ([], []), ([6], [6]), ([7], [7]), ([8, 5], [8]), ([], []), ([10], [10]), ([11], [11]), ([12, 9], [12]), ([5, 9, 13], [5, 9, 13]), ([14], [14]), ([1, 15, 13], [1, 15]), ([0, 1, 2, 3, 4, 5, 6, 7, 8, 9, 10, 11, 12, 13, 14, 15, 16], []), ([17, 16, 16, 0, 1, 2, 3, 4, 5, 6, 7, 8, 9, 10, 11, 12, 13, 14, 15, 16], [16, 17])])
def spec_pzParse.B15 : List Nat := [0, 1, 0, 4, 12, 28, 0, 64, 192, 508, 0, 1024, 3072, 8188, 16380, 32764, 65535, 131071, 262143]
theorem spec_pzParse.tab15 : rtab .any (opsOf Tryz.f55 15) = spec_pzParse.T15 := by kernel_rfl
theorem spec_pzParse.bits15 : waitsOk spec_pzParse.T15.2 spec_pzParse.B15 = true := by kernel_rfl
def spec_pzParse.T17 : Bool × List (List Nat × List Nat) := (true, [([], []), ([], []), ([1], [1]), ([2, 2], [2]), ([3], [3]), ([4, 3, 3], [3, 4]), ([3], [3]), ([5, 6, 3], [3, 5, 6]), ([3, 7], [3, 7]), ([0, 5, 0], [0]), ([8, 9, 0, 1, 2, 3, 4, 5, 6, 7, 8, 9], [8])])
def spec_pzParse.B17 : List Nat := [0, 0, 2, 6, 14, 30, 14, 126, 254, 63, 1023]
theorem spec_pzParse.tab17 : rtab .any (opsOf Tryz.f55 17) = spec_pzParse.T17 := by kernel_rfl
theorem spec_pzParse.bits17 : waitsOk spec_pzParse.T17.2 spec_pzParse.B17 = true := by kernel_rfl
set_option maxHeartbeats 8000000 in
set_option maxRecDepth 100000 in
theorem spec_pzParse.calls (k : Nat) (a0 : ByteArray) (r1 : Int) (r2 : Int) (r3 : List (S45)) (r4 : Bool) (w : World) (h : spec_pzParse.f k a0 = some (r1, r2, r3, r4)) :
    Calls Tryz.prog 55 #[.string a0] w fun e w' => ∃ v2_ : Value, e = .returned (.tuple #[.agg #[.int .i64 r1, .int .i64 r2, v2_], .bool r4]) ∧ Kd.R k45 45 w' w.heap.size (fun _ => True) v2_ r3 ∧ Below w.heap.size w w' := by
  have hu26 := Tryz.underlying26; have hu23 := Tryz.underlying23; have hu45 := Tryz.underlying45; have HB := amk (Below.refl w.heap.size w); unfold spec_pzParse.f at h; have H := h; clear h; replace H := bE H; obtain ⟨t573, A2, H⟩ := H; have HC3 := amk H; clear H; go_enter Tryz.func55, Tryz.ntmps55
  go_upto_region 2 with (first | ((with_reducible refine gate_dst (N := 2) rfl ?_); (try (refine gate_guard (by rfl) ?_; dsimp only)); refine boxE_ HB 2 #[.int .i64 0, .int .i64 0, .slice none 0 0] 26 ?_; clear HB; intro gb572 w4 HB BK572 GW572 GE572 hb; clear hb) | ((with_reducible refine gate_callee (f := 77) rfl ?_); refine goesL_ (some 11) rfl rfl Tryz.func77 (by kernel_rfl) rfl #[.string a0, .int .u8 58] rfl gL_ ?_; (with_reducible refine (spec_l1Split.calls k a0 58 t573 _ A2.out).mono ?_); rintro e w5 ⟨v574, rfl, ho0, hb⟩; refine ⟨_, rfl, ?_⟩; have HO575 := amk (Kd.R_lower ho0 (below_size bB)); replace BK572 := kb2 BK572 hb; replace HB := hB2 HB hb; (try clear hb); (try clear ho0)))
  (try simp only [Act.put, List.setIfInBounds_toArray, List.set_cons_zero, List.set_cons_succ])
  go_cut [19] (fun v19 wc => ∃ (kq : Nat) (x19_2 : Bool), v19 = .bool x19_2 ∧ Aside0 (spec_pzParse.j0 kq a0 t573 x19_2 = some (r1, r2, r3, r4)) ∧ Aside0 (kq ≤ k) ∧ Aside0 (Kd.R Kd.string 9 wc w.heap.size (fun _ => True) v574 t573) ∧ Aside0 (wc.heap[gb572]? = some (.cells #[.int .i64 0, .int .i64 0, (.slice none 0 0)] 26 (0, 0))) ∧ Aside0 (Below w.heap.size w wc))
  case first =>
    have H := HC3.out; clear HC3
    by_cases c6 : (a0.size : Int) > 100
    · rw [if_pos c6] at H; have c6b0 : decide (100 < (a0.size : Int)) = true := decide_eq_true c6; have c6b1 : decide (100 < a0.size) = true := decide_eq_true (by omega); clear c6; (first | rw [c6b0] | (simp only [i64_w, i32_w]; rw [c6b0]) | skip); have H' := amk H; clear H; go_wp2; go_meet
      case rel => exact ⟨_, (true), rS_, H', ⟨by first | omega | exact Nat.le_refl _⟩, ⟨oX HO575⟩, ⟨kB BK572⟩, ⟨bB⟩⟩
    · rw [if_neg c6] at H; have c6b0 : decide (100 < (a0.size : Int)) = false := decide_eq_false c6; have c6b1 : decide (100 < a0.size) = false := decide_eq_false (by omega); clear c6; (first | rw [c6b0] | (simp only [i64_w, i32_w]; rw [c6b0]) | skip); have H' := amk H; clear H; obtain ⟨Ao7, co7, eo7⟩ := Kd.R_slice HO575.out; subst eo7; go_wp2; go_meet
      case rel => exact ⟨_, (((t573.length : Int) != 2)), rS_, H', ⟨by first | omega | exact Nat.le_refl _⟩, ⟨oX HO575⟩, ⟨kB BK572⟩, ⟨bB⟩⟩
  case rest =>
    clear HC3; (try clear p2); (try clear c5); (try clear c6); (try clear c6b0); (try clear c6b1); (try clear c7); obtain ⟨kq, x19_2, rfl, HA, HJ2, HO_4, BK572, HB⟩ := hcut
    cases kq with
    | zero => exact absurd HA.out (by simp [spec_pzParse.j0])
    | succ kj2 =>
      have H := HA.out; clear HA; simp only [spec_pzParse.j0] at H; replace H := iteB H; obtain ⟨rfl, H⟩ | ⟨rfl, H⟩ := H
      · simp only [Option.some.injEq, Prod.mk.injEq] at H; obtain ⟨rfl, rfl, rfl, rfl⟩ := H; obtain ⟨hcz9_0, hcz9_1, hcz9_2, hfz9_0, hfz9_1, hfz9_2⟩ := cells3 BK572.out; go_wp2; refine bodyPost_ret (results_ct rfl _ _ gb572 26 #[.int .i64 0, .int .i64 0, .slice none 0 0] (0, 0) _ rfl (kP BK572) Tryz.underlying26 rfl (by kernel_rfl)) rfl ?_; exact ⟨_, rF_, xN_, bB⟩
      · by_cases c10 : 0 < (t573.length : Int)
        · rw [if_pos c10] at H; have c10b0 : decide (0 < (t573.length : Int)) = true := decide_eq_true c10; have c10b1 : decide (0 < t573.length) = true := decide_eq_true (by omega); clear c10; replace H := bE H; obtain ⟨t577, A11, H⟩ := H
          by_cases c12 : (t577.length : Int) = 2
          · rw [if_pos c12] at H; have c12b0 : ((t577.length : Int) == 2) = true := beq_iff_eq.mpr c12; have c12b1 : ((t577.length : Int) != 2) = false := bne_eq_false_iff_eq.mpr c12; clear c12
            by_cases c13 : 0 < (t577.length : Int)
            · rw [if_pos c13] at H; have c13b0 : decide (0 < (t577.length : Int)) = true := decide_eq_true c13; have c13b1 : decide (0 < t577.length) = true := decide_eq_true (by omega); clear c13; replace H := bE H; obtain ⟨t581, A14, H⟩ := H
              by_cases c15 : 1 < (t577.length : Int)
              · rw [if_pos c15] at H; have c15b0 : decide (1 < (t577.length : Int)) = true := decide_eq_true c15; have c15b1 : decide (1 < t577.length) = true := decide_eq_true (by omega); clear c15; replace H := bE H; obtain ⟨t583, A16, H⟩ := H
                by_cases c17 : 1 < (t573.length : Int)
                · rw [if_pos c17] at H; have c17b0 : decide (1 < (t573.length : Int)) = true := decide_eq_true c17; have c17b1 : decide (1 < t573.length) = true := decide_eq_true (by omega); clear c17
                  by_cases c18 : ((rdOf ByteArray.empty t573 1).size : Int) > 0
                  · rw [if_pos c18] at H; have c18b0 : decide (0 < ((rdOf ByteArray.empty t573 1).size : Int)) = true := decide_eq_true c18; have c18b1 : decide (0 < (rdOf ByteArray.empty t573 1).size) = true := decide_eq_true (by omega); clear c18; replace H := bE H; obtain ⟨t587, A19, H⟩ := H; have H' := amk H; clear H; obtain ⟨Ao20, co20, eo20⟩ := Kd.R_slice HO_4.out; subst eo20; have p576 : 0 ≤ (0 : Int) := (by omega); have q576 : 0 < (t573.length : Int) := dA_; obtain ⟨ad576, e576, hx576_0⟩ := Kd.at_string (Kd.R_reads' HO_4.out).2.2 0 p576 q576; cases e576; have qi576 : (0 < t573.length) = True := eq_true (by omega); (try rw [show ((0 : Int)).toNat = 0 from rfl] at hx576_0); (try rw [Addr.add_zero'] at hx576_0); replace p576 := eq_true p576; replace q576 := eq_true q576; (try go_wp2_with (first | ((with_reducible refine gate_callee (f := 77) rfl ?_); refine goesL_ (some 24) rfl rfl Tryz.func77 (by kernel_rfl) rfl #[.string (rdOf ByteArray.empty t573 0), .int .u8 120] rfl gL_ ?_; (with_reducible refine (spec_l1Split.calls kj2 (rdOf ByteArray.empty t573 0) 120 t577 _ A11.out).mono ?_); rintro e w21 ⟨v578, rfl, ho0, hb⟩; refine ⟨_, rfl, ?_⟩; have HO579 := amk (Kd.R_lower (Kd.R_new' ho0 (Kd.R_lt (oX HO_4))) (below_size bB)); replace HO_4 := amk (Kd.R_elder' (oX HO_4) (Kd.R_base ho0) hb); replace BK572 := kb2 BK572 hb; replace HB := hB2 HB hb; (try clear hb); (try clear ho0); obtain ⟨Ao22, co22, eo22⟩ := Kd.R_slice HO579.out; subst eo22))); replace HO_4 := amk (Kd.R_drew HO_4.out); replace HO579 := amk (Kd.R_drew HO579.out); replace BK572 := amk (blk_drew BK572.out); replace HB := amk (bd_ HB.out); have p580 : 0 ≤ (0 : Int) := (by omega); have q580 : 0 < (t577.length : Int) := dA_; obtain ⟨ad580, e580, hx580_0⟩ := Kd.at_string (Kd.R_reads' HO579.out).2.2 0 p580 q580; cases e580; have qi580 : (0 < t577.length) = True := eq_true (by omega); (try rw [show ((0 : Int)).toNat = 0 from rfl] at hx580_0); (try rw [Addr.add_zero'] at hx580_0); replace p580 := eq_true p580; replace q580 := eq_true q580; have p582 : 0 ≤ (1 : Int) := (by omega); have q582 : 1 < (t577.length : Int) := dA_; obtain ⟨ad582, e582, hx582_0⟩ := Kd.at_string (Kd.R_reads' HO579.out).2.2 1 p582 q582; obtain rfl : ad580 = ad582 := (by injection e582); (try simp only [show (1 : Int).toNat = 1 from rfl, Nat.reduceMul, Nat.reduceEqDiff, Go.Addr.add, ↓reduceIte] at hx582_0); have qi582 : (1 < t577.length) = True := eq_true (by omega); (try rw [show ((1 : Int)).toNat = 1 from rfl] at hx582_0); replace p582 := eq_true p582; replace q582 := eq_true q582; refine start_ (n := 12) (S := fun w' => w'.cell? ad580 = some (.string (rdOf ByteArray.empty t577 0)) ∧ w'.cell? ⟨ad580.block, ad580.off + 1, none⟩ = some (.string (rdOf ByteArray.empty t577 1))) (ds := []) (bA 12 0) (by kernel_rfl) rfl rfl ⟨hx580_0, hx582_0⟩ (fun hHeld => ?_); refine with_tabW spec_pzParse.tab7 spec_pzParse.bits7 (fun HT_ HW_ => ?_); generalize w21.drew = w23 at HO_4 HO579 BK572 HB hx580_0 hx582_0 hHeld ⊢; refine pU_ HT_ 0 (some 29) (bA 12 1) ?_; refine pU_ HT_ 1 (some 30) (bA 12 3) ?_; refine pU_ HT_ 4 (some 33) (bA 12 19) ?_; refine pU_ HT_ 5 (some 34) (bA 12 51) ?_; refine tK_ HT_ HW_ hHeld 2 (some 31) (bA 12 55) ?_; refine tK_ HT_ HW_ hHeld 6 (some 35) (bA 12 119) ?_; refine join_ (σ := Nat) 1 (bA 12 2047) (fun s_ => [(32, .int .i64 t581), (36, .int .i64 t583), (6, .pointer (some ⟨s_, 0, none⟩)), (37, .agg #[.int .i64 t581, .int .i64 t583]), (38, .agg #[.int .i64 t581, .int .i64 t583, .slice none 0 0])]) (fun s_ w' => (w'.cell? ad580 = some (.string (rdOf ByteArray.empty t577 0)) ∧ w'.cell? ⟨ad580.block, ad580.off + 1, none⟩ = some (.string (rdOf ByteArray.empty t577 1))) ∧ (Kd.R Kd.string 9 w' w.heap.size (fun k_ => some k_ ≠ (.slice (some ad576) t573.length co20 : Value).ownBlock) (.slice (some ad580) t577.length co22) t577) ∧ (Kd.R Kd.string 9 w' w.heap.size (fun k_ => some k_ ≠ (.slice (some ad580) t577.length co22 : Value).ownBlock) (.slice (some ad576) t573.length co20) t573) ∧ (w'.heap[gb572]? = some (.cells #[.int .i64 0, .int .i64 0, .slice none 0 0] 26 (0, 0))) ∧ (w'.heap[s_]? = some (.cells #[.int .i64 0, .int .i64 0, .slice none 0 0] 26 (0, 0))) ∧ (w.heap.size ≤ s_) ∧ (w.heap.size ≤ s_) ∧ (gb572 ≠ s_) ∧ (s_ ≠ gb572) ∧ (Below w.heap.size w w')) ?_ ?_; rotate_left
                    · intro hCont; refine two_ (i := 3) (j := 10) (Ni := some 32) (Nj := some 6) (bA 12 127) (bA 12 1143) rfl rfl rfl rfl (two_of HT_.out (by kernel_rfl)) (by decide) (by decide) (fun K hK => ?_) (fun K hK => ?_)
                      · skip
                        refine goes_ Tryz.func78 (by kernel_rfl) rfl #[.string (rdOf ByteArray.empty t577 0)] (by rfl) rfl rfl gL_ ?_; (with_reducible refine (spec_l1Read.calls kj2 (rdOf ByteArray.empty t577 0) t581 _ A14.out).mono ?_); rintro e w' ⟨rfl, ⟨nd, rfl⟩⟩; refine ⟨_, rfl, ?_⟩; refine hK.out _ _ ⟨hHeld.1, hHeld.2⟩ (fun hHeld => ?_); clear hK K; refine nN_ (some 32) ?_; refine two_ (i := 7) (j := 10) (Ni := some 36) (Nj := some 6) (bA 12 255) (bA 12 1151) rfl rfl rfl rfl (two_of HT_.out (by kernel_rfl)) (by decide) (by decide) (fun K hK => ?_) (fun K hK => ?_)
                        · skip
                          refine goes_ Tryz.func78 (by kernel_rfl) rfl #[.string (rdOf ByteArray.empty t577 1)] (by rfl) rfl rfl gL_ ?_; (with_reducible refine (spec_l1Read.calls kj2 (rdOf ByteArray.empty t577 1) t583 _ A16.out).mono ?_); rintro e w' ⟨rfl, ⟨nd, rfl⟩⟩; refine ⟨_, rfl, ?_⟩; refine hK.out _ _ ⟨hHeld.1, hHeld.2⟩ (fun hHeld => ?_); clear hK K; refine nN_ (some 36) ?_; refine pU_ HT_ 8 (some 37) (bA 12 511) ?_; refine pU_ HT_ 9 (some 38) (bA 12 1023) ?_; refine oN_ HT_ 10 (some 6) (bA 12 2047) (fun K hK => ?_); refine box_step ?hg (N := 6) ?hd (cs := #[.int .i64 0, .int .i64 0, .slice none 0 0]) (t := 26) ?hr ?_; (case hd => rfl); (case hg => rfl); (case hr => first | (go_simp; done) | (go_simp; rfl)); intro gb584 hg w24 hbox hb; have HS0_ := (hb.cell (World.block_lt_of_cell? _ _ (hHeld.1))).trans (hHeld.1); have HS1_ := (hb.cell (World.block_lt_of_cell? _ _ (hHeld.2))).trans (hHeld.2); replace HO_4 := amk (Kd.R_below (oX HO_4) hb); replace HO579 := amk (Kd.R_below (oX HO579) hb); have BK584 := amk (hbox); have GW584 := sZ HB hg; have GE584 := sZ HB hg; replace HB := hB2 HB hb; have NB572_584 := neL BK572 hg; have NB584_572 := neR BK572 hg; replace BK572 := kb2 BK572 hb; clear hb hbox hg; refine hK.out _ _ ⟨HS0_, HS1_⟩ (fun hHeld => ?_); clear hK K; refine nN_ (some 6) ?_; exact norm_ (by simp only [putAll, Act.put, List.setIfInBounds_toArray, List.set_cons_zero, List.set_cons_succ]) (hCont (gb584) _ ⟨hHeld, (by (with_reducible repeat (first | apply Kd.R_alloc | apply Kd.R_drewN | apply Kd.R_drew)); exact Kd.R_mono HO579.out (fun _ hk => hk.2)), (by (with_reducible repeat (first | apply Kd.R_alloc | apply Kd.R_drewN | apply Kd.R_drew)); exact Kd.R_mono HO_4.out (fun _ hk => hk.2)), (kB BK572), (kB BK584), GW584.out, GE584.out, NB572_584.out, NB584_572.out, bB⟩)
                        · skip
                          refine box_step ?hg (N := 6) ?hd (cs := #[.int .i64 0, .int .i64 0, .slice none 0 0]) (t := 26) ?hr ?_; (case hd => rfl); (case hg => rfl); (case hr => first | (go_simp; done) | (go_simp; rfl)); intro gb584 hg w24 hbox hb; have HS0_ := (hb.cell (World.block_lt_of_cell? _ _ (hHeld.1))).trans (hHeld.1); have HS1_ := (hb.cell (World.block_lt_of_cell? _ _ (hHeld.2))).trans (hHeld.2); replace HO_4 := amk (Kd.R_below (oX HO_4) hb); replace HO579 := amk (Kd.R_below (oX HO579) hb); have BK584 := amk (hbox); have GW584 := sZ HB hg; have GE584 := sZ HB hg; replace HB := hB2 HB hb; have NB572_584 := neL BK572 hg; have NB584_572 := neR BK572 hg; replace BK572 := kb2 BK572 hb; clear hb hbox hg; refine hK.out _ _ ⟨HS0_, HS1_⟩ (fun hHeld => ?_); clear hK K; refine nN_ (some 6) ?_; refine oN_ HT_ 7 (some 36) (bA 12 1279) (fun K hK => ?_); refine goes_ Tryz.func78 (by kernel_rfl) rfl #[.string (rdOf ByteArray.empty t577 1)] (by rfl) rfl rfl gL_ ?_; (with_reducible refine (spec_l1Read.calls kj2 (rdOf ByteArray.empty t577 1) t583 _ A16.out).mono ?_); rintro e w' ⟨rfl, ⟨nd, rfl⟩⟩; refine ⟨_, rfl, ?_⟩; refine hK.out _ _ ⟨hHeld.1, hHeld.2⟩ (fun hHeld => ?_); clear hK K; refine nN_ (some 36) ?_; refine pU_ HT_ 8 (some 37) (bA 12 1535) ?_; refine pU_ HT_ 9 (some 38) (bA 12 2047) ?_; exact norm_ (by simp only [putAll, Act.put, List.setIfInBounds_toArray, List.set_cons_zero, List.set_cons_succ]) (hCont (gb584) _ ⟨hHeld, (by (with_reducible repeat (first | apply Kd.R_alloc | apply Kd.R_drewN | apply Kd.R_drew)); exact Kd.R_mono HO579.out (fun _ hk => hk.2)), (by (with_reducible repeat (first | apply Kd.R_alloc | apply Kd.R_drewN | apply Kd.R_drew)); exact Kd.R_mono HO_4.out (fun _ hk => hk.2)), (kB BK572), (kB BK584), GW584.out, GE584.out, NB572_584.out, NB584_572.out, bB⟩)
                      · skip
                        refine box_step ?hg (N := 6) ?hd (cs := #[.int .i64 0, .int .i64 0, .slice none 0 0]) (t := 26) ?hr ?_; (case hd => rfl); (case hg => rfl); (case hr => first | (go_simp; done) | (go_simp; rfl)); intro gb584 hg w24 hbox hb; have HS0_ := (hb.cell (World.block_lt_of_cell? _ _ (hHeld.1))).trans (hHeld.1); have HS1_ := (hb.cell (World.block_lt_of_cell? _ _ (hHeld.2))).trans (hHeld.2); replace HO_4 := amk (Kd.R_below (oX HO_4) hb); replace HO579 := amk (Kd.R_below (oX HO579) hb); have BK584 := amk (hbox); have GW584 := sZ HB hg; have GE584 := sZ HB hg; replace HB := hB2 HB hb; have NB572_584 := neL BK572 hg; have NB584_572 := neR BK572 hg; replace BK572 := kb2 BK572 hb; clear hb hbox hg; refine hK.out _ _ ⟨HS0_, HS1_⟩ (fun hHeld => ?_); clear hK K; refine nN_ (some 6) ?_; refine oN_ HT_ 3 (some 32) (bA 12 1151) (fun K hK => ?_); refine goes_ Tryz.func78 (by kernel_rfl) rfl #[.string (rdOf ByteArray.empty t577 0)] (by rfl) rfl rfl gL_ ?_; (with_reducible refine (spec_l1Read.calls kj2 (rdOf ByteArray.empty t577 0) t581 _ A14.out).mono ?_); rintro e w' ⟨rfl, ⟨nd, rfl⟩⟩; refine ⟨_, rfl, ?_⟩; refine hK.out _ _ ⟨hHeld.1, hHeld.2⟩ (fun hHeld => ?_); clear hK K; refine nN_ (some 32) ?_; refine oN_ HT_ 7 (some 36) (bA 12 1279) (fun K hK => ?_); refine goes_ Tryz.func78 (by kernel_rfl) rfl #[.string (rdOf ByteArray.empty t577 1)] (by rfl) rfl rfl gL_ ?_; (with_reducible refine (spec_l1Read.calls kj2 (rdOf ByteArray.empty t577 1) t583 _ A16.out).mono ?_); rintro e w' ⟨rfl, ⟨nd, rfl⟩⟩; refine ⟨_, rfl, ?_⟩; refine hK.out _ _ ⟨hHeld.1, hHeld.2⟩ (fun hHeld => ?_); clear hK K; refine nN_ (some 36) ?_; refine pU_ HT_ 8 (some 37) (bA 12 1535) ?_; refine pU_ HT_ 9 (some 38) (bA 12 2047) ?_; exact norm_ (by simp only [putAll, Act.put, List.setIfInBounds_toArray, List.set_cons_zero, List.set_cons_succ]) (hCont (gb584) _ ⟨hHeld, (by (with_reducible repeat (first | apply Kd.R_alloc | apply Kd.R_drewN | apply Kd.R_drew)); exact Kd.R_mono HO579.out (fun _ hk => hk.2)), (by (with_reducible repeat (first | apply Kd.R_alloc | apply Kd.R_drewN | apply Kd.R_drew)); exact Kd.R_mono HO_4.out (fun _ hk => hk.2)), (kB BK572), (kB BK584), GW584.out, GE584.out, NB572_584.out, NB584_572.out, bB⟩)
                    rintro gb584 w25 ⟨hS_, h0_, h1_, h2_, h3_, h4_, h5_, h6_, h7_, h8_⟩; replace HO579 := amk h0_; replace HO_4 := amk h1_; replace BK572 := amk h2_; have BK584 := amk h3_; have GW584 := amk h4_; have GE584 := amk h5_; have NB572_584 := amk h6_; have NB584_572 := amk h7_; replace HB := amk h8_; clear h0_ h1_ h2_ h3_ h4_ h5_ h6_ h7_ h8_; have hHeld := hS_; refine norm_ (a' := ?_) ?_ ?_; rotate_left
                    · simp only [putAll, Act.put, List.setIfInBounds_toArray, List.set_cons_zero, List.set_cons_succ]
                      rfl
                    refine oN_ HT_ 11 none (bA 12 4095) (fun K hK => ?_); have hs26 : w25.cell? ⟨gb584, 0, none⟩ = some (.int .i64 0) := (blk_cell BK584.out 0).trans rfl; have hfs26 := blk_frozen BK584.out 0; have hns26_0 := NB572_584.out; have hms26_0 := NB584_572.out; have hs27 : w25.cell? ⟨gb584, 1, none⟩ = some (.int .i64 0) := (blk_cell BK584.out 1).trans rfl; have hfs27 := blk_frozen BK584.out 1; have hns27_0 := NB572_584.out; have hms27_0 := NB584_572.out; have hs28 : w25.cell? ⟨gb584, 2, none⟩ = some (.slice none 0 0) := (blk_cell BK584.out 2).trans rfl; have hfs28 := blk_frozen BK584.out 2; have hns28_0 := NB572_584.out; have hms28_0 := NB584_572.out; refine skip_ (w1 := ?_) (by rfl) rfl ?_ ?_; rotate_left
                    · go_simp
                      rfl
                    refine hK.out _ _ ⟨((cell_far (p := ⟨gb584, _, none⟩) (by first | exact Kd.own_blk (Kd.R_ne HO579.out BK584.out (by decide)) | (rw [add_block]; exact Kd.own_blk (Kd.R_ne HO579.out BK584.out (by decide))) | (show (Addr.add _ _).block ≠ _; rw [add_block]; exact Kd.own_blk (Kd.R_ne HO579.out BK584.out (by decide))) | (dsimp only; exact Kd.own_blk (Kd.R_ne HO579.out BK584.out (by decide)))) _).trans (((cell_far (p := ⟨gb584, _, none⟩) (by first | exact Kd.own_blk (Kd.R_ne HO579.out BK584.out (by decide)) | (rw [add_block]; exact Kd.own_blk (Kd.R_ne HO579.out BK584.out (by decide))) | (show (Addr.add _ _).block ≠ _; rw [add_block]; exact Kd.own_blk (Kd.R_ne HO579.out BK584.out (by decide))) | (dsimp only; exact Kd.own_blk (Kd.R_ne HO579.out BK584.out (by decide)))) _).trans (((cell_far (p := ⟨gb584, _, none⟩) (by first | exact Kd.own_blk (Kd.R_ne HO579.out BK584.out (by decide)) | (rw [add_block]; exact Kd.own_blk (Kd.R_ne HO579.out BK584.out (by decide))) | (show (Addr.add _ _).block ≠ _; rw [add_block]; exact Kd.own_blk (Kd.R_ne HO579.out BK584.out (by decide))) | (dsimp only; exact Kd.own_blk (Kd.R_ne HO579.out BK584.out (by decide)))) _).trans (hHeld.1)))))), ((cell_far (p := ⟨gb584, _, none⟩) (by first | exact Kd.own_blk (Kd.R_ne HO579.out BK584.out (by decide)) | (rw [add_block]; exact Kd.own_blk (Kd.R_ne HO579.out BK584.out (by decide))) | (show (Addr.add _ _).block ≠ _; rw [add_block]; exact Kd.own_blk (Kd.R_ne HO579.out BK584.out (by decide))) | (dsimp only; exact Kd.own_blk (Kd.R_ne HO579.out BK584.out (by decide)))) _).trans (((cell_far (p := ⟨gb584, _, none⟩) (by first | exact Kd.own_blk (Kd.R_ne HO579.out BK584.out (by decide)) | (rw [add_block]; exact Kd.own_blk (Kd.R_ne HO579.out BK584.out (by decide))) | (show (Addr.add _ _).block ≠ _; rw [add_block]; exact Kd.own_blk (Kd.R_ne HO579.out BK584.out (by decide))) | (dsimp only; exact Kd.own_blk (Kd.R_ne HO579.out BK584.out (by decide)))) _).trans (((cell_far (p := ⟨gb584, _, none⟩) (by first | exact Kd.own_blk (Kd.R_ne HO579.out BK584.out (by decide)) | (rw [add_block]; exact Kd.own_blk (Kd.R_ne HO579.out BK584.out (by decide))) | (show (Addr.add _ _).block ≠ _; rw [add_block]; exact Kd.own_blk (Kd.R_ne HO579.out BK584.out (by decide))) | (dsimp only; exact Kd.own_blk (Kd.R_ne HO579.out BK584.out (by decide)))) _).trans (hHeld.2))))))⟩ (fun hHeld => ?_); clear hK K; refine done_ (done_of HT_.out (by kernel_rfl)) ?_; have p585 : 0 ≤ (1 : Int) := (by omega); have q585 : 1 < (t573.length : Int) := dA_; obtain ⟨ad585, e585, hx585_0⟩ := Kd.at_string (Kd.R_reads' HO_4.out).2.2 1 p585 q585; obtain rfl : ad576 = ad585 := (by injection e585); (try simp only [show (1 : Int).toNat = 1 from rfl, Nat.reduceMul, Nat.reduceEqDiff, Go.Addr.add, ↓reduceIte] at hx585_0); have qi585 : (1 < t573.length) = True := eq_true (by omega); (try rw [show ((1 : Int)).toNat = 1 from rfl] at hx585_0); have hn585_0 : ad576.block ≠ gb584 := Kd.own_blk (Kd.R_ne HO_4.out BK584.out (by decide)); have hn585_1 : ad576.block ≠ gb584 := Kd.own_blk (Kd.R_ne HO_4.out BK584.out (by decide)); have hn585_2 : ad576.block ≠ gb584 := Kd.own_blk (Kd.R_ne HO_4.out BK584.out (by decide)); replace hx585_0 := (cell_far (p := ⟨gb584, 0, none⟩) (by first | (rw [add_block]; exact hn585_0) | (show (Addr.add _ _).block ≠ _; rw [add_block]; exact hn585_0) | exact hn585_0) (.int .i64 t581)).trans hx585_0; replace hx585_0 := (cell_far (p := ⟨gb584, 1, none⟩) (by first | (rw [add_block]; exact hn585_1) | (show (Addr.add _ _).block ≠ _; rw [add_block]; exact hn585_1) | exact hn585_1) (.int .i64 t583)).trans hx585_0; replace hx585_0 := (cell_far (p := ⟨gb584, 2, none⟩) (by first | (rw [add_block]; exact hn585_2) | (show (Addr.add _ _).block ≠ _; rw [add_block]; exact hn585_2) | exact hn585_2) (.slice none 0 0)).trans hx585_0; clear hn585_0; clear hn585_1; clear hn585_2; replace p585 := eq_true p585; replace q585 := eq_true q585; have p586 : 0 ≤ (1 : Int) := (by omega); have q586 : 1 < (t573.length : Int) := dA_; obtain ⟨ad586, e586, hx586_0⟩ := Kd.at_string (Kd.R_reads' HO_4.out).2.2 1 p586 q586; obtain rfl : ad576 = ad586 := (by injection e586); (try simp only [show (1 : Int).toNat = 1 from rfl, Nat.reduceMul, Nat.reduceEqDiff, Go.Addr.add, ↓reduceIte] at hx586_0); have qi586 : (1 < t573.length) = True := eq_true (by omega); (try rw [show ((1 : Int)).toNat = 1 from rfl] at hx586_0); have hn586_0 : ad576.block ≠ gb584 := Kd.own_blk (Kd.R_ne HO_4.out BK584.out (by decide)); have hn586_1 : ad576.block ≠ gb584 := Kd.own_blk (Kd.R_ne HO_4.out BK584.out (by decide)); have hn586_2 : ad576.block ≠ gb584 := Kd.own_blk (Kd.R_ne HO_4.out BK584.out (by decide)); replace hx586_0 := (cell_far (p := ⟨gb584, 0, none⟩) (by first | (rw [add_block]; exact hn586_0) | (show (Addr.add _ _).block ≠ _; rw [add_block]; exact hn586_0) | exact hn586_0) (.int .i64 t581)).trans hx586_0; replace hx586_0 := (cell_far (p := ⟨gb584, 1, none⟩) (by first | (rw [add_block]; exact hn586_1) | (show (Addr.add _ _).block ≠ _; rw [add_block]; exact hn586_1) | exact hn586_1) (.int .i64 t583)).trans hx586_0; replace hx586_0 := (cell_far (p := ⟨gb584, 2, none⟩) (by first | (rw [add_block]; exact hn586_2) | (show (Addr.add _ _).block ≠ _; rw [add_block]; exact hn586_2) | exact hn586_2) (.slice none 0 0)).trans hx586_0; clear hn586_0; clear hn586_1; clear hn586_2; replace p586 := eq_true p586; replace q586 := eq_true q586; (try go_wp2_with (first | ((with_reducible refine gate_callee (f := 77) rfl ?_); refine goesL_ (some 47) rfl rfl Tryz.func77 (by kernel_rfl) rfl #[.string (rdOf ByteArray.empty t573 1), .int .u8 44] rfl gL_ ?_; (with_reducible refine (spec_l1Split.calls kj2 (rdOf ByteArray.empty t573 1) 44 t587 _ A19.out).mono ?_); rintro e w29 ⟨v588, rfl, ho0, hb⟩; refine ⟨_, rfl, ?_⟩; have HO589 := amk (Kd.R_lower (Kd.R_new' (Kd.R_new' ho0 (Kd.R_lt (by (with_reducible repeat (first | apply Kd.R_alloc | apply Kd.R_drewN | apply Kd.R_drew)); exact (Kd.R_mono (Kd.R_far (p := ⟨gb584, 2, none⟩) (Kd.R_far (p := ⟨gb584, 1, none⟩) (Kd.R_far (p := ⟨gb584, 0, none⟩) (Kd.R_types HO_4.out BK584.out (by decide)) (fun _ hk => hk.2) (.int .i64 t581)) (fun _ hk => hk.2) (.int .i64 t583)) (fun _ hk => hk.2) (.slice none 0 0)) (fun _ h_ => h_.1))))) (Kd.R_lt (by (with_reducible repeat (first | apply Kd.R_alloc | apply Kd.R_drewN | apply Kd.R_drew)); exact (Kd.R_mono (Kd.R_far (p := ⟨gb584, 2, none⟩) (Kd.R_far (p := ⟨gb584, 1, none⟩) (Kd.R_far (p := ⟨gb584, 0, none⟩) (Kd.R_types HO579.out BK584.out (by decide)) (fun _ hk => hk.2) (.int .i64 t581)) (fun _ hk => hk.2) (.int .i64 t583)) (fun _ hk => hk.2) (.slice none 0 0)) (fun _ h_ => h_.1))))) (below_size bB)); replace HO_4 := amk (Kd.R_elder' (by (with_reducible repeat (first | apply Kd.R_alloc | apply Kd.R_drewN | apply Kd.R_drew)); exact (Kd.R_mono (Kd.R_far (p := ⟨gb584, 2, none⟩) (Kd.R_far (p := ⟨gb584, 1, none⟩) (Kd.R_far (p := ⟨gb584, 0, none⟩) (Kd.R_types HO_4.out BK584.out (by decide)) (fun _ hk => hk.2) (.int .i64 t581)) (fun _ hk => hk.2) (.int .i64 t583)) (fun _ hk => hk.2) (.slice none 0 0)) (fun _ h_ => h_.1))) (Kd.R_base ho0) hb); replace HO579 := amk (Kd.R_elder' (by (with_reducible repeat (first | apply Kd.R_alloc | apply Kd.R_drewN | apply Kd.R_drew)); exact (Kd.R_mono (Kd.R_far (p := ⟨gb584, 2, none⟩) (Kd.R_far (p := ⟨gb584, 1, none⟩) (Kd.R_far (p := ⟨gb584, 0, none⟩) (Kd.R_types HO579.out BK584.out (by decide)) (fun _ hk => hk.2) (.int .i64 t581)) (fun _ hk => hk.2) (.int .i64 t583)) (fun _ hk => hk.2) (.slice none 0 0)) (fun _ h_ => h_.1))) (Kd.R_base ho0) hb); replace BK572 := kb2 BK572 hb; replace BK584 := amk (blk_below (g := gb584) (o := .cells #[.int .i64 t581, .int .i64 t583, .slice none 0 0] 26 (0, 0)) (kP BK584) hb); replace HB := hB2 HB hb; (try clear hb); (try clear ho0); obtain ⟨Ao30, co30, eo30⟩ := Kd.R_slice HO589.out; subst eo30)))
                    go_loopg [49] kj2 (fun kq v49 w' => ∃ (x49_2 : Int) (x573000_2 : Int) (x573001_2 : Int) (x585002_2 : List (S45)) (u585002 : Value), v49 = .int .i64 x49_2 ∧ Aside0 (spec_pzParse.l0 kq a0 t587 (t587.length : Int) x49_2 t581 t583 x585002_2 = some (r1, r2, r3, r4)) ∧ Aside0 (kq ≤ kj2) ∧ Aside0 (Kd.R Kd.string 9 w' w.heap.size (fun _ => True) (.slice Ao30 t587.length co30) t587) ∧ Aside0 (Kd.R k45 45 w' w.heap.size (fun _ => True) u585002 x585002_2) ∧ Aside0 (w'.heap[gb572]? = some (.cells #[.int .i64 x573000_2, .int .i64 x573001_2, (.slice none 0 0)] 26 (0, 0))) ∧ Aside0 (w'.heap[gb584]? = some (.cells #[.int .i64 t581, .int .i64 t583, u585002] 26 (0, 0))) ∧ Aside0 (Below w.heap.size w w'))
                    case atStart => exact ⟨(0), (0), (0), (([] : List (S45))), (.slice none 0 0), rS_, H', ⟨Nat.le_refl _⟩, ⟨by (with_reducible repeat (first | apply Kd.R_alloc | apply Kd.R_drewN | apply Kd.R_drew)); exact Kd.R_mono HO589.out (fun _ hk => trivial)⟩, ⟨xN_⟩, ⟨kB BK572⟩, ⟨kB BK584⟩, ⟨bB⟩⟩
                    case round =>
                      clear H'; (try clear c1); (try clear p2); (try clear c5); (try clear p5); (try clear q5); (try clear hx5); (try clear qi5); (try clear c6); (try clear c6b0); (try clear c6b1); (try clear c7); (try clear c8); (try clear c10); (try clear c10b0); (try clear c10b1); (try clear c12); (try clear c12b0); (try clear c12b1); (try clear c13); (try clear c13b0); (try clear c13b1); (try clear c15); (try clear c15b0); (try clear c15b1); (try clear c17); (try clear c17b0); (try clear c17b1); (try clear c18); (try clear c18b0); (try clear c18b1); (try clear hcz9_0); (try clear hcz9_1); (try clear hcz9_2); (try clear hfz9_0); (try clear hfz9_1); (try clear hfz9_2); (try clear hx576_0); (try clear hx580_0); (try clear hx582_0); (try clear hx585_0); (try clear hx586_0); (try clear p2); (try clear p576); (try clear p580); (try clear p582); (try clear p585); (try clear p586); (try clear q576); (try clear q580); (try clear q582); (try clear q585); (try clear q586); obtain ⟨x49_2, x573000_2, x573001_2, x585002_2, u585002, rfl, HA, HK2, HO_47, HO_585002, BK572, BK584, HB⟩ := hrel
                      cases gk with
                      | zero => exact absurd HA.out (by simp [spec_pzParse.l0])
                      | succ k2 =>
                        have H := HA.out; clear HA; simp only [spec_pzParse.l0] at H; replace H := iteE H; obtain ⟨c31b0, H⟩ | ⟨c31b0, H⟩ := H
                        · replace H := iteN H; obtain ⟨c32b0, H⟩ := H; replace H := iteN H; obtain ⟨c33b0, H⟩ := H; replace H := bE H; obtain ⟨t593, A34, H⟩ := H
                          by_cases c35 : (t593.length : Int) = 3
                          · rw [if_pos c35] at H; have c35b0 : ((t593.length : Int) == 3) = true := beq_iff_eq.mpr c35; have c35b1 : ((t593.length : Int) != 3) = false := bne_eq_false_iff_eq.mpr c35; clear c35
                            by_cases c36 : 0 < (t593.length : Int)
                            · rw [if_pos c36] at H; have c36b0 : decide (0 < (t593.length : Int)) = true := decide_eq_true c36; have c36b1 : decide (0 < t593.length) = true := decide_eq_true (by omega); clear c36; replace H := bE H; obtain ⟨t597, A37, H⟩ := H
                              by_cases c38 : 1 < (t593.length : Int)
                              · rw [if_pos c38] at H; have c38b0 : decide (1 < (t593.length : Int)) = true := decide_eq_true c38; have c38b1 : decide (1 < t593.length) = true := decide_eq_true (by omega); clear c38; replace H := bE H; obtain ⟨t599, A39, H⟩ := H
                                by_cases c40 : 2 < (t593.length : Int)
                                · rw [if_pos c40] at H; have c40b0 : decide (2 < (t593.length : Int)) = true := decide_eq_true c40; have c40b1 : decide (2 < t593.length) = true := decide_eq_true (by omega); clear c40; replace H := bE H; obtain ⟨t601, A41, H⟩ := H
                                  by_cases c42 : x585002_2.length < 5864062014805
                                  · rw [if_pos c42] at H; have LMc42 := amk c42; clear c42; (try rw [Option.bind_some] at H); generalize hy602 : ((x585002_2 ++ [(⟨t597, t599, t601⟩ : S45)]) : List (S45)) = y602 at H; have Ny602 := amk hy602.symm; clear hy602; have H' := amk H; clear H; have p592 : 0 ≤ (x49_2 : Int) := dA_; have q592 : x49_2 < (t587.length : Int) := dA_; obtain ⟨ad592, e592, hx592_0⟩ := Kd.at_string (Kd.R_reads' HO_47.out).2.2 x49_2 p592 q592; cases e592; replace p592 := eq_true p592; replace q592 := eq_true q592; (try go_wp2_with (first | ((with_reducible refine gate_callee (f := 77) rfl ?_); refine goesL_ (some 54) rfl rfl Tryz.func77 (by kernel_rfl) rfl #[.string (rdOf ByteArray.empty t587 x49_2), .int .u8 46] rfl gL_ ?_; (with_reducible refine (spec_l1Split.calls k2 (rdOf ByteArray.empty t587 x49_2) 46 t593 _ A34.out).mono ?_); rintro e w43 ⟨v594, rfl, ho0, hb⟩; refine ⟨_, rfl, ?_⟩; replace HO_585002 := amk (Kd.R_below (oX HO_585002) hb); have HO595 := amk (Kd.R_lower (Kd.R_new' ho0 (Kd.R_lt (oX HO_47))) (below_size bB)); replace HO_47 := amk (Kd.R_elder' (oX HO_47) (Kd.R_base ho0) hb); replace BK572 := kb2 BK572 hb; replace BK584 := kb2 BK584 hb; replace HB := hB2 HB hb; (try clear hb); (try clear ho0); obtain ⟨Ao44, co44, eo44⟩ := Kd.R_slice HO595.out; subst eo44))); replace HO_47 := amk (Kd.R_drew HO_47.out); replace HO_585002 := amk (Kd.R_drew HO_585002.out); replace HO595 := amk (Kd.R_drew HO595.out); replace BK572 := amk (blk_drew BK572.out); replace BK584 := amk (blk_drew BK584.out); replace HB := amk (bd_ HB.out); have p596 : 0 ≤ (0 : Int) := (by omega); have q596 : 0 < (t593.length : Int) := dA_; obtain ⟨ad596, e596, hx596_0⟩ := Kd.at_string (Kd.R_reads' HO595.out).2.2 0 p596 q596; cases e596; have qi596 : (0 < t593.length) = True := eq_true (by omega); (try rw [show ((0 : Int)).toNat = 0 from rfl] at hx596_0); (try rw [Addr.add_zero'] at hx596_0); replace p596 := eq_true p596; replace q596 := eq_true q596; have p598 : 0 ≤ (1 : Int) := (by omega); have q598 : 1 < (t593.length : Int) := dA_; obtain ⟨ad598, e598, hx598_0⟩ := Kd.at_string (Kd.R_reads' HO595.out).2.2 1 p598 q598; obtain rfl : ad596 = ad598 := (by injection e598); (try simp only [show (1 : Int).toNat = 1 from rfl, Nat.reduceMul, Nat.reduceEqDiff, Go.Addr.add, ↓reduceIte] at hx598_0); have qi598 : (1 < t593.length) = True := eq_true (by omega); (try rw [show ((1 : Int)).toNat = 1 from rfl] at hx598_0); replace p598 := eq_true p598; replace q598 := eq_true q598; have p600 : 0 ≤ (2 : Int) := (by omega); have q600 : 2 < (t593.length : Int) := dA_; obtain ⟨ad600, e600, hx600_0⟩ := Kd.at_string (Kd.R_reads' HO595.out).2.2 2 p600 q600; obtain rfl : ad596 = ad600 := (by injection e600); (try simp only [show (2 : Int).toNat = 2 from rfl, Nat.reduceMul, Nat.reduceEqDiff, Go.Addr.add, ↓reduceIte] at hx600_0); have qi600 : (2 < t593.length) = True := eq_true (by omega); (try rw [show ((2 : Int)).toNat = 2 from rfl] at hx600_0); replace p600 := eq_true p600; replace q600 := eq_true q600; refine start_ (n := 19) (S := fun w' => w'.cell? ⟨gb584, 0, none⟩ = some (.int .i64 t581) ∧ w'.cell? ⟨gb584, 1, none⟩ = some (.int .i64 t583) ∧ w'.cell? ⟨gb584, 2, none⟩ = some (u585002) ∧ w'.cell? ad596 = some (.string (rdOf ByteArray.empty t593 0)) ∧ w'.cell? ⟨ad596.block, ad596.off + 1, none⟩ = some (.string (rdOf ByteArray.empty t593 1)) ∧ w'.cell? ⟨ad596.block, ad596.off + 2, none⟩ = some (.string (rdOf ByteArray.empty t593 2))) (ds := [16, 18]) (bA 19 0) (by kernel_rfl) rfl rfl ⟨(blk_cell BK584.out 0).trans rfl, (blk_cell BK584.out 1).trans rfl, (blk_cell BK584.out 2).trans rfl, hx596_0, hx598_0, hx600_0⟩ (fun hHeld => ?_); refine with_tabW spec_pzParse.tab15 spec_pzParse.bits15 (fun HT_ HW_ => ?_); generalize w43.drew = w45 at HO_47 HO_585002 HO595 BK572 BK584 HB hx596_0 hx598_0 hx600_0 hHeld ⊢; refine pU_ HT_ 0 (some 59) (bA 19 1) ?_; refine pU_ HT_ 2 (some 61) (bA 19 5) ?_; refine pU_ HT_ 3 (some 62) (bA 19 13) ?_; refine pU_ HT_ 6 (some 65) (bA 19 77) ?_; refine pU_ HT_ 7 (some 66) (bA 19 205) ?_; refine pU_ HT_ 10 (some 69) (bA 19 1229) ?_; refine pU_ HT_ 11 (some 70) (bA 19 3277) ?_; refine tK_ HT_ HW_ hHeld 1 (some 60) (bA 19 3279) ?_; refine tK_ HT_ HW_ hHeld 4 (some 63) (bA 19 3295) ?_; refine tK_ HT_ HW_ hHeld 8 (some 67) (bA 19 3551) ?_; refine tK_ HT_ HW_ hHeld 12 (some 71) (bA 19 7647) ?_; refine oN_ HT_ 5 (some 64) (bA 19 7679) (fun K hK => ?_); refine goes_ Tryz.func78 (by kernel_rfl) rfl #[.string (rdOf ByteArray.empty t593 0)] (by rfl) rfl rfl gL_ ?_; (with_reducible refine (spec_l1Read.calls k2 (rdOf ByteArray.empty t593 0) t597 _ A37.out).mono ?_); rintro e w' ⟨rfl, ⟨nd, rfl⟩⟩; refine ⟨_, rfl, ?_⟩; refine hK.out _ _ ⟨(blk_cell BK584.out 0).trans rfl, (blk_cell BK584.out 1).trans rfl, (blk_cell BK584.out 2).trans rfl, hHeld.2.2.2.1, hHeld.2.2.2.2.1, hHeld.2.2.2.2.2⟩ (fun hHeld => ?_); clear hK K; refine nN_ (some 64) ?_; refine oN_ HT_ 9 (some 68) (bA 19 8191) (fun K hK => ?_); refine goes_ Tryz.func78 (by kernel_rfl) rfl #[.string (rdOf ByteArray.empty t593 1)] (by rfl) rfl rfl gL_ ?_; (with_reducible refine (spec_l1Read.calls k2 (rdOf ByteArray.empty t593 1) t599 _ A39.out).mono ?_); rintro e w' ⟨rfl, ⟨nd, rfl⟩⟩; refine ⟨_, rfl, ?_⟩; refine hK.out _ _ ⟨(blk_cell BK584.out 0).trans rfl, (blk_cell BK584.out 1).trans rfl, (blk_cell BK584.out 2).trans rfl, hHeld.2.2.2.1, hHeld.2.2.2.2.1, hHeld.2.2.2.2.2⟩ (fun hHeld => ?_); clear hK K; refine nN_ (some 68) ?_; refine oN_ HT_ 13 (some 72) (bA 19 16383) (fun K hK => ?_); refine goes_ Tryz.func78 (by kernel_rfl) rfl #[.string (rdOf ByteArray.empty t593 2)] (by rfl) rfl rfl gL_ ?_; (with_reducible refine (spec_l1Read.calls k2 (rdOf ByteArray.empty t593 2) t601 _ A41.out).mono ?_); rintro e w' ⟨rfl, ⟨nd, rfl⟩⟩; refine ⟨_, rfl, ?_⟩; refine hK.out _ _ ⟨(blk_cell BK584.out 0).trans rfl, (blk_cell BK584.out 1).trans rfl, (blk_cell BK584.out 2).trans rfl, hHeld.2.2.2.1, hHeld.2.2.2.2.1, hHeld.2.2.2.2.2⟩ (fun hHeld => ?_); clear hK K; refine nN_ (some 72) ?_; refine pU_ HT_ 14 (some 73) (bA 19 32767) ?_; refine oN_ HT_ 15 (some 74) (bA 19 65535) (fun K hK => ?_); refine value_ (w1 := ?_) (v := ?_) (by rfl) rfl ?_ ?_; rotate_left 2
                                    · go_simp
                                      constructor
                                      · rfl
                                      · rfl
                                    refine hK.out _ _ ⟨(blk_cell (ka_ BK584.out _) 0).trans rfl, (blk_cell (ka_ BK584.out _) 1).trans rfl, (blk_cell (ka_ BK584.out _) 2).trans rfl, (World.cell?_alloc_lt _ _ _ (World.block_lt_of_cell? _ _ (hHeld.2.2.2.1))).trans (hHeld.2.2.2.1), (World.cell?_alloc_lt _ _ _ (World.block_lt_of_cell? _ _ (hHeld.2.2.2.2.1))).trans (hHeld.2.2.2.2.1), (World.cell?_alloc_lt _ _ _ (World.block_lt_of_cell? _ _ (hHeld.2.2.2.2.2))).trans (hHeld.2.2.2.2.2)⟩ (fun hHeld => ?_); clear hK K; refine nN_ (some 74) ?_; refine last_ (i := 16) (N := some 75) (bA 19 131071) rfl rfl (one_of HT_.out (by kernel_rfl)) (by decide) (fun K hK => ?_); refine Kd.R_append_step k45 (w0 := w) w.heap.size (by rfl) (.tmp 60) (.tmp 74) 24 45 (.agg #[(.int .i64 0), (.int .i64 0), (.int .i64 0)]) 24 rfl Tryz.underlying24 info45 rfl (by decide) (by omega) u585002 x585002_2 (⟨t597, t599, t601⟩ : S45) [.int .i64 t597, .int .i64 t599, .int .i64 t601] (fun _ => True) (fun _ => False) rfl rfl ?aP (fun _ hk => hk.elim) ?aF ?aO ?aB ?aS ?aL ?_; (case aP => exact k45_mkM _ _ _ (⟨t597, t599, t601⟩ : S45)); (case aB => exact bB); (case aF => exact (fun _ _ => trivial)); (case aO => exact (oX HO_585002)); (case aS => exact (below_size bB)); (case aL => have := LMc42.out; omega); intro v603 w46 ho hb hg hat; rw [← Ny602.out] at ho; replace HO_47 := amk (Kd.R_over' (oX HO_47) (Kd.R_typed (oX HO_585002)) (by decide) hg); replace BK572 := bG BK572 hg (Kd.R_ne HO_585002.out BK572.out (by decide)); replace BK584 := bG BK584 hg (Kd.R_ne HO_585002.out BK584.out (by decide)); replace HO595 := amk (Kd.R_over' (oX HO595) (Kd.R_typed (oX HO_585002)) (by decide) hg); replace HB := amk (hb); have HO604 := amk (ho); clear HO_585002; clear ho hb hg hat; obtain ⟨Ao47, co47, eo47⟩ := Kd.R_slice HO604.out; (first | subst eo47 | (injection eo47 with f1_ f2_ f3_; have f4_ := f1_.symm; have f5_ := f3_.symm; clear f1_ f2_ f3_; subst f4_; subst f5_)); refine hK.out _ _ ?_; clear hK K; refine nN_ (some 75) ?_; refine pU_ HT_ 17 (some 76) (bA 19 262143) ?_; refine last_ (i := 18) (N := none) (bA 19 524287) rfl rfl (one_of HT_.out (by kernel_rfl)) (by decide) (fun K hK => ?_); have hs48 : w46.cell? ⟨gb584, 2, none⟩ = some (u585002) := (blk_cell BK584.out 2).trans rfl; have hfs48 := blk_frozen BK584.out 2; have hns48_0 := NB572_584.out; have hms48_0 := NB584_572.out; refine skip_ (w1 := ?_) (by rfl) rfl ?_ ?_; rotate_left
                                    · go_simp
                                      rfl
                                    refine hK.out _ _ ?_; clear hK K; refine done_ (done_of HT_.out (by kernel_rfl)) ?_; (try go_wp2); go_roundg k2
                                    case measure => have := HJ2.out; have := HK2.out; omega
                                    case rel => exact ⟨(wrap64 (x49_2 + 1)), (x573000_2), (x573001_2), (y602), (.slice Ao47 y602.length co47), rS_, H', ⟨by have := HJ2.out; have := HK2.out; omega⟩, ⟨by (with_reducible repeat (first | apply Kd.R_alloc | apply Kd.R_drewN | apply Kd.R_drew)); exact Kd.R_mono (Kd.R_far (p := ⟨gb584, 2, none⟩) (Kd.R_types HO_47.out BK584.out (by decide)) (fun _ hk => hk.2) (.slice Ao47 y602.length co47)) (fun _ hk => trivial)⟩, ⟨by (with_reducible repeat (first | apply Kd.R_alloc | apply Kd.R_drewN | apply Kd.R_drew)); exact Kd.R_mono (Kd.R_far (p := ⟨gb584, 2, none⟩) (Kd.R_types HO604.out BK584.out (by decide)) (fun _ hk => hk.2) (.slice Ao47 y602.length co47)) (fun _ hk => trivial)⟩, ⟨kB BK572⟩, ⟨kP BK584⟩, ⟨bB⟩⟩
                                  · rw [if_neg c42] at H; exact absurd H (by simp)
                                · rw [if_neg c40] at H; exact absurd H (by simp)
                              · rw [if_neg c38] at H; exact absurd H (by simp)
                            · rw [if_neg c36] at H; exact absurd H (by simp)
                          · rw [if_neg c35] at H; have c35b0 : ((t593.length : Int) == 3) = false := beq_eq_false_iff_ne.mpr c35; have c35b1 : ((t593.length : Int) != 3) = true := bne_iff_ne.mpr c35; simp only [Option.some.injEq, Prod.mk.injEq] at H; obtain ⟨rfl, rfl, rfl, rfl⟩ := H; have p592 : 0 ≤ (x49_2 : Int) := dA_; have q592 : x49_2 < (t587.length : Int) := dA_; obtain ⟨ad592, e592, hx592_0⟩ := Kd.at_string (Kd.R_reads' HO_47.out).2.2 x49_2 p592 q592; cases e592; replace p592 := eq_true p592; replace q592 := eq_true q592; go_wp2_with (first | ((with_reducible refine gate_callee (f := 77) rfl ?_); refine goesL_ (some 54) rfl rfl Tryz.func77 (by kernel_rfl) rfl #[.string (rdOf ByteArray.empty t587 x49_2), .int .u8 46] rfl gL_ ?_; (with_reducible refine (spec_l1Split.calls k2 (rdOf ByteArray.empty t587 x49_2) 46 t593 _ A34.out).mono ?_); rintro e w49 ⟨v594, rfl, ho0, hb⟩; refine ⟨_, rfl, ?_⟩; replace HO_585002 := amk (Kd.R_below (oX HO_585002) hb); have HO595 := amk (Kd.R_lower (Kd.R_new' ho0 (Kd.R_lt (oX HO_47))) (below_size bB)); replace HO_47 := amk (Kd.R_elder' (oX HO_47) (Kd.R_base ho0) hb); replace BK572 := kb2 BK572 hb; replace BK584 := kb2 BK584 hb; replace HB := hB2 HB hb; (try clear hb); (try clear ho0); obtain ⟨Ao50, co50, eo50⟩ := Kd.R_slice HO595.out; subst eo50; have hnb51 := NB572_584.out; have hnc51 := NB584_572.out; obtain ⟨hcz52_0, hcz52_1, hcz52_2, hfz52_0, hfz52_1, hfz52_2⟩ := cells3 BK572.out)); refine bodyPost_ret (results_ct rfl _ _ gb572 26 #[.int .i64 0, .int .i64 0, .slice none 0 0] (0, 0) _ rfl (kP BK572) Tryz.underlying26 rfl (by kernel_rfl)) rfl ?_; exact ⟨_, rF_, xN_, bB⟩
                        · replace H := bE H; obtain ⟨t590, A53, H⟩ := H; replace H := iteB H; obtain ⟨rfl, H⟩ | ⟨rfl, H⟩ := H
                          · replace H := bE H; obtain ⟨t591, A55, H⟩ := H; simp only [Option.some.injEq, Prod.mk.injEq] at H; obtain ⟨rfl, rfl, rfl, rfl⟩ := H; (try go_wp2); replace HO_47 := amk (Kd.R_drew HO_47.out); replace HO_585002 := amk (Kd.R_drew HO_585002.out); replace BK572 := amk (blk_drew BK572.out); replace BK584 := amk (blk_drew BK584.out); replace HB := amk (bd_ HB.out); obtain ⟨Ao57, co57, eo57⟩ := Kd.R_slice HO_585002.out; (first | subst eo57 | (injection eo57 with f1_ f2_ f3_; have f4_ := f1_.symm; have f5_ := f3_.symm; clear f1_ f2_ f3_; subst f4_; subst f5_)); refine start_ (n := 11) (S := fun w' => w'.cell? ⟨gb584, 0, none⟩ = some (.int .i64 t581) ∧ w'.cell? ⟨gb584, 1, none⟩ = some (.int .i64 t583) ∧ w'.cell? ⟨gb584, 2, none⟩ = some (.slice Ao57 x585002_2.length co57)) (ds := []) (bA 11 0) (by kernel_rfl) rfl rfl ⟨(blk_cell BK584.out 0).trans rfl, (blk_cell BK584.out 1).trans rfl, (blk_cell BK584.out 2).trans rfl⟩ (fun hHeld => ?_); refine with_tabW spec_pzParse.tab17 spec_pzParse.bits17 (fun HT_ HW_ => ?_); generalize wr.drew = w56 at HO_47 HO_585002 BK572 BK584 HB hHeld ⊢; refine tK_ HT_ HW_ hHeld 0 (some 78) (bA 11 1) ?_; refine tK_ HT_ HW_ hHeld 1 (some 79) (bA 11 3) ?_; refine oN_ HT_ 2 (some 80) (bA 11 7) (fun K hK => ?_); refine goes_ Tryz.func35 (by kernel_rfl) rfl #[.agg #[.int .i64 t581, .int .i64 t583, .slice Ao57 x585002_2.length co57]] (by rfl) rfl rfl gL_ ?_; (with_reducible refine (spec_pzGood.calls k2 t581 t583 _ _ x585002_2 true _ ?_ ?_ A53.out).mono ?_); exact cB ((Kd.R_reads' HO_585002.out).2.2); exact (Kd.R_reads' HO_585002.out).2.1; rintro e w58 ⟨rfl, hb⟩; refine ⟨_, rfl, ?_⟩; replace HO_47 := amk (Kd.R_below (oX HO_47) hb); replace HO_585002 := amk (Kd.R_below (oX HO_585002) hb); replace BK572 := kb2 BK572 hb; replace BK584 := kb2 BK584 hb; replace HB := hB2 HB hb; (try clear hb); refine hK.out _ _ hC_ (fun hHeld => ?_); clear hK K; refine nN_ (some 80) ?_; refine pU_ HT_ 3 (some 81) (bA 11 15) ?_; refine pU_ HT_ 6 (some 84) (bA 11 79) ?_; refine tK_ HT_ HW_ hHeld 4 (some 82) (bA 11 95) ?_; refine oN_ HT_ 5 (some 83) (bA 11 127) (fun K hK => ?_); refine goes_ Tryz.func42 (by kernel_rfl) rfl #[.agg #[.int .i64 t581, .int .i64 t583, .slice Ao57 x585002_2.length co57]] (by rfl) rfl rfl gL_ ?_; (with_reducible refine (spec_pzText.calls k2 t581 t583 _ _ x585002_2 t591 _ ?_ ?_ A55.out).mono ?_); exact cB ((Kd.R_reads' HO_585002.out).2.2); exact (Kd.R_reads' HO_585002.out).2.1; rintro e w59 ⟨rfl, hb⟩; refine ⟨_, rfl, ?_⟩; replace HO_47 := amk (Kd.R_below (oX HO_47) hb); replace HO_585002 := amk (Kd.R_below (oX HO_585002) hb); replace BK572 := kb2 BK572 hb; replace BK584 := kb2 BK584 hb; replace HB := hB2 HB hb; (try clear hb); refine hK.out _ _ hC_ (fun hHeld => ?_); clear hK K; refine nN_ (some 83) ?_; refine pU_ HT_ 7 (some 85) (bA 11 255) ?_; refine pU_ HT_ 8 (some 86) (bA 11 511) ?_; refine oN_ HT_ 9 none (bA 11 1023) (fun K hK => ?_); have hs60 : w59.cell? ⟨gb572, 0, none⟩ = some (.int .i64 x573000_2) := (blk_cell BK572.out 0).trans rfl; have hfs60 := blk_frozen BK572.out 0; have hns60_1 := NB584_572.out; have hms60_1 := NB572_584.out; have hs61 : w59.cell? ⟨gb572, 1, none⟩ = some (.int .i64 x573001_2) := (blk_cell BK572.out 1).trans rfl; have hfs61 := blk_frozen BK572.out 1; have hns61_1 := NB584_572.out; have hms61_1 := NB572_584.out; have hs62 : w59.cell? ⟨gb572, 2, none⟩ = some (.slice none 0 0) := (blk_cell BK572.out 2).trans rfl; have hfs62 := blk_frozen BK572.out 2; have hns62_1 := NB584_572.out; have hms62_1 := NB572_584.out; refine skip_ (w1 := ?_) (by rfl) rfl ?_ ?_; rotate_left
                            · go_simp
                              rfl
                            refine hK.out _ _ ⟨((cell_far (p := ⟨gb572, _, none⟩) NB584_572.out _).trans (((cell_far (p := ⟨gb572, _, none⟩) NB584_572.out _).trans (((cell_far (p := ⟨gb572, _, none⟩) NB584_572.out _).trans (hHeld.1)))))), ((cell_far (p := ⟨gb572, _, none⟩) NB584_572.out _).trans (((cell_far (p := ⟨gb572, _, none⟩) NB584_572.out _).trans (((cell_far (p := ⟨gb572, _, none⟩) NB584_572.out _).trans (hHeld.2.1)))))), ((cell_far (p := ⟨gb572, _, none⟩) NB584_572.out _).trans (((cell_far (p := ⟨gb572, _, none⟩) NB584_572.out _).trans (((cell_far (p := ⟨gb572, _, none⟩) NB584_572.out _).trans (hHeld.2.2))))))⟩ (fun hHeld => ?_); clear hK K; refine pU_ HT_ 10 (some 3) (bA 11 2047) ?_; refine done_ (done_of HT_.out (by kernel_rfl)) ?_; (try go_wp2); refine bodyPost_ret (results_ct rfl _ _ gb572 26 #[.int .i64 t581, .int .i64 t583, .slice Ao57 x585002_2.length co57] (0, 0) _ rfl (kP BK572) Tryz.underlying26 rfl (by kernel_rfl)) rfl ?_; exact ⟨_, rF_, by (with_reducible repeat (first | apply Kd.R_alloc | apply Kd.R_drewN | apply Kd.R_drew)); exact Kd.R_mono (Kd.R_far (p := ⟨gb572, 2, none⟩) (Kd.R_far (p := ⟨gb572, 1, none⟩) (Kd.R_far (p := ⟨gb572, 0, none⟩) (Kd.R_types HO_585002.out BK572.out (by decide)) (fun _ hk => hk.2) (.int .i64 t581)) (fun _ hk => hk.2) (.int .i64 t583)) (fun _ hk => hk.2) (.slice Ao57 x585002_2.length co57)) (fun _ hk => trivial), bB⟩
                          · simp only [Option.some.injEq, Prod.mk.injEq] at H; obtain ⟨rfl, rfl, rfl, rfl⟩ := H; (try go_wp2); replace HO_47 := amk (Kd.R_drew HO_47.out); replace HO_585002 := amk (Kd.R_drew HO_585002.out); replace BK572 := amk (blk_drew BK572.out); replace BK584 := amk (blk_drew BK584.out); replace HB := amk (bd_ HB.out); obtain ⟨Ao64, co64, eo64⟩ := Kd.R_slice HO_585002.out; (first | subst eo64 | (injection eo64 with f1_ f2_ f3_; have f4_ := f1_.symm; have f5_ := f3_.symm; clear f1_ f2_ f3_; subst f4_; subst f5_)); refine start_ (n := 11) (S := fun w' => w'.cell? ⟨gb584, 0, none⟩ = some (.int .i64 t581) ∧ w'.cell? ⟨gb584, 1, none⟩ = some (.int .i64 t583) ∧ w'.cell? ⟨gb584, 2, none⟩ = some (.slice Ao64 x585002_2.length co64)) (ds := []) (bA 11 0) (by kernel_rfl) rfl rfl ⟨(blk_cell BK584.out 0).trans rfl, (blk_cell BK584.out 1).trans rfl, (blk_cell BK584.out 2).trans rfl⟩ (fun hHeld => ?_); refine with_tabW spec_pzParse.tab17 spec_pzParse.bits17 (fun HT_ HW_ => ?_); generalize wr.drew = w63 at HO_47 HO_585002 BK572 BK584 HB hHeld ⊢; refine tK_ HT_ HW_ hHeld 0 (some 78) (bA 11 1) ?_; refine tK_ HT_ HW_ hHeld 1 (some 79) (bA 11 3) ?_; refine oN_ HT_ 2 (some 80) (bA 11 7) (fun K hK => ?_); refine goes_ Tryz.func35 (by kernel_rfl) rfl #[.agg #[.int .i64 t581, .int .i64 t583, .slice Ao64 x585002_2.length co64]] (by rfl) rfl rfl gL_ ?_; (with_reducible refine (spec_pzGood.calls k2 t581 t583 _ _ x585002_2 false _ ?_ ?_ A53.out).mono ?_); exact cB ((Kd.R_reads' HO_585002.out).2.2); exact (Kd.R_reads' HO_585002.out).2.1; rintro e w65 ⟨rfl, hb⟩; refine ⟨_, rfl, ?_⟩; replace HO_47 := amk (Kd.R_below (oX HO_47) hb); replace HO_585002 := amk (Kd.R_below (oX HO_585002) hb); replace BK572 := kb2 BK572 hb; replace BK584 := kb2 BK584 hb; replace HB := hB2 HB hb; (try clear hb); refine hK.out _ _ hC_ (fun hHeld => ?_); clear hK K; refine nN_ (some 80) ?_; refine pU_ HT_ 3 (some 81) (bA 11 15) ?_; refine pZ_ HT_ 4 (some 82) (bA 11 31) ?_; refine pZ_ HT_ 5 (some 83) (bA 11 63) ?_; refine pZ_ HT_ 6 (some 84) (bA 11 127) ?_; refine pZ_ HT_ 7 (some 85) (bA 11 255) ?_; refine pU_ HT_ 8 (some 86) (bA 11 511) ?_; refine oN_ HT_ 9 none (bA 11 1023) (fun K hK => ?_); have hs66 : w65.cell? ⟨gb572, 0, none⟩ = some (.int .i64 x573000_2) := (blk_cell BK572.out 0).trans rfl; have hfs66 := blk_frozen BK572.out 0; have hns66_1 := NB584_572.out; have hms66_1 := NB572_584.out; have hs67 : w65.cell? ⟨gb572, 1, none⟩ = some (.int .i64 x573001_2) := (blk_cell BK572.out 1).trans rfl; have hfs67 := blk_frozen BK572.out 1; have hns67_1 := NB584_572.out; have hms67_1 := NB572_584.out; have hs68 : w65.cell? ⟨gb572, 2, none⟩ = some (.slice none 0 0) := (blk_cell BK572.out 2).trans rfl; have hfs68 := blk_frozen BK572.out 2; have hns68_1 := NB584_572.out; have hms68_1 := NB572_584.out; refine skip_ (w1 := ?_) (by rfl) rfl ?_ ?_; rotate_left
                            · go_simp
                              rfl
                            refine hK.out _ _ ⟨((cell_far (p := ⟨gb572, _, none⟩) NB584_572.out _).trans (((cell_far (p := ⟨gb572, _, none⟩) NB584_572.out _).trans (((cell_far (p := ⟨gb572, _, none⟩) NB584_572.out _).trans (hHeld.1)))))), ((cell_far (p := ⟨gb572, _, none⟩) NB584_572.out _).trans (((cell_far (p := ⟨gb572, _, none⟩) NB584_572.out _).trans (((cell_far (p := ⟨gb572, _, none⟩) NB584_572.out _).trans (hHeld.2.1)))))), ((cell_far (p := ⟨gb572, _, none⟩) NB584_572.out _).trans (((cell_far (p := ⟨gb572, _, none⟩) NB584_572.out _).trans (((cell_far (p := ⟨gb572, _, none⟩) NB584_572.out _).trans (hHeld.2.2))))))⟩ (fun hHeld => ?_); clear hK K; refine pU_ HT_ 10 (some 3) (bA 11 2047) ?_; refine done_ (done_of HT_.out (by kernel_rfl)) ?_; (try go_wp2); refine bodyPost_ret (results_ct rfl _ _ gb572 26 #[.int .i64 t581, .int .i64 t583, .slice Ao64 x585002_2.length co64] (0, 0) _ rfl (kP BK572) Tryz.underlying26 rfl (by kernel_rfl)) rfl ?_; exact ⟨_, rF_, by (with_reducible repeat (first | apply Kd.R_alloc | apply Kd.R_drewN | apply Kd.R_drew)); exact Kd.R_mono (Kd.R_far (p := ⟨gb572, 2, none⟩) (Kd.R_far (p := ⟨gb572, 1, none⟩) (Kd.R_far (p := ⟨gb572, 0, none⟩) (Kd.R_types HO_585002.out BK572.out (by decide)) (fun _ hk => hk.2) (.int .i64 t581)) (fun _ hk => hk.2) (.int .i64 t583)) (fun _ hk => hk.2) (.slice Ao64 x585002_2.length co64)) (fun _ hk => trivial), bB⟩
                  · rw [if_neg c18] at H; have c18b0 : decide (0 < ((rdOf ByteArray.empty t573 1).size : Int)) = false := decide_eq_false c18; have c18b1 : decide (0 < (rdOf ByteArray.empty t573 1).size) = false := decide_eq_false (by omega); clear c18; replace H := bE H; obtain ⟨t605, A69, H⟩ := H; replace H := iteB H; obtain ⟨rfl, H⟩ | ⟨rfl, H⟩ := H
                    · replace H := bE H; obtain ⟨t606, A71, H⟩ := H; simp only [Option.some.injEq, Prod.mk.injEq] at H; obtain ⟨rfl, rfl, rfl, rfl⟩ := H; obtain ⟨Ao72, co72, eo72⟩ := Kd.R_slice HO_4.out; subst eo72; have p576 : 0 ≤ (0 : Int) := (by omega); have q576 : 0 < (t573.length : Int) := dA_; obtain ⟨ad576, e576, hx576_0⟩ := Kd.at_string (Kd.R_reads' HO_4.out).2.2 0 p576 q576; cases e576; have qi576 : (0 < t573.length) = True := eq_true (by omega); (try rw [show ((0 : Int)).toNat = 0 from rfl] at hx576_0); (try rw [Addr.add_zero'] at hx576_0); replace p576 := eq_true p576; replace q576 := eq_true q576; (try go_wp2_with (first | ((with_reducible refine gate_callee (f := 77) rfl ?_); refine goesL_ (some 24) rfl rfl Tryz.func77 (by kernel_rfl) rfl #[.string (rdOf ByteArray.empty t573 0), .int .u8 120] rfl gL_ ?_; (with_reducible refine (spec_l1Split.calls kj2 (rdOf ByteArray.empty t573 0) 120 t577 _ A11.out).mono ?_); rintro e w73 ⟨v578, rfl, ho0, hb⟩; refine ⟨_, rfl, ?_⟩; have HO579 := amk (Kd.R_lower (Kd.R_new' ho0 (Kd.R_lt (oX HO_4))) (below_size bB)); replace HO_4 := amk (Kd.R_elder' (oX HO_4) (Kd.R_base ho0) hb); replace BK572 := kb2 BK572 hb; replace HB := hB2 HB hb; (try clear hb); (try clear ho0); obtain ⟨Ao74, co74, eo74⟩ := Kd.R_slice HO579.out; subst eo74))); replace HO_4 := amk (Kd.R_drew HO_4.out); replace HO579 := amk (Kd.R_drew HO579.out); replace BK572 := amk (blk_drew BK572.out); replace HB := amk (bd_ HB.out); have p580 : 0 ≤ (0 : Int) := (by omega); have q580 : 0 < (t577.length : Int) := dA_; obtain ⟨ad580, e580, hx580_0⟩ := Kd.at_string (Kd.R_reads' HO579.out).2.2 0 p580 q580; cases e580; have qi580 : (0 < t577.length) = True := eq_true (by omega); (try rw [show ((0 : Int)).toNat = 0 from rfl] at hx580_0); (try rw [Addr.add_zero'] at hx580_0); replace p580 := eq_true p580; replace q580 := eq_true q580; have p582 : 0 ≤ (1 : Int) := (by omega); have q582 : 1 < (t577.length : Int) := dA_; obtain ⟨ad582, e582, hx582_0⟩ := Kd.at_string (Kd.R_reads' HO579.out).2.2 1 p582 q582; obtain rfl : ad580 = ad582 := (by injection e582); (try simp only [show (1 : Int).toNat = 1 from rfl, Nat.reduceMul, Nat.reduceEqDiff, Go.Addr.add, ↓reduceIte] at hx582_0); have qi582 : (1 < t577.length) = True := eq_true (by omega); (try rw [show ((1 : Int)).toNat = 1 from rfl] at hx582_0); replace p582 := eq_true p582; replace q582 := eq_true q582; refine start_ (n := 12) (S := fun w' => w'.cell? ad580 = some (.string (rdOf ByteArray.empty t577 0)) ∧ w'.cell? ⟨ad580.block, ad580.off + 1, none⟩ = some (.string (rdOf ByteArray.empty t577 1))) (ds := []) (bA 12 0) (by kernel_rfl) rfl rfl ⟨hx580_0, hx582_0⟩ (fun hHeld => ?_); refine with_tabW spec_pzParse.tab7 spec_pzParse.bits7 (fun HT_ HW_ => ?_); generalize w73.drew = w75 at HO_4 HO579 BK572 HB hx580_0 hx582_0 hHeld ⊢; refine pU_ HT_ 0 (some 29) (bA 12 1) ?_; refine pU_ HT_ 1 (some 30) (bA 12 3) ?_; refine pU_ HT_ 4 (some 33) (bA 12 19) ?_; refine pU_ HT_ 5 (some 34) (bA 12 51) ?_; refine tK_ HT_ HW_ hHeld 2 (some 31) (bA 12 55) ?_; refine tK_ HT_ HW_ hHeld 6 (some 35) (bA 12 119) ?_; refine join_ (σ := Nat) 1 (bA 12 2047) (fun s_ => [(32, .int .i64 t581), (36, .int .i64 t583), (6, .pointer (some ⟨s_, 0, none⟩)), (37, .agg #[.int .i64 t581, .int .i64 t583]), (38, .agg #[.int .i64 t581, .int .i64 t583, .slice none 0 0])]) (fun s_ w' => (w'.cell? ad580 = some (.string (rdOf ByteArray.empty t577 0)) ∧ w'.cell? ⟨ad580.block, ad580.off + 1, none⟩ = some (.string (rdOf ByteArray.empty t577 1))) ∧ (Kd.R Kd.string 9 w' w.heap.size (fun k_ => some k_ ≠ (.slice (some ad576) t573.length co72 : Value).ownBlock) (.slice (some ad580) t577.length co74) t577) ∧ (Kd.R Kd.string 9 w' w.heap.size (fun k_ => some k_ ≠ (.slice (some ad580) t577.length co74 : Value).ownBlock) (.slice (some ad576) t573.length co72) t573) ∧ (w'.heap[gb572]? = some (.cells #[.int .i64 0, .int .i64 0, .slice none 0 0] 26 (0, 0))) ∧ (w'.heap[s_]? = some (.cells #[.int .i64 0, .int .i64 0, .slice none 0 0] 26 (0, 0))) ∧ (w.heap.size ≤ s_) ∧ (w.heap.size ≤ s_) ∧ (gb572 ≠ s_) ∧ (s_ ≠ gb572) ∧ (Below w.heap.size w w')) ?_ ?_; rotate_left
                      · intro hCont; refine two_ (i := 3) (j := 10) (Ni := some 32) (Nj := some 6) (bA 12 127) (bA 12 1143) rfl rfl rfl rfl (two_of HT_.out (by kernel_rfl)) (by decide) (by decide) (fun K hK => ?_) (fun K hK => ?_)
                        · skip
                          refine goes_ Tryz.func78 (by kernel_rfl) rfl #[.string (rdOf ByteArray.empty t577 0)] (by rfl) rfl rfl gL_ ?_; (with_reducible refine (spec_l1Read.calls kj2 (rdOf ByteArray.empty t577 0) t581 _ A14.out).mono ?_); rintro e w' ⟨rfl, ⟨nd, rfl⟩⟩; refine ⟨_, rfl, ?_⟩; refine hK.out _ _ ⟨hHeld.1, hHeld.2⟩ (fun hHeld => ?_); clear hK K; refine nN_ (some 32) ?_; refine two_ (i := 7) (j := 10) (Ni := some 36) (Nj := some 6) (bA 12 255) (bA 12 1151) rfl rfl rfl rfl (two_of HT_.out (by kernel_rfl)) (by decide) (by decide) (fun K hK => ?_) (fun K hK => ?_)
                          · skip
                            refine goes_ Tryz.func78 (by kernel_rfl) rfl #[.string (rdOf ByteArray.empty t577 1)] (by rfl) rfl rfl gL_ ?_; (with_reducible refine (spec_l1Read.calls kj2 (rdOf ByteArray.empty t577 1) t583 _ A16.out).mono ?_); rintro e w' ⟨rfl, ⟨nd, rfl⟩⟩; refine ⟨_, rfl, ?_⟩; refine hK.out _ _ ⟨hHeld.1, hHeld.2⟩ (fun hHeld => ?_); clear hK K; refine nN_ (some 36) ?_; refine pU_ HT_ 8 (some 37) (bA 12 511) ?_; refine pU_ HT_ 9 (some 38) (bA 12 1023) ?_; refine oN_ HT_ 10 (some 6) (bA 12 2047) (fun K hK => ?_); refine box_step ?hg (N := 6) ?hd (cs := #[.int .i64 0, .int .i64 0, .slice none 0 0]) (t := 26) ?hr ?_; (case hd => rfl); (case hg => rfl); (case hr => first | (go_simp; done) | (go_simp; rfl)); intro gb584 hg w76 hbox hb; have HS0_ := (hb.cell (World.block_lt_of_cell? _ _ (hHeld.1))).trans (hHeld.1); have HS1_ := (hb.cell (World.block_lt_of_cell? _ _ (hHeld.2))).trans (hHeld.2); replace HO_4 := amk (Kd.R_below (oX HO_4) hb); replace HO579 := amk (Kd.R_below (oX HO579) hb); have BK584 := amk (hbox); have GW584 := sZ HB hg; have GE584 := sZ HB hg; replace HB := hB2 HB hb; have NB572_584 := neL BK572 hg; have NB584_572 := neR BK572 hg; replace BK572 := kb2 BK572 hb; clear hb hbox hg; refine hK.out _ _ ⟨HS0_, HS1_⟩ (fun hHeld => ?_); clear hK K; refine nN_ (some 6) ?_; exact norm_ (by simp only [putAll, Act.put, List.setIfInBounds_toArray, List.set_cons_zero, List.set_cons_succ]) (hCont (gb584) _ ⟨hHeld, (by (with_reducible repeat (first | apply Kd.R_alloc | apply Kd.R_drewN | apply Kd.R_drew)); exact Kd.R_mono HO579.out (fun _ hk => hk.2)), (by (with_reducible repeat (first | apply Kd.R_alloc | apply Kd.R_drewN | apply Kd.R_drew)); exact Kd.R_mono HO_4.out (fun _ hk => hk.2)), (kB BK572), (kB BK584), GW584.out, GE584.out, NB572_584.out, NB584_572.out, bB⟩)
                          · skip
                            refine box_step ?hg (N := 6) ?hd (cs := #[.int .i64 0, .int .i64 0, .slice none 0 0]) (t := 26) ?hr ?_; (case hd => rfl); (case hg => rfl); (case hr => first | (go_simp; done) | (go_simp; rfl)); intro gb584 hg w76 hbox hb; have HS0_ := (hb.cell (World.block_lt_of_cell? _ _ (hHeld.1))).trans (hHeld.1); have HS1_ := (hb.cell (World.block_lt_of_cell? _ _ (hHeld.2))).trans (hHeld.2); replace HO_4 := amk (Kd.R_below (oX HO_4) hb); replace HO579 := amk (Kd.R_below (oX HO579) hb); have BK584 := amk (hbox); have GW584 := sZ HB hg; have GE584 := sZ HB hg; replace HB := hB2 HB hb; have NB572_584 := neL BK572 hg; have NB584_572 := neR BK572 hg; replace BK572 := kb2 BK572 hb; clear hb hbox hg; refine hK.out _ _ ⟨HS0_, HS1_⟩ (fun hHeld => ?_); clear hK K; refine nN_ (some 6) ?_; refine oN_ HT_ 7 (some 36) (bA 12 1279) (fun K hK => ?_); refine goes_ Tryz.func78 (by kernel_rfl) rfl #[.string (rdOf ByteArray.empty t577 1)] (by rfl) rfl rfl gL_ ?_; (with_reducible refine (spec_l1Read.calls kj2 (rdOf ByteArray.empty t577 1) t583 _ A16.out).mono ?_); rintro e w' ⟨rfl, ⟨nd, rfl⟩⟩; refine ⟨_, rfl, ?_⟩; refine hK.out _ _ ⟨hHeld.1, hHeld.2⟩ (fun hHeld => ?_); clear hK K; refine nN_ (some 36) ?_; refine pU_ HT_ 8 (some 37) (bA 12 1535) ?_; refine pU_ HT_ 9 (some 38) (bA 12 2047) ?_; exact norm_ (by simp only [putAll, Act.put, List.setIfInBounds_toArray, List.set_cons_zero, List.set_cons_succ]) (hCont (gb584) _ ⟨hHeld, (by (with_reducible repeat (first | apply Kd.R_alloc | apply Kd.R_drewN | apply Kd.R_drew)); exact Kd.R_mono HO579.out (fun _ hk => hk.2)), (by (with_reducible repeat (first | apply Kd.R_alloc | apply Kd.R_drewN | apply Kd.R_drew)); exact Kd.R_mono HO_4.out (fun _ hk => hk.2)), (kB BK572), (kB BK584), GW584.out, GE584.out, NB572_584.out, NB584_572.out, bB⟩)
                        · skip
                          refine box_step ?hg (N := 6) ?hd (cs := #[.int .i64 0, .int .i64 0, .slice none 0 0]) (t := 26) ?hr ?_; (case hd => rfl); (case hg => rfl); (case hr => first | (go_simp; done) | (go_simp; rfl)); intro gb584 hg w76 hbox hb; have HS0_ := (hb.cell (World.block_lt_of_cell? _ _ (hHeld.1))).trans (hHeld.1); have HS1_ := (hb.cell (World.block_lt_of_cell? _ _ (hHeld.2))).trans (hHeld.2); replace HO_4 := amk (Kd.R_below (oX HO_4) hb); replace HO579 := amk (Kd.R_below (oX HO579) hb); have BK584 := amk (hbox); have GW584 := sZ HB hg; have GE584 := sZ HB hg; replace HB := hB2 HB hb; have NB572_584 := neL BK572 hg; have NB584_572 := neR BK572 hg; replace BK572 := kb2 BK572 hb; clear hb hbox hg; refine hK.out _ _ ⟨HS0_, HS1_⟩ (fun hHeld => ?_); clear hK K; refine nN_ (some 6) ?_; refine oN_ HT_ 3 (some 32) (bA 12 1151) (fun K hK => ?_); refine goes_ Tryz.func78 (by kernel_rfl) rfl #[.string (rdOf ByteArray.empty t577 0)] (by rfl) rfl rfl gL_ ?_; (with_reducible refine (spec_l1Read.calls kj2 (rdOf ByteArray.empty t577 0) t581 _ A14.out).mono ?_); rintro e w' ⟨rfl, ⟨nd, rfl⟩⟩; refine ⟨_, rfl, ?_⟩; refine hK.out _ _ ⟨hHeld.1, hHeld.2⟩ (fun hHeld => ?_); clear hK K; refine nN_ (some 32) ?_; refine oN_ HT_ 7 (some 36) (bA 12 1279) (fun K hK => ?_); refine goes_ Tryz.func78 (by kernel_rfl) rfl #[.string (rdOf ByteArray.empty t577 1)] (by rfl) rfl rfl gL_ ?_; (with_reducible refine (spec_l1Read.calls kj2 (rdOf ByteArray.empty t577 1) t583 _ A16.out).mono ?_); rintro e w' ⟨rfl, ⟨nd, rfl⟩⟩; refine ⟨_, rfl, ?_⟩; refine hK.out _ _ ⟨hHeld.1, hHeld.2⟩ (fun hHeld => ?_); clear hK K; refine nN_ (some 36) ?_; refine pU_ HT_ 8 (some 37) (bA 12 1535) ?_; refine pU_ HT_ 9 (some 38) (bA 12 2047) ?_; exact norm_ (by simp only [putAll, Act.put, List.setIfInBounds_toArray, List.set_cons_zero, List.set_cons_succ]) (hCont (gb584) _ ⟨hHeld, (by (with_reducible repeat (first | apply Kd.R_alloc | apply Kd.R_drewN | apply Kd.R_drew)); exact Kd.R_mono HO579.out (fun _ hk => hk.2)), (by (with_reducible repeat (first | apply Kd.R_alloc | apply Kd.R_drewN | apply Kd.R_drew)); exact Kd.R_mono HO_4.out (fun _ hk => hk.2)), (kB BK572), (kB BK584), GW584.out, GE584.out, NB572_584.out, NB584_572.out, bB⟩)
                      rintro gb584 w77 ⟨hS_, h0_, h1_, h2_, h3_, h4_, h5_, h6_, h7_, h8_⟩; replace HO579 := amk h0_; replace HO_4 := amk h1_; replace BK572 := amk h2_; have BK584 := amk h3_; have GW584 := amk h4_; have GE584 := amk h5_; have NB572_584 := amk h6_; have NB584_572 := amk h7_; replace HB := amk h8_; clear h0_ h1_ h2_ h3_ h4_ h5_ h6_ h7_ h8_; have hHeld := hS_; refine norm_ (a' := ?_) ?_ ?_; rotate_left
                      · simp only [putAll, Act.put, List.setIfInBounds_toArray, List.set_cons_zero, List.set_cons_succ]
                        rfl
                      refine oN_ HT_ 11 none (bA 12 4095) (fun K hK => ?_); have hs78 : w77.cell? ⟨gb584, 0, none⟩ = some (.int .i64 0) := (blk_cell BK584.out 0).trans rfl; have hfs78 := blk_frozen BK584.out 0; have hns78_0 := NB572_584.out; have hms78_0 := NB584_572.out; have hs79 : w77.cell? ⟨gb584, 1, none⟩ = some (.int .i64 0) := (blk_cell BK584.out 1).trans rfl; have hfs79 := blk_frozen BK584.out 1; have hns79_0 := NB572_584.out; have hms79_0 := NB584_572.out; have hs80 : w77.cell? ⟨gb584, 2, none⟩ = some (.slice none 0 0) := (blk_cell BK584.out 2).trans rfl; have hfs80 := blk_frozen BK584.out 2; have hns80_0 := NB572_584.out; have hms80_0 := NB584_572.out; refine skip_ (w1 := ?_) (by rfl) rfl ?_ ?_; rotate_left
                      · go_simp
                        rfl
                      refine hK.out _ _ ⟨((cell_far (p := ⟨gb584, _, none⟩) (by first | exact Kd.own_blk (Kd.R_ne HO579.out BK584.out (by decide)) | (rw [add_block]; exact Kd.own_blk (Kd.R_ne HO579.out BK584.out (by decide))) | (show (Addr.add _ _).block ≠ _; rw [add_block]; exact Kd.own_blk (Kd.R_ne HO579.out BK584.out (by decide))) | (dsimp only; exact Kd.own_blk (Kd.R_ne HO579.out BK584.out (by decide)))) _).trans (((cell_far (p := ⟨gb584, _, none⟩) (by first | exact Kd.own_blk (Kd.R_ne HO579.out BK584.out (by decide)) | (rw [add_block]; exact Kd.own_blk (Kd.R_ne HO579.out BK584.out (by decide))) | (show (Addr.add _ _).block ≠ _; rw [add_block]; exact Kd.own_blk (Kd.R_ne HO579.out BK584.out (by decide))) | (dsimp only; exact Kd.own_blk (Kd.R_ne HO579.out BK584.out (by decide)))) _).trans (((cell_far (p := ⟨gb584, _, none⟩) (by first | exact Kd.own_blk (Kd.R_ne HO579.out BK584.out (by decide)) | (rw [add_block]; exact Kd.own_blk (Kd.R_ne HO579.out BK584.out (by decide))) | (show (Addr.add _ _).block ≠ _; rw [add_block]; exact Kd.own_blk (Kd.R_ne HO579.out BK584.out (by decide))) | (dsimp only; exact Kd.own_blk (Kd.R_ne HO579.out BK584.out (by decide)))) _).trans (hHeld.1)))))), ((cell_far (p := ⟨gb584, _, none⟩) (by first | exact Kd.own_blk (Kd.R_ne HO579.out BK584.out (by decide)) | (rw [add_block]; exact Kd.own_blk (Kd.R_ne HO579.out BK584.out (by decide))) | (show (Addr.add _ _).block ≠ _; rw [add_block]; exact Kd.own_blk (Kd.R_ne HO579.out BK584.out (by decide))) | (dsimp only; exact Kd.own_blk (Kd.R_ne HO579.out BK584.out (by decide)))) _).trans (((cell_far (p := ⟨gb584, _, none⟩) (by first | exact Kd.own_blk (Kd.R_ne HO579.out BK584.out (by decide)) | (rw [add_block]; exact Kd.own_blk (Kd.R_ne HO579.out BK584.out (by decide))) | (show (Addr.add _ _).block ≠ _; rw [add_block]; exact Kd.own_blk (Kd.R_ne HO579.out BK584.out (by decide))) | (dsimp only; exact Kd.own_blk (Kd.R_ne HO579.out BK584.out (by decide)))) _).trans (((cell_far (p := ⟨gb584, _, none⟩) (by first | exact Kd.own_blk (Kd.R_ne HO579.out BK584.out (by decide)) | (rw [add_block]; exact Kd.own_blk (Kd.R_ne HO579.out BK584.out (by decide))) | (show (Addr.add _ _).block ≠ _; rw [add_block]; exact Kd.own_blk (Kd.R_ne HO579.out BK584.out (by decide))) | (dsimp only; exact Kd.own_blk (Kd.R_ne HO579.out BK584.out (by decide)))) _).trans (hHeld.2))))))⟩ (fun hHeld => ?_); clear hK K; refine done_ (done_of HT_.out (by kernel_rfl)) ?_; have p585 : 0 ≤ (1 : Int) := (by omega); have q585 : 1 < (t573.length : Int) := dA_; obtain ⟨ad585, e585, hx585_0⟩ := Kd.at_string (Kd.R_reads' HO_4.out).2.2 1 p585 q585; obtain rfl : ad576 = ad585 := (by injection e585); (try simp only [show (1 : Int).toNat = 1 from rfl, Nat.reduceMul, Nat.reduceEqDiff, Go.Addr.add, ↓reduceIte] at hx585_0); have qi585 : (1 < t573.length) = True := eq_true (by omega); (try rw [show ((1 : Int)).toNat = 1 from rfl] at hx585_0); have hn585_0 : ad576.block ≠ gb584 := Kd.own_blk (Kd.R_ne HO_4.out BK584.out (by decide)); have hn585_1 : ad576.block ≠ gb584 := Kd.own_blk (Kd.R_ne HO_4.out BK584.out (by decide)); have hn585_2 : ad576.block ≠ gb584 := Kd.own_blk (Kd.R_ne HO_4.out BK584.out (by decide)); replace hx585_0 := (cell_far (p := ⟨gb584, 0, none⟩) (by first | (rw [add_block]; exact hn585_0) | (show (Addr.add _ _).block ≠ _; rw [add_block]; exact hn585_0) | exact hn585_0) (.int .i64 t581)).trans hx585_0; replace hx585_0 := (cell_far (p := ⟨gb584, 1, none⟩) (by first | (rw [add_block]; exact hn585_1) | (show (Addr.add _ _).block ≠ _; rw [add_block]; exact hn585_1) | exact hn585_1) (.int .i64 t583)).trans hx585_0; replace hx585_0 := (cell_far (p := ⟨gb584, 2, none⟩) (by first | (rw [add_block]; exact hn585_2) | (show (Addr.add _ _).block ≠ _; rw [add_block]; exact hn585_2) | exact hn585_2) (.slice none 0 0)).trans hx585_0; clear hn585_0; clear hn585_1; clear hn585_2; replace p585 := eq_true p585; replace q585 := eq_true q585; (try go_wp2); have n0_ : Aside0 (Kd.R Kd.string 9 (((w77.setCell ⟨gb584, 0, none⟩ (.int .i64 t581)).setCell ⟨gb584, 1, none⟩ (.int .i64 t583)).setCell ⟨gb584, 2, none⟩ (.slice none 0 0)) w.heap.size (fun k_ => some k_ ≠ (.slice (some ad580) t577.length co74 : Value).ownBlock) (.slice (some ad576) t573.length co72) t573) := ⟨by (with_reducible repeat (first | apply Kd.R_alloc | apply Kd.R_drewN | apply Kd.R_drew)); exact Kd.R_mono (Kd.R_far (p := ⟨gb584, 2, none⟩) (Kd.R_far (p := ⟨gb584, 1, none⟩) (Kd.R_far (p := ⟨gb584, 0, none⟩) (Kd.R_types HO_4.out BK584.out (by decide)) (fun _ hk => hk.2) (.int .i64 t581)) (fun _ hk => hk.2) (.int .i64 t583)) (fun _ hk => hk.2) (.slice none 0 0)) (fun _ hk => hk.1)⟩; have n1_ : Aside0 (Kd.R Kd.string 9 (((w77.setCell ⟨gb584, 0, none⟩ (.int .i64 t581)).setCell ⟨gb584, 1, none⟩ (.int .i64 t583)).setCell ⟨gb584, 2, none⟩ (.slice none 0 0)) w.heap.size (fun k_ => some k_ ≠ (.slice (some ad576) t573.length co72 : Value).ownBlock) (.slice (some ad580) t577.length co74) t577) := ⟨by (with_reducible repeat (first | apply Kd.R_alloc | apply Kd.R_drewN | apply Kd.R_drew)); exact Kd.R_mono (Kd.R_far (p := ⟨gb584, 2, none⟩) (Kd.R_far (p := ⟨gb584, 1, none⟩) (Kd.R_far (p := ⟨gb584, 0, none⟩) (Kd.R_types HO579.out BK584.out (by decide)) (fun _ hk => hk.2) (.int .i64 t581)) (fun _ hk => hk.2) (.int .i64 t583)) (fun _ hk => hk.2) (.slice none 0 0)) (fun _ hk => hk.1)⟩; have n2_ : Aside0 ((((w77.setCell ⟨gb584, 0, none⟩ (.int .i64 t581)).setCell ⟨gb584, 1, none⟩ (.int .i64 t583)).setCell ⟨gb584, 2, none⟩ (.slice none 0 0)).heap[gb572]? = some (.cells #[.int .i64 0, .int .i64 0, .slice none 0 0] 26 (0, 0))) := ⟨kB BK572⟩; have n3_ : Aside0 ((((w77.setCell ⟨gb584, 0, none⟩ (.int .i64 t581)).setCell ⟨gb584, 1, none⟩ (.int .i64 t583)).setCell ⟨gb584, 2, none⟩ (.slice none 0 0)).heap[gb584]? = some (.cells #[.int .i64 t581, .int .i64 t583, .slice none 0 0] 26 (0, 0))) := ⟨kP BK584⟩; have n4_ : Aside0 (Below w.heap.size w (((w77.setCell ⟨gb584, 0, none⟩ (.int .i64 t581)).setCell ⟨gb584, 1, none⟩ (.int .i64 t583)).setCell ⟨gb584, 2, none⟩ (.slice none 0 0))) := ⟨bB⟩; generalize (((w77.setCell ⟨gb584, 0, none⟩ (.int .i64 t581)).setCell ⟨gb584, 1, none⟩ (.int .i64 t583)).setCell ⟨gb584, 2, none⟩ (.slice none 0 0)) = w81 at n0_ n1_ n2_ n3_ n4_ ⊢; have HO_4 := n0_; have HO579 := n1_; have BK572 := n2_; have BK584 := n3_; have HB := n4_; clear n0_ n1_ n2_ n3_ n4_; replace HO_4 := amk (Kd.R_drew HO_4.out); replace HO579 := amk (Kd.R_drew HO579.out); replace BK572 := amk (blk_drew BK572.out); replace BK584 := amk (blk_drew BK584.out); replace HB := amk (bd_ HB.out); refine start_ (n := 11) (S := fun w' => w'.cell? ⟨gb584, 0, none⟩ = some (.int .i64 t581) ∧ w'.cell? ⟨gb584, 1, none⟩ = some (.int .i64 t583) ∧ w'.cell? ⟨gb584, 2, none⟩ = some (.slice none 0 0)) (ds := []) (bA 11 0) (by kernel_rfl) rfl rfl ⟨(blk_cell BK584.out 0).trans rfl, (blk_cell BK584.out 1).trans rfl, (blk_cell BK584.out 2).trans rfl⟩ (fun hHeld => ?_); refine with_tabW spec_pzParse.tab17 spec_pzParse.bits17 (fun HT_ HW_ => ?_); generalize w81.drew = w82 at HO_4 HO579 BK572 BK584 HB hHeld ⊢; refine tK_ HT_ HW_ hHeld 0 (some 78) (bA 11 1) ?_; refine tK_ HT_ HW_ hHeld 1 (some 79) (bA 11 3) ?_; refine oN_ HT_ 2 (some 80) (bA 11 7) (fun K hK => ?_); refine goes_ Tryz.func35 (by kernel_rfl) rfl #[.agg #[.int .i64 t581, .int .i64 t583, .slice none 0 0]] (by rfl) rfl rfl gL_ ?_; refine (spec_pzGood.calls kj2 t581 t583 _ _ ([] : List (S45)) true _ ?side1 ?side2 A69.out).mono ?_; (case side1 => exact Kd.C_nil _ _); (case side2 => exact Nat.le_refl _); rintro e w83 ⟨rfl, hb⟩; refine ⟨_, rfl, ?_⟩; replace HO_4 := amk (Kd.R_below (oX HO_4) hb); replace HO579 := amk (Kd.R_below (oX HO579) hb); replace BK572 := kb2 BK572 hb; replace BK584 := kb2 BK584 hb; replace HB := hB2 HB hb; (try clear hb); refine hK.out _ _ hC_ (fun hHeld => ?_); clear hK K; refine nN_ (some 80) ?_; refine pU_ HT_ 3 (some 81) (bA 11 15) ?_; refine pU_ HT_ 6 (some 84) (bA 11 79) ?_; refine tK_ HT_ HW_ hHeld 4 (some 82) (bA 11 95) ?_; refine oN_ HT_ 5 (some 83) (bA 11 127) (fun K hK => ?_); refine goes_ Tryz.func42 (by kernel_rfl) rfl #[.agg #[.int .i64 t581, .int .i64 t583, .slice none 0 0]] (by rfl) rfl rfl gL_ ?_; refine (spec_pzText.calls kj2 t581 t583 _ _ ([] : List (S45)) t606 _ ?side1 ?side2 A71.out).mono ?_; (case side1 => exact Kd.C_nil _ _); (case side2 => exact Nat.le_refl _); rintro e w84 ⟨rfl, hb⟩; refine ⟨_, rfl, ?_⟩; replace HO_4 := amk (Kd.R_below (oX HO_4) hb); replace HO579 := amk (Kd.R_below (oX HO579) hb); replace BK572 := kb2 BK572 hb; replace BK584 := kb2 BK584 hb; replace HB := hB2 HB hb; (try clear hb); refine hK.out _ _ hC_ (fun hHeld => ?_); clear hK K; refine nN_ (some 83) ?_; refine pU_ HT_ 7 (some 85) (bA 11 255) ?_; refine pU_ HT_ 8 (some 86) (bA 11 511) ?_; refine oN_ HT_ 9 none (bA 11 1023) (fun K hK => ?_); have hs85 : w84.cell? ⟨gb572, 0, none⟩ = some (.int .i64 0) := (blk_cell BK572.out 0).trans rfl; have hfs85 := blk_frozen BK572.out 0; have hns85_1 := NB584_572.out; have hms85_1 := NB572_584.out; have hs86 : w84.cell? ⟨gb572, 1, none⟩ = some (.int .i64 0) := (blk_cell BK572.out 1).trans rfl; have hfs86 := blk_frozen BK572.out 1; have hns86_1 := NB584_572.out; have hms86_1 := NB572_584.out; have hs87 : w84.cell? ⟨gb572, 2, none⟩ = some (.slice none 0 0) := (blk_cell BK572.out 2).trans rfl; have hfs87 := blk_frozen BK572.out 2; have hns87_1 := NB584_572.out; have hms87_1 := NB572_584.out; refine skip_ (w1 := ?_) (by rfl) rfl ?_ ?_; rotate_left
                      · go_simp
                        rfl
                      refine hK.out _ _ ⟨((cell_far (p := ⟨gb572, _, none⟩) NB584_572.out _).trans (((cell_far (p := ⟨gb572, _, none⟩) NB584_572.out _).trans (((cell_far (p := ⟨gb572, _, none⟩) NB584_572.out _).trans (hHeld.1)))))), ((cell_far (p := ⟨gb572, _, none⟩) NB584_572.out _).trans (((cell_far (p := ⟨gb572, _, none⟩) NB584_572.out _).trans (((cell_far (p := ⟨gb572, _, none⟩) NB584_572.out _).trans (hHeld.2.1)))))), ((cell_far (p := ⟨gb572, _, none⟩) NB584_572.out _).trans (((cell_far (p := ⟨gb572, _, none⟩) NB584_572.out _).trans (((cell_far (p := ⟨gb572, _, none⟩) NB584_572.out _).trans (hHeld.2.2))))))⟩ (fun hHeld => ?_); clear hK K; refine pU_ HT_ 10 (some 3) (bA 11 2047) ?_; refine done_ (done_of HT_.out (by kernel_rfl)) ?_; (try go_wp2); refine bodyPost_ret (results_ct rfl _ _ gb572 26 #[.int .i64 t581, .int .i64 t583, .slice none 0 0] (0, 0) _ rfl (kP BK572) Tryz.underlying26 rfl (by kernel_rfl)) rfl ?_; exact ⟨_, rF_, xN_, bB⟩
                    · simp only [Option.some.injEq, Prod.mk.injEq] at H; obtain ⟨rfl, rfl, rfl, rfl⟩ := H; obtain ⟨Ao88, co88, eo88⟩ := Kd.R_slice HO_4.out; subst eo88; have p576 : 0 ≤ (0 : Int) := (by omega); have q576 : 0 < (t573.length : Int) := dA_; obtain ⟨ad576, e576, hx576_0⟩ := Kd.at_string (Kd.R_reads' HO_4.out).2.2 0 p576 q576; cases e576; have qi576 : (0 < t573.length) = True := eq_true (by omega); (try rw [show ((0 : Int)).toNat = 0 from rfl] at hx576_0); (try rw [Addr.add_zero'] at hx576_0); replace p576 := eq_true p576; replace q576 := eq_true q576; (try go_wp2_with (first | ((with_reducible refine gate_callee (f := 77) rfl ?_); refine goesL_ (some 24) rfl rfl Tryz.func77 (by kernel_rfl) rfl #[.string (rdOf ByteArray.empty t573 0), .int .u8 120] rfl gL_ ?_; (with_reducible refine (spec_l1Split.calls kj2 (rdOf ByteArray.empty t573 0) 120 t577 _ A11.out).mono ?_); rintro e w89 ⟨v578, rfl, ho0, hb⟩; refine ⟨_, rfl, ?_⟩; have HO579 := amk (Kd.R_lower (Kd.R_new' ho0 (Kd.R_lt (oX HO_4))) (below_size bB)); replace HO_4 := amk (Kd.R_elder' (oX HO_4) (Kd.R_base ho0) hb); replace BK572 := kb2 BK572 hb; replace HB := hB2 HB hb; (try clear hb); (try clear ho0); obtain ⟨Ao90, co90, eo90⟩ := Kd.R_slice HO579.out; subst eo90))); replace HO_4 := amk (Kd.R_drew HO_4.out); replace HO579 := amk (Kd.R_drew HO579.out); replace BK572 := amk (blk_drew BK572.out); replace HB := amk (bd_ HB.out); have p580 : 0 ≤ (0 : Int) := (by omega); have q580 : 0 < (t577.length : Int) := dA_; obtain ⟨ad580, e580, hx580_0⟩ := Kd.at_string (Kd.R_reads' HO579.out).2.2 0 p580 q580; cases e580; have qi580 : (0 < t577.length) = True := eq_true (by omega); (try rw [show ((0 : Int)).toNat = 0 from rfl] at hx580_0); (try rw [Addr.add_zero'] at hx580_0); replace p580 := eq_true p580; replace q580 := eq_true q580; have p582 : 0 ≤ (1 : Int) := (by omega); have q582 : 1 < (t577.length : Int) := dA_; obtain ⟨ad582, e582, hx582_0⟩ := Kd.at_string (Kd.R_reads' HO579.out).2.2 1 p582 q582; obtain rfl : ad580 = ad582 := (by injection e582); (try simp only [show (1 : Int).toNat = 1 from rfl, Nat.reduceMul, Nat.reduceEqDiff, Go.Addr.add, ↓reduceIte] at hx582_0); have qi582 : (1 < t577.length) = True := eq_true (by omega); (try rw [show ((1 : Int)).toNat = 1 from rfl] at hx582_0); replace p582 := eq_true p582; replace q582 := eq_true q582; refine start_ (n := 12) (S := fun w' => w'.cell? ad580 = some (.string (rdOf ByteArray.empty t577 0)) ∧ w'.cell? ⟨ad580.block, ad580.off + 1, none⟩ = some (.string (rdOf ByteArray.empty t577 1))) (ds := []) (bA 12 0) (by kernel_rfl) rfl rfl ⟨hx580_0, hx582_0⟩ (fun hHeld => ?_); refine with_tabW spec_pzParse.tab7 spec_pzParse.bits7 (fun HT_ HW_ => ?_); generalize w89.drew = w91 at HO_4 HO579 BK572 HB hx580_0 hx582_0 hHeld ⊢; refine pU_ HT_ 0 (some 29) (bA 12 1) ?_; refine pU_ HT_ 1 (some 30) (bA 12 3) ?_; refine pU_ HT_ 4 (some 33) (bA 12 19) ?_; refine pU_ HT_ 5 (some 34) (bA 12 51) ?_; refine tK_ HT_ HW_ hHeld 2 (some 31) (bA 12 55) ?_; refine tK_ HT_ HW_ hHeld 6 (some 35) (bA 12 119) ?_; refine join_ (σ := Nat) 1 (bA 12 2047) (fun s_ => [(32, .int .i64 t581), (36, .int .i64 t583), (6, .pointer (some ⟨s_, 0, none⟩)), (37, .agg #[.int .i64 t581, .int .i64 t583]), (38, .agg #[.int .i64 t581, .int .i64 t583, .slice none 0 0])]) (fun s_ w' => (w'.cell? ad580 = some (.string (rdOf ByteArray.empty t577 0)) ∧ w'.cell? ⟨ad580.block, ad580.off + 1, none⟩ = some (.string (rdOf ByteArray.empty t577 1))) ∧ (Kd.R Kd.string 9 w' w.heap.size (fun k_ => some k_ ≠ (.slice (some ad576) t573.length co88 : Value).ownBlock) (.slice (some ad580) t577.length co90) t577) ∧ (Kd.R Kd.string 9 w' w.heap.size (fun k_ => some k_ ≠ (.slice (some ad580) t577.length co90 : Value).ownBlock) (.slice (some ad576) t573.length co88) t573) ∧ (w'.heap[gb572]? = some (.cells #[.int .i64 0, .int .i64 0, .slice none 0 0] 26 (0, 0))) ∧ (w'.heap[s_]? = some (.cells #[.int .i64 0, .int .i64 0, .slice none 0 0] 26 (0, 0))) ∧ (w.heap.size ≤ s_) ∧ (w.heap.size ≤ s_) ∧ (gb572 ≠ s_) ∧ (s_ ≠ gb572) ∧ (Below w.heap.size w w')) ?_ ?_; rotate_left
                      · intro hCont; refine two_ (i := 3) (j := 10) (Ni := some 32) (Nj := some 6) (bA 12 127) (bA 12 1143) rfl rfl rfl rfl (two_of HT_.out (by kernel_rfl)) (by decide) (by decide) (fun K hK => ?_) (fun K hK => ?_)
                        · skip
                          refine goes_ Tryz.func78 (by kernel_rfl) rfl #[.string (rdOf ByteArray.empty t577 0)] (by rfl) rfl rfl gL_ ?_; (with_reducible refine (spec_l1Read.calls kj2 (rdOf ByteArray.empty t577 0) t581 _ A14.out).mono ?_); rintro e w' ⟨rfl, ⟨nd, rfl⟩⟩; refine ⟨_, rfl, ?_⟩; refine hK.out _ _ ⟨hHeld.1, hHeld.2⟩ (fun hHeld => ?_); clear hK K; refine nN_ (some 32) ?_; refine two_ (i := 7) (j := 10) (Ni := some 36) (Nj := some 6) (bA 12 255) (bA 12 1151) rfl rfl rfl rfl (two_of HT_.out (by kernel_rfl)) (by decide) (by decide) (fun K hK => ?_) (fun K hK => ?_)
                          · skip
                            refine goes_ Tryz.func78 (by kernel_rfl) rfl #[.string (rdOf ByteArray.empty t577 1)] (by rfl) rfl rfl gL_ ?_; (with_reducible refine (spec_l1Read.calls kj2 (rdOf ByteArray.empty t577 1) t583 _ A16.out).mono ?_); rintro e w' ⟨rfl, ⟨nd, rfl⟩⟩; refine ⟨_, rfl, ?_⟩; refine hK.out _ _ ⟨hHeld.1, hHeld.2⟩ (fun hHeld => ?_); clear hK K; refine nN_ (some 36) ?_; refine pU_ HT_ 8 (some 37) (bA 12 511) ?_; refine pU_ HT_ 9 (some 38) (bA 12 1023) ?_; refine oN_ HT_ 10 (some 6) (bA 12 2047) (fun K hK => ?_); refine box_step ?hg (N := 6) ?hd (cs := #[.int .i64 0, .int .i64 0, .slice none 0 0]) (t := 26) ?hr ?_; (case hd => rfl); (case hg => rfl); (case hr => first | (go_simp; done) | (go_simp; rfl)); intro gb584 hg w92 hbox hb; have HS0_ := (hb.cell (World.block_lt_of_cell? _ _ (hHeld.1))).trans (hHeld.1); have HS1_ := (hb.cell (World.block_lt_of_cell? _ _ (hHeld.2))).trans (hHeld.2); replace HO_4 := amk (Kd.R_below (oX HO_4) hb); replace HO579 := amk (Kd.R_below (oX HO579) hb); have BK584 := amk (hbox); have GW584 := sZ HB hg; have GE584 := sZ HB hg; replace HB := hB2 HB hb; have NB572_584 := neL BK572 hg; have NB584_572 := neR BK572 hg; replace BK572 := kb2 BK572 hb; clear hb hbox hg; refine hK.out _ _ ⟨HS0_, HS1_⟩ (fun hHeld => ?_); clear hK K; refine nN_ (some 6) ?_; exact norm_ (by simp only [putAll, Act.put, List.setIfInBounds_toArray, List.set_cons_zero, List.set_cons_succ]) (hCont (gb584) _ ⟨hHeld, (by (with_reducible repeat (first | apply Kd.R_alloc | apply Kd.R_drewN | apply Kd.R_drew)); exact Kd.R_mono HO579.out (fun _ hk => hk.2)), (by (with_reducible repeat (first | apply Kd.R_alloc | apply Kd.R_drewN | apply Kd.R_drew)); exact Kd.R_mono HO_4.out (fun _ hk => hk.2)), (kB BK572), (kB BK584), GW584.out, GE584.out, NB572_584.out, NB584_572.out, bB⟩)
                          · skip
                            refine box_step ?hg (N := 6) ?hd (cs := #[.int .i64 0, .int .i64 0, .slice none 0 0]) (t := 26) ?hr ?_; (case hd => rfl); (case hg => rfl); (case hr => first | (go_simp; done) | (go_simp; rfl)); intro gb584 hg w92 hbox hb; have HS0_ := (hb.cell (World.block_lt_of_cell? _ _ (hHeld.1))).trans (hHeld.1); have HS1_ := (hb.cell (World.block_lt_of_cell? _ _ (hHeld.2))).trans (hHeld.2); replace HO_4 := amk (Kd.R_below (oX HO_4) hb); replace HO579 := amk (Kd.R_below (oX HO579) hb); have BK584 := amk (hbox); have GW584 := sZ HB hg; have GE584 := sZ HB hg; replace HB := hB2 HB hb; have NB572_584 := neL BK572 hg; have NB584_572 := neR BK572 hg; replace BK572 := kb2 BK572 hb; clear hb hbox hg; refine hK.out _ _ ⟨HS0_, HS1_⟩ (fun hHeld => ?_); clear hK K; refine nN_ (some 6) ?_; refine oN_ HT_ 7 (some 36) (bA 12 1279) (fun K hK => ?_); refine goes_ Tryz.func78 (by kernel_rfl) rfl #[.string (rdOf ByteArray.empty t577 1)] (by rfl) rfl rfl gL_ ?_; (with_reducible refine (spec_l1Read.calls kj2 (rdOf ByteArray.empty t577 1) t583 _ A16.out).mono ?_); rintro e w' ⟨rfl, ⟨nd, rfl⟩⟩; refine ⟨_, rfl, ?_⟩; refine hK.out _ _ ⟨hHeld.1, hHeld.2⟩ (fun hHeld => ?_); clear hK K; refine nN_ (some 36) ?_; refine pU_ HT_ 8 (some 37) (bA 12 1535) ?_; refine pU_ HT_ 9 (some 38) (bA 12 2047) ?_; exact norm_ (by simp only [putAll, Act.put, List.setIfInBounds_toArray, List.set_cons_zero, List.set_cons_succ]) (hCont (gb584) _ ⟨hHeld, (by (with_reducible repeat (first | apply Kd.R_alloc | apply Kd.R_drewN | apply Kd.R_drew)); exact Kd.R_mono HO579.out (fun _ hk => hk.2)), (by (with_reducible repeat (first | apply Kd.R_alloc | apply Kd.R_drewN | apply Kd.R_drew)); exact Kd.R_mono HO_4.out (fun _ hk => hk.2)), (kB BK572), (kB BK584), GW584.out, GE584.out, NB572_584.out, NB584_572.out, bB⟩)
                        · skip
                          refine box_step ?hg (N := 6) ?hd (cs := #[.int .i64 0, .int .i64 0, .slice none 0 0]) (t := 26) ?hr ?_; (case hd => rfl); (case hg => rfl); (case hr => first | (go_simp; done) | (go_simp; rfl)); intro gb584 hg w92 hbox hb; have HS0_ := (hb.cell (World.block_lt_of_cell? _ _ (hHeld.1))).trans (hHeld.1); have HS1_ := (hb.cell (World.block_lt_of_cell? _ _ (hHeld.2))).trans (hHeld.2); replace HO_4 := amk (Kd.R_below (oX HO_4) hb); replace HO579 := amk (Kd.R_below (oX HO579) hb); have BK584 := amk (hbox); have GW584 := sZ HB hg; have GE584 := sZ HB hg; replace HB := hB2 HB hb; have NB572_584 := neL BK572 hg; have NB584_572 := neR BK572 hg; replace BK572 := kb2 BK572 hb; clear hb hbox hg; refine hK.out _ _ ⟨HS0_, HS1_⟩ (fun hHeld => ?_); clear hK K; refine nN_ (some 6) ?_; refine oN_ HT_ 3 (some 32) (bA 12 1151) (fun K hK => ?_); refine goes_ Tryz.func78 (by kernel_rfl) rfl #[.string (rdOf ByteArray.empty t577 0)] (by rfl) rfl rfl gL_ ?_; (with_reducible refine (spec_l1Read.calls kj2 (rdOf ByteArray.empty t577 0) t581 _ A14.out).mono ?_); rintro e w' ⟨rfl, ⟨nd, rfl⟩⟩; refine ⟨_, rfl, ?_⟩; refine hK.out _ _ ⟨hHeld.1, hHeld.2⟩ (fun hHeld => ?_); clear hK K; refine nN_ (some 32) ?_; refine oN_ HT_ 7 (some 36) (bA 12 1279) (fun K hK => ?_); refine goes_ Tryz.func78 (by kernel_rfl) rfl #[.string (rdOf ByteArray.empty t577 1)] (by rfl) rfl rfl gL_ ?_; (with_reducible refine (spec_l1Read.calls kj2 (rdOf ByteArray.empty t577 1) t583 _ A16.out).mono ?_); rintro e w' ⟨rfl, ⟨nd, rfl⟩⟩; refine ⟨_, rfl, ?_⟩; refine hK.out _ _ ⟨hHeld.1, hHeld.2⟩ (fun hHeld => ?_); clear hK K; refine nN_ (some 36) ?_; refine pU_ HT_ 8 (some 37) (bA 12 1535) ?_; refine pU_ HT_ 9 (some 38) (bA 12 2047) ?_; exact norm_ (by simp only [putAll, Act.put, List.setIfInBounds_toArray, List.set_cons_zero, List.set_cons_succ]) (hCont (gb584) _ ⟨hHeld, (by (with_reducible repeat (first | apply Kd.R_alloc | apply Kd.R_drewN | apply Kd.R_drew)); exact Kd.R_mono HO579.out (fun _ hk => hk.2)), (by (with_reducible repeat (first | apply Kd.R_alloc | apply Kd.R_drewN | apply Kd.R_drew)); exact Kd.R_mono HO_4.out (fun _ hk => hk.2)), (kB BK572), (kB BK584), GW584.out, GE584.out, NB572_584.out, NB584_572.out, bB⟩)
                      rintro gb584 w93 ⟨hS_, h0_, h1_, h2_, h3_, h4_, h5_, h6_, h7_, h8_⟩; replace HO579 := amk h0_; replace HO_4 := amk h1_; replace BK572 := amk h2_; have BK584 := amk h3_; have GW584 := amk h4_; have GE584 := amk h5_; have NB572_584 := amk h6_; have NB584_572 := amk h7_; replace HB := amk h8_; clear h0_ h1_ h2_ h3_ h4_ h5_ h6_ h7_ h8_; have hHeld := hS_; refine norm_ (a' := ?_) ?_ ?_; rotate_left
                      · simp only [putAll, Act.put, List.setIfInBounds_toArray, List.set_cons_zero, List.set_cons_succ]
                        rfl
                      refine oN_ HT_ 11 none (bA 12 4095) (fun K hK => ?_); have hs94 : w93.cell? ⟨gb584, 0, none⟩ = some (.int .i64 0) := (blk_cell BK584.out 0).trans rfl; have hfs94 := blk_frozen BK584.out 0; have hns94_0 := NB572_584.out; have hms94_0 := NB584_572.out; have hs95 : w93.cell? ⟨gb584, 1, none⟩ = some (.int .i64 0) := (blk_cell BK584.out 1).trans rfl; have hfs95 := blk_frozen BK584.out 1; have hns95_0 := NB572_584.out; have hms95_0 := NB584_572.out; have hs96 : w93.cell? ⟨gb584, 2, none⟩ = some (.slice none 0 0) := (blk_cell BK584.out 2).trans rfl; have hfs96 := blk_frozen BK584.out 2; have hns96_0 := NB572_584.out; have hms96_0 := NB584_572.out; refine skip_ (w1 := ?_) (by rfl) rfl ?_ ?_; rotate_left
                      · go_simp
                        rfl
                      refine hK.out _ _ ⟨((cell_far (p := ⟨gb584, _, none⟩) (by first | exact Kd.own_blk (Kd.R_ne HO579.out BK584.out (by decide)) | (rw [add_block]; exact Kd.own_blk (Kd.R_ne HO579.out BK584.out (by decide))) | (show (Addr.add _ _).block ≠ _; rw [add_block]; exact Kd.own_blk (Kd.R_ne HO579.out BK584.out (by decide))) | (dsimp only; exact Kd.own_blk (Kd.R_ne HO579.out BK584.out (by decide)))) _).trans (((cell_far (p := ⟨gb584, _, none⟩) (by first | exact Kd.own_blk (Kd.R_ne HO579.out BK584.out (by decide)) | (rw [add_block]; exact Kd.own_blk (Kd.R_ne HO579.out BK584.out (by decide))) | (show (Addr.add _ _).block ≠ _; rw [add_block]; exact Kd.own_blk (Kd.R_ne HO579.out BK584.out (by decide))) | (dsimp only; exact Kd.own_blk (Kd.R_ne HO579.out BK584.out (by decide)))) _).trans (((cell_far (p := ⟨gb584, _, none⟩) (by first | exact Kd.own_blk (Kd.R_ne HO579.out BK584.out (by decide)) | (rw [add_block]; exact Kd.own_blk (Kd.R_ne HO579.out BK584.out (by decide))) | (show (Addr.add _ _).block ≠ _; rw [add_block]; exact Kd.own_blk (Kd.R_ne HO579.out BK584.out (by decide))) | (dsimp only; exact Kd.own_blk (Kd.R_ne HO579.out BK584.out (by decide)))) _).trans (hHeld.1)))))), ((cell_far (p := ⟨gb584, _, none⟩) (by first | exact Kd.own_blk (Kd.R_ne HO579.out BK584.out (by decide)) | (rw [add_block]; exact Kd.own_blk (Kd.R_ne HO579.out BK584.out (by decide))) | (show (Addr.add _ _).block ≠ _; rw [add_block]; exact Kd.own_blk (Kd.R_ne HO579.out BK584.out (by decide))) | (dsimp only; exact Kd.own_blk (Kd.R_ne HO579.out BK584.out (by decide)))) _).trans (((cell_far (p := ⟨gb584, _, none⟩) (by first | exact Kd.own_blk (Kd.R_ne HO579.out BK584.out (by decide)) | (rw [add_block]; exact Kd.own_blk (Kd.R_ne HO579.out BK584.out (by decide))) | (show (Addr.add _ _).block ≠ _; rw [add_block]; exact Kd.own_blk (Kd.R_ne HO579.out BK584.out (by decide))) | (dsimp only; exact Kd.own_blk (Kd.R_ne HO579.out BK584.out (by decide)))) _).trans (((cell_far (p := ⟨gb584, _, none⟩) (by first | exact Kd.own_blk (Kd.R_ne HO579.out BK584.out (by decide)) | (rw [add_block]; exact Kd.own_blk (Kd.R_ne HO579.out BK584.out (by decide))) | (show (Addr.add _ _).block ≠ _; rw [add_block]; exact Kd.own_blk (Kd.R_ne HO579.out BK584.out (by decide))) | (dsimp only; exact Kd.own_blk (Kd.R_ne HO579.out BK584.out (by decide)))) _).trans (hHeld.2))))))⟩ (fun hHeld => ?_); clear hK K; refine done_ (done_of HT_.out (by kernel_rfl)) ?_; have p585 : 0 ≤ (1 : Int) := (by omega); have q585 : 1 < (t573.length : Int) := dA_; obtain ⟨ad585, e585, hx585_0⟩ := Kd.at_string (Kd.R_reads' HO_4.out).2.2 1 p585 q585; obtain rfl : ad576 = ad585 := (by injection e585); (try simp only [show (1 : Int).toNat = 1 from rfl, Nat.reduceMul, Nat.reduceEqDiff, Go.Addr.add, ↓reduceIte] at hx585_0); have qi585 : (1 < t573.length) = True := eq_true (by omega); (try rw [show ((1 : Int)).toNat = 1 from rfl] at hx585_0); have hn585_0 : ad576.block ≠ gb584 := Kd.own_blk (Kd.R_ne HO_4.out BK584.out (by decide)); have hn585_1 : ad576.block ≠ gb584 := Kd.own_blk (Kd.R_ne HO_4.out BK584.out (by decide)); have hn585_2 : ad576.block ≠ gb584 := Kd.own_blk (Kd.R_ne HO_4.out BK584.out (by decide)); replace hx585_0 := (cell_far (p := ⟨gb584, 0, none⟩) (by first | (rw [add_block]; exact hn585_0) | (show (Addr.add _ _).block ≠ _; rw [add_block]; exact hn585_0) | exact hn585_0) (.int .i64 t581)).trans hx585_0; replace hx585_0 := (cell_far (p := ⟨gb584, 1, none⟩) (by first | (rw [add_block]; exact hn585_1) | (show (Addr.add _ _).block ≠ _; rw [add_block]; exact hn585_1) | exact hn585_1) (.int .i64 t583)).trans hx585_0; replace hx585_0 := (cell_far (p := ⟨gb584, 2, none⟩) (by first | (rw [add_block]; exact hn585_2) | (show (Addr.add _ _).block ≠ _; rw [add_block]; exact hn585_2) | exact hn585_2) (.slice none 0 0)).trans hx585_0; clear hn585_0; clear hn585_1; clear hn585_2; replace p585 := eq_true p585; replace q585 := eq_true q585; (try go_wp2); have n0_ : Aside0 (Kd.R Kd.string 9 (((w93.setCell ⟨gb584, 0, none⟩ (.int .i64 t581)).setCell ⟨gb584, 1, none⟩ (.int .i64 t583)).setCell ⟨gb584, 2, none⟩ (.slice none 0 0)) w.heap.size (fun k_ => some k_ ≠ (.slice (some ad580) t577.length co90 : Value).ownBlock) (.slice (some ad576) t573.length co88) t573) := ⟨by (with_reducible repeat (first | apply Kd.R_alloc | apply Kd.R_drewN | apply Kd.R_drew)); exact Kd.R_mono (Kd.R_far (p := ⟨gb584, 2, none⟩) (Kd.R_far (p := ⟨gb584, 1, none⟩) (Kd.R_far (p := ⟨gb584, 0, none⟩) (Kd.R_types HO_4.out BK584.out (by decide)) (fun _ hk => hk.2) (.int .i64 t581)) (fun _ hk => hk.2) (.int .i64 t583)) (fun _ hk => hk.2) (.slice none 0 0)) (fun _ hk => hk.1)⟩; have n1_ : Aside0 (Kd.R Kd.string 9 (((w93.setCell ⟨gb584, 0, none⟩ (.int .i64 t581)).setCell ⟨gb584, 1, none⟩ (.int .i64 t583)).setCell ⟨gb584, 2, none⟩ (.slice none 0 0)) w.heap.size (fun k_ => some k_ ≠ (.slice (some ad576) t573.length co88 : Value).ownBlock) (.slice (some ad580) t577.length co90) t577) := ⟨by (with_reducible repeat (first | apply Kd.R_alloc | apply Kd.R_drewN | apply Kd.R_drew)); exact Kd.R_mono (Kd.R_far (p := ⟨gb584, 2, none⟩) (Kd.R_far (p := ⟨gb584, 1, none⟩) (Kd.R_far (p := ⟨gb584, 0, none⟩) (Kd.R_types HO579.out BK584.out (by decide)) (fun _ hk => hk.2) (.int .i64 t581)) (fun _ hk => hk.2) (.int .i64 t583)) (fun _ hk => hk.2) (.slice none 0 0)) (fun _ hk => hk.1)⟩; have n2_ : Aside0 ((((w93.setCell ⟨gb584, 0, none⟩ (.int .i64 t581)).setCell ⟨gb584, 1, none⟩ (.int .i64 t583)).setCell ⟨gb584, 2, none⟩ (.slice none 0 0)).heap[gb572]? = some (.cells #[.int .i64 0, .int .i64 0, .slice none 0 0] 26 (0, 0))) := ⟨kB BK572⟩; have n3_ : Aside0 ((((w93.setCell ⟨gb584, 0, none⟩ (.int .i64 t581)).setCell ⟨gb584, 1, none⟩ (.int .i64 t583)).setCell ⟨gb584, 2, none⟩ (.slice none 0 0)).heap[gb584]? = some (.cells #[.int .i64 t581, .int .i64 t583, .slice none 0 0] 26 (0, 0))) := ⟨kP BK584⟩; have n4_ : Aside0 (Below w.heap.size w (((w93.setCell ⟨gb584, 0, none⟩ (.int .i64 t581)).setCell ⟨gb584, 1, none⟩ (.int .i64 t583)).setCell ⟨gb584, 2, none⟩ (.slice none 0 0))) := ⟨bB⟩; generalize (((w93.setCell ⟨gb584, 0, none⟩ (.int .i64 t581)).setCell ⟨gb584, 1, none⟩ (.int .i64 t583)).setCell ⟨gb584, 2, none⟩ (.slice none 0 0)) = w97 at n0_ n1_ n2_ n3_ n4_ ⊢; have HO_4 := n0_; have HO579 := n1_; have BK572 := n2_; have BK584 := n3_; have HB := n4_; clear n0_ n1_ n2_ n3_ n4_; replace HO_4 := amk (Kd.R_drew HO_4.out); replace HO579 := amk (Kd.R_drew HO579.out); replace BK572 := amk (blk_drew BK572.out); replace BK584 := amk (blk_drew BK584.out); replace HB := amk (bd_ HB.out); refine start_ (n := 11) (S := fun w' => w'.cell? ⟨gb584, 0, none⟩ = some (.int .i64 t581) ∧ w'.cell? ⟨gb584, 1, none⟩ = some (.int .i64 t583) ∧ w'.cell? ⟨gb584, 2, none⟩ = some (.slice none 0 0)) (ds := []) (bA 11 0) (by kernel_rfl) rfl rfl ⟨(blk_cell BK584.out 0).trans rfl, (blk_cell BK584.out 1).trans rfl, (blk_cell BK584.out 2).trans rfl⟩ (fun hHeld => ?_); refine with_tabW spec_pzParse.tab17 spec_pzParse.bits17 (fun HT_ HW_ => ?_); generalize w97.drew = w98 at HO_4 HO579 BK572 BK584 HB hHeld ⊢; refine tK_ HT_ HW_ hHeld 0 (some 78) (bA 11 1) ?_; refine tK_ HT_ HW_ hHeld 1 (some 79) (bA 11 3) ?_; refine oN_ HT_ 2 (some 80) (bA 11 7) (fun K hK => ?_); refine goes_ Tryz.func35 (by kernel_rfl) rfl #[.agg #[.int .i64 t581, .int .i64 t583, .slice none 0 0]] (by rfl) rfl rfl gL_ ?_; refine (spec_pzGood.calls kj2 t581 t583 _ _ ([] : List (S45)) false _ ?side1 ?side2 A69.out).mono ?_; (case side1 => exact Kd.C_nil _ _); (case side2 => exact Nat.le_refl _); rintro e w99 ⟨rfl, hb⟩; refine ⟨_, rfl, ?_⟩; replace HO_4 := amk (Kd.R_below (oX HO_4) hb); replace HO579 := amk (Kd.R_below (oX HO579) hb); replace BK572 := kb2 BK572 hb; replace BK584 := kb2 BK584 hb; replace HB := hB2 HB hb; (try clear hb); refine hK.out _ _ hC_ (fun hHeld => ?_); clear hK K; refine nN_ (some 80) ?_; refine pU_ HT_ 3 (some 81) (bA 11 15) ?_; refine pZ_ HT_ 4 (some 82) (bA 11 31) ?_; refine pZ_ HT_ 5 (some 83) (bA 11 63) ?_; refine pZ_ HT_ 6 (some 84) (bA 11 127) ?_; refine pZ_ HT_ 7 (some 85) (bA 11 255) ?_; refine pU_ HT_ 8 (some 86) (bA 11 511) ?_; refine oN_ HT_ 9 none (bA 11 1023) (fun K hK => ?_); have hs100 : w99.cell? ⟨gb572, 0, none⟩ = some (.int .i64 0) := (blk_cell BK572.out 0).trans rfl; have hfs100 := blk_frozen BK572.out 0; have hns100_1 := NB584_572.out; have hms100_1 := NB572_584.out; have hs101 : w99.cell? ⟨gb572, 1, none⟩ = some (.int .i64 0) := (blk_cell BK572.out 1).trans rfl; have hfs101 := blk_frozen BK572.out 1; have hns101_1 := NB584_572.out; have hms101_1 := NB572_584.out; have hs102 : w99.cell? ⟨gb572, 2, none⟩ = some (.slice none 0 0) := (blk_cell BK572.out 2).trans rfl; have hfs102 := blk_frozen BK572.out 2; have hns102_1 := NB584_572.out; have hms102_1 := NB572_584.out; refine skip_ (w1 := ?_) (by rfl) rfl ?_ ?_; rotate_left
                      · go_simp
                        rfl
                      refine hK.out _ _ ⟨((cell_far (p := ⟨gb572, _, none⟩) NB584_572.out _).trans (((cell_far (p := ⟨gb572, _, none⟩) NB584_572.out _).trans (((cell_far (p := ⟨gb572, _, none⟩) NB584_572.out _).trans (hHeld.1)))))), ((cell_far (p := ⟨gb572, _, none⟩) NB584_572.out _).trans (((cell_far (p := ⟨gb572, _, none⟩) NB584_572.out _).trans (((cell_far (p := ⟨gb572, _, none⟩) NB584_572.out _).trans (hHeld.2.1)))))), ((cell_far (p := ⟨gb572, _, none⟩) NB584_572.out _).trans (((cell_far (p := ⟨gb572, _, none⟩) NB584_572.out _).trans (((cell_far (p := ⟨gb572, _, none⟩) NB584_572.out _).trans (hHeld.2.2))))))⟩ (fun hHeld => ?_); clear hK K; refine pU_ HT_ 10 (some 3) (bA 11 2047) ?_; refine done_ (done_of HT_.out (by kernel_rfl)) ?_; (try go_wp2); refine bodyPost_ret (results_ct rfl _ _ gb572 26 #[.int .i64 t581, .int .i64 t583, .slice none 0 0] (0, 0) _ rfl (kP BK572) Tryz.underlying26 rfl (by kernel_rfl)) rfl ?_; exact ⟨_, rF_, xN_, bB⟩
                · rw [if_neg c17] at H; exact absurd H (by simp)
              · rw [if_neg c15] at H; exact absurd H (by simp)
            · rw [if_neg c13] at H; exact absurd H (by simp)
          · rw [if_neg c12] at H; have c12b0 : ((t577.length : Int) == 2) = false := beq_eq_false_iff_ne.mpr c12; have c12b1 : ((t577.length : Int) != 2) = true := bne_iff_ne.mpr c12; simp only [Option.some.injEq, Prod.mk.injEq] at H; obtain ⟨rfl, rfl, rfl, rfl⟩ := H; obtain ⟨Ao103, co103, eo103⟩ := Kd.R_slice HO_4.out; subst eo103; have p576 : 0 ≤ (0 : Int) := (by omega); have q576 : 0 < (t573.length : Int) := dA_; obtain ⟨ad576, e576, hx576_0⟩ := Kd.at_string (Kd.R_reads' HO_4.out).2.2 0 p576 q576; cases e576; have qi576 : (0 < t573.length) = True := eq_true (by omega); (try rw [show ((0 : Int)).toNat = 0 from rfl] at hx576_0); (try rw [Addr.add_zero'] at hx576_0); replace p576 := eq_true p576; replace q576 := eq_true q576; go_wp2_with (first | ((with_reducible refine gate_callee (f := 77) rfl ?_); refine goesL_ (some 24) rfl rfl Tryz.func77 (by kernel_rfl) rfl #[.string (rdOf ByteArray.empty t573 0), .int .u8 120] rfl gL_ ?_; (with_reducible refine (spec_l1Split.calls kj2 (rdOf ByteArray.empty t573 0) 120 t577 _ A11.out).mono ?_); rintro e w104 ⟨v578, rfl, ho0, hb⟩; refine ⟨_, rfl, ?_⟩; have HO579 := amk (Kd.R_lower (Kd.R_new' ho0 (Kd.R_lt (oX HO_4))) (below_size bB)); replace HO_4 := amk (Kd.R_elder' (oX HO_4) (Kd.R_base ho0) hb); replace BK572 := kb2 BK572 hb; replace HB := hB2 HB hb; (try clear hb); (try clear ho0); obtain ⟨Ao105, co105, eo105⟩ := Kd.R_slice HO579.out; subst eo105; obtain ⟨hcz106_0, hcz106_1, hcz106_2, hfz106_0, hfz106_1, hfz106_2⟩ := cells3 BK572.out)); refine bodyPost_ret (results_ct rfl _ _ gb572 26 #[.int .i64 0, .int .i64 0, .slice none 0 0] (0, 0) _ rfl (kP BK572) Tryz.underlying26 rfl (by kernel_rfl)) rfl ?_; exact ⟨_, rF_, xN_, bB⟩
        · rw [if_neg c10] at H; exact absurd H (by simp)
/-! ### spec_ParsePuzzle: function 33 -/
def spec_ParsePuzzle.f (k : Nat) (a0 : ByteArray) : Option (Int × Int × (List (S45)) × Bool) := (spec_pzParse.f k a0).bind fun bt608 => (if bt608.2.2.2 = true then (some (bt608.1, bt608.2.1, bt608.2.2.1, true)) else (some (0, 0, ([] : List (S45)), false)))
set_option maxHeartbeats 8000000 in
set_option maxRecDepth 100000 in
theorem spec_ParsePuzzle.calls (k : Nat) (a0 : ByteArray) (r1 : Int) (r2 : Int) (r3 : List (S45)) (r4 : Bool) (w : World) (h : spec_ParsePuzzle.f k a0 = some (r1, r2, r3, r4)) :
    Calls Tryz.prog 33 #[.string a0] w fun e w' => ∃ v2_ : Value, e = .returned (.tuple #[.agg #[.int .i64 r1, .int .i64 r2, v2_], .bool r4]) ∧ Kd.R k45 45 w' w.heap.size (fun _ => True) v2_ r3 ∧ Below w.heap.size w w' := by
  have hu26 := Tryz.underlying26; have HB := amk (Below.refl w.heap.size w); unfold spec_ParsePuzzle.f at h; have H := h; clear h; replace H := bE H; obtain ⟨⟨t608, t609, t610, t613⟩, A2, H⟩ := H; (try dsimp only at H); replace H := iteB H; obtain ⟨rfl, H⟩ | ⟨rfl, H⟩ := H
  · simp only [Option.some.injEq, Prod.mk.injEq] at H; obtain ⟨rfl, rfl, rfl, rfl⟩ := H; go_enter Tryz.func33, Tryz.ntmps33; go_wp2_with (first | ((with_reducible refine gate_dst (N := 2) rfl ?_); refine boxE_ HB 2 #[.int .i64 0, .int .i64 0, .slice none 0 0] 26 ?_; clear HB; intro gb607 w4 HB BK607 GW607 GE607 hb; clear hb) | ((with_reducible refine gate_callee (f := 55) rfl ?_); refine goesL_ (some 8) rfl rfl Tryz.func55 (by kernel_rfl) rfl #[.string a0] rfl gL_ ?_; (with_reducible refine (spec_pzParse.calls k a0 t608 t609 t610 true _ A2.out).mono ?_); rintro e w5 ⟨v611, rfl, ho0, hb⟩; refine ⟨_, rfl, ?_⟩; have HO612 := amk (Kd.R_lower ho0 (below_size bB)); replace BK607 := kb2 BK607 hb; replace HB := hB2 HB hb; (try clear hb); (try clear ho0)) | ((with_reducible refine gate_dst (N := 4) rfl ?_); refine boxG_ 4 #[.int .i64 0, .int .i64 0, .slice none 0 0] 26 ?_; intro gb614 w6 hg BK614 hb; replace HO612 := amk (Kd.R_below (oX HO612) hb); have GW614 := sZ HB hg; have GE614 := sZ HB hg; replace HB := hB2 HB hb; have NB607_614 := neL BK607 hg; have NB614_607 := neR BK607 hg; replace BK607 := kb2 BK607 hb; clear hb hg; have hnb7 := NB614_607.out; have hnc7 := NB607_614.out; obtain ⟨hcz8_0, hcz8_1, hcz8_2, hfz8_0, hfz8_1, hfz8_2⟩ := cells3 BK614.out; obtain ⟨Ao9, co9, eo9⟩ := Kd.R_slice HO612.out; subst eo9; obtain ⟨hcz10_0, hcz10_1, hcz10_2, hfz10_0, hfz10_1, hfz10_2⟩ := cells3 BK607.out)); refine bodyPost_ret (results_ct rfl _ _ gb607 26 #[.int .i64 t608, .int .i64 t609, .slice Ao9 t610.length co9] (0, 0) _ rfl (by (with_reducible repeat (first | refine kn_ ?_ _ | refine blk_drew ?_ | refine ka_ ?_ _)); refine blk_put (cs := #[.int .i64 t608, .int .i64 t609, .slice none 0 0]) ?_ 2 _ rfl; (with_reducible repeat (first | refine kn_ ?_ _ | refine blk_drew ?_ | refine ka_ ?_ _)); refine blk_put (cs := #[.int .i64 t608, .int .i64 0, .slice none 0 0]) ?_ 1 _ rfl; (with_reducible repeat (first | refine kn_ ?_ _ | refine blk_drew ?_ | refine ka_ ?_ _)); refine blk_put (cs := #[.int .i64 0, .int .i64 0, .slice none 0 0]) ?_ 0 _ rfl; (with_reducible repeat (first | refine kn_ ?_ _ | refine blk_drew ?_ | refine ka_ ?_ _)); refine blk_far ?_ NB607_614.out _; (with_reducible repeat (first | refine kn_ ?_ _ | refine blk_drew ?_ | refine ka_ ?_ _)); refine blk_far ?_ NB607_614.out _; (with_reducible repeat (first | refine kn_ ?_ _ | refine blk_drew ?_ | refine ka_ ?_ _)); refine blk_far ?_ NB607_614.out _; (with_reducible repeat (first | refine kn_ ?_ _ | refine blk_drew ?_ | refine ka_ ?_ _)); exact BK607.out) Tryz.underlying26 rfl (by kernel_rfl)) rfl ?_; exact ⟨_, rF_, by (with_reducible repeat (first | apply Kd.R_alloc | apply Kd.R_drewN | apply Kd.R_drew)); exact Kd.R_mono (Kd.R_far (p := ⟨gb607, 2, none⟩) (Kd.R_far (p := ⟨gb607, 1, none⟩) (Kd.R_far (p := ⟨gb607, 0, none⟩) (Kd.R_far (p := ⟨gb614, 2, none⟩) (Kd.R_far (p := ⟨gb614, 1, none⟩) (Kd.R_far (p := ⟨gb614, 0, none⟩) (Kd.R_types (Kd.R_types HO612.out BK614.out (by decide)) BK607.out (by decide)) (fun _ hk => hk.1.2) (.int .i64 t608)) (fun _ hk => hk.1.2) (.int .i64 t609)) (fun _ hk => hk.1.2) (.slice Ao9 t610.length co9)) (fun _ hk => hk.2) (.int .i64 t608)) (fun _ hk => hk.2) (.int .i64 t609)) (fun _ hk => hk.2) (.slice Ao9 t610.length co9)) (fun _ hk => trivial), bB⟩
  · simp only [Option.some.injEq, Prod.mk.injEq] at H; obtain ⟨rfl, rfl, rfl, rfl⟩ := H; go_enter Tryz.func33, Tryz.ntmps33; go_wp2_with (first | ((with_reducible refine gate_dst (N := 2) rfl ?_); refine boxE_ HB 2 #[.int .i64 0, .int .i64 0, .slice none 0 0] 26 ?_; clear HB; intro gb607 w11 HB BK607 GW607 GE607 hb; clear hb) | ((with_reducible refine gate_callee (f := 55) rfl ?_); refine goesL_ (some 8) rfl rfl Tryz.func55 (by kernel_rfl) rfl #[.string a0] rfl gL_ ?_; (with_reducible refine (spec_pzParse.calls k a0 t608 t609 t610 false _ A2.out).mono ?_); rintro e w12 ⟨v611, rfl, ho0, hb⟩; refine ⟨_, rfl, ?_⟩; have HO612 := amk (Kd.R_lower ho0 (below_size bB)); replace BK607 := kb2 BK607 hb; replace HB := hB2 HB hb; (try clear hb); (try clear ho0)) | ((with_reducible refine gate_dst (N := 4) rfl ?_); refine boxG_ 4 #[.int .i64 0, .int .i64 0, .slice none 0 0] 26 ?_; intro gb614 w13 hg BK614 hb; replace HO612 := amk (Kd.R_below (oX HO612) hb); have GW614 := sZ HB hg; have GE614 := sZ HB hg; replace HB := hB2 HB hb; have NB607_614 := neL BK607 hg; have NB614_607 := neR BK607 hg; replace BK607 := kb2 BK607 hb; clear hb hg; have hnb14 := NB614_607.out; have hnc14 := NB607_614.out; obtain ⟨hcz15_0, hcz15_1, hcz15_2, hfz15_0, hfz15_1, hfz15_2⟩ := cells3 BK614.out; obtain ⟨Ao16, co16, eo16⟩ := Kd.R_slice HO612.out; subst eo16; obtain ⟨hcz17_0, hcz17_1, hcz17_2, hfz17_0, hfz17_1, hfz17_2⟩ := cells3 BK607.out)); refine bodyPost_ret (results_ct rfl _ _ gb607 26 #[.int .i64 0, .int .i64 0, .slice none 0 0] (0, 0) _ rfl (by (with_reducible repeat (first | refine kn_ ?_ _ | refine blk_drew ?_ | refine ka_ ?_ _)); refine blk_put (cs := #[.int .i64 0, .int .i64 0, .slice none 0 0]) ?_ 2 _ rfl; (with_reducible repeat (first | refine kn_ ?_ _ | refine blk_drew ?_ | refine ka_ ?_ _)); refine blk_put (cs := #[.int .i64 0, .int .i64 0, .slice none 0 0]) ?_ 1 _ rfl; (with_reducible repeat (first | refine kn_ ?_ _ | refine blk_drew ?_ | refine ka_ ?_ _)); refine blk_put (cs := #[.int .i64 0, .int .i64 0, .slice none 0 0]) ?_ 0 _ rfl; (with_reducible repeat (first | refine kn_ ?_ _ | refine blk_drew ?_ | refine ka_ ?_ _)); refine blk_far ?_ NB607_614.out _; (with_reducible repeat (first | refine kn_ ?_ _ | refine blk_drew ?_ | refine ka_ ?_ _)); refine blk_far ?_ NB607_614.out _; (with_reducible repeat (first | refine kn_ ?_ _ | refine blk_drew ?_ | refine ka_ ?_ _)); refine blk_far ?_ NB607_614.out _; (with_reducible repeat (first | refine kn_ ?_ _ | refine blk_drew ?_ | refine ka_ ?_ _)); exact BK607.out) Tryz.underlying26 rfl (by kernel_rfl)) rfl ?_; exact ⟨_, rF_, xN_, bB⟩
/-! Puzzles read from texts: what the two come to. -/
theorem impl_parseLock.is {s : ByteArray} (hs : s.size ≤ 1000) : impl_parseLock.f s = some (atoiV (byL (Lib.cut s.data.toList [120]).1), atoiV (byL (Lib.cut s.data.toList [120]).2.1)) := by
  have hz := Lib.size_eq s
  obtain ⟨q1, q2⟩ := cut_len s.data.toList [120]
  have e0 : strings_Cut.f s ⟨#[120]⟩ = some (byL (Lib.cut s.data.toList [120]).1, byL (Lib.cut s.data.toList [120]).2.1, (Lib.cut s.data.toList [120]).2.2) := if_pos (by omega)
  unfold impl_parseLock.f
  rw [e0, Option.bind_some, atoi_ok (by rw [bytesOf_size]; omega), Option.bind_some, atoi_ok (by rw [bytesOf_size]; omega)]; rfl
theorem impl_ParsePuzzle.ev (s : ByteArray) (hs : s.size ≤ 1048576) : ∃ w d l, Ev (fun k => impl_ParsePuzzle.f k s) (qqV w d l s) ∧ OwnZ w d l s := by
  unfold impl_ParsePuzzle.f
  by_cases hb : (s.size : Int) > 200
  · exact ⟨0, 0, [], Ev.yes hb (Ev.id (qqV_none s).symm), OwnZ.of_big (by omega)⟩
  · have hz := Lib.size_eq s
    obtain ⟨q1, q2⟩ := cut_len s.data.toList [58]
    have e0 : strings_Cut.f s ⟨#[58]⟩ = some (byL (Lib.cut s.data.toList [58]).1, byL (Lib.cut s.data.toList [58]).2.1, (Lib.cut s.data.toList [58]).2.2) := if_pos (by omega)
    have eL := impl_parseLock.is (s := byL (Lib.cut s.data.toList [58]).1) (by rw [bytesOf_size]; omega)
    rw [bytesOf_data] at eL
    have e2 : strings_Split.f (byL (Lib.cut s.data.toList [58]).2.1) ⟨#[44]⟩ = some (splitL (byL (Lib.cut s.data.toList [58]).2.1) ⟨#[44]⟩) := if_pos ⟨by rw [bytesOf_size]; omega, by decide⟩
    obtain ⟨l1, l2⟩ := splitL_small (sep := ⟨#[44]⟩) (c := 44) rfl (byL (Lib.cut s.data.toList [58]).2.1)
    rw [bytesOf_size] at l1 l2
    have own : ∀ w' d' l', puzzleB w' d' l' = true → puzzleT w' d' l' = s → atoiV (byL (Lib.cut (Lib.cut s.data.toList [58]).1 [120]).1) = w' ∧ atoiV (byL (Lib.cut (Lib.cut s.data.toList [58]).1 [120]).2.1) = d' ∧ (Lib.cut s.data.toList [58]).2.1 = cluesU l' ∧ ∀ c ∈ l', TxtClue c := by
      intro w' d' l' h1 h2
      obtain ⟨a1, a2, a3⟩ := puzzleB_txt h1
      obtain ⟨b1, _⟩ := smallB_iff.mp a1
      have hb2 := puzzleT_bytes w' d' l'
      rw [h2] at hb2
      rw [hb2, cut_one (lockU_ne (by omega) (by omega))]
      have hc : Lib.cut (lockU w' d') [120] = ((decB w').data.toList, (decB d').data.toList, true) := cut_one (decB_ne (by omega) (by omega) (by decide))
      show atoiV (byL (Lib.cut (lockU w' d') [120]).1) = w' ∧ atoiV (byL (Lib.cut (lockU w' d') [120]).2.1) = d' ∧ cluesU l' = cluesU l' ∧ _
      rw [hc]
      refine ⟨?_, ?_, rfl, a3⟩
      · show atoiV (byL (decB w').data.toList) = w'
        rw [← bytes_eq (a := decB w') rfl, atoiV_num (by omega) (by omega)]
      · show atoiV (byL (decB d').data.toList) = d'
        rw [← bytes_eq (a := decB d') rfl, atoiV_num (by omega) (by omega)]
    by_cases ht : (Lib.cut s.data.toList [58]).2.1 = []
    · have ht2 : (byL (Lib.cut s.data.toList [58]).2.1).toList = [] := by rw [ByteArray.toList_eq, bytesOf_data, ht]
      have hgo : Ev (fun k => impl_ParsePuzzle.l0 k s (byL (Lib.cut s.data.toList [58]).2.1) (splitL (byL (Lib.cut s.data.toList [58]).2.1) ⟨#[44]⟩) ((splitL (byL (Lib.cut s.data.toList [58]).2.1) ⟨#[44]⟩).length : Int) 0 (atoiV (byL (Lib.cut (Lib.cut s.data.toList [58]).1 [120]).1)) (atoiV (byL (Lib.cut (Lib.cut s.data.toList [58]).1 [120]).2.1)) []) (qqV (atoiV (byL (Lib.cut (Lib.cut s.data.toList [58]).1 [120]).1)) (atoiV (byL (Lib.cut (Lib.cut s.data.toList [58]).1 [120]).2.1)) [] s) := by
        by_cases hn : 0 < (splitL (byL (Lib.cut s.data.toList [58]).2.1) ⟨#[44]⟩).length
        · exact Ev.step (fun k => rfl) (Ev.yes (by omega) (Ev.yes (by omega) (Ev.yes (by omega) (Ev.yes ht2 (impl_ParsePuzzle.j1ev _ _ _ _)))))
        · exact Ev.step (fun k => rfl) (Ev.no (by omega) (impl_ParsePuzzle.j1ev _ _ _ _))
      refine ⟨_, _, _, Ev.no hb (Ev.bindc e0 (Ev.bindc eL (Ev.bindc e2 hgo))), fun w' d' l' h1 h2 => ?_⟩
      obtain ⟨c1, c2, c3, _⟩ := own w' d' l' h1 h2
      exact ⟨c1, c2, (cluesU_nil.mp (c3.symm.trans ht)).symm⟩
    · have ht2 : ¬ (byL (Lib.cut s.data.toList [58]).2.1).toList = [] := by rw [ByteArray.toList_eq, bytesOf_data]; exact ht
      have hgo := impl_ParsePuzzle.lev s (byL (Lib.cut s.data.toList [58]).2.1) ht2 (atoiV (byL (Lib.cut (Lib.cut s.data.toList [58]).1 [120]).1)) (atoiV (byL (Lib.cut (Lib.cut s.data.toList [58]).1 [120]).2.1)) (splitL (byL (Lib.cut s.data.toList [58]).2.1) ⟨#[44]⟩) (fun x hx => by have := l2 x hx; omega) (by omega) (splitL (byL (Lib.cut s.data.toList [58]).2.1) ⟨#[44]⟩).length 0 (by omega)
      rw [List.take_zero, List.map_nil] at hgo
      refine ⟨_, _, _, Ev.no hb (Ev.bindc e0 (Ev.bindc eL (Ev.bindc e2 hgo))), fun w' d' l' h1 h2 => ?_⟩
      obtain ⟨c1, c2, c3, c4⟩ := own w' d' l' h1 h2
      refine ⟨c1, c2, ?_⟩
      have hne : l' ≠ [] := fun h => ht (c3.trans (cluesU_nil.mpr h))
      have e3 := unmap (splitL_mapc (sep := ⟨#[44]⟩) (c := 44) rfl (byL (Lib.cut s.data.toList [58]).2.1))
      rw [bytesOf_data, c3, cluesU_split hne c4, map_clueU] at e3
      rw [c3, e3, List.map_map]
      conv => rhs; rw [← List.map_id l']
      exact List.map_congr_left (fun c hc => clI_back (c4 c hc))
def Rd (x : ByteArray) (c : S45) : Prop := ∃ p0 p1 p2, splL 46 x.data.toList = [p0, p1, p2] ∧ Ev (fun k => spec_l1Read.f k (byL p0)) c.f0 ∧ Ev (fun k => spec_l1Read.f k (byL p1)) c.f1 ∧ Ev (fun k => spec_l1Read.f k (byL p2)) c.f2
def RdL : List ByteArray → List S45 → Prop
  | [], [] => True
  | x :: xs, c :: cs => Rd x c ∧ RdL xs cs
  | _, _ => False
def kqV (w d : Int) (l : List S45) (s : ByteArray) : Int × Int × List S45 × Bool := if puzzleB w d l = true then (w, d, l, ((puzzleT w d l).toList == s.toList)) else (w, d, l, false)
theorem kq_qq (w d : Int) (l : List S45) (s : ByteArray) : (if (kqV w d l s).2.2.2 = true then ((kqV w d l s).1, (kqV w d l s).2.1, (kqV w d l s).2.2.1, true) else (0, 0, [], false)) = qqV w d l s := by
  unfold kqV qqV
  by_cases c : puzzleB w d l = true
  · by_cases c2 : puzzleT w d l = s
    · have h3 : ((puzzleT w d l).toList == s.toList) = true := beq_iff_eq.mpr (bl_eq.mpr c2)
      simp [c, c2, h3]
    · have h3 : ((puzzleT w d l).toList == s.toList) = false := beq_eq_false_iff_ne.mpr (fun h => c2 (bl_eq.mp h))
      simp [c, c2, h3]
  · simp [c]
theorem kqV.ev (s : ByteArray) (w d : Int) (l : List S45) (hl : l.length ≤ 1048577) : Ev (fun k => (spec_pzGood.f k w d l).bind fun t => (if t = true then ((spec_pzText.f k w d l).bind fun u => (some (w, d, l, (u.toList == s.toList)))) else (some (w, d, l, false)))) (kqV w d l s) := by
  refine Ev.bind (spec_pzGood.ev w d l (by omega)) ?_
  unfold kqV
  by_cases h1 : puzzleB w d l = true
  · obtain ⟨a1, a2, a3⟩ := puzzleB_txt h1
    obtain ⟨b1, _⟩ := smallB_iff.mp a1
    refine Ev.yes h1 (Ev.bind (spec_pzText.ev w d (by omega) (by omega) l a2 a3) (Ev.id ?_))
    rw [if_pos h1]
  · refine Ev.no h1 (Ev.id ?_)
    rw [if_neg h1]
theorem three {α : Type} {l : List α} (h : l.length = 3) : ∃ a b c, l = [a, b, c] := by
  match l, h with
  | [a, b, c], _ => exact ⟨a, b, c, rfl⟩
theorem twoP_ {α : Type} {l : List α} (h : l.length = 2) : ∃ a b, l = [a, b] := by
  match l, h with
  | [a, b], _ => exact ⟨a, b, rfl⟩
theorem spec_pzParse.lev (s : ByteArray) (w d : Int) (xs : List ByteArray) (hx : ∀ x ∈ xs, x.size ≤ 1048576) (hl : xs.length ≤ 1048577) : ∀ (m i : Nat) (acc : List S45), i + m = xs.length → acc.length = i → ∃ o, Ev (fun k => spec_pzParse.l0 k s xs (xs.length : Int) (i : Nat) w d acc) o ∧ ((∃ cs, RdL (xs.drop i) cs ∧ o = kqV w d (acc ++ cs) s) ∨ (o = (0, 0, [], false) ∧ ∃ x ∈ xs.drop i, (splL 46 x.data.toList).length ≠ 3)) := by
  intro m
  induction m with
  | zero =>
    intro i acc hi ha
    refine ⟨kqV w d acc s, Ev.step (fun k => rfl) (Ev.no (by omega) (kqV.ev s w d acc (by omega))), .inl ⟨[], ?_, by rw [List.append_nil]⟩⟩
    rw [List.drop_eq_nil_of_le (by omega)]; exact trivial
  | succ m ih =>
    intro i acc hi ha
    have hlt : i < xs.length := by omega
    have hs1 := spec_l1Split.ev 46 xs[i] (hx _ (List.getElem_mem hlt))
    have hz := Lib.size_eq xs[i]
    have hxi := hx _ (List.getElem_mem hlt)
    obtain ⟨_, s2, s3⟩ := splL_len 46 xs[i].data.toList
    rw [List.drop_eq_getElem_cons hlt]
    by_cases h3 : (splL 46 xs[i].data.toList).length = 3
    · obtain ⟨p0, p1, p2, hp⟩ := three h3
      rw [hp] at hs1 s3
      obtain ⟨v0, hv0⟩ := spec_l1Read.ex (byL p0) (by rw [bytesOf_size]; have := s3 p0 (by simp); omega)
      obtain ⟨v1, hv1⟩ := spec_l1Read.ex (byL p1) (by rw [bytesOf_size]; have := s3 p1 (by simp); omega)
      obtain ⟨v2, hv2⟩ := spec_l1Read.ex (byL p2) (by rw [bytesOf_size]; have := s3 p2 (by simp); omega)
      obtain ⟨o, ho, hc⟩ := ih (i + 1) (acc ++ [(⟨v0, v1, v2⟩ : S45)]) (by omega) (by rw [List.length_append]; simp [ha])
      refine ⟨o, Ev.step (fun k => rfl) (Ev.yes (by omega) (Ev.yes (by omega) (Ev.yes (by omega) ?_))), ?_⟩
      · rw [rdOf_nat hlt]
        refine Ev.bind hs1 (Ev.yes (by simp) (Ev.yes (by simp) (Ev.bind hv0 (Ev.yes (by simp) (Ev.bind hv1 (Ev.yes (by simp) (Ev.bind hv2 (Ev.yes (by omega) ?_))))))))
        rw [show wrap64 ((i : Int) + 1) = ((i + 1 : Nat) : Int) from w64 (by omega) (by omega)]
        exact ho
      · rcases hc with ⟨cs, h1, h2⟩ | ⟨h1, x, h2, h4⟩
        · exact .inl ⟨⟨v0, v1, v2⟩ :: cs, ⟨⟨p0, p1, p2, hp, hv0, hv1, hv2⟩, h1⟩, by rw [h2, List.append_assoc]; rfl⟩
        · exact .inr ⟨h1, x, List.mem_cons_of_mem _ h2, h4⟩
    · refine ⟨(0, 0, [], false), Ev.step (fun k => rfl) (Ev.yes (by omega) (Ev.yes (by omega) (Ev.yes (by omega) ?_))), .inr ⟨rfl, xs[i], List.mem_cons_self, h3⟩⟩
      rw [rdOf_nat hlt]
      exact Ev.bind hs1 (Ev.no (by rw [List.length_map]; omega) (Ev.now _))
theorem Rd_back {c c' : S45} (h : TxtClue c) (hr : Rd (clueT c) c') : c' = c := by
  obtain ⟨p0, p1, p2, h1, e0, e1, e2⟩ := hr
  rw [clueT_bytes, clueU_split h] at h1
  have g0 := (List.cons.inj h1).1
  have g1 := (List.cons.inj (List.cons.inj h1).2).1
  have g2 := (List.cons.inj (List.cons.inj (List.cons.inj h1).2).2).1
  subst g0; subst g1; subst g2
  obtain ⟨h0, h1, h2⟩ := h
  rw [← bytes_eq (a := decB c.f0) rfl] at e0
  rw [← bytes_eq (a := decB c.f1) rfl] at e1
  rw [← bytes_eq (a := decB c.f2) rfl] at e2
  have f0 := Ev.un e0 (spec_l1Read.num h0.1 h0.2)
  have f1 := Ev.un e1 (spec_l1Read.num h1.1 h1.2)
  have f2 := Ev.un e2 (spec_l1Read.num h2.1 h2.2)
  cases c'; cases c
  simp only at f0 f1 f2
  rw [f0, f1, f2]
theorem RdL_back : ∀ (l cs : List S45), (∀ c ∈ l, TxtClue c) → RdL (l.map clueT) cs → cs = l
  | [], [], _, _ => rfl
  | [], _ :: _, _, h => absurd h (by unfold RdL; simp)
  | _ :: _, [], _, h => absurd h (by unfold RdL; simp)
  | c :: l, c' :: cs, ht, h => by
    obtain ⟨h1, h2⟩ := h
    rw [Rd_back (ht c List.mem_cons_self) h1, RdL_back l cs (fun x hx => ht x (List.mem_cons_of_mem _ hx)) h2]
theorem spec_ParsePuzzle.ev (s : ByteArray) (hs : s.size ≤ 1048576) : ∃ w d l, Ev (fun k => spec_ParsePuzzle.f k s) (qqV w d l s) ∧ OwnZ w d l s := by
  unfold spec_ParsePuzzle.f spec_pzParse.f
  have hz := Lib.size_eq s
  obtain ⟨p1, p2, p3⟩ := splL_len 58 s.data.toList
  have hsp := spec_l1Split.ev 58 s hs
  have fin : ∀ (o : Int × Int × List S45 × Bool) (w d : Int) (l : List S45), (if o.2.2.2 = true then (o.1, o.2.1, o.2.2.1, true) else (0, 0, [], false)) = qqV w d l s → Ev (fun _ => if o.2.2.2 = true then some (o.1, o.2.1, o.2.2.1, true) else some (0, 0, [], false)) (qqV w d l s) := fun o w d l h => by
    rw [← h]
    by_cases c : o.2.2.2 = true
    · exact Ev.yes c (Ev.id (if_pos c).symm)
    · exact Ev.no c (Ev.id (if_neg c).symm)
  have bad : Ev (fun k => spec_pzParse.j0 k s ((splL 58 s.data.toList).map byL) true) ((0, 0, [], false) : Int × Int × List S45 × Bool) := by
    refine Ev.step (fun k => rfl) ?_
    simp only [spec_pzParse.j0]
    first | exact Ev.yes rfl (Ev.now _) | exact Ev.yes trivial (Ev.now _) | exact Ev.now _
  have byt : ∀ w' d' l', puzzleB w' d' l' = true → puzzleT w' d' l' = s → splL 58 s.data.toList = [lockU w' d', cluesU l'] ∧ splL 120 (lockU w' d') = [(decB w').data.toList, (decB d').data.toList] ∧ ((0 ≤ w' ∧ w' < 1000) ∧ 0 ≤ d' ∧ d' < 1000) ∧ ∀ c ∈ l', TxtClue c := by
    intro w' d' l' h1 h2
    obtain ⟨a1, a2, a3⟩ := puzzleB_txt h1
    obtain ⟨b1, _⟩ := smallB_iff.mp a1
    have hb2 := puzzleT_bytes w' d' l'
    rw [h2] at hb2
    refine ⟨?_, ?_, by omega, a3⟩
    · rw [hb2, splL_app (lockU_ne (by omega) (by omega)), splL_no (cluesU_ne a3)]
    · unfold lockU
      rw [splL_app (decB_ne (by omega) (by omega) (by decide)), splL_no (decB_ne (by omega) (by omega) (by decide))]
  by_cases hb : (s.size : Int) > 100
  · exact ⟨0, 0, [], Ev.bind (Ev.bind hsp (Ev.yes hb bad)) (fin _ _ _ _ (qqV_none s).symm), OwnZ.of_big hb⟩
  · by_cases h2 : (splL 58 s.data.toList).length = 2
    · obtain ⟨P0, P1, hP⟩ := twoP_ h2
      rw [hP] at p3
      have b0 := p3 P0 (by simp)
      have b1 := p3 P1 (by simp)
      have hs0 := spec_l1Split.ev 120 (byL P0) (by rw [bytesOf_size]; omega)
      rw [bytesOf_data] at hs0
      obtain ⟨_, _, r3⟩ := splL_len 120 P0
      by_cases h3 : (splL 120 P0).length = 2
      · obtain ⟨Z0, Z1, hQ⟩ := twoP_ h3
        rw [hQ] at r3
        obtain ⟨w, hw⟩ := spec_l1Read.ex (byL Z0) (by rw [bytesOf_size]; have := r3 Z0 (by simp); omega)
        obtain ⟨d, hd⟩ := spec_l1Read.ex (byL Z1) (by rw [bytesOf_size]; have := r3 Z1 (by simp); omega)
        have back : ∀ w' d' l', puzzleB w' d' l' = true → puzzleT w' d' l' = s → w = w' ∧ d = d' ∧ P1 = cluesU l' ∧ ∀ c ∈ l', TxtClue c := by
          intro w' d' l' h1 h4
          obtain ⟨y1, y2, y3, y4⟩ := byt w' d' l' h1 h4
          rw [hP] at y1
          have g0 := (List.cons.inj y1).1
          have g1 := (List.cons.inj (List.cons.inj y1).2).1
          rw [← g0, hQ] at y2
          have k0 := (List.cons.inj y2).1
          have k1 := (List.cons.inj (List.cons.inj y2).2).1
          rw [k0, ← bytes_eq (a := decB w') rfl] at hw
          rw [k1, ← bytes_eq (a := decB d') rfl] at hd
          exact ⟨Ev.un hw (spec_l1Read.num y3.1.1 y3.1.2), Ev.un hd (spec_l1Read.num y3.2.1 y3.2.2), g1, y4⟩
        have enter : ∀ o, Ev (fun k => (if ((rdOf ByteArray.empty [byL P0, byL P1] 1).size : Int) > 0 then ((spec_l1Split.f k (rdOf ByteArray.empty [byL P0, byL P1] 1) 44).bind fun t333 => (spec_pzParse.l0 k s t333 (t333.length : Int) 0 w d ([] : List S45))) else ((spec_pzGood.f k w d ([] : List S45)).bind fun t351 => (if t351 = true then ((spec_pzText.f k w d ([] : List S45)).bind fun t352 => (some (w, d, ([] : List S45), (t352.toList == s.toList)))) else (some (w, d, ([] : List S45), false)))))) o → Ev (fun k => spec_pzParse.j0 k s ((splL 58 s.data.toList).map byL) (((((splL 58 s.data.toList).map byL).length : Int)) != 2)) o := by
          intro o ho
          rw [hP]
          refine Ev.step (fun k => rfl) ?_
          simp only [spec_pzParse.j0]
          refine Ev.no (by simp) (Ev.yes (by simp) (Ev.bind hs0 ?_))
          rw [hQ]
          exact Ev.yes (by simp) (Ev.yes (by simp) (Ev.bind hw (Ev.yes (by simp) (Ev.bind hd (Ev.yes (by simp) ho)))))
        have hr1 : rdOf ByteArray.empty [byL P0, byL P1] 1 = byL P1 := rfl
        by_cases hn : P1 = []
        · refine ⟨w, d, [], Ev.bind (Ev.bind hsp (Ev.no hb (enter (kqV w d [] s) ?_))) (fin (kqV w d [] s) _ _ _ (kq_qq w d [] s)), fun w' d' l' h1 h4 => ?_⟩
          · rw [hr1]
            exact Ev.no (by rw [bytesOf_size, hn]; simp) (kqV.ev s w d [] (by simp))
          · obtain ⟨c1, c2, c3, _⟩ := back w' d' l' h1 h4
            exact ⟨c1, c2, (cluesU_nil.mp (c3.symm.trans hn)).symm⟩
        · have hs1 := spec_l1Split.ev 44 (byL P1) (by rw [bytesOf_size]; omega)
          rw [bytesOf_data] at hs1
          obtain ⟨_, s2, s3⟩ := splL_len 44 P1
          have hx : ∀ x ∈ (splL 44 P1).map byL, x.size ≤ 1048576 := fun x hx => by
            obtain ⟨y, hy, rfl⟩ := List.mem_map.mp hx
            have := s3 y hy
            rw [bytesOf_size]; omega
          have hpos : 0 < P1.length := List.length_pos_iff.mpr hn
          obtain ⟨o, ho, hc⟩ := spec_pzParse.lev s w d ((splL 44 P1).map byL) hx (by rw [List.length_map]; omega) ((splL 44 P1).map byL).length 0 [] (by omega) rfl
          have hj : Ev (fun k => spec_pzParse.j0 k s ((splL 58 s.data.toList).map byL) (((((splL 58 s.data.toList).map byL).length : Int)) != 2)) o := enter o (by
            rw [hr1]
            exact Ev.yes (by rw [bytesOf_size]; omega) (Ev.bind hs1 ho))
          have parts : ∀ l' : List S45, P1 = cluesU l' → (∀ c ∈ l', TxtClue c) → (splL 44 P1).map byL = l'.map clueT := fun l' e ht => by
            rw [e, cluesU_split (fun h => hn (e.trans (cluesU_nil.mpr h))) ht, map_clueU]
          rcases hc with ⟨cs, h4, h5⟩ | ⟨h4, x, h5, h6⟩
          · rw [List.nil_append] at h5
            subst h5
            refine ⟨w, d, cs, Ev.bind (Ev.bind hsp (Ev.no hb hj)) (fin (kqV w d cs s) _ _ _ (kq_qq w d cs s)), fun w' d' l' h1 h7 => ?_⟩
            obtain ⟨c1, c2, c3, c4⟩ := back w' d' l' h1 h7
            rw [List.drop_zero, parts l' c3 c4] at h4
            exact ⟨c1, c2, RdL_back l' cs c4 h4⟩
          · subst h4
            refine ⟨0, 0, [], Ev.bind (Ev.bind hsp (Ev.no hb hj)) (fin (0, 0, [], false) _ _ _ (qqV_none s).symm), fun w' d' l' h1 h7 => ?_⟩
            obtain ⟨c1, c2, c3, c4⟩ := back w' d' l' h1 h7
            rw [List.drop_zero, parts l' c3 c4] at h5
            obtain ⟨c, hc, rfl⟩ := List.mem_map.mp h5
            rw [clueT_bytes, clueU_split (c4 c hc)] at h6
            exact absurd rfl h6
      · refine ⟨0, 0, [], Ev.bind (Ev.bind hsp (Ev.no hb ?_)) (fin (0, 0, [], false) _ _ _ (qqV_none s).symm), fun w' d' l' h1 h4 => ?_⟩
        · rw [hP]
          refine Ev.step (fun k => rfl) ?_
          simp only [spec_pzParse.j0]
          exact Ev.no (by simp) (Ev.yes (by simp) (Ev.bind hs0 (Ev.no (by rw [List.length_map]; omega) (Ev.now _))))
        · obtain ⟨y1, y2, _, _⟩ := byt w' d' l' h1 h4
          rw [hP] at y1
          rw [(List.cons.inj y1).1, y2] at h3
          exact absurd rfl h3
    · refine ⟨0, 0, [], Ev.bind (Ev.bind hsp (Ev.no hb ?_)) (fin (0, 0, [], false) _ _ _ (qqV_none s).symm), fun w' d' l' h1 h4 => ?_⟩
      · have e : ((((splL 58 s.data.toList).map byL).length : Int) != 2) = true := by
          rw [List.length_map, bne_iff_ne]; omega
        rw [e]; exact bad
      · obtain ⟨y1, _, _, _⟩ := byt w' d' l' h1 h4
        rw [y1] at h2
        exact absurd rfl h2
theorem qqV_len (w d : Int) (l : List S45) (s : ByteArray) : (qqV w d l s).2.2.1.length ≤ 6 := by
  unfold qqV
  by_cases h : puzzleB w d l = true ∧ puzzleT w d l = s
  · rw [if_pos h]
    exact (puzzleB_txt h.1).2.1
  · rw [if_neg h]; exact Nat.zero_le _
/-! Behind a row's end: what is stored there turns nothing of the row; 'clear' at one element of several cells. -/
theorem R_spare {α : Type} {d : Kd α} {e : Nat} {w : World} {base g n cap : Nat} {ok : Nat → Prop} {xs : List α} (h : d.R e w base ok (.slice (some ⟨g, 0, none⟩) n cap) xs)
    (zs : List Value) (o : Nat) (ho : xs.length * d.sz ≤ o) (hz : o + zs.length ≤ cap * d.sz) : d.R e (w.setCells g o zs) base ok (.slice (some ⟨g, 0, none⟩) n cap) xs := by
  obtain ⟨h0, inner, hown, hr⟩ := h
  refine ⟨h0, inner, ⟨hown.1, ?_⟩, hr.imp_ (fun p c hp => d.M_move (fun k hk => ?_) hp)⟩
  · rcases hown.2 with ⟨hv, _⟩ | ⟨g', cap', cur, hv, hb, hh, hn, hcm, hcs, htake⟩
    · cases hv
    · injection hv with ha hn' hc
      injection ha with ha
      injection ha with hg
      subst hg hc
      obtain ⟨cur', h1, h2, h3⟩ := setCells_row zs o w cur hh (by omega)
      refine .inr ⟨g, cap, cur', by rw [hn'], hb, h1, hn, hcm, by omega, ?_⟩
      have hcl : cur.toList.length = cap * d.sz := by simpa using hcs
      have hle : xs.length * d.sz ≤ (List.take o cur.toList).length := by
        rw [List.length_take]
        exact Nat.le_min.mpr ⟨ho, by omega⟩
      rw [h3, List.append_assoc, List.take_append_of_le_length hle, List.take_take, Nat.min_eq_left ho, htake]
  · refine setCells_far zs o k (fun e => hk.2 ?_)
    subst e; rfl
theorem run_clear_one {P : Program} (w : World) (t e ty : TypeId) (z : Value) (zs : List Value) (ht : P.underlying t = some (.slice e)) (hv : ∀ w, (zeroValue e).run P w = .ok z w) (hz : z.cells.toList = zs) (h1 : ∀ u ∈ zs, u.oneCell' = true) (b o c : Nat)
    (hc : ∀ j, j < zs.length → (w.cell? ⟨b, o + j, none⟩).isSome = true) (hf : ∀ j, j < zs.length → w.frozen? ⟨b, o + j, none⟩ = false) :
    (Builtin.clear_ #[t] ty #[.slice (some ⟨b, o, none⟩) 1 c]).run P w = .ok (.tuple #[]) (w.setCells b o zs) := by
  have hzc : (Builtin.zeroCells z.cells 1).toList = zs := by
    rw [← hz]
    simp only [Builtin.zeroCells, Nat.one_mul, Array.toList_map, Array.toList_range]
    apply List.ext_getElem
    · simp
    · intro i h1 h2
      have h2' : i < z.cells.size := by simpa using h2
      simp [Nat.mod_eq_of_lt h2', h2']
  have hst := run_storeCells_cells (P := P) b o zs 0 w (by simpa using hc) (by simpa using hf) h1
  simp only [Nat.add_zero] at hst
  simp [Builtin.clear_, run_underlying ht, hv, hzc, hst]
theorem row_cells {α : Type} {d : Kd α} {e : Nat} {w : World} {base g n cap : Nat} {ok : Nat → Prop} {xs : List α} (h : d.R e w base ok (.slice (some ⟨g, 0, none⟩) n cap) xs) :
    base ≤ g ∧ n = xs.length ∧ n ≤ cap ∧ cap ≤ 9223372036854775807 ∧ ∀ j, j < cap * d.sz → (w.cell? ⟨g, j, none⟩).isSome = true ∧ w.frozen? ⟨g, j, none⟩ = false := by
  obtain ⟨h0, inner, hown, hr⟩ := h
  rcases hown.2 with ⟨hv, _⟩ | ⟨g', cap', cur, hv, hb, hh, hn, hcm, hcs, htake⟩
  · cases hv
  · injection hv with ha hn' hc
    injection ha with ha
    injection ha with hg
    subst hg hc
    refine ⟨hb, hn', by omega, by unfold maxLen at hcm; exact hcm, fun j hj => ⟨?_, ?_⟩⟩
    · rw [blk_cell hh j]; rw [Array.getElem?_eq_getElem (by omega)]; rfl
    · exact blk_frozen hh j
theorem below_cells {B g : Nat} {w0 : World} (hg : B ≤ g) : ∀ (vs : List Value) (o : Nat) (w : World), Below B w0 w → Below B w0 (w.setCells g o vs)
  | [], _, _, h => h
  | v :: r, o, w, h => below_cells hg r (o + 1) _ (h.setCell (p := ⟨g, o, none⟩) hg v)
theorem row_form {α : Type} {d : Kd α} {e : Nat} {w : World} {base : Nat} {ok : Nat → Prop} {v : Value} {xs : List α} {n : Nat} (h : d.R e w base ok v xs) (hn : xs.length = n + 1) :
    ∃ g cap, v = .slice (some ⟨g, 0, none⟩) (n + 1) cap := by
  obtain ⟨h0, inner, hown, hr⟩ := h
  rcases hown.2 with ⟨_, hv⟩ | ⟨g', cap', cur, hv, _⟩
  · omega
  · exact ⟨g', cap', by rw [hv, hn]⟩
/-! ### impl_text: function 79 -/
def impl_text.l0 : Nat → List Int → List Int → Int → Int → Option (ByteArray)
  | 0, _, _, _, _ => none
  | k + 1, x3, x7, x8, x9 => if x9 < x8 then (if 0 ≤ x9 then (if x9 < (x7.length : Int) then (if x3.length < 140737488355328 then (impl_text.l0 k (x3 ++ [(wrap64 (48 + (rd x7 x9))) % 256]) x7 x8 (wrap64 (x9 + 1))) else (none)) else (none)) else (none)) else (some (strOfNums x3))
def impl_text.f (k : Nat) (l0 : List Int) : Option (ByteArray) := impl_text.l0 k (([] : List Int)) l0 (l0.length : Int) 0
set_option maxHeartbeats 8000000 in
set_option maxRecDepth 100000 in
theorem impl_text.calls (k : Nat) (A0 : Option Addr) (c0 : Nat) (l0 : List Int) (r : ByteArray) (w : World) (hr0 : Kd.C (Kd.int .i64) w A0 l0.length l0) (hc0 : l0.length ≤ c0) (h : impl_text.f k l0 = some r) :
    Calls Tryz.prog 79 #[.slice A0 l0.length c0] w fun e w' => e = .returned (.string r) ∧ Below w.heap.size w w' := by
  have HR0 := amk hr0; have HC0 := amk hc0; clear hr0 hc0; have HB := amk (Below.refl w.heap.size w); unfold impl_text.f at h; have H := h; clear h; (try rw [Option.bind_some] at H); generalize hy111 : (([] : List Int)) = y111 at H; have Ny111 := amk hy111.symm; clear hy111; have H' := amk H; clear H; go_enter Tryz.func79, Tryz.ntmps79; go_wp2_with (first | ((with_reducible refine gate_dst (N := 6) rfl ?_); refine Kd.R_lit (Kd.int .u8) _ 5 ?hg (N := 6) ?hd (xs := ([] : List Int)) (inner := []) (ok := fun _ => True) (okp := fun _ => True) ?hr ?hp (fun _ hk => hk) trivial (Below.refl _ _) (Nat.le_refl _) (by simp) ?_; (case hd => rfl); (case hg => rfl); (case hr => first | (go_simp; done) | (go_simp; rfl)); (case hp => exact (Reps.none _ _)); intro v112 w2 ho3 hb hg_ hnew_; clear hg_ hnew_; (first | rw [← Ny111.out] at ho3 | (simp only [Int.reduceToNat] at ho3; rw [← Ny111.out] at ho3)); have HO113 := amk (Kd.R_lower ho3 (below_size bB)); replace HB := hB2 HB hb; clear hb ho3))
  go_loopg [3, 9] k (fun kq v3 v9 w' => ∃ (x3_1 : List Int) (x9_1 : Int), v9 = .int .i64 x9_1 ∧ Aside0 (impl_text.l0 kq x3_1 l0 (l0.length : Int) x9_1 = some r) ∧ Aside0 (kq ≤ k) ∧ Aside0 (Kd.R (Kd.int .u8) 5 w' w.heap.size (fun _ => True) v3 x3_1) ∧ Aside0 (Below w.heap.size w w'))
  case atStart => exact ⟨(y111), (0), rS_, H', ⟨Nat.le_refl _⟩, ⟨oX HO113⟩, ⟨bB⟩⟩
  case round =>
    clear H'; (try clear p2); obtain ⟨x3_1, x9_1, rfl, HA, HK1, HO_3, HB⟩ := hrel
    cases gk with
    | zero => exact absurd HA.out (by simp [impl_text.l0])
    | succ k1 =>
      have H := HA.out; clear HA; simp only [impl_text.l0] at H; replace H := iteE H; obtain ⟨c4b0, H⟩ | ⟨c4b0, H⟩ := H
      · replace H := iteN H; obtain ⟨c5b0, H⟩ := H; replace H := iteN H; obtain ⟨c6b0, H⟩ := H
        by_cases c7 : x3_1.length < 140737488355328
        · rw [if_pos c7] at H; have LMc7 := amk c7; clear c7; (try rw [Option.bind_some] at H); generalize hy115 : ((x3_1 ++ [(wrap64 (48 + (rd l0 x9_1))) % 256]) : List Int) = y115 at H; have Ny115 := amk hy115.symm; clear hy115; have H' := amk H; clear H; have p114 : 0 ≤ (x9_1 : Int) := dA_; have q114 : x9_1 < (l0.length : Int) := dA_; obtain ⟨ad114, e114, hx114_0⟩ := Kd.at_int HR0.out x9_1 p114 q114; cases e114; replace hx114_0 := (HB.out.cell (World.block_lt_of_cell? w _ hx114_0)).trans hx114_0; replace p114 := eq_true p114; replace q114 := eq_true q114; go_wp2_with (first | ((with_reducible refine gate_builtin (b := .append) (xs := #[.tmp 13, .tmp 17]) rfl ?_); at_builtin; refine Kd.R_append (Kd.int .u8) (w0 := w) w.heap.size rfl (.tmp 13) (.tmp 17) 55 5 (.int .u8 0) 1 rfl Tryz.underlying55 info5 rfl (by decide) (by omega) u3 x3_1 ((wrap64 (48 + (rd l0 x9_1))) % 256) [.int .u8 ((wrap64 (48 + (rd l0 x9_1))) % 256)] (fun _ => True) (fun _ => False) rfl rfl rfl (fun _ hk => hk.elim) (fun _ _ => trivial) (oX HO_3) bB (below_size bB) (by have := LMc7.out; omega) ?_; intro v116 w8 ho hb hg hat; rw [← Ny115.out] at ho; replace HB := amk (hb); have HO117 := amk (ho); clear HO_3; clear ho hb hg hat)); go_roundg k1
          case measure => have := HK1.out; omega
          case rel => exact ⟨(y115), (wrap64 (x9_1 + 1)), rS_, H', ⟨by have := HK1.out; omega⟩, ⟨oX HO117⟩, ⟨bB⟩⟩
        · rw [if_neg c7] at H; exact absurd H (by simp)
      · obtain rfl := Option.some.inj H; have hcv9 := own_string (P := Tryz.prog) Tryz.underlying55 Tryz.underlying5 Tryz.underlying9 (Kd.own_of_R HO_3.out); go_wp2; go_ret; exact ⟨rF_, bB⟩
/-! Digits of texts, texts of digits: what they come to. -/
theorem impl_text.lev (l : List Int) (hl : l.length ≤ 1000000) : ∀ (j : Nat) (i : Int) (x : List Int), 0 ≤ i → i ≤ l.length → (l.length : Int) - i = j → x = (l.take i.toNat).map (fun x => wrap64 (48 + x) % 256) →
    Ev (fun k => impl_text.l0 k x l (l.length : Int) i) (textB l) := by
  intro j
  induction j with
  | zero =>
    intro i x h0 hi hj hx
    refine Ev.step (fun k => rfl) (Ev.no (by omega) (Ev.id ?_))
    rw [hx, List.take_of_length_le (by omega)]; rfl
  | succ j ih =>
    intro i x h0 hi hj hx
    have hlt : i.toNat < l.length := by omega
    have hxl : x.length ≤ 1000000 := by rw [hx, List.length_map, List.length_take]; omega
    refine Ev.step (fun k => rfl) (Ev.yes (by omega) (Ev.yes h0 (Ev.yes (by omega) (Ev.yes (by omega) ?_))))
    rw [w64 (x := i + 1) (by omega) (by omega)]
    refine ih (i + 1) _ (by omega) (by omega) (by omega) ?_
    rw [toNat_succ h0, List.take_succ_eq_append_getElem hlt, List.map_append, hx, rd_at hlt]; rfl
theorem impl_text.ev (l : List Int) (hl : l.length ≤ 1000000) : Ev (fun k => impl_text.f k l) (textB l) := by
  unfold impl_text.f
  exact impl_text.lev l hl l.length 0 [] (by omega) (by omega) (by omega) (by simp)
/-! impl's code of a number, by hand. -/
def impl_Lock_code.f (a b c : Int) : Option ByteArray := if lockB a b = true ∧ 0 ≤ c ∧ c ≤ 9223372036854775807 then some (codeB a b c) else none
theorem impl_Lock_code.is {a b c : Int} (h : lockB a b = true) (h0 : 0 ≤ c) (h1 : c ≤ 9223372036854775807) : impl_Lock_code.f a b c = some (codeB a b c) := by unfold impl_Lock_code.f; rw [if_pos ⟨h, h0, h1⟩]
set_option maxHeartbeats 4000000 in
set_option maxRecDepth 100000 in
theorem impl_Lock_code.calls (a0_0 a0_1 a1 : Int) (r : ByteArray) (w : World) (h : impl_Lock_code.f a0_0 a0_1 a1 = some r) :
    Calls Tryz.prog 56 #[.agg #[.int .i64 a0_0, .int .i64 a0_1], .int .i64 a1] w fun e w' => e = .returned (.string r) ∧ Below w.heap.size w w' := by
  unfold impl_Lock_code.f at h
  by_cases hc : lockB a0_0 a0_1 = true ∧ 0 ≤ a1 ∧ a1 ≤ 9223372036854775807
  · rw [if_pos hc] at h
    obtain rfl := Option.some.inj h
    clear h
    obtain ⟨hl, hn0, hn1⟩ := hc
    obtain ⟨w1, w2, d1, d2⟩ := lockB_iff.mp hl
    have HR := amk (rfl : codeB a0_0 a0_1 a1 = codeB a0_0 a0_1 a1)
    obtain ⟨kt, hkt⟩ := (impl_text.ev (digs a0_1 a0_0.toNat a1) (by rw [digs_length]; omega)).rounds
    have HT := amk hkt
    have hinfo : (Tryz.prog.info? 3).map (fun i => (i.zero, i.size, i.bytes)) = some (some (.int .i64 0), 1, 8) := by kernel_rfl
    have HI := amk hinfo
    have hu := Tryz.underlying23
    clear hkt hl hinfo HR
    show Calls Tryz.prog _ _ w fun e w' => e = .returned (.string (textB (digs a0_1 a0_0.toNat a1))) ∧ Below w.heap.size w w'
    generalize hD : digs a0_1 a0_0.toNat a1 = D at HT ⊢
    have HD := amk hD
    clear hD
    go_enter Tryz.func56, Tryz.ntmps56
    go_wp2_with ((with_reducible refine gate_dst (N := 9) rfl ?_); refine Kd.R_make (Kd.int .i64) (w0 := w.alloc (.cells #[.int .i64 a0_0, .int .i64 a0_1] 23)) (w.heap.size + 1) 3 (by rfl) (N := 9) rfl 36 (.tmp 8) (.tmp 8) rfl a0_0 rfl rfl Tryz.underlying36 (.int .i64 0) 8 HI.out rfl (by decide) (by omega) (0 : Int) (ok := fun _ => True) (okp := fun _ => False) rfl (fun _ h => h.elim) trivial (by omega) (by omega) (by simpa using Below.refl _ _) (by simp) ?_; intro v1 w3 hr3 hb3 hg3 hat3; have hq0 : w3.cell? ⟨w.heap.size, 0, none⟩ = some (.int .i64 a0_0) := (hb3.cell (p := ⟨w.heap.size, 0, none⟩) (by simp)).trans (by simp); have hq1 : w3.cell? ⟨w.heap.size, 1, none⟩ = some (.int .i64 a0_1) := (hb3.cell (p := ⟨w.heap.size, 1, none⟩) (by simp)).trans (by simp); obtain ⟨m, hm⟩ : ∃ m, a0_0.toNat = m + 1 := ⟨a0_0.toNat - 1, by omega⟩; obtain ⟨g, cap, rfl⟩ := row_form (n := m) hr3 (by simpa using hm); have HR3 := amk hr3; have HB3 := amk hb3; have HM := amk hm; clear hr3 hb3 hg3 hat3 hm)
    go_loopg [1, 6] (m + 2) (fun gg s1 s6 wr => ∃ (n i : Int) (T : List Int), s1 = .int .i64 n ∧ s6 = .int .i64 i ∧ Aside0 (0 ≤ n ∧ n ≤ 9223372036854775807) ∧ Aside0 (-1 ≤ i ∧ i ≤ m ∧ i + 1 ≤ gg) ∧ Aside0 (digs a0_1 (i + 1).toNat n ++ T = D) ∧ Aside0 ((Kd.int .i64).R 3 wr (w.heap.size + 1) (fun _ => True) (.slice (some ⟨g, 0, none⟩) (m + 1) cap) (List.replicate (i + 1).toNat 0 ++ T)) ∧ Aside0 (Below (w.heap.size + 1) (w.alloc (.cells #[.int .i64 a0_0, .int .i64 a0_1] 23)) wr))
    case atStart => exact ⟨a1, a0_0 - 1, [], rfl, rfl, ⟨hn0, hn1⟩, ⟨by have := HM.out; omega⟩, ⟨by rw [List.append_nil, show a0_0 - 1 + 1 = a0_0 by omega]; exact HD.out⟩, ⟨by rw [List.append_nil, show a0_0 - 1 + 1 = a0_0 by omega]; exact HR3.out⟩, HB3⟩
    case round =>
      obtain ⟨n, i, T, rfl, rfl, HN, HII, HDD, HRR, HBB⟩ := hrel
      clear hq0 hq1
      have hq1 : wr.cell? ⟨w.heap.size, 1, none⟩ = some (.int .i64 a0_1) := (HBB.out.cell (p := ⟨w.heap.size, 1, none⟩) (by simp)).trans (by simp)
      by_cases hi : 0 ≤ i
      · have hi2 : decide (i ≥ 0) = true := decide_eq_true hi
        obtain ⟨hn0', hn1'⟩ := HN.out
        obtain ⟨_, hi3, _⟩ := HII.out
        have him : i < ((m + 1 : Nat) : Int) := by omega
        obtain ⟨hbg, hlen, hcapm, hcap2, hcells⟩ := row_cells HRR.out
        have hlt : i.toNat < cap := by omega
        obtain ⟨hci, hfi⟩ := hcells i.toNat (by show _ < cap * 1; omega)
        obtain ⟨vi, hvi⟩ := Option.isSome_iff_exists.mp hci
        clear hci hcells
        have hdn : (a0_1 == 0) = false := by simp; omega
        have e1 : n.tmod a0_1 = n % a0_1 := Int.tmod_eq_emod_of_nonneg hn0'
        have e2 : n.tdiv a0_1 = n / a0_1 := Int.tdiv_eq_ediv_of_nonneg hn0'
        have r1 : 0 ≤ n % a0_1 := Int.emod_nonneg _ (by omega)
        have r2 : n % a0_1 < a0_1 := Int.emod_lt_of_pos _ (by omega)
        have r3 : 0 ≤ n / a0_1 := Int.ediv_nonneg hn0' (by omega)
        have r4 : n / a0_1 ≤ n := Int.ediv_le_self _ hn0'
        have z1 : wrap64 (n % a0_1) = n % a0_1 := w64 (by omega) (by omega)
        have z2 : wrap64 (n / a0_1) = n / a0_1 := w64 (by omega) (by omega)
        have z3 : wrap64 (i - 1) = i - 1 := w64 (by omega) (by omega)
        go_wp2
        go_region
        have HR' := amk (Kd.R_drew (Kd.R_putn HRR.out i (n % a0_1)))
        have HB' : Aside0 (Below (w.heap.size + 1) (w.alloc (.cells #[.int .i64 a0_0, .int .i64 a0_1] 23)) (wr.setCell ⟨g, i.toNat, none⟩ (.int .i64 (n % a0_1))).drew) := ⟨bd_ (HBB.out.setCell (p := ⟨g, i.toNat, none⟩) hbg _)⟩
        go_wp2
        go_roundg i.toNat
        obtain ⟨k, rfl⟩ : ∃ k : Nat, i = (k : Int) := ⟨i.toNat, by omega⟩
        rotate_left
        · omega
        refine ⟨n / a0_1, (k : Int) - 1, n % a0_1 :: T, rfl, rfl, ⟨by omega, by omega⟩, ⟨by omega, by omega, by omega⟩, ⟨?_⟩, ⟨?_⟩, HB'⟩
        · have := HDD.out
          rw [show (k : Int) + 1 = ((k + 1 : Nat) : Int) by omega, Int.toNat_natCast] at this
          rw [show (k : Int) - 1 + 1 = (k : Int) by omega, Int.toNat_natCast]
          rw [digs, List.append_assoc] at this
          exact this
        · have := HR'.out
          rw [show (k : Int) + 1 = ((k + 1 : Nat) : Int) by omega, Int.toNat_natCast, Int.toNat_natCast, rep_set] at this
          rw [show (k : Int) - 1 + 1 = (k : Int) by omega, Int.toNat_natCast]
          exact this
      · have hi2 : decide (i ≥ 0) = false := decide_eq_false hi
        have hT : T = D := by
          have := HDD.out
          rw [show (i + 1).toNat = 0 by omega] at this
          exact this
        have HX : Aside0 ((Kd.int .i64).R 3 wr (w.heap.size + 1) (fun _ => True) (.slice (some ⟨g, 0, none⟩) (m + 1) cap) D) := ⟨by
          have := HRR.out
          rw [show (i + 1).toNat = 0 by omega, hT] at this
          exact this⟩
        obtain ⟨hlen, hcapm, hC⟩ := Kd.R_reads' HX.out
        have HC : Calls Tryz.prog 79 #[.slice (some ⟨g, 0, none⟩) (m + 1) cap] wr fun e w' => e = .returned (.string (textB D)) ∧ Below wr.heap.size wr w' := by
          have := impl_text.calls kt (some ⟨g, 0, none⟩) cap D (textB D) wr hC (by omega) HT.out
          rw [← hlen] at this
          exact this
        clear hC hlen hcapm
        have HCA := amk HC
        clear HC
        go_wp2_with (go_at_call 79; refine HCA.out.mono ?_; rintro e w9 ⟨rfl, hb9⟩)
        go_ret
        refine ⟨rfl, ?_⟩
        have h1 : Below w.heap.size w (w.alloc (.cells #[.int .i64 a0_0, .int .i64 a0_1] 23)) := ba_ (Below.refl _ _) _
        have h2 := HBB.out
        exact (below_then h1 (by simp) (h2.mono (by simp))).trans (hb9.mono (by have := h2.size; simp at this; omega))
  · rw [if_neg hc] at h
    cases h
/-! ### impl_around: function 143 -/
def impl_around.f (a0 : Int) (a1 : Int) : Option (Int) := if a1 = 0 then (none) else (some (Int.tmod (wrap64 ((Int.tmod a0 a1) + a1)) a1))
set_option maxHeartbeats 8000000 in
set_option maxRecDepth 100000 in
theorem impl_around.calls (a0 : Int) (a1 : Int) (r : Int) (w : World) (h : impl_around.f a0 a1 = some r) :
    Calls Tryz.prog 143 #[.int .i64 a0, .int .i64 a1] w fun e w' => e = .returned (.int .i64 r) ∧ Drawn0 w w' := by
  unfold impl_around.f at h; have H := h; clear h
  by_cases c3 : a1 = 0
  · rw [if_pos c3] at H; exact absurd H (by simp)
  · rw [if_neg c3] at H; have c3b0 : (a1 == 0) = false := beq_eq_false_iff_ne.mpr c3; have c3b1 : (a1 != 0) = true := bne_iff_ne.mpr c3; obtain rfl := Option.some.inj H; go_enter Tryz.func143, Tryz.ntmps143; go_wp2; go_ret; exact ⟨rS_, dR_⟩
/-! ### impl_Lock_gap: function 131 -/
def impl_Lock_gap.f (a0_0 : Int) (a0_1 : Int) (a1 : Int) (a2 : Int) : Option (Int) := (impl_around.f (wrap64 (a2 - a1)) a0_1).bind fun t236 => (some t236)
set_option maxHeartbeats 8000000 in
set_option maxRecDepth 100000 in
theorem impl_Lock_gap.calls (a0_0 : Int) (a0_1 : Int) (a1 : Int) (a2 : Int) (r : Int) (w : World) (h : impl_Lock_gap.f a0_0 a0_1 a1 a2 = some r) :
    Calls Tryz.prog 131 #[.agg #[.int .i64 a0_0, .int .i64 a0_1], .int .i64 a1, .int .i64 a2] w fun e w' => e = .returned (.int .i64 r) ∧ Below w.heap.size w w' := by
  have hu23 := Tryz.underlying23; have HB := amk (Below.refl w.heap.size w); unfold impl_Lock_gap.f at h; have H := h; clear h; replace H := bE H; obtain ⟨t236, A4, H⟩ := H; obtain rfl := Option.some.inj H; go_enter Tryz.func131, Tryz.ntmps131; go_wp2_with (first | ((with_reducible refine gate_dst (N := 3) rfl ?_); refine boxE_ HB 3 #[.int .i64 a0_0, .int .i64 a0_1] 23 ?_; clear HB; intro gb235 w5 HB BK235 GW235 GE235 hb; clear hb; obtain ⟨hcz6_0, hcz6_1, hfz6_0, hfz6_1⟩ := cells2 BK235.out) | ((with_reducible refine gate_callee (f := 143) rfl ?_); refine goesL_ (some 12) rfl rfl Tryz.func143 (by kernel_rfl) rfl #[.int .i64 (wrap64 (a2 - a1)), .int .i64 a0_1] rfl gL_ ?_; (with_reducible refine (impl_around.calls (wrap64 (a2 - a1)) a0_1 t236 _ A4.out).mono ?_); rintro e w' ⟨rfl, ⟨nd, rfl⟩⟩; refine ⟨_, rfl, ?_⟩)); go_ret; exact ⟨rF_, bB⟩
/-! ### impl_Lock_near: function 112 -/
def impl_Lock_near.f (a0_0 : Int) (a0_1 : Int) (a1 : Int) (a2 : Int) : Option (Int) := (impl_Lock_gap.f a0_0 a0_1 a1 a2).bind fun t238 => (some (mn t238 (wrap64 (a0_1 - t238))))
set_option maxHeartbeats 8000000 in
set_option maxRecDepth 100000 in
theorem impl_Lock_near.calls (a0_0 : Int) (a0_1 : Int) (a1 : Int) (a2 : Int) (r : Int) (w : World) (h : impl_Lock_near.f a0_0 a0_1 a1 a2 = some r) :
    Calls Tryz.prog 112 #[.agg #[.int .i64 a0_0, .int .i64 a0_1], .int .i64 a1, .int .i64 a2] w fun e w' => e = .returned (.int .i64 r) ∧ Below w.heap.size w w' := by
  have hu23 := Tryz.underlying23; have HB := amk (Below.refl w.heap.size w); unfold impl_Lock_near.f at h; have H := h; clear h; replace H := bE H; obtain ⟨t238, A4, H⟩ := H; obtain ⟨ji5, hji5⟩ : ∃ j_ : Int, (mn t238 (wrap64 (a0_1 - t238))) = j_ := ⟨_, rfl⟩; (replace H : (some ji5) = some r := by first | (rw [hji5] at H; exact H) | (simp only [hji5] at H ⊢; exact H)); (try rw [hji5] at A4); have hji5_ : (if (wrap64 (a0_1 - t238)) < t238 then (wrap64 (a0_1 - t238)) else t238) = ji5 := hji5; obtain rfl := Option.some.inj H; go_enter Tryz.func112, Tryz.ntmps112; go_wp2_with (first | ((with_reducible refine gate_dst (N := 3) rfl ?_); refine boxE_ HB 3 #[.int .i64 a0_0, .int .i64 a0_1] 23 ?_; clear HB; intro gb237 w6 HB BK237 GW237 GE237 hb; clear hb; obtain ⟨hcz7_0, hcz7_1, hfz7_0, hfz7_1⟩ := cells2 BK237.out) | ((with_reducible refine gate_callee (f := 131) rfl ?_); refine goesL_ (some 11) rfl rfl Tryz.func131 (by kernel_rfl) rfl #[.agg #[.int .i64 a0_0, .int .i64 a0_1], .int .i64 a1, .int .i64 a2] rfl gL_ ?_; (with_reducible refine (impl_Lock_gap.calls a0_0 a0_1 a1 a2 t238 _ A4.out).mono ?_); rintro e w8 ⟨rfl, hb⟩; refine ⟨_, rfl, ?_⟩; replace BK237 := kb2 BK237 hb; replace HB := hB2 HB hb; (try clear hb); obtain ⟨hcz9_0, hcz9_1, hfz9_0, hfz9_1⟩ := cells2 BK237.out)); go_ret; exact ⟨by first | rfl | (simp [errW_none, errW_some] <;> rfl) | (simp only [← hji5]; first | rfl | (simp [errW_none, errW_some] <;> rfl)) | (simp [*, errW_none, errW_some] <;> rfl), bB⟩
/-! ### impl_Lock_distance: function 92 -/
def impl_Lock_distance.l0 : Nat → ByteArray → ByteArray → Int → Int → Int → Int → Int → Option (Int)
  | 0, _, _, _, _, _, _, _ => none
  | k + 1, x1, x2, x7, x10, x11, x240000, x240001 => if x11 < x10 then (if 0 ≤ x11 then (if x11 < (x1.size : Int) then (if x11 < (x2.size : Int) then ((impl_Lock_near.f x240000 x240001 (wrap64 (bt x1 x11)) (wrap64 (bt x2 x11))).bind fun t240 => (impl_Lock_distance.l0 k x1 x2 (wrap64 (x7 + t240)) x10 (wrap64 (x11 + 1)) x240000 x240001)) else (none)) else (none)) else (none)) else (some x7)
def impl_Lock_distance.f (k : Nat) (a0_0 : Int) (a0_1 : Int) (a1 : ByteArray) (a2 : ByteArray) : Option (Int) := impl_Lock_distance.l0 k a1 a2 0 (a1.size : Int) 0 a0_0 a0_1
def impl_Lock_distance.T5 : Bool × List (List Nat × List Nat) := (true, [([], []), ([], []), ([], []), ([], []), ([2, 3], [2, 3]), ([4], [4]), ([], []), ([], []), ([6, 7], [6, 7]), ([8], [8]), ([1, 5, 9], [1, 5, 9]), ([0, 10], [0, 10]), ([11, 10, 0, 1, 2, 3, 4, 5, 6, 7, 8, 9, 10, 11], [0, 11])])
def impl_Lock_distance.B5 : List Nat := [0, 0, 0, 0, 12, 28, 0, 0, 192, 448, 1022, 2047, 4095]
theorem impl_Lock_distance.tab5 : rtab .any (opsOf Tryz.f92 5) = impl_Lock_distance.T5 := by kernel_rfl
theorem impl_Lock_distance.bits5 : waitsOk impl_Lock_distance.T5.2 impl_Lock_distance.B5 = true := by kernel_rfl
set_option maxHeartbeats 8000000 in
set_option maxRecDepth 100000 in
theorem impl_Lock_distance.calls (k : Nat) (a0_0 : Int) (a0_1 : Int) (a1 : ByteArray) (a2 : ByteArray) (r : Int) (w : World) (h : impl_Lock_distance.f k a0_0 a0_1 a1 a2 = some r) :
    Calls Tryz.prog 92 #[.agg #[.int .i64 a0_0, .int .i64 a0_1], .string a1, .string a2] w fun e w' => e = .returned (.int .i64 r) ∧ Below w.heap.size w w' := by
  have hu23 := Tryz.underlying23; have HB := amk (Below.refl w.heap.size w); unfold impl_Lock_distance.f at h; have H := h; clear h; have H' := amk H; clear H; go_enter Tryz.func92, Tryz.ntmps92; go_wp2_with (first | ((with_reducible refine gate_dst (N := 3) rfl ?_); refine boxE_ HB 3 #[.int .i64 a0_0, .int .i64 a0_1] 23 ?_; clear HB; intro gb239 w4 HB BK239 GW239 GE239 hb; clear hb))
  go_loopg [7, 11] k (fun kq v7 v11 w' => ∃ (x7_1 : Int) (x11_1 : Int), v7 = .int .i64 x7_1 ∧ v11 = .int .i64 x11_1 ∧ Aside0 (impl_Lock_distance.l0 kq a1 a2 x7_1 (a1.size : Int) x11_1 a0_0 a0_1 = some r) ∧ Aside0 (kq ≤ k) ∧ Aside0 (w'.heap[gb239]? = some (.cells #[.int .i64 a0_0, .int .i64 a0_1] 23 (0, 0))) ∧ Aside0 (Below w.heap.size w w'))
  case atStart => exact ⟨(0), (0), rS_, rS_, H', ⟨Nat.le_refl _⟩, ⟨kB BK239⟩, ⟨bB⟩⟩
  case round =>
    clear H'; (try clear p2); obtain ⟨x7_1, x11_1, rfl, rfl, HA, HK1, BK239, HB⟩ := hrel
    cases gk with
    | zero => exact absurd HA.out (by simp [impl_Lock_distance.l0])
    | succ k1 =>
      have H := HA.out; clear HA; simp only [impl_Lock_distance.l0] at H; replace H := iteE H; obtain ⟨c5b0, H⟩ | ⟨c5b0, H⟩ := H
      · replace H := iteN H; obtain ⟨c6b0, H⟩ := H; replace H := iteN H; obtain ⟨c7b0, H⟩ := H; replace H := iteN H; obtain ⟨c9b0, H⟩ := H; replace H := bE H; obtain ⟨t240, A11, H⟩ := H; have H' := amk H; clear H; (try go_wp2); replace BK239 := amk (blk_drew BK239.out); replace HB := amk (bd_ HB.out); have p8 : 0 ≤ (x11_1 : Int) := dA_; have q8 : x11_1 < (a1.size : Int) := dA_; have hx8 := bt_at a1 x11_1; replace p8 := eq_true p8; replace q8 := eq_true q8; have p10 : 0 ≤ (x11_1 : Int) := dA_; have q10 : x11_1 < (a2.size : Int) := dA_; have hx10 := bt_at a2 x11_1; replace p10 := eq_true p10; replace q10 := eq_true q10; refine start_ (n := 13) (S := fun w' => w'.cell? ⟨gb239, 0, none⟩ = some (.int .i64 a0_0) ∧ w'.cell? ⟨gb239, 1, none⟩ = some (.int .i64 a0_1)) (ds := []) (bA 13 0) (by kernel_rfl) rfl rfl ⟨(blk_cell BK239.out 0).trans rfl, (blk_cell BK239.out 1).trans rfl⟩ (fun hHeld => ?_); refine with_tabW impl_Lock_distance.tab5 impl_Lock_distance.bits5 (fun HT_ HW_ => ?_); generalize wr.drew = w12 at BK239 HB hHeld ⊢; refine pU_ HT_ 0 (some 14) (bA 13 1) ?_; refine pU_ HT_ 2 (some 16) (bA 13 5) ?_; refine pU_ HT_ 3 (some 17) (bA 13 13) ?_; refine pU_ HT_ 6 (some 20) (bA 13 77) ?_; refine pU_ HT_ 7 (some 21) (bA 13 205) ?_; refine tK_ HT_ HW_ hHeld 1 (some 15) (bA 13 207) ?_; refine tK_ HT_ HW_ hHeld 4 (some 18) (bA 13 223) ?_; refine pU_ HT_ 5 (some 19) (bA 13 255) ?_; refine tK_ HT_ HW_ hHeld 8 (some 22) (bA 13 511) ?_; refine pU_ HT_ 9 (some 23) (bA 13 1023) ?_; refine oN_ HT_ 10 (some 24) (bA 13 2047) (fun K hK => ?_); refine goes_ Tryz.func112 (by kernel_rfl) rfl #[.agg #[.int .i64 a0_0, .int .i64 a0_1], .int .i64 (wrap64 (bt a1 x11_1)), .int .i64 (wrap64 (bt a2 x11_1))] (by rfl) rfl rfl gL_ ?_; (with_reducible refine (impl_Lock_near.calls a0_0 a0_1 (wrap64 (bt a1 x11_1)) (wrap64 (bt a2 x11_1)) t240 _ A11.out).mono ?_); rintro e w13 ⟨rfl, hb⟩; refine ⟨_, rfl, ?_⟩; replace BK239 := kb2 BK239 hb; replace HB := hB2 HB hb; (try clear hb); refine hK.out _ _ hC_ (fun hHeld => ?_); clear hK K; refine nN_ (some 24) ?_; refine pU_ HT_ 11 (some 25) (bA 13 4095) ?_; refine pU_ HT_ 12 (some 7) (bA 13 8191) ?_; refine done_ (done_of HT_.out (by kernel_rfl)) ?_; (try go_wp2); go_roundg k1
        case measure => have := HK1.out; omega
        case rel => exact ⟨(wrap64 (x7_1 + t240)), (wrap64 (x11_1 + 1)), rS_, rS_, H', ⟨by have := HK1.out; omega⟩, ⟨kB BK239⟩, ⟨bB⟩⟩
      · obtain rfl := Option.some.inj H; go_wp2; go_ret; exact ⟨rF_, bB⟩
/-! ### impl_Lock_number: function 93 -/
def impl_Lock_number.l0 : Nat → Int → List Int → Int → Int → Int → Int → Option (Int)
  | 0, _, _, _, _, _, _ => none
  | k + 1, x5, x9, x10, x11, x242000, x242001 => if x11 < x10 then (if 0 ≤ x11 then (if x11 < (x9.length : Int) then (impl_Lock_number.l0 k (wrap64 ((wrap64 (x5 * x242001)) + (rd x9 x11))) x9 x10 (wrap64 (x11 + 1)) x242000 x242001) else (none)) else (none)) else (some x5)
def impl_Lock_number.f (k : Nat) (a0_0 : Int) (a0_1 : Int) (a1 : ByteArray) : Option (Int) := (impl_digits.f k a1).bind fun t242 => (impl_Lock_number.l0 k 0 t242 (t242.length : Int) 0 a0_0 a0_1)
set_option maxHeartbeats 8000000 in
set_option maxRecDepth 100000 in
theorem impl_Lock_number.calls (k : Nat) (a0_0 : Int) (a0_1 : Int) (a1 : ByteArray) (r : Int) (w : World) (h : impl_Lock_number.f k a0_0 a0_1 a1 = some r) :
    Calls Tryz.prog 93 #[.agg #[.int .i64 a0_0, .int .i64 a0_1], .string a1] w fun e w' => e = .returned (.int .i64 r) ∧ Below w.heap.size w w' := by
  have hu23 := Tryz.underlying23; have HB := amk (Below.refl w.heap.size w); unfold impl_Lock_number.f at h; have H := h; clear h; replace H := bE H; obtain ⟨t242, A3, H⟩ := H; have H' := amk H; clear H; go_enter Tryz.func93, Tryz.ntmps93; go_wp2_with (first | ((with_reducible refine gate_dst (N := 2) rfl ?_); refine boxE_ HB 2 #[.int .i64 a0_0, .int .i64 a0_1] 23 ?_; clear HB; intro gb241 w4 HB BK241 GW241 GE241 hb; clear hb) | ((with_reducible refine gate_callee (f := 90) rfl ?_); refine goesL_ (some 9) rfl rfl Tryz.func90 (by kernel_rfl) rfl #[.string a1] rfl gL_ ?_; (with_reducible refine (impl_digits.calls k a1 t242 _ A3.out).mono ?_); rintro e w5 ⟨v243, rfl, ho0, hb⟩; refine ⟨_, rfl, ?_⟩; have HO244 := amk (Kd.R_lower ho0 (below_size bB)); replace BK241 := kb2 BK241 hb; replace HB := hB2 HB hb; (try clear hb); (try clear ho0); obtain ⟨Ao6, co6, eo6⟩ := Kd.R_slice HO244.out; subst eo6))
  go_loopg [5, 11] k (fun kq v5 v11 w' => ∃ (x5_1 : Int) (x11_1 : Int), v5 = .int .i64 x5_1 ∧ v11 = .int .i64 x11_1 ∧ Aside0 (impl_Lock_number.l0 kq x5_1 t242 (t242.length : Int) x11_1 a0_0 a0_1 = some r) ∧ Aside0 (kq ≤ k) ∧ Aside0 (Kd.R (Kd.int .i64) 3 w' w.heap.size (fun _ => True) (.slice Ao6 t242.length co6) t242) ∧ Aside0 (w'.heap[gb241]? = some (.cells #[.int .i64 a0_0, .int .i64 a0_1] 23 (0, 0))) ∧ Aside0 (Below w.heap.size w w'))
  case atStart => exact ⟨(0), (0), rS_, rS_, H', ⟨Nat.le_refl _⟩, ⟨oX HO244⟩, ⟨kB BK241⟩, ⟨bB⟩⟩
  case round =>
    clear H'; (try clear p2); obtain ⟨x5_1, x11_1, rfl, rfl, HA, HK1, HO_9, BK241, HB⟩ := hrel
    cases gk with
    | zero => exact absurd HA.out (by simp [impl_Lock_number.l0])
    | succ k1 =>
      have H := HA.out; clear HA; simp only [impl_Lock_number.l0] at H; replace H := iteE H; obtain ⟨c7b0, H⟩ | ⟨c7b0, H⟩ := H
      · replace H := iteN H; obtain ⟨c8b0, H⟩ := H; replace H := iteN H; obtain ⟨c9b0, H⟩ := H; have H' := amk H; clear H; have p245 : 0 ≤ (x11_1 : Int) := dA_; have q245 : x11_1 < (t242.length : Int) := dA_; obtain ⟨ad245, e245, hx245_0⟩ := Kd.at_int (Kd.R_reads' HO_9.out).2.2 x11_1 p245 q245; cases e245; replace p245 := eq_true p245; replace q245 := eq_true q245; obtain ⟨hcz10_0, hcz10_1, hfz10_0, hfz10_1⟩ := cells2 BK241.out; go_wp2; go_roundg k1
        case measure => have := HK1.out; omega
        case rel => exact ⟨(wrap64 ((wrap64 (x5_1 * a0_1)) + (rd t242 x11_1))), (wrap64 (x11_1 + 1)), rS_, rS_, H', ⟨by have := HK1.out; omega⟩, ⟨oX HO_9⟩, ⟨kB BK241⟩, ⟨bB⟩⟩
      · obtain rfl := Option.some.inj H; go_wp2; go_ret; exact ⟨rF_, bB⟩
/-! Declarations moved out of HHint. -/
theorem impl_digits_of {s : ByteArray} (h6 : s.size ≤ 6) (h : ∀ i < s.size, 48 ≤ bt s (i : Nat) ∧ bt s (i : Nat) ≤ 57) : Ev (fun k => impl_digits.f k s) ((List.range s.size).map fun i => bt s (i : Nat) - 48) := by
  have : ∀ m i : Nat, i + m = s.size → ∀ xs : List Int, xs.length = i → Ev (fun k => impl_digits.l0 k s xs (s.size : Int) (i : Nat)) (xs ++ (List.range' i m).map fun i => bt s (i : Nat) - 48) := by
    intro m
    induction m with
    | zero =>
      intro i hi xs hx
      refine Ev.step (fun k => rfl) ?_
      refine Ev.no (by omega) ?_
      exact Ev.id (by simp)
    | succ m ih =>
      intro i hi xs hx
      refine Ev.step (fun k => rfl) ?_
      refine Ev.yes (by omega) (Ev.yes (by omega) (Ev.yes (by omega) (Ev.yes (by omega) ?_)))
      have := ih (i + 1) (by omega) (xs ++ [bt s (i : Nat) - 48]) (by simp [hx])
      have hb := h i (by omega)
      rw [show ((bt s (i : Nat)) - 48) % 256 = bt s (i : Nat) - 48 by omega, show wrap64 ((i : Int) + 1) = ((i + 1 : Nat) : Int) from w64 (by omega) (by omega)]
      refine Ev.eq this ?_
      rw [List.range'_succ]
      simp
  have := this s.size 0 (by omega) [] rfl
  refine Ev.eq this ?_
  simp [List.range_eq_range']
section
/-! impl.hint, by hand: it counts in an array of ten. -/
def impl_hint.f (a b : ByteArray) : Option (Int × Int) := if hintB a b = true then some (plN a b a.size, cmN a b a.size 10 - plN a b a.size) else none
theorem row_ints {e : Nat} {w : World} {base : Nat} {ok : Nat → Prop} {g n cap : Nat} {D : List Int} (h : (Kd.int .i64).R e w base ok (.slice (some ⟨g, 0, none⟩) n cap) D) (i : Nat) (hi : i < n) : w.cell? ⟨g, i, none⟩ = some (.int .i64 (rd D (i : Nat))) := by
  obtain ⟨h1, h2, hC⟩ := Kd.R_reads' h
  obtain ⟨ad, e1, e2⟩ := Kd.at_int hC (i : Nat) (by omega) (by omega)
  obtain rfl := Option.some.inj e1
  rw [show Addr.add ⟨g, 0, none⟩ (i : Int).toNat = ⟨g, i, none⟩ by cases i <;> simp [Addr.add]] at e2
  exact e2
def cmP (s t : ByteArray) (i n : Nat) : Nat → Int
  | 0 => 0
  | m + 1 => cmP s t i n m + lst (ctN s (48 + m) i) (ctN t (48 + m) n)
theorem cmP_all (s t : ByteArray) (n : Nat) : ∀ m, cmP s t n n m = cmN s t n m
  | 0 => rfl
  | m + 1 => by simp only [cmP, cmN, cmP_all s t n m]
theorem ctN_step {s : ByteArray} {i d k : Nat} (h : bt s (i : Nat) = 48 + (d : Nat)) : ctN s (48 + (k : Nat)) (i + 1) = ctN s (48 + (k : Nat)) i + if k = d then 1 else 0 := by
  simp only [ctN, h]
  by_cases e : k = d
  · subst e; simp
  · rw [if_neg (by omega), if_neg e]
theorem cmP_step {s t : ByteArray} {i n d : Nat} (h : bt s (i : Nat) = 48 + (d : Nat)) : ∀ m, cmP s t (i + 1) n m = cmP s t i n m + if d < m then lst (ctN s (48 + (d : Nat)) i + 1) (ctN t (48 + (d : Nat)) n) - lst (ctN s (48 + (d : Nat)) i) (ctN t (48 + (d : Nat)) n) else 0
  | 0 => by simp [cmP]
  | m + 1 => by
    simp only [cmP]
    rw [cmP_step h m, ctN_step h]
    by_cases e : m = d
    · subst e
      rw [if_neg (Nat.lt_irrefl _), if_pos rfl, if_pos (Nat.lt_succ_self _)]
      omega
    · rw [if_neg e, Int.add_zero]
      by_cases e2 : d < m
      · rw [if_pos e2, if_pos (by omega)]; omega
      · rw [if_neg e2, if_neg (by omega)]; omega
theorem cmP_zero (s t : ByteArray) (n : Nat) (h : ∀ d, 0 ≤ ctN t d n) : ∀ m, cmP s t 0 n m = 0
  | 0 => rfl
  | m + 1 => by
    simp only [cmP, cmP_zero s t n h m]
    have := h (48 + (m : Nat))
    simp only [lst]
    rw [show ctN s (48 + (m : Nat)) 0 = 0 from rfl]
    by_cases e : 0 < ctN t (48 + (m : Nat)) n
    · rw [if_pos e]; rfl
    · rw [if_neg e]; omega
theorem cmP_range (s t : ByteArray) (i n : Nat) (hi : i ≤ n) : ∀ m, 0 ≤ cmP s t i n m ∧ cmP s t i n m ≤ n * m
  | 0 => by simp [cmP]
  | m + 1 => by
    have h := cmP_range s t i n hi m
    have h1 := ctN_range s (48 + (m : Nat)) i
    have h2 := lst_range (n := n) (a := ctN s (48 + (m : Nat)) i) (by omega) (ctN_range t (48 + m) n)
    have : (n : Int) * ((m + 1 : Nat) : Int) = n * m + n := by rw [Int.natCast_succ, Int.mul_add, Int.mul_one]
    simp only [cmP]
    omega
def usedAt (w : World) (g : Nat) (U : Nat → Int) : Prop := (∀ d < 10, w.cell? ⟨g, d, none⟩ = some (.int .i64 (U d))) ∧ ∀ d < 10, w.frozen? ⟨g, d, none⟩ = false
theorem wpl {a b : ByteArray} {i m : Nat} (h : i ≤ m) (hm : m ≤ 6) : wrap64 (plN a b i + 1) = plN a b i + 1 := by
  have := plN_range a b i
  exact w64 (by omega) (by omega)
theorem wct {a : ByteArray} {d : Int} {i m : Nat} (h : i ≤ m) (hm : m ≤ 6) : wrap64 (ctN a d i + 1) = ctN a d i + 1 := by
  have := ctN_range a d i
  exact w64 (by omega) (by omega)
theorem wnat {n : Nat} (h : n < 1000) : wrap64 ((n : Int) + 1) = (n : Int) + 1 := w64 (by omega) (by omega)
theorem lst_lt {a b : Int} (h : 0 < b - lst a b) : lst (a + 1) b = lst a b + 1 := by
  unfold lst at h ⊢
  by_cases e : a < b
  · rw [if_pos e]
    by_cases e2 : a + 1 < b
    · rw [if_pos e2]
    · rw [if_neg e2]; omega
  · rw [if_neg e] at h; omega
theorem lst_ge {a b : Int} (h : ¬ 0 < b - lst a b) : lst (a + 1) b = lst a b := by
  unfold lst at h ⊢
  by_cases e : a < b
  · rw [if_pos e] at h; omega
  · rw [if_neg e, if_neg (by omega)]
theorem wsub {y a b : Int} {n : Nat} (h1 : 0 ≤ a ∧ a ≤ (n : Nat)) (h2 : 0 ≤ b ∧ b ≤ (n : Nat)) (h : y = a - b) (hn : n < 1000) : wrap64 (y - 1) = y - 1 := w64 (by omega) (by omega)
theorem frozen_new (w : World) (cs : Array Value) (t : TypeId) (d : Nat) : (w.alloc (.cells cs t)).frozen? ⟨w.heap.size, d, none⟩ = false :=
  blk_frozen (w := w.alloc (.cells cs t)) (g := w.heap.size) (t := t) (cs := cs) (by show (w.heap.push _)[w.heap.size]? = _; exact Array.getElem?_push_size) d
theorem usedAt_set {w : World} {g : Nat} {U V : Nat → Int} (h : usedAt w g U) {d : Nat} (hd : d < 10) (x : Int) (hx : V d = x) (hV : ∀ k < 10, k ≠ d → V k = U k) : usedAt (w.setCell ⟨g, d, none⟩ (.int .i64 x)) g V := by
  refine ⟨fun k hk => ?_, fun k hk => by rw [World.frozen?_setCell]; exact h.2 k hk⟩
  by_cases e : k = d
  · subst e
    rw [World.cell?_setCell_same' _ _ _ (by rw [h.1 k hk]; rfl), hx]
  · rw [World.cell?_setCell_other (w := w) (v := Value.int .i64 x) (a := ⟨g, d, none⟩) (b := ⟨g, k, none⟩) (by intro hh; exact e (Addr.mk.inj hh).2.1.symm), h.1 k hk, hV k hk e]
theorem usedAt_congr {w : World} {g : Nat} {U V : Nat → Int} (h : usedAt w g U) (hV : ∀ k < 10, V k = U k) : usedAt w g V := ⟨fun k hk => by rw [hV k hk]; exact h.1 k hk, h.2⟩
attribute [local irreducible] plN ctN cmN
set_option maxHeartbeats 4000000 in
set_option maxRecDepth 100000 in
theorem impl_hint.calls (a0 a1 : ByteArray) (r1 r2 : Int) (w : World) (h : impl_hint.f a0 a1 = some (r1, r2)) :
    Calls Tryz.prog 91 #[.string a0, .string a1] w fun e w' => e = .returned (.tuple #[.int .i64 r1, .int .i64 r2]) ∧ Below w.heap.size w w' := by
  unfold impl_hint.f at h
  by_cases hc : hintB a0 a1 = true
  · rw [if_pos hc] at h
    obtain ⟨rfl, rfl⟩ := Prod.mk.inj (Option.some.inj h)
    clear h
    obtain ⟨hs, h1, h6, ha, hb⟩ := hintB_iff.mp hc
    clear hc
    obtain ⟨k0, hk0⟩ := (impl_digits_of h6 ha).rounds
    obtain ⟨k1, hk1⟩ := (impl_digits_of (by omega) hb).rounds
    have HD0 := amk hk0
    have HD1 := amk hk1
    have HA := amk ha
    have HB := amk hb
    have HS := amk hs
    have H6 := amk h6
    have hua := Tryz.underlying115
    clear ha hb hk0 hk1
    clear hs h6
    go_enter Tryz.func91, Tryz.ntmps91
    obtain ⟨n, hn⟩ : ∃ n, a0.size = n + 1 := ⟨a0.size - 1, by omega⟩
    have HN := amk hn
    clear hn h1
    go_wp2_with (go_at_call 90; refine (impl_digits.calls k1 _ _ _ HD1.out).mono ?_; rintro e w1 ⟨v1, rfl, hr1, hb1⟩; obtain ⟨g, cap, rfl⟩ := row_form (n := n) hr1 (by rw [List.length_map, List.length_range, ← HS.out]; exact HN.out); have hg1 : w.heap.size < g := (by have := (row_cells hr1).1; simp at this; omega); have HC1 := amk (row_ints hr1); have HB1 := amk hb1; clear hr1 hb1)
    have HBW : Aside0 (Below w.heap.size w w1 ∧ w.heap.size < w1.heap.size) := ⟨below_then (ba_ (Below.refl _ w) _) (by simp) HB1.out, by have := HB1.out.size; simp at this; omega⟩
    have HU : Aside0 (usedAt w1 w.heap.size (fun d => ctN a1 (48 + (d : Nat)) 0)) := ⟨by
      constructor
      · intro d hd
        rw [HB1.out.cell (p := ⟨w.heap.size, d, none⟩) (by simp)]
        have : d = 0 ∨ d = 1 ∨ d = 2 ∨ d = 3 ∨ d = 4 ∨ d = 5 ∨ d = 6 ∨ d = 7 ∨ d = 8 ∨ d = 9 := by omega
        rcases this with rfl | rfl | rfl | rfl | rfl | rfl | rfl | rfl | rfl | rfl <;> simp [ctN]
      · intro d hd
        rw [HB1.out.frozen (p := ⟨w.heap.size, d, none⟩) (by simp)]
        exact frozen_new w _ _ d⟩
    clear HB1
    go_loopg [6, 17] (n + 1) (fun gg s6 s17 wr => ∃ (i : Nat) (x : Int), s6 = .int .i64 x ∧ s17 = .int .i64 i ∧ Aside0 (i ≤ n + 1 ∧ n + 1 ≤ i + gg) ∧ Aside0 (usedAt wr w.heap.size (fun d => ctN a1 (48 + (d : Nat)) i)) ∧ Aside0 (∀ d, wr.cell? ⟨g, d, none⟩ = w1.cell? ⟨g, d, none⟩) ∧ Aside0 (Below w.heap.size w wr ∧ w.heap.size < wr.heap.size) ∧ Aside0 (x = plN a0 a1 i))
    case atStart => exact ⟨0, 0, rfl, rfl, ⟨by omega⟩, HU, ⟨fun _ => rfl⟩, HBW, ⟨by rw [plN]⟩⟩
    case round =>
      obtain ⟨i, x, rfl, rfl, HI, HUU, HG, HBB, HX⟩ := hrel
      by_cases hi : i < n + 1
      · have hi0 : i < a0.size := by rw [HN.out]; exact hi
        have hi1 : i < a1.size := by rw [← HS.out]; exact hi0
        have hd := HB.out i hi1
        obtain ⟨d, hdd⟩ : ∃ d : Nat, bt a1 (i : Nat) = 48 + (d : Nat) := ⟨(bt a1 (i : Nat) - 48).toNat, by omega⟩
        have hd10 : d < 10 := by omega
        have hcg : wr.cell? ⟨g, i, none⟩ = some (.int .i64 (d : Nat)) := by
          rw [HG.out, HC1.out i hi, rd_at (by simpa using hi1)]
          simp [hdd]
          omega
        have hcu : wr.cell? ⟨w.heap.size, d, none⟩ = some (.int .i64 (ctN a1 (48 + (d : Nat)) i)) := HUU.out.1 d hd10
        have hfu := HUU.out.2 d hd10
        have hli : decide ((i : Int) < (n : Int) + 1) = true := decide_eq_true (by omega)
        have hw1 : wrap64 (ctN a1 (48 + (d : Nat)) i + 1) = ctN a1 (48 + (d : Nat)) i + 1 := wct HI.out.1 (by have := H6.out; have := HN.out; omega)
        have e0 := bt_nat hi0
        have e1 := bt_nat hi1
        have p1 : wrap64 (plN a0 a1 i + 1) = plN a0 a1 i + 1 := wpl HI.out.1 (by have := H6.out; have := HN.out; omega)
        have p2 : wrap64 ((i : Int) + 1) = (i : Int) + 1 := wnat (n := i) (by have := H6.out; omega)
        have HDD := amk hdd
        clear hd hdd
        obtain ⟨y, hy⟩ : ∃ y, y = ctN a1 (48 + (d : Nat)) i := ⟨_, rfl⟩
        rw [← hy] at hcu hw1
        rw [← HX.out] at p1
        have HY := amk hy
        clear hy
        have HPL := amk (show plN a0 a1 (i + 1) = plN a0 a1 i + if bt a0 (i : Nat) = bt a1 (i : Nat) then 1 else 0 by rw [plN])
        have hbq := beq_of (bt a0 (i : Nat)) (bt a1 (i : Nat))
        have hd11 : decide ((d : Int) < 10) = true := decide_eq_true (by omega)
        have hne : g ≠ w.heap.size := by omega
        by_cases he : bt a0 (i : Nat) = bt a1 (i : Nat)
        all_goals
          first | (rw [decide_eq_true he] at hbq; rw [if_pos he] at HPL) | (rw [decide_eq_false he] at hbq; rw [if_neg he, Int.add_zero] at HPL)
          clear he
          generalize bt a0 (i : Nat) = ba at e0 hbq
          generalize hbb : bt a1 (i : Nat) = bb at e1 hbq
          clear hbb
          go_wp2
          go_region
          go_wp2
          go_roundg (n + 1 - (i + 1))
          case measure => have := HI.out; omega
          case rel =>
            refine ⟨i + 1, _, rfl, congrArg _ (by omega), ⟨by omega⟩, ⟨usedAt_set (w := wr.drew) (U := fun d => ctN a1 (48 + (d : Nat)) i) ⟨HUU.out.1, HUU.out.2⟩ hd10 _ ?_ ?_⟩, ⟨fun d' => ?_⟩, ⟨?_, ?_⟩, ⟨?_⟩⟩
            · show ctN a1 (48 + (d : Nat)) (i + 1) = _
              rw [ctN_step HDD.out, if_pos rfl, ← HY.out]
              first | done | exact hw1.symm
            · intro k hk hkd
              show ctN a1 (48 + (k : Nat)) (i + 1) = _
              rw [ctN_step HDD.out, if_neg hkd, Int.add_zero]
            · exact (World.cell?_setCell_far _ _ _ _ (by simp; omega)).trans (HG.out d')
            · exact HBB.out.1.drew.setCell (p := ⟨w.heap.size, d, none⟩) (Nat.le_refl _) _
            · have := HBB.out.2; simpa using this
            · rw [HPL.out, HX.out]
              first | done | (rw [← HX.out]; exact p1)
      · have hli : decide ((i : Int) < (n : Int) + 1) = false := decide_eq_false (by omega)
        have hin : i = n + 1 := by have := HI.out; omega
        subst hin
        have HAS : Aside0 (a0.size = n + 1) := HN
        go_wp2_with (go_at_call 90; refine (impl_digits.calls k0 _ _ _ HD0.out).mono ?_; rintro e w2 ⟨v2, rfl, hr2, hb2⟩; obtain ⟨g2, cap2, rfl⟩ := row_form (n := n) hr2 (by rw [List.length_map, List.length_range]; exact HN.out); have hg2 : wr.heap.size ≤ g2 := (row_cells hr2).1; have HC2 := amk (row_ints hr2); have HB2 := amk hb2; clear hr2 hb2)
        have HG2 : Aside0 (w.heap.size < g2) := ⟨by have := HBB.out.2; omega⟩
        have HBW2 : Aside0 (Below w.heap.size w w2 ∧ w.heap.size < w2.heap.size) := ⟨HBB.out.1.trans (HB2.out.mono (Nat.le_of_lt HBB.out.2)), Nat.lt_of_lt_of_le HBB.out.2 HB2.out.size⟩
        have HU2 : Aside0 (usedAt w2 w.heap.size (fun d => ctN a1 (48 + (d : Nat)) (n + 1) - lst (ctN a0 (48 + (d : Nat)) 0) (ctN a1 (48 + (d : Nat)) (n + 1)))) := ⟨by
          refine usedAt_congr (U := fun d => ctN a1 (48 + (d : Nat)) (n + 1)) ⟨fun d hd => ?_, fun d hd => ?_⟩ ?_
          · rw [HB2.out.cell (p := ⟨w.heap.size, d, none⟩) HBB.out.2]; exact HUU.out.1 d hd
          · rw [HB2.out.frozen (p := ⟨w.heap.size, d, none⟩) HBB.out.2]; exact HUU.out.2 d hd
          · intro k hk
            have := ctN_range a1 (48 + (k : Nat)) (n + 1)
            have e : lst (ctN a0 (48 + (k : Nat)) 0) (ctN a1 (48 + (k : Nat)) (n + 1)) = 0 := by
              rw [show ctN a0 (48 + (k : Nat)) 0 = 0 by rw [ctN], lst]
              by_cases e : 0 < ctN a1 (48 + (k : Nat)) (n + 1)
              · rw [if_pos e]
              · rw [if_neg e]; omega
            show _ - _ = _
            rw [e, Int.sub_zero]⟩
        clear HB2 hg2 HUU HG HBB HBW HU HC1 hli hi HI
        go_loopg [7, 40] (n + 1) (fun gg s7 s40 wr => ∃ (i : Nat) (z : Int), s7 = .int .i64 z ∧ s40 = .int .i64 i ∧ Aside0 (i ≤ n + 1 ∧ n + 1 ≤ i + gg) ∧ Aside0 (usedAt wr w.heap.size (fun d => ctN a1 (48 + (d : Nat)) (n + 1) - lst (ctN a0 (48 + (d : Nat)) i) (ctN a1 (48 + (d : Nat)) (n + 1)))) ∧ Aside0 (∀ d, wr.cell? ⟨g2, d, none⟩ = w2.cell? ⟨g2, d, none⟩) ∧ Aside0 (Below w.heap.size w wr ∧ w.heap.size < wr.heap.size) ∧ Aside0 (z = cmP a0 a1 i (n + 1) 10))
        case atStart => exact ⟨0, 0, rfl, rfl, ⟨by omega⟩, HU2, ⟨fun _ => rfl⟩, HBW2, ⟨(cmP_zero a0 a1 (n + 1) (fun d => (ctN_range a1 d _).1) 10).symm⟩⟩
        case round =>
          obtain ⟨i, z, rfl, rfl, HI, HUU, HG, HBB, HZ⟩ := hrel
          by_cases hi : i < n + 1
          · have hi0 : i < a0.size := by rw [HN.out]; exact hi
            have hd := HA.out i hi0
            obtain ⟨d, hdd⟩ : ∃ d : Nat, bt a0 (i : Nat) = 48 + (d : Nat) := ⟨(bt a0 (i : Nat) - 48).toNat, by omega⟩
            have hd10 : d < 10 := by omega
            have hcg : wr.cell? ⟨g2, i, none⟩ = some (.int .i64 (d : Nat)) := by
              rw [HG.out, HC2.out i hi, rd_at (by simpa using hi0)]
              simp [hdd]
              omega
            have hcu : wr.cell? ⟨w.heap.size, d, none⟩ = some (.int .i64 (ctN a1 (48 + (d : Nat)) (n + 1) - lst (ctN a0 (48 + (d : Nat)) i) (ctN a1 (48 + (d : Nat)) (n + 1)))) := HUU.out.1 d hd10
            have hfu := HUU.out.2 d hd10
            have hli : decide ((i : Int) < (n : Int) + 1) = true := decide_eq_true (by omega)
            have p2 : wrap64 ((i : Int) + 1) = (i : Int) + 1 := wnat (n := i) (by have := H6.out; have := HN.out; omega)
            have hd11 : decide ((d : Int) < 10) = true := decide_eq_true (by omega)
            have hne : g2 ≠ w.heap.size := by have := HG2.out; omega
            have HS10 := amk (cmP_step (s := a0) (t := a1) (i := i) (n := n + 1) hdd 10)
            have HZR := amk (cmP_range a0 a1 i (n + 1) (by omega) 10)
            have HCR := amk (ctN_range a1 (48 + (d : Nat)) (n + 1))
            have HLR := amk (lst_range (n := n + 1) (a := ctN a0 (48 + (d : Nat)) i) (by have := ctN_range a0 (48 + (d : Nat)) i; omega) (ctN_range a1 (48 + (d : Nat)) (n + 1)))
            have HDD := amk hdd
            rw [if_pos hd10] at HS10
            clear hd hdd
            obtain ⟨y, hy⟩ : ∃ y, y = ctN a1 (48 + (d : Nat)) (n + 1) - lst (ctN a0 (48 + (d : Nat)) i) (ctN a1 (48 + (d : Nat)) (n + 1)) := ⟨_, rfl⟩
            rw [← hy] at hcu
            have HY := amk hy
            clear hy
            have p3 : wrap64 (z + 1) = z + 1 := by have h1 := HZR.out; rw [← HZ.out] at h1; have := H6.out; have := HN.out; exact w64 (by omega) (by omega)
            have p4 : wrap64 (y - 1) = y - 1 := by have h1 := HCR.out; have h2 := HLR.out; have h3 := HY.out; have := H6.out; have := HN.out; exact wsub h1 h2 h3 (by omega)
            by_cases hy : 0 < y
            · have hdy : decide (y > 0) = true := decide_eq_true hy
              have HYP := amk hy
              clear hy
              go_wp2
              go_roundg (n + 1 - (i + 1))
              case measure => have := HI.out; omega
              case rel =>
                have hl : lst (ctN a0 (48 + (d : Nat)) i + 1) (ctN a1 (48 + (d : Nat)) (n + 1)) = lst (ctN a0 (48 + (d : Nat)) i) (ctN a1 (48 + (d : Nat)) (n + 1)) + 1 := by
                  have h3 := HYP.out; rw [HY.out] at h3; exact lst_lt h3
                refine ⟨i + 1, _, rfl, congrArg _ (by omega), ⟨by omega⟩, ⟨usedAt_set (U := fun d => ctN a1 (48 + (d : Nat)) (n + 1) - lst (ctN a0 (48 + (d : Nat)) i) (ctN a1 (48 + (d : Nat)) (n + 1))) HUU.out hd10 _ ?_ ?_⟩, ⟨fun d' => ?_⟩, ⟨?_, ?_⟩, ⟨?_⟩⟩
                · show _ - lst (ctN a0 (48 + (d : Nat)) (i + 1)) _ = _
                  rw [ctN_step HDD.out, if_pos rfl, hl, HY.out]
                  omega
                · intro k hk hkd
                  show _ - lst (ctN a0 (48 + (k : Nat)) (i + 1)) _ = _
                  rw [ctN_step HDD.out, if_neg hkd, Int.add_zero]
                · exact (World.cell?_setCell_far _ _ _ _ (by simp; omega)).trans (HG.out d')
                · exact HBB.out.1.setCell (p := ⟨w.heap.size, d, none⟩) (Nat.le_refl _) _
                · have := HBB.out.2; simpa using this
                · rw [HS10.out, hl, ← HZ.out]
                  omega
            · have hdy : decide (y > 0) = false := decide_eq_false hy
              have HYP := amk hy
              clear hy
              go_wp2
              go_roundg (n + 1 - (i + 1))
              case measure => have := HI.out; omega
              case rel =>
                have hl : lst (ctN a0 (48 + (d : Nat)) i + 1) (ctN a1 (48 + (d : Nat)) (n + 1)) = lst (ctN a0 (48 + (d : Nat)) i) (ctN a1 (48 + (d : Nat)) (n + 1)) := by
                  have h3 := HYP.out; rw [HY.out] at h3; exact lst_ge (by first | exact h3 | exact Int.not_lt.mpr h3)
                refine ⟨i + 1, _, rfl, congrArg _ (by omega), ⟨by omega⟩, ⟨usedAt_congr HUU.out ?_⟩, HG, HBB, ⟨?_⟩⟩
                · intro k hk
                  show _ - lst (ctN a0 (48 + (k : Nat)) (i + 1)) _ = _
                  rw [ctN_step HDD.out]
                  by_cases e : k = d
                  · subst e; rw [if_pos rfl, hl]
                  · rw [if_neg e, Int.add_zero]
                · rw [HS10.out, hl, ← HZ.out]
                  omega
          · have hli : decide ((i : Int) < (n : Int) + 1) = false := decide_eq_false (by omega)
            have hin : i = n + 1 := by have := HI.out; omega
            subst hin
            have hw : wrap64 (z - x) = z - x := by
              have h1 := cmP_range a0 a1 (n + 1) (n + 1) (Nat.le_refl _) 10
              rw [← HZ.out] at h1
              have h2 := plN_range a0 a1 (n + 1)
              rw [← HX.out] at h2
              have := H6.out; have := HN.out
              exact w64 (by omega) (by omega)
            have HR1 : Aside0 (plN a0 a1 a0.size = x) := ⟨by rw [HN.out, HX.out]⟩
            have HR2 : Aside0 (cmN a0 a1 a0.size 10 = z) := ⟨by rw [HN.out, HZ.out, cmP_all]⟩
            go_wp2
            go_ret2
            rw [HR1.out, HR2.out]
            exact ⟨by first | rfl | (rw [hw]; rfl), HBB.out.1⟩
  · rw [if_neg hc] at h
    cases h
end
/-! ### impl_Lock_told: function 72 -/
def impl_Lock_told.l0 : Nat → Int → List Int → Int → Int → Option (Int × Int × Int)
  | 0, _, _, _, _ => none
  | k + 1, x9, x27, x28, x29 => if x29 < x28 then (if 0 ≤ x29 then (if x29 < (x27.length : Int) then (impl_Lock_told.l0 k (wrap64 (x9 + (rd x27 x29))) x27 x28 (wrap64 (x29 + 1))) else (none)) else (none)) else (some (1, x9, 0))
def impl_Lock_told.f (k : Nat) (a0_0 : Int) (a0_1 : Int) (a1 : Int) (a2 : Int) (a3 : ByteArray) : Option (Int × Int × Int) := if a1 = 0 then ((impl_digits.f k a3).bind fun t248 => (if 0 ≤ a2 then (if a2 < (t248.length : Int) then (some (0, a2, rd t248 a2)) else (none)) else (none))) else (if a1 = 1 then ((impl_digits.f k a3).bind fun t252 => (impl_Lock_told.l0 k 0 t252 (t252.length : Int) 0)) else (if a1 = 2 then ((impl_Lock_code.f a0_0 a0_1 a2).bind fun t256 => ((impl_hint.f t256 a3).bind fun bt257 => (some (2, a2, bt257.1)))) else (if a1 = 3 then ((impl_Lock_code.f a0_0 a0_1 a2).bind fun t259 => ((impl_Lock_distance.f k a0_0 a0_1 t259 a3).bind fun t260 => (some (3, a2, t260)))) else ((impl_Lock_number.f k a0_0 a0_1 a3).bind fun t261 => (if a2 = 0 then (none) else (some (4, a2, Int.tmod t261 a2)))))))
def impl_Lock_told.T16 : Bool × List (List Nat × List Nat) := (true, [([], []), ([], []), ([], []), ([], []), ([2, 3], [2, 3]), ([], []), ([1, 4, 5, 4], [1, 4, 5]), ([0, 6], [0, 6]), ([7, 6, 0, 1, 2, 3, 4, 5, 6, 7], [7])])
def impl_Lock_told.B16 : List Nat := [0, 0, 0, 0, 12, 0, 62, 127, 255]
theorem impl_Lock_told.tab16 : rtab .any (opsOf Tryz.f72 16) = impl_Lock_told.T16 := by kernel_rfl
theorem impl_Lock_told.bits16 : waitsOk impl_Lock_told.T16.2 impl_Lock_told.B16 = true := by kernel_rfl
set_option maxHeartbeats 8000000 in
set_option maxRecDepth 100000 in
theorem impl_Lock_told.calls (k : Nat) (a0_0 : Int) (a0_1 : Int) (a1 : Int) (a2 : Int) (a3 : ByteArray) (r1 : Int) (r2 : Int) (r3 : Int) (w : World) (h : impl_Lock_told.f k a0_0 a0_1 a1 a2 a3 = some (r1, r2, r3)) :
    Calls Tryz.prog 72 #[.agg #[.int .i64 a0_0, .int .i64 a0_1], .int .i64 a1, .int .i64 a2, .string a3] w fun e w' => e = .returned (.agg #[.int .i64 r1, .int .i64 r2, .int .i64 r3]) ∧ Below w.heap.size w w' := by
  have hu23 := Tryz.underlying23; have hu45 := Tryz.underlying45; have HB := amk (Below.refl w.heap.size w); unfold impl_Lock_told.f at h; have H := h; clear h
  by_cases c5 : a1 = 0
  · rw [if_pos c5] at H; have c5b0 : (a1 == 0) = true := beq_iff_eq.mpr c5; have c5b1 : (a1 != 0) = false := bne_eq_false_iff_eq.mpr c5; clear c5; replace H := bE H; obtain ⟨t248, A6, H⟩ := H; replace H := iteN H; obtain ⟨c7b0, H⟩ := H; replace H := iteN H; obtain ⟨c8b0, H⟩ := H; simp only [Option.some.injEq, Prod.mk.injEq] at H; obtain ⟨rfl, rfl, rfl⟩ := H; go_enter Tryz.func72, Tryz.ntmps72; go_wp2_with (first | ((with_reducible refine gate_dst (N := 4) rfl ?_); refine boxE_ HB 4 #[.int .i64 a0_0, .int .i64 a0_1] 23 ?_; clear HB; intro gb246 w9 HB BK246 GW246 GE246 hb; clear hb) | ((with_reducible refine gate_dst (N := 8) rfl ?_); refine boxG_ 8 #[.int .i64 0, .int .i64 0, .int .i64 0] 45 ?_; intro gb247 w10 hg BK247 hb; have GW247 := sZ HB hg; have GE247 := sZ HB hg; replace HB := hB2 HB hb; have NB246_247 := neL BK246 hg; have NB247_246 := neR BK246 hg; replace BK246 := kb2 BK246 hb; clear hb hg) | ((with_reducible refine gate_callee (f := 90) rfl ?_); refine goesL_ (some 19) rfl rfl Tryz.func90 (by kernel_rfl) rfl #[.string a3] rfl gL_ ?_; (with_reducible refine (impl_digits.calls k a3 t248 _ A6.out).mono ?_); rintro e w11 ⟨v249, rfl, ho0, hb⟩; refine ⟨_, rfl, ?_⟩; have HO250 := amk (Kd.R_lower ho0 (below_size bB)); replace BK246 := kb2 BK246 hb; replace BK247 := kb2 BK247 hb; replace HB := hB2 HB hb; (try clear hb); (try clear ho0); obtain ⟨Ao12, co12, eo12⟩ := Kd.R_slice HO250.out; subst eo12; have p251 : 0 ≤ (a2 : Int) := dA_; have q251 : a2 < (t248.length : Int) := dA_; obtain ⟨ad251, e251, hx251_0⟩ := Kd.at_int (Kd.R_reads' HO250.out).2.2 a2 p251 q251; cases e251; replace p251 := eq_true p251; replace q251 := eq_true q251; have hnb13 := NB247_246.out; have hnc13 := NB246_247.out; obtain ⟨hcz14_0, hcz14_1, hcz14_2, hfz14_0, hfz14_1, hfz14_2⟩ := cells3 BK247.out)); refine bodyPost_ret (results_cell_row rfl _ _ gb247 45 #[.int .i64 0, .int .i64 a2, .int .i64 (rd t248 a2)] (0, 0) _ rfl (kP BK247) Tryz.underlying45 rfl (by kernel_rfl)) rfl ?_; exact ⟨rF_, bB⟩
  · rw [if_neg c5] at H; have c5b0 : (a1 == 0) = false := beq_eq_false_iff_ne.mpr c5; have c5b1 : (a1 != 0) = true := bne_iff_ne.mpr c5
    by_cases c15 : a1 = 1
    · rw [if_pos c15] at H; have c15b0 : (a1 == 1) = true := beq_iff_eq.mpr c15; have c15b1 : (a1 != 1) = false := bne_eq_false_iff_eq.mpr c15; clear c15; replace H := bE H; obtain ⟨t252, A16, H⟩ := H; have H' := amk H; clear H; go_enter Tryz.func72, Tryz.ntmps72; go_wp2_with (first | ((with_reducible refine gate_dst (N := 4) rfl ?_); refine boxE_ HB 4 #[.int .i64 a0_0, .int .i64 a0_1] 23 ?_; clear HB; intro gb246 w17 HB BK246 GW246 GE246 hb; clear hb) | ((with_reducible refine gate_dst (N := 8) rfl ?_); refine boxG_ 8 #[.int .i64 0, .int .i64 0, .int .i64 0] 45 ?_; intro gb247 w18 hg BK247 hb; have GW247 := sZ HB hg; have GE247 := sZ HB hg; replace HB := hB2 HB hb; have NB246_247 := neL BK246 hg; have NB247_246 := neR BK246 hg; replace BK246 := kb2 BK246 hb; clear hb hg) | ((with_reducible refine gate_callee (f := 90) rfl ?_); refine goesL_ (some 27) rfl rfl Tryz.func90 (by kernel_rfl) rfl #[.string a3] rfl gL_ ?_; (with_reducible refine (impl_digits.calls k a3 t252 _ A16.out).mono ?_); rintro e w19 ⟨v253, rfl, ho0, hb⟩; refine ⟨_, rfl, ?_⟩; have HO254 := amk (Kd.R_lower ho0 (below_size bB)); replace BK246 := kb2 BK246 hb; replace BK247 := kb2 BK247 hb; replace HB := hB2 HB hb; (try clear hb); (try clear ho0); obtain ⟨Ao20, co20, eo20⟩ := Kd.R_slice HO254.out; subst eo20))
      go_loopg [9, 29] k (fun kq v9 v29 w' => ∃ (x9_1 : Int) (x29_1 : Int), v9 = .int .i64 x9_1 ∧ v29 = .int .i64 x29_1 ∧ Aside0 (impl_Lock_told.l0 kq x9_1 t252 (t252.length : Int) x29_1 = some (r1, r2, r3)) ∧ Aside0 (kq ≤ k) ∧ Aside0 (Kd.R (Kd.int .i64) 3 w' w.heap.size (fun _ => True) (.slice Ao20 t252.length co20) t252) ∧ Aside0 (w'.heap[gb246]? = some (.cells #[.int .i64 a0_0, .int .i64 a0_1] 23 (0, 0))) ∧ Aside0 (w'.heap[gb247]? = some (.cells #[.int .i64 0, .int .i64 0, .int .i64 0] 45 (0, 0))) ∧ Aside0 (Below w.heap.size w w'))
      case atStart => exact ⟨(0), (0), rS_, rS_, H', ⟨Nat.le_refl _⟩, ⟨oX HO254⟩, ⟨kB BK246⟩, ⟨kB BK247⟩, ⟨bB⟩⟩
      case round =>
        clear H'; (try clear c1); (try clear p2); (try clear q2); (try clear hx2); (try clear c5); (try clear c5b0); (try clear c5b1); (try clear c7); (try clear c7b0); (try clear c8); (try clear c8b0); (try clear c9); (try clear c13); (try clear c15); (try clear c15b0); (try clear c15b1); (try clear hcz14_0); (try clear hcz14_1); (try clear hcz14_2); (try clear hfz14_0); (try clear hfz14_1); (try clear hfz14_2); (try clear hx251_0); (try clear p251); (try clear q251); obtain ⟨x9_1, x29_1, rfl, rfl, HA, HK1, HO_27, BK246, BK247, HB⟩ := hrel
        cases gk with
        | zero => exact absurd HA.out (by simp [impl_Lock_told.l0])
        | succ k1 =>
          have H := HA.out; clear HA; simp only [impl_Lock_told.l0] at H; replace H := iteE H; obtain ⟨c21b0, H⟩ | ⟨c21b0, H⟩ := H
          · replace H := iteN H; obtain ⟨c22b0, H⟩ := H; replace H := iteN H; obtain ⟨c23b0, H⟩ := H; have H' := amk H; clear H; have p255 : 0 ≤ (x29_1 : Int) := dA_; have q255 : x29_1 < (t252.length : Int) := dA_; obtain ⟨ad255, e255, hx255_0⟩ := Kd.at_int (Kd.R_reads' HO_27.out).2.2 x29_1 p255 q255; cases e255; replace p255 := eq_true p255; replace q255 := eq_true q255; go_wp2; go_roundg k1
            case measure => have := HK1.out; omega
            case rel => exact ⟨(wrap64 (x9_1 + (rd t252 x29_1))), (wrap64 (x29_1 + 1)), rS_, rS_, H', ⟨by have := HK1.out; omega⟩, ⟨oX HO_27⟩, ⟨kB BK246⟩, ⟨kB BK247⟩, ⟨bB⟩⟩
          · simp only [Option.some.injEq, Prod.mk.injEq] at H; obtain ⟨rfl, rfl, rfl⟩ := H; have hnb24 := NB247_246.out; have hnc24 := NB246_247.out; obtain ⟨hcz25_0, hcz25_1, hcz25_2, hfz25_0, hfz25_1, hfz25_2⟩ := cells3 BK247.out; go_wp2; refine bodyPost_ret (results_cell_row rfl _ _ gb247 45 #[.int .i64 1, .int .i64 x9_1, .int .i64 0] (0, 0) _ rfl (kP BK247) Tryz.underlying45 rfl (by kernel_rfl)) rfl ?_; exact ⟨rF_, bB⟩
    · rw [if_neg c15] at H; have c15b0 : (a1 == 1) = false := beq_eq_false_iff_ne.mpr c15; have c15b1 : (a1 != 1) = true := bne_iff_ne.mpr c15
      by_cases c26 : a1 = 2
      · rw [if_pos c26] at H; have c26b0 : (a1 == 2) = true := beq_iff_eq.mpr c26; have c26b1 : (a1 != 2) = false := bne_eq_false_iff_eq.mpr c26; clear c26; replace H := bE H; obtain ⟨t256, A27, H⟩ := H; replace H := bE H; obtain ⟨⟨t257, t258⟩, A28, H⟩ := H; (try dsimp only at H); simp only [Option.some.injEq, Prod.mk.injEq] at H; obtain ⟨rfl, rfl, rfl⟩ := H; go_enter Tryz.func72, Tryz.ntmps72; go_wp2_with (first | ((with_reducible refine gate_dst (N := 4) rfl ?_); refine boxE_ HB 4 #[.int .i64 a0_0, .int .i64 a0_1] 23 ?_; clear HB; intro gb246 w29 HB BK246 GW246 GE246 hb; clear hb) | ((with_reducible refine gate_dst (N := 8) rfl ?_); refine boxG_ 8 #[.int .i64 0, .int .i64 0, .int .i64 0] 45 ?_; intro gb247 w30 hg BK247 hb; have GW247 := sZ HB hg; have GE247 := sZ HB hg; replace HB := hB2 HB hb; have NB246_247 := neL BK246 hg; have NB247_246 := neR BK246 hg; replace BK246 := kb2 BK246 hb; clear hb hg; have hnb31 := NB246_247.out; have hnc31 := NB247_246.out; obtain ⟨hcz32_0, hcz32_1, hfz32_0, hfz32_1⟩ := cells2 BK246.out) | ((with_reducible refine gate_callee (f := 56) rfl ?_); refine goesL_ (some 44) rfl rfl Tryz.func56 (by kernel_rfl) rfl #[.agg #[.int .i64 a0_0, .int .i64 a0_1], .int .i64 a2] rfl gL_ ?_; (with_reducible refine (impl_Lock_code.calls a0_0 a0_1 a2 t256 _ A27.out).mono ?_); rintro e w33 ⟨rfl, hb⟩; refine ⟨_, rfl, ?_⟩; replace BK246 := kb2 BK246 hb; replace BK247 := kb2 BK247 hb; replace HB := hB2 HB hb; (try clear hb)) | ((with_reducible refine gate_callee (f := 91) rfl ?_); refine goesL_ (some 46) rfl rfl Tryz.func91 (by kernel_rfl) rfl #[.string t256, .string a3] rfl gL_ ?_; (with_reducible refine (impl_hint.calls t256 a3 t257 t258 _ A28.out).mono ?_); rintro e w34 ⟨rfl, hb⟩; refine ⟨_, rfl, ?_⟩; replace BK246 := kb2 BK246 hb; replace BK247 := kb2 BK247 hb; replace HB := hB2 HB hb; (try clear hb); obtain ⟨hcz35_0, hcz35_1, hcz35_2, hfz35_0, hfz35_1, hfz35_2⟩ := cells3 BK247.out)); refine bodyPost_ret (results_cell_row rfl _ _ gb247 45 #[.int .i64 2, .int .i64 a2, .int .i64 t257] (0, 0) _ rfl (kP BK247) Tryz.underlying45 rfl (by kernel_rfl)) rfl ?_; exact ⟨rF_, bB⟩
      · rw [if_neg c26] at H; have c26b0 : (a1 == 2) = false := beq_eq_false_iff_ne.mpr c26; have c26b1 : (a1 != 2) = true := bne_iff_ne.mpr c26
        by_cases c36 : a1 = 3
        · rw [if_pos c36] at H; have c36b0 : (a1 == 3) = true := beq_iff_eq.mpr c36; have c36b1 : (a1 != 3) = false := bne_eq_false_iff_eq.mpr c36; clear c36; replace H := bE H; obtain ⟨t259, A37, H⟩ := H; replace H := bE H; obtain ⟨t260, A38, H⟩ := H; simp only [Option.some.injEq, Prod.mk.injEq] at H; obtain ⟨rfl, rfl, rfl⟩ := H; go_enter Tryz.func72, Tryz.ntmps72; (try go_wp2_with (first | ((with_reducible refine gate_dst (N := 4) rfl ?_); refine boxE_ HB 4 #[.int .i64 a0_0, .int .i64 a0_1] 23 ?_; clear HB; intro gb246 w39 HB BK246 GW246 GE246 hb; clear hb) | ((with_reducible refine gate_dst (N := 8) rfl ?_); refine boxG_ 8 #[.int .i64 0, .int .i64 0, .int .i64 0] 45 ?_; intro gb247 w40 hg BK247 hb; have GW247 := sZ HB hg; have GE247 := sZ HB hg; replace HB := hB2 HB hb; have NB246_247 := neL BK246 hg; have NB247_246 := neR BK246 hg; replace BK246 := kb2 BK246 hb; clear hb hg))); replace BK246 := amk (blk_drew BK246.out); replace BK247 := amk (blk_drew BK247.out); replace HB := amk (bd_ HB.out); refine start_ (n := 9) (S := fun w' => w'.cell? ⟨gb246, 0, none⟩ = some (.int .i64 a0_0) ∧ w'.cell? ⟨gb246, 1, none⟩ = some (.int .i64 a0_1)) (ds := []) (bA 9 0) (by kernel_rfl) rfl rfl ⟨(blk_cell BK246.out 0).trans rfl, (blk_cell BK246.out 1).trans rfl⟩ (fun hHeld => ?_); refine with_tabW impl_Lock_told.tab16 impl_Lock_told.bits16 (fun HT_ HW_ => ?_); generalize w40.drew = w41 at BK246 BK247 HB hHeld ⊢; refine pU_ HT_ 0 (some 54) (bA 9 1) ?_; refine pU_ HT_ 3 (some 57) (bA 9 9) ?_; refine pU_ HT_ 5 (some 59) (bA 9 41) ?_; refine tK_ HT_ HW_ hHeld 1 (some 55) (bA 9 43) ?_; refine tK_ HT_ HW_ hHeld 2 (some 56) (bA 9 47) ?_; refine oN_ HT_ 4 (some 58) (bA 9 63) (fun K hK => ?_); refine goes_ Tryz.func56 (by kernel_rfl) rfl #[.agg #[.int .i64 a0_0, .int .i64 a0_1], .int .i64 a2] (by rfl) rfl rfl gL_ ?_; (with_reducible refine (impl_Lock_code.calls a0_0 a0_1 a2 t259 _ A37.out).mono ?_); rintro e w42 ⟨rfl, hb⟩; refine ⟨_, rfl, ?_⟩; replace BK246 := kb2 BK246 hb; replace BK247 := kb2 BK247 hb; replace HB := hB2 HB hb; (try clear hb); refine hK.out _ _ hC_ (fun hHeld => ?_); clear hK K; refine nN_ (some 58) ?_; refine oN_ HT_ 6 (some 60) (bA 9 127) (fun K hK => ?_); refine goes_ Tryz.func92 (by kernel_rfl) rfl #[.agg #[.int .i64 a0_0, .int .i64 a0_1], .string t259, .string a3] (by rfl) rfl rfl gL_ ?_; (with_reducible refine (impl_Lock_distance.calls k a0_0 a0_1 t259 a3 t260 _ A38.out).mono ?_); rintro e w43 ⟨rfl, hb⟩; refine ⟨_, rfl, ?_⟩; replace BK246 := kb2 BK246 hb; replace BK247 := kb2 BK247 hb; replace HB := hB2 HB hb; (try clear hb); refine hK.out _ _ hC_ (fun hHeld => ?_); clear hK K; refine nN_ (some 60) ?_; refine pU_ HT_ 7 (some 61) (bA 9 255) ?_; refine oN_ HT_ 8 none (bA 9 511) (fun K hK => ?_); have hs44 : w43.cell? ⟨gb247, 0, none⟩ = some (.int .i64 0) := (blk_cell BK247.out 0).trans rfl; have hfs44 := blk_frozen BK247.out 0; have hns44_0 := NB246_247.out; have hms44_0 := NB247_246.out; have hs45 : w43.cell? ⟨gb247, 1, none⟩ = some (.int .i64 0) := (blk_cell BK247.out 1).trans rfl; have hfs45 := blk_frozen BK247.out 1; have hns45_0 := NB246_247.out; have hms45_0 := NB247_246.out; have hs46 : w43.cell? ⟨gb247, 2, none⟩ = some (.int .i64 0) := (blk_cell BK247.out 2).trans rfl; have hfs46 := blk_frozen BK247.out 2; have hns46_0 := NB246_247.out; have hms46_0 := NB247_246.out; refine skip_ (w1 := ?_) (by rfl) rfl ?_ ?_; rotate_left
          · go_simp
            rfl
          refine hK.out _ _ ⟨((cell_far (p := ⟨gb247, _, none⟩) NB246_247.out _).trans (((cell_far (p := ⟨gb247, _, none⟩) NB246_247.out _).trans (((cell_far (p := ⟨gb247, _, none⟩) NB246_247.out _).trans (hHeld.1)))))), ((cell_far (p := ⟨gb247, _, none⟩) NB246_247.out _).trans (((cell_far (p := ⟨gb247, _, none⟩) NB246_247.out _).trans (((cell_far (p := ⟨gb247, _, none⟩) NB246_247.out _).trans (hHeld.2))))))⟩ (fun hHeld => ?_); clear hK K; refine done_ (done_of HT_.out (by kernel_rfl)) ?_; (try go_wp2); refine bodyPost_ret (results_cell_row rfl _ _ gb247 45 #[.int .i64 3, .int .i64 a2, .int .i64 t260] (0, 0) _ rfl (kP BK247) Tryz.underlying45 rfl (by kernel_rfl)) rfl ?_; exact ⟨rF_, bB⟩
        · rw [if_neg c36] at H; have c36b0 : (a1 == 3) = false := beq_eq_false_iff_ne.mpr c36; have c36b1 : (a1 != 3) = true := bne_iff_ne.mpr c36; replace H := bE H; obtain ⟨t261, A47, H⟩ := H
          by_cases c48 : a2 = 0
          · rw [if_pos c48] at H; exact absurd H (by simp)
          · rw [if_neg c48] at H; have c48b0 : (a2 == 0) = false := beq_eq_false_iff_ne.mpr c48; have c48b1 : (a2 != 0) = true := bne_iff_ne.mpr c48; simp only [Option.some.injEq, Prod.mk.injEq] at H; obtain ⟨rfl, rfl, rfl⟩ := H; go_enter Tryz.func72, Tryz.ntmps72; go_wp2_with (first | ((with_reducible refine gate_dst (N := 4) rfl ?_); refine boxE_ HB 4 #[.int .i64 a0_0, .int .i64 a0_1] 23 ?_; clear HB; intro gb246 w49 HB BK246 GW246 GE246 hb; clear hb) | ((with_reducible refine gate_dst (N := 8) rfl ?_); refine boxG_ 8 #[.int .i64 0, .int .i64 0, .int .i64 0] 45 ?_; intro gb247 w50 hg BK247 hb; have GW247 := sZ HB hg; have GE247 := sZ HB hg; replace HB := hB2 HB hb; have NB246_247 := neL BK246 hg; have NB247_246 := neR BK246 hg; replace BK246 := kb2 BK246 hb; clear hb hg; have hnb51 := NB246_247.out; have hnc51 := NB247_246.out; obtain ⟨hcz52_0, hcz52_1, hfz52_0, hfz52_1⟩ := cells2 BK246.out) | ((with_reducible refine gate_callee (f := 93) rfl ?_); refine goesL_ (some 65) rfl rfl Tryz.func93 (by kernel_rfl) rfl #[.agg #[.int .i64 a0_0, .int .i64 a0_1], .string a3] rfl gL_ ?_; (with_reducible refine (impl_Lock_number.calls k a0_0 a0_1 a3 t261 _ A47.out).mono ?_); rintro e w53 ⟨rfl, hb⟩; refine ⟨_, rfl, ?_⟩; replace BK246 := kb2 BK246 hb; replace BK247 := kb2 BK247 hb; replace HB := hB2 HB hb; (try clear hb); obtain ⟨hcz54_0, hcz54_1, hcz54_2, hfz54_0, hfz54_1, hfz54_2⟩ := cells3 BK247.out)); refine bodyPost_ret (results_cell_row rfl _ _ gb247 45 #[.int .i64 4, .int .i64 a2, .int .i64 (Int.tmod t261 a2)] (0, 0) _ rfl (kP BK247) Tryz.underlying45 rfl (by kernel_rfl)) rfl ?_; exact ⟨rF_, bB⟩
/-! (impl.Lock).fit, by hand: it asks its clues through slices.ContainsFunc and a closure. -/
set_option maxHeartbeats 4000000 in
set_option maxRecDepth 100000 in
theorem fit_closure (k : Nat) (a b : Int) (s : ByteArray) (gl gs : Nat) (W : World) (hl : gl < W.heap.size) (hs : gs < W.heap.size)
    (h0 : W.cell? ⟨gl, 0, none⟩ = some (.int .i64 a)) (h1 : W.cell? ⟨gl, 1, none⟩ = some (.int .i64 b)) (h2 : W.cell? ⟨gs, 0, none⟩ = some (.string s)) (x : S45) (r0 r1 r2 : Int) (hk : impl_Lock_told.f k a b x.f0 x.f1 s = some (r0, r1, r2)) :
    Calls Tryz.prog 71 #[.agg #[.int .i64 x.f0, .int .i64 x.f1, .int .i64 x.f2], .pointer (some ⟨gl, 0, none⟩), .pointer (some ⟨gs, 0, none⟩)] W fun e w' => e = .returned (.bool (!decide (r0 = x.f0 ∧ r1 = x.f1 ∧ r2 = x.f2))) ∧ Below W.heap.size W w' := by
  have hu28 := Tryz.underlying23
  have hu30 := Tryz.underlying45
  have hus := Tryz.underlying9
  have hne : gl ≠ W.heap.size := by omega
  have hne2 : gs ≠ W.heap.size := by omega
  have HK := amk hk
  clear hk
  obtain ⟨x0, x1, x2⟩ := x
  have B1 : Below W.heap.size W (W.alloc (.cells #[.int .i64 x0, .int .i64 x1, .int .i64 x2] 45)).drew := (ba_ (Below.refl _ W) _).drew
  have HS1 : Aside0 ((W.alloc (.cells #[.int .i64 x0, .int .i64 x1, .int .i64 x2] 45)).drew.cell? ⟨gl, 0, none⟩ = some (.int .i64 a) ∧ (W.alloc (.cells #[.int .i64 x0, .int .i64 x1, .int .i64 x2] 45)).drew.cell? ⟨gl, 1, none⟩ = some (.int .i64 b) ∧ (W.alloc (.cells #[.int .i64 x0, .int .i64 x1, .int .i64 x2] 45)).drew.cell? ⟨gs, 0, none⟩ = some (.string s) ∧ (W.alloc (.cells #[.int .i64 x0, .int .i64 x1, .int .i64 x2] 45)).drew.cell? ⟨W.heap.size, 0, none⟩ = some (.int .i64 x0) ∧ (W.alloc (.cells #[.int .i64 x0, .int .i64 x1, .int .i64 x2] 45)).drew.cell? ⟨W.heap.size, 1, none⟩ = some (.int .i64 x1) ∧ (W.alloc (.cells #[.int .i64 x0, .int .i64 x1, .int .i64 x2] 45)).drew.cell? ⟨W.heap.size, 2, none⟩ = some (.int .i64 x2) ∧ Aside0 (Below W.heap.size W (W.alloc (.cells #[.int .i64 x0, .int .i64 x1, .int .i64 x2] 45)).drew)) :=
    ⟨(B1.cell (p := ⟨gl, 0, none⟩) hl).trans h0, (B1.cell (p := ⟨gl, 1, none⟩) hl).trans h1, (B1.cell (p := ⟨gs, 0, none⟩) hs).trans h2, by simp, by simp, by simp, ⟨B1⟩⟩
  have hlt : gl < W.heap.size + 1 := by omega
  have hlt2 : gs < W.heap.size + 1 := by omega
  have HLT := amk (And.intro hlt hlt2)
  clear B1 hlt hlt2
  show Calls Tryz.prog _ _ _ fun e w' => e = .returned (.bool (!decide (r0 = x0 ∧ r1 = x1 ∧ r2 = x2))) ∧ Below W.heap.size W w'
  have fin : ∀ c : Bool, (c = !decide (r0 = x0 ∧ r1 = x1 ∧ r2 = x2)) → Calls Tryz.prog 71 #[.agg #[.int .i64 x0, .int .i64 x1, .int .i64 x2], .pointer (some ⟨gl, 0, none⟩), .pointer (some ⟨gs, 0, none⟩)] W (fun e w' => e = .returned (.bool c) ∧ Below W.heap.size W w') → Calls Tryz.prog 71 #[.agg #[.int .i64 x0, .int .i64 x1, .int .i64 x2], .pointer (some ⟨gl, 0, none⟩), .pointer (some ⟨gs, 0, none⟩)] W (fun e w' => e = .returned (.bool (!decide (r0 = x0 ∧ r1 = x1 ∧ r2 = x2))) ∧ Below W.heap.size W w') := by
    intro c hc h; rw [← hc]; exact h
  by_cases q0 : r0 = x0
  · by_cases q1 : r1 = x1
    · by_cases q2 : r2 = x2
      · refine fin false (by simp [q0, q1, q2]) ?_
        clear fin
        subst q0 q1 q2
        go_enter Tryz.func71, Tryz.ntmps71
        go_wp2
        go_region_held3 (fun w' => w'.cell? ⟨gl, 0, none⟩ = some (.int .i64 a) ∧ w'.cell? ⟨gl, 1, none⟩ = some (.int .i64 b) ∧ w'.cell? ⟨gs, 0, none⟩ = some (.string s) ∧ w'.cell? ⟨W.heap.size, 0, none⟩ = some (.int .i64 r0) ∧ w'.cell? ⟨W.heap.size, 1, none⟩ = some (.int .i64 r1) ∧ w'.cell? ⟨W.heap.size, 2, none⟩ = some (.int .i64 r2) ∧ Aside0 (Below W.heap.size W w')) (first | exact HS1.out | exact ⟨(hb9.cell (by simp; have := HLT.out; omega)).trans HS1.out.1, (hb9.cell (by simp; have := HLT.out; omega)).trans HS1.out.2.1, (hb9.cell (by simp; have := HLT.out; omega)).trans HS1.out.2.2.1, (hb9.cell (by simp)).trans HS1.out.2.2.2.1, (hb9.cell (by simp)).trans HS1.out.2.2.2.2.1, (hb9.cell (by simp)).trans HS1.out.2.2.2.2.2.1, ⟨HS1.out.2.2.2.2.2.2.out.trans (hb9.mono (by simp))⟩⟩) ((go_at_call 72; refine (impl_Lock_told.calls k a b r0 r1 s r0 r1 r2 _ HK.out).mono ?_; rintro e w9 ⟨rfl, hb9⟩))
        go_wp2
        go_ret
        exact ⟨rfl, HS1.out.2.2.2.2.2.2.out.trans (hb9.mono (by simp))⟩
      · refine fin true (by simp [q2]) ?_
        clear fin
        have d2 : (r2 == x2) = false := by simp [q2]
        subst q0 q1
        go_enter Tryz.func71, Tryz.ntmps71
        go_wp2
        go_region_held3 (fun w' => w'.cell? ⟨gl, 0, none⟩ = some (.int .i64 a) ∧ w'.cell? ⟨gl, 1, none⟩ = some (.int .i64 b) ∧ w'.cell? ⟨gs, 0, none⟩ = some (.string s) ∧ w'.cell? ⟨W.heap.size, 0, none⟩ = some (.int .i64 r0) ∧ w'.cell? ⟨W.heap.size, 1, none⟩ = some (.int .i64 r1) ∧ w'.cell? ⟨W.heap.size, 2, none⟩ = some (.int .i64 x2) ∧ Aside0 (Below W.heap.size W w')) (first | exact HS1.out | exact ⟨(hb9.cell (by simp; have := HLT.out; omega)).trans HS1.out.1, (hb9.cell (by simp; have := HLT.out; omega)).trans HS1.out.2.1, (hb9.cell (by simp; have := HLT.out; omega)).trans HS1.out.2.2.1, (hb9.cell (by simp)).trans HS1.out.2.2.2.1, (hb9.cell (by simp)).trans HS1.out.2.2.2.2.1, (hb9.cell (by simp)).trans HS1.out.2.2.2.2.2.1, ⟨HS1.out.2.2.2.2.2.2.out.trans (hb9.mono (by simp))⟩⟩) ((go_at_call 72; refine (impl_Lock_told.calls k a b r0 r1 s r0 r1 r2 _ HK.out).mono ?_; rintro e w9 ⟨rfl, hb9⟩))
        go_wp2
        go_ret
        exact ⟨rfl, HS1.out.2.2.2.2.2.2.out.trans (hb9.mono (by simp))⟩
    · refine fin true (by simp [q1]) ?_
      clear fin
      have d1 : (r1 == x1) = false := by simp [q1]
      subst q0
      go_enter Tryz.func71, Tryz.ntmps71
      go_wp2
      go_region_held3 (fun w' => w'.cell? ⟨gl, 0, none⟩ = some (.int .i64 a) ∧ w'.cell? ⟨gl, 1, none⟩ = some (.int .i64 b) ∧ w'.cell? ⟨gs, 0, none⟩ = some (.string s) ∧ w'.cell? ⟨W.heap.size, 0, none⟩ = some (.int .i64 r0) ∧ w'.cell? ⟨W.heap.size, 1, none⟩ = some (.int .i64 x1) ∧ w'.cell? ⟨W.heap.size, 2, none⟩ = some (.int .i64 x2) ∧ Aside0 (Below W.heap.size W w')) (first | exact HS1.out | exact ⟨(hb9.cell (by simp; have := HLT.out; omega)).trans HS1.out.1, (hb9.cell (by simp; have := HLT.out; omega)).trans HS1.out.2.1, (hb9.cell (by simp; have := HLT.out; omega)).trans HS1.out.2.2.1, (hb9.cell (by simp)).trans HS1.out.2.2.2.1, (hb9.cell (by simp)).trans HS1.out.2.2.2.2.1, (hb9.cell (by simp)).trans HS1.out.2.2.2.2.2.1, ⟨HS1.out.2.2.2.2.2.2.out.trans (hb9.mono (by simp))⟩⟩) ((go_at_call 72; refine (impl_Lock_told.calls k a b r0 x1 s r0 r1 r2 _ HK.out).mono ?_; rintro e w9 ⟨rfl, hb9⟩))
      go_wp2
      go_ret
      exact ⟨rfl, HS1.out.2.2.2.2.2.2.out.trans (hb9.mono (by simp))⟩
  · refine fin true (by simp [q0]) ?_
    clear fin
    have d0 : (r0 == x0) = false := by simp [q0]
    go_enter Tryz.func71, Tryz.ntmps71
    go_wp2
    go_region_held3 (fun w' => w'.cell? ⟨gl, 0, none⟩ = some (.int .i64 a) ∧ w'.cell? ⟨gl, 1, none⟩ = some (.int .i64 b) ∧ w'.cell? ⟨gs, 0, none⟩ = some (.string s) ∧ w'.cell? ⟨W.heap.size, 0, none⟩ = some (.int .i64 x0) ∧ w'.cell? ⟨W.heap.size, 1, none⟩ = some (.int .i64 x1) ∧ w'.cell? ⟨W.heap.size, 2, none⟩ = some (.int .i64 x2) ∧ Aside0 (Below W.heap.size W w')) (first | exact HS1.out | exact ⟨(hb9.cell (by simp; have := HLT.out; omega)).trans HS1.out.1, (hb9.cell (by simp; have := HLT.out; omega)).trans HS1.out.2.1, (hb9.cell (by simp; have := HLT.out; omega)).trans HS1.out.2.2.1, (hb9.cell (by simp)).trans HS1.out.2.2.2.1, (hb9.cell (by simp)).trans HS1.out.2.2.2.2.1, (hb9.cell (by simp)).trans HS1.out.2.2.2.2.2.1, ⟨HS1.out.2.2.2.2.2.2.out.trans (hb9.mono (by simp))⟩⟩) ((go_at_call 72; refine (impl_Lock_told.calls k a b x0 x1 s r0 r1 r2 _ HK.out).mono ?_; rintro e w9 ⟨rfl, hb9⟩))
    go_wp2
    go_ret
    exact ⟨rfl, HS1.out.2.2.2.2.2.2.out.trans (hb9.mono (by simp))⟩
def impl_Lock_fit.f (k : Nat) (a b : Int) (l : List S45) (s : ByteArray) : Option Bool := if (l.all fun c => (impl_Lock_told.f k a b c.f0 c.f1 s).isSome) = true then some (l.all fun c => decide (impl_Lock_told.f k a b c.f0 c.f1 s = some (c.f0, c.f1, c.f2))) else none
set_option maxHeartbeats 4000000 in
set_option maxRecDepth 100000 in
theorem impl_Lock_fit.calls (k : Nat) (a0_0 a0_1 : Int) (A1 : Option Addr) (c1 : Nat) (l1 : List S45) (a2 : ByteArray) (r : Bool) (w : World) (hr1 : Kd.C k45 w A1 l1.length l1) (hc1 : l1.length ≤ c1) (h : impl_Lock_fit.f k a0_0 a0_1 l1 a2 = some r) :
    Calls Tryz.prog 49 #[.agg #[.int .i64 a0_0, .int .i64 a0_1], .slice A1 l1.length c1, .string a2] w fun e w' => e = .returned (.bool r) ∧ Below w.heap.size w w' := by
  unfold impl_Lock_fit.f at h
  by_cases hc : (l1.all fun c => (impl_Lock_told.f k a0_0 a0_1 c.f0 c.f1 a2).isSome) = true
  · rw [if_pos hc] at h
    obtain rfl := Option.some.inj h
    clear h
    have hu28 := Tryz.underlying23
    have hus := Tryz.underlying9
    have eg : ∀ args w, (callFunc 71 args).run Tryz.prog w = .ok (.enter 71 args) w := enters_of Tryz.func71 (by kernel_rfl) rfl
    have HE := amk eg
    clear eg
    have HR := amk hr1
    have HC := amk hc
    clear hr1 hc
    rw [show (l1.all fun c => decide (impl_Lock_told.f k a0_0 a0_1 c.f0 c.f1 a2 = some (c.f0, c.f1, c.f2))) = !(l1.any fun c => !decide (impl_Lock_told.f k a0_0 a0_1 c.f0 c.f1 a2 = some (c.f0, c.f1, c.f2))) by simp [List.all_eq_not_any_not]]
    generalize hz : (l1.any fun c => !decide (impl_Lock_told.f k a0_0 a0_1 c.f0 c.f1 a2 = some (c.f0, c.f1, c.f2))) = z
    have HZ := amk hz
    clear hz
    have B1 : Below w.heap.size w ((w.alloc (.cells #[.int .i64 a0_0, .int .i64 a0_1] 23)).alloc (.cells #[.string a2] 9)) := ba_ (ba_ (Below.refl _ w) _) _
    have BW := amk B1
    clear B1
    have HP : Aside0 (PredClue 71 #[.pointer (some ⟨w.heap.size, 0, none⟩), .pointer (some ⟨w.heap.size + 1, 0, none⟩)] (fun c => !decide (impl_Lock_told.f k a0_0 a0_1 c.f0 c.f1 a2 = some (c.f0, c.f1, c.f2))) l1 ((w.alloc (.cells #[.int .i64 a0_0, .int .i64 a0_1] 23)).alloc (.cells #[.string a2] 9))) := ⟨by
      intro x hx V hV
      obtain ⟨⟨r0, r1, r2⟩, hv⟩ := Option.isSome_iff_exists.mp (List.all_eq_true.mp HC.out x hx)
      have hsz := hV.size
      simp at hsz
      have := fit_closure k a0_0 a0_1 a2 w.heap.size (w.heap.size + 1) V (by omega) (by omega) ((hV.cell (p := ⟨w.heap.size, 0, none⟩) (by simp; omega)).trans (by simp)) ((hV.cell (p := ⟨w.heap.size, 1, none⟩) (by simp; omega)).trans (by simp)) ((hV.cell (p := ⟨w.heap.size + 1, 0, none⟩) (by simp)).trans (by simp)) x r0 r1 r2 hv
      refine this.mono (fun e w' ⟨h1, h2⟩ => ⟨?_, hV.trans (h2.mono hV.size)⟩)
      rw [h1]
      show _ = Ending.returned (.bool (!decide (impl_Lock_told.f k a0_0 a0_1 x.f0 x.f1 a2 = some (x.f0, x.f1, x.f2))))
      rw [hv]
      simp⟩
    go_enter Tryz.func49, Tryz.ntmps49
    go_wp2_with (go_at_call 44; refine (contains_Clue 71 #[.pointer (some ⟨w.heap.size, 0, none⟩), .pointer (some ⟨w.heap.size + 1, 0, none⟩)] (fun c => !decide (impl_Lock_told.f k a0_0 a0_1 c.f0 c.f1 a2 = some (c.f0, c.f1, c.f2))) A1 c1 l1 _ HE.out (Kd.C_below HR.out BW.out) HP.out).mono ?_; rintro e w2 ⟨rfl, hb2⟩; have BW2 := amk (BW.out.trans (hb2.mono BW.out.size)); clear hb2)
    go_ret
    exact ⟨by rw [HZ.out]; rfl, BW2.out⟩
  · rw [if_neg hc] at h
    cases h
end Go.Proofs.YtalmbdmkajohlaaGreatDoor.P