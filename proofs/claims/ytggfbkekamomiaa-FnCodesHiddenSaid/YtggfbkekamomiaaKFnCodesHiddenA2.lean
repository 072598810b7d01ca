import Derived.Test.YtggfbkekamomiaaKFnCodesHiddenA0
import Derived.Test.YtggfbkekamomiaaKFnCodesHiddenA1
import Derived.RegionTactic
import Derived.ChangeAlike
import Derived.BigRegion
import Derived.Laws.RangeString
import Derived.Shelf.Abstract
namespace Go.Proofs.Ytggfbkekamomiaa.P
open Go.RowKit Go.Proofs.YtggfbkekamomiaaW.PrintWords Go.Proofs.YtggfbkekamomiaaW.PrintLast Go.Proofs.YtggfbkekamomiaaW.PrintMore
attribute [local go_sem] max2_int min2_int max_two min_two max_three min_three max_four min_four
set_option linter.unusedVariables false
set_option linter.unusedSimpArgs false
/-! spec.hiOf, by hand: it ranges over texts. -/
def spec_hiOf.f (a b:ByteArray):Option (Int×Int):=if hintB a b=true then some (plN a b a.size,cmN a b a.size 10 - plN a b a.size) else none
set_option maxHeartbeats 4000000 in
set_option maxRecDepth 100000 in
theorem spec_hiOf.calls (a0 a1:ByteArray) (r1 r2:Int) (w:World) (h:spec_hiOf.f a0 a1=some (r1,r2)) :
    Calls Try.prog 95 #[.string a0, .string a1] w fun e w'=>e = .returned (.tuple #[.int .i64 r1, .int .i64 r2])∧Below w.heap.size w w':=by
  unfold spec_hiOf.f at h
  by_cases hc:hintB a0 a1=true
  · rw [if_pos hc] at h
    obtain ⟨rfl,rfl⟩:=Prod.mk.inj (Option.some.inj h)
    clear h
    obtain ⟨hs,_,h6,ha,hb⟩:=hintB_iff.mp hc
    clear hc
    have HA:=amk ha
    have HB:=amk hb
    have HS:=amk hs
    have H6:=amk h6
    have hu:=Try.underlying9
    clear ha hb
    have hus:=Try.underlying9
    clear hs h6
    have Hpl:=plN_range a0 a1 a0.size
    have Hcm:=cmN_range a0 a1 a0.size 10
    go_enter Try.func95,Try.ntmps95
    go_wp2
    go_loopg [6] a0.size (fun gg s6 wr=> ∃ (W:World) (i:Nat),s6 = .int .i64 (plN a0 a1 i)∧wr=W.iter a0 i∧Aside0 (i≤a0.size∧a0.size≤i + gg)∧Aside0 (W.heap.size=w.heap.size∧Below w.heap.size w W))
    case atStart=>exact ⟨w,0,rfl,rfl,⟨by omega⟩,⟨rfl,Below.refl _ _⟩⟩
    case round =>
      obtain ⟨W,i,rfl,rfl,HI,HW⟩:=hrel
      by_cases hi:i < a0.size
      · have hia:=HA.out i hi
        have hib:=HB.out i (by rw [←HS.out];exact hi)
        have hi1:i < a1.size:=by rw [←HS.out];exact hi
        have hnx : ∀ ty,(Instr.next (.pointer (some ⟨w.heap.size,0,none⟩)) true ty).run Try.prog (W.iter a0 i) = .ok (.tuple #[.bool true, .int .i64 (i:Nat), .int .i32 (bt a0 (i:Nat))]) (W.iter a0 (i + 1)):=by
          intro ty
          have:=run_next_ascii (P:=Try.prog) W a0 i ty hi (by have:=bt_nat hi;omega)
          rw [HW.out.1,bt_nat hi] at this
          exact this
        have e0:=bt_nat hi
        have e1:=bt_nat hi1
        have p0:=plN_range a0 a1 i
        have p1:wrap64 (plN a0 a1 i + 1)=plN a0 a1 i + 1:=w64 (by omega) (by have:=H6.out;omega)
        clear hia hib
        by_cases he:bt a0 (i:Nat)=bt a1 (i:Nat)
        · have hd:(bt a0 (i:Nat) == bt a1 (i:Nat))=true:=by simp [he]
          have hp:plN a0 a1 i + 1=plN a0 a1 (i + 1):=by simp [plN,he]
          have HP:=amk hp
          clear he hp
          go_wp2
          go_region
          go_wp2
          go_roundg (a0.size - (i + 1))
          case measure=>have:=HI.out;omega
          case rel=>exact ⟨W.drew,i + 1,congrArg _ (by first | exact HP.out | exact p1.trans HP.out),rfl,⟨by omega⟩,⟨HW.out.1,HW.out.2.drew⟩⟩
        · have hd:(bt a0 (i:Nat) == bt a1 (i:Nat))=false:=by simp [he]
          have hp:plN a0 a1 i=plN a0 a1 (i + 1):=by simp [plN,he]
          have HP:=amk hp
          clear he hp
          go_wp2
          go_region
          go_wp2
          go_roundg (a0.size - (i + 1))
          case measure=>have:=HI.out;omega
          case rel=>exact ⟨W.drew,i + 1,congrArg _ (by first | exact HP.out | exact p1.trans HP.out),rfl,⟨by omega⟩,⟨HW.out.1,HW.out.2.drew⟩⟩
      · have hnx : ∀ ty,(Instr.next (.pointer (some ⟨w.heap.size,0,none⟩)) true ty).run Try.prog (W.iter a0 i) = .ok (.tuple #[.bool false]) (W.iter a0 i):=by
          intro ty
          have:=run_next_end (P:=Try.prog) W a0 i ty hi
          rw [HW.out.1] at this
          exact this
        have hia:i=a0.size:=by have:=HI.out;omega
        subst hia
        go_wp2
        have HW1:Aside0 (w.heap.size≤(W.iter a0 a0.size).heap.size∧Below w.heap.size w (W.iter a0 a0.size)):=⟨by simp [World.iter];have:=HW.out.1;omega,HW.out.2.alloc (by rw [HW.out.1];exact Nat.le_refl _) _⟩
        generalize W.iter a0 a0.size=V at HW1 ⊢
        clear hnx HW HI hi
        have hpl1:plN a0 a1 a0.size≤6:=by have:=H6.out;omega
        have hpl0:=Hpl.1
        clear Hpl
        go_loopg [7,9] 10 (fun gg s7 s9 wr=> ∃ m:Nat,s7 = .int .i64 (cmN a0 a1 a0.size m)∧s9 = .int .u8 (48 + m)∧Aside0 (m≤10∧10≤m + gg)∧Aside0 (w.heap.size≤wr.heap.size∧Below w.heap.size w wr))
        case atStart=>exact ⟨0,rfl,rfl,⟨by omega⟩,HW1⟩
        case round =>
          obtain ⟨m,rfl,rfl,HM,HB1⟩:=hrel
          by_cases hm:m≤9
          · have hm1:decide ((48:Int) + (m:Nat)≤57)=true:=decide_eq_true (by omega)
            have hm2:((48:Int) + (m:Nat) + 1) % 256=48 + ((m + 1:Nat):Int):=by omega
            go_wp2
            go_loopg [10,11] a0.size (fun gg s10 s11 we=> ∃ (W:World) (i:Nat),s10 = .int .i64 (ctN a0 (48 + (m:Nat)) i)∧s11 = .int .i64 (ctN a1 (48 + (m:Nat)) i)∧we=W.iter a0 i∧Aside0 (i≤a0.size∧a0.size≤i + gg)∧Aside0 (W.heap.size=wr.heap.size∧Below w.heap.size w W))
            case atStart=>exact ⟨wr,0,rfl,rfl,rfl,⟨by omega⟩,⟨rfl,HB1.out.2⟩⟩
            case round =>
              obtain ⟨W,i,rfl,rfl,rfl,HI,HW⟩:=hrel
              have hne0:wr.heap.size≠w.heap.size∨True:=Or.inr trivial
              by_cases hi:i < a0.size
              · have hi1:i < a1.size:=by rw [←HS.out];exact hi
                have hnx : ∀ ty,(Instr.next (.pointer (some ⟨wr.heap.size,0,none⟩)) true ty).run Try.prog (W.iter a0 i) = .ok (.tuple #[.bool true, .int .i64 (i:Nat), .int .i32 (bt a0 (i:Nat))]) (W.iter a0 (i + 1)):=by
                  intro ty
                  have:=run_next_ascii (P:=Try.prog) W a0 i ty hi (by have:=bt_nat hi;have:=HA.out i hi;omega)
                  rw [HW.out.1,bt_nat hi] at this
                  exact this
                have e0:=bt_nat hi
                have e1:=bt_nat hi1
                have p0:=ctN_range a0 (48 + (m:Nat)) i
                have p1:=ctN_range a1 (48 + (m:Nat)) i
                have q0:wrap64 (ctN a0 (48 + (m:Nat)) i + 1)=ctN a0 (48 + (m:Nat)) i + 1:=w64 (by omega) (by have:=H6.out;omega)
                have q1:wrap64 (ctN a1 (48 + (m:Nat)) i + 1)=ctN a1 (48 + (m:Nat)) i + 1:=w64 (by omega) (by have:=H6.out;omega)
                clear p0 p1 hne0
                have HP0:=amk (show ctN a0 (48 + (m:Nat)) (i + 1)=ctN a0 (48 + (m:Nat)) i + if bt a0 (i:Nat)=48 + (m:Nat) then 1 else 0 from rfl)
                have HP1:=amk (show ctN a1 (48 + (m:Nat)) (i + 1)=ctN a1 (48 + (m:Nat)) i + if bt a1 (i:Nat)=48 + (m:Nat) then 1 else 0 from rfl)
                by_cases he0:bt a0 (i:Nat)=48 + (m:Nat) <;> by_cases he1:bt a1 (i:Nat)=48 + (m:Nat)
                all_goals
                  first | have hd0:=(beq_of (bt a0 (i:Nat)) (48 + (m:Nat))).trans (decide_eq_true he0) | have hd0:=(beq_of (bt a0 (i:Nat)) (48 + (m:Nat))).trans (decide_eq_false he0)
                  first | have hd1:=(beq_of (bt a1 (i:Nat)) (48 + (m:Nat))).trans (decide_eq_true he1) | have hd1:=(beq_of (bt a1 (i:Nat)) (48 + (m:Nat))).trans (decide_eq_false he1)
                  have HE0:=amk he0
                  have HE1:=amk he1
                  clear he0 he1
                  go_wp2
                  go_roundg (a0.size - (i + 1))
                  case measure=>have:=HI.out;omega
                  case rel =>
                    refine ⟨W,i + 1,congrArg _ ?_,congrArg _ ?_,rfl,⟨by omega⟩,HW⟩
                    · rw [HP0.out];simp [HE0.out,q0]
                    · rw [HP1.out];simp [HE1.out,q1]
              · have hnx : ∀ ty,(Instr.next (.pointer (some ⟨wr.heap.size,0,none⟩)) true ty).run Try.prog (W.iter a0 i) = .ok (.tuple #[.bool false]) (W.iter a0 i):=by
                  intro ty
                  have:=run_next_end (P:=Try.prog) W a0 i ty hi
                  rw [HW.out.1] at this
                  exact this
                have hia:i=a0.size:=by have:=HI.out;omega
                subst hia
                have HV:Aside0 (w.heap.size≤(W.iter a0 a0.size).heap.size∧Below w.heap.size w (W.iter a0 a0.size)):=⟨by simp [World.iter];have:=HW.out.1;have:=HB1.out.1;omega,HW.out.2.alloc (by rw [HW.out.1];exact HB1.out.1) _⟩
                have HL:=amk (show spec_l1Least.f (ctN a0 (48 + (m:Nat)) a0.size) (ctN a1 (48 + (m:Nat)) a0.size)=some (lst (ctN a0 (48 + (m:Nat)) a0.size) (ctN a1 (48 + (m:Nat)) a0.size)) by unfold spec_l1Least.f lst;split <;> rfl)
                have hcm:cmN a0 a1 a0.size m + lst (ctN a0 (48 + (m:Nat)) a0.size) (ctN a1 (48 + (m:Nat)) a0.size)=cmN a0 a1 a0.size (m + 1):=rfl
                have hr:wrap64 (cmN a0 a1 a0.size (m + 1))=cmN a0 a1 a0.size (m + 1):=by
                  have:=cmN_range a0 a1 a0.size (m + 1)
                  have h6:=H6.out
                  have:(a0.size:Int) * ((m + 1:Nat):Int)≤6 * 10:=Int.mul_le_mul (by omega) (by omega) (by omega) (by omega)
                  exact w64 (by omega) (by omega)
                rw [←hcm] at hr
                have HR2:=amk hr
                have HCM:=amk hcm
                clear hr hcm hi HI hne0
                go_wp2_with (go_at_call 74;refine (spec_l1Least.calls _ _ _ _ HL.out).mono ?_;rintro e w9 ⟨rfl,hb9⟩)
                go_roundg (9 - m)
                case measure=>have:=HM.out;omega
                case rel=>exact ⟨m + 1,congrArg _ (HR2.out.trans HCM.out),congrArg _ (by omega),⟨by omega⟩,⟨Nat.le_trans HV.out.1 hb9.below.size,HV.out.2.trans (hb9.below.mono HV.out.1)⟩⟩
          · have hm1:decide ((48:Int) + (m:Nat)≤57)=false:=decide_eq_false (by omega)
            have hm3:m=10:=by have:=HM.out;omega
            subst hm3
            have hw:wrap64 (cmN a0 a1 a0.size 10 - plN a0 a1 a0.size)=cmN a0 a1 a0.size 10 - plN a0 a1 a0.size:=w64 (by have:=Hcm;have:=H6.out;omega) (by have:=Hcm;have:=H6.out;omega)
            go_wp2
            go_ret2
            exact ⟨by first | rfl | (rw [hw];rfl),HB1.out.2⟩
  · rw [if_neg hc] at h
    cases h
/-! ### spec_pzValue: function 83 -/
def spec_pzValue.l0:Nat→Int→List Int→Int→Int→Option (Int)
  | 0,_,_,_,_=>none
  | k + 1,x9,x25,x26,x27=>if x27 < x26 then (if 0≤x27 then (if x27 < (x25.length:Int) then (spec_pzValue.l0 k (wrap64 (x9 + (rd x25 x27))) x25 x26 (wrap64 (x27 + 1))) else (none)) else (none)) else (some x9)
def spec_pzValue.f (k:Nat) (a0_0:Int) (a0_1:Int) (a1:Int) (a2:Int) (a3:ByteArray):Option (Int):=if a1=0 then (if 0≤a2 then (if a2 < (a3.size:Int) then (some (((bt a3 a2) - 48) % 256)) else (none)) else (none)) else (if a1=1 then ((spec_whDigits.f k a3).bind fun t171=>(spec_pzValue.l0 k 0 t171 (t171.length:Int) 0)) else (if a1=2 then ((spec_whOf.f k a0_0 a0_1 a2).bind fun t175=>((spec_hiOf.f t175 a3).bind fun bt176=>(some bt176.1))) else (if a1=3 then ((spec_whOf.f k a0_0 a0_1 a2).bind fun t178=>((spec_whDistance.f k a0_0 a0_1 t178 a3).bind fun t179=>(some t179))) else ((spec_whNumber.f k a0_0 a0_1 a3).bind fun t180=>(if a2=0 then (none) else (some (Int.tmod t180 a2)))))))
set_option maxHeartbeats 8000000 in
set_option maxRecDepth 100000 in
theorem spec_pzValue.calls (k:Nat) (a0_0:Int) (a0_1:Int) (a1:Int) (a2:Int) (a3:ByteArray) (r:Int) (w:World) (h:spec_pzValue.f k a0_0 a0_1 a1 a2 a3=some r) :
    Calls Try.prog 83 #[.agg #[.int .i64 a0_0, .int .i64 a0_1], .int .i64 a1, .int .i64 a2, .string a3] w fun e w'=>e = .returned (.int .i64 r)∧Below w.heap.size w w':=by
  have hu25:=Try.underlying25;have HB:=amk (Below.refl w.heap.size w);unfold spec_pzValue.f at h;have H:=h;clear h
  by_cases c5:a1=0
  · rw [if_pos c5] at H;have c5b0:(a1 == 0)=true:=beq_iff_eq.mpr c5;have c5b1:(a1 != 0)=false:=bne_eq_false_iff_eq.mpr c5;clear c5;replace H:=iteN H;obtain ⟨c6b0,H⟩:=H;replace H:=iteN H;obtain ⟨c7b0,H⟩:=H;obtain rfl:=Option.some.inj H;go_enter Try.func83,Try.ntmps83;go_wp2_with (first | ((with_reducible refine gate_dst (N:=4) rfl ?_);refine boxE_ HB 4 #[.int .i64 a0_0, .int .i64 a0_1] 25 ?_;clear HB;intro gb170 w9 HB BK170 GW170 GE170 hb;clear hb;have p8:0≤(a2:Int):=dA_;have q8:a2 < (a3.size:Int):=dA_;have hx8:=bt_at a3 a2;replace p8:=eq_true p8;replace q8:=eq_true q8));go_ret;exact ⟨rF_,bB⟩
  · rw [if_neg c5] at H;have c5b0:(a1 == 0)=false:=beq_eq_false_iff_ne.mpr c5;have c5b1:(a1 != 0)=true:=bne_iff_ne.mpr c5
    by_cases c10:a1=1
    · rw [if_pos c10] at H;have c10b0:(a1 == 1)=true:=beq_iff_eq.mpr c10;have c10b1:(a1 != 1)=false:=bne_eq_false_iff_eq.mpr c10;clear c10;replace H:=bE H;obtain ⟨t171,A11,H⟩:=H;have H':=amk H;clear H;go_enter Try.func83,Try.ntmps83;go_wp2_with (first | ((with_reducible refine gate_dst (N:=4) rfl ?_);refine boxE_ HB 4 #[.int .i64 a0_0, .int .i64 a0_1] 25 ?_;clear HB;intro gb170 w12 HB BK170 GW170 GE170 hb;clear hb) | (refine gc_ 94 25 Try.func94 #[.string a3] ?_;(with_reducible refine (spec_whDigits.calls k a3 t171 _ A11.out).mono ?_);rintro e w13 ⟨v172,rfl,ho0,hb⟩;refine ⟨_,rfl,?_⟩;have HO173:=amk (Kd.R_lower ho0 (below_size bB));replace BK170:=kb2 BK170 hb;replace HB:=hB2 HB hb;(try clear hb);(try clear ho0);obtain ⟨Ao14,co14,eo14⟩:=Kd.R_slice HO173.out;subst eo14))
      go_loopg [9,27] k (fun kq v9 v27 w'=> ∃ (x9_1:Int) (x27_1:Int),v9 = .int .i64 x9_1∧v27 = .int .i64 x27_1∧Aside0 (spec_pzValue.l0 kq x9_1 t171 (t171.length:Int) x27_1=some r)∧Aside0 (kq≤k)∧Aside0 (Kd.R (Kd.int .i64) 3 w' w.heap.size (fun _=>True) (.slice Ao14 t171.length co14) t171)∧Aside0 (w'.heap[gb170]?=some (.cells #[.int .i64 a0_0, .int .i64 a0_1] 25 (0,0)))∧Aside0 (Below w.heap.size w w'))
      case atStart=>exact ⟨(0),(0),rS_,rS_,H',⟨Nat.le_refl _⟩,⟨oX HO173⟩,⟨kB BK170⟩,⟨bB⟩⟩
      case round =>
        clear H';(try clear c1);(try clear p2);(try clear c5);(try clear c5b0);(try clear c5b1);(try clear c6);(try clear c6b0);(try clear c7);(try clear c7b0);(try clear c8);(try clear p8);(try clear q8);(try clear hx8);(try clear c9);(try clear c10);(try clear c10b0);(try clear c10b1);(try clear p8);(try clear q8);obtain ⟨x9_1,x27_1,rfl,rfl,HA,HK1,HO_25,BK170,HB⟩:=hrel
        cases gk with
        | zero=>exact absurd HA.out (by simp [spec_pzValue.l0])
        | succ k1 =>
          have H:=HA.out;clear HA;simp only [spec_pzValue.l0] at H;replace H:=iteE H;obtain ⟨c15b0,H⟩ | ⟨c15b0,H⟩:=H
          · replace H:=iteN H;obtain ⟨c16b0,H⟩:=H;replace H:=iteN H;obtain ⟨c17b0,H⟩:=H;have H':=amk H;clear H;have p174:0≤(x27_1:Int):=dA_;have q174:x27_1 < (t171.length:Int):=dA_;obtain ⟨ad174,e174,hx174_0⟩:=Kd.at_int (Kd.R_reads' HO_25.out).2.2 x27_1 p174 q174;cases e174;replace p174:=eq_true p174;replace q174:=eq_true q174;go_wp2;go_roundg k1
            case measure=>have:=HK1.out;omega
            case rel=>exact ⟨(wrap64 (x9_1 + (rd t171 x27_1))),(wrap64 (x27_1 + 1)),rS_,rS_,H',⟨by have:=HK1.out;omega⟩,⟨oX HO_25⟩,⟨kB BK170⟩,⟨bB⟩⟩
          · obtain rfl:=Option.some.inj H;go_wp2;go_ret;exact ⟨rF_,bB⟩
    · rw [if_neg c10] at H;have c10b0:(a1 == 1)=false:=beq_eq_false_iff_ne.mpr c10;have c10b1:(a1 != 1)=true:=bne_iff_ne.mpr c10
      by_cases c18:a1=2
      · rw [if_pos c18] at H;have c18b0:(a1 == 2)=true:=beq_iff_eq.mpr c18;have c18b1:(a1 != 2)=false:=bne_eq_false_iff_eq.mpr c18;clear c18;replace H:=bE H;obtain ⟨t175,A19,H⟩:=H;replace H:=bE H;obtain ⟨⟨t176,t177⟩,A20,H⟩:=H;(try dsimp only at H);obtain rfl:=Option.some.inj H;go_enter Try.func83,Try.ntmps83;go_wp2_with (first | ((with_reducible refine gate_dst (N:=4) rfl ?_);refine boxE_ HB 4 #[.int .i64 a0_0, .int .i64 a0_1] 25 ?_;clear HB;intro gb170 w21 HB BK170 GW170 GE170 hb;clear hb;obtain ⟨hcz22_0,hcz22_1,hfz22_0,hfz22_1⟩:=cells2 BK170.out) | (refine gc_ 76 41 Try.func76 #[.agg #[.int .i64 a0_0, .int .i64 a0_1], .int .i64 a2] ?_;(with_reducible refine (spec_whOf.calls k a0_0 a0_1 a2 t175 _ A19.out).mono ?_);rintro e w23 ⟨rfl,hb⟩;refine ⟨_,rfl,?_⟩;replace BK170:=kb2 BK170 hb;replace HB:=hB2 HB hb;(try clear hb)) | (refine gc_ 95 43 Try.func95 #[.string t175, .string a3] ?_;(with_reducible refine (spec_hiOf.calls t175 a3 t176 t177 _ A20.out).mono ?_);rintro e w24 ⟨rfl,hb⟩;refine ⟨_,rfl,?_⟩;replace BK170:=kb2 BK170 hb;replace HB:=hB2 HB hb;(try clear hb)));go_ret;exact ⟨rF_,bB⟩
      · rw [if_neg c18] at H;have c18b0:(a1 == 2)=false:=beq_eq_false_iff_ne.mpr c18;have c18b1:(a1 != 2)=true:=bne_iff_ne.mpr c18
        by_cases c25:a1=3
        · rw [if_pos c25] at H;have c25b0:(a1 == 3)=true:=beq_iff_eq.mpr c25;have c25b1:(a1 != 3)=false:=bne_eq_false_iff_eq.mpr c25;clear c25;replace H:=bE H;obtain ⟨t178,A26,H⟩:=H;replace H:=bE H;obtain ⟨t179,A27,H⟩:=H;obtain rfl:=Option.some.inj H;go_enter Try.func83,Try.ntmps83;(try go_wp2_with (first | ((with_reducible refine gate_dst (N:=4) rfl ?_);refine boxE_ HB 4 #[.int .i64 a0_0, .int .i64 a0_1] 25 ?_;clear HB;intro gb170 w28 HB BK170 GW170 GE170 hb;clear hb)));replace BK170:=amk (blk_drew BK170.out);replace HB:=amk (bd_ HB.out);refine start_ (n:=7) (S:=fun w'=>w'.cell? ⟨gb170,0,none⟩=some (.int .i64 a0_0)∧w'.cell? ⟨gb170,1,none⟩=some (.int .i64 a0_1)) (ds:=[]) (bA 7 0) (by kernel_rfl) rfl rfl ⟨(blk_cell BK170.out 0).trans rfl,(blk_cell BK170.out 1).trans rfl⟩ (fun hHeld=>?_);generalize w28.drew=w29 at BK170 HB hHeld ⊢;refine pure_ (i:=2) (N:=some 51) (v:=?_) (a':=?_) #[false,false,true,false,false,false,false] rfl rfl (by kernel_rfl) (fun _ _ _ h=>h) (Or.inl ⟨by rfl,?_⟩) ?_ ?_;rotate_left
          · intro w'
            go_simp
            (with_reducible rfl)
          rotate_left
          · simp only [Act.put,List.setIfInBounds_toArray,List.set_cons_zero,List.set_cons_succ,i64_w,i32_w]
            rfl
          refine pure_ (i:=4) (N:=some 53) (v:=?_) (a':=?_) #[false,false,true,false,true,false,false] rfl rfl (by kernel_rfl) (fun _ _ _ h=>h) (Or.inl ⟨by rfl,?_⟩) ?_ ?_;rotate_left
          · intro w'
            go_simp
            (with_reducible rfl)
          rotate_left
          · simp only [Act.put,List.setIfInBounds_toArray,List.set_cons_zero,List.set_cons_succ,i64_w,i32_w]
            rfl
          refine take_ (i:=0) (N:=some 49) (v:=?_) (a':=?_) #[true,false,true,false,true,false,false] rfl rfl (by kernel_rfl) (fun _ _ _ h=>h) (Or.inl ⟨by rfl,?_⟩) hHeld ?_ ?_;rotate_left
          · rintro w' ⟨s0,s1⟩
            go_simp
            (with_reducible rfl)
          rotate_left
          · simp only [Act.put,List.setIfInBounds_toArray,List.set_cons_zero,List.set_cons_succ,i64_w,i32_w]
            rfl
          refine take_ (i:=1) (N:=some 50) (v:=?_) (a':=?_) #[true,true,true,false,true,false,false] rfl rfl (by kernel_rfl) (fun _ _ _ h=>h) (Or.inl ⟨by rfl,?_⟩) hHeld ?_ ?_;rotate_left
          · rintro w' ⟨s0,s1⟩
            go_simp
            (with_reducible rfl)
          rotate_left
          · simp only [Act.put,List.setIfInBounds_toArray,List.set_cons_zero,List.set_cons_succ,i64_w,i32_w]
            rfl
          refine one_ (i:=3) (N:=some 52) #[true,true,true,true,true,false,false] rfl rfl (by kernel_rfl) (by decide) (fun K hK=>?_);refine gs_ Try.func76 #[.agg #[.int .i64 a0_0, .int .i64 a0_1], .int .i64 a2] ?_;(with_reducible refine (spec_whOf.calls k a0_0 a0_1 a2 t178 _ A26.out).mono ?_);rintro e w30 ⟨rfl,hb⟩;refine ⟨_,rfl,?_⟩;replace BK170:=kb2 BK170 hb;replace HB:=hB2 HB hb;(try clear hb);refine hK.out _ _ hC_ (fun hHeld=>?_);clear hK K;refine nN_ (some 52) ?_;refine one_ (i:=5) (N:=some 54) #[true,true,true,true,true,true,false] rfl rfl (by kernel_rfl) (by decide) (fun K hK=>?_);refine gs_ Try.func96 #[.agg #[.int .i64 a0_0, .int .i64 a0_1], .string t178, .string a3] ?_;(with_reducible refine (spec_whDistance.calls k a0_0 a0_1 t178 a3 t179 _ A27.out).mono ?_);rintro e w31 ⟨rfl,hb⟩;refine ⟨_,rfl,?_⟩;replace BK170:=kb2 BK170 hb;replace HB:=hB2 HB hb;(try clear hb);refine hK.out _ _ hC_ (fun hHeld=>?_);clear hK K;refine nN_ (some 54) ?_;refine pure_ (i:=6) (N:=some 8) (v:=?_) (a':=?_) #[true,true,true,true,true,true,true] rfl rfl (by kernel_rfl) (fun _ _ _ h=>h) (Or.inl ⟨by rfl,?_⟩) ?_ ?_;rotate_left
          · intro w'
            go_simp
            (with_reducible rfl)
          rotate_left
          · simp only [Act.put,List.setIfInBounds_toArray,List.set_cons_zero,List.set_cons_succ,i64_w,i32_w]
            rfl
          refine done_ (by kernel_rfl) ?_;(try go_wp2);go_ret;exact ⟨rF_,bB⟩
        · rw [if_neg c25] at H;have c25b0:(a1 == 3)=false:=beq_eq_false_iff_ne.mpr c25;have c25b1:(a1 != 3)=true:=bne_iff_ne.mpr c25;replace H:=bE H;obtain ⟨t180,A32,H⟩:=H
          by_cases c33:a2=0
          · rw [if_pos c33] at H;exact absurd H (by simp)
          · rw [if_neg c33] at H;have c33b0:(a2 == 0)=false:=beq_eq_false_iff_ne.mpr c33;have c33b1:(a2 != 0)=true:=bne_iff_ne.mpr c33;obtain rfl:=Option.some.inj H;go_enter Try.func83,Try.ntmps83;go_wp2_with (first | ((with_reducible refine gate_dst (N:=4) rfl ?_);refine boxE_ HB 4 #[.int .i64 a0_0, .int .i64 a0_1] 25 ?_;clear HB;intro gb170 w34 HB BK170 GW170 GE170 hb;clear hb;obtain ⟨hcz35_0,hcz35_1,hfz35_0,hfz35_1⟩:=cells2 BK170.out) | (refine gc_ 97 57 Try.func97 #[.agg #[.int .i64 a0_0, .int .i64 a0_1], .string a3] ?_;(with_reducible refine (spec_whNumber.calls k a0_0 a0_1 a3 t180 _ A32.out).mono ?_);rintro e w36 ⟨rfl,hb⟩;refine ⟨_,rfl,?_⟩;replace BK170:=kb2 BK170 hb;replace HB:=hB2 HB hb;(try clear hb)));go_ret;exact ⟨rF_,bB⟩
/-! ### spec_pzFits: function 70 -/
def spec_pzFits.f (k:Nat) (a0_0:Int) (a0_1:Int) (a1_0:Int) (a1_1:Int) (a1_2:Int) (a2:ByteArray):Option (Bool):=if a1_0=1 then ((spec_pzValue.f k a0_0 a0_1 1 0 a2).bind fun t183=>(some (t183 == a1_1))) else ((spec_pzValue.f k a0_0 a0_1 a1_0 a1_1 a2).bind fun t184=>(some (t184 == a1_2)))
def spec_pzFits.T3:Bool×List (List Nat×List Nat):=(true,[([],[]),([],[]),([1],[1]),([],[]),([3],[3]),([],[]),([0,2,4,5],[0,2,4,5]),([],[]),([7],[7]),([6,8],[6,8]),([9,6,0,1,2,3,4,5,6,7,8,9],[9])])
def spec_pzFits.B3:List Nat:=[0,0,2,0,8,0,63,0,128,511,1023]
theorem spec_pzFits.tab3:rtab .any (opsOf Try.f70 3)=spec_pzFits.T3:=by kernel_rfl
theorem spec_pzFits.bits3:waitsOk spec_pzFits.T3.2 spec_pzFits.B3=true:=by kernel_rfl
set_option maxHeartbeats 8000000 in
set_option maxRecDepth 100000 in
theorem spec_pzFits.calls (k:Nat) (a0_0:Int) (a0_1:Int) (a1_0:Int) (a1_1:Int) (a1_2:Int) (a2:ByteArray) (r:Bool) (w:World) (h:spec_pzFits.f k a0_0 a0_1 a1_0 a1_1 a1_2 a2=some r) :
    Calls Try.prog 70 #[.agg #[.int .i64 a0_0, .int .i64 a0_1], .agg #[.int .i64 a1_0, .int .i64 a1_1, .int .i64 a1_2], .string a2] w fun e w'=>e = .returned (.bool r)∧Below w.heap.size w w':=by
  have hu25:=Try.underlying25;have hu44:=Try.underlying44;have HB:=amk (Below.refl w.heap.size w);unfold spec_pzFits.f at h;have H:=h;clear h
  by_cases c4:a1_0=1
  · rw [if_pos c4] at H;have c4b0:(a1_0 == 1)=true:=beq_iff_eq.mpr c4;have c4b1:(a1_0 != 1)=false:=bne_eq_false_iff_eq.mpr c4;clear c4;replace H:=bE H;obtain ⟨t183,A5,H⟩:=H;obtain rfl:=Option.some.inj H;go_enter Try.func70,Try.ntmps70;(try go_wp2_with (first | ((with_reducible refine gate_dst (N:=3) rfl ?_);refine boxE_ HB 3 #[.int .i64 a0_0, .int .i64 a0_1] 25 ?_;clear HB;intro gb181 w6 HB BK181 GW181 GE181 hb;clear hb) | ((with_reducible refine gate_dst (N:=4) rfl ?_);refine boxG_ 4 #[.int .i64 a1_0, .int .i64 a1_1, .int .i64 a1_2] 44 ?_;intro gb182 w7 hg BK182 hb;have GW182:=sZ HB hg;have GE182:=sZ HB hg;replace HB:=hB2 HB hb;have NB181_182:=neL BK181 hg;have NB182_181:=neR BK181 hg;replace BK181:=kb2 BK181 hb;clear hb hg;have hnb8:=NB182_181.out;have hnc8:=NB181_182.out;obtain ⟨hcz9_0,hcz9_1,hcz9_2,hfz9_0,hfz9_1,hfz9_2⟩:=cells3 BK182.out)));replace BK181:=amk (blk_drew BK181.out);replace BK182:=amk (blk_drew BK182.out);replace HB:=amk (bd_ HB.out);refine start_ (n:=7) (S:=fun w'=>w'.cell? ⟨gb181,0,none⟩=some (.int .i64 a0_0)∧w'.cell? ⟨gb181,1,none⟩=some (.int .i64 a0_1)∧w'.cell? ⟨gb182,0,none⟩=some (.int .i64 a1_0)∧w'.cell? ⟨gb182,1,none⟩=some (.int .i64 a1_1)∧w'.cell? ⟨gb182,2,none⟩=some (.int .i64 a1_2)) (ds:=[]) (bA 7 0) (by kernel_rfl) rfl rfl ⟨(blk_cell BK181.out 0).trans rfl,(blk_cell BK181.out 1).trans rfl,(blk_cell BK182.out 0).trans rfl,(blk_cell BK182.out 1).trans rfl,(blk_cell BK182.out 2).trans rfl⟩ (fun hHeld=>?_);generalize w7.drew=w10 at BK181 BK182 HB hHeld ⊢;refine pure_ (i:=1) (N:=some 11) (v:=?_) (a':=?_) #[false,true,false,false,false,false,false] rfl rfl (by kernel_rfl) (fun _ _ _ h=>h) (Or.inl ⟨by rfl,?_⟩) ?_ ?_;rotate_left
    · intro w'
      go_simp
      (with_reducible rfl)
    rotate_left
    · simp only [Act.put,List.setIfInBounds_toArray,List.set_cons_zero,List.set_cons_succ,i64_w,i32_w]
      rfl
    refine pure_ (i:=3) (N:=some 13) (v:=?_) (a':=?_) #[false,true,false,true,false,false,false] rfl rfl (by kernel_rfl) (fun _ _ _ h=>h) (Or.inl ⟨by rfl,?_⟩) ?_ ?_;rotate_left
    · intro w'
      go_simp
      (with_reducible rfl)
    rotate_left
    · simp only [Act.put,List.setIfInBounds_toArray,List.set_cons_zero,List.set_cons_succ,i64_w,i32_w]
      rfl
    refine take_ (i:=0) (N:=some 10) (v:=?_) (a':=?_) #[true,true,false,true,false,false,false] rfl rfl (by kernel_rfl) (fun _ _ _ h=>h) (Or.inl ⟨by rfl,?_⟩) hHeld ?_ ?_;rotate_left
    · rintro w' ⟨s0,s1,s2,s3,s4⟩
      go_simp
      (with_reducible rfl)
    rotate_left
    · simp only [Act.put,List.setIfInBounds_toArray,List.set_cons_zero,List.set_cons_succ,i64_w,i32_w]
      rfl
    refine take_ (i:=4) (N:=some 14) (v:=?_) (a':=?_) #[true,true,false,true,true,false,false] rfl rfl (by kernel_rfl) (fun _ _ _ h=>h) (Or.inl ⟨by rfl,?_⟩) hHeld ?_ ?_;rotate_left
    · rintro w' ⟨s0,s1,s2,s3,s4⟩
      go_simp
      (with_reducible rfl)
    rotate_left
    · simp only [Act.put,List.setIfInBounds_toArray,List.set_cons_zero,List.set_cons_succ,i64_w,i32_w]
      rfl
    refine one_ (i:=2) (N:=some 12) #[true,true,true,true,true,false,false] rfl rfl (by kernel_rfl) (by decide) (fun K hK=>?_);refine gs_ Try.func83 #[.agg #[.int .i64 a0_0, .int .i64 a0_1], .int .i64 1, .int .i64 0, .string a2] ?_;(with_reducible refine (spec_pzValue.calls k a0_0 a0_1 1 0 a2 t183 _ A5.out).mono ?_);rintro e w11 ⟨rfl,hb⟩;refine ⟨_,rfl,?_⟩;replace BK181:=kb2 BK181 hb;replace BK182:=kb2 BK182 hb;replace HB:=hB2 HB hb;(try clear hb);refine hK.out _ _ hC_ (fun hHeld=>?_);clear hK K;refine nN_ (some 12) ?_;refine pure_ (i:=5) (N:=some 15) (v:=?_) (a':=?_) #[true,true,true,true,true,true,false] rfl rfl (by kernel_rfl) (fun _ _ _ h=>h) (Or.inl ⟨by rfl,?_⟩) ?_ ?_;rotate_left
    · intro w'
      go_simp
      (with_reducible rfl)
    rotate_left
    · simp only [Act.put,List.setIfInBounds_toArray,List.set_cons_zero,List.set_cons_succ,i64_w,i32_w]
      rfl
    refine pure_ (i:=6) (N:=some 6) (v:=?_) (a':=?_) #[true,true,true,true,true,true,true] rfl rfl (by kernel_rfl) (fun _ _ _ h=>h) (Or.inl ⟨by rfl,?_⟩) ?_ ?_;rotate_left
    · intro w'
      go_simp
      (with_reducible rfl)
    rotate_left
    · simp only [Act.put,List.setIfInBounds_toArray,List.set_cons_zero,List.set_cons_succ,i64_w,i32_w]
      rfl
    refine done_ (by kernel_rfl) ?_;(try go_wp2);go_ret;exact ⟨rF_,bB⟩
  · rw [if_neg c4] at H;have c4b0:(a1_0 == 1)=false:=beq_eq_false_iff_ne.mpr c4;have c4b1:(a1_0 != 1)=true:=bne_iff_ne.mpr c4;replace H:=bE H;obtain ⟨t184,A12,H⟩:=H;obtain rfl:=Option.some.inj H;go_enter Try.func70,Try.ntmps70;(try go_wp2_with (first | ((with_reducible refine gate_dst (N:=3) rfl ?_);refine boxE_ HB 3 #[.int .i64 a0_0, .int .i64 a0_1] 25 ?_;clear HB;intro gb181 w13 HB BK181 GW181 GE181 hb;clear hb) | ((with_reducible refine gate_dst (N:=4) rfl ?_);refine boxG_ 4 #[.int .i64 a1_0, .int .i64 a1_1, .int .i64 a1_2] 44 ?_;intro gb182 w14 hg BK182 hb;have GW182:=sZ HB hg;have GE182:=sZ HB hg;replace HB:=hB2 HB hb;have NB181_182:=neL BK181 hg;have NB182_181:=neR BK181 hg;replace BK181:=kb2 BK181 hb;clear hb hg;have hnb15:=NB182_181.out;have hnc15:=NB181_182.out;obtain ⟨hcz16_0,hcz16_1,hcz16_2,hfz16_0,hfz16_1,hfz16_2⟩:=cells3 BK182.out)));replace BK181:=amk (blk_drew BK181.out);replace BK182:=amk (blk_drew BK182.out);replace HB:=amk (bd_ HB.out);refine start_ (n:=11) (S:=fun w'=>w'.cell? ⟨gb181,0,none⟩=some (.int .i64 a0_0)∧w'.cell? ⟨gb181,1,none⟩=some (.int .i64 a0_1)∧w'.cell? ⟨gb182,0,none⟩=some (.int .i64 a1_0)∧w'.cell? ⟨gb182,1,none⟩=some (.int .i64 a1_1)∧w'.cell? ⟨gb182,2,none⟩=some (.int .i64 a1_2)) (ds:=[]) (bA 11 0) (by kernel_rfl) rfl rfl ⟨(blk_cell BK181.out 0).trans rfl,(blk_cell BK181.out 1).trans rfl,(blk_cell BK182.out 0).trans rfl,(blk_cell BK182.out 1).trans rfl,(blk_cell BK182.out 2).trans rfl⟩ (fun hHeld=>?_);refine with_tabW spec_pzFits.tab3 spec_pzFits.bits3 (fun HT_ HW_=>?_);generalize w14.drew=w17 at BK181 BK182 HB hHeld ⊢;refine pU_ HT_ 1 (some 17) (bA 11 2) ?_;refine pU_ HT_ 3 (some 19) (bA 11 10) ?_;refine pU_ HT_ 5 (some 21) (bA 11 42) ?_;refine pU_ HT_ 7 (some 23) (bA 11 170) ?_;refine tK_ HT_ HW_ hHeld 0 (some 16) (bA 11 171) ?_;refine tK_ HT_ HW_ hHeld 2 (some 18) (bA 11 175) ?_;refine tK_ HT_ HW_ hHeld 4 (some 20) (bA 11 191) ?_;refine tK_ HT_ HW_ hHeld 8 (some 24) (bA 11 447) ?_;refine oN_ HT_ 6 (some 22) (bA 11 511) (fun K hK=>?_);refine gs_ Try.func83 #[.agg #[.int .i64 a0_0, .int .i64 a0_1], .int .i64 a1_0, .int .i64 a1_1, .string a2] ?_;(with_reducible refine (spec_pzValue.calls k a0_0 a0_1 a1_0 a1_1 a2 t184 _ A12.out).mono ?_);rintro e w18 ⟨rfl,hb⟩;refine ⟨_,rfl,?_⟩;replace BK181:=kb2 BK181 hb;replace BK182:=kb2 BK182 hb;replace HB:=hB2 HB hb;(try clear hb);refine hK.out _ _ hC_ (fun hHeld=>?_);clear hK K;refine nN_ (some 22) ?_;refine pU_ HT_ 9 (some 25) (bA 11 1023) ?_;refine pU_ HT_ 10 (some 6) (bA 11 2047) ?_;refine done_ (done_of HT_.out (by kernel_rfl)) ?_;(try go_wp2);go_ret;exact ⟨rF_,bB⟩
/-! ### spec_whCode: function 47 -/
def spec_whCode.l0:Nat→ByteArray→Int→Int→Int→Option (Bool)
  | 0,_,_,_,_=>none
  | k + 1,x1,x5,x387000,x387001=>if x5 < (x1.size:Int) then (if 0≤x5 then ((spec_l1In.f (wrap64 ((wrap64 (bt x1 x5)) - 48)) 0 (wrap64 (x387001 - 1))).bind fun t387=>(if t387=true then (spec_whCode.l0 k x1 (wrap64 (x5 + 1)) x387000 x387001) else (some false))) else (none)) else (some true)
def spec_whCode.f (k:Nat) (a0_0:Int) (a0_1:Int) (a1:ByteArray):Option (Bool):=if (a1.size:Int)=a0_0 then (spec_whCode.l0 k a1 0 a0_0 a0_1) else (some false)
set_option maxHeartbeats 8000000 in
set_option maxRecDepth 100000 in
theorem spec_whCode.calls (k:Nat) (a0_0:Int) (a0_1:Int) (a1:ByteArray) (r:Bool) (w:World) (h:spec_whCode.f k a0_0 a0_1 a1=some r) :
    Calls Try.prog 47 #[.agg #[.int .i64 a0_0, .int .i64 a0_1], .string a1] w fun e w'=>e = .returned (.bool r)∧Below w.heap.size w w':=by
  have hu25:=Try.underlying25;have HB:=amk (Below.refl w.heap.size w);unfold spec_whCode.f at h;have H:=h;clear h
  by_cases c3:(a1.size:Int)=a0_0
  · rw [if_pos c3] at H;have c3b0:((a1.size:Int) == a0_0)=true:=beq_iff_eq.mpr c3;have c3b1:((a1.size:Int) != a0_0)=false:=bne_eq_false_iff_eq.mpr c3;clear c3;have H':=amk H;clear H;go_enter Try.func47,Try.ntmps47;go_wp2_with (first | ((with_reducible refine gate_dst (N:=2) rfl ?_);refine boxE_ HB 2 #[.int .i64 a0_0, .int .i64 a0_1] 25 ?_;clear HB;intro gb386 w4 HB BK386 GW386 GE386 hb;clear hb;obtain ⟨hcz5_0,hcz5_1,hfz5_0,hfz5_1⟩:=cells2 BK386.out))
    repeat (go_quiet (first | ((with_reducible refine gate_dst (N:=2) rfl ?_);refine boxE_ HB 2 #[.int .i64 a0_0, .int .i64 a0_1] 25 ?_;clear HB;intro gb386 w4 HB BK386 GW386 GE386 hb;clear hb;obtain ⟨hcz5_0,hcz5_1,hfz5_0,hfz5_1⟩:=cells2 BK386.out));try go_wp2_with (first | ((with_reducible refine gate_dst (N:=2) rfl ?_);refine boxE_ HB 2 #[.int .i64 a0_0, .int .i64 a0_1] 25 ?_;clear HB;intro gb386 w4 HB BK386 GW386 GE386 hb;clear hb;obtain ⟨hcz5_0,hcz5_1,hfz5_0,hfz5_1⟩:=cells2 BK386.out)))
    go_loopg [5] k (fun kq v5 w'=> ∃ (x5_1:Int),v5 = .int .i64 x5_1∧Aside0 (spec_whCode.l0 kq a1 x5_1 a0_0 a0_1=some r)∧Aside0 (kq≤k)∧Aside0 (w'.heap[gb386]?=some (.cells #[.int .i64 a0_0, .int .i64 a0_1] 25 (0,0)))∧Aside0 (Below w.heap.size w w'))
    case atStart=>exact ⟨(0),rS_,H',⟨Nat.le_refl _⟩,⟨kB BK386⟩,⟨bB⟩⟩
    case round =>
      clear H';(try clear p2);(try clear c3);(try clear c3b0);(try clear c3b1);(try clear c4);(try clear hcz5_0);(try clear hcz5_1);(try clear hfz5_0);(try clear hfz5_1);obtain ⟨x5_1,rfl,HA,HK1,BK386,HB⟩:=hrel
      cases gk with
      | zero=>exact absurd HA.out (by simp [spec_whCode.l0])
      | succ k1 =>
        have H:=HA.out;clear HA;simp only [spec_whCode.l0] at H;replace H:=iteE H;obtain ⟨c6b0,H⟩ | ⟨c6b0,H⟩:=H
        · replace H:=iteN H;obtain ⟨c7b0,H⟩:=H;replace H:=bE H;obtain ⟨t387,A9,H⟩:=H;replace H:=iteB H;obtain ⟨rfl,H⟩ | ⟨rfl,H⟩:=H
          · have H':=amk H;clear H;have p8:0≤(x5_1:Int):=dA_;have q8:x5_1 < (a1.size:Int):=dA_;have hx8:=bt_at a1 x5_1;replace p8:=eq_true p8;replace q8:=eq_true q8;obtain ⟨hcz11_0,hcz11_1,hfz11_0,hfz11_1⟩:=cells2 BK386.out;go_wp2_with (first | (go_at_call 48;(with_reducible refine (spec_l1In.calls (wrap64 ((wrap64 (bt a1 x5_1)) - 48)) 0 (wrap64 (a0_1 - 1)) true _ A9.out).mono ?_);rintro e w' ⟨rfl,⟨nd,rfl⟩⟩;(try exact dN_)))
            repeat (go_quiet (first | (go_at_call 48;(with_reducible refine (spec_l1In.calls (wrap64 ((wrap64 (bt a1 x5_1)) - 48)) 0 (wrap64 (a0_1 - 1)) true _ A9.out).mono ?_);rintro e w' ⟨rfl,⟨nd,rfl⟩⟩;(try exact dN_)));try go_wp2_with (first | (go_at_call 48;(with_reducible refine (spec_l1In.calls (wrap64 ((wrap64 (bt a1 x5_1)) - 48)) 0 (wrap64 (a0_1 - 1)) true _ A9.out).mono ?_);rintro e w' ⟨rfl,⟨nd,rfl⟩⟩;(try exact dN_))))
            go_roundg k1
            case measure=>have:=HK1.out;omega
            case rel=>exact ⟨(wrap64 (x5_1 + 1)),rS_,H',⟨by have:=HK1.out;omega⟩,⟨kB BK386⟩,⟨bB⟩⟩
          · obtain rfl:=Option.some.inj H;have p8:0≤(x5_1:Int):=dA_;have q8:x5_1 < (a1.size:Int):=dA_;have hx8:=bt_at a1 x5_1;replace p8:=eq_true p8;replace q8:=eq_true q8;obtain ⟨hcz12_0,hcz12_1,hfz12_0,hfz12_1⟩:=cells2 BK386.out;go_wp2_with (first | (go_at_call 48;(with_reducible refine (spec_l1In.calls (wrap64 ((wrap64 (bt a1 x5_1)) - 48)) 0 (wrap64 (a0_1 - 1)) false _ A9.out).mono ?_);rintro e w' ⟨rfl,⟨nd,rfl⟩⟩;(try exact dN_)))
            repeat (go_quiet (first | (go_at_call 48;(with_reducible refine (spec_l1In.calls (wrap64 ((wrap64 (bt a1 x5_1)) - 48)) 0 (wrap64 (a0_1 - 1)) false _ A9.out).mono ?_);rintro e w' ⟨rfl,⟨nd,rfl⟩⟩;(try exact dN_)));try go_wp2_with (first | (go_at_call 48;(with_reducible refine (spec_l1In.calls (wrap64 ((wrap64 (bt a1 x5_1)) - 48)) 0 (wrap64 (a0_1 - 1)) false _ A9.out).mono ?_);rintro e w' ⟨rfl,⟨nd,rfl⟩⟩;(try exact dN_))))
            go_ret;exact ⟨rF_,bB⟩
        · obtain rfl:=Option.some.inj H;go_wp2
          repeat (go_quiet (fail);try go_wp2)
          go_ret;exact ⟨rF_,bB⟩
  · rw [if_neg c3] at H;have c3b0:((a1.size:Int) == a0_0)=false:=beq_eq_false_iff_ne.mpr c3;have c3b1:((a1.size:Int) != a0_0)=true:=bne_iff_ne.mpr c3;obtain rfl:=Option.some.inj H;go_enter Try.func47,Try.ntmps47;go_wp2_with (first | ((with_reducible refine gate_dst (N:=2) rfl ?_);refine boxE_ HB 2 #[.int .i64 a0_0, .int .i64 a0_1] 25 ?_;clear HB;intro gb386 w13 HB BK386 GW386 GE386 hb;clear hb;obtain ⟨hcz14_0,hcz14_1,hfz14_0,hfz14_1⟩:=cells2 BK386.out))
    repeat (go_quiet (first | ((with_reducible refine gate_dst (N:=2) rfl ?_);refine boxE_ HB 2 #[.int .i64 a0_0, .int .i64 a0_1] 25 ?_;clear HB;intro gb386 w13 HB BK386 GW386 GE386 hb;clear hb;obtain ⟨hcz14_0,hcz14_1,hfz14_0,hfz14_1⟩:=cells2 BK386.out));try go_wp2_with (first | ((with_reducible refine gate_dst (N:=2) rfl ?_);refine boxE_ HB 2 #[.int .i64 a0_0, .int .i64 a0_1] 25 ?_;clear HB;intro gb386 w13 HB BK386 GW386 GE386 hb;clear hb;obtain ⟨hcz14_0,hcz14_1,hfz14_0,hfz14_1⟩:=cells2 BK386.out)))
    go_ret;exact ⟨rF_,bB⟩
/-! ### spec_DoesFit: function 30 -/
def spec_DoesFit.f (k:Nat) (a0_0:Int) (a0_1:Int) (a1_0:Int) (a1_1:Int) (a1_2:Int) (a2:ByteArray):Option (Bool×Bool):=(spec_pzLock.f k a0_0 a0_1).bind fun t764=>(if t764=true then ((spec_whCode.f k a0_0 a0_1 a2).bind fun t765=>(if t765=true then ((spec_pzClue.f k a0_0 a0_1 a1_0 a1_1 a1_2).bind fun t766=>(if t766=true then ((spec_pzFits.f k a0_0 a0_1 a1_0 a1_1 a1_2 a2).bind fun t767=>(some (t767,true))) else (some (false,false)))) else (some (false,false)))) else (some (false,false)))
set_option maxHeartbeats 8000000 in
set_option maxRecDepth 100000 in
theorem spec_DoesFit.calls (k:Nat) (a0_0:Int) (a0_1:Int) (a1_0:Int) (a1_1:Int) (a1_2:Int) (a2:ByteArray) (r1:Bool) (r2:Bool) (w:World) (h:spec_DoesFit.f k a0_0 a0_1 a1_0 a1_1 a1_2 a2=some (r1,r2)) :
    Calls Try.prog 30 #[.agg #[.int .i64 a0_0, .int .i64 a0_1], .agg #[.int .i64 a1_0, .int .i64 a1_1, .int .i64 a1_2], .string a2] w fun e w'=>e = .returned (.tuple #[.bool r1, .bool r2])∧Below w.heap.size w w':=by
  have hu25:=Try.underlying25;have hu44:=Try.underlying44;have HB:=amk (Below.refl w.heap.size w);unfold spec_DoesFit.f at h;have H:=h;clear h;replace H:=bE H;obtain ⟨t764,A4,H⟩:=H;replace H:=iteB H;obtain ⟨rfl,H⟩ | ⟨rfl,H⟩:=H
  · replace H:=bE H;obtain ⟨t765,A6,H⟩:=H;replace H:=iteB H;obtain ⟨rfl,H⟩ | ⟨rfl,H⟩:=H
    · replace H:=bE H;obtain ⟨t766,A8,H⟩:=H;replace H:=iteB H;obtain ⟨rfl,H⟩ | ⟨rfl,H⟩:=H
      · replace H:=bE H;obtain ⟨t767,A10,H⟩:=H;simp only [Option.some.injEq,Prod.mk.injEq] at H;obtain ⟨rfl,rfl⟩:=H;go_enter Try.func30,Try.ntmps30;go_wp2_with (first | ((with_reducible refine gate_dst (N:=3) rfl ?_);refine boxE_ HB 3 #[.int .i64 a0_0, .int .i64 a0_1] 25 ?_;clear HB;intro gb762 w11 HB BK762 GW762 GE762 hb;clear hb) | ((with_reducible refine gate_dst (N:=4) rfl ?_);refine boxG_ 4 #[.int .i64 a1_0, .int .i64 a1_1, .int .i64 a1_2] 44 ?_;intro gb763 w12 hg BK763 hb;have GW763:=sZ HB hg;have GE763:=sZ HB hg;replace HB:=hB2 HB hb;have NB762_763:=neL BK762 hg;have NB763_762:=neR BK762 hg;replace BK762:=kb2 BK762 hb;clear hb hg;have hnb13:=NB762_763.out;have hnc13:=NB763_762.out;obtain ⟨hcz14_0,hcz14_1,hfz14_0,hfz14_1⟩:=cells2 BK762.out) | (refine gc_ 46 9 Try.func46 #[.agg #[.int .i64 a0_0, .int .i64 a0_1]] ?_;(with_reducible refine (spec_pzLock.calls k a0_0 a0_1 true _ A4.out).mono ?_);rintro e w15 ⟨rfl,hb⟩;refine ⟨_,rfl,?_⟩;replace BK762:=kb2 BK762 hb;replace BK763:=kb2 BK763 hb;replace HB:=hB2 HB hb;(try clear hb);obtain ⟨hcz16_0,hcz16_1,hfz16_0,hfz16_1⟩:=cells2 BK762.out) | (go_at_call 47;(with_reducible refine (spec_whCode.calls k a0_0 a0_1 a2 true _ A6.out).mono ?_);rintro e w17 ⟨rfl,hb⟩;replace BK762:=kb2 BK762 hb;replace BK763:=kb2 BK763 hb;replace HB:=hB2 HB hb;(try clear hb);obtain ⟨hcz18_0,hcz18_1,hfz18_0,hfz18_1⟩:=cells2 BK762.out;obtain ⟨hcz19_0,hcz19_1,hcz19_2,hfz19_0,hfz19_1,hfz19_2⟩:=cells3 BK763.out) | (go_at_call 69;(with_reducible refine (spec_pzClue.calls k a0_0 a0_1 a1_0 a1_1 a1_2 true _ A8.out).mono ?_);rintro e w20 ⟨rfl,hb⟩;replace BK762:=kb2 BK762 hb;replace BK763:=kb2 BK763 hb;replace HB:=hB2 HB hb;(try clear hb);obtain ⟨hcz21_0,hcz21_1,hfz21_0,hfz21_1⟩:=cells2 BK762.out;obtain ⟨hcz22_0,hcz22_1,hcz22_2,hfz22_0,hfz22_1,hfz22_2⟩:=cells3 BK763.out) | (refine gc_ 70 26 Try.func70 #[.agg #[.int .i64 a0_0, .int .i64 a0_1], .agg #[.int .i64 a1_0, .int .i64 a1_1, .int .i64 a1_2], .string a2] ?_;(with_reducible refine (spec_pzFits.calls k a0_0 a0_1 a1_0 a1_1 a1_2 a2 t767 _ A10.out).mono ?_);rintro e w23 ⟨rfl,hb⟩;refine ⟨_,rfl,?_⟩;replace BK762:=kb2 BK762 hb;replace BK763:=kb2 BK763 hb;replace HB:=hB2 HB hb;(try clear hb)));go_ret2;exact ⟨rF_,bB⟩
      · simp only [Option.some.injEq,Prod.mk.injEq] at H;obtain ⟨rfl,rfl⟩:=H;go_enter Try.func30,Try.ntmps30;go_wp2_with (first | ((with_reducible refine gate_dst (N:=3) rfl ?_);refine boxE_ HB 3 #[.int .i64 a0_0, .int .i64 a0_1] 25 ?_;clear HB;intro gb762 w24 HB BK762 GW762 GE762 hb;clear hb) | ((with_reducible refine gate_dst (N:=4) rfl ?_);refine boxG_ 4 #[.int .i64 a1_0, .int .i64 a1_1, .int .i64 a1_2] 44 ?_;intro gb763 w25 hg BK763 hb;have GW763:=sZ HB hg;have GE763:=sZ HB hg;replace HB:=hB2 HB hb;have NB762_763:=neL BK762 hg;have NB763_762:=neR BK762 hg;replace BK762:=kb2 BK762 hb;clear hb hg;have hnb26:=NB762_763.out;have hnc26:=NB763_762.out;obtain ⟨hcz27_0,hcz27_1,hfz27_0,hfz27_1⟩:=cells2 BK762.out) | (refine gc_ 46 9 Try.func46 #[.agg #[.int .i64 a0_0, .int .i64 a0_1]] ?_;(with_reducible refine (spec_pzLock.calls k a0_0 a0_1 true _ A4.out).mono ?_);rintro e w28 ⟨rfl,hb⟩;refine ⟨_,rfl,?_⟩;replace BK762:=kb2 BK762 hb;replace BK763:=kb2 BK763 hb;replace HB:=hB2 HB hb;(try clear hb);obtain ⟨hcz29_0,hcz29_1,hfz29_0,hfz29_1⟩:=cells2 BK762.out) | (go_at_call 47;(with_reducible refine (spec_whCode.calls k a0_0 a0_1 a2 true _ A6.out).mono ?_);rintro e w30 ⟨rfl,hb⟩;replace BK762:=kb2 BK762 hb;replace BK763:=kb2 BK763 hb;replace HB:=hB2 HB hb;(try clear hb);obtain ⟨hcz31_0,hcz31_1,hfz31_0,hfz31_1⟩:=cells2 BK762.out;obtain ⟨hcz32_0,hcz32_1,hcz32_2,hfz32_0,hfz32_1,hfz32_2⟩:=cells3 BK763.out) | (go_at_call 69;(with_reducible refine (spec_pzClue.calls k a0_0 a0_1 a1_0 a1_1 a1_2 false _ A8.out).mono ?_);rintro e w33 ⟨rfl,hb⟩;replace BK762:=kb2 BK762 hb;replace BK763:=kb2 BK763 hb;replace HB:=hB2 HB hb;(try clear hb)));go_ret2;exact ⟨rF_,bB⟩
    · simp only [Option.some.injEq,Prod.mk.injEq] at H;obtain ⟨rfl,rfl⟩:=H;go_enter Try.func30,Try.ntmps30;go_wp2_with (first | ((with_reducible refine gate_dst (N:=3) rfl ?_);refine boxE_ HB 3 #[.int .i64 a0_0, .int .i64 a0_1] 25 ?_;clear HB;intro gb762 w34 HB BK762 GW762 GE762 hb;clear hb) | ((with_reducible refine gate_dst (N:=4) rfl ?_);refine boxG_ 4 #[.int .i64 a1_0, .int .i64 a1_1, .int .i64 a1_2] 44 ?_;intro gb763 w35 hg BK763 hb;have GW763:=sZ HB hg;have GE763:=sZ HB hg;replace HB:=hB2 HB hb;have NB762_763:=neL BK762 hg;have NB763_762:=neR BK762 hg;replace BK762:=kb2 BK762 hb;clear hb hg;have hnb36:=NB762_763.out;have hnc36:=NB763_762.out;obtain ⟨hcz37_0,hcz37_1,hfz37_0,hfz37_1⟩:=cells2 BK762.out) | (refine gc_ 46 9 Try.func46 #[.agg #[.int .i64 a0_0, .int .i64 a0_1]] ?_;(with_reducible refine (spec_pzLock.calls k a0_0 a0_1 true _ A4.out).mono ?_);rintro e w38 ⟨rfl,hb⟩;refine ⟨_,rfl,?_⟩;replace BK762:=kb2 BK762 hb;replace BK763:=kb2 BK763 hb;replace HB:=hB2 HB hb;(try clear hb);obtain ⟨hcz39_0,hcz39_1,hfz39_0,hfz39_1⟩:=cells2 BK762.out) | (go_at_call 47;(with_reducible refine (spec_whCode.calls k a0_0 a0_1 a2 false _ A6.out).mono ?_);rintro e w40 ⟨rfl,hb⟩;replace BK762:=kb2 BK762 hb;replace BK763:=kb2 BK763 hb;replace HB:=hB2 HB hb;(try clear hb)));go_ret2;exact ⟨rF_,bB⟩
  · simp only [Option.some.injEq,Prod.mk.injEq] at H;obtain ⟨rfl,rfl⟩:=H;go_enter Try.func30,Try.ntmps30;go_wp2_with (first | ((with_reducible refine gate_dst (N:=3) rfl ?_);refine boxE_ HB 3 #[.int .i64 a0_0, .int .i64 a0_1] 25 ?_;clear HB;intro gb762 w41 HB BK762 GW762 GE762 hb;clear hb) | ((with_reducible refine gate_dst (N:=4) rfl ?_);refine boxG_ 4 #[.int .i64 a1_0, .int .i64 a1_1, .int .i64 a1_2] 44 ?_;intro gb763 w42 hg BK763 hb;have GW763:=sZ HB hg;have GE763:=sZ HB hg;replace HB:=hB2 HB hb;have NB762_763:=neL BK762 hg;have NB763_762:=neR BK762 hg;replace BK762:=kb2 BK762 hb;clear hb hg;have hnb43:=NB762_763.out;have hnc43:=NB763_762.out;obtain ⟨hcz44_0,hcz44_1,hfz44_0,hfz44_1⟩:=cells2 BK762.out) | (refine gc_ 46 9 Try.func46 #[.agg #[.int .i64 a0_0, .int .i64 a0_1]] ?_;(with_reducible refine (spec_pzLock.calls k a0_0 a0_1 false _ A4.out).mono ?_);rintro e w45 ⟨rfl,hb⟩;refine ⟨_,rfl,?_⟩;replace BK762:=kb2 BK762 hb;replace BK763:=kb2 BK763 hb;replace HB:=hB2 HB hb;(try clear hb)));go_ret2;exact ⟨rF_,bB⟩
/-! ### spec_pzWithout: function 67 -/
def spec_pzWithout.f (l0:List (S44)) (a1:Int):Option ((List (S44))):=(some (([]:List (S44)):List (S44))).bind fun y593=>(if 0≤a1 then (if a1≤(l0.length:Int) then ((some (l0.take (a1:Int).toNat:List (S44))).bind fun y596=>(if y593.length + y596.length < 5864062014805 then ((some (y593 ++ y596:List (S44))).bind fun y600=>(if 0≤(wrap64 (a1 + 1)) then (if (wrap64 (a1 + 1))≤(l0.length:Int) then ((some (l0.drop ((wrap64 (a1 + 1)):Int).toNat:List (S44))).bind fun y603=>(if y600.length + y603.length < 5864062014805 then (some (y600 ++ y603)) else (none))) else (none)) else (none))) else (none))) else (none)) else (none))
def spec_pzWithout.T1:Bool×List (List Nat×List Nat):=(true,[([],[]),([],[]),([],[]),([1,2],[1,2]),([0,3],[0,3]),([],[]),([],[]),([6],[6]),([5,7],[5,7]),([4,8,4],[4,8]),([9,9,0,1,2,3,4,5,6,7,8,9],[9])])
def spec_pzWithout.B1:List Nat:=[0,0,0,6,15,0,0,64,224,511,1023]
theorem spec_pzWithout.tab1:rtab .any (opsOf Try.f67 1)=spec_pzWithout.T1:=by kernel_rfl
theorem spec_pzWithout.bits1:waitsOk spec_pzWithout.T1.2 spec_pzWithout.B1=true:=by kernel_rfl
set_option maxHeartbeats 8000000 in
set_option maxRecDepth 100000 in
theorem spec_pzWithout.calls (A0:Option Addr) (c0:Nat) (l0:List (S44)) (a1:Int) (r:List (S44)) (w:World) (hr0:Kd.C k44 w A0 l0.length l0) (hc0:l0.length≤c0) (h:spec_pzWithout.f l0 a1=some r) :
    Calls Try.prog 67 #[.slice A0 l0.length c0, .int .i64 a1] w fun e w'=> ∃ v0_:Value,e = .returned (v0_)∧Kd.R k44 44 w' w.heap.size (fun _=>True) v0_ r∧Below w.heap.size w w':=by
  have HR0:=amk hr0;have HC0:=amk hc0;clear hr0 hc0;have HB:=amk (Below.refl w.heap.size w);unfold spec_pzWithout.f at h;have H:=h;clear h;(try rw [Option.bind_some] at H);generalize hy593:(([]:List (S44)))=y593 at H;have Ny593:=amk hy593.symm;clear hy593
  by_cases c3:0≤a1
  · rw [if_pos c3] at H;have c3b0:=eq_true c3;have c3b1:decide (0≤a1)=true:=decide_eq_true c3;clear c3
    by_cases c4:a1≤(l0.length:Int)
    · rw [if_pos c4] at H;have c4b0:=eq_true c4;have c4b1:decide (a1≤(l0.length:Int))=true:=decide_eq_true c4;clear c4;(try rw [Option.bind_some] at H);generalize hy596:((l0.take (a1:Int).toNat):List (S44))=y596 at H;have Ny596:=amk hy596.symm;clear hy596
      by_cases c5:y593.length + y596.length < 5864062014805
      · rw [if_pos c5] at H;have LMc5:=amk c5;clear c5;(try rw [Option.bind_some] at H);generalize hy600:((y593 ++ y596):List (S44))=y600 at H;have Ny600:=amk hy600.symm;clear hy600;obtain ⟨ji6,hji6⟩ : ∃ j_:Int,(wrap64 (a1 + 1))=j_:=⟨_,rfl⟩;(replace H:(if 0≤(ji6) then (if (ji6)≤(l0.length:Int) then ((some (l0.drop ((ji6):Int).toNat:List (S44))).bind fun y603=>(if y600.length + y603.length < 5864062014805 then (some (y600 ++ y603)) else (none))) else (none)) else (none))=some r:=by first | (rw [hji6] at H;exact H) | (simp only [hji6] at H ⊢;exact H));have hji6w:(IntKind.i64.wrap (a1 + 1))=ji6:=(i64_w _).trans hji6
        by_cases c7:0≤(ji6)
        · rw [if_pos c7] at H;have c7b0:=eq_true c7;have c7b1:decide (0≤(ji6))=true:=decide_eq_true c7;clear c7
          by_cases c8:(ji6)≤(l0.length:Int)
          · rw [if_pos c8] at H;have c8b0:=eq_true c8;have c8b1:decide ((ji6)≤(l0.length:Int))=true:=decide_eq_true c8;clear c8;(try rw [Option.bind_some] at H);generalize hy603:((l0.drop ((ji6):Int).toNat):List (S44))=y603 at H;have Ny603:=amk hy603.symm;clear hy603
            by_cases c9:y600.length + y603.length < 5864062014805
            · rw [if_pos c9] at H;have LMc9:=amk c9;clear c9;(try rw [Option.bind_some] at H);generalize hy607:((y600 ++ y603):List (S44))=y607 at H;have Ny607:=amk hy607.symm;clear hy607;obtain rfl:=Option.some.inj H;go_enter Try.func67,Try.ntmps67;(try go_wp2);replace HB:=amk (bd_ HB.out);have q11:(a1:Int)≤((l0.length:Int):Int):=dA_;obtain ⟨i011,hi011,_,hsz11,_⟩:=info_parts info44;have hroom11:l0.length≤c0:=HC0.out;have hC11:Kd.C k44 _ A0 l0.length l0:=HR0.out;have hcut11:=cut_to (P:=Try.prog) 28 44 .i64 Try.underlying28 hi011 A0 l0.length c0 a1 (dA_) q11 hroom11;have hr11:=Kd.C_take (m:=(a1:Int).toNat) hC11 (by omega);have hy11:y596.length=(a1:Int).toNat:=(by rw [Ny596.out,List.length_take];omega);rw [←Ny596.out] at hr11;rw [←hy11] at hcut11;have HR599:=amk hr11;have HC599:=amk (show y596.length≤c0 from by omega);clear hr11 hC11 hroom11 hi011 hsz11;have KY11:=amk hy11;clear hy11;replace q11:=eq_true q11;have q12:((ji6):Int)≤((l0.length:Int):Int):=dA_;obtain ⟨i012,hi012,_,hsz12,_⟩:=info_parts info44;have hroom12:l0.length≤c0:=HC0.out;have hC12:Kd.C k44 _ A0 l0.length l0:=HR0.out;have q012:(0:Int)≤((ji6):Int):=dA_;have hcut12:=cut_from (P:=Try.prog) 28 44 .i64 Try.underlying28 hi012 3 hsz12 A0 l0.length c0 (ji6) q012 q12;have hr12:=Kd.C_drop (m:=((ji6):Int).toNat) (c:=c0) hC12 (by omega) hroom12;obtain ⟨A12,hA12⟩ : ∃ A1,A1=(if c0=((ji6):Int).toNat then A0 else (A0:Option Addr).map (·.add (((ji6):Int).toNat * 3))):=⟨_,rfl⟩;obtain ⟨c12,hc12⟩ : ∃ c1,c1=c0 - ((ji6):Int).toNat:=⟨_,rfl⟩;have hy12:y603.length=l0.length - ((ji6):Int).toNat:=(by rw [Ny603.out,List.length_drop] <;> omega);rw [show (l0).drop ((ji6):Int).toNat=y603 from Ny603.out.symm] at hr12;replace hr12:Kd.C k44 _ A12 y603.length y603:=(by rw [hA12];exact hr12);rw [←hy12,←hA12,←hc12] at hcut12;have HR606:=amk hr12;have HC606:=amk (show y603.length≤c12 from by rw [hy12,hc12];exact Nat.sub_le_sub_right hroom12 _);clear hr12 hC12 hroom12 hi012 hsz12 hc12;have KY12:=amk hy12;have KA12:=amk hA12;clear hy12 hA12;replace q12:=eq_true q12;refine start_ (n:=11) (S:=fun w'=>True) (ds:=[]) (bA 11 0) (by kernel_rfl) rfl rfl trivial (fun hHeld=>?_);refine with_tabW spec_pzWithout.tab1 spec_pzWithout.bits1 (fun HT_ HW_=>?_);generalize w.drew=w10 at HB HR599 HR606 hHeld ⊢;refine pU_ HT_ 1 (some 6) (bA 11 2) ?_;refine pU_ HT_ 2 (some 7) (bA 11 6) ?_;refine pU_ HT_ 3 (some 8) (bA 11 14) ?_;refine pU_ HT_ 5 (some 10) (bA 11 46) ?_;refine pU_ HT_ 6 (some 11) (bA 11 110) ?_;refine pU_ HT_ 7 (some 12) (bA 11 238) ?_;refine pU_ HT_ 8 (some 13) (bA 11 494) ?_;refine oN_ HT_ 0 (some 5) (bA 11 495) (fun K hK=>?_);refine Kd.R_lit_step k44 _ 44 ?hg (N:=5) ?hd (xs:=([]:List (S44))) (inner:=[]) (ok:=fun _=>True) (okp:=fun _=>True) ?hr ?hp (fun _ hk=>hk) trivial (Below.refl _ _) (Nat.le_refl _) (by simp) ?_;(case hd=>rfl);(case hg=>rfl);(case hr=>first | (go_simp;done) | (go_simp;rfl));(case hp=>exact (Reps.none _ _));intro v594 w13 ho14 hb hg_ hnew_;clear hg_ hnew_;(first | rw [←Ny593.out] at ho14 | (simp only [Int.reduceToNat] at ho14;rw [←Ny593.out] at ho14));have HO595:=amk (Kd.R_lower ho14 (below_size bB));replace HB:=hB2 HB hb;clear hb ho14;refine hK.out _ _ trivial (fun hHeld=>?_);clear hK K;refine nN_ (some 5) ?_;refine oN_ HT_ 4 (some 9) (bA 11 511) (fun K hK=>?_);refine Kd.R_append_rows_step k44 (w0:=w) w.heap.size (by rfl) (.tmp 5) (.tmp 8) 28 44 (.agg #[(.int .i64 0),(.int .i64 0),(.int .i64 0)]) 24 rfl Try.underlying28 info44 rfl (by decide) (by omega) v594 y593 y596 _ _ _ (fun _=>True) (fun _=>False) rfl rfl ?aO ?aR (fun _ _ h=>h) (fun _ h=>h.elim) ?aF ?aB ?aS ?aL ?_;(case aR=>exact cB (Kd.C_below HR599.out HB.out));(case aB=>exact bB);(case aF=>exact (fun _ _=>trivial));(case aO=>exact (oX HO595));(case aS=>exact (below_size bB));(case aL=>have:=LMc5.out;omega);intro v601 w15 ho hb hg hat;rw [←Ny600.out] at ho;replace HB:=amk (hb);have HO602:=amk (ho);clear HO595;clear ho hb hg hat;refine hK.out _ _ trivial (fun hHeld=>?_);clear hK K;refine nN_ (some 9) ?_;refine oN_ HT_ 9 (some 14) (bA 11 1023) (fun K hK=>?_);refine Kd.R_append_rows_step k44 (w0:=w) w.heap.size (by rfl) (.tmp 9) (.tmp 13) 28 44 (.agg #[(.int .i64 0),(.int .i64 0),(.int .i64 0)]) 24 rfl Try.underlying28 info44 rfl (by decide) (by omega) v601 y600 y603 _ _ _ (fun _=>True) (fun _=>False) rfl rfl ?aO ?aR (fun _ _ h=>h) (fun _ h=>h.elim) ?aF ?aB ?aS ?aL ?_;(case aR=>exact cB (Kd.C_below HR606.out HB.out));(case aB=>exact bB);(case aF=>exact (fun _ _=>trivial));(case aO=>exact (oX HO602));(case aS=>exact (below_size bB));(case aL=>have:=LMc9.out;omega);intro v608 w16 ho hb hg hat;rw [←Ny607.out] at ho;replace HB:=amk (hb);have HO609:=amk (ho);clear HO602;clear ho hb hg hat;refine hK.out _ _ trivial (fun hHeld=>?_);clear hK K;refine nN_ (some 14) ?_;refine pU_ HT_ 10 (some 4) (bA 11 2047) ?_;refine done_ (done_of HT_.out (by kernel_rfl)) ?_;(try go_wp2);go_ret;exact ⟨_,by first | rfl | (simp [errW_none,errW_some] <;> rfl) | (simp only [←hji6];first | rfl | (simp [errW_none,errW_some] <;> rfl)) | (simp [*,errW_none,errW_some] <;> rfl),oX HO609,bB⟩
            · rw [if_neg c9] at H;exact absurd H (by simp)
          · rw [if_neg c8] at H;exact absurd H (by simp)
        · rw [if_neg c7] at H;exact absurd H (by simp)
      · rw [if_neg c5] at H;exact absurd H (by simp)
    · rw [if_neg c4] at H;exact absurd H (by simp)
  · rw [if_neg c3] at H;exact absurd H (by simp)
/-! ### spec_DropClue: function 28 -/
def spec_DropClue.f (k:Nat) (a0_0:Int) (a0_1:Int) (l0_2:List (S44)) (a1:Int):Option (Int×Int×(List (S44))×Bool):=(spec_pzGood.f k a0_0 a0_1 l0_2).bind fun t714=>(if t714=true then ((spec_l1In.f a1 0 (wrap64 ((l0_2.length:Int) - 1))).bind fun t715=>(if t715=true then ((spec_pzWithout.f l0_2 a1).bind fun t716=>(some (a0_0,a0_1,t716,true))) else (some (0,0,([]:List (S44)),false)))) else (some (0,0,([]:List (S44)),false)))
def spec_DropClue.T3:Bool×List (List Nat×List Nat):=(true,[([],[]),([0],[0]),([],[]),([2],[2]),([],[]),([3,4],[3,4]),([1,5],[1,5]),([6,5,0,1,2,3,4,5,6],[6]),([7,0,1,2,3,4,5,6,7],[])])
def spec_DropClue.B3:List Nat:=[0,1,0,4,0,28,63,127,255]
theorem spec_DropClue.tab3:rtab .any (opsOf Try.f28 3)=spec_DropClue.T3:=by kernel_rfl
theorem spec_DropClue.bits3:waitsOk spec_DropClue.T3.2 spec_DropClue.B3=true:=by kernel_rfl
set_option maxHeartbeats 8000000 in
set_option maxRecDepth 100000 in
theorem spec_DropClue.calls (k:Nat) (a0_0:Int) (a0_1:Int) (A0_2:Option Addr) (c0_2:Nat) (l0_2:List (S44)) (a1:Int) (r1:Int) (r2:Int) (r3:List (S44)) (r4:Bool) (w:World) (hr0_2:Kd.C k44 w A0_2 l0_2.length l0_2) (hc0_2:l0_2.length≤c0_2) (h:spec_DropClue.f k a0_0 a0_1 l0_2 a1=some (r1,r2,r3,r4)) :
    Calls Try.prog 28 #[.agg #[.int .i64 a0_0, .int .i64 a0_1, .slice A0_2 l0_2.length c0_2], .int .i64 a1] w fun e w'=> ∃ v2_:Value,e = .returned (.tuple #[.agg #[.int .i64 r1, .int .i64 r2,v2_], .bool r4])∧Kd.R k44 44 w' w.heap.size (fun _=>True) v2_ r3∧Below w.heap.size w w':=by
  have hu30:=Try.underlying30;have hu25:=Try.underlying25;have HR0_2:=amk hr0_2;have HC0_2:=amk hc0_2;clear hr0_2 hc0_2;have HB:=amk (Below.refl w.heap.size w);unfold spec_DropClue.f at h;have H:=h;clear h;replace H:=bE H;obtain ⟨t714,A3,H⟩:=H;replace H:=iteB H;obtain ⟨rfl,H⟩ | ⟨rfl,H⟩:=H
  · replace H:=bE H;obtain ⟨t715,A5,H⟩:=H;replace H:=iteB H;obtain ⟨rfl,H⟩ | ⟨rfl,H⟩:=H
    · replace H:=bE H;obtain ⟨t716,A7,H⟩:=H;simp only [Option.some.injEq,Prod.mk.injEq] at H;obtain ⟨rfl,rfl,rfl,rfl⟩:=H;go_enter Try.func28,Try.ntmps28;(try go_wp2_with (first | ((with_reducible refine gate_dst (N:=2) rfl ?_);(try (refine gate_guard (by rfl) ?_;dsimp only));refine boxE_ HB 2 #[.int .i64 a0_0, .int .i64 a0_1, .slice A0_2 l0_2.length c0_2] 30 ?_;clear HB;intro gb712 w8 HB BK712 GW712 GE712 hb;clear hb) | ((with_reducible refine gate_dst (N:=4) rfl ?_);(try (refine gate_guard (by rfl) ?_;dsimp only));refine boxG_ 4 #[.int .i64 0, .int .i64 0, .slice none 0 0] 30 ?_;intro gb713 w9 hg BK713 hb;have GW713:=sZ HB hg;have GE713:=sZ HB hg;replace HB:=hB2 HB hb;have NB712_713:=neL BK712 hg;have NB713_712:=neR BK712 hg;replace BK712:=kb2 BK712 hb;clear hb hg;have hnb10:=NB712_713.out;have hnc10:=NB713_712.out;obtain ⟨hcz11_0,hcz11_1,hcz11_2,hfz11_0,hfz11_1,hfz11_2⟩:=cells3 BK712.out) | (refine gc_ 65 7 Try.func65 #[.agg #[.int .i64 a0_0, .int .i64 a0_1, .slice A0_2 l0_2.length c0_2]] ?_;(with_reducible refine (spec_pzGood.calls k a0_0 a0_1 _ _ l0_2 true _ ?_ ?_ A3.out).mono ?_);exact cB (Kd.C_below HR0_2.out HB.out);exact HC0_2.out;rintro e w12 ⟨rfl,hb⟩;refine ⟨_,rfl,?_⟩;replace BK712:=kb2 BK712 hb;replace BK713:=kb2 BK713 hb;replace HB:=hB2 HB hb;(try clear hb);obtain ⟨hcz13_0,hcz13_1,hcz13_2,hfz13_0,hfz13_1,hfz13_2⟩:=cells3 BK712.out) | (go_at_call 48;(with_reducible refine (spec_l1In.calls a1 0 (wrap64 ((l0_2.length:Int) - 1)) true _ A5.out).mono ?_);rintro e w' ⟨rfl,⟨nd,rfl⟩⟩;(try (rw [drewN_self w12];generalize hq_:World.drewN w12 _=w12;replace BK712:Aside0 (w12.heap[gb712]?=some (.cells #[.int .i64 a0_0, .int .i64 a0_1, .slice A0_2 l0_2.length c0_2] 30 (0,0))):=⟨by rw [←hq_];exact (kB BK712)⟩;replace BK713:Aside0 (w12.heap[gb713]?=some (.cells #[.int .i64 0, .int .i64 0, .slice none 0 0] 30 (0,0))):=⟨by rw [←hq_];exact (kB BK713)⟩;replace HB:Aside0 (Below w.heap.size w w12):=⟨by rw [←hq_];exact bB⟩;clear hq_)))));replace BK712:=amk (blk_drew BK712.out);replace BK713:=amk (blk_drew BK713.out);replace HB:=amk (bd_ HB.out);refine start_ (n:=9) (S:=fun w'=>w'.cell? ⟨gb712,0,none⟩=some (.int .i64 a0_0)∧w'.cell? ⟨gb712,1,none⟩=some (.int .i64 a0_1)∧w'.cell? ⟨gb712,2,none⟩=some (.slice A0_2 l0_2.length c0_2)) (ds:=[]) (bA 9 0) (by kernel_rfl) rfl rfl ⟨(blk_cell BK712.out 0).trans rfl,(blk_cell BK712.out 1).trans rfl,(blk_cell BK712.out 2).trans rfl⟩ (fun hHeld=>?_);refine with_tabW spec_DropClue.tab3 spec_DropClue.bits3 (fun HT_ HW_=>?_);generalize w12.drew=w14 at BK712 BK713 HB hHeld ⊢;refine pU_ HT_ 0 (some 19) (bA 9 1) ?_;refine pU_ HT_ 2 (some 21) (bA 9 5) ?_;refine pU_ HT_ 4 (some 23) (bA 9 21) ?_;refine tK_ HT_ HW_ hHeld 1 (some 20) (bA 9 23) ?_;refine tK_ HT_ HW_ hHeld 3 (some 22) (bA 9 31) ?_;refine oN_ HT_ 5 (some 24) (bA 9 63) (fun K hK=>?_);refine gs_ Try.func67 #[.slice A0_2 l0_2.length c0_2, .int .i64 a1] ?_;(with_reducible refine (spec_pzWithout.calls _ _ l0_2 a1 t716 _ ?_ ?_ A7.out).mono ?_);exact cB (Kd.C_below HR0_2.out HB.out);exact HC0_2.out;rintro e w15 ⟨v717,rfl,ho0,hb⟩;refine ⟨_,rfl,?_⟩;have HO718:=amk (Kd.R_lower ho0 (below_size bB));replace BK712:=kb2 BK712 hb;replace BK713:=kb2 BK713 hb;replace HB:=hB2 HB hb;(try clear hb);(try clear ho0);obtain ⟨Ao16,co16,eo16⟩:=Kd.R_slice HO718.out;(first | subst eo16 | (injection eo16 with f1_ f2_ f3_;have f4_:=f1_.symm;have f5_:=f3_.symm;clear f1_ f2_ f3_;subst f4_;subst f5_));refine hK.out _ _ hC_ (fun hHeld=>?_);clear hK K;refine nN_ (some 24) ?_;refine pU_ HT_ 6 (some 25) (bA 9 127) ?_;refine oN_ HT_ 7 none (bA 9 255) (fun K hK=>?_);have hs17:w15.cell? ⟨gb713,0,none⟩=some (.int .i64 0):=(blk_cell BK713.out 0).trans rfl;have hfs17:=blk_frozen BK713.out 0;have hns17_0:=NB712_713.out;have hms17_0:=NB713_712.out;have hs18:w15.cell? ⟨gb713,1,none⟩=some (.int .i64 0):=(blk_cell BK713.out 1).trans rfl;have hfs18:=blk_frozen BK713.out 1;have hns18_0:=NB712_713.out;have hms18_0:=NB713_712.out;have hs19:w15.cell? ⟨gb713,2,none⟩=some (.slice none 0 0):=(blk_cell BK713.out 2).trans rfl;have hfs19:=blk_frozen BK713.out 2;have hns19_0:=NB712_713.out;have hms19_0:=NB713_712.out;refine skip_ (w1:=?_) (by rfl) rfl ?_ ?_;rotate_left
      · go_simp
        rfl
      refine hK.out _ _ ⟨((cell_far (p:=⟨gb713,_,none⟩) NB712_713.out _).trans (((cell_far (p:=⟨gb713,_,none⟩) NB712_713.out _).trans (((cell_far (p:=⟨gb713,_,none⟩) NB712_713.out _).trans (hHeld.1)))))),((cell_far (p:=⟨gb713,_,none⟩) NB712_713.out _).trans (((cell_far (p:=⟨gb713,_,none⟩) NB712_713.out _).trans (((cell_far (p:=⟨gb713,_,none⟩) NB712_713.out _).trans (hHeld.2.1)))))),((cell_far (p:=⟨gb713,_,none⟩) NB712_713.out _).trans (((cell_far (p:=⟨gb713,_,none⟩) NB712_713.out _).trans (((cell_far (p:=⟨gb713,_,none⟩) NB712_713.out _).trans (hHeld.2.2))))))⟩ (fun hHeld=>?_);clear hK K;refine pU_ HT_ 8 (some 5) (bA 9 511) ?_;refine done_ (done_of HT_.out (by kernel_rfl)) ?_;(try go_wp2);refine bodyPost_ret (results_ct rfl _ _ gb713 30 #[.int .i64 a0_0, .int .i64 a0_1, .slice Ao16 t716.length co16] (0,0) _ rfl (kP BK713) Try.underlying30 rfl (by kernel_rfl)) rfl ?_;exact ⟨_,rF_,by (with_reducible repeat (first | apply Kd.R_alloc | apply Kd.R_drewN | apply Kd.R_drew));exact Kd.R_mono (Kd.R_far (p:=⟨gb713,2,none⟩) (Kd.R_far (p:=⟨gb713,1,none⟩) (Kd.R_far (p:=⟨gb713,0,none⟩) (Kd.R_types HO718.out BK713.out (by decide)) (fun _ hk=>hk.2) (.int .i64 a0_0)) (fun _ hk=>hk.2) (.int .i64 a0_1)) (fun _ hk=>hk.2) (.slice Ao16 t716.length co16)) (fun _ hk=>trivial),bB⟩
    · simp only [Option.some.injEq,Prod.mk.injEq] at H;obtain ⟨rfl,rfl,rfl,rfl⟩:=H;go_enter Try.func28,Try.ntmps28;go_wp2_with (first | ((with_reducible refine gate_dst (N:=2) rfl ?_);(try (refine gate_guard (by rfl) ?_;dsimp only));refine boxE_ HB 2 #[.int .i64 a0_0, .int .i64 a0_1, .slice A0_2 l0_2.length c0_2] 30 ?_;clear HB;intro gb712 w20 HB BK712 GW712 GE712 hb;clear hb) | ((with_reducible refine gate_dst (N:=4) rfl ?_);(try (refine gate_guard (by rfl) ?_;dsimp only));refine boxG_ 4 #[.int .i64 0, .int .i64 0, .slice none 0 0] 30 ?_;intro gb713 w21 hg BK713 hb;have GW713:=sZ HB hg;have GE713:=sZ HB hg;replace HB:=hB2 HB hb;have NB712_713:=neL BK712 hg;have NB713_712:=neR BK712 hg;replace BK712:=kb2 BK712 hb;clear hb hg;have hnb22:=NB712_713.out;have hnc22:=NB713_712.out;obtain ⟨hcz23_0,hcz23_1,hcz23_2,hfz23_0,hfz23_1,hfz23_2⟩:=cells3 BK712.out) | (refine gc_ 65 7 Try.func65 #[.agg #[.int .i64 a0_0, .int .i64 a0_1, .slice A0_2 l0_2.length c0_2]] ?_;(with_reducible refine (spec_pzGood.calls k a0_0 a0_1 _ _ l0_2 true _ ?_ ?_ A3.out).mono ?_);exact cB (Kd.C_below HR0_2.out HB.out);exact HC0_2.out;rintro e w24 ⟨rfl,hb⟩;refine ⟨_,rfl,?_⟩;replace BK712:=kb2 BK712 hb;replace BK713:=kb2 BK713 hb;replace HB:=hB2 HB hb;(try clear hb);obtain ⟨hcz25_0,hcz25_1,hcz25_2,hfz25_0,hfz25_1,hfz25_2⟩:=cells3 BK712.out) | (go_at_call 48;(with_reducible refine (spec_l1In.calls a1 0 (wrap64 ((l0_2.length:Int) - 1)) false _ A5.out).mono ?_);rintro e w' ⟨rfl,⟨nd,rfl⟩⟩;(try (rw [drewN_self w24];generalize hq_:World.drewN w24 _=w24;replace BK712:Aside0 (w24.heap[gb712]?=some (.cells #[.int .i64 a0_0, .int .i64 a0_1, .slice A0_2 l0_2.length c0_2] 30 (0,0))):=⟨by rw [←hq_];exact (kB BK712)⟩;replace BK713:Aside0 (w24.heap[gb713]?=some (.cells #[.int .i64 0, .int .i64 0, .slice none 0 0] 30 (0,0))):=⟨by rw [←hq_];exact (kB BK713)⟩;replace HB:Aside0 (Below w.heap.size w w24):=⟨by rw [←hq_];exact bB⟩;clear hq_));obtain ⟨hcz26_0,hcz26_1,hcz26_2,hfz26_0,hfz26_1,hfz26_2⟩:=cells3 BK713.out));refine bodyPost_ret (results_ct rfl _ _ gb713 30 #[.int .i64 0, .int .i64 0, .slice none 0 0] (0,0) _ rfl (kP BK713) Try.underlying30 rfl (by kernel_rfl)) rfl ?_;exact ⟨_,rF_,xN_,bB⟩
  · simp only [Option.some.injEq,Prod.mk.injEq] at H;obtain ⟨rfl,rfl,rfl,rfl⟩:=H;go_enter Try.func28,Try.ntmps28;go_wp2_with (first | ((with_reducible refine gate_dst (N:=2) rfl ?_);(try (refine gate_guard (by rfl) ?_;dsimp only));refine boxE_ HB 2 #[.int .i64 a0_0, .int .i64 a0_1, .slice A0_2 l0_2.length c0_2] 30 ?_;clear HB;intro gb712 w27 HB BK712 GW712 GE712 hb;clear hb) | ((with_reducible refine gate_dst (N:=4) rfl ?_);(try (refine gate_guard (by rfl) ?_;dsimp only));refine boxG_ 4 #[.int .i64 0, .int .i64 0, .slice none 0 0] 30 ?_;intro gb713 w28 hg BK713 hb;have GW713:=sZ HB hg;have GE713:=sZ HB hg;replace HB:=hB2 HB hb;have NB712_713:=neL BK712 hg;have NB713_712:=neR BK712 hg;replace BK712:=kb2 BK712 hb;clear hb hg;have hnb29:=NB712_713.out;have hnc29:=NB713_712.out;obtain ⟨hcz30_0,hcz30_1,hcz30_2,hfz30_0,hfz30_1,hfz30_2⟩:=cells3 BK712.out) | (refine gc_ 65 7 Try.func65 #[.agg #[.int .i64 a0_0, .int .i64 a0_1, .slice A0_2 l0_2.length c0_2]] ?_;(with_reducible refine (spec_pzGood.calls k a0_0 a0_1 _ _ l0_2 false _ ?_ ?_ A3.out).mono ?_);exact cB (Kd.C_below HR0_2.out HB.out);exact HC0_2.out;rintro e w31 ⟨rfl,hb⟩;refine ⟨_,rfl,?_⟩;replace BK712:=kb2 BK712 hb;replace BK713:=kb2 BK713 hb;replace HB:=hB2 HB hb;(try clear hb);obtain ⟨hcz32_0,hcz32_1,hcz32_2,hfz32_0,hfz32_1,hfz32_2⟩:=cells3 BK713.out));refine bodyPost_ret (results_ct rfl _ _ gb713 30 #[.int .i64 0, .int .i64 0, .slice none 0 0] (0,0) _ rfl (kP BK713) Try.underlying30 rfl (by kernel_rfl)) rfl ?_;exact ⟨_,rF_,xN_,bB⟩
/-! ### spec_hiAll: function 99 -/
def spec_hiAll.l0:Nat→List ByteArray→Int→Int→Int→Option (List ByteArray)
  | 0,_,_,_,_=>none
  | k + 1,x3,x4,x187000,x187001=>(spec_whCount.f k x187000 x187001).bind fun t187=>(if x4 < t187 then ((spec_whOf.f k x187000 x187001 x4).bind fun t188=>(if x3.length < 8796093022208 then (spec_hiAll.l0 k (x3 ++ [t188]) (wrap64 (x4 + 1)) x187000 x187001) else (none))) else (some x3))
def spec_hiAll.f (k:Nat) (a0_0:Int) (a0_1:Int):Option (List ByteArray):=spec_hiAll.l0 k ([]:List ByteArray) 0 a0_0 a0_1
set_option maxHeartbeats 8000000 in
set_option maxRecDepth 100000 in
theorem spec_hiAll.calls (k:Nat) (a0_0:Int) (a0_1:Int) (r:List ByteArray) (w:World) (h:spec_hiAll.f k a0_0 a0_1=some r) :
    Calls Try.prog 99 #[.agg #[.int .i64 a0_0, .int .i64 a0_1]] w fun e w'=> ∃ v0_:Value,e = .returned (v0_)∧Kd.R Kd.string 9 w' w.heap.size (fun _=>True) v0_ r∧Below w.heap.size w w':=by
  have hu25:=Try.underlying25;have HB:=amk (Below.refl w.heap.size w);unfold spec_hiAll.f at h;have H:=h;clear h;have H':=amk H;clear H;go_enter Try.func99,Try.ntmps99;go_wp2_with (first | ((with_reducible refine gate_dst (N:=1) rfl ?_);refine boxE_ HB 1 #[.int .i64 a0_0, .int .i64 a0_1] 25 ?_;clear HB;intro gb186 w2 HB BK186 GW186 GE186 hb;clear hb))
  go_loopg [3,4] k (fun kq v3 v4 w'=> ∃ (x3_1:List ByteArray) (x4_1:Int),v4 = .int .i64 x4_1∧Aside0 (spec_hiAll.l0 kq x3_1 x4_1 a0_0 a0_1=some r)∧Aside0 (kq≤k)∧Aside0 (Kd.R Kd.string 9 w' w.heap.size (fun _=>True) v3 x3_1)∧Aside0 (w'.heap[gb186]?=some (.cells #[.int .i64 a0_0, .int .i64 a0_1] 25 (0,0)))∧Aside0 (Below w.heap.size w w'))
  case atStart=>exact ⟨(([]:List ByteArray)),(0),rS_,H',⟨Nat.le_refl _⟩,⟨xN_⟩,⟨kB BK186⟩,⟨bB⟩⟩
  case round =>
    clear H';(try clear p2);obtain ⟨x3_1,x4_1,rfl,HA,HK1,HO_3,BK186,HB⟩:=hrel
    cases gk with
    | zero=>exact absurd HA.out (by simp [spec_hiAll.l0])
    | succ k1 =>
      have H:=HA.out;clear HA;simp only [spec_hiAll.l0] at H;replace H:=bE H;obtain ⟨t187,A3,H⟩:=H;replace H:=iteE H;obtain ⟨c4b0,H⟩ | ⟨c4b0,H⟩:=H
      · replace H:=bE H;obtain ⟨t188,A5,H⟩:=H
        by_cases c6:x3_1.length < 8796093022208
        · rw [if_pos c6] at H;have LMc6:=amk c6;clear c6;(try rw [Option.bind_some] at H);generalize hy189:((x3_1 ++ [t188]):List ByteArray)=y189 at H;have Ny189:=amk hy189.symm;clear hy189;have H':=amk H;clear H;obtain ⟨hcz7_0,hcz7_1,hfz7_0,hfz7_1⟩:=cells2 BK186.out;go_wp2_with (first | (refine gc_ 50 7 Try.func50 #[.agg #[.int .i64 a0_0, .int .i64 a0_1]] ?_;(with_reducible refine (spec_whCount.calls k1 a0_0 a0_1 t187 _ A3.out).mono ?_);rintro e w8 ⟨rfl,hb⟩;refine ⟨_,rfl,?_⟩;replace HO_3:=amk (Kd.R_below (oX HO_3) hb);replace BK186:=kb2 BK186 hb;replace HB:=hB2 HB hb;(try clear hb);obtain ⟨hcz9_0,hcz9_1,hfz9_0,hfz9_1⟩:=cells2 BK186.out) | (refine gc_ 76 14 Try.func76 #[.agg #[.int .i64 a0_0, .int .i64 a0_1], .int .i64 x4_1] ?_;(with_reducible refine (spec_whOf.calls k1 a0_0 a0_1 x4_1 t188 _ A5.out).mono ?_);rintro e w10 ⟨rfl,hb⟩;refine ⟨_,rfl,?_⟩;replace HO_3:=amk (Kd.R_below (oX HO_3) hb);replace BK186:=kb2 BK186 hb;replace HB:=hB2 HB hb;(try clear hb)) | ((with_reducible refine gate_builtin (b:= .append) (xs:= #[.tmp 11, .tmp 15]) rfl ?_);at_builtin;refine Kd.R_append Kd.string (w0:=w) w.heap.size rfl (.tmp 11) (.tmp 15) 34 9 (.string ⟨#[]⟩) 16 rfl Try.underlying34 info9 rfl (by decide) (by omega) u3 x3_1 t188 [.string t188] (fun _=>True) (fun _=>False) rfl rfl rfl (fun _ hk=>hk.elim) (fun _ _=>trivial) (oX HO_3) bB (below_size bB) (by have:=LMc6.out;omega) ?_;intro v190 w11 ho hb hg hat;rw [←Ny189.out] at ho;replace BK186:=bG BK186 hg (Kd.R_ne HO_3.out BK186.out (by decide));replace HB:=amk (hb);have HO191:=amk (ho);clear HO_3;clear ho hb hg hat));go_roundg k1
          case measure=>have:=HK1.out;omega
          case rel=>exact ⟨(y189),(wrap64 (x4_1 + 1)),rS_,H',⟨by have:=HK1.out;omega⟩,⟨oX HO191⟩,⟨kB BK186⟩,⟨bB⟩⟩
        · rw [if_neg c6] at H;exact absurd H (by simp)
      · obtain rfl:=Option.some.inj H;obtain ⟨hcz12_0,hcz12_1,hfz12_0,hfz12_1⟩:=cells2 BK186.out;go_wp2_with (first | (refine gc_ 50 7 Try.func50 #[.agg #[.int .i64 a0_0, .int .i64 a0_1]] ?_;(with_reducible refine (spec_whCount.calls k1 a0_0 a0_1 t187 _ A3.out).mono ?_);rintro e w13 ⟨rfl,hb⟩;refine ⟨_,rfl,?_⟩;replace HO_3:=amk (Kd.R_below (oX HO_3) hb);replace BK186:=kb2 BK186 hb;replace HB:=hB2 HB hb;(try clear hb)));go_ret;exact ⟨_,rF_,oX HO_3,bB⟩
/-! ### spec_pzAll: function 90 -/
mutual
def spec_pzAll.l0:Nat→List (S44)→List ByteArray→List ByteArray→Int→Int→Int→Int→Option (List ByteArray)
  | 0,_,_,_,_,_,_,_=>none
  | k + 1,x1,x5,x12,x13,x14,x193000,x193001=>if x14 < x13 then (if 0≤x14 then (if x14 < (x12.length:Int) then (spec_pzAll.l1 k x1 x5 (rdOf ByteArray.empty x12 x14) true x12 x13 x14 x1 (x1.length:Int) 0 x193000 x193001) else (none)) else (none)) else (some x5)
def spec_pzAll.l1:Nat→List (S44)→List ByteArray→ByteArray→Bool→List ByteArray→Int→Int→List (S44)→Int→Int→Int→Int→Option (List ByteArray)
  | 0,_,_,_,_,_,_,_,_,_,_,_,_=>none
  | k + 1,x1,x5,x7,x8,x12,x13,x14,x18,x19,x20,x193000,x193001=>if x20 < x19 then (if 0≤x20 then (if x20 < (x18.length:Int) then (if x8=true then ((spec_pzFits.f k x193000 x193001 ((rd_T44 x18 x20).f0) ((rd_T44 x18 x20).f1) ((rd_T44 x18 x20).f2) x7).bind fun t199=>(spec_pzAll.l1 k x1 x5 x7 t199 x12 x13 x14 x18 x19 (wrap64 (x20 + 1)) x193000 x193001)) else (spec_pzAll.l1 k x1 x5 x7 false x12 x13 x14 x18 x19 (wrap64 (x20 + 1)) x193000 x193001)) else (none)) else (none)) else (if x8=true then (if x5.length < 8796093022208 then (spec_pzAll.l0 k x1 (x5 ++ [x7]) x12 x13 (wrap64 (x14 + 1)) x193000 x193001) else (none)) else (spec_pzAll.l0 k x1 x5 x12 x13 (wrap64 (x14 + 1)) x193000 x193001))
end
def spec_pzAll.f (k:Nat) (a0_0:Int) (a0_1:Int) (l1:List (S44)):Option (List ByteArray):=(spec_hiAll.f k a0_0 a0_1).bind fun t193=>(spec_pzAll.l0 k l1 ([]:List ByteArray) t193 (t193.length:Int) 0 a0_0 a0_1)
set_option maxHeartbeats 8000000 in
set_option maxRecDepth 100000 in
theorem spec_pzAll.calls (k:Nat) (a0_0:Int) (a0_1:Int) (A1:Option Addr) (c1:Nat) (l1:List (S44)) (r:List ByteArray) (w:World) (hr1:Kd.C k44 w A1 l1.length l1) (hc1:l1.length≤c1) (h:spec_pzAll.f k a0_0 a0_1 l1=some r) :
    Calls Try.prog 90 #[.agg #[.int .i64 a0_0, .int .i64 a0_1], .slice A1 l1.length c1] w fun e w'=> ∃ v0_:Value,e = .returned (v0_)∧Kd.R Kd.string 9 w' w.heap.size (fun _=>True) v0_ r∧Below w.heap.size w w':=by
  have hu25:=Try.underlying25;have hu44:=Try.underlying44;have HR1:=amk hr1;have HC1:=amk hc1;clear hr1 hc1;have HB:=amk (Below.refl w.heap.size w);unfold spec_pzAll.f at h;have H:=h;clear h;replace H:=bE H;obtain ⟨t193,A3,H⟩:=H;have H':=amk H;clear H;go_enter Try.func90,Try.ntmps90;go_wp2_with (first | ((with_reducible refine gate_dst (N:=2) rfl ?_);refine boxE_ HB 2 #[.int .i64 a0_0, .int .i64 a0_1] 25 ?_;clear HB;intro gb192 w4 HB BK192 GW192 GE192 hb;clear hb;obtain ⟨hcz5_0,hcz5_1,hfz5_0,hfz5_1⟩:=cells2 BK192.out) | (refine gc_ 99 12 Try.func99 #[.agg #[.int .i64 a0_0, .int .i64 a0_1]] ?_;(with_reducible refine (spec_hiAll.calls k a0_0 a0_1 t193 _ A3.out).mono ?_);rintro e w6 ⟨v194,rfl,ho0,hb⟩;refine ⟨_,rfl,?_⟩;have HO195:=amk (Kd.R_lower ho0 (below_size bB));replace BK192:=kb2 BK192 hb;replace HB:=hB2 HB hb;(try clear hb);(try clear ho0);obtain ⟨Ao7,co7,eo7⟩:=Kd.R_slice HO195.out;subst eo7))
  go_loopg [5,14] k (fun kq v5 v14 w'=> ∃ (x5_1:List ByteArray) (x14_1:Int),v14 = .int .i64 x14_1∧Aside0 (spec_pzAll.l0 kq l1 x5_1 t193 (t193.length:Int) x14_1 a0_0 a0_1=some r)∧Aside0 (kq≤k)∧Aside0 (Kd.R Kd.string 9 w' w.heap.size (fun k_=>some k_≠((.slice Ao7 t193.length co7):Value).ownBlock) v5 x5_1)∧Aside0 (Kd.R Kd.string 9 w' w.heap.size (fun k_=>some k_≠(v5:Value).ownBlock) (.slice Ao7 t193.length co7) t193)∧Aside0 (w'.heap[gb192]?=some (.cells #[.int .i64 a0_0, .int .i64 a0_1] 25 (0,0)))∧Aside0 (Below w.heap.size w w'))
  case atStart=>exact ⟨(([]:List ByteArray)),(0),rS_,H',⟨Nat.le_refl _⟩,⟨xN_⟩,⟨by (with_reducible repeat (first | apply Kd.R_alloc | apply Kd.R_drewN | apply Kd.R_drew));exact Kd.R_mono HO195.out (fun _ hk=>(by simp [Value.ownBlock]))⟩,⟨kB BK192⟩,⟨bB⟩⟩
  case round =>
    clear H';(try clear c1);(try clear p2);(try clear hcz5_0);(try clear hcz5_1);(try clear hfz5_0);(try clear hfz5_1);obtain ⟨x5_1,x14_1,rfl,HA,HK1,HO_5,HO_12,BK192,HB⟩:=hrel
    cases gk with
    | zero=>exact absurd HA.out (by simp [spec_pzAll.l0])
    | succ k1 =>
      have H:=HA.out;clear HA;simp only [spec_pzAll.l0] at H;replace H:=iteE H;obtain ⟨c8b0,H⟩ | ⟨c8b0,H⟩:=H
      · replace H:=iteN H;obtain ⟨c9b0,H⟩:=H;replace H:=iteN H;obtain ⟨c10b0,H⟩:=H;have H':=amk H;clear H;have p196:0≤(x14_1:Int):=dA_;have q196:x14_1 < (t193.length:Int):=dA_;obtain ⟨ad196,e196,hx196_0⟩:=Kd.at_string (Kd.R_reads' HO_12.out).2.2 x14_1 p196 q196;cases e196;replace p196:=eq_true p196;replace q196:=eq_true q196;go_wp2
        go_loopg [8,20] k1 (fun kq v8 v20 w'=> ∃ (x8_2:Bool) (x20_2:Int),v8 = .bool x8_2∧v20 = .int .i64 x20_2∧Aside0 (spec_pzAll.l1 kq l1 x5_1 (rdOf ByteArray.empty t193 x14_1) x8_2 t193 (t193.length:Int) x14_1 l1 (l1.length:Int) x20_2 a0_0 a0_1=some r)∧Aside0 (kq≤k1)∧Aside0 (Kd.R Kd.string 9 w' w.heap.size (fun k_=>some k_≠((.slice (some ad196) t193.length co7):Value).ownBlock) u5 x5_1)∧Aside0 (Kd.R Kd.string 9 w' w.heap.size (fun k_=>some k_≠(u5:Value).ownBlock) (.slice (some ad196) t193.length co7) t193)∧Aside0 (w'.heap[gb192]?=some (.cells #[.int .i64 a0_0, .int .i64 a0_1] 25 (0,0)))∧Aside0 (Below w.heap.size w w'))
        case atStart=>exact ⟨(true),(0),rS_,rS_,H',⟨Nat.le_refl _⟩,⟨oX HO_5⟩,⟨oX HO_12⟩,⟨kB BK192⟩,⟨bB⟩⟩
        case round =>
          clear H';(try clear c1);(try clear p1);(try clear q1);(try clear hx1);(try clear p2);(try clear c8);(try clear c8b0);(try clear c9);(try clear c9b0);(try clear c10);(try clear c10b0);(try clear hcz5_0);(try clear hcz5_1);(try clear hfz5_0);(try clear hfz5_1);(try clear hx196_0);(try clear p196);(try clear p2);(try clear q196);obtain ⟨x8_2,x20_2,rfl,rfl,HA,HK2,HO_5,HO_12,BK192,HB⟩:=hrel
          cases gk with
          | zero=>exact absurd HA.out (by simp [spec_pzAll.l1])
          | succ k2 =>
            have H:=HA.out;clear HA;simp only [spec_pzAll.l1] at H;replace H:=iteE H;obtain ⟨c11b0,H⟩ | ⟨c11b0,H⟩:=H
            · replace H:=iteN H;obtain ⟨c12b0,H⟩:=H;replace H:=iteN H;obtain ⟨c13b0,H⟩:=H;replace H:=iteB H;obtain ⟨rfl,H⟩ | ⟨rfl,H⟩:=H
              · replace H:=bE H;obtain ⟨t199,A15,H⟩:=H;have H':=amk H;clear H;have p197:0≤(x20_2:Int):=dA_;have q197:x20_2 < (l1.length:Int):=dA_;obtain ⟨ad197,e197,hx197_0,hx197_1,hx197_2⟩:=at_T44 HR1.out x20_2 p197 q197;cases e197;replace hx197_0:=(HB.out.cell (World.block_lt_of_cell? w _ hx197_0)).trans hx197_0;replace hx197_1:=(HB.out.cell (World.block_lt_of_cell? w _ hx197_1)).trans hx197_1;replace hx197_2:=(HB.out.cell (World.block_lt_of_cell? w _ hx197_2)).trans hx197_2;replace p197:=eq_true p197;replace q197:=eq_true q197;go_wp2_with (first | ((with_reducible refine gate_dst (N:=10) rfl ?_);refine boxG_ 10 #[.int .i64 0, .int .i64 0, .int .i64 0] 44 ?_;intro gb198 w16 hg BK198 hb;replace HO_5:=amk (Kd.R_below (oX HO_5) hb);replace HO_12:=amk (Kd.R_below (oX HO_12) hb);have GW198:=sZ HB hg;have GE198:=sZ HB hg;replace HB:=hB2 HB hb;have NB192_198:=neL BK192 hg;have NB198_192:=neR BK192 hg;replace BK192:=kb2 BK192 hb;clear hb hg;have hnb17:=NB198_192.out;have hnc17:=NB192_198.out;obtain ⟨hcz18_0,hcz18_1,hcz18_2,hfz18_0,hfz18_1,hfz18_2⟩:=cells3 BK198.out;obtain ⟨hcz19_0,hcz19_1,hfz19_0,hfz19_1⟩:=cells2 BK192.out) | (go_at_call 70;(with_reducible refine (spec_pzFits.calls k2 a0_0 a0_1 ((rd_T44 l1 x20_2).f0) ((rd_T44 l1 x20_2).f1) ((rd_T44 l1 x20_2).f2) (rdOf ByteArray.empty t193 x14_1) t199 _ A15.out).mono ?_);rintro e w20 ⟨rfl,hb⟩;replace HO_5:=amk (Kd.R_below (by (with_reducible repeat (first | apply Kd.R_alloc | apply Kd.R_drewN | apply Kd.R_drew));exact (Kd.R_mono (Kd.R_far (p:=⟨gb198,2,none⟩) (Kd.R_far (p:=⟨gb198,1,none⟩) (Kd.R_far (p:=⟨gb198,0,none⟩) (Kd.R_types HO_5.out BK198.out (by decide)) (fun _ hk=>hk.2) (.int .i64 ((rd_T44 l1 x20_2).f0))) (fun _ hk=>hk.2) (.int .i64 ((rd_T44 l1 x20_2).f1))) (fun _ hk=>hk.2) (.int .i64 ((rd_T44 l1 x20_2).f2))) (fun _ h_=>h_.1))) hb);replace HO_12:=amk (Kd.R_below (by (with_reducible repeat (first | apply Kd.R_alloc | apply Kd.R_drewN | apply Kd.R_drew));exact (Kd.R_mono (Kd.R_far (p:=⟨gb198,2,none⟩) (Kd.R_far (p:=⟨gb198,1,none⟩) (Kd.R_far (p:=⟨gb198,0,none⟩) (Kd.R_types HO_12.out BK198.out (by decide)) (fun _ hk=>hk.2) (.int .i64 ((rd_T44 l1 x20_2).f0))) (fun _ hk=>hk.2) (.int .i64 ((rd_T44 l1 x20_2).f1))) (fun _ hk=>hk.2) (.int .i64 ((rd_T44 l1 x20_2).f2))) (fun _ h_=>h_.1))) hb);replace BK192:=kb2 BK192 hb;replace BK198:=amk (blk_below (g:=gb198) (o:= .cells #[.int .i64 ((rd_T44 l1 x20_2).f0), .int .i64 ((rd_T44 l1 x20_2).f1), .int .i64 ((rd_T44 l1 x20_2).f2)] 44 (0,0)) (kP BK198) hb);replace HB:=hB2 HB hb;(try clear hb)));go_roundg k2
                case measure=>have:=HK1.out;have:=HK2.out;omega
                case rel=>exact ⟨(t199),(wrap64 (x20_2 + 1)),rS_,rS_,H',⟨by have:=HK1.out;have:=HK2.out;omega⟩,⟨oX HO_5⟩,⟨oX HO_12⟩,⟨kB BK192⟩,⟨bB⟩⟩
              · have H':=amk H;clear H;have p197:0≤(x20_2:Int):=dA_;have q197:x20_2 < (l1.length:Int):=dA_;obtain ⟨ad197,e197,hx197_0,hx197_1,hx197_2⟩:=at_T44 HR1.out x20_2 p197 q197;cases e197;replace hx197_0:=(HB.out.cell (World.block_lt_of_cell? w _ hx197_0)).trans hx197_0;replace hx197_1:=(HB.out.cell (World.block_lt_of_cell? w _ hx197_1)).trans hx197_1;replace hx197_2:=(HB.out.cell (World.block_lt_of_cell? w _ hx197_2)).trans hx197_2;replace p197:=eq_true p197;replace q197:=eq_true q197;go_wp2_with (first | ((with_reducible refine gate_dst (N:=10) rfl ?_);refine boxG_ 10 #[.int .i64 0, .int .i64 0, .int .i64 0] 44 ?_;intro gb198 w21 hg BK198 hb;replace HO_5:=amk (Kd.R_below (oX HO_5) hb);replace HO_12:=amk (Kd.R_below (oX HO_12) hb);have GW198:=sZ HB hg;have GE198:=sZ HB hg;replace HB:=hB2 HB hb;have NB192_198:=neL BK192 hg;have NB198_192:=neR BK192 hg;replace BK192:=kb2 BK192 hb;clear hb hg;have hnb22:=NB198_192.out;have hnc22:=NB192_198.out;obtain ⟨hcz23_0,hcz23_1,hcz23_2,hfz23_0,hfz23_1,hfz23_2⟩:=cells3 BK198.out));go_roundg k2
                case measure=>have:=HK1.out;have:=HK2.out;omega
                case rel=>exact ⟨(false),(wrap64 (x20_2 + 1)),rS_,rS_,H',⟨by have:=HK1.out;have:=HK2.out;omega⟩,⟨by (with_reducible repeat (first | apply Kd.R_alloc | apply Kd.R_drewN | apply Kd.R_drew));exact Kd.R_mono (Kd.R_far (p:=⟨gb198,2,none⟩) (Kd.R_far (p:=⟨gb198,1,none⟩) (Kd.R_far (p:=⟨gb198,0,none⟩) (Kd.R_types HO_5.out BK198.out (by decide)) (fun _ hk=>hk.2) (.int .i64 ((rd_T44 l1 x20_2).f0))) (fun _ hk=>hk.2) (.int .i64 ((rd_T44 l1 x20_2).f1))) (fun _ hk=>hk.2) (.int .i64 ((rd_T44 l1 x20_2).f2))) (fun _ hk=>hk.1)⟩,⟨by (with_reducible repeat (first | apply Kd.R_alloc | apply Kd.R_drewN | apply Kd.R_drew));exact Kd.R_mono (Kd.R_far (p:=⟨gb198,2,none⟩) (Kd.R_far (p:=⟨gb198,1,none⟩) (Kd.R_far (p:=⟨gb198,0,none⟩) (Kd.R_types HO_12.out BK198.out (by decide)) (fun _ hk=>hk.2) (.int .i64 ((rd_T44 l1 x20_2).f0))) (fun _ hk=>hk.2) (.int .i64 ((rd_T44 l1 x20_2).f1))) (fun _ hk=>hk.2) (.int .i64 ((rd_T44 l1 x20_2).f2))) (fun _ hk=>hk.1)⟩,⟨kB BK192⟩,⟨bB⟩⟩
            · replace H:=iteB H;obtain ⟨rfl,H⟩ | ⟨rfl,H⟩:=H
              · by_cases c25:x5_1.length < 8796093022208
                · rw [if_pos c25] at H;have LMc25:=amk c25;clear c25;(try rw [Option.bind_some] at H);generalize hy200:((x5_1 ++ [(rdOf ByteArray.empty t193 x14_1)]):List ByteArray)=y200 at H;have Ny200:=amk hy200.symm;clear hy200;have H':=amk H;clear H;go_wp2_with (first | ((with_reducible refine gate_builtin (b:= .append) (xs:= #[.tmp 33, .tmp 35]) rfl ?_);at_builtin;refine Kd.R_append Kd.string (w0:=w) w.heap.size rfl (.tmp 33) (.tmp 35) 34 9 (.string ⟨#[]⟩) 16 rfl Try.underlying34 info9 rfl (by decide) (by omega) u5 x5_1 (rdOf ByteArray.empty t193 x14_1) [.string (rdOf ByteArray.empty t193 x14_1)] (fun k_=>some k_≠(.slice (some ad196) t193.length co7:Value).ownBlock) (fun _=>False) rfl rfl rfl (fun _ hk=>hk.elim) (fun k_ hk=>Kd.fresh' (Kd.R_lt (oX HO_12)) k_ hk) (oX HO_5) bB (below_size bB) (by have:=LMc25.out;omega) ?_;intro v201 w26 ho hb hg hat;rw [←Ny200.out] at ho;replace HO_12:=amk (Kd.R_after (ok:=(fun _=>True)) (by (with_reducible repeat (first | apply Kd.R_alloc | apply Kd.R_drewN | apply Kd.R_drew));exact Kd.R_mono HO_12.out (fun _ hk=>⟨trivial,hk⟩)) hg hat);replace BK192:=bG BK192 hg (Kd.R_ne HO_5.out BK192.out (by decide));replace HB:=amk (hb);have HO202:=amk (ho);clear HO_5;clear ho hb hg hat));go_roundg k2
                  case measure=>have:=HK1.out;have:=HK2.out;omega
                  case rel=>exact ⟨(y200),(wrap64 (x14_1 + 1)),rS_,H',⟨by have:=HK1.out;have:=HK2.out;omega⟩,⟨oX HO202⟩,⟨by (with_reducible repeat (first | apply Kd.R_alloc | apply Kd.R_drewN | apply Kd.R_drew));exact Kd.R_mono HO_12.out (fun _ hk=>hk.2)⟩,⟨kB BK192⟩,⟨bB⟩⟩
                · rw [if_neg c25] at H;exact absurd H (by simp)
              · have H':=amk H;clear H;go_wp2;go_roundg k2
                case measure=>have:=HK1.out;have:=HK2.out;omega
                case rel=>exact ⟨(x5_1),(wrap64 (x14_1 + 1)),rS_,H',⟨by have:=HK1.out;have:=HK2.out;omega⟩,⟨oX HO_5⟩,⟨oX HO_12⟩,⟨kB BK192⟩,⟨bB⟩⟩
      · obtain rfl:=Option.some.inj H;go_wp2;go_ret;exact ⟨_,rF_,by (with_reducible repeat (first | apply Kd.R_alloc | apply Kd.R_drewN | apply Kd.R_drew));exact Kd.R_mono HO_5.out (fun _ hk=>trivial),bB⟩
/-! ### spec_pzSolved: function 66 -/
def spec_pzSolved.f (k:Nat) (a0_0:Int) (a0_1:Int) (l1:List (S44)):Option (Bool):=(spec_pzAll.f k a0_0 a0_1 l1).bind fun t590=>(some ((t590.length:Int) == 1))
set_option maxHeartbeats 8000000 in
set_option maxRecDepth 100000 in
theorem spec_pzSolved.calls (k:Nat) (a0_0:Int) (a0_1:Int) (A1:Option Addr) (c1:Nat) (l1:List (S44)) (r:Bool) (w:World) (hr1:Kd.C k44 w A1 l1.length l1) (hc1:l1.length≤c1) (h:spec_pzSolved.f k a0_0 a0_1 l1=some r) :
    Calls Try.prog 66 #[.agg #[.int .i64 a0_0, .int .i64 a0_1], .slice A1 l1.length c1] w fun e w'=>e = .returned (.bool r)∧Below w.heap.size w w':=by
  have hu25:=Try.underlying25;have HR1:=amk hr1;have HC1:=amk hc1;clear hr1 hc1;have HB:=amk (Below.refl w.heap.size w);unfold spec_pzSolved.f at h;have H:=h;clear h;replace H:=bE H;obtain ⟨t590,A3,H⟩:=H;obtain rfl:=Option.some.inj H;go_enter Try.func66,Try.ntmps66;go_wp2_with (first | ((with_reducible refine gate_dst (N:=2) rfl ?_);refine boxE_ HB 2 #[.int .i64 a0_0, .int .i64 a0_1] 25 ?_;clear HB;intro gb589 w4 HB BK589 GW589 GE589 hb;clear hb;obtain ⟨hcz5_0,hcz5_1,hfz5_0,hfz5_1⟩:=cells2 BK589.out) | (refine gc_ 90 7 Try.func90 #[.agg #[.int .i64 a0_0, .int .i64 a0_1], .slice A1 l1.length c1] ?_;(with_reducible refine (spec_pzAll.calls k a0_0 a0_1 _ _ l1 t590 _ ?_ ?_ A3.out).mono ?_);exact cB (Kd.C_below HR1.out HB.out);exact HC1.out;rintro e w6 ⟨v591,rfl,ho0,hb⟩;refine ⟨_,rfl,?_⟩;have HO592:=amk (Kd.R_lower ho0 (below_size bB));replace BK589:=kb2 BK589 hb;replace HB:=hB2 HB hb;(try clear hb);(try clear ho0);obtain ⟨Ao7,co7,eo7⟩:=Kd.R_slice HO592.out;subst eo7));go_ret;exact ⟨rF_,bB⟩
/-! ### spec_HarderPuzzle: function 19 -/
mutual
def spec_HarderPuzzle.j0:Nat→Bool→Int→Int→List (S44)→Option (Int×Int×(List (S44))×Bool)
  | 0,_,_,_,_=>none
  | k + 1,x17,x611000,x611001,x611002=>if x17=true then (some (0,0,([]:List (S44)),false)) else ((some (([]:List (S44)):List (S44))).bind fun y614=>(if y614.length + x611002.length < 5864062014805 then (spec_HarderPuzzle.l0 k (y614 ++ x611002) 0 x611000 x611001 x611002) else (none)))
def spec_HarderPuzzle.l0:Nat→List (S44)→Int→Int→Int→List (S44)→Option (Int×Int×(List (S44))×Bool)
  | 0,_,_,_,_,_=>none
  | k + 1,x4,x5,x611000,x611001,x611002=>if x5 < (x4.length:Int) then ((spec_pzWithout.f x4 x5).bind fun t620=>((spec_pzSolved.f k x611000 x611001 t620).bind fun t623=>(if t623=true then (spec_HarderPuzzle.l0 k t620 x5 x611000 x611001 x611002) else (spec_HarderPuzzle.l0 k x4 (wrap64 (x5 + 1)) x611000 x611001 x611002)))) else (some (x611000,x611001,x4,true))
end
def spec_HarderPuzzle.f (k:Nat) (a0_0:Int) (a0_1:Int) (l0_2:List (S44)):Option (Int×Int×(List (S44))×Bool):=(spec_pzGood.f k a0_0 a0_1 l0_2).bind fun t612=>(if t612=true then ((spec_pzSolved.f k a0_0 a0_1 l0_2).bind fun t613=>(spec_HarderPuzzle.j0 k (!t613) a0_0 a0_1 l0_2)) else (spec_HarderPuzzle.j0 k true a0_0 a0_1 l0_2))
set_option maxHeartbeats 8000000 in
set_option maxRecDepth 100000 in
theorem spec_HarderPuzzle.calls (k:Nat) (a0_0:Int) (a0_1:Int) (A0_2:Option Addr) (c0_2:Nat) (l0_2:List (S44)) (r1:Int) (r2:Int) (r3:List (S44)) (r4:Bool) (w:World) (hr0_2:Kd.C k44 w A0_2 l0_2.length l0_2) (hc0_2:l0_2.length≤c0_2) (h:spec_HarderPuzzle.f k a0_0 a0_1 l0_2=some (r1,r2,r3,r4)) :
    Calls Try.prog 19 #[.agg #[.int .i64 a0_0, .int .i64 a0_1, .slice A0_2 l0_2.length c0_2]] w fun e w'=> ∃ v2_:Value,e = .returned (.tuple #[.agg #[.int .i64 r1, .int .i64 r2,v2_], .bool r4])∧Kd.R k44 44 w' w.heap.size (fun _=>True) v2_ r3∧Below w.heap.size w w':=by
  have hu30:=Try.underlying30;have hu25:=Try.underlying25;have HR0_2:=amk hr0_2;have HC0_2:=amk hc0_2;clear hr0_2 hc0_2;have HB:=amk (Below.refl w.heap.size w);unfold spec_HarderPuzzle.f at h;have H:=h;clear h;have HC2:=amk H;clear H;go_enter Try.func19,Try.ntmps19
  go_upto_region 1 with (first | ((with_reducible refine gate_dst (N:=1) rfl ?_);refine boxE_ HB 1 #[.int .i64 a0_0, .int .i64 a0_1, .slice A0_2 l0_2.length c0_2] 30 ?_;clear HB;intro gb610 w3 HB BK610 GW610 GE610 hb;clear hb) | ((with_reducible refine gate_dst (N:=2) rfl ?_);refine boxG_ 2 #[.int .i64 0, .int .i64 0, .slice none 0 0] 30 ?_;intro gb611 w4 hg BK611 hb;have GW611:=sZ HB hg;have GE611:=sZ HB hg;replace HB:=hB2 HB hb;have NB610_611:=neL BK610 hg;have NB611_610:=neR BK610 hg;replace BK610:=kb2 BK610 hb;clear hb hg))
  (try simp only [Act.put,List.setIfInBounds_toArray,List.set_cons_zero,List.set_cons_succ])
  go_cut [17] (fun v17 wc=> ∃ (kq:Nat) (x17_1:Bool),v17 = .bool x17_1∧Aside0 (spec_HarderPuzzle.j0 kq x17_1 a0_0 a0_1 l0_2=some (r1,r2,r3,r4))∧Aside0 (kq≤k)∧Aside0 (wc.heap[gb610]?=some (.cells #[.int .i64 a0_0, .int .i64 a0_1,(.slice A0_2 l0_2.length c0_2)] 30 (0,0)))∧Aside0 (wc.heap[gb611]?=some (.cells #[.int .i64 0, .int .i64 0,(.slice none 0 0)] 30 (0,0)))∧Aside0 (Below w.heap.size w wc))
  case first =>
    have H:=HC2.out;clear HC2;replace H:=bE H;obtain ⟨t612,A5,H⟩:=H;replace H:=iteB H;obtain ⟨rfl,H⟩ | ⟨rfl,H⟩:=H
    · replace H:=bE H;obtain ⟨t613,A7,H⟩:=H;have H':=amk H;clear H;have hnb8:=NB610_611.out;have hnc8:=NB611_610.out;obtain ⟨hcz9_0,hcz9_1,hcz9_2,hfz9_0,hfz9_1,hfz9_2⟩:=cells3 BK610.out;go_wp2_with (first | (refine gc_ 65 8 Try.func65 #[.agg #[.int .i64 a0_0, .int .i64 a0_1, .slice A0_2 l0_2.length c0_2]] ?_;(with_reducible refine (spec_pzGood.calls k a0_0 a0_1 _ _ l0_2 true _ ?_ ?_ A5.out).mono ?_);exact cB (Kd.C_below HR0_2.out HB.out);exact HC0_2.out;rintro e w10 ⟨rfl,hb⟩;refine ⟨_,rfl,?_⟩;replace BK610:=kb2 BK610 hb;replace BK611:=kb2 BK611 hb;replace HB:=hB2 HB hb;(try clear hb);obtain ⟨hcz11_0,hcz11_1,hcz11_2,hfz11_0,hfz11_1,hfz11_2⟩:=cells3 BK610.out) | (go_at_call 66;(with_reducible refine (spec_pzSolved.calls k a0_0 a0_1 _ _ l0_2 t613 _ ?_ ?_ A7.out).mono ?_);exact cB (Kd.C_below HR0_2.out HB.out);exact HC0_2.out;rintro e w12 ⟨rfl,hb⟩;replace BK610:=kb2 BK610 hb;replace BK611:=kb2 BK611 hb;replace HB:=hB2 HB hb;(try clear hb)));go_meet
      case rel=>exact ⟨_,(!t613),rS_,H',⟨by first | omega | exact Nat.le_refl _⟩,⟨kB BK610⟩,⟨kB BK611⟩,⟨bB⟩⟩
    · have H':=amk H;clear H;have hnb13:=NB610_611.out;have hnc13:=NB611_610.out;obtain ⟨hcz14_0,hcz14_1,hcz14_2,hfz14_0,hfz14_1,hfz14_2⟩:=cells3 BK610.out;go_wp2_with (first | (refine gc_ 65 8 Try.func65 #[.agg #[.int .i64 a0_0, .int .i64 a0_1, .slice A0_2 l0_2.length c0_2]] ?_;(with_reducible refine (spec_pzGood.calls k a0_0 a0_1 _ _ l0_2 false _ ?_ ?_ A5.out).mono ?_);exact cB (Kd.C_below HR0_2.out HB.out);exact HC0_2.out;rintro e w15 ⟨rfl,hb⟩;refine ⟨_,rfl,?_⟩;replace BK610:=kb2 BK610 hb;replace BK611:=kb2 BK611 hb;replace HB:=hB2 HB hb;(try clear hb)));go_meet
      case rel=>exact ⟨_,(true),rS_,H',⟨by first | omega | exact Nat.le_refl _⟩,⟨kB BK610⟩,⟨kB BK611⟩,⟨bB⟩⟩
  case rest =>
    clear HC2;(try clear c1);(try clear p2);(try clear c6);(try clear c8);(try clear c13);(try clear hcz11_0);(try clear hcz11_1);(try clear hcz11_2);(try clear hcz14_0);(try clear hcz14_1);(try clear hcz14_2);(try clear hcz9_0);(try clear hcz9_1);(try clear hcz9_2);(try clear hfz11_0);(try clear hfz11_1);(try clear hfz11_2);(try clear hfz14_0);(try clear hfz14_1);(try clear hfz14_2);(try clear hfz9_0);(try clear hfz9_1);(try clear hfz9_2);obtain ⟨kq,x17_1,rfl,HA,HJ1,BK610,BK611,HB⟩:=hcut
    cases kq with
    | zero=>exact absurd HA.out (by simp [spec_HarderPuzzle.j0])
    | succ kj1 =>
      have H:=HA.out;clear HA;simp only [spec_HarderPuzzle.j0] at H;replace H:=iteB H;obtain ⟨rfl,H⟩ | ⟨rfl,H⟩:=H
      · simp only [Option.some.injEq,Prod.mk.injEq] at H;obtain ⟨rfl,rfl,rfl,rfl⟩:=H;have hnb17:=NB611_610.out;have hnc17:=NB610_611.out;obtain ⟨hcz18_0,hcz18_1,hcz18_2,hfz18_0,hfz18_1,hfz18_2⟩:=cells3 BK611.out;go_wp2;refine bodyPost_ret (results_ct rfl _ _ gb611 30 #[.int .i64 0, .int .i64 0, .slice none 0 0] (0,0) _ rfl (kP BK611) Try.underlying30 rfl (by kernel_rfl)) rfl ?_;exact ⟨_,rF_,xN_,bB⟩
      · (try rw [Option.bind_some] at H);generalize hy614:(([]:List (S44)))=y614 at H;have Ny614:=amk hy614.symm;clear hy614
        by_cases c19:y614.length + l0_2.length < 5864062014805
        · rw [if_pos c19] at H;have LMc19:=amk c19;clear c19;(try rw [Option.bind_some] at H);generalize hy617:((y614 ++ l0_2):List (S44))=y617 at H;have Ny617:=amk hy617.symm;clear hy617;have H':=amk H;clear H;go_wp2_with (first | ((with_reducible refine gate_dst (N:=19) rfl ?_);refine Kd.R_lit k44 _ 44 ?hg (N:=19) ?hd (xs:=([]:List (S44))) (inner:=[]) (ok:=fun _=>True) (okp:=fun _=>True) ?hr ?hp (fun _ hk=>hk) trivial (Below.refl _ _) (Nat.le_refl _) (by simp) ?_;(case hd=>rfl);(case hg=>rfl);(case hr=>first | (go_simp;done) | (go_simp;rfl));(case hp=>exact (Reps.none _ _));intro v615 w20 ho21 hb hg_ hnew_;clear hg_ hnew_;(first | rw [←Ny614.out] at ho21 | (simp only [Int.reduceToNat] at ho21;rw [←Ny614.out] at ho21));have HO616:=amk (Kd.R_lower ho21 (below_size bB));replace BK610:=kb2 BK610 hb;replace BK611:=kb2 BK611 hb;replace HB:=hB2 HB hb;clear hb ho21;have hnb22:=NB610_611.out;have hnc22:=NB611_610.out;obtain ⟨hcz23_0,hcz23_1,hcz23_2,hfz23_0,hfz23_1,hfz23_2⟩:=cells3 BK610.out) | ((with_reducible refine gate_builtin (b:= .append) (xs:= #[.tmp 19, .tmp 21]) rfl ?_);at_builtin;refine Kd.R_append_rows k44 (w0:=w) w.heap.size rfl (.tmp 19) (.tmp 21) 28 44 (.agg #[(.int .i64 0),(.int .i64 0),(.int .i64 0)]) 24 rfl Try.underlying28 info44 rfl (by decide) (by omega) v615 y614 l0_2 _ _ _ (fun _=>True) (fun _=>False) rfl rfl ?aO ?aR (fun _ _ h=>h) (fun _ h=>h.elim) ?aF ?aB ?aS ?aL ?_;(case aR=>exact cB (Kd.C_below HR0_2.out HB.out));(case aB=>exact bB);(case aF=>exact (fun _ _=>trivial));(case aO=>exact (oX HO616));(case aS=>exact (below_size bB));(case aL=>have:=LMc19.out;omega);intro v618 w24 ho hb hg hat;rw [←Ny617.out] at ho;replace BK610:=bG BK610 hg (Kd.R_ne HO616.out BK610.out (by decide));replace BK611:=bG BK611 hg (Kd.R_ne HO616.out BK611.out (by decide));replace HB:=amk (hb);have HO619:=amk (ho);clear HO616;clear ho hb hg hat))
          go_loopg [4,5] kj1 (fun kq v4 v5 w'=> ∃ (x4_2:List (S44)) (x5_2:Int),v5 = .int .i64 x5_2∧Aside0 (spec_HarderPuzzle.l0 kq x4_2 x5_2 a0_0 a0_1 l0_2=some (r1,r2,r3,r4))∧Aside0 (kq≤kj1)∧Aside0 (Kd.R k44 44 w' w.heap.size (fun _=>True) v4 x4_2)∧Aside0 (w'.heap[gb610]?=some (.cells #[.int .i64 a0_0, .int .i64 a0_1,(.slice A0_2 l0_2.length c0_2)] 30 (0,0)))∧Aside0 (w'.heap[gb611]?=some (.cells #[.int .i64 0, .int .i64 0,(.slice none 0 0)] 30 (0,0)))∧Aside0 (Below w.heap.size w w'))
          case atStart=>exact ⟨(y617),(0),rS_,H',⟨Nat.le_refl _⟩,⟨oX HO619⟩,⟨kB BK610⟩,⟨kB BK611⟩,⟨bB⟩⟩
          case round =>
            clear H';(try clear c1);(try clear c2);(try clear p2);(try clear c6);(try clear c8);(try clear c13);(try clear c16);(try clear c17);(try clear c19);(try clear c22);(try clear hcz11_0);(try clear hcz11_1);(try clear hcz11_2);(try clear hcz14_0);(try clear hcz14_1);(try clear hcz14_2);(try clear hcz18_0);(try clear hcz18_1);(try clear hcz18_2);(try clear hcz23_0);(try clear hcz23_1);(try clear hcz23_2);(try clear hcz9_0);(try clear hcz9_1);(try clear hcz9_2);(try clear hfz11_0);(try clear hfz11_1);(try clear hfz11_2);(try clear hfz14_0);(try clear hfz14_1);(try clear hfz14_2);(try clear hfz18_0);(try clear hfz18_1);(try clear hfz18_2);(try clear hfz23_0);(try clear hfz23_1);(try clear hfz23_2);(try clear hfz9_0);(try clear hfz9_1);(try clear hfz9_2);(try clear p2);obtain ⟨x4_2,x5_2,rfl,HA,HK2,HO_4,BK610,BK611,HB⟩:=hrel
            cases gk with
            | zero=>exact absurd HA.out (by simp [spec_HarderPuzzle.l0])
            | succ k2 =>
              have H:=HA.out;clear HA;simp only [spec_HarderPuzzle.l0] at H;replace H:=iteE H;obtain ⟨c25b0,H⟩ | ⟨c25b0,H⟩:=H
              · replace H:=bE H;obtain ⟨t620,A26,H⟩:=H;replace H:=bE H;obtain ⟨t623,A27,H⟩:=H;replace H:=iteB H;obtain ⟨rfl,H⟩ | ⟨rfl,H⟩:=H
                · have H':=amk H;clear H;obtain ⟨Ao29,co29,eo29⟩:=Kd.R_slice HO_4.out;subst eo29;go_wp2_with (first | (refine gc_ 67 29 Try.func67 #[.slice Ao29 x4_2.length co29, .int .i64 x5_2] ?_;(with_reducible refine (spec_pzWithout.calls _ _ x4_2 x5_2 t620 _ ?_ ?_ A26.out).mono ?_);exact cB ((Kd.R_reads' HO_4.out).2.2);exact (Kd.R_reads' HO_4.out).2.1;rintro e w30 ⟨v621,rfl,ho0,hb⟩;refine ⟨_,rfl,?_⟩;have HO622:=amk (Kd.R_lower (Kd.R_new' ho0 (Kd.R_lt (oX HO_4))) (below_size bB));replace HO_4:=amk (Kd.R_elder' (oX HO_4) (Kd.R_base ho0) hb);replace BK610:=kb2 BK610 hb;replace BK611:=kb2 BK611 hb;replace HB:=hB2 HB hb;(try clear hb);(try clear ho0);have hnb31:=NB610_611.out;have hnc31:=NB611_610.out;obtain ⟨hcz32_0,hcz32_1,hcz32_2,hfz32_0,hfz32_1,hfz32_2⟩:=cells3 BK610.out;obtain ⟨Ao33,co33,eo33⟩:=Kd.R_slice HO622.out;subst eo33) | (refine gc_ 66 33 Try.func66 #[.agg #[.int .i64 a0_0, .int .i64 a0_1], .slice Ao33 t620.length co33] ?_;(with_reducible refine (spec_pzSolved.calls k2 a0_0 a0_1 _ _ t620 true _ ?_ ?_ A27.out).mono ?_);exact cB ((Kd.R_reads' HO622.out).2.2);exact (Kd.R_reads' HO622.out).2.1;rintro e w34 ⟨rfl,hb⟩;refine ⟨_,rfl,?_⟩;replace HO_4:=amk (Kd.R_below (oX HO_4) hb);replace HO622:=amk (Kd.R_below (oX HO622) hb);replace BK610:=kb2 BK610 hb;replace BK611:=kb2 BK611 hb;replace HB:=hB2 HB hb;(try clear hb)));go_roundg k2
                  case measure=>have:=HJ1.out;have:=HK2.out;omega
                  case rel=>exact ⟨(t620),(x5_2),rS_,H',⟨by have:=HJ1.out;have:=HK2.out;omega⟩,⟨by (with_reducible repeat (first | apply Kd.R_alloc | apply Kd.R_drewN | apply Kd.R_drew));exact Kd.R_mono HO622.out (fun _ hk=>trivial)⟩,⟨kB BK610⟩,⟨kB BK611⟩,⟨bB⟩⟩
                · have H':=amk H;clear H;obtain ⟨Ao35,co35,eo35⟩:=Kd.R_slice HO_4.out;subst eo35;go_wp2_with (first | (refine gc_ 67 29 Try.func67 #[.slice Ao35 x4_2.length co35, .int .i64 x5_2] ?_;(with_reducible refine (spec_pzWithout.calls _ _ x4_2 x5_2 t620 _ ?_ ?_ A26.out).mono ?_);exact cB ((Kd.R_reads' HO_4.out).2.2);exact (Kd.R_reads' HO_4.out).2.1;rintro e w36 ⟨v621,rfl,ho0,hb⟩;refine ⟨_,rfl,?_⟩;have HO622:=amk (Kd.R_lower (Kd.R_new' ho0 (Kd.R_lt (oX HO_4))) (below_size bB));replace HO_4:=amk (Kd.R_elder' (oX HO_4) (Kd.R_base ho0) hb);replace BK610:=kb2 BK610 hb;replace BK611:=kb2 BK611 hb;replace HB:=hB2 HB hb;(try clear hb);(try clear ho0);have hnb37:=NB610_611.out;have hnc37:=NB611_610.out;obtain ⟨hcz38_0,hcz38_1,hcz38_2,hfz38_0,hfz38_1,hfz38_2⟩:=cells3 BK610.out;obtain ⟨Ao39,co39,eo39⟩:=Kd.R_slice HO622.out;subst eo39) | (refine gc_ 66 33 Try.func66 #[.agg #[.int .i64 a0_0, .int .i64 a0_1], .slice Ao39 t620.length co39] ?_;(with_reducible refine (spec_pzSolved.calls k2 a0_0 a0_1 _ _ t620 false _ ?_ ?_ A27.out).mono ?_);exact cB ((Kd.R_reads' HO622.out).2.2);exact (Kd.R_reads' HO622.out).2.1;rintro e w40 ⟨rfl,hb⟩;refine ⟨_,rfl,?_⟩;replace HO_4:=amk (Kd.R_below (oX HO_4) hb);replace HO622:=amk (Kd.R_below (oX HO622) hb);replace BK610:=kb2 BK610 hb;replace BK611:=kb2 BK611 hb;replace HB:=hB2 HB hb;(try clear hb)));go_roundg k2
                  case measure=>have:=HJ1.out;have:=HK2.out;omega
                  case rel=>exact ⟨(x4_2),(wrap64 (x5_2 + 1)),rS_,H',⟨by have:=HJ1.out;have:=HK2.out;omega⟩,⟨by (with_reducible repeat (first | apply Kd.R_alloc | apply Kd.R_drewN | apply Kd.R_drew));exact Kd.R_mono HO_4.out (fun _ hk=>trivial)⟩,⟨kB BK610⟩,⟨kB BK611⟩,⟨bB⟩⟩
              · simp only [Option.some.injEq,Prod.mk.injEq] at H;obtain ⟨rfl,rfl,rfl,rfl⟩:=H;obtain ⟨Ao41,co41,eo41⟩:=Kd.R_slice HO_4.out;subst eo41;have hnb42:=NB610_611.out;have hnc42:=NB611_610.out;obtain ⟨hcz43_0,hcz43_1,hcz43_2,hfz43_0,hfz43_1,hfz43_2⟩:=cells3 BK610.out;obtain ⟨hcz44_0,hcz44_1,hcz44_2,hfz44_0,hfz44_1,hfz44_2⟩:=cells3 BK611.out;go_wp2;refine bodyPost_ret (results_ct rfl _ _ gb611 30 #[.int .i64 a0_0, .int .i64 a0_1, .slice Ao41 x4_2.length co41] (0,0) _ rfl (kP BK611) Try.underlying30 rfl (by kernel_rfl)) rfl ?_;exact ⟨_,rF_,by (with_reducible repeat (first | apply Kd.R_alloc | apply Kd.R_drewN | apply Kd.R_drew));exact Kd.R_mono (Kd.R_far (p:=⟨gb611,2,none⟩) (Kd.R_far (p:=⟨gb611,1,none⟩) (Kd.R_far (p:=⟨gb611,0,none⟩) (Kd.R_types HO_4.out BK611.out (by decide)) (fun _ hk=>hk.2) (.int .i64 a0_0)) (fun _ hk=>hk.2) (.int .i64 a0_1)) (fun _ hk=>hk.2) (.slice Ao41 x4_2.length co41)) (fun _ hk=>trivial),bB⟩
        · rw [if_neg c19] at H;exact absurd H (by simp)
/-! ### spec_IsClue: function 33 -/
def spec_IsClue.f (k:Nat) (a0_0:Int) (a0_1:Int) (a1_0:Int) (a1_1:Int) (a1_2:Int):Option (Bool):=(spec_pzLock.f k a0_0 a0_1).bind fun t807=>(if t807=true then ((spec_pzClue.f k a0_0 a0_1 a1_0 a1_1 a1_2).bind fun t808=>(some t808)) else (some false))
set_option maxHeartbeats 8000000 in
set_option maxRecDepth 100000 in
theorem spec_IsClue.calls (k:Nat) (a0_0:Int) (a0_1:Int) (a1_0:Int) (a1_1:Int) (a1_2:Int) (r:Bool) (w:World) (h:spec_IsClue.f k a0_0 a0_1 a1_0 a1_1 a1_2=some r) :
    Calls Try.prog 33 #[.agg #[.int .i64 a0_0, .int .i64 a0_1], .agg #[.int .i64 a1_0, .int .i64 a1_1, .int .i64 a1_2]] w fun e w'=>e = .returned (.bool r)∧Below w.heap.size w w':=by
  have hu25:=Try.underlying25;have hu44:=Try.underlying44;have HB:=amk (Below.refl w.heap.size w);unfold spec_IsClue.f at h;have H:=h;clear h;replace H:=bE H;obtain ⟨t807,A3,H⟩:=H;replace H:=iteB H;obtain ⟨rfl,H⟩ | ⟨rfl,H⟩:=H
  · replace H:=bE H;obtain ⟨t808,A5,H⟩:=H;obtain rfl:=Option.some.inj H;go_enter Try.func33,Try.ntmps33;go_wp2_with (first | ((with_reducible refine gate_dst (N:=2) rfl ?_);refine boxE_ HB 2 #[.int .i64 a0_0, .int .i64 a0_1] 25 ?_;clear HB;intro gb805 w6 HB BK805 GW805 GE805 hb;clear hb) | ((with_reducible refine gate_dst (N:=3) rfl ?_);refine boxG_ 3 #[.int .i64 a1_0, .int .i64 a1_1, .int .i64 a1_2] 44 ?_;intro gb806 w7 hg BK806 hb;have GW806:=sZ HB hg;have GE806:=sZ HB hg;replace HB:=hB2 HB hb;have NB805_806:=neL BK805 hg;have NB806_805:=neR BK805 hg;replace BK805:=kb2 BK805 hb;clear hb hg;have hnb8:=NB805_806.out;have hnc8:=NB806_805.out;obtain ⟨hcz9_0,hcz9_1,hfz9_0,hfz9_1⟩:=cells2 BK805.out) | (refine gc_ 46 6 Try.func46 #[.agg #[.int .i64 a0_0, .int .i64 a0_1]] ?_;(with_reducible refine (spec_pzLock.calls k a0_0 a0_1 true _ A3.out).mono ?_);rintro e w10 ⟨rfl,hb⟩;refine ⟨_,rfl,?_⟩;replace BK805:=kb2 BK805 hb;replace BK806:=kb2 BK806 hb;replace HB:=hB2 HB hb;(try clear hb);obtain ⟨hcz11_0,hcz11_1,hfz11_0,hfz11_1⟩:=cells2 BK805.out;obtain ⟨hcz12_0,hcz12_1,hcz12_2,hfz12_0,hfz12_1,hfz12_2⟩:=cells3 BK806.out) | (go_at_call 69;(with_reducible refine (spec_pzClue.calls k a0_0 a0_1 a1_0 a1_1 a1_2 t808 _ A5.out).mono ?_);rintro e w13 ⟨rfl,hb⟩;replace BK805:=kb2 BK805 hb;replace BK806:=kb2 BK806 hb;replace HB:=hB2 HB hb;(try clear hb)));go_ret;exact ⟨rF_,bB⟩
  · obtain rfl:=Option.some.inj H;go_enter Try.func33,Try.ntmps33;go_wp2_with (first | ((with_reducible refine gate_dst (N:=2) rfl ?_);refine boxE_ HB 2 #[.int .i64 a0_0, .int .i64 a0_1] 25 ?_;clear HB;intro gb805 w14 HB BK805 GW805 GE805 hb;clear hb) | ((with_reducible refine gate_dst (N:=3) rfl ?_);refine boxG_ 3 #[.int .i64 a1_0, .int .i64 a1_1, .int .i64 a1_2] 44 ?_;intro gb806 w15 hg BK806 hb;have GW806:=sZ HB hg;have GE806:=sZ HB hg;replace HB:=hB2 HB hb;have NB805_806:=neL BK805 hg;have NB806_805:=neR BK805 hg;replace BK805:=kb2 BK805 hb;clear hb hg;have hnb16:=NB805_806.out;have hnc16:=NB806_805.out;obtain ⟨hcz17_0,hcz17_1,hfz17_0,hfz17_1⟩:=cells2 BK805.out) | (refine gc_ 46 6 Try.func46 #[.agg #[.int .i64 a0_0, .int .i64 a0_1]] ?_;(with_reducible refine (spec_pzLock.calls k a0_0 a0_1 false _ A3.out).mono ?_);rintro e w18 ⟨rfl,hb⟩;refine ⟨_,rfl,?_⟩;replace BK805:=kb2 BK805 hb;replace BK806:=kb2 BK806 hb;replace HB:=hB2 HB hb;(try clear hb)));go_ret;exact ⟨rF_,bB⟩
/-! ### spec_pzNext: function 49 -/
def spec_pzNext.f (a0:Int):Option (Int):=some (Int.tmod (wrap64 ((wrap64 (173 * a0)) + 2633)) 10007)
set_option maxHeartbeats 8000000 in
set_option maxRecDepth 100000 in
theorem spec_pzNext.calls (a0:Int) (r:Int) (w:World) (h:spec_pzNext.f a0=some r) :
    Calls Try.prog 49 #[.int .i64 a0] w fun e w'=>e = .returned (.int .i64 r)∧Drawn0 w w':=by
  unfold spec_pzNext.f at h;have H:=h;clear h;obtain rfl:=Option.some.inj H;go_enter Try.func49,Try.ntmps49;go_wp2;go_ret;exact ⟨rS_,dR_⟩
/-! ### spec_pzOf: function 51 -/
def spec_pzOf.f (k:Nat) (a0_0:Int) (a0_1:Int) (a1:Int) (a2:Int) (a3:ByteArray):Option (Int×Int×Int):=if a1=1 then ((spec_pzValue.f k a0_0 a0_1 1 0 a3).bind fun t390=>(some (1,t390,0))) else ((spec_pzValue.f k a0_0 a0_1 a1 a2 a3).bind fun t391=>(some (a1,a2,t391)))
set_option maxHeartbeats 8000000 in
set_option maxRecDepth 100000 in
theorem spec_pzOf.calls (k:Nat) (a0_0:Int) (a0_1:Int) (a1:Int) (a2:Int) (a3:ByteArray) (r1:Int) (r2:Int) (r3:Int) (w:World) (h:spec_pzOf.f k a0_0 a0_1 a1 a2 a3=some (r1,r2,r3)) :
    Calls Try.prog 51 #[.agg #[.int .i64 a0_0, .int .i64 a0_1], .int .i64 a1, .int .i64 a2, .string a3] w fun e w'=>e = .returned (.agg #[.int .i64 r1, .int .i64 r2, .int .i64 r3])∧Below w.heap.size w w':=by
  have hu25:=Try.underlying25;have hu44:=Try.underlying44;have HB:=amk (Below.refl w.heap.size w);unfold spec_pzOf.f at h;have H:=h;clear h
  by_cases c5:a1=1
  · rw [if_pos c5] at H;have c5b0:(a1 == 1)=true:=beq_iff_eq.mpr c5;have c5b1:(a1 != 1)=false:=bne_eq_false_iff_eq.mpr c5;clear c5;replace H:=bE H;obtain ⟨t390,A6,H⟩:=H;simp only [Option.some.injEq,Prod.mk.injEq] at H;obtain ⟨rfl,rfl,rfl⟩:=H;go_enter Try.func51,Try.ntmps51;go_wp2_with (first | ((with_reducible refine gate_dst (N:=4) rfl ?_);refine boxE_ HB 4 #[.int .i64 a0_0, .int .i64 a0_1] 25 ?_;clear HB;intro gb388 w7 HB BK388 GW388 GE388 hb;clear hb) | ((with_reducible refine gate_dst (N:=8) rfl ?_);refine boxG_ 8 #[.int .i64 0, .int .i64 0, .int .i64 0] 44 ?_;intro gb389 w8 hg BK389 hb;have GW389:=sZ HB hg;have GE389:=sZ HB hg;replace HB:=hB2 HB hb;have NB388_389:=neL BK388 hg;have NB389_388:=neR BK388 hg;replace BK388:=kb2 BK388 hb;clear hb hg;have hnb9:=NB388_389.out;have hnc9:=NB389_388.out;obtain ⟨hcz10_0,hcz10_1,hfz10_0,hfz10_1⟩:=cells2 BK388.out) | (refine gc_ 83 13 Try.func83 #[.agg #[.int .i64 a0_0, .int .i64 a0_1], .int .i64 1, .int .i64 0, .string a3] ?_;(with_reducible refine (spec_pzValue.calls k a0_0 a0_1 1 0 a3 t390 _ A6.out).mono ?_);rintro e w11 ⟨rfl,hb⟩;refine ⟨_,rfl,?_⟩;replace BK388:=kb2 BK388 hb;replace BK389:=kb2 BK389 hb;replace HB:=hB2 HB hb;(try clear hb);obtain ⟨hcz12_0,hcz12_1,hcz12_2,hfz12_0,hfz12_1,hfz12_2⟩:=cells3 BK389.out));refine bodyPost_ret (results_cell_row rfl _ _ gb389 44 #[.int .i64 1, .int .i64 t390, .int .i64 0] (0,0) _ rfl (kP BK389) Try.underlying44 rfl (by kernel_rfl)) rfl ?_;exact ⟨rF_,bB⟩
  · rw [if_neg c5] at H;have c5b0:(a1 == 1)=false:=beq_eq_false_iff_ne.mpr c5;have c5b1:(a1 != 1)=true:=bne_iff_ne.mpr c5;replace H:=bE H;obtain ⟨t391,A13,H⟩:=H;simp only [Option.some.injEq,Prod.mk.injEq] at H;obtain ⟨rfl,rfl,rfl⟩:=H;go_enter Try.func51,Try.ntmps51;go_wp2_with (first | ((with_reducible refine gate_dst (N:=4) rfl ?_);refine boxE_ HB 4 #[.int .i64 a0_0, .int .i64 a0_1] 25 ?_;clear HB;intro gb388 w14 HB BK388 GW388 GE388 hb;clear hb) | ((with_reducible refine gate_dst (N:=8) rfl ?_);refine boxG_ 8 #[.int .i64 0, .int .i64 0, .int .i64 0] 44 ?_;intro gb389 w15 hg BK389 hb;have GW389:=sZ HB hg;have GE389:=sZ HB hg;replace HB:=hB2 HB hb;have NB388_389:=neL BK388 hg;have NB389_388:=neR BK388 hg;replace BK388:=kb2 BK388 hb;clear hb hg;have hnb16:=NB388_389.out;have hnc16:=NB389_388.out;obtain ⟨hcz17_0,hcz17_1,hfz17_0,hfz17_1⟩:=cells2 BK388.out) | (refine gc_ 83 21 Try.func83 #[.agg #[.int .i64 a0_0, .int .i64 a0_1], .int .i64 a1, .int .i64 a2, .string a3] ?_;(with_reducible refine (spec_pzValue.calls k a0_0 a0_1 a1 a2 a3 t391 _ A13.out).mono ?_);rintro e w18 ⟨rfl,hb⟩;refine ⟨_,rfl,?_⟩;replace BK388:=kb2 BK388 hb;replace BK389:=kb2 BK389 hb;replace HB:=hB2 HB hb;(try clear hb);obtain ⟨hcz19_0,hcz19_1,hcz19_2,hfz19_0,hfz19_1,hfz19_2⟩:=cells3 BK389.out));refine bodyPost_ret (results_cell_row rfl _ _ gb389 44 #[.int .i64 a1, .int .i64 a2, .int .i64 t391] (0,0) _ rfl (kP BK389) Try.underlying44 rfl (by kernel_rfl)) rfl ?_;exact ⟨rF_,bB⟩
/-! ### spec_MakePuzzle: function 7 -/
mutual
def spec_MakePuzzle.j0:Nat→ByteArray→Int→Int→Bool→Int→Int→Option (Int×Int×(List (S44))×Bool)
  | 0,_,_,_,_,_,_=>none
  | k + 1,x1,x2,x3,x32,x393000,x393001=>if x32=true then (some (0,0,([]:List (S44)),false)) else (spec_MakePuzzle.l0 k x1 x2 x3 x393000 x393001 x393000 x393001 ([]:List (S44)))
def spec_MakePuzzle.l0:Nat→ByteArray→Int→Int→Int→Int→Int→Int→List (S44)→Option (Int×Int×(List (S44))×Bool)
  | 0,_,_,_,_,_,_,_,_=>none
  | k + 1,x1,x2,x11,x393000,x393001,x399000,x399001,x399002=>if x2 > 0 then ((spec_pzNext.f x11).bind fun t399=>(if (Int.tmod t399 5)=1 then ((spec_pzOf.f k x393000 x393001 (Int.tmod t399 5) 0 x1).bind fun bt400=>(if x399002.length < 5864062014805 then (spec_MakePuzzle.l0 k x1 (wrap64 (x2 - 1)) t399 x393000 x393001 x399000 x399001 (x399002 ++ [(⟨bt400.1,bt400.2.1,bt400.2.2⟩:S44)])) else (none))) else ((spec_pzNext.f t399).bind fun t406=>(if (Int.tmod t399 5)=0 then (if x393000=0 then (none) else ((spec_pzOf.f k x393000 x393001 (Int.tmod t399 5) (Int.tmod t406 x393000) x1).bind fun bt407=>(if x399002.length < 5864062014805 then (spec_MakePuzzle.l0 k x1 (wrap64 (x2 - 1)) t406 x393000 x393001 x399000 x399001 (x399002 ++ [(⟨bt407.1,bt407.2.1,bt407.2.2⟩:S44)])) else (none)))) else (if (Int.tmod t399 5)=4 then ((spec_pzOf.f k x393000 x393001 (Int.tmod t399 5) (wrap64 ((Int.tmod t406 8) + 2)) x1).bind fun bt413=>(if x399002.length < 5864062014805 then (spec_MakePuzzle.l0 k x1 (wrap64 (x2 - 1)) t406 x393000 x393001 x399000 x399001 (x399002 ++ [(⟨bt413.1,bt413.2.1,bt413.2.2⟩:S44)])) else (none))) else ((spec_whCount.f k x393000 x393001).bind fun t419=>(if t419=0 then (none) else ((spec_pzOf.f k x393000 x393001 (Int.tmod t399 5) (Int.tmod t406 t419) x1).bind fun bt420=>(if x399002.length < 5864062014805 then (spec_MakePuzzle.l0 k x1 (wrap64 (x2 - 1)) t406 x393000 x393001 x399000 x399001 (x399002 ++ [(⟨bt420.1,bt420.2.1,bt420.2.2⟩:S44)])) else (none)))))))))) else (some (x399000,x399001,x399002,true))
end
def spec_MakePuzzle.f (k:Nat) (a0_0:Int) (a0_1:Int) (a1:ByteArray) (a2:Int) (a3:Int):Option (Int×Int×(List (S44))×Bool):=(spec_pzLock.f k a0_0 a0_1).bind fun t394=>(if t394=true then ((spec_whCode.f k a0_0 a0_1 a1).bind fun t395=>(if t395=true then ((spec_l1In.f a2 0 6).bind fun t396=>(if t396=true then ((spec_l1In.f a3 0 9999).bind fun t397=>(spec_MakePuzzle.j0 k a1 a2 a3 (!t397) a0_0 a0_1)) else (spec_MakePuzzle.j0 k a1 a2 a3 true a0_0 a0_1))) else (spec_MakePuzzle.j0 k a1 a2 a3 true a0_0 a0_1))) else (spec_MakePuzzle.j0 k a1 a2 a3 true a0_0 a0_1))
def spec_MakePuzzle.T17:Bool×List (List Nat×List Nat):=(true,[([],[]),([0],[0]),([],[]),([],[]),([],[]),([],[]),([2,3,4,5],[2,3,4,5]),([6],[6]),([1,7,6],[1,7]),([0,1,2,3,4,5,6,7,8],[]),([9,8,8,0,1,2,3,4,5,6,7,8],[8,9])])
def spec_MakePuzzle.B17:List Nat:=[0,1,0,0,0,0,60,124,255,511,1023]
theorem spec_MakePuzzle.tab17:rtab .any (opsOf Try.f7 17)=spec_MakePuzzle.T17:=by kernel_rfl
theorem spec_MakePuzzle.bits17:waitsOk spec_MakePuzzle.T17.2 spec_MakePuzzle.B17=true:=by kernel_rfl
set_option maxHeartbeats 8000000 in
set_option maxRecDepth 100000 in
theorem spec_MakePuzzle.calls (k:Nat) (a0_0:Int) (a0_1:Int) (a1:ByteArray) (a2:Int) (a3:Int) (r1:Int) (r2:Int) (r3:List (S44)) (r4:Bool) (w:World) (h:spec_MakePuzzle.f k a0_0 a0_1 a1 a2 a3=some (r1,r2,r3,r4)) :
    Calls Try.prog 7 #[.agg #[.int .i64 a0_0, .int .i64 a0_1], .string a1, .int .i64 a2, .int .i64 a3] w fun e w'=> ∃ v2_:Value,e = .returned (.tuple #[.agg #[.int .i64 r1, .int .i64 r2,v2_], .bool r4])∧Kd.R k44 44 w' w.heap.size (fun _=>True) v2_ r3∧Below w.heap.size w w':=by
  have hu25:=Try.underlying25;have hu30:=Try.underlying30;have HB:=amk (Below.refl w.heap.size w);unfold spec_MakePuzzle.f at h;have H:=h;clear h;have HC5:=amk H;clear H;go_enter Try.func7,Try.ntmps7
  go_upto_region 1 with (first | ((with_reducible refine gate_dst (N:=4) rfl ?_);refine boxE_ HB 4 #[.int .i64 a0_0, .int .i64 a0_1] 25 ?_;clear HB;intro gb392 w6 HB BK392 GW392 GE392 hb;clear hb) | ((with_reducible refine gate_dst (N:=8) rfl ?_);refine boxG_ 8 #[.int .i64 0, .int .i64 0, .slice none 0 0] 30 ?_;intro gb393 w7 hg BK393 hb;have GW393:=sZ HB hg;have GE393:=sZ HB hg;replace HB:=hB2 HB hb;have NB392_393:=neL BK392 hg;have NB393_392:=neR BK392 hg;replace BK392:=kb2 BK392 hb;clear hb hg))
  (try simp only [Act.put,List.setIfInBounds_toArray,List.set_cons_zero,List.set_cons_succ])
  go_cut [32] (fun v32 wc=> ∃ (kq:Nat) (x32_4:Bool),v32 = .bool x32_4∧Aside0 (spec_MakePuzzle.j0 kq a1 a2 a3 x32_4 a0_0 a0_1=some (r1,r2,r3,r4))∧Aside0 (kq≤k)∧Aside0 (wc.heap[gb392]?=some (.cells #[.int .i64 a0_0, .int .i64 a0_1] 25 (0,0)))∧Aside0 (wc.heap[gb393]?=some (.cells #[.int .i64 0, .int .i64 0,(.slice none 0 0)] 30 (0,0)))∧Aside0 (Below w.heap.size w wc))
  case first =>
    have H:=HC5.out;clear HC5;replace H:=bE H;obtain ⟨t394,A8,H⟩:=H;replace H:=iteB H;obtain ⟨rfl,H⟩ | ⟨rfl,H⟩:=H
    · replace H:=bE H;obtain ⟨t395,A10,H⟩:=H;replace H:=iteB H;obtain ⟨rfl,H⟩ | ⟨rfl,H⟩:=H
      · replace H:=bE H;obtain ⟨t396,A12,H⟩:=H;replace H:=iteB H;obtain ⟨rfl,H⟩ | ⟨rfl,H⟩:=H
        · replace H:=bE H;obtain ⟨t397,A14,H⟩:=H;have H':=amk H;clear H;have hnb15:=NB392_393.out;have hnc15:=NB393_392.out;obtain ⟨hcz16_0,hcz16_1,hfz16_0,hfz16_1⟩:=cells2 BK392.out;go_wp2_with (first | (refine gc_ 46 15 Try.func46 #[.agg #[.int .i64 a0_0, .int .i64 a0_1]] ?_;(with_reducible refine (spec_pzLock.calls k a0_0 a0_1 true _ A8.out).mono ?_);rintro e w17 ⟨rfl,hb⟩;refine ⟨_,rfl,?_⟩;replace BK392:=kb2 BK392 hb;replace BK393:=kb2 BK393 hb;replace HB:=hB2 HB hb;(try clear hb);obtain ⟨hcz18_0,hcz18_1,hfz18_0,hfz18_1⟩:=cells2 BK392.out) | (go_at_call 47;(with_reducible refine (spec_whCode.calls k a0_0 a0_1 a1 true _ A10.out).mono ?_);rintro e w19 ⟨rfl,hb⟩;replace BK392:=kb2 BK392 hb;replace BK393:=kb2 BK393 hb;replace HB:=hB2 HB hb;(try clear hb)) | (go_at_call 48;(with_reducible refine (spec_l1In.calls a2 0 6 true _ A12.out).mono ?_);rintro e w' ⟨rfl,⟨nd,rfl⟩⟩) | (go_at_call 48;(with_reducible refine (spec_l1In.calls a3 0 9999 t397 _ A14.out).mono ?_);rintro e w' ⟨rfl,⟨nd,rfl⟩⟩));go_meet
          case rel=>exact ⟨_,(!t397),rS_,H',⟨by first | omega | exact Nat.le_refl _⟩,⟨kB BK392⟩,⟨kB BK393⟩,⟨bB⟩⟩
        · have H':=amk H;clear H;have hnb20:=NB392_393.out;have hnc20:=NB393_392.out;obtain ⟨hcz21_0,hcz21_1,hfz21_0,hfz21_1⟩:=cells2 BK392.out;go_wp2_with (first | (refine gc_ 46 15 Try.func46 #[.agg #[.int .i64 a0_0, .int .i64 a0_1]] ?_;(with_reducible refine (spec_pzLock.calls k a0_0 a0_1 true _ A8.out).mono ?_);rintro e w22 ⟨rfl,hb⟩;refine ⟨_,rfl,?_⟩;replace BK392:=kb2 BK392 hb;replace BK393:=kb2 BK393 hb;replace HB:=hB2 HB hb;(try clear hb);obtain ⟨hcz23_0,hcz23_1,hfz23_0,hfz23_1⟩:=cells2 BK392.out) | (go_at_call 47;(with_reducible refine (spec_whCode.calls k a0_0 a0_1 a1 true _ A10.out).mono ?_);rintro e w24 ⟨rfl,hb⟩;replace BK392:=kb2 BK392 hb;replace BK393:=kb2 BK393 hb;replace HB:=hB2 HB hb;(try clear hb)) | (go_at_call 48;(with_reducible refine (spec_l1In.calls a2 0 6 false _ A12.out).mono ?_);rintro e w' ⟨rfl,⟨nd,rfl⟩⟩));go_meet
          case rel=>exact ⟨_,(true),rS_,H',⟨by first | omega | exact Nat.le_refl _⟩,⟨kB BK392⟩,⟨kB BK393⟩,⟨bB⟩⟩
      · have H':=amk H;clear H;have hnb25:=NB392_393.out;have hnc25:=NB393_392.out;obtain ⟨hcz26_0,hcz26_1,hfz26_0,hfz26_1⟩:=cells2 BK392.out;go_wp2_with (first | (refine gc_ 46 15 Try.func46 #[.agg #[.int .i64 a0_0, .int .i64 a0_1]] ?_;(with_reducible refine (spec_pzLock.calls k a0_0 a0_1 true _ A8.out).mono ?_);rintro e w27 ⟨rfl,hb⟩;refine ⟨_,rfl,?_⟩;replace BK392:=kb2 BK392 hb;replace BK393:=kb2 BK393 hb;replace HB:=hB2 HB hb;(try clear hb);obtain ⟨hcz28_0,hcz28_1,hfz28_0,hfz28_1⟩:=cells2 BK392.out) | (go_at_call 47;(with_reducible refine (spec_whCode.calls k a0_0 a0_1 a1 false _ A10.out).mono ?_);rintro e w29 ⟨rfl,hb⟩;replace BK392:=kb2 BK392 hb;replace BK393:=kb2 BK393 hb;replace HB:=hB2 HB hb;(try clear hb)));go_meet
        case rel=>exact ⟨_,(true),rS_,H',⟨by first | omega | exact Nat.le_refl _⟩,⟨kB BK392⟩,⟨kB BK393⟩,⟨bB⟩⟩
    · have H':=amk H;clear H;have hnb30:=NB392_393.out;have hnc30:=NB393_392.out;obtain ⟨hcz31_0,hcz31_1,hfz31_0,hfz31_1⟩:=cells2 BK392.out;go_wp2_with (first | (refine gc_ 46 15 Try.func46 #[.agg #[.int .i64 a0_0, .int .i64 a0_1]] ?_;(with_reducible refine (spec_pzLock.calls k a0_0 a0_1 false _ A8.out).mono ?_);rintro e w32 ⟨rfl,hb⟩;refine ⟨_,rfl,?_⟩;replace BK392:=kb2 BK392 hb;replace BK393:=kb2 BK393 hb;replace HB:=hB2 HB hb;(try clear hb)));go_meet
      case rel=>exact ⟨_,(true),rS_,H',⟨by first | omega | exact Nat.le_refl _⟩,⟨kB BK392⟩,⟨kB BK393⟩,⟨bB⟩⟩
  case rest =>
    clear HC5;(try clear c1);(try clear c2);(try clear p2);(try clear c3);(try clear c4);(try clear c7);(try clear c9);(try clear c11);(try clear c13);(try clear c15);(try clear c20);(try clear c25);(try clear c30);(try clear hcz16_0);(try clear hcz16_1);(try clear hcz18_0);(try clear hcz18_1);(try clear hcz21_0);(try clear hcz21_1);(try clear hcz23_0);(try clear hcz23_1);(try clear hcz26_0);(try clear hcz26_1);(try clear hcz28_0);(try clear hcz28_1);(try clear hcz31_0);(try clear hcz31_1);(try clear hfz16_0);(try clear hfz16_1);(try clear hfz18_0);(try clear hfz18_1);(try clear hfz21_0);(try clear hfz21_1);(try clear hfz23_0);(try clear hfz23_1);(try clear hfz26_0);(try clear hfz26_1);(try clear hfz28_0);(try clear hfz28_1);(try clear hfz31_0);(try clear hfz31_1);obtain ⟨kq,x32_4,rfl,HA,HJ4,BK392,BK393,HB⟩:=hcut
    cases kq with
    | zero=>exact absurd HA.out (by simp [spec_MakePuzzle.j0])
    | succ kj4 =>
      have H:=HA.out;clear HA;simp only [spec_MakePuzzle.j0] at H;replace H:=iteB H;obtain ⟨rfl,H⟩ | ⟨rfl,H⟩:=H
      · simp only [Option.some.injEq,Prod.mk.injEq] at H;obtain ⟨rfl,rfl,rfl,rfl⟩:=H;have hnb34:=NB393_392.out;have hnc34:=NB392_393.out;obtain ⟨hcz35_0,hcz35_1,hcz35_2,hfz35_0,hfz35_1,hfz35_2⟩:=cells3 BK393.out;go_wp2;refine bodyPost_ret (results_ct rfl _ _ gb393 30 #[.int .i64 0, .int .i64 0, .slice none 0 0] (0,0) _ rfl (kP BK393) Try.underlying30 rfl (by kernel_rfl)) rfl ?_;exact ⟨_,rF_,xN_,bB⟩
      · have H':=amk H;clear H;have hnb36:=NB392_393.out;have hnc36:=NB393_392.out;obtain ⟨hcz37_0,hcz37_1,hfz37_0,hfz37_1⟩:=cells2 BK392.out;go_wp2_with (first | ((with_reducible refine gate_dst (N:=10) rfl ?_);refine boxG_ 10 #[.int .i64 0, .int .i64 0, .slice none 0 0] 30 ?_;intro gb398 w38 hg BK398 hb;have GW398:=sZ HB hg;have GE398:=sZ HB hg;replace HB:=hB2 HB hb;have NB392_398:=neL BK392 hg;have NB398_392:=neR BK392 hg;replace BK392:=kb2 BK392 hb;have NB393_398:=neL BK393 hg;have NB398_393:=neR BK393 hg;replace BK393:=kb2 BK393 hb;clear hb hg;have hnb39:=NB398_392.out;have hnc39:=NB392_398.out;have hnb40:=NB398_393.out;have hnc40:=NB393_398.out;obtain ⟨hcz41_0,hcz41_1,hcz41_2,hfz41_0,hfz41_1,hfz41_2⟩:=cells3 BK398.out))
        go_loopg [2,11] kj4 (fun kq v2 v11 w'=> ∃ (x2_2:Int) (x11_2:Int) (x399002_2:List (S44)) (u399002:Value),v2 = .int .i64 x2_2∧v11 = .int .i64 x11_2∧Aside0 (spec_MakePuzzle.l0 kq a1 x2_2 x11_2 a0_0 a0_1 a0_0 a0_1 x399002_2=some (r1,r2,r3,r4))∧Aside0 (kq≤kj4)∧Aside0 (Kd.R k44 44 w' w.heap.size (fun _=>True) u399002 x399002_2)∧Aside0 (w'.heap[gb392]?=some (.cells #[.int .i64 a0_0, .int .i64 a0_1] 25 (0,0)))∧Aside0 (w'.heap[gb393]?=some (.cells #[.int .i64 0, .int .i64 0,(.slice none 0 0)] 30 (0,0)))∧Aside0 (w'.heap[gb398]?=some (.cells #[.int .i64 a0_0, .int .i64 a0_1,u399002] 30 (0,0)))∧Aside0 (Below w.heap.size w w'))
        case atStart=>exact ⟨(a2),(a3),(([]:List (S44))),(.slice none 0 0),rS_,rS_,H',⟨Nat.le_refl _⟩,⟨xN_⟩,⟨kB BK392⟩,⟨kB BK393⟩,⟨kP BK398⟩,⟨bB⟩⟩
        case round =>
          clear H';(try clear c1);(try clear c2);(try clear p2);(try clear c3);(try clear c4);(try clear c7);(try clear c9);(try clear c11);(try clear c13);(try clear c15);(try clear c20);(try clear c25);(try clear c30);(try clear c33);(try clear c34);(try clear c36);(try clear c39);(try clear c40);(try clear hcz16_0);(try clear hcz16_1);(try clear hcz18_0);(try clear hcz18_1);(try clear hcz21_0);(try clear hcz21_1);(try clear hcz23_0);(try clear hcz23_1);(try clear hcz26_0);(try clear hcz26_1);(try clear hcz28_0);(try clear hcz28_1);(try clear hcz31_0);(try clear hcz31_1);(try clear hcz35_0);(try clear hcz35_1);(try clear hcz35_2);(try clear hcz37_0);(try clear hcz37_1);(try clear hcz41_0);(try clear hcz41_1);(try clear hcz41_2);(try clear hfz16_0);(try clear hfz16_1);(try clear hfz18_0);(try clear hfz18_1);(try clear hfz21_0);(try clear hfz21_1);(try clear hfz23_0);(try clear hfz23_1);(try clear hfz26_0);(try clear hfz26_1);(try clear hfz28_0);(try clear hfz28_1);(try clear hfz31_0);(try clear hfz31_1);(try clear hfz35_0);(try clear hfz35_1);(try clear hfz35_2);(try clear hfz37_0);(try clear hfz37_1);(try clear hfz41_0);(try clear hfz41_1);(try clear hfz41_2);(try clear p2);obtain ⟨x2_2,x11_2,x399002_2,u399002,rfl,rfl,HA,HK2,HO_399002,BK392,BK393,BK398,HB⟩:=hrel
          cases gk with
          | zero=>exact absurd HA.out (by simp [spec_MakePuzzle.l0])
          | succ k2 =>
            have H:=HA.out;clear HA;simp only [spec_MakePuzzle.l0] at H
            by_cases c42:x2_2 > 0
            · rw [if_pos c42] at H;have c42b0:decide (0 < x2_2)=true:=decide_eq_true c42;clear c42;replace H:=bE H;obtain ⟨t399,A43,H⟩:=H
              by_cases c44:(Int.tmod t399 5)=1
              · rw [if_pos c44] at H;have c44b0:((Int.tmod t399 5) == 1)=true:=beq_iff_eq.mpr c44;have c44b1:((Int.tmod t399 5) != 1)=false:=bne_eq_false_iff_eq.mpr c44;clear c44;replace H:=bE H;obtain ⟨⟨t400,t401,t402⟩,A45,H⟩:=H;(try dsimp only at H)
                by_cases c46:x399002_2.length < 5864062014805
                · rw [if_pos c46] at H;have LMc46:=amk c46;clear c46;(try rw [Option.bind_some] at H);generalize hy403:((x399002_2 ++ [(⟨t400,t401,t402⟩:S44)]):List (S44))=y403 at H;have Ny403:=amk hy403.symm;clear hy403;have H':=amk H;clear H;(try go_wp2_with (first | (refine gc_ 49 42 Try.func49 #[.int .i64 x11_2] ?_;(with_reducible refine (spec_pzNext.calls x11_2 t399 _ A43.out).mono ?_);rintro e w' ⟨rfl,⟨nd,rfl⟩⟩;refine ⟨_,rfl,?_⟩;(try (rw [drewN_self wr];generalize hq_:World.drewN wr _=wr;replace HO_399002:Aside0 (Kd.R k44 44 wr w.heap.size (fun _=>True) u399002 x399002_2):=⟨by rw [←hq_];exact (oX HO_399002)⟩;replace BK392:Aside0 (wr.heap[gb392]?=some (.cells #[.int .i64 a0_0, .int .i64 a0_1] 25 (0,0))):=⟨by rw [←hq_];exact (kB BK392)⟩;replace BK393:Aside0 (wr.heap[gb393]?=some (.cells #[.int .i64 0, .int .i64 0, .slice none 0 0] 30 (0,0))):=⟨by rw [←hq_];exact (kB BK393)⟩;replace BK398:Aside0 (wr.heap[gb398]?=some (.cells #[.int .i64 a0_0, .int .i64 a0_1,u399002] 30 (0,0))):=⟨by rw [←hq_];exact (kB BK398)⟩;replace HB:Aside0 (Below w.heap.size w wr):=⟨by rw [←hq_];exact bB⟩;clear hq_)))));replace HO_399002:=amk (Kd.R_drew HO_399002.out);replace BK392:=amk (blk_drew BK392.out);replace BK393:=amk (blk_drew BK393.out);replace BK398:=amk (blk_drew BK398.out);replace HB:=amk (bd_ HB.out);refine start_ (n:=11) (S:=fun w'=>w'.cell? ⟨gb398,0,none⟩=some (.int .i64 a0_0)∧w'.cell? ⟨gb398,1,none⟩=some (.int .i64 a0_1)∧w'.cell? ⟨gb398,2,none⟩=some (u399002)∧w'.cell? ⟨gb392,0,none⟩=some (.int .i64 a0_0)∧w'.cell? ⟨gb392,1,none⟩=some (.int .i64 a0_1)) (ds:=[10]) (bA 11 0) (by kernel_rfl) rfl rfl ⟨(blk_cell BK398.out 0).trans rfl,(blk_cell BK398.out 1).trans rfl,(blk_cell BK398.out 2).trans rfl,(blk_cell BK392.out 0).trans rfl,(blk_cell BK392.out 1).trans rfl⟩ (fun hHeld=>?_);refine with_tabW spec_MakePuzzle.tab17 spec_MakePuzzle.bits17 (fun HT_ HW_=>?_);generalize wr.drew=w47 at HO_399002 BK392 BK393 BK398 HB hHeld ⊢;refine pU_ HT_ 0 (some 65) (bA 11 1) ?_;refine pU_ HT_ 3 (some 68) (bA 11 9) ?_;refine pU_ HT_ 4 (some 69) (bA 11 25) ?_;refine pU_ HT_ 5 (some 70) (bA 11 57) ?_;refine tK_ HT_ HW_ hHeld 1 (some 66) (bA 11 59) ?_;refine tK_ HT_ HW_ hHeld 2 (some 67) (bA 11 63) ?_;refine oN_ HT_ 6 (some 71) (bA 11 127) (fun K hK=>?_);refine gs_ Try.func51 #[.agg #[.int .i64 a0_0, .int .i64 a0_1], .int .i64 (Int.tmod t399 5), .int .i64 0, .string a1] ?_;(with_reducible refine (spec_pzOf.calls k2 a0_0 a0_1 (Int.tmod t399 5) 0 a1 t400 t401 t402 _ A45.out).mono ?_);rintro e w48 ⟨rfl,hb⟩;refine ⟨_,rfl,?_⟩;replace HO_399002:=amk (Kd.R_below (oX HO_399002) hb);replace BK392:=kb2 BK392 hb;replace BK393:=kb2 BK393 hb;replace BK398:=kb2 BK398 hb;replace HB:=hB2 HB hb;(try clear hb);refine hK.out _ _ hC_ (fun hHeld=>?_);clear hK K;refine nN_ (some 71) ?_;refine oN_ HT_ 7 (some 72) (bA 11 255) (fun K hK=>?_);refine value_ (w1:=?_) (v:=?_) (by rfl) rfl ?_ ?_;rotate_left 2
                  · go_simp
                    constructor
                    · rfl
                    · rfl
                  refine hK.out _ _ ⟨(blk_cell (ka_ BK398.out _) 0).trans rfl,(blk_cell (ka_ BK398.out _) 1).trans rfl,(blk_cell (ka_ BK398.out _) 2).trans rfl,(blk_cell (ka_ BK392.out _) 0).trans rfl,(blk_cell (ka_ BK392.out _) 1).trans rfl⟩ (fun hHeld=>?_);clear hK K;refine nN_ (some 72) ?_;refine oN_ HT_ 8 (some 73) (bA 11 511) (fun K hK=>?_);refine Kd.R_append_step k44 (w0:=w) w.heap.size (by rfl) (.tmp 66) (.tmp 72) 28 44 (.agg #[(.int .i64 0),(.int .i64 0),(.int .i64 0)]) 24 rfl Try.underlying28 info44 rfl (by decide) (by omega) u399002 x399002_2 (⟨t400,t401,t402⟩:S44) [.int .i64 t400, .int .i64 t401, .int .i64 t402] (fun _=>True) (fun _=>False) rfl rfl ?aP (fun _ hk=>hk.elim) ?aF ?aO ?aB ?aS ?aL ?_;(case aP=>exact k44_mkM _ _ _ (⟨t400,t401,t402⟩:S44));(case aB=>exact bB);(case aF=>exact (fun _ _=>trivial));(case aO=>exact (oX HO_399002));(case aS=>exact (below_size bB));(case aL=>have:=LMc46.out;omega);intro v404 w49 ho hb hg hat;rw [←Ny403.out] at ho;replace BK392:=bG BK392 hg (Kd.R_ne HO_399002.out BK392.out (by decide));replace BK393:=bG BK393 hg (Kd.R_ne HO_399002.out BK393.out (by decide));replace BK398:=bG BK398 hg (Kd.R_ne HO_399002.out BK398.out (by decide));replace HB:=amk (hb);have HO405:=amk (ho);clear HO_399002;clear ho hb hg hat;obtain ⟨Ao50,co50,eo50⟩:=Kd.R_slice HO405.out;(first | subst eo50 | (injection eo50 with f1_ f2_ f3_;have f4_:=f1_.symm;have f5_:=f3_.symm;clear f1_ f2_ f3_;subst f4_;subst f5_));refine hK.out _ _ hC_ (fun hHeld=>?_);clear hK K;refine nN_ (some 73) ?_;refine pU_ HT_ 9 (some 74) (bA 11 1023) ?_;refine last_ (i:=10) (N:=none) (bA 11 2047) rfl rfl (one_of HT_.out (by kernel_rfl)) (by decide) (fun K hK=>?_);have hs51:w49.cell? ⟨gb398,2,none⟩=some (u399002):=(blk_cell BK398.out 2).trans rfl;have hfs51:=blk_frozen BK398.out 2;have hns51_0:=NB392_398.out;have hns51_1:=NB393_398.out;have hms51_0:=NB398_392.out;have hms51_1:=NB398_393.out;refine skip_ (w1:=?_) (by rfl) rfl ?_ ?_;rotate_left
                  · go_simp
                    rfl
                  refine hK.out _ _ ?_;clear hK K;refine done_ (done_of HT_.out (by kernel_rfl)) ?_;(try go_wp2);go_roundg k2
                  case measure=>have:=HJ4.out;have:=HK2.out;omega
                  case rel=>exact ⟨(wrap64 (x2_2 - 1)),(t399),(y403),(.slice Ao50 y403.length co50),rS_,rS_,H',⟨by have:=HJ4.out;have:=HK2.out;omega⟩,⟨by (with_reducible repeat (first | apply Kd.R_alloc | apply Kd.R_drewN | apply Kd.R_drew));exact Kd.R_mono (Kd.R_far (p:=⟨gb398,2,none⟩) (Kd.R_types HO405.out BK398.out (by decide)) (fun _ hk=>hk.2) (.slice Ao50 y403.length co50)) (fun _ hk=>trivial)⟩,⟨kB BK392⟩,⟨kB BK393⟩,⟨kP BK398⟩,⟨bB⟩⟩
                · rw [if_neg c46] at H;exact absurd H (by simp)
              · rw [if_neg c44] at H;have c44b0:((Int.tmod t399 5) == 1)=false:=beq_eq_false_iff_ne.mpr c44;have c44b1:((Int.tmod t399 5) != 1)=true:=bne_iff_ne.mpr c44;replace H:=bE H;obtain ⟨t406,A52,H⟩:=H
                by_cases c53:(Int.tmod t399 5)=0
                · rw [if_pos c53] at H;have c53b0:((Int.tmod t399 5) == 0)=true:=beq_iff_eq.mpr c53;have c53b1:((Int.tmod t399 5) != 0)=false:=bne_eq_false_iff_eq.mpr c53;clear c53
                  by_cases c54:a0_0=0
                  · rw [if_pos c54] at H;exact absurd H (by simp)
                  · rw [if_neg c54] at H;have c54b0:(a0_0 == 0)=false:=beq_eq_false_iff_ne.mpr c54;have c54b1:(a0_0 != 0)=true:=bne_iff_ne.mpr c54;replace H:=bE H;obtain ⟨⟨t407,t408,t409⟩,A55,H⟩:=H;(try dsimp only at H)
                    by_cases c56:x399002_2.length < 5864062014805
                    · rw [if_pos c56] at H;have LMc56:=amk c56;clear c56;(try rw [Option.bind_some] at H);generalize hy410:((x399002_2 ++ [(⟨t407,t408,t409⟩:S44)]):List (S44))=y410 at H;have Ny410:=amk hy410.symm;clear hy410;have H':=amk H;clear H;(try go_wp2_with (first | (refine gc_ 49 42 Try.func49 #[.int .i64 x11_2] ?_;(with_reducible refine (spec_pzNext.calls x11_2 t399 _ A43.out).mono ?_);rintro e w' ⟨rfl,⟨nd,rfl⟩⟩;refine ⟨_,rfl,?_⟩;(try (rw [drewN_self wr];generalize hq_:World.drewN wr _=wr;replace HO_399002:Aside0 (Kd.R k44 44 wr w.heap.size (fun _=>True) u399002 x399002_2):=⟨by rw [←hq_];exact (oX HO_399002)⟩;replace BK392:Aside0 (wr.heap[gb392]?=some (.cells #[.int .i64 a0_0, .int .i64 a0_1] 25 (0,0))):=⟨by rw [←hq_];exact (kB BK392)⟩;replace BK393:Aside0 (wr.heap[gb393]?=some (.cells #[.int .i64 0, .int .i64 0, .slice none 0 0] 30 (0,0))):=⟨by rw [←hq_];exact (kB BK393)⟩;replace BK398:Aside0 (wr.heap[gb398]?=some (.cells #[.int .i64 a0_0, .int .i64 a0_1,u399002] 30 (0,0))):=⟨by rw [←hq_];exact (kB BK398)⟩;replace HB:Aside0 (Below w.heap.size w wr):=⟨by rw [←hq_];exact bB⟩;clear hq_))) | (refine gc_ 49 48 Try.func49 #[.int .i64 t399] ?_;(with_reducible refine (spec_pzNext.calls t399 t406 _ A52.out).mono ?_);rintro e w' ⟨rfl,⟨nd,rfl⟩⟩;refine ⟨_,rfl,?_⟩;(try (rw [drewN_self wr];generalize hq_:World.drewN wr _=wr;replace HO_399002:Aside0 (Kd.R k44 44 wr w.heap.size (fun _=>True) u399002 x399002_2):=⟨by rw [←hq_];exact (oX HO_399002)⟩;replace BK392:Aside0 (wr.heap[gb392]?=some (.cells #[.int .i64 a0_0, .int .i64 a0_1] 25 (0,0))):=⟨by rw [←hq_];exact (kB BK392)⟩;replace BK393:Aside0 (wr.heap[gb393]?=some (.cells #[.int .i64 0, .int .i64 0, .slice none 0 0] 30 (0,0))):=⟨by rw [←hq_];exact (kB BK393)⟩;replace BK398:Aside0 (wr.heap[gb398]?=some (.cells #[.int .i64 a0_0, .int .i64 a0_1,u399002] 30 (0,0))):=⟨by rw [←hq_];exact (kB BK398)⟩;replace HB:Aside0 (Below w.heap.size w wr):=⟨by rw [←hq_];exact bB⟩;clear hq_));have hnb57:=NB392_393.out;have hnc57:=NB393_392.out;have hnb58:=NB392_398.out;have hnc58:=NB398_392.out;obtain ⟨hcz59_0,hcz59_1,hfz59_0,hfz59_1⟩:=cells2 BK392.out)));replace HO_399002:=amk (Kd.R_drew HO_399002.out);replace BK392:=amk (blk_drew BK392.out);replace BK393:=amk (blk_drew BK393.out);replace BK398:=amk (blk_drew BK398.out);replace HB:=amk (bd_ HB.out);refine start_ (n:=11) (S:=fun w'=>w'.cell? ⟨gb398,0,none⟩=some (.int .i64 a0_0)∧w'.cell? ⟨gb398,1,none⟩=some (.int .i64 a0_1)∧w'.cell? ⟨gb398,2,none⟩=some (u399002)∧w'.cell? ⟨gb392,0,none⟩=some (.int .i64 a0_0)∧w'.cell? ⟨gb392,1,none⟩=some (.int .i64 a0_1)) (ds:=[10]) (bA 11 0) (by kernel_rfl) rfl rfl ⟨(blk_cell BK398.out 0).trans rfl,(blk_cell BK398.out 1).trans rfl,(blk_cell BK398.out 2).trans rfl,(blk_cell BK392.out 0).trans rfl,(blk_cell BK392.out 1).trans rfl⟩ (fun hHeld=>?_);refine with_tabW spec_MakePuzzle.tab17 spec_MakePuzzle.bits17 (fun HT_ HW_=>?_);generalize wr.drew=w60 at HO_399002 BK392 BK393 BK398 HB hHeld ⊢;refine pU_ HT_ 0 (some 65) (bA 11 1) ?_;refine pU_ HT_ 3 (some 68) (bA 11 9) ?_;refine pU_ HT_ 4 (some 69) (bA 11 25) ?_;refine pU_ HT_ 5 (some 70) (bA 11 57) ?_;refine tK_ HT_ HW_ hHeld 1 (some 66) (bA 11 59) ?_;refine tK_ HT_ HW_ hHeld 2 (some 67) (bA 11 63) ?_;refine oN_ HT_ 6 (some 71) (bA 11 127) (fun K hK=>?_);refine gs_ Try.func51 #[.agg #[.int .i64 a0_0, .int .i64 a0_1], .int .i64 (Int.tmod t399 5), .int .i64 (Int.tmod t406 a0_0), .string a1] ?_;(with_reducible refine (spec_pzOf.calls k2 a0_0 a0_1 (Int.tmod t399 5) (Int.tmod t406 a0_0) a1 t407 t408 t409 _ A55.out).mono ?_);rintro e w61 ⟨rfl,hb⟩;refine ⟨_,rfl,?_⟩;replace HO_399002:=amk (Kd.R_below (oX HO_399002) hb);replace BK392:=kb2 BK392 hb;replace BK393:=kb2 BK393 hb;replace BK398:=kb2 BK398 hb;replace HB:=hB2 HB hb;(try clear hb);refine hK.out _ _ hC_ (fun hHeld=>?_);clear hK K;refine nN_ (some 71) ?_;refine oN_ HT_ 7 (some 72) (bA 11 255) (fun K hK=>?_);refine value_ (w1:=?_) (v:=?_) (by rfl) rfl ?_ ?_;rotate_left 2
                      · go_simp
                        constructor
                        · rfl
                        · rfl
                      refine hK.out _ _ ⟨(blk_cell (ka_ BK398.out _) 0).trans rfl,(blk_cell (ka_ BK398.out _) 1).trans rfl,(blk_cell (ka_ BK398.out _) 2).trans rfl,(blk_cell (ka_ BK392.out _) 0).trans rfl,(blk_cell (ka_ BK392.out _) 1).trans rfl⟩ (fun hHeld=>?_);clear hK K;refine nN_ (some 72) ?_;refine oN_ HT_ 8 (some 73) (bA 11 511) (fun K hK=>?_);refine Kd.R_append_step k44 (w0:=w) w.heap.size (by rfl) (.tmp 66) (.tmp 72) 28 44 (.agg #[(.int .i64 0),(.int .i64 0),(.int .i64 0)]) 24 rfl Try.underlying28 info44 rfl (by decide) (by omega) u399002 x399002_2 (⟨t407,t408,t409⟩:S44) [.int .i64 t407, .int .i64 t408, .int .i64 t409] (fun _=>True) (fun _=>False) rfl rfl ?aP (fun _ hk=>hk.elim) ?aF ?aO ?aB ?aS ?aL ?_;(case aP=>exact k44_mkM _ _ _ (⟨t407,t408,t409⟩:S44));(case aB=>exact bB);(case aF=>exact (fun _ _=>trivial));(case aO=>exact (oX HO_399002));(case aS=>exact (below_size bB));(case aL=>have:=LMc56.out;omega);intro v411 w62 ho hb hg hat;rw [←Ny410.out] at ho;replace BK392:=bG BK392 hg (Kd.R_ne HO_399002.out BK392.out (by decide));replace BK393:=bG BK393 hg (Kd.R_ne HO_399002.out BK393.out (by decide));replace BK398:=bG BK398 hg (Kd.R_ne HO_399002.out BK398.out (by decide));replace HB:=amk (hb);have HO412:=amk (ho);clear HO_399002;clear ho hb hg hat;obtain ⟨Ao63,co63,eo63⟩:=Kd.R_slice HO412.out;(first | subst eo63 | (injection eo63 with f1_ f2_ f3_;have f4_:=f1_.symm;have f5_:=f3_.symm;clear f1_ f2_ f3_;subst f4_;subst f5_));refine hK.out _ _ hC_ (fun hHeld=>?_);clear hK K;refine nN_ (some 73) ?_;refine pU_ HT_ 9 (some 74) (bA 11 1023) ?_;refine last_ (i:=10) (N:=none) (bA 11 2047) rfl rfl (one_of HT_.out (by kernel_rfl)) (by decide) (fun K hK=>?_);have hs64:w62.cell? ⟨gb398,2,none⟩=some (u399002):=(blk_cell BK398.out 2).trans rfl;have hfs64:=blk_frozen BK398.out 2;have hns64_0:=NB392_398.out;have hns64_1:=NB393_398.out;have hms64_0:=NB398_392.out;have hms64_1:=NB398_393.out;refine skip_ (w1:=?_) (by rfl) rfl ?_ ?_;rotate_left
                      · go_simp
                        rfl
                      refine hK.out _ _ ?_;clear hK K;refine done_ (done_of HT_.out (by kernel_rfl)) ?_;(try go_wp2);go_roundg k2
                      case measure=>have:=HJ4.out;have:=HK2.out;omega
                      case rel=>exact ⟨(wrap64 (x2_2 - 1)),(t406),(y410),(.slice Ao63 y410.length co63),rS_,rS_,H',⟨by have:=HJ4.out;have:=HK2.out;omega⟩,⟨by (with_reducible repeat (first | apply Kd.R_alloc | apply Kd.R_drewN | apply Kd.R_drew));exact Kd.R_mono (Kd.R_far (p:=⟨gb398,2,none⟩) (Kd.R_types HO412.out BK398.out (by decide)) (fun _ hk=>hk.2) (.slice Ao63 y410.length co63)) (fun _ hk=>trivial)⟩,⟨kB BK392⟩,⟨kB BK393⟩,⟨kP BK398⟩,⟨bB⟩⟩
                    · rw [if_neg c56] at H;exact absurd H (by simp)
                · rw [if_neg c53] at H;have c53b0:((Int.tmod t399 5) == 0)=false:=beq_eq_false_iff_ne.mpr c53;have c53b1:((Int.tmod t399 5) != 0)=true:=bne_iff_ne.mpr c53
                  by_cases c65:(Int.tmod t399 5)=4
                  · rw [if_pos c65] at H;have c65b0:((Int.tmod t399 5) == 4)=true:=beq_iff_eq.mpr c65;have c65b1:((Int.tmod t399 5) != 4)=false:=bne_eq_false_iff_eq.mpr c65;clear c65;replace H:=bE H;obtain ⟨⟨t413,t414,t415⟩,A66,H⟩:=H;(try dsimp only at H)
                    by_cases c67:x399002_2.length < 5864062014805
                    · rw [if_pos c67] at H;have LMc67:=amk c67;clear c67;(try rw [Option.bind_some] at H);generalize hy416:((x399002_2 ++ [(⟨t413,t414,t415⟩:S44)]):List (S44))=y416 at H;have Ny416:=amk hy416.symm;clear hy416;have H':=amk H;clear H;(try go_wp2_with (first | (refine gc_ 49 42 Try.func49 #[.int .i64 x11_2] ?_;(with_reducible refine (spec_pzNext.calls x11_2 t399 _ A43.out).mono ?_);rintro e w' ⟨rfl,⟨nd,rfl⟩⟩;refine ⟨_,rfl,?_⟩;(try (rw [drewN_self wr];generalize hq_:World.drewN wr _=wr;replace HO_399002:Aside0 (Kd.R k44 44 wr w.heap.size (fun _=>True) u399002 x399002_2):=⟨by rw [←hq_];exact (oX HO_399002)⟩;replace BK392:Aside0 (wr.heap[gb392]?=some (.cells #[.int .i64 a0_0, .int .i64 a0_1] 25 (0,0))):=⟨by rw [←hq_];exact (kB BK392)⟩;replace BK393:Aside0 (wr.heap[gb393]?=some (.cells #[.int .i64 0, .int .i64 0, .slice none 0 0] 30 (0,0))):=⟨by rw [←hq_];exact (kB BK393)⟩;replace BK398:Aside0 (wr.heap[gb398]?=some (.cells #[.int .i64 a0_0, .int .i64 a0_1,u399002] 30 (0,0))):=⟨by rw [←hq_];exact (kB BK398)⟩;replace HB:Aside0 (Below w.heap.size w wr):=⟨by rw [←hq_];exact bB⟩;clear hq_))) | (refine gc_ 49 48 Try.func49 #[.int .i64 t399] ?_;(with_reducible refine (spec_pzNext.calls t399 t406 _ A52.out).mono ?_);rintro e w' ⟨rfl,⟨nd,rfl⟩⟩;refine ⟨_,rfl,?_⟩;(try (rw [drewN_self wr];generalize hq_:World.drewN wr _=wr;replace HO_399002:Aside0 (Kd.R k44 44 wr w.heap.size (fun _=>True) u399002 x399002_2):=⟨by rw [←hq_];exact (oX HO_399002)⟩;replace BK392:Aside0 (wr.heap[gb392]?=some (.cells #[.int .i64 a0_0, .int .i64 a0_1] 25 (0,0))):=⟨by rw [←hq_];exact (kB BK392)⟩;replace BK393:Aside0 (wr.heap[gb393]?=some (.cells #[.int .i64 0, .int .i64 0, .slice none 0 0] 30 (0,0))):=⟨by rw [←hq_];exact (kB BK393)⟩;replace BK398:Aside0 (wr.heap[gb398]?=some (.cells #[.int .i64 a0_0, .int .i64 a0_1,u399002] 30 (0,0))):=⟨by rw [←hq_];exact (kB BK398)⟩;replace HB:Aside0 (Below w.heap.size w wr):=⟨by rw [←hq_];exact bB⟩;clear hq_)))));replace HO_399002:=amk (Kd.R_drew HO_399002.out);replace BK392:=amk (blk_drew BK392.out);replace BK393:=amk (blk_drew BK393.out);replace BK398:=amk (blk_drew BK398.out);replace HB:=amk (bd_ HB.out);refine start_ (n:=11) (S:=fun w'=>w'.cell? ⟨gb398,0,none⟩=some (.int .i64 a0_0)∧w'.cell? ⟨gb398,1,none⟩=some (.int .i64 a0_1)∧w'.cell? ⟨gb398,2,none⟩=some (u399002)∧w'.cell? ⟨gb392,0,none⟩=some (.int .i64 a0_0)∧w'.cell? ⟨gb392,1,none⟩=some (.int .i64 a0_1)) (ds:=[10]) (bA 11 0) (by kernel_rfl) rfl rfl ⟨(blk_cell BK398.out 0).trans rfl,(blk_cell BK398.out 1).trans rfl,(blk_cell BK398.out 2).trans rfl,(blk_cell BK392.out 0).trans rfl,(blk_cell BK392.out 1).trans rfl⟩ (fun hHeld=>?_);refine with_tabW spec_MakePuzzle.tab17 spec_MakePuzzle.bits17 (fun HT_ HW_=>?_);generalize wr.drew=w68 at HO_399002 BK392 BK393 BK398 HB hHeld ⊢;refine pU_ HT_ 0 (some 65) (bA 11 1) ?_;refine pU_ HT_ 3 (some 68) (bA 11 9) ?_;refine pU_ HT_ 4 (some 69) (bA 11 25) ?_;refine pU_ HT_ 5 (some 70) (bA 11 57) ?_;refine tK_ HT_ HW_ hHeld 1 (some 66) (bA 11 59) ?_;refine tK_ HT_ HW_ hHeld 2 (some 67) (bA 11 63) ?_;refine oN_ HT_ 6 (some 71) (bA 11 127) (fun K hK=>?_);refine gs_ Try.func51 #[.agg #[.int .i64 a0_0, .int .i64 a0_1], .int .i64 (Int.tmod t399 5), .int .i64 (wrap64 ((Int.tmod t406 8) + 2)), .string a1] ?_;(with_reducible refine (spec_pzOf.calls k2 a0_0 a0_1 (Int.tmod t399 5) (wrap64 ((Int.tmod t406 8) + 2)) a1 t413 t414 t415 _ A66.out).mono ?_);rintro e w69 ⟨rfl,hb⟩;refine ⟨_,rfl,?_⟩;replace HO_399002:=amk (Kd.R_below (oX HO_399002) hb);replace BK392:=kb2 BK392 hb;replace BK393:=kb2 BK393 hb;replace BK398:=kb2 BK398 hb;replace HB:=hB2 HB hb;(try clear hb);refine hK.out _ _ hC_ (fun hHeld=>?_);clear hK K;refine nN_ (some 71) ?_;refine oN_ HT_ 7 (some 72) (bA 11 255) (fun K hK=>?_);refine value_ (w1:=?_) (v:=?_) (by rfl) rfl ?_ ?_;rotate_left 2
                      · go_simp
                        constructor
                        · rfl
                        · rfl
                      refine hK.out _ _ ⟨(blk_cell (ka_ BK398.out _) 0).trans rfl,(blk_cell (ka_ BK398.out _) 1).trans rfl,(blk_cell (ka_ BK398.out _) 2).trans rfl,(blk_cell (ka_ BK392.out _) 0).trans rfl,(blk_cell (ka_ BK392.out _) 1).trans rfl⟩ (fun hHeld=>?_);clear hK K;refine nN_ (some 72) ?_;refine oN_ HT_ 8 (some 73) (bA 11 511) (fun K hK=>?_);refine Kd.R_append_step k44 (w0:=w) w.heap.size (by rfl) (.tmp 66) (.tmp 72) 28 44 (.agg #[(.int .i64 0),(.int .i64 0),(.int .i64 0)]) 24 rfl Try.underlying28 info44 rfl (by decide) (by omega) u399002 x399002_2 (⟨t413,t414,t415⟩:S44) [.int .i64 t413, .int .i64 t414, .int .i64 t415] (fun _=>True) (fun _=>False) rfl rfl ?aP (fun _ hk=>hk.elim) ?aF ?aO ?aB ?aS ?aL ?_;(case aP=>exact k44_mkM _ _ _ (⟨t413,t414,t415⟩:S44));(case aB=>exact bB);(case aF=>exact (fun _ _=>trivial));(case aO=>exact (oX HO_399002));(case aS=>exact (below_size bB));(case aL=>have:=LMc67.out;omega);intro v417 w70 ho hb hg hat;rw [←Ny416.out] at ho;replace BK392:=bG BK392 hg (Kd.R_ne HO_399002.out BK392.out (by decide));replace BK393:=bG BK393 hg (Kd.R_ne HO_399002.out BK393.out (by decide));replace BK398:=bG BK398 hg (Kd.R_ne HO_399002.out BK398.out (by decide));replace HB:=amk (hb);have HO418:=amk (ho);clear HO_399002;clear ho hb hg hat;obtain ⟨Ao71,co71,eo71⟩:=Kd.R_slice HO418.out;(first | subst eo71 | (injection eo71 with f1_ f2_ f3_;have f4_:=f1_.symm;have f5_:=f3_.symm;clear f1_ f2_ f3_;subst f4_;subst f5_));refine hK.out _ _ hC_ (fun hHeld=>?_);clear hK K;refine nN_ (some 73) ?_;refine pU_ HT_ 9 (some 74) (bA 11 1023) ?_;refine last_ (i:=10) (N:=none) (bA 11 2047) rfl rfl (one_of HT_.out (by kernel_rfl)) (by decide) (fun K hK=>?_);have hs72:w70.cell? ⟨gb398,2,none⟩=some (u399002):=(blk_cell BK398.out 2).trans rfl;have hfs72:=blk_frozen BK398.out 2;have hns72_0:=NB392_398.out;have hns72_1:=NB393_398.out;have hms72_0:=NB398_392.out;have hms72_1:=NB398_393.out;refine skip_ (w1:=?_) (by rfl) rfl ?_ ?_;rotate_left
                      · go_simp
                        rfl
                      refine hK.out _ _ ?_;clear hK K;refine done_ (done_of HT_.out (by kernel_rfl)) ?_;(try go_wp2);go_roundg k2
                      case measure=>have:=HJ4.out;have:=HK2.out;omega
                      case rel=>exact ⟨(wrap64 (x2_2 - 1)),(t406),(y416),(.slice Ao71 y416.length co71),rS_,rS_,H',⟨by have:=HJ4.out;have:=HK2.out;omega⟩,⟨by (with_reducible repeat (first | apply Kd.R_alloc | apply Kd.R_drewN | apply Kd.R_drew));exact Kd.R_mono (Kd.R_far (p:=⟨gb398,2,none⟩) (Kd.R_types HO418.out BK398.out (by decide)) (fun _ hk=>hk.2) (.slice Ao71 y416.length co71)) (fun _ hk=>trivial)⟩,⟨kB BK392⟩,⟨kB BK393⟩,⟨kP BK398⟩,⟨bB⟩⟩
                    · rw [if_neg c67] at H;exact absurd H (by simp)
                  · rw [if_neg c65] at H;have c65b0:((Int.tmod t399 5) == 4)=false:=beq_eq_false_iff_ne.mpr c65;have c65b1:((Int.tmod t399 5) != 4)=true:=bne_iff_ne.mpr c65;replace H:=bE H;obtain ⟨t419,A73,H⟩:=H
                    by_cases c74:t419=0
                    · rw [if_pos c74] at H;exact absurd H (by simp)
                    · rw [if_neg c74] at H;have c74b0:(t419 == 0)=false:=beq_eq_false_iff_ne.mpr c74;have c74b1:(t419 != 0)=true:=bne_iff_ne.mpr c74;replace H:=bE H;obtain ⟨⟨t420,t421,t422⟩,A75,H⟩:=H;(try dsimp only at H)
                      by_cases c76:x399002_2.length < 5864062014805
                      · rw [if_pos c76] at H;have LMc76:=amk c76;clear c76;(try rw [Option.bind_some] at H);generalize hy423:((x399002_2 ++ [(⟨t420,t421,t422⟩:S44)]):List (S44))=y423 at H;have Ny423:=amk hy423.symm;clear hy423;have H':=amk H;clear H;(try go_wp2_with (first | (refine gc_ 49 42 Try.func49 #[.int .i64 x11_2] ?_;(with_reducible refine (spec_pzNext.calls x11_2 t399 _ A43.out).mono ?_);rintro e w' ⟨rfl,⟨nd,rfl⟩⟩;refine ⟨_,rfl,?_⟩;(try (rw [drewN_self wr];generalize hq_:World.drewN wr _=wr;replace HO_399002:Aside0 (Kd.R k44 44 wr w.heap.size (fun _=>True) u399002 x399002_2):=⟨by rw [←hq_];exact (oX HO_399002)⟩;replace BK392:Aside0 (wr.heap[gb392]?=some (.cells #[.int .i64 a0_0, .int .i64 a0_1] 25 (0,0))):=⟨by rw [←hq_];exact (kB BK392)⟩;replace BK393:Aside0 (wr.heap[gb393]?=some (.cells #[.int .i64 0, .int .i64 0, .slice none 0 0] 30 (0,0))):=⟨by rw [←hq_];exact (kB BK393)⟩;replace BK398:Aside0 (wr.heap[gb398]?=some (.cells #[.int .i64 a0_0, .int .i64 a0_1,u399002] 30 (0,0))):=⟨by rw [←hq_];exact (kB BK398)⟩;replace HB:Aside0 (Below w.heap.size w wr):=⟨by rw [←hq_];exact bB⟩;clear hq_))) | (refine gc_ 49 48 Try.func49 #[.int .i64 t399] ?_;(with_reducible refine (spec_pzNext.calls t399 t406 _ A52.out).mono ?_);rintro e w' ⟨rfl,⟨nd,rfl⟩⟩;refine ⟨_,rfl,?_⟩;(try (rw [drewN_self wr];generalize hq_:World.drewN wr _=wr;replace HO_399002:Aside0 (Kd.R k44 44 wr w.heap.size (fun _=>True) u399002 x399002_2):=⟨by rw [←hq_];exact (oX HO_399002)⟩;replace BK392:Aside0 (wr.heap[gb392]?=some (.cells #[.int .i64 a0_0, .int .i64 a0_1] 25 (0,0))):=⟨by rw [←hq_];exact (kB BK392)⟩;replace BK393:Aside0 (wr.heap[gb393]?=some (.cells #[.int .i64 0, .int .i64 0, .slice none 0 0] 30 (0,0))):=⟨by rw [←hq_];exact (kB BK393)⟩;replace BK398:Aside0 (wr.heap[gb398]?=some (.cells #[.int .i64 a0_0, .int .i64 a0_1,u399002] 30 (0,0))):=⟨by rw [←hq_];exact (kB BK398)⟩;replace HB:Aside0 (Below w.heap.size w wr):=⟨by rw [←hq_];exact bB⟩;clear hq_));have hnb77:=NB392_393.out;have hnc77:=NB393_392.out;have hnb78:=NB392_398.out;have hnc78:=NB398_392.out;obtain ⟨hcz79_0,hcz79_1,hfz79_0,hfz79_1⟩:=cells2 BK392.out) | (refine gc_ 50 52 Try.func50 #[.agg #[.int .i64 a0_0, .int .i64 a0_1]] ?_;(with_reducible refine (spec_whCount.calls k2 a0_0 a0_1 t419 _ A73.out).mono ?_);rintro e w80 ⟨rfl,hb⟩;refine ⟨_,rfl,?_⟩;replace HO_399002:=amk (Kd.R_below (oX HO_399002) hb);replace BK392:=kb2 BK392 hb;replace BK393:=kb2 BK393 hb;replace BK398:=kb2 BK398 hb;replace HB:=hB2 HB hb;(try clear hb))));replace HO_399002:=amk (Kd.R_drew HO_399002.out);replace BK392:=amk (blk_drew BK392.out);replace BK393:=amk (blk_drew BK393.out);replace BK398:=amk (blk_drew BK398.out);replace HB:=amk (bd_ HB.out);refine start_ (n:=11) (S:=fun w'=>w'.cell? ⟨gb398,0,none⟩=some (.int .i64 a0_0)∧w'.cell? ⟨gb398,1,none⟩=some (.int .i64 a0_1)∧w'.cell? ⟨gb398,2,none⟩=some (u399002)∧w'.cell? ⟨gb392,0,none⟩=some (.int .i64 a0_0)∧w'.cell? ⟨gb392,1,none⟩=some (.int .i64 a0_1)) (ds:=[10]) (bA 11 0) (by kernel_rfl) rfl rfl ⟨(blk_cell BK398.out 0).trans rfl,(blk_cell BK398.out 1).trans rfl,(blk_cell BK398.out 2).trans rfl,(blk_cell BK392.out 0).trans rfl,(blk_cell BK392.out 1).trans rfl⟩ (fun hHeld=>?_);refine with_tabW spec_MakePuzzle.tab17 spec_MakePuzzle.bits17 (fun HT_ HW_=>?_);generalize w80.drew=w81 at HO_399002 BK392 BK393 BK398 HB hHeld ⊢;refine pU_ HT_ 0 (some 65) (bA 11 1) ?_;refine pU_ HT_ 3 (some 68) (bA 11 9) ?_;refine pU_ HT_ 4 (some 69) (bA 11 25) ?_;refine pU_ HT_ 5 (some 70) (bA 11 57) ?_;refine tK_ HT_ HW_ hHeld 1 (some 66) (bA 11 59) ?_;refine tK_ HT_ HW_ hHeld 2 (some 67) (bA 11 63) ?_;refine oN_ HT_ 6 (some 71) (bA 11 127) (fun K hK=>?_);refine gs_ Try.func51 #[.agg #[.int .i64 a0_0, .int .i64 a0_1], .int .i64 (Int.tmod t399 5), .int .i64 (Int.tmod t406 t419), .string a1] ?_;(with_reducible refine (spec_pzOf.calls k2 a0_0 a0_1 (Int.tmod t399 5) (Int.tmod t406 t419) a1 t420 t421 t422 _ A75.out).mono ?_);rintro e w82 ⟨rfl,hb⟩;refine ⟨_,rfl,?_⟩;replace HO_399002:=amk (Kd.R_below (oX HO_399002) hb);replace BK392:=kb2 BK392 hb;replace BK393:=kb2 BK393 hb;replace BK398:=kb2 BK398 hb;replace HB:=hB2 HB hb;(try clear hb);refine hK.out _ _ hC_ (fun hHeld=>?_);clear hK K;refine nN_ (some 71) ?_;refine oN_ HT_ 7 (some 72) (bA 11 255) (fun K hK=>?_);refine value_ (w1:=?_) (v:=?_) (by rfl) rfl ?_ ?_;rotate_left 2
                        · go_simp
                          constructor
                          · rfl
                          · rfl
                        refine hK.out _ _ ⟨(blk_cell (ka_ BK398.out _) 0).trans rfl,(blk_cell (ka_ BK398.out _) 1).trans rfl,(blk_cell (ka_ BK398.out _) 2).trans rfl,(blk_cell (ka_ BK392.out _) 0).trans rfl,(blk_cell (ka_ BK392.out _) 1).trans rfl⟩ (fun hHeld=>?_);clear hK K;refine nN_ (some 72) ?_;refine oN_ HT_ 8 (some 73) (bA 11 511) (fun K hK=>?_);refine Kd.R_append_step k44 (w0:=w) w.heap.size (by rfl) (.tmp 66) (.tmp 72) 28 44 (.agg #[(.int .i64 0),(.int .i64 0),(.int .i64 0)]) 24 rfl Try.underlying28 info44 rfl (by decide) (by omega) u399002 x399002_2 (⟨t420,t421,t422⟩:S44) [.int .i64 t420, .int .i64 t421, .int .i64 t422] (fun _=>True) (fun _=>False) rfl rfl ?aP (fun _ hk=>hk.elim) ?aF ?aO ?aB ?aS ?aL ?_;(case aP=>exact k44_mkM _ _ _ (⟨t420,t421,t422⟩:S44));(case aB=>exact bB);(case aF=>exact (fun _ _=>trivial));(case aO=>exact (oX HO_399002));(case aS=>exact (below_size bB));(case aL=>have:=LMc76.out;omega);intro v424 w83 ho hb hg hat;rw [←Ny423.out] at ho;replace BK392:=bG BK392 hg (Kd.R_ne HO_399002.out BK392.out (by decide));replace BK393:=bG BK393 hg (Kd.R_ne HO_399002.out BK393.out (by decide));replace BK398:=bG BK398 hg (Kd.R_ne HO_399002.out BK398.out (by decide));replace HB:=amk (hb);have HO425:=amk (ho);clear HO_399002;clear ho hb hg hat;obtain ⟨Ao84,co84,eo84⟩:=Kd.R_slice HO425.out;(first | subst eo84 | (injection eo84 with f1_ f2_ f3_;have f4_:=f1_.symm;have f5_:=f3_.symm;clear f1_ f2_ f3_;subst f4_;subst f5_));refine hK.out _ _ hC_ (fun hHeld=>?_);clear hK K;refine nN_ (some 73) ?_;refine pU_ HT_ 9 (some 74) (bA 11 1023) ?_;refine last_ (i:=10) (N:=none) (bA 11 2047) rfl rfl (one_of HT_.out (by kernel_rfl)) (by decide) (fun K hK=>?_);have hs85:w83.cell? ⟨gb398,2,none⟩=some (u399002):=(blk_cell BK398.out 2).trans rfl;have hfs85:=blk_frozen BK398.out 2;have hns85_0:=NB392_398.out;have hns85_1:=NB393_398.out;have hms85_0:=NB398_392.out;have hms85_1:=NB398_393.out;refine skip_ (w1:=?_) (by rfl) rfl ?_ ?_;rotate_left
                        · go_simp
                          rfl
                        refine hK.out _ _ ?_;clear hK K;refine done_ (done_of HT_.out (by kernel_rfl)) ?_;(try go_wp2);go_roundg k2
                        case measure=>have:=HJ4.out;have:=HK2.out;omega
                        case rel=>exact ⟨(wrap64 (x2_2 - 1)),(t406),(y423),(.slice Ao84 y423.length co84),rS_,rS_,H',⟨by have:=HJ4.out;have:=HK2.out;omega⟩,⟨by (with_reducible repeat (first | apply Kd.R_alloc | apply Kd.R_drewN | apply Kd.R_drew));exact Kd.R_mono (Kd.R_far (p:=⟨gb398,2,none⟩) (Kd.R_types HO425.out BK398.out (by decide)) (fun _ hk=>hk.2) (.slice Ao84 y423.length co84)) (fun _ hk=>trivial)⟩,⟨kB BK392⟩,⟨kB BK393⟩,⟨kP BK398⟩,⟨bB⟩⟩
                      · rw [if_neg c76] at H;exact absurd H (by simp)
            · rw [if_neg c42] at H;have c42b0:decide (0 < x2_2)=false:=decide_eq_false c42;clear c42;simp only [Option.some.injEq,Prod.mk.injEq] at H;obtain ⟨rfl,rfl,rfl,rfl⟩:=H;have hnb86:=NB398_392.out;have hnc86:=NB392_398.out;have hnb87:=NB398_393.out;have hnc87:=NB393_398.out;obtain ⟨hcz88_0,hcz88_1,hcz88_2,hfz88_0,hfz88_1,hfz88_2⟩:=cells3 BK398.out;have hnb89:=NB393_392.out;have hnc89:=NB392_393.out;obtain ⟨hcz90_0,hcz90_1,hcz90_2,hfz90_0,hfz90_1,hfz90_2⟩:=cells3 BK393.out;obtain ⟨Ao91,co91,eo91⟩:=Kd.R_slice HO_399002.out;subst eo91;go_wp2;refine bodyPost_ret (results_ct rfl _ _ gb393 30 #[.int .i64 a0_0, .int .i64 a0_1, .slice Ao91 x399002_2.length co91] (0,0) _ rfl (kP BK393) Try.underlying30 rfl (by kernel_rfl)) rfl ?_;exact ⟨_,rF_,by (with_reducible repeat (first | apply Kd.R_alloc | apply Kd.R_drewN | apply Kd.R_drew));exact Kd.R_mono (Kd.R_far (p:=⟨gb393,2,none⟩) (Kd.R_far (p:=⟨gb393,1,none⟩) (Kd.R_far (p:=⟨gb393,0,none⟩) (Kd.R_types HO_399002.out BK393.out (by decide)) (fun _ hk=>hk.2) (.int .i64 a0_0)) (fun _ hk=>hk.2) (.int .i64 a0_1)) (fun _ hk=>hk.2) (.slice Ao91 x399002_2.length co91)) (fun _ hk=>trivial),bB⟩
/-! impl.within and spec.l1In, by hand: the world stays. -/
def winB (a b c:Int):Bool:=decide (b≤a∧a≤c)
theorem winB_yes {a b c:Int} (h:b≤a∧a≤c):winB a b c=true:=by unfold winB;simp [h]
theorem winB_no {a b c:Int} (h : ¬ (b≤a∧a≤c)):winB a b c=false:=by unfold winB;simp [h]
theorem within_same (a b c:Int) (w:World):Calls Try.prog 42 #[.int .i64 a, .int .i64 b, .int .i64 c] w fun e w'=>e = .returned (.bool (winB a b c))∧w=w':=by
  by_cases h1:b≤a
  · by_cases h2:a≤c
    · rw [winB_yes ⟨h1,h2⟩]
      go_enter Try.func42,Try.ntmps42
      go_wp2
      go_ret
      exact ⟨rfl,rfl⟩
    · rw [winB_no (fun h=>h2 h.2)]
      go_enter Try.func42,Try.ntmps42
      go_wp2
      go_ret
      exact ⟨rfl,rfl⟩
  · rw [winB_no (fun h=>h1 h.1)]
    go_enter Try.func42,Try.ntmps42
    go_wp2
    go_ret
    exact ⟨rfl,rfl⟩
/-! impl.MakePuzzle, by hand: it calls a closure that writes a variable. -/
def nxV (z:Int):Int:=(z * 173 + 2633) % 10007
theorem nxV_range (z:Int):0≤nxV z∧nxV z≤10006:=by unfold nxV;omega
set_option maxHeartbeats 4000000 in
set_option maxRecDepth 100000 in
theorem next_closure (z:Int) (g:Nat) (W:World) (h0:0≤z) (h1:z≤10006) (hb:W.heap[g]?=some (.cells #[.int .i64 z] 3 (0,0))) :
    Calls Try.prog 43 #[.pointer (some ⟨g,0,none⟩)] W fun e w'=>e = .returned (.int .i64 (nxV z))∧w'=W.setCell ⟨g,0,none⟩ (.int .i64 (nxV z)):=by
  have hc:W.cell? ⟨g,0,none⟩=some (.int .i64 z):=(blk_cell hb 0).trans rfl
  have hf:=blk_frozen hb 0
  have hz:(z * 173 + 2633).tmod 10007=nxV z:=by unfold nxV;exact Int.tmod_eq_emod_of_nonneg (by omega)
  have hz2:(z * 173 + 2633) % 10007=nxV z:=rfl
  have hn:=nxV_range z
  generalize nxV z=y at hz hz2 hn ⊢
  have hu:=Try.underlying3
  clear hb
  go_enter Try.func43,Try.ntmps43
  go_wp2
  go_ret
  exact ⟨rfl,rfl⟩
theorem blk_farN {W:World} {i g j t:Nat} {cs:Array Value} (h:W.heap[i]?=some (.cells cs t (0,0))) (hne:i≠g) (u:Value):(W.setCell ⟨g,j,none⟩ u).heap[i]?=some (.cells cs t (0,0)):=blk_far (p:=⟨g,j,none⟩) h hne u
theorem emod_le {y a:Int} (h:0≤y) (ha:1≤a):0≤y % a∧y % a≤y:=by
  refine ⟨Int.emod_nonneg _ (by omega),?_⟩
  obtain ⟨n,rfl⟩:=Int.eq_ofNat_of_zero_le h
  obtain ⟨m,rfl⟩:=Int.eq_ofNat_of_zero_le (show 0≤a by omega)
  have:=Nat.mod_le n m
  omega
def mkA (w cnt t z:Int):Int:=if t=0 then z % w else if t=2∨t=3 then z % cnt else if t=4 then z % 8 + 2 else 0
def mkZ (z:Int):Int:=if nxV z % 5=1 then nxV z else nxV (nxV z)
def mkL (k:Nat) (w d cnt:Int) (s:ByteArray):Nat→Int→List S44→Option (List S44)
  | 0,_,cs=>some cs
  | m + 1,z,cs=>(impl_Lock_told.f k w d (nxV z % 5) (mkA w cnt (nxV z % 5) (mkZ z)) s).bind fun c=>mkL k w d cnt s m (mkZ z) (cs ++ [(⟨c.1,c.2.1,c.2.2⟩:S44)])
def impl_MakePuzzle.f (k:Nat) (w d:Int) (s:ByteArray) (n z:Int):Option (Int×Int×List S44×Bool):=
  (impl_isHidden.f k w d).bind fun h1=>if h1=true then (impl_has.f k w d [s]).bind fun h2=>if h2=true then (if winB n 0 6=true then (if winB z 0 9999=true then (if 1≤w∧0≤n∧n≤6∧0≤z∧z≤10006 then (impl_Lock_count.f k w d).bind fun cnt=>if 1≤cnt then (mkL k w d cnt s n.toNat z []).bind fun cs=>some (w,d,cs,true) else none else none) else some (0,0,[],false)) else some (0,0,[],false)) else some (0,0,[],false) else some (0,0,[],false)
def MKs (w W:World) (a b z:Int) (g:Nat) (v:Value) (cs:List S44):Prop:=
  Below w.heap.size w W∧W.heap[w.heap.size]?=some (.cells #[.int .i64 a, .int .i64 b] 25 (0,0))∧W.heap[w.heap.size + 1]?=some (.cells #[.int .i64 0, .int .i64 0, .slice none 0 0] 30 (0,0)) ∧
  W.heap[g]?=some (.cells #[.int .i64 a, .int .i64 b,v] 30 (0,0))∧W.heap[g + 1]?=some (.cells #[.int .i64 z] 3 (0,0))∧Kd.R k44 44 W w.heap.size (fun _=>True) v cs∧w.heap.size + 1 < g
section
variable {w W W2:World} {a b z:Int} {g:Nat} {v:Value} {cs:List S44}
theorem MKs_below (h:MKs w W a b z g v cs) (hb:Below W.heap.size W W2):MKs w W2 a b z g v cs:=by
  obtain ⟨h1,h2,h3,h4,h5,h6,h7⟩:=h
  exact ⟨bp_ h1 hb,blk_below h2 hb,blk_below h3 hb,blk_below h4 hb,blk_below h5 hb,Kd.R_below h6 hb,h7⟩
theorem MKs_cells (h:MKs w W a b z g v cs):W.cell? ⟨g,0,none⟩=some (.int .i64 a)∧W.cell? ⟨g,1,none⟩=some (.int .i64 b)∧W.cell? ⟨g,2,none⟩=some v∧W.cell? ⟨w.heap.size,0,none⟩=some (.int .i64 a)∧W.cell? ⟨w.heap.size,1,none⟩=some (.int .i64 b)∧W.cell? ⟨g + 1,0,none⟩=some (.int .i64 z):=by
  obtain ⟨h1,h2,h3,h4,h5,h6,h7⟩:=h
  exact ⟨(blk_cell h4 0).trans rfl,(blk_cell h4 1).trans rfl,(blk_cell h4 2).trans rfl,(blk_cell h2 0).trans rfl,(blk_cell h2 1).trans rfl,(blk_cell h5 0).trans rfl⟩
theorem MKs_setz (h:MKs w W a b z g v cs) (y:Int):MKs w (W.setCell ⟨g + 1,0,none⟩ (.int .i64 y)) a b y g v cs:=by
  obtain ⟨h1,h2,h3,h4,h5,h6,h7⟩:=h
  exact ⟨bs_ h1 (by omega),blk_farN h2 (by omega) _,blk_farN h3 (by omega) _,blk_farN h4 (by omega) _,blk_put h5 0 _ rfl,Kd.R_set h6 h5 (by decide) 0 _,h7⟩
def MKg (w W:World) (a b z:Int) (g:Nat) (v:Value):Prop:=
  Below w.heap.size w W∧W.heap[w.heap.size]?=some (.cells #[.int .i64 a, .int .i64 b] 25 (0,0))∧W.heap[w.heap.size + 1]?=some (.cells #[.int .i64 0, .int .i64 0, .slice none 0 0] 30 (0,0)) ∧
  W.heap[g]?=some (.cells #[.int .i64 a, .int .i64 b,v] 30 (0,0))∧W.heap[g + 1]?=some (.cells #[.int .i64 z] 3 (0,0))∧w.heap.size + 1 < g
theorem MKs_grown (h:MKs w W a b z g v cs) (hb:Below w.heap.size w W2) (hg:W.grownBy W2 v.ownBlock):MKg w W2 a b z g v:=by
  obtain ⟨h1,h2,h3,h4,h5,h6,h7⟩:=h
  exact ⟨hb,blk_grown h2 hg (Kd.R_ne h6 h2 (by decide)),blk_grown h3 hg (Kd.R_ne h6 h3 (by decide)),blk_grown h4 hg (Kd.R_ne h6 h4 (by decide)),blk_grown h5 hg (Kd.R_ne h6 h5 (by decide)),h7⟩
theorem MKg_cells (h:MKg w W a b z g v):W.cell? ⟨g,0,none⟩=some (.int .i64 a)∧W.cell? ⟨g,1,none⟩=some (.int .i64 b)∧W.cell? ⟨g,2,none⟩=some v∧W.cell? ⟨w.heap.size,0,none⟩=some (.int .i64 a)∧W.cell? ⟨w.heap.size,1,none⟩=some (.int .i64 b)∧W.cell? ⟨g + 1,0,none⟩=some (.int .i64 z):=by
  obtain ⟨h1,h2,h3,h4,h5,h7⟩:=h
  exact ⟨(blk_cell h4 0).trans rfl,(blk_cell h4 1).trans rfl,(blk_cell h4 2).trans rfl,(blk_cell h2 0).trans rfl,(blk_cell h2 1).trans rfl,(blk_cell h5 0).trans rfl⟩
theorem MKg_setv (h:MKg w W a b z g v) {u:Value} {ds:List S44} (hr:Kd.R k44 44 W w.heap.size (fun _=>True) u ds):MKs w (W.setCell ⟨g,2,none⟩ u) a b z g u ds:=by
  obtain ⟨h1,h2,h3,h4,h5,h7⟩:=h
  exact ⟨bs_ h1 (by omega),blk_farN h2 (by omega) _,blk_farN h3 (by omega) _,blk_put h4 2 _ rfl,blk_farN h5 (by omega) _,Kd.R_set hr h4 (by decide) 2 _,h7⟩
end
theorem next_MKs {w W:World} {a b z:Int} {g:Nat} {v:Value} {cs:List S44} (h:MKs w W a b z g v cs) (h0:0≤z) (h1:z≤10006):Calls Try.prog 43 #[.pointer (some ⟨g + 1,0,none⟩)] W fun e w'=>e = .returned (.int .i64 (nxV z))∧MKs w w' a b (nxV z) g v cs:=
  Calls.mono (next_closure z (g + 1) W h0 h1 h.2.2.2.2.1) (fun _ _ hh=>⟨hh.1,hh.2 ▸ MKs_setz h _⟩)
theorem C_oneStr (W:World) (s:ByteArray) (e:Nat):Kd.string.C (W.alloc (.cells #[.string s] e (0,0))) (some ⟨W.heap.size,0,none⟩) 1 [s]:=
  Kd.C_of_reads (enc:=Value.string) (d:=ByteArray.empty) ⟨rfl,by simp,fun _=>⟨_,rfl,fun j hj=>by
    have hj0:j=0:=by omega
    subst hj0
    exact (blk_cell (blk_new W _) 0).trans rfl⟩⟩
def MK0 (w W:World) (a b:Int):Prop:=
  Below w.heap.size w W∧W.heap[w.heap.size]?=some (.cells #[.int .i64 a, .int .i64 b] 25 (0,0))∧W.heap[w.heap.size + 1]?=some (.cells #[.int .i64 0, .int .i64 0, .slice none 0 0] 30 (0,0))
theorem MK0_below {w W W2:World} {a b:Int} (h:MK0 w W a b) (hb:Below W.heap.size W W2):MK0 w W2 a b:=⟨bp_ h.1 hb,blk_below h.2.1 hb,blk_below h.2.2 hb⟩
theorem MK0_cells {w W:World} {a b:Int} (h:MK0 w W a b):W.cell? ⟨w.heap.size,0,none⟩=some (.int .i64 a)∧W.cell? ⟨w.heap.size,1,none⟩=some (.int .i64 b):=⟨(blk_cell h.2.1 0).trans rfl,(blk_cell h.2.1 1).trans rfl⟩
theorem MK0_res {w W:World} {a b:Int} (h:MK0 w W a b):(W.cell? ⟨w.heap.size + 1,0,none⟩=some (.int .i64 0)∧W.cell? ⟨w.heap.size + 1,1,none⟩=some (.int .i64 0)∧W.cell? ⟨w.heap.size + 1,2,none⟩=some (.slice none 0 0))∧W.frozen? ⟨w.heap.size + 1,0,none⟩=false∧W.frozen? ⟨w.heap.size + 1,1,none⟩=false∧W.frozen? ⟨w.heap.size + 1,2,none⟩=false:=⟨⟨(blk_cell h.2.2 0).trans rfl,(blk_cell h.2.2 1).trans rfl,(blk_cell h.2.2 2).trans rfl⟩,blk_frozen h.2.2 0,blk_frozen h.2.2 1,blk_frozen h.2.2 2⟩
theorem blk_three_set {w:World} {g t:Nat} {a b c:Value} (h:w.heap[g]?=some (.cells #[a,b,c] t (0,0))) (x y z:Value):(((w.setCell ⟨g,0,none⟩ x).setCell ⟨g,1,none⟩ y).setCell ⟨g,2,none⟩ z).heap[g]?=some (.cells #[x,y,z] t (0,0)):=blk_put (blk_put (blk_put h 0 x rfl) 1 y rfl) 2 z rfl
theorem MK0_start (w:World) (a b:Int):MK0 w ((w.alloc (.cells #[.int .i64 a, .int .i64 b] 25 (0,0))).alloc (.cells #[.int .i64 0, .int .i64 0, .slice none 0 0] 30 (0,0))) a b:=by
  refine ⟨ba_ (ba_ (Below.refl _ _) _) _,ka_ (blk_new w _) _,?_⟩
  have:=blk_new (w.alloc (.cells #[.int .i64 a, .int .i64 b] 25 (0,0))) (.cells #[.int .i64 0, .int .i64 0, .slice none 0 0] 30 (0,0))
  simpa using this
theorem MKs_start {w W:World} {a b:Int} (h:MK0 w W a b) (z:Int):MKs w ((W.alloc (.cells #[.int .i64 a, .int .i64 b, .slice none 0 0] 30 (0,0))).alloc (.cells #[.int .i64 z] 3 (0,0))) a b z W.heap.size (.slice none 0 0) []:=by
  have h9:=blk_lt h.2.2
  have h8:=blk_new (W.alloc (.cells #[.int .i64 a, .int .i64 b, .slice none 0 0] 30 (0,0))) (.cells #[.int .i64 z] 3 (0,0))
  exact ⟨ba_ (ba_ h.1 _) _,ka_ (ka_ h.2.1 _) _,ka_ (ka_ h.2.2 _) _,ka_ (blk_new W _) _,by simpa using h8,Kd.R_nil _ _ _ _ _,h9⟩
theorem MKs_five {w W:World} {a b z:Int} {g:Nat} {v:Value} {cs:List S44} (h:MKs w W a b z g v cs):W.cell? ⟨g,0,none⟩=some (.int .i64 a)∧W.cell? ⟨g,1,none⟩=some (.int .i64 b)∧W.cell? ⟨g,2,none⟩=some v∧W.cell? ⟨w.heap.size,0,none⟩=some (.int .i64 a)∧W.cell? ⟨w.heap.size,1,none⟩=some (.int .i64 b):=by
  obtain ⟨h1,h2,h3,h4,h5,h6⟩:=MKs_cells h
  exact ⟨h1,h2,h3,h4,h5⟩
theorem MKg_five {w W:World} {a b z:Int} {g:Nat} {v:Value} (h:MKg w W a b z g v):W.cell? ⟨g,0,none⟩=some (.int .i64 a)∧W.cell? ⟨g,1,none⟩=some (.int .i64 b)∧W.cell? ⟨g,2,none⟩=some v∧W.cell? ⟨w.heap.size,0,none⟩=some (.int .i64 a)∧W.cell? ⟨w.heap.size,1,none⟩=some (.int .i64 b):=by
  obtain ⟨h1,h2,h3,h4,h5,h6⟩:=MKg_cells h
  exact ⟨h1,h2,h3,h4,h5⟩
def impl_MakePuzzle.T16:Bool×List (List Nat×List Nat):=(true,[([],[]),([0],[0]),([],[]),([],[]),([],[]),([],[]),([2,3,4,5],[2,3,4,5]),([6],[6]),([1,7,6],[1,7]),([0,1,2,3,4,5,6,7,8],[]),([9,8,8,0,1,2,3,4,5,6,7,8],[8,9])])
def impl_MakePuzzle.B16:List Nat:=[0,1,0,0,0,0,60,124,255,511,1023]
theorem impl_MakePuzzle.tab16:rtab .any (opsOf Try.f6 16)=impl_MakePuzzle.T16:=by kernel_rfl
theorem impl_MakePuzzle.bits16:waitsOk impl_MakePuzzle.T16.2 impl_MakePuzzle.B16=true:=by kernel_rfl
set_option maxHeartbeats 8000000 in
set_option maxRecDepth 100000 in
theorem impl_MakePuzzle.calls (k:Nat) (a b:Int) (s:ByteArray) (n z:Int) (r1 r2:Int) (r3:List S44) (r4:Bool) (w:World) (h:impl_MakePuzzle.f k a b s n z=some (r1,r2,r3,r4)) :
    Calls Try.prog 6 #[.agg #[.int .i64 a, .int .i64 b], .string s, .int .i64 n, .int .i64 z] w fun e w'=> ∃ v2_:Value,e = .returned (.tuple #[.agg #[.int .i64 r1, .int .i64 r2,v2_], .bool r4])∧Kd.R k44 44 w' w.heap.size (fun _=>True) v2_ r3∧Below w.heap.size w w':=by
  unfold impl_MakePuzzle.f at h
  have hu30:=Try.underlying25
  have hu33:=Try.underlying30
  have hu3:=Try.underlying3
  have hu31:=Try.underlying28
  have hu37:=Try.underlying44
  have hu65:=Try.underlying34
  have Mw1:=amk (MK0_start w a b)
  obtain ⟨h1,e1,h⟩:=Option.bind_eq_some_iff.mp h
  have E1:=amk e1
  clear e1
  have fin : ∀ W:World,Aside0 (MK0 w W a b)→∃ v2_:Value,Ending.returned (.tuple #[.agg #[.int .i64 0, .int .i64 0, .slice none 0 0], .bool false])=Ending.returned (.tuple #[.agg #[.int .i64 0, .int .i64 0,v2_], .bool false])∧Kd.R k44 44 (((W.setCell ⟨w.heap.size + 1,0,none⟩ (.int .i64 0)).setCell ⟨w.heap.size + 1,1,none⟩ (.int .i64 0)).setCell ⟨w.heap.size + 1,2,none⟩ (.slice none 0 0)) w.heap.size (fun _=>True) v2_ []∧Below w.heap.size w (((W.setCell ⟨w.heap.size + 1,0,none⟩ (.int .i64 0)).setCell ⟨w.heap.size + 1,1,none⟩ (.int .i64 0)).setCell ⟨w.heap.size + 1,2,none⟩ (.slice none 0 0)):=
    fun W M=>⟨_,rfl,Kd.R_nil _ _ _ _ _,bs_ (bs_ (bs_ M.out.1 (by omega)) (by omega)) (by omega)⟩
  have FIN:=amk fin
  clear fin
  cases h1 with
  | false =>
    rw [if_neg (by simp)] at h
    simp only [Option.some.injEq,Prod.mk.injEq] at h
    obtain ⟨rfl,rfl,rfl,rfl⟩:=h
    go_enter Try.func6,Try.ntmps6
    go_wp2_with (go_at_call 40;refine Calls.mono (impl_isHidden.calls k a b false _ E1.out) ?_;rintro e w2 ⟨rfl,hb⟩;have Mw2:=amk (MK0_below Mw1.out hb);clear hb;obtain ⟨hp0,hp1,hp2⟩:=(MK0_res Mw2.out).2;obtain ⟨hq0,hq1,hq2⟩:=(MK0_res Mw2.out).1)
    refine bodyPost_ret (results_ct rfl _ _ (w.heap.size + 1) 30 #[.int .i64 0, .int .i64 0, .slice none 0 0] (0,0) _ rfl (blk_three_set Mw2.out.2.2 _ _ _) hu33 rfl (by kernel_rfl)) rfl ?_
    exact FIN.out _ Mw2
  | true =>
    rw [if_pos rfl] at h
    obtain ⟨h2,e2,h⟩:=Option.bind_eq_some_iff.mp h
    have E2:=amk e2
    clear e2
    cases h2 with
    | false =>
      rw [if_neg (by simp)] at h
      simp only [Option.some.injEq,Prod.mk.injEq] at h
      obtain ⟨rfl,rfl,rfl,rfl⟩:=h
      go_enter Try.func6,Try.ntmps6
      go_wp2_with (first | (go_at_call 40;refine Calls.mono (impl_isHidden.calls k a b true _ E1.out) ?_;rintro e w2 ⟨rfl,hb⟩;have Mw2:=amk (MK0_below Mw1.out hb);clear hb;obtain ⟨hp0,hp1,hp2⟩:=(MK0_res Mw2.out).2;obtain ⟨hq0,hq1,hq2⟩:=(MK0_res Mw2.out).1;obtain ⟨hl0,hl1⟩:=MK0_cells Mw2.out) | (go_at_call 41;refine Calls.mono (impl_has.calls k a b _ _ [s] false _ (C_oneStr w2 s 9) (by simp) E2.out) ?_;rintro e w3 ⟨rfl,hb⟩;have Mw3:=amk (MK0_below (MK0_below Mw2.out (ba_ (Below.refl _ w2) _)) hb);clear hb hp0 hp1 hp2 hq0 hq1 hq2 hl0 hl1;obtain ⟨hp0,hp1,hp2⟩:=(MK0_res Mw3.out).2;obtain ⟨hq0,hq1,hq2⟩:=(MK0_res Mw3.out).1;obtain ⟨hl0,hl1⟩:=MK0_cells Mw3.out))
      refine bodyPost_ret (results_ct rfl _ _ (w.heap.size + 1) 30 #[.int .i64 0, .int .i64 0, .slice none 0 0] (0,0) _ rfl (blk_three_set Mw3.out.2.2 _ _ _) hu33 rfl (by kernel_rfl)) rfl ?_
      exact FIN.out _ Mw3
    | true =>
      rw [if_pos rfl] at h
      cases hw3:winB n 0 6 with
      | false =>
        rw [hw3,if_neg (by simp)] at h
        simp only [Option.some.injEq,Prod.mk.injEq] at h
        obtain ⟨rfl,rfl,rfl,rfl⟩:=h
        go_enter Try.func6,Try.ntmps6
        go_wp2_with (first | (go_at_call 40;refine Calls.mono (impl_isHidden.calls k a b true _ E1.out) ?_;rintro e w2 ⟨rfl,hb⟩;have Mw2:=amk (MK0_below Mw1.out hb);clear hb;obtain ⟨hp0,hp1,hp2⟩:=(MK0_res Mw2.out).2;obtain ⟨hq0,hq1,hq2⟩:=(MK0_res Mw2.out).1;obtain ⟨hl0,hl1⟩:=MK0_cells Mw2.out) | (go_at_call 41;refine Calls.mono (impl_has.calls k a b _ _ [s] true _ (C_oneStr w2 s 9) (by simp) E2.out) ?_;rintro e w3 ⟨rfl,hb⟩;have Mw3:=amk (MK0_below (MK0_below Mw2.out (ba_ (Below.refl _ w2) _)) hb);clear hb hp0 hp1 hp2 hq0 hq1 hq2 hl0 hl1;obtain ⟨hp0,hp1,hp2⟩:=(MK0_res Mw3.out).2;obtain ⟨hq0,hq1,hq2⟩:=(MK0_res Mw3.out).1;obtain ⟨hl0,hl1⟩:=MK0_cells Mw3.out) | (go_at_call 42;refine Calls.mono (within_same _ _ _ _) ?_;rintro e w9 ⟨rfl,rfl⟩))
        refine bodyPost_ret (results_ct rfl _ _ (w.heap.size + 1) 30 #[.int .i64 0, .int .i64 0, .slice none 0 0] (0,0) _ rfl (blk_three_set Mw3.out.2.2 _ _ _) hu33 rfl (by kernel_rfl)) rfl ?_
        exact FIN.out _ Mw3
      | true =>
        rw [hw3,if_pos rfl] at h
        cases hw4:winB z 0 9999 with
        | false =>
          rw [hw4,if_neg (by simp)] at h
          simp only [Option.some.injEq,Prod.mk.injEq] at h
          obtain ⟨rfl,rfl,rfl,rfl⟩:=h
          go_enter Try.func6,Try.ntmps6
          go_wp2_with (first | (go_at_call 40;refine Calls.mono (impl_isHidden.calls k a b true _ E1.out) ?_;rintro e w2 ⟨rfl,hb⟩;have Mw2:=amk (MK0_below Mw1.out hb);clear hb;obtain ⟨hp0,hp1,hp2⟩:=(MK0_res Mw2.out).2;obtain ⟨hq0,hq1,hq2⟩:=(MK0_res Mw2.out).1;obtain ⟨hl0,hl1⟩:=MK0_cells Mw2.out) | (go_at_call 41;refine Calls.mono (impl_has.calls k a b _ _ [s] true _ (C_oneStr w2 s 9) (by simp) E2.out) ?_;rintro e w3 ⟨rfl,hb⟩;have Mw3:=amk (MK0_below (MK0_below Mw2.out (ba_ (Below.refl _ w2) _)) hb);clear hb hp0 hp1 hp2 hq0 hq1 hq2 hl0 hl1;obtain ⟨hp0,hp1,hp2⟩:=(MK0_res Mw3.out).2;obtain ⟨hq0,hq1,hq2⟩:=(MK0_res Mw3.out).1;obtain ⟨hl0,hl1⟩:=MK0_cells Mw3.out) | (go_at_call 42;refine Calls.mono (within_same _ _ _ _) ?_;rintro e w9 ⟨rfl,rfl⟩))
          refine bodyPost_ret (results_ct rfl _ _ (w.heap.size + 1) 30 #[.int .i64 0, .int .i64 0, .slice none 0 0] (0,0) _ rfl (blk_three_set Mw3.out.2.2 _ _ _) hu33 rfl (by kernel_rfl)) rfl ?_
          exact FIN.out _ Mw3
        | true =>
          rw [hw4,if_pos rfl] at h
          by_cases hr:1≤a∧0≤n∧n≤6∧0≤z∧z≤10006
          · rw [if_pos hr] at h
            obtain ⟨cnt,e3,h⟩:=Option.bind_eq_some_iff.mp h
            by_cases hc1:1≤cnt
            · rw [if_pos hc1] at h
              obtain ⟨out,e4,h⟩:=Option.bind_eq_some_iff.mp h
              simp only [Option.some.injEq,Prod.mk.injEq] at h
              obtain ⟨rfl,rfl,rfl,rfl⟩:=h
              have E3:=amk e3
              obtain ⟨ha1,hn0,hn1,hz0,hz1⟩:=hr
              obtain ⟨N,rfl⟩:=Int.eq_ofNat_of_zero_le hn0
              rw [Int.toNat_natCast] at e4
              have E4:=amk e4
              have HN:=amk (show N≤6 by omega)
              have HZ:=amk (And.intro hz0 hz1)
              have HA1:=amk (And.intro ha1 hc1)
              clear e3 e4 hz0 hz1 hn0 ha1 hc1 hn1
              go_enter Try.func6,Try.ntmps6
              go_wp2_with (first | (go_at_call 40;refine Calls.mono (impl_isHidden.calls k a b true _ E1.out) ?_;rintro e w2 ⟨rfl,hb⟩;have Mw2:=amk (MK0_below Mw1.out hb);clear hb;obtain ⟨hp0,hp1,hp2⟩:=(MK0_res Mw2.out).2;obtain ⟨hq0,hq1,hq2⟩:=(MK0_res Mw2.out).1;obtain ⟨hl0,hl1⟩:=MK0_cells Mw2.out) | (go_at_call 41;refine Calls.mono (impl_has.calls k a b _ _ [s] true _ (C_oneStr w2 s 9) (by simp) E2.out) ?_;rintro e w3 ⟨rfl,hb⟩;have Mw3:=amk (MK0_below (MK0_below Mw2.out (ba_ (Below.refl _ w2) _)) hb);clear hb hp0 hp1 hp2 hq0 hq1 hq2 hl0 hl1;obtain ⟨hp0,hp1,hp2⟩:=(MK0_res Mw3.out).2;obtain ⟨hq0,hq1,hq2⟩:=(MK0_res Mw3.out).1;obtain ⟨hl0,hl1⟩:=MK0_cells Mw3.out) | (go_at_call 42;refine Calls.mono (within_same _ _ _ _) ?_;rintro e w9 ⟨rfl,rfl⟩))
              -- MAIN
              have MS0:=amk (MKs_start Mw3.out z)
              generalize (w3.alloc (.cells #[.int .i64 a, .int .i64 b, .slice none 0 0] 30 (0,0))).alloc (.cells #[.int .i64 z] 3 (0,0))=w4 at MS0 ⊢
              clear hp0 hp1 hp2 hq0 hq1 hq2 hl0 hl1 Mw2 Mw3 hw3 hw4
              generalize w3.heap.size=g at MS0 ⊢
              go_loopg [41] N (fun gg s41 wr=> ∃ (i m:Nat) (z:Int) (cs:List S44) (v:Value),s41 = .int .i64 (i:Int)∧Aside0 (i + m=N∧m≤gg)∧Aside0 (mkL k a b cnt s m z cs=some out)∧Aside0 (0≤z∧z≤10006)∧Aside0 (cs.length=i)∧Aside0 (MKs w wr a b z g v cs))
              case atStart=>exact ⟨0,N,z,[], .slice none 0 0,rfl,⟨by omega⟩,E4,HZ,⟨rfl⟩,MS0⟩
              case round =>
                clear E4 HZ MS0
                obtain ⟨i,m,z,cs,v,rfl,HI,H4,HZ,HL,MS⟩:=hrel
                cases m with
                | zero =>
                  have hd:decide (i < N)=false:=decide_eq_false (by have:=HI.out;omega)
                  obtain rfl:cs=out:=Option.some.inj H4.out
                  obtain ⟨c0,c1,c2,c3,c4⟩:=MKs_five MS.out
                  obtain ⟨A,c,rfl⟩:=Kd.R_slice MS.out.2.2.2.2.2.1
                  have hrs:=MK0_res ⟨MS.out.1,MS.out.2.1,MS.out.2.2.1⟩
                  obtain ⟨hp0,hp1,hp2⟩:=hrs.2
                  obtain ⟨hq0,hq1,hq2⟩:=hrs.1
                  go_wp2
                  (try simp only [Exit.inBlock,Exit.then])
                  refine bodyPost_ret (results_ct rfl _ _ (w.heap.size + 1) 30 #[.int .i64 a, .int .i64 b, .slice A cs.length c] (0,0) _ rfl (blk_three_set MS.out.2.2.1 _ _ _) hu33 rfl (by kernel_rfl)) rfl ?_
                  refine ⟨_,rfl,?_,bs_ (bs_ (bs_ MS.out.1 (by omega)) (by omega)) (by omega)⟩
                  exact Kd.R_set (Kd.R_set (Kd.R_set MS.out.2.2.2.2.2.1 MS.out.2.2.1 (by decide) 0 _) (blk_put MS.out.2.2.1 0 _ rfl) (by decide) 1 _) (blk_put (blk_put MS.out.2.2.1 0 _ rfl) 1 _ rfl) (by decide) 2 _
                | succ m =>
                  have hd:decide (i < N)=true:=decide_eq_true (by have:=HI.out;omega)
                  obtain ⟨⟨t0,t1,t2⟩,e5,h5⟩:=Option.bind_eq_some_iff.mp H4.out
                  obtain ⟨c0,c1,c2,c3,c4⟩:=MKs_five MS.out
                  have hy:=nxV_range z
                  have hy2:=nxV_range (nxV z)
                  have NC:=amk (next_MKs MS.out HZ.out.1 HZ.out.2)
                  have NC2:Aside0 (∀ W,MKs w W a b (nxV z) g v cs→Calls Try.prog 43 #[.pointer (some ⟨g + 1,0,none⟩)] W fun e w'=>e = .returned (.int .i64 (nxV (nxV z)))∧MKs w w' a b (nxV (nxV z)) g v cs):=⟨fun W h=>next_MKs h hy.1 hy.2⟩
                  unfold mkA mkZ at e5
                  unfold mkZ at h5
                  generalize nxV z=y at e5 h5 hy hy2 NC NC2
                  generalize nxV y=y2 at e5 h5 hy2 NC2
                  obtain ⟨hy0,hy1⟩:=hy
                  obtain ⟨hy3,hy4⟩:=hy2
                  obtain ⟨ha1,hc1⟩:=HA1.out
                  have ha0:(a == 0)=false:=beq_false_of_ne (by omega)
                  have hcn0:(cnt == 0)=false:=beq_false_of_ne (by omega)
                  have hma:y2.tmod a=y2 % a:=Int.tmod_eq_emod_of_nonneg hy3
                  have hmc:y2.tmod cnt=y2 % cnt:=Int.tmod_eq_emod_of_nonneg hy3
                  have hb1:=Int.emod_nonneg y2 (show a≠0 by omega)
                  have hb2:=Int.emod_lt_of_pos y2 (show 0 < a by omega)
                  have hb3:=Int.emod_nonneg y2 (show cnt≠0 by omega)
                  have hb4:=Int.emod_lt_of_pos y2 (show 0 < cnt by omega)
                  have hwa:IntKind.i64.wrap (y2.tmod a)=y2 % a:=by rw [hma,IntKind.wrap_i64];have:=emod_le hy3 ha1;omega
                  have hwc:IntKind.i64.wrap (y2.tmod cnt)=y2 % cnt:=by rw [hmc,IntKind.wrap_i64];have:=emod_le hy3 hc1;omega
                  have han:(a=0)=False:=eq_false (by omega)
                  have hcn:(cnt=0)=False:=eq_false (by omega)
                  clear hb1 hb2 hb3 hb4
                  have hk:y % 5=0∨y % 5=1∨y % 5=2∨y % 5=3∨y % 5=4:=by omega
                  rcases hk with hk | hk | hk | hk | hk
                  · have hkt:y.tmod 5=0:=by rw [Int.tmod_eq_emod_of_nonneg hy0];exact hk
                    have E5:Aside0 (impl_Lock_told.f k a b 0 (y2 % a) s=some (t0,t1,t2)):=⟨by simpa [hk] using e5⟩
                    have H5:Aside0 (mkL k a b cnt s m y2 (cs ++ [(⟨t0,t1,t2⟩:S44)])=some out):=⟨by simpa [hk] using h5⟩
                    have HY:=amk (show 0≤y2∧y2≤10006 by omega)
                    clear e5 h5
                    go_wp2_with (go_at_call 43;refine Calls.mono NC.out ?_;rintro e w5 ⟨rfl,hm⟩;have MSa:=amk hm;clear hm c0 c1 c2 c3 c4;obtain ⟨c0,c1,c2,c3,c4⟩:=MKs_five MSa.out)
                    have MSx:=amk (MKs_below MSa.out (bd_ (Below.refl _ _)))
                    go_region_held3 (fun w'=>w'.cell? ⟨w.heap.size,0,none⟩=some (.int .i64 a)) (first | exact (MKs_five MSx.out).2.2.2.1 | exact (MKs_five MSb.out).2.2.2.1) ((go_at_call 43;refine Calls.mono (NC2.out _ MSx.out) ?_;rintro e w6 ⟨rfl,hm⟩;have MSb:=amk hm;clear hm))
                    go_wp2
                    have MSd:=amk (MKs_below MSb.out (bd_ (Below.refl _ _)))
                    refine start_ (n:=11) (S:=(fun w'=>w'.cell? ⟨g,0,none⟩=some (.int .i64 a)∧w'.cell? ⟨g,1,none⟩=some (.int .i64 b)∧w'.cell? ⟨g,2,none⟩=some v∧w'.cell? ⟨w.heap.size,0,none⟩=some (.int .i64 a)∧w'.cell? ⟨w.heap.size,1,none⟩=some (.int .i64 b))) (ds:=[10]) #[false,false,false,false,false,false,false,false,false,false,false] (by kernel_rfl) rfl rfl (MKs_five MSd.out) (fun hHeld=>?_)
                    refine with_tabW impl_MakePuzzle.tab16 impl_MakePuzzle.bits16 (fun HT_ HW_=>?_)
                    generalize w6.drew=w47 at MSd hHeld ⊢
                    refine pure_ (i:=0) (N:=some 68) (v:=?_) (a':=?_) #[true,false,false,false,false,false,false,false,false,false,false] rfl rfl (any_of HT_.out (by kernel_rfl)) (fun _ _ _ h=>h) (Or.inl ⟨by rfl,?_⟩) ?_ ?_
                    rotate_left
                    · intro w'
                      go_simp
                      with_reducible rfl
                    rotate_left
                    · simp only [Act.put,List.setIfInBounds_toArray,List.set_cons_zero,List.set_cons_succ,i64_w,i32_w]
                      rfl
                    refine pure_ (i:=3) (N:=some 71) (v:=?_) (a':=?_) #[true,false,false,true,false,false,false,false,false,false,false] rfl rfl (any_of HT_.out (by kernel_rfl)) (fun _ _ _ h=>h) (Or.inl ⟨by rfl,?_⟩) ?_ ?_
                    rotate_left
                    · intro w'
                      go_simp
                      with_reducible rfl
                    rotate_left
                    · simp only [Act.put,List.setIfInBounds_toArray,List.set_cons_zero,List.set_cons_succ,i64_w,i32_w]
                      rfl
                    refine pure_ (i:=4) (N:=some 72) (v:=?_) (a':=?_) #[true,false,false,true,true,false,false,false,false,false,false] rfl rfl (any_of HT_.out (by kernel_rfl)) (fun _ _ _ h=>h) (Or.inl ⟨by rfl,?_⟩) ?_ ?_
                    rotate_left
                    · intro w'
                      go_simp
                      with_reducible rfl
                    rotate_left
                    · simp only [Act.put,List.setIfInBounds_toArray,List.set_cons_zero,List.set_cons_succ,i64_w,i32_w]
                      rfl
                    refine pure_ (i:=5) (N:=some 73) (v:=?_) (a':=?_) #[true,false,false,true,true,true,false,false,false,false,false] rfl rfl (any_of HT_.out (by kernel_rfl)) (fun _ _ _ h=>h) (Or.inl ⟨by rfl,?_⟩) ?_ ?_
                    rotate_left
                    · intro w'
                      go_simp
                      with_reducible rfl
                    rotate_left
                    · simp only [Act.put,List.setIfInBounds_toArray,List.set_cons_zero,List.set_cons_succ,i64_w,i32_w]
                      rfl
                    refine take_ (i:=1) (N:=some 69) (v:=?_) (a':=?_) #[true,true,false,true,true,true,false,false,false,false,false] rfl rfl (take_ofW HT_.out HW_.out (by kernel_rfl)) (fun _ _ _ h=>h) (Or.inl ⟨by rfl,?_⟩) hHeld ?_ ?_
                    rotate_left
                    · rintro w' ⟨s0,s1,s2,s3,s4⟩
                      go_simp
                      with_reducible rfl
                    rotate_left
                    · simp only [Act.put,List.setIfInBounds_toArray,List.set_cons_zero,List.set_cons_succ,i64_w,i32_w]
                      rfl
                    refine take_ (i:=2) (N:=some 70) (v:=?_) (a':=?_) #[true,true,true,true,true,true,false,false,false,false,false] rfl rfl (take_ofW HT_.out HW_.out (by kernel_rfl)) (fun _ _ _ h=>h) (Or.inl ⟨by rfl,?_⟩) hHeld ?_ ?_
                    rotate_left
                    · rintro w' ⟨s0,s1,s2,s3,s4⟩
                      go_simp
                      with_reducible rfl
                    rotate_left
                    · simp only [Act.put,List.setIfInBounds_toArray,List.set_cons_zero,List.set_cons_succ,i64_w,i32_w]
                      rfl
                    refine one_ (i:=6) (N:=some 74) #[true,true,true,true,true,true,true,false,false,false,false] rfl rfl (one_of HT_.out (by kernel_rfl)) (by decide) (fun K hK=>?_)
                    refine goes_ Try.func45 (by kernel_rfl) rfl #[.agg #[.int .i64 a, .int .i64 b], .int .i64 (0), .int .i64 (y2 % a), .string s] (by rfl) rfl rfl (by (try simp only [List.map_toArray,List.map_cons,List.map_nil]);first | done | rfl | (simp only [List.length_drop,List.length_take];rfl)) ?_
                    with_reducible refine (impl_Lock_told.calls k a b (0) (y2 % a) s t0 t1 t2 _ E5.out).mono ?_
                    rintro e w48 ⟨rfl,hb⟩
                    refine ⟨_,rfl,?_⟩
                    have MSe:=amk (MKs_below MSd.out hb)
                    clear hb
                    refine hK.out _ _ (MKs_five MSe.out) (fun hHeld=>?_)
                    clear hK K
                    refine norm_ (a':=?_) ?_ ?_
                    rotate_left
                    · show Act.put _ (some 74) _=_
                      simp only [Act.put,List.setIfInBounds_toArray,List.set_cons_zero,List.set_cons_succ,i64_w,i32_w]
                      rfl
                    refine one_ (i:=7) (N:=some 75) #[true,true,true,true,true,true,true,true,false,false,false] rfl rfl (one_of HT_.out (by kernel_rfl)) (by decide) (fun K hK=>?_)
                    refine value_ (w1:=?_) (v:=?_) (by rfl) rfl ?_ ?_
                    rotate_left 2
                    · go_simp
                      constructor
                      · rfl
                      · rfl
                    have MSf:=amk (fun o=>MKs_below MSe.out (ba_ (Below.refl _ _) o))
                    refine hK.out _ _ (MKs_five (MSf.out _)) (fun hHeld=>?_)
                    clear hK K
                    refine norm_ (a':=?_) ?_ ?_
                    rotate_left
                    · show Act.put _ (some 75) _=_
                      simp only [Act.put,List.setIfInBounds_toArray,List.set_cons_zero,List.set_cons_succ,i64_w,i32_w]
                      rfl
                    refine one_ (i:=8) (N:=some 76) #[true,true,true,true,true,true,true,true,true,false,false] rfl rfl (one_of HT_.out (by kernel_rfl)) (by decide) (fun K hK=>?_)
                    refine Kd.R_append_step k44 (w0:=w) w.heap.size (by rfl) (.tmp 69) (.tmp 75) 28 44 (.agg #[(.int .i64 0),(.int .i64 0),(.int .i64 0)]) 24 rfl Try.underlying28 info44 rfl (by decide) (by omega) v cs (⟨t0,t1,t2⟩:S44) [.int .i64 t0, .int .i64 t1, .int .i64 t2] (fun _=>True) (fun _=>False) rfl rfl ?aP (fun _ hk=>hk.elim) ?aF ?aO ?aB ?aS ?aL ?_
                    (case aP=>exact k44_mkM _ _ _ (⟨t0,t1,t2⟩:S44))
                    (case aB=>exact MSe.out.1)
                    (case aF=>exact (fun _ _=>trivial))
                    (case aO=>exact MSe.out.2.2.2.2.2.1)
                    (case aS=>exact MSe.out.1.size)
                    (case aL=>have:=HL.out;have:=HI.out;have:=HN.out;omega)
                    intro v444 w49 ho hb hg hat
                    have MG:=amk (MKs_grown MSe.out hb hg)
                    have HO:=amk ho
                    clear ho hb hg hat
                    obtain ⟨Ao50,co50,eo50⟩:=Kd.R_slice HO.out
                    subst eo50
                    refine hK.out _ _ (MKg_five MG.out) (fun hHeld=>?_)
                    clear hK K
                    refine norm_ (a':=?_) ?_ ?_
                    rotate_left
                    · show Act.put _ (some 76) _=_
                      simp only [Act.put,List.setIfInBounds_toArray,List.set_cons_zero,List.set_cons_succ,i64_w,i32_w]
                      rfl
                    refine pure_ (i:=9) (N:=some 77) (v:=?_) (a':=?_) #[true,true,true,true,true,true,true,true,true,true,false] rfl rfl (any_of HT_.out (by kernel_rfl)) (fun _ _ _ h=>h) (Or.inl ⟨by rfl,?_⟩) ?_ ?_
                    rotate_left
                    · intro w'
                      go_simp
                      with_reducible rfl
                    rotate_left
                    · simp only [Act.put,List.setIfInBounds_toArray,List.set_cons_zero,List.set_cons_succ,i64_w,i32_w]
                      rfl
                    refine last_ (i:=10) (N:=none) #[true,true,true,true,true,true,true,true,true,true,true] rfl rfl (one_of HT_.out (by kernel_rfl)) (by decide) (fun K hK=>?_)
                    have hs51:w49.cell? ⟨g,2,none⟩=some v:=(MKg_five MG.out).2.2.1
                    have hfs51:=blk_frozen MG.out.2.2.2.1 2
                    refine skip_ (w1:=?_) (by rfl) rfl ?_ ?_
                    rotate_left
                    · go_simp
                      rfl
                    refine hK.out _ _ ?_
                    clear hK K
                    refine done_ (done_of HT_.out (by kernel_rfl)) ?_
                    clear hs51 hfs51
                    try go_wp2
                    go_roundg m
                    case measure=>have:=HI.out;omega
                    case rel=>exact ⟨i + 1,m,_,_,_,congrArg _ (by have:=HI.out;have:=HN.out;unfold wrap64;omega),⟨by have:=HI.out;omega⟩,H5,HY,⟨by rw [List.length_append,HL.out];rfl⟩,⟨MKg_setv MG.out (by have h9:=HO.out;rw [show (cs ++ [(⟨t0,t1,t2⟩:S44)]).length=cs.length + 1 from by simp] at h9;exact h9)⟩⟩
                  · have hkt:y.tmod 5=1:=by rw [Int.tmod_eq_emod_of_nonneg hy0];exact hk
                    have E5:Aside0 (impl_Lock_told.f k a b 1 (0) s=some (t0,t1,t2)):=⟨by simpa [hk] using e5⟩
                    have H5:Aside0 (mkL k a b cnt s m y (cs ++ [(⟨t0,t1,t2⟩:S44)])=some out):=⟨by simpa [hk] using h5⟩
                    have HY:=amk (show 0≤y∧y≤10006 by omega)
                    clear e5 h5
                    go_wp2_with (go_at_call 43;refine Calls.mono NC.out ?_;rintro e w5 ⟨rfl,hm⟩;have MSa:=amk hm;clear hm c0 c1 c2 c3 c4;obtain ⟨c0,c1,c2,c3,c4⟩:=MKs_five MSa.out)
                    have MSd:=amk (MKs_below MSa.out (bd_ (Below.refl _ _)))
                    refine start_ (n:=11) (S:=(fun w'=>w'.cell? ⟨g,0,none⟩=some (.int .i64 a)∧w'.cell? ⟨g,1,none⟩=some (.int .i64 b)∧w'.cell? ⟨g,2,none⟩=some v∧w'.cell? ⟨w.heap.size,0,none⟩=some (.int .i64 a)∧w'.cell? ⟨w.heap.size,1,none⟩=some (.int .i64 b))) (ds:=[10]) #[false,false,false,false,false,false,false,false,false,false,false] (by kernel_rfl) rfl rfl (MKs_five MSd.out) (fun hHeld=>?_)
                    refine with_tabW impl_MakePuzzle.tab16 impl_MakePuzzle.bits16 (fun HT_ HW_=>?_)
                    generalize w5.drew=w47 at MSd hHeld ⊢
                    refine pure_ (i:=0) (N:=some 68) (v:=?_) (a':=?_) #[true,false,false,false,false,false,false,false,false,false,false] rfl rfl (any_of HT_.out (by kernel_rfl)) (fun _ _ _ h=>h) (Or.inl ⟨by rfl,?_⟩) ?_ ?_
                    rotate_left
                    · intro w'
                      go_simp
                      with_reducible rfl
                    rotate_left
                    · simp only [Act.put,List.setIfInBounds_toArray,List.set_cons_zero,List.set_cons_succ,i64_w,i32_w]
                      rfl
                    refine pure_ (i:=3) (N:=some 71) (v:=?_) (a':=?_) #[true,false,false,true,false,false,false,false,false,false,false] rfl rfl (any_of HT_.out (by kernel_rfl)) (fun _ _ _ h=>h) (Or.inl ⟨by rfl,?_⟩) ?_ ?_
                    rotate_left
                    · intro w'
                      go_simp
                      with_reducible rfl
                    rotate_left
                    · simp only [Act.put,List.setIfInBounds_toArray,List.set_cons_zero,List.set_cons_succ,i64_w,i32_w]
                      rfl
                    refine pure_ (i:=4) (N:=some 72) (v:=?_) (a':=?_) #[true,false,false,true,true,false,false,false,false,false,false] rfl rfl (any_of HT_.out (by kernel_rfl)) (fun _ _ _ h=>h) (Or.inl ⟨by rfl,?_⟩) ?_ ?_
                    rotate_left
                    · intro w'
                      go_simp
                      with_reducible rfl
                    rotate_left
                    · simp only [Act.put,List.setIfInBounds_toArray,List.set_cons_zero,List.set_cons_succ,i64_w,i32_w]
                      rfl
                    refine pure_ (i:=5) (N:=some 73) (v:=?_) (a':=?_) #[true,false,false,true,true,true,false,false,false,false,false] rfl rfl (any_of HT_.out (by kernel_rfl)) (fun _ _ _ h=>h) (Or.inl ⟨by rfl,?_⟩) ?_ ?_
                    rotate_left
                    · intro w'
                      go_simp
                      with_reducible rfl
                    rotate_left
                    · simp only [Act.put,List.setIfInBounds_toArray,List.set_cons_zero,List.set_cons_succ,i64_w,i32_w]
                      rfl
                    refine take_ (i:=1) (N:=some 69) (v:=?_) (a':=?_) #[true,true,false,true,true,true,false,false,false,false,false] rfl rfl (take_ofW HT_.out HW_.out (by kernel_rfl)) (fun _ _ _ h=>h) (Or.inl ⟨by rfl,?_⟩) hHeld ?_ ?_
                    rotate_left
                    · rintro w' ⟨s0,s1,s2,s3,s4⟩
                      go_simp
                      with_reducible rfl
                    rotate_left
                    · simp only [Act.put,List.setIfInBounds_toArray,List.set_cons_zero,List.set_cons_succ,i64_w,i32_w]
                      rfl
                    refine take_ (i:=2) (N:=some 70) (v:=?_) (a':=?_) #[true,true,true,true,true,true,false,false,false,false,false] rfl rfl (take_ofW HT_.out HW_.out (by kernel_rfl)) (fun _ _ _ h=>h) (Or.inl ⟨by rfl,?_⟩) hHeld ?_ ?_
                    rotate_left
                    · rintro w' ⟨s0,s1,s2,s3,s4⟩
                      go_simp
                      with_reducible rfl
                    rotate_left
                    · simp only [Act.put,List.setIfInBounds_toArray,List.set_cons_zero,List.set_cons_succ,i64_w,i32_w]
                      rfl
                    refine one_ (i:=6) (N:=some 74) #[true,true,true,true,true,true,true,false,false,false,false] rfl rfl (one_of HT_.out (by kernel_rfl)) (by decide) (fun K hK=>?_)
                    refine goes_ Try.func45 (by kernel_rfl) rfl #[.agg #[.int .i64 a, .int .i64 b], .int .i64 (1), .int .i64 (0), .string s] (by rfl) rfl rfl (by (try simp only [List.map_toArray,List.map_cons,List.map_nil]);first | done | rfl | (simp only [List.length_drop,List.length_take];rfl)) ?_
                    with_reducible refine (impl_Lock_told.calls k a b (1) (0) s t0 t1 t2 _ E5.out).mono ?_
                    rintro e w48 ⟨rfl,hb⟩
                    refine ⟨_,rfl,?_⟩
                    have MSe:=amk (MKs_below MSd.out hb)
                    clear hb
                    refine hK.out _ _ (MKs_five MSe.out) (fun hHeld=>?_)
                    clear hK K
                    refine norm_ (a':=?_) ?_ ?_
                    rotate_left
                    · show Act.put _ (some 74) _=_
                      simp only [Act.put,List.setIfInBounds_toArray,List.set_cons_zero,List.set_cons_succ,i64_w,i32_w]
                      rfl
                    refine one_ (i:=7) (N:=some 75) #[true,true,true,true,true,true,true,true,false,false,false] rfl rfl (one_of HT_.out (by kernel_rfl)) (by decide) (fun K hK=>?_)
                    refine value_ (w1:=?_) (v:=?_) (by rfl) rfl ?_ ?_
                    rotate_left 2
                    · go_simp
                      constructor
                      · rfl
                      · rfl
                    have MSf:=amk (fun o=>MKs_below MSe.out (ba_ (Below.refl _ _) o))
                    refine hK.out _ _ (MKs_five (MSf.out _)) (fun hHeld=>?_)
                    clear hK K
                    refine norm_ (a':=?_) ?_ ?_
                    rotate_left
                    · show Act.put _ (some 75) _=_
                      simp only [Act.put,List.setIfInBounds_toArray,List.set_cons_zero,List.set_cons_succ,i64_w,i32_w]
                      rfl
                    refine one_ (i:=8) (N:=some 76) #[true,true,true,true,true,true,true,true,true,false,false] rfl rfl (one_of HT_.out (by kernel_rfl)) (by decide) (fun K hK=>?_)
                    refine Kd.R_append_step k44 (w0:=w) w.heap.size (by rfl) (.tmp 69) (.tmp 75) 28 44 (.agg #[(.int .i64 0),(.int .i64 0),(.int .i64 0)]) 24 rfl Try.underlying28 info44 rfl (by decide) (by omega) v cs (⟨t0,t1,t2⟩:S44) [.int .i64 t0, .int .i64 t1, .int .i64 t2] (fun _=>True) (fun _=>False) rfl rfl ?aP (fun _ hk=>hk.elim) ?aF ?aO ?aB ?aS ?aL ?_
                    (case aP=>exact k44_mkM _ _ _ (⟨t0,t1,t2⟩:S44))
                    (case aB=>exact MSe.out.1)
                    (case aF=>exact (fun _ _=>trivial))
                    (case aO=>exact MSe.out.2.2.2.2.2.1)
                    (case aS=>exact MSe.out.1.size)
                    (case aL=>have:=HL.out;have:=HI.out;have:=HN.out;omega)
                    intro v444 w49 ho hb hg hat
                    have MG:=amk (MKs_grown MSe.out hb hg)
                    have HO:=amk ho
                    clear ho hb hg hat
                    obtain ⟨Ao50,co50,eo50⟩:=Kd.R_slice HO.out
                    subst eo50
                    refine hK.out _ _ (MKg_five MG.out) (fun hHeld=>?_)
                    clear hK K
                    refine norm_ (a':=?_) ?_ ?_
                    rotate_left
                    · show Act.put _ (some 76) _=_
                      simp only [Act.put,List.setIfInBounds_toArray,List.set_cons_zero,List.set_cons_succ,i64_w,i32_w]
                      rfl
                    refine pure_ (i:=9) (N:=some 77) (v:=?_) (a':=?_) #[true,true,true,true,true,true,true,true,true,true,false] rfl rfl (any_of HT_.out (by kernel_rfl)) (fun _ _ _ h=>h) (Or.inl ⟨by rfl,?_⟩) ?_ ?_
                    rotate_left
                    · intro w'
                      go_simp
                      with_reducible rfl
                    rotate_left
                    · simp only [Act.put,List.setIfInBounds_toArray,List.set_cons_zero,List.set_cons_succ,i64_w,i32_w]
                      rfl
                    refine last_ (i:=10) (N:=none) #[true,true,true,true,true,true,true,true,true,true,true] rfl rfl (one_of HT_.out (by kernel_rfl)) (by decide) (fun K hK=>?_)
                    have hs51:w49.cell? ⟨g,2,none⟩=some v:=(MKg_five MG.out).2.2.1
                    have hfs51:=blk_frozen MG.out.2.2.2.1 2
                    refine skip_ (w1:=?_) (by rfl) rfl ?_ ?_
                    rotate_left
                    · go_simp
                      rfl
                    refine hK.out _ _ ?_
                    clear hK K
                    refine done_ (done_of HT_.out (by kernel_rfl)) ?_
                    clear hs51 hfs51
                    try go_wp2
                    go_roundg m
                    case measure=>have:=HI.out;omega
                    case rel=>exact ⟨i + 1,m,_,_,_,congrArg _ (by have:=HI.out;have:=HN.out;unfold wrap64;omega),⟨by have:=HI.out;omega⟩,H5,HY,⟨by rw [List.length_append,HL.out];rfl⟩,⟨MKg_setv MG.out (by have h9:=HO.out;rw [show (cs ++ [(⟨t0,t1,t2⟩:S44)]).length=cs.length + 1 from by simp] at h9;exact h9)⟩⟩
                  · have hkt:y.tmod 5=2:=by rw [Int.tmod_eq_emod_of_nonneg hy0];exact hk
                    have E5:Aside0 (impl_Lock_told.f k a b 2 (y2 % cnt) s=some (t0,t1,t2)):=⟨by simpa [hk] using e5⟩
                    have H5:Aside0 (mkL k a b cnt s m y2 (cs ++ [(⟨t0,t1,t2⟩:S44)])=some out):=⟨by simpa [hk] using h5⟩
                    have HY:=amk (show 0≤y2∧y2≤10006 by omega)
                    clear e5 h5
                    go_wp2_with (go_at_call 43;refine Calls.mono NC.out ?_;rintro e w5 ⟨rfl,hm⟩;have MSa:=amk hm;clear hm c0 c1 c2 c3 c4;obtain ⟨c0,c1,c2,c3,c4⟩:=MKs_five MSa.out)
                    have MSx:=amk (MKs_below MSa.out (bd_ (Below.refl _ _)))
                    go_region_held3 (fun w'=>w'.cell? ⟨w.heap.size,0,none⟩=some (.int .i64 a)∧w'.cell? ⟨w.heap.size,1,none⟩=some (.int .i64 b)) (first | exact (MKs_five MSx.out).2.2.2 | exact (MKs_five MSb.out).2.2.2 | exact (MKs_five MSc.out).2.2.2) ((first | (go_at_call 43;refine Calls.mono (NC2.out _ MSx.out) ?_;rintro e w6 ⟨rfl,hm⟩;have MSb:=amk hm;clear hm) | (go_at_call 44;refine Calls.mono (impl_Lock_count.calls k a b cnt _ E3.out) ?_;rintro e w7 ⟨rfl,hb⟩;have MSc:=amk (MKs_below MSb.out hb);clear hb)))
                    go_wp2
                    have MSd:=amk (MKs_below MSc.out (bd_ (Below.refl _ _)))
                    refine start_ (n:=11) (S:=(fun w'=>w'.cell? ⟨g,0,none⟩=some (.int .i64 a)∧w'.cell? ⟨g,1,none⟩=some (.int .i64 b)∧w'.cell? ⟨g,2,none⟩=some v∧w'.cell? ⟨w.heap.size,0,none⟩=some (.int .i64 a)∧w'.cell? ⟨w.heap.size,1,none⟩=some (.int .i64 b))) (ds:=[10]) #[false,false,false,false,false,false,false,false,false,false,false] (by kernel_rfl) rfl rfl (MKs_five MSd.out) (fun hHeld=>?_)
                    refine with_tabW impl_MakePuzzle.tab16 impl_MakePuzzle.bits16 (fun HT_ HW_=>?_)
                    generalize w7.drew=w47 at MSd hHeld ⊢
                    refine pure_ (i:=0) (N:=some 68) (v:=?_) (a':=?_) #[true,false,false,false,false,false,false,false,false,false,false] rfl rfl (any_of HT_.out (by kernel_rfl)) (fun _ _ _ h=>h) (Or.inl ⟨by rfl,?_⟩) ?_ ?_
                    rotate_left
                    · intro w'
                      go_simp
                      with_reducible rfl
                    rotate_left
                    · simp only [Act.put,List.setIfInBounds_toArray,List.set_cons_zero,List.set_cons_succ,i64_w,i32_w]
                      rfl
                    refine pure_ (i:=3) (N:=some 71) (v:=?_) (a':=?_) #[true,false,false,true,false,false,false,false,false,false,false] rfl rfl (any_of HT_.out (by kernel_rfl)) (fun _ _ _ h=>h) (Or.inl ⟨by rfl,?_⟩) ?_ ?_
                    rotate_left
                    · intro w'
                      go_simp
                      with_reducible rfl
                    rotate_left
                    · simp only [Act.put,List.setIfInBounds_toArray,List.set_cons_zero,List.set_cons_succ,i64_w,i32_w]
                      rfl
                    refine pure_ (i:=4) (N:=some 72) (v:=?_) (a':=?_) #[true,false,false,true,true,false,false,false,false,false,false] rfl rfl (any_of HT_.out (by kernel_rfl)) (fun _ _ _ h=>h) (Or.inl ⟨by rfl,?_⟩) ?_ ?_
                    rotate_left
                    · intro w'
                      go_simp
                      with_reducible rfl
                    rotate_left
                    · simp only [Act.put,List.setIfInBounds_toArray,List.set_cons_zero,List.set_cons_succ,i64_w,i32_w]
                      rfl
                    refine pure_ (i:=5) (N:=some 73) (v:=?_) (a':=?_) #[true,false,false,true,true,true,false,false,false,false,false] rfl rfl (any_of HT_.out (by kernel_rfl)) (fun _ _ _ h=>h) (Or.inl ⟨by rfl,?_⟩) ?_ ?_
                    rotate_left
                    · intro w'
                      go_simp
                      with_reducible rfl
                    rotate_left
                    · simp only [Act.put,List.setIfInBounds_toArray,List.set_cons_zero,List.set_cons_succ,i64_w,i32_w]
                      rfl
                    refine take_ (i:=1) (N:=some 69) (v:=?_) (a':=?_) #[true,true,false,true,true,true,false,false,false,false,false] rfl rfl (take_ofW HT_.out HW_.out (by kernel_rfl)) (fun _ _ _ h=>h) (Or.inl ⟨by rfl,?_⟩) hHeld ?_ ?_
                    rotate_left
                    · rintro w' ⟨s0,s1,s2,s3,s4⟩
                      go_simp
                      with_reducible rfl
                    rotate_left
                    · simp only [Act.put,List.setIfInBounds_toArray,List.set_cons_zero,List.set_cons_succ,i64_w,i32_w]
                      rfl
                    refine take_ (i:=2) (N:=some 70) (v:=?_) (a':=?_) #[true,true,true,true,true,true,false,false,false,false,false] rfl rfl (take_ofW HT_.out HW_.out (by kernel_rfl)) (fun _ _ _ h=>h) (Or.inl ⟨by rfl,?_⟩) hHeld ?_ ?_
                    rotate_left
                    · rintro w' ⟨s0,s1,s2,s3,s4⟩
                      go_simp
                      with_reducible rfl
                    rotate_left
                    · simp only [Act.put,List.setIfInBounds_toArray,List.set_cons_zero,List.set_cons_succ,i64_w,i32_w]
                      rfl
                    refine one_ (i:=6) (N:=some 74) #[true,true,true,true,true,true,true,false,false,false,false] rfl rfl (one_of HT_.out (by kernel_rfl)) (by decide) (fun K hK=>?_)
                    refine goes_ Try.func45 (by kernel_rfl) rfl #[.agg #[.int .i64 a, .int .i64 b], .int .i64 (2), .int .i64 (y2 % cnt), .string s] (by rfl) rfl rfl (by (try simp only [List.map_toArray,List.map_cons,List.map_nil]);first | done | rfl | (simp only [List.length_drop,List.length_take];rfl)) ?_
                    with_reducible refine (impl_Lock_told.calls k a b (2) (y2 % cnt) s t0 t1 t2 _ E5.out).mono ?_
                    rintro e w48 ⟨rfl,hb⟩
                    refine ⟨_,rfl,?_⟩
                    have MSe:=amk (MKs_below MSd.out hb)
                    clear hb
                    refine hK.out _ _ (MKs_five MSe.out) (fun hHeld=>?_)
                    clear hK K
                    refine norm_ (a':=?_) ?_ ?_
                    rotate_left
                    · show Act.put _ (some 74) _=_
                      simp only [Act.put,List.setIfInBounds_toArray,List.set_cons_zero,List.set_cons_succ,i64_w,i32_w]
                      rfl
                    refine one_ (i:=7) (N:=some 75) #[true,true,true,true,true,true,true,true,false,false,false] rfl rfl (one_of HT_.out (by kernel_rfl)) (by decide) (fun K hK=>?_)
                    refine value_ (w1:=?_) (v:=?_) (by rfl) rfl ?_ ?_
                    rotate_left 2
                    · go_simp
                      constructor
                      · rfl
                      · rfl
                    have MSf:=amk (fun o=>MKs_below MSe.out (ba_ (Below.refl _ _) o))
                    refine hK.out _ _ (MKs_five (MSf.out _)) (fun hHeld=>?_)
                    clear hK K
                    refine norm_ (a':=?_) ?_ ?_
                    rotate_left
                    · show Act.put _ (some 75) _=_
                      simp only [Act.put,List.setIfInBounds_toArray,List.set_cons_zero,List.set_cons_succ,i64_w,i32_w]
                      rfl
                    refine one_ (i:=8) (N:=some 76) #[true,true,true,true,true,true,true,true,true,false,false] rfl rfl (one_of HT_.out (by kernel_rfl)) (by decide) (fun K hK=>?_)
                    refine Kd.R_append_step k44 (w0:=w) w.heap.size (by rfl) (.tmp 69) (.tmp 75) 28 44 (.agg #[(.int .i64 0),(.int .i64 0),(.int .i64 0)]) 24 rfl Try.underlying28 info44 rfl (by decide) (by omega) v cs (⟨t0,t1,t2⟩:S44) [.int .i64 t0, .int .i64 t1, .int .i64 t2] (fun _=>True) (fun _=>False) rfl rfl ?aP (fun _ hk=>hk.elim) ?aF ?aO ?aB ?aS ?aL ?_
                    (case aP=>exact k44_mkM _ _ _ (⟨t0,t1,t2⟩:S44))
                    (case aB=>exact MSe.out.1)
                    (case aF=>exact (fun _ _=>trivial))
                    (case aO=>exact MSe.out.2.2.2.2.2.1)
                    (case aS=>exact MSe.out.1.size)
                    (case aL=>have:=HL.out;have:=HI.out;have:=HN.out;omega)
                    intro v444 w49 ho hb hg hat
                    have MG:=amk (MKs_grown MSe.out hb hg)
                    have HO:=amk ho
                    clear ho hb hg hat
                    obtain ⟨Ao50,co50,eo50⟩:=Kd.R_slice HO.out
                    subst eo50
                    refine hK.out _ _ (MKg_five MG.out) (fun hHeld=>?_)
                    clear hK K
                    refine norm_ (a':=?_) ?_ ?_
                    rotate_left
                    · show Act.put _ (some 76) _=_
                      simp only [Act.put,List.setIfInBounds_toArray,List.set_cons_zero,List.set_cons_succ,i64_w,i32_w]
                      rfl
                    refine pure_ (i:=9) (N:=some 77) (v:=?_) (a':=?_) #[true,true,true,true,true,true,true,true,true,true,false] rfl rfl (any_of HT_.out (by kernel_rfl)) (fun _ _ _ h=>h) (Or.inl ⟨by rfl,?_⟩) ?_ ?_
                    rotate_left
                    · intro w'
                      go_simp
                      with_reducible rfl
                    rotate_left
                    · simp only [Act.put,List.setIfInBounds_toArray,List.set_cons_zero,List.set_cons_succ,i64_w,i32_w]
                      rfl
                    refine last_ (i:=10) (N:=none) #[true,true,true,true,true,true,true,true,true,true,true] rfl rfl (one_of HT_.out (by kernel_rfl)) (by decide) (fun K hK=>?_)
                    have hs51:w49.cell? ⟨g,2,none⟩=some v:=(MKg_five MG.out).2.2.1
                    have hfs51:=blk_frozen MG.out.2.2.2.1 2
                    refine skip_ (w1:=?_) (by rfl) rfl ?_ ?_
                    rotate_left
                    · go_simp
                      rfl
                    refine hK.out _ _ ?_
                    clear hK K
                    refine done_ (done_of HT_.out (by kernel_rfl)) ?_
                    clear hs51 hfs51
                    try go_wp2
                    go_roundg m
                    case measure=>have:=HI.out;omega
                    case rel=>exact ⟨i + 1,m,_,_,_,congrArg _ (by have:=HI.out;have:=HN.out;unfold wrap64;omega),⟨by have:=HI.out;omega⟩,H5,HY,⟨by rw [List.length_append,HL.out];rfl⟩,⟨MKg_setv MG.out (by have h9:=HO.out;rw [show (cs ++ [(⟨t0,t1,t2⟩:S44)]).length=cs.length + 1 from by simp] at h9;exact h9)⟩⟩
                  · have hkt:y.tmod 5=3:=by rw [Int.tmod_eq_emod_of_nonneg hy0];exact hk
                    have E5:Aside0 (impl_Lock_told.f k a b 3 (y2 % cnt) s=some (t0,t1,t2)):=⟨by simpa [hk] using e5⟩
                    have H5:Aside0 (mkL k a b cnt s m y2 (cs ++ [(⟨t0,t1,t2⟩:S44)])=some out):=⟨by simpa [hk] using h5⟩
                    have HY:=amk (show 0≤y2∧y2≤10006 by omega)
                    clear e5 h5
                    go_wp2_with (go_at_call 43;refine Calls.mono NC.out ?_;rintro e w5 ⟨rfl,hm⟩;have MSa:=amk hm;clear hm c0 c1 c2 c3 c4;obtain ⟨c0,c1,c2,c3,c4⟩:=MKs_five MSa.out)
                    have MSx:=amk (MKs_below MSa.out (bd_ (Below.refl _ _)))
                    go_region_held3 (fun w'=>w'.cell? ⟨w.heap.size,0,none⟩=some (.int .i64 a)∧w'.cell? ⟨w.heap.size,1,none⟩=some (.int .i64 b)) (first | exact (MKs_five MSx.out).2.2.2 | exact (MKs_five MSb.out).2.2.2 | exact (MKs_five MSc.out).2.2.2) ((first | (go_at_call 43;refine Calls.mono (NC2.out _ MSx.out) ?_;rintro e w6 ⟨rfl,hm⟩;have MSb:=amk hm;clear hm) | (go_at_call 44;refine Calls.mono (impl_Lock_count.calls k a b cnt _ E3.out) ?_;rintro e w7 ⟨rfl,hb⟩;have MSc:=amk (MKs_below MSb.out hb);clear hb)))
                    go_wp2
                    have MSd:=amk (MKs_below MSc.out (bd_ (Below.refl _ _)))
                    refine start_ (n:=11) (S:=(fun w'=>w'.cell? ⟨g,0,none⟩=some (.int .i64 a)∧w'.cell? ⟨g,1,none⟩=some (.int .i64 b)∧w'.cell? ⟨g,2,none⟩=some v∧w'.cell? ⟨w.heap.size,0,none⟩=some (.int .i64 a)∧w'.cell? ⟨w.heap.size,1,none⟩=some (.int .i64 b))) (ds:=[10]) #[false,false,false,false,false,false,false,false,false,false,false] (by kernel_rfl) rfl rfl (MKs_five MSd.out) (fun hHeld=>?_)
                    refine with_tabW impl_MakePuzzle.tab16 impl_MakePuzzle.bits16 (fun HT_ HW_=>?_)
                    generalize w7.drew=w47 at MSd hHeld ⊢
                    refine pure_ (i:=0) (N:=some 68) (v:=?_) (a':=?_) #[true,false,false,false,false,false,false,false,false,false,false] rfl rfl (any_of HT_.out (by kernel_rfl)) (fun _ _ _ h=>h) (Or.inl ⟨by rfl,?_⟩) ?_ ?_
                    rotate_left
                    · intro w'
                      go_simp
                      with_reducible rfl
                    rotate_left
                    · simp only [Act.put,List.setIfInBounds_toArray,List.set_cons_zero,List.set_cons_succ,i64_w,i32_w]
                      rfl
                    refine pure_ (i:=3) (N:=some 71) (v:=?_) (a':=?_) #[true,false,false,true,false,false,false,false,false,false,false] rfl rfl (any_of HT_.out (by kernel_rfl)) (fun _ _ _ h=>h) (Or.inl ⟨by rfl,?_⟩) ?_ ?_
                    rotate_left
                    · intro w'
                      go_simp
                      with_reducible rfl
                    rotate_left
                    · simp only [Act.put,List.setIfInBounds_toArray,List.set_cons_zero,List.set_cons_succ,i64_w,i32_w]
                      rfl
                    refine pure_ (i:=4) (N:=some 72) (v:=?_) (a':=?_) #[true,false,false,true,true,false,false,false,false,false,false] rfl rfl (any_of HT_.out (by kernel_rfl)) (fun _ _ _ h=>h) (Or.inl ⟨by rfl,?_⟩) ?_ ?_
                    rotate_left
                    · intro w'
                      go_simp
                      with_reducible rfl
                    rotate_left
                    · simp only [Act.put,List.setIfInBounds_toArray,List.set_cons_zero,List.set_cons_succ,i64_w,i32_w]
                      rfl
                    refine pure_ (i:=5) (N:=some 73) (v:=?_) (a':=?_) #[true,false,false,true,true,true,false,false,false,false,false] rfl rfl (any_of HT_.out (by kernel_rfl)) (fun _ _ _ h=>h) (Or.inl ⟨by rfl,?_⟩) ?_ ?_
                    rotate_left
                    · intro w'
                      go_simp
                      with_reducible rfl
                    rotate_left
                    · simp only [Act.put,List.setIfInBounds_toArray,List.set_cons_zero,List.set_cons_succ,i64_w,i32_w]
                      rfl
                    refine take_ (i:=1) (N:=some 69) (v:=?_) (a':=?_) #[true,true,false,true,true,true,false,false,false,false,false] rfl rfl (take_ofW HT_.out HW_.out (by kernel_rfl)) (fun _ _ _ h=>h) (Or.inl ⟨by rfl,?_⟩) hHeld ?_ ?_
                    rotate_left
                    · rintro w' ⟨s0,s1,s2,s3,s4⟩
                      go_simp
                      with_reducible rfl
                    rotate_left
                    · simp only [Act.put,List.setIfInBounds_toArray,List.set_cons_zero,List.set_cons_succ,i64_w,i32_w]
                      rfl
                    refine take_ (i:=2) (N:=some 70) (v:=?_) (a':=?_) #[true,true,true,true,true,true,false,false,false,false,false] rfl rfl (take_ofW HT_.out HW_.out (by kernel_rfl)) (fun _ _ _ h=>h) (Or.inl ⟨by rfl,?_⟩) hHeld ?_ ?_
                    rotate_left
                    · rintro w' ⟨s0,s1,s2,s3,s4⟩
                      go_simp
                      with_reducible rfl
                    rotate_left
                    · simp only [Act.put,List.setIfInBounds_toArray,List.set_cons_zero,List.set_cons_succ,i64_w,i32_w]
                      rfl
                    refine one_ (i:=6) (N:=some 74) #[true,true,true,true,true,true,true,false,false,false,false] rfl rfl (one_of HT_.out (by kernel_rfl)) (by decide) (fun K hK=>?_)
                    refine goes_ Try.func45 (by kernel_rfl) rfl #[.agg #[.int .i64 a, .int .i64 b], .int .i64 (3), .int .i64 (y2 % cnt), .string s] (by rfl) rfl rfl (by (try simp only [List.map_toArray,List.map_cons,List.map_nil]);first | done | rfl | (simp only [List.length_drop,List.length_take];rfl)) ?_
                    with_reducible refine (impl_Lock_told.calls k a b (3) (y2 % cnt) s t0 t1 t2 _ E5.out).mono ?_
                    rintro e w48 ⟨rfl,hb⟩
                    refine ⟨_,rfl,?_⟩
                    have MSe:=amk (MKs_below MSd.out hb)
                    clear hb
                    refine hK.out _ _ (MKs_five MSe.out) (fun hHeld=>?_)
                    clear hK K
                    refine norm_ (a':=?_) ?_ ?_
                    rotate_left
                    · show Act.put _ (some 74) _=_
                      simp only [Act.put,List.setIfInBounds_toArray,List.set_cons_zero,List.set_cons_succ,i64_w,i32_w]
                      rfl
                    refine one_ (i:=7) (N:=some 75) #[true,true,true,true,true,true,true,true,false,false,false] rfl rfl (one_of HT_.out (by kernel_rfl)) (by decide) (fun K hK=>?_)
                    refine value_ (w1:=?_) (v:=?_) (by rfl) rfl ?_ ?_
                    rotate_left 2
                    · go_simp
                      constructor
                      · rfl
                      · rfl
                    have MSf:=amk (fun o=>MKs_below MSe.out (ba_ (Below.refl _ _) o))
                    refine hK.out _ _ (MKs_five (MSf.out _)) (fun hHeld=>?_)
                    clear hK K
                    refine norm_ (a':=?_) ?_ ?_
                    rotate_left
                    · show Act.put _ (some 75) _=_
                      simp only [Act.put,List.setIfInBounds_toArray,List.set_cons_zero,List.set_cons_succ,i64_w,i32_w]
                      rfl
                    refine one_ (i:=8) (N:=some 76) #[true,true,true,true,true,true,true,true,true,false,false] rfl rfl (one_of HT_.out (by kernel_rfl)) (by decide) (fun K hK=>?_)
                    refine Kd.R_append_step k44 (w0:=w) w.heap.size (by rfl) (.tmp 69) (.tmp 75) 28 44 (.agg #[(.int .i64 0),(.int .i64 0),(.int .i64 0)]) 24 rfl Try.underlying28 info44 rfl (by decide) (by omega) v cs (⟨t0,t1,t2⟩:S44) [.int .i64 t0, .int .i64 t1, .int .i64 t2] (fun _=>True) (fun _=>False) rfl rfl ?aP (fun _ hk=>hk.elim) ?aF ?aO ?aB ?aS ?aL ?_
                    (case aP=>exact k44_mkM _ _ _ (⟨t0,t1,t2⟩:S44))
                    (case aB=>exact MSe.out.1)
                    (case aF=>exact (fun _ _=>trivial))
                    (case aO=>exact MSe.out.2.2.2.2.2.1)
                    (case aS=>exact MSe.out.1.size)
                    (case aL=>have:=HL.out;have:=HI.out;have:=HN.out;omega)
                    intro v444 w49 ho hb hg hat
                    have MG:=amk (MKs_grown MSe.out hb hg)
                    have HO:=amk ho
                    clear ho hb hg hat
                    obtain ⟨Ao50,co50,eo50⟩:=Kd.R_slice HO.out
                    subst eo50
                    refine hK.out _ _ (MKg_five MG.out) (fun hHeld=>?_)
                    clear hK K
                    refine norm_ (a':=?_) ?_ ?_
                    rotate_left
                    · show Act.put _ (some 76) _=_
                      simp only [Act.put,List.setIfInBounds_toArray,List.set_cons_zero,List.set_cons_succ,i64_w,i32_w]
                      rfl
                    refine pure_ (i:=9) (N:=some 77) (v:=?_) (a':=?_) #[true,true,true,true,true,true,true,true,true,true,false] rfl rfl (any_of HT_.out (by kernel_rfl)) (fun _ _ _ h=>h) (Or.inl ⟨by rfl,?_⟩) ?_ ?_
                    rotate_left
                    · intro w'
                      go_simp
                      with_reducible rfl
                    rotate_left
                    · simp only [Act.put,List.setIfInBounds_toArray,List.set_cons_zero,List.set_cons_succ,i64_w,i32_w]
                      rfl
                    refine last_ (i:=10) (N:=none) #[true,true,true,true,true,true,true,true,true,true,true] rfl rfl (one_of HT_.out (by kernel_rfl)) (by decide) (fun K hK=>?_)
                    have hs51:w49.cell? ⟨g,2,none⟩=some v:=(MKg_five MG.out).2.2.1
                    have hfs51:=blk_frozen MG.out.2.2.2.1 2
                    refine skip_ (w1:=?_) (by rfl) rfl ?_ ?_
                    rotate_left
                    · go_simp
                      rfl
                    refine hK.out _ _ ?_
                    clear hK K
                    refine done_ (done_of HT_.out (by kernel_rfl)) ?_
                    clear hs51 hfs51
                    try go_wp2
                    go_roundg m
                    case measure=>have:=HI.out;omega
                    case rel=>exact ⟨i + 1,m,_,_,_,congrArg _ (by have:=HI.out;have:=HN.out;unfold wrap64;omega),⟨by have:=HI.out;omega⟩,H5,HY,⟨by rw [List.length_append,HL.out];rfl⟩,⟨MKg_setv MG.out (by have h9:=HO.out;rw [show (cs ++ [(⟨t0,t1,t2⟩:S44)]).length=cs.length + 1 from by simp] at h9;exact h9)⟩⟩
                  · have hkt:y.tmod 5=4:=by rw [Int.tmod_eq_emod_of_nonneg hy0];exact hk
                    have E5:Aside0 (impl_Lock_told.f k a b 4 (y2 % 8 + 2) s=some (t0,t1,t2)):=⟨by simpa [hk] using e5⟩
                    have H5:Aside0 (mkL k a b cnt s m y2 (cs ++ [(⟨t0,t1,t2⟩:S44)])=some out):=⟨by simpa [hk] using h5⟩
                    have HY:=amk (show 0≤y2∧y2≤10006 by omega)
                    clear e5 h5
                    go_wp2_with (go_at_call 43;refine Calls.mono NC.out ?_;rintro e w5 ⟨rfl,hm⟩;have MSa:=amk hm;clear hm c0 c1 c2 c3 c4;obtain ⟨c0,c1,c2,c3,c4⟩:=MKs_five MSa.out)
                    -- SECOND
                    go_wp2_with (go_at_call 43;refine Calls.mono (NC2.out _ MSa.out) ?_;rintro e w6 ⟨rfl,hm⟩;have MSb:=amk hm;clear hm c0 c1 c2 c3 c4;obtain ⟨c0,c1,c2,c3,c4⟩:=MKs_five MSb.out)
                    have MSd:=amk (MKs_below MSb.out (bd_ (Below.refl _ _)))
                    refine start_ (n:=11) (S:=(fun w'=>w'.cell? ⟨g,0,none⟩=some (.int .i64 a)∧w'.cell? ⟨g,1,none⟩=some (.int .i64 b)∧w'.cell? ⟨g,2,none⟩=some v∧w'.cell? ⟨w.heap.size,0,none⟩=some (.int .i64 a)∧w'.cell? ⟨w.heap.size,1,none⟩=some (.int .i64 b))) (ds:=[10]) #[false,false,false,false,false,false,false,false,false,false,false] (by kernel_rfl) rfl rfl (MKs_five MSd.out) (fun hHeld=>?_)
                    refine with_tabW impl_MakePuzzle.tab16 impl_MakePuzzle.bits16 (fun HT_ HW_=>?_)
                    generalize w6.drew=w47 at MSd hHeld ⊢
                    refine pure_ (i:=0) (N:=some 68) (v:=?_) (a':=?_) #[true,false,false,false,false,false,false,false,false,false,false] rfl rfl (any_of HT_.out (by kernel_rfl)) (fun _ _ _ h=>h) (Or.inl ⟨by rfl,?_⟩) ?_ ?_
                    rotate_left
                    · intro w'
                      go_simp
                      with_reducible rfl
                    rotate_left
                    · simp only [Act.put,List.setIfInBounds_toArray,List.set_cons_zero,List.set_cons_succ,i64_w,i32_w]
                      rfl
                    refine pure_ (i:=3) (N:=some 71) (v:=?_) (a':=?_) #[true,false,false,true,false,false,false,false,false,false,false] rfl rfl (any_of HT_.out (by kernel_rfl)) (fun _ _ _ h=>h) (Or.inl ⟨by rfl,?_⟩) ?_ ?_
                    rotate_left
                    · intro w'
                      go_simp
                      with_reducible rfl
                    rotate_left
                    · simp only [Act.put,List.setIfInBounds_toArray,List.set_cons_zero,List.set_cons_succ,i64_w,i32_w]
                      rfl
                    refine pure_ (i:=4) (N:=some 72) (v:=?_) (a':=?_) #[true,false,false,true,true,false,false,false,false,false,false] rfl rfl (any_of HT_.out (by kernel_rfl)) (fun _ _ _ h=>h) (Or.inl ⟨by rfl,?_⟩) ?_ ?_
                    rotate_left
                    · intro w'
                      go_simp
                      with_reducible rfl
                    rotate_left
                    · simp only [Act.put,List.setIfInBounds_toArray,List.set_cons_zero,List.set_cons_succ,i64_w,i32_w]
                      rfl
                    refine pure_ (i:=5) (N:=some 73) (v:=?_) (a':=?_) #[true,false,false,true,true,true,false,false,false,false,false] rfl rfl (any_of HT_.out (by kernel_rfl)) (fun _ _ _ h=>h) (Or.inl ⟨by rfl,?_⟩) ?_ ?_
                    rotate_left
                    · intro w'
                      go_simp
                      with_reducible rfl
                    rotate_left
                    · simp only [Act.put,List.setIfInBounds_toArray,List.set_cons_zero,List.set_cons_succ,i64_w,i32_w]
                      rfl
                    refine take_ (i:=1) (N:=some 69) (v:=?_) (a':=?_) #[true,true,false,true,true,true,false,false,false,false,false] rfl rfl (take_ofW HT_.out HW_.out (by kernel_rfl)) (fun _ _ _ h=>h) (Or.inl ⟨by rfl,?_⟩) hHeld ?_ ?_
                    rotate_left
                    · rintro w' ⟨s0,s1,s2,s3,s4⟩
                      go_simp
                      with_reducible rfl
                    rotate_left
                    · simp only [Act.put,List.setIfInBounds_toArray,List.set_cons_zero,List.set_cons_succ,i64_w,i32_w]
                      rfl
                    refine take_ (i:=2) (N:=some 70) (v:=?_) (a':=?_) #[true,true,true,true,true,true,false,false,false,false,false] rfl rfl (take_ofW HT_.out HW_.out (by kernel_rfl)) (fun _ _ _ h=>h) (Or.inl ⟨by rfl,?_⟩) hHeld ?_ ?_
                    rotate_left
                    · rintro w' ⟨s0,s1,s2,s3,s4⟩
                      go_simp
                      with_reducible rfl
                    rotate_left
                    · simp only [Act.put,List.setIfInBounds_toArray,List.set_cons_zero,List.set_cons_succ,i64_w,i32_w]
                      rfl
                    refine one_ (i:=6) (N:=some 74) #[true,true,true,true,true,true,true,false,false,false,false] rfl rfl (one_of HT_.out (by kernel_rfl)) (by decide) (fun K hK=>?_)
                    refine goes_ Try.func45 (by kernel_rfl) rfl #[.agg #[.int .i64 a, .int .i64 b], .int .i64 (4), .int .i64 (y2 % 8 + 2), .string s] (by rfl) rfl rfl (by (try simp only [List.map_toArray,List.map_cons,List.map_nil]);first | done | rfl | (simp only [List.length_drop,List.length_take];rfl)) ?_
                    with_reducible refine (impl_Lock_told.calls k a b (4) (y2 % 8 + 2) s t0 t1 t2 _ E5.out).mono ?_
                    rintro e w48 ⟨rfl,hb⟩
                    refine ⟨_,rfl,?_⟩
                    have MSe:=amk (MKs_below MSd.out hb)
                    clear hb
                    refine hK.out _ _ (MKs_five MSe.out) (fun hHeld=>?_)
                    clear hK K
                    refine norm_ (a':=?_) ?_ ?_
                    rotate_left
                    · show Act.put _ (some 74) _=_
                      simp only [Act.put,List.setIfInBounds_toArray,List.set_cons_zero,List.set_cons_succ,i64_w,i32_w]
                      rfl
                    refine one_ (i:=7) (N:=some 75) #[true,true,true,true,true,true,true,true,false,false,false] rfl rfl (one_of HT_.out (by kernel_rfl)) (by decide) (fun K hK=>?_)
                    refine value_ (w1:=?_) (v:=?_) (by rfl) rfl ?_ ?_
                    rotate_left 2
                    · go_simp
                      constructor
                      · rfl
                      · rfl
                    have MSf:=amk (fun o=>MKs_below MSe.out (ba_ (Below.refl _ _) o))
                    refine hK.out _ _ (MKs_five (MSf.out _)) (fun hHeld=>?_)
                    clear hK K
                    refine norm_ (a':=?_) ?_ ?_
                    rotate_left
                    · show Act.put _ (some 75) _=_
                      simp only [Act.put,List.setIfInBounds_toArray,List.set_cons_zero,List.set_cons_succ,i64_w,i32_w]
                      rfl
                    refine one_ (i:=8) (N:=some 76) #[true,true,true,true,true,true,true,true,true,false,false] rfl rfl (one_of HT_.out (by kernel_rfl)) (by decide) (fun K hK=>?_)
                    refine Kd.R_append_step k44 (w0:=w) w.heap.size (by rfl) (.tmp 69) (.tmp 75) 28 44 (.agg #[(.int .i64 0),(.int .i64 0),(.int .i64 0)]) 24 rfl Try.underlying28 info44 rfl (by decide) (by omega) v cs (⟨t0,t1,t2⟩:S44) [.int .i64 t0, .int .i64 t1, .int .i64 t2] (fun _=>True) (fun _=>False) rfl rfl ?aP (fun _ hk=>hk.elim) ?aF ?aO ?aB ?aS ?aL ?_
                    (case aP=>exact k44_mkM _ _ _ (⟨t0,t1,t2⟩:S44))
                    (case aB=>exact MSe.out.1)
                    (case aF=>exact (fun _ _=>trivial))
                    (case aO=>exact MSe.out.2.2.2.2.2.1)
                    (case aS=>exact MSe.out.1.size)
                    (case aL=>have:=HL.out;have:=HI.out;have:=HN.out;omega)
                    intro v444 w49 ho hb hg hat
                    have MG:=amk (MKs_grown MSe.out hb hg)
                    have HO:=amk ho
                    clear ho hb hg hat
                    obtain ⟨Ao50,co50,eo50⟩:=Kd.R_slice HO.out
                    subst eo50
                    refine hK.out _ _ (MKg_five MG.out) (fun hHeld=>?_)
                    clear hK K
                    refine norm_ (a':=?_) ?_ ?_
                    rotate_left
                    · show Act.put _ (some 76) _=_
                      simp only [Act.put,List.setIfInBounds_toArray,List.set_cons_zero,List.set_cons_succ,i64_w,i32_w]
                      rfl
                    refine pure_ (i:=9) (N:=some 77) (v:=?_) (a':=?_) #[true,true,true,true,true,true,true,true,true,true,false] rfl rfl (any_of HT_.out (by kernel_rfl)) (fun _ _ _ h=>h) (Or.inl ⟨by rfl,?_⟩) ?_ ?_
                    rotate_left
                    · intro w'
                      go_simp
                      with_reducible rfl
                    rotate_left
                    · simp only [Act.put,List.setIfInBounds_toArray,List.set_cons_zero,List.set_cons_succ,i64_w,i32_w]
                      rfl
                    refine last_ (i:=10) (N:=none) #[true,true,true,true,true,true,true,true,true,true,true] rfl rfl (one_of HT_.out (by kernel_rfl)) (by decide) (fun K hK=>?_)
                    have hs51:w49.cell? ⟨g,2,none⟩=some v:=(MKg_five MG.out).2.2.1
                    have hfs51:=blk_frozen MG.out.2.2.2.1 2
                    refine skip_ (w1:=?_) (by rfl) rfl ?_ ?_
                    rotate_left
                    · go_simp
                      rfl
                    refine hK.out _ _ ?_
                    clear hK K
                    refine done_ (done_of HT_.out (by kernel_rfl)) ?_
                    clear hs51 hfs51
                    try go_wp2
                    go_roundg m
                    case measure=>have:=HI.out;omega
                    case rel=>exact ⟨i + 1,m,_,_,_,congrArg _ (by have:=HI.out;have:=HN.out;unfold wrap64;omega),⟨by have:=HI.out;omega⟩,H5,HY,⟨by rw [List.length_append,HL.out];rfl⟩,⟨MKg_setv MG.out (by have h9:=HO.out;rw [show (cs ++ [(⟨t0,t1,t2⟩:S44)]).length=cs.length + 1 from by simp] at h9;exact h9)⟩⟩
            · rw [if_neg hc1] at h;cases h
          · rw [if_neg hr] at h;cases h
/-! What the law FnCodesHidden asks of its callees. -/
def laws_FnCodesHidden.FA:Prop:= ∀ (p d x y:Int) (s:ByteArray),∃ (k:Nat) (P D:Int) (L:List S44) (t:Bool),impl_MakePuzzle.f k p d s x y=some (P,D,L,t)∧spec_MakePuzzle.f k p d s x y=some (P,D,L,t)∧laws_ePuzzle.f k P D L P D L=some true∧(t=true→∃ (all:List ByteArray) (zero:ByteArray) (far pl qq n:Int),impl_Solutions.f k P D L=some (all,true)∧impl_ZeroCode.f p d=some (zero,true)∧impl_FewestTurns.f k p d zero s=some (far,true)∧impl_DoesFit.f k p d 3 0 far s=some (true,true)∧impl_HintOf.f k p d zero s=some (pl,qq,true)∧impl_DoesFit.f k p d 2 0 pl s=some (true,true)∧impl_NumberOfCode.f k p d s=some (n,true)∧impl_DoesFit.f k p d 4 7 (n.tmod 7) s=some (true,true)∧impl_IsPuzzle.f P D L=some true∧(L.length:Int)=x∧laws_eText.f k all s=some true)
def laws_FnCodesHidden.FB:Prop:= ∀ (P D:Int) (L:List S44),L.length≤20→∃ (k:Nat) (a b:Int) (L2:List S44) (t sv th:Bool),impl_HarderPuzzle.f k P D L=some (a,b,L2,t)∧spec_HarderPuzzle.f k P D L=some (a,b,L2,t)∧laws_ePuzzle.f k a b L2 a b L2=some true∧impl_IsSolved.f k P D L=some (sv,th)∧t=(th && sv)∧(t=true→∃ (all:List ByteArray),impl_Solutions.f k P D L=some (all,true)∧impl_Solutions.f k a b L2=some (all,true)∧impl_NeedlessClues.f k a b L2=some ([],true)∧L2.length≤L.length∧laws_eTexts.f k all all=some true)
def laws_FnCodesHidden.FC:Prop:= ∀ (P D x y z:Int) (L:List S44),L.length≤20→∃ (k:Nat) (a b:Int) (L2:List S44) (t:Bool),impl_AddClue.f P D L x y z=some (a,b,L2,t)∧spec_AddClue.f k P D L x y z=some (a,b,L2,t)∧laws_ePuzzle.f k a b L2 a b L2=some true∧(t=true→impl_DropClue.f a b L2 L.length=some (P,D,L,true)∧laws_ePuzzle.f k P D L P D L=some true∧L.length < L2.length∧rd_T44 L2 L.length=⟨x,y,z⟩)
def laws_FnCodesHidden.FD:Prop:= ∀ (P D i:Int) (L:List S44),L.length≤20→∃ (k:Nat) (a b x y z:Int) (L2:List S44) (t:Bool),impl_DropClue.f P D L i=some (a,b,L2,t)∧spec_DropClue.f k P D L i=some (a,b,L2,t)∧laws_ePuzzle.f k a b L2 a b L2=some true∧((t && (i == (L.length:Int) - 1))=true→0≤i∧i < L.length∧rd_T44 L i=⟨x,y,z⟩∧impl_AddClue.f a b L2 x y z=some (P,D,L,true)∧laws_ePuzzle.f k P D L P D L=some true)
def laws_FnCodesHidden.FE:Prop:= ∀ (p d x y z:Int) (s:ByteArray),∃ (k:Nat) (ft t:Bool),impl_DoesFit.f k p d x y z s=some (ft,t)∧spec_DoesFit.f k p d x y z s=some (ft,t)∧(t=true→impl_IsClue.f k p d x y z=some true)
def laws_FnCodesHidden.FF:Prop:= ∀ (p d x y z:Int),∃ (k:Nat) (r:Bool),impl_IsClue.f k p d x y z=some r∧spec_IsClue.f k p d x y z=some r
/-! ### laws_big: function 4 -/
def laws_big.f (l0:List Int) (l1:List Int):Option (Bool):=if (l0.length:Int) > 1048576 then (some true) else (some (decide ((l1.length:Int) > (wrap64 (1048576 - (l0.length:Int))))))
set_option maxHeartbeats 8000000 in
set_option maxRecDepth 100000 in
theorem laws_big.calls (A0:Option Addr) (c0:Nat) (l0:List Int) (A1:Option Addr) (c1:Nat) (l1:List Int) (r:Bool) (w:World) (hr0:Kd.C (Kd.int .u8) w A0 l0.length l0) (hc0:l0.length≤c0) (hr1:Kd.C (Kd.int .u8) w A1 l1.length l1) (hc1:l1.length≤c1) (h:laws_big.f l0 l1=some r) :
    Calls Try.prog 4 #[.slice A0 l0.length c0, .slice A1 l1.length c1] w fun e w'=>e = .returned (.bool r)∧Drawn0 w w':=by
  have HR0:=amk hr0;have HC0:=amk hc0;clear hr0 hc0;have HR1:=amk hr1;have HC1:=amk hc1;clear hr1 hc1;unfold laws_big.f at h;have H:=h;clear h
  by_cases c3:(l0.length:Int) > 1048576
  · rw [if_pos c3] at H;have c3b0:decide (1048576 < (l0.length:Int))=true:=decide_eq_true c3;have c3b1:decide (1048576 < l0.length)=true:=decide_eq_true (by omega);clear c3;obtain rfl:=Option.some.inj H;go_enter Try.func4,Try.ntmps4;go_wp2;go_ret;exact ⟨rS_,dR_⟩
  · rw [if_neg c3] at H;have c3b0:decide (1048576 < (l0.length:Int))=false:=decide_eq_false c3;have c3b1:decide (1048576 < l0.length)=false:=decide_eq_false (by omega);clear c3;obtain rfl:=Option.some.inj H;go_enter Try.func4,Try.ntmps4;go_wp2;go_ret;exact ⟨rS_,dR_⟩
/-! Small laws on blocks of two and of three cells, and on what lies in an interval of blocks. -/
theorem two_cells {w:World} {g t:Nat} {a b:Value} (h:w.heap[g]?=some (.cells #[a,b] t (0,0))):w.cell? ⟨g,0,none⟩=some a∧w.cell? ⟨g,1,none⟩=some b∧w.frozen? ⟨g,0,none⟩=false∧w.frozen? ⟨g,1,none⟩=false∧g < w.heap.size:=
  ⟨by simp [World.cell?,h],by simp [World.cell?,h],by simp [World.frozen?,h],by simp [World.frozen?,h],(Array.getElem?_eq_some_iff.mp h).1⟩
theorem two_set {w:World} {g t:Nat} {a b:Value} (h:w.heap[g]?=some (.cells #[a,b] t (0,0))) (c d:Value):((w.setCell ⟨g,0,none⟩ c).setCell ⟨g,1,none⟩ d).heap[g]?=some (.cells #[c,d] t (0,0)):=by
  have h1:=heap_setCell_same w g 0 #[a,b] t c h
  have h2:=heap_setCell_same (w.setCell ⟨g,0,none⟩ c) g 1 _ t d h1
  rw [h2]
  rfl
theorem three_set {w:World} {g t:Nat} {a b c:Value} (h:w.heap[g]?=some (.cells #[a,b,c] t (0,0))) (x y z:Value):(((w.setCell ⟨g,0,none⟩ x).setCell ⟨g,1,none⟩ y).setCell ⟨g,2,none⟩ z).heap[g]?=some (.cells #[x,y,z] t (0,0)):=by
  have h1:=heap_setCell_same w g 0 #[a,b,c] t x h
  have h2:=heap_setCell_same (w.setCell ⟨g,0,none⟩ x) g 1 _ t y h1
  have h3:=heap_setCell_same ((w.setCell ⟨g,0,none⟩ x).setCell ⟨g,1,none⟩ y) g 2 _ t z h2
  rw [h3]
  rfl
/-! Codes of a lock as texts, their digits, what clues tell of them. -/
def codeS (w d:Int) (s:ByteArray):Prop:=s.size=w.toNat∧∀ i < s.size,48≤bt s (i:Nat)∧bt s (i:Nat) < 48 + d
def dg (s:ByteArray):List Int:=(List.range s.size).map fun i=>bt s (i:Nat) - 48
theorem dg_length (s:ByteArray):(dg s).length=s.size:=by simp [dg]
theorem dg_at {s:ByteArray} {i:Nat} (h:i < s.size):rd (dg s) (i:Nat)=bt s (i:Nat) - 48:=by
  rw [rd_at (by simpa [dg] using h)];simp [dg]
theorem bt_textB {D:List Int} (h : ∀ x∈D,0≤x∧x < 10) {i:Nat} (hi:i < D.length):bt (textB D) (i:Nat)=48 + D[i]:=by
  have hx:=h D[i] (List.getElem_mem hi)
  have hs:(textB D).size=D.length:=by unfold textB;rw [strOfNums_size,List.length_map]
  unfold bt
  rw [dif_pos (by rw [hs];simpa using hi)]
  have e1:((textB D)[(i:Int).toNat]'(by rw [hs];simpa using hi))=UInt8.ofNat (wrap64 (48 + D[i]) % 256).toNat:=by
    show (textB D).data[(i:Int).toNat]'_=_
    have:(textB D).data=((D.map fun x=>wrap64 (48 + x) % 256).map fun n=>UInt8.ofNat n.toNat).toArray:=rfl
    simp [this]
  rw [e1,w64 (by omega) (by omega)]
  simp
  omega
theorem codeB_code {w d a:Int} (hl:lockB w d=true):codeS w d (codeB w d a):=by
  obtain ⟨w1,w2,d1,d2⟩:=lockB_iff.mp hl
  have hs:(codeB w d a).size=w.toNat:=by unfold codeB textB;rw [strOfNums_size,List.length_map,digs_length]
  refine ⟨hs,fun i hi=>?_⟩
  have hr:=digs_range (d:=d) (by omega) w.toNat a
  unfold codeB
  rw [bt_textB (fun x hx=>by have:=hr x hx;omega) (by rw [digs_length,←hs];exact hi)]
  have:=hr _ (List.getElem_mem (by rw [digs_length,←hs];exact hi):(digs d w.toNat a)[i]'(by rw [digs_length,←hs];exact hi)∈_)
  omega
def sumF:Int→List Int→Int
  | acc,[]=> acc
  | acc,x :: xs=>sumF (wrap64 (acc + x)) xs
def numF (d:Int):Int→List Int→Int
  | acc,[]=> acc
  | acc,x :: xs=>numF d (wrap64 (wrap64 (acc * d) + x)) xs
def turnV (d x y:Int):Int:=Int.tmod (wrap64 (Int.tmod (wrap64 (y - x)) d + d)) d
def nearV (d x y:Int):Int:=lst (turnV d x y) (Int.tmod (wrap64 (d - turnV d x y)) d)
def distF (d:Int) (s t:ByteArray):Nat→Int
  | 0=>0
  | i + 1=>wrap64 (distF d s t i + nearV d (bt s (i:Nat)) (bt t (i:Nat)))
def valV (w d k a:Int) (s:ByteArray):Int:=
  if k=0 then bt s a - 48 else if k=1 then sumF 0 (dg s) else if k=2 then plN (codeB w d a) s w.toNat
  else if k=3 then distF d (codeB w d a) s w.toNat else Int.tmod (numF d 0 (dg s)) a
def fitV (w d:Int) (c:Int×Int×Int) (s:ByteArray):Bool:=if c.1=1 then decide (valV w d 1 0 s=c.2.1) else decide (valV w d c.1 c.2.1 s=c.2.2)
theorem codeS_hint {w d:Int} {s t:ByteArray} (hl:lockB w d=true) (hs:codeS w d s) (ht:codeS w d t):hintB s t=true:=by
  obtain ⟨w1,w2,d1,d2⟩:=lockB_iff.mp hl
  have h1:=hs.1
  have h2:=ht.1
  refine hintB_iff.mpr ⟨by omega,by omega,by omega,fun i hi=>?_,fun i hi=>?_⟩
  · have:=hs.2 i hi;omega
  · have:=ht.2 i hi;omega
/-! spec's functions on locks and clues: what they come to. -/
theorem spec_l1In.is (a b c:Int):spec_l1In.f a b c=some (decide (b≤a∧a≤c)):=by
  unfold spec_l1In.f
  by_cases h:a ≥ b
  · rw [if_pos h];have h':b≤a:=h;congr 1;simp [h']
  · rw [if_neg h];have h' : ¬ b≤a:=h;congr 1;simp [h']
theorem spec_whGood.is (w d:Int):spec_whGood.f w d=some (lockB w d):=by
  unfold spec_whGood.f lockB
  simp only [spec_l1In.is,Option.bind_some]
  by_cases h:1≤w∧w≤6 <;> simp [h]
theorem spec_whCount.lev (w d:Int) (h1:1≤d) (h2:d≤10) (hn:w≤6) : ∀ (j:Nat) (i:Int),0≤i→i≤w→i=j→Ev (fun k=>spec_whCount.l0 k (d ^ (w - i).toNat) i w d) (d ^ w.toNat):=by
  intro j
  induction j with
  | zero =>
    intro i h0 hi hj
    obtain rfl:i=0:=by omega
    exact Ev.step (fun k=>rfl) (Ev.no (by omega) (Ev.id (by simp)))
  | succ j ih =>
    intro i h0 hi hj
    refine Ev.step (fun k=>rfl) (Ev.yes (by omega) ?_)
    have hb:=pow_bound h1 h2 (n:=(w - i).toNat) (by omega)
    have hm:d ^ (w - i).toNat * d=d ^ (w - (i - 1)).toNat:=by rw [show (w - (i - 1)).toNat=(w - i).toNat + 1 by omega,Int.pow_succ]
    have hb':=pow_bound h1 h2 (n:=(w - (i - 1)).toNat) (by omega)
    rw [w64 (x:=i - 1) (by omega) (by omega),hm,w64 (x:=d ^ (w - (i - 1)).toNat) (by omega) (by omega)]
    exact ih (i - 1) (by omega) (by omega) (by omega)
theorem spec_whCount.ev {w d:Int} (h:lockB w d=true):Ev (fun k=>spec_whCount.f k w d) (d ^ w.toNat):=by
  obtain ⟨a,b,c,e⟩:=lockB_iff.mp h
  have:=spec_whCount.lev w d (by omega) e b w.toNat w (by omega) (by omega) (by omega)
  unfold spec_whCount.f
  simpa using this
/-! spec's locks of hints: what they come to. -/
theorem spec_hiLock.ev (w d m:Int):Ev (fun k=>spec_hiLock.f k w d m) (smallB w d m):=by
  unfold spec_hiLock.f smallB
  refine Ev.bindc (spec_whGood.is w d) ?_
  cases h:lockB w d with
  | true=>exact Ev.yes rfl (Ev.bind (spec_whCount.ev h) (Ev.id (by simp)))
  | false=>exact Ev.no (by simp) (Ev.id (by simp))
/-! spec's clues: what they come to. -/
theorem spec_pzLock.ev (w d:Int):Ev (fun k=>spec_pzLock.f k w d) (smallB w d 125):=by
  unfold spec_pzLock.f
  exact Ev.bind (spec_hiLock.ev w d 125) (Ev.now _)
theorem spec_pzClue.ev (w d a b c:Int) (hl:lockB w d=true):Ev (fun k=>spec_pzClue.f k w d a b c) (clueB w d a b c):=by
  unfold spec_pzClue.f clueB
  obtain ⟨w1,w2,d1,d2⟩:=lockB_iff.mp hl
  have hc:=count_bound hl
  simp only [spec_l1In.is,Option.bind_some,w64 (x:=w - 1) (by omega) (by omega),w64 (x:=d - 1) (by omega) (by omega)]
  refine Ev.both (fun e=>?_) (fun e=>?_)
  · rw [if_pos e]
    exact Ev.both (fun h=>Ev.id (by simp [of_decide_eq_true h])) (fun h=>Ev.id (by have:=decide_eq_false_iff_not.mp (Bool.eq_false_iff.mpr h);simp [this]))
  rw [if_neg e]
  refine Ev.both (fun e=>?_) (fun e=>?_)
  · rw [if_pos e]
    exact Ev.both (fun h=>Ev.id (by simp [of_decide_eq_true h])) (fun h=>Ev.id (by have:=decide_eq_false_iff_not.mp (Bool.eq_false_iff.mpr h);simp [this]))
  rw [if_neg e]
  refine Ev.both (fun e=>?_) (fun e=>?_)
  · rw [if_pos e]
    refine Ev.bind (spec_whCount.ev hl) ?_
    rw [w64 (x:=d ^ w.toNat - 1) (by omega) (by omega)]
    exact Ev.both (fun h=>Ev.id (by simp [of_decide_eq_true h])) (fun h=>Ev.id (by have:=decide_eq_false_iff_not.mp (Bool.eq_false_iff.mpr h);simp [this]))
  rw [if_neg e]
  refine Ev.both (fun e=>?_) (fun e=>?_)
  · rw [if_pos e]
    refine Ev.bind (spec_whCount.ev hl) ?_
    rw [w64 (x:=d ^ w.toNat - 1) (by omega) (by omega)]
    exact Ev.both (fun h=>Ev.id (by simp [of_decide_eq_true h])) (fun h=>Ev.id (by have:=decide_eq_false_iff_not.mp (Bool.eq_false_iff.mpr h);simp [this]))
  rw [if_neg e]
  refine Ev.both (fun e=>?_) (fun e=>?_)
  · rw [if_pos e]
    refine Ev.both (fun h=>?_) (fun h=>Ev.id (by have:=decide_eq_false_iff_not.mp (Bool.eq_false_iff.mpr h);simp [this]))
    have h':=of_decide_eq_true h
    rw [w64 (x:=b - 1) (by omega) (by omega)]
    exact Ev.id (by simp [h'])
  rw [if_neg e]
  exact Ev.id (by simp)
/-! Which texts are codes: both sides. -/
def codeT (w d:Int) (s:ByteArray):Bool:=decide (s.size=w.toNat∧∀ i < s.size,48≤bt s (i:Nat)∧bt s (i:Nat) < 48 + d)
theorem codeT_iff {w d:Int} {s:ByteArray} : codeT w d s=true ↔ codeS w d s:=by simp [codeT,codeS]
def restT (d:Int) (s:ByteArray):Nat→Nat→Bool
  | 0,_=>true
  | m + 1,i=>decide (48≤bt s (i:Nat)∧bt s (i:Nat) < 48 + d) && restT d s m (i + 1)
theorem restT_all {d:Int} {s:ByteArray} : ∀ (m i:Nat),restT d s m i=true ↔ ∀ j,i≤j→j < i + m→48≤bt s (j:Nat)∧bt s (j:Nat) < 48 + d
  | 0,i=>by simp [restT];omega
  | m + 1, i => by
    simp only [restT,Bool.and_eq_true,decide_eq_true_eq,restT_all m (i + 1)]
    constructor
    · rintro ⟨h1,h2⟩ j hj hj2
      by_cases e:j=i
      · subst e;exact h1
      · exact h2 j (by omega) (by omega)
    · intro h
      exact ⟨h i (by omega) (by omega),fun j hj hj2=>h j (by omega) (by omega)⟩
theorem codeT_rest {w d:Int} {s:ByteArray} (hw:0≤w) (h:(s.size:Int)=w):codeT w d s=restT d s s.size 0:=by
  rw [Bool.eq_iff_iff,codeT_iff,restT_all]
  constructor
  · intro hc j _ hj;exact hc.2 j (by omega)
  · intro hr;exact ⟨by omega,fun i hi=>hr i (by omega) (by omega)⟩
theorem codeT_no {w d:Int} {s:ByteArray} (hw:0≤w) (h : ¬ (s.size:Int)=w):codeT w d s=false:=by
  rw [Bool.eq_false_iff];intro hc
  have:=(codeT_iff.mp hc).1
  omega
theorem spec_whCode.lev {w d:Int} (hl:lockB w d=true) (s:ByteArray) (h6:s.size≤6) : ∀ (m i:Nat),i + m=s.size→Ev (fun k=>spec_whCode.l0 k s (i:Nat) w d) (restT d s m i):=by
  obtain ⟨w1,w2,d1,d2⟩:=lockB_iff.mp hl
  intro m
  induction m with
  | zero=>intro i hi;exact Ev.step (fun k=>rfl) (Ev.no (by omega) (Ev.now _))
  | succ m ih =>
    intro i hi
    have hb:=bt_range s (i:Nat)
    refine Ev.step (fun k=>rfl) (Ev.yes (by omega) (Ev.yes (by omega) ?_))
    rw [w64 (x:=bt s (i:Nat)) (by omega) (by omega),w64 (x:=bt s (i:Nat) - 48) (by omega) (by omega),w64 (x:=d - 1) (by omega) (by omega)]
    refine Ev.bindc (spec_l1In.is _ _ _) ?_
    rw [restT,show decide (0≤bt s (i:Nat) - 48∧bt s (i:Nat) - 48≤d - 1)=decide (48≤bt s (i:Nat)∧bt s (i:Nat) < 48 + d) from decide_eq_decide.mpr (by omega),w64 (x:=(i:Int) + 1) (by omega) (by omega)]
    cases decide (48≤bt s (i:Nat)∧bt s (i:Nat) < 48 + d) with
    | true=>exact Ev.yes rfl (ih (i + 1) (by omega))
    | false=>exact Ev.no (by simp) (Ev.now _)
theorem impl_Lock_isText.lev {w d:Int} (hl:lockB w d=true) (s:ByteArray) (h6:s.size≤6) : ∀ (m i:Nat),i + m=s.size→Ev (fun k=>impl_Lock_isText.l0 k s (s.size:Int) (i:Nat) w d) (restT d s m i):=by
  obtain ⟨w1,w2,d1,d2⟩:=lockB_iff.mp hl
  intro m
  induction m with
  | zero=>intro i hi;exact Ev.step (fun k=>rfl) (Ev.no (by omega) (Ev.now _))
  | succ m ih =>
    intro i hi
    have hb:=bt_range s (i:Nat)
    refine Ev.step (fun k=>rfl) (Ev.yes (by omega) (Ev.yes (by omega) (Ev.yes (by omega) ?_)))
    rw [w64 (x:=bt s (i:Nat)) (by omega) (by omega),w64 (x:=48 + d) (by omega) (by omega),w64 (x:=48 + d - 1) (by omega) (by omega)]
    refine Ev.bindc (impl_within.is _ _ _) ?_
    rw [restT,show decide (48≤bt s (i:Nat)∧bt s (i:Nat)≤48 + d - 1)=decide (48≤bt s (i:Nat)∧bt s (i:Nat) < 48 + d) from decide_eq_decide.mpr (by omega),w64 (x:=(i:Int) + 1) (by omega) (by omega)]
    cases decide (48≤bt s (i:Nat)∧bt s (i:Nat) < 48 + d) with
    | true=>exact Ev.yes rfl (ih (i + 1) (by omega))
    | false=>exact Ev.no (by simp) (Ev.now _)
theorem spec_whCode.ev {w d:Int} (hl:lockB w d=true) (s:ByteArray):Ev (fun k=>spec_whCode.f k w d s) (codeT w d s):=by
  obtain ⟨w1,w2,d1,d2⟩:=lockB_iff.mp hl
  unfold spec_whCode.f
  by_cases e:(s.size:Int)=w
  · rw [codeT_rest (by omega) e]
    exact Ev.yes e (spec_whCode.lev hl s (by omega) s.size 0 (by omega))
  · rw [codeT_no (by omega) e]
    exact Ev.no e (Ev.now _)
theorem impl_Lock_isCode.ev {w d:Int} (hl:lockB w d=true) (s:ByteArray):Ev (fun k=>impl_Lock_isCode.f k w d s) (codeT w d s):=by
  obtain ⟨w1,w2,d1,d2⟩:=lockB_iff.mp hl
  unfold impl_Lock_isCode.f impl_Lock_isText.f
  by_cases e:(s.size:Int)=w
  · rw [codeT_rest (by omega) e]
    exact Ev.yes e (Ev.bind (impl_Lock_isText.lev hl s (by omega) s.size 0 (by omega)) (Ev.now _))
  · rw [codeT_no (by omega) e]
    exact Ev.no e (Ev.now _)
theorem impl_has.one {w d:Int} (hl:lockB w d=true) (s:ByteArray):Ev (fun k=>impl_has.f k w d [s]) (codeT w d s):=by
  unfold impl_has.f
  refine Ev.bindc (impl_IsLock.is w d) (Ev.yes hl ?_)
  refine Ev.step (fun k=>rfl) (Ev.yes (by simp) (Ev.yes (by omega) (Ev.yes (by simp) ?_)))
  rw [show rdOf ByteArray.empty [s] 0=s from rfl]
  refine Ev.bind (impl_Lock_isCode.ev hl s) ?_
  cases codeT w d s with
  | true =>
    refine Ev.yes rfl (Ev.step (fun k=>rfl) (Ev.no ?_ (Ev.now _)))
    rw [show wrap64 ((0:Int) + 1)=1 from w64 (by omega) (by omega)];simp
  | false=>exact Ev.no (by simp) (Ev.now _)
/-! A clue read out of a list. -/
theorem rd_clue {xs:List S44} {i:Int} (h:i.toNat < xs.length):rd_T44 xs i=xs[i.toNat]:=by unfold rd_T44;exact getD_at h
/-! Declarations moved out of EVal. -/
theorem spec_whDigits.ev {s:ByteArray} (h6:s.size≤6) (h : ∀ i < s.size,48≤bt s (i:Nat)∧bt s (i:Nat)≤57):Ev (fun k=>spec_whDigits.f k s) (dg s):=by
  have : ∀ m i:Nat,i + m=s.size→∀ xs:List Int,xs.length=i→Ev (fun k=>spec_whDigits.l0 k s xs (i:Nat)) (xs ++ (List.range' i m).map fun i=>bt s (i:Nat) - 48):=by
    intro m
    induction m with
    | zero =>
      intro i hi xs hx
      refine Ev.step (fun k=>rfl) ?_
      refine Ev.no (by omega) ?_
      exact Ev.id (by simp)
    | succ m ih =>
      intro i hi xs hx
      refine Ev.step (fun k=>rfl) ?_
      refine Ev.yes (by omega) (Ev.yes (by omega) (Ev.yes (by omega) ?_))
      have:=ih (i + 1) (by omega) (xs ++ [bt s (i:Nat) - 48]) (by simp [hx])
      have hb:=h i (by omega)
      rw [show ((bt s (i:Nat)) - 48) % 256=bt s (i:Nat) - 48 by omega,show wrap64 ((i:Int) + 1)=((i + 1:Nat):Int) from w64 (by omega) (by omega)]
      refine Ev.eq this ?_
      rw [List.range'_succ]
      simp
  have:=this s.size 0 (by omega) [] rfl
  refine Ev.eq this ?_
  simp [dg,List.range_eq_range']
theorem impl_digits.ev {w d:Int} {s:ByteArray} (hl:lockB w d=true) (hs:codeS w d s):Ev (fun k=>impl_digits.f k s) (dg s):=by
  obtain ⟨w1,w2,d1,d2⟩:=lockB_iff.mp hl
  have h1:=hs.1
  exact impl_digits_of (by omega) (fun i hi=>by have:=hs.2 i hi;omega)
theorem spec_whDigits.evc {w d:Int} {s:ByteArray} (hl:lockB w d=true) (hs:codeS w d s):Ev (fun k=>spec_whDigits.f k s) (dg s):=by
  obtain ⟨w1,w2,d1,d2⟩:=lockB_iff.mp hl
  have h1:=hs.1
  exact spec_whDigits.ev (by omega) (fun i hi=>by have:=hs.2 i hi;omega)
theorem impl_Lock_number.lev (w d:Int) (D:List Int) (hD:D.length≤6) : ∀ (m i:Nat),i + m=D.length→∀ acc,Ev (fun k=>impl_Lock_number.l0 k acc D (D.length:Int) (i:Nat) w d) (numF d acc (D.drop i)):=by
  intro m
  induction m with
  | zero =>
    intro i hi acc
    refine Ev.step (fun k=>rfl) (Ev.no (by omega) (Ev.id ?_))
    rw [List.drop_eq_nil_of_le (by omega)];rfl
  | succ m ih =>
    intro i hi acc
    refine Ev.step (fun k=>rfl) (Ev.yes (by omega) (Ev.yes (by omega) (Ev.yes (by omega) ?_)))
    have hlt:i < D.length:=by omega
    rw [show wrap64 ((i:Int) + 1)=((i + 1:Nat):Int) from w64 (by omega) (by omega),List.drop_eq_getElem_cons hlt,rd_at (by simpa using hlt)]
    exact ih (i + 1) (by omega) _
theorem spec_whNumber.lev (w d:Int) (D:List Int) (hD:D.length≤6) : ∀ (m i:Nat),i + m=D.length→∀ acc,Ev (fun k=>spec_whNumber.l0 k acc D (D.length:Int) (i:Nat) w d) (numF d acc (D.drop i)):=by
  intro m
  induction m with
  | zero =>
    intro i hi acc
    refine Ev.step (fun k=>rfl) (Ev.no (by omega) (Ev.id ?_))
    rw [List.drop_eq_nil_of_le (by omega)];rfl
  | succ m ih =>
    intro i hi acc
    refine Ev.step (fun k=>rfl) (Ev.yes (by omega) (Ev.yes (by omega) (Ev.yes (by omega) ?_)))
    have hlt:i < D.length:=by omega
    rw [show wrap64 ((i:Int) + 1)=((i + 1:Nat):Int) from w64 (by omega) (by omega),List.drop_eq_getElem_cons hlt,rd_at (by simpa using hlt)]
    exact ih (i + 1) (by omega) _
theorem impl_Lock_number.ev {w d:Int} {s:ByteArray} (hl:lockB w d=true) (hs:codeS w d s):Ev (fun k=>impl_Lock_number.f k w d s) (numF d 0 (dg s)):=by
  have h6:(dg s).length≤6:=by rw [dg_length,hs.1];have:=lockB_iff.mp hl;omega
  unfold impl_Lock_number.f
  exact Ev.bind (impl_digits.ev hl hs) (impl_Lock_number.lev w d _ h6 (dg s).length 0 (by omega) 0)
theorem spec_whNumber.ev {w d:Int} {s:ByteArray} (hl:lockB w d=true) (hs:codeS w d s):Ev (fun k=>spec_whNumber.f k w d s) (numF d 0 (dg s)):=by
  have h6:(dg s).length≤6:=by rw [dg_length,hs.1];have:=lockB_iff.mp hl;omega
  unfold spec_whNumber.f
  exact Ev.bind (spec_whDigits.evc hl hs) (spec_whNumber.lev w d _ h6 (dg s).length 0 (by omega) 0)
/-! Texts of digits: their sizes. -/
theorem strOfNums_app (a b:List Int):strOfNums (a ++ b)=strOfNums a ++ strOfNums b:=by
  apply ByteArray.ext
  simp [strOfNums,ByteArray.data_append]
theorem textB_app (a:List Int) (x:Int):textB (a ++ [x])=textB a ++ strOfNums [wrap64 (48 + x) % 256]:=by
  unfold textB;rw [List.map_append,strOfNums_app];rfl
theorem textB_size (l:List Int):(textB l).size=l.length:=by unfold textB;rw [strOfNums_size,List.length_map]
/-! spec's numbers of one digit. -/
theorem spec_l1Num.one {x:Int} (h:x < 10):Ev (fun k=>spec_l1Num.f k x) (strOfNums [wrap64 (48 + x) % 256]):=
  Ev.step (fun k=>rfl) (Ev.yes h (Ev.now _))
/-! Declarations moved out of ETexts. -/
theorem spec_whText.lev (D:List Int) (hD:D.length≤1000) (h : ∀ x∈D,0≤x∧x < 10) : ∀ (m i:Nat),i + m=D.length→Ev (fun k=>spec_whText.l0 k (textB (D.take i)) D (D.length:Int) (i:Nat)) (textB D):=by
  intro m
  induction m with
  | zero =>
    intro i hi
    refine Ev.step (fun k=>rfl) (Ev.no (by omega) (Ev.id ?_))
    rw [List.take_of_length_le (by omega)]
  | succ m ih =>
    intro i hi
    have hlt:i < D.length:=by omega
    have hx:=h D[i] (List.getElem_mem hlt)
    refine Ev.step (fun k=>rfl) (Ev.yes (by omega) (Ev.yes (by omega) (Ev.yes (by omega) ?_)))
    rw [rd_at (by simpa using hlt)]
    refine Ev.bind (spec_l1Num.one (by simpa using hx.2)) ?_
    refine Ev.yes (by rw [textB_size,strOfNums_size,List.length_take];simp;omega) ?_
    rw [show wrap64 ((i:Int) + 1)=((i + 1:Nat):Int) from w64 (by omega) (by omega)]
    have:=ih (i + 1) (by omega)
    rw [List.take_succ_eq_append_getElem hlt,textB_app] at this
    exact this
theorem spec_whText.ev (D:List Int) (hD:D.length≤1000) (h : ∀ x∈D,0≤x∧x < 10):Ev (fun k=>spec_whText.f k D) (textB D):=by
  unfold spec_whText.f
  exact spec_whText.lev D hD h D.length 0 (by omega)
/-! Declarations moved out of EVal2. -/
theorem spec_whOf.lev {w d:Int} (hl:lockB w d=true) (D:List Int) (hD:D.length=w.toNat) (h : ∀ x∈D,0≤x∧x < 10) : ∀ (m:Nat) (n:Int) (T:List Int),0≤n→n≤9223372036854775807→digs d m n ++ T=D→Ev (fun k=>spec_whOf.l0 k n (List.replicate m 0 ++ T) ((m:Int) - 1) w d) (textB D):=by
  obtain ⟨w1,w2,d1,d2⟩:=lockB_iff.mp hl
  intro m
  induction m with
  | zero =>
    intro n T h0 h1 hT
    refine Ev.step (fun k=>rfl) (Ev.no (by omega) ?_)
    have:List.replicate 0 (0:Int) ++ T=D:=hT
    rw [this]
    exact Ev.bind (spec_whText.ev D (by omega) h) (Ev.now _)
  | succ m ih =>
    intro n T h0 h1 hT
    have hlen:m + 1 + T.length=D.length:=by rw [←hT,List.length_append,digs_length]
    refine Ev.step (fun k=>rfl) (Ev.yes (by omega) (Ev.no (by omega) (Ev.yes (by omega) (Ev.yes (by rw [List.length_append,List.length_replicate];omega) ?_))))
    rw [show ((m + 1:Nat):Int) - 1=(m:Nat) by omega,Int.toNat_natCast,rep_set,Int.tmod_eq_emod_of_nonneg h0,Int.tdiv_eq_ediv_of_nonneg h0]
    have r3:0≤n / d:=Int.ediv_nonneg h0 (by omega)
    have r4:n / d≤n:=Int.ediv_le_self _ h0
    rw [w64 (x:=n / d) (by omega) (by omega),w64 (x:=(m:Int) - 1) (by omega) (by omega)]
    refine ih (n / d) (n % d :: T) r3 (by omega) ?_
    rw [digs,List.append_assoc] at hT
    exact hT
theorem spec_whOf.ev {w d a:Int} (hl:lockB w d=true) (h0:0≤a) (h1:a≤9223372036854775807):Ev (fun k=>spec_whOf.f k w d a) (codeB w d a):=by
  obtain ⟨w1,w2,d1,d2⟩:=lockB_iff.mp hl
  unfold spec_whOf.f
  refine Ev.yes (by omega) (Ev.yes (by omega) ?_)
  rw [w64 (x:=w - 1) (by omega) (by omega)]
  have:=spec_whOf.lev hl (digs d w.toNat a) (by rw [digs_length]) (fun x hx=>by have:=digs_range (d:=d) (by omega) w.toNat a x hx;omega) w.toNat a [] h0 h1 (by rw [List.append_nil])
  rw [List.append_nil,show ((w.toNat:Nat):Int) - 1=w - 1 by omega] at this
  exact this
/-! What clues tell of codes: impl's and spec's agree. -/
theorem spec_pzValue.lev (D:List Int) (hD:D.length≤6) : ∀ (m i:Nat),i + m=D.length→∀ acc,Ev (fun k=>spec_pzValue.l0 k acc D (D.length:Int) (i:Nat)) (sumF acc (D.drop i)):=by
  intro m
  induction m with
  | zero =>
    intro i hi acc
    refine Ev.step (fun k=>rfl) (Ev.no (by omega) (Ev.id ?_))
    rw [List.drop_eq_nil_of_le (by omega)];rfl
  | succ m ih =>
    intro i hi acc
    refine Ev.step (fun k=>rfl) (Ev.yes (by omega) (Ev.yes (by omega) (Ev.yes (by omega) ?_)))
    have hlt:i < D.length:=by omega
    rw [show wrap64 ((i:Int) + 1)=((i + 1:Nat):Int) from w64 (by omega) (by omega),List.drop_eq_getElem_cons hlt,rd_at (by simpa using hlt)]
    exact ih (i + 1) (by omega) _
theorem impl_Lock_told.lev (D:List Int) (hD:D.length≤6) : ∀ (m i:Nat),i + m=D.length→∀ acc,Ev (fun k=>impl_Lock_told.l0 k acc D (D.length:Int) (i:Nat)) (1,sumF acc (D.drop i),0):=by
  intro m
  induction m with
  | zero =>
    intro i hi acc
    refine Ev.step (fun k=>rfl) (Ev.no (by omega) (Ev.id ?_))
    rw [List.drop_eq_nil_of_le (by omega)];rfl
  | succ m ih =>
    intro i hi acc
    refine Ev.step (fun k=>rfl) (Ev.yes (by omega) (Ev.yes (by omega) (Ev.yes (by omega) ?_)))
    have hlt:i < D.length:=by omega
    rw [show wrap64 ((i:Int) + 1)=((i + 1:Nat):Int) from w64 (by omega) (by omega),List.drop_eq_getElem_cons hlt,rd_at (by simpa using hlt)]
    exact ih (i + 1) (by omega) _
/-! spec's texts of codes, distances: what they come to. -/
theorem spec_l1Least.is (a b:Int):spec_l1Least.f a b=some (lst a b):=by unfold spec_l1Least.f lst;split <;> rfl
theorem turnV_range {d x y:Int} (hd:2≤d) (hd2:d≤10) (hx : -300≤x∧x≤300) (hy : -300≤y∧y≤300):0≤turnV d x y∧turnV d x y < d:=by
  unfold turnV
  have e1:wrap64 (y - x)=y - x:=w64 (by omega) (by omega)
  have h1 : -d < Int.tmod (y - x) d:=Int.lt_tmod_of_pos _ (by omega)
  have h2:Int.tmod (y - x) d < d:=Int.tmod_lt_of_pos _ (by omega)
  rw [e1,w64 (by omega) (by omega),Int.tmod_eq_emod_of_nonneg (by omega)]
  exact ⟨Int.emod_nonneg _ (by omega),Int.emod_lt_of_pos _ (by omega)⟩
theorem spec_whDistance.lev {w d:Int} (hl:lockB w d=true) {s t:ByteArray} (hs:codeS w d s) (ht:codeS w d t) : ∀ (m i:Nat),i + m=s.size→Ev (fun k=>spec_whDistance.l0 k (dg s) (dg t) (distF d s t i) ((dg s).length:Int) (i:Nat) w d) (distF d s t s.size):=by
  obtain ⟨w1,w2,d1,d2⟩:=lockB_iff.mp hl
  have hsz:=hs.1
  have htz:=ht.1
  intro m
  induction m with
  | zero =>
    intro i hi
    refine Ev.step (fun k=>rfl) (Ev.no (by rw [dg_length];omega) (Ev.id ?_))
    rw [show i=s.size by omega]
  | succ m ih =>
    intro i hi
    have a1:=hs.2 i (by omega)
    have a2:=ht.2 i (by omega)
    refine Ev.step (fun k=>rfl) (Ev.yes (by rw [dg_length];omega) (Ev.yes (by omega) (Ev.yes (by rw [dg_length];omega) (Ev.yes (by rw [dg_length];omega) ?_))))
    rw [dg_at (by omega),dg_at (by omega)]
    have hf:spec_whFar.f w d (bt s (i:Nat) - 48) (bt t (i:Nat) - 48)=some (turnV d (bt s (i:Nat)) (bt t (i:Nat)),Int.tmod (wrap64 (d - turnV d (bt s (i:Nat)) (bt t (i:Nat)))) d):=by
      unfold spec_whFar.f spec_l1Mod.f turnV
      rw [if_neg (by omega),show bt t (i:Nat) - 48 - (bt s (i:Nat) - 48)=bt t (i:Nat) - bt s (i:Nat) by omega]
      simp only [Option.bind_some]
      rw [if_neg (by omega)]
    refine Ev.bindc hf (Ev.bindc (spec_l1Least.is _ _) ?_)
    rw [show wrap64 ((i:Int) + 1)=((i + 1:Nat):Int) from w64 (by omega) (by omega)]
    exact ih (i + 1) (by omega)
theorem impl_Lock_distance.lev {w d:Int} (hl:lockB w d=true) {s t:ByteArray} (hs:codeS w d s) (ht:codeS w d t) : ∀ (m i:Nat),i + m=s.size→Ev (fun k=>impl_Lock_distance.l0 k s t (distF d s t i) (s.size:Int) (i:Nat) w d) (distF d s t s.size):=by
  obtain ⟨w1,w2,d1,d2⟩:=lockB_iff.mp hl
  have hsz:=hs.1
  have htz:=ht.1
  intro m
  induction m with
  | zero =>
    intro i hi
    refine Ev.step (fun k=>rfl) (Ev.no (by omega) (Ev.id ?_))
    rw [show i=s.size by omega]
  | succ m ih =>
    intro i hi
    have a1:=hs.2 i (by omega)
    have a2:=ht.2 i (by omega)
    refine Ev.step (fun k=>rfl) (Ev.yes (by omega) (Ev.yes (by omega) (Ev.yes (by omega) (Ev.yes (by omega) ?_))))
    have hr:=turnV_range (d:=d) (x:=bt s (i:Nat)) (y:=bt t (i:Nat)) d1 d2 (by omega) (by omega)
    have hf:impl_Lock_near.f w d (wrap64 (bt s (i:Nat))) (wrap64 (bt t (i:Nat)))=some (nearV d (bt s (i:Nat)) (bt t (i:Nat))):=by
      unfold impl_Lock_near.f impl_Lock_gap.f impl_around.f
      rw [if_neg (by omega),w64 (x:=bt s (i:Nat)) (by omega) (by omega),w64 (x:=bt t (i:Nat)) (by omega) (by omega)]
      simp only [Option.bind_some]
      show some (mn (turnV d (bt s (i:Nat)) (bt t (i:Nat))) (wrap64 (d - turnV d (bt s (i:Nat)) (bt t (i:Nat)))))=_
      unfold nearV
      generalize turnV d (bt s (i:Nat)) (bt t (i:Nat))=q at hr
      rw [w64 (x:=d - q) (by omega) (by omega)]
      congr 1
      by_cases hq:q=0
      · subst hq
        rw [Int.sub_zero,Int.tmod_self]
        unfold mn lst
        simp
        omega
      · rw [Int.tmod_eq_of_lt (by omega) (by omega)]
        unfold mn lst
        by_cases e:q < d - q
        · simp [e];omega
        · simp [e];omega
    refine Ev.bindc hf ?_
    rw [show wrap64 ((i:Int) + 1)=((i + 1:Nat):Int) from w64 (by omega) (by omega)]
    exact ih (i + 1) (by omega)
theorem spec_whDistance.ev {w d:Int} (hl:lockB w d=true) {s t:ByteArray} (hs:codeS w d s) (ht:codeS w d t):Ev (fun k=>spec_whDistance.f k w d s t) (distF d s t w.toNat):=by
  unfold spec_whDistance.f
  rw [←hs.1]
  exact Ev.bind (spec_whDigits.evc hl hs) (Ev.bind (spec_whDigits.evc hl ht) (spec_whDistance.lev hl hs ht s.size 0 (by omega)))
theorem impl_Lock_distance.ev {w d:Int} (hl:lockB w d=true) {s t:ByteArray} (hs:codeS w d s) (ht:codeS w d t):Ev (fun k=>impl_Lock_distance.f k w d s t) (distF d s t w.toNat):=by
  unfold impl_Lock_distance.f
  rw [←hs.1]
  exact impl_Lock_distance.lev hl hs ht s.size 0 (by omega)
/-! Whether codes fit clues; all solutions: what both sides come to. -/
theorem clueB_cases {w d a b c:Int} (h:clueB w d a b c=true):(a=0∧0≤b∧b≤w - 1)∨(a=1∧c=0)∨(a=2∧0≤b∧b≤d ^ w.toNat - 1)∨(a=3∧0≤b∧b≤d ^ w.toNat - 1)∨(a=4∧2≤b∧b≤9):=by
  unfold clueB at h
  by_cases h0:a=0
  · rw [if_pos h0] at h;simp at h;omega
  rw [if_neg h0] at h
  by_cases h1:a=1
  · rw [if_pos h1] at h;simp at h;omega
  rw [if_neg h1] at h
  by_cases h2:a=2
  · rw [if_pos h2] at h;simp at h;omega
  rw [if_neg h2] at h
  by_cases h3:a=3
  · rw [if_pos h3] at h;simp at h;omega
  rw [if_neg h3] at h
  by_cases h4:a=4
  · rw [if_pos h4] at h;simp at h;omega
  rw [if_neg h4] at h;cases h
theorem spec_hiOf.is {a b:ByteArray} (h:hintB a b=true):spec_hiOf.f a b=some (plN a b a.size,cmN a b a.size 10 - plN a b a.size):=by unfold spec_hiOf.f;rw [if_pos h]
theorem impl_hint.is {a b:ByteArray} (h:hintB a b=true):impl_hint.f a b=some (plN a b a.size,cmN a b a.size 10 - plN a b a.size):=by unfold impl_hint.f;rw [if_pos h]
theorem spec_pzValue.ev {w d a b:Int} (hl:lockB w d=true) {s:ByteArray} (hs:codeS w d s) (h:(a=0∧0≤b∧b≤w - 1)∨a=1∨(a=2∧0≤b∧b≤d ^ w.toNat - 1)∨(a=3∧0≤b∧b≤d ^ w.toNat - 1)∨(a=4∧2≤b∧b≤9)) :
    Ev (fun k=>spec_pzValue.f k w d a b s) (valV w d a b s):=by
  obtain ⟨w1,w2,d1,d2⟩:=lockB_iff.mp hl
  have hsz:=hs.1
  have hcb:=count_bound hl
  have h6:(dg s).length≤6:=by rw [dg_length];omega
  unfold spec_pzValue.f
  rcases h with ⟨rfl,h1,h2⟩ | rfl | ⟨rfl,h1,h2⟩ | ⟨rfl,h1,h2⟩ | ⟨rfl,h1,h2⟩
  · rw [show valV w d 0 b s=bt s b - 48 by simp [valV]]
    have hb:=hs.2 b.toNat (by omega)
    rw [show ((b.toNat:Nat):Int)=b by omega] at hb
    refine Ev.yes rfl (Ev.yes h1 (Ev.yes (by omega) (Ev.id (by omega))))
  · rw [show valV w d 1 b s=sumF 0 (dg s) by simp [valV]]
    exact Ev.no (by omega) (Ev.yes rfl (Ev.bind (spec_whDigits.evc hl hs) (spec_pzValue.lev _ h6 (dg s).length 0 (by omega) 0)))
  · rw [show valV w d 2 b s=plN (codeB w d b) s w.toNat by simp [valV]]
    have hc:=codeB_code (a:=b) hl
    refine Ev.no (by omega) (Ev.no (by omega) (Ev.yes rfl (Ev.bind (spec_whOf.ev hl h1 (by omega)) (Ev.bindc (spec_hiOf.is (codeS_hint hl hc hs)) (Ev.id ?_)))))
    rw [hc.1]
  · rw [show valV w d 3 b s=distF d (codeB w d b) s w.toNat by simp [valV]]
    have hc:=codeB_code (a:=b) hl
    exact Ev.no (by omega) (Ev.no (by omega) (Ev.no (by omega) (Ev.yes rfl (Ev.bind (spec_whOf.ev hl h1 (by omega)) (Ev.bind (spec_whDistance.ev hl hc hs) (Ev.now _))))))
  · rw [show valV w d 4 b s=Int.tmod (numF d 0 (dg s)) b by simp [valV]]
    exact Ev.no (by omega) (Ev.no (by omega) (Ev.no (by omega) (Ev.no (by omega) (Ev.bind (spec_whNumber.ev hl hs) (Ev.no (by omega) (Ev.now _))))))
theorem impl_Lock_told.ev {w d a b c:Int} (hl:lockB w d=true) {s:ByteArray} (hs:codeS w d s) (h:clueB w d a b c=true) :
    Ev (fun k=>impl_Lock_told.f k w d a b s) (if a=1 then (1,valV w d 1 0 s,0) else (a,b,valV w d a b s)):=by
  obtain ⟨w1,w2,d1,d2⟩:=lockB_iff.mp hl
  have hsz:=hs.1
  have hcb:=count_bound hl
  have h6:(dg s).length≤6:=by rw [dg_length];omega
  unfold impl_Lock_told.f
  rcases clueB_cases h with ⟨rfl,h1,h2⟩ | ⟨rfl,h1⟩ | ⟨rfl,h1,h2⟩ | ⟨rfl,h1,h2⟩ | ⟨rfl,h1,h2⟩
  · rw [if_neg (show ¬ (0:Int)=1 by omega),show valV w d 0 b s=bt s b - 48 by simp [valV]]
    refine Ev.yes rfl (Ev.bind (impl_digits.ev hl hs) (Ev.yes h1 (Ev.yes (by rw [dg_length];omega) (Ev.id ?_))))
    have:=dg_at (s:=s) (i:=b.toNat) (by omega)
    rw [show ((b.toNat:Nat):Int)=b by omega] at this
    rw [this]
  · rw [if_pos rfl,show valV w d 1 0 s=sumF 0 (dg s) by simp [valV]]
    exact Ev.no (by omega) (Ev.yes rfl (Ev.bind (impl_digits.ev hl hs) (impl_Lock_told.lev _ h6 (dg s).length 0 (by omega) 0)))
  · rw [if_neg (show ¬ (2:Int)=1 by omega),show valV w d 2 b s=plN (codeB w d b) s w.toNat by simp [valV]]
    have hc:=codeB_code (a:=b) hl
    refine Ev.no (by omega) (Ev.no (by omega) (Ev.yes rfl (Ev.bindc (impl_Lock_code.is hl h1 (by omega)) (Ev.bindc (impl_hint.is (codeS_hint hl hc hs)) (Ev.id ?_)))))
    rw [hc.1]
  · rw [if_neg (show ¬ (3:Int)=1 by omega),show valV w d 3 b s=distF d (codeB w d b) s w.toNat by simp [valV]]
    have hc:=codeB_code (a:=b) hl
    exact Ev.no (by omega) (Ev.no (by omega) (Ev.no (by omega) (Ev.yes rfl (Ev.bindc (impl_Lock_code.is hl h1 (by omega)) (Ev.bind (impl_Lock_distance.ev hl hc hs) (Ev.now _))))))
  · rw [if_neg (show ¬ (4:Int)=1 by omega),show valV w d 4 b s=Int.tmod (numF d 0 (dg s)) b by simp [valV]]
    exact Ev.no (by omega) (Ev.no (by omega) (Ev.no (by omega) (Ev.no (by omega) (Ev.bind (impl_Lock_number.ev hl hs) (Ev.no (by omega) (Ev.now _))))))
theorem spec_pzFits.ev {w d a b c:Int} (hl:lockB w d=true) {s:ByteArray} (hs:codeS w d s) (h:clueB w d a b c=true):Ev (fun k=>spec_pzFits.f k w d a b c s) (fitV w d (a,b,c) s):=by
  unfold spec_pzFits.f fitV
  by_cases h1:a=1
  · rw [if_pos h1]
    exact Ev.yes h1 (Ev.bind (spec_pzValue.ev hl hs (Or.inr (Or.inl rfl))) (Ev.id (beq_of _ _)))
  · rw [if_neg h1]
    refine Ev.no h1 (Ev.bind (spec_pzValue.ev hl hs ?_) (Ev.id (beq_of _ _)))
    rcases clueB_cases h with h | h | h | h | h
    · exact Or.inl h
    · exact absurd h.1 h1
    · exact Or.inr (Or.inr (Or.inl h))
    · exact Or.inr (Or.inr (Or.inr (Or.inl h)))
    · exact Or.inr (Or.inr (Or.inr (Or.inr h)))
theorem told_fit {w d a b c:Int} {s:ByteArray} (h:clueB w d a b c=true):decide ((if a=1 then (1,valV w d 1 0 s,0) else (a,b,valV w d a b s))=(a,b,c))=fitV w d (a,b,c) s:=by
  unfold fitV
  by_cases h1:a=1
  · rw [if_pos h1,if_pos h1]
    rcases clueB_cases h with h | h | h | h | h
    · omega
    · subst h1;rw [h.2];simp
    · omega
    · omega
    · omega
  · rw [if_neg h1,if_neg h1];simp
def fitA (w d:Int) (l:List S44) (s:ByteArray):Bool:=l.all fun c=>fitV w d (c.f0,c.f1,c.f2) s
theorem impl_Lock_fit.ev {w d:Int} (hl:lockB w d=true) {s:ByteArray} (hs:codeS w d s) (l:List S44) (h : ∀ c∈l,clueB w d c.f0 c.f1 c.f2=true):Ev (fun k=>impl_Lock_fit.f k w d l s) (fitA w d l s):=by
  obtain ⟨K,hK⟩ : ∃ K,∀ k ≥ K,∀ c∈l,impl_Lock_told.f k w d c.f0 c.f1 s=some (if c.f0=1 then (1,valV w d 1 0 s,0) else (c.f0,c.f1,valV w d c.f0 c.f1 s)):=by
    induction l with
    | nil=>exact ⟨0,fun _ _ c hc=>by cases hc⟩
    | cons x xs ih =>
      obtain ⟨K1,h1⟩:=ih (fun c hc=>h c (List.mem_cons_of_mem _ hc))
      obtain ⟨K2,h2⟩:=impl_Lock_told.ev hl hs (h x (List.mem_cons_self ..))
      refine ⟨max K1 K2,fun k hk c hc=>?_⟩
      rcases List.mem_cons.mp hc with rfl | hc
      · exact h2 k (by omega)
      · exact h1 k (by omega) c hc
  refine ⟨K,fun k hk=>?_⟩
  have hk:=hK k hk
  show impl_Lock_fit.f k w d l s=_
  unfold impl_Lock_fit.f
  rw [if_pos (List.all_eq_true.mpr fun c hc=>by rw [hk c hc];rfl)]
  congr 1
  unfold fitA
  rw [Bool.eq_iff_iff,List.all_eq_true,List.all_eq_true]
  have e : ∀ c∈l,decide (impl_Lock_told.f k w d c.f0 c.f1 s=some (c.f0,c.f1,c.f2))=fitV w d (c.f0,c.f1,c.f2) s:=by
    intro c hc
    rw [hk c hc,←told_fit (h c hc)]
    simp
  exact ⟨fun h c hc=>by rw [←e c hc];exact h c hc,fun h c hc=>by rw [e c hc];exact h c hc⟩
def solA (w d:Int) (l:List S44):Nat→List ByteArray
  | 0=> []
  | n + 1=>solA w d l n ++ if fitA w d l (codeB w d (n:Nat))=true then [codeB w d (n:Nat)] else []
theorem solA_len (w d:Int) (l:List S44) : ∀ n,(solA w d l n).length≤n
  | 0=>by simp [solA]
  | n + 1 => by
    have:=solA_len w d l n
    simp only [solA,List.length_append]
    split <;> simp <;> omega
theorem impl_Lock_solutions.lev {w d:Int} (hl:lockB w d=true) (l:List S44) (h : ∀ c∈l,clueB w d c.f0 c.f1 c.f2=true) (N:Nat) (hN:(N:Int)≤1000000) : ∀ (m i:Nat),i + m=N→Ev (fun k=>impl_Lock_solutions.l0 k l (solA w d l i) (N:Int) (i:Nat) w d) (solA w d l N):=by
  intro m
  induction m with
  | zero =>
    intro i hi
    refine Ev.step (fun k=>rfl) (Ev.no (by omega) (Ev.id ?_))
    rw [show i=N by omega]
  | succ m ih =>
    intro i hi
    have hx:=solA_len w d l i
    refine Ev.step (fun k=>rfl) (Ev.yes (by omega) (Ev.bindc (impl_Lock_code.is hl (by omega) (by omega)) (Ev.bind (impl_Lock_fit.ev hl (codeB_code hl) l h) ?_)))
    rw [show wrap64 ((i:Int) + 1)=((i + 1:Nat):Int) from w64 (by omega) (by omega)]
    have hh:=ih (i + 1) (by omega)
    rw [solA] at hh
    cases hf:fitA w d l (codeB w d (i:Nat)) with
    | true =>
      rw [hf,if_pos rfl] at hh
      exact Ev.yes rfl (Ev.yes (by omega) hh)
    | false =>
      rw [hf,if_neg (by simp),List.append_nil] at hh
      exact Ev.no (by simp) hh
theorem impl_Lock_solutions.ev {w d:Int} (hl:lockB w d=true) (l:List S44) (h : ∀ c∈l,clueB w d c.f0 c.f1 c.f2=true):Ev (fun k=>impl_Lock_solutions.f k w d l) (solA w d l (d ^ w.toNat).toNat):=by
  have hcb:=count_bound hl
  unfold impl_Lock_solutions.f
  refine Ev.bind (impl_Lock_count.ev hl) ?_
  have:=impl_Lock_solutions.lev hl l h (d ^ w.toNat).toNat (by omega) (d ^ w.toNat).toNat 0 (by omega)
  rw [show (((d ^ w.toNat).toNat:Nat):Int)=d ^ w.toNat by omega] at this
  exact this
def allC (w d:Int) (n:Nat):List ByteArray:=(List.range n).map fun i=>codeB w d (i:Nat)
theorem spec_hiAll.lev {w d:Int} (hl:lockB w d=true) (N:Nat) (hN:(N:Int)=d ^ w.toNat) : ∀ (m i:Nat),i + m=N→Ev (fun k=>spec_hiAll.l0 k (allC w d i) (i:Nat) w d) (allC w d N):=by
  have hcb:=count_bound hl
  intro m
  induction m with
  | zero =>
    intro i hi
    refine Ev.step (fun k=>rfl) (Ev.bind (spec_whCount.ev hl) (Ev.no (by omega) (Ev.id ?_)))
    rw [show i=N by omega]
  | succ m ih =>
    intro i hi
    refine Ev.step (fun k=>rfl) (Ev.bind (spec_whCount.ev hl) (Ev.yes (by omega) (Ev.bind (spec_whOf.ev hl (by omega) (by omega)) (Ev.yes (by simp [allC];omega) ?_))))
    rw [show wrap64 ((i:Int) + 1)=((i + 1:Nat):Int) from w64 (by omega) (by omega)]
    have hh:=ih (i + 1) (by omega)
    rw [show allC w d (i + 1)=allC w d i ++ [codeB w d (i:Nat)] by simp [allC,List.range_succ]] at hh
    exact hh
theorem spec_hiAll.ev {w d:Int} (hl:lockB w d=true):Ev (fun k=>spec_hiAll.f k w d) (allC w d (d ^ w.toNat).toNat):=by
  have hcb:=count_bound hl
  unfold spec_hiAll.f
  exact spec_hiAll.lev hl (d ^ w.toNat).toNat (by omega) (d ^ w.toNat).toNat 0 (by omega)
theorem spec_pzAll.lev1 {w d:Int} (hl:lockB w d=true) (l:List S44) (hln:l.length≤6) (h : ∀ c∈l,clueB w d c.f0 c.f1 c.f2=true) {s:ByteArray} (hs:codeS w d s) (N i:Nat) (xs:List ByteArray) (r:List ByteArray) (C:List ByteArray)
    (hr:Ev (fun k=>if fitA w d l s=true then (if xs.length < 8796093022208 then (spec_pzAll.l0 k l (xs ++ [s]) C (N:Int) (wrap64 ((i:Int) + 1)) w d) else none) else (spec_pzAll.l0 k l xs C (N:Int) (wrap64 ((i:Int) + 1)) w d)) r) : ∀ (m j:Nat) (b:Bool),j + m=l.length→b=(l.take j).all (fun c=>fitV w d (c.f0,c.f1,c.f2) s) →
    Ev (fun k=>spec_pzAll.l1 k l xs s b C (N:Int) (i:Int) l (l.length:Int) (j:Nat) w d) r:=by
  intro m
  induction m with
  | zero =>
    intro j b hj hb
    refine Ev.step (fun k=>rfl) (Ev.no (by omega) ?_)
    rw [List.take_of_length_le (by omega)] at hb
    have:b=fitA w d l s:=hb
    rw [this];exact hr
  | succ m ih =>
    intro j b hj hb
    have hlt:j < l.length:=by omega
    refine Ev.step (fun k=>rfl) (Ev.yes (by omega) (Ev.yes (by omega) (Ev.yes (by omega) ?_)))
    rw [show wrap64 ((j:Int) + 1)=((j + 1:Nat):Int) from w64 (by omega) (by omega),rd_clue (i:=(j:Int)) (by simpa using hlt)]
    have ht:(l.take (j + 1)).all (fun c=>fitV w d (c.f0,c.f1,c.f2) s)=(b && fitV w d (l[j].f0,l[j].f1,l[j].f2) s):=by
      rw [List.take_succ_eq_append_getElem hlt,List.all_append,←hb];simp
    cases hbb:b with
    | true =>
      rw [hbb,Bool.true_and] at ht
      exact Ev.yes rfl (Ev.bind (spec_pzFits.ev hl hs (h _ (List.getElem_mem hlt))) (ih (j + 1) _ (by omega) ht.symm))
    | false =>
      rw [hbb,Bool.false_and] at ht
      exact Ev.no (by simp) (ih (j + 1) _ (by omega) ht.symm)
theorem spec_pzAll.lev {w d:Int} (hl:lockB w d=true) (l:List S44) (hln:l.length≤6) (h : ∀ c∈l,clueB w d c.f0 c.f1 c.f2=true) (N:Nat) (hN:(N:Int)≤1000000) : ∀ (m i:Nat),i + m=N→Ev (fun k=>spec_pzAll.l0 k l (solA w d l i) (allC w d N) (N:Int) (i:Nat) w d) (solA w d l N):=by
  intro m
  induction m with
  | zero =>
    intro i hi
    refine Ev.step (fun k=>rfl) (Ev.no (by omega) (Ev.id ?_))
    rw [show i=N by omega]
  | succ m ih =>
    intro i hi
    have hx:=solA_len w d l i
    have hcl:(allC w d N).length=N:=by simp [allC]
    refine Ev.step (fun k=>rfl) (Ev.yes (by omega) (Ev.yes (by omega) (Ev.yes (by omega) ?_)))
    have hrd:rdOf ByteArray.empty (allC w d N) (i:Int)=codeB w d (i:Nat):=by
      rw [rdOf_at (by rw [hcl];omega)];simp [allC]
    rw [hrd]
    refine spec_pzAll.lev1 hl l hln h (codeB_code hl) N i (solA w d l i) _ (allC w d N) ?_ l.length 0 true (by omega) (by simp)
    rw [show wrap64 ((i:Int) + 1)=((i + 1:Nat):Int) from w64 (by omega) (by omega)]
    have hh:=ih (i + 1) (by omega)
    rw [solA] at hh
    cases hf:fitA w d l (codeB w d (i:Nat)) with
    | true =>
      rw [hf,if_pos rfl] at hh
      exact Ev.yes rfl (Ev.yes (by omega) hh)
    | false =>
      rw [hf,if_neg (by simp),List.append_nil] at hh
      exact Ev.no (by simp) hh
theorem spec_pzAll.ev {w d:Int} (hl:lockB w d=true) (l:List S44) (hln:l.length≤6) (h : ∀ c∈l,clueB w d c.f0 c.f1 c.f2=true):Ev (fun k=>spec_pzAll.f k w d l) (solA w d l (d ^ w.toNat).toNat):=by
  have hcb:=count_bound hl
  unfold spec_pzAll.f
  refine Ev.bind (spec_hiAll.ev hl) ?_
  have:=spec_pzAll.lev hl l hln h (d ^ w.toNat).toNat (by omega) (d ^ w.toNat).toNat 0 (by omega)
  rw [show ((allC w d (d ^ w.toNat).toNat).length:Int)=(((d ^ w.toNat).toNat:Nat):Int) by simp [allC]]
  exact this
theorem puzzleB_parts {w d:Int} {l:List S44} (h:puzzleB w d l=true):lockB w d=true∧l.length≤6∧∀ c∈l,clueB w d c.f0 c.f1 c.f2=true:=by
  unfold puzzleB at h
  rw [Bool.and_eq_true,Bool.and_eq_true] at h
  exact ⟨smallB_lock h.1.1,of_decide_eq_true h.1.2,fun c hc=>List.all_eq_true.mp h.2 c hc⟩
theorem impl_Solutions.ev (w d:Int) (l:List S44):Ev (fun k=>impl_Solutions.f k w d l) (if puzzleB w d l=true then (solA w d l (d ^ w.toNat).toNat,true) else ([],false)):=by
  unfold impl_Solutions.f
  refine Ev.bindc (show impl_IsPuzzle.f w d l=some (puzzleB w d l) from rfl) ?_
  cases h:puzzleB w d l with
  | true =>
    obtain ⟨h1,h2,h3⟩:=puzzleB_parts h
    rw [if_pos rfl]
    exact Ev.yes rfl (Ev.bind (impl_Lock_solutions.ev h1 l h3) (Ev.now _))
  | false =>
    rw [if_neg (by simp)]
    exact Ev.no (by simp) (Ev.now _)
/-! What MakePuzzle comes to, over numbers and lists alone. -/
def toldC (w d:Int) (s:ByteArray) (a b:Int):Int×Int×Int:=if a=1 then (1,valV w d 1 0 s,0) else (a,b,valV w d a b s)
def mkV (w d:Int) (s:ByteArray):Nat→Int→List S44→List S44
  | 0,_,cs=>cs
  | m + 1,z,cs=>mkV w d s m (mkZ z) (cs ++ [(⟨(toldC w d s (nxV z % 5) (mkA w (d ^ w.toNat) (nxV z % 5) (mkZ z))).1,(toldC w d s (nxV z % 5) (mkA w (d ^ w.toNat) (nxV z % 5) (mkZ z))).2.1,(toldC w d s (nxV z % 5) (mkA w (d ^ w.toNat) (nxV z % 5) (mkZ z))).2.2⟩:S44)])
theorem mkV_len (w d:Int) (s:ByteArray) : ∀ (m:Nat) (z:Int) (cs:List S44),(mkV w d s m z cs).length=cs.length + m
  | 0,_,_=>rfl
  | m + 1,z,cs=>by rw [mkV,mkV_len w d s m];simp;omega
theorem mkZ_range (z:Int):0≤mkZ z∧mkZ z≤10006:=by
  unfold mkZ;split
  · exact nxV_range z
  · exact nxV_range _
theorem mkA_ok {w cnt:Int} (hw:1≤w) (hc:1≤cnt) (z:Int):(nxV z % 5=0∧0≤mkA w cnt (nxV z % 5) (mkZ z)∧mkA w cnt (nxV z % 5) (mkZ z)≤w - 1)∨(nxV z % 5=1∧mkA w cnt (nxV z % 5) (mkZ z)=0)∨(nxV z % 5=2∧0≤mkA w cnt (nxV z % 5) (mkZ z)∧mkA w cnt (nxV z % 5) (mkZ z)≤cnt - 1)∨(nxV z % 5=3∧0≤mkA w cnt (nxV z % 5) (mkZ z)∧mkA w cnt (nxV z % 5) (mkZ z)≤cnt - 1)∨(nxV z % 5=4∧2≤mkA w cnt (nxV z % 5) (mkZ z)∧mkA w cnt (nxV z % 5) (mkZ z)≤9):=by
  have h1:=mkZ_range z
  generalize mkZ z=y at h1 ⊢
  have h2:nxV z % 5=0∨nxV z % 5=1∨nxV z % 5=2∨nxV z % 5=3∨nxV z % 5=4:=by omega
  generalize nxV z % 5=t at h2 ⊢
  have a1:=Int.emod_nonneg y (show w≠0 by omega)
  have a2:=Int.emod_lt_of_pos y (show 0 < w by omega)
  have a3:=Int.emod_nonneg y (show cnt≠0 by omega)
  have a4:=Int.emod_lt_of_pos y (show 0 < cnt by omega)
  unfold mkA
  rcases h2 with rfl | rfl | rfl | rfl | rfl <;> simp <;> omega
theorem told_mk {w d:Int} (hl:lockB w d=true) {s:ByteArray} (hs:codeS w d s) (z:Int):Ev (fun k=>impl_Lock_told.f k w d (nxV z % 5) (mkA w (d ^ w.toNat) (nxV z % 5) (mkZ z)) s) (toldC w d s (nxV z % 5) (mkA w (d ^ w.toNat) (nxV z % 5) (mkZ z))):=by
  obtain ⟨w1,w2,d1,d2⟩:=lockB_iff.mp hl
  have hc:=(count_bound hl).1
  have hk:=mkA_ok (w:=w) w1 hc z
  generalize mkA w (d ^ w.toNat) (nxV z % 5) (mkZ z)=A at hk ⊢
  generalize nxV z % 5=t at hk ⊢
  unfold toldC
  refine impl_Lock_told.ev (c:=0) hl hs ?_
  unfold clueB
  rcases hk with ⟨rfl,h⟩ | ⟨rfl,h⟩ | ⟨rfl,h⟩ | ⟨rfl,h⟩ | ⟨rfl,h⟩ <;> simp <;> omega
theorem pzOf_mk {w d:Int} (hl:lockB w d=true) {s:ByteArray} (hs:codeS w d s) (z:Int):Ev (fun k=>spec_pzOf.f k w d (nxV z % 5) (mkA w (d ^ w.toNat) (nxV z % 5) (mkZ z)) s) (toldC w d s (nxV z % 5) (mkA w (d ^ w.toNat) (nxV z % 5) (mkZ z))):=by
  obtain ⟨w1,w2,d1,d2⟩:=lockB_iff.mp hl
  have hc:=(count_bound hl).1
  have hk:=mkA_ok (w:=w) w1 hc z
  generalize mkA w (d ^ w.toNat) (nxV z % 5) (mkZ z)=A at hk ⊢
  generalize nxV z % 5=t at hk ⊢
  unfold toldC spec_pzOf.f
  by_cases h1:t=1
  · subst h1
    exact Ev.yes rfl (Ev.bind (spec_pzValue.ev hl hs (Or.inr (Or.inl rfl))) (Ev.id (by rw [if_pos rfl])))
  · exact Ev.no h1 (Ev.bind (spec_pzValue.ev hl hs (by omega)) (Ev.id (by rw [if_neg h1])))
theorem mkL.ev {w d:Int} (hl:lockB w d=true) {s:ByteArray} (hs:codeS w d s) : ∀ (m:Nat) (z:Int) (cs:List S44),Ev (fun k=>mkL k w d (d ^ w.toNat) s m z cs) (mkV w d s m z cs)
  | 0,_,_=>Ev.now _
  | m + 1,z,cs=>Ev.bind (told_mk hl hs z) (mkL.ev hl hs m _ _)
theorem pzNext_is {z:Int} (h0:0≤z) (h1:z≤10006):spec_pzNext.f z=some (nxV z):=by
  unfold spec_pzNext.f nxV
  rw [show wrap64 (173 * z)=z * 173 from by unfold wrap64;omega,show wrap64 (z * 173 + 2633)=z * 173 + 2633 from by unfold wrap64;omega,Int.tmod_eq_emod_of_nonneg (by omega)]
theorem spec_MakePuzzle.lev {w d:Int} (hl:lockB w d=true) {s:ByteArray} (hs:codeS w d s) : ∀ (m:Nat) (z:Int) (cs:List S44),0≤z→z≤10006→cs.length + m≤6→Ev (fun k=>spec_MakePuzzle.l0 k s (m:Nat) z w d w d cs) (w,d,mkV w d s m z cs,true):=by
  obtain ⟨w1,w2,d1,d2⟩:=lockB_iff.mp hl
  have hcb:=(count_bound hl).1
  intro m
  induction m with
  | zero=>intro z cs h0 h1 h6;exact Ev.step (fun k=>rfl) (Ev.no (by omega) (Ev.now _))
  | succ m ih =>
    intro z cs h0 h1 h6
    have hr:=nxV_range z
    have hr2:=nxV_range (nxV z)
    have hof:=pzOf_mk hl hs z
    have hrec:=ih (mkZ z) (cs ++ [(⟨(toldC w d s (nxV z % 5) (mkA w (d ^ w.toNat) (nxV z % 5) (mkZ z))).1,(toldC w d s (nxV z % 5) (mkA w (d ^ w.toNat) (nxV z % 5) (mkZ z))).2.1,(toldC w d s (nxV z % 5) (mkA w (d ^ w.toNat) (nxV z % 5) (mkZ z))).2.2⟩:S44)]) (mkZ_range z).1 (mkZ_range z).2 (by simp;omega)
    have hm:wrap64 (((m + 1:Nat):Int) - 1)=(m:Nat):=by unfold wrap64;omega
    have ht:(nxV z).tmod 5=nxV z % 5:=Int.tmod_eq_emod_of_nonneg hr.1
    have hk:nxV z % 5=0∨nxV z % 5=1∨nxV z % 5=2∨nxV z % 5=3∨nxV z % 5=4:=by omega
    refine Ev.step (fun k=>rfl) (Ev.yes (by omega) (Ev.bindc (pzNext_is h0 h1) ?_))
    simp only [ht,hm]
    rw [mkV]
    rcases hk with hk | hk | hk | hk | hk
    · have hA:mkA w (d ^ w.toNat) (nxV z % 5) (mkZ z)=(nxV (nxV z)).tmod w:=by unfold mkA mkZ;rw [if_pos hk,if_neg (by omega),Int.tmod_eq_emod_of_nonneg hr2.1]
      have hZ:mkZ z=nxV (nxV z):=by unfold mkZ;rw [if_neg (by omega)]
      rw [hA] at hof;rw [hA,hZ] at hrec ⊢
      exact Ev.no (by omega) (Ev.bindc (pzNext_is hr.1 hr.2) (Ev.yes hk (Ev.no (by omega) (Ev.bind hof (Ev.yes (by omega) hrec)))))
    · have hA:mkA w (d ^ w.toNat) (nxV z % 5) (mkZ z)=0:=by unfold mkA;rw [if_neg (by omega),if_neg (by omega),if_neg (by omega)]
      have hZ:mkZ z=nxV z:=by unfold mkZ;rw [if_pos hk]
      rw [hA] at hof;rw [hA,hZ] at hrec ⊢
      exact Ev.yes hk (Ev.bind hof (Ev.yes (by omega) hrec))
    · have hA:mkA w (d ^ w.toNat) (nxV z % 5) (mkZ z)=(nxV (nxV z)).tmod (d ^ w.toNat):=by unfold mkA mkZ;rw [if_neg (by omega),if_pos (Or.inl hk),if_neg (by omega),Int.tmod_eq_emod_of_nonneg hr2.1]
      have hZ:mkZ z=nxV (nxV z):=by unfold mkZ;rw [if_neg (by omega)]
      rw [hA] at hof;rw [hA,hZ] at hrec ⊢
      exact Ev.no (by omega) (Ev.bindc (pzNext_is hr.1 hr.2) (Ev.no (by omega) (Ev.no (by omega) (Ev.bind (spec_whCount.ev hl) (Ev.no (by omega) (Ev.bind hof (Ev.yes (by omega) hrec)))))))
    · have hA:mkA w (d ^ w.toNat) (nxV z % 5) (mkZ z)=(nxV (nxV z)).tmod (d ^ w.toNat):=by unfold mkA mkZ;rw [if_neg (by omega),if_pos (Or.inr hk),if_neg (by omega),Int.tmod_eq_emod_of_nonneg hr2.1]
      have hZ:mkZ z=nxV (nxV z):=by unfold mkZ;rw [if_neg (by omega)]
      rw [hA] at hof;rw [hA,hZ] at hrec ⊢
      exact Ev.no (by omega) (Ev.bindc (pzNext_is hr.1 hr.2) (Ev.no (by omega) (Ev.no (by omega) (Ev.bind (spec_whCount.ev hl) (Ev.no (by omega) (Ev.bind hof (Ev.yes (by omega) hrec)))))))
    · have hA:mkA w (d ^ w.toNat) (nxV z % 5) (mkZ z)=wrap64 ((nxV (nxV z)).tmod 8 + 2):=by unfold mkA mkZ;rw [if_neg (by omega),if_neg (by omega),if_pos hk,if_neg (by omega),Int.tmod_eq_emod_of_nonneg hr2.1];unfold wrap64;omega
      have hZ:mkZ z=nxV (nxV z):=by unfold mkZ;rw [if_neg (by omega)]
      rw [hA] at hof;rw [hA,hZ] at hrec ⊢
      exact Ev.no (by omega) (Ev.bindc (pzNext_is hr.1 hr.2) (Ev.no (by omega) (Ev.yes hk (Ev.bind hof (Ev.yes (by omega) hrec)))))
def makeR (w d:Int) (s:ByteArray) (n z:Int):Int×Int×List S44×Bool:=
  if smallB w d 125=true∧codeT w d s=true∧winB n 0 6=true∧winB z 0 9999=true then (w,d,mkV w d s n.toNat z [],true) else (0,0,[],false)
theorem makeR_len (w d:Int) (s:ByteArray) (n z:Int):(makeR w d s n z).2.2.1.length≤6:=by
  unfold makeR
  by_cases e:smallB w d 125=true∧codeT w d s=true∧winB n 0 6=true∧winB z 0 9999=true
  · rw [if_pos e]
    have h3:=e.2.2.1
    unfold winB at h3
    have:=of_decide_eq_true h3
    show (mkV w d s n.toNat z []).length≤6
    rw [mkV_len];simp;omega
  · rw [if_neg e];exact Nat.zero_le _
theorem impl_MakePuzzle.ev (w d:Int) (s:ByteArray) (n z:Int):Ev (fun k=>impl_MakePuzzle.f k w d s n z) (makeR w d s n z):=by
  unfold impl_MakePuzzle.f makeR
  refine Ev.bind (impl_isHidden.ev w d) ?_
  cases h:smallB w d 125 with
  | false=>exact Ev.no (by simp) (Ev.id (by simp))
  | true =>
    have hl:=smallB_lock h
    obtain ⟨w1,w2,d1,d2⟩:=lockB_iff.mp hl
    have hcb:=(count_bound hl).1
    refine Ev.yes rfl (Ev.bind (impl_has.one hl s) ?_)
    cases h2:codeT w d s with
    | false=>exact Ev.no (by simp) (Ev.id (by simp))
    | true =>
      refine Ev.yes rfl ?_
      cases h3:winB n 0 6 with
      | false=>exact Ev.no (by simp) (Ev.id (by simp))
      | true =>
        refine Ev.yes rfl ?_
        cases h4:winB z 0 9999 with
        | false=>exact Ev.no (by simp) (Ev.id (by simp))
        | true =>
          have b3:=h3
          have b4:=h4
          unfold winB at b3 b4
          have c3:=of_decide_eq_true b3
          have c4:=of_decide_eq_true b4
          refine Ev.yes rfl (Ev.yes (by omega) (Ev.bind (impl_Lock_count.ev hl) (Ev.yes (by omega) (Ev.bind (mkL.ev hl (codeT_iff.mp h2) _ _ _) (Ev.id (by simp))))))
theorem winB_eq (a b c:Int):decide (b≤a∧a≤c)=winB a b c:=rfl
theorem spec_MakePuzzle.ev (w d:Int) (s:ByteArray) (n z:Int):Ev (fun k=>spec_MakePuzzle.f k w d s n z) (makeR w d s n z):=by
  have fail : ∀ (h : ¬ (smallB w d 125=true∧codeT w d s=true∧winB n 0 6=true∧winB z 0 9999=true)),Ev (fun k=>spec_MakePuzzle.j0 k s n z true w d) (makeR w d s n z):=by
    intro h
    refine Ev.step (fun k=>rfl) ?_
    simp only [spec_MakePuzzle.j0]
    exact Ev.yes trivial (Ev.id (by unfold makeR;rw [if_neg h]))
  unfold spec_MakePuzzle.f
  refine Ev.bind (spec_pzLock.ev w d) ?_
  cases h:smallB w d 125 with
  | false=>exact Ev.no (by simp) (fail (by simp [h]))
  | true =>
    have hl:=smallB_lock h
    refine Ev.yes rfl (Ev.bind (spec_whCode.ev hl s) ?_)
    cases h2:codeT w d s with
    | false=>exact Ev.no (by simp) (fail (by simp [h2]))
    | true =>
      refine Ev.yes rfl (Ev.bindc (spec_l1In.is _ _ _) ?_)
      rw [winB_eq]
      cases h3:winB n 0 6 with
      | false=>exact Ev.no (by simp) (fail (by simp [h3]))
      | true =>
        refine Ev.yes rfl (Ev.bindc (spec_l1In.is _ _ _) ?_)
        rw [winB_eq]
        cases h4:winB z 0 9999 with
        | false=>exact fail (by simp [h4])
        | true =>
          have b3:=h3
          have b4:=h4
          unfold winB at b3 b4
          have c3:=of_decide_eq_true b3
          have c4:=of_decide_eq_true b4
          refine Ev.step (fun k=>rfl) ?_
          simp only [spec_MakePuzzle.j0]
          refine Ev.no (by simp) ?_
          obtain ⟨N,rfl⟩:=Int.eq_ofNat_of_zero_le c3.1
          refine Ev.eq (spec_MakePuzzle.lev hl (codeT_iff.mp h2) N z [] (by omega) (by omega) (by simp;omega)) ?_
          unfold makeR
          rw [if_pos ⟨h,h2,h3,h4⟩,Int.toNat_natCast]
end Go.Proofs.Ytggfbkekamomiaa.P