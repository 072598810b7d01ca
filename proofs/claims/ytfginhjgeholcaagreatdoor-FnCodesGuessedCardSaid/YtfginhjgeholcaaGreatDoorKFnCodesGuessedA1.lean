import Derived.Test.YtfginhjgeholcaaGreatDoorKFnCodesGuessedA0
import Derived.Test.YtfginhjgeholcaaGreatDoorHShelfP
import Derived.Lib.SplitLaws
import Derived.Lib.SliceRun
import Derived.RegionTactic
import Derived.ChangeAlike
import Derived.BigRegion
import Derived.Laws.RangeString
import Derived.Deep.RegionHeld3
import Derived.Shelf.Abstract
import Derived.Laws.StructEq
namespace Go.Proofs.YtfginhjgeholcaaGreatDoor.P
open Go.RowKit Go.Proofs.YtfginhjgeholcaaGreatDoorW.PrintWords Go.Proofs.YtfginhjgeholcaaGreatDoorW.PrintLast Go.Proofs.YtfginhjgeholcaaGreatDoorW.PrintMore
attribute [local go_sem] max2_int min2_int max_two min_two max_three min_three max_four min_four
set_option linter.unusedVariables false
set_option linter.unusedSimpArgs false
/-! ### impl_parseLock: function 56 -/
def impl_parseLock.f (a0:ByteArray):Option (Int×Int):=(strings_Cut.f a0 (⟨#[120]⟩:ByteArray)).bind fun J=>((strconv_Atoi.f J.1).bind fun Y=>((strconv_Atoi.f J.2.1).bind fun Z=>(some (Y.1,Z.1))))
set_option maxHeartbeats 8000000 in
set_option maxRecDepth 100000 in
theorem impl_parseLock.calls (a0:ByteArray) (r1:Int) (r2:Int) (w:World) (htp:EnvP w) (h:impl_parseLock.f a0=some (r1,r2)) :
    Calls Tryz.prog 56 #[.string a0] w fun e w'=>e = .returned (.agg #[.int .i64 r1, .int .i64 r2])∧Below w.heap.size w w':=by
  have HTP:=amk htp;clear htp;have aI:=Tryz.underlying25;have HB:=amk (Below.refl w.heap.size w);unfold impl_parseLock.f at h;have H:=h;clear h;replace H:=bE H;obtain ⟨⟨a7,a8,ae⟩,A2,H⟩:=H;(try dsimp only at H);replace H:=bE H;obtain ⟨⟨a6,af⟩,A3,H⟩:=H;(try dsimp only at H);replace H:=bE H;obtain ⟨⟨ab,ag⟩,A4,H⟩:=H;(try dsimp only at H);simp only [Option.some.injEq,Prod.mk.injEq] at H;obtain ⟨rfl,rfl⟩:=H;go_enter Tryz.func56,Tryz.ntmps56;go_wp2_with (first | ((with_reducible refine gate_dst (N:=2) rfl ?_);refine boxE_ HB 2 #[.int .i64 0, .int .i64 0] 25 ?_;clear HB;intro ac w5 HB J aD aE hb;clear hb) | ((with_reducible refine gate_callee (f:=55) rfl ?_);refine goesL_ (some 9) rfl rfl Tryz.func55 (by kernel_rfl) rfl #[.string a0, .string (⟨#[120]⟩:ByteArray)] rfl gL_ ?_;(with_reducible refine (strings_Cut.calls a0 (⟨#[120]⟩:ByteArray) a7 a8 ae _ ?sideT A2.out).mono ?_);(case sideT=>exact (HTP.out.below bB));rintro e w6 ⟨rfl,hb⟩;refine ⟨_,rfl,?_⟩;replace J:=kb2 J hb;replace HB:=hB2 HB hb;(try clear hb)) | ((with_reducible refine gate_dst (N:=6) rfl ?_);refine boxG_ 6 #[.int .i64 0, .int .i64 0] 25 ?_;intro aa w7 hg Y hb;have aG:=sZ HB hg;have aH:=sZ HB hg;replace HB:=hB2 HB hb;have Z:=neL J hg;have a1:=neR J hg;replace J:=kb2 J hb;clear hb hg;have aJ:=a1.out;have aK:=Z.out;obtain ⟨ay,az,aA,aC⟩:=cells2 Y.out) | ((with_reducible refine gate_callee (f:=58) rfl ?_);refine goesL_ (some 16) rfl rfl Tryz.func58 (by kernel_rfl) rfl #[.string a7] rfl gL_ ?_;(with_reducible refine (strconv_Atoi.calls a7 a6 af _ ?sideT A3.out).mono ?_);(case sideT=>exact (HTP.out.below bB));rintro e aM ⟨e2_,rfl,hb⟩;refine ⟨_,rfl,?_⟩;replace J:=kb2 J hb;replace Y:=amk (blk_below (g:=aa) (o:= .cells #[.int .i64 0, .int .i64 0] 25 (0,0)) (kP Y) hb);replace HB:=hB2 HB hb;(try clear hb);obtain ⟨ah,ai,aj,ak⟩:=cells2 Y.out) | ((with_reducible refine gate_callee (f:=58) rfl ?_);refine goesL_ (some 22) rfl rfl Tryz.func58 (by kernel_rfl) rfl #[.string a8] rfl gL_ ?_;(with_reducible refine (strconv_Atoi.calls a8 ab ag _ ?sideT A4.out).mono ?_);(case sideT=>exact (HTP.out.below bB));rintro e aN ⟨e2_,rfl,hb⟩;refine ⟨_,rfl,?_⟩;replace J:=kb2 J hb;replace Y:=amk (blk_below (g:=aa) (o:= .cells #[.int .i64 a6, .int .i64 0] 25 (0,0)) (kP Y) hb);replace HB:=hB2 HB hb;(try clear hb);obtain ⟨al,am,an,ap⟩:=cells2 Y.out;obtain ⟨ar,au,av,ax⟩:=cells2 J.out));refine bodyPost_ret (results_cell_row rfl _ _ ac 25 #[.int .i64 a6, .int .i64 ab] (0,0) _ rfl (by (with_reducible repeat (first | refine kn_ ?_ _ | refine blk_drew ?_ | refine ka_ ?_ _));refine blk_put (cs:= #[.int .i64 a6, .int .i64 0]) ?_ 1 _ rfl;(with_reducible repeat (first | refine kn_ ?_ _ | refine blk_drew ?_ | refine ka_ ?_ _));refine blk_put (cs:= #[.int .i64 0, .int .i64 0]) ?_ 0 _ rfl;(with_reducible repeat (first | refine kn_ ?_ _ | refine blk_drew ?_ | refine ka_ ?_ _));refine blk_far ?_ Z.out _;(with_reducible repeat (first | refine kn_ ?_ _ | refine blk_drew ?_ | refine ka_ ?_ _));exact J.out) Tryz.underlying25 rfl (by kernel_rfl)) rfl ?_;exact ⟨rF_,bB⟩
/-! strings.Split at a separator of one byte or more: the kit's contract. -/
def splitL (s sep:ByteArray):List ByteArray:=Lib.splitB sep 0 (Lib.countB s sep) s
theorem splitL_length (sep:ByteArray) (h1:1≤sep.size) : ∀ (k:Nat) (s:ByteArray),Lib.countB s sep=k→(Lib.splitB sep 0 k s).length=k + 1:=by
  intro k
  induction k with
  | zero=>intro s _;rw [Lib.splitB_zero];rfl
  | succ k ih =>
    intro s hk
    rcases Lib.indexB_cases s sep with h | ⟨i,h,_⟩
    · rw [Lib.countB_miss _ _ h] at hk;omega
    · rw [Lib.countB_hit _ _ i h1 h] at hk
      rw [Lib.splitB_hit _ _ _ _ i h,List.length_cons,ih _ (by omega)]
def strings_Split.f (s sep:ByteArray):Option (List ByteArray):=if s.size < 1000000∧1≤sep.size then some (splitL s sep) else none
theorem strings_Split.calls (a0 a1:ByteArray) (r:List ByteArray) (w:World) (htp:EnvP w) (h:strings_Split.f a0 a1=some r) :
    Calls Tryz.prog 57 #[.string a0, .string a1] w fun e w'=> ∃ v0_:Value,e = .returned v0_∧Kd.R Kd.string 9 w' w.heap.size (fun _=>True) v0_ r∧Below w.heap.size w w':=by
  unfold strings_Split.f at h
  by_cases p:a0.size < 1000000∧1≤a1.size
  · rw [if_pos p] at h
    obtain rfl:=Option.some.inj h
    obtain ⟨_,⟨m,hm⟩,_⟩:=htp
    refine Calls.mono (Tryz.strings_Split a0 a1 m w (by omega) hm p.2) (fun e w' hh=>?_)
    obtain ⟨he,hw⟩:=hh
    have hl:=splitL_length a1 p.2 _ a0 rfl
    have hc:=Lib.countB_le a1 p.2 _ a0 (Nat.le_refl _)
    have J:(splitL a0 a1).length=Lib.countB a0 a1 + 1:=hl
    refine ⟨_,he,?_,?_⟩
    · rw [hw,←J]
      refine Kd.R_of_own (enc:=Value.string) ⟨by rw [encs_length,Nat.mul_one], .inr ⟨w.heap.size,(splitL a0 a1).length,((splitL a0 a1).map Value.string).toArray,rfl,Nat.le_refl _,blk_new w _,Nat.le_refl _,by unfold maxLen;omega,by simp,?_⟩⟩ (fun _ _=>trivial)
      rw [Nat.mul_one,List.take_of_length_le (by simp)];rfl
    · rw [hw];exact (Below.refl _ w).alloc (Nat.le_refl _) _
  · rw [if_neg p] at h;cases h
/-! ### impl_ParsePuzzle: function 33 -/
mutual
def impl_ParsePuzzle.j1:Nat→ByteArray→Int→Int→List (S48)→Option (Int×Int×(List (S48))×Bool)
  | 0,_,_,_,_=>none
  | k + 1,x0,Y,Z,J=>(impl_IsPuzzle.f Y Z J).bind fun af=>(if af=true then ((impl_puzzleText.f k Y Z J).bind fun ag=>(if ag.toList=x0.toList then (some (Y,Z,J,true)) else (some (0,0,([]:List (S48)),false)))) else (some (0,0,([]:List (S48)),false)))
def impl_ParsePuzzle.l0:Nat→ByteArray→ByteArray→List ByteArray→Int→Int→Int→Int→List (S48)→Option (Int×Int×(List (S48))×Bool)
  | 0,_,_,_,_,_,_,_,_=>none
  | k + 1,x0,x5,aa,ah,a6,Y,Z,J=>if a6 < ah then (if 0≤a6 then (if a6 < (aa.length:Int) then (if x5.toList=([]:List UInt8) then (impl_ParsePuzzle.j1 k x0 Y Z J) else ((strings_Split.f (rdOf ByteArray.empty aa a6) (⟨#[46]⟩:ByteArray)).bind fun a7=>((some (([(⟨#[]⟩:ByteArray),(⟨#[]⟩:ByteArray),(⟨#[]⟩:ByteArray)]:List ByteArray):List ByteArray)).bind fun a8=>(if a7.length + a8.length < 8796093022208 then ((some (a7 ++ a8:List ByteArray)).bind fun a1=>(if 0 < (a1.length:Int) then ((strconv_Atoi.f (rdOf ByteArray.empty a1 0)).bind fun ab=>(if 1 < (a1.length:Int) then ((strconv_Atoi.f (rdOf ByteArray.empty a1 1)).bind fun ac=>(if 2 < (a1.length:Int) then ((strconv_Atoi.f (rdOf ByteArray.empty a1 2)).bind fun ae=>(if J.length < 5864062014805 then (impl_ParsePuzzle.l0 k x0 x5 aa ah (wrap64 (a6 + 1)) Y Z (J ++ [(⟨ab.1,ac.1,ae.1⟩:S48)])) else (none))) else (none))) else (none))) else (none))) else (none))))) else (none)) else (none)) else (impl_ParsePuzzle.j1 k x0 Y Z J)
end
def impl_ParsePuzzle.f (k:Nat) (a0:ByteArray):Option (Int×Int×(List (S48))×Bool):=if (a0.size:Int) > 200 then (some (0,0,([]:List (S48)),false)) else ((strings_Cut.f a0 (⟨#[58]⟩:ByteArray)).bind fun J=>((impl_parseLock.f J.1).bind fun Y=>((strings_Split.f J.2.1 (⟨#[44]⟩:ByteArray)).bind fun Z=>(impl_ParsePuzzle.l0 k a0 J.2.1 Z (Z.length:Int) 0 Y.1 Y.2 ([]:List (S48))))))
set_option maxHeartbeats 8000000 in
set_option maxRecDepth 100000 in
theorem impl_ParsePuzzle.calls (k:Nat) (a0:ByteArray) (r1:Int) (r2:Int) (r3:List (S48)) (r4:Bool) (w:World) (htp:EnvP w) (h:impl_ParsePuzzle.f k a0=some (r1,r2,r3,r4)) :
    Calls Tryz.prog 33 #[.string a0] w fun e w'=> ∃ v2_:Value,e = .returned (.tuple #[.agg #[.int .i64 r1, .int .i64 r2,v2_], .bool r4])∧Kd.R k48 48 w' w.heap.size (fun _=>True) v2_ r3∧Below w.heap.size w w':=by
  have HTP:=amk htp;clear htp;have eW:=Tryz.underlying28;have eX:=Tryz.underlying48;have HB:=amk (Below.refl w.heap.size w);unfold impl_ParsePuzzle.f at h;have H:=h;clear h
  by_cases c2:(a0.size:Int) > 200
  · rw [if_pos c2] at H;have bm:decide (200 < (a0.size:Int))=true:=decide_eq_true c2;have bn:decide (200 < a0.size)=true:=decide_eq_true (by omega);clear c2;simp only [Option.some.injEq,Prod.mk.injEq] at H;obtain ⟨rfl,rfl,rfl,rfl⟩:=H;go_enter Tryz.func33,Tryz.ntmps33;go_wp2_with (first | ((with_reducible refine gate_dst (N:=2) rfl ?_);refine boxE_ HB 2 #[.int .i64 0, .int .i64 0, .slice none 0 0] 28 ?_;clear HB;intro am w3 HB J cF cG hb;clear hb;obtain ⟨b7,b8,b9,ba,bb,bc⟩:=cells3 J.out));refine bodyPost_ret (results_ct rfl _ _ am 28 #[.int .i64 0, .int .i64 0, .slice none 0 0] (0,0) _ rfl (kP J) Tryz.underlying28 rfl (by kernel_rfl)) rfl ?_;exact ⟨_,rF_,xN_,bB⟩
  · rw [if_neg c2] at H;have bm:decide (200 < (a0.size:Int))=false:=decide_eq_false c2;have bn:decide (200 < a0.size)=false:=decide_eq_false (by omega);clear c2;replace H:=bE H;obtain ⟨⟨bo,ay,d7⟩,A5,H⟩:=H;(try dsimp only at H);replace H:=bE H;obtain ⟨⟨ag,ah⟩,A6,H⟩:=H;(try dsimp only at H);replace H:=bE H;obtain ⟨ap,A7,H⟩:=H;have cH:=amk H;clear H;go_enter Tryz.func33,Tryz.ntmps33
    go_upto_block 0 with (first | ((with_reducible refine gate_dst (N:=2) rfl ?_);refine boxE_ HB 2 #[.int .i64 0, .int .i64 0, .slice none 0 0] 28 ?_;clear HB;intro am w9 HB J cF cG hb;clear hb) | ((with_reducible refine gate_callee (f:=55) rfl ?_);refine goesL_ (some 18) rfl rfl Tryz.func55 (by kernel_rfl) rfl #[.string a0, .string (⟨#[58]⟩:ByteArray)] rfl gL_ ?_;(with_reducible refine (strings_Cut.calls a0 (⟨#[58]⟩:ByteArray) bo ay d7 _ ?sideT A5.out).mono ?_);(case sideT=>exact (HTP.out.below bB));rintro e ff ⟨rfl,hb⟩;refine ⟨_,rfl,?_⟩;replace J:=kb2 J hb;replace HB:=hB2 HB hb;(try clear hb)) | ((with_reducible refine gate_callee (f:=56) rfl ?_);refine goesL_ (some 23) rfl rfl Tryz.func56 (by kernel_rfl) rfl #[.string bo] rfl gL_ ?_;(with_reducible refine (impl_parseLock.calls bo ag ah _ ?sideT A6.out).mono ?_);(case sideT=>exact (HTP.out.below bB));rintro e fg ⟨rfl,hb⟩;refine ⟨_,rfl,?_⟩;replace J:=kb2 J hb;replace HB:=hB2 HB hb;(try clear hb)) | ((with_reducible refine gate_dst (N:=7) rfl ?_);refine boxG_ 7 #[.int .i64 0, .int .i64 0, .slice none 0 0] 28 ?_;intro aJ fh hg Z hb;have ew:=sZ HB hg;have ey:=sZ HB hg;replace HB:=hB2 HB hb;have ai:=neL J hg;have aj:=neR J hg;replace J:=kb2 J hb;clear hb hg;have ez:=aj.out;have eA:=ai.out;obtain ⟨aN,aQ,aT,aU,aV,aW⟩:=cells3 Z.out) | ((with_reducible refine gate_callee (f:=57) rfl ?_);refine goesL_ (some 26) rfl rfl Tryz.func57 (by kernel_rfl) rfl #[.string ay, .string (⟨#[44]⟩:ByteArray)] rfl gL_ ?_;(with_reducible refine (strings_Split.calls ay (⟨#[44]⟩:ByteArray) ap _ ?sideT A7.out).mono ?_);(case sideT=>exact (HTP.out.below bB));rintro e fi ⟨eY,rfl,bl,hb⟩;refine ⟨_,rfl,?_⟩;have bp:=amk (Kd.R_lower bl (below_size bB));replace J:=kb2 J hb;replace Z:=amk (blk_below (g:=aJ) (o:= .cells #[.int .i64 ag, .int .i64 ah, .slice none 0 0] 28 (0,0)) (kP Z) hb);replace HB:=hB2 HB hb;(try clear hb);(try clear bl);obtain ⟨d8,bq,d9⟩:=Kd.R_slice bp.out;subst d9))
    (try simp only [Act.put,List.setIfInBounds_toArray,List.set_cons_zero,List.set_cons_succ])
    go_cut [] (fun wc=> ∃ (kq:Nat) (a6:List (S48)) (aa:Value),Aside0 (impl_ParsePuzzle.j1 kq a0 ag ah a6=some (r1,r2,r3,r4))∧Aside0 (kq≤k)∧Aside0 (Kd.R k48 48 wc w.heap.size (fun _=>True) aa a6)∧Aside0 (wc.heap[am]?=some (.cells #[.int .i64 0, .int .i64 0,(.slice none 0 0)] 28 (0,0)))∧Aside0 (wc.heap[aJ]?=some (.cells #[.int .i64 ag, .int .i64 ah,aa] 28 (0,0)))∧Aside0 (Below w.heap.size w wc))
    case first =>
      have H:=cH.out;clear cH;have H':=amk H;clear H;go_wp2
      go_loopg [28] k (fun kq v28 w'=> ∃ (af:Int) (a8:List (S48)) (aa:Value),v28 = .int .i64 af∧Aside0 (impl_ParsePuzzle.l0 kq a0 ay ap (ap.length:Int) af ag ah a8=some (r1,r2,r3,r4))∧Aside0 (kq≤k)∧Aside0 (Kd.R Kd.string 9 w' w.heap.size (fun _=>True) (.slice d8 ap.length bq) ap)∧Aside0 (Kd.R k48 48 w' w.heap.size (fun _=>True) aa a8)∧Aside0 (w'.heap[am]?=some (.cells #[.int .i64 0, .int .i64 0,(.slice none 0 0)] 28 (0,0)))∧Aside0 (w'.heap[aJ]?=some (.cells #[.int .i64 ag, .int .i64 ah,aa] 28 (0,0)))∧Aside0 (Below w.heap.size w w'))
      case atStart=>exact ⟨(0),(([]:List (S48))),(.slice none 0 0),rS_,H',⟨Nat.le_refl _⟩,⟨oX bp⟩,⟨xN_⟩,⟨kB J⟩,⟨kB Z⟩,⟨bB⟩⟩
      case round =>
        clear H';(try clear c1);(try clear c2);(try clear bm);(try clear bn);(try clear p2);(try clear c3);(try clear c5);(try clear c13);(try clear aN);(try clear aQ);(try clear aT);(try clear b7);(try clear b8);(try clear b9);(try clear aU);(try clear aV);(try clear aW);(try clear ba);(try clear bb);(try clear bc);obtain ⟨af,a8,aa,rfl,HA,cA,HO_26,HO_701002,J,Z,HB⟩:=hrel
        cases gk with
        | zero=>exact absurd HA.out (by simp [impl_ParsePuzzle.l0])
        | succ k1 =>
          have H:=HA.out;clear HA;simp only [impl_ParsePuzzle.l0] at H;replace H:=iteE H;obtain ⟨aG,H⟩ | ⟨aG,H⟩:=H
          · (first | rw [aG] | (simp only [i64_w,i32_w];rw [aG]) | skip);replace H:=iteN H;obtain ⟨cJ,H⟩:=H;replace H:=iteN H;obtain ⟨cK,H⟩:=H
            by_cases c20:ay.toList=([]:List UInt8)
            · rw [if_pos c20] at H;have br:(ay.toList == ([]:List UInt8))=true:=beq_iff_eq.mpr c20;have bu:(ay.toList != ([]:List UInt8))=false:=bne_eq_false_iff_eq.mpr c20;clear c20;have H':=amk H;clear H;have aH:0≤(af:Int):=dA_;have aI:af < (ap.length:Int):=dA_;obtain ⟨aZ,bv,aX⟩:=Kd.at_string (Kd.R_reads' HO_26.out).2.2 af aH aI;cases bv;replace aH:=eq_true aH;replace aI:=eq_true aI;go_wp2;go_meet
              case rel=>exact ⟨_,(a8),(aa),H',⟨by have:=cA.out;first | omega | exact Nat.le_refl _⟩,⟨oX HO_701002⟩,⟨kB J⟩,⟨kB Z⟩,⟨bB⟩⟩
            · rw [if_neg c20] at H;have br:(ay.toList == ([]:List UInt8))=false:=beq_eq_false_iff_ne.mpr c20;have bu:(ay.toList != ([]:List UInt8))=true:=bne_iff_ne.mpr c20;replace H:=bE H;obtain ⟨bd,eB,H⟩:=H;(try rw [Option.bind_some] at H);generalize bw:(([(⟨#[]⟩:ByteArray),(⟨#[]⟩:ByteArray),(⟨#[]⟩:ByteArray)]:List ByteArray))=aY at H;have bz:=amk bw.symm;clear bw
              by_cases c22:bd.length + aY.length < 8796093022208
              · rw [if_pos c22] at H;have cL:=amk c22;clear c22;(try rw [Option.bind_some] at H);generalize bC:((bd ++ aY):List ByteArray)=ab at H;have cM:=amk bC.symm;clear bC
                by_cases c23:0 < (ab.length:Int)
                · rw [if_pos c23] at H;have cN:decide (0 < (ab.length:Int))=true:=decide_eq_true c23;have cO:decide (0 < ab.length)=true:=decide_eq_true (by omega);clear c23;replace H:=bE H;obtain ⟨⟨ak,da⟩,eC,H⟩:=H;(try dsimp only at H)
                  by_cases c25:1 < (ab.length:Int)
                  · rw [if_pos c25] at H;have cP:decide (1 < (ab.length:Int))=true:=decide_eq_true c25;have cQ:decide (1 < ab.length)=true:=decide_eq_true (by omega);clear c25;replace H:=bE H;obtain ⟨⟨an,db⟩,eD,H⟩:=H;(try dsimp only at H)
                    by_cases c27:2 < (ab.length:Int)
                    · rw [if_pos c27] at H;have cS:decide (2 < (ab.length:Int))=true:=decide_eq_true c27;have cT:decide (2 < ab.length)=true:=decide_eq_true (by omega);clear c27;replace H:=bE H;obtain ⟨⟨al,dc⟩,eE,H⟩:=H;(try dsimp only at H)
                      by_cases c29:a8.length < 5864062014805
                      · rw [if_pos c29] at H;have cV:=amk c29;clear c29;(try rw [Option.bind_some] at H);generalize bD:((a8 ++ [(⟨ak,an,al⟩:S48)]):List (S48))=be at H;have cW:=amk bD.symm;clear bD;have H':=amk H;clear H;have aH:0≤(af:Int):=dA_;have aI:af < (ap.length:Int):=dA_;obtain ⟨aZ,bv,aX⟩:=Kd.at_string (Kd.R_reads' HO_26.out).2.2 af aH aI;cases bv;replace aH:=eq_true aH;replace aI:=eq_true aI;go_wp2_with (first | ((with_reducible refine gate_callee (f:=57) rfl ?_);refine goesL_ (some 35) rfl rfl Tryz.func57 (by kernel_rfl) rfl #[.string (rdOf ByteArray.empty ap af), .string (⟨#[46]⟩:ByteArray)] rfl gL_ ?_;(with_reducible refine (strings_Split.calls (rdOf ByteArray.empty ap af) (⟨#[46]⟩:ByteArray) bd _ ?sideT eB.out).mono ?_);(case sideT=>exact (HTP.out.below bB));rintro e fj ⟨de,rfl,bl,hb⟩;refine ⟨_,rfl,?_⟩;replace HO_701002:=amk (Kd.R_below (oX HO_701002) hb);have ar:=amk (Kd.R_lower (Kd.R_new' bl (Kd.R_lt (oX HO_26))) (below_size bB));replace HO_26:=amk (Kd.R_elder' (oX HO_26) (Kd.R_base bl) hb);replace J:=kb2 J hb;replace Z:=kb2 Z hb;replace HB:=hB2 HB hb;(try clear hb);(try clear bl)) | ((with_reducible refine gate_dst (N:=36) rfl ?_);refine Kd.R_lit Kd.string _ 9 ?hg (N:=36) ?hd (xs:=([(⟨#[]⟩:ByteArray),(⟨#[]⟩:ByteArray),(⟨#[]⟩:ByteArray)]:List ByteArray)) (inner:=[.string (⟨#[]⟩:ByteArray), .string (⟨#[]⟩:ByteArray), .string (⟨#[]⟩:ByteArray)]) (ok:=fun _=>True) (okp:=fun _=>True) ?hr ?hp (fun _ hk=>hk) trivial (Below.refl _ _) (Nat.le_refl _) (by simp) ?_;(case hd=>rfl);(case hg=>rfl);(case hr=>first | (go_simp;done) | (go_simp;rfl));(case hp=>exact (Reps.one (show Kd.M Kd.string _ _ _ (⟨#[]⟩:ByteArray) [.string (⟨#[]⟩:ByteArray)] from rfl) (Reps.one (show Kd.M Kd.string _ _ _ (⟨#[]⟩:ByteArray) [.string (⟨#[]⟩:ByteArray)] from rfl) (Reps.one (show Kd.M Kd.string _ _ _ (⟨#[]⟩:ByteArray) [.string (⟨#[]⟩:ByteArray)] from rfl) (Reps.none _ _)))));intro eZ fo aK hb hg_ hnew_;clear hg_ hnew_;(first | rw [←bz.out] at aK | (simp only [Int.reduceToNat] at aK;rw [←bz.out] at aK));replace HO_701002:=amk (Kd.R_below (oX HO_701002) hb);have ac:=amk (Kd.R_lower (Kd.R_new' (Kd.R_new' aK (Kd.R_lt (oX HO_26))) (Kd.R_lt (oX ar))) (below_size bB));replace HO_26:=amk (Kd.R_elder' (oX HO_26) (Kd.R_base aK) hb);replace ar:=amk (Kd.R_elder' (oX ar) (Kd.R_base aK) hb);replace J:=kb2 J hb;replace Z:=kb2 Z hb;replace HB:=hB2 HB hb;clear hb aK;obtain ⟨cC,cE,df⟩:=Kd.R_slice ac.out;subst df) | ((with_reducible refine gate_builtin (b:= .append) (xs:= #[.tmp 35, .tmp 36]) rfl ?_);at_builtin;refine Kd.R_append_rows Kd.string (w0:=w) w.heap.size rfl (.tmp 35) (.tmp 36) 30 9 (.string ⟨#[]⟩) 16 rfl Tryz.underlying30 info9 rfl (by decide) (by omega) de bd aY _ _ _ (fun k_=>some k_≠(.slice (some aZ) ap.length bq:Value).ownBlock∧some k_≠(.slice cC aY.length cE:Value).ownBlock) (fun _=>False) rfl rfl ?aO ?aR (fun _ _ h=>h) (fun _ h=>h.elim) ?aF ?aB ?aS ?aL ?_;(case aR=>exact cB ((Kd.R_reads' ac.out).2.2));(case aB=>exact bB);(case aF=>exact (fun k_ hk=>⟨Kd.fresh' (Kd.R_lt (oX HO_26)) k_ hk,Kd.fresh' (Kd.R_lt (oX ac)) k_ hk⟩));(case aO=>exact (by (with_reducible repeat (first | apply Kd.R_alloc | apply Kd.R_drewN | apply Kd.R_drew));exact Kd.R_mono ar.out (fun _ hk=>⟨hk.1.2,hk.2⟩)));(case aS=>exact (below_size bB));(case aL=>have:=cL.out;omega);intro f3 fp ho hb hg hat;rw [←cM.out] at ho;replace HO_26:=amk (Kd.R_after (ok:=(fun k_=>some k_≠(.slice cC aY.length cE:Value).ownBlock)) (by (with_reducible repeat (first | apply Kd.R_alloc | apply Kd.R_drewN | apply Kd.R_drew));exact Kd.R_mono HO_26.out (fun _ hk=>⟨hk.2,hk.1.2⟩)) hg hat);replace HO_701002:=amk (Kd.R_over' (oX HO_701002) (Kd.R_typed (oX ar)) (by decide) hg);replace J:=bG J hg (Kd.R_ne ar.out J.out (by decide));replace Z:=bG Z hg (Kd.R_ne ar.out Z.out (by decide));replace ac:=amk (Kd.R_after (ok:=(fun k_=>some k_≠(.slice (some aZ) ap.length bq:Value).ownBlock)) (by (with_reducible repeat (first | apply Kd.R_alloc | apply Kd.R_drewN | apply Kd.R_drew));exact Kd.R_mono ac.out (fun _ hk=>⟨hk.1.2,hk.2⟩)) hg hat);replace HB:=amk (hb);have a7:=amk (ho);clear ar;clear ho hb hg hat) | ((with_reducible refine gate_dst (N:=11) rfl ?_);refine boxG_ 11 #[.int .i64 0, .int .i64 0, .int .i64 0] 48 ?_;intro Y fq hg a1 hb;replace HO_26:=amk (Kd.R_below (oX HO_26) hb);replace HO_701002:=amk (Kd.R_below (Kd.R_elderB (oX HO_701002) Y (Nat.le_of_eq hg.symm)) hb);replace ac:=amk (Kd.R_below (oX ac) hb);replace a7:=amk (Kd.R_below (oX a7) hb);have eF:=sZ HB hg;have eG:=sZ HB hg;replace HB:=hB2 HB hb;have b3:=neL J hg;have b4:=neR J hg;replace J:=kb2 J hb;have b5:=neL Z hg;have b6:=neR Z hg;replace Z:=kb2 Z hb;clear hb hg;have eH:=b4.out;have eI:=b3.out;have eJ:=b6.out;have eK:=b5.out;obtain ⟨bF,bH,bJ,bL,bM,bN⟩:=cells3 a1.out;obtain ⟨fa,fb,dh⟩:=Kd.R_slice a7.out;subst dh;have bf:0≤(0:Int):=(by omega);have bg:0 < (ab.length:Int):=dA_;obtain ⟨ax,di,ae⟩:=Kd.at_string (Kd.R_reads' a7.out).2.2 0 bf bg;cases di;have eL:(0 < ab.length)=True:=eq_true (by omega);(try rw [show ((0:Int)).toNat=0 from rfl] at ae);(try rw [Addr.add_zero'] at ae);have az:ax.block≠Y:=Kd.own_blk (Kd.R_ne a7.out a1.out (by decide));have aA:ax.block≠Y:=Kd.own_blk (Kd.R_ne a7.out a1.out (by decide));have aC:ax.block≠Y:=Kd.own_blk (Kd.R_ne a7.out a1.out (by decide));replace ae:=(cell_far (p:=⟨Y,0,none⟩) (by first | (rw [add_block];exact az) | (show (Addr.add _ _).block≠_;rw [add_block];exact az) | exact az) (.int .i64 0)).trans ae;replace ae:=(cell_far (p:=⟨Y,1,none⟩) (by first | (rw [add_block];exact aA) | (show (Addr.add _ _).block≠_;rw [add_block];exact aA) | exact aA) (.int .i64 0)).trans ae;replace ae:=(cell_far (p:=⟨Y,2,none⟩) (by first | (rw [add_block];exact aC) | (show (Addr.add _ _).block≠_;rw [add_block];exact aC) | exact aC) (.int .i64 0)).trans ae;clear az;clear aA;clear aC;replace bf:=eq_true bf;replace bg:=eq_true bg) | ((with_reducible refine gate_callee (f:=58) rfl ?_);refine goesL_ (some 43) rfl rfl Tryz.func58 (by kernel_rfl) rfl #[.string (rdOf ByteArray.empty ab 0)] rfl gL_ ?_;(with_reducible refine (strconv_Atoi.calls (rdOf ByteArray.empty ab 0) ak da _ ?sideT eC.out).mono ?_);(case sideT=>exact (HTP.out.below bB));rintro e ft ⟨e2_,rfl,hb⟩;refine ⟨_,rfl,?_⟩;replace HO_26:=amk (Kd.R_below (by (with_reducible repeat (first | apply Kd.R_alloc | apply Kd.R_drewN | apply Kd.R_drew));exact (Kd.R_mono (Kd.R_far (p:=⟨Y,2,none⟩) (Kd.R_far (p:=⟨Y,1,none⟩) (Kd.R_far (p:=⟨Y,0,none⟩) (Kd.R_types HO_26.out a1.out (by decide)) (fun _ hk=>hk.2) (.int .i64 0)) (fun _ hk=>hk.2) (.int .i64 0)) (fun _ hk=>hk.2) (.int .i64 0)) (fun _ h_=>h_.1))) hb);replace HO_701002:=amk (Kd.R_below (by (with_reducible repeat (first | apply Kd.R_alloc | apply Kd.R_drewN | apply Kd.R_drew));exact (Kd.R_mono (Kd.R_far (p:=⟨Y,2,none⟩) (Kd.R_far (p:=⟨Y,1,none⟩) (Kd.R_far (p:=⟨Y,0,none⟩) (Kd.R_mono HO_701002.out (fun k_ hk=>(⟨hk,hk.2⟩:_∧k_≠Y))) (fun _ hk=>hk.2) (.int .i64 0)) (fun _ hk=>hk.2) (.int .i64 0)) (fun _ hk=>hk.2) (.int .i64 0)) (fun _ h_=>h_.1))) hb);replace ac:=amk (Kd.R_below (by (with_reducible repeat (first | apply Kd.R_alloc | apply Kd.R_drewN | apply Kd.R_drew));exact (Kd.R_mono (Kd.R_far (p:=⟨Y,2,none⟩) (Kd.R_far (p:=⟨Y,1,none⟩) (Kd.R_far (p:=⟨Y,0,none⟩) (Kd.R_types ac.out a1.out (by decide)) (fun _ hk=>hk.2) (.int .i64 0)) (fun _ hk=>hk.2) (.int .i64 0)) (fun _ hk=>hk.2) (.int .i64 0)) (fun _ h_=>h_.1))) hb);replace a7:=amk (Kd.R_below (by (with_reducible repeat (first | apply Kd.R_alloc | apply Kd.R_drewN | apply Kd.R_drew));exact (Kd.R_mono (Kd.R_far (p:=⟨Y,2,none⟩) (Kd.R_far (p:=⟨Y,1,none⟩) (Kd.R_far (p:=⟨Y,0,none⟩) (Kd.R_types a7.out a1.out (by decide)) (fun _ hk=>hk.2) (.int .i64 0)) (fun _ hk=>hk.2) (.int .i64 0)) (fun _ hk=>hk.2) (.int .i64 0)) (fun _ h_=>h_.1))) hb);replace J:=kb2 J hb;replace Z:=kb2 Z hb;replace a1:=amk (blk_below (g:=Y) (o:= .cells #[.int .i64 0, .int .i64 0, .int .i64 0] 48 (0,0)) (kP a1) hb);replace HB:=hB2 HB hb;(try clear hb);obtain ⟨bO,bQ,bR,bS,bT,bU⟩:=cells3 a1.out;have bh:0≤(1:Int):=(by omega);have bi:1 < (ab.length:Int):=dA_;obtain ⟨cX,dj,au⟩:=Kd.at_string (Kd.R_reads' a7.out).2.2 1 bh bi;obtain rfl:ax=cX:=(by injection dj);(try simp only [show (1:Int).toNat=1 from rfl,Nat.reduceMul,Nat.reduceEqDiff,Go.Addr.add,↓reduceIte] at au);have eM:(1 < ab.length)=True:=eq_true (by omega);(try rw [show ((1:Int)).toNat=1 from rfl] at au);have aD:ax.block≠Y:=Kd.own_blk (Kd.R_ne a7.out a1.out (by decide));replace au:=(cell_far (p:=⟨Y,0,none⟩) (by first | (rw [add_block];exact aD) | (show (Addr.add _ _).block≠_;rw [add_block];exact aD) | exact aD) (.int .i64 ak)).trans au;clear aD;replace bh:=eq_true bh;replace bi:=eq_true bi) | ((with_reducible refine gate_callee (f:=58) rfl ?_);refine goesL_ (some 51) rfl rfl Tryz.func58 (by kernel_rfl) rfl #[.string (rdOf ByteArray.empty ab 1)] rfl gL_ ?_;(with_reducible refine (strconv_Atoi.calls (rdOf ByteArray.empty ab 1) an db _ ?sideT eD.out).mono ?_);(case sideT=>exact (HTP.out.below bB));rintro e fu ⟨e2_,rfl,hb⟩;refine ⟨_,rfl,?_⟩;replace HO_26:=amk (Kd.R_below (by (with_reducible repeat (first | apply Kd.R_alloc | apply Kd.R_drewN | apply Kd.R_drew));exact (Kd.R_mono (Kd.R_far (p:=⟨Y,0,none⟩) (Kd.R_types HO_26.out a1.out (by decide)) (fun _ hk=>hk.2) (.int .i64 ak)) (fun _ h_=>h_.1))) hb);replace HO_701002:=amk (Kd.R_below (by (with_reducible repeat (first | apply Kd.R_alloc | apply Kd.R_drewN | apply Kd.R_drew));exact (Kd.R_mono (Kd.R_far (p:=⟨Y,0,none⟩) (Kd.R_mono HO_701002.out (fun k_ hk=>(⟨hk,hk.2⟩:_∧k_≠Y))) (fun _ hk=>hk.2) (.int .i64 ak)) (fun _ h_=>h_.1))) hb);replace ac:=amk (Kd.R_below (by (with_reducible repeat (first | apply Kd.R_alloc | apply Kd.R_drewN | apply Kd.R_drew));exact (Kd.R_mono (Kd.R_far (p:=⟨Y,0,none⟩) (Kd.R_types ac.out a1.out (by decide)) (fun _ hk=>hk.2) (.int .i64 ak)) (fun _ h_=>h_.1))) hb);replace a7:=amk (Kd.R_below (by (with_reducible repeat (first | apply Kd.R_alloc | apply Kd.R_drewN | apply Kd.R_drew));exact (Kd.R_mono (Kd.R_far (p:=⟨Y,0,none⟩) (Kd.R_types a7.out a1.out (by decide)) (fun _ hk=>hk.2) (.int .i64 ak)) (fun _ h_=>h_.1))) hb);replace J:=kb2 J hb;replace Z:=kb2 Z hb;replace a1:=amk (blk_below (g:=Y) (o:= .cells #[.int .i64 ak, .int .i64 0, .int .i64 0] 48 (0,0)) (kP a1) hb);replace HB:=hB2 HB hb;(try clear hb);obtain ⟨bV,bW,bX,bY,bZ,c6⟩:=cells3 a1.out;have bj:0≤(2:Int):=(by omega);have bk:2 < (ab.length:Int):=dA_;obtain ⟨cY,dl,av⟩:=Kd.at_string (Kd.R_reads' a7.out).2.2 2 bj bk;obtain rfl:ax=cY:=(by injection dl);(try simp only [show (2:Int).toNat=2 from rfl,Nat.reduceMul,Nat.reduceEqDiff,Go.Addr.add,↓reduceIte] at av);have eN:(2 < ab.length)=True:=eq_true (by omega);(try rw [show ((2:Int)).toNat=2 from rfl] at av);have aE:ax.block≠Y:=Kd.own_blk (Kd.R_ne a7.out a1.out (by decide));replace av:=(cell_far (p:=⟨Y,1,none⟩) (by first | (rw [add_block];exact aE) | (show (Addr.add _ _).block≠_;rw [add_block];exact aE) | exact aE) (.int .i64 an)).trans av;clear aE;replace bj:=eq_true bj;replace bk:=eq_true bk) | ((with_reducible refine gate_callee (f:=58) rfl ?_);refine goesL_ (some 59) rfl rfl Tryz.func58 (by kernel_rfl) rfl #[.string (rdOf ByteArray.empty ab 2)] rfl gL_ ?_;(with_reducible refine (strconv_Atoi.calls (rdOf ByteArray.empty ab 2) al dc _ ?sideT eE.out).mono ?_);(case sideT=>exact (HTP.out.below bB));rintro e fv ⟨e2_,rfl,hb⟩;refine ⟨_,rfl,?_⟩;replace HO_26:=amk (Kd.R_below (by (with_reducible repeat (first | apply Kd.R_alloc | apply Kd.R_drewN | apply Kd.R_drew));exact (Kd.R_mono (Kd.R_far (p:=⟨Y,1,none⟩) (Kd.R_types HO_26.out a1.out (by decide)) (fun _ hk=>hk.2) (.int .i64 an)) (fun _ h_=>h_.1))) hb);replace HO_701002:=amk (Kd.R_below (by (with_reducible repeat (first | apply Kd.R_alloc | apply Kd.R_drewN | apply Kd.R_drew));exact (Kd.R_mono (Kd.R_far (p:=⟨Y,1,none⟩) (Kd.R_mono HO_701002.out (fun k_ hk=>(⟨hk,hk.2⟩:_∧k_≠Y))) (fun _ hk=>hk.2) (.int .i64 an)) (fun _ h_=>h_.1))) hb);replace ac:=amk (Kd.R_below (by (with_reducible repeat (first | apply Kd.R_alloc | apply Kd.R_drewN | apply Kd.R_drew));exact (Kd.R_mono (Kd.R_far (p:=⟨Y,1,none⟩) (Kd.R_types ac.out a1.out (by decide)) (fun _ hk=>hk.2) (.int .i64 an)) (fun _ h_=>h_.1))) hb);replace a7:=amk (Kd.R_below (by (with_reducible repeat (first | apply Kd.R_alloc | apply Kd.R_drewN | apply Kd.R_drew));exact (Kd.R_mono (Kd.R_far (p:=⟨Y,1,none⟩) (Kd.R_types a7.out a1.out (by decide)) (fun _ hk=>hk.2) (.int .i64 an)) (fun _ h_=>h_.1))) hb);replace J:=kb2 J hb;replace Z:=kb2 Z hb;replace a1:=amk (blk_below (g:=Y) (o:= .cells #[.int .i64 ak, .int .i64 an, .int .i64 0] 48 (0,0)) (kP a1) hb);replace HB:=hB2 HB hb;(try clear hb);obtain ⟨c7,c8,ca,cb,cd,ce⟩:=cells3 a1.out;have eO:=aj.out;have eP:=ai.out;obtain ⟨cf,cg,ci,cj,ck,cm⟩:=cells3 Z.out) | ((with_reducible refine gate_builtin (b:= .append) (xs:= #[.tmp 64, .tmp 66]) rfl ?_);at_builtin;refine Kd.R_append k48 (w0:=w) w.heap.size rfl (.tmp 64) (.tmp 66) 26 48 (.agg #[(.int .i64 0),(.int .i64 0),(.int .i64 0)]) 24 rfl Tryz.underlying26 info48 rfl (by decide) (by omega) aa a8 (⟨ak,an,al⟩:S48) [.int .i64 ak, .int .i64 an, .int .i64 al] (fun k_=>k_≠Y) (fun _=>False) rfl (by first | (go_simp;done) | (go_simp;rfl)) (k48_mkM _ _ _ (⟨ak,an,al⟩:S48)) (fun _ hk=>hk.elim) (fun k_ hk=>Kd.freshB (g:=Y) (o:= .cells #[.int .i64 ak, .int .i64 an, .int .i64 al] 48 (0,0)) (kP a1) k_ hk) (by (with_reducible repeat (first | apply Kd.R_alloc | apply Kd.R_drewN | apply Kd.R_drew));exact Kd.R_mono (Kd.R_far (p:=⟨Y,2,none⟩) (Kd.R_mono HO_701002.out (fun k_ hk=>(⟨hk,hk.2⟩:_∧k_≠Y))) (fun _ hk=>hk.2) (.int .i64 al)) (fun _ hk=>hk.1.2)) bB (below_size bB) (by have:=cV.out;omega) ?_;intro fc fw ho hb hg hat;rw [←cW.out] at ho;replace HO_26:=amk (Kd.R_over' (by (with_reducible repeat (first | apply Kd.R_alloc | apply Kd.R_drewN | apply Kd.R_drew));exact (Kd.R_mono (Kd.R_far (p:=⟨Y,2,none⟩) (Kd.R_types HO_26.out a1.out (by decide)) (fun _ hk=>hk.2) (.int .i64 al)) (fun _ h_=>h_.1))) (Kd.R_typed (by (with_reducible repeat (first | apply Kd.R_alloc | apply Kd.R_drewN | apply Kd.R_drew));exact (Kd.R_mono (Kd.R_far (p:=⟨Y,2,none⟩) (Kd.R_mono HO_701002.out (fun k_ hk=>(⟨hk,hk.2⟩:_∧k_≠Y))) (fun _ hk=>hk.2) (.int .i64 al)) (fun _ h_=>h_.1)))) (by decide) hg);replace J:=bG J hg (Kd.R_ne HO_701002.out J.out (by decide));replace Z:=bG Z hg (Kd.R_ne HO_701002.out Z.out (by decide));replace ac:=amk (Kd.R_over' (by (with_reducible repeat (first | apply Kd.R_alloc | apply Kd.R_drewN | apply Kd.R_drew));exact (Kd.R_mono (Kd.R_far (p:=⟨Y,2,none⟩) (Kd.R_types ac.out a1.out (by decide)) (fun _ hk=>hk.2) (.int .i64 al)) (fun _ h_=>h_.1))) (Kd.R_typed (by (with_reducible repeat (first | apply Kd.R_alloc | apply Kd.R_drewN | apply Kd.R_drew));exact (Kd.R_mono (Kd.R_far (p:=⟨Y,2,none⟩) (Kd.R_mono HO_701002.out (fun k_ hk=>(⟨hk,hk.2⟩:_∧k_≠Y))) (fun _ hk=>hk.2) (.int .i64 al)) (fun _ h_=>h_.1)))) (by decide) hg);replace a7:=amk (Kd.R_over' (by (with_reducible repeat (first | apply Kd.R_alloc | apply Kd.R_drewN | apply Kd.R_drew));exact (Kd.R_mono (Kd.R_far (p:=⟨Y,2,none⟩) (Kd.R_types a7.out a1.out (by decide)) (fun _ hk=>hk.2) (.int .i64 al)) (fun _ h_=>h_.1))) (Kd.R_typed (by (with_reducible repeat (first | apply Kd.R_alloc | apply Kd.R_drewN | apply Kd.R_drew));exact (Kd.R_mono (Kd.R_far (p:=⟨Y,2,none⟩) (Kd.R_mono HO_701002.out (fun k_ hk=>(⟨hk,hk.2⟩:_∧k_≠Y))) (fun _ hk=>hk.2) (.int .i64 al)) (fun _ h_=>h_.1)))) (by decide) hg);replace a1:=amk (blk_grown (g:=Y) (o:= .cells #[.int .i64 ak, .int .i64 an, .int .i64 al] 48 (0,0)) (kP a1) hg (Kd.R_away HO_701002.out (fun _ hk=>hk.2)));replace HB:=amk (hb);have cn:=amk (ho);clear HO_701002;clear ho hb hg hat;obtain ⟨co,cp,dm⟩:=Kd.R_slice cn.out;subst dm;obtain ⟨cq,cr,cu,cv,cw,cx⟩:=cells3 Z.out));go_roundg k1
                        case measure=>have:=cA.out;omega
                        case rel=>exact ⟨(wrap64 (af + 1)),(be),(.slice co be.length cp),rS_,H',⟨by have:=cA.out;omega⟩,⟨by (with_reducible repeat (first | apply Kd.R_alloc | apply Kd.R_drewN | apply Kd.R_drew));exact Kd.R_mono (Kd.R_far (p:=⟨aJ,2,none⟩) (Kd.R_types HO_26.out Z.out (by decide)) (fun _ hk=>hk.2) (.slice co be.length cp)) (fun _ hk=>trivial)⟩,⟨by (with_reducible repeat (first | apply Kd.R_alloc | apply Kd.R_drewN | apply Kd.R_drew));exact Kd.R_mono (Kd.R_far (p:=⟨aJ,2,none⟩) (Kd.R_types cn.out Z.out (by decide)) (fun _ hk=>hk.2) (.slice co be.length cp)) (fun _ hk=>trivial)⟩,⟨kB J⟩,⟨kP Z⟩,⟨bB⟩⟩
                      · rw [if_neg c29] at H;exact absurd H (by simp)
                    · rw [if_neg c27] at H;exact absurd H (by simp)
                  · rw [if_neg c25] at H;exact absurd H (by simp)
                · rw [if_neg c23] at H;exact absurd H (by simp)
              · rw [if_neg c22] at H;exact absurd H (by simp)
          · (first | rw [aG] | (simp only [i64_w,i32_w];rw [aG]) | skip);have H':=amk H;clear H;go_wp2;go_meet
            case rel=>exact ⟨_,(a8),(aa),H',⟨by have:=cA.out;first | omega | exact Nat.le_refl _⟩,⟨oX HO_701002⟩,⟨kB J⟩,⟨kB Z⟩,⟨bB⟩⟩
    case rest =>
      clear cH;(try clear c1);(try clear c2);(try clear bm);(try clear bn);(try clear p2);(try clear c3);(try clear c4);(try clear c5);(try clear p6);(try clear p7);(try clear q7);(try clear hx7);(try clear qi7);(try clear c13);(try clear c17);(try clear aG);(try clear c18);(try clear cJ);(try clear c19);(try clear cK);(try clear c20);(try clear br);(try clear bu);(try clear c22);(try clear c23);(try clear cN);(try clear cO);(try clear c25);(try clear cP);(try clear cQ);(try clear c27);(try clear cS);(try clear cT);(try clear c29);(try clear c33);(try clear c36);(try clear c37);(try clear c46);(try clear aN);(try clear aQ);(try clear aT);(try clear bF);(try clear bH);(try clear bJ);(try clear bO);(try clear bQ);(try clear bR);(try clear bV);(try clear bW);(try clear bX);(try clear c7);(try clear c8);(try clear ca);(try clear cf);(try clear cg);(try clear ci);(try clear b7);(try clear b8);(try clear b9);(try clear cq);(try clear cr);(try clear cu);(try clear aU);(try clear aV);(try clear aW);(try clear bL);(try clear bM);(try clear bN);(try clear bS);(try clear bT);(try clear bU);(try clear bY);(try clear bZ);(try clear c6);(try clear cb);(try clear cd);(try clear ce);(try clear cj);(try clear ck);(try clear cm);(try clear ba);(try clear bb);(try clear bc);(try clear cv);(try clear cw);(try clear cx);(try clear aX);(try clear ae);(try clear au);(try clear av);(try clear p2);(try clear aH);(try clear bf);(try clear bh);(try clear bj);(try clear aI);(try clear bg);(try clear bi);(try clear bk);obtain ⟨kq,a6,aa,HA,fx,HO_701002,J,Z,HB⟩:=hcut
      cases kq with
      | zero=>exact absurd HA.out (by simp [impl_ParsePuzzle.j1])
      | succ dn =>
        have H:=HA.out;clear HA;simp only [impl_ParsePuzzle.j1] at H;replace H:=bE H;obtain ⟨fe,cZ,H⟩:=H;replace H:=iteB H;obtain ⟨rfl,H⟩ | ⟨rfl,H⟩:=H
        · replace H:=bE H;obtain ⟨aM,dp,H⟩:=H
          by_cases c54:aM.toList=a0.toList
          · rw [if_pos c54] at H;have d5:(aM.toList == a0.toList)=true:=beq_iff_eq.mpr c54;have d6:(aM.toList != a0.toList)=false:=bne_eq_false_iff_eq.mpr c54;clear c54;simp only [Option.some.injEq,Prod.mk.injEq] at H;obtain ⟨rfl,rfl,rfl,rfl⟩:=H;have eQ:=aj.out;have eR:=ai.out;obtain ⟨dq,dr,dt,du,dv,dw⟩:=cells3 Z.out;obtain ⟨cy,cz,dx⟩:=Kd.R_slice HO_701002.out;subst dx;go_wp2_with (first | ((with_reducible refine gate_callee (f:=26) rfl ?_);refine goesL_ (some 71) rfl rfl Tryz.func26 (by kernel_rfl) rfl #[.agg #[.int .i64 ag, .int .i64 ah, .slice cy a6.length cz]] rfl gL_ ?_;(with_reducible refine (impl_IsPuzzle.calls ag ah _ _ a6 true _ ?_ ?_ cZ.out).mono ?_);exact cB ((Kd.R_reads' HO_701002.out).2.2);exact (Kd.R_reads' HO_701002.out).2.1;rintro e fy ⟨rfl,hb⟩;refine ⟨_,rfl,?_⟩;replace HO_701002:=amk (Kd.R_below (oX HO_701002) hb);replace J:=kb2 J hb;replace Z:=kb2 Z hb;replace HB:=hB2 HB hb;(try clear hb);obtain ⟨dy,dz,dA,dB,dC,dD⟩:=cells3 Z.out) | (go_at_call 45;(with_reducible refine (impl_puzzleText.calls dn ag ah _ _ a6 aM _ ?side1 ?side2 ?sideT dp.out).mono ?_);(case sideT=>exact (HTP.out.below bB).1);(case side1=>exact cB ((Kd.R_reads' HO_701002.out).2.2));(case side2=>exact (Kd.R_reads' HO_701002.out).2.1);rintro e fz ⟨rfl,hb⟩;replace HO_701002:=amk (Kd.R_below (oX HO_701002) hb);replace J:=kb2 J hb;replace Z:=kb2 Z hb;replace HB:=hB2 HB hb;(try clear hb);obtain ⟨dE,dF,dG,dH,dI,dJ⟩:=cells3 Z.out;obtain ⟨dK,dL,dM,dN,dO,dP⟩:=cells3 J.out));refine bodyPost_ret (results_ct rfl _ _ am 28 #[.int .i64 ag, .int .i64 ah, .slice cy a6.length cz] (0,0) _ rfl (kP J) Tryz.underlying28 rfl (by kernel_rfl)) rfl ?_;exact ⟨_,rF_,by (with_reducible repeat (first | apply Kd.R_alloc | apply Kd.R_drewN | apply Kd.R_drew));exact Kd.R_mono (Kd.R_far (p:=⟨am,2,none⟩) (Kd.R_far (p:=⟨am,1,none⟩) (Kd.R_far (p:=⟨am,0,none⟩) (Kd.R_types HO_701002.out J.out (by decide)) (fun _ hk=>hk.2) (.int .i64 ag)) (fun _ hk=>hk.2) (.int .i64 ah)) (fun _ hk=>hk.2) (.slice cy a6.length cz)) (fun _ hk=>trivial),bB⟩
          · rw [if_neg c54] at H;have d5:(aM.toList == a0.toList)=false:=beq_eq_false_iff_ne.mpr c54;have d6:(aM.toList != a0.toList)=true:=bne_iff_ne.mpr c54;simp only [Option.some.injEq,Prod.mk.injEq] at H;obtain ⟨rfl,rfl,rfl,rfl⟩:=H;have eS:=aj.out;have eT:=ai.out;obtain ⟨dQ,dR,dS,dT,dU,dV⟩:=cells3 Z.out;obtain ⟨dW,dX,dY⟩:=Kd.R_slice HO_701002.out;subst dY;go_wp2_with (first | ((with_reducible refine gate_callee (f:=26) rfl ?_);refine goesL_ (some 71) rfl rfl Tryz.func26 (by kernel_rfl) rfl #[.agg #[.int .i64 ag, .int .i64 ah, .slice dW a6.length dX]] rfl gL_ ?_;(with_reducible refine (impl_IsPuzzle.calls ag ah _ _ a6 true _ ?_ ?_ cZ.out).mono ?_);exact cB ((Kd.R_reads' HO_701002.out).2.2);exact (Kd.R_reads' HO_701002.out).2.1;rintro e fA ⟨rfl,hb⟩;refine ⟨_,rfl,?_⟩;replace HO_701002:=amk (Kd.R_below (oX HO_701002) hb);replace J:=kb2 J hb;replace Z:=kb2 Z hb;replace HB:=hB2 HB hb;(try clear hb);obtain ⟨dZ,e1,e2,e3,e4,e5⟩:=cells3 Z.out) | (go_at_call 45;(with_reducible refine (impl_puzzleText.calls dn ag ah _ _ a6 aM _ ?side1 ?side2 ?sideT dp.out).mono ?_);(case sideT=>exact (HTP.out.below bB).1);(case side1=>exact cB ((Kd.R_reads' HO_701002.out).2.2));(case side2=>exact (Kd.R_reads' HO_701002.out).2.1);rintro e fB ⟨rfl,hb⟩;replace HO_701002:=amk (Kd.R_below (oX HO_701002) hb);replace J:=kb2 J hb;replace Z:=kb2 Z hb;replace HB:=hB2 HB hb;(try clear hb);obtain ⟨e6,e7,e8,e9,ea,eb⟩:=cells3 J.out));refine bodyPost_ret (results_ct rfl _ _ am 28 #[.int .i64 0, .int .i64 0, .slice none 0 0] (0,0) _ rfl (kP J) Tryz.underlying28 rfl (by kernel_rfl)) rfl ?_;exact ⟨_,rF_,xN_,bB⟩
        · simp only [Option.some.injEq,Prod.mk.injEq] at H;obtain ⟨rfl,rfl,rfl,rfl⟩:=H;have eU:=aj.out;have eV:=ai.out;obtain ⟨ec,ed,ee,ef,eg,eh⟩:=cells3 Z.out;obtain ⟨ei,ej,ek⟩:=Kd.R_slice HO_701002.out;subst ek;go_wp2_with (first | ((with_reducible refine gate_callee (f:=26) rfl ?_);refine goesL_ (some 71) rfl rfl Tryz.func26 (by kernel_rfl) rfl #[.agg #[.int .i64 ag, .int .i64 ah, .slice ei a6.length ej]] rfl gL_ ?_;(with_reducible refine (impl_IsPuzzle.calls ag ah _ _ a6 false _ ?_ ?_ cZ.out).mono ?_);exact cB ((Kd.R_reads' HO_701002.out).2.2);exact (Kd.R_reads' HO_701002.out).2.1;rintro e fC ⟨rfl,hb⟩;refine ⟨_,rfl,?_⟩;replace HO_701002:=amk (Kd.R_below (oX HO_701002) hb);replace J:=kb2 J hb;replace Z:=kb2 Z hb;replace HB:=hB2 HB hb;(try clear hb);obtain ⟨em,en,eo,ep,er,eu⟩:=cells3 J.out));refine bodyPost_ret (results_ct rfl _ _ am 28 #[.int .i64 0, .int .i64 0, .slice none 0 0] (0,0) _ rfl (kP J) Tryz.underlying28 rfl (by kernel_rfl)) rfl ?_;exact ⟨_,rF_,xN_,bB⟩
/-! ParsePuzzle: what the program's comes to; texts are read back. -/
def qqV (w d:Int) (l:List S48) (s:ByteArray):Int×Int×List S48×Bool:=if puzzleB w d l=true∧puzzleT w d l=s then (w,d,l,true) else (0,0,[],false)
def OwnZ (w d:Int) (l:List S48) (s:ByteArray):Prop:= ∀ w' d' l',puzzleB w' d' l'=true→puzzleT w' d' l'=s→w=w'∧d=d'∧l=l'
theorem qqV_own {w1 d1 w2 d2:Int} {l1 l2:List S48} {s:ByteArray} (h1:OwnZ w1 d1 l1 s) (h2:OwnZ w2 d2 l2 s):qqV w1 d1 l1 s=qqV w2 d2 l2 s:=by
  unfold qqV
  by_cases c1:puzzleB w1 d1 l1=true∧puzzleT w1 d1 l1=s
  · obtain ⟨e1,e2,e3⟩:=h2 w1 d1 l1 c1.1 c1.2
    rw [e1,e2,e3]
  · by_cases c2:puzzleB w2 d2 l2=true∧puzzleT w2 d2 l2=s
    · obtain ⟨e1,e2,e3⟩:=h1 w2 d2 l2 c2.1 c2.2
      rw [e1,e2,e3]
    · rw [if_neg c1,if_neg c2]
theorem puzzleT_small {w d:Int} {l:List S48} (h:puzzleB w d l=true):(puzzleT w d l).size≤100:=by
  obtain ⟨a1,a2,a3⟩:=puzzleB_txt h
  obtain ⟨b1,_⟩:=smallB_iff.mp a1
  have hs:=lockT_size (w:=w) (d:=d) (by omega) (by omega)
  have hj:=clue_joined l a3 ⟨#[44]⟩ rfl
  have h1:((⟨#[58]⟩:ByteArray)).size=1:=rfl
  unfold puzzleT
  rw [ByteArray.size_append,ByteArray.size_append]
  omega
theorem qqV_none (s:ByteArray):qqV 0 0 [] s=(0,0,[],false):=by
  unfold qqV
  exact if_neg (fun h=>absurd h.1 (by decide))
theorem OwnZ.of_big {s:ByteArray} (h:(s.size:Int) > 100):OwnZ 0 0 [] s:=fun w' d' l' h1 h2=>by
  have:=puzzleT_small h1
  rw [h2] at this
  omega
theorem impl_ParsePuzzle.j1ev (s:ByteArray) (w d:Int) (l:List S48):Ev (fun k=>impl_ParsePuzzle.j1 k s w d l) (qqV w d l s):=by
  refine Ev.step (fun k=>rfl) ?_
  simp only [impl_ParsePuzzle.j1]
  refine Ev.bindc (show impl_IsPuzzle.f w d l=some (puzzleB w d l) from rfl) ?_
  unfold qqV
  by_cases h1:puzzleB w d l=true
  · obtain ⟨a1,a2,a3⟩:=puzzleB_txt h1
    obtain ⟨b1,_⟩:=smallB_iff.mp a1
    refine Ev.yes h1 (Ev.bind (impl_puzzleText.ev w d (by omega) (by omega) l a2 a3) ?_)
    by_cases h2:puzzleT w d l=s
    · refine Ev.yes (bl_eq.mpr h2) (Ev.id ?_)
      rw [if_pos ⟨h1,h2⟩]
    · refine Ev.no (fun h=>h2 (bl_eq.mp h)) (Ev.id ?_)
      rw [if_neg (fun h=>h2 h.2)]
  · refine Ev.no h1 (Ev.id ?_)
    rw [if_neg (fun h=>h1 h.1)]
theorem splitL_mapc {c:UInt8} {sep:ByteArray} (hsep:sep.data.toList=[c]) (s:ByteArray):(splitL s sep).map (·.data.toList)=splL c s.data.toList:=splitB_spl hsep _ s rfl
theorem unmap {xs:List ByteArray} {ys:List (List UInt8)} (h:xs.map (·.data.toList)=ys):xs=ys.map byL:=by
  rw [←h,List.map_map]
  conv=>lhs;rw [←List.map_id xs]
  exact List.map_congr_left (fun x _=>bytes_eq rfl)
theorem splitL_small {c:UInt8} {sep:ByteArray} (hsep:sep.data.toList=[c]) (s:ByteArray):(splitL s sep).length≤s.size + 1∧∀ x∈splitL s sep,x.size≤s.size:=by
  have hsp:=splitL_mapc hsep s
  obtain ⟨_,s2,s3⟩:=splL_len c s.data.toList
  have hz:=Lib.size_eq s
  refine ⟨by rw [←List.length_map (f:=fun b:ByteArray=>b.data.toList),hsp];omega,fun x hx=>?_⟩
  have:=s3 x.data.toList (by rw [←hsp];exact List.mem_map_of_mem (f:=fun b:ByteArray=>b.data.toList) hx)
  rw [Lib.size_eq];omega
theorem rdOf_size {xs:List ByteArray} {N:Nat} (h : ∀ p∈xs,p.size≤N) (i:Int):(rdOf ByteArray.empty xs i).size≤N:=by
  unfold rdOf
  rw [List.getD_eq_getElem?_getD]
  cases hc:xs[i.toNat]? with
  | none=>exact Nat.zero_le _
  | some p=>exact h p (List.mem_of_getElem? hc)
def yI (x:ByteArray):List ByteArray:=splitL x ⟨#[46]⟩ ++ [⟨#[]⟩,⟨#[]⟩,⟨#[]⟩]
def clI (x:ByteArray):S48:=⟨atoiV (rdOf ByteArray.empty (yI x) 0),atoiV (rdOf ByteArray.empty (yI x) 1),atoiV (rdOf ByteArray.empty (yI x) 2)⟩
theorem yI_small {x:ByteArray} (hx:x.size≤1000):3≤(yI x).length∧∀ p∈yI x,p.size≤1000:=by
  obtain ⟨_,h2⟩:=splitL_small (sep:=⟨#[46]⟩) (c:=46) rfl x
  unfold yI
  refine ⟨by rw [List.length_append];simp,fun p hp=>?_⟩
  rcases List.mem_append.mp hp with hp | hp
  · have:=h2 p hp;omega
  · simp only [List.mem_cons,List.mem_nil_iff,or_false,or_self] at hp
    rw [hp];exact Nat.zero_le _
theorem atoi_ok {x:ByteArray} (hx:x.size≤1000):strconv_Atoi.f x=some (atoiV x,true):=if_pos (by omega)
theorem impl_ParsePuzzle.lev (s t:ByteArray) (ht : ¬ t.toList=[]) (w d:Int) (xs:List ByteArray) (hx : ∀ x∈xs,x.size≤1000) (hl:xs.length≤1001) : ∀ (m i:Nat),i + m=xs.length→Ev (fun k=>impl_ParsePuzzle.l0 k s t xs (xs.length:Int) (i:Nat) w d ((xs.take i).map clI)) (qqV w d (xs.map clI) s):=by
  intro m
  induction m with
  | zero =>
    intro i hi
    refine Ev.step (fun k=>rfl) (Ev.no (by omega) ?_)
    rw [List.take_of_length_le (by omega)]
    exact impl_ParsePuzzle.j1ev s w d _
  | succ m ih =>
    intro i hi
    have hlt:i < xs.length:=by omega
    have hxi:=hx _ (List.getElem_mem hlt)
    obtain ⟨y1,y2⟩:=yI_small hxi
    have z1:=(splitL_small (sep:=⟨#[46]⟩) (c:=46) rfl xs[i]).1
    refine Ev.step (fun k=>rfl) (Ev.yes (by omega) (Ev.yes (by omega) (Ev.yes (by omega) (Ev.no ht ?_))))
    rw [rdOf_nat hlt]
    refine Ev.bindc (show strings_Split.f xs[i] ⟨#[46]⟩=some (splitL xs[i] ⟨#[46]⟩) from if_pos ⟨by omega,by decide⟩) (Ev.bindc rfl (Ev.yes (by simp only [List.length_cons,List.length_nil];omega) (Ev.bindc (show _=some (yI xs[i]) from rfl) ?_)))
    refine Ev.yes (by omega) (Ev.bindc (atoi_ok (rdOf_size y2 0)) (Ev.yes (by omega) (Ev.bindc (atoi_ok (rdOf_size y2 1)) (Ev.yes (by omega) (Ev.bindc (atoi_ok (rdOf_size y2 2)) (Ev.yes (by rw [List.length_map,List.length_take];omega) ?_))))))
    rw [show wrap64 ((i:Int) + 1)=((i + 1:Nat):Int) from w64 (by omega) (by omega)]
    have:=ih (i + 1) (by omega)
    rw [List.take_succ_eq_append_getElem hlt,List.map_append] at this
    exact this
theorem decB_ne {n:Int} (h0:0≤n) (h:n < 1000) {c:UInt8} (hc:c.toNat < 48∨57 < c.toNat) : ∀ b∈(decB n).data.toList,b≠c:=by
  obtain ⟨n,rfl⟩:=Int.eq_ofNat_of_zero_le h0
  obtain ⟨D,e,hD,_⟩:=decB_digits (n:=n) (by omega)
  rw [e]
  rcases hc with hc | hc
  · exact textB_ne hD hc
  · exact textB_ne2 hD hc
def clueU (c:S48):List UInt8:=(decB c.f0).data.toList ++ 46 :: ((decB c.f1).data.toList ++ 46 :: (decB c.f2).data.toList)
theorem clueT_bytes (c:S48):(clueT c).data.toList=clueU c:=by
  unfold clueT clueU
  simp only [ByteArray.data_append,Array.toList_append,List.append_assoc]
  rfl
theorem clueU_ne {c:S48} (h:TxtClue c) {u:UInt8} (hu:u.toNat < 46∨57 < u.toNat) : ∀ b∈clueU c,b≠u:=by
  obtain ⟨h0,h1,h2⟩:=h
  have hd:u.toNat < 48∨57 < u.toNat:=by omega
  have J:(46:UInt8)≠u:=fun e=>by rw [←e] at hu;exact absurd hu (by decide)
  intro b hb
  unfold clueU at hb
  rcases List.mem_append.mp hb with hb | hb
  · exact decB_ne h0.1 h0.2 hd b hb
  rcases List.mem_cons.mp hb with rfl | hb
  · exact J
  rcases List.mem_append.mp hb with hb | hb
  · exact decB_ne h1.1 h1.2 hd b hb
  rcases List.mem_cons.mp hb with rfl | hb
  · exact J
  · exact decB_ne h2.1 h2.2 hd b hb
theorem clueU_split {c:S48} (h:TxtClue c):splL 46 (clueU c)=[(decB c.f0).data.toList,(decB c.f1).data.toList,(decB c.f2).data.toList]:=by
  obtain ⟨h0,h1,h2⟩:=h
  unfold clueU
  rw [splL_app (decB_ne h0.1 h0.2 (by decide)),splL_app (decB_ne h1.1 h1.2 (by decide)),splL_no (decB_ne h2.1 h2.2 (by decide))]
theorem clI_back {c:S48} (h:TxtClue c):clI (clueT c)=c:=by
  have e:splitL (clueT c) ⟨#[46]⟩=[decB c.f0,decB c.f1,decB c.f2]:=by
    have:=unmap ((splitL_mapc (sep:=⟨#[46]⟩) (c:=46) rfl (clueT c)).trans (by rw [clueT_bytes,clueU_split h]))
    rw [this]
    simp only [List.map_cons,List.map_nil]
    rw [←bytes_eq (a:=decB c.f0) rfl,←bytes_eq (a:=decB c.f1) rfl,←bytes_eq (a:=decB c.f2) rfl]
  obtain ⟨h0,h1,h2⟩:=h
  unfold clI yI
  rw [e]
  show (⟨atoiV (decB c.f0),atoiV (decB c.f1),atoiV (decB c.f2)⟩:S48)=c
  rw [atoiV_num h0.1 h0.2,atoiV_num h1.1 h1.2,atoiV_num h2.1 h2.2]
def lockU (w d:Int):List UInt8:=(decB w).data.toList ++ 120 :: (decB d).data.toList
def cluesU (l:List S48):List UInt8:=Lib.join (l.map clueU) [44]
theorem puzzleT_bytes (w d:Int) (l:List S48):(puzzleT w d l).data.toList=lockU w d ++ 58 :: cluesU l:=by
  unfold puzzleT lockT joinB lockU cluesU
  rw [List.map_map,show ((fun x:ByteArray=>x.data.toList) ∘ clueT)=clueU from funext clueT_bytes]
  simp only [ByteArray.data_append,Array.toList_append,List.append_assoc]
  rfl
theorem lockU_ne {w d:Int} (hw:1≤w∧w≤6) (hd:2≤d∧d≤10) : ∀ b∈lockU w d,b≠58:=by
  intro b hb
  unfold lockU at hb
  rcases List.mem_append.mp hb with hb | hb
  · exact decB_ne (by omega) (by omega) (by decide) b hb
  rcases List.mem_cons.mp hb with rfl | hb
  · decide
  · exact decB_ne (by omega) (by omega) (by decide) b hb
theorem cluesU_ne {l:List S48} (h : ∀ c∈l,TxtClue c) : ∀ b∈cluesU l,b≠58:=by
  intro b hb
  unfold cluesU at hb
  rcases mem_join _ hb with h2 | ⟨x,hx,h2⟩
  · rw [List.mem_singleton.mp h2];decide
  · obtain ⟨q,hq,rfl⟩:=List.mem_map.mp hx
    exact clueU_ne (h q hq) (by decide) b h2
theorem cluesU_split {l:List S48} (hl:l≠[]) (h : ∀ c∈l,TxtClue c):splL 44 (cluesU l)=l.map clueU:=by
  cases l with
  | nil=>exact absurd rfl hl
  | cons r t =>
    unfold cluesU
    rw [List.map_cons]
    refine splL_join _ _ (clueU_ne (h r List.mem_cons_self) (by decide)) (fun y hy=>?_)
    obtain ⟨q,hq,rfl⟩:=List.mem_map.mp hy
    exact clueU_ne (h q (List.mem_cons_of_mem _ hq)) (by decide)
theorem cluesU_nil {l:List S48} : cluesU l=[] ↔ l=[]:=by
  constructor
  · intro h
    cases l with
    | nil=>rfl
    | cons r t =>
      unfold cluesU at h
      rw [List.map_cons,Lib.join_cons] at h
      have:=congrArg List.length h
      unfold clueU at this
      simp at this
  · intro h;rw [h];rfl
theorem map_clueU (l:List S48):(l.map clueU).map byL=l.map clueT:=by
  rw [List.map_map]
  exact List.map_congr_left (fun c _=>(bytes_eq (clueT_bytes c)).symm)
/-! ### spec_pzParse: function 62 -/
mutual
def spec_pzParse.j0:Nat→ByteArray→List ByteArray→Bool→Option (Int×Int×(List (S48))×Bool)
  | 0,_,_,_=>none
  | k + 1,x0,x4,am=>if am=true then (some (0,0,([]:List (S48)),false)) else (if 0 < (x4.length:Int) then ((spec_l1Split.f k (rdOf ByteArray.empty x4 0) 120).bind fun a6=>(if (a6.length:Int)=2 then (if 0 < (a6.length:Int) then ((spec_l1Read.f k (rdOf ByteArray.empty a6 0)).bind fun a7=>(if 1 < (a6.length:Int) then ((spec_l1Read.f k (rdOf ByteArray.empty a6 1)).bind fun a8=>(if 1 < (x4.length:Int) then (if ((rdOf ByteArray.empty x4 1).size:Int) > 0 then ((spec_l1Split.f k (rdOf ByteArray.empty x4 1) 44).bind fun ab=>(spec_pzParse.l0 k x0 ab (ab.length:Int) 0 a7 a8 ([]:List (S48)))) else ((spec_pzGood.f k a7 a8 ([]:List (S48))).bind fun ae=>(if ae=true then ((spec_pzText.f k a7 a8 ([]:List (S48))).bind fun af=>(some (a7,a8,([]:List (S48)),(af.toList == x0.toList)))) else (some (a7,a8,([]:List (S48)),false))))) else (none))) else (none))) else (none)) else (some (0,0,([]:List (S48)),false)))) else (none))
def spec_pzParse.l0:Nat→ByteArray→List ByteArray→Int→Int→Int→Int→List (S48)→Option (Int×Int×(List (S48))×Bool)
  | 0,_,_,_,_,_,_,_=>none
  | k + 1,x0,ac,ag,aa,Y,Z,J=>if aa < ag then (if 0≤aa then (if aa < (ac.length:Int) then ((spec_l1Split.f k (rdOf ByteArray.empty ac aa) 46).bind fun a1=>(if (a1.length:Int)=3 then (if 0 < (a1.length:Int) then ((spec_l1Read.f k (rdOf ByteArray.empty a1 0)).bind fun ah=>(if 1 < (a1.length:Int) then ((spec_l1Read.f k (rdOf ByteArray.empty a1 1)).bind fun ai=>(if 2 < (a1.length:Int) then ((spec_l1Read.f k (rdOf ByteArray.empty a1 2)).bind fun aj=>(if J.length < 5864062014805 then (spec_pzParse.l0 k x0 ac ag (wrap64 (aa + 1)) Y Z (J ++ [(⟨ah,ai,aj⟩:S48)])) else (none))) else (none))) else (none))) else (none)) else (some (0,0,([]:List (S48)),false)))) else (none)) else (none)) else ((spec_pzGood.f k Y Z J).bind fun ak=>(if ak=true then ((spec_pzText.f k Y Z J).bind fun al=>(some (Y,Z,J,(al.toList == x0.toList)))) else (some (Y,Z,J,false))))
end
def spec_pzParse.f (k:Nat) (a0:ByteArray):Option (Int×Int×(List (S48))×Bool):=(spec_l1Split.f k a0 58).bind fun J=>(if (a0.size:Int) > 100 then (spec_pzParse.j0 k a0 J true) else (spec_pzParse.j0 k a0 J ((J.length:Int) != 2)))
def spec_pzParse.T7:Bool×List (List Nat×List Nat):=(true,[([],[]),([0],[0]),([1],[1]),([2],[2]),([],[]),([4],[4]),([5],[5]),([6,3],[6]),([3,7],[3,7]),([8],[8]),([],[]),([10,9,7,0,1,2,3,4,5,6,7,8,9,10],[9,10])])
def spec_pzParse.B7:List Nat:=[0,1,3,7,0,16,48,127,255,511,0,2047]
theorem spec_pzParse.tab7:rtab .any (opsOf Tryz.f62 7)=spec_pzParse.T7:=by kernel_rfl
theorem spec_pzParse.bits7:waitsOk spec_pzParse.T7.2 spec_pzParse.B7=true:=by kernel_rfl
def spec_pzParse.T15:Bool×List (List Nat×List Nat):=(true,[([],[]),([0],[0]),([],[]),([2],[2]),([3],[3]),([4],[4]),([],[]),([6],[6]),([7],[7]),([8,5],[8]),([],[]),([10],[10]),([11],[11]),([12,9],[12]),([5,9,13],[5,9,13]),([14],[14]),([1,15,13],[1,15]),([0,1,2,3,4,5,6,7,8,9,10,11,12,13,14,15,16],[]),([17,16,16,0,1,2,3,4,5,6,7,8,9,10,11,12,13,14,15,16],[16,17])])
def spec_pzParse.B15:List Nat:=[0,1,0,4,12,28,0,64,192,508,0,1024,3072,8188,16380,32764,65535,131071,262143]
theorem spec_pzParse.tab15:rtab .any (opsOf Tryz.f62 15)=spec_pzParse.T15:=by kernel_rfl
theorem spec_pzParse.bits15:waitsOk spec_pzParse.T15.2 spec_pzParse.B15=true:=by kernel_rfl
def spec_pzParse.T17:Bool×List (List Nat×List Nat):=(true,[([],[]),([],[]),([1],[1]),([2,2],[2]),([3],[3]),([4,3,3],[3,4]),([3],[3]),([5,6,3],[3,5,6]),([3,7],[3,7]),([0,5,0],[0]),([8,9,0,1,2,3,4,5,6,7,8,9],[8])])
def spec_pzParse.B17:List Nat:=[0,0,2,6,14,30,14,126,254,63,1023]
theorem spec_pzParse.tab17:rtab .any (opsOf Tryz.f62 17)=spec_pzParse.T17:=by kernel_rfl
theorem spec_pzParse.bits17:waitsOk spec_pzParse.T17.2 spec_pzParse.B17=true:=by kernel_rfl
set_option maxHeartbeats 8000000 in
set_option maxRecDepth 100000 in
theorem spec_pzParse.calls (k:Nat) (a0:ByteArray) (r1:Int) (r2:Int) (r3:List (S48)) (r4:Bool) (w:World) (h:spec_pzParse.f k a0=some (r1,r2,r3,r4)) :
    Calls Tryz.prog 62 #[.string a0] w fun e w'=> ∃ v2_:Value,e = .returned (.tuple #[.agg #[.int .i64 r1, .int .i64 r2,v2_], .bool r4])∧Kd.R k48 48 w' w.heap.size (fun _=>True) v2_ r3∧Below w.heap.size w w':=by
  have fQ:=Tryz.underlying28;have fR:=Tryz.underlying25;have fS:=Tryz.underlying48;have HB:=amk (Below.refl w.heap.size w);unfold spec_pzParse.f at h;have H:=h;clear h;replace H:=bE H;obtain ⟨ae,A2,H⟩:=H;have cw:=amk H;clear H;go_enter Tryz.func62,Tryz.ntmps62
  go_upto_region 2 with (first | ((with_reducible refine gate_dst (N:=2) rfl ?_);(try (refine gate_guard (by rfl) ?_;dsimp only));refine boxE_ HB 2 #[.int .i64 0, .int .i64 0, .slice none 0 0] 28 ?_;clear HB;intro a8 w4 HB a1 eF eG hb;clear hb) | ((with_reducible refine gate_callee (f:=88) rfl ?_);refine goesL_ (some 11) rfl rfl Tryz.func88 (by kernel_rfl) rfl #[.string a0, .int .u8 58] rfl gL_ ?_;(with_reducible refine (spec_l1Split.calls k a0 58 ae _ A2.out).mono ?_);rintro e w5 ⟨dj,rfl,ax,hb⟩;refine ⟨_,rfl,?_⟩;have bm:=amk (Kd.R_lower ax (below_size bB));replace a1:=kb2 a1 hb;replace HB:=hB2 HB hb;(try clear hb);(try clear ax)))
  (try simp only [Act.put,List.setIfInBounds_toArray,List.set_cons_zero,List.set_cons_succ])
  go_cut [19] (fun eH wc=> ∃ (kq:Nat) (bn:Bool),eH = .bool bn∧Aside0 (spec_pzParse.j0 kq a0 ae bn=some (r1,r2,r3,r4))∧Aside0 (kq≤k)∧Aside0 (Kd.R Kd.string 9 wc w.heap.size (fun _=>True) dj ae)∧Aside0 (wc.heap[a8]?=some (.cells #[.int .i64 0, .int .i64 0,(.slice none 0 0)] 28 (0,0)))∧Aside0 (Below w.heap.size w wc))
  case first =>
    have H:=cw.out;clear cw
    by_cases c6:(a0.size:Int) > 100
    · rw [if_pos c6] at H;have b5:decide (100 < (a0.size:Int))=true:=decide_eq_true c6;have bH:decide (100 < a0.size)=true:=decide_eq_true (by omega);clear c6;(first | rw [b5] | (simp only [i64_w,i32_w];rw [b5]) | skip);have H':=amk H;clear H;go_wp2;go_meet
      case rel=>exact ⟨_,(true),rS_,H',⟨by first | omega | exact Nat.le_refl _⟩,⟨oX bm⟩,⟨kB a1⟩,⟨bB⟩⟩
    · rw [if_neg c6] at H;have b5:decide (100 < (a0.size:Int))=false:=decide_eq_false c6;have bH:decide (100 < a0.size)=false:=decide_eq_false (by omega);clear c6;(first | rw [b5] | (simp only [i64_w,i32_w];rw [b5]) | skip);have H':=amk H;clear H;obtain ⟨gK,gL,eI⟩:=Kd.R_slice bm.out;subst eI;go_wp2;go_meet
      case rel=>exact ⟨_,(((ae.length:Int) != 2)),rS_,H',⟨by first | omega | exact Nat.le_refl _⟩,⟨oX bm⟩,⟨kB a1⟩,⟨bB⟩⟩
  case rest =>
    clear cw;(try clear p2);(try clear c6);(try clear b5);(try clear bH);obtain ⟨kq,bn,rfl,HA,dl,HO_4,a1,HB⟩:=hcut
    cases kq with
    | zero=>exact absurd HA.out (by simp [spec_pzParse.j0])
    | succ aA =>
      have H:=HA.out;clear HA;simp only [spec_pzParse.j0] at H;replace H:=iteB H;obtain ⟨rfl,H⟩ | ⟨rfl,H⟩:=H
      · simp only [Option.some.injEq,Prod.mk.injEq] at H;obtain ⟨rfl,rfl,rfl,rfl⟩:=H;obtain ⟨cg,ci,cj,ck,cm,cn⟩:=cells3 a1.out;go_wp2;refine bodyPost_ret (results_ct rfl _ _ a8 28 #[.int .i64 0, .int .i64 0, .slice none 0 0] (0,0) _ rfl (kP a1) Tryz.underlying28 rfl (by kernel_rfl)) rfl ?_;exact ⟨_,rF_,xN_,bB⟩
      · by_cases c10:0 < (ae.length:Int)
        · rw [if_pos c10] at H;have cx:decide (0 < (ae.length:Int))=true:=decide_eq_true c10;have cy:decide (0 < ae.length)=true:=decide_eq_true (by omega);clear c10;replace H:=bE H;obtain ⟨aa,co,H⟩:=H
          by_cases c12:(aa.length:Int)=2
          · rw [if_pos c12] at H;have bJ:((aa.length:Int) == 2)=true:=beq_iff_eq.mpr c12;have bL:((aa.length:Int) != 2)=false:=bne_eq_false_iff_eq.mpr c12;clear c12
            by_cases c13:0 < (aa.length:Int)
            · rw [if_pos c13] at H;have cz:decide (0 < (aa.length:Int))=true:=decide_eq_true c13;have cA:decide (0 < aa.length)=true:=decide_eq_true (by omega);clear c13;replace H:=bE H;obtain ⟨ac,bF,H⟩:=H
              by_cases c15:1 < (aa.length:Int)
              · rw [if_pos c15] at H;have cC:decide (1 < (aa.length:Int))=true:=decide_eq_true c15;have cE:decide (1 < aa.length)=true:=decide_eq_true (by omega);clear c15;replace H:=bE H;obtain ⟨ab,bb,H⟩:=H
                by_cases c17:1 < (ae.length:Int)
                · rw [if_pos c17] at H;have cF:decide (1 < (ae.length:Int))=true:=decide_eq_true c17;have cG:decide (1 < ae.length)=true:=decide_eq_true (by omega);clear c17
                  by_cases c18:((rdOf ByteArray.empty ae 1).size:Int) > 0
                  · rw [if_pos c18] at H;have bM:decide (0 < ((rdOf ByteArray.empty ae 1).size:Int))=true:=decide_eq_true c18;have bN:decide (0 < (rdOf ByteArray.empty ae 1).size)=true:=decide_eq_true (by omega);clear c18;replace H:=bE H;obtain ⟨aU,eJ,H⟩:=H;have H':=amk H;clear H;obtain ⟨fT,cp,dm⟩:=Kd.R_slice HO_4.out;subst dm;have aC:0≤(0:Int):=(by omega);have aD:0 < (ae.length:Int):=dA_;obtain ⟨ai,b6,av⟩:=Kd.at_string (Kd.R_reads' HO_4.out).2.2 0 aC aD;cases b6;have bo:(0 < ae.length)=True:=eq_true (by omega);(try rw [show ((0:Int)).toNat=0 from rfl] at av);(try rw [Addr.add_zero'] at av);replace aC:=eq_true aC;replace aD:=eq_true aD;(try go_wp2_with (first | ((with_reducible refine gate_callee (f:=88) rfl ?_);refine goesL_ (some 24) rfl rfl Tryz.func88 (by kernel_rfl) rfl #[.string (rdOf ByteArray.empty ae 0), .int .u8 120] rfl gL_ ?_;(with_reducible refine (spec_l1Split.calls aA (rdOf ByteArray.empty ae 0) 120 aa _ co.out).mono ?_);rintro e eK ⟨bO,rfl,ax,hb⟩;refine ⟨_,rfl,?_⟩;have a6:=amk (Kd.R_lower (Kd.R_new' ax (Kd.R_lt (oX HO_4))) (below_size bB));replace HO_4:=amk (Kd.R_elder' (oX HO_4) (Kd.R_base ax) hb);replace a1:=kb2 a1 hb;replace HB:=hB2 HB hb;(try clear hb);(try clear ax);obtain ⟨fU,cq,dn⟩:=Kd.R_slice a6.out;subst dn)));replace HO_4:=amk (Kd.R_drew HO_4.out);replace a6:=amk (Kd.R_drew a6.out);replace a1:=amk (blk_drew a1.out);replace HB:=amk (bd_ HB.out);have aJ:0≤(0:Int):=(by omega);have aK:0 < (aa.length:Int):=dA_;obtain ⟨ah,be,aj⟩:=Kd.at_string (Kd.R_reads' a6.out).2.2 0 aJ aK;cases be;have bQ:(0 < aa.length)=True:=eq_true (by omega);(try rw [show ((0:Int)).toNat=0 from rfl] at aj);(try rw [Addr.add_zero'] at aj);replace aJ:=eq_true aJ;replace aK:=eq_true aK;have aM:0≤(1:Int):=(by omega);have aN:1 < (aa.length:Int):=dA_;obtain ⟨b7,bf,ak⟩:=Kd.at_string (Kd.R_reads' a6.out).2.2 1 aM aN;obtain rfl:ah=b7:=(by injection bf);(try simp only [show (1:Int).toNat=1 from rfl,Nat.reduceMul,Nat.reduceEqDiff,Go.Addr.add,↓reduceIte] at ak);have bR:(1 < aa.length)=True:=eq_true (by omega);(try rw [show ((1:Int)).toNat=1 from rfl] at ak);replace aM:=eq_true aM;replace aN:=eq_true aN;refine start_ (n:=12) (S:=fun w'=>w'.cell? ah=some (.string (rdOf ByteArray.empty aa 0))∧w'.cell? ⟨ah.block,ah.off + 1,none⟩=some (.string (rdOf ByteArray.empty aa 1))) (ds:=[]) (bA 12 0) (by kernel_rfl) rfl rfl ⟨aj,ak⟩ (fun hHeld=>?_);refine with_tabW spec_pzParse.tab7 spec_pzParse.bits7 (fun HT_ HW_=>?_);generalize eK.drew=gM at HO_4 a6 a1 HB aj ak hHeld ⊢;refine pU_ HT_ 0 (some 29) (bA 12 1) ?_;refine pU_ HT_ 1 (some 30) (bA 12 3) ?_;refine pU_ HT_ 4 (some 33) (bA 12 19) ?_;refine pU_ HT_ 5 (some 34) (bA 12 51) ?_;refine tK_ HT_ HW_ hHeld 2 (some 31) (bA 12 55) ?_;refine tK_ HT_ HW_ hHeld 6 (some 35) (bA 12 119) ?_;refine join_ (σ:=Nat) 1 (bA 12 2047) (fun s_=> [(32, .int .i64 ac),(36, .int .i64 ab),(6, .pointer (some ⟨s_,0,none⟩)),(37, .agg #[.int .i64 ac, .int .i64 ab]),(38, .agg #[.int .i64 ac, .int .i64 ab, .slice none 0 0])]) (fun s_ w'=>(w'.cell? ah=some (.string (rdOf ByteArray.empty aa 0))∧w'.cell? ⟨ah.block,ah.off + 1,none⟩=some (.string (rdOf ByteArray.empty aa 1)))∧(Kd.R Kd.string 9 w' w.heap.size (fun k_=>some k_≠(.slice (some ai) ae.length cp:Value).ownBlock) (.slice (some ah) aa.length cq) aa)∧(Kd.R Kd.string 9 w' w.heap.size (fun k_=>some k_≠(.slice (some ah) aa.length cq:Value).ownBlock) (.slice (some ai) ae.length cp) ae)∧(w'.heap[a8]?=some (.cells #[.int .i64 0, .int .i64 0, .slice none 0 0] 28 (0,0)))∧(w'.heap[s_]?=some (.cells #[.int .i64 0, .int .i64 0, .slice none 0 0] 28 (0,0)))∧(w.heap.size≤s_)∧(w.heap.size≤s_)∧(a8≠s_)∧(s_≠a8)∧(Below w.heap.size w w')) ?_ ?_;rotate_left
                    · intro hCont;refine two_ (i:=3) (j:=10) (Ni:=some 32) (Nj:=some 6) (bA 12 127) (bA 12 1143) rfl rfl rfl rfl (two_of HT_.out (by kernel_rfl)) (by decide) (by decide) (fun K hK=>?_) (fun K hK=>?_)
                      · skip
                        refine goes_ Tryz.func89 (by kernel_rfl) rfl #[.string (rdOf ByteArray.empty aa 0)] (by rfl) rfl rfl gL_ ?_;(with_reducible refine (spec_l1Read.calls aA (rdOf ByteArray.empty aa 0) ac _ bF.out).mono ?_);rintro e w' ⟨rfl,⟨nd,rfl⟩⟩;refine ⟨_,rfl,?_⟩;refine hK.out _ _ ⟨hHeld.1,hHeld.2⟩ (fun hHeld=>?_);clear hK K;refine nN_ (some 32) ?_;refine two_ (i:=7) (j:=10) (Ni:=some 36) (Nj:=some 6) (bA 12 255) (bA 12 1151) rfl rfl rfl rfl (two_of HT_.out (by kernel_rfl)) (by decide) (by decide) (fun K hK=>?_) (fun K hK=>?_)
                        · skip
                          refine goes_ Tryz.func89 (by kernel_rfl) rfl #[.string (rdOf ByteArray.empty aa 1)] (by rfl) rfl rfl gL_ ?_;(with_reducible refine (spec_l1Read.calls aA (rdOf ByteArray.empty aa 1) ab _ bb.out).mono ?_);rintro e w' ⟨rfl,⟨nd,rfl⟩⟩;refine ⟨_,rfl,?_⟩;refine hK.out _ _ ⟨hHeld.1,hHeld.2⟩ (fun hHeld=>?_);clear hK K;refine nN_ (some 36) ?_;refine pU_ HT_ 8 (some 37) (bA 12 511) ?_;refine pU_ HT_ 9 (some 38) (bA 12 1023) ?_;refine oN_ HT_ 10 (some 6) (bA 12 2047) (fun K hK=>?_);refine box_step ?hg (N:=6) ?hd (cs:= #[.int .i64 0, .int .i64 0, .slice none 0 0]) (t:=28) ?hr ?_;(case hd=>rfl);(case hg=>rfl);(case hr=>first | (go_simp;done) | (go_simp;rfl));intro Z hg dp hbox hb;have HS0_:=(hb.cell (World.block_lt_of_cell? _ _ (hHeld.1))).trans (hHeld.1);have HS1_:=(hb.cell (World.block_lt_of_cell? _ _ (hHeld.2))).trans (hHeld.2);replace HO_4:=amk (Kd.R_below (oX HO_4) hb);replace a6:=amk (Kd.R_below (oX a6) hb);have J:=amk (hbox);have ar:=sZ HB hg;have au:=sZ HB hg;replace HB:=hB2 HB hb;have a7:=neL a1 hg;have Y:=neR a1 hg;replace a1:=kb2 a1 hb;clear hb hbox hg;refine hK.out _ _ ⟨HS0_,HS1_⟩ (fun hHeld=>?_);clear hK K;refine nN_ (some 6) ?_;exact norm_ (by simp only [putAll,Act.put,List.setIfInBounds_toArray,List.set_cons_zero,List.set_cons_succ]) (hCont (Z) _ ⟨hHeld,(by (with_reducible repeat (first | apply Kd.R_alloc | apply Kd.R_drewN | apply Kd.R_drew));exact Kd.R_mono a6.out (fun _ hk=>hk.2)),(by (with_reducible repeat (first | apply Kd.R_alloc | apply Kd.R_drewN | apply Kd.R_drew));exact Kd.R_mono HO_4.out (fun _ hk=>hk.2)),(kB a1),(kB J),ar.out,au.out,a7.out,Y.out,bB⟩)
                        · skip
                          refine box_step ?hg (N:=6) ?hd (cs:= #[.int .i64 0, .int .i64 0, .slice none 0 0]) (t:=28) ?hr ?_;(case hd=>rfl);(case hg=>rfl);(case hr=>first | (go_simp;done) | (go_simp;rfl));intro Z hg dp hbox hb;have HS0_:=(hb.cell (World.block_lt_of_cell? _ _ (hHeld.1))).trans (hHeld.1);have HS1_:=(hb.cell (World.block_lt_of_cell? _ _ (hHeld.2))).trans (hHeld.2);replace HO_4:=amk (Kd.R_below (oX HO_4) hb);replace a6:=amk (Kd.R_below (oX a6) hb);have J:=amk (hbox);have ar:=sZ HB hg;have au:=sZ HB hg;replace HB:=hB2 HB hb;have a7:=neL a1 hg;have Y:=neR a1 hg;replace a1:=kb2 a1 hb;clear hb hbox hg;refine hK.out _ _ ⟨HS0_,HS1_⟩ (fun hHeld=>?_);clear hK K;refine nN_ (some 6) ?_;refine oN_ HT_ 7 (some 36) (bA 12 1279) (fun K hK=>?_);refine goes_ Tryz.func89 (by kernel_rfl) rfl #[.string (rdOf ByteArray.empty aa 1)] (by rfl) rfl rfl gL_ ?_;(with_reducible refine (spec_l1Read.calls aA (rdOf ByteArray.empty aa 1) ab _ bb.out).mono ?_);rintro e w' ⟨rfl,⟨nd,rfl⟩⟩;refine ⟨_,rfl,?_⟩;refine hK.out _ _ ⟨hHeld.1,hHeld.2⟩ (fun hHeld=>?_);clear hK K;refine nN_ (some 36) ?_;refine pU_ HT_ 8 (some 37) (bA 12 1535) ?_;refine pU_ HT_ 9 (some 38) (bA 12 2047) ?_;exact norm_ (by simp only [putAll,Act.put,List.setIfInBounds_toArray,List.set_cons_zero,List.set_cons_succ]) (hCont (Z) _ ⟨hHeld,(by (with_reducible repeat (first | apply Kd.R_alloc | apply Kd.R_drewN | apply Kd.R_drew));exact Kd.R_mono a6.out (fun _ hk=>hk.2)),(by (with_reducible repeat (first | apply Kd.R_alloc | apply Kd.R_drewN | apply Kd.R_drew));exact Kd.R_mono HO_4.out (fun _ hk=>hk.2)),(kB a1),(kB J),ar.out,au.out,a7.out,Y.out,bB⟩)
                      · skip
                        refine box_step ?hg (N:=6) ?hd (cs:= #[.int .i64 0, .int .i64 0, .slice none 0 0]) (t:=28) ?hr ?_;(case hd=>rfl);(case hg=>rfl);(case hr=>first | (go_simp;done) | (go_simp;rfl));intro Z hg dp hbox hb;have HS0_:=(hb.cell (World.block_lt_of_cell? _ _ (hHeld.1))).trans (hHeld.1);have HS1_:=(hb.cell (World.block_lt_of_cell? _ _ (hHeld.2))).trans (hHeld.2);replace HO_4:=amk (Kd.R_below (oX HO_4) hb);replace a6:=amk (Kd.R_below (oX a6) hb);have J:=amk (hbox);have ar:=sZ HB hg;have au:=sZ HB hg;replace HB:=hB2 HB hb;have a7:=neL a1 hg;have Y:=neR a1 hg;replace a1:=kb2 a1 hb;clear hb hbox hg;refine hK.out _ _ ⟨HS0_,HS1_⟩ (fun hHeld=>?_);clear hK K;refine nN_ (some 6) ?_;refine oN_ HT_ 3 (some 32) (bA 12 1151) (fun K hK=>?_);refine goes_ Tryz.func89 (by kernel_rfl) rfl #[.string (rdOf ByteArray.empty aa 0)] (by rfl) rfl rfl gL_ ?_;(with_reducible refine (spec_l1Read.calls aA (rdOf ByteArray.empty aa 0) ac _ bF.out).mono ?_);rintro e w' ⟨rfl,⟨nd,rfl⟩⟩;refine ⟨_,rfl,?_⟩;refine hK.out _ _ ⟨hHeld.1,hHeld.2⟩ (fun hHeld=>?_);clear hK K;refine nN_ (some 32) ?_;refine oN_ HT_ 7 (some 36) (bA 12 1279) (fun K hK=>?_);refine goes_ Tryz.func89 (by kernel_rfl) rfl #[.string (rdOf ByteArray.empty aa 1)] (by rfl) rfl rfl gL_ ?_;(with_reducible refine (spec_l1Read.calls aA (rdOf ByteArray.empty aa 1) ab _ bb.out).mono ?_);rintro e w' ⟨rfl,⟨nd,rfl⟩⟩;refine ⟨_,rfl,?_⟩;refine hK.out _ _ ⟨hHeld.1,hHeld.2⟩ (fun hHeld=>?_);clear hK K;refine nN_ (some 36) ?_;refine pU_ HT_ 8 (some 37) (bA 12 1535) ?_;refine pU_ HT_ 9 (some 38) (bA 12 2047) ?_;exact norm_ (by simp only [putAll,Act.put,List.setIfInBounds_toArray,List.set_cons_zero,List.set_cons_succ]) (hCont (Z) _ ⟨hHeld,(by (with_reducible repeat (first | apply Kd.R_alloc | apply Kd.R_drewN | apply Kd.R_drew));exact Kd.R_mono a6.out (fun _ hk=>hk.2)),(by (with_reducible repeat (first | apply Kd.R_alloc | apply Kd.R_drewN | apply Kd.R_drew));exact Kd.R_mono HO_4.out (fun _ hk=>hk.2)),(kB a1),(kB J),ar.out,au.out,a7.out,Y.out,bB⟩)
                    rintro Z cH ⟨hS_,h0_,h1_,h2_,h3_,h4_,h5_,h6_,h7_,h8_⟩;replace a6:=amk h0_;replace HO_4:=amk h1_;replace a1:=amk h2_;have J:=amk h3_;have ar:=amk h4_;have au:=amk h5_;have a7:=amk h6_;have Y:=amk h7_;replace HB:=amk h8_;clear h0_ h1_ h2_ h3_ h4_ h5_ h6_ h7_ h8_;have hHeld:=hS_;refine norm_ (a':=?_) ?_ ?_;rotate_left
                    · simp only [putAll,Act.put,List.setIfInBounds_toArray,List.set_cons_zero,List.set_cons_succ]
                      rfl
                    refine oN_ HT_ 11 none (bA 12 4095) (fun K hK=>?_);have fV:cH.cell? ⟨Z,0,none⟩=some (.int .i64 0):=(blk_cell J.out 0).trans rfl;have eL:=blk_frozen J.out 0;have dq:=a7.out;have dr:=Y.out;have fW:cH.cell? ⟨Z,1,none⟩=some (.int .i64 0):=(blk_cell J.out 1).trans rfl;have eM:=blk_frozen J.out 1;have dt:=a7.out;have du:=Y.out;have fX:cH.cell? ⟨Z,2,none⟩=some (.slice none 0 0):=(blk_cell J.out 2).trans rfl;have eN:=blk_frozen J.out 2;have dv:=a7.out;have dw:=Y.out;refine skip_ (w1:=?_) (by rfl) rfl ?_ ?_;rotate_left
                    · go_simp
                      rfl
                    refine hK.out _ _ ⟨((cell_far (p:=⟨Z,_,none⟩) (by first | exact Kd.own_blk (Kd.R_ne a6.out J.out (by decide)) | (rw [add_block];exact Kd.own_blk (Kd.R_ne a6.out J.out (by decide))) | (show (Addr.add _ _).block≠_;rw [add_block];exact Kd.own_blk (Kd.R_ne a6.out J.out (by decide))) | (dsimp only;exact Kd.own_blk (Kd.R_ne a6.out J.out (by decide)))) _).trans (((cell_far (p:=⟨Z,_,none⟩) (by first | exact Kd.own_blk (Kd.R_ne a6.out J.out (by decide)) | (rw [add_block];exact Kd.own_blk (Kd.R_ne a6.out J.out (by decide))) | (show (Addr.add _ _).block≠_;rw [add_block];exact Kd.own_blk (Kd.R_ne a6.out J.out (by decide))) | (dsimp only;exact Kd.own_blk (Kd.R_ne a6.out J.out (by decide)))) _).trans (((cell_far (p:=⟨Z,_,none⟩) (by first | exact Kd.own_blk (Kd.R_ne a6.out J.out (by decide)) | (rw [add_block];exact Kd.own_blk (Kd.R_ne a6.out J.out (by decide))) | (show (Addr.add _ _).block≠_;rw [add_block];exact Kd.own_blk (Kd.R_ne a6.out J.out (by decide))) | (dsimp only;exact Kd.own_blk (Kd.R_ne a6.out J.out (by decide)))) _).trans (hHeld.1)))))),((cell_far (p:=⟨Z,_,none⟩) (by first | exact Kd.own_blk (Kd.R_ne a6.out J.out (by decide)) | (rw [add_block];exact Kd.own_blk (Kd.R_ne a6.out J.out (by decide))) | (show (Addr.add _ _).block≠_;rw [add_block];exact Kd.own_blk (Kd.R_ne a6.out J.out (by decide))) | (dsimp only;exact Kd.own_blk (Kd.R_ne a6.out J.out (by decide)))) _).trans (((cell_far (p:=⟨Z,_,none⟩) (by first | exact Kd.own_blk (Kd.R_ne a6.out J.out (by decide)) | (rw [add_block];exact Kd.own_blk (Kd.R_ne a6.out J.out (by decide))) | (show (Addr.add _ _).block≠_;rw [add_block];exact Kd.own_blk (Kd.R_ne a6.out J.out (by decide))) | (dsimp only;exact Kd.own_blk (Kd.R_ne a6.out J.out (by decide)))) _).trans (((cell_far (p:=⟨Z,_,none⟩) (by first | exact Kd.own_blk (Kd.R_ne a6.out J.out (by decide)) | (rw [add_block];exact Kd.own_blk (Kd.R_ne a6.out J.out (by decide))) | (show (Addr.add _ _).block≠_;rw [add_block];exact Kd.own_blk (Kd.R_ne a6.out J.out (by decide))) | (dsimp only;exact Kd.own_blk (Kd.R_ne a6.out J.out (by decide)))) _).trans (hHeld.2))))))⟩ (fun hHeld=>?_);clear hK K;refine done_ (done_of HT_.out (by kernel_rfl)) ?_;have aQ:0≤(1:Int):=(by omega);have aT:1 < (ae.length:Int):=dA_;obtain ⟨b8,bg,af⟩:=Kd.at_string (Kd.R_reads' HO_4.out).2.2 1 aQ aT;obtain rfl:ai=b8:=(by injection bg);(try simp only [show (1:Int).toNat=1 from rfl,Nat.reduceMul,Nat.reduceEqDiff,Go.Addr.add,↓reduceIte] at af);have bS:(1 < ae.length)=True:=eq_true (by omega);(try rw [show ((1:Int)).toNat=1 from rfl] at af);have am:ai.block≠Z:=Kd.own_blk (Kd.R_ne HO_4.out J.out (by decide));have an:ai.block≠Z:=Kd.own_blk (Kd.R_ne HO_4.out J.out (by decide));have ap:ai.block≠Z:=Kd.own_blk (Kd.R_ne HO_4.out J.out (by decide));replace af:=(cell_far (p:=⟨Z,0,none⟩) (by first | (rw [add_block];exact am) | (show (Addr.add _ _).block≠_;rw [add_block];exact am) | exact am) (.int .i64 ac)).trans af;replace af:=(cell_far (p:=⟨Z,1,none⟩) (by first | (rw [add_block];exact an) | (show (Addr.add _ _).block≠_;rw [add_block];exact an) | exact an) (.int .i64 ab)).trans af;replace af:=(cell_far (p:=⟨Z,2,none⟩) (by first | (rw [add_block];exact ap) | (show (Addr.add _ _).block≠_;rw [add_block];exact ap) | exact ap) (.slice none 0 0)).trans af;clear am;clear an;clear ap;replace aQ:=eq_true aQ;replace aT:=eq_true aT;have bp:0≤(1:Int):=(by omega);have bq:1 < (ae.length:Int):=dA_;obtain ⟨cJ,dx,ay⟩:=Kd.at_string (Kd.R_reads' HO_4.out).2.2 1 bp bq;obtain rfl:ai=cJ:=(by injection dx);(try simp only [show (1:Int).toNat=1 from rfl,Nat.reduceMul,Nat.reduceEqDiff,Go.Addr.add,↓reduceIte] at ay);have eO:(1 < ae.length)=True:=eq_true (by omega);(try rw [show ((1:Int)).toNat=1 from rfl] at ay);have aW:ai.block≠Z:=Kd.own_blk (Kd.R_ne HO_4.out J.out (by decide));have aX:ai.block≠Z:=Kd.own_blk (Kd.R_ne HO_4.out J.out (by decide));have aY:ai.block≠Z:=Kd.own_blk (Kd.R_ne HO_4.out J.out (by decide));replace ay:=(cell_far (p:=⟨Z,0,none⟩) (by first | (rw [add_block];exact aW) | (show (Addr.add _ _).block≠_;rw [add_block];exact aW) | exact aW) (.int .i64 ac)).trans ay;replace ay:=(cell_far (p:=⟨Z,1,none⟩) (by first | (rw [add_block];exact aX) | (show (Addr.add _ _).block≠_;rw [add_block];exact aX) | exact aX) (.int .i64 ab)).trans ay;replace ay:=(cell_far (p:=⟨Z,2,none⟩) (by first | (rw [add_block];exact aY) | (show (Addr.add _ _).block≠_;rw [add_block];exact aY) | exact aY) (.slice none 0 0)).trans ay;clear aW;clear aX;clear aY;replace bp:=eq_true bp;replace bq:=eq_true bq;(try go_wp2_with (first | ((with_reducible refine gate_callee (f:=88) rfl ?_);refine goesL_ (some 47) rfl rfl Tryz.func88 (by kernel_rfl) rfl #[.string (rdOf ByteArray.empty ae 1), .int .u8 44] rfl gL_ ?_;(with_reducible refine (spec_l1Split.calls aA (rdOf ByteArray.empty ae 1) 44 aU _ eJ.out).mono ?_);rintro e gN ⟨fY,rfl,ax,hb⟩;refine ⟨_,rfl,?_⟩;have bT:=amk (Kd.R_lower (Kd.R_new' (Kd.R_new' ax (Kd.R_lt (by (with_reducible repeat (first | apply Kd.R_alloc | apply Kd.R_drewN | apply Kd.R_drew));exact (Kd.R_mono (Kd.R_far (p:=⟨Z,2,none⟩) (Kd.R_far (p:=⟨Z,1,none⟩) (Kd.R_far (p:=⟨Z,0,none⟩) (Kd.R_types HO_4.out J.out (by decide)) (fun _ hk=>hk.2) (.int .i64 ac)) (fun _ hk=>hk.2) (.int .i64 ab)) (fun _ hk=>hk.2) (.slice none 0 0)) (fun _ h_=>h_.1))))) (Kd.R_lt (by (with_reducible repeat (first | apply Kd.R_alloc | apply Kd.R_drewN | apply Kd.R_drew));exact (Kd.R_mono (Kd.R_far (p:=⟨Z,2,none⟩) (Kd.R_far (p:=⟨Z,1,none⟩) (Kd.R_far (p:=⟨Z,0,none⟩) (Kd.R_types a6.out J.out (by decide)) (fun _ hk=>hk.2) (.int .i64 ac)) (fun _ hk=>hk.2) (.int .i64 ab)) (fun _ hk=>hk.2) (.slice none 0 0)) (fun _ h_=>h_.1))))) (below_size bB));replace HO_4:=amk (Kd.R_elder' (by (with_reducible repeat (first | apply Kd.R_alloc | apply Kd.R_drewN | apply Kd.R_drew));exact (Kd.R_mono (Kd.R_far (p:=⟨Z,2,none⟩) (Kd.R_far (p:=⟨Z,1,none⟩) (Kd.R_far (p:=⟨Z,0,none⟩) (Kd.R_types HO_4.out J.out (by decide)) (fun _ hk=>hk.2) (.int .i64 ac)) (fun _ hk=>hk.2) (.int .i64 ab)) (fun _ hk=>hk.2) (.slice none 0 0)) (fun _ h_=>h_.1))) (Kd.R_base ax) hb);replace a6:=amk (Kd.R_elder' (by (with_reducible repeat (first | apply Kd.R_alloc | apply Kd.R_drewN | apply Kd.R_drew));exact (Kd.R_mono (Kd.R_far (p:=⟨Z,2,none⟩) (Kd.R_far (p:=⟨Z,1,none⟩) (Kd.R_far (p:=⟨Z,0,none⟩) (Kd.R_types a6.out J.out (by decide)) (fun _ hk=>hk.2) (.int .i64 ac)) (fun _ hk=>hk.2) (.int .i64 ab)) (fun _ hk=>hk.2) (.slice none 0 0)) (fun _ h_=>h_.1))) (Kd.R_base ax) hb);replace a1:=kb2 a1 hb;replace J:=amk (blk_below (g:=Z) (o:= .cells #[.int .i64 ac, .int .i64 ab, .slice none 0 0] 28 (0,0)) (kP J) hb);replace HB:=hB2 HB hb;(try clear hb);(try clear ax);obtain ⟨dy,dz,dA⟩:=Kd.R_slice bT.out;subst dA)))
                    go_loopg [49] aA (fun kq v49 w'=> ∃ (az:Int) (aE:Int) (aG:Int) (ag:List (S48)) (aI:Value),v49 = .int .i64 az∧Aside0 (spec_pzParse.l0 kq a0 aU (aU.length:Int) az ac ab ag=some (r1,r2,r3,r4))∧Aside0 (kq≤aA)∧Aside0 (Kd.R Kd.string 9 w' w.heap.size (fun _=>True) (.slice dy aU.length dz) aU)∧Aside0 (Kd.R k48 48 w' w.heap.size (fun _=>True) aI ag)∧Aside0 (w'.heap[a8]?=some (.cells #[.int .i64 aE, .int .i64 aG,(.slice none 0 0)] 28 (0,0)))∧Aside0 (w'.heap[Z]?=some (.cells #[.int .i64 ac, .int .i64 ab,aI] 28 (0,0)))∧Aside0 (Below w.heap.size w w'))
                    case atStart=>exact ⟨(0),(0),(0),(([]:List (S48))),(.slice none 0 0),rS_,H',⟨Nat.le_refl _⟩,⟨by (with_reducible repeat (first | apply Kd.R_alloc | apply Kd.R_drewN | apply Kd.R_drew));exact Kd.R_mono bT.out (fun _ hk=>trivial)⟩,⟨xN_⟩,⟨kB a1⟩,⟨kB J⟩,⟨bB⟩⟩
                    case round =>
                      clear H';(try clear c1);(try clear p2);(try clear c6);(try clear b5);(try clear bH);(try clear p7);(try clear q7);(try clear hx7);(try clear qi7);(try clear c8);(try clear c10);(try clear cx);(try clear cy);(try clear c12);(try clear bJ);(try clear bL);(try clear c13);(try clear cz);(try clear cA);(try clear c15);(try clear cC);(try clear cE);(try clear c17);(try clear cF);(try clear cG);(try clear c18);(try clear bM);(try clear bN);(try clear cg);(try clear ci);(try clear cj);(try clear ck);(try clear cm);(try clear cn);(try clear av);(try clear aj);(try clear ak);(try clear af);(try clear ay);(try clear p2);(try clear aC);(try clear aJ);(try clear aM);(try clear aQ);(try clear bp);(try clear aD);(try clear aK);(try clear aN);(try clear aT);(try clear bq);obtain ⟨az,aE,aG,ag,aI,rfl,HA,dB,HO_47,HO_783002,a1,J,HB⟩:=hrel
                      cases gk with
                      | zero=>exact absurd HA.out (by simp [spec_pzParse.l0])
                      | succ k2 =>
                        have H:=HA.out;clear HA;simp only [spec_pzParse.l0] at H;replace H:=iteE H;obtain ⟨cK,H⟩ | ⟨cK,H⟩:=H
                        · replace H:=iteN H;obtain ⟨eP,H⟩:=H;replace H:=iteN H;obtain ⟨eQ,H⟩:=H;replace H:=bE H;obtain ⟨al,dC,H⟩:=H
                          by_cases c35:(al.length:Int)=3
                          · rw [if_pos c35] at H;have cL:((al.length:Int) == 3)=true:=beq_iff_eq.mpr c35;have cM:((al.length:Int) != 3)=false:=bne_eq_false_iff_eq.mpr c35;clear c35
                            by_cases c36:0 < (al.length:Int)
                            · rw [if_pos c36] at H;have eR:decide (0 < (al.length:Int))=true:=decide_eq_true c36;have eS:decide (0 < al.length)=true:=decide_eq_true (by omega);clear c36;replace H:=bE H;obtain ⟨bh,eT,H⟩:=H
                              by_cases c38:1 < (al.length:Int)
                              · rw [if_pos c38] at H;have eU:decide (1 < (al.length:Int))=true:=decide_eq_true c38;have eV:decide (1 < al.length)=true:=decide_eq_true (by omega);clear c38;replace H:=bE H;obtain ⟨bi,eW,H⟩:=H
                                by_cases c40:2 < (al.length:Int)
                                · rw [if_pos c40] at H;have eX:decide (2 < (al.length:Int))=true:=decide_eq_true c40;have eY:decide (2 < al.length)=true:=decide_eq_true (by omega);clear c40;replace H:=bE H;obtain ⟨bj,eZ,H⟩:=H
                                  by_cases c42:ag.length < 5864062014805
                                  · rw [if_pos c42] at H;have cN:=amk c42;clear c42;(try rw [Option.bind_some] at H);generalize bU:((ag ++ [(⟨bh,bi,bj⟩:S48)]):List (S48))=br at H;have cO:=amk bU.symm;clear bU;have H':=amk H;clear H;have b9:0≤(az:Int):=dA_;have ba:az < (aU.length:Int):=dA_;obtain ⟨cP,bV,bW⟩:=Kd.at_string (Kd.R_reads' HO_47.out).2.2 az b9 ba;cases bV;replace b9:=eq_true b9;replace ba:=eq_true ba;(try go_wp2_with (first | ((with_reducible refine gate_callee (f:=88) rfl ?_);refine goesL_ (some 54) rfl rfl Tryz.func88 (by kernel_rfl) rfl #[.string (rdOf ByteArray.empty aU az), .int .u8 46] rfl gL_ ?_;(with_reducible refine (spec_l1Split.calls k2 (rdOf ByteArray.empty aU az) 46 al _ dC.out).mono ?_);rintro e f3 ⟨dD,rfl,ax,hb⟩;refine ⟨_,rfl,?_⟩;replace HO_783002:=amk (Kd.R_below (oX HO_783002) hb);have aH:=amk (Kd.R_lower (Kd.R_new' ax (Kd.R_lt (oX HO_47))) (below_size bB));replace HO_47:=amk (Kd.R_elder' (oX HO_47) (Kd.R_base ax) hb);replace a1:=kb2 a1 hb;replace J:=kb2 J hb;replace HB:=hB2 HB hb;(try clear hb);(try clear ax);obtain ⟨fZ,ga,dE⟩:=Kd.R_slice aH.out;subst dE)));replace HO_47:=amk (Kd.R_drew HO_47.out);replace HO_783002:=amk (Kd.R_drew HO_783002.out);replace aH:=amk (Kd.R_drew aH.out);replace a1:=amk (blk_drew a1.out);replace J:=amk (blk_drew J.out);replace HB:=amk (bd_ HB.out);have bX:0≤(0:Int):=(by omega);have bY:0 < (al.length:Int):=dA_;obtain ⟨aV,dF,aZ⟩:=Kd.at_string (Kd.R_reads' aH.out).2.2 0 bX bY;cases dF;have fa:(0 < al.length)=True:=eq_true (by omega);(try rw [show ((0:Int)).toNat=0 from rfl] at aZ);(try rw [Addr.add_zero'] at aZ);replace bX:=eq_true bX;replace bY:=eq_true bY;have bZ:0≤(1:Int):=(by omega);have c7:1 < (al.length:Int):=dA_;obtain ⟨cQ,dG,b3⟩:=Kd.at_string (Kd.R_reads' aH.out).2.2 1 bZ c7;obtain rfl:aV=cQ:=(by injection dG);(try simp only [show (1:Int).toNat=1 from rfl,Nat.reduceMul,Nat.reduceEqDiff,Go.Addr.add,↓reduceIte] at b3);have fb:(1 < al.length)=True:=eq_true (by omega);(try rw [show ((1:Int)).toNat=1 from rfl] at b3);replace bZ:=eq_true bZ;replace c7:=eq_true c7;have ca:0≤(2:Int):=(by omega);have cb:2 < (al.length:Int):=dA_;obtain ⟨cS,dH,b4⟩:=Kd.at_string (Kd.R_reads' aH.out).2.2 2 ca cb;obtain rfl:aV=cS:=(by injection dH);(try simp only [show (2:Int).toNat=2 from rfl,Nat.reduceMul,Nat.reduceEqDiff,Go.Addr.add,↓reduceIte] at b4);have fc:(2 < al.length)=True:=eq_true (by omega);(try rw [show ((2:Int)).toNat=2 from rfl] at b4);replace ca:=eq_true ca;replace cb:=eq_true cb;refine start_ (n:=19) (S:=fun w'=>w'.cell? ⟨Z,0,none⟩=some (.int .i64 ac)∧w'.cell? ⟨Z,1,none⟩=some (.int .i64 ab)∧w'.cell? ⟨Z,2,none⟩=some (aI)∧w'.cell? aV=some (.string (rdOf ByteArray.empty al 0))∧w'.cell? ⟨aV.block,aV.off + 1,none⟩=some (.string (rdOf ByteArray.empty al 1))∧w'.cell? ⟨aV.block,aV.off + 2,none⟩=some (.string (rdOf ByteArray.empty al 2))) (ds:=[16,18]) (bA 19 0) (by kernel_rfl) rfl rfl ⟨(blk_cell J.out 0).trans rfl,(blk_cell J.out 1).trans rfl,(blk_cell J.out 2).trans rfl,aZ,b3,b4⟩ (fun hHeld=>?_);refine with_tabW spec_pzParse.tab15 spec_pzParse.bits15 (fun HT_ HW_=>?_);generalize f3.drew=gO at HO_47 HO_783002 aH a1 J HB aZ b3 b4 hHeld ⊢;refine pU_ HT_ 0 (some 59) (bA 19 1) ?_;refine pU_ HT_ 2 (some 61) (bA 19 5) ?_;refine pU_ HT_ 3 (some 62) (bA 19 13) ?_;refine pU_ HT_ 6 (some 65) (bA 19 77) ?_;refine pU_ HT_ 7 (some 66) (bA 19 205) ?_;refine pU_ HT_ 10 (some 69) (bA 19 1229) ?_;refine pU_ HT_ 11 (some 70) (bA 19 3277) ?_;refine tK_ HT_ HW_ hHeld 1 (some 60) (bA 19 3279) ?_;refine tK_ HT_ HW_ hHeld 4 (some 63) (bA 19 3295) ?_;refine tK_ HT_ HW_ hHeld 8 (some 67) (bA 19 3551) ?_;refine tK_ HT_ HW_ hHeld 12 (some 71) (bA 19 7647) ?_;refine oN_ HT_ 5 (some 64) (bA 19 7679) (fun K hK=>?_);refine goes_ Tryz.func89 (by kernel_rfl) rfl #[.string (rdOf ByteArray.empty al 0)] (by rfl) rfl rfl gL_ ?_;(with_reducible refine (spec_l1Read.calls k2 (rdOf ByteArray.empty al 0) bh _ eT.out).mono ?_);rintro e w' ⟨rfl,⟨nd,rfl⟩⟩;refine ⟨_,rfl,?_⟩;refine hK.out _ _ ⟨(blk_cell J.out 0).trans rfl,(blk_cell J.out 1).trans rfl,(blk_cell J.out 2).trans rfl,hHeld.2.2.2.1,hHeld.2.2.2.2.1,hHeld.2.2.2.2.2⟩ (fun hHeld=>?_);clear hK K;refine nN_ (some 64) ?_;refine oN_ HT_ 9 (some 68) (bA 19 8191) (fun K hK=>?_);refine goes_ Tryz.func89 (by kernel_rfl) rfl #[.string (rdOf ByteArray.empty al 1)] (by rfl) rfl rfl gL_ ?_;(with_reducible refine (spec_l1Read.calls k2 (rdOf ByteArray.empty al 1) bi _ eW.out).mono ?_);rintro e w' ⟨rfl,⟨nd,rfl⟩⟩;refine ⟨_,rfl,?_⟩;refine hK.out _ _ ⟨(blk_cell J.out 0).trans rfl,(blk_cell J.out 1).trans rfl,(blk_cell J.out 2).trans rfl,hHeld.2.2.2.1,hHeld.2.2.2.2.1,hHeld.2.2.2.2.2⟩ (fun hHeld=>?_);clear hK K;refine nN_ (some 68) ?_;refine oN_ HT_ 13 (some 72) (bA 19 16383) (fun K hK=>?_);refine goes_ Tryz.func89 (by kernel_rfl) rfl #[.string (rdOf ByteArray.empty al 2)] (by rfl) rfl rfl gL_ ?_;(with_reducible refine (spec_l1Read.calls k2 (rdOf ByteArray.empty al 2) bj _ eZ.out).mono ?_);rintro e w' ⟨rfl,⟨nd,rfl⟩⟩;refine ⟨_,rfl,?_⟩;refine hK.out _ _ ⟨(blk_cell J.out 0).trans rfl,(blk_cell J.out 1).trans rfl,(blk_cell J.out 2).trans rfl,hHeld.2.2.2.1,hHeld.2.2.2.2.1,hHeld.2.2.2.2.2⟩ (fun hHeld=>?_);clear hK K;refine nN_ (some 72) ?_;refine pU_ HT_ 14 (some 73) (bA 19 32767) ?_;refine oN_ HT_ 15 (some 74) (bA 19 65535) (fun K hK=>?_);refine value_ (w1:=?_) (v:=?_) (by rfl) rfl ?_ ?_;rotate_left 2
                                    · go_simp
                                      constructor
                                      · rfl
                                      · rfl
                                    refine hK.out _ _ ⟨(blk_cell (ka_ J.out _) 0).trans rfl,(blk_cell (ka_ J.out _) 1).trans rfl,(blk_cell (ka_ J.out _) 2).trans rfl,(World.cell?_alloc_lt _ _ _ (World.block_lt_of_cell? _ _ (hHeld.2.2.2.1))).trans (hHeld.2.2.2.1),(World.cell?_alloc_lt _ _ _ (World.block_lt_of_cell? _ _ (hHeld.2.2.2.2.1))).trans (hHeld.2.2.2.2.1),(World.cell?_alloc_lt _ _ _ (World.block_lt_of_cell? _ _ (hHeld.2.2.2.2.2))).trans (hHeld.2.2.2.2.2)⟩ (fun hHeld=>?_);clear hK K;refine nN_ (some 74) ?_;refine last_ (i:=16) (N:=some 75) (bA 19 131071) rfl rfl (one_of HT_.out (by kernel_rfl)) (by decide) (fun K hK=>?_);refine Kd.R_append_step k48 (w0:=w) w.heap.size (by rfl) (.tmp 60) (.tmp 74) 26 48 (.agg #[(.int .i64 0),(.int .i64 0),(.int .i64 0)]) 24 rfl Tryz.underlying26 info48 rfl (by decide) (by omega) aI ag (⟨bh,bi,bj⟩:S48) [.int .i64 bh, .int .i64 bi, .int .i64 bj] (fun _=>True) (fun _=>False) rfl rfl ?aP (fun _ hk=>hk.elim) ?aF ?aO ?aB ?aS ?aL ?_;(case aP=>exact k48_mkM _ _ _ (⟨bh,bi,bj⟩:S48));(case aB=>exact bB);(case aF=>exact (fun _ _=>trivial));(case aO=>exact (oX HO_783002));(case aS=>exact (below_size bB));(case aL=>have:=cN.out;omega);intro gf fe ho hb hg hat;rw [←cO.out] at ho;replace HO_47:=amk (Kd.R_over' (oX HO_47) (Kd.R_typed (oX HO_783002)) (by decide) hg);replace a1:=bG a1 hg (Kd.R_ne HO_783002.out a1.out (by decide));replace J:=bG J hg (Kd.R_ne HO_783002.out J.out (by decide));replace aH:=amk (Kd.R_over' (oX aH) (Kd.R_typed (oX HO_783002)) (by decide) hg);replace HB:=amk (hb);have cd:=amk (ho);clear HO_783002;clear ho hb hg hat;obtain ⟨ce,cf,cr⟩:=Kd.R_slice cd.out;(first | subst cr | (injection cr with f1_ f2_ f3_;have f4_:=f1_.symm;have f5_:=f3_.symm;clear f1_ f2_ f3_;subst f4_;subst f5_));refine hK.out _ _ ?_;clear hK K;refine nN_ (some 75) ?_;refine pU_ HT_ 17 (some 76) (bA 19 262143) ?_;refine last_ (i:=18) (N:=none) (bA 19 524287) rfl rfl (one_of HT_.out (by kernel_rfl)) (by decide) (fun K hK=>?_);have gg:fe.cell? ⟨Z,2,none⟩=some (aI):=(blk_cell J.out 2).trans rfl;have ff:=blk_frozen J.out 2;have dI:=a7.out;have dJ:=Y.out;refine skip_ (w1:=?_) (by rfl) rfl ?_ ?_;rotate_left
                                    · go_simp
                                      rfl
                                    refine hK.out _ _ ?_;clear hK K;refine done_ (done_of HT_.out (by kernel_rfl)) ?_;(try go_wp2);go_roundg k2
                                    case measure=>have:=dl.out;have:=dB.out;omega
                                    case rel=>exact ⟨(wrap64 (az + 1)),(aE),(aG),(br),(.slice ce br.length cf),rS_,H',⟨by have:=dl.out;have:=dB.out;omega⟩,⟨by (with_reducible repeat (first | apply Kd.R_alloc | apply Kd.R_drewN | apply Kd.R_drew));exact Kd.R_mono (Kd.R_far (p:=⟨Z,2,none⟩) (Kd.R_types HO_47.out J.out (by decide)) (fun _ hk=>hk.2) (.slice ce br.length cf)) (fun _ hk=>trivial)⟩,⟨by (with_reducible repeat (first | apply Kd.R_alloc | apply Kd.R_drewN | apply Kd.R_drew));exact Kd.R_mono (Kd.R_far (p:=⟨Z,2,none⟩) (Kd.R_types cd.out J.out (by decide)) (fun _ hk=>hk.2) (.slice ce br.length cf)) (fun _ hk=>trivial)⟩,⟨kB a1⟩,⟨kP J⟩,⟨bB⟩⟩
                                  · rw [if_neg c42] at H;exact absurd H (by simp)
                                · rw [if_neg c40] at H;exact absurd H (by simp)
                              · rw [if_neg c38] at H;exact absurd H (by simp)
                            · rw [if_neg c36] at H;exact absurd H (by simp)
                          · rw [if_neg c35] at H;have cL:((al.length:Int) == 3)=false:=beq_eq_false_iff_ne.mpr c35;have cM:((al.length:Int) != 3)=true:=bne_iff_ne.mpr c35;simp only [Option.some.injEq,Prod.mk.injEq] at H;obtain ⟨rfl,rfl,rfl,rfl⟩:=H;have b9:0≤(az:Int):=dA_;have ba:az < (aU.length:Int):=dA_;obtain ⟨cP,bV,bW⟩:=Kd.at_string (Kd.R_reads' HO_47.out).2.2 az b9 ba;cases bV;replace b9:=eq_true b9;replace ba:=eq_true ba;go_wp2_with (first | ((with_reducible refine gate_callee (f:=88) rfl ?_);refine goesL_ (some 54) rfl rfl Tryz.func88 (by kernel_rfl) rfl #[.string (rdOf ByteArray.empty aU az), .int .u8 46] rfl gL_ ?_;(with_reducible refine (spec_l1Split.calls k2 (rdOf ByteArray.empty aU az) 46 al _ dC.out).mono ?_);rintro e gP ⟨dD,rfl,ax,hb⟩;refine ⟨_,rfl,?_⟩;replace HO_783002:=amk (Kd.R_below (oX HO_783002) hb);have aH:=amk (Kd.R_lower (Kd.R_new' ax (Kd.R_lt (oX HO_47))) (below_size bB));replace HO_47:=amk (Kd.R_elder' (oX HO_47) (Kd.R_base ax) hb);replace a1:=kb2 a1 hb;replace J:=kb2 J hb;replace HB:=hB2 HB hb;(try clear hb);(try clear ax);obtain ⟨gh,gi,dK⟩:=Kd.R_slice aH.out;subst dK;have fg:=a7.out;have fh:=Y.out;obtain ⟨dL,dM,dN,dO,dP,dQ⟩:=cells3 a1.out));refine bodyPost_ret (results_ct rfl _ _ a8 28 #[.int .i64 0, .int .i64 0, .slice none 0 0] (0,0) _ rfl (kP a1) Tryz.underlying28 rfl (by kernel_rfl)) rfl ?_;exact ⟨_,rF_,xN_,bB⟩
                        · replace H:=bE H;obtain ⟨gl,dR,H⟩:=H;replace H:=iteB H;obtain ⟨rfl,H⟩ | ⟨rfl,H⟩:=H
                          · replace H:=bE H;obtain ⟨dS,fi,H⟩:=H;simp only [Option.some.injEq,Prod.mk.injEq] at H;obtain ⟨rfl,rfl,rfl,rfl⟩:=H;(try go_wp2);replace HO_47:=amk (Kd.R_drew HO_47.out);replace HO_783002:=amk (Kd.R_drew HO_783002.out);replace a1:=amk (blk_drew a1.out);replace J:=amk (blk_drew J.out);replace HB:=amk (bd_ HB.out);obtain ⟨bk,bl,cu⟩:=Kd.R_slice HO_783002.out;(first | subst cu | (injection cu with f1_ f2_ f3_;have f4_:=f1_.symm;have f5_:=f3_.symm;clear f1_ f2_ f3_;subst f4_;subst f5_));refine start_ (n:=11) (S:=fun w'=>w'.cell? ⟨Z,0,none⟩=some (.int .i64 ac)∧w'.cell? ⟨Z,1,none⟩=some (.int .i64 ab)∧w'.cell? ⟨Z,2,none⟩=some (.slice bk ag.length bl)) (ds:=[]) (bA 11 0) (by kernel_rfl) rfl rfl ⟨(blk_cell J.out 0).trans rfl,(blk_cell J.out 1).trans rfl,(blk_cell J.out 2).trans rfl⟩ (fun hHeld=>?_);refine with_tabW spec_pzParse.tab17 spec_pzParse.bits17 (fun HT_ HW_=>?_);generalize wr.drew=gQ at HO_47 HO_783002 a1 J HB hHeld ⊢;refine tK_ HT_ HW_ hHeld 0 (some 78) (bA 11 1) ?_;refine tK_ HT_ HW_ hHeld 1 (some 79) (bA 11 3) ?_;refine oN_ HT_ 2 (some 80) (bA 11 7) (fun K hK=>?_);refine goes_ Tryz.func39 (by kernel_rfl) rfl #[.agg #[.int .i64 ac, .int .i64 ab, .slice bk ag.length bl]] (by rfl) rfl rfl gL_ ?_;(with_reducible refine (spec_pzGood.calls k2 ac ab _ _ ag true _ ?_ ?_ dR.out).mono ?_);exact cB ((Kd.R_reads' HO_783002.out).2.2);exact (Kd.R_reads' HO_783002.out).2.1;rintro e gR ⟨rfl,hb⟩;refine ⟨_,rfl,?_⟩;replace HO_47:=amk (Kd.R_below (oX HO_47) hb);replace HO_783002:=amk (Kd.R_below (oX HO_783002) hb);replace a1:=kb2 a1 hb;replace J:=kb2 J hb;replace HB:=hB2 HB hb;(try clear hb);refine hK.out _ _ hC_ (fun hHeld=>?_);clear hK K;refine nN_ (some 80) ?_;refine pU_ HT_ 3 (some 81) (bA 11 15) ?_;refine pU_ HT_ 6 (some 84) (bA 11 79) ?_;refine tK_ HT_ HW_ hHeld 4 (some 82) (bA 11 95) ?_;refine oN_ HT_ 5 (some 83) (bA 11 127) (fun K hK=>?_);refine goes_ Tryz.func46 (by kernel_rfl) rfl #[.agg #[.int .i64 ac, .int .i64 ab, .slice bk ag.length bl]] (by rfl) rfl rfl gL_ ?_;(with_reducible refine (spec_pzText.calls k2 ac ab _ _ ag dS _ ?_ ?_ fi.out).mono ?_);exact cB ((Kd.R_reads' HO_783002.out).2.2);exact (Kd.R_reads' HO_783002.out).2.1;rintro e cT ⟨rfl,hb⟩;refine ⟨_,rfl,?_⟩;replace HO_47:=amk (Kd.R_below (oX HO_47) hb);replace HO_783002:=amk (Kd.R_below (oX HO_783002) hb);replace a1:=kb2 a1 hb;replace J:=kb2 J hb;replace HB:=hB2 HB hb;(try clear hb);refine hK.out _ _ hC_ (fun hHeld=>?_);clear hK K;refine nN_ (some 83) ?_;refine pU_ HT_ 7 (some 85) (bA 11 255) ?_;refine pU_ HT_ 8 (some 86) (bA 11 511) ?_;refine oN_ HT_ 9 none (bA 11 1023) (fun K hK=>?_);have gm:cT.cell? ⟨a8,0,none⟩=some (.int .i64 aE):=(blk_cell a1.out 0).trans rfl;have fj:=blk_frozen a1.out 0;have dT:=Y.out;have dU:=a7.out;have gn:cT.cell? ⟨a8,1,none⟩=some (.int .i64 aG):=(blk_cell a1.out 1).trans rfl;have fo:=blk_frozen a1.out 1;have dV:=Y.out;have dW:=a7.out;have gp:cT.cell? ⟨a8,2,none⟩=some (.slice none 0 0):=(blk_cell a1.out 2).trans rfl;have fp:=blk_frozen a1.out 2;have dX:=Y.out;have dY:=a7.out;refine skip_ (w1:=?_) (by rfl) rfl ?_ ?_;rotate_left
                            · go_simp
                              rfl
                            refine hK.out _ _ ⟨((cell_far (p:=⟨a8,_,none⟩) Y.out _).trans (((cell_far (p:=⟨a8,_,none⟩) Y.out _).trans (((cell_far (p:=⟨a8,_,none⟩) Y.out _).trans (hHeld.1)))))),((cell_far (p:=⟨a8,_,none⟩) Y.out _).trans (((cell_far (p:=⟨a8,_,none⟩) Y.out _).trans (((cell_far (p:=⟨a8,_,none⟩) Y.out _).trans (hHeld.2.1)))))),((cell_far (p:=⟨a8,_,none⟩) Y.out _).trans (((cell_far (p:=⟨a8,_,none⟩) Y.out _).trans (((cell_far (p:=⟨a8,_,none⟩) Y.out _).trans (hHeld.2.2))))))⟩ (fun hHeld=>?_);clear hK K;refine pU_ HT_ 10 (some 3) (bA 11 2047) ?_;refine done_ (done_of HT_.out (by kernel_rfl)) ?_;(try go_wp2);refine bodyPost_ret (results_ct rfl _ _ a8 28 #[.int .i64 ac, .int .i64 ab, .slice bk ag.length bl] (0,0) _ rfl (kP a1) Tryz.underlying28 rfl (by kernel_rfl)) rfl ?_;exact ⟨_,rF_,by (with_reducible repeat (first | apply Kd.R_alloc | apply Kd.R_drewN | apply Kd.R_drew));exact Kd.R_mono (Kd.R_far (p:=⟨a8,2,none⟩) (Kd.R_far (p:=⟨a8,1,none⟩) (Kd.R_far (p:=⟨a8,0,none⟩) (Kd.R_types HO_783002.out a1.out (by decide)) (fun _ hk=>hk.2) (.int .i64 ac)) (fun _ hk=>hk.2) (.int .i64 ab)) (fun _ hk=>hk.2) (.slice bk ag.length bl)) (fun _ hk=>trivial),bB⟩
                          · simp only [Option.some.injEq,Prod.mk.injEq] at H;obtain ⟨rfl,rfl,rfl,rfl⟩:=H;(try go_wp2);replace HO_47:=amk (Kd.R_drew HO_47.out);replace HO_783002:=amk (Kd.R_drew HO_783002.out);replace a1:=amk (blk_drew a1.out);replace J:=amk (blk_drew J.out);replace HB:=amk (bd_ HB.out);obtain ⟨bu,bv,cv⟩:=Kd.R_slice HO_783002.out;(first | subst cv | (injection cv with f1_ f2_ f3_;have f4_:=f1_.symm;have f5_:=f3_.symm;clear f1_ f2_ f3_;subst f4_;subst f5_));refine start_ (n:=11) (S:=fun w'=>w'.cell? ⟨Z,0,none⟩=some (.int .i64 ac)∧w'.cell? ⟨Z,1,none⟩=some (.int .i64 ab)∧w'.cell? ⟨Z,2,none⟩=some (.slice bu ag.length bv)) (ds:=[]) (bA 11 0) (by kernel_rfl) rfl rfl ⟨(blk_cell J.out 0).trans rfl,(blk_cell J.out 1).trans rfl,(blk_cell J.out 2).trans rfl⟩ (fun hHeld=>?_);refine with_tabW spec_pzParse.tab17 spec_pzParse.bits17 (fun HT_ HW_=>?_);generalize wr.drew=gS at HO_47 HO_783002 a1 J HB hHeld ⊢;refine tK_ HT_ HW_ hHeld 0 (some 78) (bA 11 1) ?_;refine tK_ HT_ HW_ hHeld 1 (some 79) (bA 11 3) ?_;refine oN_ HT_ 2 (some 80) (bA 11 7) (fun K hK=>?_);refine goes_ Tryz.func39 (by kernel_rfl) rfl #[.agg #[.int .i64 ac, .int .i64 ab, .slice bu ag.length bv]] (by rfl) rfl rfl gL_ ?_;(with_reducible refine (spec_pzGood.calls k2 ac ab _ _ ag false _ ?_ ?_ dR.out).mono ?_);exact cB ((Kd.R_reads' HO_783002.out).2.2);exact (Kd.R_reads' HO_783002.out).2.1;rintro e cV ⟨rfl,hb⟩;refine ⟨_,rfl,?_⟩;replace HO_47:=amk (Kd.R_below (oX HO_47) hb);replace HO_783002:=amk (Kd.R_below (oX HO_783002) hb);replace a1:=kb2 a1 hb;replace J:=kb2 J hb;replace HB:=hB2 HB hb;(try clear hb);refine hK.out _ _ hC_ (fun hHeld=>?_);clear hK K;refine nN_ (some 80) ?_;refine pU_ HT_ 3 (some 81) (bA 11 15) ?_;refine pZ_ HT_ 4 (some 82) (bA 11 31) ?_;refine pZ_ HT_ 5 (some 83) (bA 11 63) ?_;refine pZ_ HT_ 6 (some 84) (bA 11 127) ?_;refine pZ_ HT_ 7 (some 85) (bA 11 255) ?_;refine pU_ HT_ 8 (some 86) (bA 11 511) ?_;refine oN_ HT_ 9 none (bA 11 1023) (fun K hK=>?_);have gq:cV.cell? ⟨a8,0,none⟩=some (.int .i64 aE):=(blk_cell a1.out 0).trans rfl;have fq:=blk_frozen a1.out 0;have dZ:=Y.out;have e1:=a7.out;have gr:cV.cell? ⟨a8,1,none⟩=some (.int .i64 aG):=(blk_cell a1.out 1).trans rfl;have ft:=blk_frozen a1.out 1;have e2:=Y.out;have e3:=a7.out;have gu:cV.cell? ⟨a8,2,none⟩=some (.slice none 0 0):=(blk_cell a1.out 2).trans rfl;have fu:=blk_frozen a1.out 2;have e4:=Y.out;have e5:=a7.out;refine skip_ (w1:=?_) (by rfl) rfl ?_ ?_;rotate_left
                            · go_simp
                              rfl
                            refine hK.out _ _ ⟨((cell_far (p:=⟨a8,_,none⟩) Y.out _).trans (((cell_far (p:=⟨a8,_,none⟩) Y.out _).trans (((cell_far (p:=⟨a8,_,none⟩) Y.out _).trans (hHeld.1)))))),((cell_far (p:=⟨a8,_,none⟩) Y.out _).trans (((cell_far (p:=⟨a8,_,none⟩) Y.out _).trans (((cell_far (p:=⟨a8,_,none⟩) Y.out _).trans (hHeld.2.1)))))),((cell_far (p:=⟨a8,_,none⟩) Y.out _).trans (((cell_far (p:=⟨a8,_,none⟩) Y.out _).trans (((cell_far (p:=⟨a8,_,none⟩) Y.out _).trans (hHeld.2.2))))))⟩ (fun hHeld=>?_);clear hK K;refine pU_ HT_ 10 (some 3) (bA 11 2047) ?_;refine done_ (done_of HT_.out (by kernel_rfl)) ?_;(try go_wp2);refine bodyPost_ret (results_ct rfl _ _ a8 28 #[.int .i64 ac, .int .i64 ab, .slice bu ag.length bv] (0,0) _ rfl (kP a1) Tryz.underlying28 rfl (by kernel_rfl)) rfl ?_;exact ⟨_,rF_,by (with_reducible repeat (first | apply Kd.R_alloc | apply Kd.R_drewN | apply Kd.R_drew));exact Kd.R_mono (Kd.R_far (p:=⟨a8,2,none⟩) (Kd.R_far (p:=⟨a8,1,none⟩) (Kd.R_far (p:=⟨a8,0,none⟩) (Kd.R_types HO_783002.out a1.out (by decide)) (fun _ hk=>hk.2) (.int .i64 ac)) (fun _ hk=>hk.2) (.int .i64 ab)) (fun _ hk=>hk.2) (.slice bu ag.length bv)) (fun _ hk=>trivial),bB⟩
                  · rw [if_neg c18] at H;have bM:decide (0 < ((rdOf ByteArray.empty ae 1).size:Int))=false:=decide_eq_false c18;have bN:decide (0 < (rdOf ByteArray.empty ae 1).size)=false:=decide_eq_false (by omega);clear c18;replace H:=bE H;obtain ⟨gv,e6,H⟩:=H;replace H:=iteB H;obtain ⟨rfl,H⟩ | ⟨rfl,H⟩:=H
                    · replace H:=bE H;obtain ⟨e7,fv,H⟩:=H;simp only [Option.some.injEq,Prod.mk.injEq] at H;obtain ⟨rfl,rfl,rfl,rfl⟩:=H;obtain ⟨gw,bw,e8⟩:=Kd.R_slice HO_4.out;subst e8;have aC:0≤(0:Int):=(by omega);have aD:0 < (ae.length:Int):=dA_;obtain ⟨ai,b6,av⟩:=Kd.at_string (Kd.R_reads' HO_4.out).2.2 0 aC aD;cases b6;have bo:(0 < ae.length)=True:=eq_true (by omega);(try rw [show ((0:Int)).toNat=0 from rfl] at av);(try rw [Addr.add_zero'] at av);replace aC:=eq_true aC;replace aD:=eq_true aD;(try go_wp2_with (first | ((with_reducible refine gate_callee (f:=88) rfl ?_);refine goesL_ (some 24) rfl rfl Tryz.func88 (by kernel_rfl) rfl #[.string (rdOf ByteArray.empty ae 0), .int .u8 120] rfl gL_ ?_;(with_reducible refine (spec_l1Split.calls aA (rdOf ByteArray.empty ae 0) 120 aa _ co.out).mono ?_);rintro e fw ⟨bO,rfl,ax,hb⟩;refine ⟨_,rfl,?_⟩;have a6:=amk (Kd.R_lower (Kd.R_new' ax (Kd.R_lt (oX HO_4))) (below_size bB));replace HO_4:=amk (Kd.R_elder' (oX HO_4) (Kd.R_base ax) hb);replace a1:=kb2 a1 hb;replace HB:=hB2 HB hb;(try clear hb);(try clear ax);obtain ⟨gx,bz,e9⟩:=Kd.R_slice a6.out;subst e9)));replace HO_4:=amk (Kd.R_drew HO_4.out);replace a6:=amk (Kd.R_drew a6.out);replace a1:=amk (blk_drew a1.out);replace HB:=amk (bd_ HB.out);have aJ:0≤(0:Int):=(by omega);have aK:0 < (aa.length:Int):=dA_;obtain ⟨ah,be,aj⟩:=Kd.at_string (Kd.R_reads' a6.out).2.2 0 aJ aK;cases be;have bQ:(0 < aa.length)=True:=eq_true (by omega);(try rw [show ((0:Int)).toNat=0 from rfl] at aj);(try rw [Addr.add_zero'] at aj);replace aJ:=eq_true aJ;replace aK:=eq_true aK;have aM:0≤(1:Int):=(by omega);have aN:1 < (aa.length:Int):=dA_;obtain ⟨b7,bf,ak⟩:=Kd.at_string (Kd.R_reads' a6.out).2.2 1 aM aN;obtain rfl:ah=b7:=(by injection bf);(try simp only [show (1:Int).toNat=1 from rfl,Nat.reduceMul,Nat.reduceEqDiff,Go.Addr.add,↓reduceIte] at ak);have bR:(1 < aa.length)=True:=eq_true (by omega);(try rw [show ((1:Int)).toNat=1 from rfl] at ak);replace aM:=eq_true aM;replace aN:=eq_true aN;refine start_ (n:=12) (S:=fun w'=>w'.cell? ah=some (.string (rdOf ByteArray.empty aa 0))∧w'.cell? ⟨ah.block,ah.off + 1,none⟩=some (.string (rdOf ByteArray.empty aa 1))) (ds:=[]) (bA 12 0) (by kernel_rfl) rfl rfl ⟨aj,ak⟩ (fun hHeld=>?_);refine with_tabW spec_pzParse.tab7 spec_pzParse.bits7 (fun HT_ HW_=>?_);generalize fw.drew=gT at HO_4 a6 a1 HB aj ak hHeld ⊢;refine pU_ HT_ 0 (some 29) (bA 12 1) ?_;refine pU_ HT_ 1 (some 30) (bA 12 3) ?_;refine pU_ HT_ 4 (some 33) (bA 12 19) ?_;refine pU_ HT_ 5 (some 34) (bA 12 51) ?_;refine tK_ HT_ HW_ hHeld 2 (some 31) (bA 12 55) ?_;refine tK_ HT_ HW_ hHeld 6 (some 35) (bA 12 119) ?_;refine join_ (σ:=Nat) 1 (bA 12 2047) (fun s_=> [(32, .int .i64 ac),(36, .int .i64 ab),(6, .pointer (some ⟨s_,0,none⟩)),(37, .agg #[.int .i64 ac, .int .i64 ab]),(38, .agg #[.int .i64 ac, .int .i64 ab, .slice none 0 0])]) (fun s_ w'=>(w'.cell? ah=some (.string (rdOf ByteArray.empty aa 0))∧w'.cell? ⟨ah.block,ah.off + 1,none⟩=some (.string (rdOf ByteArray.empty aa 1)))∧(Kd.R Kd.string 9 w' w.heap.size (fun k_=>some k_≠(.slice (some ai) ae.length bw:Value).ownBlock) (.slice (some ah) aa.length bz) aa)∧(Kd.R Kd.string 9 w' w.heap.size (fun k_=>some k_≠(.slice (some ah) aa.length bz:Value).ownBlock) (.slice (some ai) ae.length bw) ae)∧(w'.heap[a8]?=some (.cells #[.int .i64 0, .int .i64 0, .slice none 0 0] 28 (0,0)))∧(w'.heap[s_]?=some (.cells #[.int .i64 0, .int .i64 0, .slice none 0 0] 28 (0,0)))∧(w.heap.size≤s_)∧(w.heap.size≤s_)∧(a8≠s_)∧(s_≠a8)∧(Below w.heap.size w w')) ?_ ?_;rotate_left
                      · intro hCont;refine two_ (i:=3) (j:=10) (Ni:=some 32) (Nj:=some 6) (bA 12 127) (bA 12 1143) rfl rfl rfl rfl (two_of HT_.out (by kernel_rfl)) (by decide) (by decide) (fun K hK=>?_) (fun K hK=>?_)
                        · skip
                          refine goes_ Tryz.func89 (by kernel_rfl) rfl #[.string (rdOf ByteArray.empty aa 0)] (by rfl) rfl rfl gL_ ?_;(with_reducible refine (spec_l1Read.calls aA (rdOf ByteArray.empty aa 0) ac _ bF.out).mono ?_);rintro e w' ⟨rfl,⟨nd,rfl⟩⟩;refine ⟨_,rfl,?_⟩;refine hK.out _ _ ⟨hHeld.1,hHeld.2⟩ (fun hHeld=>?_);clear hK K;refine nN_ (some 32) ?_;refine two_ (i:=7) (j:=10) (Ni:=some 36) (Nj:=some 6) (bA 12 255) (bA 12 1151) rfl rfl rfl rfl (two_of HT_.out (by kernel_rfl)) (by decide) (by decide) (fun K hK=>?_) (fun K hK=>?_)
                          · skip
                            refine goes_ Tryz.func89 (by kernel_rfl) rfl #[.string (rdOf ByteArray.empty aa 1)] (by rfl) rfl rfl gL_ ?_;(with_reducible refine (spec_l1Read.calls aA (rdOf ByteArray.empty aa 1) ab _ bb.out).mono ?_);rintro e w' ⟨rfl,⟨nd,rfl⟩⟩;refine ⟨_,rfl,?_⟩;refine hK.out _ _ ⟨hHeld.1,hHeld.2⟩ (fun hHeld=>?_);clear hK K;refine nN_ (some 36) ?_;refine pU_ HT_ 8 (some 37) (bA 12 511) ?_;refine pU_ HT_ 9 (some 38) (bA 12 1023) ?_;refine oN_ HT_ 10 (some 6) (bA 12 2047) (fun K hK=>?_);refine box_step ?hg (N:=6) ?hd (cs:= #[.int .i64 0, .int .i64 0, .slice none 0 0]) (t:=28) ?hr ?_;(case hd=>rfl);(case hg=>rfl);(case hr=>first | (go_simp;done) | (go_simp;rfl));intro Z hg ea hbox hb;have HS0_:=(hb.cell (World.block_lt_of_cell? _ _ (hHeld.1))).trans (hHeld.1);have HS1_:=(hb.cell (World.block_lt_of_cell? _ _ (hHeld.2))).trans (hHeld.2);replace HO_4:=amk (Kd.R_below (oX HO_4) hb);replace a6:=amk (Kd.R_below (oX a6) hb);have J:=amk (hbox);have ar:=sZ HB hg;have au:=sZ HB hg;replace HB:=hB2 HB hb;have a7:=neL a1 hg;have Y:=neR a1 hg;replace a1:=kb2 a1 hb;clear hb hbox hg;refine hK.out _ _ ⟨HS0_,HS1_⟩ (fun hHeld=>?_);clear hK K;refine nN_ (some 6) ?_;exact norm_ (by simp only [putAll,Act.put,List.setIfInBounds_toArray,List.set_cons_zero,List.set_cons_succ]) (hCont (Z) _ ⟨hHeld,(by (with_reducible repeat (first | apply Kd.R_alloc | apply Kd.R_drewN | apply Kd.R_drew));exact Kd.R_mono a6.out (fun _ hk=>hk.2)),(by (with_reducible repeat (first | apply Kd.R_alloc | apply Kd.R_drewN | apply Kd.R_drew));exact Kd.R_mono HO_4.out (fun _ hk=>hk.2)),(kB a1),(kB J),ar.out,au.out,a7.out,Y.out,bB⟩)
                          · skip
                            refine box_step ?hg (N:=6) ?hd (cs:= #[.int .i64 0, .int .i64 0, .slice none 0 0]) (t:=28) ?hr ?_;(case hd=>rfl);(case hg=>rfl);(case hr=>first | (go_simp;done) | (go_simp;rfl));intro Z hg ea hbox hb;have HS0_:=(hb.cell (World.block_lt_of_cell? _ _ (hHeld.1))).trans (hHeld.1);have HS1_:=(hb.cell (World.block_lt_of_cell? _ _ (hHeld.2))).trans (hHeld.2);replace HO_4:=amk (Kd.R_below (oX HO_4) hb);replace a6:=amk (Kd.R_below (oX a6) hb);have J:=amk (hbox);have ar:=sZ HB hg;have au:=sZ HB hg;replace HB:=hB2 HB hb;have a7:=neL a1 hg;have Y:=neR a1 hg;replace a1:=kb2 a1 hb;clear hb hbox hg;refine hK.out _ _ ⟨HS0_,HS1_⟩ (fun hHeld=>?_);clear hK K;refine nN_ (some 6) ?_;refine oN_ HT_ 7 (some 36) (bA 12 1279) (fun K hK=>?_);refine goes_ Tryz.func89 (by kernel_rfl) rfl #[.string (rdOf ByteArray.empty aa 1)] (by rfl) rfl rfl gL_ ?_;(with_reducible refine (spec_l1Read.calls aA (rdOf ByteArray.empty aa 1) ab _ bb.out).mono ?_);rintro e w' ⟨rfl,⟨nd,rfl⟩⟩;refine ⟨_,rfl,?_⟩;refine hK.out _ _ ⟨hHeld.1,hHeld.2⟩ (fun hHeld=>?_);clear hK K;refine nN_ (some 36) ?_;refine pU_ HT_ 8 (some 37) (bA 12 1535) ?_;refine pU_ HT_ 9 (some 38) (bA 12 2047) ?_;exact norm_ (by simp only [putAll,Act.put,List.setIfInBounds_toArray,List.set_cons_zero,List.set_cons_succ]) (hCont (Z) _ ⟨hHeld,(by (with_reducible repeat (first | apply Kd.R_alloc | apply Kd.R_drewN | apply Kd.R_drew));exact Kd.R_mono a6.out (fun _ hk=>hk.2)),(by (with_reducible repeat (first | apply Kd.R_alloc | apply Kd.R_drewN | apply Kd.R_drew));exact Kd.R_mono HO_4.out (fun _ hk=>hk.2)),(kB a1),(kB J),ar.out,au.out,a7.out,Y.out,bB⟩)
                        · skip
                          refine box_step ?hg (N:=6) ?hd (cs:= #[.int .i64 0, .int .i64 0, .slice none 0 0]) (t:=28) ?hr ?_;(case hd=>rfl);(case hg=>rfl);(case hr=>first | (go_simp;done) | (go_simp;rfl));intro Z hg ea hbox hb;have HS0_:=(hb.cell (World.block_lt_of_cell? _ _ (hHeld.1))).trans (hHeld.1);have HS1_:=(hb.cell (World.block_lt_of_cell? _ _ (hHeld.2))).trans (hHeld.2);replace HO_4:=amk (Kd.R_below (oX HO_4) hb);replace a6:=amk (Kd.R_below (oX a6) hb);have J:=amk (hbox);have ar:=sZ HB hg;have au:=sZ HB hg;replace HB:=hB2 HB hb;have a7:=neL a1 hg;have Y:=neR a1 hg;replace a1:=kb2 a1 hb;clear hb hbox hg;refine hK.out _ _ ⟨HS0_,HS1_⟩ (fun hHeld=>?_);clear hK K;refine nN_ (some 6) ?_;refine oN_ HT_ 3 (some 32) (bA 12 1151) (fun K hK=>?_);refine goes_ Tryz.func89 (by kernel_rfl) rfl #[.string (rdOf ByteArray.empty aa 0)] (by rfl) rfl rfl gL_ ?_;(with_reducible refine (spec_l1Read.calls aA (rdOf ByteArray.empty aa 0) ac _ bF.out).mono ?_);rintro e w' ⟨rfl,⟨nd,rfl⟩⟩;refine ⟨_,rfl,?_⟩;refine hK.out _ _ ⟨hHeld.1,hHeld.2⟩ (fun hHeld=>?_);clear hK K;refine nN_ (some 32) ?_;refine oN_ HT_ 7 (some 36) (bA 12 1279) (fun K hK=>?_);refine goes_ Tryz.func89 (by kernel_rfl) rfl #[.string (rdOf ByteArray.empty aa 1)] (by rfl) rfl rfl gL_ ?_;(with_reducible refine (spec_l1Read.calls aA (rdOf ByteArray.empty aa 1) ab _ bb.out).mono ?_);rintro e w' ⟨rfl,⟨nd,rfl⟩⟩;refine ⟨_,rfl,?_⟩;refine hK.out _ _ ⟨hHeld.1,hHeld.2⟩ (fun hHeld=>?_);clear hK K;refine nN_ (some 36) ?_;refine pU_ HT_ 8 (some 37) (bA 12 1535) ?_;refine pU_ HT_ 9 (some 38) (bA 12 2047) ?_;exact norm_ (by simp only [putAll,Act.put,List.setIfInBounds_toArray,List.set_cons_zero,List.set_cons_succ]) (hCont (Z) _ ⟨hHeld,(by (with_reducible repeat (first | apply Kd.R_alloc | apply Kd.R_drewN | apply Kd.R_drew));exact Kd.R_mono a6.out (fun _ hk=>hk.2)),(by (with_reducible repeat (first | apply Kd.R_alloc | apply Kd.R_drewN | apply Kd.R_drew));exact Kd.R_mono HO_4.out (fun _ hk=>hk.2)),(kB a1),(kB J),ar.out,au.out,a7.out,Y.out,bB⟩)
                      rintro Z bc ⟨hS_,h0_,h1_,h2_,h3_,h4_,h5_,h6_,h7_,h8_⟩;replace a6:=amk h0_;replace HO_4:=amk h1_;replace a1:=amk h2_;have J:=amk h3_;have ar:=amk h4_;have au:=amk h5_;have a7:=amk h6_;have Y:=amk h7_;replace HB:=amk h8_;clear h0_ h1_ h2_ h3_ h4_ h5_ h6_ h7_ h8_;have hHeld:=hS_;refine norm_ (a':=?_) ?_ ?_;rotate_left
                      · simp only [putAll,Act.put,List.setIfInBounds_toArray,List.set_cons_zero,List.set_cons_succ]
                        rfl
                      refine oN_ HT_ 11 none (bA 12 4095) (fun K hK=>?_);have gy:bc.cell? ⟨Z,0,none⟩=some (.int .i64 0):=(blk_cell J.out 0).trans rfl;have fx:=blk_frozen J.out 0;have eb:=a7.out;have ec:=Y.out;have gz:bc.cell? ⟨Z,1,none⟩=some (.int .i64 0):=(blk_cell J.out 1).trans rfl;have fy:=blk_frozen J.out 1;have ed:=a7.out;have ee:=Y.out;have gA:bc.cell? ⟨Z,2,none⟩=some (.slice none 0 0):=(blk_cell J.out 2).trans rfl;have fz:=blk_frozen J.out 2;have ef:=a7.out;have eg:=Y.out;refine skip_ (w1:=?_) (by rfl) rfl ?_ ?_;rotate_left
                      · go_simp
                        rfl
                      refine hK.out _ _ ⟨((cell_far (p:=⟨Z,_,none⟩) (by first | exact Kd.own_blk (Kd.R_ne a6.out J.out (by decide)) | (rw [add_block];exact Kd.own_blk (Kd.R_ne a6.out J.out (by decide))) | (show (Addr.add _ _).block≠_;rw [add_block];exact Kd.own_blk (Kd.R_ne a6.out J.out (by decide))) | (dsimp only;exact Kd.own_blk (Kd.R_ne a6.out J.out (by decide)))) _).trans (((cell_far (p:=⟨Z,_,none⟩) (by first | exact Kd.own_blk (Kd.R_ne a6.out J.out (by decide)) | (rw [add_block];exact Kd.own_blk (Kd.R_ne a6.out J.out (by decide))) | (show (Addr.add _ _).block≠_;rw [add_block];exact Kd.own_blk (Kd.R_ne a6.out J.out (by decide))) | (dsimp only;exact Kd.own_blk (Kd.R_ne a6.out J.out (by decide)))) _).trans (((cell_far (p:=⟨Z,_,none⟩) (by first | exact Kd.own_blk (Kd.R_ne a6.out J.out (by decide)) | (rw [add_block];exact Kd.own_blk (Kd.R_ne a6.out J.out (by decide))) | (show (Addr.add _ _).block≠_;rw [add_block];exact Kd.own_blk (Kd.R_ne a6.out J.out (by decide))) | (dsimp only;exact Kd.own_blk (Kd.R_ne a6.out J.out (by decide)))) _).trans (hHeld.1)))))),((cell_far (p:=⟨Z,_,none⟩) (by first | exact Kd.own_blk (Kd.R_ne a6.out J.out (by decide)) | (rw [add_block];exact Kd.own_blk (Kd.R_ne a6.out J.out (by decide))) | (show (Addr.add _ _).block≠_;rw [add_block];exact Kd.own_blk (Kd.R_ne a6.out J.out (by decide))) | (dsimp only;exact Kd.own_blk (Kd.R_ne a6.out J.out (by decide)))) _).trans (((cell_far (p:=⟨Z,_,none⟩) (by first | exact Kd.own_blk (Kd.R_ne a6.out J.out (by decide)) | (rw [add_block];exact Kd.own_blk (Kd.R_ne a6.out J.out (by decide))) | (show (Addr.add _ _).block≠_;rw [add_block];exact Kd.own_blk (Kd.R_ne a6.out J.out (by decide))) | (dsimp only;exact Kd.own_blk (Kd.R_ne a6.out J.out (by decide)))) _).trans (((cell_far (p:=⟨Z,_,none⟩) (by first | exact Kd.own_blk (Kd.R_ne a6.out J.out (by decide)) | (rw [add_block];exact Kd.own_blk (Kd.R_ne a6.out J.out (by decide))) | (show (Addr.add _ _).block≠_;rw [add_block];exact Kd.own_blk (Kd.R_ne a6.out J.out (by decide))) | (dsimp only;exact Kd.own_blk (Kd.R_ne a6.out J.out (by decide)))) _).trans (hHeld.2))))))⟩ (fun hHeld=>?_);clear hK K;refine done_ (done_of HT_.out (by kernel_rfl)) ?_;have aQ:0≤(1:Int):=(by omega);have aT:1 < (ae.length:Int):=dA_;obtain ⟨b8,bg,af⟩:=Kd.at_string (Kd.R_reads' HO_4.out).2.2 1 aQ aT;obtain rfl:ai=b8:=(by injection bg);(try simp only [show (1:Int).toNat=1 from rfl,Nat.reduceMul,Nat.reduceEqDiff,Go.Addr.add,↓reduceIte] at af);have bS:(1 < ae.length)=True:=eq_true (by omega);(try rw [show ((1:Int)).toNat=1 from rfl] at af);have am:ai.block≠Z:=Kd.own_blk (Kd.R_ne HO_4.out J.out (by decide));have an:ai.block≠Z:=Kd.own_blk (Kd.R_ne HO_4.out J.out (by decide));have ap:ai.block≠Z:=Kd.own_blk (Kd.R_ne HO_4.out J.out (by decide));replace af:=(cell_far (p:=⟨Z,0,none⟩) (by first | (rw [add_block];exact am) | (show (Addr.add _ _).block≠_;rw [add_block];exact am) | exact am) (.int .i64 ac)).trans af;replace af:=(cell_far (p:=⟨Z,1,none⟩) (by first | (rw [add_block];exact an) | (show (Addr.add _ _).block≠_;rw [add_block];exact an) | exact an) (.int .i64 ab)).trans af;replace af:=(cell_far (p:=⟨Z,2,none⟩) (by first | (rw [add_block];exact ap) | (show (Addr.add _ _).block≠_;rw [add_block];exact ap) | exact ap) (.slice none 0 0)).trans af;clear am;clear an;clear ap;replace aQ:=eq_true aQ;replace aT:=eq_true aT;(try go_wp2);have n0_:Aside0 (Kd.R Kd.string 9 (((bc.setCell ⟨Z,0,none⟩ (.int .i64 ac)).setCell ⟨Z,1,none⟩ (.int .i64 ab)).setCell ⟨Z,2,none⟩ (.slice none 0 0)) w.heap.size (fun k_=>some k_≠(.slice (some ah) aa.length bz:Value).ownBlock) (.slice (some ai) ae.length bw) ae):=⟨by (with_reducible repeat (first | apply Kd.R_alloc | apply Kd.R_drewN | apply Kd.R_drew));exact Kd.R_mono (Kd.R_far (p:=⟨Z,2,none⟩) (Kd.R_far (p:=⟨Z,1,none⟩) (Kd.R_far (p:=⟨Z,0,none⟩) (Kd.R_types HO_4.out J.out (by decide)) (fun _ hk=>hk.2) (.int .i64 ac)) (fun _ hk=>hk.2) (.int .i64 ab)) (fun _ hk=>hk.2) (.slice none 0 0)) (fun _ hk=>hk.1)⟩;have n1_:Aside0 (Kd.R Kd.string 9 (((bc.setCell ⟨Z,0,none⟩ (.int .i64 ac)).setCell ⟨Z,1,none⟩ (.int .i64 ab)).setCell ⟨Z,2,none⟩ (.slice none 0 0)) w.heap.size (fun k_=>some k_≠(.slice (some ai) ae.length bw:Value).ownBlock) (.slice (some ah) aa.length bz) aa):=⟨by (with_reducible repeat (first | apply Kd.R_alloc | apply Kd.R_drewN | apply Kd.R_drew));exact Kd.R_mono (Kd.R_far (p:=⟨Z,2,none⟩) (Kd.R_far (p:=⟨Z,1,none⟩) (Kd.R_far (p:=⟨Z,0,none⟩) (Kd.R_types a6.out J.out (by decide)) (fun _ hk=>hk.2) (.int .i64 ac)) (fun _ hk=>hk.2) (.int .i64 ab)) (fun _ hk=>hk.2) (.slice none 0 0)) (fun _ hk=>hk.1)⟩;have n2_:Aside0 ((((bc.setCell ⟨Z,0,none⟩ (.int .i64 ac)).setCell ⟨Z,1,none⟩ (.int .i64 ab)).setCell ⟨Z,2,none⟩ (.slice none 0 0)).heap[a8]?=some (.cells #[.int .i64 0, .int .i64 0, .slice none 0 0] 28 (0,0))):=⟨kB a1⟩;have n3_:Aside0 ((((bc.setCell ⟨Z,0,none⟩ (.int .i64 ac)).setCell ⟨Z,1,none⟩ (.int .i64 ab)).setCell ⟨Z,2,none⟩ (.slice none 0 0)).heap[Z]?=some (.cells #[.int .i64 ac, .int .i64 ab, .slice none 0 0] 28 (0,0))):=⟨kP J⟩;have n4_:Aside0 (Below w.heap.size w (((bc.setCell ⟨Z,0,none⟩ (.int .i64 ac)).setCell ⟨Z,1,none⟩ (.int .i64 ab)).setCell ⟨Z,2,none⟩ (.slice none 0 0))):=⟨bB⟩;generalize (((bc.setCell ⟨Z,0,none⟩ (.int .i64 ac)).setCell ⟨Z,1,none⟩ (.int .i64 ab)).setCell ⟨Z,2,none⟩ (.slice none 0 0))=fA at n0_ n1_ n2_ n3_ n4_ ⊢;have HO_4:=n0_;have a6:=n1_;have a1:=n2_;have J:=n3_;have HB:=n4_;clear n0_ n1_ n2_ n3_ n4_;replace HO_4:=amk (Kd.R_drew HO_4.out);replace a6:=amk (Kd.R_drew a6.out);replace a1:=amk (blk_drew a1.out);replace J:=amk (blk_drew J.out);replace HB:=amk (bd_ HB.out);refine start_ (n:=11) (S:=fun w'=>w'.cell? ⟨Z,0,none⟩=some (.int .i64 ac)∧w'.cell? ⟨Z,1,none⟩=some (.int .i64 ab)∧w'.cell? ⟨Z,2,none⟩=some (.slice none 0 0)) (ds:=[]) (bA 11 0) (by kernel_rfl) rfl rfl ⟨(blk_cell J.out 0).trans rfl,(blk_cell J.out 1).trans rfl,(blk_cell J.out 2).trans rfl⟩ (fun hHeld=>?_);refine with_tabW spec_pzParse.tab17 spec_pzParse.bits17 (fun HT_ HW_=>?_);generalize fA.drew=gU at HO_4 a6 a1 J HB hHeld ⊢;refine tK_ HT_ HW_ hHeld 0 (some 78) (bA 11 1) ?_;refine tK_ HT_ HW_ hHeld 1 (some 79) (bA 11 3) ?_;refine oN_ HT_ 2 (some 80) (bA 11 7) (fun K hK=>?_);refine goes_ Tryz.func39 (by kernel_rfl) rfl #[.agg #[.int .i64 ac, .int .i64 ab, .slice none 0 0]] (by rfl) rfl rfl gL_ ?_;refine (spec_pzGood.calls aA ac ab _ _ ([]:List (S48)) true _ ?side1 ?side2 e6.out).mono ?_;(case side1=>exact Kd.C_nil _ _);(case side2=>exact Nat.le_refl _);rintro e gV ⟨rfl,hb⟩;refine ⟨_,rfl,?_⟩;replace HO_4:=amk (Kd.R_below (oX HO_4) hb);replace a6:=amk (Kd.R_below (oX a6) hb);replace a1:=kb2 a1 hb;replace J:=kb2 J hb;replace HB:=hB2 HB hb;(try clear hb);refine hK.out _ _ hC_ (fun hHeld=>?_);clear hK K;refine nN_ (some 80) ?_;refine pU_ HT_ 3 (some 81) (bA 11 15) ?_;refine pU_ HT_ 6 (some 84) (bA 11 79) ?_;refine tK_ HT_ HW_ hHeld 4 (some 82) (bA 11 95) ?_;refine oN_ HT_ 5 (some 83) (bA 11 127) (fun K hK=>?_);refine goes_ Tryz.func46 (by kernel_rfl) rfl #[.agg #[.int .i64 ac, .int .i64 ab, .slice none 0 0]] (by rfl) rfl rfl gL_ ?_;refine (spec_pzText.calls aA ac ab _ _ ([]:List (S48)) e7 _ ?side1 ?side2 fv.out).mono ?_;(case side1=>exact Kd.C_nil _ _);(case side2=>exact Nat.le_refl _);rintro e cW ⟨rfl,hb⟩;refine ⟨_,rfl,?_⟩;replace HO_4:=amk (Kd.R_below (oX HO_4) hb);replace a6:=amk (Kd.R_below (oX a6) hb);replace a1:=kb2 a1 hb;replace J:=kb2 J hb;replace HB:=hB2 HB hb;(try clear hb);refine hK.out _ _ hC_ (fun hHeld=>?_);clear hK K;refine nN_ (some 83) ?_;refine pU_ HT_ 7 (some 85) (bA 11 255) ?_;refine pU_ HT_ 8 (some 86) (bA 11 511) ?_;refine oN_ HT_ 9 none (bA 11 1023) (fun K hK=>?_);have gB:cW.cell? ⟨a8,0,none⟩=some (.int .i64 0):=(blk_cell a1.out 0).trans rfl;have fB:=blk_frozen a1.out 0;have eh:=Y.out;have ei:=a7.out;have gC:cW.cell? ⟨a8,1,none⟩=some (.int .i64 0):=(blk_cell a1.out 1).trans rfl;have fC:=blk_frozen a1.out 1;have ej:=Y.out;have ek:=a7.out;have gD:cW.cell? ⟨a8,2,none⟩=some (.slice none 0 0):=(blk_cell a1.out 2).trans rfl;have fD:=blk_frozen a1.out 2;have em:=Y.out;have en:=a7.out;refine skip_ (w1:=?_) (by rfl) rfl ?_ ?_;rotate_left
                      · go_simp
                        rfl
                      refine hK.out _ _ ⟨((cell_far (p:=⟨a8,_,none⟩) Y.out _).trans (((cell_far (p:=⟨a8,_,none⟩) Y.out _).trans (((cell_far (p:=⟨a8,_,none⟩) Y.out _).trans (hHeld.1)))))),((cell_far (p:=⟨a8,_,none⟩) Y.out _).trans (((cell_far (p:=⟨a8,_,none⟩) Y.out _).trans (((cell_far (p:=⟨a8,_,none⟩) Y.out _).trans (hHeld.2.1)))))),((cell_far (p:=⟨a8,_,none⟩) Y.out _).trans (((cell_far (p:=⟨a8,_,none⟩) Y.out _).trans (((cell_far (p:=⟨a8,_,none⟩) Y.out _).trans (hHeld.2.2))))))⟩ (fun hHeld=>?_);clear hK K;refine pU_ HT_ 10 (some 3) (bA 11 2047) ?_;refine done_ (done_of HT_.out (by kernel_rfl)) ?_;(try go_wp2);refine bodyPost_ret (results_ct rfl _ _ a8 28 #[.int .i64 ac, .int .i64 ab, .slice none 0 0] (0,0) _ rfl (kP a1) Tryz.underlying28 rfl (by kernel_rfl)) rfl ?_;exact ⟨_,rF_,xN_,bB⟩
                    · simp only [Option.some.injEq,Prod.mk.injEq] at H;obtain ⟨rfl,rfl,rfl,rfl⟩:=H;obtain ⟨gE,bC,eo⟩:=Kd.R_slice HO_4.out;subst eo;have aC:0≤(0:Int):=(by omega);have aD:0 < (ae.length:Int):=dA_;obtain ⟨ai,b6,av⟩:=Kd.at_string (Kd.R_reads' HO_4.out).2.2 0 aC aD;cases b6;have bo:(0 < ae.length)=True:=eq_true (by omega);(try rw [show ((0:Int)).toNat=0 from rfl] at av);(try rw [Addr.add_zero'] at av);replace aC:=eq_true aC;replace aD:=eq_true aD;(try go_wp2_with (first | ((with_reducible refine gate_callee (f:=88) rfl ?_);refine goesL_ (some 24) rfl rfl Tryz.func88 (by kernel_rfl) rfl #[.string (rdOf ByteArray.empty ae 0), .int .u8 120] rfl gL_ ?_;(with_reducible refine (spec_l1Split.calls aA (rdOf ByteArray.empty ae 0) 120 aa _ co.out).mono ?_);rintro e fE ⟨bO,rfl,ax,hb⟩;refine ⟨_,rfl,?_⟩;have a6:=amk (Kd.R_lower (Kd.R_new' ax (Kd.R_lt (oX HO_4))) (below_size bB));replace HO_4:=amk (Kd.R_elder' (oX HO_4) (Kd.R_base ax) hb);replace a1:=kb2 a1 hb;replace HB:=hB2 HB hb;(try clear hb);(try clear ax);obtain ⟨gF,bD,ep⟩:=Kd.R_slice a6.out;subst ep)));replace HO_4:=amk (Kd.R_drew HO_4.out);replace a6:=amk (Kd.R_drew a6.out);replace a1:=amk (blk_drew a1.out);replace HB:=amk (bd_ HB.out);have aJ:0≤(0:Int):=(by omega);have aK:0 < (aa.length:Int):=dA_;obtain ⟨ah,be,aj⟩:=Kd.at_string (Kd.R_reads' a6.out).2.2 0 aJ aK;cases be;have bQ:(0 < aa.length)=True:=eq_true (by omega);(try rw [show ((0:Int)).toNat=0 from rfl] at aj);(try rw [Addr.add_zero'] at aj);replace aJ:=eq_true aJ;replace aK:=eq_true aK;have aM:0≤(1:Int):=(by omega);have aN:1 < (aa.length:Int):=dA_;obtain ⟨b7,bf,ak⟩:=Kd.at_string (Kd.R_reads' a6.out).2.2 1 aM aN;obtain rfl:ah=b7:=(by injection bf);(try simp only [show (1:Int).toNat=1 from rfl,Nat.reduceMul,Nat.reduceEqDiff,Go.Addr.add,↓reduceIte] at ak);have bR:(1 < aa.length)=True:=eq_true (by omega);(try rw [show ((1:Int)).toNat=1 from rfl] at ak);replace aM:=eq_true aM;replace aN:=eq_true aN;refine start_ (n:=12) (S:=fun w'=>w'.cell? ah=some (.string (rdOf ByteArray.empty aa 0))∧w'.cell? ⟨ah.block,ah.off + 1,none⟩=some (.string (rdOf ByteArray.empty aa 1))) (ds:=[]) (bA 12 0) (by kernel_rfl) rfl rfl ⟨aj,ak⟩ (fun hHeld=>?_);refine with_tabW spec_pzParse.tab7 spec_pzParse.bits7 (fun HT_ HW_=>?_);generalize fE.drew=gW at HO_4 a6 a1 HB aj ak hHeld ⊢;refine pU_ HT_ 0 (some 29) (bA 12 1) ?_;refine pU_ HT_ 1 (some 30) (bA 12 3) ?_;refine pU_ HT_ 4 (some 33) (bA 12 19) ?_;refine pU_ HT_ 5 (some 34) (bA 12 51) ?_;refine tK_ HT_ HW_ hHeld 2 (some 31) (bA 12 55) ?_;refine tK_ HT_ HW_ hHeld 6 (some 35) (bA 12 119) ?_;refine join_ (σ:=Nat) 1 (bA 12 2047) (fun s_=> [(32, .int .i64 ac),(36, .int .i64 ab),(6, .pointer (some ⟨s_,0,none⟩)),(37, .agg #[.int .i64 ac, .int .i64 ab]),(38, .agg #[.int .i64 ac, .int .i64 ab, .slice none 0 0])]) (fun s_ w'=>(w'.cell? ah=some (.string (rdOf ByteArray.empty aa 0))∧w'.cell? ⟨ah.block,ah.off + 1,none⟩=some (.string (rdOf ByteArray.empty aa 1)))∧(Kd.R Kd.string 9 w' w.heap.size (fun k_=>some k_≠(.slice (some ai) ae.length bC:Value).ownBlock) (.slice (some ah) aa.length bD) aa)∧(Kd.R Kd.string 9 w' w.heap.size (fun k_=>some k_≠(.slice (some ah) aa.length bD:Value).ownBlock) (.slice (some ai) ae.length bC) ae)∧(w'.heap[a8]?=some (.cells #[.int .i64 0, .int .i64 0, .slice none 0 0] 28 (0,0)))∧(w'.heap[s_]?=some (.cells #[.int .i64 0, .int .i64 0, .slice none 0 0] 28 (0,0)))∧(w.heap.size≤s_)∧(w.heap.size≤s_)∧(a8≠s_)∧(s_≠a8)∧(Below w.heap.size w w')) ?_ ?_;rotate_left
                      · intro hCont;refine two_ (i:=3) (j:=10) (Ni:=some 32) (Nj:=some 6) (bA 12 127) (bA 12 1143) rfl rfl rfl rfl (two_of HT_.out (by kernel_rfl)) (by decide) (by decide) (fun K hK=>?_) (fun K hK=>?_)
                        · skip
                          refine goes_ Tryz.func89 (by kernel_rfl) rfl #[.string (rdOf ByteArray.empty aa 0)] (by rfl) rfl rfl gL_ ?_;(with_reducible refine (spec_l1Read.calls aA (rdOf ByteArray.empty aa 0) ac _ bF.out).mono ?_);rintro e w' ⟨rfl,⟨nd,rfl⟩⟩;refine ⟨_,rfl,?_⟩;refine hK.out _ _ ⟨hHeld.1,hHeld.2⟩ (fun hHeld=>?_);clear hK K;refine nN_ (some 32) ?_;refine two_ (i:=7) (j:=10) (Ni:=some 36) (Nj:=some 6) (bA 12 255) (bA 12 1151) rfl rfl rfl rfl (two_of HT_.out (by kernel_rfl)) (by decide) (by decide) (fun K hK=>?_) (fun K hK=>?_)
                          · skip
                            refine goes_ Tryz.func89 (by kernel_rfl) rfl #[.string (rdOf ByteArray.empty aa 1)] (by rfl) rfl rfl gL_ ?_;(with_reducible refine (spec_l1Read.calls aA (rdOf ByteArray.empty aa 1) ab _ bb.out).mono ?_);rintro e w' ⟨rfl,⟨nd,rfl⟩⟩;refine ⟨_,rfl,?_⟩;refine hK.out _ _ ⟨hHeld.1,hHeld.2⟩ (fun hHeld=>?_);clear hK K;refine nN_ (some 36) ?_;refine pU_ HT_ 8 (some 37) (bA 12 511) ?_;refine pU_ HT_ 9 (some 38) (bA 12 1023) ?_;refine oN_ HT_ 10 (some 6) (bA 12 2047) (fun K hK=>?_);refine box_step ?hg (N:=6) ?hd (cs:= #[.int .i64 0, .int .i64 0, .slice none 0 0]) (t:=28) ?hr ?_;(case hd=>rfl);(case hg=>rfl);(case hr=>first | (go_simp;done) | (go_simp;rfl));intro Z hg er hbox hb;have HS0_:=(hb.cell (World.block_lt_of_cell? _ _ (hHeld.1))).trans (hHeld.1);have HS1_:=(hb.cell (World.block_lt_of_cell? _ _ (hHeld.2))).trans (hHeld.2);replace HO_4:=amk (Kd.R_below (oX HO_4) hb);replace a6:=amk (Kd.R_below (oX a6) hb);have J:=amk (hbox);have ar:=sZ HB hg;have au:=sZ HB hg;replace HB:=hB2 HB hb;have a7:=neL a1 hg;have Y:=neR a1 hg;replace a1:=kb2 a1 hb;clear hb hbox hg;refine hK.out _ _ ⟨HS0_,HS1_⟩ (fun hHeld=>?_);clear hK K;refine nN_ (some 6) ?_;exact norm_ (by simp only [putAll,Act.put,List.setIfInBounds_toArray,List.set_cons_zero,List.set_cons_succ]) (hCont (Z) _ ⟨hHeld,(by (with_reducible repeat (first | apply Kd.R_alloc | apply Kd.R_drewN | apply Kd.R_drew));exact Kd.R_mono a6.out (fun _ hk=>hk.2)),(by (with_reducible repeat (first | apply Kd.R_alloc | apply Kd.R_drewN | apply Kd.R_drew));exact Kd.R_mono HO_4.out (fun _ hk=>hk.2)),(kB a1),(kB J),ar.out,au.out,a7.out,Y.out,bB⟩)
                          · skip
                            refine box_step ?hg (N:=6) ?hd (cs:= #[.int .i64 0, .int .i64 0, .slice none 0 0]) (t:=28) ?hr ?_;(case hd=>rfl);(case hg=>rfl);(case hr=>first | (go_simp;done) | (go_simp;rfl));intro Z hg er hbox hb;have HS0_:=(hb.cell (World.block_lt_of_cell? _ _ (hHeld.1))).trans (hHeld.1);have HS1_:=(hb.cell (World.block_lt_of_cell? _ _ (hHeld.2))).trans (hHeld.2);replace HO_4:=amk (Kd.R_below (oX HO_4) hb);replace a6:=amk (Kd.R_below (oX a6) hb);have J:=amk (hbox);have ar:=sZ HB hg;have au:=sZ HB hg;replace HB:=hB2 HB hb;have a7:=neL a1 hg;have Y:=neR a1 hg;replace a1:=kb2 a1 hb;clear hb hbox hg;refine hK.out _ _ ⟨HS0_,HS1_⟩ (fun hHeld=>?_);clear hK K;refine nN_ (some 6) ?_;refine oN_ HT_ 7 (some 36) (bA 12 1279) (fun K hK=>?_);refine goes_ Tryz.func89 (by kernel_rfl) rfl #[.string (rdOf ByteArray.empty aa 1)] (by rfl) rfl rfl gL_ ?_;(with_reducible refine (spec_l1Read.calls aA (rdOf ByteArray.empty aa 1) ab _ bb.out).mono ?_);rintro e w' ⟨rfl,⟨nd,rfl⟩⟩;refine ⟨_,rfl,?_⟩;refine hK.out _ _ ⟨hHeld.1,hHeld.2⟩ (fun hHeld=>?_);clear hK K;refine nN_ (some 36) ?_;refine pU_ HT_ 8 (some 37) (bA 12 1535) ?_;refine pU_ HT_ 9 (some 38) (bA 12 2047) ?_;exact norm_ (by simp only [putAll,Act.put,List.setIfInBounds_toArray,List.set_cons_zero,List.set_cons_succ]) (hCont (Z) _ ⟨hHeld,(by (with_reducible repeat (first | apply Kd.R_alloc | apply Kd.R_drewN | apply Kd.R_drew));exact Kd.R_mono a6.out (fun _ hk=>hk.2)),(by (with_reducible repeat (first | apply Kd.R_alloc | apply Kd.R_drewN | apply Kd.R_drew));exact Kd.R_mono HO_4.out (fun _ hk=>hk.2)),(kB a1),(kB J),ar.out,au.out,a7.out,Y.out,bB⟩)
                        · skip
                          refine box_step ?hg (N:=6) ?hd (cs:= #[.int .i64 0, .int .i64 0, .slice none 0 0]) (t:=28) ?hr ?_;(case hd=>rfl);(case hg=>rfl);(case hr=>first | (go_simp;done) | (go_simp;rfl));intro Z hg er hbox hb;have HS0_:=(hb.cell (World.block_lt_of_cell? _ _ (hHeld.1))).trans (hHeld.1);have HS1_:=(hb.cell (World.block_lt_of_cell? _ _ (hHeld.2))).trans (hHeld.2);replace HO_4:=amk (Kd.R_below (oX HO_4) hb);replace a6:=amk (Kd.R_below (oX a6) hb);have J:=amk (hbox);have ar:=sZ HB hg;have au:=sZ HB hg;replace HB:=hB2 HB hb;have a7:=neL a1 hg;have Y:=neR a1 hg;replace a1:=kb2 a1 hb;clear hb hbox hg;refine hK.out _ _ ⟨HS0_,HS1_⟩ (fun hHeld=>?_);clear hK K;refine nN_ (some 6) ?_;refine oN_ HT_ 3 (some 32) (bA 12 1151) (fun K hK=>?_);refine goes_ Tryz.func89 (by kernel_rfl) rfl #[.string (rdOf ByteArray.empty aa 0)] (by rfl) rfl rfl gL_ ?_;(with_reducible refine (spec_l1Read.calls aA (rdOf ByteArray.empty aa 0) ac _ bF.out).mono ?_);rintro e w' ⟨rfl,⟨nd,rfl⟩⟩;refine ⟨_,rfl,?_⟩;refine hK.out _ _ ⟨hHeld.1,hHeld.2⟩ (fun hHeld=>?_);clear hK K;refine nN_ (some 32) ?_;refine oN_ HT_ 7 (some 36) (bA 12 1279) (fun K hK=>?_);refine goes_ Tryz.func89 (by kernel_rfl) rfl #[.string (rdOf ByteArray.empty aa 1)] (by rfl) rfl rfl gL_ ?_;(with_reducible refine (spec_l1Read.calls aA (rdOf ByteArray.empty aa 1) ab _ bb.out).mono ?_);rintro e w' ⟨rfl,⟨nd,rfl⟩⟩;refine ⟨_,rfl,?_⟩;refine hK.out _ _ ⟨hHeld.1,hHeld.2⟩ (fun hHeld=>?_);clear hK K;refine nN_ (some 36) ?_;refine pU_ HT_ 8 (some 37) (bA 12 1535) ?_;refine pU_ HT_ 9 (some 38) (bA 12 2047) ?_;exact norm_ (by simp only [putAll,Act.put,List.setIfInBounds_toArray,List.set_cons_zero,List.set_cons_succ]) (hCont (Z) _ ⟨hHeld,(by (with_reducible repeat (first | apply Kd.R_alloc | apply Kd.R_drewN | apply Kd.R_drew));exact Kd.R_mono a6.out (fun _ hk=>hk.2)),(by (with_reducible repeat (first | apply Kd.R_alloc | apply Kd.R_drewN | apply Kd.R_drew));exact Kd.R_mono HO_4.out (fun _ hk=>hk.2)),(kB a1),(kB J),ar.out,au.out,a7.out,Y.out,bB⟩)
                      rintro Z bd ⟨hS_,h0_,h1_,h2_,h3_,h4_,h5_,h6_,h7_,h8_⟩;replace a6:=amk h0_;replace HO_4:=amk h1_;replace a1:=amk h2_;have J:=amk h3_;have ar:=amk h4_;have au:=amk h5_;have a7:=amk h6_;have Y:=amk h7_;replace HB:=amk h8_;clear h0_ h1_ h2_ h3_ h4_ h5_ h6_ h7_ h8_;have hHeld:=hS_;refine norm_ (a':=?_) ?_ ?_;rotate_left
                      · simp only [putAll,Act.put,List.setIfInBounds_toArray,List.set_cons_zero,List.set_cons_succ]
                        rfl
                      refine oN_ HT_ 11 none (bA 12 4095) (fun K hK=>?_);have gG:bd.cell? ⟨Z,0,none⟩=some (.int .i64 0):=(blk_cell J.out 0).trans rfl;have fF:=blk_frozen J.out 0;have eu:=a7.out;have ew:=Y.out;have gH:bd.cell? ⟨Z,1,none⟩=some (.int .i64 0):=(blk_cell J.out 1).trans rfl;have fG:=blk_frozen J.out 1;have ey:=a7.out;have ez:=Y.out;have gI:bd.cell? ⟨Z,2,none⟩=some (.slice none 0 0):=(blk_cell J.out 2).trans rfl;have fH:=blk_frozen J.out 2;have eA:=a7.out;have eB:=Y.out;refine skip_ (w1:=?_) (by rfl) rfl ?_ ?_;rotate_left
                      · go_simp
                        rfl
                      refine hK.out _ _ ⟨((cell_far (p:=⟨Z,_,none⟩) (by first | exact Kd.own_blk (Kd.R_ne a6.out J.out (by decide)) | (rw [add_block];exact Kd.own_blk (Kd.R_ne a6.out J.out (by decide))) | (show (Addr.add _ _).block≠_;rw [add_block];exact Kd.own_blk (Kd.R_ne a6.out J.out (by decide))) | (dsimp only;exact Kd.own_blk (Kd.R_ne a6.out J.out (by decide)))) _).trans (((cell_far (p:=⟨Z,_,none⟩) (by first | exact Kd.own_blk (Kd.R_ne a6.out J.out (by decide)) | (rw [add_block];exact Kd.own_blk (Kd.R_ne a6.out J.out (by decide))) | (show (Addr.add _ _).block≠_;rw [add_block];exact Kd.own_blk (Kd.R_ne a6.out J.out (by decide))) | (dsimp only;exact Kd.own_blk (Kd.R_ne a6.out J.out (by decide)))) _).trans (((cell_far (p:=⟨Z,_,none⟩) (by first | exact Kd.own_blk (Kd.R_ne a6.out J.out (by decide)) | (rw [add_block];exact Kd.own_blk (Kd.R_ne a6.out J.out (by decide))) | (show (Addr.add _ _).block≠_;rw [add_block];exact Kd.own_blk (Kd.R_ne a6.out J.out (by decide))) | (dsimp only;exact Kd.own_blk (Kd.R_ne a6.out J.out (by decide)))) _).trans (hHeld.1)))))),((cell_far (p:=⟨Z,_,none⟩) (by first | exact Kd.own_blk (Kd.R_ne a6.out J.out (by decide)) | (rw [add_block];exact Kd.own_blk (Kd.R_ne a6.out J.out (by decide))) | (show (Addr.add _ _).block≠_;rw [add_block];exact Kd.own_blk (Kd.R_ne a6.out J.out (by decide))) | (dsimp only;exact Kd.own_blk (Kd.R_ne a6.out J.out (by decide)))) _).trans (((cell_far (p:=⟨Z,_,none⟩) (by first | exact Kd.own_blk (Kd.R_ne a6.out J.out (by decide)) | (rw [add_block];exact Kd.own_blk (Kd.R_ne a6.out J.out (by decide))) | (show (Addr.add _ _).block≠_;rw [add_block];exact Kd.own_blk (Kd.R_ne a6.out J.out (by decide))) | (dsimp only;exact Kd.own_blk (Kd.R_ne a6.out J.out (by decide)))) _).trans (((cell_far (p:=⟨Z,_,none⟩) (by first | exact Kd.own_blk (Kd.R_ne a6.out J.out (by decide)) | (rw [add_block];exact Kd.own_blk (Kd.R_ne a6.out J.out (by decide))) | (show (Addr.add _ _).block≠_;rw [add_block];exact Kd.own_blk (Kd.R_ne a6.out J.out (by decide))) | (dsimp only;exact Kd.own_blk (Kd.R_ne a6.out J.out (by decide)))) _).trans (hHeld.2))))))⟩ (fun hHeld=>?_);clear hK K;refine done_ (done_of HT_.out (by kernel_rfl)) ?_;have aQ:0≤(1:Int):=(by omega);have aT:1 < (ae.length:Int):=dA_;obtain ⟨b8,bg,af⟩:=Kd.at_string (Kd.R_reads' HO_4.out).2.2 1 aQ aT;obtain rfl:ai=b8:=(by injection bg);(try simp only [show (1:Int).toNat=1 from rfl,Nat.reduceMul,Nat.reduceEqDiff,Go.Addr.add,↓reduceIte] at af);have bS:(1 < ae.length)=True:=eq_true (by omega);(try rw [show ((1:Int)).toNat=1 from rfl] at af);have am:ai.block≠Z:=Kd.own_blk (Kd.R_ne HO_4.out J.out (by decide));have an:ai.block≠Z:=Kd.own_blk (Kd.R_ne HO_4.out J.out (by decide));have ap:ai.block≠Z:=Kd.own_blk (Kd.R_ne HO_4.out J.out (by decide));replace af:=(cell_far (p:=⟨Z,0,none⟩) (by first | (rw [add_block];exact am) | (show (Addr.add _ _).block≠_;rw [add_block];exact am) | exact am) (.int .i64 ac)).trans af;replace af:=(cell_far (p:=⟨Z,1,none⟩) (by first | (rw [add_block];exact an) | (show (Addr.add _ _).block≠_;rw [add_block];exact an) | exact an) (.int .i64 ab)).trans af;replace af:=(cell_far (p:=⟨Z,2,none⟩) (by first | (rw [add_block];exact ap) | (show (Addr.add _ _).block≠_;rw [add_block];exact ap) | exact ap) (.slice none 0 0)).trans af;clear am;clear an;clear ap;replace aQ:=eq_true aQ;replace aT:=eq_true aT;(try go_wp2);have n0_:Aside0 (Kd.R Kd.string 9 (((bd.setCell ⟨Z,0,none⟩ (.int .i64 ac)).setCell ⟨Z,1,none⟩ (.int .i64 ab)).setCell ⟨Z,2,none⟩ (.slice none 0 0)) w.heap.size (fun k_=>some k_≠(.slice (some ah) aa.length bD:Value).ownBlock) (.slice (some ai) ae.length bC) ae):=⟨by (with_reducible repeat (first | apply Kd.R_alloc | apply Kd.R_drewN | apply Kd.R_drew));exact Kd.R_mono (Kd.R_far (p:=⟨Z,2,none⟩) (Kd.R_far (p:=⟨Z,1,none⟩) (Kd.R_far (p:=⟨Z,0,none⟩) (Kd.R_types HO_4.out J.out (by decide)) (fun _ hk=>hk.2) (.int .i64 ac)) (fun _ hk=>hk.2) (.int .i64 ab)) (fun _ hk=>hk.2) (.slice none 0 0)) (fun _ hk=>hk.1)⟩;have n1_:Aside0 (Kd.R Kd.string 9 (((bd.setCell ⟨Z,0,none⟩ (.int .i64 ac)).setCell ⟨Z,1,none⟩ (.int .i64 ab)).setCell ⟨Z,2,none⟩ (.slice none 0 0)) w.heap.size (fun k_=>some k_≠(.slice (some ai) ae.length bC:Value).ownBlock) (.slice (some ah) aa.length bD) aa):=⟨by (with_reducible repeat (first | apply Kd.R_alloc | apply Kd.R_drewN | apply Kd.R_drew));exact Kd.R_mono (Kd.R_far (p:=⟨Z,2,none⟩) (Kd.R_far (p:=⟨Z,1,none⟩) (Kd.R_far (p:=⟨Z,0,none⟩) (Kd.R_types a6.out J.out (by decide)) (fun _ hk=>hk.2) (.int .i64 ac)) (fun _ hk=>hk.2) (.int .i64 ab)) (fun _ hk=>hk.2) (.slice none 0 0)) (fun _ hk=>hk.1)⟩;have n2_:Aside0 ((((bd.setCell ⟨Z,0,none⟩ (.int .i64 ac)).setCell ⟨Z,1,none⟩ (.int .i64 ab)).setCell ⟨Z,2,none⟩ (.slice none 0 0)).heap[a8]?=some (.cells #[.int .i64 0, .int .i64 0, .slice none 0 0] 28 (0,0))):=⟨kB a1⟩;have n3_:Aside0 ((((bd.setCell ⟨Z,0,none⟩ (.int .i64 ac)).setCell ⟨Z,1,none⟩ (.int .i64 ab)).setCell ⟨Z,2,none⟩ (.slice none 0 0)).heap[Z]?=some (.cells #[.int .i64 ac, .int .i64 ab, .slice none 0 0] 28 (0,0))):=⟨kP J⟩;have n4_:Aside0 (Below w.heap.size w (((bd.setCell ⟨Z,0,none⟩ (.int .i64 ac)).setCell ⟨Z,1,none⟩ (.int .i64 ab)).setCell ⟨Z,2,none⟩ (.slice none 0 0))):=⟨bB⟩;generalize (((bd.setCell ⟨Z,0,none⟩ (.int .i64 ac)).setCell ⟨Z,1,none⟩ (.int .i64 ab)).setCell ⟨Z,2,none⟩ (.slice none 0 0))=fI at n0_ n1_ n2_ n3_ n4_ ⊢;have HO_4:=n0_;have a6:=n1_;have a1:=n2_;have J:=n3_;have HB:=n4_;clear n0_ n1_ n2_ n3_ n4_;replace HO_4:=amk (Kd.R_drew HO_4.out);replace a6:=amk (Kd.R_drew a6.out);replace a1:=amk (blk_drew a1.out);replace J:=amk (blk_drew J.out);replace HB:=amk (bd_ HB.out);refine start_ (n:=11) (S:=fun w'=>w'.cell? ⟨Z,0,none⟩=some (.int .i64 ac)∧w'.cell? ⟨Z,1,none⟩=some (.int .i64 ab)∧w'.cell? ⟨Z,2,none⟩=some (.slice none 0 0)) (ds:=[]) (bA 11 0) (by kernel_rfl) rfl rfl ⟨(blk_cell J.out 0).trans rfl,(blk_cell J.out 1).trans rfl,(blk_cell J.out 2).trans rfl⟩ (fun hHeld=>?_);refine with_tabW spec_pzParse.tab17 spec_pzParse.bits17 (fun HT_ HW_=>?_);generalize fI.drew=gX at HO_4 a6 a1 J HB hHeld ⊢;refine tK_ HT_ HW_ hHeld 0 (some 78) (bA 11 1) ?_;refine tK_ HT_ HW_ hHeld 1 (some 79) (bA 11 3) ?_;refine oN_ HT_ 2 (some 80) (bA 11 7) (fun K hK=>?_);refine goes_ Tryz.func39 (by kernel_rfl) rfl #[.agg #[.int .i64 ac, .int .i64 ab, .slice none 0 0]] (by rfl) rfl rfl gL_ ?_;refine (spec_pzGood.calls aA ac ab _ _ ([]:List (S48)) false _ ?side1 ?side2 e6.out).mono ?_;(case side1=>exact Kd.C_nil _ _);(case side2=>exact Nat.le_refl _);rintro e cX ⟨rfl,hb⟩;refine ⟨_,rfl,?_⟩;replace HO_4:=amk (Kd.R_below (oX HO_4) hb);replace a6:=amk (Kd.R_below (oX a6) hb);replace a1:=kb2 a1 hb;replace J:=kb2 J hb;replace HB:=hB2 HB hb;(try clear hb);refine hK.out _ _ hC_ (fun hHeld=>?_);clear hK K;refine nN_ (some 80) ?_;refine pU_ HT_ 3 (some 81) (bA 11 15) ?_;refine pZ_ HT_ 4 (some 82) (bA 11 31) ?_;refine pZ_ HT_ 5 (some 83) (bA 11 63) ?_;refine pZ_ HT_ 6 (some 84) (bA 11 127) ?_;refine pZ_ HT_ 7 (some 85) (bA 11 255) ?_;refine pU_ HT_ 8 (some 86) (bA 11 511) ?_;refine oN_ HT_ 9 none (bA 11 1023) (fun K hK=>?_);have fJ:cX.cell? ⟨a8,0,none⟩=some (.int .i64 0):=(blk_cell a1.out 0).trans rfl;have eC:=blk_frozen a1.out 0;have d5:=Y.out;have d6:=a7.out;have fK:cX.cell? ⟨a8,1,none⟩=some (.int .i64 0):=(blk_cell a1.out 1).trans rfl;have eD:=blk_frozen a1.out 1;have d7:=Y.out;have d8:=a7.out;have fL:cX.cell? ⟨a8,2,none⟩=some (.slice none 0 0):=(blk_cell a1.out 2).trans rfl;have eE:=blk_frozen a1.out 2;have d9:=Y.out;have da:=a7.out;refine skip_ (w1:=?_) (by rfl) rfl ?_ ?_;rotate_left
                      · go_simp
                        rfl
                      refine hK.out _ _ ⟨((cell_far (p:=⟨a8,_,none⟩) Y.out _).trans (((cell_far (p:=⟨a8,_,none⟩) Y.out _).trans (((cell_far (p:=⟨a8,_,none⟩) Y.out _).trans (hHeld.1)))))),((cell_far (p:=⟨a8,_,none⟩) Y.out _).trans (((cell_far (p:=⟨a8,_,none⟩) Y.out _).trans (((cell_far (p:=⟨a8,_,none⟩) Y.out _).trans (hHeld.2.1)))))),((cell_far (p:=⟨a8,_,none⟩) Y.out _).trans (((cell_far (p:=⟨a8,_,none⟩) Y.out _).trans (((cell_far (p:=⟨a8,_,none⟩) Y.out _).trans (hHeld.2.2))))))⟩ (fun hHeld=>?_);clear hK K;refine pU_ HT_ 10 (some 3) (bA 11 2047) ?_;refine done_ (done_of HT_.out (by kernel_rfl)) ?_;(try go_wp2);refine bodyPost_ret (results_ct rfl _ _ a8 28 #[.int .i64 ac, .int .i64 ab, .slice none 0 0] (0,0) _ rfl (kP a1) Tryz.underlying28 rfl (by kernel_rfl)) rfl ?_;exact ⟨_,rF_,xN_,bB⟩
                · rw [if_neg c17] at H;exact absurd H (by simp)
              · rw [if_neg c15] at H;exact absurd H (by simp)
            · rw [if_neg c13] at H;exact absurd H (by simp)
          · rw [if_neg c12] at H;have bJ:((aa.length:Int) == 2)=false:=beq_eq_false_iff_ne.mpr c12;have bL:((aa.length:Int) != 2)=true:=bne_iff_ne.mpr c12;simp only [Option.some.injEq,Prod.mk.injEq] at H;obtain ⟨rfl,rfl,rfl,rfl⟩:=H;obtain ⟨fM,fN,cY⟩:=Kd.R_slice HO_4.out;subst cY;have aC:0≤(0:Int):=(by omega);have aD:0 < (ae.length:Int):=dA_;obtain ⟨ai,b6,av⟩:=Kd.at_string (Kd.R_reads' HO_4.out).2.2 0 aC aD;cases b6;have bo:(0 < ae.length)=True:=eq_true (by omega);(try rw [show ((0:Int)).toNat=0 from rfl] at av);(try rw [Addr.add_zero'] at av);replace aC:=eq_true aC;replace aD:=eq_true aD;go_wp2_with (first | ((with_reducible refine gate_callee (f:=88) rfl ?_);refine goesL_ (some 24) rfl rfl Tryz.func88 (by kernel_rfl) rfl #[.string (rdOf ByteArray.empty ae 0), .int .u8 120] rfl gL_ ?_;(with_reducible refine (spec_l1Split.calls aA (rdOf ByteArray.empty ae 0) 120 aa _ co.out).mono ?_);rintro e gJ ⟨bO,rfl,ax,hb⟩;refine ⟨_,rfl,?_⟩;have a6:=amk (Kd.R_lower (Kd.R_new' ax (Kd.R_lt (oX HO_4))) (below_size bB));replace HO_4:=amk (Kd.R_elder' (oX HO_4) (Kd.R_base ax) hb);replace a1:=kb2 a1 hb;replace HB:=hB2 HB hb;(try clear hb);(try clear ax);obtain ⟨fO,fP,cZ⟩:=Kd.R_slice a6.out;subst cZ;obtain ⟨db,dc,de,df,dh,di⟩:=cells3 a1.out));refine bodyPost_ret (results_ct rfl _ _ a8 28 #[.int .i64 0, .int .i64 0, .slice none 0 0] (0,0) _ rfl (kP a1) Tryz.underlying28 rfl (by kernel_rfl)) rfl ?_;exact ⟨_,rF_,xN_,bB⟩
        · rw [if_neg c10] at H;exact absurd H (by simp)
/-! ### spec_ParsePuzzle: function 36 -/
def spec_ParsePuzzle.f (k:Nat) (a0:ByteArray):Option (Int×Int×(List (S48))×Bool):=(spec_pzParse.f k a0).bind fun J=>(if J.2.2.2=true then (some (J.1,J.2.1,J.2.2.1,true)) else (some (0,0,([]:List (S48)),false)))
set_option maxHeartbeats 8000000 in
set_option maxRecDepth 100000 in
theorem spec_ParsePuzzle.calls (k:Nat) (a0:ByteArray) (r1:Int) (r2:Int) (r3:List (S48)) (r4:Bool) (w:World) (h:spec_ParsePuzzle.f k a0=some (r1,r2,r3,r4)) :
    Calls Tryz.prog 36 #[.string a0] w fun e w'=> ∃ v2_:Value,e = .returned (.tuple #[.agg #[.int .i64 r1, .int .i64 r2,v2_], .bool r4])∧Kd.R k48 48 w' w.heap.size (fun _=>True) v2_ r3∧Below w.heap.size w w':=by
  have b3:=Tryz.underlying28;have HB:=amk (Below.refl w.heap.size w);unfold spec_ParsePuzzle.f at h;have H:=h;clear h;replace H:=bE H;obtain ⟨⟨a7,a8,ac,b4⟩,A2,H⟩:=H;(try dsimp only at H);replace H:=iteB H;obtain ⟨rfl,H⟩ | ⟨rfl,H⟩:=H
  · simp only [Option.some.injEq,Prod.mk.injEq] at H;obtain ⟨rfl,rfl,rfl,rfl⟩:=H;go_enter Tryz.func36,Tryz.ntmps36;go_wp2_with (first | ((with_reducible refine gate_dst (N:=2) rfl ?_);refine boxE_ HB 2 #[.int .i64 0, .int .i64 0, .slice none 0 0] 28 ?_;clear HB;intro a6 w4 HB Y af ag hb;clear hb) | ((with_reducible refine gate_callee (f:=62) rfl ?_);refine goesL_ (some 8) rfl rfl Tryz.func62 (by kernel_rfl) rfl #[.string a0] rfl gL_ ?_;(with_reducible refine (spec_pzParse.calls k a0 a7 a8 ac true _ A2.out).mono ?_);rintro e w5 ⟨al,rfl,ae,hb⟩;refine ⟨_,rfl,?_⟩;have Z:=amk (Kd.R_lower ae (below_size bB));replace Y:=kb2 Y hb;replace HB:=hB2 HB hb;(try clear hb);(try clear ae)) | ((with_reducible refine gate_dst (N:=4) rfl ?_);refine boxG_ 4 #[.int .i64 0, .int .i64 0, .slice none 0 0] 28 ?_;intro aa w6 hg ab hb;replace Z:=amk (Kd.R_below (oX Z) hb);have ah:=sZ HB hg;have ai:=sZ HB hg;replace HB:=hB2 HB hb;have J:=neL Y hg;have a1:=neR Y hg;replace Y:=kb2 Y hb;clear hb hg;have b5:=a1.out;have b6:=J.out;obtain ⟨aN,aQ,aT,aU,aV,aW⟩:=cells3 ab.out;obtain ⟨aj,ak,aX⟩:=Kd.R_slice Z.out;subst aX;obtain ⟨am,an,ap,ar,au,av⟩:=cells3 Y.out));refine bodyPost_ret (results_ct rfl _ _ a6 28 #[.int .i64 a7, .int .i64 a8, .slice aj ac.length ak] (0,0) _ rfl (by (with_reducible repeat (first | refine kn_ ?_ _ | refine blk_drew ?_ | refine ka_ ?_ _));refine blk_put (cs:= #[.int .i64 a7, .int .i64 a8, .slice none 0 0]) ?_ 2 _ rfl;(with_reducible repeat (first | refine kn_ ?_ _ | refine blk_drew ?_ | refine ka_ ?_ _));refine blk_put (cs:= #[.int .i64 a7, .int .i64 0, .slice none 0 0]) ?_ 1 _ rfl;(with_reducible repeat (first | refine kn_ ?_ _ | refine blk_drew ?_ | refine ka_ ?_ _));refine blk_put (cs:= #[.int .i64 0, .int .i64 0, .slice none 0 0]) ?_ 0 _ rfl;(with_reducible repeat (first | refine kn_ ?_ _ | refine blk_drew ?_ | refine ka_ ?_ _));refine blk_far ?_ J.out _;(with_reducible repeat (first | refine kn_ ?_ _ | refine blk_drew ?_ | refine ka_ ?_ _));refine blk_far ?_ J.out _;(with_reducible repeat (first | refine kn_ ?_ _ | refine blk_drew ?_ | refine ka_ ?_ _));refine blk_far ?_ J.out _;(with_reducible repeat (first | refine kn_ ?_ _ | refine blk_drew ?_ | refine ka_ ?_ _));exact Y.out) Tryz.underlying28 rfl (by kernel_rfl)) rfl ?_;exact ⟨_,rF_,by (with_reducible repeat (first | apply Kd.R_alloc | apply Kd.R_drewN | apply Kd.R_drew));exact Kd.R_mono (Kd.R_far (p:=⟨a6,2,none⟩) (Kd.R_far (p:=⟨a6,1,none⟩) (Kd.R_far (p:=⟨a6,0,none⟩) (Kd.R_far (p:=⟨aa,2,none⟩) (Kd.R_far (p:=⟨aa,1,none⟩) (Kd.R_far (p:=⟨aa,0,none⟩) (Kd.R_types (Kd.R_types Z.out ab.out (by decide)) Y.out (by decide)) (fun _ hk=>hk.1.2) (.int .i64 a7)) (fun _ hk=>hk.1.2) (.int .i64 a8)) (fun _ hk=>hk.1.2) (.slice aj ac.length ak)) (fun _ hk=>hk.2) (.int .i64 a7)) (fun _ hk=>hk.2) (.int .i64 a8)) (fun _ hk=>hk.2) (.slice aj ac.length ak)) (fun _ hk=>trivial),bB⟩
  · simp only [Option.some.injEq,Prod.mk.injEq] at H;obtain ⟨rfl,rfl,rfl,rfl⟩:=H;go_enter Tryz.func36,Tryz.ntmps36;go_wp2_with (first | ((with_reducible refine gate_dst (N:=2) rfl ?_);refine boxE_ HB 2 #[.int .i64 0, .int .i64 0, .slice none 0 0] 28 ?_;clear HB;intro a6 b9 HB Y af ag hb;clear hb) | ((with_reducible refine gate_callee (f:=62) rfl ?_);refine goesL_ (some 8) rfl rfl Tryz.func62 (by kernel_rfl) rfl #[.string a0] rfl gL_ ?_;(with_reducible refine (spec_pzParse.calls k a0 a7 a8 ac false _ A2.out).mono ?_);rintro e ba ⟨al,rfl,ae,hb⟩;refine ⟨_,rfl,?_⟩;have Z:=amk (Kd.R_lower ae (below_size bB));replace Y:=kb2 Y hb;replace HB:=hB2 HB hb;(try clear hb);(try clear ae)) | ((with_reducible refine gate_dst (N:=4) rfl ?_);refine boxG_ 4 #[.int .i64 0, .int .i64 0, .slice none 0 0] 28 ?_;intro aa bb hg ab hb;replace Z:=amk (Kd.R_below (oX Z) hb);have ah:=sZ HB hg;have ai:=sZ HB hg;replace HB:=hB2 HB hb;have J:=neL Y hg;have a1:=neR Y hg;replace Y:=kb2 Y hb;clear hb hg;have aY:=a1.out;have aZ:=J.out;obtain ⟨ax,ay,az,aA,aC,aD⟩:=cells3 ab.out;obtain ⟨b7,b8,aE⟩:=Kd.R_slice Z.out;subst aE;obtain ⟨aG,aH,aI,aJ,aK,aM⟩:=cells3 Y.out));refine bodyPost_ret (results_ct rfl _ _ a6 28 #[.int .i64 0, .int .i64 0, .slice none 0 0] (0,0) _ rfl (by (with_reducible repeat (first | refine kn_ ?_ _ | refine blk_drew ?_ | refine ka_ ?_ _));refine blk_put (cs:= #[.int .i64 0, .int .i64 0, .slice none 0 0]) ?_ 2 _ rfl;(with_reducible repeat (first | refine kn_ ?_ _ | refine blk_drew ?_ | refine ka_ ?_ _));refine blk_put (cs:= #[.int .i64 0, .int .i64 0, .slice none 0 0]) ?_ 1 _ rfl;(with_reducible repeat (first | refine kn_ ?_ _ | refine blk_drew ?_ | refine ka_ ?_ _));refine blk_put (cs:= #[.int .i64 0, .int .i64 0, .slice none 0 0]) ?_ 0 _ rfl;(with_reducible repeat (first | refine kn_ ?_ _ | refine blk_drew ?_ | refine ka_ ?_ _));refine blk_far ?_ J.out _;(with_reducible repeat (first | refine kn_ ?_ _ | refine blk_drew ?_ | refine ka_ ?_ _));refine blk_far ?_ J.out _;(with_reducible repeat (first | refine kn_ ?_ _ | refine blk_drew ?_ | refine ka_ ?_ _));refine blk_far ?_ J.out _;(with_reducible repeat (first | refine kn_ ?_ _ | refine blk_drew ?_ | refine ka_ ?_ _));exact Y.out) Tryz.underlying28 rfl (by kernel_rfl)) rfl ?_;exact ⟨_,rF_,xN_,bB⟩
/-! Puzzles read from texts: what the two come to. -/
theorem impl_parseLock.is {s:ByteArray} (hs:s.size≤1000):impl_parseLock.f s=some (atoiV (byL (Lib.cut s.data.toList [120]).1),atoiV (byL (Lib.cut s.data.toList [120]).2.1)):=by
  have hz:=Lib.size_eq s
  obtain ⟨q1,q2⟩:=cut_len s.data.toList [120]
  have e0:strings_Cut.f s ⟨#[120]⟩=some (byL (Lib.cut s.data.toList [120]).1,byL (Lib.cut s.data.toList [120]).2.1,(Lib.cut s.data.toList [120]).2.2):=if_pos (by omega)
  unfold impl_parseLock.f
  rw [e0,Option.bind_some,atoi_ok (by rw [bytesOf_size];omega),Option.bind_some,atoi_ok (by rw [bytesOf_size];omega)];rfl
theorem impl_ParsePuzzle.ev (s:ByteArray) (hs:s.size≤1048576) : ∃ w d l,Ev (fun k=>impl_ParsePuzzle.f k s) (qqV w d l s)∧OwnZ w d l s:=by
  unfold impl_ParsePuzzle.f
  by_cases hb:(s.size:Int) > 200
  · exact ⟨0,0,[],Ev.yes hb (Ev.id (qqV_none s).symm),OwnZ.of_big (by omega)⟩
  · have hz:=Lib.size_eq s
    obtain ⟨q1,q2⟩:=cut_len s.data.toList [58]
    have e0:strings_Cut.f s ⟨#[58]⟩=some (byL (Lib.cut s.data.toList [58]).1,byL (Lib.cut s.data.toList [58]).2.1,(Lib.cut s.data.toList [58]).2.2):=if_pos (by omega)
    have eL:=impl_parseLock.is (s:=byL (Lib.cut s.data.toList [58]).1) (by rw [bytesOf_size];omega)
    rw [bytesOf_data] at eL
    have e2:strings_Split.f (byL (Lib.cut s.data.toList [58]).2.1) ⟨#[44]⟩=some (splitL (byL (Lib.cut s.data.toList [58]).2.1) ⟨#[44]⟩):=if_pos ⟨by rw [bytesOf_size];omega,by decide⟩
    obtain ⟨l1,l2⟩:=splitL_small (sep:=⟨#[44]⟩) (c:=44) rfl (byL (Lib.cut s.data.toList [58]).2.1)
    rw [bytesOf_size] at l1 l2
    have own : ∀ w' d' l',puzzleB w' d' l'=true→puzzleT w' d' l'=s→atoiV (byL (Lib.cut (Lib.cut s.data.toList [58]).1 [120]).1)=w'∧atoiV (byL (Lib.cut (Lib.cut s.data.toList [58]).1 [120]).2.1)=d'∧(Lib.cut s.data.toList [58]).2.1=cluesU l'∧∀ c∈l',TxtClue c:=by
      intro w' d' l' h1 h2
      obtain ⟨a1,a2,a3⟩:=puzzleB_txt h1
      obtain ⟨b1,_⟩:=smallB_iff.mp a1
      have Y:=puzzleT_bytes w' d' l'
      rw [h2] at Y
      rw [Y,cut_one (lockU_ne (by omega) (by omega))]
      have hc:Lib.cut (lockU w' d') [120]=((decB w').data.toList,(decB d').data.toList,true):=cut_one (decB_ne (by omega) (by omega) (by decide))
      show atoiV (byL (Lib.cut (lockU w' d') [120]).1)=w'∧atoiV (byL (Lib.cut (lockU w' d') [120]).2.1)=d'∧cluesU l'=cluesU l'∧_
      rw [hc]
      refine ⟨?_,?_,rfl,a3⟩
      · show atoiV (byL (decB w').data.toList)=w'
        rw [←bytes_eq (a:=decB w') rfl,atoiV_num (by omega) (by omega)]
      · show atoiV (byL (decB d').data.toList)=d'
        rw [←bytes_eq (a:=decB d') rfl,atoiV_num (by omega) (by omega)]
    by_cases ht:(Lib.cut s.data.toList [58]).2.1=[]
    · have J:(byL (Lib.cut s.data.toList [58]).2.1).toList=[]:=by rw [ByteArray.toList_eq,bytesOf_data,ht]
      have hgo:Ev (fun k=>impl_ParsePuzzle.l0 k s (byL (Lib.cut s.data.toList [58]).2.1) (splitL (byL (Lib.cut s.data.toList [58]).2.1) ⟨#[44]⟩) ((splitL (byL (Lib.cut s.data.toList [58]).2.1) ⟨#[44]⟩).length:Int) 0 (atoiV (byL (Lib.cut (Lib.cut s.data.toList [58]).1 [120]).1)) (atoiV (byL (Lib.cut (Lib.cut s.data.toList [58]).1 [120]).2.1)) []) (qqV (atoiV (byL (Lib.cut (Lib.cut s.data.toList [58]).1 [120]).1)) (atoiV (byL (Lib.cut (Lib.cut s.data.toList [58]).1 [120]).2.1)) [] s):=by
        by_cases hn:0 < (splitL (byL (Lib.cut s.data.toList [58]).2.1) ⟨#[44]⟩).length
        · exact Ev.step (fun k=>rfl) (Ev.yes (by omega) (Ev.yes (by omega) (Ev.yes (by omega) (Ev.yes J (impl_ParsePuzzle.j1ev _ _ _ _)))))
        · exact Ev.step (fun k=>rfl) (Ev.no (by omega) (impl_ParsePuzzle.j1ev _ _ _ _))
      refine ⟨_,_,_,Ev.no hb (Ev.bindc e0 (Ev.bindc eL (Ev.bindc e2 hgo))),fun w' d' l' h1 h2=>?_⟩
      obtain ⟨c1,c2,c3,_⟩:=own w' d' l' h1 h2
      exact ⟨c1,c2,(cluesU_nil.mp (c3.symm.trans ht)).symm⟩
    · have J : ¬ (byL (Lib.cut s.data.toList [58]).2.1).toList=[]:=by rw [ByteArray.toList_eq,bytesOf_data];exact ht
      have hgo:=impl_ParsePuzzle.lev s (byL (Lib.cut s.data.toList [58]).2.1) J (atoiV (byL (Lib.cut (Lib.cut s.data.toList [58]).1 [120]).1)) (atoiV (byL (Lib.cut (Lib.cut s.data.toList [58]).1 [120]).2.1)) (splitL (byL (Lib.cut s.data.toList [58]).2.1) ⟨#[44]⟩) (fun x hx=>by have:=l2 x hx;omega) (by omega) (splitL (byL (Lib.cut s.data.toList [58]).2.1) ⟨#[44]⟩).length 0 (by omega)
      rw [List.take_zero,List.map_nil] at hgo
      refine ⟨_,_,_,Ev.no hb (Ev.bindc e0 (Ev.bindc eL (Ev.bindc e2 hgo))),fun w' d' l' h1 h2=>?_⟩
      obtain ⟨c1,c2,c3,c4⟩:=own w' d' l' h1 h2
      refine ⟨c1,c2,?_⟩
      have hne:l'≠[]:=fun h=>ht (c3.trans (cluesU_nil.mpr h))
      have e3:=unmap (splitL_mapc (sep:=⟨#[44]⟩) (c:=44) rfl (byL (Lib.cut s.data.toList [58]).2.1))
      rw [bytesOf_data,c3,cluesU_split hne c4,map_clueU] at e3
      rw [c3,e3,List.map_map]
      conv=>rhs;rw [←List.map_id l']
      exact List.map_congr_left (fun c hc=>clI_back (c4 c hc))
def Rd (x:ByteArray) (c:S48):Prop:= ∃ p0 p1 p2,splL 46 x.data.toList=[p0,p1,p2]∧Ev (fun k=>spec_l1Read.f k (byL p0)) c.f0∧Ev (fun k=>spec_l1Read.f k (byL p1)) c.f1∧Ev (fun k=>spec_l1Read.f k (byL p2)) c.f2
def RdL:List ByteArray→List S48→Prop
  | [],[]=> True
  | x :: xs,c :: cs=>Rd x c∧RdL xs cs
  | _,_=>False
def kqV (w d:Int) (l:List S48) (s:ByteArray):Int×Int×List S48×Bool:=if puzzleB w d l=true then (w,d,l,((puzzleT w d l).toList == s.toList)) else (w,d,l,false)
theorem kq_qq (w d:Int) (l:List S48) (s:ByteArray):(if (kqV w d l s).2.2.2=true then ((kqV w d l s).1,(kqV w d l s).2.1,(kqV w d l s).2.2.1,true) else (0,0,[],false))=qqV w d l s:=by
  unfold kqV qqV
  by_cases c:puzzleB w d l=true
  · by_cases c2:puzzleT w d l=s
    · have h3:((puzzleT w d l).toList == s.toList)=true:=beq_iff_eq.mpr (bl_eq.mpr c2)
      simp [c,c2,h3]
    · have h3:((puzzleT w d l).toList == s.toList)=false:=beq_eq_false_iff_ne.mpr (fun h=>c2 (bl_eq.mp h))
      simp [c,c2,h3]
  · simp [c]
theorem kqV.ev (s:ByteArray) (w d:Int) (l:List S48) (hl:l.length≤1048577):Ev (fun k=>(spec_pzGood.f k w d l).bind fun t=>(if t=true then ((spec_pzText.f k w d l).bind fun u=>(some (w,d,l,(u.toList == s.toList)))) else (some (w,d,l,false)))) (kqV w d l s):=by
  refine Ev.bind (spec_pzGood.ev w d l (by omega)) ?_
  unfold kqV
  by_cases h1:puzzleB w d l=true
  · obtain ⟨a1,a2,a3⟩:=puzzleB_txt h1
    obtain ⟨b1,_⟩:=smallB_iff.mp a1
    refine Ev.yes h1 (Ev.bind (spec_pzText.ev w d (by omega) (by omega) l a2 a3) (Ev.id ?_))
    rw [if_pos h1]
  · refine Ev.no h1 (Ev.id ?_)
    rw [if_neg h1]
theorem three {α:Type} {l:List α} (h:l.length=3) : ∃ a b c,l=[a,b,c]:=by
  match l,h with
  | [a,b,c],_=>exact ⟨a,b,c,rfl⟩
theorem twoP_ {α:Type} {l:List α} (h:l.length=2) : ∃ a b,l=[a,b]:=by
  match l,h with
  | [a,b],_=>exact ⟨a,b,rfl⟩
theorem spec_pzParse.lev (s:ByteArray) (w d:Int) (xs:List ByteArray) (hx : ∀ x∈xs,x.size≤1048576) (hl:xs.length≤1048577) : ∀ (m i:Nat) (acc:List S48),i + m=xs.length→acc.length=i→∃ o,Ev (fun k=>spec_pzParse.l0 k s xs (xs.length:Int) (i:Nat) w d acc) o∧((∃ cs,RdL (xs.drop i) cs∧o=kqV w d (acc ++ cs) s)∨(o=(0,0,[],false)∧∃ x∈xs.drop i,(splL 46 x.data.toList).length≠3)):=by
  intro m
  induction m with
  | zero =>
    intro i acc hi ha
    refine ⟨kqV w d acc s,Ev.step (fun k=>rfl) (Ev.no (by omega) (kqV.ev s w d acc (by omega))), .inl ⟨[],?_,by rw [List.append_nil]⟩⟩
    rw [List.drop_eq_nil_of_le (by omega)];exact trivial
  | succ m ih =>
    intro i acc hi ha
    have hlt:i < xs.length:=by omega
    have J:=spec_l1Split.ev 46 xs[i] (hx _ (List.getElem_mem hlt))
    have hz:=Lib.size_eq xs[i]
    have hxi:=hx _ (List.getElem_mem hlt)
    obtain ⟨_,s2,s3⟩:=splL_len 46 xs[i].data.toList
    rw [List.drop_eq_getElem_cons hlt]
    by_cases h3:(splL 46 xs[i].data.toList).length=3
    · obtain ⟨p0,p1,p2,hp⟩:=three h3
      rw [hp] at J s3
      obtain ⟨v0,Y⟩:=spec_l1Read.ex (byL p0) (by rw [bytesOf_size];have:=s3 p0 (by simp);omega)
      obtain ⟨v1,Z⟩:=spec_l1Read.ex (byL p1) (by rw [bytesOf_size];have:=s3 p1 (by simp);omega)
      obtain ⟨v2,a1⟩:=spec_l1Read.ex (byL p2) (by rw [bytesOf_size];have:=s3 p2 (by simp);omega)
      obtain ⟨o,ho,hc⟩:=ih (i + 1) (acc ++ [(⟨v0,v1,v2⟩:S48)]) (by omega) (by rw [List.length_append];simp [ha])
      refine ⟨o,Ev.step (fun k=>rfl) (Ev.yes (by omega) (Ev.yes (by omega) (Ev.yes (by omega) ?_))),?_⟩
      · rw [rdOf_nat hlt]
        refine Ev.bind J (Ev.yes (by simp) (Ev.yes (by simp) (Ev.bind Y (Ev.yes (by simp) (Ev.bind Z (Ev.yes (by simp) (Ev.bind a1 (Ev.yes (by omega) ?_))))))))
        rw [show wrap64 ((i:Int) + 1)=((i + 1:Nat):Int) from w64 (by omega) (by omega)]
        exact ho
      · rcases hc with ⟨cs,h1,h2⟩ | ⟨h1,x,h2,h4⟩
        · exact .inl ⟨⟨v0,v1,v2⟩ :: cs,⟨⟨p0,p1,p2,hp,Y,Z,a1⟩,h1⟩,by rw [h2,List.append_assoc];rfl⟩
        · exact .inr ⟨h1,x,List.mem_cons_of_mem _ h2,h4⟩
    · refine ⟨(0,0,[],false),Ev.step (fun k=>rfl) (Ev.yes (by omega) (Ev.yes (by omega) (Ev.yes (by omega) ?_))), .inr ⟨rfl,xs[i],List.mem_cons_self,h3⟩⟩
      rw [rdOf_nat hlt]
      exact Ev.bind J (Ev.no (by rw [List.length_map];omega) (Ev.now _))
theorem Rd_back {c c':S48} (h:TxtClue c) (hr:Rd (clueT c) c'):c'=c:=by
  obtain ⟨p0,p1,p2,h1,e0,e1,e2⟩:=hr
  rw [clueT_bytes,clueU_split h] at h1
  have g0:=(List.cons.inj h1).1
  have g1:=(List.cons.inj (List.cons.inj h1).2).1
  have g2:=(List.cons.inj (List.cons.inj (List.cons.inj h1).2).2).1
  subst g0;subst g1;subst g2
  obtain ⟨h0,h1,h2⟩:=h
  rw [←bytes_eq (a:=decB c.f0) rfl] at e0
  rw [←bytes_eq (a:=decB c.f1) rfl] at e1
  rw [←bytes_eq (a:=decB c.f2) rfl] at e2
  have f0:=Ev.un e0 (spec_l1Read.num h0.1 h0.2)
  have f1:=Ev.un e1 (spec_l1Read.num h1.1 h1.2)
  have f2:=Ev.un e2 (spec_l1Read.num h2.1 h2.2)
  cases c';cases c
  simp only at f0 f1 f2
  rw [f0,f1,f2]
theorem RdL_back : ∀ (l cs:List S48),(∀ c∈l,TxtClue c)→RdL (l.map clueT) cs→cs=l
  | [],[],_,_=>rfl
  | [],_ :: _,_,h=>absurd h (by unfold RdL;simp)
  | _ :: _,[],_,h=>absurd h (by unfold RdL;simp)
  | c :: l, c' :: cs, ht, h => by
    obtain ⟨h1,h2⟩:=h
    rw [Rd_back (ht c List.mem_cons_self) h1,RdL_back l cs (fun x hx=>ht x (List.mem_cons_of_mem _ hx)) h2]
theorem spec_ParsePuzzle.ev (s:ByteArray) (hs:s.size≤1048576) : ∃ w d l,Ev (fun k=>spec_ParsePuzzle.f k s) (qqV w d l s)∧OwnZ w d l s:=by
  unfold spec_ParsePuzzle.f spec_pzParse.f
  have hz:=Lib.size_eq s
  obtain ⟨p1,p2,p3⟩:=splL_len 58 s.data.toList
  have hsp:=spec_l1Split.ev 58 s hs
  have fin : ∀ (o:Int×Int×List S48×Bool) (w d:Int) (l:List S48),(if o.2.2.2=true then (o.1,o.2.1,o.2.2.1,true) else (0,0,[],false))=qqV w d l s→Ev (fun _=>if o.2.2.2=true then some (o.1,o.2.1,o.2.2.1,true) else some (0,0,[],false)) (qqV w d l s):=fun o w d l h=>by
    rw [←h]
    by_cases c:o.2.2.2=true
    · exact Ev.yes c (Ev.id (if_pos c).symm)
    · exact Ev.no c (Ev.id (if_neg c).symm)
  have bad:Ev (fun k=>spec_pzParse.j0 k s ((splL 58 s.data.toList).map byL) true) ((0,0,[],false):Int×Int×List S48×Bool):=by
    refine Ev.step (fun k=>rfl) ?_
    simp only [spec_pzParse.j0]
    first | exact Ev.yes rfl (Ev.now _) | exact Ev.yes trivial (Ev.now _) | exact Ev.now _
  have byt : ∀ w' d' l',puzzleB w' d' l'=true→puzzleT w' d' l'=s→splL 58 s.data.toList=[lockU w' d',cluesU l']∧splL 120 (lockU w' d')=[(decB w').data.toList,(decB d').data.toList]∧((0≤w'∧w' < 1000)∧0≤d'∧d' < 1000)∧∀ c∈l',TxtClue c:=by
    intro w' d' l' h1 h2
    obtain ⟨a1,a2,a3⟩:=puzzleB_txt h1
    obtain ⟨b1,_⟩:=smallB_iff.mp a1
    have Z:=puzzleT_bytes w' d' l'
    rw [h2] at Z
    refine ⟨?_,?_,by omega,a3⟩
    · rw [Z,splL_app (lockU_ne (by omega) (by omega)),splL_no (cluesU_ne a3)]
    · unfold lockU
      rw [splL_app (decB_ne (by omega) (by omega) (by decide)),splL_no (decB_ne (by omega) (by omega) (by decide))]
  by_cases hb:(s.size:Int) > 100
  · exact ⟨0,0,[],Ev.bind (Ev.bind hsp (Ev.yes hb bad)) (fin _ _ _ _ (qqV_none s).symm),OwnZ.of_big hb⟩
  · by_cases h2:(splL 58 s.data.toList).length=2
    · obtain ⟨P0,P1,hP⟩:=twoP_ h2
      rw [hP] at p3
      have b0:=p3 P0 (by simp)
      have b1:=p3 P1 (by simp)
      have Y:=spec_l1Split.ev 120 (byL P0) (by rw [bytesOf_size];omega)
      rw [bytesOf_data] at Y
      obtain ⟨_,_,r3⟩:=splL_len 120 P0
      by_cases h3:(splL 120 P0).length=2
      · obtain ⟨Z0,Z1,hQ⟩:=twoP_ h3
        rw [hQ] at r3
        obtain ⟨w,hw⟩:=spec_l1Read.ex (byL Z0) (by rw [bytesOf_size];have:=r3 Z0 (by simp);omega)
        obtain ⟨d,hd⟩:=spec_l1Read.ex (byL Z1) (by rw [bytesOf_size];have:=r3 Z1 (by simp);omega)
        have back : ∀ w' d' l',puzzleB w' d' l'=true→puzzleT w' d' l'=s→w=w'∧d=d'∧P1=cluesU l'∧∀ c∈l',TxtClue c:=by
          intro w' d' l' h1 h4
          obtain ⟨y1,y2,y3,y4⟩:=byt w' d' l' h1 h4
          rw [hP] at y1
          have g0:=(List.cons.inj y1).1
          have g1:=(List.cons.inj (List.cons.inj y1).2).1
          rw [←g0,hQ] at y2
          have k0:=(List.cons.inj y2).1
          have k1:=(List.cons.inj (List.cons.inj y2).2).1
          rw [k0,←bytes_eq (a:=decB w') rfl] at hw
          rw [k1,←bytes_eq (a:=decB d') rfl] at hd
          exact ⟨Ev.un hw (spec_l1Read.num y3.1.1 y3.1.2),Ev.un hd (spec_l1Read.num y3.2.1 y3.2.2),g1,y4⟩
        have enter : ∀ o,Ev (fun k=>(if ((rdOf ByteArray.empty [byL P0,byL P1] 1).size:Int) > 0 then ((spec_l1Split.f k (rdOf ByteArray.empty [byL P0,byL P1] 1) 44).bind fun J=>(spec_pzParse.l0 k s J (J.length:Int) 0 w d ([]:List S48))) else ((spec_pzGood.f k w d ([]:List S48)).bind fun a6=>(if a6=true then ((spec_pzText.f k w d ([]:List S48)).bind fun a7=>(some (w,d,([]:List S48),(a7.toList == s.toList)))) else (some (w,d,([]:List S48),false)))))) o→Ev (fun k=>spec_pzParse.j0 k s ((splL 58 s.data.toList).map byL) (((((splL 58 s.data.toList).map byL).length:Int)) != 2)) o:=by
          intro o ho
          rw [hP]
          refine Ev.step (fun k=>rfl) ?_
          simp only [spec_pzParse.j0]
          refine Ev.no (by simp) (Ev.yes (by simp) (Ev.bind Y ?_))
          rw [hQ]
          exact Ev.yes (by simp) (Ev.yes (by simp) (Ev.bind hw (Ev.yes (by simp) (Ev.bind hd (Ev.yes (by simp) ho)))))
        have a8:rdOf ByteArray.empty [byL P0,byL P1] 1=byL P1:=rfl
        by_cases hn:P1=[]
        · refine ⟨w,d,[],Ev.bind (Ev.bind hsp (Ev.no hb (enter (kqV w d [] s) ?_))) (fin (kqV w d [] s) _ _ _ (kq_qq w d [] s)),fun w' d' l' h1 h4=>?_⟩
          · rw [a8]
            exact Ev.no (by rw [bytesOf_size,hn];simp) (kqV.ev s w d [] (by simp))
          · obtain ⟨c1,c2,c3,_⟩:=back w' d' l' h1 h4
            exact ⟨c1,c2,(cluesU_nil.mp (c3.symm.trans hn)).symm⟩
        · have aa:=spec_l1Split.ev 44 (byL P1) (by rw [bytesOf_size];omega)
          rw [bytesOf_data] at aa
          obtain ⟨_,s2,s3⟩:=splL_len 44 P1
          have hx : ∀ x∈(splL 44 P1).map byL,x.size≤1048576:=fun x hx=>by
            obtain ⟨y,hy,rfl⟩:=List.mem_map.mp hx
            have:=s3 y hy
            rw [bytesOf_size];omega
          have hpos:0 < P1.length:=List.length_pos_iff.mpr hn
          obtain ⟨o,ho,hc⟩:=spec_pzParse.lev s w d ((splL 44 P1).map byL) hx (by rw [List.length_map];omega) ((splL 44 P1).map byL).length 0 [] (by omega) rfl
          have hj:Ev (fun k=>spec_pzParse.j0 k s ((splL 58 s.data.toList).map byL) (((((splL 58 s.data.toList).map byL).length:Int)) != 2)) o:=enter o (by
            rw [a8]
            exact Ev.yes (by rw [bytesOf_size];omega) (Ev.bind aa ho))
          have parts : ∀ l':List S48,P1=cluesU l'→(∀ c∈l',TxtClue c)→(splL 44 P1).map byL=l'.map clueT:=fun l' e ht=>by
            rw [e,cluesU_split (fun h=>hn (e.trans (cluesU_nil.mpr h))) ht,map_clueU]
          rcases hc with ⟨cs,h4,h5⟩ | ⟨h4,x,h5,h6⟩
          · rw [List.nil_append] at h5
            subst h5
            refine ⟨w,d,cs,Ev.bind (Ev.bind hsp (Ev.no hb hj)) (fin (kqV w d cs s) _ _ _ (kq_qq w d cs s)),fun w' d' l' h1 h7=>?_⟩
            obtain ⟨c1,c2,c3,c4⟩:=back w' d' l' h1 h7
            rw [List.drop_zero,parts l' c3 c4] at h4
            exact ⟨c1,c2,RdL_back l' cs c4 h4⟩
          · subst h4
            refine ⟨0,0,[],Ev.bind (Ev.bind hsp (Ev.no hb hj)) (fin (0,0,[],false) _ _ _ (qqV_none s).symm),fun w' d' l' h1 h7=>?_⟩
            obtain ⟨c1,c2,c3,c4⟩:=back w' d' l' h1 h7
            rw [List.drop_zero,parts l' c3 c4] at h5
            obtain ⟨c,hc,rfl⟩:=List.mem_map.mp h5
            rw [clueT_bytes,clueU_split (c4 c hc)] at h6
            exact absurd rfl h6
      · refine ⟨0,0,[],Ev.bind (Ev.bind hsp (Ev.no hb ?_)) (fin (0,0,[],false) _ _ _ (qqV_none s).symm),fun w' d' l' h1 h4=>?_⟩
        · rw [hP]
          refine Ev.step (fun k=>rfl) ?_
          simp only [spec_pzParse.j0]
          exact Ev.no (by simp) (Ev.yes (by simp) (Ev.bind Y (Ev.no (by rw [List.length_map];omega) (Ev.now _))))
        · obtain ⟨y1,y2,_,_⟩:=byt w' d' l' h1 h4
          rw [hP] at y1
          rw [(List.cons.inj y1).1,y2] at h3
          exact absurd rfl h3
    · refine ⟨0,0,[],Ev.bind (Ev.bind hsp (Ev.no hb ?_)) (fin (0,0,[],false) _ _ _ (qqV_none s).symm),fun w' d' l' h1 h4=>?_⟩
      · have e:((((splL 58 s.data.toList).map byL).length:Int) != 2)=true:=by
          rw [List.length_map,bne_iff_ne];omega
        rw [e];exact bad
      · obtain ⟨y1,_,_,_⟩:=byt w' d' l' h1 h4
        rw [y1] at h2
        exact absurd rfl h2
theorem qqV_len (w d:Int) (l:List S48) (s:ByteArray):(qqV w d l s).2.2.1.length≤6:=by
  unfold qqV
  by_cases h:puzzleB w d l=true∧puzzleT w d l=s
  · rw [if_pos h]
    exact (puzzleB_txt h.1).2.1
  · rw [if_neg h];exact Nat.zero_le _
/-! Behind a row's end: what is stored there turns nothing of the row; 'clear' at one element of several cells. -/
theorem R_spare {α:Type} {d:Kd α} {e:Nat} {w:World} {base g n cap:Nat} {ok:Nat→Prop} {xs:List α} (h:d.R e w base ok (.slice (some ⟨g,0,none⟩) n cap) xs)
    (zs:List Value) (o:Nat) (ho:xs.length * d.sz≤o) (hz:o + zs.length≤cap * d.sz):d.R e (w.setCells g o zs) base ok (.slice (some ⟨g,0,none⟩) n cap) xs:=by
  obtain ⟨h0,inner,hown,hr⟩:=h
  refine ⟨h0,inner,⟨hown.1,?_⟩,hr.imp_ (fun p c hp=>d.M_move (fun k hk=>?_) hp)⟩
  · rcases hown.2 with ⟨hv,_⟩ | ⟨g',cap',cur,hv,hb,hh,hn,hcm,hcs,htake⟩
    · cases hv
    · injection hv with ha hn' hc
      injection ha with ha
      injection ha with hg
      subst hg hc
      obtain ⟨cur',h1,h2,h3⟩:=setCells_row zs o w cur hh (by omega)
      refine .inr ⟨g,cap,cur',by rw [hn'],hb,h1,hn,hcm,by omega,?_⟩
      have hcl:cur.toList.length=cap * d.sz:=by simpa using hcs
      have hle:xs.length * d.sz≤(List.take o cur.toList).length:=by
        rw [List.length_take]
        exact Nat.le_min.mpr ⟨ho,by omega⟩
      rw [h3,List.append_assoc,List.take_append_of_le_length hle,List.take_take,Nat.min_eq_left ho,htake]
  · refine setCells_far zs o k (fun e=>hk.2 ?_)
    subst e;rfl
theorem run_clear_one {P:Program} (w:World) (t e ty:TypeId) (z:Value) (zs:List Value) (ht:P.underlying t=some (.slice e)) (hv : ∀ w,(zeroValue e).run P w = .ok z w) (hz:z.cells.toList=zs) (h1 : ∀ u∈zs,u.oneCell'=true) (b o c:Nat)
    (hc : ∀ j,j < zs.length→(w.cell? ⟨b,o + j,none⟩).isSome=true) (hf : ∀ j,j < zs.length→w.frozen? ⟨b,o + j,none⟩=false) :
    (Builtin.clear_ #[t] ty #[.slice (some ⟨b,o,none⟩) 1 c]).run P w = .ok (.tuple #[]) (w.setCells b o zs):=by
  have hzc:(Builtin.zeroCells z.cells 1).toList=zs:=by
    rw [←hz]
    simp only [Builtin.zeroCells,Nat.one_mul,Array.toList_map,Array.toList_range]
    apply List.ext_getElem
    · simp
    · intro i h1 h2
      have h2':i < z.cells.size:=by simpa using h2
      simp [Nat.mod_eq_of_lt h2',h2']
  have hst:=run_storeCells_cells (P:=P) b o zs 0 w (by simpa using hc) (by simpa using hf) h1
  simp only [Nat.add_zero] at hst
  simp [Builtin.clear_,run_underlying ht,hv,hzc,hst]
theorem row_cells {α:Type} {d:Kd α} {e:Nat} {w:World} {base g n cap:Nat} {ok:Nat→Prop} {xs:List α} (h:d.R e w base ok (.slice (some ⟨g,0,none⟩) n cap) xs) :
    base≤g∧n=xs.length∧n≤cap∧cap≤9223372036854775807∧∀ j,j < cap * d.sz→(w.cell? ⟨g,j,none⟩).isSome=true∧w.frozen? ⟨g,j,none⟩=false:=by
  obtain ⟨h0,inner,hown,hr⟩:=h
  rcases hown.2 with ⟨hv,_⟩ | ⟨g',cap',cur,hv,hb,hh,hn,hcm,hcs,htake⟩
  · cases hv
  · injection hv with ha hn' hc
    injection ha with ha
    injection ha with hg
    subst hg hc
    refine ⟨hb,hn',by omega,by unfold maxLen at hcm;exact hcm,fun j hj=>⟨?_,?_⟩⟩
    · rw [blk_cell hh j];rw [Array.getElem?_eq_getElem (by omega)];rfl
    · exact blk_frozen hh j
theorem below_cells {B g:Nat} {w0:World} (hg:B≤g) : ∀ (vs:List Value) (o:Nat) (w:World),Below B w0 w→Below B w0 (w.setCells g o vs)
  | [],_,_,h=>h
  | v :: r,o,w,h=>below_cells hg r (o + 1) _ (h.setCell (p:=⟨g,o,none⟩) hg v)
theorem row_form {α:Type} {d:Kd α} {e:Nat} {w:World} {base:Nat} {ok:Nat→Prop} {v:Value} {xs:List α} {n:Nat} (h:d.R e w base ok v xs) (hn:xs.length=n + 1) :
    ∃ g cap,v = .slice (some ⟨g,0,none⟩) (n + 1) cap:=by
  obtain ⟨h0,inner,hown,hr⟩:=h
  rcases hown.2 with ⟨_,hv⟩ | ⟨g',cap',cur,hv,_⟩
  · omega
  · exact ⟨g',cap',by rw [hv,hn]⟩
/-! ### impl_text: function 92 -/
def impl_text.l0:Nat→List Int→List Int→Int→Int→Option (ByteArray)
  | 0,_,_,_,_=>none
  | k + 1,x3,x7,x8,x9=>if x9 < x8 then (if 0≤x9 then (if x9 < (x7.length:Int) then (if x3.length < 140737488355328 then (impl_text.l0 k (x3 ++ [(wrap64 (48 + (rd x7 x9))) % 256]) x7 x8 (wrap64 (x9 + 1))) else (none)) else (none)) else (none)) else (some (strOfNums x3))
def impl_text.f (k:Nat) (l0:List Int):Option (ByteArray):=impl_text.l0 k (([]:List Int)) l0 (l0.length:Int) 0
set_option maxHeartbeats 8000000 in
set_option maxRecDepth 100000 in
theorem impl_text.calls (k:Nat) (A0:Option Addr) (c0:Nat) (l0:List Int) (r:ByteArray) (w:World) (ag:Kd.C (Kd.int .i64) w A0 l0.length l0) (ah:l0.length≤c0) (h:impl_text.f k l0=some r) :
    Calls Tryz.prog 92 #[.slice A0 l0.length c0] w fun e w'=>e = .returned (.string r)∧Below w.heap.size w w':=by
  have ap:=amk ag;have aA:=amk ah;clear ag ah;have HB:=amk (Below.refl w.heap.size w);unfold impl_text.f at h;have H:=h;clear h;(try rw [Option.bind_some] at H);generalize a1:(([]:List Int))=ai at H;have a6:=amk a1.symm;clear a1;have H':=amk H;clear H;go_enter Tryz.func92,Tryz.ntmps92;go_wp2_with (first | ((with_reducible refine gate_dst (N:=6) rfl ?_);refine Kd.R_lit (Kd.int .u8) _ 5 ?hg (N:=6) ?hd (xs:=([]:List Int)) (inner:=[]) (ok:=fun _=>True) (okp:=fun _=>True) ?hr ?hp (fun _ hk=>hk) trivial (Below.refl _ _) (Nat.le_refl _) (by simp) ?_;(case hd=>rfl);(case hg=>rfl);(case hr=>first | (go_simp;done) | (go_simp;rfl));(case hp=>exact (Reps.none _ _));intro au w2 a7 hb hg_ hnew_;clear hg_ hnew_;(first | rw [←a6.out] at a7 | (simp only [Int.reduceToNat] at a7;rw [←a6.out] at a7));have ac:=amk (Kd.R_lower a7 (below_size bB));replace HB:=hB2 HB hb;clear hb a7))
  go_loopg [3,9] k (fun kq v3 v9 w'=> ∃ (Z:List Int) (J:Int),v9 = .int .i64 J∧Aside0 (impl_text.l0 kq Z l0 (l0.length:Int) J=some r)∧Aside0 (kq≤k)∧Aside0 (Kd.R (Kd.int .u8) 5 w' w.heap.size (fun _=>True) v3 Z)∧Aside0 (Below w.heap.size w w'))
  case atStart=>exact ⟨(ai),(0),rS_,H',⟨Nat.le_refl _⟩,⟨oX ac⟩,⟨bB⟩⟩
  case round =>
    clear H';(try clear p2);obtain ⟨Z,J,rfl,HA,aj,HO_3,HB⟩:=hrel
    cases gk with
    | zero=>exact absurd HA.out (by simp [impl_text.l0])
    | succ k1 =>
      have H:=HA.out;clear HA;simp only [impl_text.l0] at H;replace H:=iteE H;obtain ⟨ak,H⟩ | ⟨ak,H⟩:=H
      · replace H:=iteN H;obtain ⟨av,H⟩:=H;replace H:=iteN H;obtain ⟨ax,H⟩:=H
        by_cases c7:Z.length < 140737488355328
        · rw [if_pos c7] at H;have al:=amk c7;clear c7;(try rw [Option.bind_some] at H);generalize a8:((Z ++ [(wrap64 (48 + (rd l0 J))) % 256]):List Int)=am at H;have ae:=amk a8.symm;clear a8;have H':=amk H;clear H;have aa:0≤(J:Int):=dA_;have ab:J < (l0.length:Int):=dA_;obtain ⟨ar,an,Y⟩:=Kd.at_int ap.out J aa ab;cases an;replace Y:=(HB.out.cell (World.block_lt_of_cell? w _ Y)).trans Y;replace aa:=eq_true aa;replace ab:=eq_true ab;go_wp2_with (first | ((with_reducible refine gate_builtin (b:= .append) (xs:= #[.tmp 13, .tmp 17]) rfl ?_);at_builtin;refine Kd.R_append (Kd.int .u8) (w0:=w) w.heap.size rfl (.tmp 13) (.tmp 17) 22 5 (.int .u8 0) 1 rfl Tryz.underlying22 info5 rfl (by decide) (by omega) u3 Z ((wrap64 (48 + (rd l0 J))) % 256) [.int .u8 ((wrap64 (48 + (rd l0 J))) % 256)] (fun _=>True) (fun _=>False) rfl rfl rfl (fun _ hk=>hk.elim) (fun _ _=>trivial) (oX HO_3) bB (below_size bB) (by have:=al.out;omega) ?_;intro ay w8 ho hb hg hat;rw [←ae.out] at ho;replace HB:=amk (hb);have af:=amk (ho);clear HO_3;clear ho hb hg hat));go_roundg k1
          case measure=>have:=aj.out;omega
          case rel=>exact ⟨(am),(wrap64 (J + 1)),rS_,H',⟨by have:=aj.out;omega⟩,⟨oX af⟩,⟨bB⟩⟩
        · rw [if_neg c7] at H;exact absurd H (by simp)
      · obtain rfl:=Option.some.inj H;have az:=own_string (P:=Tryz.prog) Tryz.underlying22 Tryz.underlying5 Tryz.underlying9 (Kd.own_of_R HO_3.out);go_wp2;go_ret;exact ⟨rF_,bB⟩
/-! Digits of texts, texts of digits: what they come to. -/
theorem impl_text.lev (l:List Int) (hl:l.length≤1000000) : ∀ (j:Nat) (i:Int) (x:List Int),0≤i→i≤l.length→(l.length:Int) - i=j→x=(l.take i.toNat).map (fun x=>wrap64 (48 + x) % 256) →
    Ev (fun k=>impl_text.l0 k x l (l.length:Int) i) (textB l):=by
  intro j
  induction j with
  | zero =>
    intro i x h0 hi hj hx
    refine Ev.step (fun k=>rfl) (Ev.no (by omega) (Ev.id ?_))
    rw [hx,List.take_of_length_le (by omega)];rfl
  | succ j ih =>
    intro i x h0 hi hj hx
    have hlt:i.toNat < l.length:=by omega
    have hxl:x.length≤1000000:=by rw [hx,List.length_map,List.length_take];omega
    refine Ev.step (fun k=>rfl) (Ev.yes (by omega) (Ev.yes h0 (Ev.yes (by omega) (Ev.yes (by omega) ?_))))
    rw [w64 (x:=i + 1) (by omega) (by omega)]
    refine ih (i + 1) _ (by omega) (by omega) (by omega) ?_
    rw [toNat_succ h0,List.take_succ_eq_append_getElem hlt,List.map_append,hx,rd_at hlt];rfl
theorem impl_text.ev (l:List Int) (hl:l.length≤1000000):Ev (fun k=>impl_text.f k l) (textB l):=by
  unfold impl_text.f
  exact impl_text.lev l hl l.length 0 [] (by omega) (by omega) (by omega) (by simp)
/-! impl's code of a number, by hand. -/
def impl_Lock_code.f (a b c:Int):Option ByteArray:=if lockB a b=true∧0≤c∧c≤9223372036854775807 then some (codeB a b c) else none
theorem impl_Lock_code.is {a b c:Int} (h:lockB a b=true) (h0:0≤c) (h1:c≤9223372036854775807):impl_Lock_code.f a b c=some (codeB a b c):=by unfold impl_Lock_code.f;rw [if_pos ⟨h,h0,h1⟩]
set_option maxHeartbeats 4000000 in
set_option maxRecDepth 100000 in
theorem impl_Lock_code.calls (Y J a1:Int) (r:ByteArray) (w:World) (h:impl_Lock_code.f Y J a1=some r) :
    Calls Tryz.prog 64 #[.agg #[.int .i64 Y, .int .i64 J], .int .i64 a1] w fun e w'=>e = .returned (.string r)∧Below w.heap.size w w':=by
  unfold impl_Lock_code.f at h
  by_cases hc:lockB Y J=true∧0≤a1∧a1≤9223372036854775807
  · rw [if_pos hc] at h
    obtain rfl:=Option.some.inj h
    clear h
    obtain ⟨hl,aa,ab⟩:=hc
    obtain ⟨w1,w2,d1,d2⟩:=lockB_iff.mp hl
    have HR:=amk (rfl:codeB Y J a1=codeB Y J a1)
    obtain ⟨kt,hkt⟩:=(impl_text.ev (digs J Y.toNat a1) (by rw [digs_length];omega)).rounds
    have HT:=amk hkt
    have hinfo:(Tryz.prog.info? 3).map (fun i=>(i.zero,i.size,i.bytes))=some (some (.int .i64 0),1,8):=by kernel_rfl
    have HI:=amk hinfo
    have hu:=Tryz.underlying25
    clear hkt hl hinfo HR
    show Calls Tryz.prog _ _ w fun e w'=>e = .returned (.string (textB (digs J Y.toNat a1)))∧Below w.heap.size w w'
    generalize hD:digs J Y.toNat a1=D at HT ⊢
    have HD:=amk hD
    clear hD
    go_enter Tryz.func64,Tryz.ntmps64
    go_wp2_with ((with_reducible refine gate_dst (N:=9) rfl ?_);refine Kd.R_make (Kd.int .i64) (w0:=w.alloc (.cells #[.int .i64 Y, .int .i64 J] 25)) (w.heap.size + 1) 3 (by rfl) (N:=9) rfl 39 (.tmp 8) (.tmp 8) rfl Y rfl rfl Tryz.underlying39 (.int .i64 0) 8 HI.out rfl (by decide) (by omega) (0:Int) (ok:=fun _=>True) (okp:=fun _=>False) rfl (fun _ h=>h.elim) trivial (by omega) (by omega) (by simpa using Below.refl _ _) (by simp) ?_;intro v1 w3 a6 Z ac a7;have ae:w3.cell? ⟨w.heap.size,0,none⟩=some (.int .i64 Y):=(Z.cell (p:=⟨w.heap.size,0,none⟩) (by simp)).trans (by simp);have a8:w3.cell? ⟨w.heap.size,1,none⟩=some (.int .i64 J):=(Z.cell (p:=⟨w.heap.size,1,none⟩) (by simp)).trans (by simp);obtain ⟨m,hm⟩ : ∃ m,Y.toNat=m + 1:=⟨Y.toNat - 1,by omega⟩;obtain ⟨g,cap,rfl⟩:=row_form (n:=m) a6 (by simpa using hm);have af:=amk a6;have ag:=amk Z;have HM:=amk hm;clear a6 Z ac a7 hm)
    go_loopg [1,6] (m + 2) (fun gg s1 s6 wr=> ∃ (n i:Int) (T:List Int),s1 = .int .i64 n∧s6 = .int .i64 i∧Aside0 (0≤n∧n≤9223372036854775807)∧Aside0 (-1≤i∧i≤m∧i + 1≤gg)∧Aside0 (digs J (i + 1).toNat n ++ T=D)∧Aside0 ((Kd.int .i64).R 3 wr (w.heap.size + 1) (fun _=>True) (.slice (some ⟨g,0,none⟩) (m + 1) cap) (List.replicate (i + 1).toNat 0 ++ T))∧Aside0 (Below (w.heap.size + 1) (w.alloc (.cells #[.int .i64 Y, .int .i64 J] 25)) wr))
    case atStart=>exact ⟨a1,Y - 1,[],rfl,rfl,⟨aa,ab⟩,⟨by have:=HM.out;omega⟩,⟨by rw [List.append_nil,show Y - 1 + 1=Y by omega];exact HD.out⟩,⟨by rw [List.append_nil,show Y - 1 + 1=Y by omega];exact af.out⟩,ag⟩
    case round =>
      obtain ⟨n,i,T,rfl,rfl,HN,HII,HDD,HRR,HBB⟩:=hrel
      clear ae a8
      have a8:wr.cell? ⟨w.heap.size,1,none⟩=some (.int .i64 J):=(HBB.out.cell (p:=⟨w.heap.size,1,none⟩) (by simp)).trans (by simp)
      by_cases hi:0≤i
      · have ah:decide (i ≥ 0)=true:=decide_eq_true hi
        obtain ⟨hn0',hn1'⟩:=HN.out
        obtain ⟨_,ak,_⟩:=HII.out
        have him:i < ((m + 1:Nat):Int):=by omega
        obtain ⟨hbg,hlen,hcapm,ai,hcells⟩:=row_cells HRR.out
        have hlt:i.toNat < cap:=by omega
        obtain ⟨hci,hfi⟩:=hcells i.toNat (by show _ < cap * 1;omega)
        obtain ⟨vi,hvi⟩:=Option.isSome_iff_exists.mp hci
        clear hci hcells
        have hdn:(J == 0)=false:=by simp;omega
        have e1:n.tmod J=n % J:=Int.tmod_eq_emod_of_nonneg hn0'
        have e2:n.tdiv J=n / J:=Int.tdiv_eq_ediv_of_nonneg hn0'
        have r1:0≤n % J:=Int.emod_nonneg _ (by omega)
        have r2:n % J < J:=Int.emod_lt_of_pos _ (by omega)
        have r3:0≤n / J:=Int.ediv_nonneg hn0' (by omega)
        have r4:n / J≤n:=Int.ediv_le_self _ hn0'
        have z1:wrap64 (n % J)=n % J:=w64 (by omega) (by omega)
        have z2:wrap64 (n / J)=n / J:=w64 (by omega) (by omega)
        have z3:wrap64 (i - 1)=i - 1:=w64 (by omega) (by omega)
        go_wp2
        go_region
        have HR':=amk (Kd.R_drew (Kd.R_putn HRR.out i (n % J)))
        have HB':Aside0 (Below (w.heap.size + 1) (w.alloc (.cells #[.int .i64 Y, .int .i64 J] 25)) (wr.setCell ⟨g,i.toNat,none⟩ (.int .i64 (n % J))).drew):=⟨bd_ (HBB.out.setCell (p:=⟨g,i.toNat,none⟩) hbg _)⟩
        go_wp2
        go_roundg i.toNat
        obtain ⟨k,rfl⟩ : ∃ k:Nat,i=(k:Int):=⟨i.toNat,by omega⟩
        rotate_left
        · omega
        refine ⟨n / J,(k:Int) - 1,n % J :: T,rfl,rfl,⟨by omega,by omega⟩,⟨by omega,by omega,by omega⟩,⟨?_⟩,⟨?_⟩,HB'⟩
        · have:=HDD.out
          rw [show (k:Int) + 1=((k + 1:Nat):Int) by omega,Int.toNat_natCast] at this
          rw [show (k:Int) - 1 + 1=(k:Int) by omega,Int.toNat_natCast]
          rw [digs,List.append_assoc] at this
          exact this
        · have:=HR'.out
          rw [show (k:Int) + 1=((k + 1:Nat):Int) by omega,Int.toNat_natCast,Int.toNat_natCast,rep_set] at this
          rw [show (k:Int) - 1 + 1=(k:Int) by omega,Int.toNat_natCast]
          exact this
      · have ah:decide (i ≥ 0)=false:=decide_eq_false hi
        have hT:T=D:=by
          have:=HDD.out
          rw [show (i + 1).toNat=0 by omega] at this
          exact this
        have HX:Aside0 ((Kd.int .i64).R 3 wr (w.heap.size + 1) (fun _=>True) (.slice (some ⟨g,0,none⟩) (m + 1) cap) D):=⟨by
          have:=HRR.out
          rw [show (i + 1).toNat=0 by omega,hT] at this
          exact this⟩
        obtain ⟨hlen,hcapm,hC⟩:=Kd.R_reads' HX.out
        have HC:Calls Tryz.prog 92 #[.slice (some ⟨g,0,none⟩) (m + 1) cap] wr fun e w'=>e = .returned (.string (textB D))∧Below wr.heap.size wr w':=by
          have:=impl_text.calls kt (some ⟨g,0,none⟩) cap D (textB D) wr hC (by omega) HT.out
          rw [←hlen] at this
          exact this
        clear hC hlen hcapm
        have HCA:=amk HC
        clear HC
        go_wp2_with (go_at_call 92;refine HCA.out.mono ?_;rintro e w9 ⟨rfl,aj⟩)
        go_ret
        refine ⟨rfl,?_⟩
        have h1:Below w.heap.size w (w.alloc (.cells #[.int .i64 Y, .int .i64 J] 25)):=ba_ (Below.refl _ _) _
        have h2:=HBB.out
        exact (below_then h1 (by simp) (h2.mono (by simp))).trans (aj.mono (by have:=h2.size;simp at this;omega))
  · rw [if_neg hc] at h
    cases h
/-! ### impl_around: function 162 -/
def impl_around.f (a0:Int) (a1:Int):Option (Int):=if a1=0 then (none) else (some (Int.tmod (wrap64 ((Int.tmod a0 a1) + a1)) a1))
set_option maxHeartbeats 8000000 in
set_option maxRecDepth 100000 in
theorem impl_around.calls (a0:Int) (a1:Int) (r:Int) (w:World) (h:impl_around.f a0 a1=some r) :
    Calls Tryz.prog 162 #[.int .i64 a0, .int .i64 a1] w fun e w'=>e = .returned (.int .i64 r)∧Drawn0 w w':=by
  unfold impl_around.f at h;have H:=h;clear h
  by_cases c3:a1=0
  · rw [if_pos c3] at H;exact absurd H (by simp)
  · rw [if_neg c3] at H;have J:(a1 == 0)=false:=beq_eq_false_iff_ne.mpr c3;have Y:(a1 != 0)=true:=bne_iff_ne.mpr c3;obtain rfl:=Option.some.inj H;go_enter Tryz.func162,Tryz.ntmps162;go_wp2;go_ret;exact ⟨rS_,dR_⟩
/-! ### impl_Lock_gap: function 150 -/
def impl_Lock_gap.f (Y:Int) (J:Int) (a1:Int) (a2:Int):Option (Int):=(impl_around.f (wrap64 (a2 - a1)) J).bind fun t236=>(some t236)
set_option maxHeartbeats 8000000 in
set_option maxRecDepth 100000 in
theorem impl_Lock_gap.calls (Y:Int) (J:Int) (a1:Int) (a2:Int) (r:Int) (w:World) (h:impl_Lock_gap.f Y J a1 a2=some r) :
    Calls Tryz.prog 150 #[.agg #[.int .i64 Y, .int .i64 J], .int .i64 a1, .int .i64 a2] w fun e w'=>e = .returned (.int .i64 r)∧Below w.heap.size w w':=by
  have af:=Tryz.underlying25;have HB:=amk (Below.refl w.heap.size w);unfold impl_Lock_gap.f at h;have H:=h;clear h;replace H:=bE H;obtain ⟨t236,A4,H⟩:=H;obtain rfl:=Option.some.inj H;go_enter Tryz.func150,Tryz.ntmps150;go_wp2_with (first | ((with_reducible refine gate_dst (N:=3) rfl ?_);refine boxE_ HB 3 #[.int .i64 Y, .int .i64 J] 25 ?_;clear HB;intro ab w5 HB Z ac ae hb;clear hb;obtain ⟨a6,a7,a8,aa⟩:=cells2 Z.out) | ((with_reducible refine gate_callee (f:=162) rfl ?_);refine goesL_ (some 12) rfl rfl Tryz.func162 (by kernel_rfl) rfl #[.int .i64 (wrap64 (a2 - a1)), .int .i64 J] rfl gL_ ?_;(with_reducible refine (impl_around.calls (wrap64 (a2 - a1)) J t236 _ A4.out).mono ?_);rintro e w' ⟨rfl,⟨nd,rfl⟩⟩;refine ⟨_,rfl,?_⟩));go_ret;exact ⟨rF_,bB⟩
/-! ### impl_Lock_near: function 131 -/
def impl_Lock_near.f (Z:Int) (J:Int) (a1:Int) (a2:Int):Option (Int):=(impl_Lock_gap.f Z J a1 a2).bind fun Y=>(some (mn Y (wrap64 (J - Y))))
set_option maxHeartbeats 8000000 in
set_option maxRecDepth 100000 in
theorem impl_Lock_near.calls (a6:Int) (J:Int) (a1:Int) (a2:Int) (r:Int) (w:World) (h:impl_Lock_near.f a6 J a1 a2=some r) :
    Calls Tryz.prog 131 #[.agg #[.int .i64 a6, .int .i64 J], .int .i64 a1, .int .i64 a2] w fun e w'=>e = .returned (.int .i64 r)∧Below w.heap.size w w':=by
  have am:=Tryz.underlying25;have HB:=amk (Below.refl w.heap.size w);unfold impl_Lock_near.f at h;have H:=h;clear h;replace H:=bE H;obtain ⟨Y,A4,H⟩:=H;obtain ⟨a8,a7⟩ : ∃ j_:Int,(mn Y (wrap64 (J - Y)))=j_:=⟨_,rfl⟩;(replace H:(some a8)=some r:=by first | (rw [a7] at H;exact H) | (simp only [a7] at H ⊢;exact H));(try rw [a7] at A4);have hji5_:(if (wrap64 (J - Y)) < Y then (wrap64 (J - Y)) else Y)=a8:=a7;obtain rfl:=Option.some.inj H;go_enter Tryz.func131,Tryz.ntmps131;go_wp2_with (first | ((with_reducible refine gate_dst (N:=3) rfl ?_);refine boxE_ HB 3 #[.int .i64 a6, .int .i64 J] 25 ?_;clear HB;intro aj w6 HB Z ak al hb;clear hb;obtain ⟨aa,ab,ac,ae⟩:=cells2 Z.out) | ((with_reducible refine gate_callee (f:=150) rfl ?_);refine goesL_ (some 11) rfl rfl Tryz.func150 (by kernel_rfl) rfl #[.agg #[.int .i64 a6, .int .i64 J], .int .i64 a1, .int .i64 a2] rfl gL_ ?_;(with_reducible refine (impl_Lock_gap.calls a6 J a1 a2 Y _ A4.out).mono ?_);rintro e w8 ⟨rfl,hb⟩;refine ⟨_,rfl,?_⟩;replace Z:=kb2 Z hb;replace HB:=hB2 HB hb;(try clear hb);obtain ⟨af,ag,ah,ai⟩:=cells2 Z.out));go_ret;exact ⟨by first | rfl | (simp [errW_none,errW_some] <;> rfl) | (simp only [←a7];first | rfl | (simp [errW_none,errW_some] <;> rfl)) | (simp [*,errW_none,errW_some] <;> rfl),bB⟩
/-! ### impl_Lock_distance: function 105 -/
def impl_Lock_distance.l0:Nat→ByteArray→ByteArray→Int→Int→Int→Int→Int→Option (Int)
  | 0,_,_,_,_,_,_,_=>none
  | k + 1,x1,x2,x7,a1,Z,J,Y=>if Z < a1 then (if 0≤Z then (if Z < (x1.size:Int) then (if Z < (x2.size:Int) then ((impl_Lock_near.f J Y (wrap64 (bt x1 Z)) (wrap64 (bt x2 Z))).bind fun a6=>(impl_Lock_distance.l0 k x1 x2 (wrap64 (x7 + a6)) a1 (wrap64 (Z + 1)) J Y)) else (none)) else (none)) else (none)) else (some x7)
def impl_Lock_distance.f (k:Nat) (J:Int) (Y:Int) (a1:ByteArray) (a2:ByteArray):Option (Int):=impl_Lock_distance.l0 k a1 a2 0 (a1.size:Int) 0 J Y
def impl_Lock_distance.T5:Bool×List (List Nat×List Nat):=(true,[([],[]),([],[]),([],[]),([],[]),([2,3],[2,3]),([4],[4]),([],[]),([],[]),([6,7],[6,7]),([8],[8]),([1,5,9],[1,5,9]),([0,10],[0,10]),([11,10,0,1,2,3,4,5,6,7,8,9,10,11],[0,11])])
def impl_Lock_distance.B5:List Nat:=[0,0,0,0,12,28,0,0,192,448,1022,2047,4095]
theorem impl_Lock_distance.tab5:rtab .any (opsOf Tryz.f105 5)=impl_Lock_distance.T5:=by kernel_rfl
theorem impl_Lock_distance.bits5:waitsOk impl_Lock_distance.T5.2 impl_Lock_distance.B5=true:=by kernel_rfl
set_option maxHeartbeats 8000000 in
set_option maxRecDepth 100000 in
theorem impl_Lock_distance.calls (k:Nat) (Z:Int) (a6:Int) (a1:ByteArray) (a2:ByteArray) (r:Int) (w:World) (h:impl_Lock_distance.f k Z a6 a1 a2=some r) :
    Calls Tryz.prog 105 #[.agg #[.int .i64 Z, .int .i64 a6], .string a1, .string a2] w fun e w'=>e = .returned (.int .i64 r)∧Below w.heap.size w w':=by
  have ak:=Tryz.underlying25;have HB:=amk (Below.refl w.heap.size w);unfold impl_Lock_distance.f at h;have H:=h;clear h;have H':=amk H;clear H;go_enter Tryz.func105,Tryz.ntmps105;go_wp2_with (first | ((with_reducible refine gate_dst (N:=3) rfl ?_);refine boxE_ HB 3 #[.int .i64 Z, .int .i64 a6] 25 ?_;clear HB;intro a7 w4 HB Y ag ah hb;clear hb))
  go_loopg [7,11] k (fun kq v7 ai w'=> ∃ (a8:Int) (J:Int),v7 = .int .i64 a8∧ai = .int .i64 J∧Aside0 (impl_Lock_distance.l0 kq a1 a2 a8 (a1.size:Int) J Z a6=some r)∧Aside0 (kq≤k)∧Aside0 (w'.heap[a7]?=some (.cells #[.int .i64 Z, .int .i64 a6] 25 (0,0)))∧Aside0 (Below w.heap.size w w'))
  case atStart=>exact ⟨(0),(0),rS_,rS_,H',⟨Nat.le_refl _⟩,⟨kB Y⟩,⟨bB⟩⟩
  case round =>
    clear H';(try clear c1);(try clear p2);obtain ⟨a8,J,rfl,rfl,HA,ab,Y,HB⟩:=hrel
    cases gk with
    | zero=>exact absurd HA.out (by simp [impl_Lock_distance.l0])
    | succ k1 =>
      have H:=HA.out;clear HA;simp only [impl_Lock_distance.l0] at H;replace H:=iteE H;obtain ⟨ac,H⟩ | ⟨ac,H⟩:=H
      · replace H:=iteN H;obtain ⟨al,H⟩:=H;replace H:=iteN H;obtain ⟨am,H⟩:=H;replace H:=iteN H;obtain ⟨an,H⟩:=H;replace H:=bE H;obtain ⟨aa,aj,H⟩:=H;have H':=amk H;clear H;(try go_wp2);replace Y:=amk (blk_drew Y.out);replace HB:=amk (bd_ HB.out);have p8:0≤(J:Int):=dA_;have q8:J < (a1.size:Int):=dA_;have ar:=bt_at a1 J;replace p8:=eq_true p8;replace q8:=eq_true q8;have ae:0≤(J:Int):=dA_;have af:J < (a2.size:Int):=dA_;have ap:=bt_at a2 J;replace ae:=eq_true ae;replace af:=eq_true af;refine start_ (n:=13) (S:=fun w'=>w'.cell? ⟨a7,0,none⟩=some (.int .i64 Z)∧w'.cell? ⟨a7,1,none⟩=some (.int .i64 a6)) (ds:=[]) (bA 13 0) (by kernel_rfl) rfl rfl ⟨(blk_cell Y.out 0).trans rfl,(blk_cell Y.out 1).trans rfl⟩ (fun hHeld=>?_);refine with_tabW impl_Lock_distance.tab5 impl_Lock_distance.bits5 (fun HT_ HW_=>?_);generalize wr.drew=au at Y HB hHeld ⊢;refine pU_ HT_ 0 (some 14) (bA 13 1) ?_;refine pU_ HT_ 2 (some 16) (bA 13 5) ?_;refine pU_ HT_ 3 (some 17) (bA 13 13) ?_;refine pU_ HT_ 6 (some 20) (bA 13 77) ?_;refine pU_ HT_ 7 (some 21) (bA 13 205) ?_;refine tK_ HT_ HW_ hHeld 1 (some 15) (bA 13 207) ?_;refine tK_ HT_ HW_ hHeld 4 (some 18) (bA 13 223) ?_;refine pU_ HT_ 5 (some 19) (bA 13 255) ?_;refine tK_ HT_ HW_ hHeld 8 (some 22) (bA 13 511) ?_;refine pU_ HT_ 9 (some 23) (bA 13 1023) ?_;refine oN_ HT_ 10 (some 24) (bA 13 2047) (fun K hK=>?_);refine goes_ Tryz.func131 (by kernel_rfl) rfl #[.agg #[.int .i64 Z, .int .i64 a6], .int .i64 (wrap64 (bt a1 J)), .int .i64 (wrap64 (bt a2 J))] (by rfl) rfl rfl gL_ ?_;(with_reducible refine (impl_Lock_near.calls Z a6 (wrap64 (bt a1 J)) (wrap64 (bt a2 J)) aa _ aj.out).mono ?_);rintro e av ⟨rfl,hb⟩;refine ⟨_,rfl,?_⟩;replace Y:=kb2 Y hb;replace HB:=hB2 HB hb;(try clear hb);refine hK.out _ _ hC_ (fun hHeld=>?_);clear hK K;refine nN_ (some 24) ?_;refine pU_ HT_ 11 (some 25) (bA 13 4095) ?_;refine pU_ HT_ 12 (some 7) (bA 13 8191) ?_;refine done_ (done_of HT_.out (by kernel_rfl)) ?_;(try go_wp2);go_roundg k1
        case measure=>have:=ab.out;omega
        case rel=>exact ⟨(wrap64 (a8 + aa)),(wrap64 (J + 1)),rS_,rS_,H',⟨by have:=ab.out;omega⟩,⟨kB Y⟩,⟨bB⟩⟩
      · obtain rfl:=Option.some.inj H;go_wp2;go_ret;exact ⟨rF_,bB⟩
/-! ### impl_Lock_number: function 106 -/
def impl_Lock_number.l0:Nat→Int→List Int→Int→Int→Int→Int→Option (Int)
  | 0,_,_,_,_,_,_=>none
  | k + 1,x5,x9,a1,Y,Z,J=>if Y < a1 then (if 0≤Y then (if Y < (x9.length:Int) then (impl_Lock_number.l0 k (wrap64 ((wrap64 (x5 * J)) + (rd x9 Y))) x9 a1 (wrap64 (Y + 1)) Z J) else (none)) else (none)) else (some x5)
def impl_Lock_number.f (k:Nat) (Y:Int) (Z:Int) (a1:ByteArray):Option (Int):=(impl_digits.f k a1).bind fun J=>(impl_Lock_number.l0 k 0 J (J.length:Int) 0 Y Z)
set_option maxHeartbeats 8000000 in
set_option maxRecDepth 100000 in
theorem impl_Lock_number.calls (k:Nat) (a7:Int) (a6:Int) (a1:ByteArray) (r:Int) (w:World) (h:impl_Lock_number.f k a7 a6 a1=some r) :
    Calls Tryz.prog 106 #[.agg #[.int .i64 a7, .int .i64 a6], .string a1] w fun e w'=>e = .returned (.int .i64 r)∧Below w.heap.size w w':=by
  have aA:=Tryz.underlying25;have HB:=amk (Below.refl w.heap.size w);unfold impl_Lock_number.f at h;have H:=h;clear h;replace H:=bE H;obtain ⟨Z,A3,H⟩:=H;have H':=amk H;clear H;go_enter Tryz.func106,Tryz.ntmps106;go_wp2_with (first | ((with_reducible refine gate_dst (N:=2) rfl ?_);refine boxE_ HB 2 #[.int .i64 a7, .int .i64 a6] 25 ?_;clear HB;intro ae w4 HB Y ap ar hb;clear hb) | ((with_reducible refine gate_callee (f:=103) rfl ?_);refine goesL_ (some 9) rfl rfl Tryz.func103 (by kernel_rfl) rfl #[.string a1] rfl gL_ ?_;(with_reducible refine (impl_digits.calls k a1 Z _ A3.out).mono ?_);rintro e w5 ⟨aC,rfl,af,hb⟩;refine ⟨_,rfl,?_⟩;have aa:=amk (Kd.R_lower af (below_size bB));replace Y:=kb2 Y hb;replace HB:=hB2 HB hb;(try clear hb);(try clear af);obtain ⟨au,av,ax⟩:=Kd.R_slice aa.out;subst ax))
  go_loopg [5,11] k (fun kq v5 ay w'=> ∃ (a8:Int) (J:Int),v5 = .int .i64 a8∧ay = .int .i64 J∧Aside0 (impl_Lock_number.l0 kq a8 Z (Z.length:Int) J a7 a6=some r)∧Aside0 (kq≤k)∧Aside0 (Kd.R (Kd.int .i64) 3 w' w.heap.size (fun _=>True) (.slice au Z.length av) Z)∧Aside0 (w'.heap[ae]?=some (.cells #[.int .i64 a7, .int .i64 a6] 25 (0,0)))∧Aside0 (Below w.heap.size w w'))
  case atStart=>exact ⟨(0),(0),rS_,rS_,H',⟨Nat.le_refl _⟩,⟨oX aa⟩,⟨kB Y⟩,⟨bB⟩⟩
  case round =>
    clear H';(try clear c1);(try clear p2);obtain ⟨a8,J,rfl,rfl,HA,ag,HO_9,Y,HB⟩:=hrel
    cases gk with
    | zero=>exact absurd HA.out (by simp [impl_Lock_number.l0])
    | succ k1 =>
      have H:=HA.out;clear HA;simp only [impl_Lock_number.l0] at H;replace H:=iteE H;obtain ⟨ah,H⟩ | ⟨ah,H⟩:=H
      · replace H:=iteN H;obtain ⟨aD,H⟩:=H;replace H:=iteN H;obtain ⟨aE,H⟩:=H;have H':=amk H;clear H;have ab:0≤(J:Int):=dA_;have ac:J < (Z.length:Int):=dA_;obtain ⟨az,ai,aj⟩:=Kd.at_int (Kd.R_reads' HO_9.out).2.2 J ab ac;cases ai;replace ab:=eq_true ab;replace ac:=eq_true ac;obtain ⟨ak,al,am,an⟩:=cells2 Y.out;go_wp2;go_roundg k1
        case measure=>have:=ag.out;omega
        case rel=>exact ⟨(wrap64 ((wrap64 (a8 * a6)) + (rd Z J))),(wrap64 (J + 1)),rS_,rS_,H',⟨by have:=ag.out;omega⟩,⟨oX HO_9⟩,⟨kB Y⟩,⟨bB⟩⟩
      · obtain rfl:=Option.some.inj H;go_wp2;go_ret;exact ⟨rF_,bB⟩
/-! Declarations moved out of HHint. -/
theorem impl_digits_of {s:ByteArray} (h6:s.size≤6) (h : ∀ i < s.size,48≤bt s (i:Nat)∧bt s (i:Nat)≤57):Ev (fun k=>impl_digits.f k s) ((List.range s.size).map fun i=>bt s (i:Nat) - 48):=by
  have : ∀ m i:Nat,i + m=s.size→∀ xs:List Int,xs.length=i→Ev (fun k=>impl_digits.l0 k s xs (s.size:Int) (i:Nat)) (xs ++ (List.range' i m).map fun i=>bt s (i:Nat) - 48):=by
    intro m
    induction m with
    | zero =>
      intro i hi xs hx
      refine Ev.step (fun k=>rfl) ?_
      refine Ev.no (by omega) ?_
      exact Ev.id (by simp)
    | succ m ih =>
      intro i hi xs hx
      refine Ev.step (fun k=>rfl) ?_
      refine Ev.yes (by omega) (Ev.yes (by omega) (Ev.yes (by omega) (Ev.yes (by omega) ?_)))
      have:=ih (i + 1) (by omega) (xs ++ [bt s (i:Nat) - 48]) (by simp [hx])
      have hb:=h i (by omega)
      rw [show ((bt s (i:Nat)) - 48) % 256=bt s (i:Nat) - 48 by omega,show wrap64 ((i:Int) + 1)=((i + 1:Nat):Int) from w64 (by omega) (by omega)]
      refine Ev.eq this ?_
      rw [List.range'_succ]
      simp
  have:=this s.size 0 (by omega) [] rfl
  refine Ev.eq this ?_
  simp [List.range_eq_range']
section
/-! impl.hint, by hand: it counts in an array of ten. -/
def impl_hint.f (a b:ByteArray):Option (Int×Int):=if hintB a b=true then some (plN a b a.size,cmN a b a.size 10 - plN a b a.size) else none
theorem row_ints {e:Nat} {w:World} {base:Nat} {ok:Nat→Prop} {g n cap:Nat} {D:List Int} (h:(Kd.int .i64).R e w base ok (.slice (some ⟨g,0,none⟩) n cap) D) (i:Nat) (hi:i < n):w.cell? ⟨g,i,none⟩=some (.int .i64 (rd D (i:Nat))):=by
  obtain ⟨h1,h2,hC⟩:=Kd.R_reads' h
  obtain ⟨ad,e1,e2⟩:=Kd.at_int hC (i:Nat) (by omega) (by omega)
  obtain rfl:=Option.some.inj e1
  rw [show Addr.add ⟨g,0,none⟩ (i:Int).toNat=⟨g,i,none⟩ by cases i <;> simp [Addr.add]] at e2
  exact e2
def cmP (s t:ByteArray) (i n:Nat):Nat→Int
  | 0=>0
  | m + 1=>cmP s t i n m + lst (ctN s (48 + m) i) (ctN t (48 + m) n)
theorem cmP_all (s t:ByteArray) (n:Nat) : ∀ m,cmP s t n n m=cmN s t n m
  | 0=>rfl
  | m + 1=>by simp only [cmP,cmN,cmP_all s t n m]
theorem ctN_step {s:ByteArray} {i d k:Nat} (h:bt s (i:Nat)=48 + (d:Nat)):ctN s (48 + (k:Nat)) (i + 1)=ctN s (48 + (k:Nat)) i + if k=d then 1 else 0:=by
  simp only [ctN,h]
  by_cases e:k=d
  · subst e;simp
  · rw [if_neg (by omega),if_neg e]
theorem cmP_step {s t:ByteArray} {i n d:Nat} (h:bt s (i:Nat)=48 + (d:Nat)) : ∀ m,cmP s t (i + 1) n m=cmP s t i n m + if d < m then lst (ctN s (48 + (d:Nat)) i + 1) (ctN t (48 + (d:Nat)) n) - lst (ctN s (48 + (d:Nat)) i) (ctN t (48 + (d:Nat)) n) else 0
  | 0=>by simp [cmP]
  | m + 1 => by
    simp only [cmP]
    rw [cmP_step h m,ctN_step h]
    by_cases e:m=d
    · subst e
      rw [if_neg (Nat.lt_irrefl _),if_pos rfl,if_pos (Nat.lt_succ_self _)]
      omega
    · rw [if_neg e,Int.add_zero]
      by_cases e2:d < m
      · rw [if_pos e2,if_pos (by omega)];omega
      · rw [if_neg e2,if_neg (by omega)];omega
theorem cmP_zero (s t:ByteArray) (n:Nat) (h : ∀ d,0≤ctN t d n) : ∀ m,cmP s t 0 n m=0
  | 0=>rfl
  | m + 1 => by
    simp only [cmP,cmP_zero s t n h m]
    have:=h (48 + (m:Nat))
    simp only [lst]
    rw [show ctN s (48 + (m:Nat)) 0=0 from rfl]
    by_cases e:0 < ctN t (48 + (m:Nat)) n
    · rw [if_pos e];rfl
    · rw [if_neg e];omega
theorem cmP_range (s t:ByteArray) (i n:Nat) (hi:i≤n) : ∀ m,0≤cmP s t i n m∧cmP s t i n m≤n * m
  | 0=>by simp [cmP]
  | m + 1 => by
    have h:=cmP_range s t i n hi m
    have h1:=ctN_range s (48 + (m:Nat)) i
    have h2:=lst_range (n:=n) (a:=ctN s (48 + (m:Nat)) i) (by omega) (ctN_range t (48 + m) n)
    have:(n:Int) * ((m + 1:Nat):Int)=n * m + n:=by rw [Int.natCast_succ,Int.mul_add,Int.mul_one]
    simp only [cmP]
    omega
def usedAt (w:World) (g:Nat) (U:Nat→Int):Prop:=(∀ d < 10,w.cell? ⟨g,d,none⟩=some (.int .i64 (U d)))∧∀ d < 10,w.frozen? ⟨g,d,none⟩=false
theorem wpl {a b:ByteArray} {i m:Nat} (h:i≤m) (hm:m≤6):wrap64 (plN a b i + 1)=plN a b i + 1:=by
  have:=plN_range a b i
  exact w64 (by omega) (by omega)
theorem wct {a:ByteArray} {d:Int} {i m:Nat} (h:i≤m) (hm:m≤6):wrap64 (ctN a d i + 1)=ctN a d i + 1:=by
  have:=ctN_range a d i
  exact w64 (by omega) (by omega)
theorem wnat {n:Nat} (h:n < 1000):wrap64 ((n:Int) + 1)=(n:Int) + 1:=w64 (by omega) (by omega)
theorem lst_lt {a b:Int} (h:0 < b - lst a b):lst (a + 1) b=lst a b + 1:=by
  unfold lst at h ⊢
  by_cases e:a < b
  · rw [if_pos e]
    by_cases e2:a + 1 < b
    · rw [if_pos e2]
    · rw [if_neg e2];omega
  · rw [if_neg e] at h;omega
theorem lst_ge {a b:Int} (h : ¬ 0 < b - lst a b):lst (a + 1) b=lst a b:=by
  unfold lst at h ⊢
  by_cases e:a < b
  · rw [if_pos e] at h;omega
  · rw [if_neg e,if_neg (by omega)]
theorem wsub {y a b:Int} {n:Nat} (h1:0≤a∧a≤(n:Nat)) (h2:0≤b∧b≤(n:Nat)) (h:y=a - b) (hn:n < 1000):wrap64 (y - 1)=y - 1:=w64 (by omega) (by omega)
theorem frozen_new (w:World) (cs:Array Value) (t:TypeId) (d:Nat):(w.alloc (.cells cs t)).frozen? ⟨w.heap.size,d,none⟩=false:=
  blk_frozen (w:=w.alloc (.cells cs t)) (g:=w.heap.size) (t:=t) (cs:=cs) (by show (w.heap.push _)[w.heap.size]?=_;exact Array.getElem?_push_size) d
theorem usedAt_set {w:World} {g:Nat} {U V:Nat→Int} (h:usedAt w g U) {d:Nat} (hd:d < 10) (x:Int) (hx:V d=x) (hV : ∀ k < 10,k≠d→V k=U k):usedAt (w.setCell ⟨g,d,none⟩ (.int .i64 x)) g V:=by
  refine ⟨fun k hk=>?_,fun k hk=>by rw [World.frozen?_setCell];exact h.2 k hk⟩
  by_cases e:k=d
  · subst e
    rw [World.cell?_setCell_same' _ _ _ (by rw [h.1 k hk];rfl),hx]
  · rw [World.cell?_setCell_other (w:=w) (v:=Value.int .i64 x) (a:=⟨g,d,none⟩) (b:=⟨g,k,none⟩) (by intro hh;exact e (Addr.mk.inj hh).2.1.symm),h.1 k hk,hV k hk e]
theorem usedAt_congr {w:World} {g:Nat} {U V:Nat→Int} (h:usedAt w g U) (hV : ∀ k < 10,V k=U k):usedAt w g V:=⟨fun k hk=>by rw [hV k hk];exact h.1 k hk,h.2⟩
attribute [local irreducible] plN ctN cmN
set_option maxHeartbeats 4000000 in
set_option maxRecDepth 100000 in
theorem impl_hint.calls (a0 a1:ByteArray) (r1 r2:Int) (w:World) (h:impl_hint.f a0 a1=some (r1,r2)) :
    Calls Tryz.prog 104 #[.string a0, .string a1] w fun e w'=>e = .returned (.tuple #[.int .i64 r1, .int .i64 r2])∧Below w.heap.size w w':=by
  unfold impl_hint.f at h
  by_cases hc:hintB a0 a1=true
  · rw [if_pos hc] at h
    obtain ⟨rfl,rfl⟩:=Prod.mk.inj (Option.some.inj h)
    clear h
    obtain ⟨hs,h1,h6,ha,hb⟩:=hintB_iff.mp hc
    clear hc
    obtain ⟨k0,ac⟩:=(impl_digits_of h6 ha).rounds
    obtain ⟨k1,ae⟩:=(impl_digits_of (by omega) hb).rounds
    have al:=amk ac
    have am:=amk ae
    have HA:=amk ha
    have HB:=amk hb
    have HS:=amk hs
    have H6:=amk h6
    have hua:=Tryz.underlying134
    clear ha hb ac ae
    clear hs h6
    go_enter Tryz.func104,Tryz.ntmps104
    obtain ⟨n,hn⟩ : ∃ n,a0.size=n + 1:=⟨a0.size - 1,by omega⟩
    have HN:=amk hn
    clear hn h1
    go_wp2_with (go_at_call 103;refine (impl_digits.calls k1 _ _ _ am.out).mono ?_;rintro e w1 ⟨v1,rfl,a8,af⟩;obtain ⟨g,cap,rfl⟩:=row_form (n:=n) a8 (by rw [List.length_map,List.length_range,←HS.out];exact HN.out);have aC:w.heap.size < g:=(by have:=(row_cells a8).1;simp at this;omega);have ag:=amk (row_ints a8);have Y:=amk af;clear a8 af)
    have HBW:Aside0 (Below w.heap.size w w1∧w.heap.size < w1.heap.size):=⟨below_then (ba_ (Below.refl _ w) _) (by simp) Y.out,by have:=Y.out.size;simp at this;omega⟩
    have HU:Aside0 (usedAt w1 w.heap.size (fun d=>ctN a1 (48 + (d:Nat)) 0)):=⟨by
      constructor
      · intro d hd
        rw [Y.out.cell (p:=⟨w.heap.size,d,none⟩) (by simp)]
        have:d=0∨d=1∨d=2∨d=3∨d=4∨d=5∨d=6∨d=7∨d=8∨d=9:=by omega
        rcases this with rfl | rfl | rfl | rfl | rfl | rfl | rfl | rfl | rfl | rfl <;> simp [ctN]
      · intro d hd
        rw [Y.out.frozen (p:=⟨w.heap.size,d,none⟩) (by simp)]
        exact frozen_new w _ _ d⟩
    clear Y
    go_loopg [6,17] (n + 1) (fun gg s6 an wr=> ∃ (i:Nat) (x:Int),s6 = .int .i64 x∧an = .int .i64 i∧Aside0 (i≤n + 1∧n + 1≤i + gg)∧Aside0 (usedAt wr w.heap.size (fun d=>ctN a1 (48 + (d:Nat)) i))∧Aside0 (∀ d,wr.cell? ⟨g,d,none⟩=w1.cell? ⟨g,d,none⟩)∧Aside0 (Below w.heap.size w wr∧w.heap.size < wr.heap.size)∧Aside0 (x=plN a0 a1 i))
    case atStart=>exact ⟨0,0,rfl,rfl,⟨by omega⟩,HU,⟨fun _=>rfl⟩,HBW,⟨by rw [plN]⟩⟩
    case round =>
      obtain ⟨i,x,rfl,rfl,HI,HUU,HG,HBB,HX⟩:=hrel
      by_cases hi:i < n + 1
      · have Z:i < a0.size:=by rw [HN.out];exact hi
        have ab:i < a1.size:=by rw [←HS.out];exact Z
        have hd:=HB.out i ab
        obtain ⟨d,hdd⟩ : ∃ d:Nat,bt a1 (i:Nat)=48 + (d:Nat):=⟨(bt a1 (i:Nat) - 48).toNat,by omega⟩
        have J:d < 10:=by omega
        have hcg:wr.cell? ⟨g,i,none⟩=some (.int .i64 (d:Nat)):=by
          rw [HG.out,ag.out i hi,rd_at (by simpa using ab)]
          simp [hdd]
          omega
        have hcu:wr.cell? ⟨w.heap.size,d,none⟩=some (.int .i64 (ctN a1 (48 + (d:Nat)) i)):=HUU.out.1 d J
        have hfu:=HUU.out.2 d J
        have hli:decide ((i:Int) < (n:Int) + 1)=true:=decide_eq_true (by omega)
        have ah:wrap64 (ctN a1 (48 + (d:Nat)) i + 1)=ctN a1 (48 + (d:Nat)) i + 1:=wct HI.out.1 (by have:=H6.out;have:=HN.out;omega)
        have e0:=bt_nat Z
        have e1:=bt_nat ab
        have p1:wrap64 (plN a0 a1 i + 1)=plN a0 a1 i + 1:=wpl HI.out.1 (by have:=H6.out;have:=HN.out;omega)
        have p2:wrap64 ((i:Int) + 1)=(i:Int) + 1:=wnat (n:=i) (by have:=H6.out;omega)
        have HDD:=amk hdd
        clear hd hdd
        obtain ⟨y,hy⟩ : ∃ y,y=ctN a1 (48 + (d:Nat)) i:=⟨_,rfl⟩
        rw [←hy] at hcu ah
        rw [←HX.out] at p1
        have HY:=amk hy
        clear hy
        have HPL:=amk (show plN a0 a1 (i + 1)=plN a0 a1 i + if bt a0 (i:Nat)=bt a1 (i:Nat) then 1 else 0 by rw [plN])
        have hbq:=beq_of (bt a0 (i:Nat)) (bt a1 (i:Nat))
        have ai:decide ((d:Int) < 10)=true:=decide_eq_true (by omega)
        have hne:g≠w.heap.size:=by omega
        by_cases he:bt a0 (i:Nat)=bt a1 (i:Nat)
        all_goals
          first | (rw [decide_eq_true he] at hbq;rw [if_pos he] at HPL) | (rw [decide_eq_false he] at hbq;rw [if_neg he,Int.add_zero] at HPL)
          clear he
          generalize bt a0 (i:Nat)=ba at e0 hbq
          generalize hbb:bt a1 (i:Nat)=bb at e1 hbq
          clear hbb
          go_wp2
          go_region
          go_wp2
          go_roundg (n + 1 - (i + 1))
          case measure=>have:=HI.out;omega
          case rel =>
            refine ⟨i + 1,_,rfl,congrArg _ (by omega),⟨by omega⟩,⟨usedAt_set (w:=wr.drew) (U:=fun d=>ctN a1 (48 + (d:Nat)) i) ⟨HUU.out.1,HUU.out.2⟩ J _ ?_ ?_⟩,⟨fun d'=>?_⟩,⟨?_,?_⟩,⟨?_⟩⟩
            · show ctN a1 (48 + (d:Nat)) (i + 1)=_
              rw [ctN_step HDD.out,if_pos rfl,←HY.out]
              first | done | exact ah.symm
            · intro k hk hkd
              show ctN a1 (48 + (k:Nat)) (i + 1)=_
              rw [ctN_step HDD.out,if_neg hkd,Int.add_zero]
            · exact (World.cell?_setCell_far _ _ _ _ (by simp;omega)).trans (HG.out d')
            · exact HBB.out.1.drew.setCell (p:=⟨w.heap.size,d,none⟩) (Nat.le_refl _) _
            · have:=HBB.out.2;simpa using this
            · rw [HPL.out,HX.out]
              first | done | (rw [←HX.out];exact p1)
      · have hli:decide ((i:Int) < (n:Int) + 1)=false:=decide_eq_false (by omega)
        have hin:i=n + 1:=by have:=HI.out;omega
        subst hin
        have HAS:Aside0 (a0.size=n + 1):=HN
        go_wp2_with (go_at_call 103;refine (impl_digits.calls k0 _ _ _ al.out).mono ?_;rintro e w2 ⟨v2,rfl,aa,aj⟩;obtain ⟨g2,aA,rfl⟩:=row_form (n:=n) aa (by rw [List.length_map,List.length_range];exact HN.out);have ap:wr.heap.size≤g2:=(row_cells aa).1;have ar:=amk (row_ints aa);have a6:=amk aj;clear aa aj)
        have au:Aside0 (w.heap.size < g2):=⟨by have:=HBB.out.2;omega⟩
        have ak:Aside0 (Below w.heap.size w w2∧w.heap.size < w2.heap.size):=⟨HBB.out.1.trans (a6.out.mono (Nat.le_of_lt HBB.out.2)),Nat.lt_of_lt_of_le HBB.out.2 a6.out.size⟩
        have av:Aside0 (usedAt w2 w.heap.size (fun d=>ctN a1 (48 + (d:Nat)) (n + 1) - lst (ctN a0 (48 + (d:Nat)) 0) (ctN a1 (48 + (d:Nat)) (n + 1)))):=⟨by
          refine usedAt_congr (U:=fun d=>ctN a1 (48 + (d:Nat)) (n + 1)) ⟨fun d hd=>?_,fun d hd=>?_⟩ ?_
          · rw [a6.out.cell (p:=⟨w.heap.size,d,none⟩) HBB.out.2];exact HUU.out.1 d hd
          · rw [a6.out.frozen (p:=⟨w.heap.size,d,none⟩) HBB.out.2];exact HUU.out.2 d hd
          · intro k hk
            have:=ctN_range a1 (48 + (k:Nat)) (n + 1)
            have e:lst (ctN a0 (48 + (k:Nat)) 0) (ctN a1 (48 + (k:Nat)) (n + 1))=0:=by
              rw [show ctN a0 (48 + (k:Nat)) 0=0 by rw [ctN],lst]
              by_cases e:0 < ctN a1 (48 + (k:Nat)) (n + 1)
              · rw [if_pos e]
              · rw [if_neg e];omega
            show _ - _=_
            rw [e,Int.sub_zero]⟩
        clear a6 ap HUU HG HBB HBW HU ag hli hi HI
        go_loopg [7,40] (n + 1) (fun gg s7 ax wr=> ∃ (i:Nat) (z:Int),s7 = .int .i64 z∧ax = .int .i64 i∧Aside0 (i≤n + 1∧n + 1≤i + gg)∧Aside0 (usedAt wr w.heap.size (fun d=>ctN a1 (48 + (d:Nat)) (n + 1) - lst (ctN a0 (48 + (d:Nat)) i) (ctN a1 (48 + (d:Nat)) (n + 1))))∧Aside0 (∀ d,wr.cell? ⟨g2,d,none⟩=w2.cell? ⟨g2,d,none⟩)∧Aside0 (Below w.heap.size w wr∧w.heap.size < wr.heap.size)∧Aside0 (z=cmP a0 a1 i (n + 1) 10))
        case atStart=>exact ⟨0,0,rfl,rfl,⟨by omega⟩,av,⟨fun _=>rfl⟩,ak,⟨(cmP_zero a0 a1 (n + 1) (fun d=>(ctN_range a1 d _).1) 10).symm⟩⟩
        case round =>
          obtain ⟨i,z,rfl,rfl,HI,HUU,HG,HBB,HZ⟩:=hrel
          by_cases hi:i < n + 1
          · have Z:i < a0.size:=by rw [HN.out];exact hi
            have hd:=HA.out i Z
            obtain ⟨d,hdd⟩ : ∃ d:Nat,bt a0 (i:Nat)=48 + (d:Nat):=⟨(bt a0 (i:Nat) - 48).toNat,by omega⟩
            have J:d < 10:=by omega
            have hcg:wr.cell? ⟨g2,i,none⟩=some (.int .i64 (d:Nat)):=by
              rw [HG.out,ar.out i hi,rd_at (by simpa using Z)]
              simp [hdd]
              omega
            have hcu:wr.cell? ⟨w.heap.size,d,none⟩=some (.int .i64 (ctN a1 (48 + (d:Nat)) (n + 1) - lst (ctN a0 (48 + (d:Nat)) i) (ctN a1 (48 + (d:Nat)) (n + 1)))):=HUU.out.1 d J
            have hfu:=HUU.out.2 d J
            have hli:decide ((i:Int) < (n:Int) + 1)=true:=decide_eq_true (by omega)
            have p2:wrap64 ((i:Int) + 1)=(i:Int) + 1:=wnat (n:=i) (by have:=H6.out;have:=HN.out;omega)
            have ai:decide ((d:Int) < 10)=true:=decide_eq_true (by omega)
            have hne:g2≠w.heap.size:=by have:=au.out;omega
            have a7:=amk (cmP_step (s:=a0) (t:=a1) (i:=i) (n:=n + 1) hdd 10)
            have HZR:=amk (cmP_range a0 a1 i (n + 1) (by omega) 10)
            have HCR:=amk (ctN_range a1 (48 + (d:Nat)) (n + 1))
            have HLR:=amk (lst_range (n:=n + 1) (a:=ctN a0 (48 + (d:Nat)) i) (by have:=ctN_range a0 (48 + (d:Nat)) i;omega) (ctN_range a1 (48 + (d:Nat)) (n + 1)))
            have HDD:=amk hdd
            rw [if_pos J] at a7
            clear hd hdd
            obtain ⟨y,hy⟩ : ∃ y,y=ctN a1 (48 + (d:Nat)) (n + 1) - lst (ctN a0 (48 + (d:Nat)) i) (ctN a1 (48 + (d:Nat)) (n + 1)):=⟨_,rfl⟩
            rw [←hy] at hcu
            have HY:=amk hy
            clear hy
            have p3:wrap64 (z + 1)=z + 1:=by have h1:=HZR.out;rw [←HZ.out] at h1;have:=H6.out;have:=HN.out;exact w64 (by omega) (by omega)
            have p4:wrap64 (y - 1)=y - 1:=by have h1:=HCR.out;have h2:=HLR.out;have h3:=HY.out;have:=H6.out;have:=HN.out;exact wsub h1 h2 h3 (by omega)
            by_cases hy:0 < y
            · have hdy:decide (y > 0)=true:=decide_eq_true hy
              have HYP:=amk hy
              clear hy
              go_wp2
              go_roundg (n + 1 - (i + 1))
              case measure=>have:=HI.out;omega
              case rel =>
                have hl:lst (ctN a0 (48 + (d:Nat)) i + 1) (ctN a1 (48 + (d:Nat)) (n + 1))=lst (ctN a0 (48 + (d:Nat)) i) (ctN a1 (48 + (d:Nat)) (n + 1)) + 1:=by
                  have h3:=HYP.out;rw [HY.out] at h3;exact lst_lt h3
                refine ⟨i + 1,_,rfl,congrArg _ (by omega),⟨by omega⟩,⟨usedAt_set (U:=fun d=>ctN a1 (48 + (d:Nat)) (n + 1) - lst (ctN a0 (48 + (d:Nat)) i) (ctN a1 (48 + (d:Nat)) (n + 1))) HUU.out J _ ?_ ?_⟩,⟨fun d'=>?_⟩,⟨?_,?_⟩,⟨?_⟩⟩
                · show _ - lst (ctN a0 (48 + (d:Nat)) (i + 1)) _=_
                  rw [ctN_step HDD.out,if_pos rfl,hl,HY.out]
                  omega
                · intro k hk hkd
                  show _ - lst (ctN a0 (48 + (k:Nat)) (i + 1)) _=_
                  rw [ctN_step HDD.out,if_neg hkd,Int.add_zero]
                · exact (World.cell?_setCell_far _ _ _ _ (by simp;omega)).trans (HG.out d')
                · exact HBB.out.1.setCell (p:=⟨w.heap.size,d,none⟩) (Nat.le_refl _) _
                · have:=HBB.out.2;simpa using this
                · rw [a7.out,hl,←HZ.out]
                  omega
            · have hdy:decide (y > 0)=false:=decide_eq_false hy
              have HYP:=amk hy
              clear hy
              go_wp2
              go_roundg (n + 1 - (i + 1))
              case measure=>have:=HI.out;omega
              case rel =>
                have hl:lst (ctN a0 (48 + (d:Nat)) i + 1) (ctN a1 (48 + (d:Nat)) (n + 1))=lst (ctN a0 (48 + (d:Nat)) i) (ctN a1 (48 + (d:Nat)) (n + 1)):=by
                  have h3:=HYP.out;rw [HY.out] at h3;exact lst_ge (by first | exact h3 | exact Int.not_lt.mpr h3)
                refine ⟨i + 1,_,rfl,congrArg _ (by omega),⟨by omega⟩,⟨usedAt_congr HUU.out ?_⟩,HG,HBB,⟨?_⟩⟩
                · intro k hk
                  show _ - lst (ctN a0 (48 + (k:Nat)) (i + 1)) _=_
                  rw [ctN_step HDD.out]
                  by_cases e:k=d
                  · subst e;rw [if_pos rfl,hl]
                  · rw [if_neg e,Int.add_zero]
                · rw [a7.out,hl,←HZ.out]
                  omega
          · have hli:decide ((i:Int) < (n:Int) + 1)=false:=decide_eq_false (by omega)
            have hin:i=n + 1:=by have:=HI.out;omega
            subst hin
            have hw:wrap64 (z - x)=z - x:=by
              have h1:=cmP_range a0 a1 (n + 1) (n + 1) (Nat.le_refl _) 10
              rw [←HZ.out] at h1
              have h2:=plN_range a0 a1 (n + 1)
              rw [←HX.out] at h2
              have:=H6.out;have:=HN.out
              exact w64 (by omega) (by omega)
            have ay:Aside0 (plN a0 a1 a0.size=x):=⟨by rw [HN.out,HX.out]⟩
            have az:Aside0 (cmN a0 a1 a0.size 10=z):=⟨by rw [HN.out,HZ.out,cmP_all]⟩
            go_wp2
            go_ret2
            rw [ay.out,az.out]
            exact ⟨by first | rfl | (rw [hw];rfl),HBB.out.1⟩
  · rw [if_neg hc] at h
    cases h
end
/-! ### impl_Lock_told: function 80 -/
def impl_Lock_told.l0:Nat→Int→List Int→Int→Int→Option (Int×Int×Int)
  | 0,_,_,_,_=>none
  | k + 1,x9,Y,Z,J=>if J < Z then (if 0≤J then (if J < (Y.length:Int) then (impl_Lock_told.l0 k (wrap64 (x9 + (rd Y J))) Y Z (wrap64 (J + 1))) else (none)) else (none)) else (some (1,x9,0))
def impl_Lock_told.f (k:Nat) (J:Int) (Y:Int) (a1:Int) (a2:Int) (a3:ByteArray):Option (Int×Int×Int):=if a1=0 then ((impl_digits.f k a3).bind fun Z=>(if 0≤a2 then (if a2 < (Z.length:Int) then (some (0,a2,rd Z a2)) else (none)) else (none))) else (if a1=1 then ((impl_digits.f k a3).bind fun a6=>(impl_Lock_told.l0 k 0 a6 (a6.length:Int) 0)) else (if a1=2 then ((impl_Lock_code.f J Y a2).bind fun a8=>((impl_hint.f a8 a3).bind fun a7=>(some (2,a2,a7.1)))) else (if a1=3 then ((impl_Lock_code.f J Y a2).bind fun aa=>((impl_Lock_distance.f k J Y aa a3).bind fun ab=>(some (3,a2,ab)))) else ((impl_Lock_number.f k J Y a3).bind fun ac=>(if a2=0 then (none) else (some (4,a2,Int.tmod ac a2)))))))
def impl_Lock_told.T16:Bool×List (List Nat×List Nat):=(true,[([],[]),([],[]),([],[]),([],[]),([2,3],[2,3]),([],[]),([1,4,5,4],[1,4,5]),([0,6],[0,6]),([7,6,0,1,2,3,4,5,6,7],[7])])
def impl_Lock_told.B16:List Nat:=[0,0,0,0,12,0,62,127,255]
theorem impl_Lock_told.tab16:rtab .any (opsOf Tryz.f80 16)=impl_Lock_told.T16:=by kernel_rfl
theorem impl_Lock_told.bits16:waitsOk impl_Lock_told.T16.2 impl_Lock_told.B16=true:=by kernel_rfl
set_option maxHeartbeats 8000000 in
set_option maxRecDepth 100000 in
theorem impl_Lock_told.calls (k:Nat) (a8:Int) (aa:Int) (a1:Int) (a2:Int) (a3:ByteArray) (r1:Int) (r2:Int) (r3:Int) (w:World) (h:impl_Lock_told.f k a8 aa a1 a2 a3=some (r1,r2,r3)) :
    Calls Tryz.prog 80 #[.agg #[.int .i64 a8, .int .i64 aa], .int .i64 a1, .int .i64 a2, .string a3] w fun e w'=>e = .returned (.agg #[.int .i64 r1, .int .i64 r2, .int .i64 r3])∧Below w.heap.size w w':=by
  have cx:=Tryz.underlying25;have cy:=Tryz.underlying48;have HB:=amk (Below.refl w.heap.size w);unfold impl_Lock_told.f at h;have H:=h;clear h
  by_cases c5:a1=0
  · rw [if_pos c5] at H;have aK:(a1 == 0)=true:=beq_iff_eq.mpr c5;have aM:(a1 != 0)=false:=bne_eq_false_iff_eq.mpr c5;clear c5;replace H:=bE H;obtain ⟨am,A6,H⟩:=H;replace H:=iteN H;obtain ⟨b3,H⟩:=H;replace H:=iteN H;obtain ⟨b4,H⟩:=H;simp only [Option.some.injEq,Prod.mk.injEq] at H;obtain ⟨rfl,rfl,rfl⟩:=H;go_enter Tryz.func80,Tryz.ntmps80;go_wp2_with (first | ((with_reducible refine gate_dst (N:=4) rfl ?_);refine boxE_ HB 4 #[.int .i64 a8, .int .i64 aa] 25 ?_;clear HB;intro ac w9 HB J af ag hb;clear hb) | ((with_reducible refine gate_dst (N:=8) rfl ?_);refine boxG_ 8 #[.int .i64 0, .int .i64 0, .int .i64 0] 48 ?_;intro a7 cJ hg Y hb;have ah:=sZ HB hg;have ai:=sZ HB hg;replace HB:=hB2 HB hb;have Z:=neL J hg;have a6:=neR J hg;replace J:=kb2 J hb;clear hb hg) | ((with_reducible refine gate_callee (f:=103) rfl ?_);refine goesL_ (some 19) rfl rfl Tryz.func103 (by kernel_rfl) rfl #[.string a3] rfl gL_ ?_;(with_reducible refine (impl_digits.calls k a3 am _ A6.out).mono ?_);rintro e cK ⟨cz,rfl,an,hb⟩;refine ⟨_,rfl,?_⟩;have ap:=amk (Kd.R_lower an (below_size bB));replace J:=kb2 J hb;replace Y:=kb2 Y hb;replace HB:=hB2 HB hb;(try clear hb);(try clear an);obtain ⟨cA,cC,b5⟩:=Kd.R_slice ap.out;subst b5;have ak:0≤(a2:Int):=dA_;have al:a2 < (am.length:Int):=dA_;obtain ⟨bV,b6,ar⟩:=Kd.at_int (Kd.R_reads' ap.out).2.2 a2 ak al;cases b6;replace ak:=eq_true ak;replace al:=eq_true al;have bW:=a6.out;have bX:=Z.out;obtain ⟨au,av,ax,ay,az,aA⟩:=cells3 Y.out));refine bodyPost_ret (results_cell_row rfl _ _ a7 48 #[.int .i64 0, .int .i64 a2, .int .i64 (rd am a2)] (0,0) _ rfl (kP Y) Tryz.underlying48 rfl (by kernel_rfl)) rfl ?_;exact ⟨rF_,bB⟩
  · rw [if_neg c5] at H;have aK:(a1 == 0)=false:=beq_eq_false_iff_ne.mpr c5;have aM:(a1 != 0)=true:=bne_iff_ne.mpr c5
    by_cases c15:a1=1
    · rw [if_pos c15] at H;have aC:(a1 == 1)=true:=beq_iff_eq.mpr c15;have aD:(a1 != 1)=false:=bne_eq_false_iff_eq.mpr c15;clear c15;replace H:=bE H;obtain ⟨ae,bY,H⟩:=H;have H':=amk H;clear H;go_enter Tryz.func80,Tryz.ntmps80;go_wp2_with (first | ((with_reducible refine gate_dst (N:=4) rfl ?_);refine boxE_ HB 4 #[.int .i64 a8, .int .i64 aa] 25 ?_;clear HB;intro ac cL HB J af ag hb;clear hb) | ((with_reducible refine gate_dst (N:=8) rfl ?_);refine boxG_ 8 #[.int .i64 0, .int .i64 0, .int .i64 0] 48 ?_;intro a7 cM hg Y hb;have ah:=sZ HB hg;have ai:=sZ HB hg;replace HB:=hB2 HB hb;have Z:=neL J hg;have a6:=neR J hg;replace J:=kb2 J hb;clear hb hg) | ((with_reducible refine gate_callee (f:=103) rfl ?_);refine goesL_ (some 27) rfl rfl Tryz.func103 (by kernel_rfl) rfl #[.string a3] rfl gL_ ?_;(with_reducible refine (impl_digits.calls k a3 ae _ bY.out).mono ?_);rintro e cN ⟨cE,rfl,an,hb⟩;refine ⟨_,rfl,?_⟩;have aE:=amk (Kd.R_lower an (below_size bB));replace J:=kb2 J hb;replace Y:=kb2 Y hb;replace HB:=hB2 HB hb;(try clear hb);(try clear an);obtain ⟨b7,b8,b9⟩:=Kd.R_slice aE.out;subst b9))
      go_loopg [9,29] k (fun kq v9 v29 w'=> ∃ (aj:Int) (ab:Int),v9 = .int .i64 aj∧v29 = .int .i64 ab∧Aside0 (impl_Lock_told.l0 kq aj ae (ae.length:Int) ab=some (r1,r2,r3))∧Aside0 (kq≤k)∧Aside0 (Kd.R (Kd.int .i64) 3 w' w.heap.size (fun _=>True) (.slice b7 ae.length b8) ae)∧Aside0 (w'.heap[ac]?=some (.cells #[.int .i64 a8, .int .i64 aa] 25 (0,0)))∧Aside0 (w'.heap[a7]?=some (.cells #[.int .i64 0, .int .i64 0, .int .i64 0] 48 (0,0)))∧Aside0 (Below w.heap.size w w'))
      case atStart=>exact ⟨(0),(0),rS_,rS_,H',⟨Nat.le_refl _⟩,⟨oX aE⟩,⟨kB J⟩,⟨kB Y⟩,⟨bB⟩⟩
      case round =>
        clear H';(try clear c1);(try clear p2);(try clear q2);(try clear hx2);(try clear c5);(try clear aK);(try clear aM);(try clear c7);(try clear b3);(try clear c8);(try clear b4);(try clear c10);(try clear c13);(try clear c15);(try clear aC);(try clear aD);(try clear au);(try clear av);(try clear ax);(try clear ay);(try clear az);(try clear aA);(try clear ar);(try clear ak);(try clear al);obtain ⟨aj,ab,rfl,rfl,HA,ba,HO_27,J,Y,HB⟩:=hrel
        cases gk with
        | zero=>exact absurd HA.out (by simp [impl_Lock_told.l0])
        | succ k1 =>
          have H:=HA.out;clear HA;simp only [impl_Lock_told.l0] at H;replace H:=iteE H;obtain ⟨aU,H⟩ | ⟨aU,H⟩:=H
          · replace H:=iteN H;obtain ⟨bZ,H⟩:=H;replace H:=iteN H;obtain ⟨c6,H⟩:=H;have H':=amk H;clear H;have aG:0≤(ab:Int):=dA_;have aH:ab < (ae.length:Int):=dA_;obtain ⟨ca,bb,bc⟩:=Kd.at_int (Kd.R_reads' HO_27.out).2.2 ab aG aH;cases bb;replace aG:=eq_true aG;replace aH:=eq_true aH;go_wp2;go_roundg k1
            case measure=>have:=ba.out;omega
            case rel=>exact ⟨(wrap64 (aj + (rd ae ab))),(wrap64 (ab + 1)),rS_,rS_,H',⟨by have:=ba.out;omega⟩,⟨oX HO_27⟩,⟨kB J⟩,⟨kB Y⟩,⟨bB⟩⟩
          · simp only [Option.some.injEq,Prod.mk.injEq] at H;obtain ⟨rfl,rfl,rfl⟩:=H;have cb:=a6.out;have cd:=Z.out;obtain ⟨bd,be,bf,bg,bh,bi⟩:=cells3 Y.out;go_wp2;refine bodyPost_ret (results_cell_row rfl _ _ a7 48 #[.int .i64 1, .int .i64 aj, .int .i64 0] (0,0) _ rfl (kP Y) Tryz.underlying48 rfl (by kernel_rfl)) rfl ?_;exact ⟨rF_,bB⟩
    · rw [if_neg c15] at H;have aC:(a1 == 1)=false:=beq_eq_false_iff_ne.mpr c15;have aD:(a1 != 1)=true:=bne_iff_ne.mpr c15
      by_cases c26:a1=2
      · rw [if_pos c26] at H;have aV:(a1 == 2)=true:=beq_iff_eq.mpr c26;have aW:(a1 != 2)=false:=bne_eq_false_iff_eq.mpr c26;clear c26;replace H:=bE H;obtain ⟨aI,ce,H⟩:=H;replace H:=bE H;obtain ⟨⟨aN,bj⟩,cf,H⟩:=H;(try dsimp only at H);simp only [Option.some.injEq,Prod.mk.injEq] at H;obtain ⟨rfl,rfl,rfl⟩:=H;go_enter Tryz.func80,Tryz.ntmps80;go_wp2_with (first | ((with_reducible refine gate_dst (N:=4) rfl ?_);refine boxE_ HB 4 #[.int .i64 a8, .int .i64 aa] 25 ?_;clear HB;intro ac cO HB J af ag hb;clear hb) | ((with_reducible refine gate_dst (N:=8) rfl ?_);refine boxG_ 8 #[.int .i64 0, .int .i64 0, .int .i64 0] 48 ?_;intro a7 cP hg Y hb;have ah:=sZ HB hg;have ai:=sZ HB hg;replace HB:=hB2 HB hb;have Z:=neL J hg;have a6:=neR J hg;replace J:=kb2 J hb;clear hb hg;have cg:=Z.out;have ci:=a6.out;obtain ⟨bk,bl,bm,bn⟩:=cells2 J.out) | ((with_reducible refine gate_callee (f:=64) rfl ?_);refine goesL_ (some 44) rfl rfl Tryz.func64 (by kernel_rfl) rfl #[.agg #[.int .i64 a8, .int .i64 aa], .int .i64 a2] rfl gL_ ?_;(with_reducible refine (impl_Lock_code.calls a8 aa a2 aI _ ce.out).mono ?_);rintro e cQ ⟨rfl,hb⟩;refine ⟨_,rfl,?_⟩;replace J:=kb2 J hb;replace Y:=kb2 Y hb;replace HB:=hB2 HB hb;(try clear hb)) | ((with_reducible refine gate_callee (f:=104) rfl ?_);refine goesL_ (some 46) rfl rfl Tryz.func104 (by kernel_rfl) rfl #[.string aI, .string a3] rfl gL_ ?_;(with_reducible refine (impl_hint.calls aI a3 aN bj _ cf.out).mono ?_);rintro e cS ⟨rfl,hb⟩;refine ⟨_,rfl,?_⟩;replace J:=kb2 J hb;replace Y:=kb2 Y hb;replace HB:=hB2 HB hb;(try clear hb);obtain ⟨bo,bp,bq,br,bu,bv⟩:=cells3 Y.out));refine bodyPost_ret (results_cell_row rfl _ _ a7 48 #[.int .i64 2, .int .i64 a2, .int .i64 aN] (0,0) _ rfl (kP Y) Tryz.underlying48 rfl (by kernel_rfl)) rfl ?_;exact ⟨rF_,bB⟩
      · rw [if_neg c26] at H;have aV:(a1 == 2)=false:=beq_eq_false_iff_ne.mpr c26;have aW:(a1 != 2)=true:=bne_iff_ne.mpr c26
        by_cases c36:a1=3
        · rw [if_pos c36] at H;have aX:(a1 == 3)=true:=beq_iff_eq.mpr c36;have aY:(a1 != 3)=false:=bne_eq_false_iff_eq.mpr c36;clear c36;replace H:=bE H;obtain ⟨aJ,cj,H⟩:=H;replace H:=bE H;obtain ⟨aQ,ck,H⟩:=H;simp only [Option.some.injEq,Prod.mk.injEq] at H;obtain ⟨rfl,rfl,rfl⟩:=H;go_enter Tryz.func80,Tryz.ntmps80;(try go_wp2_with (first | ((with_reducible refine gate_dst (N:=4) rfl ?_);refine boxE_ HB 4 #[.int .i64 a8, .int .i64 aa] 25 ?_;clear HB;intro ac cT HB J af ag hb;clear hb) | ((with_reducible refine gate_dst (N:=8) rfl ?_);refine boxG_ 8 #[.int .i64 0, .int .i64 0, .int .i64 0] 48 ?_;intro a7 cm hg Y hb;have ah:=sZ HB hg;have ai:=sZ HB hg;replace HB:=hB2 HB hb;have Z:=neL J hg;have a6:=neR J hg;replace J:=kb2 J hb;clear hb hg)));replace J:=amk (blk_drew J.out);replace Y:=amk (blk_drew Y.out);replace HB:=amk (bd_ HB.out);refine start_ (n:=9) (S:=fun w'=>w'.cell? ⟨ac,0,none⟩=some (.int .i64 a8)∧w'.cell? ⟨ac,1,none⟩=some (.int .i64 aa)) (ds:=[]) (bA 9 0) (by kernel_rfl) rfl rfl ⟨(blk_cell J.out 0).trans rfl,(blk_cell J.out 1).trans rfl⟩ (fun hHeld=>?_);refine with_tabW impl_Lock_told.tab16 impl_Lock_told.bits16 (fun HT_ HW_=>?_);generalize cm.drew=cV at J Y HB hHeld ⊢;refine pU_ HT_ 0 (some 54) (bA 9 1) ?_;refine pU_ HT_ 3 (some 57) (bA 9 9) ?_;refine pU_ HT_ 5 (some 59) (bA 9 41) ?_;refine tK_ HT_ HW_ hHeld 1 (some 55) (bA 9 43) ?_;refine tK_ HT_ HW_ hHeld 2 (some 56) (bA 9 47) ?_;refine oN_ HT_ 4 (some 58) (bA 9 63) (fun K hK=>?_);refine goes_ Tryz.func64 (by kernel_rfl) rfl #[.agg #[.int .i64 a8, .int .i64 aa], .int .i64 a2] (by rfl) rfl rfl gL_ ?_;(with_reducible refine (impl_Lock_code.calls a8 aa a2 aJ _ cj.out).mono ?_);rintro e cW ⟨rfl,hb⟩;refine ⟨_,rfl,?_⟩;replace J:=kb2 J hb;replace Y:=kb2 Y hb;replace HB:=hB2 HB hb;(try clear hb);refine hK.out _ _ hC_ (fun hHeld=>?_);clear hK K;refine nN_ (some 58) ?_;refine oN_ HT_ 6 (some 60) (bA 9 127) (fun K hK=>?_);refine goes_ Tryz.func105 (by kernel_rfl) rfl #[.agg #[.int .i64 a8, .int .i64 aa], .string aJ, .string a3] (by rfl) rfl rfl gL_ ?_;(with_reducible refine (impl_Lock_distance.calls k a8 aa aJ a3 aQ _ ck.out).mono ?_);rintro e aZ ⟨rfl,hb⟩;refine ⟨_,rfl,?_⟩;replace J:=kb2 J hb;replace Y:=kb2 Y hb;replace HB:=hB2 HB hb;(try clear hb);refine hK.out _ _ hC_ (fun hHeld=>?_);clear hK K;refine nN_ (some 60) ?_;refine pU_ HT_ 7 (some 61) (bA 9 255) ?_;refine oN_ HT_ 8 none (bA 9 511) (fun K hK=>?_);have cF:aZ.cell? ⟨a7,0,none⟩=some (.int .i64 0):=(blk_cell Y.out 0).trans rfl;have cn:=blk_frozen Y.out 0;have bw:=Z.out;have bz:=a6.out;have cG:aZ.cell? ⟨a7,1,none⟩=some (.int .i64 0):=(blk_cell Y.out 1).trans rfl;have co:=blk_frozen Y.out 1;have bC:=Z.out;have bD:=a6.out;have cH:aZ.cell? ⟨a7,2,none⟩=some (.int .i64 0):=(blk_cell Y.out 2).trans rfl;have cp:=blk_frozen Y.out 2;have bF:=Z.out;have bH:=a6.out;refine skip_ (w1:=?_) (by rfl) rfl ?_ ?_;rotate_left
          · go_simp
            rfl
          refine hK.out _ _ ⟨((cell_far (p:=⟨a7,_,none⟩) Z.out _).trans (((cell_far (p:=⟨a7,_,none⟩) Z.out _).trans (((cell_far (p:=⟨a7,_,none⟩) Z.out _).trans (hHeld.1)))))),((cell_far (p:=⟨a7,_,none⟩) Z.out _).trans (((cell_far (p:=⟨a7,_,none⟩) Z.out _).trans (((cell_far (p:=⟨a7,_,none⟩) Z.out _).trans (hHeld.2))))))⟩ (fun hHeld=>?_);clear hK K;refine done_ (done_of HT_.out (by kernel_rfl)) ?_;(try go_wp2);refine bodyPost_ret (results_cell_row rfl _ _ a7 48 #[.int .i64 3, .int .i64 a2, .int .i64 aQ] (0,0) _ rfl (kP Y) Tryz.underlying48 rfl (by kernel_rfl)) rfl ?_;exact ⟨rF_,bB⟩
        · rw [if_neg c36] at H;have aX:(a1 == 3)=false:=beq_eq_false_iff_ne.mpr c36;have aY:(a1 != 3)=true:=bne_iff_ne.mpr c36;replace H:=bE H;obtain ⟨aT,cq,H⟩:=H
          by_cases c48:a2=0
          · rw [if_pos c48] at H;exact absurd H (by simp)
          · rw [if_neg c48] at H;have cr:(a2 == 0)=false:=beq_eq_false_iff_ne.mpr c48;have cu:(a2 != 0)=true:=bne_iff_ne.mpr c48;simp only [Option.some.injEq,Prod.mk.injEq] at H;obtain ⟨rfl,rfl,rfl⟩:=H;go_enter Tryz.func80,Tryz.ntmps80;go_wp2_with (first | ((with_reducible refine gate_dst (N:=4) rfl ?_);refine boxE_ HB 4 #[.int .i64 a8, .int .i64 aa] 25 ?_;clear HB;intro ac cX HB J af ag hb;clear hb) | ((with_reducible refine gate_dst (N:=8) rfl ?_);refine boxG_ 8 #[.int .i64 0, .int .i64 0, .int .i64 0] 48 ?_;intro a7 cY hg Y hb;have ah:=sZ HB hg;have ai:=sZ HB hg;replace HB:=hB2 HB hb;have Z:=neL J hg;have a6:=neR J hg;replace J:=kb2 J hb;clear hb hg;have cv:=Z.out;have cw:=a6.out;obtain ⟨bJ,bL,bM,bN⟩:=cells2 J.out) | ((with_reducible refine gate_callee (f:=106) rfl ?_);refine goesL_ (some 65) rfl rfl Tryz.func106 (by kernel_rfl) rfl #[.agg #[.int .i64 a8, .int .i64 aa], .string a3] rfl gL_ ?_;(with_reducible refine (impl_Lock_number.calls k a8 aa a3 aT _ cq.out).mono ?_);rintro e cZ ⟨rfl,hb⟩;refine ⟨_,rfl,?_⟩;replace J:=kb2 J hb;replace Y:=kb2 Y hb;replace HB:=hB2 HB hb;(try clear hb);obtain ⟨bO,bQ,bR,bS,bT,bU⟩:=cells3 Y.out));refine bodyPost_ret (results_cell_row rfl _ _ a7 48 #[.int .i64 4, .int .i64 a2, .int .i64 (Int.tmod aT a2)] (0,0) _ rfl (kP Y) Tryz.underlying48 rfl (by kernel_rfl)) rfl ?_;exact ⟨rF_,bB⟩
/-! (impl.Lock).fit, by hand: it asks its clues through slices.ContainsFunc and a closure. -/
set_option maxHeartbeats 4000000 in
set_option maxRecDepth 100000 in
theorem fit_closure (k:Nat) (a b:Int) (s:ByteArray) (gl gs:Nat) (W:World) (hl:gl < W.heap.size) (hs:gs < W.heap.size)
    (h0:W.cell? ⟨gl,0,none⟩=some (.int .i64 a)) (h1:W.cell? ⟨gl,1,none⟩=some (.int .i64 b)) (h2:W.cell? ⟨gs,0,none⟩=some (.string s)) (x:S48) (r0 r1 r2:Int) (hk:impl_Lock_told.f k a b x.f0 x.f1 s=some (r0,r1,r2)) :
    Calls Tryz.prog 79 #[.agg #[.int .i64 x.f0, .int .i64 x.f1, .int .i64 x.f2], .pointer (some ⟨gl,0,none⟩), .pointer (some ⟨gs,0,none⟩)] W fun e w'=>e = .returned (.bool (!decide (r0=x.f0∧r1=x.f1∧r2=x.f2)))∧Below W.heap.size W w':=by
  have Z:=Tryz.underlying25
  have a1:=Tryz.underlying48
  have hus:=Tryz.underlying9
  have hne:gl≠W.heap.size:=by omega
  have a6:gs≠W.heap.size:=by omega
  have HK:=amk hk
  clear hk
  obtain ⟨x0,x1,x2⟩:=x
  have B1:Below W.heap.size W (W.alloc (.cells #[.int .i64 x0, .int .i64 x1, .int .i64 x2] 48)).drew:=(ba_ (Below.refl _ W) _).drew
  have J:Aside0 ((W.alloc (.cells #[.int .i64 x0, .int .i64 x1, .int .i64 x2] 48)).drew.cell? ⟨gl,0,none⟩=some (.int .i64 a)∧(W.alloc (.cells #[.int .i64 x0, .int .i64 x1, .int .i64 x2] 48)).drew.cell? ⟨gl,1,none⟩=some (.int .i64 b)∧(W.alloc (.cells #[.int .i64 x0, .int .i64 x1, .int .i64 x2] 48)).drew.cell? ⟨gs,0,none⟩=some (.string s)∧(W.alloc (.cells #[.int .i64 x0, .int .i64 x1, .int .i64 x2] 48)).drew.cell? ⟨W.heap.size,0,none⟩=some (.int .i64 x0)∧(W.alloc (.cells #[.int .i64 x0, .int .i64 x1, .int .i64 x2] 48)).drew.cell? ⟨W.heap.size,1,none⟩=some (.int .i64 x1)∧(W.alloc (.cells #[.int .i64 x0, .int .i64 x1, .int .i64 x2] 48)).drew.cell? ⟨W.heap.size,2,none⟩=some (.int .i64 x2)∧Aside0 (Below W.heap.size W (W.alloc (.cells #[.int .i64 x0, .int .i64 x1, .int .i64 x2] 48)).drew)):=
    ⟨(B1.cell (p:=⟨gl,0,none⟩) hl).trans h0,(B1.cell (p:=⟨gl,1,none⟩) hl).trans h1,(B1.cell (p:=⟨gs,0,none⟩) hs).trans h2,by simp,by simp,by simp,⟨B1⟩⟩
  have hlt:gl < W.heap.size + 1:=by omega
  have Y:gs < W.heap.size + 1:=by omega
  have HLT:=amk (And.intro hlt Y)
  clear B1 hlt Y
  show Calls Tryz.prog _ _ _ fun e w'=>e = .returned (.bool (!decide (r0=x0∧r1=x1∧r2=x2)))∧Below W.heap.size W w'
  have fin : ∀ c:Bool,(c = !decide (r0=x0∧r1=x1∧r2=x2))→Calls Tryz.prog 79 #[.agg #[.int .i64 x0, .int .i64 x1, .int .i64 x2], .pointer (some ⟨gl,0,none⟩), .pointer (some ⟨gs,0,none⟩)] W (fun e w'=>e = .returned (.bool c)∧Below W.heap.size W w')→Calls Tryz.prog 79 #[.agg #[.int .i64 x0, .int .i64 x1, .int .i64 x2], .pointer (some ⟨gl,0,none⟩), .pointer (some ⟨gs,0,none⟩)] W (fun e w'=>e = .returned (.bool (!decide (r0=x0∧r1=x1∧r2=x2)))∧Below W.heap.size W w'):=by
    intro c hc h;rw [←hc];exact h
  by_cases q0:r0=x0
  · by_cases q1:r1=x1
    · by_cases q2:r2=x2
      · refine fin false (by simp [q0,q1,q2]) ?_
        clear fin
        subst q0 q1 q2
        go_enter Tryz.func79,Tryz.ntmps79
        go_wp2
        go_region_held3 (fun w'=>w'.cell? ⟨gl,0,none⟩=some (.int .i64 a)∧w'.cell? ⟨gl,1,none⟩=some (.int .i64 b)∧w'.cell? ⟨gs,0,none⟩=some (.string s)∧w'.cell? ⟨W.heap.size,0,none⟩=some (.int .i64 r0)∧w'.cell? ⟨W.heap.size,1,none⟩=some (.int .i64 r1)∧w'.cell? ⟨W.heap.size,2,none⟩=some (.int .i64 r2)∧Aside0 (Below W.heap.size W w')) (first | exact J.out | exact ⟨(hb9.cell (by simp;have:=HLT.out;omega)).trans J.out.1,(hb9.cell (by simp;have:=HLT.out;omega)).trans J.out.2.1,(hb9.cell (by simp;have:=HLT.out;omega)).trans J.out.2.2.1,(hb9.cell (by simp)).trans J.out.2.2.2.1,(hb9.cell (by simp)).trans J.out.2.2.2.2.1,(hb9.cell (by simp)).trans J.out.2.2.2.2.2.1,⟨J.out.2.2.2.2.2.2.out.trans (hb9.mono (by simp))⟩⟩) ((go_at_call 80;refine (impl_Lock_told.calls k a b r0 r1 s r0 r1 r2 _ HK.out).mono ?_;rintro e w9 ⟨rfl,hb9⟩))
        go_wp2
        go_ret
        exact ⟨rfl,J.out.2.2.2.2.2.2.out.trans (hb9.mono (by simp))⟩
      · refine fin true (by simp [q2]) ?_
        clear fin
        have d2:(r2 == x2)=false:=by simp [q2]
        subst q0 q1
        go_enter Tryz.func79,Tryz.ntmps79
        go_wp2
        go_region_held3 (fun w'=>w'.cell? ⟨gl,0,none⟩=some (.int .i64 a)∧w'.cell? ⟨gl,1,none⟩=some (.int .i64 b)∧w'.cell? ⟨gs,0,none⟩=some (.string s)∧w'.cell? ⟨W.heap.size,0,none⟩=some (.int .i64 r0)∧w'.cell? ⟨W.heap.size,1,none⟩=some (.int .i64 r1)∧w'.cell? ⟨W.heap.size,2,none⟩=some (.int .i64 x2)∧Aside0 (Below W.heap.size W w')) (first | exact J.out | exact ⟨(hb9.cell (by simp;have:=HLT.out;omega)).trans J.out.1,(hb9.cell (by simp;have:=HLT.out;omega)).trans J.out.2.1,(hb9.cell (by simp;have:=HLT.out;omega)).trans J.out.2.2.1,(hb9.cell (by simp)).trans J.out.2.2.2.1,(hb9.cell (by simp)).trans J.out.2.2.2.2.1,(hb9.cell (by simp)).trans J.out.2.2.2.2.2.1,⟨J.out.2.2.2.2.2.2.out.trans (hb9.mono (by simp))⟩⟩) ((go_at_call 80;refine (impl_Lock_told.calls k a b r0 r1 s r0 r1 r2 _ HK.out).mono ?_;rintro e w9 ⟨rfl,hb9⟩))
        go_wp2
        go_ret
        exact ⟨rfl,J.out.2.2.2.2.2.2.out.trans (hb9.mono (by simp))⟩
    · refine fin true (by simp [q1]) ?_
      clear fin
      have d1:(r1 == x1)=false:=by simp [q1]
      subst q0
      go_enter Tryz.func79,Tryz.ntmps79
      go_wp2
      go_region_held3 (fun w'=>w'.cell? ⟨gl,0,none⟩=some (.int .i64 a)∧w'.cell? ⟨gl,1,none⟩=some (.int .i64 b)∧w'.cell? ⟨gs,0,none⟩=some (.string s)∧w'.cell? ⟨W.heap.size,0,none⟩=some (.int .i64 r0)∧w'.cell? ⟨W.heap.size,1,none⟩=some (.int .i64 x1)∧w'.cell? ⟨W.heap.size,2,none⟩=some (.int .i64 x2)∧Aside0 (Below W.heap.size W w')) (first | exact J.out | exact ⟨(hb9.cell (by simp;have:=HLT.out;omega)).trans J.out.1,(hb9.cell (by simp;have:=HLT.out;omega)).trans J.out.2.1,(hb9.cell (by simp;have:=HLT.out;omega)).trans J.out.2.2.1,(hb9.cell (by simp)).trans J.out.2.2.2.1,(hb9.cell (by simp)).trans J.out.2.2.2.2.1,(hb9.cell (by simp)).trans J.out.2.2.2.2.2.1,⟨J.out.2.2.2.2.2.2.out.trans (hb9.mono (by simp))⟩⟩) ((go_at_call 80;refine (impl_Lock_told.calls k a b r0 x1 s r0 r1 r2 _ HK.out).mono ?_;rintro e w9 ⟨rfl,hb9⟩))
      go_wp2
      go_ret
      exact ⟨rfl,J.out.2.2.2.2.2.2.out.trans (hb9.mono (by simp))⟩
  · refine fin true (by simp [q0]) ?_
    clear fin
    have d0:(r0 == x0)=false:=by simp [q0]
    go_enter Tryz.func79,Tryz.ntmps79
    go_wp2
    go_region_held3 (fun w'=>w'.cell? ⟨gl,0,none⟩=some (.int .i64 a)∧w'.cell? ⟨gl,1,none⟩=some (.int .i64 b)∧w'.cell? ⟨gs,0,none⟩=some (.string s)∧w'.cell? ⟨W.heap.size,0,none⟩=some (.int .i64 x0)∧w'.cell? ⟨W.heap.size,1,none⟩=some (.int .i64 x1)∧w'.cell? ⟨W.heap.size,2,none⟩=some (.int .i64 x2)∧Aside0 (Below W.heap.size W w')) (first | exact J.out | exact ⟨(hb9.cell (by simp;have:=HLT.out;omega)).trans J.out.1,(hb9.cell (by simp;have:=HLT.out;omega)).trans J.out.2.1,(hb9.cell (by simp;have:=HLT.out;omega)).trans J.out.2.2.1,(hb9.cell (by simp)).trans J.out.2.2.2.1,(hb9.cell (by simp)).trans J.out.2.2.2.2.1,(hb9.cell (by simp)).trans J.out.2.2.2.2.2.1,⟨J.out.2.2.2.2.2.2.out.trans (hb9.mono (by simp))⟩⟩) ((go_at_call 80;refine (impl_Lock_told.calls k a b x0 x1 s r0 r1 r2 _ HK.out).mono ?_;rintro e w9 ⟨rfl,hb9⟩))
    go_wp2
    go_ret
    exact ⟨rfl,J.out.2.2.2.2.2.2.out.trans (hb9.mono (by simp))⟩
def impl_Lock_fit.f (k:Nat) (a b:Int) (l:List S48) (s:ByteArray):Option Bool:=if (l.all fun c=>(impl_Lock_told.f k a b c.f0 c.f1 s).isSome)=true then some (l.all fun c=>decide (impl_Lock_told.f k a b c.f0 c.f1 s=some (c.f0,c.f1,c.f2))) else none
set_option maxHeartbeats 4000000 in
set_option maxRecDepth 100000 in
theorem impl_Lock_fit.calls (k:Nat) (J Y:Int) (A1:Option Addr) (c1:Nat) (l1:List S48) (a2:ByteArray) (r:Bool) (w:World) (Z:Kd.C k48 w A1 l1.length l1) (a8:l1.length≤c1) (h:impl_Lock_fit.f k J Y l1 a2=some r) :
    Calls Tryz.prog 53 #[.agg #[.int .i64 J, .int .i64 Y], .slice A1 l1.length c1, .string a2] w fun e w'=>e = .returned (.bool r)∧Below w.heap.size w w':=by
  unfold impl_Lock_fit.f at h
  by_cases hc:(l1.all fun c=>(impl_Lock_told.f k J Y c.f0 c.f1 a2).isSome)=true
  · rw [if_pos hc] at h
    obtain rfl:=Option.some.inj h
    clear h
    have a7:=Tryz.underlying25
    have hus:=Tryz.underlying9
    have eg : ∀ args w,(callFunc 79 args).run Tryz.prog w = .ok (.enter 79 args) w:=enters_of Tryz.func79 (by kernel_rfl) rfl
    have HE:=amk eg
    clear eg
    have HR:=amk Z
    have HC:=amk hc
    clear Z hc
    rw [show (l1.all fun c=>decide (impl_Lock_told.f k J Y c.f0 c.f1 a2=some (c.f0,c.f1,c.f2))) = !(l1.any fun c=> !decide (impl_Lock_told.f k J Y c.f0 c.f1 a2=some (c.f0,c.f1,c.f2))) by simp [List.all_eq_not_any_not]]
    generalize hz:(l1.any fun c=> !decide (impl_Lock_told.f k J Y c.f0 c.f1 a2=some (c.f0,c.f1,c.f2)))=z
    have HZ:=amk hz
    clear hz
    have B1:Below w.heap.size w ((w.alloc (.cells #[.int .i64 J, .int .i64 Y] 25)).alloc (.cells #[.string a2] 9)):=ba_ (ba_ (Below.refl _ w) _) _
    have BW:=amk B1
    clear B1
    have HP:Aside0 (PredClue 79 #[.pointer (some ⟨w.heap.size,0,none⟩), .pointer (some ⟨w.heap.size + 1,0,none⟩)] (fun c=> !decide (impl_Lock_told.f k J Y c.f0 c.f1 a2=some (c.f0,c.f1,c.f2))) l1 ((w.alloc (.cells #[.int .i64 J, .int .i64 Y] 25)).alloc (.cells #[.string a2] 9))):=⟨by
      intro x hx V hV
      obtain ⟨⟨r0,r1,r2⟩,hv⟩:=Option.isSome_iff_exists.mp (List.all_eq_true.mp HC.out x hx)
      have hsz:=hV.size
      simp at hsz
      have:=fit_closure k J Y a2 w.heap.size (w.heap.size + 1) V (by omega) (by omega) ((hV.cell (p:=⟨w.heap.size,0,none⟩) (by simp;omega)).trans (by simp)) ((hV.cell (p:=⟨w.heap.size,1,none⟩) (by simp;omega)).trans (by simp)) ((hV.cell (p:=⟨w.heap.size + 1,0,none⟩) (by simp)).trans (by simp)) x r0 r1 r2 hv
      refine this.mono (fun e w' ⟨h1,h2⟩=>⟨?_,hV.trans (h2.mono hV.size)⟩)
      rw [h1]
      show _=Ending.returned (.bool (!decide (impl_Lock_told.f k J Y x.f0 x.f1 a2=some (x.f0,x.f1,x.f2))))
      rw [hv]
      simp⟩
    go_enter Tryz.func53,Tryz.ntmps53
    go_wp2_with (go_at_call 48;refine (contains_Clue 79 #[.pointer (some ⟨w.heap.size,0,none⟩), .pointer (some ⟨w.heap.size + 1,0,none⟩)] (fun c=> !decide (impl_Lock_told.f k J Y c.f0 c.f1 a2=some (c.f0,c.f1,c.f2))) A1 c1 l1 _ HE.out (Kd.C_below HR.out BW.out) HP.out).mono ?_;rintro e w2 ⟨rfl,a1⟩;have a6:=amk (BW.out.trans (a1.mono BW.out.size));clear a1)
    go_ret
    exact ⟨by rw [HZ.out];rfl,a6.out⟩
  · rw [if_neg hc] at h
    cases h
/-! ### impl_Lock_solutions: function 38 -/
def impl_Lock_solutions.l0:Nat→List (S48)→List ByteArray→Int→Int→Int→Int→Option (List ByteArray)
  | 0,_,_,_,_,_,_=>none
  | k + 1,x1,x5,a6,Z,J,Y=>if Z < a6 then ((impl_Lock_code.f J Y Z).bind fun a1=>((impl_Lock_fit.f k J Y x1 a1).bind fun t124=>(if t124=true then (if x5.length < 8796093022208 then (impl_Lock_solutions.l0 k x1 (x5 ++ [a1]) a6 (wrap64 (Z + 1)) J Y) else (none)) else (impl_Lock_solutions.l0 k x1 x5 a6 (wrap64 (Z + 1)) J Y)))) else (some x5)
def impl_Lock_solutions.f (k:Nat) (J:Int) (Y:Int) (l1:List (S48)):Option (List ByteArray):=(impl_Lock_count.f k J Y).bind fun Z=>(impl_Lock_solutions.l0 k l1 (([]:List ByteArray)) Z 0 J Y)
set_option maxHeartbeats 8000000 in
set_option maxRecDepth 100000 in
theorem impl_Lock_solutions.calls (k:Nat) (Y:Int) (Z:Int) (A1:Option Addr) (c1:Nat) (l1:List (S48)) (r:List ByteArray) (w:World) (ar:Kd.C k48 w A1 l1.length l1) (au:l1.length≤c1) (h:impl_Lock_solutions.f k Y Z l1=some r) :
    Calls Tryz.prog 38 #[.agg #[.int .i64 Y, .int .i64 Z], .slice A1 l1.length c1] w fun e w'=> ∃ v0_:Value,e = .returned (v0_)∧Kd.R Kd.string 9 w' w.heap.size (fun _=>True) v0_ r∧Below w.heap.size w w':=by
  have b6:=Tryz.underlying25;have av:=amk ar;have ax:=amk au;clear ar au;have HB:=amk (Below.refl w.heap.size w);unfold impl_Lock_solutions.f at h;have H:=h;clear h;(try rw [Option.bind_some] at H);generalize aa:(([]:List ByteArray))=ay at H;have ab:=amk aa.symm;clear aa;replace H:=bE H;obtain ⟨ak,A3,H⟩:=H;have H':=amk H;clear H;go_enter Tryz.func38,Tryz.ntmps38;go_wp2_with (first | ((with_reducible refine gate_dst (N:=2) rfl ?_);refine boxE_ HB 2 #[.int .i64 Y, .int .i64 Z] 25 ?_;clear HB;intro al w4 HB J b3 b4 hb;clear hb) | ((with_reducible refine gate_dst (N:=8) rfl ?_);refine Kd.R_lit Kd.string _ 9 ?hg (N:=8) ?hd (xs:=([]:List ByteArray)) (inner:=[]) (ok:=fun _=>True) (okp:=fun _=>True) ?hr ?hp (fun _ hk=>hk) trivial (Below.refl _ _) (Nat.le_refl _) (by simp) ?_;(case hd=>rfl);(case hg=>rfl);(case hr=>first | (go_simp;done) | (go_simp;rfl));(case hp=>exact (Reps.none _ _));intro b7 w5 ac hb hg_ hnew_;clear hg_ hnew_;(first | rw [←ab.out] at ac | (simp only [Int.reduceToNat] at ac;rw [←ab.out] at ac));have a8:=amk (Kd.R_lower ac (below_size bB));replace J:=kb2 J hb;replace HB:=hB2 HB hb;clear hb ac;obtain ⟨af,ag,ah,ai⟩:=cells2 J.out) | ((with_reducible refine gate_callee (f:=44) rfl ?_);refine goesL_ (some 10) rfl rfl Tryz.func44 (by kernel_rfl) rfl #[.agg #[.int .i64 Y, .int .i64 Z]] rfl gL_ ?_;(with_reducible refine (impl_Lock_count.calls k Y Z ak _ A3.out).mono ?_);rintro e w8 ⟨rfl,hb⟩;refine ⟨_,rfl,?_⟩;replace a8:=amk (Kd.R_below (oX a8) hb);replace J:=kb2 J hb;replace HB:=hB2 HB hb;(try clear hb)))
  go_loopg [5,11] k (fun kq v5 b5 w'=> ∃ (a7:List ByteArray) (a1:Int),b5 = .int .i64 a1∧Aside0 (impl_Lock_solutions.l0 kq l1 a7 ak a1 Y Z=some r)∧Aside0 (kq≤k)∧Aside0 (Kd.R Kd.string 9 w' w.heap.size (fun _=>True) v5 a7)∧Aside0 (w'.heap[al]?=some (.cells #[.int .i64 Y, .int .i64 Z] 25 (0,0)))∧Aside0 (Below w.heap.size w w'))
  case atStart=>exact ⟨(ay),(0),rS_,H',⟨Nat.le_refl _⟩,⟨oX a8⟩,⟨kB J⟩,⟨bB⟩⟩
  case round =>
    clear H';(try clear c1);(try clear p2);(try clear c3);(try clear c4);(try clear af);(try clear ag);(try clear ah);(try clear ai);obtain ⟨a7,a1,rfl,HA,aj,HO_5,J,HB⟩:=hrel
    cases gk with
    | zero=>exact absurd HA.out (by simp [impl_Lock_solutions.l0])
    | succ k1 =>
      have H:=HA.out;clear HA;simp only [impl_Lock_solutions.l0] at H;replace H:=iteE H;obtain ⟨az,H⟩ | ⟨az,H⟩:=H
      · replace H:=bE H;obtain ⟨a6,aA,H⟩:=H;replace H:=bE H;obtain ⟨t124,aC,H⟩:=H;replace H:=iteB H;obtain ⟨rfl,H⟩ | ⟨rfl,H⟩:=H
        · by_cases c13:a7.length < 8796093022208
          · rw [if_pos c13] at H;have am:=amk c13;clear c13;(try rw [Option.bind_some] at H);generalize ae:((a7 ++ [a6]):List ByteArray)=aD at H;have an:=amk ae.symm;clear ae;have H':=amk H;clear H;obtain ⟨aE,aG,aH,aI⟩:=cells2 J.out;go_wp2_with (first | ((with_reducible refine gate_callee (f:=64) rfl ?_);refine goesL_ (some 16) rfl rfl Tryz.func64 (by kernel_rfl) rfl #[.agg #[.int .i64 Y, .int .i64 Z], .int .i64 a1] rfl gL_ ?_;(with_reducible refine (impl_Lock_code.calls Y Z a1 a6 _ aA.out).mono ?_);rintro e b9 ⟨rfl,hb⟩;refine ⟨_,rfl,?_⟩;replace HO_5:=amk (Kd.R_below (oX HO_5) hb);replace J:=kb2 J hb;replace HB:=hB2 HB hb;(try clear hb);obtain ⟨aJ,aK,aM,aN⟩:=cells2 J.out) | ((with_reducible refine gate_callee (f:=53) rfl ?_);refine goesL_ (some 20) rfl rfl Tryz.func53 (by kernel_rfl) rfl #[.agg #[.int .i64 Y, .int .i64 Z], .slice A1 l1.length c1, .string a6] rfl gL_ ?_;(with_reducible refine (impl_Lock_fit.calls k1 Y Z _ _ l1 a6 true _ ?_ ?_ aC.out).mono ?_);exact cB (Kd.C_below av.out HB.out);exact ax.out;rintro e ba ⟨rfl,hb⟩;refine ⟨_,rfl,?_⟩;replace HO_5:=amk (Kd.R_below (oX HO_5) hb);replace J:=kb2 J hb;replace HB:=hB2 HB hb;(try clear hb)) | ((with_reducible refine gate_builtin (b:= .append) (xs:= #[.tmp 21, .tmp 23]) rfl ?_);at_builtin;refine Kd.R_append Kd.string (w0:=w) w.heap.size rfl (.tmp 21) (.tmp 23) 30 9 (.string ⟨#[]⟩) 16 rfl Tryz.underlying30 info9 rfl (by decide) (by omega) u5 a7 a6 [.string a6] (fun _=>True) (fun _=>False) rfl rfl rfl (fun _ hk=>hk.elim) (fun _ _=>trivial) (oX HO_5) bB (below_size bB) (by have:=am.out;omega) ?_;intro b8 bb ho hb hg hat;rw [←an.out] at ho;replace J:=bG J hg (Kd.R_ne HO_5.out J.out (by decide));replace HB:=amk (hb);have ap:=amk (ho);clear HO_5;clear ho hb hg hat));go_roundg k1
            case measure=>have:=aj.out;omega
            case rel=>exact ⟨(aD),(wrap64 (a1 + 1)),rS_,H',⟨by have:=aj.out;omega⟩,⟨oX ap⟩,⟨kB J⟩,⟨bB⟩⟩
          · rw [if_neg c13] at H;exact absurd H (by simp)
        · have H':=amk H;clear H;obtain ⟨aQ,aT,aU,aV⟩:=cells2 J.out;go_wp2_with (first | ((with_reducible refine gate_callee (f:=64) rfl ?_);refine goesL_ (some 16) rfl rfl Tryz.func64 (by kernel_rfl) rfl #[.agg #[.int .i64 Y, .int .i64 Z], .int .i64 a1] rfl gL_ ?_;(with_reducible refine (impl_Lock_code.calls Y Z a1 a6 _ aA.out).mono ?_);rintro e bc ⟨rfl,hb⟩;refine ⟨_,rfl,?_⟩;replace HO_5:=amk (Kd.R_below (oX HO_5) hb);replace J:=kb2 J hb;replace HB:=hB2 HB hb;(try clear hb);obtain ⟨aW,aX,aY,aZ⟩:=cells2 J.out) | ((with_reducible refine gate_callee (f:=53) rfl ?_);refine goesL_ (some 20) rfl rfl Tryz.func53 (by kernel_rfl) rfl #[.agg #[.int .i64 Y, .int .i64 Z], .slice A1 l1.length c1, .string a6] rfl gL_ ?_;(with_reducible refine (impl_Lock_fit.calls k1 Y Z _ _ l1 a6 false _ ?_ ?_ aC.out).mono ?_);exact cB (Kd.C_below av.out HB.out);exact ax.out;rintro e bd ⟨rfl,hb⟩;refine ⟨_,rfl,?_⟩;replace HO_5:=amk (Kd.R_below (oX HO_5) hb);replace J:=kb2 J hb;replace HB:=hB2 HB hb;(try clear hb)));go_roundg k1
          case measure=>have:=aj.out;omega
          case rel=>exact ⟨(a7),(wrap64 (a1 + 1)),rS_,H',⟨by have:=aj.out;omega⟩,⟨oX HO_5⟩,⟨kB J⟩,⟨bB⟩⟩
      · obtain rfl:=Option.some.inj H;go_wp2;go_ret;exact ⟨_,rF_,oX HO_5,bB⟩
/-! ### impl_BestClue: function 20 -/
mutual
def impl_BestClue.j0:Nat→Bool→Int→Int→List (S48)→Option (Int×Bool)
  | 0,_,_,_,_=>none
  | k + 1,aa,Y,Z,J=>if aa=true then (some (0,false)) else ((impl_Lock_count.f k Y Z).bind fun a8=>(impl_BestClue.l0 k 0 (wrap64 (a8 + 1)) (J.length:Int) 0 Y Z J))
def impl_BestClue.l0:Nat→Int→Int→Int→Int→Int→Int→List (S48)→Option (Int×Bool)
  | 0,_,_,_,_,_,_,_=>none
  | k + 1,x4,x5,a7,a1,Y,Z,J=>if a1 < a7 then (if 0≤a1 then (if a1≤(wrap64 (a1 + 1)) then (if (wrap64 (a1 + 1))≤(J.length:Int) then ((impl_Lock_solutions.f k Y Z ((J.take ((wrap64 (a1 + 1)):Int).toNat).drop (a1:Int).toNat)).bind fun a6=>(if (a6.length:Int) < x5 then (impl_BestClue.l0 k a1 (a6.length:Int) a7 (wrap64 (a1 + 1)) Y Z J) else (impl_BestClue.l0 k x4 x5 a7 (wrap64 (a1 + 1)) Y Z J))) else (none)) else (none)) else (none)) else (some (x4,true))
end
def impl_BestClue.f (k:Nat) (Y:Int) (Z:Int) (J:List (S48)):Option (Int×Bool):=(impl_IsPuzzle.f Y Z J).bind fun a1=>(if a1=true then (impl_BestClue.j0 k ((J.length:Int) == 0) Y Z J) else (impl_BestClue.j0 k true Y Z J))
def impl_BestClue.T7:Bool×List (List Nat×List Nat):=(true,[([],[]),([0],[0]),([],[]),([2],[2]),([],[]),([],[]),([5],[5]),([3,4,6],[3,4,6]),([1,7],[1,7]),([8],[8]),([9,8,0,1,2,3,4,5,6,7,8,9],[9])])
def impl_BestClue.B7:List Nat:=[0,1,0,4,0,0,32,124,255,511,1023]
theorem impl_BestClue.tab7:rtab .any (opsOf Tryz.f20 7)=impl_BestClue.T7:=by kernel_rfl
theorem impl_BestClue.bits7:waitsOk impl_BestClue.T7.2 impl_BestClue.B7=true:=by kernel_rfl
set_option maxHeartbeats 8000000 in
set_option maxRecDepth 100000 in
theorem impl_BestClue.calls (k:Nat) (a1:Int) (a6:Int) (a8:Option Addr) (a7:Nat) (Z:List (S48)) (r1:Int) (r2:Bool) (w:World) (aY:Kd.C k48 w a8 Z.length Z) (aZ:Z.length≤a7) (h:impl_BestClue.f k a1 a6 Z=some (r1,r2)) :
    Calls Tryz.prog 20 #[.agg #[.int .i64 a1, .int .i64 a6, .slice a8 Z.length a7]] w fun e w'=>e = .returned (.tuple #[.int .i64 r1, .bool r2])∧Below w.heap.size w w':=by
  have cg:=Tryz.underlying28;have ci:=Tryz.underlying25;have ag:=amk aY;have ah:=amk aZ;clear aY aZ;have HB:=amk (Below.refl w.heap.size w);unfold impl_BestClue.f at h;have H:=h;clear h;have bD:=amk H;clear H;go_enter Tryz.func20,Tryz.ntmps20
  go_upto_region 1 with (first | ((with_reducible refine gate_dst (N:=1) rfl ?_);(try (refine gate_guard (by rfl) ?_;dsimp only));refine boxE_ HB 1 #[.int .i64 a1, .int .i64 a6, .slice a8 Z.length a7] 28 ?_;clear HB;intro ab w3 HB Y bY bZ hb;clear hb))
  (try simp only [Act.put,List.setIfInBounds_toArray,List.set_cons_zero,List.set_cons_succ])
  go_cut [16] (fun c6 wc=> ∃ (kq:Nat) (al:Bool),c6 = .bool al∧Aside0 (impl_BestClue.j0 kq al a1 a6 Z=some (r1,r2))∧Aside0 (kq≤k)∧Aside0 (wc.heap[ab]?=some (.cells #[.int .i64 a1, .int .i64 a6,(.slice a8 Z.length a7)] 28 (0,0)))∧Aside0 (Below w.heap.size w wc))
  case first =>
    have H:=bD.out;clear bD;replace H:=bE H;obtain ⟨cj,A4,H⟩:=H;replace H:=iteB H;obtain ⟨rfl,H⟩ | ⟨rfl,H⟩:=H
    · have H':=amk H;clear H;obtain ⟨ap,ar,au,av,ax,ay⟩:=cells3 Y.out;go_wp2_with (first | ((with_reducible refine gate_callee (f:=26) rfl ?_);refine goesL_ (some 9) rfl rfl Tryz.func26 (by kernel_rfl) rfl #[.agg #[.int .i64 a1, .int .i64 a6, .slice a8 Z.length a7]] rfl gL_ ?_;(with_reducible refine (impl_IsPuzzle.calls a1 a6 _ _ Z true _ ?_ ?_ A4.out).mono ?_);exact cB (Kd.C_below ag.out HB.out);exact ah.out;rintro e w7 ⟨rfl,hb⟩;refine ⟨_,rfl,?_⟩;replace Y:=kb2 Y hb;replace HB:=hB2 HB hb;(try clear hb);obtain ⟨az,aA,aC,aD,aE,aG⟩:=cells3 Y.out));go_meet
      case rel=>exact ⟨_,(((Z.length:Int) == 0)),rS_,H',⟨by first | omega | exact Nat.le_refl _⟩,⟨kB Y⟩,⟨bB⟩⟩
    · have H':=amk H;clear H;obtain ⟨aH,aI,aJ,aK,aM,aN⟩:=cells3 Y.out;go_wp2_with (first | ((with_reducible refine gate_callee (f:=26) rfl ?_);refine goesL_ (some 9) rfl rfl Tryz.func26 (by kernel_rfl) rfl #[.agg #[.int .i64 a1, .int .i64 a6, .slice a8 Z.length a7]] rfl gL_ ?_;(with_reducible refine (impl_IsPuzzle.calls a1 a6 _ _ Z false _ ?_ ?_ A4.out).mono ?_);exact cB (Kd.C_below ag.out HB.out);exact ah.out;rintro e cx ⟨rfl,hb⟩;refine ⟨_,rfl,?_⟩;replace Y:=kb2 Y hb;replace HB:=hB2 HB hb;(try clear hb)));go_meet
      case rel=>exact ⟨_,(true),rS_,H',⟨by first | omega | exact Nat.le_refl _⟩,⟨kB Y⟩,⟨bB⟩⟩
  case rest =>
    clear bD;(try clear c2);(try clear p2);(try clear c5);(try clear ap);(try clear ar);(try clear au);(try clear az);(try clear aA);(try clear aC);(try clear aH);(try clear aI);(try clear aJ);(try clear av);(try clear ax);(try clear ay);(try clear aD);(try clear aE);(try clear aG);(try clear aK);(try clear aM);(try clear aN);obtain ⟨kq,al,rfl,HA,bo,Y,HB⟩:=hcut
    cases kq with
    | zero=>exact absurd HA.out (by simp [impl_BestClue.j0])
    | succ bF =>
      have H:=HA.out;clear HA;simp only [impl_BestClue.j0] at H;replace H:=iteB H;obtain ⟨rfl,H⟩ | ⟨rfl,H⟩:=H
      · simp only [Option.some.injEq,Prod.mk.injEq] at H;obtain ⟨rfl,rfl⟩:=H;go_wp2;go_ret2;exact ⟨rF_,bB⟩
      · replace H:=bE H;obtain ⟨bu,c7,H⟩:=H;have H':=amk H;clear H;obtain ⟨b3,b4,b5,b6,b7,b8⟩:=cells3 Y.out;go_wp2_with (first | ((with_reducible refine gate_callee (f:=44) rfl ?_);refine goesL_ (some 19) rfl rfl Tryz.func44 (by kernel_rfl) rfl #[.agg #[.int .i64 a1, .int .i64 a6]] rfl gL_ ?_;(with_reducible refine (impl_Lock_count.calls bF a1 a6 bu _ c7.out).mono ?_);rintro e cy ⟨rfl,hb⟩;refine ⟨_,rfl,?_⟩;replace Y:=kb2 Y hb;replace HB:=hB2 HB hb;(try clear hb);obtain ⟨b9,ba,bb,bc,bd,be⟩:=cells3 Y.out))
        go_loopg [4,5,24] bF (fun kq v4 v5 v24 w'=> ∃ (aQ:Int) (aT:Int) (J:Int),v4 = .int .i64 aQ∧v5 = .int .i64 aT∧v24 = .int .i64 J∧Aside0 (impl_BestClue.l0 kq aQ aT (Z.length:Int) J a1 a6 Z=some (r1,r2))∧Aside0 (kq≤bF)∧Aside0 (w'.heap[ab]?=some (.cells #[.int .i64 a1, .int .i64 a6,(.slice a8 Z.length a7)] 28 (0,0)))∧Aside0 (Below w.heap.size w w'))
        case atStart=>exact ⟨(0),(wrap64 (bu + 1)),(0),rS_,rS_,rS_,H',⟨Nat.le_refl _⟩,⟨kB Y⟩,⟨bB⟩⟩
        case round =>
          clear H';(try clear c1);(try clear c2);(try clear p2);(try clear c4);(try clear c5);(try clear p6);(try clear c11);(try clear b3);(try clear b4);(try clear b5);(try clear b9);(try clear ba);(try clear bb);(try clear ap);(try clear ar);(try clear au);(try clear az);(try clear aA);(try clear aC);(try clear aH);(try clear aI);(try clear aJ);(try clear b6);(try clear b7);(try clear b8);(try clear bc);(try clear bd);(try clear be);(try clear av);(try clear ax);(try clear ay);(try clear aD);(try clear aE);(try clear aG);(try clear aK);(try clear aM);(try clear aN);(try clear p2);obtain ⟨aQ,aT,J,rfl,rfl,rfl,HA,bp,Y,HB⟩:=hrel
          cases gk with
          | zero=>exact absurd HA.out (by simp [impl_BestClue.l0])
          | succ k2 =>
            have H:=HA.out;clear HA;simp only [impl_BestClue.l0] at H;replace H:=iteE H;obtain ⟨bH,H⟩ | ⟨bH,H⟩:=H
            · by_cases c17:0≤J
              · rw [if_pos c17] at H;have c8:=eq_true c17;have ca:decide (0≤J)=true:=decide_eq_true c17;clear c17
                by_cases c18:J≤(wrap64 (J + 1))
                · rw [if_pos c18] at H;have cb:=eq_true c18;have cd:decide (J≤(wrap64 (J + 1)))=true:=decide_eq_true c18
                  by_cases c19:(wrap64 (J + 1))≤(Z.length:Int)
                  · rw [if_pos c19] at H;have ce:=eq_true c19;have cf:decide ((wrap64 (J + 1))≤(Z.length:Int))=true:=decide_eq_true c19;(try rw [Option.bind_some] at H);generalize bf:(((Z.take ((wrap64 (J + 1)):Int).toNat).drop (J:Int).toNat):List (S48))=aa at H;have ai:=amk bf.symm;clear bf;replace H:=bE H;obtain ⟨bg,bN,H⟩:=H;replace H:=iteE H;obtain ⟨bJ,H⟩ | ⟨bJ,H⟩:=H
                    · have H':=amk H;clear H;(try go_wp2);replace Y:=amk (blk_drew Y.out);replace HB:=amk (bd_ HB.out);have bL:((wrap64 (J + 1)):Int)≤((Z.length:Int):Int):=dA_;obtain ⟨ck,bh,_,bi,_⟩:=info_parts info48;have ac:Z.length≤a7:=ah.out;have bv:Kd.C k48 _ a8 Z.length Z:=ag.out;have bO:(J:Int)≤((wrap64 (J + 1)):Int):=dA_;have bQ:(0:Int)≤(J:Int):=dA_;have bq:=cut_mid (P:=Tryz.prog) 26 48 .i64 .i64 Tryz.underlying26 bh 3 bi a8 Z.length a7 J (wrap64 (J + 1)) bQ bO bL ac;have aj:=Kd.C_mid (lo:=(J:Int).toNat) (hi:=((wrap64 (J + 1)):Int).toNat) (c:=a7) bv (by omega) (by omega) ac;obtain ⟨bR,aU⟩ : ∃ A1,A1=(if a7=(J:Int).toNat then a8 else (a8:Option Addr).map (·.add ((J:Int).toNat * 3))):=⟨_,rfl⟩;obtain ⟨bS,bj⟩ : ∃ c1,c1=a7 - (J:Int).toNat:=⟨_,rfl⟩;have aV:aa.length=((wrap64 (J + 1)):Int).toNat - (J:Int).toNat:=(by rw [ai.out,List.length_drop,List.length_take] <;> omega);rw [show ((Z).take ((wrap64 (J + 1)):Int).toNat).drop (J:Int).toNat=aa from ai.out.symm] at aj;replace aj:Kd.C k48 _ bR aa.length aa:=(by rw [aU];exact aj);rw [←aV,←aU,←bj] at bq;have af:=amk aj;have am:=amk (show aa.length≤bS from by rw [aV,bj];exact Nat.sub_le_sub_right (Nat.le_trans (by omega) ac) _);clear aj bv ac bh bi bj;have cm:=amk aV;have cn:=amk aU;clear aV aU;replace bL:=eq_true bL;refine start_ (n:=11) (S:=fun w'=>w'.cell? ⟨ab,0,none⟩=some (.int .i64 a1)∧w'.cell? ⟨ab,1,none⟩=some (.int .i64 a6)∧w'.cell? ⟨ab,2,none⟩=some (.slice a8 Z.length a7)) (ds:=[]) (bA 11 0) (by kernel_rfl) rfl rfl ⟨(blk_cell Y.out 0).trans rfl,(blk_cell Y.out 1).trans rfl,(blk_cell Y.out 2).trans rfl⟩ (fun hHeld=>?_);refine with_tabW impl_BestClue.tab7 impl_BestClue.bits7 (fun HT_ HW_=>?_);generalize wr.drew=cz at Y HB af hHeld ⊢;refine pU_ HT_ 0 (some 27) (bA 11 1) ?_;refine pU_ HT_ 2 (some 29) (bA 11 5) ?_;refine pU_ HT_ 4 (some 31) (bA 11 21) ?_;refine pU_ HT_ 5 (some 32) (bA 11 53) ?_;refine pU_ HT_ 6 (some 33) (bA 11 117) ?_;refine tK_ HT_ HW_ hHeld 1 (some 28) (bA 11 119) ?_;refine tK_ HT_ HW_ hHeld 3 (some 30) (bA 11 127) ?_;refine pU_ HT_ 7 (some 34) (bA 11 255) ?_;refine oN_ HT_ 8 (some 35) (bA 11 511) (fun K hK=>?_);refine goes_ Tryz.func38 (by kernel_rfl) rfl #[.agg #[.int .i64 a1, .int .i64 a6], .slice bR aa.length bS] (by rfl) rfl rfl gL_ ?_;(with_reducible refine (impl_Lock_solutions.calls k2 a1 a6 _ _ aa bg _ ?_ ?_ bN.out).mono ?_);exact cB (Kd.C_below af.out HB.out);exact am.out;rintro e cA ⟨bT,rfl,bk,hb⟩;refine ⟨_,rfl,?_⟩;have an:=amk (Kd.R_lower bk (below_size bB));replace Y:=kb2 Y hb;replace HB:=hB2 HB hb;(try clear hb);(try clear bk);obtain ⟨co,cp,bw⟩:=Kd.R_slice an.out;(first | subst bw | (injection bw with f1_ f2_ f3_;have f4_:=f1_.symm;have f5_:=f3_.symm;clear f1_ f2_ f3_;subst f4_;subst f5_));refine hK.out _ _ hC_ (fun hHeld=>?_);clear hK K;refine nN_ (some 35) ?_;refine pU_ HT_ 9 (some 36) (bA 11 1023) ?_;refine pU_ HT_ 10 (some 7) (bA 11 2047) ?_;refine done_ (done_of HT_.out (by kernel_rfl)) ?_;(try go_wp2);go_roundg k2
                      case measure=>have:=bo.out;have:=bp.out;omega
                      case rel=>exact ⟨(J),((bg.length:Int)),(wrap64 (J + 1)),rS_,rS_,rS_,H',⟨by have:=bo.out;have:=bp.out;omega⟩,⟨kB Y⟩,⟨bB⟩⟩
                    · have H':=amk H;clear H;(try go_wp2);replace Y:=amk (blk_drew Y.out);replace HB:=amk (bd_ HB.out);have bM:((wrap64 (J + 1)):Int)≤((Z.length:Int):Int):=dA_;obtain ⟨cq,bl,_,bm,_⟩:=info_parts info48;have ae:Z.length≤a7:=ah.out;have bz:Kd.C k48 _ a8 Z.length Z:=ag.out;have bU:(J:Int)≤((wrap64 (J + 1)):Int):=dA_;have bV:(0:Int)≤(J:Int):=dA_;have br:=cut_mid (P:=Tryz.prog) 26 48 .i64 .i64 Tryz.underlying26 bl 3 bm a8 Z.length a7 J (wrap64 (J + 1)) bV bU bM ae;have ak:=Kd.C_mid (lo:=(J:Int).toNat) (hi:=((wrap64 (J + 1)):Int).toNat) (c:=a7) bz (by omega) (by omega) ae;obtain ⟨bW,aW⟩ : ∃ A1,A1=(if a7=(J:Int).toNat then a8 else (a8:Option Addr).map (·.add ((J:Int).toNat * 3))):=⟨_,rfl⟩;obtain ⟨bX,bn⟩ : ∃ c1,c1=a7 - (J:Int).toNat:=⟨_,rfl⟩;have aX:aa.length=((wrap64 (J + 1)):Int).toNat - (J:Int).toNat:=(by rw [ai.out,List.length_drop,List.length_take] <;> omega);rw [show ((Z).take ((wrap64 (J + 1)):Int).toNat).drop (J:Int).toNat=aa from ai.out.symm] at ak;replace ak:Kd.C k48 _ bW aa.length aa:=(by rw [aW];exact ak);rw [←aX,←aW,←bn] at br;have af:=amk ak;have am:=amk (show aa.length≤bX from by rw [aX,bn];exact Nat.sub_le_sub_right (Nat.le_trans (by omega) ae) _);clear ak bz ae bl bm bn;have cr:=amk aX;have cu:=amk aW;clear aX aW;replace bM:=eq_true bM;refine start_ (n:=11) (S:=fun w'=>w'.cell? ⟨ab,0,none⟩=some (.int .i64 a1)∧w'.cell? ⟨ab,1,none⟩=some (.int .i64 a6)∧w'.cell? ⟨ab,2,none⟩=some (.slice a8 Z.length a7)) (ds:=[]) (bA 11 0) (by kernel_rfl) rfl rfl ⟨(blk_cell Y.out 0).trans rfl,(blk_cell Y.out 1).trans rfl,(blk_cell Y.out 2).trans rfl⟩ (fun hHeld=>?_);refine with_tabW impl_BestClue.tab7 impl_BestClue.bits7 (fun HT_ HW_=>?_);generalize wr.drew=cC at Y HB af hHeld ⊢;refine pU_ HT_ 0 (some 27) (bA 11 1) ?_;refine pU_ HT_ 2 (some 29) (bA 11 5) ?_;refine pU_ HT_ 4 (some 31) (bA 11 21) ?_;refine pU_ HT_ 5 (some 32) (bA 11 53) ?_;refine pU_ HT_ 6 (some 33) (bA 11 117) ?_;refine tK_ HT_ HW_ hHeld 1 (some 28) (bA 11 119) ?_;refine tK_ HT_ HW_ hHeld 3 (some 30) (bA 11 127) ?_;refine pU_ HT_ 7 (some 34) (bA 11 255) ?_;refine oN_ HT_ 8 (some 35) (bA 11 511) (fun K hK=>?_);refine goes_ Tryz.func38 (by kernel_rfl) rfl #[.agg #[.int .i64 a1, .int .i64 a6], .slice bW aa.length bX] (by rfl) rfl rfl gL_ ?_;(with_reducible refine (impl_Lock_solutions.calls k2 a1 a6 _ _ aa bg _ ?_ ?_ bN.out).mono ?_);exact cB (Kd.C_below af.out HB.out);exact am.out;rintro e cE ⟨bT,rfl,bk,hb⟩;refine ⟨_,rfl,?_⟩;have an:=amk (Kd.R_lower bk (below_size bB));replace Y:=kb2 Y hb;replace HB:=hB2 HB hb;(try clear hb);(try clear bk);obtain ⟨cv,cw,bC⟩:=Kd.R_slice an.out;(first | subst bC | (injection bC with f1_ f2_ f3_;have f4_:=f1_.symm;have f5_:=f3_.symm;clear f1_ f2_ f3_;subst f4_;subst f5_));refine hK.out _ _ hC_ (fun hHeld=>?_);clear hK K;refine nN_ (some 35) ?_;refine pU_ HT_ 9 (some 36) (bA 11 1023) ?_;refine pU_ HT_ 10 (some 7) (bA 11 2047) ?_;refine done_ (done_of HT_.out (by kernel_rfl)) ?_;(try go_wp2);go_roundg k2
                      case measure=>have:=bo.out;have:=bp.out;omega
                      case rel=>exact ⟨(aQ),(aT),(wrap64 (J + 1)),rS_,rS_,rS_,H',⟨by have:=bo.out;have:=bp.out;omega⟩,⟨kB Y⟩,⟨bB⟩⟩
                  · rw [if_neg c19] at H;exact absurd H (by simp)
                · rw [if_neg c18] at H;exact absurd H (by simp)
              · rw [if_neg c17] at H;exact absurd H (by simp)
            · simp only [Option.some.injEq,Prod.mk.injEq] at H;obtain ⟨rfl,rfl⟩:=H;go_wp2;go_ret2;exact ⟨rF_,bB⟩
/-! ### impl_CountCodes: function 28 -/
def impl_CountCodes.f (k:Nat) (J:Int) (Y:Int):Option (Int×Bool):=(impl_IsLock.f J Y).bind fun Z=>(if Z=true then ((impl_Lock_count.f k J Y).bind fun a1=>(some (a1,true))) else (some (0,false)))
set_option maxHeartbeats 8000000 in
set_option maxRecDepth 100000 in
theorem impl_CountCodes.calls (k:Nat) (Y:Int) (Z:Int) (r1:Int) (r2:Bool) (w:World) (h:impl_CountCodes.f k Y Z=some (r1,r2)) :
    Calls Tryz.prog 28 #[.agg #[.int .i64 Y, .int .i64 Z]] w fun e w'=>e = .returned (.tuple #[.int .i64 r1, .bool r2])∧Below w.heap.size w w':=by
  have an:=Tryz.underlying25;have HB:=amk (Below.refl w.heap.size w);unfold impl_CountCodes.f at h;have H:=h;clear h;replace H:=bE H;obtain ⟨ap,A2,H⟩:=H;replace H:=iteB H;obtain ⟨rfl,H⟩ | ⟨rfl,H⟩:=H
  · replace H:=bE H;obtain ⟨a8,A4,H⟩:=H;simp only [Option.some.injEq,Prod.mk.injEq] at H;obtain ⟨rfl,rfl⟩:=H;go_enter Tryz.func28,Tryz.ntmps28;go_wp2_with (first | ((with_reducible refine gate_dst (N:=1) rfl ?_);refine boxE_ HB 1 #[.int .i64 Y, .int .i64 Z] 25 ?_;clear HB;intro a1 w5 HB J a6 a7 hb;clear hb;obtain ⟨af,ag,ah,ai⟩:=cells2 J.out) | ((with_reducible refine gate_callee (f:=51) rfl ?_);refine goesL_ (some 5) rfl rfl Tryz.func51 (by kernel_rfl) rfl #[.agg #[.int .i64 Y, .int .i64 Z]] rfl gL_ ?_;(with_reducible refine (impl_IsLock.calls Y Z true _ A2.out).mono ?_);rintro e w7 ⟨rfl,hb⟩;refine ⟨_,rfl,?_⟩;replace J:=kb2 J hb;replace HB:=hB2 HB hb;(try clear hb);obtain ⟨aj,ak,al,am⟩:=cells2 J.out) | ((with_reducible refine gate_callee (f:=44) rfl ?_);refine goesL_ (some 8) rfl rfl Tryz.func44 (by kernel_rfl) rfl #[.agg #[.int .i64 Y, .int .i64 Z]] rfl gL_ ?_;(with_reducible refine (impl_Lock_count.calls k Y Z a8 _ A4.out).mono ?_);rintro e w9 ⟨rfl,hb⟩;refine ⟨_,rfl,?_⟩;replace J:=kb2 J hb;replace HB:=hB2 HB hb;(try clear hb)));go_ret2;exact ⟨rF_,bB⟩
  · simp only [Option.some.injEq,Prod.mk.injEq] at H;obtain ⟨rfl,rfl⟩:=H;go_enter Tryz.func28,Tryz.ntmps28;go_wp2_with (first | ((with_reducible refine gate_dst (N:=1) rfl ?_);refine boxE_ HB 1 #[.int .i64 Y, .int .i64 Z] 25 ?_;clear HB;intro a1 ar HB J a6 a7 hb;clear hb;obtain ⟨aa,ab,ac,ae⟩:=cells2 J.out) | ((with_reducible refine gate_callee (f:=51) rfl ?_);refine goesL_ (some 5) rfl rfl Tryz.func51 (by kernel_rfl) rfl #[.agg #[.int .i64 Y, .int .i64 Z]] rfl gL_ ?_;(with_reducible refine (impl_IsLock.calls Y Z false _ A2.out).mono ?_);rintro e au ⟨rfl,hb⟩;refine ⟨_,rfl,?_⟩;replace J:=kb2 J hb;replace HB:=hB2 HB hb;(try clear hb)));go_ret2;exact ⟨rF_,bB⟩
/-! ### impl_Solutions: function 6 -/
def impl_Solutions.f (k:Nat) (J:Int) (Y:Int) (Z:List (S48)):Option (List ByteArray×Bool):=(impl_IsPuzzle.f J Y Z).bind fun a1=>(if a1=true then ((impl_Lock_solutions.f k J Y Z).bind fun t130=>(some (t130,true))) else (some (([]:List ByteArray),false)))
set_option maxHeartbeats 8000000 in
set_option maxRecDepth 100000 in
theorem impl_Solutions.calls (k:Nat) (Z:Int) (a1:Int) (a6:Option Addr) (a7:Nat) (Y:List (S48)) (r1:List ByteArray) (r2:Bool) (w:World) (ab:Kd.C k48 w a6 Y.length Y) (ac:Y.length≤a7) (h:impl_Solutions.f k Z a1 Y=some (r1,r2)) :
    Calls Tryz.prog 6 #[.agg #[.int .i64 Z, .int .i64 a1, .slice a6 Y.length a7]] w fun e w'=> ∃ v0_:Value,e = .returned (.tuple #[v0_, .bool r2])∧Kd.R Kd.string 9 w' w.heap.size (fun _=>True) v0_ r1∧Below w.heap.size w w':=by
  have aI:=Tryz.underlying28;have aJ:=Tryz.underlying25;have a8:=amk ab;have aa:=amk ac;clear ab ac;have HB:=amk (Below.refl w.heap.size w);unfold impl_Solutions.f at h;have H:=h;clear h;replace H:=bE H;obtain ⟨aK,A2,H⟩:=H;replace H:=iteB H;obtain ⟨rfl,H⟩ | ⟨rfl,H⟩:=H
  · replace H:=bE H;obtain ⟨t130,A4,H⟩:=H;simp only [Option.some.injEq,Prod.mk.injEq] at H;obtain ⟨rfl,rfl⟩:=H;go_enter Tryz.func6,Tryz.ntmps6;go_wp2_with (first | ((with_reducible refine gate_dst (N:=1) rfl ?_);refine boxE_ HB 1 #[.int .i64 Z, .int .i64 a1, .slice a6 Y.length a7] 28 ?_;clear HB;intro ae w5 HB J af ag hb;clear hb;obtain ⟨ar,au,av,ax,ay,az⟩:=cells3 J.out) | ((with_reducible refine gate_callee (f:=26) rfl ?_);refine goesL_ (some 5) rfl rfl Tryz.func26 (by kernel_rfl) rfl #[.agg #[.int .i64 Z, .int .i64 a1, .slice a6 Y.length a7]] rfl gL_ ?_;(with_reducible refine (impl_IsPuzzle.calls Z a1 _ _ Y true _ ?_ ?_ A2.out).mono ?_);exact cB (Kd.C_below a8.out HB.out);exact aa.out;rintro e w7 ⟨rfl,hb⟩;refine ⟨_,rfl,?_⟩;replace J:=kb2 J hb;replace HB:=hB2 HB hb;(try clear hb);obtain ⟨aA,aC,aD,aE,aG,aH⟩:=cells3 J.out) | ((with_reducible refine gate_callee (f:=38) rfl ?_);refine goesL_ (some 11) rfl rfl Tryz.func38 (by kernel_rfl) rfl #[.agg #[.int .i64 Z, .int .i64 a1], .slice a6 Y.length a7] rfl gL_ ?_;(with_reducible refine (impl_Lock_solutions.calls k Z a1 _ _ Y t130 _ ?_ ?_ A4.out).mono ?_);exact cB (Kd.C_below a8.out HB.out);exact aa.out;rintro e w9 ⟨v131,rfl,ai,hb⟩;refine ⟨_,rfl,?_⟩;have ah:=amk (Kd.R_lower ai (below_size bB));replace J:=kb2 J hb;replace HB:=hB2 HB hb;(try clear hb);(try clear ai)));go_ret2;exact ⟨_,rF_,oX ah,bB⟩
  · simp only [Option.some.injEq,Prod.mk.injEq] at H;obtain ⟨rfl,rfl⟩:=H;go_enter Tryz.func6,Tryz.ntmps6;go_wp2_with (first | ((with_reducible refine gate_dst (N:=1) rfl ?_);refine boxE_ HB 1 #[.int .i64 Z, .int .i64 a1, .slice a6 Y.length a7] 28 ?_;clear HB;intro ae aM HB J af ag hb;clear hb;obtain ⟨aj,ak,al,am,an,ap⟩:=cells3 J.out) | ((with_reducible refine gate_callee (f:=26) rfl ?_);refine goesL_ (some 5) rfl rfl Tryz.func26 (by kernel_rfl) rfl #[.agg #[.int .i64 Z, .int .i64 a1, .slice a6 Y.length a7]] rfl gL_ ?_;(with_reducible refine (impl_IsPuzzle.calls Z a1 _ _ Y false _ ?_ ?_ A2.out).mono ?_);exact cB (Kd.C_below a8.out HB.out);exact aa.out;rintro e aN ⟨rfl,hb⟩;refine ⟨_,rfl,?_⟩;replace J:=kb2 J hb;replace HB:=hB2 HB hb;(try clear hb)));go_ret2;exact ⟨_,rF_,xN_,bB⟩
/-! ### impl_CountSolutions: function 8 -/
def impl_CountSolutions.f (k:Nat) (Y:Int) (Z:Int) (a1:List (S48)):Option (Int×Bool):=(impl_Solutions.f k Y Z a1).bind fun J=>(some ((J.1.length:Int),J.2))
set_option maxHeartbeats 8000000 in
set_option maxRecDepth 100000 in
theorem impl_CountSolutions.calls (k:Nat) (Y:Int) (Z:Int) (a6:Option Addr) (a7:Nat) (J:List (S48)) (r1:Int) (r2:Bool) (w:World) (a8:Kd.C k48 w a6 J.length J) (aa:J.length≤a7) (h:impl_CountSolutions.f k Y Z J=some (r1,r2)) :
    Calls Tryz.prog 8 #[.agg #[.int .i64 Y, .int .i64 Z, .slice a6 J.length a7]] w fun e w'=>e = .returned (.tuple #[.int .i64 r1, .bool r2])∧Below w.heap.size w w':=by
  have ax:=Tryz.underlying28;have ab:=amk a8;have ac:=amk aa;clear a8 aa;have HB:=amk (Below.refl w.heap.size w);unfold impl_CountSolutions.f at h;have H:=h;clear h;replace H:=bE H;obtain ⟨⟨af,ag⟩,A2,H⟩:=H;(try dsimp only at H);simp only [Option.some.injEq,Prod.mk.injEq] at H;obtain ⟨rfl,rfl⟩:=H;go_enter Tryz.func8,Tryz.ntmps8;go_wp2_with (first | ((with_reducible refine gate_dst (N:=1) rfl ?_);refine boxE_ HB 1 #[.int .i64 Y, .int .i64 Z, .slice a6 J.length a7] 28 ?_;clear HB;intro ap w3 HB a1 ar au hb;clear hb;obtain ⟨ai,aj,ak,al,am,an⟩:=cells3 a1.out) | ((with_reducible refine gate_callee (f:=6) rfl ?_);refine goesL_ (some 8) rfl rfl Tryz.func6 (by kernel_rfl) rfl #[.agg #[.int .i64 Y, .int .i64 Z, .slice a6 J.length a7]] rfl gL_ ?_;(with_reducible refine (impl_Solutions.calls k Y Z _ _ J af ag _ ?_ ?_ A2.out).mono ?_);exact cB (Kd.C_below ab.out HB.out);exact ac.out;rintro e w5 ⟨ay,rfl,ah,hb⟩;refine ⟨_,rfl,?_⟩;have ae:=amk (Kd.R_lower ah (below_size bB));replace a1:=kb2 a1 hb;replace HB:=hB2 HB hb;(try clear hb);(try clear ah);obtain ⟨az,aA,av⟩:=Kd.R_slice ae.out;subst av));go_ret2;exact ⟨rF_,bB⟩
/-! ### impl_Lock_isText: function 102 -/
def impl_Lock_isText.l0:Nat→ByteArray→Int→Int→Int→Int→Option (Bool)
  | 0,_,_,_,_,_=>none
  | k + 1,x1,x7,x8,Y,J=>if x8 < x7 then (if 0≤x8 then (if x8 < (x1.size:Int) then ((impl_within.f (wrap64 (bt x1 x8)) 48 (wrap64 ((wrap64 (48 + J)) - 1))).bind fun Z=>(if Z=true then (impl_Lock_isText.l0 k x1 x7 (wrap64 (x8 + 1)) Y J) else (some false))) else (none)) else (none)) else (some true)
def impl_Lock_isText.f (k:Nat) (J:Int) (Y:Int) (a1:ByteArray):Option (Bool):=impl_Lock_isText.l0 k a1 (a1.size:Int) 0 J Y
set_option maxHeartbeats 8000000 in
set_option maxRecDepth 100000 in
theorem impl_Lock_isText.calls (k:Nat) (a6:Int) (Y:Int) (a1:ByteArray) (r:Bool) (w:World) (h:impl_Lock_isText.f k a6 Y a1=some r) :
    Calls Tryz.prog 102 #[.agg #[.int .i64 a6, .int .i64 Y], .string a1] w fun e w'=>e = .returned (.bool r)∧Below w.heap.size w w':=by
  have an:=Tryz.underlying25;have HB:=amk (Below.refl w.heap.size w);unfold impl_Lock_isText.f at h;have H:=h;clear h;have H':=amk H;clear H;go_enter Tryz.func102,Tryz.ntmps102;go_wp2_with (first | ((with_reducible refine gate_dst (N:=2) rfl ?_);refine boxE_ HB 2 #[.int .i64 a6, .int .i64 Y] 25 ?_;clear HB;intro a7 w3 HB Z a8 aa hb;clear hb))
  repeat (go_quiet (first | ((with_reducible refine gate_dst (N:=2) rfl ?_);refine boxE_ HB 2 #[.int .i64 a6, .int .i64 Y] 25 ?_;clear HB;intro a7 w3 HB Z a8 aa hb;clear hb));try go_wp2_with (first | ((with_reducible refine gate_dst (N:=2) rfl ?_);refine boxE_ HB 2 #[.int .i64 a6, .int .i64 Y] 25 ?_;clear HB;intro a7 w3 HB Z a8 aa hb;clear hb)))
  go_loopg [8] k (fun kq v8 w'=> ∃ (J:Int),v8 = .int .i64 J∧Aside0 (impl_Lock_isText.l0 kq a1 (a1.size:Int) J a6 Y=some r)∧Aside0 (kq≤k)∧Aside0 (w'.heap[a7]?=some (.cells #[.int .i64 a6, .int .i64 Y] 25 (0,0)))∧Aside0 (Below w.heap.size w w'))
  case atStart=>exact ⟨(0),rS_,H',⟨Nat.le_refl _⟩,⟨kB Z⟩,⟨bB⟩⟩
  case round =>
    clear H';(try clear c1);(try clear p2);obtain ⟨J,rfl,HA,ab,Z,HB⟩:=hrel
    cases gk with
    | zero=>exact absurd HA.out (by simp [impl_Lock_isText.l0])
    | succ k1 =>
      have H:=HA.out;clear HA;simp only [impl_Lock_isText.l0] at H;replace H:=iteE H;obtain ⟨ac,H⟩ | ⟨ac,H⟩:=H
      · replace H:=iteN H;obtain ⟨ap,H⟩:=H;replace H:=iteN H;obtain ⟨ar,H⟩:=H;replace H:=bE H;obtain ⟨au,A8,H⟩:=H;replace H:=iteB H;obtain ⟨rfl,H⟩ | ⟨rfl,H⟩:=H
        · have H':=amk H;clear H;have p7:0≤(J:Int):=dA_;have q7:J < (a1.size:Int):=dA_;have am:=bt_at a1 J;replace p7:=eq_true p7;replace q7:=eq_true q7;obtain ⟨ae,af,ag,ah⟩:=cells2 Z.out;go_wp2_with (first | (go_at_call 54;(with_reducible refine (impl_within.calls (wrap64 (bt a1 J)) 48 (wrap64 ((wrap64 (48 + Y)) - 1)) true _ A8.out).mono ?_);rintro e w' ⟨rfl,⟨nd,rfl⟩⟩;(try exact dN_)))
          repeat (go_quiet (first | (go_at_call 54;(with_reducible refine (impl_within.calls (wrap64 (bt a1 J)) 48 (wrap64 ((wrap64 (48 + Y)) - 1)) true _ A8.out).mono ?_);rintro e w' ⟨rfl,⟨nd,rfl⟩⟩;(try exact dN_)));try go_wp2_with (first | (go_at_call 54;(with_reducible refine (impl_within.calls (wrap64 (bt a1 J)) 48 (wrap64 ((wrap64 (48 + Y)) - 1)) true _ A8.out).mono ?_);rintro e w' ⟨rfl,⟨nd,rfl⟩⟩;(try exact dN_))))
          go_roundg k1
          case measure=>have:=ab.out;omega
          case rel=>exact ⟨(wrap64 (J + 1)),rS_,H',⟨by have:=ab.out;omega⟩,⟨kB Z⟩,⟨bB⟩⟩
        · obtain rfl:=Option.some.inj H;have p7:0≤(J:Int):=dA_;have q7:J < (a1.size:Int):=dA_;have am:=bt_at a1 J;replace p7:=eq_true p7;replace q7:=eq_true q7;obtain ⟨ai,aj,ak,al⟩:=cells2 Z.out;go_wp2_with (first | (go_at_call 54;(with_reducible refine (impl_within.calls (wrap64 (bt a1 J)) 48 (wrap64 ((wrap64 (48 + Y)) - 1)) false _ A8.out).mono ?_);rintro e w' ⟨rfl,⟨nd,rfl⟩⟩;(try exact dN_)))
          repeat (go_quiet (first | (go_at_call 54;(with_reducible refine (impl_within.calls (wrap64 (bt a1 J)) 48 (wrap64 ((wrap64 (48 + Y)) - 1)) false _ A8.out).mono ?_);rintro e w' ⟨rfl,⟨nd,rfl⟩⟩;(try exact dN_)));try go_wp2_with (first | (go_at_call 54;(with_reducible refine (impl_within.calls (wrap64 (bt a1 J)) 48 (wrap64 ((wrap64 (48 + Y)) - 1)) false _ A8.out).mono ?_);rintro e w' ⟨rfl,⟨nd,rfl⟩⟩;(try exact dN_))))
          go_ret;exact ⟨rF_,bB⟩
      · obtain rfl:=Option.some.inj H;go_wp2
        repeat (go_quiet (fail);try go_wp2)
        go_ret;exact ⟨rF_,bB⟩
/-! ### impl_Lock_isCode: function 78 -/
def impl_Lock_isCode.f (k:Nat) (J:Int) (Y:Int) (a1:ByteArray):Option (Bool):=if (a1.size:Int)=J then ((impl_Lock_isText.f k J Y a1).bind fun Z=>(some Z)) else (some false)
set_option maxHeartbeats 8000000 in
set_option maxRecDepth 100000 in
theorem impl_Lock_isCode.calls (k:Nat) (J:Int) (Z:Int) (a1:ByteArray) (r:Bool) (w:World) (h:impl_Lock_isCode.f k J Z a1=some r) :
    Calls Tryz.prog 78 #[.agg #[.int .i64 J, .int .i64 Z], .string a1] w fun e w'=>e = .returned (.bool r)∧Below w.heap.size w w':=by
  have am:=Tryz.underlying25;have HB:=amk (Below.refl w.heap.size w);unfold impl_Lock_isCode.f at h;have H:=h;clear h
  by_cases c3:(a1.size:Int)=J
  · rw [if_pos c3] at H;have aa:((a1.size:Int) == J)=true:=beq_iff_eq.mpr c3;have ab:((a1.size:Int) != J)=false:=bne_eq_false_iff_eq.mpr c3;clear c3;replace H:=bE H;obtain ⟨ac,A4,H⟩:=H;obtain rfl:=Option.some.inj H;go_enter Tryz.func78,Tryz.ntmps78;go_wp2_with (first | ((with_reducible refine gate_dst (N:=2) rfl ?_);refine boxE_ HB 2 #[.int .i64 J, .int .i64 Z] 25 ?_;clear HB;intro a6 w5 HB Y a7 a8 hb;clear hb;obtain ⟨ae,af,ag,ah⟩:=cells2 Y.out) | (go_at_call 102;(with_reducible refine (impl_Lock_isText.calls k J Z a1 ac _ A4.out).mono ?_);rintro e w7 ⟨rfl,hb⟩;replace Y:=kb2 Y hb;replace HB:=hB2 HB hb;(try clear hb)));go_ret;exact ⟨rF_,bB⟩
  · rw [if_neg c3] at H;have aa:((a1.size:Int) == J)=false:=beq_eq_false_iff_ne.mpr c3;have ab:((a1.size:Int) != J)=true:=bne_iff_ne.mpr c3;obtain rfl:=Option.some.inj H;go_enter Tryz.func78,Tryz.ntmps78;go_wp2_with (first | ((with_reducible refine gate_dst (N:=2) rfl ?_);refine boxE_ HB 2 #[.int .i64 J, .int .i64 Z] 25 ?_;clear HB;intro a6 w8 HB Y a7 a8 hb;clear hb;obtain ⟨ai,aj,ak,al⟩:=cells2 Y.out));go_ret;exact ⟨rF_,bB⟩
end Go.Proofs.YtfginhjgeholcaaGreatDoor.P