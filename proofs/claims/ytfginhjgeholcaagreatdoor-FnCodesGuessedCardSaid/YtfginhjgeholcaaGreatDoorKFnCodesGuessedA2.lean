import Derived.Test.YtfginhjgeholcaaGreatDoorKFnCodesGuessedA0
import Derived.Test.YtfginhjgeholcaaGreatDoorKFnCodesGuessedA1
import Derived.Lib.SliceRun
import Derived.Deep.RegionLaw
import Derived.RegionTactic
import Derived.ChangeAlike
import Derived.BigRegion
import Derived.Laws.RangeString
import Derived.Lib.ConvBytes
namespace Go.Proofs.YtfginhjgeholcaaGreatDoor.P
open Go.RowKit Go.Proofs.YtfginhjgeholcaaGreatDoorW.PrintWords Go.Proofs.YtfginhjgeholcaaGreatDoorW.PrintLast Go.Proofs.YtfginhjgeholcaaGreatDoorW.PrintMore
attribute [local go_sem] max2_int min2_int max_two min_two max_three min_three max_four min_four
set_option linter.unusedVariables false
set_option linter.unusedSimpArgs false
/-! ### impl_has: function 52 -/
def impl_has.l0:Nat→List ByteArray→Int→Int→Int→Int→Option (Bool)
  | 0,_,_,_,_,_=>none
  | k + 1,a1,a6,Z,J,Y=>if Z < a6 then (if 0≤Z then (if Z < (a1.length:Int) then ((impl_Lock_isCode.f k J Y (rdOf ByteArray.empty a1 Z)).bind fun a7=>(if a7=true then (impl_has.l0 k a1 a6 (wrap64 (Z + 1)) J Y) else (some false))) else (none)) else (none)) else (some true)
def impl_has.f (k:Nat) (J:Int) (Y:Int) (l1:List ByteArray):Option (Bool):=(impl_IsLock.f J Y).bind fun Z=>(if Z=true then (impl_has.l0 k l1 (l1.length:Int) 0 J Y) else (some false))
set_option maxHeartbeats 8000000 in
set_option maxRecDepth 100000 in
theorem impl_has.calls (k:Nat) (a1:Int) (a6:Int) (A1:Option Addr) (c1:Nat) (l1:List ByteArray) (r:Bool) (w:World) (ak:Kd.C Kd.string w A1 l1.length l1) (al:l1.length≤c1) (h:impl_has.f k a1 a6 l1=some r) :
    Calls Tryz.prog 52 #[.agg #[.int .i64 a1, .int .i64 a6], .slice A1 l1.length c1] w fun e w'=>e = .returned (.bool r)∧Below w.heap.size w w':=by
  have aK:=Tryz.underlying25;have am:=amk ak;have aT:=amk al;clear ak al;have HB:=amk (Below.refl w.heap.size w);unfold impl_has.f at h;have H:=h;clear h;replace H:=bE H;obtain ⟨aM,A3,H⟩:=H;replace H:=iteB H;obtain ⟨rfl,H⟩ | ⟨rfl,H⟩:=H
  · have H':=amk H;clear H;go_enter Tryz.func52,Tryz.ntmps52;go_wp2_with (first | ((with_reducible refine gate_dst (N:=2) rfl ?_);refine boxE_ HB 2 #[.int .i64 a1, .int .i64 a6] 25 ?_;clear HB;intro aa w5 HB J ah ai hb;clear hb;obtain ⟨ac,ae,af,ag⟩:=cells2 J.out) | ((with_reducible refine gate_callee (f:=51) rfl ?_);refine goesL_ (some 8) rfl rfl Tryz.func51 (by kernel_rfl) rfl #[.agg #[.int .i64 a1, .int .i64 a6]] rfl gL_ ?_;(with_reducible refine (impl_IsLock.calls a1 a6 true _ A3.out).mono ?_);rintro e w7 ⟨rfl,hb⟩;refine ⟨_,rfl,?_⟩;replace J:=kb2 J hb;replace HB:=hB2 HB hb;(try clear hb)))
    go_loopg [12] k (fun kq v12 w'=> ∃ (Y:Int),v12 = .int .i64 Y∧Aside0 (impl_has.l0 kq l1 (l1.length:Int) Y a1 a6=some r)∧Aside0 (kq≤k)∧Aside0 (w'.heap[aa]?=some (.cells #[.int .i64 a1, .int .i64 a6] 25 (0,0)))∧Aside0 (Below w.heap.size w w'))
    case atStart=>exact ⟨(0),rS_,H',⟨Nat.le_refl _⟩,⟨kB J⟩,⟨bB⟩⟩
    case round =>
      clear H';(try clear c1);(try clear p2);(try clear c4);(try clear c5);(try clear ac);(try clear ae);(try clear af);(try clear ag);obtain ⟨Y,rfl,HA,an,J,HB⟩:=hrel
      cases gk with
      | zero=>exact absurd HA.out (by simp [impl_has.l0])
      | succ k1 =>
        have H:=HA.out;clear HA;simp only [impl_has.l0] at H;replace H:=iteE H;obtain ⟨ap,H⟩ | ⟨ap,H⟩:=H
        · replace H:=iteN H;obtain ⟨aN,H⟩:=H;replace H:=iteN H;obtain ⟨aJ,H⟩:=H;replace H:=bE H;obtain ⟨aQ,ar,H⟩:=H;replace H:=iteB H;obtain ⟨rfl,H⟩ | ⟨rfl,H⟩:=H
          · have H':=amk H;clear H;have a7:0≤(Y:Int):=dA_;have a8:Y < (l1.length:Int):=dA_;obtain ⟨aj,ab,Z⟩:=Kd.at_string am.out Y a7 a8;cases ab;replace Z:=(HB.out.cell (World.block_lt_of_cell? w _ Z)).trans Z;replace a7:=eq_true a7;replace a8:=eq_true a8;obtain ⟨au,av,ax,ay⟩:=cells2 J.out;go_wp2_with (first | ((with_reducible refine gate_callee (f:=78) rfl ?_);refine goesL_ (some 18) rfl rfl Tryz.func78 (by kernel_rfl) rfl #[.agg #[.int .i64 a1, .int .i64 a6], .string (rdOf ByteArray.empty l1 Y)] rfl gL_ ?_;(with_reducible refine (impl_Lock_isCode.calls k1 a1 a6 (rdOf ByteArray.empty l1 Y) true _ ar.out).mono ?_);rintro e aU ⟨rfl,hb⟩;refine ⟨_,rfl,?_⟩;replace J:=kb2 J hb;replace HB:=hB2 HB hb;(try clear hb)));go_roundg k1
            case measure=>have:=an.out;omega
            case rel=>exact ⟨(wrap64 (Y + 1)),rS_,H',⟨by have:=an.out;omega⟩,⟨kB J⟩,⟨bB⟩⟩
          · obtain rfl:=Option.some.inj H;have a7:0≤(Y:Int):=dA_;have a8:Y < (l1.length:Int):=dA_;obtain ⟨aj,ab,Z⟩:=Kd.at_string am.out Y a7 a8;cases ab;replace Z:=(HB.out.cell (World.block_lt_of_cell? w _ Z)).trans Z;replace a7:=eq_true a7;replace a8:=eq_true a8;obtain ⟨az,aA,aC,aD⟩:=cells2 J.out;go_wp2_with (first | ((with_reducible refine gate_callee (f:=78) rfl ?_);refine goesL_ (some 18) rfl rfl Tryz.func78 (by kernel_rfl) rfl #[.agg #[.int .i64 a1, .int .i64 a6], .string (rdOf ByteArray.empty l1 Y)] rfl gL_ ?_;(with_reducible refine (impl_Lock_isCode.calls k1 a1 a6 (rdOf ByteArray.empty l1 Y) false _ ar.out).mono ?_);rintro e aV ⟨rfl,hb⟩;refine ⟨_,rfl,?_⟩;replace J:=kb2 J hb;replace HB:=hB2 HB hb;(try clear hb)));go_ret;exact ⟨rF_,bB⟩
        · obtain rfl:=Option.some.inj H;go_wp2;go_ret;exact ⟨rF_,bB⟩
  · obtain rfl:=Option.some.inj H;go_enter Tryz.func52,Tryz.ntmps52;go_wp2_with (first | ((with_reducible refine gate_dst (N:=2) rfl ?_);refine boxE_ HB 2 #[.int .i64 a1, .int .i64 a6] 25 ?_;clear HB;intro aa aW HB J ah ai hb;clear hb;obtain ⟨aE,aG,aH,aI⟩:=cells2 J.out) | ((with_reducible refine gate_callee (f:=51) rfl ?_);refine goesL_ (some 8) rfl rfl Tryz.func51 (by kernel_rfl) rfl #[.agg #[.int .i64 a1, .int .i64 a6]] rfl gL_ ?_;(with_reducible refine (impl_IsLock.calls a1 a6 false _ A3.out).mono ?_);rintro e aX ⟨rfl,hb⟩;refine ⟨_,rfl,?_⟩;replace J:=kb2 J hb;replace HB:=hB2 HB hb;(try clear hb)));go_ret;exact ⟨rF_,bB⟩
/-! ### impl_DoesFit: function 30 -/
def impl_DoesFit.f (k:Nat) (J:Int) (Y:Int) (Z:Int) (a1:Int) (a6:Int) (a2:ByteArray):Option (Bool×Bool):=(impl_IsClue.f k J Y Z a1 a6).bind fun a7=>(if a7=true then ((impl_has.f k J Y (([a2]:List ByteArray))).bind fun a8=>(if a8=true then ((impl_Lock_fit.f k J Y (([(⟨Z,a1,a6⟩:S48)]:List (S48))) a2).bind fun aa=>(some (aa,true))) else (some (false,false)))) else (some (false,false)))
set_option maxHeartbeats 8000000 in
set_option maxRecDepth 100000 in
theorem impl_DoesFit.calls (k:Nat) (a8:Int) (aa:Int) (a1:Int) (a6:Int) (a7:Int) (a2:ByteArray) (r1:Bool) (r2:Bool) (w:World) (h:impl_DoesFit.f k a8 aa a1 a6 a7 a2=some (r1,r2)) :
    Calls Tryz.prog 30 #[.agg #[.int .i64 a8, .int .i64 aa], .agg #[.int .i64 a1, .int .i64 a6, .int .i64 a7], .string a2] w fun e w'=>e = .returned (.tuple #[.bool r1, .bool r2])∧Below w.heap.size w w':=by
  have bT:=Tryz.underlying25;have bU:=Tryz.underlying48;have HB:=amk (Below.refl w.heap.size w);unfold impl_DoesFit.f at h;have H:=h;clear h;replace H:=bE H;obtain ⟨bV,A4,H⟩:=H;replace H:=iteB H;obtain ⟨rfl,H⟩ | ⟨rfl,H⟩:=H
  · (try rw [Option.bind_some] at H);generalize ak:(([a2]:List ByteArray))=ax at H;have af:=amk ak.symm;clear ak;replace H:=bE H;obtain ⟨bW,A6,H⟩:=H;replace H:=iteB H;obtain ⟨rfl,H⟩ | ⟨rfl,H⟩:=H
    · (try rw [Option.bind_some] at H);generalize al:(([(⟨a1,a6,a7⟩:S48)]:List (S48)))=ay at H;have am:=amk al.symm;clear al;replace H:=bE H;obtain ⟨az,A8,H⟩:=H;simp only [Option.some.injEq,Prod.mk.injEq] at H;obtain ⟨rfl,rfl⟩:=H;go_enter Tryz.func30,Tryz.ntmps30;go_wp2_with (first | ((with_reducible refine gate_dst (N:=3) rfl ?_);(try (refine gate_guard (by rfl) ?_;dsimp only));refine boxE_ HB 3 #[.int .i64 a8, .int .i64 aa] 25 ?_;clear HB;intro an w9 HB J ap ar hb;clear hb) | ((with_reducible refine gate_dst (N:=4) rfl ?_);(try (refine gate_guard (by rfl) ?_;dsimp only));refine boxG_ 4 #[.int .i64 a1, .int .i64 a6, .int .i64 a7] 48 ?_;intro aj c8 hg Y hb;have au:=sZ HB hg;have av:=sZ HB hg;replace HB:=hB2 HB hb;have ab:=neL J hg;have ac:=neR J hg;replace J:=kb2 J hb;clear hb hg;have bM:=ab.out;have bN:=ac.out;obtain ⟨aA,aC,aD,aE⟩:=cells2 J.out;obtain ⟨aG,aH,aI,aJ,aK,aM⟩:=cells3 Y.out) | ((with_reducible refine gate_callee (f:=50) rfl ?_);refine goesL_ (some 10) rfl rfl Tryz.func50 (by kernel_rfl) rfl #[.agg #[.int .i64 a8, .int .i64 aa], .agg #[.int .i64 a1, .int .i64 a6, .int .i64 a7]] rfl gL_ ?_;(with_reducible refine (impl_IsClue.calls k a8 aa a1 a6 a7 true _ A4.out).mono ?_);rintro e ca ⟨rfl,hb⟩;refine ⟨_,rfl,?_⟩;replace J:=kb2 J hb;replace Y:=kb2 Y hb;replace HB:=hB2 HB hb;(try clear hb);obtain ⟨aN,aQ,aT,aU⟩:=cells2 J.out) | ((with_reducible refine gate_dst (N:=15) rfl ?_);(try (refine gate_guard (by rfl) ?_;dsimp only));refine Kd.R_lit Kd.string _ 9 ?hg (N:=15) ?hd (xs:=([a2]:List ByteArray)) (inner:=[.string a2]) (ok:=fun _=>True) (okp:=fun _=>True) ?hr ?hp (fun _ hk=>hk) trivial (Below.refl _ _) (Nat.le_refl _) (by simp) ?_;(case hd=>rfl);(case hg=>rfl);(case hr=>first | (go_simp;done) | (go_simp;rfl));(case hp=>exact (Reps.one (show Kd.M Kd.string _ _ _ a2 [.string a2] from rfl) (Reps.none _ _)));intro aV cb ag hb hg_ hnew_;clear hg_ hnew_;(first | rw [←af.out] at ag | (simp only [Int.reduceToNat] at ag;rw [←af.out] at ag));have Z:=amk (Kd.R_lower ag (below_size bB));replace J:=kb2 J hb;replace Y:=kb2 Y hb;replace HB:=hB2 HB hb;clear hb ag;obtain ⟨bX,bY,aW⟩:=Kd.R_slice Z.out;subst aW) | (go_at_call 52;(with_reducible refine (impl_has.calls k a8 aa _ _ ax true _ ?_ ?_ A6.out).mono ?_);exact cB ((Kd.R_reads' Z.out).2.2);exact (Kd.R_reads' Z.out).2.1;rintro e cd ⟨rfl,hb⟩;replace Z:=amk (Kd.R_below (oX Z) hb);replace J:=kb2 J hb;replace Y:=kb2 Y hb;replace HB:=hB2 HB hb;(try clear hb);obtain ⟨aX,aY,aZ,b3⟩:=cells2 J.out;obtain ⟨b4,b5,b6,b7,b8,b9⟩:=cells3 Y.out) | ((with_reducible refine gate_dst (N:=21) rfl ?_);(try (refine gate_guard (by rfl) ?_;dsimp only));refine Kd.R_lit k48 _ 48 ?hg (N:=21) ?hd (xs:=([(⟨a1,a6,a7⟩:S48)]:List (S48))) (inner:=[.int .i64 a1, .int .i64 a6, .int .i64 a7]) (ok:=fun _=>True) (okp:=fun _=>True) ?hr ?hp (fun _ hk=>hk) trivial (Below.refl _ _) (Nat.le_refl _) (by simp) ?_;(case hd=>rfl);(case hg=>rfl);(case hr=>first | (go_simp;done) | (go_simp;rfl));(case hp=>exact (Reps.c3 (show Kd.M k48 _ _ _ (⟨a1,a6,a7⟩:S48) [.int .i64 a1, .int .i64 a6, .int .i64 a7] from (k48_mkM _ _ _ (⟨a1,a6,a7⟩:S48) )) (Reps.none _ _)));intro bZ ce ah hb hg_ hnew_;clear hg_ hnew_;(first | rw [←am.out] at ah | (simp only [Int.reduceToNat] at ah;rw [←am.out] at ah));replace Z:=amk (Kd.R_below (oX Z) hb);have ae:=amk (Kd.R_lower (Kd.R_newB ah (g:=aj) (o:= .cells #[.int .i64 a1, .int .i64 a6, .int .i64 a7] 48 (0,0)) (kB Y)) (below_size bB));replace J:=kb2 J hb;replace Y:=kb2 Y hb;replace HB:=hB2 HB hb;clear hb ah;obtain ⟨ba,bb,bc⟩:=Kd.R_slice ae.out;subst bc) | ((with_reducible refine gate_callee (f:=53) rfl ?_);refine goesL_ (some 23) rfl rfl Tryz.func53 (by kernel_rfl) rfl #[.agg #[.int .i64 a8, .int .i64 aa], .slice ba ay.length bb, .string a2] rfl gL_ ?_;(with_reducible refine (impl_Lock_fit.calls k a8 aa _ _ ay a2 az _ ?_ ?_ A8.out).mono ?_);exact cB ((Kd.R_reads' ae.out).2.2);exact (Kd.R_reads' ae.out).2.1;rintro e cf ⟨rfl,hb⟩;refine ⟨_,rfl,?_⟩;replace Z:=amk (Kd.R_below (oX Z) hb);replace ae:=amk (Kd.R_below (oX ae) hb);replace J:=kb2 J hb;replace Y:=kb2 Y hb;replace HB:=hB2 HB hb;(try clear hb)));go_ret2;exact ⟨rF_,bB⟩
    · simp only [Option.some.injEq,Prod.mk.injEq] at H;obtain ⟨rfl,rfl⟩:=H;go_enter Tryz.func30,Tryz.ntmps30;go_wp2_with (first | ((with_reducible refine gate_dst (N:=3) rfl ?_);(try (refine gate_guard (by rfl) ?_;dsimp only));refine boxE_ HB 3 #[.int .i64 a8, .int .i64 aa] 25 ?_;clear HB;intro an cg HB J ap ar hb;clear hb) | ((with_reducible refine gate_dst (N:=4) rfl ?_);(try (refine gate_guard (by rfl) ?_;dsimp only));refine boxG_ 4 #[.int .i64 a1, .int .i64 a6, .int .i64 a7] 48 ?_;intro aj ci hg Y hb;have au:=sZ HB hg;have av:=sZ HB hg;replace HB:=hB2 HB hb;have ab:=neL J hg;have ac:=neR J hg;replace J:=kb2 J hb;clear hb hg;have bO:=ab.out;have bQ:=ac.out;obtain ⟨bd,be,bf,bg⟩:=cells2 J.out;obtain ⟨bh,bi,bj,bk,bl,bm⟩:=cells3 Y.out) | ((with_reducible refine gate_callee (f:=50) rfl ?_);refine goesL_ (some 10) rfl rfl Tryz.func50 (by kernel_rfl) rfl #[.agg #[.int .i64 a8, .int .i64 aa], .agg #[.int .i64 a1, .int .i64 a6, .int .i64 a7]] rfl gL_ ?_;(with_reducible refine (impl_IsClue.calls k a8 aa a1 a6 a7 true _ A4.out).mono ?_);rintro e cj ⟨rfl,hb⟩;refine ⟨_,rfl,?_⟩;replace J:=kb2 J hb;replace Y:=kb2 Y hb;replace HB:=hB2 HB hb;(try clear hb);obtain ⟨bn,bo,bp,bq⟩:=cells2 J.out) | ((with_reducible refine gate_dst (N:=15) rfl ?_);(try (refine gate_guard (by rfl) ?_;dsimp only));refine Kd.R_lit Kd.string _ 9 ?hg (N:=15) ?hd (xs:=([a2]:List ByteArray)) (inner:=[.string a2]) (ok:=fun _=>True) (okp:=fun _=>True) ?hr ?hp (fun _ hk=>hk) trivial (Below.refl _ _) (Nat.le_refl _) (by simp) ?_;(case hd=>rfl);(case hg=>rfl);(case hr=>first | (go_simp;done) | (go_simp;rfl));(case hp=>exact (Reps.one (show Kd.M Kd.string _ _ _ a2 [.string a2] from rfl) (Reps.none _ _)));intro aV ck ai hb hg_ hnew_;clear hg_ hnew_;(first | rw [←af.out] at ai | (simp only [Int.reduceToNat] at ai;rw [←af.out] at ai));have Z:=amk (Kd.R_lower ai (below_size bB));replace J:=kb2 J hb;replace Y:=kb2 Y hb;replace HB:=hB2 HB hb;clear hb ai;obtain ⟨c6,c7,br⟩:=Kd.R_slice Z.out;subst br) | (go_at_call 52;(with_reducible refine (impl_has.calls k a8 aa _ _ ax false _ ?_ ?_ A6.out).mono ?_);exact cB ((Kd.R_reads' Z.out).2.2);exact (Kd.R_reads' Z.out).2.1;rintro e cm ⟨rfl,hb⟩;replace Z:=amk (Kd.R_below (oX Z) hb);replace J:=kb2 J hb;replace Y:=kb2 Y hb;replace HB:=hB2 HB hb;(try clear hb)));go_ret2;exact ⟨rF_,bB⟩
  · simp only [Option.some.injEq,Prod.mk.injEq] at H;obtain ⟨rfl,rfl⟩:=H;go_enter Tryz.func30,Tryz.ntmps30;go_wp2_with (first | ((with_reducible refine gate_dst (N:=3) rfl ?_);(try (refine gate_guard (by rfl) ?_;dsimp only));refine boxE_ HB 3 #[.int .i64 a8, .int .i64 aa] 25 ?_;clear HB;intro an cn HB J ap ar hb;clear hb) | ((with_reducible refine gate_dst (N:=4) rfl ?_);(try (refine gate_guard (by rfl) ?_;dsimp only));refine boxG_ 4 #[.int .i64 a1, .int .i64 a6, .int .i64 a7] 48 ?_;intro aj co hg Y hb;have au:=sZ HB hg;have av:=sZ HB hg;replace HB:=hB2 HB hb;have ab:=neL J hg;have ac:=neR J hg;replace J:=kb2 J hb;clear hb hg;have bR:=ab.out;have bS:=ac.out;obtain ⟨bu,bv,bw,bz⟩:=cells2 J.out;obtain ⟨bC,bD,bF,bH,bJ,bL⟩:=cells3 Y.out) | ((with_reducible refine gate_callee (f:=50) rfl ?_);refine goesL_ (some 10) rfl rfl Tryz.func50 (by kernel_rfl) rfl #[.agg #[.int .i64 a8, .int .i64 aa], .agg #[.int .i64 a1, .int .i64 a6, .int .i64 a7]] rfl gL_ ?_;(with_reducible refine (impl_IsClue.calls k a8 aa a1 a6 a7 false _ A4.out).mono ?_);rintro e cp ⟨rfl,hb⟩;refine ⟨_,rfl,?_⟩;replace J:=kb2 J hb;replace Y:=kb2 Y hb;replace HB:=hB2 HB hb;(try clear hb)));go_ret2;exact ⟨rF_,bB⟩
/-! slices.Clone at []impl.Clue, by hand: a row of its own with the same elements. -/
def slices_Clone_impl_Clue_impl_Clue.f (l:List S48):Option (List S48):=if l.length < 5864062014805 then some l else none
set_option maxHeartbeats 2000000 in
set_option maxRecDepth 100000 in
theorem slices_Clone_impl_Clue_impl_Clue.calls (A0:Option Addr) (c0:Nat) (l0:List S48) (r:List S48) (w:World) (J:Kd.C k48 w A0 l0.length l0) (aa:l0.length≤c0) (h:slices_Clone_impl_Clue_impl_Clue.f l0=some r) :
    Calls Tryz.prog 70 #[.slice A0 l0.length c0] w fun e w'=> ∃ v0_:Value,e = .returned v0_∧Kd.R k48 48 w' w.heap.size (fun _=>True) v0_ r∧Below w.heap.size w w':=by
  unfold slices_Clone_impl_Clue_impl_Clue.f at h
  by_cases hl:l0.length < 5864062014805
  · rw [if_pos hl] at h
    obtain rfl:=Option.some.inj h
    clear h
    have hinfo:(Tryz.prog.info? 48).map (fun i=>(i.zero,i.size,i.bytes))=some (some (.agg #[(.int .i64 0),(.int .i64 0),(.int .i64 0)]),3,24):=by kernel_rfl
    have HI:=amk hinfo
    clear hinfo
    have HR:=amk J
    have HL:=amk hl
    clear hl
    cases A0 with
    | none =>
      have hz:l0=[]:=by
        rcases Nat.eq_zero_or_pos l0.length with h0 | h0
        · exact List.length_eq_zero_iff.1 h0
        · obtain ⟨ad,e,_⟩:=HR.out.2.2 h0
          cases e
      have HZ:=amk hz
      clear hz J
      have hnil:=fun (w:World) (n c:Nat)=>Lib.run_eql_slice_nil (P:=Tryz.prog) w 26 48 none n c 0 0 Tryz.underlying26
      generalize l0.length=n at *
      go_enter Tryz.func70,Tryz.ntmps70
      go_wp2
      go_ret
      refine ⟨.slice none 0 0,rfl,?_,Below.refl _ _⟩
      rw [HZ.out]
      exact Kd.R_nil _ _ _ _ _
    | some ad =>
      clear J
      have hnil:=fun (w:World) (n c:Nat)=>Lib.run_eql_slice_nil (P:=Tryz.prog) w 26 48 (some ad) n c 0 0 Tryz.underlying26
      have hu:=Tryz.underlying26
      go_enter Tryz.func70,Tryz.ntmps70
      go_wp2_with (first | ((with_reducible refine gate_dst (N:=5) rfl ?_);refine Kd.R_lit k48 (w0:=w) w.heap.size 48 ?hg (N:=5) ?hd (xs:=([]:List S48)) (inner:=[]) (ok:=fun _=>True) (okp:=fun _=>True) ?hr ?hp (fun _ hk=>hk) trivial (Below.refl _ _) (Nat.le_refl _) (by simp) ?_;(case hd=>rfl);(case hg=>rfl);(case hr=>first | (go_simp;done) | (go_simp;rfl));(case hp=>exact (Reps.none _ _));intro v1 w1 ho hb hg_ hnew_;have HO:=amk ho;have HB:=amk hb;clear ho hb hg_ hnew_) | ((with_reducible refine gate_dst (N:=7) rfl ?_);refine Kd.R_append_rows k48 (w0:=w) w.heap.size (by rfl) (.tmp 5) (.tmp 6) 26 48 (.agg #[(.int .i64 0),(.int .i64 0),(.int .i64 0)]) 24 rfl Tryz.underlying26 HI.out rfl (by decide) (by omega) v1 ([]:List S48) l0 _ _ _ (fun _=>True) (fun _=>False) rfl rfl ?aO ?aR (fun _ _ h=>h) (fun _ h=>h.elim) ?aF ?aB ?aS ?aL ?_;(case aR=>exact (Kd.C_below HR.out HB.out));(case aB=>exact HB.out);(case aF=>exact (fun _ _=>trivial));(case aO=>exact HO.out);(case aS=>exact HB.out.size);(case aL=>have:=HL.out;simp only [List.length_nil];omega);intro v2 w2 Y Z a6 a1;have a7:=amk Y;have a8:=amk Z;clear Y Z a6 a1))
      go_ret
      exact ⟨v2,rfl,by have:=a7.out;rwa [List.nil_append] at this,a8.out⟩
  · rw [if_neg hl] at h
    cases h
theorem slices_Clone_impl_Clue_impl_Clue.is {l:List S48} (h:l.length < 5864062014805):slices_Clone_impl_Clue_impl_Clue.f l=some l:=by unfold slices_Clone_impl_Clue_impl_Clue.f;rw [if_pos h]
/-! slices.Delete at []impl.Clue, of one element of a row of the call's own: taken out in place. -/
set_option maxHeartbeats 4000000 in
set_option maxRecDepth 1000000 in
theorem slices_Delete_impl_Clue_impl_Clue_own (w0 w:World) (base g cap k n:Nat) (ok:Nat→Prop) (xs:List S48) (hn:xs.length=n + 1) (hk:k < n + 1) (HO:Kd.R k48 48 w base ok (.slice (some ⟨g,0,none⟩) (n + 1) cap) xs) (HB:Below base w0 w) (hbase:base≤w.heap.size) :
    Calls Tryz.prog 69 #[.slice (some ⟨g,0,none⟩) (n + 1) cap, .int .i64 (k:Nat), .int .i64 ((k:Int) + 1)] w fun e w'=>e = .returned (.slice (some ⟨g,0,none⟩) n cap) ∧
      Kd.R k48 48 w' base ok (.slice (some ⟨g,0,none⟩) n cap) (xs.eraseIdx k)∧Below base w0 w':=by
  have hu:=Tryz.underlying26
  have hinfo:(Tryz.prog.info? 48).map (·.size)=some 3:=by kernel_rfl
  have hzv : ∀ w,(zeroValue 48).run Tryz.prog w = .ok (.agg #[(.int .i64 0),(.int .i64 0),(.int .i64 0)]) w:=fun _=>by kernel_rfl
  have HI:=amk hinfo
  have HZ:=amk hzv
  clear hinfo hzv
  obtain ⟨hbg,Z,hnc,hcm,a1⟩:=row_cells (id HO)
  clear Z a1
  have hne:((k:Int) == (k:Int) + 1)=false:=by simp;omega
  have HK:=amk hk
  have HN:=amk hn
  have HOA:=amk HO
  have HBA:=amk HB
  have HBS:=amk hbase
  have HBG:=amk hbg
  clear HO HB hbase hn hbg
  have a6:k≤cap:=by omega
  have a7:k + 1≤cap:=by omega
  have a8:k + 1≤n + 1:=by omega
  have aa:(k:Int)≤(cap:Int):=by omega
  have ab:(k:Int) + 1≤(cap:Int):=by omega
  have ac:0≤(k:Int) + 1:=by omega
  have ae:(k:Int) + 1≤(n:Int) + 1:=by omega
  go_enter Tryz.func69,Tryz.ntmps69
  go_wp2_with fail
  have HA:Aside0 ((if cap=k + 1 then some (⟨g,0,none⟩:Addr) else some ⟨g,(k + 1) * 3,none⟩)=if cap=k + 1 then some ⟨g,0,none⟩ else (some (⟨g,0,none⟩:Addr)).map (·.add ((k + 1) * 3))):=⟨by
    split
    · rfl
    · simp [Addr.add]⟩
  have af:Aside0 (Kd.R k48 48 w.drew base ok (.slice (some ⟨g,0,none⟩) (n + 1) cap) xs):=⟨Kd.R_drew HOA.out⟩
  have ag:Aside0 (Below base w0 w.drew):=⟨bd_ HBA.out⟩
  have HM:Aside0 (n - k=n + 1 - (k + 1)):=⟨by omega⟩
  go_region_law (refine Kd.R_delete_step k48 (w0:=w0) base rfl (.tmp 22) (.tmp 25) 26 48 rfl Tryz.underlying26 HI.out (g:=g) (n:=n + 1) (c:=cap) (k:=k) (m:=n - k) (c2:=cap - (k + 1)) (xs:=xs) (ok:=ok) (by simp [Act.eval,Act.put]) (by simp [Act.eval,Act.put]) HA.out HM.out af.out HK.out ag.out HBS.out ?_;intro w1 J Y ah;clear ah)
  have ai:=amk J
  have aj:=amk Y
  obtain ⟨_,_,ak,_,hcells⟩:=row_cells (id J)
  have hcl : ∀ ty,(Builtin.clear_ #[26] ty #[.slice (some ⟨g,n * 3,none⟩) 1 (cap - n)]).run Tryz.prog w1 = .ok (.tuple #[]) (w1.setCells g (n * 3) [.int .i64 0, .int .i64 0, .int .i64 0]):=fun ty =>
    run_clear_one w1 26 48 ty (.agg #[(.int .i64 0),(.int .i64 0),(.int .i64 0)]) [.int .i64 0, .int .i64 0, .int .i64 0] Tryz.underlying26 HZ.out rfl (by intro u hu;simp at hu;simp [hu,Value.oneCell']) g (n * 3) _
      (fun j hj=>(hcells _ (by show _ < cap * 3;simp at hj;omega)).1) (fun j hj=>(hcells _ (by show _ < cap * 3;simp at hj;omega)).2)
  (try simp only [Nat.mul_one] at hcl)
  clear J Y hcells
  have al:n≤cap:=by omega
  have am:n + 1≤cap:=by omega
  have an:(n:Int)≤(cap:Int):=by omega
  have ap:(n:Int) + 1≤(cap:Int):=by omega
  clear a6 a7 a8 aa ab ae ac hne
  go_wp2
  all_goals
    go_ret
    have hl:=List.length_eraseIdx_of_lt (l:=xs) (i:=k) (by have:=HK.out;have:=HN.out;omega)
    have hr:=R_spare ai.out [.int .i64 0, .int .i64 0, .int .i64 0] (n * 3) (by rw [hl,HN.out];exact Nat.le_refl _) (by show n * 3 + 3≤cap * 3;omega)
    rw [Nat.add_sub_cancel] at hr
    (try simp only [Nat.mul_one] at hr)
    refine ⟨rfl,?_,below_cells HBG.out _ _ _ aj.out⟩
    (try simp only [Nat.mul_one])
    first | exact hr | (have h_:cap=k + 1:=by assumption
                        rw [h_] at hr;exact hr)
/-! impl.but, by hand: clues without one. -/
def impl_but.f (l:List S48) (k:Int):Option (List S48):=if l.length < 5864062014805∧0≤k∧k < l.length then some (l.eraseIdx k.toNat) else none
set_option maxHeartbeats 2000000 in
set_option maxRecDepth 100000 in
theorem impl_but.calls (A0:Option Addr) (c0:Nat) (l0:List S48) (a1:Int) (r:List S48) (w:World) (Y:Kd.C k48 w A0 l0.length l0) (Z:l0.length≤c0) (h:impl_but.f l0 a1=some r) :
    Calls Tryz.prog 42 #[.slice A0 l0.length c0, .int .i64 a1] w fun e w'=> ∃ v0_:Value,e = .returned v0_∧Kd.R k48 48 w' w.heap.size (fun _=>True) v0_ r∧Below w.heap.size w w':=by
  unfold impl_but.f at h
  by_cases hl:l0.length < 5864062014805∧0≤a1∧a1 < l0.length
  · rw [if_pos hl] at h
    obtain rfl:=Option.some.inj h
    clear h
    obtain ⟨h1,h2,h3⟩:=hl
    obtain ⟨k,rfl⟩:=Int.eq_ofNat_of_zero_le h2
    have HC:=amk (slices_Clone_impl_Clue_impl_Clue.calls A0 c0 l0 l0 w Y Z (slices_Clone_impl_Clue_impl_Clue.is h1))
    obtain ⟨n,hn⟩ : ∃ n,l0.length=n + 1:=⟨l0.length - 1,by omega⟩
    have HN:=amk hn
    have HK:=amk (show k < n + 1 by omega)
    have HKW:=amk (show wrap64 ((k:Int) + 1)=(k:Int) + 1 from w64 (by omega) (by omega))
    have af:(k:Int) + 1≤9223372036854775807:=by omega
    clear Y Z h1 h2 h3 hn
    go_enter Tryz.func42,Tryz.ntmps42
    go_wp2_with (first | (go_at_call 70;refine HC.out.mono ?_;rintro e w1 ⟨v,rfl,J,a6⟩;obtain ⟨g,cap,rfl⟩:=row_form J HN.out;have ab:=amk J;have a7:=amk a6;clear J a6) | (go_at_call 69;refine (slices_Delete_impl_Clue_impl_Clue_own w _ w.heap.size g cap k n (fun _=>True) l0 HN.out HK.out ab.out a7.out a7.out.size).mono ?_;rintro e w2 ⟨rfl,a8,aa⟩;have ac:=amk a8;have ae:=amk aa;clear a8 aa))
    go_ret
    exact ⟨_,rfl,ac.out,ae.out⟩
  · rw [if_neg hl] at h
    cases h
theorem impl_but.is {l:List S48} {k:Int} (h:l.length < 5864062014805) (h0:0≤k) (h1:k < l.length):impl_but.f l k=some (l.eraseIdx k.toNat):=by unfold impl_but.f;rw [if_pos ⟨h,h0,h1⟩]
/-! ### impl_DropClue: function 31 -/
def impl_DropClue.f (Y:Int) (Z:Int) (J:List (S48)) (a1:Int):Option (Int×Int×(List (S48))×Bool):=(impl_IsPuzzle.f Y Z J).bind fun a6=>(if a6=true then ((impl_within.f a1 0 (wrap64 ((J.length:Int) - 1))).bind fun a7=>(if a7=true then ((impl_but.f J a1).bind fun a8=>(some (Y,Z,a8,true))) else (some (0,0,([]:List (S48)),false)))) else (some (0,0,([]:List (S48)),false)))
def impl_DropClue.T3:Bool×List (List Nat×List Nat):=(true,[([],[]),([0],[0]),([],[]),([2],[2]),([],[]),([3,4],[3,4]),([1,5],[1,5]),([6,5,0,1,2,3,4,5,6],[6]),([7,0,1,2,3,4,5,6,7],[])])
def impl_DropClue.B3:List Nat:=[0,1,0,4,0,28,63,127,255]
theorem impl_DropClue.tab3:rtab .any (opsOf Tryz.f31 3)=impl_DropClue.T3:=by kernel_rfl
theorem impl_DropClue.bits3:waitsOk impl_DropClue.T3.2 impl_DropClue.B3=true:=by kernel_rfl
set_option maxHeartbeats 8000000 in
set_option maxRecDepth 100000 in
theorem impl_DropClue.calls (aa:Int) (ab:Int) (ac:Option Addr) (ae:Nat) (a8:List (S48)) (a1:Int) (r1:Int) (r2:Int) (r3:List (S48)) (r4:Bool) (w:World) (ak:Kd.C k48 w ac a8.length a8) (al:a8.length≤ae) (h:impl_DropClue.f aa ab a8 a1=some (r1,r2,r3,r4)) :
    Calls Tryz.prog 31 #[.agg #[.int .i64 aa, .int .i64 ab, .slice ac a8.length ae], .int .i64 a1] w fun e w'=> ∃ v2_:Value,e = .returned (.tuple #[.agg #[.int .i64 r1, .int .i64 r2,v2_], .bool r4])∧Kd.R k48 48 w' w.heap.size (fun _=>True) v2_ r3∧Below w.heap.size w w':=by
  have bS:=Tryz.underlying28;have bT:=Tryz.underlying25;have ag:=amk ak;have ah:=amk al;clear ak al;have HB:=amk (Below.refl w.heap.size w);unfold impl_DropClue.f at h;have H:=h;clear h;replace H:=bE H;obtain ⟨bU,A3,H⟩:=H;replace H:=iteB H;obtain ⟨rfl,H⟩ | ⟨rfl,H⟩:=H
  · replace H:=bE H;obtain ⟨bV,A5,H⟩:=H;replace H:=iteB H;obtain ⟨rfl,H⟩ | ⟨rfl,H⟩:=H
    · replace H:=bE H;obtain ⟨am,A7,H⟩:=H;simp only [Option.some.injEq,Prod.mk.injEq] at H;obtain ⟨rfl,rfl,rfl,rfl⟩:=H;go_enter Tryz.func31,Tryz.ntmps31;(try go_wp2_with (first | ((with_reducible refine gate_dst (N:=2) rfl ?_);(try (refine gate_guard (by rfl) ?_;dsimp only));refine boxE_ HB 2 #[.int .i64 aa, .int .i64 ab, .slice ac a8.length ae] 28 ?_;clear HB;intro af w8 HB J an ap hb;clear hb) | ((with_reducible refine gate_dst (N:=4) rfl ?_);(try (refine gate_guard (by rfl) ?_;dsimp only));refine boxG_ 4 #[.int .i64 0, .int .i64 0, .slice none 0 0] 28 ?_;intro a6 w9 hg Z hb;have ar:=sZ HB hg;have au:=sZ HB hg;replace HB:=hB2 HB hb;have Y:=neL J hg;have a7:=neR J hg;replace J:=kb2 J hb;clear hb hg;have bF:=Y.out;have bH:=a7.out;obtain ⟨aC,aD,aE,aG,aH,aI⟩:=cells3 J.out) | ((with_reducible refine gate_callee (f:=26) rfl ?_);refine goesL_ (some 7) rfl rfl Tryz.func26 (by kernel_rfl) rfl #[.agg #[.int .i64 aa, .int .i64 ab, .slice ac a8.length ae]] rfl gL_ ?_;(with_reducible refine (impl_IsPuzzle.calls aa ab _ _ a8 true _ ?_ ?_ A3.out).mono ?_);exact cB (Kd.C_below ag.out HB.out);exact ah.out;rintro e ai ⟨rfl,hb⟩;refine ⟨_,rfl,?_⟩;replace J:=kb2 J hb;replace Z:=kb2 Z hb;replace HB:=hB2 HB hb;(try clear hb);obtain ⟨aJ,aK,aM,aN,aQ,aT⟩:=cells3 J.out) | (go_at_call 54;(with_reducible refine (impl_within.calls a1 0 (wrap64 ((a8.length:Int) - 1)) true _ A5.out).mono ?_);rintro e w' ⟨rfl,⟨nd,rfl⟩⟩;(try (rw [drewN_self ai];generalize hq_:World.drewN ai _=ai;replace J:Aside0 (ai.heap[af]?=some (.cells #[.int .i64 aa, .int .i64 ab, .slice ac a8.length ae] 28 (0,0))):=⟨by rw [←hq_];exact (kB J)⟩;replace Z:Aside0 (ai.heap[a6]?=some (.cells #[.int .i64 0, .int .i64 0, .slice none 0 0] 28 (0,0))):=⟨by rw [←hq_];exact (kB Z)⟩;replace HB:Aside0 (Below w.heap.size w ai):=⟨by rw [←hq_];exact bB⟩;clear hq_)))));replace J:=amk (blk_drew J.out);replace Z:=amk (blk_drew Z.out);replace HB:=amk (bd_ HB.out);refine start_ (n:=9) (S:=fun w'=>w'.cell? ⟨af,0,none⟩=some (.int .i64 aa)∧w'.cell? ⟨af,1,none⟩=some (.int .i64 ab)∧w'.cell? ⟨af,2,none⟩=some (.slice ac a8.length ae)) (ds:=[]) (bA 9 0) (by kernel_rfl) rfl rfl ⟨(blk_cell J.out 0).trans rfl,(blk_cell J.out 1).trans rfl,(blk_cell J.out 2).trans rfl⟩ (fun hHeld=>?_);refine with_tabW impl_DropClue.tab3 impl_DropClue.bits3 (fun HT_ HW_=>?_);generalize ai.drew=c6 at J Z HB hHeld ⊢;refine pU_ HT_ 0 (some 19) (bA 9 1) ?_;refine pU_ HT_ 2 (some 21) (bA 9 5) ?_;refine pU_ HT_ 4 (some 23) (bA 9 21) ?_;refine tK_ HT_ HW_ hHeld 1 (some 20) (bA 9 23) ?_;refine tK_ HT_ HW_ hHeld 3 (some 22) (bA 9 31) ?_;refine oN_ HT_ 5 (some 24) (bA 9 63) (fun K hK=>?_);refine goes_ Tryz.func42 (by kernel_rfl) rfl #[.slice ac a8.length ae, .int .i64 a1] (by rfl) rfl rfl gL_ ?_;(with_reducible refine (impl_but.calls _ _ a8 a1 am _ ?_ ?_ A7.out).mono ?_);exact cB (Kd.C_below ag.out HB.out);exact ah.out;rintro e aA ⟨bW,rfl,aU,hb⟩;refine ⟨_,rfl,?_⟩;have av:=amk (Kd.R_lower aU (below_size bB));replace J:=kb2 J hb;replace Z:=kb2 Z hb;replace HB:=hB2 HB hb;(try clear hb);(try clear aU);obtain ⟨ax,ay,az⟩:=Kd.R_slice av.out;(first | subst az | (injection az with f1_ f2_ f3_;have f4_:=f1_.symm;have f5_:=f3_.symm;clear f1_ f2_ f3_;subst f4_;subst f5_));refine hK.out _ _ hC_ (fun hHeld=>?_);clear hK K;refine nN_ (some 24) ?_;refine pU_ HT_ 6 (some 25) (bA 9 127) ?_;refine oN_ HT_ 7 none (bA 9 255) (fun K hK=>?_);have bX:aA.cell? ⟨a6,0,none⟩=some (.int .i64 0):=(blk_cell Z.out 0).trans rfl;have bJ:=blk_frozen Z.out 0;have aV:=Y.out;have aW:=a7.out;have bY:aA.cell? ⟨a6,1,none⟩=some (.int .i64 0):=(blk_cell Z.out 1).trans rfl;have bL:=blk_frozen Z.out 1;have aX:=Y.out;have aY:=a7.out;have bZ:aA.cell? ⟨a6,2,none⟩=some (.slice none 0 0):=(blk_cell Z.out 2).trans rfl;have bM:=blk_frozen Z.out 2;have aZ:=Y.out;have b3:=a7.out;refine skip_ (w1:=?_) (by rfl) rfl ?_ ?_;rotate_left
      · go_simp
        rfl
      refine hK.out _ _ ⟨((cell_far (p:=⟨a6,_,none⟩) Y.out _).trans (((cell_far (p:=⟨a6,_,none⟩) Y.out _).trans (((cell_far (p:=⟨a6,_,none⟩) Y.out _).trans (hHeld.1)))))),((cell_far (p:=⟨a6,_,none⟩) Y.out _).trans (((cell_far (p:=⟨a6,_,none⟩) Y.out _).trans (((cell_far (p:=⟨a6,_,none⟩) Y.out _).trans (hHeld.2.1)))))),((cell_far (p:=⟨a6,_,none⟩) Y.out _).trans (((cell_far (p:=⟨a6,_,none⟩) Y.out _).trans (((cell_far (p:=⟨a6,_,none⟩) Y.out _).trans (hHeld.2.2))))))⟩ (fun hHeld=>?_);clear hK K;refine pU_ HT_ 8 (some 5) (bA 9 511) ?_;refine done_ (done_of HT_.out (by kernel_rfl)) ?_;(try go_wp2);refine bodyPost_ret (results_ct rfl _ _ a6 28 #[.int .i64 aa, .int .i64 ab, .slice ax am.length ay] (0,0) _ rfl (kP Z) Tryz.underlying28 rfl (by kernel_rfl)) rfl ?_;exact ⟨_,rF_,by (with_reducible repeat (first | apply Kd.R_alloc | apply Kd.R_drewN | apply Kd.R_drew));exact Kd.R_mono (Kd.R_far (p:=⟨a6,2,none⟩) (Kd.R_far (p:=⟨a6,1,none⟩) (Kd.R_far (p:=⟨a6,0,none⟩) (Kd.R_types av.out Z.out (by decide)) (fun _ hk=>hk.2) (.int .i64 aa)) (fun _ hk=>hk.2) (.int .i64 ab)) (fun _ hk=>hk.2) (.slice ax am.length ay)) (fun _ hk=>trivial),bB⟩
    · simp only [Option.some.injEq,Prod.mk.injEq] at H;obtain ⟨rfl,rfl,rfl,rfl⟩:=H;go_enter Tryz.func31,Tryz.ntmps31;go_wp2_with (first | ((with_reducible refine gate_dst (N:=2) rfl ?_);(try (refine gate_guard (by rfl) ?_;dsimp only));refine boxE_ HB 2 #[.int .i64 aa, .int .i64 ab, .slice ac a8.length ae] 28 ?_;clear HB;intro af c7 HB J an ap hb;clear hb) | ((with_reducible refine gate_dst (N:=4) rfl ?_);(try (refine gate_guard (by rfl) ?_;dsimp only));refine boxG_ 4 #[.int .i64 0, .int .i64 0, .slice none 0 0] 28 ?_;intro a6 c8 hg Z hb;have ar:=sZ HB hg;have au:=sZ HB hg;replace HB:=hB2 HB hb;have Y:=neL J hg;have a7:=neR J hg;replace J:=kb2 J hb;clear hb hg;have bN:=Y.out;have bO:=a7.out;obtain ⟨b4,b5,b6,b7,b8,b9⟩:=cells3 J.out) | ((with_reducible refine gate_callee (f:=26) rfl ?_);refine goesL_ (some 7) rfl rfl Tryz.func26 (by kernel_rfl) rfl #[.agg #[.int .i64 aa, .int .i64 ab, .slice ac a8.length ae]] rfl gL_ ?_;(with_reducible refine (impl_IsPuzzle.calls aa ab _ _ a8 true _ ?_ ?_ A3.out).mono ?_);exact cB (Kd.C_below ag.out HB.out);exact ah.out;rintro e aj ⟨rfl,hb⟩;refine ⟨_,rfl,?_⟩;replace J:=kb2 J hb;replace Z:=kb2 Z hb;replace HB:=hB2 HB hb;(try clear hb);obtain ⟨ba,bb,bc,bd,be,bf⟩:=cells3 J.out) | (go_at_call 54;(with_reducible refine (impl_within.calls a1 0 (wrap64 ((a8.length:Int) - 1)) false _ A5.out).mono ?_);rintro e w' ⟨rfl,⟨nd,rfl⟩⟩;(try (rw [drewN_self aj];generalize hq_:World.drewN aj _=aj;replace J:Aside0 (aj.heap[af]?=some (.cells #[.int .i64 aa, .int .i64 ab, .slice ac a8.length ae] 28 (0,0))):=⟨by rw [←hq_];exact (kB J)⟩;replace Z:Aside0 (aj.heap[a6]?=some (.cells #[.int .i64 0, .int .i64 0, .slice none 0 0] 28 (0,0))):=⟨by rw [←hq_];exact (kB Z)⟩;replace HB:Aside0 (Below w.heap.size w aj):=⟨by rw [←hq_];exact bB⟩;clear hq_));obtain ⟨bg,bh,bi,bj,bk,bl⟩:=cells3 Z.out));refine bodyPost_ret (results_ct rfl _ _ a6 28 #[.int .i64 0, .int .i64 0, .slice none 0 0] (0,0) _ rfl (kP Z) Tryz.underlying28 rfl (by kernel_rfl)) rfl ?_;exact ⟨_,rF_,xN_,bB⟩
  · simp only [Option.some.injEq,Prod.mk.injEq] at H;obtain ⟨rfl,rfl,rfl,rfl⟩:=H;go_enter Tryz.func31,Tryz.ntmps31;go_wp2_with (first | ((with_reducible refine gate_dst (N:=2) rfl ?_);(try (refine gate_guard (by rfl) ?_;dsimp only));refine boxE_ HB 2 #[.int .i64 aa, .int .i64 ab, .slice ac a8.length ae] 28 ?_;clear HB;intro af ca HB J an ap hb;clear hb) | ((with_reducible refine gate_dst (N:=4) rfl ?_);(try (refine gate_guard (by rfl) ?_;dsimp only));refine boxG_ 4 #[.int .i64 0, .int .i64 0, .slice none 0 0] 28 ?_;intro a6 cb hg Z hb;have ar:=sZ HB hg;have au:=sZ HB hg;replace HB:=hB2 HB hb;have Y:=neL J hg;have a7:=neR J hg;replace J:=kb2 J hb;clear hb hg;have bQ:=Y.out;have bR:=a7.out;obtain ⟨bm,bn,bo,bp,bq,br⟩:=cells3 J.out) | ((with_reducible refine gate_callee (f:=26) rfl ?_);refine goesL_ (some 7) rfl rfl Tryz.func26 (by kernel_rfl) rfl #[.agg #[.int .i64 aa, .int .i64 ab, .slice ac a8.length ae]] rfl gL_ ?_;(with_reducible refine (impl_IsPuzzle.calls aa ab _ _ a8 false _ ?_ ?_ A3.out).mono ?_);exact cB (Kd.C_below ag.out HB.out);exact ah.out;rintro e cd ⟨rfl,hb⟩;refine ⟨_,rfl,?_⟩;replace J:=kb2 J hb;replace Z:=kb2 Z hb;replace HB:=hB2 HB hb;(try clear hb);obtain ⟨bu,bv,bw,bz,bC,bD⟩:=cells3 Z.out));refine bodyPost_ret (results_ct rfl _ _ a6 28 #[.int .i64 0, .int .i64 0, .slice none 0 0] (0,0) _ rfl (kP Z) Tryz.underlying28 rfl (by kernel_rfl)) rfl ?_;exact ⟨_,rF_,xN_,bB⟩
/-! ### impl_FirstSolution: function 10 -/
def impl_FirstSolution.f (k:Nat) (Y:Int) (Z:Int) (a1:List (S48)):Option (ByteArray×Bool):=(impl_Solutions.f k Y Z a1).bind fun J=>(if (J.1.length:Int)=0 then (some ((⟨#[]⟩:ByteArray),false)) else (if 0 < (J.1.length:Int) then (some (rdOf ByteArray.empty J.1 0,true)) else (none)))
set_option maxHeartbeats 8000000 in
set_option maxRecDepth 100000 in
theorem impl_FirstSolution.calls (k:Nat) (a1:Int) (a6:Int) (a7:Option Addr) (a8:Nat) (Y:List (S48)) (r1:ByteArray) (r2:Bool) (w:World) (ac:Kd.C k48 w a7 Y.length Y) (ae:Y.length≤a8) (h:impl_FirstSolution.f k a1 a6 Y=some (r1,r2)) :
    Calls Tryz.prog 10 #[.agg #[.int .i64 a1, .int .i64 a6, .slice a7 Y.length a8]] w fun e w'=>e = .returned (.tuple #[.string r1, .bool r2])∧Below w.heap.size w w':=by
  have aU:=Tryz.underlying28;have af:=amk ac;have ag:=amk ae;clear ac ae;have HB:=amk (Below.refl w.heap.size w);unfold impl_FirstSolution.f at h;have H:=h;clear h;replace H:=bE H;obtain ⟨⟨J,ak⟩,A2,H⟩:=H;(try dsimp only at H)
  by_cases c3:(J.length:Int)=0
  · rw [if_pos c3] at H;have ap:((J.length:Int) == 0)=true:=beq_iff_eq.mpr c3;have ar:((J.length:Int) != 0)=false:=bne_eq_false_iff_eq.mpr c3;clear c3;simp only [Option.some.injEq,Prod.mk.injEq] at H;obtain ⟨rfl,rfl⟩:=H;go_enter Tryz.func10,Tryz.ntmps10;go_wp2_with (first | ((with_reducible refine gate_dst (N:=1) rfl ?_);refine boxE_ HB 1 #[.int .i64 a1, .int .i64 a6, .slice a7 Y.length a8] 28 ?_;clear HB;intro al w4 HB Z am an hb;clear hb;obtain ⟨aG,aH,aI,aJ,aK,aM⟩:=cells3 Z.out) | ((with_reducible refine gate_callee (f:=6) rfl ?_);refine goesL_ (some 8) rfl rfl Tryz.func6 (by kernel_rfl) rfl #[.agg #[.int .i64 a1, .int .i64 a6, .slice a7 Y.length a8]] rfl gL_ ?_;(with_reducible refine (impl_Solutions.calls k a1 a6 _ _ Y J ak _ ?_ ?_ A2.out).mono ?_);exact cB (Kd.C_below af.out HB.out);exact ag.out;rintro e w6 ⟨au,rfl,ah,hb⟩;refine ⟨_,rfl,?_⟩;have aa:=amk (Kd.R_lower ah (below_size bB));replace Z:=kb2 Z hb;replace HB:=hB2 HB hb;(try clear hb);(try clear ah);obtain ⟨b3,b4,aN⟩:=Kd.R_slice aa.out;subst aN));go_ret2;exact ⟨rF_,bB⟩
  · rw [if_neg c3] at H;have ap:((J.length:Int) == 0)=false:=beq_eq_false_iff_ne.mpr c3;have ar:((J.length:Int) != 0)=true:=bne_iff_ne.mpr c3;have aV : ¬ (J=[]):=fun h_=>c3 (by rw [h_];rfl)
    by_cases c8:0 < (J.length:Int)
    · rw [if_pos c8] at H;have aW:decide (0 < (J.length:Int))=true:=decide_eq_true c8;have aX:decide (0 < J.length)=true:=decide_eq_true (by omega);clear c8;simp only [Option.some.injEq,Prod.mk.injEq] at H;obtain ⟨rfl,rfl⟩:=H;go_enter Tryz.func10,Tryz.ntmps10;go_wp2_with (first | ((with_reducible refine gate_dst (N:=1) rfl ?_);refine boxE_ HB 1 #[.int .i64 a1, .int .i64 a6, .slice a7 Y.length a8] 28 ?_;clear HB;intro al w9 HB Z am an hb;clear hb;obtain ⟨av,ax,ay,az,aA,aC⟩:=cells3 Z.out) | ((with_reducible refine gate_callee (f:=6) rfl ?_);refine goesL_ (some 8) rfl rfl Tryz.func6 (by kernel_rfl) rfl #[.agg #[.int .i64 a1, .int .i64 a6, .slice a7 Y.length a8]] rfl gL_ ?_;(with_reducible refine (impl_Solutions.calls k a1 a6 _ _ Y J ak _ ?_ ?_ A2.out).mono ?_);exact cB (Kd.C_below af.out HB.out);exact ag.out;rintro e b5 ⟨au,rfl,ah,hb⟩;refine ⟨_,rfl,?_⟩;have aa:=amk (Kd.R_lower ah (below_size bB));replace Z:=kb2 Z hb;replace HB:=hB2 HB hb;(try clear hb);(try clear ah);obtain ⟨aY,aZ,aD⟩:=Kd.R_slice aa.out;subst aD;have ai:0≤(0:Int):=(by omega);have aj:0 < (J.length:Int):=dA_;obtain ⟨aQ,aE,ab⟩:=Kd.at_string (Kd.R_reads' aa.out).2.2 0 ai aj;cases aE;have aT:(0 < J.length)=True:=eq_true (by omega);(try rw [show ((0:Int)).toNat=0 from rfl] at ab);(try rw [Addr.add_zero'] at ab);replace ai:=eq_true ai;replace aj:=eq_true aj));go_ret2;exact ⟨rF_,bB⟩
    · rw [if_neg c8] at H;exact absurd H (by simp)
/-! ### impl_IsSolved: function 14 -/
def impl_IsSolved.f (k:Nat) (Y:Int) (Z:Int) (a1:List (S48)):Option (Bool×Bool):=(impl_Solutions.f k Y Z a1).bind fun J=>(some (((J.1.length:Int) == 1),J.2))
set_option maxHeartbeats 8000000 in
set_option maxRecDepth 100000 in
theorem impl_IsSolved.calls (k:Nat) (Y:Int) (Z:Int) (a6:Option Addr) (a7:Nat) (J:List (S48)) (r1:Bool) (r2:Bool) (w:World) (a8:Kd.C k48 w a6 J.length J) (aa:J.length≤a7) (h:impl_IsSolved.f k Y Z J=some (r1,r2)) :
    Calls Tryz.prog 14 #[.agg #[.int .i64 Y, .int .i64 Z, .slice a6 J.length a7]] w fun e w'=>e = .returned (.tuple #[.bool r1, .bool r2])∧Below w.heap.size w w':=by
  have ax:=Tryz.underlying28;have ab:=amk a8;have ac:=amk aa;clear a8 aa;have HB:=amk (Below.refl w.heap.size w);unfold impl_IsSolved.f at h;have H:=h;clear h;replace H:=bE H;obtain ⟨⟨af,ag⟩,A2,H⟩:=H;(try dsimp only at H);simp only [Option.some.injEq,Prod.mk.injEq] at H;obtain ⟨rfl,rfl⟩:=H;go_enter Tryz.func14,Tryz.ntmps14;go_wp2_with (first | ((with_reducible refine gate_dst (N:=1) rfl ?_);refine boxE_ HB 1 #[.int .i64 Y, .int .i64 Z, .slice a6 J.length a7] 28 ?_;clear HB;intro ap w3 HB a1 ar au hb;clear hb;obtain ⟨ai,aj,ak,al,am,an⟩:=cells3 a1.out) | ((with_reducible refine gate_callee (f:=6) rfl ?_);refine goesL_ (some 8) rfl rfl Tryz.func6 (by kernel_rfl) rfl #[.agg #[.int .i64 Y, .int .i64 Z, .slice a6 J.length a7]] rfl gL_ ?_;(with_reducible refine (impl_Solutions.calls k Y Z _ _ J af ag _ ?_ ?_ A2.out).mono ?_);exact cB (Kd.C_below ab.out HB.out);exact ac.out;rintro e w5 ⟨ay,rfl,ah,hb⟩;refine ⟨_,rfl,?_⟩;have ae:=amk (Kd.R_lower ah (below_size bB));replace a1:=kb2 a1 hb;replace HB:=hB2 HB hb;(try clear hb);(try clear ah);obtain ⟨az,aA,av⟩:=Kd.R_slice ae.out;subst av));go_ret2;exact ⟨rF_,bB⟩
/-! ### impl_LeftByClues: function 18 -/
def impl_LeftByClues.l0:Nat→List Int→Int→Int→Int→Int→List (S48)→Option (List Int×Bool)
  | 0,_,_,_,_,_,_=>none
  | k + 1,x4,a6,a1,Y,Z,J=>if a1 < a6 then (if 0≤a1 then (if a1≤(J.length:Int) then ((impl_Lock_solutions.f k Y Z (J.take (a1:Int).toNat)).bind fun a7=>(if x4.length < 17592186044416 then (impl_LeftByClues.l0 k (x4 ++ [(a7.length:Int)]) a6 (wrap64 (a1 + 1)) Y Z J) else (none))) else (none)) else (none)) else (some (x4,true))
def impl_LeftByClues.f (k:Nat) (Y:Int) (Z:Int) (J:List (S48)):Option (List Int×Bool):=(impl_IsPuzzle.f Y Z J).bind fun a1=>(if a1=true then (impl_LeftByClues.l0 k (([]:List Int)) (wrap64 ((J.length:Int) + 1)) 0 Y Z J) else (some (([]:List Int),false)))
def impl_LeftByClues.T7:Bool×List (List Nat×List Nat):=(true,[([],[]),([],[]),([1],[1]),([],[]),([3],[3]),([],[]),([4,5],[4,5]),([2,6],[2,6]),([7],[7]),([8],[8]),([0,9,7],[0,9]),([10,10,0,1,2,3,4,5,6,7,8,9,10],[0,10])])
def impl_LeftByClues.B7:List Nat:=[0,0,2,0,8,0,56,126,254,510,1023,2047]
theorem impl_LeftByClues.tab7:rtab .any (opsOf Tryz.f18 7)=impl_LeftByClues.T7:=by kernel_rfl
theorem impl_LeftByClues.bits7:waitsOk impl_LeftByClues.T7.2 impl_LeftByClues.B7=true:=by kernel_rfl
set_option maxHeartbeats 8000000 in
set_option maxRecDepth 100000 in
theorem impl_LeftByClues.calls (k:Nat) (a1:Int) (a6:Int) (a8:Option Addr) (a7:Nat) (Y:List (S48)) (r1:List Int) (r2:Bool) (w:World) (aj:Kd.C k48 w a8 Y.length Y) (ak:Y.length≤a7) (h:impl_LeftByClues.f k a1 a6 Y=some (r1,r2)) :
    Calls Tryz.prog 18 #[.agg #[.int .i64 a1, .int .i64 a6, .slice a8 Y.length a7]] w fun e w'=> ∃ v0_:Value,e = .returned (.tuple #[v0_, .bool r2])∧Kd.R (Kd.int .i64) 3 w' w.heap.size (fun _=>True) v0_ r1∧Below w.heap.size w w':=by
  have bp:=Tryz.underlying28;have bq:=Tryz.underlying25;have ae:=amk aj;have af:=amk ak;clear aj ak;have HB:=amk (Below.refl w.heap.size w);unfold impl_LeftByClues.f at h;have H:=h;clear h;replace H:=bE H;obtain ⟨br,A2,H⟩:=H;replace H:=iteB H;obtain ⟨rfl,H⟩ | ⟨rfl,H⟩:=H
  · (try rw [Option.bind_some] at H);generalize al:(([]:List Int))=b9 at H;have am:=amk al.symm;clear al;have H':=amk H;clear H;go_enter Tryz.func18,Tryz.ntmps18;go_wp2_with (first | ((with_reducible refine gate_dst (N:=1) rfl ?_);refine boxE_ HB 1 #[.int .i64 a1, .int .i64 a6, .slice a8 Y.length a7] 28 ?_;clear HB;intro aa w4 HB J aW aX hb;clear hb;obtain ⟨aA,aC,aD,aE,aG,aH⟩:=cells3 J.out) | ((with_reducible refine gate_callee (f:=26) rfl ?_);refine goesL_ (some 7) rfl rfl Tryz.func26 (by kernel_rfl) rfl #[.agg #[.int .i64 a1, .int .i64 a6, .slice a8 Y.length a7]] rfl gL_ ?_;(with_reducible refine (impl_IsPuzzle.calls a1 a6 _ _ Y true _ ?_ ?_ A2.out).mono ?_);exact cB (Kd.C_below ae.out HB.out);exact af.out;rintro e w6 ⟨rfl,hb⟩;refine ⟨_,rfl,?_⟩;replace J:=kb2 J hb;replace HB:=hB2 HB hb;(try clear hb)) | ((with_reducible refine gate_dst (N:=9) rfl ?_);refine Kd.R_lit (Kd.int .i64) _ 3 ?hg (N:=9) ?hd (xs:=([]:List Int)) (inner:=[]) (ok:=fun _=>True) (okp:=fun _=>True) ?hr ?hp (fun _ hk=>hk) trivial (Below.refl _ _) (Nat.le_refl _) (by simp) ?_;(case hd=>rfl);(case hg=>rfl);(case hr=>first | (go_simp;done) | (go_simp;rfl));(case hp=>exact (Reps.none _ _));intro bu w7 an hb hg_ hnew_;clear hg_ hnew_;(first | rw [←am.out] at an | (simp only [Int.reduceToNat] at an;rw [←am.out] at an));have aY:=amk (Kd.R_lower an (below_size bB));replace J:=kb2 J hb;replace HB:=hB2 HB hb;clear hb an;obtain ⟨aI,aJ,aK,aM,aN,aQ⟩:=cells3 J.out))
    go_loopg [4,14] k (fun kq v4 bj w'=> ∃ (ab:List Int) (Z:Int),bj = .int .i64 Z∧Aside0 (impl_LeftByClues.l0 kq ab (wrap64 ((Y.length:Int) + 1)) Z a1 a6 Y=some (r1,r2))∧Aside0 (kq≤k)∧Aside0 (Kd.R (Kd.int .i64) 3 w' w.heap.size (fun _=>True) v4 ab)∧Aside0 (w'.heap[aa]?=some (.cells #[.int .i64 a1, .int .i64 a6,(.slice a8 Y.length a7)] 28 (0,0)))∧Aside0 (Below w.heap.size w w'))
    case atStart=>exact ⟨(b9),(0),rS_,H',⟨Nat.le_refl _⟩,⟨oX aY⟩,⟨kB J⟩,⟨bB⟩⟩
    case round =>
      clear H';(try clear c1);(try clear c2);(try clear p2);(try clear c3);(try clear p6);(try clear aA);(try clear aC);(try clear aD);(try clear aI);(try clear aJ);(try clear aK);(try clear aE);(try clear aG);(try clear aH);(try clear aM);(try clear aN);(try clear aQ);obtain ⟨ab,Z,rfl,HA,ba,HO_4,J,HB⟩:=hrel
      cases gk with
      | zero=>exact absurd HA.out (by simp [impl_LeftByClues.l0])
      | succ k1 =>
        have H:=HA.out;clear HA;simp only [impl_LeftByClues.l0] at H;replace H:=iteE H;obtain ⟨aZ,H⟩ | ⟨aZ,H⟩:=H
        · by_cases c11:0≤Z
          · rw [if_pos c11] at H;have bk:=eq_true c11;have bl:decide (0≤Z)=true:=decide_eq_true c11;clear c11
            by_cases c12:Z≤(Y.length:Int)
            · rw [if_pos c12] at H;have bm:=eq_true c12;have bn:decide (Z≤(Y.length:Int))=true:=decide_eq_true c12;clear c12;(try rw [Option.bind_some] at H);generalize ap:((Y.take (Z:Int).toNat):List (S48))=ah at H;have ar:=amk ap.symm;clear ap;replace H:=bE H;obtain ⟨ai,bo,H⟩:=H
              by_cases c14:ab.length < 17592186044416
              · rw [if_pos c14] at H;have b3:=amk c14;clear c14;(try rw [Option.bind_some] at H);generalize au:((ab ++ [(ai.length:Int)]):List Int)=bb at H;have b4:=amk au.symm;clear au;have H':=amk H;clear H;(try go_wp2);replace HO_4:=amk (Kd.R_drew HO_4.out);replace J:=amk (blk_drew J.out);replace HB:=amk (bd_ HB.out);have b5:(Z:Int)≤((Y.length:Int):Int):=dA_;obtain ⟨bv,av,_,b6,_⟩:=info_parts info48;have ac:Y.length≤a7:=af.out;have aU:Kd.C k48 _ a8 Y.length Y:=ae.out;have aT:=cut_to (P:=Tryz.prog) 26 48 .i64 Tryz.underlying26 av a8 Y.length a7 Z (dA_) b5 ac;have ax:=Kd.C_take (m:=(Z:Int).toNat) aU (by omega);have ay:ah.length=(Z:Int).toNat:=(by rw [ar.out,List.length_take];omega);rw [←ar.out] at ax;rw [←ay] at aT;have az:=amk ax;have b7:=amk (show ah.length≤a7 from by omega);clear ax aU ac av b6;have bw:=amk ay;clear ay;replace b5:=eq_true b5;refine start_ (n:=12) (S:=fun w'=>w'.cell? ⟨aa,0,none⟩=some (.int .i64 a1)∧w'.cell? ⟨aa,1,none⟩=some (.int .i64 a6)∧w'.cell? ⟨aa,2,none⟩=some (.slice a8 Y.length a7)) (ds:=[]) (bA 12 0) (by kernel_rfl) rfl rfl ⟨(blk_cell J.out 0).trans rfl,(blk_cell J.out 1).trans rfl,(blk_cell J.out 2).trans rfl⟩ (fun hHeld=>?_);refine with_tabW impl_LeftByClues.tab7 impl_LeftByClues.bits7 (fun HT_ HW_=>?_);generalize wr.drew=bH at HO_4 J HB az hHeld ⊢;refine pU_ HT_ 0 (some 17) (bA 12 1) ?_;refine pU_ HT_ 1 (some 18) (bA 12 3) ?_;refine pU_ HT_ 3 (some 20) (bA 12 11) ?_;refine pU_ HT_ 5 (some 22) (bA 12 43) ?_;refine tK_ HT_ HW_ hHeld 2 (some 19) (bA 12 47) ?_;refine tK_ HT_ HW_ hHeld 4 (some 21) (bA 12 63) ?_;refine pU_ HT_ 6 (some 23) (bA 12 127) ?_;refine oN_ HT_ 7 (some 24) (bA 12 255) (fun K hK=>?_);refine goes_ Tryz.func38 (by kernel_rfl) rfl #[.agg #[.int .i64 a1, .int .i64 a6], .slice a8 ah.length a7] (by rfl) rfl rfl gL_ ?_;(with_reducible refine (impl_Lock_solutions.calls k1 a1 a6 _ _ ah ai _ ?_ ?_ bo.out).mono ?_);exact cB (Kd.C_below az.out HB.out);exact b7.out;rintro e bJ ⟨bz,rfl,bc,hb⟩;refine ⟨_,rfl,?_⟩;replace HO_4:=amk (Kd.R_below (oX HO_4) hb);have ag:=amk (Kd.R_lower bc (below_size bB));replace J:=kb2 J hb;replace HB:=hB2 HB hb;(try clear hb);(try clear bc);obtain ⟨bC,bD,aV⟩:=Kd.R_slice ag.out;(first | subst aV | (injection aV with f1_ f2_ f3_;have f4_:=f1_.symm;have f5_:=f3_.symm;clear f1_ f2_ f3_;subst f4_;subst f5_));refine hK.out _ _ hC_ (fun hHeld=>?_);clear hK K;refine nN_ (some 24) ?_;refine pU_ HT_ 8 (some 25) (bA 12 511) ?_;refine oN_ HT_ 9 (some 26) (bA 12 1023) (fun K hK=>?_);refine value_ (w1:=?_) (v:=?_) (by rfl) rfl ?_ ?_;rotate_left 2
                · go_simp
                  constructor
                  · rfl
                  · rfl
                refine hK.out _ _ ⟨(blk_cell (ka_ J.out _) 0).trans rfl,(blk_cell (ka_ J.out _) 1).trans rfl,(blk_cell (ka_ J.out _) 2).trans rfl⟩ (fun hHeld=>?_);clear hK K;refine nN_ (some 26) ?_;refine oN_ HT_ 10 (some 27) (bA 12 2047) (fun K hK=>?_);refine Kd.R_append_step (Kd.int .i64) (w0:=w) w.heap.size (by rfl) (.tmp 17) (.tmp 26) 39 3 (.int .i64 0) 8 rfl Tryz.underlying39 info3 rfl (by decide) (by omega) u4 ab (ai.length:Int) [.int .i64 (ai.length:Int)] (fun _=>True) (fun _=>False) rfl rfl ?aP (fun _ hk=>hk.elim) ?aF ?aO ?aB ?aS ?aL ?_;(case aP=>exact rfl);(case aB=>exact bB);(case aF=>exact (fun _ _=>trivial));(case aO=>exact (oX HO_4));(case aS=>exact (below_size bB));(case aL=>have:=b3.out;omega);intro bF bL ho hb hg hat;rw [←b4.out] at ho;replace J:=bG J hg (Kd.R_ne HO_4.out J.out (by decide));replace ag:=amk (Kd.R_over' (oX ag) (Kd.R_typed (oX HO_4)) (by decide) hg);replace HB:=amk (hb);have b8:=amk (ho);clear HO_4;clear ho hb hg hat;refine hK.out _ _ hC_ (fun hHeld=>?_);clear hK K;refine nN_ (some 27) ?_;refine pU_ HT_ 11 (some 4) (bA 12 4095) ?_;refine done_ (done_of HT_.out (by kernel_rfl)) ?_;(try go_wp2);go_roundg k1
                case measure=>have:=ba.out;omega
                case rel=>exact ⟨(bb),(wrap64 (Z + 1)),rS_,H',⟨by have:=ba.out;omega⟩,⟨oX b8⟩,⟨kB J⟩,⟨bB⟩⟩
              · rw [if_neg c14] at H;exact absurd H (by simp)
            · rw [if_neg c12] at H;exact absurd H (by simp)
          · rw [if_neg c11] at H;exact absurd H (by simp)
        · simp only [Option.some.injEq,Prod.mk.injEq] at H;obtain ⟨rfl,rfl⟩:=H;go_wp2;go_ret2;exact ⟨_,rF_,oX HO_4,bB⟩
  · simp only [Option.some.injEq,Prod.mk.injEq] at H;obtain ⟨rfl,rfl⟩:=H;go_enter Tryz.func18,Tryz.ntmps18;go_wp2_with (first | ((with_reducible refine gate_dst (N:=1) rfl ?_);refine boxE_ HB 1 #[.int .i64 a1, .int .i64 a6, .slice a8 Y.length a7] 28 ?_;clear HB;intro aa bM HB J aW aX hb;clear hb;obtain ⟨bd,be,bf,bg,bh,bi⟩:=cells3 J.out) | ((with_reducible refine gate_callee (f:=26) rfl ?_);refine goesL_ (some 7) rfl rfl Tryz.func26 (by kernel_rfl) rfl #[.agg #[.int .i64 a1, .int .i64 a6, .slice a8 Y.length a7]] rfl gL_ ?_;(with_reducible refine (impl_IsPuzzle.calls a1 a6 _ _ Y false _ ?_ ?_ A2.out).mono ?_);exact cB (Kd.C_below ae.out HB.out);exact af.out;rintro e bN ⟨rfl,hb⟩;refine ⟨_,rfl,?_⟩;replace J:=kb2 J hb;replace HB:=hB2 HB hb;(try clear hb)));go_ret2;exact ⟨_,rF_,xN_,bB⟩
/-! ### impl_NeedlessClues: function 16 -/
def impl_NeedlessClues.l0:Nat→List ByteArray→List Int→Int→Int→Int→Int→List (S48)→Option (List Int×Bool)
  | 0,_,_,_,_,_,_,_=>none
  | k + 1,x4,x6,a6,a1,J,Y,Z=>if a1 < a6 then ((impl_but.f Z a1).bind fun a7=>((impl_Lock_solutions.f k J Y a7).bind fun a8=>(if (a8.length:Int)=(x4.length:Int) then (if x6.length < 17592186044416 then (impl_NeedlessClues.l0 k x4 (x6 ++ [a1]) a6 (wrap64 (a1 + 1)) J Y Z) else (none)) else (impl_NeedlessClues.l0 k x4 x6 a6 (wrap64 (a1 + 1)) J Y Z)))) else (some (x6,true))
def impl_NeedlessClues.f (k:Nat) (Z:Int) (a1:Int) (J:List (S48)):Option (List Int×Bool):=(impl_Solutions.f k Z a1 J).bind fun Y=>(if Y.2=true then (impl_NeedlessClues.l0 k Y.1 (([]:List Int)) (J.length:Int) 0 Z a1 J) else (some (([]:List Int),false)))
def impl_NeedlessClues.T8:Bool×List (List Nat×List Nat):=(true,[([],[]),([0],[0]),([],[]),([2],[2]),([],[]),([3,4],[3,4]),([1,5,5],[1,5]),([6],[6]),([],[]),([8],[8]),([7,9],[7,9])])
def impl_NeedlessClues.B8:List Nat:=[0,1,0,4,0,28,63,127,0,256,1023]
theorem impl_NeedlessClues.tab8:rtab .any (opsOf Tryz.f16 8)=impl_NeedlessClues.T8:=by kernel_rfl
theorem impl_NeedlessClues.bits8:waitsOk impl_NeedlessClues.T8.2 impl_NeedlessClues.B8=true:=by kernel_rfl
set_option maxHeartbeats 8000000 in
set_option maxRecDepth 100000 in
theorem impl_NeedlessClues.calls (k:Nat) (a6:Int) (a7:Int) (aa:Option Addr) (ab:Nat) (Y:List (S48)) (r1:List Int) (r2:Bool) (w:World) (am:Kd.C k48 w aa Y.length Y) (an:Y.length≤ab) (h:impl_NeedlessClues.f k a6 a7 Y=some (r1,r2)) :
    Calls Tryz.prog 16 #[.agg #[.int .i64 a6, .int .i64 a7, .slice aa Y.length ab]] w fun e w'=> ∃ v0_:Value,e = .returned (.tuple #[v0_, .bool r2])∧Kd.R (Kd.int .i64) 3 w' w.heap.size (fun _=>True) v0_ r1∧Below w.heap.size w w':=by
  have bu:=Tryz.underlying28;have bv:=Tryz.underlying25;have aj:=amk am;have ak:=amk an;clear am an;have HB:=amk (Below.refl w.heap.size w);unfold impl_NeedlessClues.f at h;have H:=h;clear h;replace H:=bE H;obtain ⟨⟨ac,bw⟩,A2,H⟩:=H;(try dsimp only at H);replace H:=iteB H;obtain ⟨rfl,H⟩ | ⟨rfl,H⟩:=H
  · (try rw [Option.bind_some] at H);generalize ap:(([]:List Int))=bb at H;have ar:=amk ap.symm;clear ap;have H':=amk H;clear H;go_enter Tryz.func16,Tryz.ntmps16;go_wp2_with (first | ((with_reducible refine gate_dst (N:=1) rfl ?_);refine boxE_ HB 1 #[.int .i64 a6, .int .i64 a7, .slice aa Y.length ab] 28 ?_;clear HB;intro ae w4 HB J aY aZ hb;clear hb;obtain ⟨ax,ay,az,aA,aC,aD⟩:=cells3 J.out) | ((with_reducible refine gate_callee (f:=6) rfl ?_);refine goesL_ (some 10) rfl rfl Tryz.func6 (by kernel_rfl) rfl #[.agg #[.int .i64 a6, .int .i64 a7, .slice aa Y.length ab]] rfl gL_ ?_;(with_reducible refine (impl_Solutions.calls k a6 a7 _ _ Y ac true _ ?_ ?_ A2.out).mono ?_);exact cB (Kd.C_below aj.out HB.out);exact ak.out;rintro e w6 ⟨aN,rfl,a8,hb⟩;refine ⟨_,rfl,?_⟩;have al:=amk (Kd.R_lower a8 (below_size bB));replace J:=kb2 J hb;replace HB:=hB2 HB hb;(try clear hb);(try clear a8)) | ((with_reducible refine gate_dst (N:=15) rfl ?_);refine Kd.R_lit (Kd.int .i64) _ 3 ?hg (N:=15) ?hd (xs:=([]:List Int)) (inner:=[]) (ok:=fun _=>True) (okp:=fun _=>True) ?hr ?hp (fun _ hk=>hk) trivial (Below.refl _ _) (Nat.le_refl _) (by simp) ?_;(case hd=>rfl);(case hg=>rfl);(case hr=>first | (go_simp;done) | (go_simp;rfl));(case hp=>exact (Reps.none _ _));intro bz w7 au hb hg_ hnew_;clear hg_ hnew_;(first | rw [←ar.out] at au | (simp only [Int.reduceToNat] at au;rw [←ar.out] at au));replace al:=amk (Kd.R_below (oX al) hb);have b3:=amk (Kd.R_lower au (below_size bB));replace J:=kb2 J hb;replace HB:=hB2 HB hb;clear hb au;obtain ⟨aE,aG,aH,aI,aJ,aK⟩:=cells3 J.out))
    go_loopg [6,19] k (fun kq v6 br w'=> ∃ (ag:List Int) (a1:Int),br = .int .i64 a1∧Aside0 (impl_NeedlessClues.l0 kq ac ag (Y.length:Int) a1 a6 a7 Y=some (r1,r2))∧Aside0 (kq≤k)∧Aside0 (Kd.R Kd.string 9 w' w.heap.size (fun _=>True) aN ac)∧Aside0 (Kd.R (Kd.int .i64) 3 w' w.heap.size (fun _=>True) v6 ag)∧Aside0 (w'.heap[ae]?=some (.cells #[.int .i64 a6, .int .i64 a7,(.slice aa Y.length ab)] 28 (0,0)))∧Aside0 (Below w.heap.size w w'))
    case atStart=>exact ⟨(bb),(0),rS_,H',⟨Nat.le_refl _⟩,⟨oX al⟩,⟨oX b3⟩,⟨kB J⟩,⟨bB⟩⟩
    case round =>
      clear H';(try clear c1);(try clear p2);(try clear c3);(try clear c6);(try clear ax);(try clear ay);(try clear az);(try clear aE);(try clear aG);(try clear aH);(try clear aA);(try clear aC);(try clear aD);(try clear aI);(try clear aJ);(try clear aK);obtain ⟨ag,a1,rfl,HA,aM,HO_4,HO_6,J,HB⟩:=hrel
      cases gk with
      | zero=>exact absurd HA.out (by simp [impl_NeedlessClues.l0])
      | succ k1 =>
        have H:=HA.out;clear HA;simp only [impl_NeedlessClues.l0] at H;replace H:=iteE H;obtain ⟨b4,H⟩ | ⟨b4,H⟩:=H
        · replace H:=bE H;obtain ⟨ai,bc,H⟩:=H;replace H:=bE H;obtain ⟨af,bd,H⟩:=H
          by_cases c13:(af.length:Int)=(ac.length:Int)
          · rw [if_pos c13] at H;have b5:((af.length:Int) == (ac.length:Int))=true:=beq_iff_eq.mpr c13;have b6:((af.length:Int) != (ac.length:Int))=false:=bne_eq_false_iff_eq.mpr c13;(have b7:(af.length == ac.length)=true:=by first | simpa using c13 | (simp at c13 ⊢;omega));clear c13
            by_cases c14:ag.length < 17592186044416
            · rw [if_pos c14] at H;have b8:=amk c14;clear c14;(try rw [Option.bind_some] at H);generalize av:((ag ++ [a1]):List Int)=be at H;have b9:=amk av.symm;clear av;have H':=amk H;clear H;(try go_wp2);replace HO_4:=amk (Kd.R_drew HO_4.out);replace HO_6:=amk (Kd.R_drew HO_6.out);replace J:=amk (blk_drew J.out);replace HB:=amk (bd_ HB.out);obtain ⟨bC,bD,aQ⟩:=Kd.R_slice HO_4.out;(first | subst aQ | (injection aQ with f1_ f2_ f3_;have f4_:=f1_.symm;have f5_:=f3_.symm;clear f1_ f2_ f3_;subst f4_;subst f5_));refine start_ (n:=11) (S:=fun w'=>w'.cell? ⟨ae,0,none⟩=some (.int .i64 a6)∧w'.cell? ⟨ae,1,none⟩=some (.int .i64 a7)∧w'.cell? ⟨ae,2,none⟩=some (.slice aa Y.length ab)) (ds:=[]) (bA 11 0) (by kernel_rfl) rfl rfl ⟨(blk_cell J.out 0).trans rfl,(blk_cell J.out 1).trans rfl,(blk_cell J.out 2).trans rfl⟩ (fun hHeld=>?_);refine with_tabW impl_NeedlessClues.tab8 impl_NeedlessClues.bits8 (fun HT_ HW_=>?_);generalize wr.drew=bQ at HO_4 HO_6 J HB hHeld ⊢;refine pU_ HT_ 0 (some 22) (bA 11 1) ?_;refine pU_ HT_ 2 (some 24) (bA 11 5) ?_;refine pU_ HT_ 4 (some 26) (bA 11 21) ?_;refine pU_ HT_ 8 (some 30) (bA 11 277) ?_;refine pU_ HT_ 9 (some 31) (bA 11 789) ?_;refine tK_ HT_ HW_ hHeld 1 (some 23) (bA 11 791) ?_;refine tK_ HT_ HW_ hHeld 3 (some 25) (bA 11 799) ?_;refine oN_ HT_ 5 (some 27) (bA 11 831) (fun K hK=>?_);refine goes_ Tryz.func42 (by kernel_rfl) rfl #[.slice aa Y.length ab, .int .i64 a1] (by rfl) rfl rfl gL_ ?_;(with_reducible refine (impl_but.calls _ _ Y a1 ai _ ?_ ?_ bc.out).mono ?_);exact cB (Kd.C_below aj.out HB.out);exact ak.out;rintro e bR ⟨bf,rfl,a8,hb⟩;refine ⟨_,rfl,?_⟩;replace HO_4:=amk (Kd.R_below (oX HO_4) hb);replace HO_6:=amk (Kd.R_below (oX HO_6) hb);have Z:=amk (Kd.R_lower a8 (below_size bB));replace J:=kb2 J hb;replace HB:=hB2 HB hb;(try clear hb);(try clear a8);obtain ⟨bg,bh,aT⟩:=Kd.R_slice Z.out;(first | subst aT | (injection aT with f1_ f2_ f3_;have f4_:=f1_.symm;have f5_:=f3_.symm;clear f1_ f2_ f3_;subst f4_;subst f5_));refine hK.out _ _ hC_ (fun hHeld=>?_);clear hK K;refine nN_ (some 27) ?_;refine oN_ HT_ 6 (some 28) (bA 11 895) (fun K hK=>?_);refine goes_ Tryz.func38 (by kernel_rfl) rfl #[.agg #[.int .i64 a6, .int .i64 a7], .slice bg ai.length bh] (by rfl) rfl rfl gL_ ?_;(with_reducible refine (impl_Lock_solutions.calls k1 a6 a7 _ _ ai af _ ?_ ?_ bd.out).mono ?_);exact cB ((Kd.R_reads' Z.out).2.2);exact (Kd.R_reads' Z.out).2.1;rintro e bS ⟨bi,rfl,a8,hb⟩;refine ⟨_,rfl,?_⟩;replace HO_6:=amk (Kd.R_below (oX HO_6) hb);replace Z:=amk (Kd.R_below (oX Z) hb);have ah:=amk (Kd.R_lower (Kd.R_new' a8 (Kd.R_lt (oX HO_4))) (below_size bB));replace HO_4:=amk (Kd.R_elder' (oX HO_4) (Kd.R_base a8) hb);replace J:=kb2 J hb;replace HB:=hB2 HB hb;(try clear hb);(try clear a8);obtain ⟨bF,bH,aU⟩:=Kd.R_slice ah.out;(first | subst aU | (injection aU with f1_ f2_ f3_;have f4_:=f1_.symm;have f5_:=f3_.symm;clear f1_ f2_ f3_;subst f4_;subst f5_));refine hK.out _ _ hC_ (fun hHeld=>?_);clear hK K;refine nN_ (some 28) ?_;refine pU_ HT_ 7 (some 29) (bA 11 1023) ?_;refine pU_ HT_ 10 (some 32) (bA 11 2047) ?_;refine done_ (done_of HT_.out (by kernel_rfl)) ?_;(try go_wp2_with (first | ((with_reducible refine gate_builtin (b:= .append) (xs:= #[.tmp 33, .tmp 35]) rfl ?_);at_builtin;refine Kd.R_append (Kd.int .i64) (w0:=w) w.heap.size rfl (.tmp 33) (.tmp 35) 39 3 (.int .i64 0) 8 rfl Tryz.underlying39 info3 rfl (by decide) (by omega) u6 ag a1 [.int .i64 a1] (fun _=>True) (fun _=>False) rfl rfl rfl (fun _ hk=>hk.elim) (fun _ _=>trivial) (oX HO_6) bB (below_size bB) (by have:=b8.out;omega) ?_;intro bJ bT ho hb hg hat;rw [←b9.out] at ho;replace HO_4:=amk (Kd.R_over' (oX HO_4) (Kd.R_typed (oX HO_6)) (by decide) hg);replace J:=bG J hg (Kd.R_ne HO_6.out J.out (by decide));replace Z:=amk (Kd.R_over' (oX Z) (Kd.R_typed (oX HO_6)) (by decide) hg);replace ah:=amk (Kd.R_over' (oX ah) (Kd.R_typed (oX HO_6)) (by decide) hg);replace HB:=amk (hb);have ba:=amk (ho);clear HO_6;clear ho hb hg hat)));go_roundg k1
              case measure=>have:=aM.out;omega
              case rel=>exact ⟨(be),(wrap64 (a1 + 1)),rS_,H',⟨by have:=aM.out;omega⟩,⟨by (with_reducible repeat (first | apply Kd.R_alloc | apply Kd.R_drewN | apply Kd.R_drew));exact Kd.R_mono HO_4.out (fun _ hk=>trivial)⟩,⟨oX ba⟩,⟨kB J⟩,⟨bB⟩⟩
            · rw [if_neg c14] at H;exact absurd H (by simp)
          · rw [if_neg c13] at H;have b5:((af.length:Int) == (ac.length:Int))=false:=beq_eq_false_iff_ne.mpr c13;have b6:((af.length:Int) != (ac.length:Int))=true:=bne_iff_ne.mpr c13;(have b7:(af.length == ac.length)=false:=by first | simpa using c13 | (simp at c13 ⊢;omega));have H':=amk H;clear H;(try go_wp2);replace HO_4:=amk (Kd.R_drew HO_4.out);replace HO_6:=amk (Kd.R_drew HO_6.out);replace J:=amk (blk_drew J.out);replace HB:=amk (bd_ HB.out);obtain ⟨bL,bM,aV⟩:=Kd.R_slice HO_4.out;(first | subst aV | (injection aV with f1_ f2_ f3_;have f4_:=f1_.symm;have f5_:=f3_.symm;clear f1_ f2_ f3_;subst f4_;subst f5_));refine start_ (n:=11) (S:=fun w'=>w'.cell? ⟨ae,0,none⟩=some (.int .i64 a6)∧w'.cell? ⟨ae,1,none⟩=some (.int .i64 a7)∧w'.cell? ⟨ae,2,none⟩=some (.slice aa Y.length ab)) (ds:=[]) (bA 11 0) (by kernel_rfl) rfl rfl ⟨(blk_cell J.out 0).trans rfl,(blk_cell J.out 1).trans rfl,(blk_cell J.out 2).trans rfl⟩ (fun hHeld=>?_);refine with_tabW impl_NeedlessClues.tab8 impl_NeedlessClues.bits8 (fun HT_ HW_=>?_);generalize wr.drew=bU at HO_4 HO_6 J HB hHeld ⊢;refine pU_ HT_ 0 (some 22) (bA 11 1) ?_;refine pU_ HT_ 2 (some 24) (bA 11 5) ?_;refine pU_ HT_ 4 (some 26) (bA 11 21) ?_;refine pU_ HT_ 8 (some 30) (bA 11 277) ?_;refine pU_ HT_ 9 (some 31) (bA 11 789) ?_;refine tK_ HT_ HW_ hHeld 1 (some 23) (bA 11 791) ?_;refine tK_ HT_ HW_ hHeld 3 (some 25) (bA 11 799) ?_;refine oN_ HT_ 5 (some 27) (bA 11 831) (fun K hK=>?_);refine goes_ Tryz.func42 (by kernel_rfl) rfl #[.slice aa Y.length ab, .int .i64 a1] (by rfl) rfl rfl gL_ ?_;(with_reducible refine (impl_but.calls _ _ Y a1 ai _ ?_ ?_ bc.out).mono ?_);exact cB (Kd.C_below aj.out HB.out);exact ak.out;rintro e bV ⟨bf,rfl,a8,hb⟩;refine ⟨_,rfl,?_⟩;replace HO_4:=amk (Kd.R_below (oX HO_4) hb);replace HO_6:=amk (Kd.R_below (oX HO_6) hb);have Z:=amk (Kd.R_lower a8 (below_size bB));replace J:=kb2 J hb;replace HB:=hB2 HB hb;(try clear hb);(try clear a8);obtain ⟨bj,bk,aW⟩:=Kd.R_slice Z.out;(first | subst aW | (injection aW with f1_ f2_ f3_;have f4_:=f1_.symm;have f5_:=f3_.symm;clear f1_ f2_ f3_;subst f4_;subst f5_));refine hK.out _ _ hC_ (fun hHeld=>?_);clear hK K;refine nN_ (some 27) ?_;refine oN_ HT_ 6 (some 28) (bA 11 895) (fun K hK=>?_);refine goes_ Tryz.func38 (by kernel_rfl) rfl #[.agg #[.int .i64 a6, .int .i64 a7], .slice bj ai.length bk] (by rfl) rfl rfl gL_ ?_;(with_reducible refine (impl_Lock_solutions.calls k1 a6 a7 _ _ ai af _ ?_ ?_ bd.out).mono ?_);exact cB ((Kd.R_reads' Z.out).2.2);exact (Kd.R_reads' Z.out).2.1;rintro e bW ⟨bi,rfl,a8,hb⟩;refine ⟨_,rfl,?_⟩;replace HO_6:=amk (Kd.R_below (oX HO_6) hb);replace Z:=amk (Kd.R_below (oX Z) hb);have ah:=amk (Kd.R_lower (Kd.R_new' a8 (Kd.R_lt (oX HO_4))) (below_size bB));replace HO_4:=amk (Kd.R_elder' (oX HO_4) (Kd.R_base a8) hb);replace J:=kb2 J hb;replace HB:=hB2 HB hb;(try clear hb);(try clear a8);obtain ⟨bN,bO,aX⟩:=Kd.R_slice ah.out;(first | subst aX | (injection aX with f1_ f2_ f3_;have f4_:=f1_.symm;have f5_:=f3_.symm;clear f1_ f2_ f3_;subst f4_;subst f5_));refine hK.out _ _ hC_ (fun hHeld=>?_);clear hK K;refine nN_ (some 28) ?_;refine pU_ HT_ 7 (some 29) (bA 11 1023) ?_;refine pU_ HT_ 10 (some 32) (bA 11 2047) ?_;refine done_ (done_of HT_.out (by kernel_rfl)) ?_;(try go_wp2);go_roundg k1
            case measure=>have:=aM.out;omega
            case rel=>exact ⟨(ag),(wrap64 (a1 + 1)),rS_,H',⟨by have:=aM.out;omega⟩,⟨by (with_reducible repeat (first | apply Kd.R_alloc | apply Kd.R_drewN | apply Kd.R_drew));exact Kd.R_mono HO_4.out (fun _ hk=>trivial)⟩,⟨oX HO_6⟩,⟨kB J⟩,⟨bB⟩⟩
        · simp only [Option.some.injEq,Prod.mk.injEq] at H;obtain ⟨rfl,rfl⟩:=H;go_wp2;go_ret2;exact ⟨_,rF_,oX HO_6,bB⟩
  · simp only [Option.some.injEq,Prod.mk.injEq] at H;obtain ⟨rfl,rfl⟩:=H;go_enter Tryz.func16,Tryz.ntmps16;go_wp2_with (first | ((with_reducible refine gate_dst (N:=1) rfl ?_);refine boxE_ HB 1 #[.int .i64 a6, .int .i64 a7, .slice aa Y.length ab] 28 ?_;clear HB;intro ae bX HB J aY aZ hb;clear hb;obtain ⟨bl,bm,bn,bo,bp,bq⟩:=cells3 J.out) | ((with_reducible refine gate_callee (f:=6) rfl ?_);refine goesL_ (some 10) rfl rfl Tryz.func6 (by kernel_rfl) rfl #[.agg #[.int .i64 a6, .int .i64 a7, .slice aa Y.length ab]] rfl gL_ ?_;(with_reducible refine (impl_Solutions.calls k a6 a7 _ _ Y ac false _ ?_ ?_ A2.out).mono ?_);exact cB (Kd.C_below aj.out HB.out);exact ak.out;rintro e bY ⟨aN,rfl,a8,hb⟩;refine ⟨_,rfl,?_⟩;have al:=amk (Kd.R_lower a8 (below_size bB));replace J:=kb2 J hb;replace HB:=hB2 HB hb;(try clear hb);(try clear a8)));go_ret2;exact ⟨_,rF_,xN_,bB⟩
/-! ### laws_eHas: function 32 -/
def laws_eHas.l0:Nat→Int→List Int→Int→Int→Option (Bool)
  | 0,_,_,_,_=>none
  | k + 1,x1,x7,x8,x9=>if x9 < x8 then (if 0≤x9 then (if x9 < (x7.length:Int) then (if (rd x7 x9)=x1 then (some true) else (laws_eHas.l0 k x1 x7 x8 (wrap64 (x9 + 1)))) else (none)) else (none)) else (some false)
def laws_eHas.f (k:Nat) (l0:List Int) (a1:Int):Option (Bool):=laws_eHas.l0 k a1 l0 (l0.length:Int) 0
set_option maxHeartbeats 8000000 in
set_option maxRecDepth 100000 in
theorem laws_eHas.calls (k:Nat) (A0:Option Addr) (c0:Nat) (l0:List Int) (a1:Int) (r:Bool) (w:World) (aa:Kd.C (Kd.int .i64) w A0 l0.length l0) (ab:l0.length≤c0) (h:laws_eHas.f k l0 a1=some r) :
    Calls Tryz.prog 32 #[.slice A0 l0.length c0, .int .i64 a1] w fun e w'=>e = .returned (.bool r)∧Drawn0 w w':=by
  have ac:=amk aa;have ak:=amk ab;clear aa ab;unfold laws_eHas.f at h;have H:=h;clear h;have H':=amk H;clear H;go_enter Tryz.func32,Tryz.ntmps32;go_wp2
  go_loopg [9] k (fun kq v9 w'=> ∃ (J:Int),v9 = .int .i64 J∧Aside0 (laws_eHas.l0 kq a1 l0 (l0.length:Int) J=some r)∧Aside0 (kq≤k)∧Drawn0 w w')
  case atStart=>exact ⟨(0),rS_,H',⟨Nat.le_refl _⟩,dR_⟩
  case round =>
    clear H';(try clear p2);obtain ⟨J,rfl,HA,ae,⟨m1,rfl⟩⟩:=hrel
    cases gk with
    | zero=>exact absurd HA.out (by simp [laws_eHas.l0])
    | succ k1 =>
      have H:=HA.out;clear HA;simp only [laws_eHas.l0] at H;replace H:=iteE H;obtain ⟨af,H⟩ | ⟨af,H⟩:=H
      · replace H:=iteN H;obtain ⟨ai,H⟩:=H;replace H:=iteN H;obtain ⟨aj,H⟩:=H
        by_cases c6:(rd l0 J)=a1
        · rw [if_pos c6] at H;have ag:((rd l0 J) == a1)=true:=beq_iff_eq.mpr c6;have ah:((rd l0 J) != a1)=false:=bne_eq_false_iff_eq.mpr c6;clear c6;obtain rfl:=Option.some.inj H;have Y:0≤(J:Int):=dA_;have Z:J < (l0.length:Int):=dA_;obtain ⟨a8,a6,a7⟩:=Kd.at_int ac.out J Y Z;cases a6;replace Y:=eq_true Y;replace Z:=eq_true Z;go_wp2;go_ret;exact ⟨rS_,dR_⟩
        · rw [if_neg c6] at H;have ag:((rd l0 J) == a1)=false:=beq_eq_false_iff_ne.mpr c6;have ah:((rd l0 J) != a1)=true:=bne_iff_ne.mpr c6;have H':=amk H;clear H;have Y:0≤(J:Int):=dA_;have Z:J < (l0.length:Int):=dA_;obtain ⟨a8,a6,a7⟩:=Kd.at_int ac.out J Y Z;cases a6;replace Y:=eq_true Y;replace Z:=eq_true Z;go_wp2;go_roundg k1
          case measure=>have:=ae.out;omega
          case rel=>exact ⟨(wrap64 (J + 1)),rS_,H',⟨by have:=ae.out;omega⟩,dR_⟩
      · obtain rfl:=Option.some.inj H;go_wp2;go_ret;exact ⟨rS_,dR_⟩
theorem eqA25 (d:Nat) (w:World) (x0 y0:Int) (x1 y1:Int) :
    (Op.equalIn (d + 2) 25 (.agg #[.int .i64 x0, .int .i64 x1]) (.agg #[.int .i64 y0, .int .i64 y1])).run Tryz.prog w = .ok (x0 == y0 && (x1 == y1)) w:=by
  refine eqA_of Tryz.underlying25 (by kernel_rfl) ?_;refine eqf_cons (by rfl) (by go_simp;rfl) (by go_simp;rfl) (by go_simp) ?_;exact eqf_last (by rfl) (by go_simp;rfl) (by go_simp;rfl) (by go_simp)
theorem eqA48 (d:Nat) (w:World) (x0 y0:Int) (x1 y1:Int) (x2 y2:Int) :
    (Op.equalIn (d + 2) 48 (.agg #[.int .i64 x0, .int .i64 x1, .int .i64 x2]) (.agg #[.int .i64 y0, .int .i64 y1, .int .i64 y2])).run Tryz.prog w = .ok (x0 == y0 && (x1 == y1 && (x2 == y2))) w:=by
  refine eqA_of Tryz.underlying48 (by kernel_rfl) ?_;refine eqf_cons (by rfl) (by go_simp;rfl) (by go_simp;rfl) (by go_simp) ?_;refine eqf_cons (by rfl) (by go_simp;rfl) (by go_simp;rfl) (by go_simp) ?_;exact eqf_last (by rfl) (by go_simp;rfl) (by go_simp;rfl) (by go_simp)
section
attribute [local go_sem high] eqA25 eqA48
/-! ### laws_ePuzzle: function 34 -/
mutual
def laws_ePuzzle.j0:Nat→Bool→Int→Int→List (S48)→Int→Int→List (S48)→Option (Bool)
  | 0,_,_,_,_,_,_,_=>none
  | k + 1,ab,Z,a1,J,a6,a7,Y=>if ab=true then (some false) else (laws_ePuzzle.l0 k (J.length:Int) 0 Z a1 J a6 a7 Y)
def laws_ePuzzle.l0:Nat→Int→Int→Int→Int→List (S48)→Int→Int→List (S48)→Option (Bool)
  | 0,_,_,_,_,_,_,_,_=>none
  | k + 1,aa,a8,Z,a1,J,a6,a7,Y=>if a8 < aa then (if 0≤a8 then (if a8 < (J.length:Int) then (if a8 < (Y.length:Int) then (if (!(((rd_T48 J a8).f0) == ((rd_T48 Y a8).f0)) || (!(((rd_T48 J a8).f1) == ((rd_T48 Y a8).f1)) || (!(((rd_T48 J a8).f2) == ((rd_T48 Y a8).f2)))))=true then (some false) else (laws_ePuzzle.l0 k aa (wrap64 (a8 + 1)) Z a1 J a6 a7 Y)) else (none)) else (none)) else (none)) else (some true)
end
def laws_ePuzzle.f (k:Nat) (J:Int) (Y:Int) (Z:List (S48)) (a1:Int) (a6:Int) (a7:List (S48)):Option (Bool):=if (!(J == a1) || (!(Y == a6)))=true then (laws_ePuzzle.j0 k true J Y Z a1 a6 a7) else (laws_ePuzzle.j0 k ((Z.length:Int) != (a7.length:Int)) J Y Z a1 a6 a7)
set_option maxHeartbeats 8000000 in
set_option maxRecDepth 100000 in
theorem laws_ePuzzle.calls (k:Nat) (ah:Int) (ai:Int) (al:Option Addr) (am:Nat) (Z:List (S48)) (aj:Int) (ak:Int) (an:Option Addr) (ap:Nat) (a1:List (S48)) (r:Bool) (w:World) (ba:Kd.C k48 w al Z.length Z) (bb:Z.length≤am) (bc:Kd.C k48 w an a1.length a1) (bd:a1.length≤ap) (h:laws_ePuzzle.f k ah ai Z aj ak a1=some r) :
    Calls Tryz.prog 34 #[.agg #[.int .i64 ah, .int .i64 ai, .slice al Z.length am], .agg #[.int .i64 aj, .int .i64 ak, .slice an a1.length ap]] w fun e w'=>e = .returned (.bool r)∧Below w.heap.size w w':=by
  have cC:=Tryz.underlying28;have cE:=Tryz.underlying25;have cF:=Tryz.underlying48;have be:=amk ba;have ck:=amk bb;clear ba bb;have bf:=amk bc;have cm:=amk bd;clear bc bd;have HB:=amk (Below.refl w.heap.size w);unfold laws_ePuzzle.f at h;have H:=h;clear h;have bu:=amk H;clear H;go_enter Tryz.func34,Tryz.ntmps34
  go_upto_region 1 with (first | ((with_reducible refine gate_dst (N:=2) rfl ?_);(try (refine gate_guard (by rfl) ?_;dsimp only));refine boxE_ HB 2 #[.int .i64 ah, .int .i64 ai, .slice al Z.length am] 28 ?_;clear HB;intro az w4 HB Y bg bh hb;clear hb) | ((with_reducible refine gate_dst (N:=3) rfl ?_);(try (refine gate_guard (by rfl) ?_;dsimp only));refine boxG_ 3 #[.int .i64 aj, .int .i64 ak, .slice an a1.length ap] 28 ?_;intro aA w5 hg a8 hb;have bi:=sZ HB hg;have bj:=sZ HB hg;replace HB:=hB2 HB hb;have a6:=neL Y hg;have a7:=neR Y hg;replace Y:=kb2 Y hb;clear hb hg))
  repeat (go_quiet (first | ((with_reducible refine gate_dst (N:=2) rfl ?_);(try (refine gate_guard (by rfl) ?_;dsimp only));refine boxE_ HB 2 #[.int .i64 ah, .int .i64 ai, .slice al Z.length am] 28 ?_;clear HB;intro az w4 HB Y bg bh hb;clear hb) | ((with_reducible refine gate_dst (N:=3) rfl ?_);(try (refine gate_guard (by rfl) ?_;dsimp only));refine boxG_ 3 #[.int .i64 aj, .int .i64 ak, .slice an a1.length ap] 28 ?_;intro aA w5 hg a8 hb;have bi:=sZ HB hg;have bj:=sZ HB hg;replace HB:=hB2 HB hb;have a6:=neL Y hg;have a7:=neR Y hg;replace Y:=kb2 Y hb;clear hb hg));go_upto_region 1 with (first | ((with_reducible refine gate_dst (N:=2) rfl ?_);(try (refine gate_guard (by rfl) ?_;dsimp only));refine boxE_ HB 2 #[.int .i64 ah, .int .i64 ai, .slice al Z.length am] 28 ?_;clear HB;intro az w4 HB Y bg bh hb;clear hb) | ((with_reducible refine gate_dst (N:=3) rfl ?_);(try (refine gate_guard (by rfl) ?_;dsimp only));refine boxG_ 3 #[.int .i64 aj, .int .i64 ak, .slice an a1.length ap] 28 ?_;intro aA w5 hg a8 hb;have bi:=sZ HB hg;have bj:=sZ HB hg;replace HB:=hB2 HB hb;have a6:=neL Y hg;have a7:=neR Y hg;replace Y:=kb2 Y hb;clear hb hg)))
  (try simp only [Act.put,List.setIfInBounds_toArray,List.set_cons_zero,List.set_cons_succ])
  go_cut [19] (fun cn wc=> ∃ (kq:Nat) (aU:Bool),cn = .bool aU∧Aside0 (laws_ePuzzle.j0 kq aU ah ai Z aj ak a1=some r)∧Aside0 (kq≤k)∧Aside0 (wc.heap[az]?=some (.cells #[.int .i64 ah, .int .i64 ai,(.slice al Z.length am)] 28 (0,0)))∧Aside0 (wc.heap[aA]?=some (.cells #[.int .i64 aj, .int .i64 ak,(.slice an a1.length ap)] 28 (0,0)))∧Aside0 (Below w.heap.size w wc))
  case first =>
    have H:=bu.out;clear bu
    by_cases c6:(!(ah == aj) || (!(ai == ak)))=true
    · rw [if_pos c6] at H;have ar:(!(ah == aj) || (!(ai == ak)))=true:=c6;clear c6;(first | rw [ar] | (simp only [i64_w,i32_w];rw [ar]) | skip);have H':=amk H;clear H;have cG:=a6.out;have cH:=a7.out;obtain ⟨aV,aW,aX,aY,aZ,b3⟩:=cells3 Y.out;obtain ⟨b4,b5,b6,b7,b8,b9⟩:=cells3 a8.out;go_wp2
      repeat (go_quiet (fail);try go_wp2)
      go_meet
      case rel=>exact ⟨_,(true),rS_,H',⟨by first | omega | exact Nat.le_refl _⟩,⟨kB Y⟩,⟨kB a8⟩,⟨bB⟩⟩
    · rw [if_neg c6] at H;(have ar:(!(ah == aj) || (!(ai == ak)))=false:=by simpa using c6);clear c6;(first | rw [ar] | (simp only [i64_w,i32_w];rw [ar]) | skip);have H':=amk H;clear H;have co:=a6.out;have cp:=a7.out;obtain ⟨aC,aD,aE,aG,aH,aI⟩:=cells3 Y.out;obtain ⟨aJ,aK,aM,aN,aQ,aT⟩:=cells3 a8.out;go_wp2
      repeat (go_quiet (fail);try go_wp2)
      go_meet
      case rel=>exact ⟨_,(((Z.length:Int) != (a1.length:Int))),rS_,H',⟨by first | omega | exact Nat.le_refl _⟩,⟨kB Y⟩,⟨kB a8⟩,⟨bB⟩⟩
  case rest =>
    clear bu;(try clear c1);(try clear p2);(try clear c3);(try clear c6);(try clear ar);(try clear c7);(try clear c10);(try clear aC);(try clear aD);(try clear aE);(try clear aJ);(try clear aK);(try clear aM);(try clear aV);(try clear aW);(try clear aX);(try clear b4);(try clear b5);(try clear b6);(try clear aG);(try clear aH);(try clear aI);(try clear aN);(try clear aQ);(try clear aT);(try clear aY);(try clear aZ);(try clear b3);(try clear b7);(try clear b8);(try clear b9);obtain ⟨kq,aU,rfl,HA,bD,Y,a8,HB⟩:=hcut
    cases kq with
    | zero=>exact absurd HA.out (by simp [laws_ePuzzle.j0])
    | succ bF =>
      have H:=HA.out;clear HA;simp only [laws_ePuzzle.j0] at H;replace H:=iteB H;obtain ⟨rfl,H⟩ | ⟨rfl,H⟩:=H
      · obtain rfl:=Option.some.inj H;go_wp2
        repeat (go_quiet (fail);try go_wp2)
        go_ret;exact ⟨rF_,bB⟩
      · have H':=amk H;clear H;have cq:=a6.out;have cr:=a7.out;obtain ⟨bk,bl,bm,bn,bo,bp⟩:=cells3 Y.out;go_wp2
        repeat (go_quiet (fail);try go_wp2)
        go_loopg [23] bF (fun kq v23 w'=> ∃ (J:Int),v23 = .int .i64 J∧Aside0 (laws_ePuzzle.l0 kq (Z.length:Int) J ah ai Z aj ak a1=some r)∧Aside0 (kq≤bF)∧Aside0 (w'.heap[az]?=some (.cells #[.int .i64 ah, .int .i64 ai,(.slice al Z.length am)] 28 (0,0)))∧Aside0 (w'.heap[aA]?=some (.cells #[.int .i64 aj, .int .i64 ak,(.slice an a1.length ap)] 28 (0,0)))∧Aside0 (Below w.heap.size w w'))
        case atStart=>exact ⟨(0),rS_,H',⟨Nat.le_refl _⟩,⟨kB Y⟩,⟨kB a8⟩,⟨bB⟩⟩
        case round =>
          clear H';(try clear c1);(try clear p2);(try clear c3);(try clear c6);(try clear ar);(try clear c7);(try clear c10);(try clear c13);(try clear c14);(try clear aC);(try clear aD);(try clear aE);(try clear aJ);(try clear aK);(try clear aM);(try clear bk);(try clear bl);(try clear bm);(try clear aV);(try clear aW);(try clear aX);(try clear b4);(try clear b5);(try clear b6);(try clear aG);(try clear aH);(try clear aI);(try clear aN);(try clear aQ);(try clear aT);(try clear bn);(try clear bo);(try clear bp);(try clear aY);(try clear aZ);(try clear b3);(try clear b7);(try clear b8);(try clear b9);(try clear p2);obtain ⟨J,rfl,HA,bH,Y,a8,HB⟩:=hrel
          cases gk with
          | zero=>exact absurd HA.out (by simp [laws_ePuzzle.l0])
          | succ k2 =>
            have H:=HA.out;clear HA;simp only [laws_ePuzzle.l0] at H;replace H:=iteE H;obtain ⟨bv,H⟩ | ⟨bv,H⟩:=H
            · replace H:=iteN H;obtain ⟨cu,H⟩:=H;replace H:=iteN H;obtain ⟨cv,H⟩:=H;replace H:=iteN H;obtain ⟨cw,H⟩:=H
              by_cases c20:(!(((rd_T48 Z J).f0) == ((rd_T48 a1 J).f0)) || (!(((rd_T48 Z J).f1) == ((rd_T48 a1 J).f1)) || (!(((rd_T48 Z J).f2) == ((rd_T48 a1 J).f2)))))=true
              · rw [if_pos c20] at H;have bw:(!(((rd_T48 Z J).f0) == ((rd_T48 a1 J).f0)) || (!(((rd_T48 Z J).f1) == ((rd_T48 a1 J).f1)) || (!(((rd_T48 Z J).f2) == ((rd_T48 a1 J).f2)))))=true:=c20;clear c20;obtain rfl:=Option.some.inj H;have cx:=a6.out;have cy:=a7.out;obtain ⟨bJ,bL,bM,bN,bO,bQ⟩:=cells3 Y.out;have au:0≤(J:Int):=dA_;have av:J < (Z.length:Int):=dA_;obtain ⟨bz,bq,aa,ab,ac⟩:=at_T48 be.out J au av;cases bq;replace aa:=(HB.out.cell (World.block_lt_of_cell? w _ aa)).trans aa;replace ab:=(HB.out.cell (World.block_lt_of_cell? w _ ab)).trans ab;replace ac:=(HB.out.cell (World.block_lt_of_cell? w _ ac)).trans ac;replace au:=eq_true au;replace av:=eq_true av;obtain ⟨bR,bS,bT,bU,bV,bW⟩:=cells3 a8.out;have ax:0≤(J:Int):=dA_;have ay:J < (a1.length:Int):=dA_;obtain ⟨bC,br,ae,af,ag⟩:=at_T48 bf.out J ax ay;cases br;replace ae:=(HB.out.cell (World.block_lt_of_cell? w _ ae)).trans ae;replace af:=(HB.out.cell (World.block_lt_of_cell? w _ af)).trans af;replace ag:=(HB.out.cell (World.block_lt_of_cell? w _ ag)).trans ag;replace ax:=eq_true ax;replace ay:=eq_true ay;go_wp2
                repeat (go_quiet (fail);try go_wp2)
                go_ret;exact ⟨rF_,bB⟩
              · rw [if_neg c20] at H;(have bw:(!(((rd_T48 Z J).f0) == ((rd_T48 a1 J).f0)) || (!(((rd_T48 Z J).f1) == ((rd_T48 a1 J).f1)) || (!(((rd_T48 Z J).f2) == ((rd_T48 a1 J).f2)))))=false:=by simpa using c20);clear c20;have H':=amk H;clear H;have cz:=a6.out;have cA:=a7.out;obtain ⟨bX,bY,bZ,c8,ca,cb⟩:=cells3 Y.out;have au:0≤(J:Int):=dA_;have av:J < (Z.length:Int):=dA_;obtain ⟨bz,bq,aa,ab,ac⟩:=at_T48 be.out J au av;cases bq;replace aa:=(HB.out.cell (World.block_lt_of_cell? w _ aa)).trans aa;replace ab:=(HB.out.cell (World.block_lt_of_cell? w _ ab)).trans ab;replace ac:=(HB.out.cell (World.block_lt_of_cell? w _ ac)).trans ac;replace au:=eq_true au;replace av:=eq_true av;obtain ⟨cd,ce,cf,cg,ci,cj⟩:=cells3 a8.out;have ax:0≤(J:Int):=dA_;have ay:J < (a1.length:Int):=dA_;obtain ⟨bC,br,ae,af,ag⟩:=at_T48 bf.out J ax ay;cases br;replace ae:=(HB.out.cell (World.block_lt_of_cell? w _ ae)).trans ae;replace af:=(HB.out.cell (World.block_lt_of_cell? w _ af)).trans af;replace ag:=(HB.out.cell (World.block_lt_of_cell? w _ ag)).trans ag;replace ax:=eq_true ax;replace ay:=eq_true ay;go_wp2
                repeat (go_quiet (fail);try go_wp2)
                go_roundg k2
                case measure=>have:=bD.out;have:=bH.out;omega
                case rel=>exact ⟨(wrap64 (J + 1)),rS_,H',⟨by have:=bD.out;have:=bH.out;omega⟩,⟨kB Y⟩,⟨kB a8⟩,⟨bB⟩⟩
            · obtain rfl:=Option.some.inj H;go_wp2
              repeat (go_quiet (fail);try go_wp2)
              go_ret;exact ⟨rF_,bB⟩
end
/-! ### laws_eSame: function 25 -/
def laws_eSame.l0:Nat→List Int→List Int→Int→Int→Option (Bool)
  | 0,_,_,_,_=>none
  | k + 1,x0,x1,Y,J=>if J < Y then (if 0≤J then (if J < (x0.length:Int) then (if J < (x1.length:Int) then (if (rd x0 J)=(rd x1 J) then (laws_eSame.l0 k x0 x1 Y (wrap64 (J + 1))) else (some false)) else (none)) else (none)) else (none)) else (some true)
def laws_eSame.f (k:Nat) (l0:List Int) (l1:List Int):Option (Bool):=if (l0.length:Int)=(l1.length:Int) then (laws_eSame.l0 k l0 l1 (l0.length:Int) 0) else (some false)
set_option maxHeartbeats 8000000 in
set_option maxRecDepth 100000 in
theorem laws_eSame.calls (k:Nat) (A0:Option Addr) (c0:Nat) (l0:List Int) (A1:Option Addr) (c1:Nat) (l1:List Int) (r:Bool) (w:World) (ai:Kd.C (Kd.int .i64) w A0 l0.length l0) (aj:l0.length≤c0) (ak:Kd.C (Kd.int .i64) w A1 l1.length l1) (al:l1.length≤c1) (h:laws_eSame.f k l0 l1=some r) :
    Calls Tryz.prog 25 #[.slice A0 l0.length c0, .slice A1 l1.length c1] w fun e w'=>e = .returned (.bool r)∧Drawn0 w w':=by
  have am:=amk ai;have aC:=amk aj;clear ai aj;have an:=amk ak;have aD:=amk al;clear ak al;unfold laws_eSame.f at h;have H:=h;clear h
  by_cases c3:(l0.length:Int)=(l1.length:Int)
  · rw [if_pos c3] at H;have ac:((l0.length:Int) == (l1.length:Int))=true:=beq_iff_eq.mpr c3;have ae:((l0.length:Int) != (l1.length:Int))=false:=bne_eq_false_iff_eq.mpr c3;(have af:(l0.length == l1.length)=true:=by first | simpa using c3 | (simp at c3 ⊢;omega));clear c3;have H':=amk H;clear H;go_enter Tryz.func25,Tryz.ntmps25;go_wp2
    repeat (go_quiet (fail);try go_wp2)
    go_loopg [13] k (fun kq ax w'=> ∃ (J:Int),ax = .int .i64 J∧Aside0 (laws_eSame.l0 kq l0 l1 (l0.length:Int) J=some r)∧Aside0 (kq≤k)∧Drawn0 w w')
    case atStart=>exact ⟨(0),rS_,H',⟨Nat.le_refl _⟩,dR_⟩
    case round =>
      clear H';(try clear c1);(try clear c2);(try clear p2);(try clear c3);(try clear ac);(try clear ae);(try clear af);obtain ⟨J,rfl,HA,ap,⟨m1,rfl⟩⟩:=hrel
      cases gk with
      | zero=>exact absurd HA.out (by simp [laws_eSame.l0])
      | succ k1 =>
        have H:=HA.out;clear HA;simp only [laws_eSame.l0] at H;replace H:=iteE H;obtain ⟨ar,H⟩ | ⟨ar,H⟩:=H
        · replace H:=iteN H;obtain ⟨ay,H⟩:=H;replace H:=iteN H;obtain ⟨az,H⟩:=H;replace H:=iteN H;obtain ⟨aA,H⟩:=H
          by_cases c8:(rd l0 J)=(rd l1 J)
          · rw [if_pos c8] at H;have au:((rd l0 J) == (rd l1 J))=true:=beq_iff_eq.mpr c8;have av:((rd l0 J) != (rd l1 J))=false:=bne_eq_false_iff_eq.mpr c8;clear c8;have H':=amk H;clear H;have Y:0≤(J:Int):=dA_;have Z:J < (l0.length:Int):=dA_;obtain ⟨ag,a7,a8⟩:=Kd.at_int am.out J Y Z;cases a7;replace Y:=eq_true Y;replace Z:=eq_true Z;have a1:0≤(J:Int):=dA_;have a6:J < (l1.length:Int):=dA_;obtain ⟨ah,aa,ab⟩:=Kd.at_int an.out J a1 a6;cases aa;replace a1:=eq_true a1;replace a6:=eq_true a6;go_wp2
            repeat (go_quiet (fail);try go_wp2)
            go_roundg k1
            case measure=>have:=ap.out;omega
            case rel=>exact ⟨(wrap64 (J + 1)),rS_,H',⟨by have:=ap.out;omega⟩,dR_⟩
          · rw [if_neg c8] at H;have au:((rd l0 J) == (rd l1 J))=false:=beq_eq_false_iff_ne.mpr c8;have av:((rd l0 J) != (rd l1 J))=true:=bne_iff_ne.mpr c8;obtain rfl:=Option.some.inj H;have Y:0≤(J:Int):=dA_;have Z:J < (l0.length:Int):=dA_;obtain ⟨ag,a7,a8⟩:=Kd.at_int am.out J Y Z;cases a7;replace Y:=eq_true Y;replace Z:=eq_true Z;have a1:0≤(J:Int):=dA_;have a6:J < (l1.length:Int):=dA_;obtain ⟨ah,aa,ab⟩:=Kd.at_int an.out J a1 a6;cases aa;replace a1:=eq_true a1;replace a6:=eq_true a6;go_wp2
            repeat (go_quiet (fail);try go_wp2)
            go_ret;exact ⟨rS_,dR_⟩
        · obtain rfl:=Option.some.inj H;go_wp2
          repeat (go_quiet (fail);try go_wp2)
          go_ret;exact ⟨rS_,dR_⟩
  · rw [if_neg c3] at H;have ac:((l0.length:Int) == (l1.length:Int))=false:=beq_eq_false_iff_ne.mpr c3;have ae:((l0.length:Int) != (l1.length:Int))=true:=bne_iff_ne.mpr c3;(have af:(l0.length == l1.length)=false:=by first | simpa using c3 | (simp at c3 ⊢;omega));obtain rfl:=Option.some.inj H;go_enter Tryz.func25,Tryz.ntmps25;go_wp2
    repeat (go_quiet (fail);try go_wp2)
    go_ret;exact ⟨rS_,dR_⟩
/-! Texts compared by '<=', '>', '>=', told by '<' alone. -/
theorem less_le : ∀ x y:List UInt8,(Op.bytesLess x y || x == y) = !(Op.bytesLess y x)
  | [],[]=> rfl
  | [],_ :: _=>rfl
  | _ :: _,[]=> rfl
  | a :: x, b :: y => by
    have ih:=less_le x y
    simp only [Op.bytesLess,List.cons_beq_cons]
    by_cases h1:a < b
    · have h2 : ¬ b < a:=fun h=>absurd h1 (UInt8.lt_asymm h)
      have h3:(b == a)=false:=beq_eq_false_iff_ne.mpr (fun e=>by subst e;exact UInt8.lt_irrefl _ h1)
      simp [h1,h2,h3]
    · by_cases h2:b < a
      · have h3:(a == b)=false:=beq_eq_false_iff_ne.mpr (fun e=>by subst e;exact UInt8.lt_irrefl _ h2)
        simp [h1,h2,h3]
      · have h3:a=b:=UInt8.le_antisymm (UInt8.not_lt.mp h2) (UInt8.not_lt.mp h1)
        subst h3
        simp only [h1,decide_false,Bool.false_or,BEq.rfl,Bool.true_and]
        exact ih
theorem binOp_leq_n (t:TypeId) (a b:ByteArray):binOp .leq t (.string a) (.string b)=pure (.bool !(Op.bytesLess b.toList a.toList)):=by
  rw [←less_le];simp [binOp,Op.stringOp]
theorem binOp_gtr_n (t:TypeId) (a b:ByteArray):binOp .gtr t (.string a) (.string b)=pure (.bool (Op.bytesLess b.toList a.toList)):=by
  rw [show Op.bytesLess b.toList a.toList = !(Op.bytesLess a.toList b.toList || a.toList == b.toList) by rw [less_le];simp];simp [binOp,Op.stringOp]
theorem binOp_geq_n (t:TypeId) (a b:ByteArray):binOp .geq t (.string a) (.string b)=pure (.bool !(Op.bytesLess a.toList b.toList)):=by simp [binOp,Op.stringOp]
section
attribute [local go_sem high] binOp_leq_n binOp_gtr_n binOp_geq_n
/-! ### laws_eSorted: function 29 -/
def laws_eSorted.l0:Nat→List ByteArray→Int→Option (Bool)
  | 0,_,_=>none
  | k + 1,x0,x3=>if x3 < (x0.length:Int) then (if 0≤(wrap64 (x3 - 1)) then (if (wrap64 (x3 - 1)) < (x0.length:Int) then (if 0≤x3 then (if ((Op.bytesLess ((rdOf ByteArray.empty x0 (wrap64 (x3 - 1))).toList) ((rdOf ByteArray.empty x0 x3).toList))=true) then (laws_eSorted.l0 k x0 (wrap64 (x3 + 1))) else (some false)) else (none)) else (none)) else (none)) else (some true)
def laws_eSorted.f (k:Nat) (l0:List ByteArray):Option (Bool):=laws_eSorted.l0 k l0 1
set_option maxHeartbeats 8000000 in
set_option maxRecDepth 100000 in
theorem laws_eSorted.calls (k:Nat) (A0:Option Addr) (c0:Nat) (l0:List ByteArray) (r:Bool) (w:World) (ai:Kd.C Kd.string w A0 l0.length l0) (aj:l0.length≤c0) (h:laws_eSorted.f k l0=some r) :
    Calls Tryz.prog 29 #[.slice A0 l0.length c0] w fun e w'=>e = .returned (.bool r)∧Drawn0 w w':=by
  have ah:=amk ai;have au:=amk aj;clear ai aj;unfold laws_eSorted.f at h;have H:=h;clear h;have H':=amk H;clear H;go_enter Tryz.func29,Tryz.ntmps29;go_wp2
  repeat ((first | go_quiet (fail) | (refine wp_region_quiet_lit (by kernel_rfl) (by kernel_rfl) ?_;repeat (first | go_big_quiet_skip | (go_big_quiet_want;go_big_quiet_op;go_big_quiet_on) | (go_big_quiet_want;unfold Oper.quiet;apply Exists.intro;refine ⟨fun w' hS=>?_,?_⟩;(focus (obtain ⟨n_,rfl⟩:=hS;unfold Oper.quietAt;go_simp;first | done | exact ⟨rfl,rfl⟩ | exact rfl));simp only [Act.put,List.setIfInBounds_toArray,List.set_cons_zero,List.set_cons_succ];go_big_quiet_on));refine wpQuiet_nil ?_;intro _ hw';obtain ⟨nq,hw''⟩:=hw';subst hw''));try go_wp2)
  go_loopg [3] k (fun kq v3 w'=> ∃ (J:Int),v3 = .int .i64 J∧Aside0 (laws_eSorted.l0 kq l0 J=some r)∧Aside0 (kq≤k)∧Drawn0 w w')
  case atStart=>exact ⟨(1),rS_,H',⟨Nat.le_refl _⟩,dR_⟩
  case round =>
    clear H';obtain ⟨J,rfl,HA,ak,⟨m1,rfl⟩⟩:=hrel
    cases gk with
    | zero=>exact absurd HA.out (by simp [laws_eSorted.l0])
    | succ k1 =>
      have H:=HA.out;clear HA;simp only [laws_eSorted.l0] at H;replace H:=iteE H;obtain ⟨al,H⟩ | ⟨al,H⟩:=H
      · obtain ⟨Y,ab⟩ : ∃ j_:Int,(wrap64 (J - 1))=j_:=⟨_,rfl⟩;(replace H:(if 0≤(Y) then (if (Y) < (l0.length:Int) then (if 0≤J then (if ((Op.bytesLess ((rdOf ByteArray.empty l0 (Y)).toList) ((rdOf ByteArray.empty l0 J).toList))=true) then (laws_eSorted.l0 k1 l0 (wrap64 (J + 1))) else (some false)) else (none)) else (none)) else (none))=some r:=by first | (rw [ab] at H;exact H) | (simp only [ab] at H ⊢;exact H));have hji3w:(IntKind.i64.wrap (J - 1))=Y:=(i64_w _).trans ab;replace H:=iteN H;obtain ⟨an,H⟩:=H;replace H:=iteN H;obtain ⟨ap,H⟩:=H;replace H:=iteN H;obtain ⟨ar,H⟩:=H
        by_cases c7:((Op.bytesLess ((rdOf ByteArray.empty l0 (Y)).toList) ((rdOf ByteArray.empty l0 J).toList))=true)
        · rw [if_pos c7] at H;have am:(Op.bytesLess ((rdOf ByteArray.empty l0 (Y)).toList) ((rdOf ByteArray.empty l0 J).toList))=true:=c7;clear c7;have H':=amk H;clear H;have Z:0≤((Y):Int):=dA_;have a1:(Y) < (l0.length:Int):=dA_;obtain ⟨a8,ac,ae⟩:=Kd.at_string ah.out (Y) Z a1;cases ac;replace Z:=eq_true Z;replace a1:=eq_true a1;have a6:0≤(J:Int):=dA_;have a7:J < (l0.length:Int):=dA_;obtain ⟨aa,af,ag⟩:=Kd.at_string ah.out J a6 a7;obtain rfl:a8=aa:=(by injection af);replace a6:=eq_true a6;replace a7:=eq_true a7;go_wp2
          repeat ((first | go_quiet (fail) | (refine wp_region_quiet_lit (by kernel_rfl) (by kernel_rfl) ?_;repeat (first | go_big_quiet_skip | (go_big_quiet_want;go_big_quiet_op;go_big_quiet_on) | (go_big_quiet_want;unfold Oper.quiet;apply Exists.intro;refine ⟨fun w' hS=>?_,?_⟩;(focus (obtain ⟨n_,rfl⟩:=hS;unfold Oper.quietAt;go_simp;first | done | exact ⟨rfl,rfl⟩ | exact rfl));simp only [Act.put,List.setIfInBounds_toArray,List.set_cons_zero,List.set_cons_succ];go_big_quiet_on));refine wpQuiet_nil ?_;intro _ hw';obtain ⟨nq,hw''⟩:=hw';subst hw''));try go_wp2)
          go_roundg k1
          case measure=>have:=ak.out;omega
          case rel=>exact ⟨(wrap64 (J + 1)),rS_,H',⟨by have:=ak.out;omega⟩,dR_⟩
        · rw [if_neg c7] at H;(have am:(Op.bytesLess ((rdOf ByteArray.empty l0 (Y)).toList) ((rdOf ByteArray.empty l0 J).toList))=false:=by simpa using c7);clear c7;obtain rfl:=Option.some.inj H;have Z:0≤((Y):Int):=dA_;have a1:(Y) < (l0.length:Int):=dA_;obtain ⟨a8,ac,ae⟩:=Kd.at_string ah.out (Y) Z a1;cases ac;replace Z:=eq_true Z;replace a1:=eq_true a1;have a6:0≤(J:Int):=dA_;have a7:J < (l0.length:Int):=dA_;obtain ⟨aa,af,ag⟩:=Kd.at_string ah.out J a6 a7;obtain rfl:a8=aa:=(by injection af);replace a6:=eq_true a6;replace a7:=eq_true a7;go_wp2
          repeat ((first | go_quiet (fail) | (refine wp_region_quiet_lit (by kernel_rfl) (by kernel_rfl) ?_;repeat (first | go_big_quiet_skip | (go_big_quiet_want;go_big_quiet_op;go_big_quiet_on) | (go_big_quiet_want;unfold Oper.quiet;apply Exists.intro;refine ⟨fun w' hS=>?_,?_⟩;(focus (obtain ⟨n_,rfl⟩:=hS;unfold Oper.quietAt;go_simp;first | done | exact ⟨rfl,rfl⟩ | exact rfl));simp only [Act.put,List.setIfInBounds_toArray,List.set_cons_zero,List.set_cons_succ];go_big_quiet_on));refine wpQuiet_nil ?_;intro _ hw';obtain ⟨nq,hw''⟩:=hw';subst hw''));try go_wp2)
          go_ret;exact ⟨by first | rfl | (simp;done) | (simp only [←ab] <;> (first | rfl | simp)) | (simp [*];done),dR_⟩
      · obtain rfl:=Option.some.inj H;go_wp2
        repeat ((first | go_quiet (fail) | (refine wp_region_quiet_lit (by kernel_rfl) (by kernel_rfl) ?_;repeat (first | go_big_quiet_skip | (go_big_quiet_want;go_big_quiet_op;go_big_quiet_on) | (go_big_quiet_want;unfold Oper.quiet;apply Exists.intro;refine ⟨fun w' hS=>?_,?_⟩;(focus (obtain ⟨n_,rfl⟩:=hS;unfold Oper.quietAt;go_simp;first | done | exact ⟨rfl,rfl⟩ | exact rfl));simp only [Act.put,List.setIfInBounds_toArray,List.set_cons_zero,List.set_cons_succ];go_big_quiet_on));refine wpQuiet_nil ?_;intro _ hw';obtain ⟨nq,hw''⟩:=hw';subst hw''));try go_wp2)
        go_ret;exact ⟨rS_,dR_⟩
end
/-! ### laws_eTexts: function 24 -/
def laws_eTexts.l0:Nat→List ByteArray→List ByteArray→Int→Int→Option (Bool)
  | 0,_,_,_,_=>none
  | k + 1,x0,x1,Y,J=>if J < Y then (if 0≤J then (if J < (x0.length:Int) then (if J < (x1.length:Int) then (if (rdOf ByteArray.empty x0 J).toList=(rdOf ByteArray.empty x1 J).toList then (laws_eTexts.l0 k x0 x1 Y (wrap64 (J + 1))) else (some false)) else (none)) else (none)) else (none)) else (some true)
def laws_eTexts.f (k:Nat) (l0:List ByteArray) (l1:List ByteArray):Option (Bool):=if (l0.length:Int)=(l1.length:Int) then (laws_eTexts.l0 k l0 l1 (l0.length:Int) 0) else (some false)
set_option maxHeartbeats 8000000 in
set_option maxRecDepth 100000 in
theorem laws_eTexts.calls (k:Nat) (A0:Option Addr) (c0:Nat) (l0:List ByteArray) (A1:Option Addr) (c1:Nat) (l1:List ByteArray) (r:Bool) (w:World) (ai:Kd.C Kd.string w A0 l0.length l0) (aj:l0.length≤c0) (ak:Kd.C Kd.string w A1 l1.length l1) (al:l1.length≤c1) (h:laws_eTexts.f k l0 l1=some r) :
    Calls Tryz.prog 24 #[.slice A0 l0.length c0, .slice A1 l1.length c1] w fun e w'=>e = .returned (.bool r)∧Drawn0 w w':=by
  have am:=amk ai;have aC:=amk aj;clear ai aj;have an:=amk ak;have aD:=amk al;clear ak al;unfold laws_eTexts.f at h;have H:=h;clear h
  by_cases c3:(l0.length:Int)=(l1.length:Int)
  · rw [if_pos c3] at H;have ac:((l0.length:Int) == (l1.length:Int))=true:=beq_iff_eq.mpr c3;have ae:((l0.length:Int) != (l1.length:Int))=false:=bne_eq_false_iff_eq.mpr c3;(have af:(l0.length == l1.length)=true:=by first | simpa using c3 | (simp at c3 ⊢;omega));clear c3;have H':=amk H;clear H;go_enter Tryz.func24,Tryz.ntmps24;go_wp2
    repeat (go_quiet (fail);try go_wp2)
    go_loopg [13] k (fun kq ax w'=> ∃ (J:Int),ax = .int .i64 J∧Aside0 (laws_eTexts.l0 kq l0 l1 (l0.length:Int) J=some r)∧Aside0 (kq≤k)∧Drawn0 w w')
    case atStart=>exact ⟨(0),rS_,H',⟨Nat.le_refl _⟩,dR_⟩
    case round =>
      clear H';(try clear c1);(try clear c2);(try clear p2);(try clear c3);(try clear ac);(try clear ae);(try clear af);obtain ⟨J,rfl,HA,ap,⟨m1,rfl⟩⟩:=hrel
      cases gk with
      | zero=>exact absurd HA.out (by simp [laws_eTexts.l0])
      | succ k1 =>
        have H:=HA.out;clear HA;simp only [laws_eTexts.l0] at H;replace H:=iteE H;obtain ⟨ar,H⟩ | ⟨ar,H⟩:=H
        · replace H:=iteN H;obtain ⟨ay,H⟩:=H;replace H:=iteN H;obtain ⟨az,H⟩:=H;replace H:=iteN H;obtain ⟨aA,H⟩:=H
          by_cases c8:(rdOf ByteArray.empty l0 J).toList=(rdOf ByteArray.empty l1 J).toList
          · rw [if_pos c8] at H;have au:((rdOf ByteArray.empty l0 J).toList == (rdOf ByteArray.empty l1 J).toList)=true:=beq_iff_eq.mpr c8;have av:((rdOf ByteArray.empty l0 J).toList != (rdOf ByteArray.empty l1 J).toList)=false:=bne_eq_false_iff_eq.mpr c8;clear c8;have H':=amk H;clear H;have Y:0≤(J:Int):=dA_;have Z:J < (l0.length:Int):=dA_;obtain ⟨ag,a7,a8⟩:=Kd.at_string am.out J Y Z;cases a7;replace Y:=eq_true Y;replace Z:=eq_true Z;have a1:0≤(J:Int):=dA_;have a6:J < (l1.length:Int):=dA_;obtain ⟨ah,aa,ab⟩:=Kd.at_string an.out J a1 a6;cases aa;replace a1:=eq_true a1;replace a6:=eq_true a6;go_wp2
            repeat (go_quiet (fail);try go_wp2)
            go_roundg k1
            case measure=>have:=ap.out;omega
            case rel=>exact ⟨(wrap64 (J + 1)),rS_,H',⟨by have:=ap.out;omega⟩,dR_⟩
          · rw [if_neg c8] at H;have au:((rdOf ByteArray.empty l0 J).toList == (rdOf ByteArray.empty l1 J).toList)=false:=beq_eq_false_iff_ne.mpr c8;have av:((rdOf ByteArray.empty l0 J).toList != (rdOf ByteArray.empty l1 J).toList)=true:=bne_iff_ne.mpr c8;obtain rfl:=Option.some.inj H;have Y:0≤(J:Int):=dA_;have Z:J < (l0.length:Int):=dA_;obtain ⟨ag,a7,a8⟩:=Kd.at_string am.out J Y Z;cases a7;replace Y:=eq_true Y;replace Z:=eq_true Z;have a1:0≤(J:Int):=dA_;have a6:J < (l1.length:Int):=dA_;obtain ⟨ah,aa,ab⟩:=Kd.at_string an.out J a1 a6;cases aa;replace a1:=eq_true a1;replace a6:=eq_true a6;go_wp2
            repeat (go_quiet (fail);try go_wp2)
            go_ret;exact ⟨rS_,dR_⟩
        · obtain rfl:=Option.some.inj H;go_wp2
          repeat (go_quiet (fail);try go_wp2)
          go_ret;exact ⟨rS_,dR_⟩
  · rw [if_neg c3] at H;have ac:((l0.length:Int) == (l1.length:Int))=false:=beq_eq_false_iff_ne.mpr c3;have ae:((l0.length:Int) != (l1.length:Int))=true:=bne_iff_ne.mpr c3;(have af:(l0.length == l1.length)=false:=by first | simpa using c3 | (simp at c3 ⊢;omega));obtain rfl:=Option.some.inj H;go_enter Tryz.func24,Tryz.ntmps24;go_wp2
    repeat (go_quiet (fail);try go_wp2)
    go_ret;exact ⟨rS_,dR_⟩
/-! ### spec_whText: function 123 -/
def spec_whText.l0:Nat→ByteArray→List Int→Int→Int→Option (ByteArray)
  | 0,_,_,_,_=>none
  | k + 1,x3,x6,x7,x8=>if x8 < x7 then (if 0≤x8 then (if x8 < (x6.length:Int) then ((spec_l1Num.f k (rd x6 x8)).bind fun J=>(if x3.size + J.size≤9223372036854775807 then (spec_whText.l0 k (x3 ++ J) x6 x7 (wrap64 (x8 + 1))) else (none))) else (none)) else (none)) else (some x3)
def spec_whText.f (k:Nat) (l0:List Int):Option (ByteArray):=spec_whText.l0 k (⟨#[]⟩:ByteArray) l0 (l0.length:Int) 0
set_option maxHeartbeats 8000000 in
set_option maxRecDepth 100000 in
theorem spec_whText.calls (k:Nat) (A0:Option Addr) (c0:Nat) (l0:List Int) (r:ByteArray) (w:World) (a8:Kd.C (Kd.int .i64) w A0 l0.length l0) (aa:l0.length≤c0) (h:spec_whText.f k l0=some r) :
    Calls Tryz.prog 123 #[.slice A0 l0.length c0] w fun e w'=>e = .returned (.string r)∧Below w.heap.size w w':=by
  have af:=amk a8;have am:=amk aa;clear a8 aa;have HB:=amk (Below.refl w.heap.size w);unfold spec_whText.f at h;have H:=h;clear h;have H':=amk H;clear H;go_enter Tryz.func123,Tryz.ntmps123;go_wp2
  go_loopg [3,8] k (fun kq v3 v8 w'=> ∃ (Y:ByteArray) (J:Int),v3 = .string Y∧v8 = .int .i64 J∧Aside0 (spec_whText.l0 kq Y l0 (l0.length:Int) J=some r)∧Aside0 (kq≤k)∧Aside0 (Below w.heap.size w w'))
  case atStart=>exact ⟨((⟨#[]⟩:ByteArray)),(0),rS_,rS_,H',⟨Nat.le_refl _⟩,⟨bB⟩⟩
  case round =>
    clear H';(try clear c1);obtain ⟨Y,J,rfl,rfl,HA,ab,HB⟩:=hrel
    cases gk with
    | zero=>exact absurd HA.out (by simp [spec_whText.l0])
    | succ k1 =>
      have H:=HA.out;clear HA;simp only [spec_whText.l0] at H;replace H:=iteE H;obtain ⟨ac,H⟩ | ⟨ac,H⟩:=H
      · replace H:=iteN H;obtain ⟨ah,H⟩:=H;replace H:=iteN H;obtain ⟨ai,H⟩:=H;replace H:=bE H;obtain ⟨a1,A5,H⟩:=H
        by_cases c6:Y.size + a1.size≤9223372036854775807
        · rw [if_pos c6] at H;have aj:=eq_true c6;have ak:decide (Y.size + a1.size≤9223372036854775807)=true:=decide_eq_true c6;(try have al:(9223372036854775807 < Y.size + a1.size)=False:=eq_false (Nat.not_lt.2 c6));have H':=amk H;clear H;have a6:0≤(J:Int):=dA_;have a7:J < (l0.length:Int):=dA_;obtain ⟨ag,ae,Z⟩:=Kd.at_int af.out J a6 a7;cases ae;replace Z:=(HB.out.cell (World.block_lt_of_cell? w _ Z)).trans Z;replace a6:=eq_true a6;replace a7:=eq_true a7;go_wp2_with (first | ((with_reducible refine gate_callee (f:=75) rfl ?_);refine goesL_ (some 14) rfl rfl Tryz.func75 (by kernel_rfl) rfl #[.int .i64 (rd l0 J)] rfl gL_ ?_;(with_reducible refine (spec_l1Num.calls k1 (rd l0 J) a1 _ A5.out).mono ?_);rintro e w7 ⟨rfl,hb⟩;refine ⟨_,rfl,?_⟩;replace HB:=hB2 HB hb;(try clear hb)));go_roundg k1
          case measure=>have:=ab.out;omega
          case rel=>exact ⟨(Y ++ a1),(wrap64 (J + 1)),rS_,rS_,H',⟨by have:=ab.out;omega⟩,⟨bB⟩⟩
        · rw [if_neg c6] at H;exact absurd H (by simp)
      · obtain rfl:=Option.some.inj H;go_wp2;go_ret;exact ⟨rF_,bB⟩
/-! ### spec_whOf: function 96 -/
def spec_whOf.l0:Nat→Int→List Int→Int→Int→Int→Option (ByteArray)
  | 0,_,_,_,_,_=>none
  | k + 1,x1,x5,x6,Y,J=>if x6 ≥ 0 then (if J=0 then (none) else (if 0≤x6 then (if x6 < (x5.length:Int) then (spec_whOf.l0 k (wrap64 (Int.tdiv x1 J)) (x5.set (x6:Int).toNat (Int.tmod x1 J)) (wrap64 (x6 - 1)) Y J) else (none)) else (none))) else ((spec_whText.f k x5).bind fun t148=>(some t148))
def spec_whOf.f (k:Nat) (J:Int) (Y:Int) (a1:Int):Option (ByteArray):=if 0≤J then (if (J:Int).toNat≤35184372088832 then (spec_whOf.l0 k a1 (List.replicate (J:Int).toNat 0) (wrap64 (J - 1)) J Y) else (none)) else (none)
set_option maxHeartbeats 8000000 in
set_option maxRecDepth 100000 in
theorem spec_whOf.calls (k:Nat) (Y:Int) (a6:Int) (a1:Int) (r:ByteArray) (w:World) (h:spec_whOf.f k Y a6 a1=some r) :
    Calls Tryz.prog 96 #[.agg #[.int .i64 Y, .int .i64 a6], .int .i64 a1] w fun e w'=>e = .returned (.string r)∧Below w.heap.size w w':=by
  have bi:=Tryz.underlying25;have HB:=amk (Below.refl w.heap.size w);unfold spec_whOf.f at h;have H:=h;clear h
  by_cases c3:0≤Y
  · rw [if_pos c3] at H;have aH:=eq_true c3;have aI:decide (0≤Y)=true:=decide_eq_true c3;clear c3
    by_cases c4:(Y:Int).toNat≤35184372088832
    · rw [if_pos c4] at H;have aJ:=eq_true c4;have aK:decide ((Y:Int).toNat≤35184372088832)=true:=decide_eq_true c4;clear c4;(try rw [Option.bind_some] at H);generalize aa:((List.replicate (Y:Int).toNat 0):List Int)=aM at H;have ab:=amk aa.symm;clear aa;have H':=amk H;clear H;go_enter Tryz.func96,Tryz.ntmps96;go_wp2_with (first | ((with_reducible refine gate_dst (N:=2) rfl ?_);refine boxE_ HB 2 #[.int .i64 Y, .int .i64 a6] 25 ?_;clear HB;intro ay w5 HB J bb bc hb;clear hb;obtain ⟨ah,ai,aj,ak⟩:=cells2 J.out) | ((with_reducible refine gate_dst (N:=9) rfl ?_);refine Kd.R_make (Kd.int .i64) _ 3 rfl (N:=9) rfl 39 _ _ rfl Y rfl rfl Tryz.underlying39 (.int .i64 0) 8 info3 rfl (by decide) (by omega) 0 (ok:=fun _=>True) (okp:=fun _=>True) rfl (fun _ hk=>hk) trivial (dA_) (Nat.le_trans (Nat.mul_le_mul_right _ (dA_:Y.toNat≤35184372088832)) (by omega)) (Below.refl _ _) (Nat.le_refl _) ?_;intro v145 w7 ac hb hg_ hnew_;clear hg_ hnew_;(first | rw [←ab.out] at ac | (simp only [Int.reduceToNat] at ac;rw [←ab.out] at ac));have az:=amk (Kd.R_lower ac (below_size bB));replace J:=kb2 J hb;replace HB:=hB2 HB hb;clear hb ac;obtain ⟨al,am,an,ap⟩:=cells2 J.out))
      go_loopg [1,6] k (fun kq v1 v6 w'=> ∃ (a8:Int) (a7:List Int) (Z:Int),v1 = .int .i64 a8∧v6 = .int .i64 Z∧Aside0 (spec_whOf.l0 kq a8 a7 Z Y a6=some r)∧Aside0 (kq≤k)∧Aside0 (Kd.R (Kd.int .i64) 3 w' w.heap.size (fun _=>True) v145 a7)∧Aside0 (w'.heap[ay]?=some (.cells #[.int .i64 Y, .int .i64 a6] 25 (0,0)))∧Aside0 (Below w.heap.size w w'))
      case atStart=>exact ⟨(a1),(aM),(wrap64 (Y - 1)),rS_,rS_,H',⟨Nat.le_refl _⟩,⟨oX az⟩,⟨kB J⟩,⟨bB⟩⟩
      case round =>
        clear H';(try clear p2);(try clear c3);(try clear aH);(try clear aI);(try clear c4);(try clear aJ);(try clear aK);(try clear p6);(try clear c9);(try clear ah);(try clear ai);(try clear al);(try clear am);(try clear aj);(try clear ak);(try clear an);(try clear ap);obtain ⟨a8,a7,Z,rfl,rfl,HA,aN,HO_5,J,HB⟩:=hrel
        cases gk with
        | zero=>exact absurd HA.out (by simp [spec_whOf.l0])
        | succ k1 =>
          have H:=HA.out;clear HA;simp only [spec_whOf.l0] at H
          by_cases c10:Z ≥ 0
          · rw [if_pos c10] at H;have aA:decide (0≤Z)=true:=decide_eq_true c10;clear c10
            by_cases c11:a6=0
            · rw [if_pos c11] at H;exact absurd H (by simp)
            · rw [if_neg c11] at H;have bd:(a6 == 0)=false:=beq_eq_false_iff_ne.mpr c11;have be:(a6 != 0)=true:=bne_iff_ne.mpr c11;replace H:=iteN H;obtain ⟨bf,H⟩:=H;replace H:=iteN H;obtain ⟨bg,H⟩:=H;(try rw [Option.bind_some] at H);generalize ae:((a7.set (Z:Int).toNat (Int.tmod a8 a6)):List Int)=ar at H;have aC:=amk ae.symm;clear ae;have H':=amk H;clear H;obtain ⟨aQ,aT,aU,aV⟩:=cells2 J.out;have aD:0≤(Z:Int):=dA_;have aE:(Z:Int) < ((a7.length:Int):Int):=dA_;obtain ⟨af,aW,au,av,aX,bj,ax⟩:=Kd.R_form HO_5.out (by omega);(first | cases au | (injection au with ea_ en_ ec_;(first | subst ea_ | (injection ea_ with ea_;subst ea_));subst ec_;clear en_));have aY:=amk av;have bk:=amk ax;clear av aX ax;obtain ⟨b9,ba⟩:=Kd.R_celln 0 HO_5.out (Z:Int) aD aE;replace aD:=eq_true aD;replace aE:=eq_true aE;have ag:=Kd.R_putg HO_5.out (Z:Int) (Int.tmod a8 a6);go_wp2_with (first | ((with_reducible refine gate_store (t:=3) (p:=23) rfl ?_);refine store_event (t:=3) (p:=23) (v:=?vo_w17) (w1:=(wr.setCell ⟨af,(Z:Int).toNat,none⟩ (.int .i64 (Int.tmod a8 a6)))) ?hg ?ho ?hn ?hr ?_;(case ho=>rfl);(case hg=>rfl);(case hn=>rfl);(case hr=>first | (go_simp;done) | (go_simp;rfl));intro aG hw;have hg:wr.grownBy aG (some af):=(by rw [hw];exact ag.2);have hp_:Kd.R (Kd.int .i64) 3 aG w.heap.size (fun _=>True) (.slice (some ⟨af,0,none⟩) a7.length aW) ar:=(by rw [hw,aC.out];exact ag.1);clear ag;replace J:=bG J hg (Kd.R_ne HO_5.out J.out (by decide));replace HO_5:=amk (hp_);replace HB:=amk ((by rw [hw];exact bs_ (HB.out) aY.out:Below w.heap.size w aG));clear hg hw hp_;obtain ⟨aZ,b3,b4,b5⟩:=cells2 J.out));go_roundg k1
              case measure=>have:=aN.out;omega
              case rel=>exact ⟨(wrap64 (Int.tdiv a8 a6)),(ar),(wrap64 (Z - 1)),rS_,rS_,H',⟨by have:=aN.out;omega⟩,⟨oX HO_5⟩,⟨kB J⟩,⟨bB⟩⟩
          · rw [if_neg c10] at H;have aA:decide (0≤Z)=false:=decide_eq_false c10;clear c10;replace H:=bE H;obtain ⟨t148,bh,H⟩:=H;obtain rfl:=Option.some.inj H;obtain ⟨b6,b7,b8⟩:=Kd.R_slice HO_5.out;subst b8;go_wp2_with (first | ((with_reducible refine gate_callee (f:=123) rfl ?_);refine goesL_ (some 29) rfl rfl Tryz.func123 (by kernel_rfl) rfl #[.slice b6 a7.length b7] rfl gL_ ?_;(with_reducible refine (spec_whText.calls k1 _ _ a7 t148 _ ?_ ?_ bh.out).mono ?_);exact cB ((Kd.R_reads' HO_5.out).2.2);exact (Kd.R_reads' HO_5.out).2.1;rintro e bl ⟨rfl,hb⟩;refine ⟨_,rfl,?_⟩;replace HO_5:=amk (Kd.R_below (oX HO_5) hb);replace J:=kb2 J hb;replace HB:=hB2 HB hb;(try clear hb)));go_ret;exact ⟨rF_,bB⟩
    · rw [if_neg c4] at H;exact absurd H (by simp)
  · rw [if_neg c3] at H;exact absurd H (by simp)
/-! ### spec_hiAll: function 67 -/
def spec_hiAll.l0:Nat→List ByteArray→Int→Int→Int→Option (List ByteArray)
  | 0,_,_,_,_=>none
  | k + 1,x3,x4,J,Y=>(spec_whCount.f k J Y).bind fun Z=>(if x4 < Z then ((spec_whOf.f k J Y x4).bind fun a1=>(if x3.length < 8796093022208 then (spec_hiAll.l0 k (x3 ++ [a1]) (wrap64 (x4 + 1)) J Y) else (none))) else (some x3))
def spec_hiAll.f (k:Nat) (J:Int) (Y:Int):Option (List ByteArray):=spec_hiAll.l0 k ([]:List ByteArray) 0 J Y
set_option maxHeartbeats 8000000 in
set_option maxRecDepth 100000 in
theorem spec_hiAll.calls (k:Nat) (Y:Int) (Z:Int) (r:List ByteArray) (w:World) (h:spec_hiAll.f k Y Z=some r) :
    Calls Tryz.prog 67 #[.agg #[.int .i64 Y, .int .i64 Z]] w fun e w'=> ∃ v0_:Value,e = .returned (v0_)∧Kd.R Kd.string 9 w' w.heap.size (fun _=>True) v0_ r∧Below w.heap.size w w':=by
  have aD:=Tryz.underlying25;have HB:=amk (Below.refl w.heap.size w);unfold spec_hiAll.f at h;have H:=h;clear h;have H':=amk H;clear H;go_enter Tryz.func67,Tryz.ntmps67;go_wp2_with (first | ((with_reducible refine gate_dst (N:=1) rfl ?_);refine boxE_ HB 1 #[.int .i64 Y, .int .i64 Z] 25 ?_;clear HB;intro ab w2 HB J aA aC hb;clear hb))
  go_loopg [3,4] k (fun kq v3 v4 w'=> ∃ (a1:List ByteArray) (a6:Int),v4 = .int .i64 a6∧Aside0 (spec_hiAll.l0 kq a1 a6 Y Z=some r)∧Aside0 (kq≤k)∧Aside0 (Kd.R Kd.string 9 w' w.heap.size (fun _=>True) v3 a1)∧Aside0 (w'.heap[ab]?=some (.cells #[.int .i64 Y, .int .i64 Z] 25 (0,0)))∧Aside0 (Below w.heap.size w w'))
  case atStart=>exact ⟨(([]:List ByteArray)),(0),rS_,H',⟨Nat.le_refl _⟩,⟨xN_⟩,⟨kB J⟩,⟨bB⟩⟩
  case round =>
    clear H';(try clear p2);obtain ⟨a1,a6,rfl,HA,af,HO_3,J,HB⟩:=hrel
    cases gk with
    | zero=>exact absurd HA.out (by simp [spec_hiAll.l0])
    | succ k1 =>
      have H:=HA.out;clear HA;simp only [spec_hiAll.l0] at H;replace H:=bE H;obtain ⟨aa,A3,H⟩:=H;replace H:=iteE H;obtain ⟨ag,H⟩ | ⟨ag,H⟩:=H
      · replace H:=bE H;obtain ⟨a7,A5,H⟩:=H
        by_cases c6:a1.length < 8796093022208
        · rw [if_pos c6] at H;have ah:=amk c6;clear c6;(try rw [Option.bind_some] at H);generalize a8:((a1 ++ [a7]):List ByteArray)=ai at H;have ac:=amk a8.symm;clear a8;have H':=amk H;clear H;obtain ⟨an,ap,ar,au⟩:=cells2 J.out;go_wp2_with (first | ((with_reducible refine gate_callee (f:=95) rfl ?_);refine goesL_ (some 7) rfl rfl Tryz.func95 (by kernel_rfl) rfl #[.agg #[.int .i64 Y, .int .i64 Z]] rfl gL_ ?_;(with_reducible refine (spec_whCount.calls k1 Y Z aa _ A3.out).mono ?_);rintro e w8 ⟨rfl,hb⟩;refine ⟨_,rfl,?_⟩;replace HO_3:=amk (Kd.R_below (oX HO_3) hb);replace J:=kb2 J hb;replace HB:=hB2 HB hb;(try clear hb);obtain ⟨av,ax,ay,az⟩:=cells2 J.out) | ((with_reducible refine gate_callee (f:=96) rfl ?_);refine goesL_ (some 14) rfl rfl Tryz.func96 (by kernel_rfl) rfl #[.agg #[.int .i64 Y, .int .i64 Z], .int .i64 a6] rfl gL_ ?_;(with_reducible refine (spec_whOf.calls k1 Y Z a6 a7 _ A5.out).mono ?_);rintro e aG ⟨rfl,hb⟩;refine ⟨_,rfl,?_⟩;replace HO_3:=amk (Kd.R_below (oX HO_3) hb);replace J:=kb2 J hb;replace HB:=hB2 HB hb;(try clear hb)) | ((with_reducible refine gate_builtin (b:= .append) (xs:= #[.tmp 11, .tmp 15]) rfl ?_);at_builtin;refine Kd.R_append Kd.string (w0:=w) w.heap.size rfl (.tmp 11) (.tmp 15) 30 9 (.string ⟨#[]⟩) 16 rfl Tryz.underlying30 info9 rfl (by decide) (by omega) u3 a1 a7 [.string a7] (fun _=>True) (fun _=>False) rfl rfl rfl (fun _ hk=>hk.elim) (fun _ _=>trivial) (oX HO_3) bB (below_size bB) (by have:=ah.out;omega) ?_;intro aE aH ho hb hg hat;rw [←ac.out] at ho;replace J:=bG J hg (Kd.R_ne HO_3.out J.out (by decide));replace HB:=amk (hb);have ae:=amk (ho);clear HO_3;clear ho hb hg hat));go_roundg k1
          case measure=>have:=af.out;omega
          case rel=>exact ⟨(ai),(wrap64 (a6 + 1)),rS_,H',⟨by have:=af.out;omega⟩,⟨oX ae⟩,⟨kB J⟩,⟨bB⟩⟩
        · rw [if_neg c6] at H;exact absurd H (by simp)
      · obtain rfl:=Option.some.inj H;obtain ⟨aj,ak,al,am⟩:=cells2 J.out;go_wp2_with (first | ((with_reducible refine gate_callee (f:=95) rfl ?_);refine goesL_ (some 7) rfl rfl Tryz.func95 (by kernel_rfl) rfl #[.agg #[.int .i64 Y, .int .i64 Z]] rfl gL_ ?_;(with_reducible refine (spec_whCount.calls k1 Y Z aa _ A3.out).mono ?_);rintro e aI ⟨rfl,hb⟩;refine ⟨_,rfl,?_⟩;replace HO_3:=amk (Kd.R_below (oX HO_3) hb);replace J:=kb2 J hb;replace HB:=hB2 HB hb;(try clear hb)));go_ret;exact ⟨_,rF_,oX HO_3,bB⟩
/-! ### spec_l1Least: function 142 -/
def spec_l1Least.f (a0:Int) (a1:Int):Option (Int):=if a0 < a1 then (some a0) else (some a1)
set_option maxHeartbeats 8000000 in
set_option maxRecDepth 100000 in
theorem spec_l1Least.calls (a0:Int) (a1:Int) (r:Int) (w:World) (h:spec_l1Least.f a0 a1=some r) :
    Calls Tryz.prog 142 #[.int .i64 a0, .int .i64 a1] w fun e w'=>e = .returned (.int .i64 r)∧Drawn0 w w':=by
  unfold spec_l1Least.f at h;have H:=h;clear h;replace H:=iteE H;obtain ⟨J,H⟩ | ⟨J,H⟩:=H
  · obtain rfl:=Option.some.inj H;go_enter Tryz.func142,Tryz.ntmps142;go_wp2;go_ret;exact ⟨rS_,dR_⟩
  · obtain rfl:=Option.some.inj H;go_enter Tryz.func142,Tryz.ntmps142;go_wp2;go_ret;exact ⟨rS_,dR_⟩
/-! ### spec_l1Mod: function 156 -/
def spec_l1Mod.f (a0:Int) (a1:Int):Option (Int):=if a1=0 then (none) else (some (Int.tmod (wrap64 ((Int.tmod a0 a1) + a1)) a1))
set_option maxHeartbeats 8000000 in
set_option maxRecDepth 100000 in
theorem spec_l1Mod.calls (a0:Int) (a1:Int) (r:Int) (w:World) (h:spec_l1Mod.f a0 a1=some r) :
    Calls Tryz.prog 156 #[.int .i64 a0, .int .i64 a1] w fun e w'=>e = .returned (.int .i64 r)∧Drawn0 w w':=by
  unfold spec_l1Mod.f at h;have H:=h;clear h
  by_cases c3:a1=0
  · rw [if_pos c3] at H;exact absurd H (by simp)
  · rw [if_neg c3] at H;have J:(a1 == 0)=false:=beq_eq_false_iff_ne.mpr c3;have Y:(a1 != 0)=true:=bne_iff_ne.mpr c3;obtain rfl:=Option.some.inj H;go_enter Tryz.func156,Tryz.ntmps156;go_wp2;go_ret;exact ⟨rS_,dR_⟩
/-! ### spec_whFar: function 143 -/
def spec_whFar.f (Y:Int) (J:Int) (a1:Int) (a2:Int):Option (Int×Int):=(spec_l1Mod.f (wrap64 (a2 - a1)) J).bind fun t159=>(if J=0 then (none) else (some (t159,Int.tmod (wrap64 (J - t159)) J)))
set_option maxHeartbeats 8000000 in
set_option maxRecDepth 100000 in
theorem spec_whFar.calls (Z:Int) (J:Int) (a1:Int) (a2:Int) (r1:Int) (r2:Int) (w:World) (h:spec_whFar.f Z J a1 a2=some (r1,r2)) :
    Calls Tryz.prog 143 #[.agg #[.int .i64 Z, .int .i64 J], .int .i64 a1, .int .i64 a2] w fun e w'=>e = .returned (.tuple #[.int .i64 r1, .int .i64 r2])∧Below w.heap.size w w':=by
  have af:=Tryz.underlying25;have HB:=amk (Below.refl w.heap.size w);unfold spec_whFar.f at h;have H:=h;clear h;replace H:=bE H;obtain ⟨t159,A4,H⟩:=H
  by_cases c5:J=0
  · rw [if_pos c5] at H;exact absurd H (by simp)
  · rw [if_neg c5] at H;have ag:(J == 0)=false:=beq_eq_false_iff_ne.mpr c5;have ah:(J != 0)=true:=bne_iff_ne.mpr c5;simp only [Option.some.injEq,Prod.mk.injEq] at H;obtain ⟨rfl,rfl⟩:=H;go_enter Tryz.func143,Tryz.ntmps143;go_wp2_with (first | ((with_reducible refine gate_dst (N:=3) rfl ?_);refine boxE_ HB 3 #[.int .i64 Z, .int .i64 J] 25 ?_;clear HB;intro ab w6 HB Y ac ae hb;clear hb;obtain ⟨a6,a7,a8,aa⟩:=cells2 Y.out) | (go_at_call 156;(with_reducible refine (spec_l1Mod.calls (wrap64 (a2 - a1)) J t159 _ A4.out).mono ?_);rintro e w' ⟨rfl,⟨nd,rfl⟩⟩;(try exact dN_)))
    repeat (go_quiet (first | ((with_reducible refine gate_dst (N:=3) rfl ?_);refine boxE_ HB 3 #[.int .i64 Z, .int .i64 J] 25 ?_;clear HB;intro ab w6 HB Y ac ae hb;clear hb;obtain ⟨a6,a7,a8,aa⟩:=cells2 Y.out) | (go_at_call 156;(with_reducible refine (spec_l1Mod.calls (wrap64 (a2 - a1)) J t159 _ A4.out).mono ?_);rintro e w' ⟨rfl,⟨nd,rfl⟩⟩;(try exact dN_)));try go_wp2_with (first | ((with_reducible refine gate_dst (N:=3) rfl ?_);refine boxE_ HB 3 #[.int .i64 Z, .int .i64 J] 25 ?_;clear HB;intro ab w6 HB Y ac ae hb;clear hb;obtain ⟨a6,a7,a8,aa⟩:=cells2 Y.out) | (go_at_call 156;(with_reducible refine (spec_l1Mod.calls (wrap64 (a2 - a1)) J t159 _ A4.out).mono ?_);rintro e w' ⟨rfl,⟨nd,rfl⟩⟩;(try exact dN_))))
    go_ret2;exact ⟨rF_,bB⟩
/-! ### spec_whDistance: function 126 -/
def spec_whDistance.l0:Nat→List Int→List Int→Int→Int→Int→Int→Int→Option (Int)
  | 0,_,_,_,_,_,_,_=>none
  | k + 1,x7,x8,x9,a6,Z,J,Y=>if Z < a6 then (if 0≤Z then (if Z < (x7.length:Int) then (if Z < (x8.length:Int) then ((spec_whFar.f J Y (rd x7 Z) (rd x8 Z)).bind fun a1=>((spec_l1Least.f a1.1 a1.2).bind fun t171=>(spec_whDistance.l0 k x7 x8 (wrap64 (x9 + t171)) a6 (wrap64 (Z + 1)) J Y))) else (none)) else (none)) else (none)) else (some x9)
def spec_whDistance.f (k:Nat) (Y:Int) (Z:Int) (a1:ByteArray) (a2:ByteArray):Option (Int):=(spec_whDigits.f k a1).bind fun J=>((spec_whDigits.f k a2).bind fun t164=>(spec_whDistance.l0 k J t164 0 (J.length:Int) 0 Y Z))
def spec_whDistance.T6:Bool×List (List Nat×List Nat):=(true,[([],[]),([],[]),([],[]),([1,2],[1,2]),([3],[3]),([],[]),([],[]),([5,6],[5,6]),([7],[7]),([0,4,8],[0,4,8]),([9],[9]),([10],[10]),([10],[10]),([11,9,0,1,2,3,4,5,6,7,8,9,10,11],[11]),([12,13,0,1,2,3,4,5,6,7,8,9,10,11,12,13],[12])])
def spec_whDistance.B6:List Nat:=[0,0,0,6,14,0,0,96,224,511,1023,2047,2047,4095,16383]
theorem spec_whDistance.tab6:rtab .any (opsOf Tryz.f126 6)=spec_whDistance.T6:=by kernel_rfl
theorem spec_whDistance.bits6:waitsOk spec_whDistance.T6.2 spec_whDistance.B6=true:=by kernel_rfl
set_option maxHeartbeats 8000000 in
set_option maxRecDepth 100000 in
theorem spec_whDistance.calls (k:Nat) (a6:Int) (a7:Int) (a1:ByteArray) (a2:ByteArray) (r:Int) (w:World) (h:spec_whDistance.f k a6 a7 a1 a2=some r) :
    Calls Tryz.prog 126 #[.agg #[.int .i64 a6, .int .i64 a7], .string a1, .string a2] w fun e w'=>e = .returned (.int .i64 r)∧Below w.heap.size w w':=by
  have aQ:=Tryz.underlying25;have HB:=amk (Below.refl w.heap.size w);unfold spec_whDistance.f at h;have H:=h;clear h;replace H:=bE H;obtain ⟨Z,A4,H⟩:=H;replace H:=bE H;obtain ⟨t164,A5,H⟩:=H;have H':=amk H;clear H;go_enter Tryz.func126,Tryz.ntmps126;go_wp2_with (first | ((with_reducible refine gate_dst (N:=3) rfl ?_);refine boxE_ HB 3 #[.int .i64 a6, .int .i64 a7] 25 ?_;clear HB;intro ac w6 HB Y aD aE hb;clear hb) | ((with_reducible refine gate_callee (f:=124) rfl ?_);refine goesL_ (some 14) rfl rfl Tryz.func124 (by kernel_rfl) rfl #[.string a1] rfl gL_ ?_;(with_reducible refine (spec_whDigits.calls k a1 Z _ A4.out).mono ?_);rintro e w7 ⟨v162,rfl,af,hb⟩;refine ⟨_,rfl,?_⟩;have a8:=amk (Kd.R_lower af (below_size bB));replace Y:=kb2 Y hb;replace HB:=hB2 HB hb;(try clear hb);(try clear af)) | ((with_reducible refine gate_callee (f:=124) rfl ?_);refine goesL_ (some 16) rfl rfl Tryz.func124 (by kernel_rfl) rfl #[.string a2] rfl gL_ ?_;(with_reducible refine (spec_whDigits.calls k a2 t164 _ A5.out).mono ?_);rintro e w8 ⟨am,rfl,af,hb⟩;refine ⟨_,rfl,?_⟩;have ap:=amk (Kd.R_lower (Kd.R_new' af (Kd.R_lt (oX a8))) (below_size bB));replace a8:=amk (Kd.R_elder' (oX a8) (Kd.R_base af) hb);replace Y:=kb2 Y hb;replace HB:=hB2 HB hb;(try clear hb);(try clear af);obtain ⟨ax,ay,aG⟩:=Kd.R_slice a8.out;subst aG))
  go_loopg [9,19] k (fun kq v9 aH w'=> ∃ (ae:Int) (J:Int),v9 = .int .i64 ae∧aH = .int .i64 J∧Aside0 (spec_whDistance.l0 kq Z t164 ae (Z.length:Int) J a6 a7=some r)∧Aside0 (kq≤k)∧Aside0 (Kd.R (Kd.int .i64) 3 w' w.heap.size (fun k_=>some k_≠(am:Value).ownBlock) (.slice ax Z.length ay) Z)∧Aside0 (Kd.R (Kd.int .i64) 3 w' w.heap.size (fun k_=>some k_≠((.slice ax Z.length ay):Value).ownBlock) am t164)∧Aside0 (w'.heap[ac]?=some (.cells #[.int .i64 a6, .int .i64 a7] 25 (0,0)))∧Aside0 (Below w.heap.size w w'))
  case atStart=>exact ⟨(0),(0),rS_,rS_,H',⟨Nat.le_refl _⟩,⟨by (with_reducible repeat (first | apply Kd.R_alloc | apply Kd.R_drewN | apply Kd.R_drew));exact Kd.R_mono a8.out (fun _ hk=>hk.2)⟩,⟨by (with_reducible repeat (first | apply Kd.R_alloc | apply Kd.R_drewN | apply Kd.R_drew));exact Kd.R_mono ap.out (fun _ hk=>hk.2)⟩,⟨kB Y⟩,⟨bB⟩⟩
  case round =>
    clear H';(try clear c1);(try clear p2);obtain ⟨ae,J,rfl,rfl,HA,az,HO_7,HO_8,Y,HB⟩:=hrel
    cases gk with
    | zero=>exact absurd HA.out (by simp [spec_whDistance.l0])
    | succ k1 =>
      have H:=HA.out;clear HA;simp only [spec_whDistance.l0] at H;replace H:=iteE H;obtain ⟨ar,H⟩ | ⟨ar,H⟩:=H
      · replace H:=iteN H;obtain ⟨aI,H⟩:=H;replace H:=iteN H;obtain ⟨aJ,H⟩:=H;replace H:=iteN H;obtain ⟨aK,H⟩:=H;replace H:=bE H;obtain ⟨⟨ag,ah⟩,aM,H⟩:=H;(try dsimp only at H);replace H:=bE H;obtain ⟨t171,aN,H⟩:=H;have H':=amk H;clear H;(try go_wp2);replace HO_7:=amk (Kd.R_drew HO_7.out);replace HO_8:=amk (Kd.R_drew HO_8.out);replace Y:=amk (blk_drew Y.out);replace HB:=amk (bd_ HB.out);have ai:0≤(J:Int):=dA_;have aj:J < (Z.length:Int):=dA_;obtain ⟨au,aA,aa⟩:=Kd.at_int (Kd.R_reads' HO_7.out).2.2 J ai aj;cases aA;replace ai:=eq_true ai;replace aj:=eq_true aj;obtain ⟨aT,aU,an⟩:=Kd.R_slice HO_8.out;(first | subst an | (injection an with f1_ f2_ f3_;have f4_:=f1_.symm;have f5_:=f3_.symm;clear f1_ f2_ f3_;subst f4_;subst f5_));have ak:0≤(J:Int):=dA_;have al:J < (t164.length:Int):=dA_;obtain ⟨av,aC,ab⟩:=Kd.at_int (Kd.R_reads' HO_8.out).2.2 J ak al;cases aC;replace ak:=eq_true ak;replace al:=eq_true al;refine start_ (n:=15) (S:=fun w'=>w'.cell? ⟨ac,0,none⟩=some (.int .i64 a6)∧w'.cell? ⟨ac,1,none⟩=some (.int .i64 a7)∧w'.cell? (au.add (J).toNat)=some (.int .i64 (rd Z J))∧w'.cell? (av.add (J).toNat)=some (.int .i64 (rd t164 J))) (ds:=[]) (bA 15 0) (by kernel_rfl) rfl rfl ⟨(blk_cell Y.out 0).trans rfl,(blk_cell Y.out 1).trans rfl,aa,ab⟩ (fun hHeld=>?_);refine with_tabW spec_whDistance.tab6 spec_whDistance.bits6 (fun HT_ HW_=>?_);generalize wr.drew=aV at HO_7 HO_8 Y HB aa ab hHeld ⊢;refine pU_ HT_ 1 (some 24) (bA 15 2) ?_;refine pU_ HT_ 2 (some 25) (bA 15 6) ?_;refine pU_ HT_ 3 (some 26) (bA 15 14) ?_;refine pU_ HT_ 5 (some 28) (bA 15 46) ?_;refine pU_ HT_ 6 (some 29) (bA 15 110) ?_;refine pU_ HT_ 7 (some 30) (bA 15 238) ?_;refine tK_ HT_ HW_ hHeld 0 (some 23) (bA 15 239) ?_;refine tK_ HT_ HW_ hHeld 4 (some 27) (bA 15 255) ?_;refine tK_ HT_ HW_ hHeld 8 (some 31) (bA 15 511) ?_;refine oN_ HT_ 9 (some 32) (bA 15 1023) (fun K hK=>?_);refine goes_ Tryz.func143 (by kernel_rfl) rfl #[.agg #[.int .i64 a6, .int .i64 a7], .int .i64 (rd Z J), .int .i64 (rd t164 J)] (by rfl) rfl rfl gL_ ?_;(with_reducible refine (spec_whFar.calls a6 a7 (rd Z J) (rd t164 J) ag ah _ aM.out).mono ?_);rintro e aW ⟨rfl,hb⟩;have HS2_:=(hb.cell (World.block_lt_of_cell? _ _ (hHeld.2.2.1))).trans (hHeld.2.2.1);have HS3_:=(hb.cell (World.block_lt_of_cell? _ _ (hHeld.2.2.2))).trans (hHeld.2.2.2);refine ⟨_,rfl,?_⟩;replace HO_7:=amk (Kd.R_below (oX HO_7) hb);replace HO_8:=amk (Kd.R_below (oX HO_8) hb);replace Y:=kb2 Y hb;replace HB:=hB2 HB hb;(try clear hb);refine hK.out _ _ ⟨(blk_cell Y.out 0).trans rfl,(blk_cell Y.out 1).trans rfl,HS2_,HS3_⟩ (fun hHeld=>?_);clear hK K;refine nN_ (some 32) ?_;refine pU_ HT_ 10 (some 22) (bA 15 2047) ?_;refine pU_ HT_ 11 (some 33) (bA 15 4095) ?_;refine pU_ HT_ 12 (some 34) (bA 15 8191) ?_;refine pU_ HT_ 13 (some 11) (bA 15 16383) ?_;refine pU_ HT_ 14 (some 12) (bA 15 32767) ?_;refine done_ (done_of HT_.out (by kernel_rfl)) ?_;(try go_wp2_with (first | ((with_reducible refine gate_callee (f:=142) rfl ?_);refine goesL_ (some 38) rfl rfl Tryz.func142 (by kernel_rfl) rfl #[.int .i64 ag, .int .i64 ah] rfl gL_ ?_;(with_reducible refine (spec_l1Least.calls ag ah t171 _ aN.out).mono ?_);rintro e w' ⟨rfl,⟨nd,rfl⟩⟩;refine ⟨_,rfl,?_⟩)));go_roundg k1
        case measure=>have:=az.out;omega
        case rel=>exact ⟨(wrap64 (ae + t171)),(wrap64 (J + 1)),rS_,rS_,H',⟨by have:=az.out;omega⟩,⟨oX HO_7⟩,⟨oX HO_8⟩,⟨kB Y⟩,⟨bB⟩⟩
      · obtain rfl:=Option.some.inj H;go_wp2;go_ret;exact ⟨rF_,bB⟩
/-! ### spec_whNumber: function 127 -/
def spec_whNumber.l0:Nat→Int→List Int→Int→Int→Int→Int→Option (Int)
  | 0,_,_,_,_,_,_=>none
  | k + 1,x5,x9,a1,Y,Z,J=>if Y < a1 then (if 0≤Y then (if Y < (x9.length:Int) then (spec_whNumber.l0 k (wrap64 ((wrap64 (x5 * J)) + (rd x9 Y))) x9 a1 (wrap64 (Y + 1)) Z J) else (none)) else (none)) else (some x5)
def spec_whNumber.f (k:Nat) (J:Int) (Y:Int) (a1:ByteArray):Option (Int):=(spec_whDigits.f k a1).bind fun t173=>(spec_whNumber.l0 k 0 t173 (t173.length:Int) 0 J Y)
set_option maxHeartbeats 8000000 in
set_option maxRecDepth 100000 in
theorem spec_whNumber.calls (k:Nat) (a6:Int) (Z:Int) (a1:ByteArray) (r:Int) (w:World) (h:spec_whNumber.f k a6 Z a1=some r) :
    Calls Tryz.prog 127 #[.agg #[.int .i64 a6, .int .i64 Z], .string a1] w fun e w'=>e = .returned (.int .i64 r)∧Below w.heap.size w w':=by
  have az:=Tryz.underlying25;have HB:=amk (Below.refl w.heap.size w);unfold spec_whNumber.f at h;have H:=h;clear h;replace H:=bE H;obtain ⟨t173,A3,H⟩:=H;have H':=amk H;clear H;go_enter Tryz.func127,Tryz.ntmps127;go_wp2_with (first | ((with_reducible refine gate_dst (N:=2) rfl ?_);refine boxE_ HB 2 #[.int .i64 a6, .int .i64 Z] 25 ?_;clear HB;intro ac w4 HB Y an ap hb;clear hb) | ((with_reducible refine gate_callee (f:=124) rfl ?_);refine goesL_ (some 9) rfl rfl Tryz.func124 (by kernel_rfl) rfl #[.string a1] rfl gL_ ?_;(with_reducible refine (spec_whDigits.calls k a1 t173 _ A3.out).mono ?_);rintro e w5 ⟨aA,rfl,ae,hb⟩;refine ⟨_,rfl,?_⟩;have a8:=amk (Kd.R_lower ae (below_size bB));replace Y:=kb2 Y hb;replace HB:=hB2 HB hb;(try clear hb);(try clear ae);obtain ⟨ar,au,av⟩:=Kd.R_slice a8.out;subst av))
  go_loopg [5,11] k (fun kq v5 ax w'=> ∃ (a7:Int) (J:Int),v5 = .int .i64 a7∧ax = .int .i64 J∧Aside0 (spec_whNumber.l0 kq a7 t173 (t173.length:Int) J a6 Z=some r)∧Aside0 (kq≤k)∧Aside0 (Kd.R (Kd.int .i64) 3 w' w.heap.size (fun _=>True) (.slice ar t173.length au) t173)∧Aside0 (w'.heap[ac]?=some (.cells #[.int .i64 a6, .int .i64 Z] 25 (0,0)))∧Aside0 (Below w.heap.size w w'))
  case atStart=>exact ⟨(0),(0),rS_,rS_,H',⟨Nat.le_refl _⟩,⟨oX a8⟩,⟨kB Y⟩,⟨bB⟩⟩
  case round =>
    clear H';(try clear c1);(try clear p2);obtain ⟨a7,J,rfl,rfl,HA,af,HO_9,Y,HB⟩:=hrel
    cases gk with
    | zero=>exact absurd HA.out (by simp [spec_whNumber.l0])
    | succ k1 =>
      have H:=HA.out;clear HA;simp only [spec_whNumber.l0] at H;replace H:=iteE H;obtain ⟨ag,H⟩ | ⟨ag,H⟩:=H
      · replace H:=iteN H;obtain ⟨aC,H⟩:=H;replace H:=iteN H;obtain ⟨aD,H⟩:=H;have H':=amk H;clear H;have aa:0≤(J:Int):=dA_;have ab:J < (t173.length:Int):=dA_;obtain ⟨ay,ah,ai⟩:=Kd.at_int (Kd.R_reads' HO_9.out).2.2 J aa ab;cases ah;replace aa:=eq_true aa;replace ab:=eq_true ab;obtain ⟨aj,ak,al,am⟩:=cells2 Y.out;go_wp2;go_roundg k1
        case measure=>have:=af.out;omega
        case rel=>exact ⟨(wrap64 ((wrap64 (a7 * Z)) + (rd t173 J))),(wrap64 (J + 1)),rS_,rS_,H',⟨by have:=af.out;omega⟩,⟨oX HO_9⟩,⟨kB Y⟩,⟨bB⟩⟩
      · obtain rfl:=Option.some.inj H;go_wp2;go_ret;exact ⟨rF_,bB⟩
/-! spec.hiOf, by hand: it ranges over texts. -/
def spec_hiOf.f (a b:ByteArray):Option (Int×Int):=if hintB a b=true then some (plN a b a.size,cmN a b a.size 10 - plN a b a.size) else none
set_option maxHeartbeats 4000000 in
set_option maxRecDepth 100000 in
theorem spec_hiOf.calls (a0 a1:ByteArray) (r1 r2:Int) (w:World) (h:spec_hiOf.f a0 a1=some (r1,r2)) :
    Calls Tryz.prog 125 #[.string a0, .string a1] w fun e w'=>e = .returned (.tuple #[.int .i64 r1, .int .i64 r2])∧Below w.heap.size w w':=by
  unfold spec_hiOf.f at h
  by_cases hc:hintB a0 a1=true
  · rw [if_pos hc] at h
    obtain ⟨rfl,rfl⟩:=Prod.mk.inj (Option.some.inj h)
    clear h
    obtain ⟨hs,_,h6,ha,hb⟩:=hintB_iff.mp hc
    clear hc
    have HA:=amk ha
    have HB:=amk hb
    have HS:=amk hs
    have H6:=amk h6
    have hu:=Tryz.underlying9
    clear ha hb
    have hus:=Tryz.underlying9
    clear hs h6
    have Hpl:=plN_range a0 a1 a0.size
    have Hcm:=cmN_range a0 a1 a0.size 10
    go_enter Tryz.func125,Tryz.ntmps125
    go_wp2
    go_loopg [6] a0.size (fun gg s6 wr=> ∃ (W:World) (i:Nat),s6 = .int .i64 (plN a0 a1 i)∧wr=W.iter a0 i∧Aside0 (i≤a0.size∧a0.size≤i + gg)∧Aside0 (W.heap.size=w.heap.size∧Below w.heap.size w W))
    case atStart=>exact ⟨w,0,rfl,rfl,⟨by omega⟩,⟨rfl,Below.refl _ _⟩⟩
    case round =>
      obtain ⟨W,i,rfl,rfl,HI,HW⟩:=hrel
      by_cases hi:i < a0.size
      · have hia:=HA.out i hi
        have hib:=HB.out i (by rw [←HS.out];exact hi)
        have Z:i < a1.size:=by rw [←HS.out];exact hi
        have hnx : ∀ ty,(Instr.next (.pointer (some ⟨w.heap.size,0,none⟩)) true ty).run Tryz.prog (W.iter a0 i) = .ok (.tuple #[.bool true, .int .i64 (i:Nat), .int .i32 (bt a0 (i:Nat))]) (W.iter a0 (i + 1)):=by
          intro ty
          have:=run_next_ascii (P:=Tryz.prog) W a0 i ty hi (by have:=bt_nat hi;omega)
          rw [HW.out.1,bt_nat hi] at this
          exact this
        have e0:=bt_nat hi
        have e1:=bt_nat Z
        have p0:=plN_range a0 a1 i
        have p1:wrap64 (plN a0 a1 i + 1)=plN a0 a1 i + 1:=w64 (by omega) (by have:=H6.out;omega)
        clear hia hib
        by_cases he:bt a0 (i:Nat)=bt a1 (i:Nat)
        · have hd:(bt a0 (i:Nat) == bt a1 (i:Nat))=true:=by simp [he]
          have hp:plN a0 a1 i + 1=plN a0 a1 (i + 1):=by simp [plN,he]
          have HP:=amk hp
          clear he hp
          go_wp2
          go_region
          go_wp2
          go_roundg (a0.size - (i + 1))
          case measure=>have:=HI.out;omega
          case rel=>exact ⟨W.drew,i + 1,congrArg _ (by first | exact HP.out | exact p1.trans HP.out),rfl,⟨by omega⟩,⟨HW.out.1,HW.out.2.drew⟩⟩
        · have hd:(bt a0 (i:Nat) == bt a1 (i:Nat))=false:=by simp [he]
          have hp:plN a0 a1 i=plN a0 a1 (i + 1):=by simp [plN,he]
          have HP:=amk hp
          clear he hp
          go_wp2
          go_region
          go_wp2
          go_roundg (a0.size - (i + 1))
          case measure=>have:=HI.out;omega
          case rel=>exact ⟨W.drew,i + 1,congrArg _ (by first | exact HP.out | exact p1.trans HP.out),rfl,⟨by omega⟩,⟨HW.out.1,HW.out.2.drew⟩⟩
      · have hnx : ∀ ty,(Instr.next (.pointer (some ⟨w.heap.size,0,none⟩)) true ty).run Tryz.prog (W.iter a0 i) = .ok (.tuple #[.bool false]) (W.iter a0 i):=by
          intro ty
          have:=run_next_end (P:=Tryz.prog) W a0 i ty hi
          rw [HW.out.1] at this
          exact this
        have hia:i=a0.size:=by have:=HI.out;omega
        subst hia
        go_wp2
        have a6:Aside0 (w.heap.size≤(W.iter a0 a0.size).heap.size∧Below w.heap.size w (W.iter a0 a0.size)):=⟨by simp [World.iter];have:=HW.out.1;omega,HW.out.2.alloc (by rw [HW.out.1];exact Nat.le_refl _) _⟩
        generalize W.iter a0 a0.size=V at a6 ⊢
        clear hnx HW HI hi
        have al:plN a0 a1 a0.size≤6:=by have:=H6.out;omega
        have am:=Hpl.1
        clear Hpl
        go_loopg [7,9] 10 (fun gg s7 s9 wr=> ∃ m:Nat,s7 = .int .i64 (cmN a0 a1 a0.size m)∧s9 = .int .u8 (48 + m)∧Aside0 (m≤10∧10≤m + gg)∧Aside0 (w.heap.size≤wr.heap.size∧Below w.heap.size w wr))
        case atStart=>exact ⟨0,rfl,rfl,⟨by omega⟩,a6⟩
        case round =>
          obtain ⟨m,rfl,rfl,HM,J⟩:=hrel
          by_cases hm:m≤9
          · have a8:decide ((48:Int) + (m:Nat)≤57)=true:=decide_eq_true (by omega)
            have an:((48:Int) + (m:Nat) + 1) % 256=48 + ((m + 1:Nat):Int):=by omega
            go_wp2
            go_loopg [10,11] a0.size (fun gg aa ab we=> ∃ (W:World) (i:Nat),aa = .int .i64 (ctN a0 (48 + (m:Nat)) i)∧ab = .int .i64 (ctN a1 (48 + (m:Nat)) i)∧we=W.iter a0 i∧Aside0 (i≤a0.size∧a0.size≤i + gg)∧Aside0 (W.heap.size=wr.heap.size∧Below w.heap.size w W))
            case atStart=>exact ⟨wr,0,rfl,rfl,rfl,⟨by omega⟩,⟨rfl,J.out.2⟩⟩
            case round =>
              obtain ⟨W,i,rfl,rfl,rfl,HI,HW⟩:=hrel
              have Y:wr.heap.size≠w.heap.size∨True:=Or.inr trivial
              by_cases hi:i < a0.size
              · have Z:i < a1.size:=by rw [←HS.out];exact hi
                have hnx : ∀ ty,(Instr.next (.pointer (some ⟨wr.heap.size,0,none⟩)) true ty).run Tryz.prog (W.iter a0 i) = .ok (.tuple #[.bool true, .int .i64 (i:Nat), .int .i32 (bt a0 (i:Nat))]) (W.iter a0 (i + 1)):=by
                  intro ty
                  have:=run_next_ascii (P:=Tryz.prog) W a0 i ty hi (by have:=bt_nat hi;have:=HA.out i hi;omega)
                  rw [HW.out.1,bt_nat hi] at this
                  exact this
                have e0:=bt_nat hi
                have e1:=bt_nat Z
                have p0:=ctN_range a0 (48 + (m:Nat)) i
                have p1:=ctN_range a1 (48 + (m:Nat)) i
                have q0:wrap64 (ctN a0 (48 + (m:Nat)) i + 1)=ctN a0 (48 + (m:Nat)) i + 1:=w64 (by omega) (by have:=H6.out;omega)
                have q1:wrap64 (ctN a1 (48 + (m:Nat)) i + 1)=ctN a1 (48 + (m:Nat)) i + 1:=w64 (by omega) (by have:=H6.out;omega)
                clear p0 p1 Y
                have ac:=amk (show ctN a0 (48 + (m:Nat)) (i + 1)=ctN a0 (48 + (m:Nat)) i + if bt a0 (i:Nat)=48 + (m:Nat) then 1 else 0 from rfl)
                have ae:=amk (show ctN a1 (48 + (m:Nat)) (i + 1)=ctN a1 (48 + (m:Nat)) i + if bt a1 (i:Nat)=48 + (m:Nat) then 1 else 0 from rfl)
                by_cases he0:bt a0 (i:Nat)=48 + (m:Nat) <;> by_cases he1:bt a1 (i:Nat)=48 + (m:Nat)
                all_goals
                  first | have af:=(beq_of (bt a0 (i:Nat)) (48 + (m:Nat))).trans (decide_eq_true he0) | have af:=(beq_of (bt a0 (i:Nat)) (48 + (m:Nat))).trans (decide_eq_false he0)
                  first | have ag:=(beq_of (bt a1 (i:Nat)) (48 + (m:Nat))).trans (decide_eq_true he1) | have ag:=(beq_of (bt a1 (i:Nat)) (48 + (m:Nat))).trans (decide_eq_false he1)
                  have ah:=amk he0
                  have ai:=amk he1
                  clear he0 he1
                  go_wp2
                  go_roundg (a0.size - (i + 1))
                  case measure=>have:=HI.out;omega
                  case rel =>
                    refine ⟨W,i + 1,congrArg _ ?_,congrArg _ ?_,rfl,⟨by omega⟩,HW⟩
                    · rw [ac.out];simp [ah.out,q0]
                    · rw [ae.out];simp [ai.out,q1]
              · have hnx : ∀ ty,(Instr.next (.pointer (some ⟨wr.heap.size,0,none⟩)) true ty).run Tryz.prog (W.iter a0 i) = .ok (.tuple #[.bool false]) (W.iter a0 i):=by
                  intro ty
                  have:=run_next_end (P:=Tryz.prog) W a0 i ty hi
                  rw [HW.out.1] at this
                  exact this
                have hia:i=a0.size:=by have:=HI.out;omega
                subst hia
                have HV:Aside0 (w.heap.size≤(W.iter a0 a0.size).heap.size∧Below w.heap.size w (W.iter a0 a0.size)):=⟨by simp [World.iter];have:=HW.out.1;have:=J.out.1;omega,HW.out.2.alloc (by rw [HW.out.1];exact J.out.1) _⟩
                have HL:=amk (show spec_l1Least.f (ctN a0 (48 + (m:Nat)) a0.size) (ctN a1 (48 + (m:Nat)) a0.size)=some (lst (ctN a0 (48 + (m:Nat)) a0.size) (ctN a1 (48 + (m:Nat)) a0.size)) by unfold spec_l1Least.f lst;split <;> rfl)
                have hcm:cmN a0 a1 a0.size m + lst (ctN a0 (48 + (m:Nat)) a0.size) (ctN a1 (48 + (m:Nat)) a0.size)=cmN a0 a1 a0.size (m + 1):=rfl
                have hr:wrap64 (cmN a0 a1 a0.size (m + 1))=cmN a0 a1 a0.size (m + 1):=by
                  have:=cmN_range a0 a1 a0.size (m + 1)
                  have h6:=H6.out
                  have:(a0.size:Int) * ((m + 1:Nat):Int)≤6 * 10:=Int.mul_le_mul (by omega) (by omega) (by omega) (by omega)
                  exact w64 (by omega) (by omega)
                rw [←hcm] at hr
                have aj:=amk hr
                have HCM:=amk hcm
                clear hr hcm hi HI Y
                go_wp2_with (go_at_call 142;refine (spec_l1Least.calls _ _ _ _ HL.out).mono ?_;rintro e w9 ⟨rfl,a7⟩)
                go_roundg (9 - m)
                case measure=>have:=HM.out;omega
                case rel=>exact ⟨m + 1,congrArg _ (aj.out.trans HCM.out),congrArg _ (by omega),⟨by omega⟩,⟨Nat.le_trans HV.out.1 a7.below.size,HV.out.2.trans (a7.below.mono HV.out.1)⟩⟩
          · have a8:decide ((48:Int) + (m:Nat)≤57)=false:=decide_eq_false (by omega)
            have ak:m=10:=by have:=HM.out;omega
            subst ak
            have hw:wrap64 (cmN a0 a1 a0.size 10 - plN a0 a1 a0.size)=cmN a0 a1 a0.size 10 - plN a0 a1 a0.size:=w64 (by have:=Hcm;have:=H6.out;omega) (by have:=Hcm;have:=H6.out;omega)
            go_wp2
            go_ret2
            exact ⟨by first | rfl | (rw [hw];rfl),J.out.2⟩
  · rw [if_neg hc] at h
    cases h
/-! ### spec_pzValue: function 97 -/
def spec_pzValue.l0:Nat→Int→List Int→Int→Int→Option (Int)
  | 0,_,_,_,_=>none
  | k + 1,x9,Y,Z,J=>if J < Z then (if 0≤J then (if J < (Y.length:Int) then (spec_pzValue.l0 k (wrap64 (x9 + (rd Y J))) Y Z (wrap64 (J + 1))) else (none)) else (none)) else (some x9)
def spec_pzValue.f (k:Nat) (J:Int) (Y:Int) (a1:Int) (a2:Int) (a3:ByteArray):Option (Int):=if a1=0 then (if 0≤a2 then (if a2 < (a3.size:Int) then (some (((bt a3 a2) - 48) % 256)) else (none)) else (none)) else (if a1=1 then ((spec_whDigits.f k a3).bind fun Z=>(spec_pzValue.l0 k 0 Z (Z.length:Int) 0)) else (if a1=2 then ((spec_whOf.f k J Y a2).bind fun t182=>((spec_hiOf.f t182 a3).bind fun a6=>(some a6.1))) else (if a1=3 then ((spec_whOf.f k J Y a2).bind fun a7=>((spec_whDistance.f k J Y a7 a3).bind fun a8=>(some a8))) else ((spec_whNumber.f k J Y a3).bind fun aa=>(if a2=0 then (none) else (some (Int.tmod aa a2)))))))
set_option maxHeartbeats 8000000 in
set_option maxRecDepth 100000 in
theorem spec_pzValue.calls (k:Nat) (Y:Int) (Z:Int) (a1:Int) (a2:Int) (a3:ByteArray) (r:Int) (w:World) (h:spec_pzValue.f k Y Z a1 a2 a3=some r) :
    Calls Tryz.prog 97 #[.agg #[.int .i64 Y, .int .i64 Z], .int .i64 a1, .int .i64 a2, .string a3] w fun e w'=>e = .returned (.int .i64 r)∧Below w.heap.size w w':=by
  have bd:=Tryz.underlying25;have HB:=amk (Below.refl w.heap.size w);unfold spec_pzValue.f at h;have H:=h;clear h
  by_cases c5:a1=0
  · rw [if_pos c5] at H;have ak:(a1 == 0)=true:=beq_iff_eq.mpr c5;have al:(a1 != 0)=false:=bne_eq_false_iff_eq.mpr c5;clear c5;replace H:=iteN H;obtain ⟨av,H⟩:=H;replace H:=iteN H;obtain ⟨ax,H⟩:=H;obtain rfl:=Option.some.inj H;go_enter Tryz.func97,Tryz.ntmps97;go_wp2_with (first | ((with_reducible refine gate_dst (N:=4) rfl ?_);refine boxE_ HB 4 #[.int .i64 Y, .int .i64 Z] 25 ?_;clear HB;intro a7 w9 HB J aa ab hb;clear hb;have p8:0≤(a2:Int):=dA_;have q8:a2 < (a3.size:Int):=dA_;have aX:=bt_at a3 a2;replace p8:=eq_true p8;replace q8:=eq_true q8));go_ret;exact ⟨rF_,bB⟩
  · rw [if_neg c5] at H;have ak:(a1 == 0)=false:=beq_eq_false_iff_ne.mpr c5;have al:(a1 != 0)=true:=bne_iff_ne.mpr c5
    by_cases c10:a1=1
    · rw [if_pos c10] at H;have ae:(a1 == 1)=true:=beq_iff_eq.mpr c10;have af:(a1 != 1)=false:=bne_eq_false_iff_eq.mpr c10;clear c10;replace H:=bE H;obtain ⟨a8,aY,H⟩:=H;have H':=amk H;clear H;go_enter Tryz.func97,Tryz.ntmps97;go_wp2_with (first | ((with_reducible refine gate_dst (N:=4) rfl ?_);refine boxE_ HB 4 #[.int .i64 Y, .int .i64 Z] 25 ?_;clear HB;intro a7 bf HB J aa ab hb;clear hb) | ((with_reducible refine gate_callee (f:=124) rfl ?_);refine goesL_ (some 25) rfl rfl Tryz.func124 (by kernel_rfl) rfl #[.string a3] rfl gL_ ?_;(with_reducible refine (spec_whDigits.calls k a3 a8 _ aY.out).mono ?_);rintro e bg ⟨be,rfl,ay,hb⟩;refine ⟨_,rfl,?_⟩;have ag:=amk (Kd.R_lower ay (below_size bB));replace J:=kb2 J hb;replace HB:=hB2 HB hb;(try clear hb);(try clear ay);obtain ⟨az,aA,aC⟩:=Kd.R_slice ag.out;subst aC))
      go_loopg [9,27] k (fun kq v9 v27 w'=> ∃ (ac:Int) (a6:Int),v9 = .int .i64 ac∧v27 = .int .i64 a6∧Aside0 (spec_pzValue.l0 kq ac a8 (a8.length:Int) a6=some r)∧Aside0 (kq≤k)∧Aside0 (Kd.R (Kd.int .i64) 3 w' w.heap.size (fun _=>True) (.slice az a8.length aA) a8)∧Aside0 (w'.heap[a7]?=some (.cells #[.int .i64 Y, .int .i64 Z] 25 (0,0)))∧Aside0 (Below w.heap.size w w'))
      case atStart=>exact ⟨(0),(0),rS_,rS_,H',⟨Nat.le_refl _⟩,⟨oX ag⟩,⟨kB J⟩,⟨bB⟩⟩
      case round =>
        clear H';(try clear c1);(try clear p2);(try clear c5);(try clear ak);(try clear al);(try clear c6);(try clear av);(try clear c7);(try clear ax);(try clear p8);(try clear q8);(try clear aX);(try clear c9);(try clear c10);(try clear ae);(try clear af);(try clear c12);(try clear p8);(try clear q8);obtain ⟨ac,a6,rfl,rfl,HA,aD,HO_25,J,HB⟩:=hrel
        cases gk with
        | zero=>exact absurd HA.out (by simp [spec_pzValue.l0])
        | succ k1 =>
          have H:=HA.out;clear HA;simp only [spec_pzValue.l0] at H;replace H:=iteE H;obtain ⟨am,H⟩ | ⟨am,H⟩:=H
          · replace H:=iteN H;obtain ⟨aZ,H⟩:=H;replace H:=iteN H;obtain ⟨b3,H⟩:=H;have H':=amk H;clear H;have ah:0≤(a6:Int):=dA_;have ai:a6 < (a8.length:Int):=dA_;obtain ⟨b4,aE,aG⟩:=Kd.at_int (Kd.R_reads' HO_25.out).2.2 a6 ah ai;cases aE;replace ah:=eq_true ah;replace ai:=eq_true ai;go_wp2;go_roundg k1
            case measure=>have:=aD.out;omega
            case rel=>exact ⟨(wrap64 (ac + (rd a8 a6))),(wrap64 (a6 + 1)),rS_,rS_,H',⟨by have:=aD.out;omega⟩,⟨oX HO_25⟩,⟨kB J⟩,⟨bB⟩⟩
          · obtain rfl:=Option.some.inj H;go_wp2;go_ret;exact ⟨rF_,bB⟩
    · rw [if_neg c10] at H;have ae:(a1 == 1)=false:=beq_eq_false_iff_ne.mpr c10;have af:(a1 != 1)=true:=bne_iff_ne.mpr c10
      by_cases c18:a1=2
      · rw [if_pos c18] at H;have an:(a1 == 2)=true:=beq_iff_eq.mpr c18;have ap:(a1 != 2)=false:=bne_eq_false_iff_eq.mpr c18;clear c18;replace H:=bE H;obtain ⟨t182,b5,H⟩:=H;replace H:=bE H;obtain ⟨⟨t183,aH⟩,b6,H⟩:=H;(try dsimp only at H);obtain rfl:=Option.some.inj H;go_enter Tryz.func97,Tryz.ntmps97;go_wp2_with (first | ((with_reducible refine gate_dst (N:=4) rfl ?_);refine boxE_ HB 4 #[.int .i64 Y, .int .i64 Z] 25 ?_;clear HB;intro a7 bh HB J aa ab hb;clear hb;obtain ⟨aI,aJ,aK,aM⟩:=cells2 J.out) | ((with_reducible refine gate_callee (f:=96) rfl ?_);refine goesL_ (some 41) rfl rfl Tryz.func96 (by kernel_rfl) rfl #[.agg #[.int .i64 Y, .int .i64 Z], .int .i64 a2] rfl gL_ ?_;(with_reducible refine (spec_whOf.calls k Y Z a2 t182 _ b5.out).mono ?_);rintro e bi ⟨rfl,hb⟩;refine ⟨_,rfl,?_⟩;replace J:=kb2 J hb;replace HB:=hB2 HB hb;(try clear hb)) | ((with_reducible refine gate_callee (f:=125) rfl ?_);refine goesL_ (some 43) rfl rfl Tryz.func125 (by kernel_rfl) rfl #[.string t182, .string a3] rfl gL_ ?_;(with_reducible refine (spec_hiOf.calls t182 a3 t183 aH _ b6.out).mono ?_);rintro e bj ⟨rfl,hb⟩;refine ⟨_,rfl,?_⟩;replace J:=kb2 J hb;replace HB:=hB2 HB hb;(try clear hb)));go_ret;exact ⟨rF_,bB⟩
      · rw [if_neg c18] at H;have an:(a1 == 2)=false:=beq_eq_false_iff_ne.mpr c18;have ap:(a1 != 2)=true:=bne_iff_ne.mpr c18
        by_cases c25:a1=3
        · rw [if_pos c25] at H;have ar:(a1 == 3)=true:=beq_iff_eq.mpr c25;have au:(a1 != 3)=false:=bne_eq_false_iff_eq.mpr c25;clear c25;replace H:=bE H;obtain ⟨aj,b7,H⟩:=H;replace H:=bE H;obtain ⟨aN,b8,H⟩:=H;obtain rfl:=Option.some.inj H;go_enter Tryz.func97,Tryz.ntmps97;(try go_wp2_with (first | ((with_reducible refine gate_dst (N:=4) rfl ?_);refine boxE_ HB 4 #[.int .i64 Y, .int .i64 Z] 25 ?_;clear HB;intro a7 b9 HB J aa ab hb;clear hb)));replace J:=amk (blk_drew J.out);replace HB:=amk (bd_ HB.out);refine start_ (n:=7) (S:=fun w'=>w'.cell? ⟨a7,0,none⟩=some (.int .i64 Y)∧w'.cell? ⟨a7,1,none⟩=some (.int .i64 Z)) (ds:=[]) (bA 7 0) (by kernel_rfl) rfl rfl ⟨(blk_cell J.out 0).trans rfl,(blk_cell J.out 1).trans rfl⟩ (fun hHeld=>?_);generalize b9.drew=bk at J HB hHeld ⊢;refine pure_ (i:=2) (N:=some 51) (v:=?_) (a':=?_) #[false,false,true,false,false,false,false] rfl rfl (by kernel_rfl) (fun _ _ _ h=>h) (Or.inl ⟨by rfl,?_⟩) ?_ ?_;rotate_left
          · intro w'
            go_simp
            (with_reducible rfl)
          rotate_left
          · simp only [Act.put,List.setIfInBounds_toArray,List.set_cons_zero,List.set_cons_succ,i64_w,i32_w]
            rfl
          refine pure_ (i:=4) (N:=some 53) (v:=?_) (a':=?_) #[false,false,true,false,true,false,false] rfl rfl (by kernel_rfl) (fun _ _ _ h=>h) (Or.inl ⟨by rfl,?_⟩) ?_ ?_;rotate_left
          · intro w'
            go_simp
            (with_reducible rfl)
          rotate_left
          · simp only [Act.put,List.setIfInBounds_toArray,List.set_cons_zero,List.set_cons_succ,i64_w,i32_w]
            rfl
          refine take_ (i:=0) (N:=some 49) (v:=?_) (a':=?_) #[true,false,true,false,true,false,false] rfl rfl (by kernel_rfl) (fun _ _ _ h=>h) (Or.inl ⟨by rfl,?_⟩) hHeld ?_ ?_;rotate_left
          · rintro w' ⟨s0,s1⟩
            go_simp
            (with_reducible rfl)
          rotate_left
          · simp only [Act.put,List.setIfInBounds_toArray,List.set_cons_zero,List.set_cons_succ,i64_w,i32_w]
            rfl
          refine take_ (i:=1) (N:=some 50) (v:=?_) (a':=?_) #[true,true,true,false,true,false,false] rfl rfl (by kernel_rfl) (fun _ _ _ h=>h) (Or.inl ⟨by rfl,?_⟩) hHeld ?_ ?_;rotate_left
          · rintro w' ⟨s0,s1⟩
            go_simp
            (with_reducible rfl)
          rotate_left
          · simp only [Act.put,List.setIfInBounds_toArray,List.set_cons_zero,List.set_cons_succ,i64_w,i32_w]
            rfl
          refine one_ (i:=3) (N:=some 52) #[true,true,true,true,true,false,false] rfl rfl (by kernel_rfl) (by decide) (fun K hK=>?_);refine goes_ Tryz.func96 (by kernel_rfl) rfl #[.agg #[.int .i64 Y, .int .i64 Z], .int .i64 a2] (by rfl) rfl rfl gL_ ?_;(with_reducible refine (spec_whOf.calls k Y Z a2 aj _ b7.out).mono ?_);rintro e bl ⟨rfl,hb⟩;refine ⟨_,rfl,?_⟩;replace J:=kb2 J hb;replace HB:=hB2 HB hb;(try clear hb);refine hK.out _ _ hC_ (fun hHeld=>?_);clear hK K;refine nN_ (some 52) ?_;refine one_ (i:=5) (N:=some 54) #[true,true,true,true,true,true,false] rfl rfl (by kernel_rfl) (by decide) (fun K hK=>?_);refine goes_ Tryz.func126 (by kernel_rfl) rfl #[.agg #[.int .i64 Y, .int .i64 Z], .string aj, .string a3] (by rfl) rfl rfl gL_ ?_;(with_reducible refine (spec_whDistance.calls k Y Z aj a3 aN _ b8.out).mono ?_);rintro e bm ⟨rfl,hb⟩;refine ⟨_,rfl,?_⟩;replace J:=kb2 J hb;replace HB:=hB2 HB hb;(try clear hb);refine hK.out _ _ hC_ (fun hHeld=>?_);clear hK K;refine nN_ (some 54) ?_;refine pure_ (i:=6) (N:=some 8) (v:=?_) (a':=?_) #[true,true,true,true,true,true,true] rfl rfl (by kernel_rfl) (fun _ _ _ h=>h) (Or.inl ⟨by rfl,?_⟩) ?_ ?_;rotate_left
          · intro w'
            go_simp
            (with_reducible rfl)
          rotate_left
          · simp only [Act.put,List.setIfInBounds_toArray,List.set_cons_zero,List.set_cons_succ,i64_w,i32_w]
            rfl
          refine done_ (by kernel_rfl) ?_;(try go_wp2);go_ret;exact ⟨rF_,bB⟩
        · rw [if_neg c25] at H;have ar:(a1 == 3)=false:=beq_eq_false_iff_ne.mpr c25;have au:(a1 != 3)=true:=bne_iff_ne.mpr c25;replace H:=bE H;obtain ⟨aQ,ba,H⟩:=H
          by_cases c33:a2=0
          · rw [if_pos c33] at H;exact absurd H (by simp)
          · rw [if_neg c33] at H;have bb:(a2 == 0)=false:=beq_eq_false_iff_ne.mpr c33;have bc:(a2 != 0)=true:=bne_iff_ne.mpr c33;obtain rfl:=Option.some.inj H;go_enter Tryz.func97,Tryz.ntmps97;go_wp2_with (first | ((with_reducible refine gate_dst (N:=4) rfl ?_);refine boxE_ HB 4 #[.int .i64 Y, .int .i64 Z] 25 ?_;clear HB;intro a7 bn HB J aa ab hb;clear hb;obtain ⟨aT,aU,aV,aW⟩:=cells2 J.out) | ((with_reducible refine gate_callee (f:=127) rfl ?_);refine goesL_ (some 57) rfl rfl Tryz.func127 (by kernel_rfl) rfl #[.agg #[.int .i64 Y, .int .i64 Z], .string a3] rfl gL_ ?_;(with_reducible refine (spec_whNumber.calls k Y Z a3 aQ _ ba.out).mono ?_);rintro e bo ⟨rfl,hb⟩;refine ⟨_,rfl,?_⟩;replace J:=kb2 J hb;replace HB:=hB2 HB hb;(try clear hb)));go_ret;exact ⟨rF_,bB⟩
/-! ### spec_pzFits: function 68 -/
def spec_pzFits.f (k:Nat) (J:Int) (Y:Int) (Z:Int) (a1:Int) (a6:Int) (a2:ByteArray):Option (Bool):=if Z=1 then ((spec_pzValue.f k J Y 1 0 a2).bind fun a7=>(some (a7 == a1))) else ((spec_pzValue.f k J Y Z a1 a2).bind fun a8=>(some (a8 == a6)))
def spec_pzFits.T3:Bool×List (List Nat×List Nat):=(true,[([],[]),([],[]),([1],[1]),([],[]),([3],[3]),([],[]),([0,2,4,5],[0,2,4,5]),([],[]),([7],[7]),([6,8],[6,8]),([9,6,0,1,2,3,4,5,6,7,8,9],[9])])
def spec_pzFits.B3:List Nat:=[0,0,2,0,8,0,63,0,128,511,1023]
theorem spec_pzFits.tab3:rtab .any (opsOf Tryz.f68 3)=spec_pzFits.T3:=by kernel_rfl
theorem spec_pzFits.bits3:waitsOk spec_pzFits.T3.2 spec_pzFits.B3=true:=by kernel_rfl
set_option maxHeartbeats 8000000 in
set_option maxRecDepth 100000 in
theorem spec_pzFits.calls (k:Nat) (a1:Int) (a6:Int) (Z:Int) (ab:Int) (ae:Int) (a2:ByteArray) (r:Bool) (w:World) (h:spec_pzFits.f k a1 a6 Z ab ae a2=some r) :
    Calls Tryz.prog 68 #[.agg #[.int .i64 a1, .int .i64 a6], .agg #[.int .i64 Z, .int .i64 ab, .int .i64 ae], .string a2] w fun e w'=>e = .returned (.bool r)∧Below w.heap.size w w':=by
  have aK:=Tryz.underlying25;have aM:=Tryz.underlying48;have HB:=amk (Below.refl w.heap.size w);unfold spec_pzFits.f at h;have H:=h;clear h
  by_cases c4:Z=1
  · rw [if_pos c4] at H;have aj:(Z == 1)=true:=beq_iff_eq.mpr c4;have ak:(Z != 1)=false:=bne_eq_false_iff_eq.mpr c4;clear c4;replace H:=bE H;obtain ⟨al,A5,H⟩:=H;obtain rfl:=Option.some.inj H;go_enter Tryz.func68,Tryz.ntmps68;(try go_wp2_with (first | ((with_reducible refine gate_dst (N:=3) rfl ?_);refine boxE_ HB 3 #[.int .i64 a1, .int .i64 a6] 25 ?_;clear HB;intro ac w6 HB J af ag hb;clear hb) | ((with_reducible refine gate_dst (N:=4) rfl ?_);refine boxG_ 4 #[.int .i64 Z, .int .i64 ab, .int .i64 ae] 48 ?_;intro a7 w7 hg Y hb;have ah:=sZ HB hg;have ai:=sZ HB hg;replace HB:=hB2 HB hb;have a8:=neL J hg;have aa:=neR J hg;replace J:=kb2 J hb;clear hb hg;have aN:=aa.out;have aQ:=a8.out;obtain ⟨ay,az,aA,aC,aD,aE⟩:=cells3 Y.out)));replace J:=amk (blk_drew J.out);replace Y:=amk (blk_drew Y.out);replace HB:=amk (bd_ HB.out);refine start_ (n:=7) (S:=fun w'=>w'.cell? ⟨ac,0,none⟩=some (.int .i64 a1)∧w'.cell? ⟨ac,1,none⟩=some (.int .i64 a6)∧w'.cell? ⟨a7,0,none⟩=some (.int .i64 Z)∧w'.cell? ⟨a7,1,none⟩=some (.int .i64 ab)∧w'.cell? ⟨a7,2,none⟩=some (.int .i64 ae)) (ds:=[]) (bA 7 0) (by kernel_rfl) rfl rfl ⟨(blk_cell J.out 0).trans rfl,(blk_cell J.out 1).trans rfl,(blk_cell Y.out 0).trans rfl,(blk_cell Y.out 1).trans rfl,(blk_cell Y.out 2).trans rfl⟩ (fun hHeld=>?_);generalize w7.drew=aT at J Y HB hHeld ⊢;refine pure_ (i:=1) (N:=some 11) (v:=?_) (a':=?_) #[false,true,false,false,false,false,false] rfl rfl (by kernel_rfl) (fun _ _ _ h=>h) (Or.inl ⟨by rfl,?_⟩) ?_ ?_;rotate_left
    · intro w'
      go_simp
      (with_reducible rfl)
    rotate_left
    · simp only [Act.put,List.setIfInBounds_toArray,List.set_cons_zero,List.set_cons_succ,i64_w,i32_w]
      rfl
    refine pure_ (i:=3) (N:=some 13) (v:=?_) (a':=?_) #[false,true,false,true,false,false,false] rfl rfl (by kernel_rfl) (fun _ _ _ h=>h) (Or.inl ⟨by rfl,?_⟩) ?_ ?_;rotate_left
    · intro w'
      go_simp
      (with_reducible rfl)
    rotate_left
    · simp only [Act.put,List.setIfInBounds_toArray,List.set_cons_zero,List.set_cons_succ,i64_w,i32_w]
      rfl
    refine take_ (i:=0) (N:=some 10) (v:=?_) (a':=?_) #[true,true,false,true,false,false,false] rfl rfl (by kernel_rfl) (fun _ _ _ h=>h) (Or.inl ⟨by rfl,?_⟩) hHeld ?_ ?_;rotate_left
    · rintro w' ⟨s0,s1,s2,s3,s4⟩
      go_simp
      (with_reducible rfl)
    rotate_left
    · simp only [Act.put,List.setIfInBounds_toArray,List.set_cons_zero,List.set_cons_succ,i64_w,i32_w]
      rfl
    refine take_ (i:=4) (N:=some 14) (v:=?_) (a':=?_) #[true,true,false,true,true,false,false] rfl rfl (by kernel_rfl) (fun _ _ _ h=>h) (Or.inl ⟨by rfl,?_⟩) hHeld ?_ ?_;rotate_left
    · rintro w' ⟨s0,s1,s2,s3,s4⟩
      go_simp
      (with_reducible rfl)
    rotate_left
    · simp only [Act.put,List.setIfInBounds_toArray,List.set_cons_zero,List.set_cons_succ,i64_w,i32_w]
      rfl
    refine one_ (i:=2) (N:=some 12) #[true,true,true,true,true,false,false] rfl rfl (by kernel_rfl) (by decide) (fun K hK=>?_);refine goes_ Tryz.func97 (by kernel_rfl) rfl #[.agg #[.int .i64 a1, .int .i64 a6], .int .i64 1, .int .i64 0, .string a2] (by rfl) rfl rfl gL_ ?_;(with_reducible refine (spec_pzValue.calls k a1 a6 1 0 a2 al _ A5.out).mono ?_);rintro e aU ⟨rfl,hb⟩;refine ⟨_,rfl,?_⟩;replace J:=kb2 J hb;replace Y:=kb2 Y hb;replace HB:=hB2 HB hb;(try clear hb);refine hK.out _ _ hC_ (fun hHeld=>?_);clear hK K;refine nN_ (some 12) ?_;refine pure_ (i:=5) (N:=some 15) (v:=?_) (a':=?_) #[true,true,true,true,true,true,false] rfl rfl (by kernel_rfl) (fun _ _ _ h=>h) (Or.inl ⟨by rfl,?_⟩) ?_ ?_;rotate_left
    · intro w'
      go_simp
      (with_reducible rfl)
    rotate_left
    · simp only [Act.put,List.setIfInBounds_toArray,List.set_cons_zero,List.set_cons_succ,i64_w,i32_w]
      rfl
    refine pure_ (i:=6) (N:=some 6) (v:=?_) (a':=?_) #[true,true,true,true,true,true,true] rfl rfl (by kernel_rfl) (fun _ _ _ h=>h) (Or.inl ⟨by rfl,?_⟩) ?_ ?_;rotate_left
    · intro w'
      go_simp
      (with_reducible rfl)
    rotate_left
    · simp only [Act.put,List.setIfInBounds_toArray,List.set_cons_zero,List.set_cons_succ,i64_w,i32_w]
      rfl
    refine done_ (by kernel_rfl) ?_;(try go_wp2);go_ret;exact ⟨rF_,bB⟩
  · rw [if_neg c4] at H;have aj:(Z == 1)=false:=beq_eq_false_iff_ne.mpr c4;have ak:(Z != 1)=true:=bne_iff_ne.mpr c4;replace H:=bE H;obtain ⟨am,aG,H⟩:=H;obtain rfl:=Option.some.inj H;go_enter Tryz.func68,Tryz.ntmps68;(try go_wp2_with (first | ((with_reducible refine gate_dst (N:=3) rfl ?_);refine boxE_ HB 3 #[.int .i64 a1, .int .i64 a6] 25 ?_;clear HB;intro ac aV HB J af ag hb;clear hb) | ((with_reducible refine gate_dst (N:=4) rfl ?_);refine boxG_ 4 #[.int .i64 Z, .int .i64 ab, .int .i64 ae] 48 ?_;intro a7 aH hg Y hb;have ah:=sZ HB hg;have ai:=sZ HB hg;replace HB:=hB2 HB hb;have a8:=neL J hg;have aa:=neR J hg;replace J:=kb2 J hb;clear hb hg;have aI:=aa.out;have aJ:=a8.out;obtain ⟨an,ap,ar,au,av,ax⟩:=cells3 Y.out)));replace J:=amk (blk_drew J.out);replace Y:=amk (blk_drew Y.out);replace HB:=amk (bd_ HB.out);refine start_ (n:=11) (S:=fun w'=>w'.cell? ⟨ac,0,none⟩=some (.int .i64 a1)∧w'.cell? ⟨ac,1,none⟩=some (.int .i64 a6)∧w'.cell? ⟨a7,0,none⟩=some (.int .i64 Z)∧w'.cell? ⟨a7,1,none⟩=some (.int .i64 ab)∧w'.cell? ⟨a7,2,none⟩=some (.int .i64 ae)) (ds:=[]) (bA 11 0) (by kernel_rfl) rfl rfl ⟨(blk_cell J.out 0).trans rfl,(blk_cell J.out 1).trans rfl,(blk_cell Y.out 0).trans rfl,(blk_cell Y.out 1).trans rfl,(blk_cell Y.out 2).trans rfl⟩ (fun hHeld=>?_);refine with_tabW spec_pzFits.tab3 spec_pzFits.bits3 (fun HT_ HW_=>?_);generalize aH.drew=aW at J Y HB hHeld ⊢;refine pU_ HT_ 1 (some 17) (bA 11 2) ?_;refine pU_ HT_ 3 (some 19) (bA 11 10) ?_;refine pU_ HT_ 5 (some 21) (bA 11 42) ?_;refine pU_ HT_ 7 (some 23) (bA 11 170) ?_;refine tK_ HT_ HW_ hHeld 0 (some 16) (bA 11 171) ?_;refine tK_ HT_ HW_ hHeld 2 (some 18) (bA 11 175) ?_;refine tK_ HT_ HW_ hHeld 4 (some 20) (bA 11 191) ?_;refine tK_ HT_ HW_ hHeld 8 (some 24) (bA 11 447) ?_;refine oN_ HT_ 6 (some 22) (bA 11 511) (fun K hK=>?_);refine goes_ Tryz.func97 (by kernel_rfl) rfl #[.agg #[.int .i64 a1, .int .i64 a6], .int .i64 Z, .int .i64 ab, .string a2] (by rfl) rfl rfl gL_ ?_;(with_reducible refine (spec_pzValue.calls k a1 a6 Z ab a2 am _ aG.out).mono ?_);rintro e aX ⟨rfl,hb⟩;refine ⟨_,rfl,?_⟩;replace J:=kb2 J hb;replace Y:=kb2 Y hb;replace HB:=hB2 HB hb;(try clear hb);refine hK.out _ _ hC_ (fun hHeld=>?_);clear hK K;refine nN_ (some 22) ?_;refine pU_ HT_ 9 (some 25) (bA 11 1023) ?_;refine pU_ HT_ 10 (some 6) (bA 11 2047) ?_;refine done_ (done_of HT_.out (by kernel_rfl)) ?_;(try go_wp2);go_ret;exact ⟨rF_,bB⟩
/-! ### spec_pzAll: function 40 -/
mutual
def spec_pzAll.l0:Nat→List (S48)→List ByteArray→List ByteArray→Int→Int→Int→Int→Option (List ByteArray)
  | 0,_,_,_,_,_,_,_=>none
  | k + 1,x1,x5,a1,a7,Z,J,Y=>if Z < a7 then (if 0≤Z then (if Z < (a1.length:Int) then (spec_pzAll.l1 k x1 x5 (rdOf ByteArray.empty a1 Z) true a1 a7 Z x1 (x1.length:Int) 0 J Y) else (none)) else (none)) else (some x5)
def spec_pzAll.l1:Nat→List (S48)→List ByteArray→ByteArray→Bool→List ByteArray→Int→Int→List (S48)→Int→Int→Int→Int→Option (List ByteArray)
  | 0,_,_,_,_,_,_,_,_,_,_,_,_=>none
  | k + 1,x1,x5,x7,x8,a1,a7,Z,a8,aa,a6,J,Y=>if a6 < aa then (if 0≤a6 then (if a6 < (a8.length:Int) then (if x8=true then ((spec_pzFits.f k J Y ((rd_T48 a8 a6).f0) ((rd_T48 a8 a6).f1) ((rd_T48 a8 a6).f2) x7).bind fun ab=>(spec_pzAll.l1 k x1 x5 x7 ab a1 a7 Z a8 aa (wrap64 (a6 + 1)) J Y)) else (spec_pzAll.l1 k x1 x5 x7 false a1 a7 Z a8 aa (wrap64 (a6 + 1)) J Y)) else (none)) else (none)) else (if x8=true then (if x5.length < 8796093022208 then (spec_pzAll.l0 k x1 (x5 ++ [x7]) a1 a7 (wrap64 (Z + 1)) J Y) else (none)) else (spec_pzAll.l0 k x1 x5 a1 a7 (wrap64 (Z + 1)) J Y))
end
def spec_pzAll.f (k:Nat) (J:Int) (Y:Int) (l1:List (S48)):Option (List ByteArray):=(spec_hiAll.f k J Y).bind fun t193=>(spec_pzAll.l0 k l1 ([]:List ByteArray) t193 (t193.length:Int) 0 J Y)
set_option maxHeartbeats 8000000 in
set_option maxRecDepth 100000 in
theorem spec_pzAll.calls (k:Nat) (ab:Int) (ac:Int) (A1:Option Addr) (c1:Nat) (l1:List (S48)) (r:List ByteArray) (w:World) (aV:Kd.C k48 w A1 l1.length l1) (aW:l1.length≤c1) (h:spec_pzAll.f k ab ac l1=some r) :
    Calls Tryz.prog 40 #[.agg #[.int .i64 ab, .int .i64 ac], .slice A1 l1.length c1] w fun e w'=> ∃ v0_:Value,e = .returned (v0_)∧Kd.R Kd.string 9 w' w.heap.size (fun _=>True) v0_ r∧Below w.heap.size w w':=by
  have bD:=Tryz.underlying25;have bF:=Tryz.underlying48;have aX:=amk aV;have bH:=amk aW;clear aV aW;have HB:=amk (Below.refl w.heap.size w);unfold spec_pzAll.f at h;have H:=h;clear h;replace H:=bE H;obtain ⟨t193,A3,H⟩:=H;have H':=amk H;clear H;go_enter Tryz.func40,Tryz.ntmps40;go_wp2_with (first | ((with_reducible refine gate_dst (N:=2) rfl ?_);refine boxE_ HB 2 #[.int .i64 ab, .int .i64 ac] 25 ?_;clear HB;intro ax w4 HB Y bm bn hb;clear hb;obtain ⟨am,an,ap,ar⟩:=cells2 Y.out) | ((with_reducible refine gate_callee (f:=67) rfl ?_);refine goesL_ (some 12) rfl rfl Tryz.func67 (by kernel_rfl) rfl #[.agg #[.int .i64 ab, .int .i64 ac]] rfl gL_ ?_;(with_reducible refine (spec_hiAll.calls k ab ac t193 _ A3.out).mono ?_);rintro e w6 ⟨v194,rfl,aY,hb⟩;refine ⟨_,rfl,?_⟩;have ay:=amk (Kd.R_lower aY (below_size bB));replace Y:=kb2 Y hb;replace HB:=hB2 HB hb;(try clear hb);(try clear aY);obtain ⟨aZ,az,bo⟩:=Kd.R_slice ay.out;subst bo))
  go_loopg [5,14] k (fun kq v5 bp w'=> ∃ (ag:List ByteArray) (Z:Int),bp = .int .i64 Z∧Aside0 (spec_pzAll.l0 kq l1 ag t193 (t193.length:Int) Z ab ac=some r)∧Aside0 (kq≤k)∧Aside0 (Kd.R Kd.string 9 w' w.heap.size (fun k_=>some k_≠((.slice aZ t193.length az):Value).ownBlock) v5 ag)∧Aside0 (Kd.R Kd.string 9 w' w.heap.size (fun k_=>some k_≠(v5:Value).ownBlock) (.slice aZ t193.length az) t193)∧Aside0 (w'.heap[ax]?=some (.cells #[.int .i64 ab, .int .i64 ac] 25 (0,0)))∧Aside0 (Below w.heap.size w w'))
  case atStart=>exact ⟨(([]:List ByteArray)),(0),rS_,H',⟨Nat.le_refl _⟩,⟨xN_⟩,⟨by (with_reducible repeat (first | apply Kd.R_alloc | apply Kd.R_drewN | apply Kd.R_drew));exact Kd.R_mono ay.out (fun _ hk=>(by simp [Value.ownBlock]))⟩,⟨kB Y⟩,⟨bB⟩⟩
  case round =>
    clear H';(try clear c1);(try clear p2);(try clear c4);(try clear c6);(try clear am);(try clear an);(try clear ap);(try clear ar);obtain ⟨ag,Z,rfl,HA,aj,HO_5,HO_12,Y,HB⟩:=hrel
    cases gk with
    | zero=>exact absurd HA.out (by simp [spec_pzAll.l0])
    | succ k1 =>
      have H:=HA.out;clear HA;simp only [spec_pzAll.l0] at H;replace H:=iteE H;obtain ⟨aG,H⟩ | ⟨aG,H⟩:=H
      · replace H:=iteN H;obtain ⟨b3,H⟩:=H;replace H:=iteN H;obtain ⟨aI,H⟩:=H;have H':=amk H;clear H;have au:0≤(Z:Int):=dA_;have av:Z < (t193.length:Int):=dA_;obtain ⟨al,b4,aA⟩:=Kd.at_string (Kd.R_reads' HO_12.out).2.2 Z au av;cases b4;replace au:=eq_true au;replace av:=eq_true av;go_wp2
        go_loopg [8,20] k1 (fun kq v8 v20 w'=> ∃ (aC:Bool) (J:Int),v8 = .bool aC∧v20 = .int .i64 J∧Aside0 (spec_pzAll.l1 kq l1 ag (rdOf ByteArray.empty t193 Z) aC t193 (t193.length:Int) Z l1 (l1.length:Int) J ab ac=some r)∧Aside0 (kq≤k1)∧Aside0 (Kd.R Kd.string 9 w' w.heap.size (fun k_=>some k_≠((.slice (some al) t193.length az):Value).ownBlock) u5 ag)∧Aside0 (Kd.R Kd.string 9 w' w.heap.size (fun k_=>some k_≠(u5:Value).ownBlock) (.slice (some al) t193.length az) t193)∧Aside0 (w'.heap[ax]?=some (.cells #[.int .i64 ab, .int .i64 ac] 25 (0,0)))∧Aside0 (Below w.heap.size w w'))
        case atStart=>exact ⟨(true),(0),rS_,rS_,H',⟨Nat.le_refl _⟩,⟨oX HO_5⟩,⟨oX HO_12⟩,⟨kB Y⟩,⟨bB⟩⟩
        case round =>
          clear H';(try clear c1);(try clear p1);(try clear q1);(try clear hx1);(try clear p2);(try clear c4);(try clear c6);(try clear c8);(try clear aG);(try clear c9);(try clear b3);(try clear c10);(try clear aI);(try clear am);(try clear an);(try clear ap);(try clear ar);(try clear aA);(try clear au);(try clear p2);(try clear av);obtain ⟨aC,J,rfl,rfl,HA,ak,HO_5,HO_12,Y,HB⟩:=hrel
          cases gk with
          | zero=>exact absurd HA.out (by simp [spec_pzAll.l1])
          | succ k2 =>
            have H:=HA.out;clear HA;simp only [spec_pzAll.l1] at H;replace H:=iteE H;obtain ⟨aJ,H⟩ | ⟨aJ,H⟩:=H
            · replace H:=iteN H;obtain ⟨bq,H⟩:=H;replace H:=iteN H;obtain ⟨br,H⟩:=H;replace H:=iteB H;obtain ⟨rfl,H⟩ | ⟨rfl,H⟩:=H
              · replace H:=bE H;obtain ⟨aH,bu,H⟩:=H;have H':=amk H;clear H;have ah:0≤(J:Int):=dA_;have ai:J < (l1.length:Int):=dA_;obtain ⟨aK,aD,a6,a7,a8⟩:=at_T48 aX.out J ah ai;cases aD;replace a6:=(HB.out.cell (World.block_lt_of_cell? w _ a6)).trans a6;replace a7:=(HB.out.cell (World.block_lt_of_cell? w _ a7)).trans a7;replace a8:=(HB.out.cell (World.block_lt_of_cell? w _ a8)).trans a8;replace ah:=eq_true ah;replace ai:=eq_true ai;go_wp2_with (first | ((with_reducible refine gate_dst (N:=10) rfl ?_);refine boxG_ 10 #[.int .i64 0, .int .i64 0, .int .i64 0] 48 ?_;intro a1 bJ hg aa hb;replace HO_5:=amk (Kd.R_below (oX HO_5) hb);replace HO_12:=amk (Kd.R_below (oX HO_12) hb);have aM:=sZ HB hg;have aN:=sZ HB hg;replace HB:=hB2 HB hb;have ae:=neL Y hg;have af:=neR Y hg;replace Y:=kb2 Y hb;clear hb hg;have bv:=af.out;have bw:=ae.out;obtain ⟨b5,b6,b7,b8,b9,ba⟩:=cells3 aa.out;obtain ⟨bb,bc,bd,be⟩:=cells2 Y.out) | (go_at_call 68;(with_reducible refine (spec_pzFits.calls k2 ab ac ((rd_T48 l1 J).f0) ((rd_T48 l1 J).f1) ((rd_T48 l1 J).f2) (rdOf ByteArray.empty t193 Z) aH _ bu.out).mono ?_);rintro e bL ⟨rfl,hb⟩;replace HO_5:=amk (Kd.R_below (by (with_reducible repeat (first | apply Kd.R_alloc | apply Kd.R_drewN | apply Kd.R_drew));exact (Kd.R_mono (Kd.R_far (p:=⟨a1,2,none⟩) (Kd.R_far (p:=⟨a1,1,none⟩) (Kd.R_far (p:=⟨a1,0,none⟩) (Kd.R_types HO_5.out aa.out (by decide)) (fun _ hk=>hk.2) (.int .i64 ((rd_T48 l1 J).f0))) (fun _ hk=>hk.2) (.int .i64 ((rd_T48 l1 J).f1))) (fun _ hk=>hk.2) (.int .i64 ((rd_T48 l1 J).f2))) (fun _ h_=>h_.1))) hb);replace HO_12:=amk (Kd.R_below (by (with_reducible repeat (first | apply Kd.R_alloc | apply Kd.R_drewN | apply Kd.R_drew));exact (Kd.R_mono (Kd.R_far (p:=⟨a1,2,none⟩) (Kd.R_far (p:=⟨a1,1,none⟩) (Kd.R_far (p:=⟨a1,0,none⟩) (Kd.R_types HO_12.out aa.out (by decide)) (fun _ hk=>hk.2) (.int .i64 ((rd_T48 l1 J).f0))) (fun _ hk=>hk.2) (.int .i64 ((rd_T48 l1 J).f1))) (fun _ hk=>hk.2) (.int .i64 ((rd_T48 l1 J).f2))) (fun _ h_=>h_.1))) hb);replace Y:=kb2 Y hb;replace aa:=amk (blk_below (g:=a1) (o:= .cells #[.int .i64 ((rd_T48 l1 J).f0), .int .i64 ((rd_T48 l1 J).f1), .int .i64 ((rd_T48 l1 J).f2)] 48 (0,0)) (kP aa) hb);replace HB:=hB2 HB hb;(try clear hb)));go_roundg k2
                case measure=>have:=aj.out;have:=ak.out;omega
                case rel=>exact ⟨(aH),(wrap64 (J + 1)),rS_,rS_,H',⟨by have:=aj.out;have:=ak.out;omega⟩,⟨oX HO_5⟩,⟨oX HO_12⟩,⟨kB Y⟩,⟨bB⟩⟩
              · have H':=amk H;clear H;have ah:0≤(J:Int):=dA_;have ai:J < (l1.length:Int):=dA_;obtain ⟨aK,aD,a6,a7,a8⟩:=at_T48 aX.out J ah ai;cases aD;replace a6:=(HB.out.cell (World.block_lt_of_cell? w _ a6)).trans a6;replace a7:=(HB.out.cell (World.block_lt_of_cell? w _ a7)).trans a7;replace a8:=(HB.out.cell (World.block_lt_of_cell? w _ a8)).trans a8;replace ah:=eq_true ah;replace ai:=eq_true ai;go_wp2_with (first | ((with_reducible refine gate_dst (N:=10) rfl ?_);refine boxG_ 10 #[.int .i64 0, .int .i64 0, .int .i64 0] 48 ?_;intro a1 bM hg aa hb;replace HO_5:=amk (Kd.R_below (oX HO_5) hb);replace HO_12:=amk (Kd.R_below (oX HO_12) hb);have aM:=sZ HB hg;have aN:=sZ HB hg;replace HB:=hB2 HB hb;have ae:=neL Y hg;have af:=neR Y hg;replace Y:=kb2 Y hb;clear hb hg;have bz:=af.out;have bC:=ae.out;obtain ⟨bf,bg,bh,bi,bj,bk⟩:=cells3 aa.out));go_roundg k2
                case measure=>have:=aj.out;have:=ak.out;omega
                case rel=>exact ⟨(false),(wrap64 (J + 1)),rS_,rS_,H',⟨by have:=aj.out;have:=ak.out;omega⟩,⟨by (with_reducible repeat (first | apply Kd.R_alloc | apply Kd.R_drewN | apply Kd.R_drew));exact Kd.R_mono (Kd.R_far (p:=⟨a1,2,none⟩) (Kd.R_far (p:=⟨a1,1,none⟩) (Kd.R_far (p:=⟨a1,0,none⟩) (Kd.R_types HO_5.out aa.out (by decide)) (fun _ hk=>hk.2) (.int .i64 ((rd_T48 l1 J).f0))) (fun _ hk=>hk.2) (.int .i64 ((rd_T48 l1 J).f1))) (fun _ hk=>hk.2) (.int .i64 ((rd_T48 l1 J).f2))) (fun _ hk=>hk.1)⟩,⟨by (with_reducible repeat (first | apply Kd.R_alloc | apply Kd.R_drewN | apply Kd.R_drew));exact Kd.R_mono (Kd.R_far (p:=⟨a1,2,none⟩) (Kd.R_far (p:=⟨a1,1,none⟩) (Kd.R_far (p:=⟨a1,0,none⟩) (Kd.R_types HO_12.out aa.out (by decide)) (fun _ hk=>hk.2) (.int .i64 ((rd_T48 l1 J).f0))) (fun _ hk=>hk.2) (.int .i64 ((rd_T48 l1 J).f1))) (fun _ hk=>hk.2) (.int .i64 ((rd_T48 l1 J).f2))) (fun _ hk=>hk.1)⟩,⟨kB Y⟩,⟨bB⟩⟩
            · replace H:=iteB H;obtain ⟨rfl,H⟩ | ⟨rfl,H⟩:=H
              · by_cases c25:ag.length < 8796093022208
                · rw [if_pos c25] at H;have aQ:=amk c25;clear c25;(try rw [Option.bind_some] at H);generalize aE:((ag ++ [(rdOf ByteArray.empty t193 Z)]):List ByteArray)=bl at H;have aT:=amk aE.symm;clear aE;have H':=amk H;clear H;go_wp2_with (first | ((with_reducible refine gate_builtin (b:= .append) (xs:= #[.tmp 33, .tmp 35]) rfl ?_);at_builtin;refine Kd.R_append Kd.string (w0:=w) w.heap.size rfl (.tmp 33) (.tmp 35) 30 9 (.string ⟨#[]⟩) 16 rfl Tryz.underlying30 info9 rfl (by decide) (by omega) u5 ag (rdOf ByteArray.empty t193 Z) [.string (rdOf ByteArray.empty t193 Z)] (fun k_=>some k_≠(.slice (some al) t193.length az:Value).ownBlock) (fun _=>False) rfl rfl rfl (fun _ hk=>hk.elim) (fun k_ hk=>Kd.fresh' (Kd.R_lt (oX HO_12)) k_ hk) (oX HO_5) bB (below_size bB) (by have:=aQ.out;omega) ?_;intro v201 bN ho hb hg hat;rw [←aT.out] at ho;replace HO_12:=amk (Kd.R_after (ok:=(fun _=>True)) (by (with_reducible repeat (first | apply Kd.R_alloc | apply Kd.R_drewN | apply Kd.R_drew));exact Kd.R_mono HO_12.out (fun _ hk=>⟨trivial,hk⟩)) hg hat);replace Y:=bG Y hg (Kd.R_ne HO_5.out Y.out (by decide));replace HB:=amk (hb);have aU:=amk (ho);clear HO_5;clear ho hb hg hat));go_roundg k2
                  case measure=>have:=aj.out;have:=ak.out;omega
                  case rel=>exact ⟨(bl),(wrap64 (Z + 1)),rS_,H',⟨by have:=aj.out;have:=ak.out;omega⟩,⟨oX aU⟩,⟨by (with_reducible repeat (first | apply Kd.R_alloc | apply Kd.R_drewN | apply Kd.R_drew));exact Kd.R_mono HO_12.out (fun _ hk=>hk.2)⟩,⟨kB Y⟩,⟨bB⟩⟩
                · rw [if_neg c25] at H;exact absurd H (by simp)
              · have H':=amk H;clear H;go_wp2;go_roundg k2
                case measure=>have:=aj.out;have:=ak.out;omega
                case rel=>exact ⟨(ag),(wrap64 (Z + 1)),rS_,H',⟨by have:=aj.out;have:=ak.out;omega⟩,⟨oX HO_5⟩,⟨oX HO_12⟩,⟨kB Y⟩,⟨bB⟩⟩
      · obtain rfl:=Option.some.inj H;go_wp2;go_ret;exact ⟨_,rF_,by (with_reducible repeat (first | apply Kd.R_alloc | apply Kd.R_drewN | apply Kd.R_drew));exact Kd.R_mono HO_5.out (fun _ hk=>trivial),bB⟩
/-! ### spec_BestClue: function 21 -/
mutual
def spec_BestClue.j0:Nat→Bool→Int→Int→List (S48)→Option (Int×Bool)
  | 0,_,_,_,_=>none
  | k + 1,a8,Y,Z,J=>if a8=true then (some (0,false)) else (spec_BestClue.l0 k 0 0 (J.length:Int) 0 Y Z J)
def spec_BestClue.l0:Nat→Int→Int→Int→Int→Int→Int→List (S48)→Option (Int×Bool)
  | 0,_,_,_,_,_,_,_=>none
  | k + 1,x4,x5,a7,a1,Y,Z,J=>if a1 < a7 then (if 0≤a1 then (if a1≤(wrap64 (a1 + 1)) then (if (wrap64 (a1 + 1))≤(J.length:Int) then ((spec_pzAll.f k Y Z ((J.take ((wrap64 (a1 + 1)):Int).toNat).drop (a1:Int).toNat)).bind fun a6=>(if a1=0 then (spec_BestClue.l0 k a1 (a6.length:Int) a7 (wrap64 (a1 + 1)) Y Z J) else (if (a6.length:Int) < x5 then (spec_BestClue.l0 k a1 (a6.length:Int) a7 (wrap64 (a1 + 1)) Y Z J) else (spec_BestClue.l0 k x4 x5 a7 (wrap64 (a1 + 1)) Y Z J)))) else (none)) else (none)) else (none)) else (some (x4,true))
end
def spec_BestClue.f (k:Nat) (Y:Int) (Z:Int) (J:List (S48)):Option (Int×Bool):=(spec_pzGood.f k Y Z J).bind fun a1=>(if a1=true then (spec_BestClue.j0 k ((J.length:Int) == 0) Y Z J) else (spec_BestClue.j0 k true Y Z J))
def spec_BestClue.T7:Bool×List (List Nat×List Nat):=(true,[([],[]),([0],[0]),([],[]),([2],[2]),([],[]),([],[]),([5],[5]),([3,4,6],[3,4,6]),([1,7],[1,7]),([8],[8]),([9,8,0,1,2,3,4,5,6,7,8,9],[9])])
def spec_BestClue.B7:List Nat:=[0,1,0,4,0,0,32,124,255,511,1023]
theorem spec_BestClue.tab7:rtab .any (opsOf Tryz.f21 7)=spec_BestClue.T7:=by kernel_rfl
theorem spec_BestClue.bits7:waitsOk spec_BestClue.T7.2 spec_BestClue.B7=true:=by kernel_rfl
set_option maxHeartbeats 8000000 in
set_option maxRecDepth 100000 in
theorem spec_BestClue.calls (k:Nat) (a8:Int) (aa:Int) (a6:Option Addr) (a1:Nat) (Z:List (S48)) (r1:Int) (r2:Bool) (w:World) (b9:Kd.C k48 w a6 Z.length Z) (ba:Z.length≤a1) (h:spec_BestClue.f k a8 aa Z=some (r1,r2)) :
    Calls Tryz.prog 21 #[.agg #[.int .i64 a8, .int .i64 aa, .slice a6 Z.length a1]] w fun e w'=>e = .returned (.tuple #[.int .i64 r1, .bool r2])∧Below w.heap.size w w':=by
  have cq:=Tryz.underlying28;have cr:=Tryz.underlying25;have ai:=amk b9;have aj:=amk ba;clear b9 ba;have HB:=amk (Below.refl w.heap.size w);unfold spec_BestClue.f at h;have H:=h;clear h;have bL:=amk H;clear H;go_enter Tryz.func21,Tryz.ntmps21
  go_upto_region 1 with (first | ((with_reducible refine gate_dst (N:=1) rfl ?_);(try (refine gate_guard (by rfl) ?_;dsimp only));refine boxE_ HB 1 #[.int .i64 a8, .int .i64 aa, .slice a6 Z.length a1] 28 ?_;clear HB;intro ab w3 HB Y cf cg hb;clear hb))
  (try simp only [Act.put,List.setIfInBounds_toArray,List.set_cons_zero,List.set_cons_succ])
  go_cut [16] (fun ci wc=> ∃ (kq:Nat) (av:Bool),ci = .bool av∧Aside0 (spec_BestClue.j0 kq av a8 aa Z=some (r1,r2))∧Aside0 (kq≤k)∧Aside0 (wc.heap[ab]?=some (.cells #[.int .i64 a8, .int .i64 aa,(.slice a6 Z.length a1)] 28 (0,0)))∧Aside0 (Below w.heap.size w wc))
  case first =>
    have H:=bL.out;clear bL;replace H:=bE H;obtain ⟨cu,A4,H⟩:=H;replace H:=iteB H;obtain ⟨rfl,H⟩ | ⟨rfl,H⟩:=H
    · have H':=amk H;clear H;obtain ⟨ax,ay,az,aA,aC,aD⟩:=cells3 Y.out;go_wp2_with (first | ((with_reducible refine gate_callee (f:=39) rfl ?_);refine goesL_ (some 9) rfl rfl Tryz.func39 (by kernel_rfl) rfl #[.agg #[.int .i64 a8, .int .i64 aa, .slice a6 Z.length a1]] rfl gL_ ?_;(with_reducible refine (spec_pzGood.calls k a8 aa _ _ Z true _ ?_ ?_ A4.out).mono ?_);exact cB (Kd.C_below ai.out HB.out);exact aj.out;rintro e w7 ⟨rfl,hb⟩;refine ⟨_,rfl,?_⟩;replace Y:=kb2 Y hb;replace HB:=hB2 HB hb;(try clear hb);obtain ⟨aE,aG,aH,aI,aJ,aK⟩:=cells3 Y.out));go_meet
      case rel=>exact ⟨_,(((Z.length:Int) == 0)),rS_,H',⟨by first | omega | exact Nat.le_refl _⟩,⟨kB Y⟩,⟨bB⟩⟩
    · have H':=amk H;clear H;obtain ⟨aM,aN,aQ,aT,aU,aV⟩:=cells3 Y.out;go_wp2_with (first | ((with_reducible refine gate_callee (f:=39) rfl ?_);refine goesL_ (some 9) rfl rfl Tryz.func39 (by kernel_rfl) rfl #[.agg #[.int .i64 a8, .int .i64 aa, .slice a6 Z.length a1]] rfl gL_ ?_;(with_reducible refine (spec_pzGood.calls k a8 aa _ _ Z false _ ?_ ?_ A4.out).mono ?_);exact cB (Kd.C_below ai.out HB.out);exact aj.out;rintro e cN ⟨rfl,hb⟩;refine ⟨_,rfl,?_⟩;replace Y:=kb2 Y hb;replace HB:=hB2 HB hb;(try clear hb)));go_meet
      case rel=>exact ⟨_,(true),rS_,H',⟨by first | omega | exact Nat.le_refl _⟩,⟨kB Y⟩,⟨bB⟩⟩
  case rest =>
    clear bL;(try clear c2);(try clear p2);(try clear c3);(try clear c5);(try clear ax);(try clear ay);(try clear az);(try clear aE);(try clear aG);(try clear aH);(try clear aM);(try clear aN);(try clear aQ);(try clear aA);(try clear aC);(try clear aD);(try clear aI);(try clear aJ);(try clear aK);(try clear aT);(try clear aU);(try clear aV);obtain ⟨kq,av,rfl,HA,b7,Y,HB⟩:=hcut
    cases kq with
    | zero=>exact absurd HA.out (by simp [spec_BestClue.j0])
    | succ bV =>
      have H:=HA.out;clear HA;simp only [spec_BestClue.j0] at H;replace H:=iteB H;obtain ⟨rfl,H⟩ | ⟨rfl,H⟩:=H
      · simp only [Option.some.injEq,Prod.mk.injEq] at H;obtain ⟨rfl,rfl⟩:=H;go_wp2;go_ret2;exact ⟨rF_,bB⟩
      · have H':=amk H;clear H;obtain ⟨bb,bc,bd,be,bf,bg⟩:=cells3 Y.out;go_wp2
        go_loopg [4,5,20] bV (fun kq v4 v5 v20 w'=> ∃ (aW:Int) (aX:Int) (J:Int),v4 = .int .i64 aW∧v5 = .int .i64 aX∧v20 = .int .i64 J∧Aside0 (spec_BestClue.l0 kq aW aX (Z.length:Int) J a8 aa Z=some (r1,r2))∧Aside0 (kq≤bV)∧Aside0 (w'.heap[ab]?=some (.cells #[.int .i64 a8, .int .i64 aa,(.slice a6 Z.length a1)] 28 (0,0)))∧Aside0 (Below w.heap.size w w'))
        case atStart=>exact ⟨(0),(0),(0),rS_,rS_,rS_,H',⟨Nat.le_refl _⟩,⟨kB Y⟩,⟨bB⟩⟩
        case round =>
          clear H';(try clear c1);(try clear c2);(try clear p2);(try clear c3);(try clear c5);(try clear c11);(try clear bb);(try clear bc);(try clear bd);(try clear ax);(try clear ay);(try clear az);(try clear aE);(try clear aG);(try clear aH);(try clear aM);(try clear aN);(try clear aQ);(try clear be);(try clear bf);(try clear bg);(try clear aA);(try clear aC);(try clear aD);(try clear aI);(try clear aJ);(try clear aK);(try clear aT);(try clear aU);(try clear aV);(try clear p2);obtain ⟨aW,aX,J,rfl,rfl,rfl,HA,b8,Y,HB⟩:=hrel
          cases gk with
          | zero=>exact absurd HA.out (by simp [spec_BestClue.l0])
          | succ k2 =>
            have H:=HA.out;clear HA;simp only [spec_BestClue.l0] at H;replace H:=iteE H;obtain ⟨bM,H⟩ | ⟨bM,H⟩:=H
            · by_cases c14:0≤J
              · rw [if_pos c14] at H;have cj:=eq_true c14;have ck:decide (0≤J)=true:=decide_eq_true c14;clear c14
                by_cases c15:J≤(wrap64 (J + 1))
                · rw [if_pos c15] at H;have cm:=eq_true c15;have cn:decide (J≤(wrap64 (J + 1)))=true:=decide_eq_true c15
                  by_cases c16:(wrap64 (J + 1))≤(Z.length:Int)
                  · rw [if_pos c16] at H;have co:=eq_true c16;have cp:decide ((wrap64 (J + 1))≤(Z.length:Int))=true:=decide_eq_true c16;(try rw [Option.bind_some] at H);generalize bh:(((Z.take ((wrap64 (J + 1)):Int).toNat).drop (J:Int).toNat):List (S48))=a7 at H;have ah:=amk bh.symm;clear bh;replace H:=bE H;obtain ⟨am,bN,H⟩:=H
                    by_cases c18:J=0
                    · rw [if_pos c18] at H;have bO:(J == 0)=true:=beq_iff_eq.mpr c18;have bQ:(J != 0)=false:=bne_eq_false_iff_eq.mpr c18;clear c18;have H':=amk H;clear H;(try go_wp2);replace Y:=amk (blk_drew Y.out);replace HB:=amk (bd_ HB.out);have bR:((wrap64 (J + 1)):Int)≤((Z.length:Int):Int):=dA_;obtain ⟨cv,bi,_,bj,_⟩:=info_parts info48;have ae:Z.length≤a1:=aj.out;have bw:Kd.C k48 _ a6 Z.length Z:=ai.out;have bW:(J:Int)≤((wrap64 (J + 1)):Int):=dA_;have bX:(0:Int)≤(J:Int):=dA_;have br:=cut_mid (P:=Tryz.prog) 26 48 .i64 .i64 Tryz.underlying26 bi 3 bj a6 Z.length a1 J (wrap64 (J + 1)) bX bW bR ae;have an:=Kd.C_mid (lo:=(J:Int).toNat) (hi:=((wrap64 (J + 1)):Int).toNat) (c:=a1) bw (by omega) (by omega) ae;obtain ⟨bY,aY⟩ : ∃ A1,A1=(if a1=(J:Int).toNat then a6 else (a6:Option Addr).map (·.add ((J:Int).toNat * 3))):=⟨_,rfl⟩;obtain ⟨c20,bk⟩ : ∃ c1,c1=a1 - (J:Int).toNat:=⟨_,rfl⟩;have aZ:a7.length=((wrap64 (J + 1)):Int).toNat - (J:Int).toNat:=(by rw [ah.out,List.length_drop,List.length_take] <;> omega);rw [show ((Z).take ((wrap64 (J + 1)):Int).toNat).drop (J:Int).toNat=a7 from ah.out.symm] at an;replace an:Kd.C k48 _ bY a7.length a7:=(by rw [aY];exact an);rw [←aZ,←aY,←bk] at br;have ac:=amk an;have ak:=amk (show a7.length≤c20 from by rw [aZ,bk];exact Nat.sub_le_sub_right (Nat.le_trans (by omega) ae) _);clear an bw ae bi bj bk;have cw:=amk aZ;have cx:=amk aY;clear aZ aY;replace bR:=eq_true bR;refine start_ (n:=11) (S:=fun w'=>w'.cell? ⟨ab,0,none⟩=some (.int .i64 a8)∧w'.cell? ⟨ab,1,none⟩=some (.int .i64 aa)∧w'.cell? ⟨ab,2,none⟩=some (.slice a6 Z.length a1)) (ds:=[]) (bA 11 0) (by kernel_rfl) rfl rfl ⟨(blk_cell Y.out 0).trans rfl,(blk_cell Y.out 1).trans rfl,(blk_cell Y.out 2).trans rfl⟩ (fun hHeld=>?_);refine with_tabW spec_BestClue.tab7 spec_BestClue.bits7 (fun HT_ HW_=>?_);generalize wr.drew=cO at Y HB ac hHeld ⊢;refine pU_ HT_ 0 (some 23) (bA 11 1) ?_;refine pU_ HT_ 2 (some 25) (bA 11 5) ?_;refine pU_ HT_ 4 (some 27) (bA 11 21) ?_;refine pU_ HT_ 5 (some 28) (bA 11 53) ?_;refine pU_ HT_ 6 (some 29) (bA 11 117) ?_;refine tK_ HT_ HW_ hHeld 1 (some 24) (bA 11 119) ?_;refine tK_ HT_ HW_ hHeld 3 (some 26) (bA 11 127) ?_;refine pU_ HT_ 7 (some 30) (bA 11 255) ?_;refine oN_ HT_ 8 (some 31) (bA 11 511) (fun K hK=>?_);refine goes_ Tryz.func40 (by kernel_rfl) rfl #[.agg #[.int .i64 a8, .int .i64 aa], .slice bY a7.length c20] (by rfl) rfl rfl gL_ ?_;(with_reducible refine (spec_pzAll.calls k2 a8 aa _ _ a7 am _ ?_ ?_ bN.out).mono ?_);exact cB (Kd.C_below ac.out HB.out);exact ak.out;rintro e cP ⟨bz,rfl,ap,hb⟩;refine ⟨_,rfl,?_⟩;have al:=amk (Kd.R_lower ap (below_size bB));replace Y:=kb2 Y hb;replace HB:=hB2 HB hb;(try clear hb);(try clear ap);obtain ⟨cy,cz,bC⟩:=Kd.R_slice al.out;(first | subst bC | (injection bC with f1_ f2_ f3_;have f4_:=f1_.symm;have f5_:=f3_.symm;clear f1_ f2_ f3_;subst f4_;subst f5_));refine hK.out _ _ hC_ (fun hHeld=>?_);clear hK K;refine nN_ (some 31) ?_;refine pU_ HT_ 9 (some 32) (bA 11 1023) ?_;refine pU_ HT_ 10 (some 7) (bA 11 2047) ?_;refine done_ (done_of HT_.out (by kernel_rfl)) ?_;(try go_wp2);go_roundg k2
                      case measure=>have:=b7.out;have:=b8.out;omega
                      case rel=>exact ⟨(J),((am.length:Int)),(wrap64 (J + 1)),rS_,rS_,rS_,H',⟨by have:=b7.out;have:=b8.out;omega⟩,⟨kB Y⟩,⟨bB⟩⟩
                    · rw [if_neg c18] at H;have bO:(J == 0)=false:=beq_eq_false_iff_ne.mpr c18;have bQ:(J != 0)=true:=bne_iff_ne.mpr c18;replace H:=iteE H;obtain ⟨bS,H⟩ | ⟨bS,H⟩:=H
                      · have H':=amk H;clear H;(try go_wp2);replace Y:=amk (blk_drew Y.out);replace HB:=amk (bd_ HB.out);have bT:((wrap64 (J + 1)):Int)≤((Z.length:Int):Int):=dA_;obtain ⟨cA,bl,_,bm,_⟩:=info_parts info48;have af:Z.length≤a1:=aj.out;have bD:Kd.C k48 _ a6 Z.length Z:=ai.out;have bZ:(J:Int)≤((wrap64 (J + 1)):Int):=dA_;have c6:(0:Int)≤(J:Int):=dA_;have bu:=cut_mid (P:=Tryz.prog) 26 48 .i64 .i64 Tryz.underlying26 bl 3 bm a6 Z.length a1 J (wrap64 (J + 1)) c6 bZ bT af;have ar:=Kd.C_mid (lo:=(J:Int).toNat) (hi:=((wrap64 (J + 1)):Int).toNat) (c:=a1) bD (by omega) (by omega) af;obtain ⟨c7,b3⟩ : ∃ A1,A1=(if a1=(J:Int).toNat then a6 else (a6:Option Addr).map (·.add ((J:Int).toNat * 3))):=⟨_,rfl⟩;obtain ⟨c8,bn⟩ : ∃ c1,c1=a1 - (J:Int).toNat:=⟨_,rfl⟩;have b4:a7.length=((wrap64 (J + 1)):Int).toNat - (J:Int).toNat:=(by rw [ah.out,List.length_drop,List.length_take] <;> omega);rw [show ((Z).take ((wrap64 (J + 1)):Int).toNat).drop (J:Int).toNat=a7 from ah.out.symm] at ar;replace ar:Kd.C k48 _ c7 a7.length a7:=(by rw [b3];exact ar);rw [←b4,←b3,←bn] at bu;have ac:=amk ar;have ak:=amk (show a7.length≤c8 from by rw [b4,bn];exact Nat.sub_le_sub_right (Nat.le_trans (by omega) af) _);clear ar bD af bl bm bn;have cC:=amk b4;have cE:=amk b3;clear b4 b3;replace bT:=eq_true bT;refine start_ (n:=11) (S:=fun w'=>w'.cell? ⟨ab,0,none⟩=some (.int .i64 a8)∧w'.cell? ⟨ab,1,none⟩=some (.int .i64 aa)∧w'.cell? ⟨ab,2,none⟩=some (.slice a6 Z.length a1)) (ds:=[]) (bA 11 0) (by kernel_rfl) rfl rfl ⟨(blk_cell Y.out 0).trans rfl,(blk_cell Y.out 1).trans rfl,(blk_cell Y.out 2).trans rfl⟩ (fun hHeld=>?_);refine with_tabW spec_BestClue.tab7 spec_BestClue.bits7 (fun HT_ HW_=>?_);generalize wr.drew=cQ at Y HB ac hHeld ⊢;refine pU_ HT_ 0 (some 23) (bA 11 1) ?_;refine pU_ HT_ 2 (some 25) (bA 11 5) ?_;refine pU_ HT_ 4 (some 27) (bA 11 21) ?_;refine pU_ HT_ 5 (some 28) (bA 11 53) ?_;refine pU_ HT_ 6 (some 29) (bA 11 117) ?_;refine tK_ HT_ HW_ hHeld 1 (some 24) (bA 11 119) ?_;refine tK_ HT_ HW_ hHeld 3 (some 26) (bA 11 127) ?_;refine pU_ HT_ 7 (some 30) (bA 11 255) ?_;refine oN_ HT_ 8 (some 31) (bA 11 511) (fun K hK=>?_);refine goes_ Tryz.func40 (by kernel_rfl) rfl #[.agg #[.int .i64 a8, .int .i64 aa], .slice c7 a7.length c8] (by rfl) rfl rfl gL_ ?_;(with_reducible refine (spec_pzAll.calls k2 a8 aa _ _ a7 am _ ?_ ?_ bN.out).mono ?_);exact cB (Kd.C_below ac.out HB.out);exact ak.out;rintro e cS ⟨bz,rfl,ap,hb⟩;refine ⟨_,rfl,?_⟩;have al:=amk (Kd.R_lower ap (below_size bB));replace Y:=kb2 Y hb;replace HB:=hB2 HB hb;(try clear hb);(try clear ap);obtain ⟨cF,cG,bF⟩:=Kd.R_slice al.out;(first | subst bF | (injection bF with f1_ f2_ f3_;have f4_:=f1_.symm;have f5_:=f3_.symm;clear f1_ f2_ f3_;subst f4_;subst f5_));refine hK.out _ _ hC_ (fun hHeld=>?_);clear hK K;refine nN_ (some 31) ?_;refine pU_ HT_ 9 (some 32) (bA 11 1023) ?_;refine pU_ HT_ 10 (some 7) (bA 11 2047) ?_;refine done_ (done_of HT_.out (by kernel_rfl)) ?_;(try go_wp2);go_roundg k2
                        case measure=>have:=b7.out;have:=b8.out;omega
                        case rel=>exact ⟨(J),((am.length:Int)),(wrap64 (J + 1)),rS_,rS_,rS_,H',⟨by have:=b7.out;have:=b8.out;omega⟩,⟨kB Y⟩,⟨bB⟩⟩
                      · have H':=amk H;clear H;(try go_wp2);replace Y:=amk (blk_drew Y.out);replace HB:=amk (bd_ HB.out);have bU:((wrap64 (J + 1)):Int)≤((Z.length:Int):Int):=dA_;obtain ⟨cH,bo,_,bp,_⟩:=info_parts info48;have ag:Z.length≤a1:=aj.out;have bH:Kd.C k48 _ a6 Z.length Z:=ai.out;have ca:(J:Int)≤((wrap64 (J + 1)):Int):=dA_;have cb:(0:Int)≤(J:Int):=dA_;have bv:=cut_mid (P:=Tryz.prog) 26 48 .i64 .i64 Tryz.underlying26 bo 3 bp a6 Z.length a1 J (wrap64 (J + 1)) cb ca bU ag;have au:=Kd.C_mid (lo:=(J:Int).toNat) (hi:=((wrap64 (J + 1)):Int).toNat) (c:=a1) bH (by omega) (by omega) ag;obtain ⟨cd,b5⟩ : ∃ A1,A1=(if a1=(J:Int).toNat then a6 else (a6:Option Addr).map (·.add ((J:Int).toNat * 3))):=⟨_,rfl⟩;obtain ⟨ce,bq⟩ : ∃ c1,c1=a1 - (J:Int).toNat:=⟨_,rfl⟩;have b6:a7.length=((wrap64 (J + 1)):Int).toNat - (J:Int).toNat:=(by rw [ah.out,List.length_drop,List.length_take] <;> omega);rw [show ((Z).take ((wrap64 (J + 1)):Int).toNat).drop (J:Int).toNat=a7 from ah.out.symm] at au;replace au:Kd.C k48 _ cd a7.length a7:=(by rw [b5];exact au);rw [←b6,←b5,←bq] at bv;have ac:=amk au;have ak:=amk (show a7.length≤ce from by rw [b6,bq];exact Nat.sub_le_sub_right (Nat.le_trans (by omega) ag) _);clear au bH ag bo bp bq;have cJ:=amk b6;have cK:=amk b5;clear b6 b5;replace bU:=eq_true bU;refine start_ (n:=11) (S:=fun w'=>w'.cell? ⟨ab,0,none⟩=some (.int .i64 a8)∧w'.cell? ⟨ab,1,none⟩=some (.int .i64 aa)∧w'.cell? ⟨ab,2,none⟩=some (.slice a6 Z.length a1)) (ds:=[]) (bA 11 0) (by kernel_rfl) rfl rfl ⟨(blk_cell Y.out 0).trans rfl,(blk_cell Y.out 1).trans rfl,(blk_cell Y.out 2).trans rfl⟩ (fun hHeld=>?_);refine with_tabW spec_BestClue.tab7 spec_BestClue.bits7 (fun HT_ HW_=>?_);generalize wr.drew=cT at Y HB ac hHeld ⊢;refine pU_ HT_ 0 (some 23) (bA 11 1) ?_;refine pU_ HT_ 2 (some 25) (bA 11 5) ?_;refine pU_ HT_ 4 (some 27) (bA 11 21) ?_;refine pU_ HT_ 5 (some 28) (bA 11 53) ?_;refine pU_ HT_ 6 (some 29) (bA 11 117) ?_;refine tK_ HT_ HW_ hHeld 1 (some 24) (bA 11 119) ?_;refine tK_ HT_ HW_ hHeld 3 (some 26) (bA 11 127) ?_;refine pU_ HT_ 7 (some 30) (bA 11 255) ?_;refine oN_ HT_ 8 (some 31) (bA 11 511) (fun K hK=>?_);refine goes_ Tryz.func40 (by kernel_rfl) rfl #[.agg #[.int .i64 a8, .int .i64 aa], .slice cd a7.length ce] (by rfl) rfl rfl gL_ ?_;(with_reducible refine (spec_pzAll.calls k2 a8 aa _ _ a7 am _ ?_ ?_ bN.out).mono ?_);exact cB (Kd.C_below ac.out HB.out);exact ak.out;rintro e cV ⟨bz,rfl,ap,hb⟩;refine ⟨_,rfl,?_⟩;have al:=amk (Kd.R_lower ap (below_size bB));replace Y:=kb2 Y hb;replace HB:=hB2 HB hb;(try clear hb);(try clear ap);obtain ⟨cL,cM,bJ⟩:=Kd.R_slice al.out;(first | subst bJ | (injection bJ with f1_ f2_ f3_;have f4_:=f1_.symm;have f5_:=f3_.symm;clear f1_ f2_ f3_;subst f4_;subst f5_));refine hK.out _ _ hC_ (fun hHeld=>?_);clear hK K;refine nN_ (some 31) ?_;refine pU_ HT_ 9 (some 32) (bA 11 1023) ?_;refine pU_ HT_ 10 (some 7) (bA 11 2047) ?_;refine done_ (done_of HT_.out (by kernel_rfl)) ?_;(try go_wp2);go_roundg k2
                        case measure=>have:=b7.out;have:=b8.out;omega
                        case rel=>exact ⟨(aW),(aX),(wrap64 (J + 1)),rS_,rS_,rS_,H',⟨by have:=b7.out;have:=b8.out;omega⟩,⟨kB Y⟩,⟨bB⟩⟩
                  · rw [if_neg c16] at H;exact absurd H (by simp)
                · rw [if_neg c15] at H;exact absurd H (by simp)
              · rw [if_neg c14] at H;exact absurd H (by simp)
            · simp only [Option.some.injEq,Prod.mk.injEq] at H;obtain ⟨rfl,rfl⟩:=H;go_wp2;go_ret2;exact ⟨rF_,bB⟩
/-! ### spec_CountSolutions: function 9 -/
def spec_CountSolutions.f (k:Nat) (J:Int) (Y:Int) (Z:List (S48)):Option (Int×Bool):=(spec_pzGood.f k J Y Z).bind fun a1=>(if a1=true then ((spec_pzAll.f k J Y Z).bind fun a6=>(some ((a6.length:Int),true))) else (some (0,false)))
set_option maxHeartbeats 8000000 in
set_option maxRecDepth 100000 in
theorem spec_CountSolutions.calls (k:Nat) (Z:Int) (a1:Int) (a6:Option Addr) (a7:Nat) (Y:List (S48)) (r1:Int) (r2:Bool) (w:World) (ab:Kd.C k48 w a6 Y.length Y) (ac:Y.length≤a7) (h:spec_CountSolutions.f k Z a1 Y=some (r1,r2)) :
    Calls Tryz.prog 9 #[.agg #[.int .i64 Z, .int .i64 a1, .slice a6 Y.length a7]] w fun e w'=>e = .returned (.tuple #[.int .i64 r1, .bool r2])∧Below w.heap.size w w':=by
  have aK:=Tryz.underlying28;have aM:=Tryz.underlying25;have a8:=amk ab;have aa:=amk ac;clear ab ac;have HB:=amk (Below.refl w.heap.size w);unfold spec_CountSolutions.f at h;have H:=h;clear h;replace H:=bE H;obtain ⟨aN,A2,H⟩:=H;replace H:=iteB H;obtain ⟨rfl,H⟩ | ⟨rfl,H⟩:=H
  · replace H:=bE H;obtain ⟨ai,A4,H⟩:=H;simp only [Option.some.injEq,Prod.mk.injEq] at H;obtain ⟨rfl,rfl⟩:=H;go_enter Tryz.func9,Tryz.ntmps9;go_wp2_with (first | ((with_reducible refine gate_dst (N:=1) rfl ?_);refine boxE_ HB 1 #[.int .i64 Z, .int .i64 a1, .slice a6 Y.length a7] 28 ?_;clear HB;intro ae w5 HB J af ag hb;clear hb;obtain ⟨av,ax,ay,az,aA,aC⟩:=cells3 J.out) | ((with_reducible refine gate_callee (f:=39) rfl ?_);refine goesL_ (some 5) rfl rfl Tryz.func39 (by kernel_rfl) rfl #[.agg #[.int .i64 Z, .int .i64 a1, .slice a6 Y.length a7]] rfl gL_ ?_;(with_reducible refine (spec_pzGood.calls k Z a1 _ _ Y true _ ?_ ?_ A2.out).mono ?_);exact cB (Kd.C_below a8.out HB.out);exact aa.out;rintro e w7 ⟨rfl,hb⟩;refine ⟨_,rfl,?_⟩;replace J:=kb2 J hb;replace HB:=hB2 HB hb;(try clear hb);obtain ⟨aD,aE,aG,aH,aI,aJ⟩:=cells3 J.out) | ((with_reducible refine gate_callee (f:=40) rfl ?_);refine goesL_ (some 11) rfl rfl Tryz.func40 (by kernel_rfl) rfl #[.agg #[.int .i64 Z, .int .i64 a1], .slice a6 Y.length a7] rfl gL_ ?_;(with_reducible refine (spec_pzAll.calls k Z a1 _ _ Y ai _ ?_ ?_ A4.out).mono ?_);exact cB (Kd.C_below a8.out HB.out);exact aa.out;rintro e w9 ⟨aQ,rfl,aj,hb⟩;refine ⟨_,rfl,?_⟩;have ah:=amk (Kd.R_lower aj (below_size bB));replace J:=kb2 J hb;replace HB:=hB2 HB hb;(try clear hb);(try clear aj);obtain ⟨aT,aU,ak⟩:=Kd.R_slice ah.out;subst ak));go_ret2;exact ⟨rF_,bB⟩
  · simp only [Option.some.injEq,Prod.mk.injEq] at H;obtain ⟨rfl,rfl⟩:=H;go_enter Tryz.func9,Tryz.ntmps9;go_wp2_with (first | ((with_reducible refine gate_dst (N:=1) rfl ?_);refine boxE_ HB 1 #[.int .i64 Z, .int .i64 a1, .slice a6 Y.length a7] 28 ?_;clear HB;intro ae aV HB J af ag hb;clear hb;obtain ⟨al,am,an,ap,ar,au⟩:=cells3 J.out) | ((with_reducible refine gate_callee (f:=39) rfl ?_);refine goesL_ (some 5) rfl rfl Tryz.func39 (by kernel_rfl) rfl #[.agg #[.int .i64 Z, .int .i64 a1, .slice a6 Y.length a7]] rfl gL_ ?_;(with_reducible refine (spec_pzGood.calls k Z a1 _ _ Y false _ ?_ ?_ A2.out).mono ?_);exact cB (Kd.C_below a8.out HB.out);exact aa.out;rintro e aW ⟨rfl,hb⟩;refine ⟨_,rfl,?_⟩;replace J:=kb2 J hb;replace HB:=hB2 HB hb;(try clear hb)));go_ret2;exact ⟨rF_,bB⟩
/-! ### spec_FirstSolution: function 11 -/
def spec_FirstSolution.f (k:Nat) (Y:Int) (Z:Int) (a1:List (S48)):Option (ByteArray×Bool):=(spec_pzGood.f k Y Z a1).bind fun a6=>(if a6=true then ((spec_pzAll.f k Y Z a1).bind fun J=>(if (J.length:Int)=0 then (some ((⟨#[]⟩:ByteArray),false)) else (if 0 < (J.length:Int) then (some (rdOf ByteArray.empty J 0,true)) else (none)))) else (some ((⟨#[]⟩:ByteArray),false)))
set_option maxHeartbeats 8000000 in
set_option maxRecDepth 100000 in
theorem spec_FirstSolution.calls (k:Nat) (Z:Int) (a1:Int) (a7:Option Addr) (a8:Nat) (Y:List (S48)) (r1:ByteArray) (r2:Bool) (w:World) (af:Kd.C k48 w a7 Y.length Y) (ag:Y.length≤a8) (h:spec_FirstSolution.f k Z a1 Y=some (r1,r2)) :
    Calls Tryz.prog 11 #[.agg #[.int .i64 Z, .int .i64 a1, .slice a7 Y.length a8]] w fun e w'=>e = .returned (.tuple #[.string r1, .bool r2])∧Below w.heap.size w w':=by
  have bg:=Tryz.underlying28;have bh:=Tryz.underlying25;have aa:=amk af;have ab:=amk ag;clear af ag;have HB:=amk (Below.refl w.heap.size w);unfold spec_FirstSolution.f at h;have H:=h;clear h;replace H:=bE H;obtain ⟨bi,A2,H⟩:=H;replace H:=iteB H;obtain ⟨rfl,H⟩ | ⟨rfl,H⟩:=H
  · replace H:=bE H;obtain ⟨a6,A4,H⟩:=H
    by_cases c5:(a6.length:Int)=0
    · rw [if_pos c5] at H;have an:((a6.length:Int) == 0)=true:=beq_iff_eq.mpr c5;have ap:((a6.length:Int) != 0)=false:=bne_eq_false_iff_eq.mpr c5;clear c5;simp only [Option.some.injEq,Prod.mk.injEq] at H;obtain ⟨rfl,rfl⟩:=H;go_enter Tryz.func11,Tryz.ntmps11;go_wp2_with (first | ((with_reducible refine gate_dst (N:=1) rfl ?_);refine boxE_ HB 1 #[.int .i64 Z, .int .i64 a1, .slice a7 Y.length a8] 28 ?_;clear HB;intro ah w6 HB J ai aj hb;clear hb;obtain ⟨aX,aY,aZ,b3,b4,b5⟩:=cells3 J.out) | ((with_reducible refine gate_callee (f:=39) rfl ?_);refine goesL_ (some 6) rfl rfl Tryz.func39 (by kernel_rfl) rfl #[.agg #[.int .i64 Z, .int .i64 a1, .slice a7 Y.length a8]] rfl gL_ ?_;(with_reducible refine (spec_pzGood.calls k Z a1 _ _ Y true _ ?_ ?_ A2.out).mono ?_);exact cB (Kd.C_below aa.out HB.out);exact ab.out;rintro e w8 ⟨rfl,hb⟩;refine ⟨_,rfl,?_⟩;replace J:=kb2 J hb;replace HB:=hB2 HB hb;(try clear hb);obtain ⟨b6,b7,b8,b9,ba,bb⟩:=cells3 J.out) | ((with_reducible refine gate_callee (f:=40) rfl ?_);refine goesL_ (some 12) rfl rfl Tryz.func40 (by kernel_rfl) rfl #[.agg #[.int .i64 Z, .int .i64 a1], .slice a7 Y.length a8] rfl gL_ ?_;(with_reducible refine (spec_pzAll.calls k Z a1 _ _ Y a6 _ ?_ ?_ A4.out).mono ?_);exact cB (Kd.C_below aa.out HB.out);exact ab.out;rintro e bo ⟨ar,rfl,ak,hb⟩;refine ⟨_,rfl,?_⟩;have ac:=amk (Kd.R_lower ak (below_size bB));replace J:=kb2 J hb;replace HB:=hB2 HB hb;(try clear hb);(try clear ak);obtain ⟨bj,bk,au⟩:=Kd.R_slice ac.out;subst au));go_ret2;exact ⟨rF_,bB⟩
    · rw [if_neg c5] at H;have an:((a6.length:Int) == 0)=false:=beq_eq_false_iff_ne.mpr c5;have ap:((a6.length:Int) != 0)=true:=bne_iff_ne.mpr c5;have bl : ¬ (a6=[]):=fun h_=>c5 (by rw [h_];rfl)
      by_cases c12:0 < (a6.length:Int)
      · rw [if_pos c12] at H;have bc:decide (0 < (a6.length:Int))=true:=decide_eq_true c12;have bd:decide (0 < a6.length)=true:=decide_eq_true (by omega);clear c12;simp only [Option.some.injEq,Prod.mk.injEq] at H;obtain ⟨rfl,rfl⟩:=H;go_enter Tryz.func11,Tryz.ntmps11;go_wp2_with (first | ((with_reducible refine gate_dst (N:=1) rfl ?_);refine boxE_ HB 1 #[.int .i64 Z, .int .i64 a1, .slice a7 Y.length a8] 28 ?_;clear HB;intro ah bp HB J ai aj hb;clear hb;obtain ⟨av,ax,ay,az,aA,aC⟩:=cells3 J.out) | ((with_reducible refine gate_callee (f:=39) rfl ?_);refine goesL_ (some 6) rfl rfl Tryz.func39 (by kernel_rfl) rfl #[.agg #[.int .i64 Z, .int .i64 a1, .slice a7 Y.length a8]] rfl gL_ ?_;(with_reducible refine (spec_pzGood.calls k Z a1 _ _ Y true _ ?_ ?_ A2.out).mono ?_);exact cB (Kd.C_below aa.out HB.out);exact ab.out;rintro e bq ⟨rfl,hb⟩;refine ⟨_,rfl,?_⟩;replace J:=kb2 J hb;replace HB:=hB2 HB hb;(try clear hb);obtain ⟨aD,aE,aG,aH,aI,aJ⟩:=cells3 J.out) | ((with_reducible refine gate_callee (f:=40) rfl ?_);refine goesL_ (some 12) rfl rfl Tryz.func40 (by kernel_rfl) rfl #[.agg #[.int .i64 Z, .int .i64 a1], .slice a7 Y.length a8] rfl gL_ ?_;(with_reducible refine (spec_pzAll.calls k Z a1 _ _ Y a6 _ ?_ ?_ A4.out).mono ?_);exact cB (Kd.C_below aa.out HB.out);exact ab.out;rintro e br ⟨ar,rfl,ak,hb⟩;refine ⟨_,rfl,?_⟩;have ac:=amk (Kd.R_lower ak (below_size bB));replace J:=kb2 J hb;replace HB:=hB2 HB hb;(try clear hb);(try clear ak);obtain ⟨bm,bn,aK⟩:=Kd.R_slice ac.out;subst aK;have al:0≤(0:Int):=(by omega);have am:0 < (a6.length:Int):=dA_;obtain ⟨be,aM,ae⟩:=Kd.at_string (Kd.R_reads' ac.out).2.2 0 al am;cases aM;have bf:(0 < a6.length)=True:=eq_true (by omega);(try rw [show ((0:Int)).toNat=0 from rfl] at ae);(try rw [Addr.add_zero'] at ae);replace al:=eq_true al;replace am:=eq_true am));go_ret2;exact ⟨rF_,bB⟩
      · rw [if_neg c12] at H;exact absurd H (by simp)
  · simp only [Option.some.injEq,Prod.mk.injEq] at H;obtain ⟨rfl,rfl⟩:=H;go_enter Tryz.func11,Tryz.ntmps11;go_wp2_with (first | ((with_reducible refine gate_dst (N:=1) rfl ?_);refine boxE_ HB 1 #[.int .i64 Z, .int .i64 a1, .slice a7 Y.length a8] 28 ?_;clear HB;intro ah bu HB J ai aj hb;clear hb;obtain ⟨aN,aQ,aT,aU,aV,aW⟩:=cells3 J.out) | ((with_reducible refine gate_callee (f:=39) rfl ?_);refine goesL_ (some 6) rfl rfl Tryz.func39 (by kernel_rfl) rfl #[.agg #[.int .i64 Z, .int .i64 a1, .slice a7 Y.length a8]] rfl gL_ ?_;(with_reducible refine (spec_pzGood.calls k Z a1 _ _ Y false _ ?_ ?_ A2.out).mono ?_);exact cB (Kd.C_below aa.out HB.out);exact ab.out;rintro e bv ⟨rfl,hb⟩;refine ⟨_,rfl,?_⟩;replace J:=kb2 J hb;replace HB:=hB2 HB hb;(try clear hb)));go_ret2;exact ⟨rF_,bB⟩
/-! ### spec_IsPuzzle: function 27 -/
def spec_IsPuzzle.f (k:Nat) (J:Int) (Y:Int) (Z:List (S48)):Option (Bool):=(spec_pzGood.f k J Y Z).bind fun a1=>(some a1)
set_option maxHeartbeats 8000000 in
set_option maxRecDepth 100000 in
theorem spec_IsPuzzle.calls (k:Nat) (Y:Int) (Z:Int) (a6:Option Addr) (a7:Nat) (J:List (S48)) (r:Bool) (w:World) (a8:Kd.C k48 w a6 J.length J) (aa:J.length≤a7) (h:spec_IsPuzzle.f k Y Z J=some r) :
    Calls Tryz.prog 27 #[.agg #[.int .i64 Y, .int .i64 Z, .slice a6 J.length a7]] w fun e w'=>e = .returned (.bool r)∧Below w.heap.size w w':=by
  have ap:=Tryz.underlying28;have ab:=amk a8;have ac:=amk aa;clear a8 aa;have HB:=amk (Below.refl w.heap.size w);unfold spec_IsPuzzle.f at h;have H:=h;clear h;replace H:=bE H;obtain ⟨ae,A2,H⟩:=H;obtain rfl:=Option.some.inj H;go_enter Tryz.func27,Tryz.ntmps27;go_wp2_with (first | ((with_reducible refine gate_dst (N:=1) rfl ?_);refine boxE_ HB 1 #[.int .i64 Y, .int .i64 Z, .slice a6 J.length a7] 28 ?_;clear HB;intro al w3 HB a1 am an hb;clear hb;obtain ⟨af,ag,ah,ai,aj,ak⟩:=cells3 a1.out) | ((with_reducible refine gate_callee (f:=39) rfl ?_);refine goesL_ (some 4) rfl rfl Tryz.func39 (by kernel_rfl) rfl #[.agg #[.int .i64 Y, .int .i64 Z, .slice a6 J.length a7]] rfl gL_ ?_;(with_reducible refine (spec_pzGood.calls k Y Z _ _ J ae _ ?_ ?_ A2.out).mono ?_);exact cB (Kd.C_below ab.out HB.out);exact ac.out;rintro e w5 ⟨rfl,hb⟩;refine ⟨_,rfl,?_⟩;replace a1:=kb2 a1 hb;replace HB:=hB2 HB hb;(try clear hb)));go_ret;exact ⟨rF_,bB⟩
/-! ### spec_pzSolved: function 41 -/
def spec_pzSolved.f (k:Nat) (J:Int) (Y:Int) (l1:List (S48)):Option (Bool):=(spec_pzAll.f k J Y l1).bind fun Z=>(some ((Z.length:Int) == 1))
set_option maxHeartbeats 8000000 in
set_option maxRecDepth 100000 in
theorem spec_pzSolved.calls (k:Nat) (J:Int) (Y:Int) (A1:Option Addr) (c1:Nat) (l1:List (S48)) (r:Bool) (w:World) (a6:Kd.C k48 w A1 l1.length l1) (a7:l1.length≤c1) (h:spec_pzSolved.f k J Y l1=some r) :
    Calls Tryz.prog 41 #[.agg #[.int .i64 J, .int .i64 Y], .slice A1 l1.length c1] w fun e w'=>e = .returned (.bool r)∧Below w.heap.size w w':=by
  have am:=Tryz.underlying25;have ag:=amk a6;have ah:=amk a7;clear a6 a7;have HB:=amk (Below.refl w.heap.size w);unfold spec_pzSolved.f at h;have H:=h;clear h;replace H:=bE H;obtain ⟨a8,A3,H⟩:=H;obtain rfl:=Option.some.inj H;go_enter Tryz.func41,Tryz.ntmps41;go_wp2_with (first | ((with_reducible refine gate_dst (N:=2) rfl ?_);refine boxE_ HB 2 #[.int .i64 J, .int .i64 Y] 25 ?_;clear HB;intro ai w4 HB Z aj ak hb;clear hb;obtain ⟨ab,ac,ae,af⟩:=cells2 Z.out) | ((with_reducible refine gate_callee (f:=40) rfl ?_);refine goesL_ (some 7) rfl rfl Tryz.func40 (by kernel_rfl) rfl #[.agg #[.int .i64 J, .int .i64 Y], .slice A1 l1.length c1] rfl gL_ ?_;(with_reducible refine (spec_pzAll.calls k J Y _ _ l1 a8 _ ?_ ?_ A3.out).mono ?_);exact cB (Kd.C_below ag.out HB.out);exact ah.out;rintro e w6 ⟨an,rfl,aa,hb⟩;refine ⟨_,rfl,?_⟩;have a1:=amk (Kd.R_lower aa (below_size bB));replace Z:=kb2 Z hb;replace HB:=hB2 HB hb;(try clear hb);(try clear aa);obtain ⟨ap,ar,al⟩:=Kd.R_slice a1.out;subst al));go_ret;exact ⟨rF_,bB⟩
/-! ### spec_IsSolved: function 15 -/
def spec_IsSolved.f (k:Nat) (J:Int) (Y:Int) (Z:List (S48)):Option (Bool×Bool):=(spec_pzGood.f k J Y Z).bind fun a1=>(if a1=true then ((spec_pzSolved.f k J Y Z).bind fun a6=>(some (a6,true))) else (some (false,false)))
set_option maxHeartbeats 8000000 in
set_option maxRecDepth 100000 in
theorem spec_IsSolved.calls (k:Nat) (Z:Int) (a1:Int) (a6:Option Addr) (a7:Nat) (Y:List (S48)) (r1:Bool) (r2:Bool) (w:World) (ab:Kd.C k48 w a6 Y.length Y) (ac:Y.length≤a7) (h:spec_IsSolved.f k Z a1 Y=some (r1,r2)) :
    Calls Tryz.prog 15 #[.agg #[.int .i64 Z, .int .i64 a1, .slice a6 Y.length a7]] w fun e w'=>e = .returned (.tuple #[.bool r1, .bool r2])∧Below w.heap.size w w':=by
  have aH:=Tryz.underlying28;have aI:=Tryz.underlying25;have a8:=amk ab;have aa:=amk ac;clear ab ac;have HB:=amk (Below.refl w.heap.size w);unfold spec_IsSolved.f at h;have H:=h;clear h;replace H:=bE H;obtain ⟨aJ,A2,H⟩:=H;replace H:=iteB H;obtain ⟨rfl,H⟩ | ⟨rfl,H⟩:=H
  · replace H:=bE H;obtain ⟨ah,A4,H⟩:=H;simp only [Option.some.injEq,Prod.mk.injEq] at H;obtain ⟨rfl,rfl⟩:=H;go_enter Tryz.func15,Tryz.ntmps15;go_wp2_with (first | ((with_reducible refine gate_dst (N:=1) rfl ?_);refine boxE_ HB 1 #[.int .i64 Z, .int .i64 a1, .slice a6 Y.length a7] 28 ?_;clear HB;intro ae w5 HB J af ag hb;clear hb;obtain ⟨ap,ar,au,av,ax,ay⟩:=cells3 J.out) | ((with_reducible refine gate_callee (f:=39) rfl ?_);refine goesL_ (some 5) rfl rfl Tryz.func39 (by kernel_rfl) rfl #[.agg #[.int .i64 Z, .int .i64 a1, .slice a6 Y.length a7]] rfl gL_ ?_;(with_reducible refine (spec_pzGood.calls k Z a1 _ _ Y true _ ?_ ?_ A2.out).mono ?_);exact cB (Kd.C_below a8.out HB.out);exact aa.out;rintro e w7 ⟨rfl,hb⟩;refine ⟨_,rfl,?_⟩;replace J:=kb2 J hb;replace HB:=hB2 HB hb;(try clear hb);obtain ⟨az,aA,aC,aD,aE,aG⟩:=cells3 J.out) | ((with_reducible refine gate_callee (f:=41) rfl ?_);refine goesL_ (some 11) rfl rfl Tryz.func41 (by kernel_rfl) rfl #[.agg #[.int .i64 Z, .int .i64 a1], .slice a6 Y.length a7] rfl gL_ ?_;(with_reducible refine (spec_pzSolved.calls k Z a1 _ _ Y ah _ ?_ ?_ A4.out).mono ?_);exact cB (Kd.C_below a8.out HB.out);exact aa.out;rintro e w9 ⟨rfl,hb⟩;refine ⟨_,rfl,?_⟩;replace J:=kb2 J hb;replace HB:=hB2 HB hb;(try clear hb)));go_ret2;exact ⟨rF_,bB⟩
  · simp only [Option.some.injEq,Prod.mk.injEq] at H;obtain ⟨rfl,rfl⟩:=H;go_enter Tryz.func15,Tryz.ntmps15;go_wp2_with (first | ((with_reducible refine gate_dst (N:=1) rfl ?_);refine boxE_ HB 1 #[.int .i64 Z, .int .i64 a1, .slice a6 Y.length a7] 28 ?_;clear HB;intro ae aK HB J af ag hb;clear hb;obtain ⟨ai,aj,ak,al,am,an⟩:=cells3 J.out) | ((with_reducible refine gate_callee (f:=39) rfl ?_);refine goesL_ (some 5) rfl rfl Tryz.func39 (by kernel_rfl) rfl #[.agg #[.int .i64 Z, .int .i64 a1, .slice a6 Y.length a7]] rfl gL_ ?_;(with_reducible refine (spec_pzGood.calls k Z a1 _ _ Y false _ ?_ ?_ A2.out).mono ?_);exact cB (Kd.C_below a8.out HB.out);exact aa.out;rintro e aM ⟨rfl,hb⟩;refine ⟨_,rfl,?_⟩;replace J:=kb2 J hb;replace HB:=hB2 HB hb;(try clear hb)));go_ret2;exact ⟨rF_,bB⟩
/-! ### spec_LeftByClues: function 19 -/
def spec_LeftByClues.l0:Nat→List Int→Int→Int→Int→List (S48)→Option (List Int×Bool)
  | 0,_,_,_,_,_=>none
  | k + 1,x4,x5,Y,Z,J=>if x5≤(J.length:Int) then (if 0≤x5 then ((spec_pzAll.f k Y Z (J.take (x5:Int).toNat)).bind fun a1=>(if x4.length < 17592186044416 then (spec_LeftByClues.l0 k (x4 ++ [(a1.length:Int)]) (wrap64 (x5 + 1)) Y Z J) else (none))) else (none)) else (some (x4,true))
def spec_LeftByClues.f (k:Nat) (J:Int) (Y:Int) (Z:List (S48)):Option (List Int×Bool):=(spec_pzGood.f k J Y Z).bind fun a1=>(if a1=true then (spec_LeftByClues.l0 k ([]:List Int) 0 J Y Z) else (some (([]:List Int),false)))
def spec_LeftByClues.T7:Bool×List (List Nat×List Nat):=(true,[([],[]),([],[]),([1],[1]),([],[]),([3],[3]),([],[]),([4,5],[4,5]),([2,6],[2,6]),([7],[7]),([8],[8]),([0,9,7],[0,9]),([10,10,0,1,2,3,4,5,6,7,8,9,10],[0,10])])
def spec_LeftByClues.B7:List Nat:=[0,0,2,0,8,0,56,126,254,510,1023,2047]
theorem spec_LeftByClues.tab7:rtab .any (opsOf Tryz.f19 7)=spec_LeftByClues.T7:=by kernel_rfl
theorem spec_LeftByClues.bits7:waitsOk spec_LeftByClues.T7.2 spec_LeftByClues.B7=true:=by kernel_rfl
set_option maxHeartbeats 8000000 in
set_option maxRecDepth 100000 in
theorem spec_LeftByClues.calls (k:Nat) (Z:Int) (a1:Int) (a8:Option Addr) (a6:Nat) (Y:List (S48)) (r1:List Int) (r2:Bool) (w:World) (aj:Kd.C k48 w a8 Y.length Y) (ak:Y.length≤a6) (h:spec_LeftByClues.f k Z a1 Y=some (r1,r2)) :
    Calls Tryz.prog 19 #[.agg #[.int .i64 Z, .int .i64 a1, .slice a8 Y.length a6]] w fun e w'=> ∃ v0_:Value,e = .returned (.tuple #[v0_, .bool r2])∧Kd.R (Kd.int .i64) 3 w' w.heap.size (fun _=>True) v0_ r1∧Below w.heap.size w w':=by
  have bl:=Tryz.underlying28;have bm:=Tryz.underlying25;have ae:=amk aj;have af:=amk ak;clear aj ak;have HB:=amk (Below.refl w.heap.size w);unfold spec_LeftByClues.f at h;have H:=h;clear h;replace H:=bE H;obtain ⟨bn,A2,H⟩:=H;replace H:=iteB H;obtain ⟨rfl,H⟩ | ⟨rfl,H⟩:=H
  · have H':=amk H;clear H;go_enter Tryz.func19,Tryz.ntmps19;go_wp2_with (first | ((with_reducible refine gate_dst (N:=1) rfl ?_);refine boxE_ HB 1 #[.int .i64 Z, .int .i64 a1, .slice a8 Y.length a6] 28 ?_;clear HB;intro aa w4 HB J aI aJ hb;clear hb;obtain ⟨ax,ay,az,aA,aC,aD⟩:=cells3 J.out) | ((with_reducible refine gate_callee (f:=39) rfl ?_);refine goesL_ (some 7) rfl rfl Tryz.func39 (by kernel_rfl) rfl #[.agg #[.int .i64 Z, .int .i64 a1, .slice a8 Y.length a6]] rfl gL_ ?_;(with_reducible refine (spec_pzGood.calls k Z a1 _ _ Y true _ ?_ ?_ A2.out).mono ?_);exact cB (Kd.C_below ae.out HB.out);exact af.out;rintro e w6 ⟨rfl,hb⟩;refine ⟨_,rfl,?_⟩;replace J:=kb2 J hb;replace HB:=hB2 HB hb;(try clear hb)))
    go_loopg [4,5] k (fun kq v4 v5 w'=> ∃ (ab:List Int) (a7:Int),v5 = .int .i64 a7∧Aside0 (spec_LeftByClues.l0 kq ab a7 Z a1 Y=some (r1,r2))∧Aside0 (kq≤k)∧Aside0 (Kd.R (Kd.int .i64) 3 w' w.heap.size (fun _=>True) v4 ab)∧Aside0 (w'.heap[aa]?=some (.cells #[.int .i64 Z, .int .i64 a1,(.slice a8 Y.length a6)] 28 (0,0)))∧Aside0 (Below w.heap.size w w'))
    case atStart=>exact ⟨(([]:List Int)),(0),rS_,H',⟨Nat.le_refl _⟩,⟨xN_⟩,⟨kB J⟩,⟨bB⟩⟩
    case round =>
      clear H';(try clear c1);(try clear p2);(try clear c3);(try clear ax);(try clear ay);(try clear az);(try clear aA);(try clear aC);(try clear aD);obtain ⟨ab,a7,rfl,HA,aV,HO_4,J,HB⟩:=hrel
      cases gk with
      | zero=>exact absurd HA.out (by simp [spec_LeftByClues.l0])
      | succ k1 =>
        have H:=HA.out;clear HA;simp only [spec_LeftByClues.l0] at H;replace H:=iteE H;obtain ⟨aW,H⟩ | ⟨aW,H⟩:=H
        · by_cases c8:0≤a7
          · rw [if_pos c8] at H;have bo:=eq_true c8;have bp:decide (0≤a7)=true:=decide_eq_true c8;clear c8;have bq:=eq_true (dA_:a7≤(Y.length:Int));(try rw [Option.bind_some] at H);generalize al:((Y.take (a7:Int).toNat):List (S48))=ah at H;have am:=amk al.symm;clear al;replace H:=bE H;obtain ⟨ai,bk,H⟩:=H
            by_cases c11:ab.length < 17592186044416
            · rw [if_pos c11] at H;have aK:=amk c11;clear c11;(try rw [Option.bind_some] at H);generalize an:((ab ++ [(ai.length:Int)]):List Int)=aX at H;have aM:=amk an.symm;clear an;have H':=amk H;clear H;obtain ⟨aY,aZ,b3,b4,b5,b6⟩:=cells3 J.out;(try go_wp2);replace HO_4:=amk (Kd.R_drew HO_4.out);replace J:=amk (blk_drew J.out);replace HB:=amk (bd_ HB.out);have aN:(a7:Int)≤((Y.length:Int):Int):=dA_;obtain ⟨br,ap,_,aQ,_⟩:=info_parts info48;have ac:Y.length≤a6:=af.out;have aG:Kd.C k48 _ a8 Y.length Y:=ae.out;have aE:=cut_to (P:=Tryz.prog) 26 48 .i64 Tryz.underlying26 ap a8 Y.length a6 a7 (dA_) aN ac;have ar:=Kd.C_take (m:=(a7:Int).toNat) aG (by omega);have au:ah.length=(a7:Int).toNat:=(by rw [am.out,List.length_take];omega);rw [←am.out] at ar;rw [←au] at aE;have av:=amk ar;have aT:=amk (show ah.length≤a6 from by omega);clear ar aG ac ap aQ;have bu:=amk au;clear au;replace aN:=eq_true aN;refine start_ (n:=12) (S:=fun w'=>w'.cell? ⟨aa,0,none⟩=some (.int .i64 Z)∧w'.cell? ⟨aa,1,none⟩=some (.int .i64 a1)∧w'.cell? ⟨aa,2,none⟩=some (.slice a8 Y.length a6)) (ds:=[]) (bA 12 0) (by kernel_rfl) rfl rfl ⟨(blk_cell J.out 0).trans rfl,(blk_cell J.out 1).trans rfl,(blk_cell J.out 2).trans rfl⟩ (fun hHeld=>?_);refine with_tabW spec_LeftByClues.tab7 spec_LeftByClues.bits7 (fun HT_ HW_=>?_);generalize wr.drew=bD at HO_4 J HB av hHeld ⊢;refine pU_ HT_ 0 (some 16) (bA 12 1) ?_;refine pU_ HT_ 1 (some 17) (bA 12 3) ?_;refine pU_ HT_ 3 (some 19) (bA 12 11) ?_;refine pU_ HT_ 5 (some 21) (bA 12 43) ?_;refine tK_ HT_ HW_ hHeld 2 (some 18) (bA 12 47) ?_;refine tK_ HT_ HW_ hHeld 4 (some 20) (bA 12 63) ?_;refine pU_ HT_ 6 (some 22) (bA 12 127) ?_;refine oN_ HT_ 7 (some 23) (bA 12 255) (fun K hK=>?_);refine goes_ Tryz.func40 (by kernel_rfl) rfl #[.agg #[.int .i64 Z, .int .i64 a1], .slice a8 ah.length a6] (by rfl) rfl rfl gL_ ?_;(with_reducible refine (spec_pzAll.calls k1 Z a1 _ _ ah ai _ ?_ ?_ bk.out).mono ?_);exact cB (Kd.C_below av.out HB.out);exact aT.out;rintro e bF ⟨bv,rfl,b7,hb⟩;refine ⟨_,rfl,?_⟩;replace HO_4:=amk (Kd.R_below (oX HO_4) hb);have ag:=amk (Kd.R_lower b7 (below_size bB));replace J:=kb2 J hb;replace HB:=hB2 HB hb;(try clear hb);(try clear b7);obtain ⟨bw,bz,aH⟩:=Kd.R_slice ag.out;(first | subst aH | (injection aH with f1_ f2_ f3_;have f4_:=f1_.symm;have f5_:=f3_.symm;clear f1_ f2_ f3_;subst f4_;subst f5_));refine hK.out _ _ hC_ (fun hHeld=>?_);clear hK K;refine nN_ (some 23) ?_;refine pU_ HT_ 8 (some 24) (bA 12 511) ?_;refine oN_ HT_ 9 (some 25) (bA 12 1023) (fun K hK=>?_);refine value_ (w1:=?_) (v:=?_) (by rfl) rfl ?_ ?_;rotate_left 2
              · go_simp
                constructor
                · rfl
                · rfl
              refine hK.out _ _ ⟨(blk_cell (ka_ J.out _) 0).trans rfl,(blk_cell (ka_ J.out _) 1).trans rfl,(blk_cell (ka_ J.out _) 2).trans rfl⟩ (fun hHeld=>?_);clear hK K;refine nN_ (some 25) ?_;refine oN_ HT_ 10 (some 26) (bA 12 2047) (fun K hK=>?_);refine Kd.R_append_step (Kd.int .i64) (w0:=w) w.heap.size (by rfl) (.tmp 16) (.tmp 25) 39 3 (.int .i64 0) 8 rfl Tryz.underlying39 info3 rfl (by decide) (by omega) u4 ab (ai.length:Int) [.int .i64 (ai.length:Int)] (fun _=>True) (fun _=>False) rfl rfl ?aP (fun _ hk=>hk.elim) ?aF ?aO ?aB ?aS ?aL ?_;(case aP=>exact rfl);(case aB=>exact bB);(case aF=>exact (fun _ _=>trivial));(case aO=>exact (oX HO_4));(case aS=>exact (below_size bB));(case aL=>have:=aK.out;omega);intro bC bH ho hb hg hat;rw [←aM.out] at ho;replace J:=bG J hg (Kd.R_ne HO_4.out J.out (by decide));replace ag:=amk (Kd.R_over' (oX ag) (Kd.R_typed (oX HO_4)) (by decide) hg);replace HB:=amk (hb);have aU:=amk (ho);clear HO_4;clear ho hb hg hat;refine hK.out _ _ hC_ (fun hHeld=>?_);clear hK K;refine nN_ (some 26) ?_;refine pU_ HT_ 11 (some 4) (bA 12 4095) ?_;refine done_ (done_of HT_.out (by kernel_rfl)) ?_;(try go_wp2);go_roundg k1
              case measure=>have:=aV.out;omega
              case rel=>exact ⟨(aX),(wrap64 (a7 + 1)),rS_,H',⟨by have:=aV.out;omega⟩,⟨oX aU⟩,⟨kB J⟩,⟨bB⟩⟩
            · rw [if_neg c11] at H;exact absurd H (by simp)
          · rw [if_neg c8] at H;exact absurd H (by simp)
        · simp only [Option.some.injEq,Prod.mk.injEq] at H;obtain ⟨rfl,rfl⟩:=H;obtain ⟨b8,b9,ba,bb,bc,bd⟩:=cells3 J.out;go_wp2;go_ret2;exact ⟨_,rF_,oX HO_4,bB⟩
  · simp only [Option.some.injEq,Prod.mk.injEq] at H;obtain ⟨rfl,rfl⟩:=H;go_enter Tryz.func19,Tryz.ntmps19;go_wp2_with (first | ((with_reducible refine gate_dst (N:=1) rfl ?_);refine boxE_ HB 1 #[.int .i64 Z, .int .i64 a1, .slice a8 Y.length a6] 28 ?_;clear HB;intro aa bJ HB J aI aJ hb;clear hb;obtain ⟨be,bf,bg,bh,bi,bj⟩:=cells3 J.out) | ((with_reducible refine gate_callee (f:=39) rfl ?_);refine goesL_ (some 7) rfl rfl Tryz.func39 (by kernel_rfl) rfl #[.agg #[.int .i64 Z, .int .i64 a1, .slice a8 Y.length a6]] rfl gL_ ?_;(with_reducible refine (spec_pzGood.calls k Z a1 _ _ Y false _ ?_ ?_ A2.out).mono ?_);exact cB (Kd.C_below ae.out HB.out);exact af.out;rintro e bL ⟨rfl,hb⟩;refine ⟨_,rfl,?_⟩;replace J:=kb2 J hb;replace HB:=hB2 HB hb;(try clear hb)));go_ret2;exact ⟨_,rF_,xN_,bB⟩
/-! ### spec_pzWithout: function 43 -/
def spec_pzWithout.f (l0:List (S48)) (a1:Int):Option ((List (S48))):=(some (([]:List (S48)):List (S48))).bind fun J=>(if 0≤a1 then (if a1≤(l0.length:Int) then ((some (l0.take (a1:Int).toNat:List (S48))).bind fun Y=>(if J.length + Y.length < 5864062014805 then ((some (J ++ Y:List (S48))).bind fun Z=>(if 0≤(wrap64 (a1 + 1)) then (if (wrap64 (a1 + 1))≤(l0.length:Int) then ((some (l0.drop ((wrap64 (a1 + 1)):Int).toNat:List (S48))).bind fun a6=>(if Z.length + a6.length < 5864062014805 then (some (Z ++ a6)) else (none))) else (none)) else (none))) else (none))) else (none)) else (none))
def spec_pzWithout.T1:Bool×List (List Nat×List Nat):=(true,[([],[]),([],[]),([],[]),([1,2],[1,2]),([0,3],[0,3]),([],[]),([],[]),([6],[6]),([5,7],[5,7]),([4,8,4],[4,8]),([9,9,0,1,2,3,4,5,6,7,8,9],[9])])
def spec_pzWithout.B1:List Nat:=[0,0,0,6,15,0,0,64,224,511,1023]
theorem spec_pzWithout.tab1:rtab .any (opsOf Tryz.f43 1)=spec_pzWithout.T1:=by kernel_rfl
theorem spec_pzWithout.bits1:waitsOk spec_pzWithout.T1.2 spec_pzWithout.B1=true:=by kernel_rfl
set_option maxHeartbeats 8000000 in
set_option maxRecDepth 100000 in
theorem spec_pzWithout.calls (A0:Option Addr) (c0:Nat) (l0:List (S48)) (a1:Int) (r:List (S48)) (w:World) (aV:Kd.C k48 w A0 l0.length l0) (aW:l0.length≤c0) (h:spec_pzWithout.f l0 a1=some r) :
    Calls Tryz.prog 43 #[.slice A0 l0.length c0, .int .i64 a1] w fun e w'=> ∃ v0_:Value,e = .returned (v0_)∧Kd.R k48 48 w' w.heap.size (fun _=>True) v0_ r∧Below w.heap.size w w':=by
  have aX:=amk aV;have aY:=amk aW;clear aV aW;have HB:=amk (Below.refl w.heap.size w);unfold spec_pzWithout.f at h;have H:=h;clear h;(try rw [Option.bind_some] at H);generalize ag:(([]:List (S48)))=ah at H;have ai:=amk ag.symm;clear ag
  by_cases c3:0≤a1
  · rw [if_pos c3] at H;have ba:=eq_true c3;have bb:decide (0≤a1)=true:=decide_eq_true c3;clear c3
    by_cases c4:a1≤(l0.length:Int)
    · rw [if_pos c4] at H;have bc:=eq_true c4;have bd:decide (a1≤(l0.length:Int))=true:=decide_eq_true c4;clear c4;(try rw [Option.bind_some] at H);generalize aj:((l0.take (a1:Int).toNat):List (S48))=a6 at H;have ak:=amk aj.symm;clear aj
      by_cases c5:ah.length + a6.length < 5864062014805
      · rw [if_pos c5] at H;have aZ:=amk c5;clear c5;(try rw [Option.bind_some] at H);generalize al:((ah ++ a6):List (S48))=a7 at H;have aK:=amk al.symm;clear al;obtain ⟨J,ac⟩ : ∃ j_:Int,(wrap64 (a1 + 1))=j_:=⟨_,rfl⟩;(replace H:(if 0≤(J) then (if (J)≤(l0.length:Int) then ((some (l0.drop ((J):Int).toNat:List (S48))).bind fun Y=>(if a7.length + Y.length < 5864062014805 then (some (a7 ++ Y)) else (none))) else (none)) else (none))=some r:=by first | (rw [ac] at H;exact H) | (simp only [ac] at H ⊢;exact H));have hji6w:(IntKind.i64.wrap (a1 + 1))=J:=(i64_w _).trans ac
        by_cases c7:0≤(J)
        · rw [if_pos c7] at H;have be:=eq_true c7;have bf:decide (0≤(J))=true:=decide_eq_true c7;clear c7
          by_cases c8:(J)≤(l0.length:Int)
          · rw [if_pos c8] at H;have bg:=eq_true c8;have bh:decide ((J)≤(l0.length:Int))=true:=decide_eq_true c8;clear c8;(try rw [Option.bind_some] at H);generalize am:((l0.drop ((J):Int).toNat):List (S48))=Y at H;have an:=amk am.symm;clear am
            by_cases c9:a7.length + Y.length < 5864062014805
            · rw [if_pos c9] at H;have b3:=amk c9;clear c9;(try rw [Option.bind_some] at H);generalize ap:((a7 ++ Y):List (S48))=bi at H;have aM:=amk ap.symm;clear ap;obtain rfl:=Option.some.inj H;go_enter Tryz.func43,Tryz.ntmps43;(try go_wp2);replace HB:=amk (bd_ HB.out);have aN:(a1:Int)≤((l0.length:Int):Int):=dA_;obtain ⟨bj,ar,_,aQ,_⟩:=info_parts info48;have a8:l0.length≤c0:=aY.out;have aI:Kd.C k48 _ A0 l0.length l0:=aX.out;have aG:=cut_to (P:=Tryz.prog) 26 48 .i64 Tryz.underlying26 ar A0 l0.length c0 a1 (dA_) aN a8;have au:=Kd.C_take (m:=(a1:Int).toNat) aI (by omega);have av:a6.length=(a1:Int).toNat:=(by rw [ak.out,List.length_take];omega);rw [←ak.out] at au;rw [←av] at aG;have ax:=amk au;have b7:=amk (show a6.length≤c0 from by omega);clear au aI a8 ar aQ;have bk:=amk av;clear av;replace aN:=eq_true aN;have aT:((J):Int)≤((l0.length:Int):Int):=dA_;obtain ⟨bl,ay,_,az,_⟩:=info_parts info48;have Z:l0.length≤c0:=aY.out;have aJ:Kd.C k48 _ A0 l0.length l0:=aX.out;have b4:(0:Int)≤((J):Int):=dA_;have aH:=cut_from (P:=Tryz.prog) 26 48 .i64 Tryz.underlying26 ay 3 az A0 l0.length c0 (J) b4 aT;have aa:=Kd.C_drop (m:=((J):Int).toNat) (c:=c0) aJ (by omega) Z;obtain ⟨b8,ae⟩ : ∃ A1,A1=(if c0=((J):Int).toNat then A0 else (A0:Option Addr).map (·.add (((J):Int).toNat * 3))):=⟨_,rfl⟩;obtain ⟨c12,aA⟩ : ∃ c1,c1=c0 - ((J):Int).toNat:=⟨_,rfl⟩;have af:Y.length=l0.length - ((J):Int).toNat:=(by rw [an.out,List.length_drop] <;> omega);rw [show (l0).drop ((J):Int).toNat=Y from an.out.symm] at aa;replace aa:Kd.C k48 _ b8 Y.length Y:=(by rw [ae];exact aa);rw [←af,←ae,←aA] at aH;have aC:=amk aa;have b9:=amk (show Y.length≤c12 from by rw [af,aA];exact Nat.sub_le_sub_right Z _);clear aa aJ Z ay az aA;have bm:=amk af;have bn:=amk ae;clear af ae;replace aT:=eq_true aT;refine start_ (n:=11) (S:=fun w'=>True) (ds:=[]) (bA 11 0) (by kernel_rfl) rfl rfl trivial (fun hHeld=>?_);refine with_tabW spec_pzWithout.tab1 spec_pzWithout.bits1 (fun HT_ HW_=>?_);generalize w.drew=bp at HB ax aC hHeld ⊢;refine pU_ HT_ 1 (some 6) (bA 11 2) ?_;refine pU_ HT_ 2 (some 7) (bA 11 6) ?_;refine pU_ HT_ 3 (some 8) (bA 11 14) ?_;refine pU_ HT_ 5 (some 10) (bA 11 46) ?_;refine pU_ HT_ 6 (some 11) (bA 11 110) ?_;refine pU_ HT_ 7 (some 12) (bA 11 238) ?_;refine pU_ HT_ 8 (some 13) (bA 11 494) ?_;refine oN_ HT_ 0 (some 5) (bA 11 495) (fun K hK=>?_);refine Kd.R_lit_step k48 _ 48 ?hg (N:=5) ?hd (xs:=([]:List (S48))) (inner:=[]) (ok:=fun _=>True) (okp:=fun _=>True) ?hr ?hp (fun _ hk=>hk) trivial (Below.refl _ _) (Nat.le_refl _) (by simp) ?_;(case hd=>rfl);(case hg=>rfl);(case hr=>first | (go_simp;done) | (go_simp;rfl));(case hp=>exact (Reps.none _ _));intro b5 bq ab hb hg_ hnew_;clear hg_ hnew_;(first | rw [←ai.out] at ab | (simp only [Int.reduceToNat] at ab;rw [←ai.out] at ab));have aD:=amk (Kd.R_lower ab (below_size bB));replace HB:=hB2 HB hb;clear hb ab;refine hK.out _ _ trivial (fun hHeld=>?_);clear hK K;refine nN_ (some 5) ?_;refine oN_ HT_ 4 (some 9) (bA 11 511) (fun K hK=>?_);refine Kd.R_append_rows_step k48 (w0:=w) w.heap.size (by rfl) (.tmp 5) (.tmp 8) 26 48 (.agg #[(.int .i64 0),(.int .i64 0),(.int .i64 0)]) 24 rfl Tryz.underlying26 info48 rfl (by decide) (by omega) b5 ah a6 _ _ _ (fun _=>True) (fun _=>False) rfl rfl ?aO ?aR (fun _ _ h=>h) (fun _ h=>h.elim) ?aF ?aB ?aS ?aL ?_;(case aR=>exact cB (Kd.C_below ax.out HB.out));(case aB=>exact bB);(case aF=>exact (fun _ _=>trivial));(case aO=>exact (oX aD));(case aS=>exact (below_size bB));(case aL=>have:=aZ.out;omega);intro b6 br ho hb hg hat;rw [←aK.out] at ho;replace HB:=amk (hb);have aE:=amk (ho);clear aD;clear ho hb hg hat;refine hK.out _ _ trivial (fun hHeld=>?_);clear hK K;refine nN_ (some 9) ?_;refine oN_ HT_ 9 (some 14) (bA 11 1023) (fun K hK=>?_);refine Kd.R_append_rows_step k48 (w0:=w) w.heap.size (by rfl) (.tmp 9) (.tmp 13) 26 48 (.agg #[(.int .i64 0),(.int .i64 0),(.int .i64 0)]) 24 rfl Tryz.underlying26 info48 rfl (by decide) (by omega) b6 a7 Y _ _ _ (fun _=>True) (fun _=>False) rfl rfl ?aO ?aR (fun _ _ h=>h) (fun _ h=>h.elim) ?aF ?aB ?aS ?aL ?_;(case aR=>exact cB (Kd.C_below aC.out HB.out));(case aB=>exact bB);(case aF=>exact (fun _ _=>trivial));(case aO=>exact (oX aE));(case aS=>exact (below_size bB));(case aL=>have:=b3.out;omega);intro bo bu ho hb hg hat;rw [←aM.out] at ho;replace HB:=amk (hb);have aU:=amk (ho);clear aE;clear ho hb hg hat;refine hK.out _ _ trivial (fun hHeld=>?_);clear hK K;refine nN_ (some 14) ?_;refine pU_ HT_ 10 (some 4) (bA 11 2047) ?_;refine done_ (done_of HT_.out (by kernel_rfl)) ?_;(try go_wp2);go_ret;exact ⟨_,by first | rfl | (simp [errW_none,errW_some] <;> rfl) | (simp only [←ac];first | rfl | (simp [errW_none,errW_some] <;> rfl)) | (simp [*,errW_none,errW_some] <;> rfl),oX aU,bB⟩
            · rw [if_neg c9] at H;exact absurd H (by simp)
          · rw [if_neg c8] at H;exact absurd H (by simp)
        · rw [if_neg c7] at H;exact absurd H (by simp)
      · rw [if_neg c5] at H;exact absurd H (by simp)
    · rw [if_neg c4] at H;exact absurd H (by simp)
  · rw [if_neg c3] at H;exact absurd H (by simp)
/-! ### spec_NeedlessClues: function 17 -/
def spec_NeedlessClues.l0:Nat→List Int→Int→Int→Int→Int→Int→List (S48)→Option (List Int×Bool)
  | 0,_,_,_,_,_,_,_=>none
  | k + 1,x4,x5,a6,a1,J,Y,Z=>if a1 < a6 then ((spec_pzWithout.f Z a1).bind fun a7=>((spec_pzAll.f k J Y a7).bind fun a8=>(if (a8.length:Int)=x5 then (if x4.length < 17592186044416 then (spec_NeedlessClues.l0 k (x4 ++ [a1]) x5 a6 (wrap64 (a1 + 1)) J Y Z) else (none)) else (spec_NeedlessClues.l0 k x4 x5 a6 (wrap64 (a1 + 1)) J Y Z)))) else (some (x4,true))
def spec_NeedlessClues.f (k:Nat) (Y:Int) (Z:Int) (J:List (S48)):Option (List Int×Bool):=(spec_pzGood.f k Y Z J).bind fun a1=>(if a1=true then ((spec_pzAll.f k Y Z J).bind fun a6=>(spec_NeedlessClues.l0 k ([]:List Int) (a6.length:Int) (J.length:Int) 0 Y Z J)) else (some (([]:List Int),false)))
def spec_NeedlessClues.T8:Bool×List (List Nat×List Nat):=(true,[([],[]),([0],[0]),([],[]),([2],[2]),([],[]),([3,4],[3,4]),([1,5,5],[1,5]),([6],[6]),([],[]),([7,8],[7,8])])
def spec_NeedlessClues.B8:List Nat:=[0,1,0,4,0,28,63,127,0,511]
theorem spec_NeedlessClues.tab8:rtab .any (opsOf Tryz.f17 8)=spec_NeedlessClues.T8:=by kernel_rfl
theorem spec_NeedlessClues.bits8:waitsOk spec_NeedlessClues.T8.2 spec_NeedlessClues.B8=true:=by kernel_rfl
set_option maxHeartbeats 8000000 in
set_option maxRecDepth 100000 in
theorem spec_NeedlessClues.calls (k:Nat) (Z:Int) (a1:Int) (a8:Option Addr) (aa:Nat) (Y:List (S48)) (r1:List Int) (r2:Bool) (w:World) (al:Kd.C k48 w a8 Y.length Y) (am:Y.length≤aa) (h:spec_NeedlessClues.f k Z a1 Y=some (r1,r2)) :
    Calls Tryz.prog 17 #[.agg #[.int .i64 Z, .int .i64 a1, .slice a8 Y.length aa]] w fun e w'=> ∃ v0_:Value,e = .returned (.tuple #[v0_, .bool r2])∧Kd.R (Kd.int .i64) 3 w' w.heap.size (fun _=>True) v0_ r1∧Below w.heap.size w w':=by
  have br:=Tryz.underlying28;have bu:=Tryz.underlying25;have ag:=amk al;have ah:=amk am;clear al am;have HB:=amk (Below.refl w.heap.size w);unfold spec_NeedlessClues.f at h;have H:=h;clear h;replace H:=bE H;obtain ⟨bv,A2,H⟩:=H;replace H:=iteB H;obtain ⟨rfl,H⟩ | ⟨rfl,H⟩:=H
  · replace H:=bE H;obtain ⟨ac,A4,H⟩:=H;have H':=amk H;clear H;go_enter Tryz.func17,Tryz.ntmps17;go_wp2_with (first | ((with_reducible refine gate_dst (N:=1) rfl ?_);refine boxE_ HB 1 #[.int .i64 Z, .int .i64 a1, .slice a8 Y.length aa] 28 ?_;clear HB;intro ab w5 HB J aX aY hb;clear hb;obtain ⟨az,aA,aC,aD,aE,aG⟩:=cells3 J.out) | ((with_reducible refine gate_callee (f:=39) rfl ?_);refine goesL_ (some 8) rfl rfl Tryz.func39 (by kernel_rfl) rfl #[.agg #[.int .i64 Z, .int .i64 a1, .slice a8 Y.length aa]] rfl gL_ ?_;(with_reducible refine (spec_pzGood.calls k Z a1 _ _ Y true _ ?_ ?_ A2.out).mono ?_);exact cB (Kd.C_below ag.out HB.out);exact ah.out;rintro e w7 ⟨rfl,hb⟩;refine ⟨_,rfl,?_⟩;replace J:=kb2 J hb;replace HB:=hB2 HB hb;(try clear hb);obtain ⟨aH,aI,aJ,aK,aM,aN⟩:=cells3 J.out) | ((with_reducible refine gate_callee (f:=40) rfl ?_);refine goesL_ (some 14) rfl rfl Tryz.func40 (by kernel_rfl) rfl #[.agg #[.int .i64 Z, .int .i64 a1], .slice a8 Y.length aa] rfl gL_ ?_;(with_reducible refine (spec_pzAll.calls k Z a1 _ _ Y ac _ ?_ ?_ A4.out).mono ?_);exact cB (Kd.C_below ag.out HB.out);exact ah.out;rintro e w9 ⟨bw,rfl,ae,hb⟩;refine ⟨_,rfl,?_⟩;have aZ:=amk (Kd.R_lower ae (below_size bB));replace J:=kb2 J hb;replace HB:=hB2 HB hb;(try clear hb);(try clear ae);obtain ⟨bz,bC,ba⟩:=Kd.R_slice aZ.out;subst ba;obtain ⟨an,ap,ar,au,av,ax⟩:=cells3 J.out))
    go_loopg [4,19] k (fun kq v4 bq w'=> ∃ (ai:List Int) (a7:Int),bq = .int .i64 a7∧Aside0 (spec_NeedlessClues.l0 kq ai (ac.length:Int) (Y.length:Int) a7 Z a1 Y=some (r1,r2))∧Aside0 (kq≤k)∧Aside0 (Kd.R (Kd.int .i64) 3 w' w.heap.size (fun _=>True) v4 ai)∧Aside0 (w'.heap[ab]?=some (.cells #[.int .i64 Z, .int .i64 a1,(.slice a8 Y.length aa)] 28 (0,0)))∧Aside0 (Below w.heap.size w w'))
    case atStart=>exact ⟨(([]:List Int)),(0),rS_,H',⟨Nat.le_refl _⟩,⟨xN_⟩,⟨kB J⟩,⟨bB⟩⟩
    case round =>
      clear H';(try clear c1);(try clear p2);(try clear c3);(try clear c4);(try clear an);(try clear ap);(try clear ar);(try clear az);(try clear aA);(try clear aC);(try clear aH);(try clear aI);(try clear aJ);(try clear au);(try clear av);(try clear ax);(try clear aD);(try clear aE);(try clear aG);(try clear aK);(try clear aM);(try clear aN);obtain ⟨ai,a7,rfl,HA,aQ,HO_4,J,HB⟩:=hrel
      cases gk with
      | zero=>exact absurd HA.out (by simp [spec_NeedlessClues.l0])
      | succ k1 =>
        have H:=HA.out;clear HA;simp only [spec_NeedlessClues.l0] at H;replace H:=iteE H;obtain ⟨b3,H⟩ | ⟨b3,H⟩:=H
        · replace H:=bE H;obtain ⟨ak,bb,H⟩:=H;replace H:=bE H;obtain ⟨af,bc,H⟩:=H
          by_cases c15:(af.length:Int)=(ac.length:Int)
          · rw [if_pos c15] at H;have b4:((af.length:Int) == (ac.length:Int))=true:=beq_iff_eq.mpr c15;have b5:((af.length:Int) != (ac.length:Int))=false:=bne_eq_false_iff_eq.mpr c15;(have b6:(af.length == ac.length)=true:=by first | simpa using c15 | (simp at c15 ⊢;omega));clear c15
            by_cases c16:ai.length < 17592186044416
            · rw [if_pos c16] at H;have b7:=amk c16;clear c16;(try rw [Option.bind_some] at H);generalize ay:((ai ++ [a7]):List Int)=bd at H;have b8:=amk ay.symm;clear ay;have H':=amk H;clear H;(try go_wp2);replace HO_4:=amk (Kd.R_drew HO_4.out);replace J:=amk (blk_drew J.out);replace HB:=amk (bd_ HB.out);refine start_ (n:=10) (S:=fun w'=>w'.cell? ⟨ab,0,none⟩=some (.int .i64 Z)∧w'.cell? ⟨ab,1,none⟩=some (.int .i64 a1)∧w'.cell? ⟨ab,2,none⟩=some (.slice a8 Y.length aa)) (ds:=[]) (bA 10 0) (by kernel_rfl) rfl rfl ⟨(blk_cell J.out 0).trans rfl,(blk_cell J.out 1).trans rfl,(blk_cell J.out 2).trans rfl⟩ (fun hHeld=>?_);refine with_tabW spec_NeedlessClues.tab8 spec_NeedlessClues.bits8 (fun HT_ HW_=>?_);generalize wr.drew=bM at HO_4 J HB hHeld ⊢;refine pU_ HT_ 0 (some 22) (bA 10 1) ?_;refine pU_ HT_ 2 (some 24) (bA 10 5) ?_;refine pU_ HT_ 4 (some 26) (bA 10 21) ?_;refine pU_ HT_ 8 (some 30) (bA 10 277) ?_;refine tK_ HT_ HW_ hHeld 1 (some 23) (bA 10 279) ?_;refine tK_ HT_ HW_ hHeld 3 (some 25) (bA 10 287) ?_;refine oN_ HT_ 5 (some 27) (bA 10 319) (fun K hK=>?_);refine goes_ Tryz.func43 (by kernel_rfl) rfl #[.slice a8 Y.length aa, .int .i64 a7] (by rfl) rfl rfl gL_ ?_;(with_reducible refine (spec_pzWithout.calls _ _ Y a7 ak _ ?_ ?_ bb.out).mono ?_);exact cB (Kd.C_below ag.out HB.out);exact ah.out;rintro e bN ⟨be,rfl,ae,hb⟩;refine ⟨_,rfl,?_⟩;replace HO_4:=amk (Kd.R_below (oX HO_4) hb);have a6:=amk (Kd.R_lower ae (below_size bB));replace J:=kb2 J hb;replace HB:=hB2 HB hb;(try clear hb);(try clear ae);obtain ⟨bf,bg,aT⟩:=Kd.R_slice a6.out;(first | subst aT | (injection aT with f1_ f2_ f3_;have f4_:=f1_.symm;have f5_:=f3_.symm;clear f1_ f2_ f3_;subst f4_;subst f5_));refine hK.out _ _ hC_ (fun hHeld=>?_);clear hK K;refine nN_ (some 27) ?_;refine oN_ HT_ 6 (some 28) (bA 10 383) (fun K hK=>?_);refine goes_ Tryz.func40 (by kernel_rfl) rfl #[.agg #[.int .i64 Z, .int .i64 a1], .slice bf ak.length bg] (by rfl) rfl rfl gL_ ?_;(with_reducible refine (spec_pzAll.calls k1 Z a1 _ _ ak af _ ?_ ?_ bc.out).mono ?_);exact cB ((Kd.R_reads' a6.out).2.2);exact (Kd.R_reads' a6.out).2.1;rintro e bO ⟨bh,rfl,ae,hb⟩;refine ⟨_,rfl,?_⟩;replace HO_4:=amk (Kd.R_below (oX HO_4) hb);replace a6:=amk (Kd.R_below (oX a6) hb);have aj:=amk (Kd.R_lower ae (below_size bB));replace J:=kb2 J hb;replace HB:=hB2 HB hb;(try clear hb);(try clear ae);obtain ⟨bD,bF,aU⟩:=Kd.R_slice aj.out;(first | subst aU | (injection aU with f1_ f2_ f3_;have f4_:=f1_.symm;have f5_:=f3_.symm;clear f1_ f2_ f3_;subst f4_;subst f5_));refine hK.out _ _ hC_ (fun hHeld=>?_);clear hK K;refine nN_ (some 28) ?_;refine pU_ HT_ 7 (some 29) (bA 10 511) ?_;refine pU_ HT_ 9 (some 31) (bA 10 1023) ?_;refine done_ (done_of HT_.out (by kernel_rfl)) ?_;(try go_wp2_with (first | ((with_reducible refine gate_builtin (b:= .append) (xs:= #[.tmp 32, .tmp 34]) rfl ?_);at_builtin;refine Kd.R_append (Kd.int .i64) (w0:=w) w.heap.size rfl (.tmp 32) (.tmp 34) 39 3 (.int .i64 0) 8 rfl Tryz.underlying39 info3 rfl (by decide) (by omega) u4 ai a7 [.int .i64 a7] (fun _=>True) (fun _=>False) rfl rfl rfl (fun _ hk=>hk.elim) (fun _ _=>trivial) (oX HO_4) bB (below_size bB) (by have:=b7.out;omega) ?_;intro bH bQ ho hb hg hat;rw [←b8.out] at ho;replace J:=bG J hg (Kd.R_ne HO_4.out J.out (by decide));replace a6:=amk (Kd.R_over' (oX a6) (Kd.R_typed (oX HO_4)) (by decide) hg);replace aj:=amk (Kd.R_over' (oX aj) (Kd.R_typed (oX HO_4)) (by decide) hg);replace HB:=amk (hb);have b9:=amk (ho);clear HO_4;clear ho hb hg hat)));go_roundg k1
              case measure=>have:=aQ.out;omega
              case rel=>exact ⟨(bd),(wrap64 (a7 + 1)),rS_,H',⟨by have:=aQ.out;omega⟩,⟨oX b9⟩,⟨kB J⟩,⟨bB⟩⟩
            · rw [if_neg c16] at H;exact absurd H (by simp)
          · rw [if_neg c15] at H;have b4:((af.length:Int) == (ac.length:Int))=false:=beq_eq_false_iff_ne.mpr c15;have b5:((af.length:Int) != (ac.length:Int))=true:=bne_iff_ne.mpr c15;(have b6:(af.length == ac.length)=false:=by first | simpa using c15 | (simp at c15 ⊢;omega));have H':=amk H;clear H;(try go_wp2);replace HO_4:=amk (Kd.R_drew HO_4.out);replace J:=amk (blk_drew J.out);replace HB:=amk (bd_ HB.out);refine start_ (n:=10) (S:=fun w'=>w'.cell? ⟨ab,0,none⟩=some (.int .i64 Z)∧w'.cell? ⟨ab,1,none⟩=some (.int .i64 a1)∧w'.cell? ⟨ab,2,none⟩=some (.slice a8 Y.length aa)) (ds:=[]) (bA 10 0) (by kernel_rfl) rfl rfl ⟨(blk_cell J.out 0).trans rfl,(blk_cell J.out 1).trans rfl,(blk_cell J.out 2).trans rfl⟩ (fun hHeld=>?_);refine with_tabW spec_NeedlessClues.tab8 spec_NeedlessClues.bits8 (fun HT_ HW_=>?_);generalize wr.drew=bR at HO_4 J HB hHeld ⊢;refine pU_ HT_ 0 (some 22) (bA 10 1) ?_;refine pU_ HT_ 2 (some 24) (bA 10 5) ?_;refine pU_ HT_ 4 (some 26) (bA 10 21) ?_;refine pU_ HT_ 8 (some 30) (bA 10 277) ?_;refine tK_ HT_ HW_ hHeld 1 (some 23) (bA 10 279) ?_;refine tK_ HT_ HW_ hHeld 3 (some 25) (bA 10 287) ?_;refine oN_ HT_ 5 (some 27) (bA 10 319) (fun K hK=>?_);refine goes_ Tryz.func43 (by kernel_rfl) rfl #[.slice a8 Y.length aa, .int .i64 a7] (by rfl) rfl rfl gL_ ?_;(with_reducible refine (spec_pzWithout.calls _ _ Y a7 ak _ ?_ ?_ bb.out).mono ?_);exact cB (Kd.C_below ag.out HB.out);exact ah.out;rintro e bS ⟨be,rfl,ae,hb⟩;refine ⟨_,rfl,?_⟩;replace HO_4:=amk (Kd.R_below (oX HO_4) hb);have a6:=amk (Kd.R_lower ae (below_size bB));replace J:=kb2 J hb;replace HB:=hB2 HB hb;(try clear hb);(try clear ae);obtain ⟨bi,bj,aV⟩:=Kd.R_slice a6.out;(first | subst aV | (injection aV with f1_ f2_ f3_;have f4_:=f1_.symm;have f5_:=f3_.symm;clear f1_ f2_ f3_;subst f4_;subst f5_));refine hK.out _ _ hC_ (fun hHeld=>?_);clear hK K;refine nN_ (some 27) ?_;refine oN_ HT_ 6 (some 28) (bA 10 383) (fun K hK=>?_);refine goes_ Tryz.func40 (by kernel_rfl) rfl #[.agg #[.int .i64 Z, .int .i64 a1], .slice bi ak.length bj] (by rfl) rfl rfl gL_ ?_;(with_reducible refine (spec_pzAll.calls k1 Z a1 _ _ ak af _ ?_ ?_ bc.out).mono ?_);exact cB ((Kd.R_reads' a6.out).2.2);exact (Kd.R_reads' a6.out).2.1;rintro e bT ⟨bh,rfl,ae,hb⟩;refine ⟨_,rfl,?_⟩;replace HO_4:=amk (Kd.R_below (oX HO_4) hb);replace a6:=amk (Kd.R_below (oX a6) hb);have aj:=amk (Kd.R_lower ae (below_size bB));replace J:=kb2 J hb;replace HB:=hB2 HB hb;(try clear hb);(try clear ae);obtain ⟨bJ,bL,aW⟩:=Kd.R_slice aj.out;(first | subst aW | (injection aW with f1_ f2_ f3_;have f4_:=f1_.symm;have f5_:=f3_.symm;clear f1_ f2_ f3_;subst f4_;subst f5_));refine hK.out _ _ hC_ (fun hHeld=>?_);clear hK K;refine nN_ (some 28) ?_;refine pU_ HT_ 7 (some 29) (bA 10 511) ?_;refine pU_ HT_ 9 (some 31) (bA 10 1023) ?_;refine done_ (done_of HT_.out (by kernel_rfl)) ?_;(try go_wp2);go_roundg k1
            case measure=>have:=aQ.out;omega
            case rel=>exact ⟨(ai),(wrap64 (a7 + 1)),rS_,H',⟨by have:=aQ.out;omega⟩,⟨oX HO_4⟩,⟨kB J⟩,⟨bB⟩⟩
        · simp only [Option.some.injEq,Prod.mk.injEq] at H;obtain ⟨rfl,rfl⟩:=H;go_wp2;go_ret2;exact ⟨_,rF_,oX HO_4,bB⟩
  · simp only [Option.some.injEq,Prod.mk.injEq] at H;obtain ⟨rfl,rfl⟩:=H;go_enter Tryz.func17,Tryz.ntmps17;go_wp2_with (first | ((with_reducible refine gate_dst (N:=1) rfl ?_);refine boxE_ HB 1 #[.int .i64 Z, .int .i64 a1, .slice a8 Y.length aa] 28 ?_;clear HB;intro ab bU HB J aX aY hb;clear hb;obtain ⟨bk,bl,bm,bn,bo,bp⟩:=cells3 J.out) | ((with_reducible refine gate_callee (f:=39) rfl ?_);refine goesL_ (some 8) rfl rfl Tryz.func39 (by kernel_rfl) rfl #[.agg #[.int .i64 Z, .int .i64 a1, .slice a8 Y.length aa]] rfl gL_ ?_;(with_reducible refine (spec_pzGood.calls k Z a1 _ _ Y false _ ?_ ?_ A2.out).mono ?_);exact cB (Kd.C_below ag.out HB.out);exact ah.out;rintro e bV ⟨rfl,hb⟩;refine ⟨_,rfl,?_⟩;replace J:=kb2 J hb;replace HB:=hB2 HB hb;(try clear hb)));go_ret2;exact ⟨_,rF_,xN_,bB⟩
/-! ### spec_Solutions: function 7 -/
def spec_Solutions.f (k:Nat) (J:Int) (Y:Int) (Z:List (S48)):Option (List ByteArray×Bool):=(spec_pzGood.f k J Y Z).bind fun a1=>(if a1=true then ((spec_pzAll.f k J Y Z).bind fun a6=>(some (a6,true))) else (some (([]:List ByteArray),false)))
set_option maxHeartbeats 8000000 in
set_option maxRecDepth 100000 in
theorem spec_Solutions.calls (k:Nat) (Z:Int) (a1:Int) (a6:Option Addr) (a7:Nat) (Y:List (S48)) (r1:List ByteArray) (r2:Bool) (w:World) (ab:Kd.C k48 w a6 Y.length Y) (ac:Y.length≤a7) (h:spec_Solutions.f k Z a1 Y=some (r1,r2)) :
    Calls Tryz.prog 7 #[.agg #[.int .i64 Z, .int .i64 a1, .slice a6 Y.length a7]] w fun e w'=> ∃ v0_:Value,e = .returned (.tuple #[v0_, .bool r2])∧Kd.R Kd.string 9 w' w.heap.size (fun _=>True) v0_ r1∧Below w.heap.size w w':=by
  have aJ:=Tryz.underlying28;have aK:=Tryz.underlying25;have a8:=amk ab;have aa:=amk ac;clear ab ac;have HB:=amk (Below.refl w.heap.size w);unfold spec_Solutions.f at h;have H:=h;clear h;replace H:=bE H;obtain ⟨aM,A2,H⟩:=H;replace H:=iteB H;obtain ⟨rfl,H⟩ | ⟨rfl,H⟩:=H
  · replace H:=bE H;obtain ⟨ai,A4,H⟩:=H;simp only [Option.some.injEq,Prod.mk.injEq] at H;obtain ⟨rfl,rfl⟩:=H;go_enter Tryz.func7,Tryz.ntmps7;go_wp2_with (first | ((with_reducible refine gate_dst (N:=1) rfl ?_);refine boxE_ HB 1 #[.int .i64 Z, .int .i64 a1, .slice a6 Y.length a7] 28 ?_;clear HB;intro ae w5 HB J af ag hb;clear hb;obtain ⟨au,av,ax,ay,az,aA⟩:=cells3 J.out) | ((with_reducible refine gate_callee (f:=39) rfl ?_);refine goesL_ (some 5) rfl rfl Tryz.func39 (by kernel_rfl) rfl #[.agg #[.int .i64 Z, .int .i64 a1, .slice a6 Y.length a7]] rfl gL_ ?_;(with_reducible refine (spec_pzGood.calls k Z a1 _ _ Y true _ ?_ ?_ A2.out).mono ?_);exact cB (Kd.C_below a8.out HB.out);exact aa.out;rintro e w7 ⟨rfl,hb⟩;refine ⟨_,rfl,?_⟩;replace J:=kb2 J hb;replace HB:=hB2 HB hb;(try clear hb);obtain ⟨aC,aD,aE,aG,aH,aI⟩:=cells3 J.out) | ((with_reducible refine gate_callee (f:=40) rfl ?_);refine goesL_ (some 11) rfl rfl Tryz.func40 (by kernel_rfl) rfl #[.agg #[.int .i64 Z, .int .i64 a1], .slice a6 Y.length a7] rfl gL_ ?_;(with_reducible refine (spec_pzAll.calls k Z a1 _ _ Y ai _ ?_ ?_ A4.out).mono ?_);exact cB (Kd.C_below a8.out HB.out);exact aa.out;rintro e w9 ⟨aN,rfl,aj,hb⟩;refine ⟨_,rfl,?_⟩;have ah:=amk (Kd.R_lower aj (below_size bB));replace J:=kb2 J hb;replace HB:=hB2 HB hb;(try clear hb);(try clear aj)));go_ret2;exact ⟨_,rF_,oX ah,bB⟩
  · simp only [Option.some.injEq,Prod.mk.injEq] at H;obtain ⟨rfl,rfl⟩:=H;go_enter Tryz.func7,Tryz.ntmps7;go_wp2_with (first | ((with_reducible refine gate_dst (N:=1) rfl ?_);refine boxE_ HB 1 #[.int .i64 Z, .int .i64 a1, .slice a6 Y.length a7] 28 ?_;clear HB;intro ae aQ HB J af ag hb;clear hb;obtain ⟨ak,al,am,an,ap,ar⟩:=cells3 J.out) | ((with_reducible refine gate_callee (f:=39) rfl ?_);refine goesL_ (some 5) rfl rfl Tryz.func39 (by kernel_rfl) rfl #[.agg #[.int .i64 Z, .int .i64 a1, .slice a6 Y.length a7]] rfl gL_ ?_;(with_reducible refine (spec_pzGood.calls k Z a1 _ _ Y false _ ?_ ?_ A2.out).mono ?_);exact cB (Kd.C_below a8.out HB.out);exact aa.out;rintro e aT ⟨rfl,hb⟩;refine ⟨_,rfl,?_⟩;replace J:=kb2 J hb;replace HB:=hB2 HB hb;(try clear hb)));go_ret2;exact ⟨_,rF_,xN_,bB⟩
/-! The digits that all codes have, as values; a row of bytes behind a conversion. -/
def hdS (xs:List ByteArray):ByteArray:=rdOf ByteArray.empty xs 0
def sureC (xs:List ByteArray) (s:ByteArray) (j i:Nat):Int:=if (xs.take j).all (fun t=>decide (bt t (i:Nat)=bt s (i:Nat)))=true then bt s (i:Nat) else 63
def sureL (xs:List ByteArray) (s:ByteArray) (j n:Nat):List Int:=(List.range n).map (sureC xs s j)
def mixL (xs:List ByteArray) (s:ByteArray) (j n i:Nat):List Int:=(List.range n).map fun q=>if q < i then sureC xs s (j + 1) q else sureC xs s j q
def sureOk (xs:List ByteArray):Bool:=xs.all (fun t=>decide (t.size=(hdS xs).size)) && decide ((hdS xs).size≤1000000) && (List.range (hdS xs).size).all (fun i=>decide (bt (hdS xs) (i:Nat) < 128))
theorem sureOk_iff {xs:List ByteArray} : sureOk xs=true ↔ (∀ t∈xs,t.size=(hdS xs).size)∧(hdS xs).size≤1000000∧∀ i < (hdS xs).size,bt (hdS xs) (i:Nat) < 128:=by
  unfold sureOk
  simp [List.all_eq_true,and_assoc]
theorem sureL_length (xs s j n):(sureL xs s j n).length=n:=by simp [sureL]
theorem mixL_length (xs s j n i):(mixL xs s j n i).length=n:=by simp [mixL]
theorem mixL_zero (xs s j n):mixL xs s j n 0=sureL xs s j n:=by simp [mixL,sureL]
theorem mixL_full (xs s j n):mixL xs s j n n=sureL xs s (j + 1) n:=by
  unfold mixL sureL
  refine List.map_congr_left (fun q hq=>?_)
  rw [if_pos (List.mem_range.mp hq)]
theorem sureC_succ {xs:List ByteArray} {s:ByteArray} {j i:Nat} (hj:j < xs.length):sureC xs s (j + 1) i=if bt xs[j] (i:Nat)=bt s (i:Nat) then sureC xs s j i else 63:=by
  unfold sureC
  rw [List.take_succ_eq_append_getElem hj,List.all_append]
  by_cases h:bt xs[j] (i:Nat)=bt s (i:Nat) <;> simp [h]
theorem mixL_same {xs:List ByteArray} {s:ByteArray} {j n i:Nat} (hj:j < xs.length) (h:bt xs[j] (i:Nat)=bt s (i:Nat)):mixL xs s j n (i + 1)=mixL xs s j n i:=by
  unfold mixL
  refine List.map_congr_left (fun q _=>?_)
  by_cases e:q=i
  · subst e;rw [if_pos (by omega),if_neg (by omega),sureC_succ hj,if_pos h]
  · by_cases e2:q < i
    · rw [if_pos (by omega),if_pos e2]
    · rw [if_neg (by omega),if_neg e2]
theorem mixL_get {xs:List ByteArray} {s:ByteArray} {j n i q:Nat} (h:q < (mixL xs s j n i).length):(mixL xs s j n i)[q]=if q < i then sureC xs s (j + 1) q else sureC xs s j q:=by
  simp [mixL]
theorem sureL_get {xs:List ByteArray} {s:ByteArray} {j n q:Nat} (h:q < (sureL xs s j n).length):(sureL xs s j n)[q]=sureC xs s j q:=by
  simp [sureL]
theorem mixL_diff {xs:List ByteArray} {s:ByteArray} {j n i:Nat} (hj:j < xs.length) (h : ¬ bt xs[j] (i:Nat)=bt s (i:Nat)):(mixL xs s j n i).set i 63=mixL xs s j n (i + 1):=by
  apply List.ext_getElem
  · simp [mixL_length]
  · intro q h1 h2
    have hq:q < n:=by rw [mixL_length] at h2;exact h2
    rw [List.getElem_set]
    by_cases e:i=q
    · subst e;rw [if_pos rfl,mixL_get,if_pos (by omega),sureC_succ hj,if_neg h]
    · rw [if_neg e,mixL_get,mixL_get]
      by_cases e2:q < i
      · rw [if_pos e2,if_pos (by omega)]
      · rw [if_neg e2,if_neg (by omega)]
theorem sureL_zero (xs:List ByteArray) (s:ByteArray):sureL xs s 0 s.size=bytesOf s:=by
  apply List.ext_getElem
  · rw [sureL_length,bytesOf_length]
  · intro q h1 h2
    have e:=rd_bytesOf s (q:Int)
    rw [rd_at (by simpa using h2)] at e
    simp only [Int.toNat_natCast] at e
    rw [e,sureL_get]
    simp [sureC]
def BS (W:World) (g:Nat) (L:List Int):Prop:= ∀ i (h:i < L.length),W.cell? ⟨g,i,none⟩=some (.int .u8 L[i])∧W.frozen? ⟨g,i,none⟩=false
theorem BS_drew {W:World} {g:Nat} {L:List Int} (h:BS W g L):BS W.drew g L:=h
theorem BS_set {W:World} {g:Nat} {L:List Int} (h:BS W g L) {i:Nat} (hi:i < L.length) (v:Int):BS (W.setCell ⟨g,i,none⟩ (.int .u8 v)) g (L.set i v):=by
  intro q hq
  rw [List.length_set] at hq
  refine ⟨?_,by rw [World.frozen?_setCell];exact (h q hq).2⟩
  rw [List.getElem_set]
  by_cases e:i=q
  · subst e;rw [if_pos rfl];exact World.cell?_setCell_same W _ _ (h i hi).1
  · rw [if_neg e,World.cell?_setCell_other _ _ _ _ (by intro h;injection h with _ h;exact e h)];exact (h q hq).1
theorem BS_new (W:World) (e:Nat) (s:ByteArray):BS (Lib.bytesWorld W e s) W.heap.size (bytesOf s):=by
  intro i hi
  rw [bytesOf_length] at hi
  refine ⟨?_,?_⟩
  · rw [Lib.bytesWorld_cell W e s i hi]
    have h':i < s.data.toList.length:=by rw [data_length];exact hi
    simp [bytesOf,List.getD_eq_getElem?_getD,List.getElem?_eq_getElem h']
  · have h2:s.size≤(Lib.bytesCells W e s).size:=by simp [Lib.bytesCells] <;> omega
    simp [World.frozen?,Lib.bytesWorld_at_new]
    omega
theorem ex_one {s:ByteArray} {i:Nat} (h:i < s.size):s.extract i (i + 1)=strOfNums [bt s (i:Nat)]:=by
  have e0:=bt_nat h
  apply ByteArray.ext
  rw [ByteArray.data_extract]
  apply Array.ext
  · simp [strOfNums]
    have:s.data.size=s.size:=rfl
    omega
  · intro q h1 h2
    have hq:q=0:=by simp [strOfNums] at h2;omega
    subst hq
    simp only [Array.getElem_extract,strOfNums]
    simp
    rw [←e0]
    simp
    rfl
theorem ex_eq {s t:ByteArray} {i:Nat} (h:i < s.size) (h2:i < t.size):(t.extract i (i + 1)=s.extract i (i + 1)) ↔ bt t (i:Nat)=bt s (i:Nat):=by
  constructor
  · intro e
    have a1:(t.extract i (i + 1))[0]'(by rw [ByteArray.size_extract];omega)=(s.extract i (i + 1))[0]'(by rw [ByteArray.size_extract];omega):=by simp only [e]
    rw [ByteArray.getElem_extract,ByteArray.getElem_extract] at a1
    have b1:=bt_nat h
    have b2:=bt_nat h2
    rw [←b1,←b2]
    simp only [Nat.add_zero] at a1
    rw [a1]
  · intro e
    rw [ex_one h,ex_one h2,e]
theorem sureL_snoc (xs:List ByteArray) (s:ByteArray) (j i:Nat):strOfNums (sureL xs s j (i + 1))=strOfNums (sureL xs s j i) ++ strOfNums [sureC xs s j i]:=by
  rw [←strOfNums_app]
  unfold sureL
  rw [List.range_succ,List.map_append]
  rfl
theorem sureC_yes {xs:List ByteArray} {s:ByteArray} {j i:Nat} (h : ∀ q (hq:q < xs.length),q < j→bt xs[q] (i:Nat)=bt s (i:Nat)):sureC xs s j i=bt s (i:Nat):=by
  unfold sureC
  rw [if_pos]
  rw [List.all_eq_true]
  intro t ht
  obtain ⟨q,hq,rfl⟩:=List.mem_take_iff_getElem.mp ht
  exact decide_eq_true (h q (by omega) (by omega))
theorem sureC_no {xs:List ByteArray} {s:ByteArray} {j i q:Nat} (hq:q < xs.length) (hj:q < j) (h : ¬ bt xs[q] (i:Nat)=bt s (i:Nat)):sureC xs s j i=63:=by
  unfold sureC
  rw [if_neg]
  intro ha
  rw [List.all_eq_true] at ha
  exact h (of_decide_eq_true (ha xs[q] (List.mem_take_iff_getElem.mpr ⟨q,by omega,rfl⟩)))
theorem rdOf_get {α:Type} {d:α} {xs:List α} {j:Nat} (h:j < xs.length):rdOf d xs (j:Nat)=xs[j]:=by
  unfold rdOf
  rw [Int.toNat_natCast,List.getD_eq_getElem?_getD,List.getElem?_eq_getElem h]
  rfl
theorem bytesEq_of_toList {a b:ByteArray} (h:a.toList=b.toList):a=b:=by
  rw [ByteArray.toList_eq,ByteArray.toList_eq] at h
  exact ByteArray.ext (Array.toList_inj.mp h)
/-! impl.SureDigits, by hand: it stores into a row of bytes that a conversion has made. -/
def impl_SureDigits.f (k:Nat) (w d:Int) (l:List S48):Option (ByteArray×Bool):=(impl_Solutions.f k w d l).bind fun r=>if r.1.length=0 then some (⟨#[]⟩,false) else if sureOk r.1=true then some (strOfNums (sureL r.1 (hdS r.1) r.1.length (hdS r.1).size),true) else none
set_option maxHeartbeats 4000000 in
set_option maxRecDepth 100000 in
theorem impl_SureDigits.calls (k:Nat) (Y:Int) (Z:Int) (a1:Option Addr) (a6:Nat) (J:List S48) (r1:ByteArray) (r2:Bool) (w:World) (a7:Kd.C k48 w a1 J.length J) (a8:J.length≤a6) (h:impl_SureDigits.f k Y Z J=some (r1,r2)) :
    Calls Tryz.prog 12 #[.agg #[.int .i64 Y, .int .i64 Z, .slice a1 J.length a6]] w fun e w'=>e = .returned (.tuple #[.string r1, .bool r2])∧Below w.heap.size w w':=by
  unfold impl_SureDigits.f at h
  obtain ⟨⟨xs,b⟩,hs,h⟩:=Option.bind_eq_some_iff.mp h
  simp only [] at h
  have au:=Tryz.underlying28
  have av:=Tryz.underlying30
  have ae:=Tryz.underlying22
  have aj:=Tryz.underlying9
  have af:=Tryz.underlying5
  have HS:=amk hs
  have HR:=amk (Kd.C_alloc a7 (.cells #[.int .i64 Y, .int .i64 Z, .slice a1 J.length a6] 28))
  have HC:=amk a8
  have BW:Aside0 (Below w.heap.size w (w.alloc (.cells #[.int .i64 Y, .int .i64 Z, .slice a1 J.length a6] 28))):=⟨(Below.refl _ w).alloc (Nat.le_refl _) _⟩
  clear hs a7 a8
  by_cases h0:xs.length=0
  · rw [if_pos h0] at h
    obtain ⟨rfl,rfl⟩:=Prod.mk.inj (Option.some.inj h)
    have hz:((xs.length:Int) == 0)=true:=by simp [h0]
    have ax:xs.length=0:=h0
    have HZ:=amk h0
    clear h h0
    go_enter Tryz.func12,Tryz.ntmps12
    go_wp2_with (go_at_call 6;refine Calls.mono (impl_Solutions.calls k Y Z _ _ J xs b _ HR.out HC.out HS.out) ?_;rintro e w2 ⟨v,rfl,hr,hb⟩;obtain ⟨A,c,rfl⟩:=Kd.R_slice hr;have B2:=amk (bp_ BW.out hb);clear hr hb)
    go_ret2
    exact ⟨rfl,B2.out⟩
  · rw [if_neg h0] at h
    by_cases hk:sureOk xs=true
    · rw [if_pos hk] at h
      obtain ⟨rfl,rfl⟩:=Prod.mk.inj (Option.some.inj h)
      clear h
      obtain ⟨k1,k2,k3⟩:=sureOk_iff.mp hk
      have hz:((xs.length:Int) == 0)=false:=beq_false_of_ne (by omega)
      have ay:decide (0 < (xs.length:Int))=true:=decide_eq_true (by omega)
      have az:(0 < xs.length)=True:=eq_true (by omega)
      have hxs:hdS xs=rdOf ByteArray.empty xs 0:=rfl
      have K1:=amk k1
      have K2:=amk k2
      have H0:=amk (show 0 < xs.length by omega)
      have kb:=fun (s:ByteArray) W=>print_bytes (P:=Tryz.prog) 9 22 5 aj ae af s W
      generalize hdS xs=s at K1 K2 k2 hxs ⊢
      have HXS:=amk hxs
      clear k1 k3 hk h0 hxs
      go_enter Tryz.func12,Tryz.ntmps12
      go_wp2_with (go_at_call 6;go_loud (refine Calls.mono (impl_Solutions.calls k Y Z _ _ J xs b _ HR.out HC.out HS.out) ?_;rintro e w2 ⟨v,rfl,hr,hb⟩;obtain ⟨A,c,rfl⟩:=Kd.R_slice hr;have B2:=amk (bp_ BW.out hb);have R2:=amk hr;have CQ:=amk (Kd.R_reads' hr).2.2;have hAt:=Kd.at_string CQ.out 0 (Int.le_refl 0) (by have:=H0.out;omega);obtain ⟨ad,eA,ab⟩:=hAt;cases eA;replace ab:w2.cell? ad=some (.string s):=(by rw [HXS.out];exact ab);clear hr hb))
      have ac:=amk (BS_new w2 5 s)
      have ag:=amk (bytes_below (Below.refl w2.heap.size w2) (Nat.le_refl _) 5 s)
      rw [←sureL_zero xs s] at ac
      generalize Lib.bytesWorld w2 5 s=w3 at ac ag ⊢
      generalize grownCap w2 s.size 0 5=cap
      go_loopg [24] xs.length (fun gg ak wr=> ∃ j:Nat,ak = .int .i64 (j:Int)∧Aside0 (j≤xs.length∧xs.length≤j + gg)∧Aside0 (BS wr w2.heap.size (sureL xs s j s.size))∧Aside0 (Below w2.heap.size w2 wr))
      case atStart=>exact ⟨0,rfl,⟨by omega⟩,ac,ag⟩
      case round =>
        obtain ⟨j,rfl,HJ,HB,HW⟩:=hrel
        by_cases hj:j < xs.length
        · have CJ:=amk (Kd.C_below (Kd.R_reads' R2.out).2.2 HW.out)
          obtain ⟨aA,al,hxj⟩:=Kd.at_string CJ.out (j:Int) (by omega) (by omega)
          cases al
          rw [rdOf_get hj,Int.toNat_natCast] at hxj
          obtain ⟨aC,am,aa⟩:=Kd.at_string CJ.out 0 (Int.le_refl _) (by omega)
          cases am
          replace aa:wr.cell? ad=some (.string s):=by rw [HXS.out];exact aa
          have HTM:Aside0 (xs[j].size=s.size):=⟨K1.out _ (List.getElem_mem hj)⟩
          have HTE:Aside0 (∀ i:Nat,bt xs[j] (i:Nat)=bt s (i:Nat)→mixL xs s j s.size (i + 1)=mixL xs s j s.size i):=⟨fun i h=>mixL_same hj h⟩
          have HTN:Aside0 (∀ i:Nat,¬ bt xs[j] (i:Nat)=bt s (i:Nat)→(mixL xs s j s.size i).set i 63=mixL xs s j s.size (i + 1)):=⟨fun i h=>mixL_diff hj h⟩
          have hts:xs[j].size=s.size:=HTM.out
          generalize xs[j]=t at hxj HTM HTE HTN hts
          have ah:=amk hj
          have hjd:decide ((j:Int) < (xs.length:Int))=true:=decide_eq_true (by omega)
          clear ab hts
          go_wp2
          go_loopg [30] s.size (fun gg an wi=> ∃ i:Nat,an = .int .i64 (i:Int)∧Aside0 (i≤s.size∧s.size≤i + gg)∧Aside0 (BS wi w2.heap.size (mixL xs s j s.size i))∧Aside0 (Below w2.heap.size w2 wi))
          case atStart=>exact ⟨0,rfl,⟨by omega⟩,⟨by rw [mixL_zero];exact HB.out⟩,HW⟩
          case round =>
            obtain ⟨i,rfl,HI,HBi,HWi⟩:=hrel
            by_cases hi:i < s.size
            · have CI:=amk (Kd.C_below (Kd.R_reads' R2.out).2.2 HWi.out)
              obtain ⟨aD,ap,ai⟩:=Kd.at_string CI.out 0 (Int.le_refl _) (by have:=H0.out;omega)
              cases ap
              replace ai:wr.cell? ad=some (.string s):=by rw [HXS.out];exact ai
              have hit:i < t.size:=by rw [HTM.out];exact hi
              have e0:=bt_nat hi
              have e1:=bt_nat hit
              obtain ⟨hci,hfi⟩:=HBi.out i (by rw [mixL_length];exact hi)
              have hid:decide ((i:Int) < (s.size:Int))=true:=decide_eq_true (by omega)
              clear aa hxj
              by_cases he:bt t (i:Nat)=bt s (i:Nat)
              · have hd:(bt t (i:Nat) == bt s (i:Nat))=true:=by simp [he]
                have ar:(bt t (i:Nat) != bt s (i:Nat))=false:=by simp [he]
                have HE:=amk (HTE.out i he)
                clear he
                go_wp2
                go_region
                go_wp2
                go_roundg (s.size - (i + 1))
                case measure=>have:=HI.out;omega
                case rel=>exact ⟨i + 1,rfl,⟨by omega⟩,⟨by rw [HE.out];exact HBi.out⟩,⟨HWi.out.drew⟩⟩
              · have hd:(bt t (i:Nat) == bt s (i:Nat))=false:=by simp [he]
                have ar:(bt t (i:Nat) != bt s (i:Nat))=true:=by simp [he]
                have HE:=amk (HTN.out i he)
                clear he
                go_wp2
                go_region
                go_wp2
                go_roundg (s.size - (i + 1))
                case measure=>have:=HI.out;omega
                case rel=>exact ⟨i + 1,rfl,⟨by omega⟩,⟨by rw [←HE.out];exact BS_set (BS_drew HBi.out) (by rw [mixL_length];exact hi) 63⟩,⟨HWi.out.drew.setCell (p:=⟨_,_,none⟩) (by simp) _⟩⟩
            · have hie:i=s.size:=by have:=HI.out;omega
              subst hie
              have HBF:Aside0 (BS wr w2.heap.size (sureL xs s (j + 1) s.size)):=⟨by rw [←mixL_full];exact HBi.out⟩
              clear aa hxj
              go_wp2
              go_roundg (xs.length - (j + 1))
              case measure=>have:=HJ.out;omega
              case rel=>exact ⟨j + 1,congrArg _ (by have:=ah.out;have:=Kd.C_max CJ.out;unfold wrap64;omega),⟨by have:=ah.out;have:=HJ.out;omega⟩,HBF,HWi⟩
        · have hje:j=xs.length:=by have:=HJ.out;omega
          have HF:Aside0 (BS wr w2.heap.size (sureL xs s xs.length s.size)):=⟨by have h9:=HB.out;rw [hje] at h9;exact h9⟩
          have kb2 : ∀ dst src,Tryz.prog.underlying src=some (.slice 5)→Tryz.prog.underlying dst=some .string→(convert src dst (.slice (some ⟨w2.heap.size,0,none⟩) s.size cap)).run Tryz.prog wr = .ok (.string (strOfNums (sureL xs s xs.length s.size))) wr:=by
            intro dst src h1 h2
            exact string_of_reads h1 af h2 ⟨sureL_length _ _ _ _,by have:=K2.out;omega,fun _=>⟨_,rfl,fun q hq=>by rw [show (sureL xs s xs.length s.size).getD q 0=(sureL xs s xs.length s.size)[q]'(by rw [sureL_length];exact hq) from by rw [List.getD_eq_getElem?_getD,List.getElem?_eq_getElem (by rw [sureL_length];exact hq)];rfl,add_plain];exact (HF.out q (by rw [sureL_length];exact hq)).1⟩⟩
          have hjd:decide ((j:Int) < (xs.length:Int))=false:=decide_eq_false (by omega)
          go_wp2
          go_ret2
          exact ⟨rfl,B2.out.trans (HW.out.mono (by have:=B2.out.size;omega))⟩
    · rw [if_neg hk] at h;cases h
/-! Small laws on blocks of two and of three cells, and on what lies in an interval of blocks. -/
theorem three_cells {w:World} {g t:Nat} {a b c:Value} (h:w.heap[g]?=some (.cells #[a,b,c] t (0,0))):w.cell? ⟨g,0,none⟩=some a∧w.cell? ⟨g,1,none⟩=some b∧w.cell? ⟨g,2,none⟩=some c∧g < w.heap.size:=⟨by simp [World.cell?,h],by simp [World.cell?,h],by simp [World.cell?,h],(Array.getElem?_eq_some_iff.mp h).1⟩
theorem two_cells {w:World} {g t:Nat} {a b:Value} (h:w.heap[g]?=some (.cells #[a,b] t (0,0))):w.cell? ⟨g,0,none⟩=some a∧w.cell? ⟨g,1,none⟩=some b∧w.frozen? ⟨g,0,none⟩=false∧w.frozen? ⟨g,1,none⟩=false∧g < w.heap.size:=
  ⟨by simp [World.cell?,h],by simp [World.cell?,h],by simp [World.frozen?,h],by simp [World.frozen?,h],(Array.getElem?_eq_some_iff.mp h).1⟩
theorem two_set {w:World} {g t:Nat} {a b:Value} (h:w.heap[g]?=some (.cells #[a,b] t (0,0))) (c d:Value):((w.setCell ⟨g,0,none⟩ c).setCell ⟨g,1,none⟩ d).heap[g]?=some (.cells #[c,d] t (0,0)):=by
  have h1:=heap_setCell_same w g 0 #[a,b] t c h
  have h2:=heap_setCell_same (w.setCell ⟨g,0,none⟩ c) g 1 _ t d h1
  rw [h2]
  rfl
theorem three_set {w:World} {g t:Nat} {a b c:Value} (h:w.heap[g]?=some (.cells #[a,b,c] t (0,0))) (x y z:Value):(((w.setCell ⟨g,0,none⟩ x).setCell ⟨g,1,none⟩ y).setCell ⟨g,2,none⟩ z).heap[g]?=some (.cells #[x,y,z] t (0,0)):=by
  have h1:=heap_setCell_same w g 0 #[a,b,c] t x h
  have h2:=heap_setCell_same (w.setCell ⟨g,0,none⟩ x) g 1 _ t y h1
  have h3:=heap_setCell_same ((w.setCell ⟨g,0,none⟩ x).setCell ⟨g,1,none⟩ y) g 2 _ t z h2
  rw [h3]
  rfl
/-! spec.SureDigits, by hand: it ranges over a text. -/
def spec_SureDigits.f (k:Nat) (w d:Int) (l:List S48):Option (ByteArray×Bool):=(spec_pzGood.f k w d l).bind fun g=>if g=true then (spec_pzAll.f k w d l).bind fun xs=>if xs.length=0 then some (⟨#[]⟩,false) else if sureOk xs=true then some (strOfNums (sureL xs (hdS xs) xs.length (hdS xs).size),true) else none else some (⟨#[]⟩,false)
set_option maxHeartbeats 4000000 in
set_option maxRecDepth 100000 in
theorem spec_SureDigits.calls (k:Nat) (Y:Int) (Z:Int) (a1:Option Addr) (a6:Nat) (J:List S48) (r1:ByteArray) (r2:Bool) (w:World) (a7:Kd.C k48 w a1 J.length J) (a8:J.length≤a6) (h:spec_SureDigits.f k Y Z J=some (r1,r2)) :
    Calls Tryz.prog 13 #[.agg #[.int .i64 Y, .int .i64 Z, .slice a1 J.length a6]] w fun e w'=>e = .returned (.tuple #[.string r1, .bool r2])∧Below w.heap.size w w':=by
  unfold spec_SureDigits.f at h
  obtain ⟨g,hg,h⟩:=Option.bind_eq_some_iff.mp h
  have an:=Tryz.underlying28
  have ap:=Tryz.underlying30
  have ar:=Tryz.underlying26
  have au:=Tryz.underlying25
  have ai:=Tryz.underlying9
  have HG:=amk hg
  have HR:=amk (Kd.C_alloc a7 (.cells #[.int .i64 Y, .int .i64 Z, .slice a1 J.length a6] 28))
  have HC:=amk a8
  have BW:Aside0 (Below w.heap.size w (w.alloc (.cells #[.int .i64 Y, .int .i64 Z, .slice a1 J.length a6] 28))):=⟨(Below.refl _ w).alloc (Nat.le_refl _) _⟩
  have BK:Aside0 ((w.alloc (.cells #[.int .i64 Y, .int .i64 Z, .slice a1 J.length a6] 28)).heap[w.heap.size]?=some (.cells #[.int .i64 Y, .int .i64 Z, .slice a1 J.length a6] 28 (0,0))):=⟨blk_new _ _⟩
  clear hg a7 a8
  cases g with
  | false =>
    rw [if_neg (by simp)] at h
    obtain ⟨rfl,rfl⟩:=Prod.mk.inj (Option.some.inj h)
    clear h
    go_enter Tryz.func13,Tryz.ntmps13
    go_wp2_with (go_at_call 39;refine Calls.mono (spec_pzGood.calls k Y Z _ _ J false _ HR.out HC.out HG.out) ?_;rintro e w2 ⟨rfl,hb⟩;have B2:=amk (bp_ BW.out hb);clear hb)
    go_ret2
    exact ⟨rfl,B2.out⟩
  | true =>
    rw [if_pos rfl] at h
    obtain ⟨xs,hs,h⟩:=Option.bind_eq_some_iff.mp h
    have HS:=amk hs
    clear hs
    by_cases h0:xs.length=0
    · rw [if_pos h0] at h
      obtain ⟨rfl,rfl⟩:=Prod.mk.inj (Option.some.inj h)
      have hz:((xs.length:Int) == 0)=true:=by simp [h0]
      have ax:xs.length=0:=h0
      have HZ:=amk h0
      clear h h0
      go_enter Tryz.func13,Tryz.ntmps13
      go_wp2_with ((first | (go_at_call 39;refine Calls.mono (spec_pzGood.calls k Y Z _ _ J true _ HR.out HC.out HG.out) ?_;rintro e w2 ⟨rfl,hb⟩;have B2:=amk (bp_ BW.out hb);have R2:=amk (Kd.C_below HR.out hb);obtain ⟨ab,ac,ae,_⟩:=three_cells ((hb.block w.heap.size (by simp)).trans BK.out);clear hb) | (go_at_call 40;refine Calls.mono (spec_pzAll.calls k Y Z _ _ J xs _ R2.out HC.out HS.out) ?_;rintro e w3 ⟨v,rfl,hr,hb⟩;obtain ⟨A,c,rfl⟩:=Kd.R_slice hr;have B3:=amk (bp_ B2.out hb);clear hr hb)))
      go_ret2
      exact ⟨rfl,B3.out⟩
    · rw [if_neg h0] at h
      by_cases hk:sureOk xs=true
      · rw [if_pos hk] at h
        obtain ⟨rfl,rfl⟩:=Prod.mk.inj (Option.some.inj h)
        clear h
        obtain ⟨k1,k2,k3⟩:=sureOk_iff.mp hk
        have hz:((xs.length:Int) == 0)=false:=beq_false_of_ne (by omega)
        have ay:decide (0 < (xs.length:Int))=true:=decide_eq_true (by omega)
        have az:(0 < xs.length)=True:=eq_true (by omega)
        have hxs:hdS xs=rdOf ByteArray.empty xs 0:=rfl
        generalize hdS xs=s at k1 k2 k3 hxs ⊢
        have K1:=amk k1
        have K2:=amk k2
        have K3:=amk k3
        have H0:=amk (show 0 < xs.length by omega)
        have HXS:=amk hxs
        clear k1 k2 k3 hk h0 hxs
        go_enter Tryz.func13,Tryz.ntmps13
        go_wp2_with ((first | (go_at_call 39;refine Calls.mono (spec_pzGood.calls k Y Z _ _ J true _ HR.out HC.out HG.out) ?_;rintro e w2 ⟨rfl,hb⟩;have B2:=amk (bp_ BW.out hb);have R2:=amk (Kd.C_below HR.out hb);obtain ⟨ab,ac,ae,_⟩:=three_cells ((hb.block w.heap.size (by simp)).trans BK.out);clear hb) | (go_at_call 40;refine Calls.mono (spec_pzAll.calls k Y Z _ _ J xs _ R2.out HC.out HS.out) ?_;rintro e w3 ⟨v,rfl,hr,hb⟩;obtain ⟨A,c,rfl⟩:=Kd.R_slice hr;have B3:=amk (bp_ B2.out hb);have R3:=amk (Kd.R_reads' hr).2.2;clear ab ac ae;have hAt:=Kd.at_string R3.out 0 (Int.le_refl 0) (by have:=H0.out;omega);obtain ⟨ad,eA,aa⟩:=hAt;cases eA;replace aa:w3.cell? ad=some (.string s):=(by rw [HXS.out];exact aa);clear hr hb)))
        go_loopg [5] s.size (fun gg s5 wr=> ∃ (W:World) (i:Nat),s5 = .string (strOfNums (sureL xs s xs.length i))∧wr=W.iter s i∧Aside0 (i≤s.size∧s.size≤i + gg)∧Aside0 (W.heap.size=w3.heap.size∧Below w3.heap.size w3 W))
        case atStart=>exact ⟨w3,0,rfl,rfl,⟨by omega⟩,⟨rfl,Below.refl _ _⟩⟩
        case round =>
          obtain ⟨W,i,rfl,rfl,HI,HW⟩:=hrel
          by_cases hi:i < s.size
          · have hia:=K3.out i hi
            have hnx : ∀ ty,(Instr.next (.pointer (some ⟨w3.heap.size,0,none⟩)) true ty).run Tryz.prog (W.iter s i) = .ok (.tuple #[.bool true, .int .i64 (i:Nat), .int .i32 (bt s (i:Nat))]) (W.iter s (i + 1)):=by
              intro ty
              have:=run_next_ascii (P:=Tryz.prog) W s i ty hi (by have:=bt_nat hi;omega)
              rw [HW.out.1,bt_nat hi] at this
              exact this
            have HV:Aside0 (Below w3.heap.size w3 (W.iter s (i + 1))):=⟨HW.out.2.alloc (by rw [HW.out.1];exact Nat.le_refl _) _⟩
            have CX:=amk (Kd.C_below R3.out HV.out)
            have hAt:=Kd.at_string CX.out 0 (Int.le_refl 0) (by have:=H0.out;omega)
            obtain ⟨aA,aj,af⟩:=hAt
            cases aj
            replace af:(W.iter s (i + 1)).cell? ad=some (.string s):=af.trans (congrArg (fun z=>some (Value.string z)) HXS.out.symm)
            have hsz:=K2.out
            have z1:wrap64 ((i:Int) + 1)=((i + 1:Nat):Int):=by unfold wrap64;omega
            have hsl : ∀ (t:ByteArray) (wx:World),i < t.size→(Instr.slice 9 (.string t) (some (.int .i64 (i:Int))) (some (.int .i64 ((i:Int) + 1))) none).run Tryz.prog wx = .ok (.string (t.extract i (i + 1))) wx:=by
              intro t wx ht
              have:=run_slice_string (P:=Tryz.prog) wx 9 t .i64 .i64 (i:Int) ((i:Int) + 1) ai (by omega) (by omega) (by omega)
              rw [show ((i:Int) + 1).toNat=i + 1 by omega,Int.toNat_natCast] at this
              exact this
            have av:=fun wx=>hsl s wx hi
            have HSL:=amk hsl
            have hsb:(strOfNums (sureL xs s xs.length i)).size≤1000000:=by rw [strOfNums_size,sureL_length];omega
            have hse:(s.extract i (i + 1)).size=1:=by rw [ByteArray.size_extract];omega
            clear hsl
            have HIS:=amk hi
            clear hia aa
            go_wp2
            go_loopg [7,37] xs.length (fun gg s7 ak wr=> ∃ j:Nat,s7 = .string (s.extract i (i + 1))∧ak = .int .i64 (j:Int)∧wr=W.iter s (i + 1)∧Aside0 (j≤xs.length∧xs.length≤j + gg)∧Aside0 (∀ q (hq:q < xs.length),q < j→bt xs[q] (i:Nat)=bt s (i:Nat)))
            case atStart=>exact ⟨0,rfl,rfl,rfl,⟨by omega⟩,⟨fun q _ h=>by omega⟩⟩
            case round =>
              obtain ⟨j,rfl,rfl,rfl,HJ,HQ⟩:=hrel
              by_cases hj:j < xs.length
              · have hAt:=Kd.at_string CX.out (j:Int) (by omega) (by omega)
                obtain ⟨aC,al,hxj⟩:=hAt
                cases al
                rw [rdOf_get hj,Int.toNat_natCast] at hxj
                have ag:=amk hj
                have hjd:decide ((j:Int) < (xs.length:Int))=true:=decide_eq_true (by omega)
                have hts:xs[j].size=s.size:=K1.out _ (List.getElem_mem hj)
                have hit:i < xs[j].size:=by omega
                have z2:wrap64 ((j:Int) + 1)=((j + 1:Nat):Int):=by have:=Kd.C_max CX.out;unfold wrap64;omega
                by_cases he:bt xs[j] (i:Nat)=bt s (i:Nat)
                · have am:Aside0 (∀ q (hq:q < xs.length),q < j + 1→bt xs[q] (i:Nat)=bt s (i:Nat)):=⟨fun q hq h=>by
                    by_cases e:q=j
                    · subst e;exact he
                    · exact HQ.out q hq (Nat.lt_of_le_of_ne (Nat.le_of_lt_succ h) e)⟩
                  have hex:=(ex_eq hi hit).mpr he
                  generalize xs[j]=t at hxj hts hit hex
                  have ah:=fun wx=>HSL.out t wx hit
                  have hd:((t.extract i (i + 1)).toList == (s.extract i (i + 1)).toList)=true:=by rw [hex];exact beq_self_eq_true _
                  clear he hex
                  go_wp2
                  go_roundg (xs.length - (j + 1))
                  case measure=>have:=HJ.out;have:=ag.out;omega
                  case rel=>exact ⟨j + 1,rfl,congrArg _ z2,rfl,⟨by have:=ag.out;omega⟩,am⟩
                · have hex:=fun h=>he ((ex_eq hi hit).mp h)
                  have HE:Aside0 (strOfNums (sureL xs s xs.length i) ++ (⟨#[63]⟩:ByteArray)=strOfNums (sureL xs s xs.length (i + 1))):=⟨by rw [sureL_snoc,sureC_no hj hj he];rfl⟩
                  generalize xs[j]=t at hxj hts hit hex
                  have ah:=fun wx=>HSL.out t wx hit
                  have hd:((t.extract i (i + 1)).toList == (s.extract i (i + 1)).toList)=false:=beq_false_of_ne (fun h=>hex (bytesEq_of_toList h))
                  clear he hex
                  go_wp2
                  go_roundg (s.size - (i + 1))
                  case measure=>have:=HI.out;have:=HIS.out;omega
                  case rel=>exact ⟨W,i + 1,congrArg _ HE.out,rfl,⟨by have:=HI.out;have:=HIS.out;omega⟩,HW⟩
              · have hje:j=xs.length:=by have:=HJ.out;omega
                have hjd:decide ((j:Int) < (xs.length:Int))=false:=decide_eq_false (by omega)
                have HE:Aside0 (strOfNums (sureL xs s xs.length i) ++ s.extract i (i + 1)=strOfNums (sureL xs s xs.length (i + 1))):=⟨by rw [sureL_snoc,sureC_yes (fun q hq h=>HQ.out q hq (by omega)),←ex_one hi]⟩
                go_wp2
                go_roundg (s.size - (i + 1))
                case measure=>have:=HI.out;have:=HIS.out;omega
                case rel=>exact ⟨W,i + 1,congrArg _ HE.out,rfl,⟨by have:=HI.out;have:=HIS.out;omega⟩,HW⟩
          · have hnx : ∀ ty,(Instr.next (.pointer (some ⟨w3.heap.size,0,none⟩)) true ty).run Tryz.prog (W.iter s i) = .ok (.tuple #[.bool false]) (W.iter s i):=by
              intro ty
              have:=run_next_end (P:=Tryz.prog) W s i ty hi
              rw [HW.out.1] at this
              exact this
            have hie:i=s.size:=by have:=HI.out;omega
            subst hie
            go_wp2
            go_ret2
            exact ⟨rfl,B3.out.trans ((HW.out.2.alloc (by rw [HW.out.1];exact Nat.le_refl _) _).mono B3.out.size)⟩
      · rw [if_neg hk] at h;cases h
/-! What the law FnCodesGuessedOfAll asks of its callees. -/
def Guess_P:Prop:= ∀ (P D:Int) (L:List S48),L.length≤9223372036854775807→∃ (k:Nat) (all:List ByteArray) (ok three solved five:Bool) (count total best:Int) (first sure text:ByteArray) (needless left:List Int),
  impl_Solutions.f k P D L=some (all,ok)∧spec_Solutions.f k P D L=some (all,ok)∧impl_CountSolutions.f k P D L=some (count,ok)∧spec_CountSolutions.f k P D L=some (count,ok) ∧
  impl_FirstSolution.f k P D L=some (first,three)∧spec_FirstSolution.f k P D L=some (first,three)∧impl_SureDigits.f k P D L=some (sure,three)∧spec_SureDigits.f k P D L=some (sure,three) ∧
  impl_IsSolved.f k P D L=some (solved,ok)∧spec_IsSolved.f k P D L=some (solved,ok)∧impl_NeedlessClues.f k P D L=some (needless,ok)∧spec_NeedlessClues.f k P D L=some (needless,ok) ∧
  impl_LeftByClues.f k P D L=some (left,ok)∧spec_LeftByClues.f k P D L=some (left,ok)∧impl_BestClue.f k P D L=some (best,five)∧spec_BestClue.f k P D L=some (best,five) ∧
  impl_PuzzleText.f k P D L=some (text,ok)∧spec_PuzzleText.f k P D L=some (text,ok)∧impl_IsPuzzle.f P D L=some ok∧spec_IsPuzzle.f k P D L=some ok ∧
  laws_eTexts.f k all all=some true∧laws_eSame.f k needless needless=some true∧laws_eSame.f k left left=some true∧three=(ok && decide (count > 0))∧five=(ok && decide ((L.length:Int) > 0)) ∧
  (ok=true→impl_CountCodes.f k P D=some (total,true)∧(all.length:Int)=count∧all.length≤1000∧L.length≤6∧0≤P∧P≤6∧(three=true→first=rdOf ByteArray.empty all 0∧sure.size=P.toNat)∧solved=(count == 1)∧left.length=L.length + 1∧rd left 0=total∧rd left L.length=count∧(solved=true→sure=first) ∧
    laws_eSorted.f k all=some true ∧
    (∀ j (hj:j < all.length),all[j].size=P.toNat∧(∀ i < all[j].size,bt all[j] (i:Nat) < 128∧(bt sure (i:Nat)=63∨bt sure (i:Nat)=bt all[j] (i:Nat)))∧∀ c∈L,impl_DoesFit.f k P D c.f0 c.f1 c.f2 all[j]=some (true,true)) ∧
    (∀ i < L.length,impl_DropClue.f P D L (i:Nat)=some (P,D,L.eraseIdx i,true)∧0≤best∧best < L.length∧rd left ((i:Int) + 1)≤rd left (i:Nat)∧∃ still,impl_CountSolutions.f k P D (L.eraseIdx i)=some (still,true)∧laws_eHas.f k needless (i:Nat)=some (still == count)) ∧
    impl_ParsePuzzle.f k text=some (P,D,L,true)∧laws_ePuzzle.f k P D L P D L=some true)
def Guess_S:Prop:= ∀ s:ByteArray,s.size≤1048576→∃ (k:Nat) (a b:Int) (M:List S48) (t:Bool),impl_ParsePuzzle.f k s=some (a,b,M,t)∧spec_ParsePuzzle.f k s=some (a,b,M,t)∧laws_ePuzzle.f k a b M a b M=some true∧(t=true→impl_PuzzleText.f k a b M=some (s,true))
/-! ### laws_big: function 4 -/
def laws_big.f (l0:List Int) (l1:List Int):Option (Bool):=if (l0.length:Int) > 1048576 then (some true) else (some (decide ((l1.length:Int) > (wrap64 (1048576 - (l0.length:Int))))))
set_option maxHeartbeats 8000000 in
set_option maxRecDepth 100000 in
theorem laws_big.calls (A0:Option Addr) (c0:Nat) (l0:List Int) (A1:Option Addr) (c1:Nat) (l1:List Int) (r:Bool) (w:World) (J:Kd.C (Kd.int .u8) w A0 l0.length l0) (Y:l0.length≤c0) (Z:Kd.C (Kd.int .u8) w A1 l1.length l1) (a1:l1.length≤c1) (h:laws_big.f l0 l1=some r) :
    Calls Tryz.prog 4 #[.slice A0 l0.length c0, .slice A1 l1.length c1] w fun e w'=>e = .returned (.bool r)∧Drawn0 w w':=by
  have a8:=amk J;have aa:=amk Y;clear J Y;have ab:=amk Z;have ac:=amk a1;clear Z a1;unfold laws_big.f at h;have H:=h;clear h
  by_cases c3:(l0.length:Int) > 1048576
  · rw [if_pos c3] at H;have a6:decide (1048576 < (l0.length:Int))=true:=decide_eq_true c3;have a7:decide (1048576 < l0.length)=true:=decide_eq_true (by omega);clear c3;obtain rfl:=Option.some.inj H;go_enter Tryz.func4,Tryz.ntmps4;go_wp2;go_ret;exact ⟨rS_,dR_⟩
  · rw [if_neg c3] at H;have a6:decide (1048576 < (l0.length:Int))=false:=decide_eq_false c3;have a7:decide (1048576 < l0.length)=false:=decide_eq_false (by omega);clear c3;obtain rfl:=Option.some.inj H;go_enter Tryz.func4,Tryz.ntmps4;go_wp2;go_ret;exact ⟨rS_,dR_⟩
/-! Codes of a lock, as a test. -/
def codeT (w d:Int) (s:ByteArray):Bool:=decide (s.size=w.toNat∧∀ i < s.size,48≤bt s (i:Nat)∧bt s (i:Nat) < 48 + d)
theorem codeT_iff {w d:Int} {s:ByteArray} : codeT w d s=true ↔ codeS w d s:=by simp [codeT,codeS]
def restT (d:Int) (s:ByteArray):Nat→Nat→Bool
  | 0,_=>true
  | m + 1,i=>decide (48≤bt s (i:Nat)∧bt s (i:Nat) < 48 + d) && restT d s m (i + 1)
theorem restT_all {d:Int} {s:ByteArray} : ∀ (m i:Nat),restT d s m i=true ↔ ∀ j,i≤j→j < i + m→48≤bt s (j:Nat)∧bt s (j:Nat) < 48 + d
  | 0,i=>by simp [restT];omega
  | m + 1, i => by
    simp only [restT,Bool.and_eq_true,decide_eq_true_eq,restT_all m (i + 1)]
    constructor
    · rintro ⟨h1,h2⟩ j hj J
      by_cases e:j=i
      · subst e;exact h1
      · exact h2 j (by omega) (by omega)
    · intro h
      exact ⟨h i (by omega) (by omega),fun j hj J=>h j (by omega) (by omega)⟩
theorem codeT_rest {w d:Int} {s:ByteArray} (hw:0≤w) (h:(s.size:Int)=w):codeT w d s=restT d s s.size 0:=by
  rw [Bool.eq_iff_iff,codeT_iff,restT_all]
  constructor
  · intro hc j _ hj;exact hc.2 j (by omega)
  · intro hr;exact ⟨by omega,fun i hi=>hr i (by omega) (by omega)⟩
theorem codeT_no {w d:Int} {s:ByteArray} (hw:0≤w) (h : ¬ (s.size:Int)=w):codeT w d s=false:=by
  rw [Bool.eq_false_iff];intro hc
  have:=(codeT_iff.mp hc).1
  omega
/-! Numbers of a made puzzle. -/
def nxV (z:Int):Int:=(z * 173 + 2633) % 10007
theorem nxV_range (z:Int):0≤nxV z∧nxV z≤10006:=by unfold nxV;omega
def mkA (w cnt t z:Int):Int:=if t=0 then z % w else if t=2∨t=3 then z % cnt else if t=4 then z % 8 + 2 else 0
def mkZ (z:Int):Int:=if nxV z % 5=1 then nxV z else nxV (nxV z)
/-! Declarations moved out of EVal. -/
theorem spec_whDigits.ev {s:ByteArray} (h6:s.size≤6) (h : ∀ i < s.size,48≤bt s (i:Nat)∧bt s (i:Nat)≤57):Ev (fun k=>spec_whDigits.f k s) (dg s):=by
  have : ∀ m i:Nat,i + m=s.size→∀ xs:List Int,xs.length=i→Ev (fun k=>spec_whDigits.l0 k s xs (i:Nat)) (xs ++ (List.range' i m).map fun i=>bt s (i:Nat) - 48):=by
    intro m
    induction m with
    | zero =>
      intro i hi xs hx
      refine Ev.step (fun k=>rfl) ?_
      refine Ev.no (by omega) ?_
      exact Ev.id (by simp)
    | succ m ih =>
      intro i hi xs hx
      refine Ev.step (fun k=>rfl) ?_
      refine Ev.yes (by omega) (Ev.yes (by omega) (Ev.yes (by omega) ?_))
      have:=ih (i + 1) (by omega) (xs ++ [bt s (i:Nat) - 48]) (by simp [hx])
      have hb:=h i (by omega)
      rw [show ((bt s (i:Nat)) - 48) % 256=bt s (i:Nat) - 48 by omega,show wrap64 ((i:Int) + 1)=((i + 1:Nat):Int) from w64 (by omega) (by omega)]
      refine Ev.eq this ?_
      rw [List.range'_succ]
      simp
  have:=this s.size 0 (by omega) [] rfl
  refine Ev.eq this ?_
  simp [dg,List.range_eq_range']
theorem impl_digits.ev {w d:Int} {s:ByteArray} (hl:lockB w d=true) (hs:codeS w d s):Ev (fun k=>impl_digits.f k s) (dg s):=by
  obtain ⟨w1,w2,d1,d2⟩:=lockB_iff.mp hl
  have h1:=hs.1
  exact impl_digits_of (by omega) (fun i hi=>by have:=hs.2 i hi;omega)
theorem spec_whDigits.evc {w d:Int} {s:ByteArray} (hl:lockB w d=true) (hs:codeS w d s):Ev (fun k=>spec_whDigits.f k s) (dg s):=by
  obtain ⟨w1,w2,d1,d2⟩:=lockB_iff.mp hl
  have h1:=hs.1
  exact spec_whDigits.ev (by omega) (fun i hi=>by have:=hs.2 i hi;omega)
theorem impl_Lock_number.lev (w d:Int) (D:List Int) (hD:D.length≤6) : ∀ (m i:Nat),i + m=D.length→∀ acc,Ev (fun k=>impl_Lock_number.l0 k acc D (D.length:Int) (i:Nat) w d) (numF d acc (D.drop i)):=by
  intro m
  induction m with
  | zero =>
    intro i hi acc
    refine Ev.step (fun k=>rfl) (Ev.no (by omega) (Ev.id ?_))
    rw [List.drop_eq_nil_of_le (by omega)];rfl
  | succ m ih =>
    intro i hi acc
    refine Ev.step (fun k=>rfl) (Ev.yes (by omega) (Ev.yes (by omega) (Ev.yes (by omega) ?_)))
    have hlt:i < D.length:=by omega
    rw [show wrap64 ((i:Int) + 1)=((i + 1:Nat):Int) from w64 (by omega) (by omega),List.drop_eq_getElem_cons hlt,rd_at (by simpa using hlt)]
    exact ih (i + 1) (by omega) _
theorem spec_whNumber.lev (w d:Int) (D:List Int) (hD:D.length≤6) : ∀ (m i:Nat),i + m=D.length→∀ acc,Ev (fun k=>spec_whNumber.l0 k acc D (D.length:Int) (i:Nat) w d) (numF d acc (D.drop i)):=by
  intro m
  induction m with
  | zero =>
    intro i hi acc
    refine Ev.step (fun k=>rfl) (Ev.no (by omega) (Ev.id ?_))
    rw [List.drop_eq_nil_of_le (by omega)];rfl
  | succ m ih =>
    intro i hi acc
    refine Ev.step (fun k=>rfl) (Ev.yes (by omega) (Ev.yes (by omega) (Ev.yes (by omega) ?_)))
    have hlt:i < D.length:=by omega
    rw [show wrap64 ((i:Int) + 1)=((i + 1:Nat):Int) from w64 (by omega) (by omega),List.drop_eq_getElem_cons hlt,rd_at (by simpa using hlt)]
    exact ih (i + 1) (by omega) _
theorem impl_Lock_number.ev {w d:Int} {s:ByteArray} (hl:lockB w d=true) (hs:codeS w d s):Ev (fun k=>impl_Lock_number.f k w d s) (numF d 0 (dg s)):=by
  have h6:(dg s).length≤6:=by rw [dg_length,hs.1];have:=lockB_iff.mp hl;omega
  unfold impl_Lock_number.f
  exact Ev.bind (impl_digits.ev hl hs) (impl_Lock_number.lev w d _ h6 (dg s).length 0 (by omega) 0)
theorem spec_whNumber.ev {w d:Int} {s:ByteArray} (hl:lockB w d=true) (hs:codeS w d s):Ev (fun k=>spec_whNumber.f k w d s) (numF d 0 (dg s)):=by
  have h6:(dg s).length≤6:=by rw [dg_length,hs.1];have:=lockB_iff.mp hl;omega
  unfold spec_whNumber.f
  exact Ev.bind (spec_whDigits.evc hl hs) (spec_whNumber.lev w d _ h6 (dg s).length 0 (by omega) 0)
/-! Declarations moved out of ETexts. -/
theorem spec_whText.lev (D:List Int) (hD:D.length≤1000) (h : ∀ x∈D,0≤x∧x < 10) : ∀ (m i:Nat),i + m=D.length→Ev (fun k=>spec_whText.l0 k (textB (D.take i)) D (D.length:Int) (i:Nat)) (textB D):=by
  intro m
  induction m with
  | zero =>
    intro i hi
    refine Ev.step (fun k=>rfl) (Ev.no (by omega) (Ev.id ?_))
    rw [List.take_of_length_le (by omega)]
  | succ m ih =>
    intro i hi
    have hlt:i < D.length:=by omega
    have hx:=h D[i] (List.getElem_mem hlt)
    refine Ev.step (fun k=>rfl) (Ev.yes (by omega) (Ev.yes (by omega) (Ev.yes (by omega) ?_)))
    rw [rd_at (by simpa using hlt)]
    refine Ev.bind (spec_l1Num.one (by simpa using hx.2)) ?_
    refine Ev.yes (by rw [textB_size,strOfNums_size,List.length_take];simp;omega) ?_
    rw [show wrap64 ((i:Int) + 1)=((i + 1:Nat):Int) from w64 (by omega) (by omega)]
    have:=ih (i + 1) (by omega)
    rw [List.take_succ_eq_append_getElem hlt,textB_app] at this
    exact this
theorem spec_whText.ev (D:List Int) (hD:D.length≤1000) (h : ∀ x∈D,0≤x∧x < 10):Ev (fun k=>spec_whText.f k D) (textB D):=by
  unfold spec_whText.f
  exact spec_whText.lev D hD h D.length 0 (by omega)
/-! Declarations moved out of EVal2. -/
theorem spec_whOf.lev {w d:Int} (hl:lockB w d=true) (D:List Int) (hD:D.length=w.toNat) (h : ∀ x∈D,0≤x∧x < 10) : ∀ (m:Nat) (n:Int) (T:List Int),0≤n→n≤9223372036854775807→digs d m n ++ T=D→Ev (fun k=>spec_whOf.l0 k n (List.replicate m 0 ++ T) ((m:Int) - 1) w d) (textB D):=by
  obtain ⟨w1,w2,d1,d2⟩:=lockB_iff.mp hl
  intro m
  induction m with
  | zero =>
    intro n T h0 h1 hT
    refine Ev.step (fun k=>rfl) (Ev.no (by omega) ?_)
    have:List.replicate 0 (0:Int) ++ T=D:=hT
    rw [this]
    exact Ev.bind (spec_whText.ev D (by omega) h) (Ev.now _)
  | succ m ih =>
    intro n T h0 h1 hT
    have hlen:m + 1 + T.length=D.length:=by rw [←hT,List.length_append,digs_length]
    refine Ev.step (fun k=>rfl) (Ev.yes (by omega) (Ev.no (by omega) (Ev.yes (by omega) (Ev.yes (by rw [List.length_append,List.length_replicate];omega) ?_))))
    rw [show ((m + 1:Nat):Int) - 1=(m:Nat) by omega,Int.toNat_natCast,rep_set,Int.tmod_eq_emod_of_nonneg h0,Int.tdiv_eq_ediv_of_nonneg h0]
    have r3:0≤n / d:=Int.ediv_nonneg h0 (by omega)
    have r4:n / d≤n:=Int.ediv_le_self _ h0
    rw [w64 (x:=n / d) (by omega) (by omega),w64 (x:=(m:Int) - 1) (by omega) (by omega)]
    refine ih (n / d) (n % d :: T) r3 (by omega) ?_
    rw [digs,List.append_assoc] at hT
    exact hT
theorem spec_whOf.ev {w d a:Int} (hl:lockB w d=true) (h0:0≤a) (h1:a≤9223372036854775807):Ev (fun k=>spec_whOf.f k w d a) (codeB w d a):=by
  obtain ⟨w1,w2,d1,d2⟩:=lockB_iff.mp hl
  unfold spec_whOf.f
  refine Ev.yes (by omega) (Ev.yes (by omega) ?_)
  rw [w64 (x:=w - 1) (by omega) (by omega)]
  have:=spec_whOf.lev hl (digs d w.toNat a) (by rw [digs_length]) (fun x hx=>by have:=digs_range (d:=d) (by omega) w.toNat a x hx;omega) w.toNat a [] h0 h1 (by rw [List.append_nil])
  rw [List.append_nil,show ((w.toNat:Nat):Int) - 1=w - 1 by omega] at this
  exact this
end Go.Proofs.YtfginhjgeholcaaGreatDoor.P