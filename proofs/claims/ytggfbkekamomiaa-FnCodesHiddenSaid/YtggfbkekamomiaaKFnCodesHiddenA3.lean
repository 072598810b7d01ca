import Derived.Test.YtggfbkekamomiaaKFnCodesHiddenA0
import Derived.Test.YtggfbkekamomiaaKFnCodesHiddenA2
import Derived.Test.YtggfbkekamomiaaKFnCodesHiddenA1
import Derived.Lib.OthersKept
import Derived.Laws.RangeString
namespace Go.Proofs.Ytggfbkekamomiaa.P
open Go.RowKit Go.Proofs.YtggfbkekamomiaaW.PrintWords Go.Proofs.YtggfbkekamomiaaW.PrintLast Go.Proofs.YtggfbkekamomiaaW.PrintMore
attribute [local go_sem] max2_int min2_int max_two min_two max_three min_three max_four min_four
set_option linter.unusedVariables false
set_option linter.unusedSimpArgs false
/-! ### spec_l1Cur_clue: function 68 -/
def spec_l1Cur_clue.j0:Nat→Bool→List Int→Int→Int→Int→Int→Int→Option (Int×Int×Int×Int×Int)
  | 0,_,_,_,_,_,_,_=>none
  | k + 1,x23,x1000,x1001,x1002,x481000,x481001,x481002=>if x23=true then ((spec_l1Cur_pick.f x1000 x1001 x1002 4).bind fun bt484=>((spec_l1Cur_pick.f x1000 bt484.2.1 bt484.2.2 9).bind fun bt487=>(some (x481000,x481001,wrap64 (bt484.1 - (wrap64 (Int.tdiv bt487.1 8))),bt487.2.1,bt487.2.2)))) else (some (x481000,x481001,x481002,x1001,x1002))
def spec_l1Cur_clue.f (k:Nat) (s0_0:List Int) (s0_1:Int) (s0_2:Int):Option (Int×Int×Int×Int×Int):=(spec_l1Cur_pick.f s0_0 s0_1 s0_2 5).bind fun bt468=>((spec_l1Cur_pick.f s0_0 bt468.2.1 bt468.2.2 9).bind fun bt471=>((spec_l1Cur_pick.f s0_0 bt471.2.1 bt471.2.2 6).bind fun bt474=>((spec_l1Cur_pick.f s0_0 bt474.2.1 bt474.2.2 9).bind fun bt477=>(if (wrap64 (bt468.1 + (wrap64 (Int.tdiv bt471.1 8))))=1 then ((spec_l1Cur_one.f s0_0 bt477.2.1 bt477.2.2 8).bind fun bt481=>(spec_l1Cur_clue.j0 k bt481.1 s0_0 bt481.2.1 bt481.2.2 (wrap64 (bt468.1 + (wrap64 (Int.tdiv bt471.1 8)))) (wrap64 (bt474.1 - (wrap64 (Int.tdiv bt477.1 8)))) 0)) else (spec_l1Cur_clue.j0 k true s0_0 bt477.2.1 bt477.2.2 (wrap64 (bt468.1 + (wrap64 (Int.tdiv bt471.1 8)))) (wrap64 (bt474.1 - (wrap64 (Int.tdiv bt477.1 8)))) 0)))))
set_option maxHeartbeats 8000000 in
set_option maxRecDepth 100000 in
theorem spec_l1Cur_clue.calls (k:Nat) (g:Nat) (s0_0:List Int) (s0_1:Int) (s0_2:Int) (r1:Int) (r2:Int) (r3:Int) (r4:Int) (r5:Int) (w0 w:World) (hI:IsS71 w0 w g s0_0 s0_1 s0_2) (hB:Below w0.heap.size w0 w) (h:spec_l1Cur_clue.f k s0_0 s0_1 s0_2=some (r1,r2,r3,r4,r5)) :
    Calls Try.prog 68 #[.pointer (some ⟨g,0,none⟩)] w fun e w'=>e = .returned (.agg #[.int .i64 r1, .int .i64 r2, .int .i64 r3])∧IsS71 w0 w' g s0_0 r4 r5∧Below w0.heap.size w0 w'∧KeepBut w w' g none:=by
  have hu44:=Try.underlying44;have HI0:=amk hI;have HK:=amk (KeepBut.refl w g none);have HL:=amk hB.size;clear hI;have HW0:=amk hB.size;have HB:=amk hB;clear hB;unfold spec_l1Cur_clue.f at h;have H:=h;clear h;replace H:=bE H;obtain ⟨⟨t468,t469,t470⟩,A2,H⟩:=H;(try dsimp only at H);replace H:=bE H;obtain ⟨⟨t471,t472,t473⟩,A3,H⟩:=H;(try dsimp only at H);replace H:=bE H;obtain ⟨⟨t474,t475,t476⟩,A4,H⟩:=H;(try dsimp only at H);replace H:=bE H;obtain ⟨⟨t477,t478,t479⟩,A5,H⟩:=H;(try dsimp only at H);have HC6:=amk H;clear H;go_enter Try.func68,Try.ntmps68
  go_upto_region 2 with (first | ((with_reducible refine gate_dst (N:=2) rfl ?_);refine boxG_ 2 #[.int .i64 0, .int .i64 0, .int .i64 0] 44 ?_;intro gb467 w7 hg BK467 hb;replace HB:=hBI HB hb;have GW467:=kS HK hg;have GE467:=kE HW0 GW467;replace HK:=kT HK hb;have NB0_467:=iL s0_0 s0_1 s0_2 hg;have NB467_0:=iR s0_0 s0_1 s0_2 hg;replace HI0:=amk (IsS71.below bI hb);clear hb hg) | (refine gc_ 39 5 Try.func39 #[.pointer (some ⟨g,0,none⟩), .int .i64 5] ?_;(with_reducible refine (spec_l1Cur_pick.calls g s0_0 s0_1 s0_2 5 t468 t469 t470 w0 _ ?_ ?_ A2.out).mono ?_);exact bI;exact bBI;rintro e w8 ⟨rfl,hi,hb,hk⟩;refine ⟨_,rfl,?_⟩;replace BK467:=kQ BK467 hk NB467_0.out;replace HK:=kT2 HK hk;replace HB:=amk (hb);replace HI0:=amk (hi);(try clear hb);(try clear hk);(try clear hi)) | (refine gc_ 39 7 Try.func39 #[.pointer (some ⟨g,0,none⟩), .int .i64 9] ?_;(with_reducible refine (spec_l1Cur_pick.calls g s0_0 t469 t470 9 t471 t472 t473 w0 _ ?_ ?_ A3.out).mono ?_);exact bI;exact bBI;rintro e w9 ⟨rfl,hi,hb,hk⟩;refine ⟨_,rfl,?_⟩;replace BK467:=kQ BK467 hk NB467_0.out;replace HK:=kT2 HK hk;replace HB:=amk (hb);replace HI0:=amk (hi);(try clear hb);(try clear hk);(try clear hi)) | (refine gc_ 39 11 Try.func39 #[.pointer (some ⟨g,0,none⟩), .int .i64 6] ?_;(with_reducible refine (spec_l1Cur_pick.calls g s0_0 t472 t473 6 t474 t475 t476 w0 _ ?_ ?_ A4.out).mono ?_);exact bI;exact bBI;rintro e w10 ⟨rfl,hi,hb,hk⟩;refine ⟨_,rfl,?_⟩;replace BK467:=kQ BK467 hk NB467_0.out;replace HK:=kT2 HK hk;replace HB:=amk (hb);replace HI0:=amk (hi);(try clear hb);(try clear hk);(try clear hi)) | (refine gc_ 39 13 Try.func39 #[.pointer (some ⟨g,0,none⟩), .int .i64 9] ?_;(with_reducible refine (spec_l1Cur_pick.calls g s0_0 t475 t476 9 t477 t478 t479 w0 _ ?_ ?_ A5.out).mono ?_);exact bI;exact bBI;rintro e w11 ⟨rfl,hi,hb,hk⟩;refine ⟨_,rfl,?_⟩;replace BK467:=kQ BK467 hk NB467_0.out;replace HK:=kT2 HK hk;replace HB:=amk (hb);replace HI0:=amk (hi);(try clear hb);(try clear hk);(try clear hi)) | ((with_reducible refine gate_dst (N:=3) rfl ?_);refine boxG_ 3 #[.int .i64 0, .int .i64 0, .int .i64 0] 44 ?_;intro gb480 w12 hg BK480 hb;replace HB:=hBI HB hb;have GW480:=kS HK hg;have GE480:=kE HW0 GW480;replace HK:=kT HK hb;have NB467_480:=neL BK467 hg;have NB480_467:=neR BK467 hg;replace BK467:=kb2 BK467 hb;have NB0_480:=iL s0_0 t478 t479 hg;have NB480_0:=iR s0_0 t478 t479 hg;replace HI0:=amk (IsS71.below bI hb);clear hb hg;have hnb13:=NB480_467.out;have hnc13:=NB467_480.out;have hnb14:=NB480_0.out;have hnc14:=NB0_480.out;obtain ⟨hcz15_0,hcz15_1,hcz15_2,hfz15_0,hfz15_1,hfz15_2⟩:=cells3 BK480.out))
  (try simp only [Act.put,List.setIfInBounds_toArray,List.set_cons_zero,List.set_cons_succ])
  go_cut [23] (fun v23 wc=> ∃ (kq:Nat) (x23_5:Bool) (x1001_5:Int) (x1002_5:Int),v23 = .bool x23_5∧Aside0 (spec_l1Cur_clue.j0 kq x23_5 s0_0 x1001_5 x1002_5 (wrap64 (t468 + (wrap64 (Int.tdiv t471 8)))) (wrap64 (t474 - (wrap64 (Int.tdiv t477 8)))) 0=some (r1,r2,r3,r4,r5))∧Aside0 (kq≤k)∧Aside0 (wc.heap[gb467]?=some (.cells #[.int .i64 0, .int .i64 0, .int .i64 0] 44 (0,0)))∧Aside0 (wc.heap[gb480]?=some (.cells #[.int .i64 (wrap64 (t468 + (wrap64 (Int.tdiv t471 8)))), .int .i64 (wrap64 (t474 - (wrap64 (Int.tdiv t477 8)))), .int .i64 0] 44 (0,0)))∧Aside0 (IsS71 w0 wc g s0_0 x1001_5 x1002_5)∧Aside0 (KeepBut w wc g none)∧Aside0 (Below w0.heap.size w0 wc))
  case first =>
    have H:=HC6.out;clear HC6
    by_cases c16:(wrap64 (t468 + (wrap64 (Int.tdiv t471 8))))=1
    · rw [if_pos c16] at H;have c16b0:((wrap64 (t468 + (wrap64 (Int.tdiv t471 8)))) == 1)=true:=beq_iff_eq.mpr c16;have c16b1:((wrap64 (t468 + (wrap64 (Int.tdiv t471 8)))) != 1)=false:=bne_eq_false_iff_eq.mpr c16;clear c16;(first | rw [c16b0] | (simp only [i64_w,i32_w];rw [c16b0]) | skip);replace H:=bE H;obtain ⟨⟨t481,t482,t483⟩,A17,H⟩:=H;(try dsimp only at H);have H':=amk H;clear H;have hnb18:=NB480_467.out;have hnc18:=NB467_480.out;have hnb19:=NB480_0.out;have hnc19:=NB0_480.out;obtain ⟨hcz20_0,hcz20_1,hcz20_2,hfz20_0,hfz20_1,hfz20_2⟩:=cells3 BK480.out;go_wp2_with (first | (go_at_call 34;(with_reducible refine (spec_l1Cur_one.calls g s0_0 t478 t479 8 t481 t482 t483 w0 _ ?_ ?_ A17.out).mono ?_);exact bI;exact bBI;rintro e w21 ⟨rfl,hi,hb,hk⟩;replace BK467:=kQ BK467 hk NB467_0.out;replace BK480:=amk (KeepBut.blk hk (g':=gb480) (o:= .cells #[.int .i64 (wrap64 (t468 + (wrap64 (Int.tdiv t471 8)))), .int .i64 (wrap64 (t474 - (wrap64 (Int.tdiv t477 8)))), .int .i64 0] 44 (0,0)) (kP BK480) NB480_0.out (by simp));replace HK:=kT2 HK hk;replace HB:=amk (hb);replace HI0:=amk (hi);(try clear hb);(try clear hk);(try clear hi)));go_meet
      case rel=>exact ⟨_,(t481),(t482),(t483),rS_,H',⟨by first | omega | exact Nat.le_refl _⟩,⟨kB BK467⟩,⟨kB BK480⟩,⟨bI⟩,⟨bK⟩,⟨bBI⟩⟩
    · rw [if_neg c16] at H;have c16b0:((wrap64 (t468 + (wrap64 (Int.tdiv t471 8)))) == 1)=false:=beq_eq_false_iff_ne.mpr c16;have c16b1:((wrap64 (t468 + (wrap64 (Int.tdiv t471 8)))) != 1)=true:=bne_iff_ne.mpr c16;(first | rw [c16b0] | (simp only [i64_w,i32_w];rw [c16b0]) | skip);have H':=amk H;clear H;have hnb22:=NB480_467.out;have hnc22:=NB467_480.out;have hnb23:=NB480_0.out;have hnc23:=NB0_480.out;obtain ⟨hcz24_0,hcz24_1,hcz24_2,hfz24_0,hfz24_1,hfz24_2⟩:=cells3 BK480.out;go_wp2;go_meet
      case rel=>exact ⟨_,(true),(t478),(t479),rS_,H',⟨by first | omega | exact Nat.le_refl _⟩,⟨kB BK467⟩,⟨kP BK480⟩,⟨bI⟩,⟨bK⟩,⟨bBI⟩⟩
  case rest =>
    clear HC6;(try clear c1);(try clear c2);(try clear p2);(try clear c3);(try clear c6);(try clear p6);(try clear c13);(try clear c14);(try clear c16);(try clear c16b0);(try clear c16b1);(try clear c18);(try clear c19);(try clear c22);(try clear c23);(try clear hcz15_0);(try clear hcz15_1);(try clear hcz15_2);(try clear hcz20_0);(try clear hcz20_1);(try clear hcz20_2);(try clear hcz24_0);(try clear hcz24_1);(try clear hcz24_2);(try clear hfz15_0);(try clear hfz15_1);(try clear hfz15_2);(try clear hfz20_0);(try clear hfz20_1);(try clear hfz20_2);(try clear hfz24_0);(try clear hfz24_1);(try clear hfz24_2);obtain ⟨kq,x23_5,x1001_5,x1002_5,rfl,HA,HJ5,BK467,BK480,HI0,HK,HB⟩:=hcut
    cases kq with
    | zero=>exact absurd HA.out (by simp [spec_l1Cur_clue.j0])
    | succ kj5 =>
      have H:=HA.out;clear HA;simp only [spec_l1Cur_clue.j0] at H;replace H:=iteB H;obtain ⟨rfl,H⟩ | ⟨rfl,H⟩:=H
      · replace H:=bE H;obtain ⟨⟨t484,t485,t486⟩,A26,H⟩:=H;(try dsimp only at H);replace H:=bE H;obtain ⟨⟨t487,t488,t489⟩,A27,H⟩:=H;(try dsimp only at H);simp only [Option.some.injEq,Prod.mk.injEq] at H;obtain ⟨rfl,rfl,rfl,rfl,rfl⟩:=H;go_wp2_with (first | (refine gc_ 39 25 Try.func39 #[.pointer (some ⟨g,0,none⟩), .int .i64 4] ?_;(with_reducible refine (spec_l1Cur_pick.calls g s0_0 x1001_5 x1002_5 4 t484 t485 t486 w0 _ ?_ ?_ A26.out).mono ?_);exact bI;exact bBI;rintro e w28 ⟨rfl,hi,hb,hk⟩;refine ⟨_,rfl,?_⟩;replace BK467:=kQ BK467 hk NB467_0.out;replace BK480:=kQ BK480 hk NB480_0.out;replace HK:=kT2 HK hk;replace HB:=amk (hb);replace HI0:=amk (hi);(try clear hb);(try clear hk);(try clear hi)) | (refine gc_ 39 27 Try.func39 #[.pointer (some ⟨g,0,none⟩), .int .i64 9] ?_;(with_reducible refine (spec_l1Cur_pick.calls g s0_0 t485 t486 9 t487 t488 t489 w0 _ ?_ ?_ A27.out).mono ?_);exact bI;exact bBI;rintro e w29 ⟨rfl,hi,hb,hk⟩;refine ⟨_,rfl,?_⟩;replace BK467:=kQ BK467 hk NB467_0.out;replace BK480:=kQ BK480 hk NB480_0.out;replace HK:=kT2 HK hk;replace HB:=amk (hb);replace HI0:=amk (hi);(try clear hb);(try clear hk);(try clear hi);have hnb30:=NB480_467.out;have hnc30:=NB467_480.out;have hnb31:=NB480_0.out;have hnc31:=NB0_480.out;obtain ⟨hcz32_0,hcz32_1,hcz32_2,hfz32_0,hfz32_1,hfz32_2⟩:=cells3 BK480.out;have hnb33:=NB467_0.out;have hnc33:=NB0_467.out;obtain ⟨hcz34_0,hcz34_1,hcz34_2,hfz34_0,hfz34_1,hfz34_2⟩:=cells3 BK467.out));refine bodyPost_ret (results_cell_row rfl _ _ gb467 44 #[.int .i64 (wrap64 (t468 + (wrap64 (Int.tdiv t471 8)))), .int .i64 (wrap64 (t474 - (wrap64 (Int.tdiv t477 8)))), .int .i64 (wrap64 (t484 - (wrap64 (Int.tdiv t487 8))))] (0,0) _ rfl (by (with_reducible repeat (first | refine kn_ ?_ _ | refine blk_drew ?_ | refine ka_ ?_ _));refine blk_put (cs:= #[.int .i64 (wrap64 (t468 + (wrap64 (Int.tdiv t471 8)))), .int .i64 (wrap64 (t474 - (wrap64 (Int.tdiv t477 8)))), .int .i64 0]) ?_ 2 _ rfl;(with_reducible repeat (first | refine kn_ ?_ _ | refine blk_drew ?_ | refine ka_ ?_ _));refine blk_put (cs:= #[.int .i64 (wrap64 (t468 + (wrap64 (Int.tdiv t471 8)))), .int .i64 0, .int .i64 0]) ?_ 1 _ rfl;(with_reducible repeat (first | refine kn_ ?_ _ | refine blk_drew ?_ | refine ka_ ?_ _));refine blk_put (cs:= #[.int .i64 0, .int .i64 0, .int .i64 0]) ?_ 0 _ rfl;(with_reducible repeat (first | refine kn_ ?_ _ | refine blk_drew ?_ | refine ka_ ?_ _));refine blk_far ?_ NB467_480.out _;(with_reducible repeat (first | refine kn_ ?_ _ | refine blk_drew ?_ | refine ka_ ?_ _));exact BK467.out) Try.underlying44 rfl (by kernel_rfl)) rfl ?_;exact ⟨rF_,bI,bBI,bK⟩
      · simp only [Option.some.injEq,Prod.mk.injEq] at H;obtain ⟨rfl,rfl,rfl,rfl,rfl⟩:=H;have hnb35:=NB480_467.out;have hnc35:=NB467_480.out;have hnb36:=NB480_0.out;have hnc36:=NB0_480.out;obtain ⟨hcz37_0,hcz37_1,hcz37_2,hfz37_0,hfz37_1,hfz37_2⟩:=cells3 BK480.out;have hnb38:=NB467_0.out;have hnc38:=NB0_467.out;obtain ⟨hcz39_0,hcz39_1,hcz39_2,hfz39_0,hfz39_1,hfz39_2⟩:=cells3 BK467.out;go_wp2;refine bodyPost_ret (results_cell_row rfl _ _ gb467 44 #[.int .i64 (wrap64 (t468 + (wrap64 (Int.tdiv t471 8)))), .int .i64 (wrap64 (t474 - (wrap64 (Int.tdiv t477 8)))), .int .i64 0] (0,0) _ rfl (kP BK467) Try.underlying44 rfl (by kernel_rfl)) rfl ?_;exact ⟨rF_,bI,bBI,bK⟩
/-! (*l1Cur).sureLock, by hand: one of eight locks. -/
def lockT (x:Int):Int×Int:=[((1:Int),(10:Int)),(2,5),(3,3),(2,10),(4,2),(3,4),(1,2),(5,2)].getD x.toNat (0,0)
def spec_l1Cur_sureLock.f (s0_0:List Int) (s0_1:Int) (s0_2:Int):Option (Int×Int×Int×Int):=(spec_l1Cur_pick.f s0_0 s0_1 s0_2 8).bind fun p=>if 0≤p.1∧p.1 < 8 then some ((lockT p.1).1,(lockT p.1).2,p.2.1,p.2.2) else none
theorem idxLock (x:Int) (hx:0≤x∧x < 8) (w:World):(Instr.index 115 (.agg #[.int .i64 1, .int .i64 10, .int .i64 2, .int .i64 5, .int .i64 3, .int .i64 3, .int .i64 2, .int .i64 10, .int .i64 4, .int .i64 2, .int .i64 3, .int .i64 4, .int .i64 1, .int .i64 2, .int .i64 5, .int .i64 2]) (.int .i64 x)).run Try.prog w = .ok (.agg #[.int .i64 (lockT x).1, .int .i64 (lockT x).2]) w:=by
  have hu:=Try.underlying25
  have hu2:=Try.underlying115
  have hc:x=0∨x=1∨x=2∨x=3∨x=4∨x=5∨x=6∨x=7:=by omega
  rcases hc with rfl | rfl | rfl | rfl | rfl | rfl | rfl | rfl <;> simp [Instr.index,run_underlying hu2,asIntOf,go_sem,lockT]
set_option maxHeartbeats 8000000 in
set_option maxRecDepth 100000 in
theorem spec_l1Cur_sureLock.walk (g:Nat) (s:List Int) (a b x a2 b2 n m:Int) (w0 w:World) (hI:IsS71 w0 w g s a b) (hB:Below w0.heap.size w0 w) (hp:spec_l1Cur_pick.f s a b 8=some (x,a2,b2)) (hx:0≤x∧x < 8) (hn:lockT x=(n,m)) :
    Calls Try.prog 71 #[.pointer (some ⟨g,0,none⟩)] w fun e w'=>e = .returned (.agg #[.int .i64 n, .int .i64 m])∧IsS71 w0 w' g s a2 b2∧Below w0.heap.size w0 w'∧KeepBut w w' g none:=by
  have hu:=Try.underlying25
  have hu2:=Try.underlying115
  have HI:=amk (hI.alloc (.cells #[.int .i64 0, .int .i64 0] 25 (0,0)))
  have HB:=amk (hB.alloc hB.size (.cells #[.int .i64 0, .int .i64 0] 25 (0,0)))
  have HK:=amk (KeepBut.of_below ((Below.refl _ w).alloc (Nat.le_refl _) (.cells #[.int .i64 0, .int .i64 0] 25 (0,0))) g none)
  have HZ:=amk (blk_new w (.cells #[.int .i64 0, .int .i64 0] 25 (0,0)))
  have HN:=amk (show w.heap.size≠g from Nat.ne_of_gt hI.lt)
  have HS:=amk hB.size
  have HP:=amk hp
  obtain ⟨rfl,rfl⟩:(lockT x).1=n∧(lockT x).2=m:=by rw [hn];exact ⟨rfl,rfl⟩
  have hix:=idxLock x hx
  clear hI hB hp hx hn hu2
  go_enter Try.func71,Try.ntmps71
  go_wp2_with (go_at_call 39;refine Calls.mono (spec_l1Cur_pick.calls g s a b 8 _ a2 b2 w0 _ HI.out HB.out HP.out) ?_;rintro e wx ⟨rfl,hi,hb,hk⟩;have HZ2:=amk ((hk.2 _ (blk_lt HZ.out) HN.out (by simp)).trans HZ.out);have HI2:=amk hi;have HB2:=amk hb;have HK2:=amk (KeepBut.trans HK.out hk (.inl rfl));clear hi hb hk HI HB HK HZ;obtain ⟨z0,z1,z2,z3,_⟩:=two_cells HZ2.out)
  (try simp only [Exit.inBlock,Exit.then])
  refine bodyPost_ret (results_cell_row rfl _ _ w.heap.size 25 #[_,_] (0,0) _ rfl (two_set HZ2.out _ _) Try.underlying25 rfl (by kernel_rfl)) rfl ?_
  exact ⟨rfl,IsS71.far (IsS71.far HI2.out HN.out.symm _) HN.out.symm _,bs_ (bs_ HB2.out HS.out) HS.out,keep_far (keep_far HK2.out (Nat.le_refl _) _) (Nat.le_refl _) _⟩
theorem spec_l1Cur_sureLock.calls (g:Nat) (s0_0:List Int) (s0_1:Int) (s0_2:Int) (r1:Int) (r2:Int) (r3:Int) (r4:Int) (w0 w:World) (hI:IsS71 w0 w g s0_0 s0_1 s0_2) (hB:Below w0.heap.size w0 w) (h:spec_l1Cur_sureLock.f s0_0 s0_1 s0_2=some (r1,r2,r3,r4)) :
    Calls Try.prog 71 #[.pointer (some ⟨g,0,none⟩)] w fun e w'=>e = .returned (.agg #[.int .i64 r1, .int .i64 r2])∧IsS71 w0 w' g s0_0 r3 r4∧Below w0.heap.size w0 w'∧KeepBut w w' g none:=by
  obtain ⟨⟨x,a2,b2⟩,hp,h2⟩:=Option.bind_eq_some_iff.mp h
  by_cases hx:0≤x∧x < 8
  · have h3:some ((lockT x).1,(lockT x).2,a2,b2)=some (r1,r2,r3,r4):=by rw [←h2];exact (if_pos hx).symm
    simp only [Option.some.injEq,Prod.mk.injEq] at h3
    obtain ⟨rfl,rfl,rfl,rfl⟩:=h3
    exact spec_l1Cur_sureLock.walk g s0_0 s0_1 s0_2 x _ _ _ _ w0 w hI hB hp hx rfl
  · have h3:(none:Option (Int×Int×Int×Int))=some (r1,r2,r3,r4):=by rw [←h2];exact (if_neg hx).symm
    exact absurd h3 (by simp)
/-! ### spec_l1Cur_hidden: function 38 -/
def spec_l1Cur_hidden.f (k:Nat) (s0_0:List Int) (s0_1:Int) (s0_2:Int):Option (Int×Int×ByteArray×Int×Int):=(spec_l1Cur_sureLock.f s0_0 s0_1 s0_2).bind fun bt339=>((spec_whCount.f k bt339.1 bt339.2.1).bind fun t344=>((spec_l1Cur_pick.f s0_0 bt339.2.2.1 bt339.2.2.2 t344).bind fun bt345=>((spec_whOf.f k bt339.1 bt339.2.1 bt345.1).bind fun t348=>(some (bt339.1,bt339.2.1,t348,bt345.2.1,bt345.2.2)))))
def spec_l1Cur_hidden.T2:Bool×List (List Nat×List Nat):=(true,[([],[]),([],[]),([],[]),([],[]),([3],[3]),([2,4,4],[2,4]),([1,5,5],[1,5]),([0,6,0],[0]),([6,7,0,1,2,3,4,5,6,7],[6])])
def spec_l1Cur_hidden.B2:List Nat:=[0,0,0,0,8,28,62,127,255]
theorem spec_l1Cur_hidden.tab2:rtab .any (opsOf Try.f38 2)=spec_l1Cur_hidden.T2:=by kernel_rfl
theorem spec_l1Cur_hidden.bits2:waitsOk spec_l1Cur_hidden.T2.2 spec_l1Cur_hidden.B2=true:=by kernel_rfl
set_option maxHeartbeats 8000000 in
set_option maxRecDepth 100000 in
theorem spec_l1Cur_hidden.calls (k:Nat) (g:Nat) (s0_0:List Int) (s0_1:Int) (s0_2:Int) (r1:Int) (r2:Int) (r3:ByteArray) (r4:Int) (r5:Int) (w0 w:World) (hI:IsS71 w0 w g s0_0 s0_1 s0_2) (hB:Below w0.heap.size w0 w) (h:spec_l1Cur_hidden.f k s0_0 s0_1 s0_2=some (r1,r2,r3,r4,r5)) :
    Calls Try.prog 38 #[.pointer (some ⟨g,0,none⟩)] w fun e w'=>e = .returned (.tuple #[.agg #[.int .i64 r1, .int .i64 r2], .string r3])∧IsS71 w0 w' g s0_0 r4 r5∧Below w0.heap.size w0 w'∧KeepBut w w' g none:=by
  have hu25:=Try.underlying25;have HI0:=amk hI;have HK:=amk (KeepBut.refl w g none);have HL:=amk hB.size;clear hI;have HW0:=amk hB.size;have HB:=amk hB;clear hB;unfold spec_l1Cur_hidden.f at h;have H:=h;clear h;replace H:=bE H;obtain ⟨⟨t339,t340,t341,t342⟩,A2,H⟩:=H;(try dsimp only at H);replace H:=bE H;obtain ⟨t344,A3,H⟩:=H;replace H:=bE H;obtain ⟨⟨t345,t346,t347⟩,A4,H⟩:=H;(try dsimp only at H);replace H:=bE H;obtain ⟨t348,A5,H⟩:=H;simp only [Option.some.injEq,Prod.mk.injEq] at H;obtain ⟨rfl,rfl,rfl,rfl,rfl⟩:=H;go_enter Try.func38,Try.ntmps38;(try go_wp2_with (first | ((with_reducible refine gate_dst (N:=2) rfl ?_);refine boxG_ 2 #[.int .i64 0, .int .i64 0] 25 ?_;intro gb338 w6 hg BK338 hb;replace HB:=hBI HB hb;have GW338:=kS HK hg;have GE338:=kE HW0 GW338;replace HK:=kT HK hb;have NB0_338:=iL s0_0 s0_1 s0_2 hg;have NB338_0:=iR s0_0 s0_1 s0_2 hg;replace HI0:=amk (IsS71.below bI hb);clear hb hg) | (refine gc_ 71 6 Try.func71 #[.pointer (some ⟨g,0,none⟩)] ?_;(with_reducible refine (spec_l1Cur_sureLock.calls g s0_0 s0_1 s0_2 t339 t340 t341 t342 w0 _ ?_ ?_ A2.out).mono ?_);exact bI;exact bBI;rintro e w7 ⟨rfl,hi,hb,hk⟩;refine ⟨_,rfl,?_⟩;replace BK338:=kQ BK338 hk NB338_0.out;replace HK:=kT2 HK hk;replace HB:=amk (hb);replace HI0:=amk (hi);(try clear hb);(try clear hk);(try clear hi)) | ((with_reducible refine gate_dst (N:=4) rfl ?_);refine boxG_ 4 #[.int .i64 0, .int .i64 0] 25 ?_;intro gb343 w8 hg BK343 hb;replace HB:=hBI HB hb;have GW343:=kS HK hg;have GE343:=kE HW0 GW343;replace HK:=kT HK hb;have NB338_343:=neL BK338 hg;have NB343_338:=neR BK338 hg;replace BK338:=kb2 BK338 hb;have NB0_343:=iL s0_0 t341 t342 hg;have NB343_0:=iR s0_0 t341 t342 hg;replace HI0:=amk (IsS71.below bI hb);clear hb hg;have hnb9:=NB343_338.out;have hnc9:=NB338_343.out;have hnb10:=NB343_0.out;have hnc10:=NB0_343.out;obtain ⟨hcz11_0,hcz11_1,hfz11_0,hfz11_1⟩:=cells2 BK343.out)));have n0_:Aside0 (((w8.setCell ⟨gb343,0,none⟩ (.int .i64 t339)).setCell ⟨gb343,1,none⟩ (.int .i64 t340)).heap[gb338]?=some (.cells #[.int .i64 0, .int .i64 0] 25 (0,0))):=⟨kB BK338⟩;have n1_:Aside0 (((w8.setCell ⟨gb343,0,none⟩ (.int .i64 t339)).setCell ⟨gb343,1,none⟩ (.int .i64 t340)).heap[gb343]?=some (.cells #[.int .i64 t339, .int .i64 t340] 25 (0,0))):=⟨kP BK343⟩;have n2_:Aside0 (IsS71 w0 ((w8.setCell ⟨gb343,0,none⟩ (.int .i64 t339)).setCell ⟨gb343,1,none⟩ (.int .i64 t340)) g s0_0 t341 t342):=⟨bI⟩;have n3_:Aside0 (KeepBut w ((w8.setCell ⟨gb343,0,none⟩ (.int .i64 t339)).setCell ⟨gb343,1,none⟩ (.int .i64 t340)) g none):=⟨bK⟩;have n4_:Aside0 (Below w0.heap.size w0 ((w8.setCell ⟨gb343,0,none⟩ (.int .i64 t339)).setCell ⟨gb343,1,none⟩ (.int .i64 t340))):=⟨bBI⟩;generalize ((w8.setCell ⟨gb343,0,none⟩ (.int .i64 t339)).setCell ⟨gb343,1,none⟩ (.int .i64 t340))=w12 at n0_ n1_ n2_ n3_ n4_ ⊢;have BK338:=n0_;have BK343:=n1_;have HI0:=n2_;have HK:=n3_;have HB:=n4_;clear n0_ n1_ n2_ n3_ n4_;replace BK338:=amk (blk_drew BK338.out);replace BK343:=amk (blk_drew BK343.out);replace HI0:=amk (IsS71.drew HI0.out);replace HK:=amk (keep_drew HK.out);replace HB:=amk (bd_ HB.out);refine start_ (n:=9) (S:=fun w'=>w'.cell? ⟨gb343,0,none⟩=some (.int .i64 t339)∧w'.cell? ⟨gb343,1,none⟩=some (.int .i64 t340)) (ds:=[]) (bA 9 0) (by kernel_rfl) rfl rfl ⟨(blk_cell BK343.out 0).trans rfl,(blk_cell BK343.out 1).trans rfl⟩ (fun hHeld=>?_);refine with_tabW spec_l1Cur_hidden.tab2 spec_l1Cur_hidden.bits2 (fun HT_ HW_=>?_);generalize w12.drew=w13 at BK338 BK343 HI0 HK HB hHeld ⊢;refine pU_ HT_ 2 (some 9) (bA 9 4) ?_;refine tK_ HT_ HW_ hHeld 0 (some 7) (bA 9 5) ?_;refine tK_ HT_ HW_ hHeld 1 (some 8) (bA 9 7) ?_;refine tK_ HT_ HW_ hHeld 3 (some 10) (bA 9 15) ?_;refine oN_ HT_ 4 (some 11) (bA 9 31) (fun K hK=>?_);refine gs_ Try.func50 #[.agg #[.int .i64 t339, .int .i64 t340]] ?_;(with_reducible refine (spec_whCount.calls k t339 t340 t344 _ A3.out).mono ?_);rintro e w14 ⟨rfl,hb⟩;refine ⟨_,rfl,?_⟩;replace BK338:=kb2 BK338 hb;replace BK343:=kb2 BK343 hb;replace HK:=kT HK hb;replace HB:=hBI HB hb;replace HI0:=amk (IsS71.below bI hb);(try clear hb);(try clear hk);(try clear hi);refine hK.out _ _ hC_ (fun hHeld=>?_);clear hK K;refine nN_ (some 11) ?_;refine oN_ HT_ 5 (some 12) (bA 9 63) (fun K hK=>?_);refine gs_ Try.func39 #[.pointer (some ⟨g,0,none⟩), .int .i64 t344] ?_;(with_reducible refine (spec_l1Cur_pick.calls g s0_0 t341 t342 t344 t345 t346 t347 w0 _ ?_ ?_ A4.out).mono ?_);exact bI;exact bBI;rintro e w15 ⟨rfl,hi,hb,hk⟩;refine ⟨_,rfl,?_⟩;replace BK338:=kQ BK338 hk NB338_0.out;replace BK343:=kQ BK343 hk NB343_0.out;replace HK:=kT2 HK hk;replace HB:=amk (hb);replace HI0:=amk (hi);(try clear hb);(try clear hk);(try clear hi);refine hK.out _ _ hC_ (fun hHeld=>?_);clear hK K;refine nN_ (some 12) ?_;refine oN_ HT_ 6 (some 13) (bA 9 127) (fun K hK=>?_);refine gs_ Try.func76 #[.agg #[.int .i64 t339, .int .i64 t340], .int .i64 t345] ?_;(with_reducible refine (spec_whOf.calls k t339 t340 t345 t348 _ A5.out).mono ?_);rintro e w16 ⟨rfl,hb⟩;refine ⟨_,rfl,?_⟩;replace BK338:=kb2 BK338 hb;replace BK343:=kb2 BK343 hb;replace HK:=kT HK hb;replace HB:=hBI HB hb;replace HI0:=amk (IsS71.below bI hb);(try clear hb);(try clear hk);(try clear hi);refine hK.out _ _ hC_ (fun hHeld=>?_);clear hK K;refine nN_ (some 13) ?_;refine oN_ HT_ 7 none (bA 9 255) (fun K hK=>?_);have hs17:w16.cell? ⟨gb338,0,none⟩=some (.int .i64 0):=(blk_cell BK338.out 0).trans rfl;have hfs17:=blk_frozen BK338.out 0;have hns17_1:=NB343_338.out;have hms17_1:=NB338_343.out;have hs18:w16.cell? ⟨gb338,1,none⟩=some (.int .i64 0):=(blk_cell BK338.out 1).trans rfl;have hfs18:=blk_frozen BK338.out 1;have hns18_1:=NB343_338.out;have hms18_1:=NB338_343.out;refine skip_ (w1:=?_) (by rfl) rfl ?_ ?_;rotate_left
  · go_simp
    rfl
  refine hK.out _ _ ⟨((cell_far (p:=⟨gb338,_,none⟩) NB343_338.out _).trans (((cell_far (p:=⟨gb338,_,none⟩) NB343_338.out _).trans (hHeld.1)))),((cell_far (p:=⟨gb338,_,none⟩) NB343_338.out _).trans (((cell_far (p:=⟨gb338,_,none⟩) NB343_338.out _).trans (hHeld.2))))⟩ (fun hHeld=>?_);clear hK K;refine pU_ HT_ 8 (some 3) (bA 9 511) ?_;refine done_ (done_of HT_.out (by kernel_rfl)) ?_;(try go_wp2);refine bodyPost_ret (results_ct rfl _ _ gb338 25 #[.int .i64 t339, .int .i64 t340] (0,0) _ rfl (kP BK338) Try.underlying25 rfl (by kernel_rfl)) rfl ?_;exact ⟨rF_,bI,bBI,bK⟩
/-! ### spec_l1Cur_lock: function 35 -/
def spec_l1Cur_lock.f (s0_0:List Int) (s0_1:Int) (s0_2:Int):Option (Int×Int×Int×Int):=(spec_l1Cur_one.f s0_0 s0_1 s0_2 14).bind fun bt299=>(if bt299.1=true then ((spec_l1Cur_among.f s0_0 bt299.2.1 bt299.2.2 (([0,(-1),1,6,7,4611686018427387904]:List Int))).bind fun bt305=>((spec_l1Cur_among.f s0_0 bt305.2.1 bt305.2.2 (([1,2,3,10,11,(-1)]:List Int))).bind fun bt311=>(some (bt305.1,bt311.1,bt311.2.1,bt311.2.2)))) else ((spec_l1Cur_sureLock.f s0_0 bt299.2.1 bt299.2.2).bind fun bt314=>(some (bt314.1,bt314.2.1,bt314.2.2.1,bt314.2.2.2))))
set_option maxHeartbeats 8000000 in
set_option maxRecDepth 100000 in
theorem spec_l1Cur_lock.calls (g:Nat) (s0_0:List Int) (s0_1:Int) (s0_2:Int) (r1:Int) (r2:Int) (r3:Int) (r4:Int) (w0 w:World) (hI:IsS71 w0 w g s0_0 s0_1 s0_2) (hB:Below w0.heap.size w0 w) (h:spec_l1Cur_lock.f s0_0 s0_1 s0_2=some (r1,r2,r3,r4)) :
    Calls Try.prog 35 #[.pointer (some ⟨g,0,none⟩)] w fun e w'=>e = .returned (.agg #[.int .i64 r1, .int .i64 r2])∧IsS71 w0 w' g s0_0 r3 r4∧Below w0.heap.size w0 w'∧KeepBut w w' g none:=by
  have hu25:=Try.underlying25;have HI0:=amk hI;have HK:=amk (KeepBut.refl w g none);have HL:=amk hB.size;clear hI;have HW0:=amk hB.size;have HB:=amk hB;clear hB;unfold spec_l1Cur_lock.f at h;have H:=h;clear h;replace H:=bE H;obtain ⟨⟨t299,t300,t301⟩,A2,H⟩:=H;(try dsimp only at H);replace H:=iteB H;obtain ⟨rfl,H⟩ | ⟨rfl,H⟩:=H
  · (try rw [Option.bind_some] at H);generalize hy302:(([0,(-1),1,6,7,4611686018427387904]:List Int))=y302 at H;have Ny302:=amk hy302.symm;clear hy302;replace H:=bE H;obtain ⟨⟨t305,t306,t307⟩,A4,H⟩:=H;(try dsimp only at H);(try rw [Option.bind_some] at H);generalize hy308:(([1,2,3,10,11,(-1)]:List Int))=y308 at H;have Ny308:=amk hy308.symm;clear hy308;replace H:=bE H;obtain ⟨⟨t311,t312,t313⟩,A5,H⟩:=H;(try dsimp only at H);simp only [Option.some.injEq,Prod.mk.injEq] at H;obtain ⟨rfl,rfl,rfl,rfl⟩:=H;go_enter Try.func35,Try.ntmps35;go_wp2_with (first | ((with_reducible refine gate_dst (N:=2) rfl ?_);refine boxG_ 2 #[.int .i64 0, .int .i64 0] 25 ?_;intro gb298 w6 hg BK298 hb;replace HB:=hBI HB hb;have GW298:=kS HK hg;have GE298:=kE HW0 GW298;replace HK:=kT HK hb;have NB0_298:=iL s0_0 s0_1 s0_2 hg;have NB298_0:=iR s0_0 s0_1 s0_2 hg;replace HI0:=amk (IsS71.below bI hb);clear hb hg) | (refine gc_ 34 4 Try.func34 #[.pointer (some ⟨g,0,none⟩), .int .i64 14] ?_;(with_reducible refine (spec_l1Cur_one.calls g s0_0 s0_1 s0_2 14 true t300 t301 w0 _ ?_ ?_ A2.out).mono ?_);exact bI;exact bBI;rintro e w7 ⟨rfl,hi,hb,hk⟩;refine ⟨_,rfl,?_⟩;replace BK298:=kQ BK298 hk NB298_0.out;replace HK:=kT2 HK hk;replace HB:=amk (hb);replace HI0:=amk (hi);(try clear hb);(try clear hk);(try clear hi)) | ((with_reducible refine gate_dst (N:=6) rfl ?_);refine Kd.R_lit (Kd.int .i64) _ 3 ?hg (N:=6) ?hd (xs:=([0,(-1),1,6,7,4611686018427387904]:List Int)) (inner:=[.int .i64 0, .int .i64 (-1), .int .i64 1, .int .i64 6, .int .i64 7, .int .i64 4611686018427387904]) (ok:=fun _=>True) (okp:=fun _=>True) ?hr ?hp (fun _ hk=>hk) trivial (Below.refl _ _) (Nat.le_refl _) (by simp) ?_;(case hd=>rfl);(case hg=>rfl);(case hr=>first | (go_simp;done) | (go_simp;rfl));(case hp=>exact (Reps.one (show Kd.M (Kd.int .i64) _ _ _ 0 [.int .i64 0] from rfl) (Reps.one (show Kd.M (Kd.int .i64) _ _ _ (-1) [.int .i64 (-1)] from rfl) (Reps.one (show Kd.M (Kd.int .i64) _ _ _ 1 [.int .i64 1] from rfl) (Reps.one (show Kd.M (Kd.int .i64) _ _ _ 6 [.int .i64 6] from rfl) (Reps.one (show Kd.M (Kd.int .i64) _ _ _ 7 [.int .i64 7] from rfl) (Reps.one (show Kd.M (Kd.int .i64) _ _ _ 4611686018427387904 [.int .i64 4611686018427387904] from rfl) (Reps.none _ _))))))));intro v303 w8 ho9 hb hg_ hnew_;clear hg_ hnew_;(first | rw [←Ny302.out] at ho9 | (simp only [Int.reduceToNat] at ho9;rw [←Ny302.out] at ho9));have HO304:=amk (Kd.R_lower ho9 (keep_size (w:=w) (g:=g) (row:=none) bK));replace BK298:=kb2 BK298 hb;replace HK:=kT HK hb;replace HB:=hBI HB hb;replace HI0:=amk (IsS71.below bI hb);clear hb ho9;obtain ⟨Ao10,co10,eo10⟩:=Kd.R_slice HO304.out;subst eo10) | (refine gc_ 37 7 Try.func37 #[.pointer (some ⟨g,0,none⟩), .slice Ao10 y302.length co10] ?_;(with_reducible refine (spec_l1Cur_among.calls g s0_0 t300 t301 _ _ y302 t305 t306 t307 w0 _ ?_ ?_ ?_ ?_ ?_ A4.out).mono ?_);exact bI;exact bBI;exact cB ((Kd.R_reads' HO304.out).2.2);exact (Kd.R_reads' HO304.out).2.1;exact far_slice (IsS71.own_ne HI0.out HO304.out (by decide));rintro e w11 ⟨rfl,hi,hb,hk⟩;refine ⟨_,rfl,?_⟩;replace BK298:=kQ BK298 hk NB298_0.out;replace HO304:=amk (Kd.R_mono (Kd.R_keep (IsS71.apart (show IsS71 w0 _ g s0_0 t300 t301 from bI) (oX HO304) (by decide)) hk (fun _ h=>h.2)) (fun _ h=>h.1));replace HK:=kT2 HK hk;replace HB:=amk (hb);replace HI0:=amk (hi);(try clear hb);(try clear hk);(try clear hi)) | ((with_reducible refine gate_dst (N:=9) rfl ?_);refine Kd.R_lit (Kd.int .i64) _ 3 ?hg (N:=9) ?hd (xs:=([1,2,3,10,11,(-1)]:List Int)) (inner:=[.int .i64 1, .int .i64 2, .int .i64 3, .int .i64 10, .int .i64 11, .int .i64 (-1)]) (ok:=fun _=>True) (okp:=fun _=>True) ?hr ?hp (fun _ hk=>hk) trivial (Below.refl _ _) (Nat.le_refl _) (by simp) ?_;(case hd=>rfl);(case hg=>rfl);(case hr=>first | (go_simp;done) | (go_simp;rfl));(case hp=>exact (Reps.one (show Kd.M (Kd.int .i64) _ _ _ 1 [.int .i64 1] from rfl) (Reps.one (show Kd.M (Kd.int .i64) _ _ _ 2 [.int .i64 2] from rfl) (Reps.one (show Kd.M (Kd.int .i64) _ _ _ 3 [.int .i64 3] from rfl) (Reps.one (show Kd.M (Kd.int .i64) _ _ _ 10 [.int .i64 10] from rfl) (Reps.one (show Kd.M (Kd.int .i64) _ _ _ 11 [.int .i64 11] from rfl) (Reps.one (show Kd.M (Kd.int .i64) _ _ _ (-1) [.int .i64 (-1)] from rfl) (Reps.none _ _))))))));intro v309 w12 ho13 hb hg_ hnew_;clear hg_ hnew_;(first | rw [←Ny308.out] at ho13 | (simp only [Int.reduceToNat] at ho13;rw [←Ny308.out] at ho13));have HO310:=amk (Kd.R_lower (Kd.R_new' ho13 (Kd.R_lt (oX HO304))) (keep_size (w:=w) (g:=g) (row:=none) bK));replace HO304:=amk (Kd.R_elder' (oX HO304) (Kd.R_base ho13) hb);replace BK298:=kb2 BK298 hb;replace HK:=kT HK hb;replace HB:=hBI HB hb;replace HI0:=amk (IsS71.below bI hb);clear hb ho13;obtain ⟨Ao14,co14,eo14⟩:=Kd.R_slice HO310.out;subst eo14) | (refine gc_ 37 10 Try.func37 #[.pointer (some ⟨g,0,none⟩), .slice Ao14 y308.length co14] ?_;(with_reducible refine (spec_l1Cur_among.calls g s0_0 t306 t307 _ _ y308 t311 t312 t313 w0 _ ?_ ?_ ?_ ?_ ?_ A5.out).mono ?_);exact bI;exact bBI;exact cB ((Kd.R_reads' HO310.out).2.2);exact (Kd.R_reads' HO310.out).2.1;exact far_slice (IsS71.own_ne HI0.out HO310.out (by decide));rintro e w15 ⟨rfl,hi,hb,hk⟩;refine ⟨_,rfl,?_⟩;replace BK298:=kQ BK298 hk NB298_0.out;replace HO304:=amk (Kd.R_mono (Kd.R_keep (IsS71.apart (show IsS71 w0 _ g s0_0 t306 t307 from bI) (oX HO304) (by decide)) hk (fun _ h=>h.2)) (fun _ h=>h.1));replace HO310:=amk (Kd.R_mono (Kd.R_keep (IsS71.apart (show IsS71 w0 _ g s0_0 t306 t307 from bI) (oX HO310) (by decide)) hk (fun _ h=>h.2)) (fun _ h=>h.1));replace HK:=kT2 HK hk;replace HB:=amk (hb);replace HI0:=amk (hi);(try clear hb);(try clear hk);(try clear hi);have hnb16:=NB298_0.out;have hnc16:=NB0_298.out;obtain ⟨hcz17_0,hcz17_1,hfz17_0,hfz17_1⟩:=cells2 BK298.out));refine bodyPost_ret (results_cell_row rfl _ _ gb298 25 #[.int .i64 t305, .int .i64 t311] (0,0) _ rfl (kP BK298) Try.underlying25 rfl (by kernel_rfl)) rfl ?_;exact ⟨rF_,bI,bBI,bK⟩
  · replace H:=bE H;obtain ⟨⟨t314,t315,t316,t317⟩,A18,H⟩:=H;(try dsimp only at H);simp only [Option.some.injEq,Prod.mk.injEq] at H;obtain ⟨rfl,rfl,rfl,rfl⟩:=H;go_enter Try.func35,Try.ntmps35;go_wp2_with (first | ((with_reducible refine gate_dst (N:=2) rfl ?_);refine boxG_ 2 #[.int .i64 0, .int .i64 0] 25 ?_;intro gb298 w19 hg BK298 hb;replace HB:=hBI HB hb;have GW298:=kS HK hg;have GE298:=kE HW0 GW298;replace HK:=kT HK hb;have NB0_298:=iL s0_0 s0_1 s0_2 hg;have NB298_0:=iR s0_0 s0_1 s0_2 hg;replace HI0:=amk (IsS71.below bI hb);clear hb hg) | (refine gc_ 34 4 Try.func34 #[.pointer (some ⟨g,0,none⟩), .int .i64 14] ?_;(with_reducible refine (spec_l1Cur_one.calls g s0_0 s0_1 s0_2 14 false t300 t301 w0 _ ?_ ?_ A2.out).mono ?_);exact bI;exact bBI;rintro e w20 ⟨rfl,hi,hb,hk⟩;refine ⟨_,rfl,?_⟩;replace BK298:=kQ BK298 hk NB298_0.out;replace HK:=kT2 HK hk;replace HB:=amk (hb);replace HI0:=amk (hi);(try clear hb);(try clear hk);(try clear hi)) | (refine gc_ 71 13 Try.func71 #[.pointer (some ⟨g,0,none⟩)] ?_;(with_reducible refine (spec_l1Cur_sureLock.calls g s0_0 t300 t301 t314 t315 t316 t317 w0 _ ?_ ?_ A18.out).mono ?_);exact bI;exact bBI;rintro e w21 ⟨rfl,hi,hb,hk⟩;refine ⟨_,rfl,?_⟩;replace BK298:=kQ BK298 hk NB298_0.out;replace HK:=kT2 HK hk;replace HB:=amk (hb);replace HI0:=amk (hi);(try clear hb);(try clear hk);(try clear hi);have hnb22:=NB298_0.out;have hnc22:=NB0_298.out;obtain ⟨hcz23_0,hcz23_1,hfz23_0,hfz23_1⟩:=cells2 BK298.out));refine bodyPost_ret (results_cell_row rfl _ _ gb298 25 #[.int .i64 t314, .int .i64 t315] (0,0) _ rfl (kP BK298) Try.underlying25 rfl (by kernel_rfl)) rfl ?_;exact ⟨rF_,bI,bBI,bK⟩
/-! ### spec_l1Cur_surePuzzle: function 88 -/
def spec_l1Cur_surePuzzle.f (k:Nat) (s0_0:List Int) (s0_1:Int) (s0_2:Int) (a1:Int):Option (Int×Int×(List (S44))×Int×Int):=(spec_l1Cur_hidden.f k s0_0 s0_1 s0_2).bind fun bt491=>((spec_l1Cur_pick.f s0_0 bt491.2.2.2.1 bt491.2.2.2.2 (wrap64 (a1 + 1))).bind fun bt497=>((spec_l1Cur_pick.f s0_0 bt497.2.1 bt497.2.2 10000).bind fun bt500=>((spec_MakePuzzle.f k bt491.1 bt491.2.1 bt491.2.2.1 bt497.1 bt500.1).bind fun bt503=>(some (bt503.1,bt503.2.1,bt503.2.2.1,bt500.2.1,bt500.2.2)))))
def spec_l1Cur_surePuzzle.T2:Bool×List (List Nat×List Nat):=(true,[([],[]),([],[]),([],[]),([],[]),([3],[3]),([2,4],[2,4]),([],[]),([6,5],[6]),([0,1,5,7,7],[0,1,5,7]),([8],[8]),([9],[9]),([9],[9]),([],[]),([12,10,8,0,1,2,3,4,5,6,7,8,9,10,12],[10,12]),([11,13,0,1,2,3,4,5,6,7,8,9,10,11,12,13],[11])])
def spec_l1Cur_surePuzzle.B2:List Nat:=[0,0,0,0,8,28,0,124,255,511,1023,1023,0,6143,16383]
theorem spec_l1Cur_surePuzzle.tab2:rtab .any (opsOf Try.f88 2)=spec_l1Cur_surePuzzle.T2:=by kernel_rfl
theorem spec_l1Cur_surePuzzle.bits2:waitsOk spec_l1Cur_surePuzzle.T2.2 spec_l1Cur_surePuzzle.B2=true:=by kernel_rfl
set_option maxHeartbeats 8000000 in
set_option maxRecDepth 100000 in
theorem spec_l1Cur_surePuzzle.calls (k:Nat) (g:Nat) (s0_0:List Int) (s0_1:Int) (s0_2:Int) (a1:Int) (r1:Int) (r2:Int) (r3:List (S44)) (r4:Int) (r5:Int) (w0 w:World) (hI:IsS71 w0 w g s0_0 s0_1 s0_2) (hB:Below w0.heap.size w0 w) (h:spec_l1Cur_surePuzzle.f k s0_0 s0_1 s0_2 a1=some (r1,r2,r3,r4,r5)) :
    Calls Try.prog 88 #[.pointer (some ⟨g,0,none⟩), .int .i64 a1] w fun e w'=> ∃ v2_:Value,e = .returned (.agg #[.int .i64 r1, .int .i64 r2,v2_])∧Kd.R k44 44 w' w.heap.size (fun _=>True) v2_ r3∧IsS71 w0 w' g s0_0 r4 r5∧Below w0.heap.size w0 w'∧KeepBut w w' g none:=by
  have hu30:=Try.underlying30;have hu25:=Try.underlying25;have HI0:=amk hI;have HK:=amk (KeepBut.refl w g none);have HL:=amk hB.size;clear hI;have HW0:=amk hB.size;have HB:=amk hB;clear hB;unfold spec_l1Cur_surePuzzle.f at h;have H:=h;clear h;replace H:=bE H;obtain ⟨⟨t491,t492,t493,t494,t495⟩,A3,H⟩:=H;(try dsimp only at H);replace H:=bE H;obtain ⟨⟨t497,t498,t499⟩,A4,H⟩:=H;(try dsimp only at H);replace H:=bE H;obtain ⟨⟨t500,t501,t502⟩,A5,H⟩:=H;(try dsimp only at H);replace H:=bE H;obtain ⟨⟨t503,t504,t505,t508⟩,A6,H⟩:=H;(try dsimp only at H);simp only [Option.some.injEq,Prod.mk.injEq] at H;obtain ⟨rfl,rfl,rfl,rfl,rfl⟩:=H;go_enter Try.func88,Try.ntmps88;(try go_wp2_with (first | ((with_reducible refine gate_dst (N:=4) rfl ?_);refine boxG_ 4 #[.int .i64 0, .int .i64 0, .slice none 0 0] 30 ?_;intro gb490 w7 hg BK490 hb;replace HB:=hBI HB hb;have GW490:=kS HK hg;have GE490:=kE HW0 GW490;replace HK:=kT HK hb;have NB0_490:=iL s0_0 s0_1 s0_2 hg;have NB490_0:=iR s0_0 s0_1 s0_2 hg;replace HI0:=amk (IsS71.below bI hb);clear hb hg) | (refine gc_ 38 11 Try.func38 #[.pointer (some ⟨g,0,none⟩)] ?_;(with_reducible refine (spec_l1Cur_hidden.calls k g s0_0 s0_1 s0_2 t491 t492 t493 t494 t495 w0 _ ?_ ?_ A3.out).mono ?_);exact bI;exact bBI;rintro e w8 ⟨rfl,hi,hb,hk⟩;refine ⟨_,rfl,?_⟩;replace BK490:=kQ BK490 hk NB490_0.out;replace HK:=kT2 HK hk;replace HB:=amk (hb);replace HI0:=amk (hi);(try clear hb);(try clear hk);(try clear hi)) | ((with_reducible refine gate_dst (N:=5) rfl ?_);refine boxG_ 5 #[.int .i64 0, .int .i64 0] 25 ?_;intro gb496 w9 hg BK496 hb;replace HB:=hBI HB hb;have GW496:=kS HK hg;have GE496:=kE HW0 GW496;replace HK:=kT HK hb;have NB490_496:=neL BK490 hg;have NB496_490:=neR BK490 hg;replace BK490:=kb2 BK490 hb;have NB0_496:=iL s0_0 t494 t495 hg;have NB496_0:=iR s0_0 t494 t495 hg;replace HI0:=amk (IsS71.below bI hb);clear hb hg;have hnb10:=NB496_490.out;have hnc10:=NB490_496.out;have hnb11:=NB496_0.out;have hnc11:=NB0_496.out;obtain ⟨hcz12_0,hcz12_1,hfz12_0,hfz12_1⟩:=cells2 BK496.out)));have n0_:Aside0 (((w9.setCell ⟨gb496,0,none⟩ (.int .i64 t491)).setCell ⟨gb496,1,none⟩ (.int .i64 t492)).heap[gb490]?=some (.cells #[.int .i64 0, .int .i64 0, .slice none 0 0] 30 (0,0))):=⟨kB BK490⟩;have n1_:Aside0 (((w9.setCell ⟨gb496,0,none⟩ (.int .i64 t491)).setCell ⟨gb496,1,none⟩ (.int .i64 t492)).heap[gb496]?=some (.cells #[.int .i64 t491, .int .i64 t492] 25 (0,0))):=⟨kP BK496⟩;have n2_:Aside0 (IsS71 w0 ((w9.setCell ⟨gb496,0,none⟩ (.int .i64 t491)).setCell ⟨gb496,1,none⟩ (.int .i64 t492)) g s0_0 t494 t495):=⟨bI⟩;have n3_:Aside0 (KeepBut w ((w9.setCell ⟨gb496,0,none⟩ (.int .i64 t491)).setCell ⟨gb496,1,none⟩ (.int .i64 t492)) g none):=⟨bK⟩;have n4_:Aside0 (Below w0.heap.size w0 ((w9.setCell ⟨gb496,0,none⟩ (.int .i64 t491)).setCell ⟨gb496,1,none⟩ (.int .i64 t492))):=⟨bBI⟩;(try clear BK490);(try clear BK496);(try clear HI0);(try clear HK);(try clear HB);generalize ((w9.setCell ⟨gb496,0,none⟩ (.int .i64 t491)).setCell ⟨gb496,1,none⟩ (.int .i64 t492))=w13 at n0_ n1_ n2_ n3_ n4_ ⊢;have BK490:=n0_;have BK496:=n1_;have HI0:=n2_;have HK:=n3_;have HB:=n4_;clear n0_ n1_ n2_ n3_ n4_;replace BK490:=amk (blk_drew BK490.out);replace BK496:=amk (blk_drew BK496.out);replace HI0:=amk (IsS71.drew HI0.out);replace HK:=amk (keep_drew HK.out);replace HB:=amk (bd_ HB.out);refine start_ (n:=15) (S:=fun w'=>w'.cell? ⟨gb496,0,none⟩=some (.int .i64 t491)∧w'.cell? ⟨gb496,1,none⟩=some (.int .i64 t492)) (ds:=[]) (bA 15 0) (by kernel_rfl) rfl rfl ⟨(blk_cell BK496.out 0).trans rfl,(blk_cell BK496.out 1).trans rfl⟩ (fun hHeld=>?_);refine with_tabW spec_l1Cur_surePuzzle.tab2 spec_l1Cur_surePuzzle.bits2 (fun HT_ HW_=>?_);generalize w13.drew=w14 at BK490 BK496 HI0 HK HB hHeld ⊢;refine pU_ HT_ 1 (some 16) (bA 15 2) ?_;refine pU_ HT_ 2 (some 17) (bA 15 6) ?_;refine pU_ HT_ 3 (some 18) (bA 15 14) ?_;refine pU_ HT_ 4 (some 19) (bA 15 30) ?_;refine pU_ HT_ 6 (some 21) (bA 15 94) ?_;refine tK_ HT_ HW_ hHeld 0 (some 15) (bA 15 95) ?_;refine join_ (σ:=Value×Nat) 2 (bA 15 8191) (fun s_=> [(20, .int .i64 t497),(22, .int .i64 t500),(23, .tuple #[.agg #[.int .i64 t503, .int .i64 t504,s_.1], .bool t508]),(7, .pointer (some ⟨s_.2,0,none⟩)),(14, .tuple #[.agg #[.int .i64 t503, .int .i64 t504,s_.1], .bool t508]),(24, .agg #[.int .i64 t503, .int .i64 t504,s_.1]),(25, .bool t508)]) (fun s_ w'=>(w'.cell? ⟨gb496,0,none⟩=some (.int .i64 t491)∧w'.cell? ⟨gb496,1,none⟩=some (.int .i64 t492))∧(Kd.R k44 44 w' w.heap.size (fun _=>True) s_.1 t505)∧(w'.heap[gb490]?=some (.cells #[.int .i64 0, .int .i64 0, .slice none 0 0] 30 (0,0)))∧(w'.heap[gb496]?=some (.cells #[.int .i64 t491, .int .i64 t492] 25 (0,0)))∧(w'.heap[s_.2]?=some (.cells #[.int .i64 0, .int .i64 0, .slice none 0 0] 30 (0,0)))∧(w.heap.size≤s_.2)∧(w0.heap.size≤s_.2)∧(g≠s_.2)∧(s_.2≠g)∧(gb490≠s_.2)∧(s_.2≠gb490)∧(gb496≠s_.2)∧(s_.2≠gb496)∧(IsS71 w0 w' g s0_0 t501 t502)∧(KeepBut w w' g none)∧(Below w0.heap.size w0 w')) ?_ ?_;rotate_left
  · intro hCont;refine two_ (i:=5) (j:=12) (Ni:=some 20) (Nj:=some 7) (bA 15 127) (bA 15 4191) rfl rfl rfl rfl (two_of HT_.out (by kernel_rfl)) (by decide) (by decide) (fun K hK=>?_) (fun K hK=>?_)
    · skip
      refine gs_ Try.func39 #[.pointer (some ⟨g,0,none⟩), .int .i64 (wrap64 (a1 + 1))] ?_;(with_reducible refine (spec_l1Cur_pick.calls g s0_0 t494 t495 (wrap64 (a1 + 1)) t497 t498 t499 w0 _ ?_ ?_ A4.out).mono ?_);exact bI;exact bBI;rintro e w15 ⟨rfl,hi,hb,hk⟩;refine ⟨_,rfl,?_⟩;replace BK490:=kQ BK490 hk NB490_0.out;replace BK496:=kQ BK496 hk NB496_0.out;replace HK:=kT2 HK hk;replace HB:=amk (hb);replace HI0:=amk (hi);(try clear hb);(try clear hk);(try clear hi);refine hK.out _ _ hC_ (fun hHeld=>?_);clear hK K;refine nN_ (some 20) ?_;refine two_ (i:=7) (j:=12) (Ni:=some 22) (Nj:=some 7) (bA 15 255) (bA 15 4223) rfl rfl rfl rfl (two_of HT_.out (by kernel_rfl)) (by decide) (by decide) (fun K hK=>?_) (fun K hK=>?_)
      · skip
        refine gs_ Try.func39 #[.pointer (some ⟨g,0,none⟩), .int .i64 10000] ?_;(with_reducible refine (spec_l1Cur_pick.calls g s0_0 t498 t499 10000 t500 t501 t502 w0 _ ?_ ?_ A5.out).mono ?_);exact bI;exact bBI;rintro e w16 ⟨rfl,hi,hb,hk⟩;refine ⟨_,rfl,?_⟩;replace BK490:=kQ BK490 hk NB490_0.out;replace BK496:=kQ BK496 hk NB496_0.out;replace HK:=kT2 HK hk;replace HB:=amk (hb);replace HI0:=amk (hi);(try clear hb);(try clear hk);(try clear hi);refine hK.out _ _ hC_ (fun hHeld=>?_);clear hK K;refine nN_ (some 22) ?_;refine two_ (i:=8) (j:=12) (Ni:=some 23) (Nj:=some 7) (bA 15 511) (bA 15 4351) rfl rfl rfl rfl (two_of HT_.out (by kernel_rfl)) (by decide) (by decide) (fun K hK=>?_) (fun K hK=>?_)
        · skip
          refine gs_ Try.func7 #[.agg #[.int .i64 t491, .int .i64 t492], .string t493, .int .i64 t497, .int .i64 t500] ?_;(with_reducible refine (spec_MakePuzzle.calls k t491 t492 t493 t497 t500 t503 t504 t505 t508 _ A6.out).mono ?_);rintro e w17 ⟨v506,rfl,ho0,hb⟩;refine ⟨_,rfl,?_⟩;have HO507:=amk (Kd.R_lower ho0 (keep_size (w:=w) (g:=g) (row:=none) bK));replace BK490:=kb2 BK490 hb;replace BK496:=kb2 BK496 hb;replace HK:=kT HK hb;replace HB:=hBI HB hb;replace HI0:=amk (IsS71.below bI hb);(try clear hb);(try clear ho0);refine hK.out _ _ hC_ (fun hHeld=>?_);clear hK K;refine nN_ (some 23) ?_;refine pU_ HT_ 9 (some 14) (bA 15 1023) ?_;refine pU_ HT_ 10 (some 24) (bA 15 2047) ?_;refine pU_ HT_ 11 (some 25) (bA 15 4095) ?_;refine oN_ HT_ 12 (some 7) (bA 15 8191) (fun K hK=>?_);refine box_step ?hg (N:=7) ?hd (cs:= #[.int .i64 0, .int .i64 0, .slice none 0 0]) (t:=30) ?hr ?_;(case hd=>rfl);(case hg=>rfl);(case hr=>first | (go_simp;done) | (go_simp;rfl));intro gb509 hg w18 hbox hb;replace HO507:=amk (Kd.R_below (oX HO507) hb);replace HB:=hBI HB hb;have BK509:=amk (hbox);have GW509:=kS HK hg;have GE509:=kE HW0 GW509;replace HK:=kT HK hb;have NB490_509:=neL BK490 hg;have NB509_490:=neR BK490 hg;replace BK490:=kb2 BK490 hb;have NB496_509:=neL BK496 hg;have NB509_496:=neR BK496 hg;replace BK496:=kb2 BK496 hb;have NB0_509:=iL s0_0 t501 t502 hg;have NB509_0:=iR s0_0 t501 t502 hg;replace HI0:=amk (IsS71.below bI hb);clear hb hbox hg;refine hK.out _ _ hC_ (fun hHeld=>?_);clear hK K;refine nN_ (some 7) ?_;exact norm_ (by simp only [putAll,Act.put,List.setIfInBounds_toArray,List.set_cons_zero,List.set_cons_succ]) (hCont (v506,gb509) _ ⟨hHeld,(oX HO507),(kB BK490),(kB BK496),(kB BK509),GW509.out,GE509.out,NB0_509.out,NB509_0.out,NB490_509.out,NB509_490.out,NB496_509.out,NB509_496.out,bI,bK,bBI⟩)
        · skip
          refine box_step ?hg (N:=7) ?hd (cs:= #[.int .i64 0, .int .i64 0, .slice none 0 0]) (t:=30) ?hr ?_;(case hd=>rfl);(case hg=>rfl);(case hr=>first | (go_simp;done) | (go_simp;rfl));intro gb509 hg w17 hbox hb;replace HB:=hBI HB hb;have BK509:=amk (hbox);have GW509:=kS HK hg;have GE509:=kE HW0 GW509;replace HK:=kT HK hb;have NB490_509:=neL BK490 hg;have NB509_490:=neR BK490 hg;replace BK490:=kb2 BK490 hb;have NB496_509:=neL BK496 hg;have NB509_496:=neR BK496 hg;replace BK496:=kb2 BK496 hb;have NB0_509:=iL s0_0 t501 t502 hg;have NB509_0:=iR s0_0 t501 t502 hg;replace HI0:=amk (IsS71.below bI hb);clear hb hbox hg;refine hK.out _ _ hC_ (fun hHeld=>?_);clear hK K;refine nN_ (some 7) ?_;refine oN_ HT_ 8 (some 23) (bA 15 4607) (fun K hK=>?_);refine gs_ Try.func7 #[.agg #[.int .i64 t491, .int .i64 t492], .string t493, .int .i64 t497, .int .i64 t500] ?_;(with_reducible refine (spec_MakePuzzle.calls k t491 t492 t493 t497 t500 t503 t504 t505 t508 _ A6.out).mono ?_);rintro e w18 ⟨v506,rfl,ho0,hb⟩;refine ⟨_,rfl,?_⟩;have HO507:=amk (Kd.R_lower ho0 (keep_size (w:=w) (g:=g) (row:=none) bK));replace BK490:=kb2 BK490 hb;replace BK496:=kb2 BK496 hb;replace BK509:=kb2 BK509 hb;replace HK:=kT HK hb;replace HB:=hBI HB hb;replace HI0:=amk (IsS71.below bI hb);(try clear hb);(try clear ho0);refine hK.out _ _ hC_ (fun hHeld=>?_);clear hK K;refine nN_ (some 23) ?_;refine pU_ HT_ 9 (some 14) (bA 15 5119) ?_;refine pU_ HT_ 10 (some 24) (bA 15 6143) ?_;refine pU_ HT_ 11 (some 25) (bA 15 8191) ?_;exact norm_ (by simp only [putAll,Act.put,List.setIfInBounds_toArray,List.set_cons_zero,List.set_cons_succ]) (hCont (v506,gb509) _ ⟨hHeld,(oX HO507),(kB BK490),(kB BK496),(kB BK509),GW509.out,GE509.out,NB0_509.out,NB509_0.out,NB490_509.out,NB509_490.out,NB496_509.out,NB509_496.out,bI,bK,bBI⟩)
      · skip
        refine box_step ?hg (N:=7) ?hd (cs:= #[.int .i64 0, .int .i64 0, .slice none 0 0]) (t:=30) ?hr ?_;(case hd=>rfl);(case hg=>rfl);(case hr=>first | (go_simp;done) | (go_simp;rfl));intro gb509 hg w16 hbox hb;replace HB:=hBI HB hb;have BK509:=amk (hbox);have GW509:=kS HK hg;have GE509:=kE HW0 GW509;replace HK:=kT HK hb;have NB490_509:=neL BK490 hg;have NB509_490:=neR BK490 hg;replace BK490:=kb2 BK490 hb;have NB496_509:=neL BK496 hg;have NB509_496:=neR BK496 hg;replace BK496:=kb2 BK496 hb;have NB0_509:=iL s0_0 t498 t499 hg;have NB509_0:=iR s0_0 t498 t499 hg;replace HI0:=amk (IsS71.below bI hb);clear hb hbox hg;refine hK.out _ _ hC_ (fun hHeld=>?_);clear hK K;refine nN_ (some 7) ?_;refine oN_ HT_ 7 (some 22) (bA 15 4351) (fun K hK=>?_);refine gs_ Try.func39 #[.pointer (some ⟨g,0,none⟩), .int .i64 10000] ?_;(with_reducible refine (spec_l1Cur_pick.calls g s0_0 t498 t499 10000 t500 t501 t502 w0 _ ?_ ?_ A5.out).mono ?_);exact bI;exact bBI;rintro e w17 ⟨rfl,hi,hb,hk⟩;refine ⟨_,rfl,?_⟩;replace BK490:=kQ BK490 hk NB490_0.out;replace BK496:=kQ BK496 hk NB496_0.out;replace BK509:=kQ BK509 hk NB509_0.out;replace HK:=kT2 HK hk;replace HB:=amk (hb);replace HI0:=amk (hi);(try clear hb);(try clear hk);(try clear hi);refine hK.out _ _ hC_ (fun hHeld=>?_);clear hK K;refine nN_ (some 22) ?_;refine oN_ HT_ 8 (some 23) (bA 15 4607) (fun K hK=>?_);refine gs_ Try.func7 #[.agg #[.int .i64 t491, .int .i64 t492], .string t493, .int .i64 t497, .int .i64 t500] ?_;(with_reducible refine (spec_MakePuzzle.calls k t491 t492 t493 t497 t500 t503 t504 t505 t508 _ A6.out).mono ?_);rintro e w18 ⟨v506,rfl,ho0,hb⟩;refine ⟨_,rfl,?_⟩;have HO507:=amk (Kd.R_lower ho0 (keep_size (w:=w) (g:=g) (row:=none) bK));replace BK490:=kb2 BK490 hb;replace BK496:=kb2 BK496 hb;replace BK509:=kb2 BK509 hb;replace HK:=kT HK hb;replace HB:=hBI HB hb;replace HI0:=amk (IsS71.below bI hb);(try clear hb);(try clear hk);(try clear hi);(try clear ho0);refine hK.out _ _ hC_ (fun hHeld=>?_);clear hK K;refine nN_ (some 23) ?_;refine pU_ HT_ 9 (some 14) (bA 15 5119) ?_;refine pU_ HT_ 10 (some 24) (bA 15 6143) ?_;refine pU_ HT_ 11 (some 25) (bA 15 8191) ?_;exact norm_ (by simp only [putAll,Act.put,List.setIfInBounds_toArray,List.set_cons_zero,List.set_cons_succ]) (hCont (v506,gb509) _ ⟨hHeld,(oX HO507),(kB BK490),(kB BK496),(kB BK509),GW509.out,GE509.out,NB0_509.out,NB509_0.out,NB490_509.out,NB509_490.out,NB496_509.out,NB509_496.out,bI,bK,bBI⟩)
    · skip
      refine box_step ?hg (N:=7) ?hd (cs:= #[.int .i64 0, .int .i64 0, .slice none 0 0]) (t:=30) ?hr ?_;(case hd=>rfl);(case hg=>rfl);(case hr=>first | (go_simp;done) | (go_simp;rfl));intro gb509 hg w15 hbox hb;replace HB:=hBI HB hb;have BK509:=amk (hbox);have GW509:=kS HK hg;have GE509:=kE HW0 GW509;replace HK:=kT HK hb;have NB490_509:=neL BK490 hg;have NB509_490:=neR BK490 hg;replace BK490:=kb2 BK490 hb;have NB496_509:=neL BK496 hg;have NB509_496:=neR BK496 hg;replace BK496:=kb2 BK496 hb;have NB0_509:=iL s0_0 t494 t495 hg;have NB509_0:=iR s0_0 t494 t495 hg;replace HI0:=amk (IsS71.below bI hb);clear hb hbox hg;refine hK.out _ _ hC_ (fun hHeld=>?_);clear hK K;refine nN_ (some 7) ?_;refine oN_ HT_ 5 (some 20) (bA 15 4223) (fun K hK=>?_);refine gs_ Try.func39 #[.pointer (some ⟨g,0,none⟩), .int .i64 (wrap64 (a1 + 1))] ?_;(with_reducible refine (spec_l1Cur_pick.calls g s0_0 t494 t495 (wrap64 (a1 + 1)) t497 t498 t499 w0 _ ?_ ?_ A4.out).mono ?_);exact bI;exact bBI;rintro e w16 ⟨rfl,hi,hb,hk⟩;refine ⟨_,rfl,?_⟩;replace BK490:=kQ BK490 hk NB490_0.out;replace BK496:=kQ BK496 hk NB496_0.out;replace BK509:=kQ BK509 hk NB509_0.out;replace HK:=kT2 HK hk;replace HB:=amk (hb);replace HI0:=amk (hi);(try clear hb);(try clear hk);(try clear hi);refine hK.out _ _ hC_ (fun hHeld=>?_);clear hK K;refine nN_ (some 20) ?_;refine oN_ HT_ 7 (some 22) (bA 15 4351) (fun K hK=>?_);refine gs_ Try.func39 #[.pointer (some ⟨g,0,none⟩), .int .i64 10000] ?_;(with_reducible refine (spec_l1Cur_pick.calls g s0_0 t498 t499 10000 t500 t501 t502 w0 _ ?_ ?_ A5.out).mono ?_);exact bI;exact bBI;rintro e w17 ⟨rfl,hi,hb,hk⟩;refine ⟨_,rfl,?_⟩;replace BK490:=kQ BK490 hk NB490_0.out;replace BK496:=kQ BK496 hk NB496_0.out;replace BK509:=kQ BK509 hk NB509_0.out;replace HK:=kT2 HK hk;replace HB:=amk (hb);replace HI0:=amk (hi);(try clear hb);(try clear hk);(try clear hi);refine hK.out _ _ hC_ (fun hHeld=>?_);clear hK K;refine nN_ (some 22) ?_;refine oN_ HT_ 8 (some 23) (bA 15 4607) (fun K hK=>?_);refine gs_ Try.func7 #[.agg #[.int .i64 t491, .int .i64 t492], .string t493, .int .i64 t497, .int .i64 t500] ?_;(with_reducible refine (spec_MakePuzzle.calls k t491 t492 t493 t497 t500 t503 t504 t505 t508 _ A6.out).mono ?_);rintro e w18 ⟨v506,rfl,ho0,hb⟩;refine ⟨_,rfl,?_⟩;have HO507:=amk (Kd.R_lower ho0 (keep_size (w:=w) (g:=g) (row:=none) bK));replace BK490:=kb2 BK490 hb;replace BK496:=kb2 BK496 hb;replace BK509:=kb2 BK509 hb;replace HK:=kT HK hb;replace HB:=hBI HB hb;replace HI0:=amk (IsS71.below bI hb);(try clear hb);(try clear hk);(try clear hi);(try clear ho0);refine hK.out _ _ hC_ (fun hHeld=>?_);clear hK K;refine nN_ (some 23) ?_;refine pU_ HT_ 9 (some 14) (bA 15 5119) ?_;refine pU_ HT_ 10 (some 24) (bA 15 6143) ?_;refine pU_ HT_ 11 (some 25) (bA 15 8191) ?_;exact norm_ (by simp only [putAll,Act.put,List.setIfInBounds_toArray,List.set_cons_zero,List.set_cons_succ]) (hCont (v506,gb509) _ ⟨hHeld,(oX HO507),(kB BK490),(kB BK496),(kB BK509),GW509.out,GE509.out,NB0_509.out,NB509_0.out,NB490_509.out,NB509_490.out,NB496_509.out,NB509_496.out,bI,bK,bBI⟩)
  rintro ⟨v506,gb509⟩ w19 ⟨hS_,h0_,h1_,h2_,h3_,h4_,h5_,h6_,h7_,h8_,h9_,h10_,h11_,h12_,h13_,h14_⟩;have HO507:=amk h0_;replace BK490:=amk h1_;replace BK496:=amk h2_;have BK509:=amk h3_;have GW509:=amk h4_;have GE509:=amk h5_;have NB0_509:=amk h6_;have NB509_0:=amk h7_;have NB490_509:=amk h8_;have NB509_490:=amk h9_;have NB496_509:=amk h10_;have NB509_496:=amk h11_;replace HI0:=amk h12_;replace HK:=amk h13_;replace HB:=amk h14_;clear h0_ h1_ h2_ h3_ h4_ h5_ h6_ h7_ h8_ h9_ h10_ h11_ h12_ h13_ h14_;have hHeld:=hS_;obtain ⟨Ao22,co22,eo22⟩:=Kd.R_slice HO507.out;(first | subst eo22 | (injection eo22 with f1_ f2_ f3_;have f4_:=f1_.symm;have f5_:=f3_.symm;clear f1_ f2_ f3_;subst f4_;subst f5_));refine norm_ (a':=?_) ?_ ?_;rotate_left
  · simp only [putAll,Act.put,List.setIfInBounds_toArray,List.set_cons_zero,List.set_cons_succ]
    rfl
  refine oN_ HT_ 13 none (bA 15 16383) (fun K hK=>?_);have hs20:w19.cell? ⟨gb509,0,none⟩=some (.int .i64 0):=(blk_cell BK509.out 0).trans rfl;have hfs20:=blk_frozen BK509.out 0;have hns20_0:=NB490_509.out;have hns20_1:=NB496_509.out;have hms20_0:=NB509_490.out;have hms20_1:=NB509_496.out;have hs21:w19.cell? ⟨gb509,1,none⟩=some (.int .i64 0):=(blk_cell BK509.out 1).trans rfl;have hfs21:=blk_frozen BK509.out 1;have hns21_0:=NB490_509.out;have hns21_1:=NB496_509.out;have hms21_0:=NB509_490.out;have hms21_1:=NB509_496.out;have hs23:w19.cell? ⟨gb509,2,none⟩=some (.slice none 0 0):=(blk_cell BK509.out 2).trans rfl;have hfs23:=blk_frozen BK509.out 2;have hns23_0:=NB490_509.out;have hns23_1:=NB496_509.out;have hms23_0:=NB509_490.out;have hms23_1:=NB509_496.out;refine skip_ (w1:=?_) (by rfl) rfl ?_ ?_;rotate_left
  · go_simp
    rfl
  refine hK.out _ _ ⟨((cell_far (p:=⟨gb509,_,none⟩) NB496_509.out _).trans (((cell_far (p:=⟨gb509,_,none⟩) NB496_509.out _).trans (((cell_far (p:=⟨gb509,_,none⟩) NB496_509.out _).trans (hHeld.1)))))),((cell_far (p:=⟨gb509,_,none⟩) NB496_509.out _).trans (((cell_far (p:=⟨gb509,_,none⟩) NB496_509.out _).trans (((cell_far (p:=⟨gb509,_,none⟩) NB496_509.out _).trans (hHeld.2))))))⟩ (fun hHeld=>?_);clear hK K;refine pU_ HT_ 14 (some 8) (bA 15 32767) ?_;refine done_ (done_of HT_.out (by kernel_rfl)) ?_;have hnb24:=NB509_490.out;have hnc24:=NB490_509.out;have hnb25:=NB509_496.out;have hnc25:=NB496_509.out;have hnb26:=NB509_0.out;have hnc26:=NB0_509.out;obtain ⟨hcz27_0,hcz27_1,hcz27_2,hfz27_0,hfz27_1,hfz27_2⟩:=cells3 BK509.out;have hnb28:=NB490_0.out;have hnc28:=NB0_490.out;obtain ⟨hcz29_0,hcz29_1,hcz29_2,hfz29_0,hfz29_1,hfz29_2⟩:=cells3 BK490.out;(try go_wp2);refine bodyPost_ret (results_cell_row rfl _ _ gb490 30 #[.int .i64 t503, .int .i64 t504, .slice Ao22 t505.length co22] (0,0) _ rfl (by (with_reducible repeat (first | refine kn_ ?_ _ | refine blk_drew ?_ | refine ka_ ?_ _));refine blk_put (cs:= #[.int .i64 t503, .int .i64 t504, .slice none 0 0]) ?_ 2 _ rfl;(with_reducible repeat (first | refine kn_ ?_ _ | refine blk_drew ?_ | refine ka_ ?_ _));refine blk_put (cs:= #[.int .i64 t503, .int .i64 0, .slice none 0 0]) ?_ 1 _ rfl;(with_reducible repeat (first | refine kn_ ?_ _ | refine blk_drew ?_ | refine ka_ ?_ _));refine blk_put (cs:= #[.int .i64 0, .int .i64 0, .slice none 0 0]) ?_ 0 _ rfl;(with_reducible repeat (first | refine kn_ ?_ _ | refine blk_drew ?_ | refine ka_ ?_ _));refine blk_far ?_ NB490_509.out _;(with_reducible repeat (first | refine kn_ ?_ _ | refine blk_drew ?_ | refine ka_ ?_ _));refine blk_far ?_ NB490_509.out _;(with_reducible repeat (first | refine kn_ ?_ _ | refine blk_drew ?_ | refine ka_ ?_ _));refine blk_far ?_ NB490_509.out _;(with_reducible repeat (first | refine kn_ ?_ _ | refine blk_drew ?_ | refine ka_ ?_ _));exact BK490.out) Try.underlying30 rfl (by kernel_rfl)) rfl ?_;exact ⟨_,rF_,by (with_reducible repeat (first | apply Kd.R_alloc | apply Kd.R_drewN | apply Kd.R_drew));exact Kd.R_mono (Kd.R_far (p:=⟨gb490,2,none⟩) (Kd.R_far (p:=⟨gb490,1,none⟩) (Kd.R_far (p:=⟨gb490,0,none⟩) (Kd.R_far (p:=⟨gb509,2,none⟩) (Kd.R_far (p:=⟨gb509,1,none⟩) (Kd.R_far (p:=⟨gb509,0,none⟩) (Kd.R_types (Kd.R_types HO507.out BK509.out (by decide)) BK490.out (by decide)) (fun _ hk=>hk.1.2) (.int .i64 t503)) (fun _ hk=>hk.1.2) (.int .i64 t504)) (fun _ hk=>hk.1.2) (.slice Ao22 t505.length co22)) (fun _ hk=>hk.2) (.int .i64 t503)) (fun _ hk=>hk.2) (.int .i64 t504)) (fun _ hk=>hk.2) (.slice Ao22 t505.length co22)) (fun _ hk=>trivial),bI,bBI,bK⟩
/-! ### spec_l1Cur_puzzle: function 62 -/
def spec_l1Cur_puzzle.l0:Nat→List Int→Int→Int→Int→Int→List (S44)→Option (Int×Int×(List (S44))×Int×Int)
  | 0,_,_,_,_,_,_=>none
  | k + 1,x1000,x1001,x1002,x519000,x519001,x519002=>(spec_l1Cur_pick.f x1000 x1001 x1002 2).bind fun bt534=>(if (x519002.length:Int) < (wrap64 (6 + bt534.1)) then (if x519002.length < 5864062014805 then (spec_l1Cur_puzzle.l0 k x1000 bt534.2.1 bt534.2.2 x519000 x519001 (x519002 ++ [(⟨4,2,0⟩:S44)])) else (none)) else (some (x519000,x519001,x519002,bt534.2.1,bt534.2.2)))
def spec_l1Cur_puzzle.f (k:Nat) (s0_0:List Int) (s0_1:Int) (s0_2:Int):Option (Int×Int×(List (S44))×Int×Int):=(spec_l1Cur_surePuzzle.f k s0_0 s0_1 s0_2 5).bind fun bt511=>((spec_l1Cur_pick.f s0_0 bt511.2.2.2.1 bt511.2.2.2.2 12).bind fun bt519=>(if bt519.1=0 then ((spec_l1Cur_lock.f s0_0 bt519.2.1 bt519.2.2).bind fun bt522=>(some (bt522.1,bt522.2.1,bt511.2.2.1,bt522.2.2.1,bt522.2.2.2))) else (if bt519.1=1 then ((spec_l1Cur_clue.f k s0_0 bt519.2.1 bt519.2.2).bind fun bt526=>(if bt511.2.2.1.length < 5864062014805 then (some (bt511.1,bt511.2.1,(bt511.2.2.1 ++ [(⟨bt526.1,bt526.2.1,bt526.2.2.1⟩:S44)]),bt526.2.2.2.1,bt526.2.2.2.2)) else (none))) else (if bt519.1=2 then (spec_l1Cur_puzzle.l0 k s0_0 bt519.2.1 bt519.2.2 bt511.1 bt511.2.1 bt511.2.2.1) else (some (bt511.1,bt511.2.1,bt511.2.2.1,bt519.2.1,bt519.2.2))))))
def spec_l1Cur_puzzle.T6:Bool×List (List Nat×List Nat):=(true,[([],[]),([0],[0]),([],[]),([2],[2]),([3],[3]),([1,4,3],[1,4]),([0,1,2,3,4,5],[]),([6,5,5,0,1,2,3,4,5],[5,6])])
def spec_l1Cur_puzzle.B6:List Nat:=[0,1,0,4,12,31,63,127]
theorem spec_l1Cur_puzzle.tab6:rtab .any (opsOf Try.f62 6)=spec_l1Cur_puzzle.T6:=by kernel_rfl
theorem spec_l1Cur_puzzle.bits6:waitsOk spec_l1Cur_puzzle.T6.2 spec_l1Cur_puzzle.B6=true:=by kernel_rfl
set_option maxHeartbeats 8000000 in
set_option maxRecDepth 100000 in
theorem spec_l1Cur_puzzle.calls (k:Nat) (g:Nat) (s0_0:List Int) (s0_1:Int) (s0_2:Int) (r1:Int) (r2:Int) (r3:List (S44)) (r4:Int) (r5:Int) (w0 w:World) (hI:IsS71 w0 w g s0_0 s0_1 s0_2) (hB:Below w0.heap.size w0 w) (h:spec_l1Cur_puzzle.f k s0_0 s0_1 s0_2=some (r1,r2,r3,r4,r5)) :
    Calls Try.prog 62 #[.pointer (some ⟨g,0,none⟩)] w fun e w'=> ∃ v2_:Value,e = .returned (.agg #[.int .i64 r1, .int .i64 r2,v2_])∧Kd.R k44 44 w' w.heap.size (fun _=>True) v2_ r3∧IsS71 w0 w' g s0_0 r4 r5∧Below w0.heap.size w0 w'∧KeepBut w w' g none:=by
  have hu30:=Try.underlying30;have hu25:=Try.underlying25;have hu44:=Try.underlying44;have HI0:=amk hI;have HK:=amk (KeepBut.refl w g none);have HL:=amk hB.size;clear hI;have HW0:=amk hB.size;have HB:=amk hB;clear hB;unfold spec_l1Cur_puzzle.f at h;have H:=h;clear h;replace H:=bE H;obtain ⟨⟨t511,t512,t513,t516,t517⟩,A2,H⟩:=H;(try dsimp only at H);replace H:=bE H;obtain ⟨⟨t519,t520,t521⟩,A3,H⟩:=H;(try dsimp only at H)
  by_cases c4:t519=0
  · rw [if_pos c4] at H;have c4b0:(t519 == 0)=true:=beq_iff_eq.mpr c4;have c4b1:(t519 != 0)=false:=bne_eq_false_iff_eq.mpr c4;clear c4;replace H:=bE H;obtain ⟨⟨t522,t523,t524,t525⟩,A5,H⟩:=H;(try dsimp only at H);simp only [Option.some.injEq,Prod.mk.injEq] at H;obtain ⟨rfl,rfl,rfl,rfl,rfl⟩:=H;go_enter Try.func62,Try.ntmps62;go_wp2_with (first | ((with_reducible refine gate_dst (N:=2) rfl ?_);refine boxG_ 2 #[.int .i64 0, .int .i64 0, .slice none 0 0] 30 ?_;intro gb510 w6 hg BK510 hb;replace HB:=hBI HB hb;have GW510:=kS HK hg;have GE510:=kE HW0 GW510;replace HK:=kT HK hb;have NB0_510:=iL s0_0 s0_1 s0_2 hg;have NB510_0:=iR s0_0 s0_1 s0_2 hg;replace HI0:=amk (IsS71.below bI hb);clear hb hg) | (refine gc_ 88 5 Try.func88 #[.pointer (some ⟨g,0,none⟩), .int .i64 5] ?_;(with_reducible refine (spec_l1Cur_surePuzzle.calls k g s0_0 s0_1 s0_2 5 t511 t512 t513 t516 t517 w0 _ ?_ ?_ A2.out).mono ?_);exact bI;exact bBI;rintro e w7 ⟨v514,rfl,ho0,hi,hb,hk⟩;refine ⟨_,rfl,?_⟩;replace BK510:=kQ BK510 hk NB510_0.out;have HO515:=amk (Kd.R_lower ho0 (keep_size (w:=w) (g:=g) (row:=none) bK));replace HK:=kT2 HK hk;replace HB:=amk (hb);replace HI0:=amk (hi);(try clear hb);(try clear hk);(try clear hi);(try clear ho0)) | ((with_reducible refine gate_dst (N:=3) rfl ?_);refine boxG_ 3 #[.int .i64 0, .int .i64 0, .slice none 0 0] 30 ?_;intro gb518 w8 hg BK518 hb;replace HO515:=amk (Kd.R_below (oX HO515) hb);replace HB:=hBI HB hb;have GW518:=kS HK hg;have GE518:=kE HW0 GW518;replace HK:=kT HK hb;have NB510_518:=neL BK510 hg;have NB518_510:=neR BK510 hg;replace BK510:=kb2 BK510 hb;have NB0_518:=iL s0_0 t516 t517 hg;have NB518_0:=iR s0_0 t516 t517 hg;replace HI0:=amk (IsS71.below bI hb);clear hb hg;have hnb9:=NB518_510.out;have hnc9:=NB510_518.out;have hnb10:=NB518_0.out;have hnc10:=NB0_518.out;obtain ⟨hcz11_0,hcz11_1,hcz11_2,hfz11_0,hfz11_1,hfz11_2⟩:=cells3 BK518.out;obtain ⟨Ao12,co12,eo12⟩:=Kd.R_slice HO515.out;subst eo12) | (refine gc_ 39 7 Try.func39 #[.pointer (some ⟨g,0,none⟩), .int .i64 12] ?_;(with_reducible refine (spec_l1Cur_pick.calls g s0_0 t516 t517 12 t519 t520 t521 w0 _ ?_ ?_ A3.out).mono ?_);exact bI;exact bBI;rintro e w13 ⟨rfl,hi,hb,hk⟩;refine ⟨_,rfl,?_⟩;replace BK510:=kQ BK510 hk NB510_0.out;replace HO515:=amk (Kd.R_mono (Kd.R_keep (IsS71.apart (show IsS71 w0 _ g s0_0 t516 t517 from bI) (by (with_reducible repeat (first | apply Kd.R_alloc | apply Kd.R_drewN | apply Kd.R_drew));exact (Kd.R_mono (Kd.R_far (p:=⟨gb518,2,none⟩) (Kd.R_far (p:=⟨gb518,1,none⟩) (Kd.R_far (p:=⟨gb518,0,none⟩) (Kd.R_types HO515.out BK518.out (by decide)) (fun _ hk=>hk.2) (.int .i64 t511)) (fun _ hk=>hk.2) (.int .i64 t512)) (fun _ hk=>hk.2) (.slice Ao12 t513.length co12)) (fun _ h_=>h_.1))) (by decide)) hk (fun _ h=>h.2)) (fun _ h=>h.1));replace BK518:=amk (KeepBut.blk hk (g':=gb518) (o:= .cells #[.int .i64 t511, .int .i64 t512, .slice Ao12 t513.length co12] 30 (0,0)) (kP BK518) NB518_0.out (by simp));replace HK:=kT2 HK hk;replace HB:=amk (hb);replace HI0:=amk (hi);(try clear hb);(try clear hk);(try clear hi)) | (refine gc_ 35 11 Try.func35 #[.pointer (some ⟨g,0,none⟩)] ?_;(with_reducible refine (spec_l1Cur_lock.calls g s0_0 t520 t521 t522 t523 t524 t525 w0 _ ?_ ?_ A5.out).mono ?_);exact bI;exact bBI;rintro e w14 ⟨rfl,hi,hb,hk⟩;refine ⟨_,rfl,?_⟩;replace BK510:=kQ BK510 hk NB510_0.out;replace HO515:=amk (Kd.R_mono (Kd.R_keep (IsS71.apart (show IsS71 w0 _ g s0_0 t520 t521 from bI) (oX HO515) (by decide)) hk (fun _ h=>h.2)) (fun _ h=>h.1));replace BK518:=kQ BK518 hk NB518_0.out;replace HK:=kT2 HK hk;replace HB:=amk (hb);replace HI0:=amk (hi);(try clear hb);(try clear hk);(try clear hi);obtain ⟨hcz15_0,hcz15_1,hcz15_2,hfz15_0,hfz15_1,hfz15_2⟩:=cells3 BK518.out;have hnb16:=NB510_0.out;have hnc16:=NB0_510.out;obtain ⟨hcz17_0,hcz17_1,hcz17_2,hfz17_0,hfz17_1,hfz17_2⟩:=cells3 BK510.out));refine bodyPost_ret (results_cell_row rfl _ _ gb510 30 #[.int .i64 t522, .int .i64 t523, .slice Ao12 t513.length co12] (0,0) _ rfl (by (with_reducible repeat (first | refine kn_ ?_ _ | refine blk_drew ?_ | refine ka_ ?_ _));refine blk_put (cs:= #[.int .i64 t522, .int .i64 t523, .slice none 0 0]) ?_ 2 _ rfl;(with_reducible repeat (first | refine kn_ ?_ _ | refine blk_drew ?_ | refine ka_ ?_ _));refine blk_put (cs:= #[.int .i64 t522, .int .i64 0, .slice none 0 0]) ?_ 1 _ rfl;(with_reducible repeat (first | refine kn_ ?_ _ | refine blk_drew ?_ | refine ka_ ?_ _));refine blk_put (cs:= #[.int .i64 0, .int .i64 0, .slice none 0 0]) ?_ 0 _ rfl;(with_reducible repeat (first | refine kn_ ?_ _ | refine blk_drew ?_ | refine ka_ ?_ _));refine blk_far ?_ NB510_518.out _;(with_reducible repeat (first | refine kn_ ?_ _ | refine blk_drew ?_ | refine ka_ ?_ _));refine blk_far ?_ NB510_518.out _;(with_reducible repeat (first | refine kn_ ?_ _ | refine blk_drew ?_ | refine ka_ ?_ _));exact BK510.out) Try.underlying30 rfl (by kernel_rfl)) rfl ?_;exact ⟨_,rF_,by (with_reducible repeat (first | apply Kd.R_alloc | apply Kd.R_drewN | apply Kd.R_drew));exact Kd.R_mono (Kd.R_far (p:=⟨gb510,2,none⟩) (Kd.R_far (p:=⟨gb510,1,none⟩) (Kd.R_far (p:=⟨gb510,0,none⟩) (Kd.R_far (p:=⟨gb518,1,none⟩) (Kd.R_far (p:=⟨gb518,0,none⟩) (Kd.R_types (Kd.R_types HO515.out BK518.out (by decide)) BK510.out (by decide)) (fun _ hk=>hk.1.2) (.int .i64 t522)) (fun _ hk=>hk.1.2) (.int .i64 t523)) (fun _ hk=>hk.2) (.int .i64 t522)) (fun _ hk=>hk.2) (.int .i64 t523)) (fun _ hk=>hk.2) (.slice Ao12 t513.length co12)) (fun _ hk=>trivial),bI,bBI,bK⟩
  · rw [if_neg c4] at H;have c4b0:(t519 == 0)=false:=beq_eq_false_iff_ne.mpr c4;have c4b1:(t519 != 0)=true:=bne_iff_ne.mpr c4
    by_cases c18:t519=1
    · rw [if_pos c18] at H;have c18b0:(t519 == 1)=true:=beq_iff_eq.mpr c18;have c18b1:(t519 != 1)=false:=bne_eq_false_iff_eq.mpr c18;clear c18;replace H:=bE H;obtain ⟨⟨t526,t527,t528,t529,t530⟩,A19,H⟩:=H;(try dsimp only at H)
      by_cases c20:t513.length < 5864062014805
      · rw [if_pos c20] at H;have LMc20:=amk c20;clear c20;(try rw [Option.bind_some] at H);generalize hy531:((t513 ++ [(⟨t526,t527,t528⟩:S44)]):List (S44))=y531 at H;have Ny531:=amk hy531.symm;clear hy531;simp only [Option.some.injEq,Prod.mk.injEq] at H;obtain ⟨rfl,rfl,rfl,rfl,rfl⟩:=H;go_enter Try.func62,Try.ntmps62;(try go_wp2_with (first | ((with_reducible refine gate_dst (N:=2) rfl ?_);refine boxG_ 2 #[.int .i64 0, .int .i64 0, .slice none 0 0] 30 ?_;intro gb510 w21 hg BK510 hb;replace HB:=hBI HB hb;have GW510:=kS HK hg;have GE510:=kE HW0 GW510;replace HK:=kT HK hb;have NB0_510:=iL s0_0 s0_1 s0_2 hg;have NB510_0:=iR s0_0 s0_1 s0_2 hg;replace HI0:=amk (IsS71.below bI hb);clear hb hg) | (refine gc_ 88 5 Try.func88 #[.pointer (some ⟨g,0,none⟩), .int .i64 5] ?_;(with_reducible refine (spec_l1Cur_surePuzzle.calls k g s0_0 s0_1 s0_2 5 t511 t512 t513 t516 t517 w0 _ ?_ ?_ A2.out).mono ?_);exact bI;exact bBI;rintro e w22 ⟨v514,rfl,ho0,hi,hb,hk⟩;refine ⟨_,rfl,?_⟩;replace BK510:=kQ BK510 hk NB510_0.out;have HO515:=amk (Kd.R_lower ho0 (keep_size (w:=w) (g:=g) (row:=none) bK));replace HK:=kT2 HK hk;replace HB:=amk (hb);replace HI0:=amk (hi);(try clear hb);(try clear hk);(try clear hi);(try clear ho0)) | ((with_reducible refine gate_dst (N:=3) rfl ?_);refine boxG_ 3 #[.int .i64 0, .int .i64 0, .slice none 0 0] 30 ?_;intro gb518 w23 hg BK518 hb;replace HO515:=amk (Kd.R_below (oX HO515) hb);replace HB:=hBI HB hb;have GW518:=kS HK hg;have GE518:=kE HW0 GW518;replace HK:=kT HK hb;have NB510_518:=neL BK510 hg;have NB518_510:=neR BK510 hg;replace BK510:=kb2 BK510 hb;have NB0_518:=iL s0_0 t516 t517 hg;have NB518_0:=iR s0_0 t516 t517 hg;replace HI0:=amk (IsS71.below bI hb);clear hb hg;have hnb24:=NB518_510.out;have hnc24:=NB510_518.out;have hnb25:=NB518_0.out;have hnc25:=NB0_518.out;obtain ⟨hcz26_0,hcz26_1,hcz26_2,hfz26_0,hfz26_1,hfz26_2⟩:=cells3 BK518.out;obtain ⟨Ao27,co27,eo27⟩:=Kd.R_slice HO515.out;subst eo27) | (refine gc_ 39 7 Try.func39 #[.pointer (some ⟨g,0,none⟩), .int .i64 12] ?_;(with_reducible refine (spec_l1Cur_pick.calls g s0_0 t516 t517 12 t519 t520 t521 w0 _ ?_ ?_ A3.out).mono ?_);exact bI;exact bBI;rintro e w28 ⟨rfl,hi,hb,hk⟩;refine ⟨_,rfl,?_⟩;replace BK510:=kQ BK510 hk NB510_0.out;replace HO515:=amk (Kd.R_mono (Kd.R_keep (IsS71.apart (show IsS71 w0 _ g s0_0 t516 t517 from bI) (by (with_reducible repeat (first | apply Kd.R_alloc | apply Kd.R_drewN | apply Kd.R_drew));exact (Kd.R_mono (Kd.R_far (p:=⟨gb518,2,none⟩) (Kd.R_far (p:=⟨gb518,1,none⟩) (Kd.R_far (p:=⟨gb518,0,none⟩) (Kd.R_types HO515.out BK518.out (by decide)) (fun _ hk=>hk.2) (.int .i64 t511)) (fun _ hk=>hk.2) (.int .i64 t512)) (fun _ hk=>hk.2) (.slice Ao27 t513.length co27)) (fun _ h_=>h_.1))) (by decide)) hk (fun _ h=>h.2)) (fun _ h=>h.1));replace BK518:=amk (KeepBut.blk hk (g':=gb518) (o:= .cells #[.int .i64 t511, .int .i64 t512, .slice Ao27 t513.length co27] 30 (0,0)) (kP BK518) NB518_0.out (by simp));replace HK:=kT2 HK hk;replace HB:=amk (hb);replace HI0:=amk (hi);(try clear hb);(try clear hk);(try clear hi))));replace HO515:=amk (Kd.R_drew HO515.out);replace BK510:=amk (blk_drew BK510.out);replace BK518:=amk (blk_drew BK518.out);replace HI0:=amk (IsS71.drew HI0.out);replace HK:=amk (keep_drew HK.out);replace HB:=amk (bd_ HB.out);refine start_ (n:=8) (S:=fun w'=>w'.cell? ⟨gb518,0,none⟩=some (.int .i64 t511)∧w'.cell? ⟨gb518,1,none⟩=some (.int .i64 t512)∧w'.cell? ⟨gb518,2,none⟩=some (.slice Ao27 t513.length co27)) (ds:=[7]) (bA 8 0) (by kernel_rfl) rfl rfl ⟨(blk_cell BK518.out 0).trans rfl,(blk_cell BK518.out 1).trans rfl,(blk_cell BK518.out 2).trans rfl⟩ (fun hHeld=>?_);refine with_tabW spec_l1Cur_puzzle.tab6 spec_l1Cur_puzzle.bits6 (fun HT_ HW_=>?_);generalize w28.drew=w29 at HO515 BK510 BK518 HI0 HK HB hHeld ⊢;refine pU_ HT_ 0 (some 15) (bA 8 1) ?_;refine pU_ HT_ 2 (some 17) (bA 8 5) ?_;refine tK_ HT_ HW_ hHeld 1 (some 16) (bA 8 7) ?_;refine oN_ HT_ 3 (some 18) (bA 8 15) (fun K hK=>?_);refine gs_ Try.func68 #[.pointer (some ⟨g,0,none⟩)] ?_;(with_reducible refine (spec_l1Cur_clue.calls k g s0_0 t520 t521 t526 t527 t528 t529 t530 w0 _ ?_ ?_ A19.out).mono ?_);exact bI;exact bBI;rintro e w30 ⟨rfl,hi,hb,hk⟩;refine ⟨_,rfl,?_⟩;replace BK510:=kQ BK510 hk NB510_0.out;replace HO515:=amk (Kd.R_mono (Kd.R_keep (IsS71.apart (show IsS71 w0 _ g s0_0 t520 t521 from bI) (oX HO515) (by decide)) hk (fun _ h=>h.2)) (fun _ h=>h.1));replace BK518:=kQ BK518 hk NB518_0.out;replace HK:=kT2 HK hk;replace HB:=amk (hb);replace HI0:=amk (hi);(try clear hb);(try clear hk);(try clear hi);refine hK.out _ _ hC_ (fun hHeld=>?_);clear hK K;refine nN_ (some 18) ?_;refine oN_ HT_ 4 (some 19) (bA 8 31) (fun K hK=>?_);refine value_ (w1:=?_) (v:=?_) (by rfl) rfl ?_ ?_;rotate_left 2
        · go_simp
          constructor
          · rfl
          · rfl
        refine hK.out _ _ ⟨(blk_cell (ka_ BK518.out _) 0).trans rfl,(blk_cell (ka_ BK518.out _) 1).trans rfl,(blk_cell (ka_ BK518.out _) 2).trans rfl⟩ (fun hHeld=>?_);clear hK K;refine nN_ (some 19) ?_;refine oN_ HT_ 5 (some 20) (bA 8 63) (fun K hK=>?_);refine Kd.R_append_step k44 w.heap.size (by rfl) (.tmp 16) (.tmp 19) 28 44 (.agg #[(.int .i64 0),(.int .i64 0),(.int .i64 0)]) 24 rfl Try.underlying28 info44 rfl (by decide) (by omega) (.slice Ao27 t513.length co27) t513 (⟨t526,t527,t528⟩:S44) [.int .i64 t526, .int .i64 t527, .int .i64 t528] (fun _=>True) (fun _=>False) rfl rfl ?aP (fun _ hk=>hk.elim) ?aF ?aO (Below.refl _ _) ?aS ?aL ?_;(case aP=>exact k44_mkM _ _ _ (⟨t526,t527,t528⟩:S44));(case aF=>exact (fun _ _=>trivial));(case aO=>exact (oX HO515));(case aS=>exact (keep_size (w:=w) (g:=g) (row:=none) bK));(case aL=>have:=LMc20.out;omega);intro v532 w31 ho hb hg hat;rw [←Ny531.out] at ho;replace BK510:=bG BK510 hg (Kd.R_ne HO515.out BK510.out (by decide));replace BK518:=bG BK518 hg (Kd.R_ne HO515.out BK518.out (by decide));replace HB:=amk (below_weaken bBI HL.out hb);replace HI0:=amk (IsS71.grown bI hg (IsS71.own_ne HI0.out HO515.out (by decide)));replace HK:=amk (KeepBut.trans bK (KeepBut.of_grown hg g) (Kd.R_base2 HO515.out));have HO533:=amk (ho);clear HO515;clear ho hb hg hat;obtain ⟨Ao32,co32,eo32⟩:=Kd.R_slice HO533.out;(first | subst eo32 | (injection eo32 with f1_ f2_ f3_;have f4_:=f1_.symm;have f5_:=f3_.symm;clear f1_ f2_ f3_;subst f4_;subst f5_));refine hK.out _ _ hC_ (fun hHeld=>?_);clear hK K;refine nN_ (some 20) ?_;refine pU_ HT_ 6 (some 21) (bA 8 127) ?_;refine last_ (i:=7) (N:=none) (bA 8 255) rfl rfl (one_of HT_.out (by kernel_rfl)) (by decide) (fun K hK=>?_);have hs33:w31.cell? ⟨gb518,2,none⟩=some (.slice Ao27 t513.length co27):=(blk_cell BK518.out 2).trans rfl;have hfs33:=blk_frozen BK518.out 2;have hns33_0:=NB510_518.out;have hms33_0:=NB518_510.out;refine skip_ (w1:=?_) (by rfl) rfl ?_ ?_;rotate_left
        · go_simp
          rfl
        refine hK.out _ _ ?_;clear hK K;refine done_ (done_of HT_.out (by kernel_rfl)) ?_;obtain ⟨hcz34_0,hcz34_1,hcz34_2,hfz34_0,hfz34_1,hfz34_2⟩:=cells3 BK518.out;have hnb35:=NB510_0.out;have hnc35:=NB0_510.out;obtain ⟨hcz36_0,hcz36_1,hcz36_2,hfz36_0,hfz36_1,hfz36_2⟩:=cells3 BK510.out;(try go_wp2);refine bodyPost_ret (results_cell_row rfl _ _ gb510 30 #[.int .i64 t511, .int .i64 t512, .slice Ao32 y531.length co32] (0,0) _ rfl (by (with_reducible repeat (first | refine kn_ ?_ _ | refine blk_drew ?_ | refine ka_ ?_ _));refine blk_put (cs:= #[.int .i64 t511, .int .i64 t512, .slice none 0 0]) ?_ 2 _ rfl;(with_reducible repeat (first | refine kn_ ?_ _ | refine blk_drew ?_ | refine ka_ ?_ _));refine blk_put (cs:= #[.int .i64 t511, .int .i64 0, .slice none 0 0]) ?_ 1 _ rfl;(with_reducible repeat (first | refine kn_ ?_ _ | refine blk_drew ?_ | refine ka_ ?_ _));refine blk_put (cs:= #[.int .i64 0, .int .i64 0, .slice none 0 0]) ?_ 0 _ rfl;(with_reducible repeat (first | refine kn_ ?_ _ | refine blk_drew ?_ | refine ka_ ?_ _));refine blk_far ?_ NB510_518.out _;(with_reducible repeat (first | refine kn_ ?_ _ | refine blk_drew ?_ | refine ka_ ?_ _));exact BK510.out) Try.underlying30 rfl (by kernel_rfl)) rfl ?_;exact ⟨_,rF_,by (with_reducible repeat (first | apply Kd.R_alloc | apply Kd.R_drewN | apply Kd.R_drew));exact Kd.R_mono (Kd.R_far (p:=⟨gb510,2,none⟩) (Kd.R_far (p:=⟨gb510,1,none⟩) (Kd.R_far (p:=⟨gb510,0,none⟩) (Kd.R_far (p:=⟨gb518,2,none⟩) (Kd.R_types (Kd.R_types HO533.out BK518.out (by decide)) BK510.out (by decide)) (fun _ hk=>hk.1.2) (.slice Ao32 y531.length co32)) (fun _ hk=>hk.2) (.int .i64 t511)) (fun _ hk=>hk.2) (.int .i64 t512)) (fun _ hk=>hk.2) (.slice Ao32 y531.length co32)) (fun _ hk=>trivial),bI,bBI,bK⟩
      · rw [if_neg c20] at H;exact absurd H (by simp)
    · rw [if_neg c18] at H;have c18b0:(t519 == 1)=false:=beq_eq_false_iff_ne.mpr c18;have c18b1:(t519 != 1)=true:=bne_iff_ne.mpr c18
      by_cases c37:t519=2
      · rw [if_pos c37] at H;have c37b0:(t519 == 2)=true:=beq_iff_eq.mpr c37;have c37b1:(t519 != 2)=false:=bne_eq_false_iff_eq.mpr c37;clear c37;have H':=amk H;clear H;go_enter Try.func62,Try.ntmps62;go_wp2_with (first | ((with_reducible refine gate_dst (N:=2) rfl ?_);refine boxG_ 2 #[.int .i64 0, .int .i64 0, .slice none 0 0] 30 ?_;intro gb510 w38 hg BK510 hb;replace HB:=hBI HB hb;have GW510:=kS HK hg;have GE510:=kE HW0 GW510;replace HK:=kT HK hb;have NB0_510:=iL s0_0 s0_1 s0_2 hg;have NB510_0:=iR s0_0 s0_1 s0_2 hg;replace HI0:=amk (IsS71.below bI hb);clear hb hg) | (refine gc_ 88 5 Try.func88 #[.pointer (some ⟨g,0,none⟩), .int .i64 5] ?_;(with_reducible refine (spec_l1Cur_surePuzzle.calls k g s0_0 s0_1 s0_2 5 t511 t512 t513 t516 t517 w0 _ ?_ ?_ A2.out).mono ?_);exact bI;exact bBI;rintro e w39 ⟨v514,rfl,ho0,hi,hb,hk⟩;refine ⟨_,rfl,?_⟩;replace BK510:=kQ BK510 hk NB510_0.out;have HO515:=amk (Kd.R_lower ho0 (keep_size (w:=w) (g:=g) (row:=none) bK));replace HK:=kT2 HK hk;replace HB:=amk (hb);replace HI0:=amk (hi);(try clear hb);(try clear hk);(try clear hi);(try clear ho0)) | ((with_reducible refine gate_dst (N:=3) rfl ?_);refine boxG_ 3 #[.int .i64 0, .int .i64 0, .slice none 0 0] 30 ?_;intro gb518 w40 hg BK518 hb;replace HO515:=amk (Kd.R_below (oX HO515) hb);replace HB:=hBI HB hb;have GW518:=kS HK hg;have GE518:=kE HW0 GW518;replace HK:=kT HK hb;have NB510_518:=neL BK510 hg;have NB518_510:=neR BK510 hg;replace BK510:=kb2 BK510 hb;have NB0_518:=iL s0_0 t516 t517 hg;have NB518_0:=iR s0_0 t516 t517 hg;replace HI0:=amk (IsS71.below bI hb);clear hb hg;have hnb41:=NB518_510.out;have hnc41:=NB510_518.out;have hnb42:=NB518_0.out;have hnc42:=NB0_518.out;obtain ⟨hcz43_0,hcz43_1,hcz43_2,hfz43_0,hfz43_1,hfz43_2⟩:=cells3 BK518.out;obtain ⟨Ao44,co44,eo44⟩:=Kd.R_slice HO515.out;subst eo44) | (refine gc_ 39 7 Try.func39 #[.pointer (some ⟨g,0,none⟩), .int .i64 12] ?_;(with_reducible refine (spec_l1Cur_pick.calls g s0_0 t516 t517 12 t519 t520 t521 w0 _ ?_ ?_ A3.out).mono ?_);exact bI;exact bBI;rintro e w45 ⟨rfl,hi,hb,hk⟩;refine ⟨_,rfl,?_⟩;replace BK510:=kQ BK510 hk NB510_0.out;replace HO515:=amk (Kd.R_mono (Kd.R_keep (IsS71.apart (show IsS71 w0 _ g s0_0 t516 t517 from bI) (by (with_reducible repeat (first | apply Kd.R_alloc | apply Kd.R_drewN | apply Kd.R_drew));exact (Kd.R_mono (Kd.R_far (p:=⟨gb518,2,none⟩) (Kd.R_far (p:=⟨gb518,1,none⟩) (Kd.R_far (p:=⟨gb518,0,none⟩) (Kd.R_types HO515.out BK518.out (by decide)) (fun _ hk=>hk.2) (.int .i64 t511)) (fun _ hk=>hk.2) (.int .i64 t512)) (fun _ hk=>hk.2) (.slice Ao44 t513.length co44)) (fun _ h_=>h_.1))) (by decide)) hk (fun _ h=>h.2)) (fun _ h=>h.1));replace BK518:=amk (KeepBut.blk hk (g':=gb518) (o:= .cells #[.int .i64 t511, .int .i64 t512, .slice Ao44 t513.length co44] 30 (0,0)) (kP BK518) NB518_0.out (by simp));replace HK:=kT2 HK hk;replace HB:=amk (hb);replace HI0:=amk (hi);(try clear hb);(try clear hk);(try clear hi)))
        go_loopg [] k (fun kq w'=> ∃ (x1001_1:Int) (x1002_1:Int) (x519002_1:List (S44)) (u519002:Value),Aside0 (spec_l1Cur_puzzle.l0 kq s0_0 x1001_1 x1002_1 t511 t512 x519002_1=some (r1,r2,r3,r4,r5))∧Aside0 (kq≤k)∧Aside0 (Kd.R k44 44 w' w.heap.size (fun _=>True) u519002 x519002_1)∧Aside0 (w'.heap[gb510]?=some (.cells #[.int .i64 0, .int .i64 0,(.slice none 0 0)] 30 (0,0)))∧Aside0 (w'.heap[gb518]?=some (.cells #[.int .i64 t511, .int .i64 t512,u519002] 30 (0,0)))∧Aside0 (IsS71 w0 w' g s0_0 x1001_1 x1002_1)∧Aside0 (KeepBut w w' g none)∧Aside0 (Below w0.heap.size w0 w'))
        case atStart=>exact ⟨(t520),(t521),(t513),(.slice Ao44 t513.length co44),H',⟨Nat.le_refl _⟩,⟨oX HO515⟩,⟨kB BK510⟩,⟨kB BK518⟩,⟨bI⟩,⟨bK⟩,⟨bBI⟩⟩
        case round =>
          clear H';(try clear c1);(try clear c2);(try clear p2);(try clear c3);(try clear c4);(try clear c4b0);(try clear c4b1);(try clear c6);(try clear c8);(try clear c9);(try clear c10);(try clear c16);(try clear c18);(try clear c18b0);(try clear c18b1);(try clear c20);(try clear c24);(try clear c25);(try clear c35);(try clear c37);(try clear c37b0);(try clear c37b1);(try clear c39);(try clear c41);(try clear c42);(try clear hcz11_0);(try clear hcz11_1);(try clear hcz11_2);(try clear hcz15_0);(try clear hcz15_1);(try clear hcz15_2);(try clear hcz17_0);(try clear hcz17_1);(try clear hcz17_2);(try clear hcz26_0);(try clear hcz26_1);(try clear hcz26_2);(try clear hcz34_0);(try clear hcz34_1);(try clear hcz34_2);(try clear hcz36_0);(try clear hcz36_1);(try clear hcz36_2);(try clear hcz43_0);(try clear hcz43_1);(try clear hcz43_2);(try clear hfz11_0);(try clear hfz11_1);(try clear hfz11_2);(try clear hfz15_0);(try clear hfz15_1);(try clear hfz15_2);(try clear hfz17_0);(try clear hfz17_1);(try clear hfz17_2);(try clear hfz26_0);(try clear hfz26_1);(try clear hfz26_2);(try clear hfz34_0);(try clear hfz34_1);(try clear hfz34_2);(try clear hfz36_0);(try clear hfz36_1);(try clear hfz36_2);(try clear hfz43_0);(try clear hfz43_1);(try clear hfz43_2);obtain ⟨x1001_1,x1002_1,x519002_1,u519002,HA,HK1,HO_519002,BK510,BK518,HI0,HK,HB⟩:=hrel
          cases gk with
          | zero=>exact absurd HA.out (by simp [spec_l1Cur_puzzle.l0])
          | succ k1 =>
            have H:=HA.out;clear HA;simp only [spec_l1Cur_puzzle.l0] at H;replace H:=bE H;obtain ⟨⟨t534,t535,t536⟩,A46,H⟩:=H;(try dsimp only at H);replace H:=iteE H;obtain ⟨c47b0,H⟩ | ⟨c47b0,H⟩:=H
            · by_cases c48:x519002_1.length < 5864062014805
              · rw [if_pos c48] at H;have LMc48:=amk c48;clear c48;(try rw [Option.bind_some] at H);generalize hy537:((x519002_1 ++ [(⟨4,2,0⟩:S44)]):List (S44))=y537 at H;have Ny537:=amk hy537.symm;clear hy537;have H':=amk H;clear H;(try go_wp2);replace HO_519002:=amk (Kd.R_drew HO_519002.out);replace BK510:=amk (blk_drew BK510.out);replace BK518:=amk (blk_drew BK518.out);replace HI0:=amk (IsS71.drew HI0.out);replace HK:=amk (keep_drew HK.out);replace HB:=amk (bd_ HB.out);obtain ⟨Ao50,co50,eo50⟩:=Kd.R_slice HO_519002.out;(first | subst eo50 | (injection eo50 with f1_ f2_ f3_;have f4_:=f1_.symm;have f5_:=f3_.symm;clear f1_ f2_ f3_;subst f4_;subst f5_));refine start_ (n:=7) (S:=fun w'=>w'.cell? ⟨gb518,0,none⟩=some (.int .i64 t511)∧w'.cell? ⟨gb518,1,none⟩=some (.int .i64 t512)∧w'.cell? ⟨gb518,2,none⟩=some (.slice Ao50 x519002_1.length co50)) (ds:=[]) (bA 7 0) (by kernel_rfl) rfl rfl ⟨(blk_cell BK518.out 0).trans rfl,(blk_cell BK518.out 1).trans rfl,(blk_cell BK518.out 2).trans rfl⟩ (fun hHeld=>?_);generalize wr.drew=w49 at HO_519002 BK510 BK518 HI0 HK HB hHeld ⊢;refine pure_ (i:=0) (N:=some 24) (v:=?_) (a':=?_) #[true,false,false,false,false,false,false] rfl rfl (by kernel_rfl) (fun _ _ _ h=>h) (Or.inl ⟨by rfl,?_⟩) ?_ ?_;rotate_left
                · intro w'
                  go_simp
                  (with_reducible rfl)
                rotate_left
                · simp only [Act.put,List.setIfInBounds_toArray,List.set_cons_zero,List.set_cons_succ,i64_w,i32_w]
                  rfl
                refine pure_ (i:=3) (N:=some 27) (v:=?_) (a':=?_) #[true,false,false,true,false,false,false] rfl rfl (by kernel_rfl) (fun _ _ _ h=>h) (Or.inl ⟨by rfl,?_⟩) ?_ ?_;rotate_left
                · intro w'
                  go_simp
                  (with_reducible rfl)
                rotate_left
                · simp only [Act.put,List.setIfInBounds_toArray,List.set_cons_zero,List.set_cons_succ,i64_w,i32_w]
                  rfl
                refine take_ (i:=1) (N:=some 25) (v:=?_) (a':=?_) #[true,true,false,true,false,false,false] rfl rfl (by kernel_rfl) (fun _ _ _ h=>h) (Or.inl ⟨by rfl,?_⟩) hHeld ?_ ?_;rotate_left
                · rintro w' ⟨s0,s1,s2⟩
                  go_simp
                  (with_reducible rfl)
                rotate_left
                · simp only [Act.put,List.setIfInBounds_toArray,List.set_cons_zero,List.set_cons_succ,i64_w,i32_w]
                  rfl
                refine pure_ (i:=2) (N:=some 26) (v:=?_) (a':=?_) #[true,true,true,true,false,false,false] rfl rfl (by kernel_rfl) (fun _ _ _ h=>h) (Or.inl ⟨by rfl,?_⟩) ?_ ?_;rotate_left
                · intro w'
                  go_simp
                  (with_reducible rfl)
                rotate_left
                · simp only [Act.put,List.setIfInBounds_toArray,List.set_cons_zero,List.set_cons_succ,i64_w,i32_w]
                  rfl
                refine one_ (i:=4) (N:=some 28) #[true,true,true,true,true,false,false] rfl rfl (by kernel_rfl) (by decide) (fun K hK=>?_);refine gs_ Try.func39 #[.pointer (some ⟨g,0,none⟩), .int .i64 2] ?_;(with_reducible refine (spec_l1Cur_pick.calls g s0_0 x1001_1 x1002_1 2 t534 t535 t536 w0 _ ?_ ?_ A46.out).mono ?_);exact bI;exact bBI;rintro e w51 ⟨rfl,hi,hb,hk⟩;refine ⟨_,rfl,?_⟩;replace HO_519002:=amk (Kd.R_mono (Kd.R_keep (IsS71.apart (show IsS71 w0 _ g s0_0 x1001_1 x1002_1 from bI) (oX HO_519002) (by decide)) hk (fun _ h=>h.2)) (fun _ h=>h.1));replace BK510:=kQ BK510 hk NB510_0.out;replace BK518:=kQ BK518 hk NB518_0.out;replace HK:=kT2 HK hk;replace HB:=amk (hb);replace HI0:=amk (hi);(try clear hb);(try clear hk);(try clear hi);refine hK.out _ _ hC_ (fun hHeld=>?_);clear hK K;refine nN_ (some 28) ?_;refine pure_ (i:=5) (N:=some 29) (v:=?_) (a':=?_) #[true,true,true,true,true,true,false] rfl rfl (by kernel_rfl) (fun _ _ _ h=>h) (Or.inl ⟨by rfl,?_⟩) ?_ ?_;rotate_left
                · intro w'
                  go_simp
                  (with_reducible rfl)
                rotate_left
                · simp only [Act.put,List.setIfInBounds_toArray,List.set_cons_zero,List.set_cons_succ,i64_w,i32_w]
                  rfl
                refine pure_ (i:=6) (N:=some 30) (v:=?_) (a':=?_) #[true,true,true,true,true,true,true] rfl rfl (by kernel_rfl) (fun _ _ _ h=>h) (Or.inl ⟨by rfl,?_⟩) ?_ ?_;rotate_left
                · intro w'
                  go_simp
                  (with_reducible rfl)
                rotate_left
                · simp only [Act.put,List.setIfInBounds_toArray,List.set_cons_zero,List.set_cons_succ,i64_w,i32_w]
                  rfl
                refine done_ (by kernel_rfl) ?_;have hnb52:=NB518_510.out;have hnc52:=NB510_518.out;have hnb53:=NB518_0.out;have hnc53:=NB0_518.out;obtain ⟨hcz54_0,hcz54_1,hcz54_2,hfz54_0,hfz54_1,hfz54_2⟩:=cells3 BK518.out;(try go_wp2_with (first | ((with_reducible refine gate_builtin (b:= .append) (xs:= #[.tmp 32, .tmp 34]) rfl ?_);at_builtin;refine Kd.R_append k44 w.heap.size rfl (.tmp 32) (.tmp 34) 28 44 (.agg #[(.int .i64 0),(.int .i64 0),(.int .i64 0)]) 24 rfl Try.underlying28 info44 rfl (by decide) (by omega) (.slice Ao50 x519002_1.length co50) x519002_1 (⟨4,2,0⟩:S44) [.int .i64 4, .int .i64 2, .int .i64 0] (fun _=>True) (fun _=>False) rfl rfl (k44_mkM _ _ _ (⟨4,2,0⟩:S44)) (fun _ hk=>hk.elim) (fun _ _=>trivial) (oX HO_519002) (Below.refl _ _) (keep_size (w:=w) (g:=g) (row:=none) bK) (by have:=LMc48.out;omega) ?_;intro v538 w55 ho hb hg hat;rw [←Ny537.out] at ho;replace BK510:=bG BK510 hg (Kd.R_ne HO_519002.out BK510.out (by decide));replace BK518:=bG BK518 hg (Kd.R_ne HO_519002.out BK518.out (by decide));replace HB:=amk (below_weaken bBI HL.out hb);replace HI0:=amk (IsS71.grown bI hg (IsS71.own_ne HI0.out HO_519002.out (by decide)));replace HK:=amk (KeepBut.trans bK (KeepBut.of_grown hg g) (Kd.R_base2 HO_519002.out));have HO539:=amk (ho);clear HO_519002;clear ho hb hg hat;obtain ⟨Ao56,co56,eo56⟩:=Kd.R_slice HO539.out;subst eo56;obtain ⟨hcz57_0,hcz57_1,hcz57_2,hfz57_0,hfz57_1,hfz57_2⟩:=cells3 BK518.out)));go_roundg k1
                case measure=>have:=HK1.out;omega
                case rel=>exact ⟨(t535),(t536),(y537),(.slice Ao56 y537.length co56),H',⟨by have:=HK1.out;omega⟩,⟨by (with_reducible repeat (first | apply Kd.R_alloc | apply Kd.R_drewN | apply Kd.R_drew));exact Kd.R_mono (Kd.R_far (p:=⟨gb518,2,none⟩) (Kd.R_types HO539.out BK518.out (by decide)) (fun _ hk=>hk.2) (.slice Ao56 y537.length co56)) (fun _ hk=>trivial)⟩,⟨kB BK510⟩,⟨kP BK518⟩,⟨bI⟩,⟨bK⟩,⟨bBI⟩⟩
              · rw [if_neg c48] at H;exact absurd H (by simp)
            · simp only [Option.some.injEq,Prod.mk.injEq] at H;obtain ⟨rfl,rfl,rfl,rfl,rfl⟩:=H;(try go_wp2);replace HO_519002:=amk (Kd.R_drew HO_519002.out);replace BK510:=amk (blk_drew BK510.out);replace BK518:=amk (blk_drew BK518.out);replace HI0:=amk (IsS71.drew HI0.out);replace HK:=amk (keep_drew HK.out);replace HB:=amk (bd_ HB.out);obtain ⟨Ao59,co59,eo59⟩:=Kd.R_slice HO_519002.out;(first | subst eo59 | (injection eo59 with f1_ f2_ f3_;have f4_:=f1_.symm;have f5_:=f3_.symm;clear f1_ f2_ f3_;subst f4_;subst f5_));refine start_ (n:=7) (S:=fun w'=>w'.cell? ⟨gb518,0,none⟩=some (.int .i64 t511)∧w'.cell? ⟨gb518,1,none⟩=some (.int .i64 t512)∧w'.cell? ⟨gb518,2,none⟩=some (.slice Ao59 x519002_1.length co59)) (ds:=[]) (bA 7 0) (by kernel_rfl) rfl rfl ⟨(blk_cell BK518.out 0).trans rfl,(blk_cell BK518.out 1).trans rfl,(blk_cell BK518.out 2).trans rfl⟩ (fun hHeld=>?_);generalize wr.drew=w58 at HO_519002 BK510 BK518 HI0 HK HB hHeld ⊢;refine pure_ (i:=0) (N:=some 24) (v:=?_) (a':=?_) #[true,false,false,false,false,false,false] rfl rfl (by kernel_rfl) (fun _ _ _ h=>h) (Or.inl ⟨by rfl,?_⟩) ?_ ?_;rotate_left
              · intro w'
                go_simp
                (with_reducible rfl)
              rotate_left
              · simp only [Act.put,List.setIfInBounds_toArray,List.set_cons_zero,List.set_cons_succ,i64_w,i32_w]
                rfl
              refine pure_ (i:=3) (N:=some 27) (v:=?_) (a':=?_) #[true,false,false,true,false,false,false] rfl rfl (by kernel_rfl) (fun _ _ _ h=>h) (Or.inl ⟨by rfl,?_⟩) ?_ ?_;rotate_left
              · intro w'
                go_simp
                (with_reducible rfl)
              rotate_left
              · simp only [Act.put,List.setIfInBounds_toArray,List.set_cons_zero,List.set_cons_succ,i64_w,i32_w]
                rfl
              refine take_ (i:=1) (N:=some 25) (v:=?_) (a':=?_) #[true,true,false,true,false,false,false] rfl rfl (by kernel_rfl) (fun _ _ _ h=>h) (Or.inl ⟨by rfl,?_⟩) hHeld ?_ ?_;rotate_left
              · rintro w' ⟨s0,s1,s2⟩
                go_simp
                (with_reducible rfl)
              rotate_left
              · simp only [Act.put,List.setIfInBounds_toArray,List.set_cons_zero,List.set_cons_succ,i64_w,i32_w]
                rfl
              refine pure_ (i:=2) (N:=some 26) (v:=?_) (a':=?_) #[true,true,true,true,false,false,false] rfl rfl (by kernel_rfl) (fun _ _ _ h=>h) (Or.inl ⟨by rfl,?_⟩) ?_ ?_;rotate_left
              · intro w'
                go_simp
                (with_reducible rfl)
              rotate_left
              · simp only [Act.put,List.setIfInBounds_toArray,List.set_cons_zero,List.set_cons_succ,i64_w,i32_w]
                rfl
              refine one_ (i:=4) (N:=some 28) #[true,true,true,true,true,false,false] rfl rfl (by kernel_rfl) (by decide) (fun K hK=>?_);refine gs_ Try.func39 #[.pointer (some ⟨g,0,none⟩), .int .i64 2] ?_;(with_reducible refine (spec_l1Cur_pick.calls g s0_0 x1001_1 x1002_1 2 t534 t535 t536 w0 _ ?_ ?_ A46.out).mono ?_);exact bI;exact bBI;rintro e w60 ⟨rfl,hi,hb,hk⟩;refine ⟨_,rfl,?_⟩;replace HO_519002:=amk (Kd.R_mono (Kd.R_keep (IsS71.apart (show IsS71 w0 _ g s0_0 x1001_1 x1002_1 from bI) (oX HO_519002) (by decide)) hk (fun _ h=>h.2)) (fun _ h=>h.1));replace BK510:=kQ BK510 hk NB510_0.out;replace BK518:=kQ BK518 hk NB518_0.out;replace HK:=kT2 HK hk;replace HB:=amk (hb);replace HI0:=amk (hi);(try clear hb);(try clear hk);(try clear hi);refine hK.out _ _ hC_ (fun hHeld=>?_);clear hK K;refine nN_ (some 28) ?_;refine pure_ (i:=5) (N:=some 29) (v:=?_) (a':=?_) #[true,true,true,true,true,true,false] rfl rfl (by kernel_rfl) (fun _ _ _ h=>h) (Or.inl ⟨by rfl,?_⟩) ?_ ?_;rotate_left
              · intro w'
                go_simp
                (with_reducible rfl)
              rotate_left
              · simp only [Act.put,List.setIfInBounds_toArray,List.set_cons_zero,List.set_cons_succ,i64_w,i32_w]
                rfl
              refine pure_ (i:=6) (N:=some 30) (v:=?_) (a':=?_) #[true,true,true,true,true,true,true] rfl rfl (by kernel_rfl) (fun _ _ _ h=>h) (Or.inl ⟨by rfl,?_⟩) ?_ ?_;rotate_left
              · intro w'
                go_simp
                (with_reducible rfl)
              rotate_left
              · simp only [Act.put,List.setIfInBounds_toArray,List.set_cons_zero,List.set_cons_succ,i64_w,i32_w]
                rfl
              refine done_ (by kernel_rfl) ?_;have hnb61:=NB518_510.out;have hnc61:=NB510_518.out;have hnb62:=NB518_0.out;have hnc62:=NB0_518.out;obtain ⟨hcz63_0,hcz63_1,hcz63_2,hfz63_0,hfz63_1,hfz63_2⟩:=cells3 BK518.out;have hnb64:=NB510_0.out;have hnc64:=NB0_510.out;obtain ⟨hcz65_0,hcz65_1,hcz65_2,hfz65_0,hfz65_1,hfz65_2⟩:=cells3 BK510.out;(try go_wp2);refine bodyPost_ret (results_cell_row rfl _ _ gb510 30 #[.int .i64 t511, .int .i64 t512, .slice Ao59 x519002_1.length co59] (0,0) _ rfl (kP BK510) Try.underlying30 rfl (by kernel_rfl)) rfl ?_;exact ⟨_,rF_,by (with_reducible repeat (first | apply Kd.R_alloc | apply Kd.R_drewN | apply Kd.R_drew));exact Kd.R_mono (Kd.R_far (p:=⟨gb510,2,none⟩) (Kd.R_far (p:=⟨gb510,1,none⟩) (Kd.R_far (p:=⟨gb510,0,none⟩) (Kd.R_types HO_519002.out BK510.out (by decide)) (fun _ hk=>hk.2) (.int .i64 t511)) (fun _ hk=>hk.2) (.int .i64 t512)) (fun _ hk=>hk.2) (.slice Ao59 x519002_1.length co59)) (fun _ hk=>trivial),bI,bBI,bK⟩
      · rw [if_neg c37] at H;have c37b0:(t519 == 2)=false:=beq_eq_false_iff_ne.mpr c37;have c37b1:(t519 != 2)=true:=bne_iff_ne.mpr c37;simp only [Option.some.injEq,Prod.mk.injEq] at H;obtain ⟨rfl,rfl,rfl,rfl,rfl⟩:=H;go_enter Try.func62,Try.ntmps62;go_wp2_with (first | ((with_reducible refine gate_dst (N:=2) rfl ?_);refine boxG_ 2 #[.int .i64 0, .int .i64 0, .slice none 0 0] 30 ?_;intro gb510 w66 hg BK510 hb;replace HB:=hBI HB hb;have GW510:=kS HK hg;have GE510:=kE HW0 GW510;replace HK:=kT HK hb;have NB0_510:=iL s0_0 s0_1 s0_2 hg;have NB510_0:=iR s0_0 s0_1 s0_2 hg;replace HI0:=amk (IsS71.below bI hb);clear hb hg) | (refine gc_ 88 5 Try.func88 #[.pointer (some ⟨g,0,none⟩), .int .i64 5] ?_;(with_reducible refine (spec_l1Cur_surePuzzle.calls k g s0_0 s0_1 s0_2 5 t511 t512 t513 t516 t517 w0 _ ?_ ?_ A2.out).mono ?_);exact bI;exact bBI;rintro e w67 ⟨v514,rfl,ho0,hi,hb,hk⟩;refine ⟨_,rfl,?_⟩;replace BK510:=kQ BK510 hk NB510_0.out;have HO515:=amk (Kd.R_lower ho0 (keep_size (w:=w) (g:=g) (row:=none) bK));replace HK:=kT2 HK hk;replace HB:=amk (hb);replace HI0:=amk (hi);(try clear hb);(try clear hk);(try clear hi);(try clear ho0)) | ((with_reducible refine gate_dst (N:=3) rfl ?_);refine boxG_ 3 #[.int .i64 0, .int .i64 0, .slice none 0 0] 30 ?_;intro gb518 w68 hg BK518 hb;replace HO515:=amk (Kd.R_below (oX HO515) hb);replace HB:=hBI HB hb;have GW518:=kS HK hg;have GE518:=kE HW0 GW518;replace HK:=kT HK hb;have NB510_518:=neL BK510 hg;have NB518_510:=neR BK510 hg;replace BK510:=kb2 BK510 hb;have NB0_518:=iL s0_0 t516 t517 hg;have NB518_0:=iR s0_0 t516 t517 hg;replace HI0:=amk (IsS71.below bI hb);clear hb hg;have hnb69:=NB518_510.out;have hnc69:=NB510_518.out;have hnb70:=NB518_0.out;have hnc70:=NB0_518.out;obtain ⟨hcz71_0,hcz71_1,hcz71_2,hfz71_0,hfz71_1,hfz71_2⟩:=cells3 BK518.out;obtain ⟨Ao72,co72,eo72⟩:=Kd.R_slice HO515.out;subst eo72) | (refine gc_ 39 7 Try.func39 #[.pointer (some ⟨g,0,none⟩), .int .i64 12] ?_;(with_reducible refine (spec_l1Cur_pick.calls g s0_0 t516 t517 12 t519 t520 t521 w0 _ ?_ ?_ A3.out).mono ?_);exact bI;exact bBI;rintro e w73 ⟨rfl,hi,hb,hk⟩;refine ⟨_,rfl,?_⟩;replace BK510:=kQ BK510 hk NB510_0.out;replace HO515:=amk (Kd.R_mono (Kd.R_keep (IsS71.apart (show IsS71 w0 _ g s0_0 t516 t517 from bI) (by (with_reducible repeat (first | apply Kd.R_alloc | apply Kd.R_drewN | apply Kd.R_drew));exact (Kd.R_mono (Kd.R_far (p:=⟨gb518,2,none⟩) (Kd.R_far (p:=⟨gb518,1,none⟩) (Kd.R_far (p:=⟨gb518,0,none⟩) (Kd.R_types HO515.out BK518.out (by decide)) (fun _ hk=>hk.2) (.int .i64 t511)) (fun _ hk=>hk.2) (.int .i64 t512)) (fun _ hk=>hk.2) (.slice Ao72 t513.length co72)) (fun _ h_=>h_.1))) (by decide)) hk (fun _ h=>h.2)) (fun _ h=>h.1));replace BK518:=amk (KeepBut.blk hk (g':=gb518) (o:= .cells #[.int .i64 t511, .int .i64 t512, .slice Ao72 t513.length co72] 30 (0,0)) (kP BK518) NB518_0.out (by simp));replace HK:=kT2 HK hk;replace HB:=amk (hb);replace HI0:=amk (hi);(try clear hb);(try clear hk);(try clear hi);obtain ⟨hcz74_0,hcz74_1,hcz74_2,hfz74_0,hfz74_1,hfz74_2⟩:=cells3 BK518.out;have hnb75:=NB510_0.out;have hnc75:=NB0_510.out;obtain ⟨hcz76_0,hcz76_1,hcz76_2,hfz76_0,hfz76_1,hfz76_2⟩:=cells3 BK510.out));refine bodyPost_ret (results_cell_row rfl _ _ gb510 30 #[.int .i64 t511, .int .i64 t512, .slice Ao72 t513.length co72] (0,0) _ rfl (kP BK510) Try.underlying30 rfl (by kernel_rfl)) rfl ?_;exact ⟨_,rF_,by (with_reducible repeat (first | apply Kd.R_alloc | apply Kd.R_drewN | apply Kd.R_drew));exact Kd.R_mono (Kd.R_far (p:=⟨gb510,2,none⟩) (Kd.R_far (p:=⟨gb510,1,none⟩) (Kd.R_far (p:=⟨gb510,0,none⟩) (Kd.R_types HO515.out BK510.out (by decide)) (fun _ hk=>hk.2) (.int .i64 t511)) (fun _ hk=>hk.2) (.int .i64 t512)) (fun _ hk=>hk.2) (.slice Ao72 t513.length co72)) (fun _ hk=>trivial),bI,bBI,bK⟩
/-! The draws of locks, codes, clues and puzzles come to an end, and what they give is small. -/
theorem dpickB_ok {s:List Int} (hs:BytesV s) {a:Int} (h0:0≤a) (h1:a≤100000000) (b:Int) {n:Int} (hn:200 < n) : ∃ r a' b',spec_l1Cur_pick.f s a b n=some (r,a',b')∧0≤r∧r < n∧a≤a'∧a'≤a + 2:=by
  unfold spec_l1Cur_pick.f
  obtain ⟨r,b1,e,r0,r1⟩:=dnext_ok hs h0 (by omega) b
  obtain ⟨r2,b2,e2,s0,s1⟩:=dnext_ok hs (a:=a + 1) (by omega) (by omega) b1
  rw [if_neg (by omega),e]
  show ∃ r_ a' b'_,(if n > 200 then (spec_l1Cur_next.f s (a + 1) b1).bind _ else _)=some (r_,a',b'_)∧_
  rw [if_pos (by omega),e2]
  show ∃ r_ a' b'_,(if n=0 then none else some _)=some (r_,a',b'_)∧_
  rw [if_neg (by omega)]
  have hw:wrap64 (wrap64 (r * 256) + r2)=r * 256 + r2:=by rw [w64 (x:=r * 256) (by omega) (by omega),w64 (by omega) (by omega)]
  refine ⟨_,a + 1 + 1,b2,rfl,?_,?_,by omega,by omega⟩
  · dsimp only;rw [hw];exact Int.tmod_nonneg _ (by omega)
  · exact Int.tmod_lt_of_pos _ (by omega)
theorem lockT_ok {x:Int} (h:0≤x∧x < 8):lockB (lockT x).1 (lockT x).2=true∧(lockT x).2 ^ (lockT x).1.toNat≤100:=by
  have hc:x=0∨x=1∨x=2∨x=3∨x=4∨x=5∨x=6∨x=7:=by omega
  rcases hc with rfl | rfl | rfl | rfl | rfl | rfl | rfl | rfl <;> decide
theorem dsure_ok {s:List Int} (hs:BytesV s) {a:Int} (h0:0≤a) (h1:a≤100000000) (b:Int) : ∃ w d a' b',spec_l1Cur_sureLock.f s a b=some (w,d,a',b')∧lockB w d=true∧d ^ w.toNat≤100∧a≤a'∧a'≤a + 1:=by
  obtain ⟨r,a',b',e,r0,r1,h2,h3⟩:=dpick_ok hs h0 (by omega) b (n:=8) (by omega)
  have hr:0≤r∧r < 8:=by omega
  unfold spec_l1Cur_sureLock.f
  rw [e]
  show ∃ w d a'_ b'_,(if 0≤r∧r < 8 then some _ else none)=some (w,d,a'_,b'_)∧_
  rw [if_pos hr]
  exact ⟨_,_,_,_,rfl,(lockT_ok hr).1,(lockT_ok hr).2,h2,h3⟩
theorem dlock_ok {s:List Int} (hs:BytesV s) {a:Int} (h0:0≤a) (h1:a≤90000000) (b:Int) : ∃ w d a' b',spec_l1Cur_lock.f s a b=some (w,d,a',b')∧a≤a'∧a'≤a + 3:=by
  obtain ⟨r,a1,b1,e1,g1,g2⟩:=done_ok hs h0 (by omega) b (n:=14) (by omega)
  unfold spec_l1Cur_lock.f
  rw [e1,Option.bind_some]
  cases r with
  | true =>
    obtain ⟨x,a2,b2,e2,_,g3,g4⟩:=damong_ok hs (a:=a1) (by omega) (by omega) b1 (l:=[0,(-1),1,6,7,4611686018427387904]) (by decide) (by decide)
    obtain ⟨y,a3,b3,e3,_,g5,g6⟩:=damong_ok hs (a:=a2) (by omega) (by omega) b2 (l:=[1,2,3,10,11,(-1)]) (by decide) (by decide)
    dsimp only
    rw [if_pos rfl,e2,Option.bind_some]
    dsimp only
    rw [e3,Option.bind_some]
    exact ⟨x,y,a3,b3,rfl,by omega,by omega⟩
  | false =>
    obtain ⟨w,d,a2,b2,e2,_,_,g3,g4⟩:=dsure_ok hs (a:=a1) (by omega) (by omega) b1
    dsimp only
    rw [if_neg (by decide),e2,Option.bind_some]
    exact ⟨w,d,a2,b2,rfl,by omega,by omega⟩
theorem dhidden_ok {s:List Int} (hs:BytesV s) {a:Int} (h0:0≤a) (h1:a≤90000000) (b:Int) : ∃ w d t a' b',Ev (fun k=>spec_l1Cur_hidden.f k s a b) (w,d,t,a',b')∧lockB w d=true∧d ^ w.toNat≤100∧codeS w d t∧a≤a'∧a'≤a + 2:=by
  obtain ⟨w,d,a1,b1,e1,hl,hc,g1,g2⟩:=dsure_ok hs h0 (by omega) b
  obtain ⟨x,a2,b2,e2,x0,x1,g3,g4⟩:=dpick_ok hs (a:=a1) (by omega) (by omega) b1 (n:=d ^ w.toNat) (by omega)
  refine ⟨w,d,codeB w d x,a2,b2,?_,hl,hc,codeB_code hl,by omega,by omega⟩
  unfold spec_l1Cur_hidden.f
  have hcb:=count_bound hl
  exact Ev.bindc e1 (Ev.bind (spec_whCount.ev hl) (Ev.bindc e2 (Ev.bind (spec_whOf.ev hl x0 (by omega)) (Ev.now _))))
theorem dclue_ok {s:List Int} (hs:BytesV s) {a:Int} (h0:0≤a) (h1:a≤90000000) (b:Int) : ∃ x y z a' b',Ev (fun k=>spec_l1Cur_clue.f k s a b) (x,y,z,a',b')∧a≤a'∧a'≤a + 7:=by
  obtain ⟨r1,a1,b1,e1,_,_,g1,g2⟩:=dpick_ok hs h0 (by omega) b (n:=5) (by omega)
  obtain ⟨r2,a2,b2,e2,_,_,g3,g4⟩:=dpick_ok hs (a:=a1) (by omega) (by omega) b1 (n:=9) (by omega)
  obtain ⟨r3,a3,b3,e3,_,_,g5,g6⟩:=dpick_ok hs (a:=a2) (by omega) (by omega) b2 (n:=6) (by omega)
  obtain ⟨r4,a4,b4,e4,_,_,g7,g8⟩:=dpick_ok hs (a:=a3) (by omega) (by omega) b3 (n:=9) (by omega)
  have hj : ∀ (q:Bool) (a5 b5 x y z:Int),0≤a5→a5≤90000010→∃ z' a' b',Ev (fun k=>spec_l1Cur_clue.j0 k q s a5 b5 x y z) (x,y,z',a',b')∧a5≤a'∧a'≤a5 + 2:=by
    intro q a5 b5 x y z hq0 hq1
    cases q with
    | true =>
      obtain ⟨r5,a6,b6,e5,_,_,g9,g10⟩:=dpick_ok hs hq0 (by omega) b5 (n:=4) (by omega)
      obtain ⟨r6,a7,b7,e6,_,_,g11,g12⟩:=dpick_ok hs (a:=a6) (by omega) (by omega) b6 (n:=9) (by omega)
      refine ⟨wrap64 (r5 - wrap64 (Int.tdiv r6 8)),a7,b7,Ev.step (fun k=>rfl) ?_,by omega,by omega⟩
      simp only [spec_l1Cur_clue.j0]
      first
      | exact Ev.yes trivial (Ev.bindc e5 (Ev.bindc e6 (Ev.now _)))
      | exact Ev.bindc e5 (Ev.bindc e6 (Ev.now _))
    | false =>
      refine ⟨z,a5,b5,Ev.step (fun k=>rfl) ?_,by omega,by omega⟩
      simp only [spec_l1Cur_clue.j0]
      first
      | exact Ev.no (by decide) (Ev.now _)
      | exact Ev.no (by simp) (Ev.now _)
      | exact Ev.now _
  unfold spec_l1Cur_clue.f
  by_cases hk:wrap64 (r1 + wrap64 (Int.tdiv r2 8))=1
  · obtain ⟨q,a5,b5,e5,g9,g10⟩:=done_ok hs (a:=a4) (by omega) (by omega) b4 (n:=8) (by omega)
    obtain ⟨z',a',b',ej,g11,g12⟩:=hj q a5 b5 (wrap64 (r1 + wrap64 (Int.tdiv r2 8))) (wrap64 (r3 - wrap64 (Int.tdiv r4 8))) 0 (by omega) (by omega)
    exact ⟨_,_,_,_,_,Ev.bindc e1 (Ev.bindc e2 (Ev.bindc e3 (Ev.bindc e4 (Ev.yes hk (Ev.bindc e5 ej))))),by omega,by omega⟩
  · obtain ⟨z',a',b',ej,g11,g12⟩:=hj true a4 b4 (wrap64 (r1 + wrap64 (Int.tdiv r2 8))) (wrap64 (r3 - wrap64 (Int.tdiv r4 8))) 0 (by omega) (by omega)
    exact ⟨_,_,_,_,_,Ev.bindc e1 (Ev.bindc e2 (Ev.bindc e3 (Ev.bindc e4 (Ev.no hk ej)))),by omega,by omega⟩
theorem dsureP_ok {s:List Int} (hs:BytesV s) {a:Int} (h0:0≤a) (h1:a≤80000000) (b:Int) : ∃ w d l a' b',Ev (fun k=>spec_l1Cur_surePuzzle.f k s a b 5) (w,d,l,a',b')∧l.length≤6∧a≤a'∧a'≤a + 6:=by
  obtain ⟨w,d,t,a1,b1,e1,_,_,_,g1,g2⟩:=dhidden_ok hs h0 (by omega) b
  obtain ⟨x,a2,b2,e2,_,_,g3,g4⟩:=dpick_ok hs (a:=a1) (by omega) (by omega) b1 (n:=wrap64 (5 + 1)) (by rw [w64 (by omega) (by omega)];omega)
  obtain ⟨y,a3,b3,e3,_,_,g5,g6⟩:=dpickB_ok hs (a:=a2) (by omega) (by omega) b2 (n:=10000) (by omega)
  unfold spec_l1Cur_surePuzzle.f
  exact ⟨(makeR w d t x y).1,(makeR w d t x y).2.1,(makeR w d t x y).2.2.1,a3,b3,Ev.bind e1 (Ev.bindc e2 (Ev.bindc e3 (Ev.bind (spec_MakePuzzle.ev w d t x y) (Ev.now _)))),makeR_len w d t x y,by omega,by omega⟩
theorem dpuzzle_ok {s:List Int} (hs:BytesV s) {a:Int} (h0:0≤a) (h1:a≤80000000) (b:Int) : ∃ w d l a' b',Ev (fun k=>spec_l1Cur_puzzle.f k s a b) (w,d,l,a',b')∧l.length≤20∧a≤a'∧a'≤a + 60:=by
  obtain ⟨w,d,l,a1,b1,e1,hl,g1,g2⟩:=dsureP_ok hs h0 h1 b
  obtain ⟨x,a2,b2,e2,_,_,g3,g4⟩:=dpick_ok hs (a:=a1) (by omega) (by omega) b1 (n:=12) (by omega)
  have loop : ∀ (m:Nat) (l:List S44) (a b:Int),0≤a→a + m≤80001000→l.length + m=10→∃ l' a' b',Ev (fun k=>spec_l1Cur_puzzle.l0 k s a b w d l) (w,d,l',a',b')∧l'.length≤10∧a≤a'∧a'≤a + m + 1:=by
    intro m
    induction m with
    | zero =>
      intro l a b q0 q1 q2
      obtain ⟨r,a2,b2,e2,r0,r1,g3,g4⟩:=dpick_ok hs q0 (by omega) b (n:=2) (by omega)
      exact ⟨l,a2,b2,Ev.step (fun k=>rfl) (Ev.bindc e2 (Ev.no (by rw [w64 (by omega) (by omega)];omega) (Ev.now _))),by omega,by omega,by omega⟩
    | succ m ih =>
      intro l a b q0 q1 q2
      obtain ⟨r,a2,b2,e2,r0,r1,g3,g4⟩:=dpick_ok hs q0 (by omega) b (n:=2) (by omega)
      by_cases hc:(l.length:Int) < wrap64 (6 + r)
      · obtain ⟨l',a',b',e3,g5,g6,g7⟩:=ih (l ++ [(⟨4,2,0⟩:S44)]) a2 b2 (by omega) (by omega) (by rw [List.length_append,List.length_singleton];omega)
        exact ⟨l',a',b',Ev.step (fun k=>rfl) (Ev.bindc e2 (Ev.yes hc (Ev.yes (by omega) e3))),g5,by omega,by omega⟩
      · exact ⟨l,a2,b2,Ev.step (fun k=>rfl) (Ev.bindc e2 (Ev.no hc (Ev.now _))),by omega,by omega,by omega⟩
  unfold spec_l1Cur_puzzle.f
  by_cases c0:x=0
  · obtain ⟨w2,d2,a3,b3,e3,g5,g6⟩:=dlock_ok hs (a:=a2) (by omega) (by omega) b2
    exact ⟨w2,d2,l,a3,b3,Ev.bind e1 (Ev.bindc e2 (Ev.yes c0 (Ev.bindc e3 (Ev.now _)))),by omega,by omega,by omega⟩
  · by_cases c1:x=1
    · obtain ⟨p,q,z,a3,b3,e3,g5,g6⟩:=dclue_ok hs (a:=a2) (by omega) (by omega) b2
      exact ⟨w,d,l ++ [(⟨p,q,z⟩:S44)],a3,b3,Ev.bind e1 (Ev.bindc e2 (Ev.no c0 (Ev.yes c1 (Ev.bind e3 (Ev.yes (by dsimp only;omega) (Ev.now _)))))),by rw [List.length_append,List.length_singleton];omega,by omega,by omega⟩
    · by_cases c2:x=2
      · obtain ⟨l',a3,b3,e3,g5,g6,g7⟩:=loop (10 - l.length) l a2 b2 (by omega) (by omega) (by omega)
        exact ⟨w,d,l',a3,b3,Ev.bind e1 (Ev.bindc e2 (Ev.no c0 (Ev.no c1 (Ev.yes c2 e3)))),by omega,by omega,by omega⟩
      · exact ⟨w,d,l,a2,b2,Ev.bind e1 (Ev.bindc e2 (Ev.no c0 (Ev.no c1 (Ev.no c2 (Ev.now _))))),by omega,by omega,by omega⟩
/-! What the draws of puzzles lay in memory. -/
abbrev zPz:Obj:= .cells #[.int .i64 0, .int .i64 0, .slice none 0 0] 30 (0,0)
abbrev zCl:Obj:= .cells #[.int .i64 0, .int .i64 0, .int .i64 0] 44 (0,0)
abbrev zLk:Obj:= .cells #[.int .i64 0, .int .i64 0] 25 (0,0)
abbrev zCu (A:Option Addr) (n c:Nat):Obj:= .cells #[.slice A n c, .int .i64 0, .int .u64 0] 71 (0,0)
abbrev st3 (W:World) (q:Nat) (x y z:Value):World:=((W.setCell ⟨q,0,none⟩ x).setCell ⟨q,1,none⟩ y).setCell ⟨q,2,none⟩ z
abbrev st2 (W:World) (q:Nat) (x y:Value):World:=(W.setCell ⟨q,0,none⟩ x).setCell ⟨q,1,none⟩ y
theorem far3 {W:World} {p q:Nat} (h:p≠q) (x y z:Value):(st3 W q x y z).heap[p]?=W.heap[p]?:=by
  unfold st3
  rw [Below.heap_setCell _ _ _ _ (by exact h),Below.heap_setCell _ _ _ _ (by exact h),Below.heap_setCell _ _ _ _ (by exact h)]
theorem far2 {W:World} {p q:Nat} (h:p≠q) (x y:Value):(st2 W q x y).heap[p]?=W.heap[p]?:=by
  unfold st2
  rw [Below.heap_setCell _ _ _ _ (by exact h),Below.heap_setCell _ _ _ _ (by exact h)]
theorem below3 {w W:World} {q:Nat} (h:Below w.heap.size w W) (hq:w.heap.size≤q) (x y z:Value):Below w.heap.size w (st3 W q x y z):=bs_ (bs_ (bs_ h hq) hq) hq
theorem below2 {w W:World} {q:Nat} (h:Below w.heap.size w W) (hq:w.heap.size≤q) (x y:Value):Below w.heap.size w (st2 W q x y):=bs_ (bs_ h hq) hq
section
variable {α:Type} {d:Kd α} {e:Nat} {W:World} {base q:Nat} {ok:Nat→Prop} {v:Value} {xs:List α}
theorem R_st3 (h:d.R e W base ok v xs) (hq : ∀ k,ok k→k≠q) (x y z:Value):d.R e (st3 W q x y z) base ok v xs:=Kd.R_far (Kd.R_far (Kd.R_far h (p:=⟨q,0,none⟩) hq x) (p:=⟨q,1,none⟩) hq y) (p:=⟨q,2,none⟩) hq z
theorem R_lo {B:Nat} (h:d.R e W base ok v xs) (hb:B < base):d.R e W base (fun k=>B < k) v xs:=Kd.R_mono (Kd.R_bound h) (fun _ hk=>Nat.lt_of_lt_of_le hb hk.2.1)
end
/-- Two cells of results, and the cursor behind them. -/
def DA (w:World) (o1 o2:Obj) (l:List Int) (W:World) (a b:Int):Prop:=IsS71 w W (w.heap.size + 1 + 1) l a b∧Below w.heap.size w W∧W.heap[w.heap.size]?=some o1∧W.heap[w.heap.size + 1]?=some o2
theorem DA_keep {w W W2:World} {o1 o2:Obj} {l:List Int} {a b a2 b2:Int} (h:DA w o1 o2 l W a b) (i2:IsS71 w W2 (w.heap.size + 1 + 1) l a2 b2) (hb:Below w.heap.size w W2) (hk:KeepBut W W2 (w.heap.size + 1 + 1) none):DA w o1 o2 l W2 a2 b2:=
  ⟨i2,hb,(hk.2 _ (blk_lt h.2.2.1) (by omega) (by simp)).trans h.2.2.1,(hk.2 _ (blk_lt h.2.2.2) (by omega) (by simp)).trans h.2.2.2⟩
theorem DA_new {w:World} {A:Option Addr} {c:Nat} {l:List Int} (o1 o2:Obj) (hr:Kd.C (Kd.int .u8) w A l.length l):DA w o1 o2 l (((w.alloc o1).alloc o2).alloc (zCu A l.length c)) 0 0:=by
  refine ⟨⟨A,c,by simpa using blk_new ((w.alloc o1).alloc o2) (zCu A l.length c),by omega,hr⟩,(((Below.refl w.heap.size w).alloc (Nat.le_refl _) _).alloc (by simp) _).alloc (by simp <;> omega) _,?_,?_⟩
  · simpa using (((Below.refl _ _).alloc (Nat.le_refl _) _).alloc (by simp) _).block _ (by simp) |>.trans (blk_new w o1)
  · simpa using ((Below.refl _ _).alloc (Nat.le_refl _) _).block _ (by simp) |>.trans (blk_new (w.alloc o1) o2)
/-- One cell of results, and the cursor behind it. -/
def DB (w:World) (o1:Obj) (l:List Int) (W:World) (a b:Int):Prop:=IsS71 w W (w.heap.size + 1) l a b∧Below w.heap.size w W∧W.heap[w.heap.size]?=some o1
theorem DB_keep {w W W2:World} {o1:Obj} {l:List Int} {a b a2 b2:Int} (h:DB w o1 l W a b) (i2:IsS71 w W2 (w.heap.size + 1) l a2 b2) (hb:Below w.heap.size w W2) (hk:KeepBut W W2 (w.heap.size + 1) none):DB w o1 l W2 a2 b2:=
  ⟨i2,hb,(hk.2 _ (blk_lt h.2.2) (by omega) (by simp)).trans h.2.2⟩
theorem DB_new {w:World} {A:Option Addr} {c:Nat} {l:List Int} (o1:Obj) (hr:Kd.C (Kd.int .u8) w A l.length l):DB w o1 l ((w.alloc o1).alloc (zCu A l.length c)) 0 0:=by
  refine ⟨⟨A,c,by simpa using blk_new (w.alloc o1) (zCu A l.length c),by omega,hr⟩,((Below.refl w.heap.size w).alloc (Nat.le_refl _) _).alloc (by simp) _,?_⟩
  simpa using ((Below.refl _ _).alloc (Nat.le_refl _) _).block _ (by simp) |>.trans (blk_new w o1)
theorem DA_below {w W W2:World} {o1 o2:Obj} {l:List Int} {a b:Int} (h:DA w o1 o2 l W a b) (hb:Below W.heap.size W W2):DA w o1 o2 l W2 a b:=⟨h.1.below hb,bp_ h.2.1 hb,blk_below h.2.2.1 hb,blk_below h.2.2.2 hb⟩
theorem DB_below {w W W2:World} {o1:Obj} {l:List Int} {a b:Int} (h:DB w o1 l W a b) (hb:Below W.heap.size W W2):DB w o1 l W2 a b:=⟨h.1.below hb,bp_ h.2.1 hb,blk_below h.2.2 hb⟩
theorem ints_read {W:World} {g t:Nat} {xs:List Int} (h:W.heap[g]?=some (.cells (xs.map (Value.int .i64)).toArray t (0,0))) (hn:xs.length≤1000):Kd.C (Kd.int .i64) W (some ⟨g,0,none⟩) xs.length xs:=by
  refine ⟨rfl,by omega,fun _=>⟨_,rfl,fun j p hj=>⟨[.int .i64 p],rfl,rfl,fun i u hi=>?_⟩⟩⟩
  match i,hi with
  | 0, hi =>
    injection hi with hi
    subst hi
    have e:W.cell? ⟨g,j,none⟩=some (.int .i64 p):=by
      simp [World.cell?,h,hj]
    show W.cell? ((⟨g,0,none⟩:Addr).add (j * 1 + 0))=_
    rw [Nat.mul_one,Nat.add_zero]
    unfold Addr.add
    by_cases hj0:j=0
    · subst hj0;simpa using e
    · simpa [hj0] using e
/-! The draw of a puzzle and a clue, and that of a puzzle and a number, by hand. -/
set_option maxHeartbeats 8000000 in
set_option maxRecDepth 100000 in
theorem spec_DrawAddClue.calls (A:Option Addr) (c:Nat) (l:List Int) (w:World) (hs:BytesV l) (hr:Kd.C (Kd.int .u8) w A l.length l) :
    Calls Try.prog 23 #[.slice A l.length c] w fun e w'=> ∃ (p d:Int) (A2:Option Addr) (c2:Nat) (L:List S44) (x y z:Int),e = .returned (.tuple #[.agg #[.int .i64 p, .int .i64 d, .slice A2 L.length c2], .agg #[.int .i64 x, .int .i64 y, .int .i64 z]])∧L.length≤c2∧Kd.C k44 w' A2 L.length L∧L.length≤20∧Below w.heap.size w w':=by
  have hu:=Try.underlying71
  have hu2:=Try.underlying30
  have hu3:=Try.underlying44
  obtain ⟨p,d,L,a1,b1,h3,hL,u2,v2⟩:=dpuzzle_ok hs (a:=0) (by omega) (by omega) 0
  obtain ⟨x,y,z,a2,b2,h4,u3,v3⟩:=dclue_ok hs (a:=a1) (by omega) (by omega) b1
  obtain ⟨k3,e3⟩:=h3.rounds
  obtain ⟨k4,e4⟩:=h4.rounds
  have S0:=amk (DA_new (c:=c) zPz zCl hr);have E3:=amk e3;have E4:=amk e4;have HL:=amk hL
  clear hs hr h3 h4 e3 e4 hL u2 v2 u3 v3
  go_enter Try.func23,Try.ntmps23
  go_wp2_with (go_at_call 62;refine Calls.mono (spec_l1Cur_puzzle.calls k3 (w.heap.size + 1 + 1) l 0 0 p d L a1 b1 w _ S0.out.1 S0.out.2.1 E3.out) ?_;rintro e wx ⟨v3,rfl,hn,hi2,hb2,hk2⟩;obtain ⟨A2,c2,rfl⟩:=Kd.R_slice hn;have HZ:=amk S0.out.1.lt;have S1:=amk (DA_keep S0.out hi2 hb2 hk2);have N1:=amk (R_lo hn HZ.out);clear hn hi2 hb2 hk2)
  go_wp2_with (go_at_call 68;refine Calls.mono (spec_l1Cur_clue.calls k4 (w.heap.size + 1 + 1) l a1 b1 x y z a2 b2 w _ S1.out.1 S1.out.2.1 E4.out) ?_;rintro e wy ⟨rfl,hi2,hb2,hk2⟩;have S2:=amk (DA_keep S1.out hi2 hb2 hk2);have N2:=amk (Kd.R_keep N1.out hk2 (fun k hk=>Nat.ne_of_gt hk));clear hi2 hb2 hk2;obtain ⟨y0,y1,y2,f0,f1,f2⟩:=cells3 S2.out.2.2.1;obtain ⟨z0,z1,z2,g0,g1,g2⟩:=cells3 S2.out.2.2.2)
  (try simp only [Exit.inBlock,Exit.then])
  have hz2 : ∀ k,w.heap.size + 1 + 1 < k→k≠w.heap.size + 1:=fun k hk=>by omega
  have hz1 : ∀ k,w.heap.size + 1 + 1 < k→k≠w.heap.size:=fun k hk=>by omega
  have N3:=R_st3 (R_st3 N2.out hz1 (.int .i64 p) (.int .i64 d) (.slice A2 L.length c2)) hz2 (.int .i64 x) (.int .i64 y) (.int .i64 z)
  refine bodyPost_ret (results_cc rfl _ _ w.heap.size (w.heap.size + 1) 30 44 #[.int .i64 p, .int .i64 d, .slice A2 L.length c2] #[.int .i64 x, .int .i64 y, .int .i64 z] (0,0) (0,0) _ _ rfl ((far3 (Nat.ne_of_lt (Nat.lt_succ_self _)) _ _ _).trans (three_set S2.out.2.2.1 _ _ _)) Try.underlying30 rfl (by kernel_rfl) rfl (three_set ((far3 (Nat.ne_of_gt (Nat.lt_succ_self _)) _ _ _).trans S2.out.2.2.2) _ _ _) Try.underlying44 rfl (by kernel_rfl)) rfl ?_
  exact ⟨p,d,A2,c2,L,x,y,z,rfl,(Kd.R_reads' N3).2.1,(Kd.R_reads' N3).2.2,HL.out,below3 (below3 S2.out.2.1 (Nat.le_refl _) _ _ _) (Nat.le_succ _) _ _ _⟩
/-! The draw of a puzzle and a number, by hand. -/
set_option maxHeartbeats 8000000 in
set_option maxRecDepth 100000 in
theorem spec_DrawDropClue.calls (A:Option Addr) (c:Nat) (l:List Int) (w:World) (hs:BytesV l) (hr:Kd.C (Kd.int .u8) w A l.length l) :
    Calls Try.prog 26 #[.slice A l.length c] w fun e w'=> ∃ (p d:Int) (A2:Option Addr) (c2:Nat) (L:List S44) (x:Int),e = .returned (.tuple #[.agg #[.int .i64 p, .int .i64 d, .slice A2 L.length c2], .int .i64 x])∧L.length≤c2∧Kd.C k44 w' A2 L.length L∧L.length≤20∧Below w.heap.size w w':=by
  have hu:=Try.underlying71
  have hu2:=Try.underlying30
  have hu3:=Try.underlying44
  obtain ⟨p,d,L,a1,b1,h3,hL,u2,v2⟩:=dpuzzle_ok hs (a:=0) (by omega) (by omega) 0
  obtain ⟨x,a2,b2,e4,_,_,u3,v3⟩:=dpick_ok hs (a:=a1) (by omega) (by omega) b1 (n:=6) (by omega)
  obtain ⟨y,a3,b3,e5,_,_,u4,v4⟩:=dpick_ok hs (a:=a2) (by omega) (by omega) b2 (n:=9) (by omega)
  obtain ⟨k3,e3⟩:=h3.rounds
  have S0:=amk (DB_new (c:=c) zPz hr);have E3:=amk e3;have E4:=amk e4;have E5:=amk e5;have HL:=amk hL
  clear hs hr h3 e4 e3 e5 hL u2 v2 u3 v3 u4 v4
  go_enter Try.func26,Try.ntmps26
  go_wp2_with (go_at_call 62;refine Calls.mono (spec_l1Cur_puzzle.calls k3 (w.heap.size + 1) l 0 0 p d L a1 b1 w _ S0.out.1 S0.out.2.1 E3.out) ?_;rintro e wx ⟨v3,rfl,hn,hi2,hb2,hk2⟩;obtain ⟨A2,c2,rfl⟩:=Kd.R_slice hn;have HZ:=amk S0.out.1.lt;have S1:=amk (DB_keep S0.out hi2 hb2 hk2);have N1:=amk (R_lo hn HZ.out);clear hn hi2 hb2 hk2)
  go_wp2_with (go_at_call_of 39 (Value.int .i64 6);refine Calls.mono (spec_l1Cur_pick.calls (w.heap.size + 1) l a1 b1 6 x a2 b2 w _ S1.out.1 S1.out.2.1 E4.out) ?_;rintro e wy ⟨rfl,hi2,hb2,hk2⟩;have S2:=amk (DB_keep S1.out hi2 hb2 hk2);have N2:=amk (Kd.R_keep N1.out hk2 (fun k hk=>Nat.ne_of_gt hk));clear hi2 hb2 hk2)
  go_wp2_with (go_at_call 39;refine Calls.mono (spec_l1Cur_pick.calls (w.heap.size + 1) l a2 b2 9 y a3 b3 w _ S2.out.1 S2.out.2.1 E5.out) ?_;rintro e wz ⟨rfl,hi2,hb2,hk2⟩;have S3:=amk (DB_keep S2.out hi2 hb2 hk2);have N3:=amk (Kd.R_keep N2.out hk2 (fun k hk=>Nat.ne_of_gt hk));clear hi2 hb2 hk2;obtain ⟨y0,y1,y2,f0,f1,f2⟩:=cells3 S3.out.2.2)
  (try simp only [Exit.inBlock,Exit.then])
  have hz1 : ∀ k,w.heap.size + 1 < k→k≠w.heap.size:=fun k hk=>by omega
  have N4:=R_st3 N3.out hz1 (.int .i64 p) (.int .i64 d) (.slice A2 L.length c2)
  refine bodyPost_ret (results_ct rfl _ _ w.heap.size 30 #[.int .i64 p, .int .i64 d, .slice A2 L.length c2] (0,0) _ rfl (three_set S3.out.2.2 _ _ _) Try.underlying30 rfl (by kernel_rfl)) rfl ?_
  exact ⟨p,d,A2,c2,L,_,rfl,(Kd.R_reads' N4).2.1,(Kd.R_reads' N4).2.2,HL.out,below3 S3.out.2.1 (Nat.le_refl _) _ _ _⟩
/-! ### spec_l1Most: function 75 -/
def spec_l1Most.f (a0:Int) (a1:Int):Option (Int):=if a0 > a1 then (some a0) else (some a1)
set_option maxHeartbeats 8000000 in
set_option maxRecDepth 100000 in
theorem spec_l1Most.calls (a0:Int) (a1:Int) (r:Int) (w:World) (h:spec_l1Most.f a0 a1=some r) :
    Calls Try.prog 75 #[.int .i64 a0, .int .i64 a1] w fun e w'=>e = .returned (.int .i64 r)∧Drawn0 w w':=by
  unfold spec_l1Most.f at h;have H:=h;clear h
  by_cases c3:a0 > a1
  · rw [if_pos c3] at H;have c3b0:decide (a1 < a0)=true:=decide_eq_true c3;clear c3;obtain rfl:=Option.some.inj H;go_enter Try.func75,Try.ntmps75;go_wp2;go_ret;exact ⟨rS_,dR_⟩
  · rw [if_neg c3] at H;have c3b0:decide (a1 < a0)=false:=decide_eq_false c3;clear c3;obtain rfl:=Option.some.inj H;go_enter Try.func75,Try.ntmps75;go_wp2;go_ret;exact ⟨rS_,dR_⟩
/-! ### spec_l1Cur_code1: function 36 -/
mutual
def spec_l1Cur_code1.l0:Nat→ByteArray→Int→List Int→Int→Int→Int→Int→Option (ByteArray×Int×Int)
  | 0,_,_,_,_,_,_,_=>none
  | k + 1,x5,x6,x1000,x1001,x1002,x323000,x323001=>if x6 < x323000 then (spec_l1Cur_code1.j1 k x5 x6 (decide (x6 < 7)) x1000 x1001 x1002 x323000 x323001) else (spec_l1Cur_code1.j1 k x5 x6 false x1000 x1001 x1002 x323000 x323001)
def spec_l1Cur_code1.j1:Nat→ByteArray→Int→Bool→List Int→Int→Int→Int→Int→Option (ByteArray×Int×Int)
  | 0,_,_,_,_,_,_,_,_=>none
  | k + 1,x5,x6,x19,x1000,x1001,x1002,x323000,x323001=>if x19=true then ((spec_l1Most.f 1 x323001).bind fun t332=>((spec_l1Least.f 10 t332).bind fun t333=>((spec_l1Cur_pick.f x1000 x1001 x1002 t333).bind fun bt334=>((spec_l1Num.f k bt334.1).bind fun t337=>(if x5.size + t337.size≤9223372036854775807 then (spec_l1Cur_code1.l0 k (x5 ++ t337) (wrap64 (x6 + 1)) x1000 bt334.2.1 bt334.2.2 x323000 x323001) else (none)))))) else (some (x5,x1001,x1002))
end
def spec_l1Cur_code1.f (k:Nat) (s0_0:List Int) (s0_1:Int) (s0_2:Int) (a1_0:Int) (a1_1:Int):Option (ByteArray×Int×Int):=(spec_l1Cur_one.f s0_0 s0_1 s0_2 14).bind fun bt323=>(if bt323.1=true then ((spec_l1Cur_of.f s0_0 bt323.2.1 bt323.2.2 (([(⟨#[]⟩:ByteArray),(⟨#[120]⟩:ByteArray),(⟨#[48]⟩:ByteArray),(⟨#[57,57]⟩:ByteArray),(⟨#[48,48,48,48,48,48,48]⟩:ByteArray),(⟨#[49,97]⟩:ByteArray)]:List ByteArray))).bind fun bt329=>(some (bt329.1,bt329.2.1,bt329.2.2))) else (spec_l1Cur_code1.l0 k (⟨#[]⟩:ByteArray) 0 s0_0 bt323.2.1 bt323.2.2 a1_0 a1_1))
set_option maxHeartbeats 8000000 in
set_option maxRecDepth 100000 in
theorem spec_l1Cur_code1.calls (k:Nat) (g:Nat) (s0_0:List Int) (s0_1:Int) (s0_2:Int) (a1_0:Int) (a1_1:Int) (r1:ByteArray) (r2:Int) (r3:Int) (w0 w:World) (hI:IsS71 w0 w g s0_0 s0_1 s0_2) (hB:Below w0.heap.size w0 w) (h:spec_l1Cur_code1.f k s0_0 s0_1 s0_2 a1_0 a1_1=some (r1,r2,r3)) :
    Calls Try.prog 36 #[.pointer (some ⟨g,0,none⟩), .agg #[.int .i64 a1_0, .int .i64 a1_1]] w fun e w'=>e = .returned (.string r1)∧IsS71 w0 w' g s0_0 r2 r3∧Below w0.heap.size w0 w'∧KeepBut w w' g none:=by
  have hu25:=Try.underlying25;have HI0:=amk hI;have HK:=amk (KeepBut.refl w g none);have HL:=amk hB.size;clear hI;have HW0:=amk hB.size;have HB:=amk hB;clear hB;unfold spec_l1Cur_code1.f at h;have H:=h;clear h;replace H:=bE H;obtain ⟨⟨t323,t324,t325⟩,A3,H⟩:=H;(try dsimp only at H);replace H:=iteB H;obtain ⟨rfl,H⟩ | ⟨rfl,H⟩:=H
  · (try rw [Option.bind_some] at H);generalize hy326:(([(⟨#[]⟩:ByteArray),(⟨#[120]⟩:ByteArray),(⟨#[48]⟩:ByteArray),(⟨#[57,57]⟩:ByteArray),(⟨#[48,48,48,48,48,48,48]⟩:ByteArray),(⟨#[49,97]⟩:ByteArray)]:List ByteArray))=y326 at H;have Ny326:=amk hy326.symm;clear hy326;replace H:=bE H;obtain ⟨⟨t329,t330,t331⟩,A5,H⟩:=H;(try dsimp only at H);simp only [Option.some.injEq,Prod.mk.injEq] at H;obtain ⟨rfl,rfl,rfl⟩:=H;go_enter Try.func36,Try.ntmps36;go_wp2_with (first | ((with_reducible refine gate_dst (N:=3) rfl ?_);refine boxG_ 3 #[.int .i64 a1_0, .int .i64 a1_1] 25 ?_;intro gb322 w6 hg BK322 hb;replace HB:=hBI HB hb;have GW322:=kS HK hg;have GE322:=kE HW0 GW322;replace HK:=kT HK hb;have NB0_322:=iL s0_0 s0_1 s0_2 hg;have NB322_0:=iR s0_0 s0_1 s0_2 hg;replace HI0:=amk (IsS71.below bI hb);clear hb hg) | (refine gc_ 34 8 Try.func34 #[.pointer (some ⟨g,0,none⟩), .int .i64 14] ?_;(with_reducible refine (spec_l1Cur_one.calls g s0_0 s0_1 s0_2 14 true t324 t325 w0 _ ?_ ?_ A3.out).mono ?_);exact bI;exact bBI;rintro e w7 ⟨rfl,hi,hb,hk⟩;refine ⟨_,rfl,?_⟩;replace BK322:=kQ BK322 hk NB322_0.out;replace HK:=kT2 HK hk;replace HB:=amk (hb);replace HI0:=amk (hi);(try clear hb);(try clear hk);(try clear hi)) | ((with_reducible refine gate_dst (N:=10) rfl ?_);refine Kd.R_lit Kd.string _ 9 ?hg (N:=10) ?hd (xs:=([(⟨#[]⟩:ByteArray),(⟨#[120]⟩:ByteArray),(⟨#[48]⟩:ByteArray),(⟨#[57,57]⟩:ByteArray),(⟨#[48,48,48,48,48,48,48]⟩:ByteArray),(⟨#[49,97]⟩:ByteArray)]:List ByteArray)) (inner:=[.string (⟨#[]⟩:ByteArray), .string (⟨#[120]⟩:ByteArray), .string (⟨#[48]⟩:ByteArray), .string (⟨#[57,57]⟩:ByteArray), .string (⟨#[48,48,48,48,48,48,48]⟩:ByteArray), .string (⟨#[49,97]⟩:ByteArray)]) (ok:=fun _=>True) (okp:=fun _=>True) ?hr ?hp (fun _ hk=>hk) trivial (Below.refl _ _) (Nat.le_refl _) (by simp) ?_;(case hd=>rfl);(case hg=>rfl);(case hr=>first | (go_simp;done) | (go_simp;rfl));(case hp=>exact (Reps.one (show Kd.M Kd.string _ _ _ (⟨#[]⟩:ByteArray) [.string (⟨#[]⟩:ByteArray)] from rfl) (Reps.one (show Kd.M Kd.string _ _ _ (⟨#[120]⟩:ByteArray) [.string (⟨#[120]⟩:ByteArray)] from rfl) (Reps.one (show Kd.M Kd.string _ _ _ (⟨#[48]⟩:ByteArray) [.string (⟨#[48]⟩:ByteArray)] from rfl) (Reps.one (show Kd.M Kd.string _ _ _ (⟨#[57,57]⟩:ByteArray) [.string (⟨#[57,57]⟩:ByteArray)] from rfl) (Reps.one (show Kd.M Kd.string _ _ _ (⟨#[48,48,48,48,48,48,48]⟩:ByteArray) [.string (⟨#[48,48,48,48,48,48,48]⟩:ByteArray)] from rfl) (Reps.one (show Kd.M Kd.string _ _ _ (⟨#[49,97]⟩:ByteArray) [.string (⟨#[49,97]⟩:ByteArray)] from rfl) (Reps.none _ _))))))));intro v327 w8 ho9 hb hg_ hnew_;clear hg_ hnew_;(first | rw [←Ny326.out] at ho9 | (simp only [Int.reduceToNat] at ho9;rw [←Ny326.out] at ho9));have HO328:=amk (Kd.R_lower ho9 (keep_size (w:=w) (g:=g) (row:=none) bK));replace BK322:=kb2 BK322 hb;replace HK:=kT HK hb;replace HB:=hBI HB hb;replace HI0:=amk (IsS71.below bI hb);clear hb ho9;obtain ⟨Ao10,co10,eo10⟩:=Kd.R_slice HO328.out;subst eo10) | (refine gc_ 72 11 Try.func72 #[.pointer (some ⟨g,0,none⟩), .slice Ao10 y326.length co10] ?_;(with_reducible refine (spec_l1Cur_of.calls g s0_0 t324 t325 _ _ y326 t329 t330 t331 w0 _ ?_ ?_ ?_ ?_ ?_ A5.out).mono ?_);exact bI;exact bBI;exact cB ((Kd.R_reads' HO328.out).2.2);exact (Kd.R_reads' HO328.out).2.1;exact far_slice (IsS71.own_ne HI0.out HO328.out (by decide));rintro e w11 ⟨rfl,hi,hb,hk⟩;refine ⟨_,rfl,?_⟩;replace BK322:=kQ BK322 hk NB322_0.out;replace HO328:=amk (Kd.R_mono (Kd.R_keep (IsS71.apart (show IsS71 w0 _ g s0_0 t324 t325 from bI) (oX HO328) (by decide)) hk (fun _ h=>h.2)) (fun _ h=>h.1));replace HK:=kT2 HK hk;replace HB:=amk (hb);replace HI0:=amk (hi);(try clear hb);(try clear hk);(try clear hi)));go_ret;exact ⟨rF_,bI,bBI,bK⟩
  · have H':=amk H;clear H;go_enter Try.func36,Try.ntmps36;go_wp2_with (first | ((with_reducible refine gate_dst (N:=3) rfl ?_);refine boxG_ 3 #[.int .i64 a1_0, .int .i64 a1_1] 25 ?_;intro gb322 w12 hg BK322 hb;replace HB:=hBI HB hb;have GW322:=kS HK hg;have GE322:=kE HW0 GW322;replace HK:=kT HK hb;have NB0_322:=iL s0_0 s0_1 s0_2 hg;have NB322_0:=iR s0_0 s0_1 s0_2 hg;replace HI0:=amk (IsS71.below bI hb);clear hb hg) | (refine gc_ 34 8 Try.func34 #[.pointer (some ⟨g,0,none⟩), .int .i64 14] ?_;(with_reducible refine (spec_l1Cur_one.calls g s0_0 s0_1 s0_2 14 false t324 t325 w0 _ ?_ ?_ A3.out).mono ?_);exact bI;exact bBI;rintro e w13 ⟨rfl,hi,hb,hk⟩;refine ⟨_,rfl,?_⟩;replace BK322:=kQ BK322 hk NB322_0.out;replace HK:=kT2 HK hk;replace HB:=amk (hb);replace HI0:=amk (hi);(try clear hb);(try clear hk);(try clear hi)))
    go_loopg [5,6] k (fun kq v5 v6 w'=> ∃ (x5_1:ByteArray) (x6_1:Int) (x1001_1:Int) (x1002_1:Int),v5 = .string x5_1∧v6 = .int .i64 x6_1∧Aside0 (spec_l1Cur_code1.l0 kq x5_1 x6_1 s0_0 x1001_1 x1002_1 a1_0 a1_1=some (r1,r2,r3))∧Aside0 (kq≤k)∧Aside0 (w'.heap[gb322]?=some (.cells #[.int .i64 a1_0, .int .i64 a1_1] 25 (0,0)))∧Aside0 (IsS71 w0 w' g s0_0 x1001_1 x1002_1)∧Aside0 (KeepBut w w' g none)∧Aside0 (Below w0.heap.size w0 w'))
    case atStart=>exact ⟨((⟨#[]⟩:ByteArray)),(0),(t324),(t325),rS_,rS_,H',⟨Nat.le_refl _⟩,⟨kB BK322⟩,⟨bI⟩,⟨bK⟩,⟨bBI⟩⟩
    case round =>
      clear H';(try clear p2);(try clear c3);(try clear c4);(try clear c7);obtain ⟨x5_1,x6_1,x1001_1,x1002_1,rfl,rfl,HA,HK1,BK322,HI0,HK,HB⟩:=hrel
      cases gk with
      | zero=>exact absurd HA.out (by simp [spec_l1Cur_code1.l0])
      | succ k1 =>
        have H:=HA.out;clear HA;simp only [spec_l1Cur_code1.l0] at H;have HC14:=amk H;clear H
        go_upto_region 5 with (fail)
        go_cut [19] (fun v19 wc=> ∃ (kq:Nat) (x19_13:Bool),v19 = .bool x19_13∧Aside0 (spec_l1Cur_code1.j1 kq x5_1 x6_1 x19_13 s0_0 x1001_1 x1002_1 a1_0 a1_1=some (r1,r2,r3))∧Aside0 (kq≤k1)∧Aside0 (wc.heap[gb322]?=some (.cells #[.int .i64 a1_0, .int .i64 a1_1] 25 (0,0)))∧Aside0 (IsS71 w0 wc g s0_0 x1001_1 x1002_1)∧Aside0 (KeepBut w wc g none)∧Aside0 (Below w0.heap.size w0 wc))
        case first =>
          have H:=HC14.out;clear HC14;replace H:=iteE H;obtain ⟨c15b0,H⟩ | ⟨c15b0,H⟩:=H
          · (first | rw [c15b0] | (simp only [i64_w,i32_w];rw [c15b0]) | skip);have H':=amk H;clear H;have hnb16:=NB322_0.out;have hnc16:=NB0_322.out;obtain ⟨hcz17_0,hcz17_1,hfz17_0,hfz17_1⟩:=cells2 BK322.out;go_wp2;go_meet
            case rel=>exact ⟨_,(decide (x6_1 < 7)),rS_,H',⟨by have:=HK1.out;first | omega | exact Nat.le_refl _⟩,⟨kB BK322⟩,⟨bI⟩,⟨bK⟩,⟨bBI⟩⟩
          · (first | rw [c15b0] | (simp only [i64_w,i32_w];rw [c15b0]) | skip);have H':=amk H;clear H;have hnb18:=NB322_0.out;have hnc18:=NB0_322.out;obtain ⟨hcz19_0,hcz19_1,hfz19_0,hfz19_1⟩:=cells2 BK322.out;go_wp2;go_meet
            case rel=>exact ⟨_,(false),rS_,H',⟨by have:=HK1.out;first | omega | exact Nat.le_refl _⟩,⟨kB BK322⟩,⟨bI⟩,⟨bK⟩,⟨bBI⟩⟩
        case rest =>
          clear HC14;(try clear c1);(try clear p2);(try clear c3);(try clear c4);(try clear c7);(try clear c15);(try clear c15b0);(try clear c16);(try clear c18);(try clear hcz17_0);(try clear hcz17_1);(try clear hcz19_0);(try clear hcz19_1);(try clear hfz17_0);(try clear hfz17_1);(try clear hfz19_0);(try clear hfz19_1);(try clear p2);obtain ⟨kq,x19_13,rfl,HA,HJ13,BK322,HI0,HK,HB⟩:=hcut
          cases kq with
          | zero=>exact absurd HA.out (by simp [spec_l1Cur_code1.j1])
          | succ kj13 =>
            have H:=HA.out;clear HA;simp only [spec_l1Cur_code1.j1] at H;replace H:=iteB H;obtain ⟨rfl,H⟩ | ⟨rfl,H⟩:=H
            · replace H:=bE H;obtain ⟨t332,A21,H⟩:=H;replace H:=bE H;obtain ⟨t333,A22,H⟩:=H;replace H:=bE H;obtain ⟨⟨t334,t335,t336⟩,A23,H⟩:=H;(try dsimp only at H);replace H:=bE H;obtain ⟨t337,A24,H⟩:=H
              by_cases c25:x5_1.size + t337.size≤9223372036854775807
              · rw [if_pos c25] at H;have c25b0:=eq_true c25;have c25b1:decide (x5_1.size + t337.size≤9223372036854775807)=true:=decide_eq_true c25;(try have c25b2:(9223372036854775807 < x5_1.size + t337.size)=False:=eq_false (Nat.not_lt.2 c25));have H':=amk H;clear H;have hnb26:=NB322_0.out;have hnc26:=NB0_322.out;obtain ⟨hcz27_0,hcz27_1,hfz27_0,hfz27_1⟩:=cells2 BK322.out;go_wp2_with (first | (refine gc_ 75 26 Try.func75 #[.int .i64 1, .int .i64 a1_1] ?_;(with_reducible refine (spec_l1Most.calls 1 a1_1 t332 _ A21.out).mono ?_);rintro e w' ⟨rfl,⟨nd,rfl⟩⟩;refine ⟨_,rfl,?_⟩) | (refine gc_ 74 27 Try.func74 #[.int .i64 10, .int .i64 t332] ?_;(with_reducible refine (spec_l1Least.calls 10 t332 t333 _ A22.out).mono ?_);rintro e w' ⟨rfl,⟨nd,rfl⟩⟩;refine ⟨_,rfl,?_⟩) | (refine gc_ 39 28 Try.func39 #[.pointer (some ⟨g,0,none⟩), .int .i64 t333] ?_;(with_reducible refine (spec_l1Cur_pick.calls g s0_0 x1001_1 x1002_1 t333 t334 t335 t336 w0 _ ?_ ?_ A23.out).mono ?_);exact bI;exact bBI;rintro e w28 ⟨rfl,hi,hb,hk⟩;refine ⟨_,rfl,?_⟩;replace BK322:=kQ BK322 hk NB322_0.out;replace HK:=kT2 HK hk;replace HB:=amk (hb);replace HI0:=amk (hi);(try clear hb);(try clear hk);(try clear hi)) | (refine gc_ 73 29 Try.func73 #[.int .i64 t334] ?_;(with_reducible refine (spec_l1Num.calls kj13 t334 t337 _ A24.out).mono ?_);rintro e w29 ⟨rfl,hb⟩;refine ⟨_,rfl,?_⟩;replace BK322:=kb2 BK322 hb;replace HK:=kT HK hb;replace HB:=hBI HB hb;replace HI0:=amk (IsS71.below bI hb);(try clear hb)));go_roundg kj13
                case measure=>have:=HK1.out;have:=HJ13.out;omega
                case rel=>exact ⟨(x5_1 ++ t337),(wrap64 (x6_1 + 1)),(t335),(t336),rS_,rS_,H',⟨by have:=HK1.out;have:=HJ13.out;omega⟩,⟨kB BK322⟩,⟨bI⟩,⟨bK⟩,⟨bBI⟩⟩
              · rw [if_neg c25] at H;exact absurd H (by simp)
            · simp only [Option.some.injEq,Prod.mk.injEq] at H;obtain ⟨rfl,rfl,rfl⟩:=H;go_wp2;go_ret;exact ⟨rF_,bI,bBI,bK⟩
/-! The draw of a code comes to an end. -/
theorem dcode1_loop {s:List Int} (hs:BytesV s) (p d:Int) : ∀ (m i:Nat) (out:ByteArray) (a b:Int),i + m=7→0≤a→a + m≤90001000→out.size≤i→∃ t a' b',Ev (fun k=>spec_l1Cur_code1.l0 k out (i:Nat) s a b p d) (t,a',b')∧a≤a'∧a'≤a + m:=by
  intro m
  have stop : ∀ (i:Nat) (out:ByteArray) (a b:Int),Ev (fun k=>spec_l1Cur_code1.j1 k out (i:Nat) false s a b p d) (out,a,b):=fun i out a b=>by
    refine Ev.step (fun k=>rfl) ?_
    simp only [spec_l1Cur_code1.j1]
    first
    | exact Ev.no (by decide) (Ev.now _)
    | exact Ev.no (by simp) (Ev.now _)
    | exact Ev.now _
  obtain ⟨m1,hm1,hm2⟩ : ∃ m1:Int,spec_l1Most.f 1 d=some m1∧1≤m1:=by
    unfold spec_l1Most.f
    by_cases h:1 > d
    · exact ⟨1,by rw [if_pos h],Int.le_refl _⟩
    · exact ⟨d,by rw [if_neg h],by omega⟩
  obtain ⟨m2,hm3,hm4⟩ : ∃ m2:Int,spec_l1Least.f 10 m1=some m2∧1≤m2∧m2≤10:=by
    unfold spec_l1Least.f
    by_cases h:10 < m1
    · exact ⟨10,by rw [if_pos h],by omega,by omega⟩
    · exact ⟨m1,by rw [if_neg h],by omega,by omega⟩
  induction m with
  | zero =>
    intro i out a b hi h0 h1 hz
    have hd:decide ((i:Int) < 7)=false:=decide_eq_false (by omega)
    refine ⟨out,a,b,Ev.step (fun k=>rfl) ?_,by omega,by omega⟩
    simp only [spec_l1Cur_code1.l0,hd]
    by_cases hp:(i:Int) < p
    · exact Ev.yes hp (stop i out a b)
    · exact Ev.no hp (stop i out a b)
  | succ m ih =>
    intro i out a b hi h0 h1 hz
    have hd:decide ((i:Int) < 7)=true:=decide_eq_true (by omega)
    by_cases hp:(i:Int) < p
    · obtain ⟨r,a2,b2,e2,r0,r1,g1,g2⟩:=dpick_ok hs h0 (by omega) b (n:=m2) (by omega)
      have hn:=spec_l1Num.one (x:=r) (by omega)
      have hsz:(strOfNums [wrap64 (48 + r) % 256]).size=1:=strOfNums_size _
      obtain ⟨t,a',b',e3,g3,g4⟩:=ih (i + 1) (out ++ strOfNums [wrap64 (48 + r) % 256]) a2 b2 (by omega) (by omega) (by omega) (by rw [ByteArray.size_append];omega)
      rw [show (((i + 1:Nat):Int))=wrap64 ((i:Int) + 1) from (w64 (by omega) (by omega)).symm] at e3
      refine ⟨t,a',b',Ev.step (fun k=>rfl) ?_,by omega,by omega⟩
      simp only [spec_l1Cur_code1.l0,hd]
      refine Ev.yes hp (Ev.step (fun k=>rfl) ?_)
      simp only [spec_l1Cur_code1.j1]
      first
      | exact Ev.yes rfl (Ev.bindc hm1 (Ev.bindc hm3 (Ev.bindc e2 (Ev.bind hn (Ev.yes (by omega) e3)))))
      | exact Ev.yes trivial (Ev.bindc hm1 (Ev.bindc hm3 (Ev.bindc e2 (Ev.bind hn (Ev.yes (by omega) e3)))))
      | exact Ev.bindc hm1 (Ev.bindc hm3 (Ev.bindc e2 (Ev.bind hn (Ev.yes (by omega) e3))))
    · refine ⟨out,a,b,Ev.step (fun k=>rfl) ?_,by omega,by omega⟩
      simp only [spec_l1Cur_code1.l0]
      exact Ev.no hp (stop i out a b)
theorem dcode1_ok {s:List Int} (hs:BytesV s) {a:Int} (h0:0≤a) (h1:a≤90000000) (b p d:Int) : ∃ t a' b',Ev (fun k=>spec_l1Cur_code1.f k s a b p d) (t,a',b')∧a≤a'∧a'≤a + 9:=by
  obtain ⟨q,a1,b1,e1,g1,g2⟩:=done_ok hs h0 (by omega) b (n:=14) (by omega)
  unfold spec_l1Cur_code1.f
  cases q with
  | true =>
    obtain ⟨t,a2,b2,e2,_,g3,g4⟩:=dof_ok hs (a:=a1) (by omega) (by omega) b1 (l:=[(⟨#[]⟩:ByteArray),(⟨#[120]⟩:ByteArray),(⟨#[48]⟩:ByteArray),(⟨#[57,57]⟩:ByteArray),(⟨#[48,48,48,48,48,48,48]⟩:ByteArray),(⟨#[49,97]⟩:ByteArray)]) (by decide) (by decide)
    exact ⟨t,a2,b2,Ev.bindc e1 (Ev.yes rfl (Ev.bindc e2 (Ev.now _))),by omega,by omega⟩
  | false =>
    obtain ⟨t,a2,b2,e2,g3,g4⟩:=dcode1_loop hs p d 7 0 ⟨#[]⟩ a1 b1 (by omega) (by omega) (by omega) (Nat.le_refl _)
    exact ⟨t,a2,b2,Ev.bindc e1 (Ev.no (by simp) e2),by omega,by omega⟩
/-! Declarations moved out of EDead. -/
theorem wr_big {c:Nat} (h:c≤9223372036854775806):wrap64 ((c:Int) + 1)=((c + 1:Nat):Int):=w64 (by omega) (by omega)
/-! Which texts are codes of a lock. -/
theorem impl_has.lev {w d:Int} (hl:lockB w d=true) (l:List ByteArray) (hn:l.length≤9223372036854775807) : ∀ (m i:Nat),i + m=l.length→Ev (fun k=>impl_has.l0 k l (l.length:Int) (i:Nat) w d) ((l.drop i).all (codeT w d)):=by
  intro m
  induction m with
  | zero =>
    intro i hi
    refine Ev.step (fun k=>rfl) (Ev.no (by omega) (Ev.id ?_))
    rw [List.drop_eq_nil_of_le (by omega)];rfl
  | succ m ih =>
    intro i hi
    have hlt:i < l.length:=by omega
    refine Ev.step (fun k=>rfl) (Ev.yes (by omega) (Ev.yes (by omega) (Ev.yes (by omega) ?_)))
    rw [rd_str hlt,List.drop_eq_getElem_cons hlt,List.all_cons]
    refine Ev.bind (impl_Lock_isCode.ev hl _) ?_
    cases codeT w d l[i] with
    | false=>exact Ev.no (by simp) (Ev.id rfl)
    | true =>
      refine Ev.yes rfl ?_
      rw [wr_big (by omega),Bool.true_and]
      exact ih (i + 1) (by omega)
theorem impl_has.ev (w d:Int) (l:List ByteArray) (hn:l.length≤9223372036854775807):Ev (fun k=>impl_has.f k w d l) (lockB w d && l.all (codeT w d)):=by
  unfold impl_has.f
  refine Ev.bindc (impl_IsLock.is w d) ?_
  cases h:lockB w d with
  | false=>exact Ev.no (by simp) (Ev.id rfl)
  | true =>
    refine Ev.yes rfl ?_
    have:=impl_has.lev h l hn l.length 0 (by omega)
    rw [Bool.true_and]
    simpa using this
/-! First codes, distances, hints and numbers of codes: what they come to. -/
theorem impl_ZeroCode.is (w d:Int):impl_ZeroCode.f w d=some (if lockB w d=true then (codeB w d 0,true) else (⟨#[]⟩,false)):=by
  unfold impl_ZeroCode.f
  rw [impl_IsLock.is,Option.bind_some]
  cases h:lockB w d with
  | false=>rfl
  | true=>rw [if_pos rfl,impl_Lock_code.is h (by omega) (by omega)];rfl
theorem codeT_code {w d:Int} {s:ByteArray} : codeT w d s=true ↔ codeS w d s:=by unfold codeT codeS;rw [decide_eq_true_eq]
theorem impl_FewestTurns.ev {w d:Int} (hl:lockB w d=true) {s t:ByteArray} (hs:codeS w d s) (ht:codeS w d t):Ev (fun k=>impl_FewestTurns.f k w d s t) (distF d s t w.toNat,true):=by
  unfold impl_FewestTurns.f
  have h:=impl_has.ev w d [s,t] (by simp)
  rw [hl,show [s,t].all (codeT w d)=true by simp [codeT_code.mpr hs,codeT_code.mpr ht]] at h
  exact Ev.bind h (Ev.yes rfl (Ev.bind (impl_Lock_distance.ev hl hs ht) (Ev.now _)))
theorem impl_HintOf.ev {w d:Int} (h1:smallB w d 1000=true) {s t:ByteArray} (hs:codeS w d s) (ht:codeS w d t):Ev (fun k=>impl_HintOf.f k w d s t) (plN s t s.size,cmN s t s.size 10 - plN s t s.size,true):=by
  have hl:lockB w d=true:=by unfold smallB at h1;rw [Bool.and_eq_true] at h1;exact h1.1
  unfold impl_HintOf.f impl_isHinted.f
  have h:=impl_has.ev w d [s,t] (by simp)
  rw [hl,show [s,t].all (codeT w d)=true by simp [codeT_code.mpr hs,codeT_code.mpr ht]] at h
  have h2:=impl_isSmall.ev w d 1000
  rw [h1] at h2
  have hh:impl_hint.f s t=some (plN s t s.size,cmN s t s.size 10 - plN s t s.size):=by unfold impl_hint.f;rw [if_pos (codeS_hint hl hs ht)]
  exact Ev.bind (Ev.bind h2 (Ev.yes rfl (Ev.bind h (Ev.now _)))) (Ev.yes rfl (Ev.bindc hh (Ev.now _)))
theorem impl_NumberOfCode.ev {w d:Int} (hl:lockB w d=true) {s:ByteArray} (hs:codeS w d s):Ev (fun k=>impl_NumberOfCode.f k w d s) (numF d 0 (dg s),true):=by
  unfold impl_NumberOfCode.f
  have h:=impl_has.ev w d [s] (by simp)
  rw [hl,show [s].all (codeT w d)=true by simp [codeT_code.mpr hs]] at h
  exact Ev.bind h (Ev.yes rfl (Ev.bind (impl_Lock_number.ev hl hs) (Ev.now _)))
/-! The draw of a lock, a clue and a code: printed by gendraw.py. -/
def spec_DrawDoesFit.T3:Bool×List (List Nat×List Nat):=(true,[([],[]),([],[]),([],[]),([2],[2]),([0,1,3,3],[0,1,3]),([4],[4]),([5],[5]),([5],[5]),([],[]),([8,6,4,0,1,2,3,4,5,6,8],[6,8]),([7,9,0,1,2,3,4,5,6,7,8,9],[7])])
def spec_DrawDoesFit.Bq3:List Nat:=[0,0,0,4,15,31,63,63,0,383,1023]
theorem spec_DrawDoesFit.tab3:rtab .any (opsOf Try.f29 3)=spec_DrawDoesFit.T3:=by kernel_rfl
theorem spec_DrawDoesFit.bits3:waitsOk spec_DrawDoesFit.T3.2 spec_DrawDoesFit.Bq3=true:=by kernel_rfl
def spec_DrawDoesFit.T5:Bool×List (List Nat×List Nat):=(true,[([],[]),([],[]),([1],[1]),([2],[2]),([3],[3]),([],[]),([0,0],[0]),([4,6,0,1,2,3,4,6],[4]),([5,7,0,1,2,3,4,5,6,7],[5])])
def spec_DrawDoesFit.Bq5:List Nat:=[0,0,2,6,14,0,1,95,255]
theorem spec_DrawDoesFit.tab5:rtab .any (opsOf Try.f29 5)=spec_DrawDoesFit.T5:=by kernel_rfl
theorem spec_DrawDoesFit.bits5:waitsOk spec_DrawDoesFit.T5.2 spec_DrawDoesFit.Bq5=true:=by kernel_rfl
def spec_DrawDoesFit.T9:Bool×List (List Nat×List Nat):=(true,[([],[]),([],[]),([1],[1]),([],[]),([0,2,0],[0]),([2,4,0,1,2,4],[2]),([3,5,0,1,2,3,4,5],[3])])
def spec_DrawDoesFit.Bq9:List Nat:=[0,0,2,0,7,23,63]
theorem spec_DrawDoesFit.tab9:rtab .any (opsOf Try.f29 9)=spec_DrawDoesFit.T9:=by kernel_rfl
theorem spec_DrawDoesFit.bits9:waitsOk spec_DrawDoesFit.T9.2 spec_DrawDoesFit.Bq9=true:=by kernel_rfl
/-- The state with a box of one's own. -/
def DAx (w:World) (o1 o2:Obj) (g:Nat) (o:Obj) (l:List Int) (W:World) (a b:Int):Prop:=DA w o1 o2 l W a b∧W.heap[g]?=some o
theorem DAx_keep {w W W2:World} {o1 o2 o:Obj} {g:Nat} {l:List Int} {a b a2 b2:Int} (h:DAx w o1 o2 g o l W a b) (hg:w.heap.size + 1 + 1 < g) (i2:IsS71 w W2 (w.heap.size + 1 + 1) l a2 b2) (hb:Below w.heap.size w W2) (hk:KeepBut W W2 (w.heap.size + 1 + 1) none):DAx w o1 o2 g o l W2 a2 b2:=
  ⟨DA_keep h.1 i2 hb hk,(hk.2 _ (blk_lt h.2) (by omega) (by simp)).trans h.2⟩
theorem DAx_below {w W W2:World} {o1 o2 o:Obj} {g:Nat} {l:List Int} {a b:Int} (h:DAx w o1 o2 g o l W a b) (hb:Below W.heap.size W W2):DAx w o1 o2 g o l W2 a b:=⟨DA_below h.1 hb,blk_below h.2 hb⟩
theorem DAx_far {w W:World} {o1 o2 o:Obj} {g q:Nat} {l:List Int} {a b:Int} (h:DAx w o1 o2 g o l W a b) (hg:w.heap.size + 1 + 1 < g) (hq:g < q) (x y z:Value):DAx w o1 o2 g o l (st3 W q x y z) a b:=by
  have f : ∀ k,k≠q→(st3 W q x y z).heap[k]?=W.heap[k]?:=fun k hk=>far3 hk x y z
  obtain ⟨⟨hI,hB,h1,h2⟩,h3⟩:=h
  refine ⟨⟨?_,below3 hB (by omega) x y z,(f _ (by omega)).trans h1,(f _ (by omega)).trans h2⟩,(f _ (by omega)).trans h3⟩
  exact IsS71.far (IsS71.far (IsS71.far hI (p:=⟨q,0,none⟩) (by show w.heap.size + 1 + 1≠q;omega) x) (p:=⟨q,1,none⟩) (by show w.heap.size + 1 + 1≠q;omega) y) (p:=⟨q,2,none⟩) (by show w.heap.size + 1 + 1≠q;omega) z
theorem cell_eqF {W W2:World} {p:Addr} (h:W2.heap[p.block]?=W.heap[p.block]?):W2.cell? p=W.cell? p:=by simp only [World.cell?,h]
theorem cf2 {W:World} {q:Nat} {x y:Value} {a:Addr} {v:Option Value} (h:W.cell? a=v) (hne:a.block≠q):(st2 W q x y).cell? a=v:=(cell_eqF (far2 hne x y)).trans h
theorem cf3 {W:World} {q:Nat} {x y z:Value} {a:Addr} {v:Option Value} (h:W.cell? a=v) (hne:a.block≠q):(st3 W q x y z).cell? a=v:=(cell_eqF (far3 hne x y z)).trans h
theorem results_cct {P:Program} {fn:Func} {p p' u:Tmp} {ty ty':TypeId} (h:fn.results = #[.cell p ty, .cell p' ty', .tmp u]) (tmps:Array Value) (w:World) (g g':Nat) (t t':TypeId) (cs cs':Array Value) (fr fr':Nat×Nat) (d d':TypeDesc)
    (hp:tmps.getD p undef = .pointer (some ⟨g,0,none⟩)) (hg:w.heap[g]?=some (.cells cs t fr))
    (hu:P.underlying ty=some d) (hd:(match d with | .struct _ | .array _ _=>true | _=>false)=true) (hi:(P.info? ty).map (·.size)=some cs.size)
    (hp':tmps.getD p' undef = .pointer (some ⟨g',0,none⟩)) (hg':w.heap[g']?=some (.cells cs' t' fr'))
    (hu':P.underlying ty'=some d') (hd':(match d' with | .struct _ | .array _ _=>true | _=>false)=true) (hi':(P.info? ty').map (·.size)=some cs'.size) :
    (results fn tmps).run P w = .ok (.tuple #[.agg cs, .agg cs',tmps.getD u undef]) w:=by
  have h1:tmps[p]?.getD undef = .pointer (some ⟨g,0,none⟩):=by simpa using hp
  have h2:tmps[p']?.getD undef = .pointer (some ⟨g',0,none⟩):=by simpa using hp'
  simp [results,h,h1,h2,asAddr,run_loadVar_row w g t ty cs fr d hg hu hd hi,run_loadVar_row w g' t' ty' cs' fr' d' hg' hu' hd' hi']
set_option maxHeartbeats 8000000 in
set_option maxRecDepth 100000 in
theorem spec_DrawDoesFit.one (A:Option Addr) (c:Nat) (l:List Int) (w:World) (k3 k4:Nat) (a1 b1 a2 b2 a3 b3 p d x y z m:Int) (s:ByteArray) (hr:Kd.C (Kd.int .u8) w A l.length l) (e1:spec_l1Cur_hidden.f k3 l 0 0=some (p,d,s,a1,b1)) (e2:spec_l1Cur_pick.f l a1 b1 10000=some (m,a2,b2)) (e3:spec_MakePuzzle.f k4 p d s 1 m=some (p,d,[(⟨x,y,z⟩:S44)],true)) (e4:spec_l1Cur_one.f l a2 b2 3=some (true,a3,b3)) :
    Calls Try.prog 29 #[.slice A l.length c] w fun e w'=> ∃ (p d x y z:Int) (s:ByteArray),e = .returned (.tuple #[.agg #[.int .i64 p, .int .i64 d], .agg #[.int .i64 x, .int .i64 y, .int .i64 z], .string s])∧Below w.heap.size w w':=by
  have hu:=Try.underlying71
  have hu2:=Try.underlying25
  have hu3:=Try.underlying44
  have hu4:=Try.underlying30
  have hu5:=Try.underlying28
  have S0:=amk (DA_new (c:=c) zLk zCl hr);have E1:=amk e1;have E2:=amk e2;have E3:=amk e3;have E4:=amk e4;clear hr e1 e2 e3 e4
  go_enter Try.func29,Try.ntmps29
  go_upto_region 3 with (go_at_call 38;refine Calls.mono (spec_l1Cur_hidden.calls k3 (w.heap.size + 1 + 1) l 0 0 p d s a1 b1 w _ S0.out.1 S0.out.2.1 E1.out) ?_;rintro e w2 ⟨rfl,hi2,hb2,hk2⟩;have HG:=amk (show w.heap.size + 1 + 1 < w2.heap.size from hi2.lt);have S2:=amk (show DAx w zLk zCl w2.heap.size (.cells #[.int .i64 p, .int .i64 d] 25 (0,0)) l (w2.alloc (.cells #[.int .i64 p, .int .i64 d] 25 (0,0))) a1 b1 from ⟨DA_below (DA_keep S0.out hi2 hb2 hk2) ((Below.refl _ w2).alloc (Nat.le_refl _) _),blk_new _ _⟩);clear hi2 hb2 hk2)
  generalize w2.heap.size=gL at HG S2 ⊢
  refine start_ (n:=11) (S:=fun w'=>w'.cell? ⟨gL,0,none⟩=some (.int .i64 p)∧w'.cell? ⟨gL,1,none⟩=some (.int .i64 d)) (ds:=[]) (bA 11 0) (by kernel_rfl) rfl rfl ⟨(blk_cell S2.out.2 0).trans rfl,(blk_cell S2.out.2 1).trans rfl⟩ (fun hHeld=>?_);refine with_tabW spec_DrawDoesFit.tab3 spec_DrawDoesFit.bits3 (fun HT_ HW_=>?_)
  have S3:=amk (DAx_below S2.out (bd_ (Below.refl _ _)));clear S2
  generalize World.drew _=W at S3 hHeld ⊢
  refine tK_ HT_ HW_ hHeld 0 (some 19) (bA 11 1) ?_
  refine pU_ HT_ 1 (some 20) (bA 11 3) ?_
  refine pU_ HT_ 2 (some 21) (bA 11 7) ?_
  refine join_ (σ:=Option Addr×Nat×Nat) 2 (bA 11 511) (fun s_=> [(22, .int .i64 m),(23, .tuple #[.agg #[.int .i64 p, .int .i64 d, .slice s_.1 1 s_.2.1], .bool true]),(18, .tuple #[.agg #[.int .i64 p, .int .i64 d, .slice s_.1 1 s_.2.1], .bool true]),(24, .agg #[.int .i64 p, .int .i64 d, .slice s_.1 1 s_.2.1]),(25, .bool true),(8, .pointer (some ⟨s_.2.2,0,none⟩))]) (fun s_ w'=>(w'.cell? ⟨gL,0,none⟩=some (.int .i64 p)∧w'.cell? ⟨gL,1,none⟩=some (.int .i64 d))∧(DAx w zLk zCl gL (.cells #[.int .i64 p, .int .i64 d] 25 (0,0)) l w' a2 b2)∧(Kd.R k44 44 w' gL (fun k_=>gL < k_∧k_≠s_.2.2) (.slice s_.1 [(⟨x,y,z⟩:S44)].length s_.2.1) [(⟨x,y,z⟩:S44)])∧(w'.heap[s_.2.2]?=some zPz∧gL < s_.2.2)) ?_ ?_
  · rintro ⟨A2,c2,gP⟩ W ⟨h_held,h_S3,h_RR,h_BP⟩
    (try dsimp only at h_held h_S3 h_RR h_BP)
    have hHeld:=h_held;have S3:=amk h_S3;have RR:=amk h_RR;have BP:=amk h_BP;clear h_held h_S3 h_RR h_BP
    refine norm_ (a':=?_) ?_ ?_;rotate_left
    · simp only [putAll,Act.put,List.setIfInBounds_toArray,List.set_cons_zero,List.set_cons_succ]
      rfl
    refine oN_ HT_ 9 none (bA 11 1023) (fun K hK=>?_);obtain ⟨z0,z1,z2,z3,z4,z5⟩:=cells3 BP.out.1;refine skip_ (w1:=?_) (by rfl) rfl ?_ ?_;rotate_left
    · go_simp;rfl
    have S5:=amk (DAx_far S3.out HG.out BP.out.2 (.int .i64 p) (.int .i64 d) (.slice A2 1 c2));have BQ:=amk (three_set BP.out.1 (.int .i64 p) (.int .i64 d) (.slice A2 1 c2));have RS:=amk (R_st3 RR.out (fun k hk=>hk.2) (.int .i64 p) (.int .i64 d) (.slice A2 1 c2));have HP:=amk BP.out.2;refine hK.out _ _ ⟨(blk_cell S5.out.2 0).trans rfl,(blk_cell S5.out.2 1).trans rfl⟩ (fun hHeld=>?_);clear hK K
    clear z0 z1 z2 z3 z4 z5 S3 BP RR
    refine pU_ HT_ 10 (some 9) (bA 11 2047) ?_
    refine done_ (done_of HT_.out (by kernel_rfl)) ?_;(try dsimp only [st3] at S5 BQ RS);generalize ((W.setCell ⟨gP,0,none⟩ (.int .i64 p)).setCell ⟨gP,1,none⟩ (.int .i64 d)).setCell ⟨gP,2,none⟩ (.slice A2 1 c2)=W3 at S5 BQ RS ⊢
    go_upto_region 5 with (go_at_call 34;refine Calls.mono (spec_l1Cur_one.calls (w.heap.size + 1 + 1) l a2 b2 3 true a3 b3 w _ S5.out.1.1 S5.out.1.2.1 E4.out) ?_;rintro e W4 ⟨rfl,hi2,hb2,hk2⟩;have S6:=amk (DAx_keep S5.out HG.out hi2 hb2 hk2);have BR:=amk ((hk2.2 _ (blk_lt BQ.out) (Nat.ne_of_gt (Nat.lt_trans HG.out HP.out)) (by simp)).trans BQ.out);have RT:=amk (Kd.R_keep RS.out hk2 (fun k hk=>Nat.ne_of_gt (Nat.lt_trans HG.out hk.1)));clear hi2 hb2 hk2)
    have HC:=(Kd.R_reads' RT.out).2.2;obtain ⟨ad,e0,x0,x1,x2⟩:=at_T44 HC 0 (by decide) (by simp);cases e0;clear HC;have HA:=amk (show gL < ad.block from (RT.out.1 ad.block rfl).1)
    rw [show ad.add ((0:Int).toNat * 3)=ad from by simp [Addr.add]] at x0 x1 x2
    refine start_ (n:=9) (S:=fun w'=>w'.cell? ⟨gL,0,none⟩=some (.int .i64 p)∧w'.cell? ⟨gL,1,none⟩=some (.int .i64 d)∧w'.cell? ⟨gP,2,none⟩=some (.slice (some ad) 1 c2)∧w'.cell? ad=some (.int .i64 x)∧w'.cell? ⟨ad.block,ad.off + 1,none⟩=some (.int .i64 y)∧w'.cell? ⟨ad.block,ad.off + 2,none⟩=some (.int .i64 z)) (ds:=[]) (bA 9 0) (by kernel_rfl) rfl rfl ⟨(blk_cell S6.out.2 0).trans rfl,(blk_cell S6.out.2 1).trans rfl,(blk_cell BR.out 2).trans rfl,x0,x1,x2⟩ (fun hHeld=>?_);refine with_tabW spec_DrawDoesFit.tab5 spec_DrawDoesFit.bits5 (fun HT_ HW_=>?_)
    have S7:=amk (DAx_below S6.out (bd_ (Below.refl _ _)));clear S6 S5 BQ RS
    generalize World.drew _=W5 at S7 hHeld ⊢
    refine tK_ HT_ HW_ hHeld 0 (some 31) (bA 9 1) ?_
    refine pU_ HT_ 1 (some 32) (bA 9 3) ?_
    refine tK_ HT_ HW_ hHeld 2 (some 33) (bA 9 7) ?_
    refine pU_ HT_ 3 (some 34) (bA 9 15) ?_
    refine tK_ HT_ HW_ hHeld 4 (some 35) (bA 9 31) ?_
    refine pU_ HT_ 5 (some 36) (bA 9 63) ?_
    refine oN_ HT_ 6 none (bA 9 127) (fun K hK=>?_);obtain ⟨z0,z1,z2,z3⟩:=cells2 S7.out.1.2.2.1;refine skip_ (w1:=?_) (by rfl) rfl ?_ ?_;rotate_left
    · go_simp;rfl
    have H1:=amk (two_set S7.out.1.2.2.1 (.int .i64 p) (.int .i64 d));have H2:=amk (below2 S7.out.1.2.1 (Nat.le_refl _) (.int .i64 p) (.int .i64 d));have H3:=amk ((far2 (W:=W5) (Nat.ne_of_gt (Nat.lt_succ_self w.heap.size)) (.int .i64 p) (.int .i64 d)).trans S7.out.1.2.2.2);refine hK.out _ _ ⟨cf2 hHeld.1 (Nat.ne_of_gt (Nat.lt_trans (Nat.lt_trans (Nat.lt_succ_self _) (Nat.lt_succ_self _)) HG.out)),cf2 hHeld.2.1 (Nat.ne_of_gt (Nat.lt_trans (Nat.lt_trans (Nat.lt_succ_self _) (Nat.lt_succ_self _)) HG.out)),cf2 hHeld.2.2.1 (Nat.ne_of_gt (Nat.lt_trans (Nat.lt_trans (Nat.lt_succ_self _) (Nat.lt_succ_self _)) (Nat.lt_trans HG.out HP.out))),cf2 hHeld.2.2.2.1 (Nat.ne_of_gt (Nat.lt_trans (Nat.lt_trans (Nat.lt_succ_self _) (Nat.lt_succ_self _)) (Nat.lt_trans HG.out HA.out))),cf2 hHeld.2.2.2.2.1 (Nat.ne_of_gt (Nat.lt_trans (Nat.lt_trans (Nat.lt_succ_self _) (Nat.lt_succ_self _)) (Nat.lt_trans HG.out HA.out))),cf2 hHeld.2.2.2.2.2 (Nat.ne_of_gt (Nat.lt_trans (Nat.lt_trans (Nat.lt_succ_self _) (Nat.lt_succ_self _)) (Nat.lt_trans HG.out HA.out)))⟩ (fun hHeld=>?_);clear hK K
    clear z0 z1 z2 z3
    (try dsimp only [st2] at hHeld H1 H2 H3);generalize (W5.setCell ⟨w.heap.size,0,none⟩ (.int .i64 p)).setCell ⟨w.heap.size,1,none⟩ (.int .i64 d)=W6 at hHeld H1 H2 H3 ⊢
    refine oN_ HT_ 7 none (bA 9 255) (fun K hK=>?_);obtain ⟨z0,z1,z2,z3,z4,z5⟩:=cells3 H3.out;refine skip_ (w1:=?_) (by rfl) rfl ?_ ?_;rotate_left
    · go_simp;rfl
    have G1:=amk ((far3 (W:=W6) (Nat.ne_of_lt (Nat.lt_succ_self w.heap.size)) (.int .i64 x) (.int .i64 y) (.int .i64 z)).trans H1.out);have G2:=amk (three_set H3.out (.int .i64 x) (.int .i64 y) (.int .i64 z));have G3:=amk (below3 H2.out (Nat.le_succ _) (.int .i64 x) (.int .i64 y) (.int .i64 z));refine hK.out _ _ ⟨cf3 hHeld.1 (Nat.ne_of_gt (Nat.lt_trans (Nat.lt_succ_self _) HG.out)),cf3 hHeld.2.1 (Nat.ne_of_gt (Nat.lt_trans (Nat.lt_succ_self _) HG.out)),cf3 hHeld.2.2.1 (Nat.ne_of_gt (Nat.lt_trans (Nat.lt_succ_self _) (Nat.lt_trans HG.out HP.out))),cf3 hHeld.2.2.2.1 (Nat.ne_of_gt (Nat.lt_trans (Nat.lt_succ_self _) (Nat.lt_trans HG.out HA.out))),cf3 hHeld.2.2.2.2.1 (Nat.ne_of_gt (Nat.lt_trans (Nat.lt_succ_self _) (Nat.lt_trans HG.out HA.out))),cf3 hHeld.2.2.2.2.2 (Nat.ne_of_gt (Nat.lt_trans (Nat.lt_succ_self _) (Nat.lt_trans HG.out HA.out)))⟩ (fun hHeld=>?_);clear hK K
    clear z0 z1 z2 z3 z4 z5
    refine pU_ HT_ 8 (some 4) (bA 9 511) ?_
    refine done_ (done_of HT_.out (by kernel_rfl)) ?_
    try go_wp2
    (try simp only [Exit.inBlock,Exit.then])
    refine bodyPost_ret (results_cct rfl _ _ w.heap.size (w.heap.size + 1) 25 44 #[.int .i64 p, .int .i64 d] #[.int .i64 x, .int .i64 y, .int .i64 z] (0,0) (0,0) _ _ rfl G1.out Try.underlying25 rfl (by kernel_rfl) rfl G2.out Try.underlying44 rfl (by kernel_rfl)) rfl ?_
    exact ⟨p,d,x,y,z,s,rfl,G3.out⟩
  intro hJ_3_4_8
  refine join_ (σ:=Option Addr×Nat) 3 (bA 11 255) (fun s_=> [(22, .int .i64 m),(23, .tuple #[.agg #[.int .i64 p, .int .i64 d, .slice s_.1 1 s_.2], .bool true]),(18, .tuple #[.agg #[.int .i64 p, .int .i64 d, .slice s_.1 1 s_.2], .bool true]),(24, .agg #[.int .i64 p, .int .i64 d, .slice s_.1 1 s_.2]),(25, .bool true)]) (fun s_ w'=>(w'.cell? ⟨gL,0,none⟩=some (.int .i64 p)∧w'.cell? ⟨gL,1,none⟩=some (.int .i64 d))∧(DAx w zLk zCl gL (.cells #[.int .i64 p, .int .i64 d] 25 (0,0)) l w' a2 b2)∧(Kd.R k44 44 w' gL (fun k_=>gL < k_) (.slice s_.1 [(⟨x,y,z⟩:S44)].length s_.2) [(⟨x,y,z⟩:S44)])) ?_ ?_
  · rintro ⟨A2,c2⟩ W ⟨h_held,h_S3,h_RR⟩
    (try dsimp only at h_held h_S3 h_RR)
    have hHeld:=h_held;have S3:=amk h_S3;have RR:=amk h_RR;clear h_held h_S3 h_RR
    refine norm_ (a':=?_) ?_ ?_;rotate_left
    · simp only [putAll,Act.put,List.setIfInBounds_toArray,List.set_cons_zero,List.set_cons_succ]
      rfl
    refine oN_ HT_ 8 (some 8) (bA 11 511) (fun K hK=>?_)
    refine value_ (w1:=?_) (v:=?_) (by rfl) rfl ?_ ?_;rotate_left 2
    · go_simp
      constructor
      · rfl
      · rfl
    have S4:=amk (DAx_below S3.out ((Below.refl _ W).alloc (Nat.le_refl _) zPz));have HN:=amk (And.intro (blk_new W zPz) (blk_lt S3.out.2))
    refine hK.out _ _ ⟨(blk_cell S4.out.2 0).trans rfl,(blk_cell S4.out.2 1).trans rfl⟩ (fun hHeld=>?_);clear hK K;refine nN_ (some 8) ?_
    exact norm_ nJ_ (hJ_3_4_8 (A2,c2,W.heap.size) _ ⟨hHeld,S4.out,Kd.R_alloc (Kd.R_mono (ok':=fun k_=>gL < k_∧k_≠W.heap.size) (Kd.R_bound RR.out) (fun k hk=>⟨hk.1,Nat.ne_of_lt hk.2.2.1⟩)) _,HN.out⟩)
  intro hJ_3_4
  refine join_ (σ:=Nat) 6 (bA 11 271) (fun s_=> [(22, .int .i64 m),(8, .pointer (some ⟨s_,0,none⟩))]) (fun s_ w'=>(w'.cell? ⟨gL,0,none⟩=some (.int .i64 p)∧w'.cell? ⟨gL,1,none⟩=some (.int .i64 d))∧(DAx w zLk zCl gL (.cells #[.int .i64 p, .int .i64 d] 25 (0,0)) l w' a2 b2)∧(w'.heap[s_]?=some zPz∧gL < s_)) ?_ ?_
  · rintro gP W ⟨h_held,h_S3,h_BP⟩
    have hHeld:=h_held;have S3:=amk h_S3;have BP:=amk h_BP;clear h_held h_S3 h_BP
    refine norm_ (a':=?_) ?_ ?_;rotate_left
    · simp only [putAll,Act.put,List.setIfInBounds_toArray,List.set_cons_zero,List.set_cons_succ]
      rfl
    refine oN_ HT_ 4 (some 23) (bA 11 287) (fun K hK=>?_)
    refine gs_ Try.func7 #[.agg #[.int .i64 p, .int .i64 d], .string s, .int .i64 1, .int .i64 m] ?_;refine Calls.mono (spec_MakePuzzle.calls k4 p d s 1 m p d [(⟨x,y,z⟩:S44)] true _ E3.out) ?_;rintro e W2 ⟨v2,rfl,hn,hb2⟩;obtain ⟨A2,c2,rfl⟩:=Kd.R_slice hn;refine ⟨_,rfl,?_⟩
    have S4:=amk (DAx_below S3.out hb2);have RR:=amk (Kd.R_lower (Kd.R_mono (ok':=fun k_=>gL < k_∧k_≠gP) (Kd.R_bound hn) (fun k hk=>⟨Nat.lt_of_lt_of_le (blk_lt S3.out.2) hk.2.1,Nat.ne_of_gt (Nat.lt_of_lt_of_le (blk_lt BP.out.1) hk.2.1)⟩)) (Nat.le_of_lt (blk_lt S3.out.2)));have nBP:=amk (And.intro (blk_below BP.out.1 hb2) BP.out.2);clear hn hb2
    refine hK.out _ _ ⟨(blk_cell S4.out.2 0).trans rfl,(blk_cell S4.out.2 1).trans rfl⟩ (fun hHeld=>?_);clear hK K;refine nN_ (some 23) ?_
    refine pU_ HT_ 5 (some 18) (bA 11 319) ?_
    refine pU_ HT_ 6 (some 24) (bA 11 383) ?_
    refine pU_ HT_ 7 (some 25) (bA 11 511) ?_
    exact norm_ nJ_ (hJ_3_4_8 (A2,c2,gP) _ ⟨hHeld,S4.out,RR.out,nBP.out⟩)
  intro hJ_3_8
  refine join_ (σ:=Unit) 7 (bA 11 15) (fun s_=> [(22, .int .i64 m)]) (fun s_ w'=>(w'.cell? ⟨gL,0,none⟩=some (.int .i64 p)∧w'.cell? ⟨gL,1,none⟩=some (.int .i64 d))∧(DAx w zLk zCl gL (.cells #[.int .i64 p, .int .i64 d] 25 (0,0)) l w' a2 b2)) ?_ ?_
  · rintro _ W ⟨h_held,h_S3⟩
    have hHeld:=h_held;have S3:=amk h_S3;clear h_held h_S3
    refine norm_ (a':=?_) ?_ ?_;rotate_left
    · simp only [putAll,Act.put,List.setIfInBounds_toArray,List.set_cons_zero,List.set_cons_succ]
      rfl
    refine two_ (i:=4) (j:=8) (Ni:=some 23) (Nj:=some 8) (bA 11 31) (bA 11 271) rfl rfl rfl rfl (two_of HT_.out (by kernel_rfl)) (by decide) (by decide) (fun K hK=>?_) (fun K hK=>?_)
    · refine gs_ Try.func7 #[.agg #[.int .i64 p, .int .i64 d], .string s, .int .i64 1, .int .i64 m] ?_;refine Calls.mono (spec_MakePuzzle.calls k4 p d s 1 m p d [(⟨x,y,z⟩:S44)] true _ E3.out) ?_;rintro e W2 ⟨v2,rfl,hn,hb2⟩;obtain ⟨A2,c2,rfl⟩:=Kd.R_slice hn;refine ⟨_,rfl,?_⟩
      have S4:=amk (DAx_below S3.out hb2);have RR:=amk (Kd.R_lower (Kd.R_mono (ok':=fun k_=>gL < k_) (Kd.R_bound hn) (fun k hk=>Nat.lt_of_lt_of_le (blk_lt S3.out.2) hk.2.1)) (Nat.le_of_lt (blk_lt S3.out.2)));clear hn hb2
      refine hK.out _ _ ⟨(blk_cell S4.out.2 0).trans rfl,(blk_cell S4.out.2 1).trans rfl⟩ (fun hHeld=>?_);clear hK K;refine nN_ (some 23) ?_
      refine pU_ HT_ 5 (some 18) (bA 11 63) ?_
      refine pU_ HT_ 6 (some 24) (bA 11 127) ?_
      refine pU_ HT_ 7 (some 25) (bA 11 255) ?_
      exact norm_ nJ_ (hJ_3_4 (A2,c2) _ ⟨hHeld,S4.out,RR.out⟩)
    · refine value_ (w1:=?_) (v:=?_) (by rfl) rfl ?_ ?_;rotate_left 2
      · go_simp
        constructor
        · rfl
        · rfl
      have S4:=amk (DAx_below S3.out ((Below.refl _ W).alloc (Nat.le_refl _) zPz));have HN:=amk (And.intro (blk_new W zPz) (blk_lt S3.out.2))
      refine hK.out _ _ ⟨(blk_cell S4.out.2 0).trans rfl,(blk_cell S4.out.2 1).trans rfl⟩ (fun hHeld=>?_);clear hK K;refine nN_ (some 8) ?_
      exact norm_ nJ_ (hJ_3_8 (W.heap.size) _ ⟨hHeld,S4.out,HN.out⟩)
  intro hJ_3
  refine join_ (σ:=Nat) 7 (bA 11 263) (fun s_=> [(8, .pointer (some ⟨s_,0,none⟩))]) (fun s_ w'=>(w'.cell? ⟨gL,0,none⟩=some (.int .i64 p)∧w'.cell? ⟨gL,1,none⟩=some (.int .i64 d))∧(DAx w zLk zCl gL (.cells #[.int .i64 p, .int .i64 d] 25 (0,0)) l w' a1 b1)∧(w'.heap[s_]?=some zPz∧gL < s_)) ?_ ?_
  · rintro gP W ⟨h_held,h_S3,h_BP⟩
    have hHeld:=h_held;have S3:=amk h_S3;have BP:=amk h_BP;clear h_held h_S3 h_BP
    refine norm_ (a':=?_) ?_ ?_;rotate_left
    · simp only [putAll,Act.put,List.setIfInBounds_toArray,List.set_cons_zero,List.set_cons_succ]
      rfl
    refine oN_ HT_ 3 (some 22) (bA 11 271) (fun K hK=>?_)
    refine gs_ Try.func39 #[.pointer (some ⟨w.heap.size + 1 + 1,0,none⟩), .int .i64 10000] ?_;refine Calls.mono (spec_l1Cur_pick.calls (w.heap.size + 1 + 1) l a1 b1 10000 m a2 b2 w _ S3.out.1.1 S3.out.1.2.1 E2.out) ?_;rintro e W2 ⟨rfl,hi2,hb2,hk2⟩;refine ⟨_,rfl,?_⟩
    have S4:=amk (DAx_keep S3.out HG.out hi2 hb2 hk2);have nBP:=amk (And.intro ((hk2.2 _ (blk_lt BP.out.1) (Nat.ne_of_gt (Nat.lt_trans HG.out BP.out.2)) (by simp)).trans BP.out.1) BP.out.2);clear hi2 hb2 hk2
    refine hK.out _ _ ⟨(blk_cell S4.out.2 0).trans rfl,(blk_cell S4.out.2 1).trans rfl⟩ (fun hHeld=>?_);clear hK K;refine nN_ (some 22) ?_
    exact norm_ nJ_ (hJ_3_8 (gP) _ ⟨hHeld,S4.out,nBP.out⟩)
  intro hJ_8
  refine two_ (i:=3) (j:=8) (Ni:=some 22) (Nj:=some 8) (bA 11 15) (bA 11 263) rfl rfl rfl rfl (two_of HT_.out (by kernel_rfl)) (by decide) (by decide) (fun K hK=>?_) (fun K hK=>?_)
  · refine gs_ Try.func39 #[.pointer (some ⟨w.heap.size + 1 + 1,0,none⟩), .int .i64 10000] ?_;refine Calls.mono (spec_l1Cur_pick.calls (w.heap.size + 1 + 1) l a1 b1 10000 m a2 b2 w _ S3.out.1.1 S3.out.1.2.1 E2.out) ?_;rintro e W2 ⟨rfl,hi2,hb2,hk2⟩;refine ⟨_,rfl,?_⟩
    have S4:=amk (DAx_keep S3.out HG.out hi2 hb2 hk2);clear hi2 hb2 hk2
    refine hK.out _ _ ⟨(blk_cell S4.out.2 0).trans rfl,(blk_cell S4.out.2 1).trans rfl⟩ (fun hHeld=>?_);clear hK K;refine nN_ (some 22) ?_
    exact norm_ nJ_ (hJ_3 () _ ⟨hHeld,S4.out⟩)
  · refine value_ (w1:=?_) (v:=?_) (by rfl) rfl ?_ ?_;rotate_left 2
    · go_simp
      constructor
      · rfl
      · rfl
    have S4:=amk (DAx_below S3.out ((Below.refl _ W).alloc (Nat.le_refl _) zPz));have HN:=amk (And.intro (blk_new W zPz) (blk_lt S3.out.2))
    refine hK.out _ _ ⟨(blk_cell S4.out.2 0).trans rfl,(blk_cell S4.out.2 1).trans rfl⟩ (fun hHeld=>?_);clear hK K;refine nN_ (some 8) ?_
    exact norm_ nJ_ (hJ_8 (W.heap.size) _ ⟨hHeld,S4.out,HN.out⟩)
/-! The draw of a lock, a clue and a code: its other paths, and all; printed by gendraw.py. -/
theorem DAx_set2 {w W:World} {o1 o2:Obj} {u0 u1:Value} {g:Nat} {l:List Int} {a b:Int} (h:DAx w o1 o2 g (.cells #[u0,u1] 25 (0,0)) l W a b) (hg:w.heap.size + 1 + 1 < g) (x y:Value):DAx w o1 o2 g (.cells #[x,y] 25 (0,0)) l (st2 W g x y) a b:=by
  obtain ⟨⟨hI,hB,h1,h2⟩,h3⟩:=h
  refine ⟨⟨?_,below2 hB (by omega) x y,(far2 (by omega) x y).trans h1,(far2 (by omega) x y).trans h2⟩,two_set h3 x y⟩
  exact IsS71.far (IsS71.far hI (p:=⟨g,0,none⟩) (by show w.heap.size + 1 + 1≠g;omega) x) (p:=⟨g,1,none⟩) (by show w.heap.size + 1 + 1≠g;omega) y
set_option maxHeartbeats 8000000 in
set_option maxRecDepth 100000 in
theorem spec_DrawDoesFit.three (A:Option Addr) (c:Nat) (l:List Int) (w:World) (k3 k4 k5 k6:Nat) (a1 b1 a2 b2 a3 b3 a4 b4 a5 b5 a6 b6 a7 b7 p d x y z m xx yy zz:Int) (s t:ByteArray) (hr:Kd.C (Kd.int .u8) w A l.length l) (e1:spec_l1Cur_hidden.f k3 l 0 0=some (p,d,s,a1,b1)) (e2:spec_l1Cur_pick.f l a1 b1 10000=some (m,a2,b2)) (e3:spec_MakePuzzle.f k4 p d s 1 m=some (p,d,[(⟨x,y,z⟩:S44)],true)) (e4:spec_l1Cur_one.f l a2 b2 3=some (false,a3,b3)) (e5:spec_l1Cur_one.f l a3 b3 8=some (false,a4,b4)) (e6:spec_l1Cur_clue.f k5 l a4 b4=some (xx,yy,zz,a5,b5)) :
    Calls Try.prog 29 #[.slice A l.length c] w fun e w'=> ∃ (p d x y z:Int) (s:ByteArray),e = .returned (.tuple #[.agg #[.int .i64 p, .int .i64 d], .agg #[.int .i64 x, .int .i64 y, .int .i64 z], .string s])∧Below w.heap.size w w':=by
  have hu:=Try.underlying71
  have hu2:=Try.underlying25
  have hu3:=Try.underlying44
  have hu4:=Try.underlying30
  have hu5:=Try.underlying28
  have S0:=amk (DA_new (c:=c) zLk zCl hr);have E1:=amk e1;have E2:=amk e2;have E3:=amk e3;have E4:=amk e4;have E5:=amk e5;have E6:=amk e6;clear hr e1 e2 e3 e4 e5 e6
  go_enter Try.func29,Try.ntmps29
  go_upto_region 3 with (go_at_call 38;refine Calls.mono (spec_l1Cur_hidden.calls k3 (w.heap.size + 1 + 1) l 0 0 p d s a1 b1 w _ S0.out.1 S0.out.2.1 E1.out) ?_;rintro e w2 ⟨rfl,hi2,hb2,hk2⟩;have HG:=amk (show w.heap.size + 1 + 1 < w2.heap.size from hi2.lt);have S2:=amk (show DAx w zLk zCl w2.heap.size (.cells #[.int .i64 p, .int .i64 d] 25 (0,0)) l (w2.alloc (.cells #[.int .i64 p, .int .i64 d] 25 (0,0))) a1 b1 from ⟨DA_below (DA_keep S0.out hi2 hb2 hk2) ((Below.refl _ w2).alloc (Nat.le_refl _) _),blk_new _ _⟩);clear hi2 hb2 hk2)
  generalize w2.heap.size=gL at HG S2 ⊢
  refine start_ (n:=11) (S:=fun w'=>w'.cell? ⟨gL,0,none⟩=some (.int .i64 p)∧w'.cell? ⟨gL,1,none⟩=some (.int .i64 d)) (ds:=[]) (bA 11 0) (by kernel_rfl) rfl rfl ⟨(blk_cell S2.out.2 0).trans rfl,(blk_cell S2.out.2 1).trans rfl⟩ (fun hHeld=>?_);refine with_tabW spec_DrawDoesFit.tab3 spec_DrawDoesFit.bits3 (fun HT_ HW_=>?_)
  have S3:=amk (DAx_below S2.out (bd_ (Below.refl _ _)));clear S2
  generalize World.drew _=W at S3 hHeld ⊢
  refine tK_ HT_ HW_ hHeld 0 (some 19) (bA 11 1) ?_
  refine pU_ HT_ 1 (some 20) (bA 11 3) ?_
  refine pU_ HT_ 2 (some 21) (bA 11 7) ?_
  refine join_ (σ:=Option Addr×Nat×Nat) 2 (bA 11 511) (fun s_=> [(22, .int .i64 m),(23, .tuple #[.agg #[.int .i64 p, .int .i64 d, .slice s_.1 1 s_.2.1], .bool true]),(18, .tuple #[.agg #[.int .i64 p, .int .i64 d, .slice s_.1 1 s_.2.1], .bool true]),(24, .agg #[.int .i64 p, .int .i64 d, .slice s_.1 1 s_.2.1]),(25, .bool true),(8, .pointer (some ⟨s_.2.2,0,none⟩))]) (fun s_ w'=>(w'.cell? ⟨gL,0,none⟩=some (.int .i64 p)∧w'.cell? ⟨gL,1,none⟩=some (.int .i64 d))∧(DAx w zLk zCl gL (.cells #[.int .i64 p, .int .i64 d] 25 (0,0)) l w' a2 b2)∧(Kd.R k44 44 w' gL (fun k_=>gL < k_∧k_≠s_.2.2) (.slice s_.1 [(⟨x,y,z⟩:S44)].length s_.2.1) [(⟨x,y,z⟩:S44)])∧(w'.heap[s_.2.2]?=some zPz∧gL < s_.2.2)) ?_ ?_
  · rintro ⟨A2,c2,gP⟩ W ⟨h_held,h_S3,h_RR,h_BP⟩
    (try dsimp only at h_held h_S3 h_RR h_BP)
    have hHeld:=h_held;have S3:=amk h_S3;have RR:=amk h_RR;have BP:=amk h_BP;clear h_held h_S3 h_RR h_BP
    refine norm_ (a':=?_) ?_ ?_;rotate_left
    · simp only [putAll,Act.put,List.setIfInBounds_toArray,List.set_cons_zero,List.set_cons_succ]
      rfl
    refine oN_ HT_ 9 none (bA 11 1023) (fun K hK=>?_);obtain ⟨z0,z1,z2,z3,z4,z5⟩:=cells3 BP.out.1;refine skip_ (w1:=?_) (by rfl) rfl ?_ ?_;rotate_left
    · go_simp;rfl
    have S5:=amk (DAx_far S3.out HG.out BP.out.2 (.int .i64 p) (.int .i64 d) (.slice A2 1 c2));have BQ:=amk (three_set BP.out.1 (.int .i64 p) (.int .i64 d) (.slice A2 1 c2));have RS:=amk (R_st3 RR.out (fun k hk=>hk.2) (.int .i64 p) (.int .i64 d) (.slice A2 1 c2));have HP:=amk BP.out.2;refine hK.out _ _ ⟨(blk_cell S5.out.2 0).trans rfl,(blk_cell S5.out.2 1).trans rfl⟩ (fun hHeld=>?_);clear hK K
    clear z0 z1 z2 z3 z4 z5 S3 BP RR
    refine pU_ HT_ 10 (some 9) (bA 11 2047) ?_
    refine done_ (done_of HT_.out (by kernel_rfl)) ?_;(try dsimp only [st3] at S5 BQ RS);generalize ((W.setCell ⟨gP,0,none⟩ (.int .i64 p)).setCell ⟨gP,1,none⟩ (.int .i64 d)).setCell ⟨gP,2,none⟩ (.slice A2 1 c2)=W3 at S5 BQ RS ⊢
    go_wp2_with (go_at_call_of 34 (Value.int .i64 3);refine Calls.mono (spec_l1Cur_one.calls (w.heap.size + 1 + 1) l a2 b2 3 false a3 b3 w _ S5.out.1.1 S5.out.1.2.1 E4.out) ?_;rintro e WS6 ⟨rfl,hi2,hb2,hk2⟩;have S6:=amk (DAx_keep S5.out HG.out hi2 hb2 hk2);clear hi2 hb2 hk2)
    go_upto_region 9 with (go_at_call_of 34 (Value.int .i64 8);refine Calls.mono (spec_l1Cur_one.calls (w.heap.size + 1 + 1) l a3 b3 8 false a4 b4 w _ S6.out.1.1 S6.out.1.2.1 E5.out) ?_;rintro e WS7 ⟨rfl,hi2,hb2,hk2⟩;have S7:=amk (DAx_keep S6.out HG.out hi2 hb2 hk2);clear hi2 hb2 hk2)
    refine start_ (n:=7) (S:=fun w'=>w'.cell? ⟨gL,0,none⟩=some (.int .i64 p)∧w'.cell? ⟨gL,1,none⟩=some (.int .i64 d)) (ds:=[]) (bA 7 0) (by kernel_rfl) rfl rfl ⟨(blk_cell S7.out.2 0).trans rfl,(blk_cell S7.out.2 1).trans rfl⟩ (fun hHeld=>?_);refine with_tabW spec_DrawDoesFit.tab9 spec_DrawDoesFit.bits9 (fun HT_ HW_=>?_)
    have Tq1:=amk (DAx_below S7.out (bd_ (Below.refl _ _)));clear S7
    generalize World.drew _=W8 at Tq1 hHeld ⊢
    refine tK_ HT_ HW_ hHeld 0 (some 44) (bA 7 1) ?_
    refine pU_ HT_ 1 (some 45) (bA 7 3) ?_
    refine pU_ HT_ 3 (some 47) (bA 7 11) ?_
    refine oN_ HT_ 2 (some 46) (bA 7 15) (fun K hK=>?_);refine gs_ Try.func68 #[.pointer (some ⟨w.heap.size + 1 + 1,0,none⟩)] ?_;refine Calls.mono (spec_l1Cur_clue.calls k5 (w.heap.size + 1 + 1) l a4 b4 xx yy zz a5 b5 w _ Tq1.out.1.1 Tq1.out.1.2.1 E6.out) ?_;rintro e W9 ⟨rfl,hi2,hb2,hk2⟩;refine ⟨_,rfl,?_⟩;have Tq2:=amk (DAx_keep Tq1.out HG.out hi2 hb2 hk2);clear hi2 hb2 hk2 Tq1
    refine hK.out _ _ ⟨(blk_cell Tq2.out.2 0).trans rfl,(blk_cell Tq2.out.2 1).trans rfl⟩ (fun hHeld=>?_);clear hK K;refine nN_ (some 46) ?_
    refine oN_ HT_ 4 none (bA 7 31) (fun K hK=>?_);obtain ⟨z0,z1,z2,z3⟩:=cells2 Tq2.out.1.2.2.1;refine skip_ (w1:=?_) (by rfl) rfl ?_ ?_;rotate_left
    · go_simp;rfl
    have H1:=amk (two_set Tq2.out.1.2.2.1 (.int .i64 p) (.int .i64 d));have H2:=amk (below2 Tq2.out.1.2.1 (Nat.le_refl _) (.int .i64 p) (.int .i64 d));have H3:=amk ((far2 (W:=W9) (Nat.ne_of_gt (Nat.lt_succ_self w.heap.size)) (.int .i64 p) (.int .i64 d)).trans Tq2.out.1.2.2.2);refine hK.out _ _ ⟨cf2 hHeld.1 (Nat.ne_of_gt (Nat.lt_trans (Nat.lt_trans (Nat.lt_succ_self _) (Nat.lt_succ_self _)) HG.out)),cf2 hHeld.2 (Nat.ne_of_gt (Nat.lt_trans (Nat.lt_trans (Nat.lt_succ_self _) (Nat.lt_succ_self _)) HG.out))⟩ (fun hHeld=>?_);clear hK K
    clear z0 z1 z2 z3 Tq2
    (try dsimp only [st2] at hHeld H1 H2 H3);generalize (W9.setCell ⟨w.heap.size,0,none⟩ (.int .i64 p)).setCell ⟨w.heap.size,1,none⟩ (.int .i64 d)=W6 at hHeld H1 H2 H3 ⊢
    refine oN_ HT_ 5 none (bA 7 63) (fun K hK=>?_);obtain ⟨z0,z1,z2,z3,z4,z5⟩:=cells3 H3.out;refine skip_ (w1:=?_) (by rfl) rfl ?_ ?_;rotate_left
    · go_simp;rfl
    have G1:=amk ((far3 (W:=W6) (Nat.ne_of_lt (Nat.lt_succ_self w.heap.size)) (.int .i64 xx) (.int .i64 yy) (.int .i64 zz)).trans H1.out);have G2:=amk (three_set H3.out (.int .i64 xx) (.int .i64 yy) (.int .i64 zz));have G3:=amk (below3 H2.out (Nat.le_succ _) (.int .i64 xx) (.int .i64 yy) (.int .i64 zz));refine hK.out _ _ ⟨cf3 hHeld.1 (Nat.ne_of_gt (Nat.lt_trans (Nat.lt_succ_self _) HG.out)),cf3 hHeld.2 (Nat.ne_of_gt (Nat.lt_trans (Nat.lt_succ_self _) HG.out))⟩ (fun hHeld=>?_);clear hK K
    clear z0 z1 z2 z3 z4 z5
    refine pU_ HT_ 6 (some 4) (bA 7 127) ?_
    refine done_ (done_of HT_.out (by kernel_rfl)) ?_
    try go_wp2
    (try simp only [Exit.inBlock,Exit.then])
    refine bodyPost_ret (results_cct rfl _ _ w.heap.size (w.heap.size + 1) 25 44 #[.int .i64 p, .int .i64 d] #[.int .i64 xx, .int .i64 yy, .int .i64 zz] (0,0) (0,0) _ _ rfl G1.out Try.underlying25 rfl (by kernel_rfl) rfl G2.out Try.underlying44 rfl (by kernel_rfl)) rfl ?_
    exact ⟨p,d,xx,yy,zz,s,rfl,G3.out⟩
  intro hJ_3_4_8
  refine join_ (σ:=Option Addr×Nat) 3 (bA 11 255) (fun s_=> [(22, .int .i64 m),(23, .tuple #[.agg #[.int .i64 p, .int .i64 d, .slice s_.1 1 s_.2], .bool true]),(18, .tuple #[.agg #[.int .i64 p, .int .i64 d, .slice s_.1 1 s_.2], .bool true]),(24, .agg #[.int .i64 p, .int .i64 d, .slice s_.1 1 s_.2]),(25, .bool true)]) (fun s_ w'=>(w'.cell? ⟨gL,0,none⟩=some (.int .i64 p)∧w'.cell? ⟨gL,1,none⟩=some (.int .i64 d))∧(DAx w zLk zCl gL (.cells #[.int .i64 p, .int .i64 d] 25 (0,0)) l w' a2 b2)∧(Kd.R k44 44 w' gL (fun k_=>gL < k_) (.slice s_.1 [(⟨x,y,z⟩:S44)].length s_.2) [(⟨x,y,z⟩:S44)])) ?_ ?_
  · rintro ⟨A2,c2⟩ W ⟨h_held,h_S3,h_RR⟩
    (try dsimp only at h_held h_S3 h_RR)
    have hHeld:=h_held;have S3:=amk h_S3;have RR:=amk h_RR;clear h_held h_S3 h_RR
    refine norm_ (a':=?_) ?_ ?_;rotate_left
    · simp only [putAll,Act.put,List.setIfInBounds_toArray,List.set_cons_zero,List.set_cons_succ]
      rfl
    refine oN_ HT_ 8 (some 8) (bA 11 511) (fun K hK=>?_)
    refine value_ (w1:=?_) (v:=?_) (by rfl) rfl ?_ ?_;rotate_left 2
    · go_simp
      constructor
      · rfl
      · rfl
    have S4:=amk (DAx_below S3.out ((Below.refl _ W).alloc (Nat.le_refl _) zPz));have HN:=amk (And.intro (blk_new W zPz) (blk_lt S3.out.2))
    refine hK.out _ _ ⟨(blk_cell S4.out.2 0).trans rfl,(blk_cell S4.out.2 1).trans rfl⟩ (fun hHeld=>?_);clear hK K;refine nN_ (some 8) ?_
    exact norm_ nJ_ (hJ_3_4_8 (A2,c2,W.heap.size) _ ⟨hHeld,S4.out,Kd.R_alloc (Kd.R_mono (ok':=fun k_=>gL < k_∧k_≠W.heap.size) (Kd.R_bound RR.out) (fun k hk=>⟨hk.1,Nat.ne_of_lt hk.2.2.1⟩)) _,HN.out⟩)
  intro hJ_3_4
  refine join_ (σ:=Nat) 6 (bA 11 271) (fun s_=> [(22, .int .i64 m),(8, .pointer (some ⟨s_,0,none⟩))]) (fun s_ w'=>(w'.cell? ⟨gL,0,none⟩=some (.int .i64 p)∧w'.cell? ⟨gL,1,none⟩=some (.int .i64 d))∧(DAx w zLk zCl gL (.cells #[.int .i64 p, .int .i64 d] 25 (0,0)) l w' a2 b2)∧(w'.heap[s_]?=some zPz∧gL < s_)) ?_ ?_
  · rintro gP W ⟨h_held,h_S3,h_BP⟩
    have hHeld:=h_held;have S3:=amk h_S3;have BP:=amk h_BP;clear h_held h_S3 h_BP
    refine norm_ (a':=?_) ?_ ?_;rotate_left
    · simp only [putAll,Act.put,List.setIfInBounds_toArray,List.set_cons_zero,List.set_cons_succ]
      rfl
    refine oN_ HT_ 4 (some 23) (bA 11 287) (fun K hK=>?_)
    refine gs_ Try.func7 #[.agg #[.int .i64 p, .int .i64 d], .string s, .int .i64 1, .int .i64 m] ?_;refine Calls.mono (spec_MakePuzzle.calls k4 p d s 1 m p d [(⟨x,y,z⟩:S44)] true _ E3.out) ?_;rintro e W2 ⟨v2,rfl,hn,hb2⟩;obtain ⟨A2,c2,rfl⟩:=Kd.R_slice hn;refine ⟨_,rfl,?_⟩
    have S4:=amk (DAx_below S3.out hb2);have RR:=amk (Kd.R_lower (Kd.R_mono (ok':=fun k_=>gL < k_∧k_≠gP) (Kd.R_bound hn) (fun k hk=>⟨Nat.lt_of_lt_of_le (blk_lt S3.out.2) hk.2.1,Nat.ne_of_gt (Nat.lt_of_lt_of_le (blk_lt BP.out.1) hk.2.1)⟩)) (Nat.le_of_lt (blk_lt S3.out.2)));have nBP:=amk (And.intro (blk_below BP.out.1 hb2) BP.out.2);clear hn hb2
    refine hK.out _ _ ⟨(blk_cell S4.out.2 0).trans rfl,(blk_cell S4.out.2 1).trans rfl⟩ (fun hHeld=>?_);clear hK K;refine nN_ (some 23) ?_
    refine pU_ HT_ 5 (some 18) (bA 11 319) ?_
    refine pU_ HT_ 6 (some 24) (bA 11 383) ?_
    refine pU_ HT_ 7 (some 25) (bA 11 511) ?_
    exact norm_ nJ_ (hJ_3_4_8 (A2,c2,gP) _ ⟨hHeld,S4.out,RR.out,nBP.out⟩)
  intro hJ_3_8
  refine join_ (σ:=Unit) 7 (bA 11 15) (fun s_=> [(22, .int .i64 m)]) (fun s_ w'=>(w'.cell? ⟨gL,0,none⟩=some (.int .i64 p)∧w'.cell? ⟨gL,1,none⟩=some (.int .i64 d))∧(DAx w zLk zCl gL (.cells #[.int .i64 p, .int .i64 d] 25 (0,0)) l w' a2 b2)) ?_ ?_
  · rintro _ W ⟨h_held,h_S3⟩
    have hHeld:=h_held;have S3:=amk h_S3;clear h_held h_S3
    refine norm_ (a':=?_) ?_ ?_;rotate_left
    · simp only [putAll,Act.put,List.setIfInBounds_toArray,List.set_cons_zero,List.set_cons_succ]
      rfl
    refine two_ (i:=4) (j:=8) (Ni:=some 23) (Nj:=some 8) (bA 11 31) (bA 11 271) rfl rfl rfl rfl (two_of HT_.out (by kernel_rfl)) (by decide) (by decide) (fun K hK=>?_) (fun K hK=>?_)
    · refine gs_ Try.func7 #[.agg #[.int .i64 p, .int .i64 d], .string s, .int .i64 1, .int .i64 m] ?_;refine Calls.mono (spec_MakePuzzle.calls k4 p d s 1 m p d [(⟨x,y,z⟩:S44)] true _ E3.out) ?_;rintro e W2 ⟨v2,rfl,hn,hb2⟩;obtain ⟨A2,c2,rfl⟩:=Kd.R_slice hn;refine ⟨_,rfl,?_⟩
      have S4:=amk (DAx_below S3.out hb2);have RR:=amk (Kd.R_lower (Kd.R_mono (ok':=fun k_=>gL < k_) (Kd.R_bound hn) (fun k hk=>Nat.lt_of_lt_of_le (blk_lt S3.out.2) hk.2.1)) (Nat.le_of_lt (blk_lt S3.out.2)));clear hn hb2
      refine hK.out _ _ ⟨(blk_cell S4.out.2 0).trans rfl,(blk_cell S4.out.2 1).trans rfl⟩ (fun hHeld=>?_);clear hK K;refine nN_ (some 23) ?_
      refine pU_ HT_ 5 (some 18) (bA 11 63) ?_
      refine pU_ HT_ 6 (some 24) (bA 11 127) ?_
      refine pU_ HT_ 7 (some 25) (bA 11 255) ?_
      exact norm_ nJ_ (hJ_3_4 (A2,c2) _ ⟨hHeld,S4.out,RR.out⟩)
    · refine value_ (w1:=?_) (v:=?_) (by rfl) rfl ?_ ?_;rotate_left 2
      · go_simp
        constructor
        · rfl
        · rfl
      have S4:=amk (DAx_below S3.out ((Below.refl _ W).alloc (Nat.le_refl _) zPz));have HN:=amk (And.intro (blk_new W zPz) (blk_lt S3.out.2))
      refine hK.out _ _ ⟨(blk_cell S4.out.2 0).trans rfl,(blk_cell S4.out.2 1).trans rfl⟩ (fun hHeld=>?_);clear hK K;refine nN_ (some 8) ?_
      exact norm_ nJ_ (hJ_3_8 (W.heap.size) _ ⟨hHeld,S4.out,HN.out⟩)
  intro hJ_3
  refine join_ (σ:=Nat) 7 (bA 11 263) (fun s_=> [(8, .pointer (some ⟨s_,0,none⟩))]) (fun s_ w'=>(w'.cell? ⟨gL,0,none⟩=some (.int .i64 p)∧w'.cell? ⟨gL,1,none⟩=some (.int .i64 d))∧(DAx w zLk zCl gL (.cells #[.int .i64 p, .int .i64 d] 25 (0,0)) l w' a1 b1)∧(w'.heap[s_]?=some zPz∧gL < s_)) ?_ ?_
  · rintro gP W ⟨h_held,h_S3,h_BP⟩
    have hHeld:=h_held;have S3:=amk h_S3;have BP:=amk h_BP;clear h_held h_S3 h_BP
    refine norm_ (a':=?_) ?_ ?_;rotate_left
    · simp only [putAll,Act.put,List.setIfInBounds_toArray,List.set_cons_zero,List.set_cons_succ]
      rfl
    refine oN_ HT_ 3 (some 22) (bA 11 271) (fun K hK=>?_)
    refine gs_ Try.func39 #[.pointer (some ⟨w.heap.size + 1 + 1,0,none⟩), .int .i64 10000] ?_;refine Calls.mono (spec_l1Cur_pick.calls (w.heap.size + 1 + 1) l a1 b1 10000 m a2 b2 w _ S3.out.1.1 S3.out.1.2.1 E2.out) ?_;rintro e W2 ⟨rfl,hi2,hb2,hk2⟩;refine ⟨_,rfl,?_⟩
    have S4:=amk (DAx_keep S3.out HG.out hi2 hb2 hk2);have nBP:=amk (And.intro ((hk2.2 _ (blk_lt BP.out.1) (Nat.ne_of_gt (Nat.lt_trans HG.out BP.out.2)) (by simp)).trans BP.out.1) BP.out.2);clear hi2 hb2 hk2
    refine hK.out _ _ ⟨(blk_cell S4.out.2 0).trans rfl,(blk_cell S4.out.2 1).trans rfl⟩ (fun hHeld=>?_);clear hK K;refine nN_ (some 22) ?_
    exact norm_ nJ_ (hJ_3_8 (gP) _ ⟨hHeld,S4.out,nBP.out⟩)
  intro hJ_8
  refine two_ (i:=3) (j:=8) (Ni:=some 22) (Nj:=some 8) (bA 11 15) (bA 11 263) rfl rfl rfl rfl (two_of HT_.out (by kernel_rfl)) (by decide) (by decide) (fun K hK=>?_) (fun K hK=>?_)
  · refine gs_ Try.func39 #[.pointer (some ⟨w.heap.size + 1 + 1,0,none⟩), .int .i64 10000] ?_;refine Calls.mono (spec_l1Cur_pick.calls (w.heap.size + 1 + 1) l a1 b1 10000 m a2 b2 w _ S3.out.1.1 S3.out.1.2.1 E2.out) ?_;rintro e W2 ⟨rfl,hi2,hb2,hk2⟩;refine ⟨_,rfl,?_⟩
    have S4:=amk (DAx_keep S3.out HG.out hi2 hb2 hk2);clear hi2 hb2 hk2
    refine hK.out _ _ ⟨(blk_cell S4.out.2 0).trans rfl,(blk_cell S4.out.2 1).trans rfl⟩ (fun hHeld=>?_);clear hK K;refine nN_ (some 22) ?_
    exact norm_ nJ_ (hJ_3 () _ ⟨hHeld,S4.out⟩)
  · refine value_ (w1:=?_) (v:=?_) (by rfl) rfl ?_ ?_;rotate_left 2
    · go_simp
      constructor
      · rfl
      · rfl
    have S4:=amk (DAx_below S3.out ((Below.refl _ W).alloc (Nat.le_refl _) zPz));have HN:=amk (And.intro (blk_new W zPz) (blk_lt S3.out.2))
    refine hK.out _ _ ⟨(blk_cell S4.out.2 0).trans rfl,(blk_cell S4.out.2 1).trans rfl⟩ (fun hHeld=>?_);clear hK K;refine nN_ (some 8) ?_
    exact norm_ nJ_ (hJ_8 (W.heap.size) _ ⟨hHeld,S4.out,HN.out⟩)
set_option maxHeartbeats 8000000 in
set_option maxRecDepth 100000 in
theorem spec_DrawDoesFit.two (A:Option Addr) (c:Nat) (l:List Int) (w:World) (k3 k4 k5 k6:Nat) (a1 b1 a2 b2 a3 b3 a4 b4 a5 b5 a6 b6 a7 b7 p d x y z m xx yy zz p2 d2:Int) (s t:ByteArray) (hr:Kd.C (Kd.int .u8) w A l.length l) (e1:spec_l1Cur_hidden.f k3 l 0 0=some (p,d,s,a1,b1)) (e2:spec_l1Cur_pick.f l a1 b1 10000=some (m,a2,b2)) (e3:spec_MakePuzzle.f k4 p d s 1 m=some (p,d,[(⟨x,y,z⟩:S44)],true)) (e4:spec_l1Cur_one.f l a2 b2 3=some (false,a3,b3)) (e5:spec_l1Cur_one.f l a3 b3 8=some (true,a4,b4)) (e6:spec_l1Cur_lock.f l a4 b4=some (p2,d2,a5,b5)) (e7:spec_l1Cur_code1.f k5 l a5 b5 p2 d2=some (t,a6,b6)) (e8:spec_l1Cur_clue.f k6 l a6 b6=some (xx,yy,zz,a7,b7)) :
    Calls Try.prog 29 #[.slice A l.length c] w fun e w'=> ∃ (p d x y z:Int) (s:ByteArray),e = .returned (.tuple #[.agg #[.int .i64 p, .int .i64 d], .agg #[.int .i64 x, .int .i64 y, .int .i64 z], .string s])∧Below w.heap.size w w':=by
  have hu:=Try.underlying71
  have hu2:=Try.underlying25
  have hu3:=Try.underlying44
  have hu4:=Try.underlying30
  have hu5:=Try.underlying28
  have S0:=amk (DA_new (c:=c) zLk zCl hr);have E1:=amk e1;have E2:=amk e2;have E3:=amk e3;have E4:=amk e4;have E5:=amk e5;have E6:=amk e6;have E7:=amk e7;have E8:=amk e8;clear hr e1 e2 e3 e4 e5 e6 e7 e8
  go_enter Try.func29,Try.ntmps29
  go_upto_region 3 with (go_at_call 38;refine Calls.mono (spec_l1Cur_hidden.calls k3 (w.heap.size + 1 + 1) l 0 0 p d s a1 b1 w _ S0.out.1 S0.out.2.1 E1.out) ?_;rintro e w2 ⟨rfl,hi2,hb2,hk2⟩;have HG:=amk (show w.heap.size + 1 + 1 < w2.heap.size from hi2.lt);have S2:=amk (show DAx w zLk zCl w2.heap.size (.cells #[.int .i64 p, .int .i64 d] 25 (0,0)) l (w2.alloc (.cells #[.int .i64 p, .int .i64 d] 25 (0,0))) a1 b1 from ⟨DA_below (DA_keep S0.out hi2 hb2 hk2) ((Below.refl _ w2).alloc (Nat.le_refl _) _),blk_new _ _⟩);clear hi2 hb2 hk2)
  generalize w2.heap.size=gL at HG S2 ⊢
  refine start_ (n:=11) (S:=fun w'=>w'.cell? ⟨gL,0,none⟩=some (.int .i64 p)∧w'.cell? ⟨gL,1,none⟩=some (.int .i64 d)) (ds:=[]) (bA 11 0) (by kernel_rfl) rfl rfl ⟨(blk_cell S2.out.2 0).trans rfl,(blk_cell S2.out.2 1).trans rfl⟩ (fun hHeld=>?_);refine with_tabW spec_DrawDoesFit.tab3 spec_DrawDoesFit.bits3 (fun HT_ HW_=>?_)
  have S3:=amk (DAx_below S2.out (bd_ (Below.refl _ _)));clear S2
  generalize World.drew _=W at S3 hHeld ⊢
  refine tK_ HT_ HW_ hHeld 0 (some 19) (bA 11 1) ?_
  refine pU_ HT_ 1 (some 20) (bA 11 3) ?_
  refine pU_ HT_ 2 (some 21) (bA 11 7) ?_
  refine join_ (σ:=Option Addr×Nat×Nat) 2 (bA 11 511) (fun s_=> [(22, .int .i64 m),(23, .tuple #[.agg #[.int .i64 p, .int .i64 d, .slice s_.1 1 s_.2.1], .bool true]),(18, .tuple #[.agg #[.int .i64 p, .int .i64 d, .slice s_.1 1 s_.2.1], .bool true]),(24, .agg #[.int .i64 p, .int .i64 d, .slice s_.1 1 s_.2.1]),(25, .bool true),(8, .pointer (some ⟨s_.2.2,0,none⟩))]) (fun s_ w'=>(w'.cell? ⟨gL,0,none⟩=some (.int .i64 p)∧w'.cell? ⟨gL,1,none⟩=some (.int .i64 d))∧(DAx w zLk zCl gL (.cells #[.int .i64 p, .int .i64 d] 25 (0,0)) l w' a2 b2)∧(Kd.R k44 44 w' gL (fun k_=>gL < k_∧k_≠s_.2.2) (.slice s_.1 [(⟨x,y,z⟩:S44)].length s_.2.1) [(⟨x,y,z⟩:S44)])∧(w'.heap[s_.2.2]?=some zPz∧gL < s_.2.2)) ?_ ?_
  · rintro ⟨A2,c2,gP⟩ W ⟨h_held,h_S3,h_RR,h_BP⟩
    (try dsimp only at h_held h_S3 h_RR h_BP)
    have hHeld:=h_held;have S3:=amk h_S3;have RR:=amk h_RR;have BP:=amk h_BP;clear h_held h_S3 h_RR h_BP
    refine norm_ (a':=?_) ?_ ?_;rotate_left
    · simp only [putAll,Act.put,List.setIfInBounds_toArray,List.set_cons_zero,List.set_cons_succ]
      rfl
    refine oN_ HT_ 9 none (bA 11 1023) (fun K hK=>?_);obtain ⟨z0,z1,z2,z3,z4,z5⟩:=cells3 BP.out.1;refine skip_ (w1:=?_) (by rfl) rfl ?_ ?_;rotate_left
    · go_simp;rfl
    have S5:=amk (DAx_far S3.out HG.out BP.out.2 (.int .i64 p) (.int .i64 d) (.slice A2 1 c2));have BQ:=amk (three_set BP.out.1 (.int .i64 p) (.int .i64 d) (.slice A2 1 c2));have RS:=amk (R_st3 RR.out (fun k hk=>hk.2) (.int .i64 p) (.int .i64 d) (.slice A2 1 c2));have HP:=amk BP.out.2;refine hK.out _ _ ⟨(blk_cell S5.out.2 0).trans rfl,(blk_cell S5.out.2 1).trans rfl⟩ (fun hHeld=>?_);clear hK K
    clear z0 z1 z2 z3 z4 z5 S3 BP RR
    refine pU_ HT_ 10 (some 9) (bA 11 2047) ?_
    refine done_ (done_of HT_.out (by kernel_rfl)) ?_;(try dsimp only [st3] at S5 BQ RS);generalize ((W.setCell ⟨gP,0,none⟩ (.int .i64 p)).setCell ⟨gP,1,none⟩ (.int .i64 d)).setCell ⟨gP,2,none⟩ (.slice A2 1 c2)=W3 at S5 BQ RS ⊢
    go_wp2_with (go_at_call_of 34 (Value.int .i64 3);refine Calls.mono (spec_l1Cur_one.calls (w.heap.size + 1 + 1) l a2 b2 3 false a3 b3 w _ S5.out.1.1 S5.out.1.2.1 E4.out) ?_;rintro e WS6 ⟨rfl,hi2,hb2,hk2⟩;have S6:=amk (DAx_keep S5.out HG.out hi2 hb2 hk2);clear hi2 hb2 hk2)
    go_wp2_with (go_at_call_of 34 (Value.int .i64 8);refine Calls.mono (spec_l1Cur_one.calls (w.heap.size + 1 + 1) l a3 b3 8 true a4 b4 w _ S6.out.1.1 S6.out.1.2.1 E5.out) ?_;rintro e WS7 ⟨rfl,hi2,hb2,hk2⟩;have S7:=amk (DAx_keep S6.out HG.out hi2 hb2 hk2);clear hi2 hb2 hk2)
    go_wp2_with (go_at_call 35;refine Calls.mono (spec_l1Cur_lock.calls (w.heap.size + 1 + 1) l a4 b4 p2 d2 a5 b5 w _ S7.out.1.1 S7.out.1.2.1 E6.out) ?_;rintro e WL ⟨rfl,hi2,hb2,hk2⟩;have S8:=amk (DAx_keep S7.out HG.out hi2 hb2 hk2);have S9:=amk (DAx_set2 S8.out HG.out (.int .i64 p2) (.int .i64 d2));clear hi2 hb2 hk2;obtain ⟨z0,z1,z2_,z3⟩:=cells2 S8.out.2;obtain ⟨v0,v1,_,_⟩:=cells2 S9.out.2)
    go_upto_region 9 with (go_at_call 36;refine Calls.mono (spec_l1Cur_code1.calls k5 (w.heap.size + 1 + 1) l a5 b5 p2 d2 t a6 b6 w _ S9.out.1.1 S9.out.1.2.1 E7.out) ?_;rintro e WC ⟨rfl,hi2,hb2,hk2⟩;have Tq0:=amk (DAx_keep S9.out HG.out hi2 hb2 hk2);clear hi2 hb2 hk2)
    clear z0 z1 z2_ z3 v0 v1 S8 S9
    refine start_ (n:=7) (S:=fun w'=>w'.cell? ⟨gL,0,none⟩=some (.int .i64 p2)∧w'.cell? ⟨gL,1,none⟩=some (.int .i64 d2)) (ds:=[]) (bA 7 0) (by kernel_rfl) rfl rfl ⟨(blk_cell Tq0.out.2 0).trans rfl,(blk_cell Tq0.out.2 1).trans rfl⟩ (fun hHeld=>?_);refine with_tabW spec_DrawDoesFit.tab9 spec_DrawDoesFit.bits9 (fun HT_ HW_=>?_)
    have Tq1:=amk (DAx_below Tq0.out (bd_ (Below.refl _ _)));clear Tq0
    generalize World.drew _=W8 at Tq1 hHeld ⊢
    refine tK_ HT_ HW_ hHeld 0 (some 44) (bA 7 1) ?_
    refine pU_ HT_ 1 (some 45) (bA 7 3) ?_
    refine pU_ HT_ 3 (some 47) (bA 7 11) ?_
    refine oN_ HT_ 2 (some 46) (bA 7 15) (fun K hK=>?_);refine gs_ Try.func68 #[.pointer (some ⟨w.heap.size + 1 + 1,0,none⟩)] ?_;refine Calls.mono (spec_l1Cur_clue.calls k6 (w.heap.size + 1 + 1) l a6 b6 xx yy zz a7 b7 w _ Tq1.out.1.1 Tq1.out.1.2.1 E8.out) ?_;rintro e W9 ⟨rfl,hi2,hb2,hk2⟩;refine ⟨_,rfl,?_⟩;have Tq2:=amk (DAx_keep Tq1.out HG.out hi2 hb2 hk2);clear hi2 hb2 hk2 Tq1
    refine hK.out _ _ ⟨(blk_cell Tq2.out.2 0).trans rfl,(blk_cell Tq2.out.2 1).trans rfl⟩ (fun hHeld=>?_);clear hK K;refine nN_ (some 46) ?_
    refine oN_ HT_ 4 none (bA 7 31) (fun K hK=>?_);obtain ⟨z0,z1,z2,z3⟩:=cells2 Tq2.out.1.2.2.1;refine skip_ (w1:=?_) (by rfl) rfl ?_ ?_;rotate_left
    · go_simp;rfl
    have H1:=amk (two_set Tq2.out.1.2.2.1 (.int .i64 p2) (.int .i64 d2));have H2:=amk (below2 Tq2.out.1.2.1 (Nat.le_refl _) (.int .i64 p2) (.int .i64 d2));have H3:=amk ((far2 (W:=W9) (Nat.ne_of_gt (Nat.lt_succ_self w.heap.size)) (.int .i64 p2) (.int .i64 d2)).trans Tq2.out.1.2.2.2);refine hK.out _ _ ⟨cf2 hHeld.1 (Nat.ne_of_gt (Nat.lt_trans (Nat.lt_trans (Nat.lt_succ_self _) (Nat.lt_succ_self _)) HG.out)),cf2 hHeld.2 (Nat.ne_of_gt (Nat.lt_trans (Nat.lt_trans (Nat.lt_succ_self _) (Nat.lt_succ_self _)) HG.out))⟩ (fun hHeld=>?_);clear hK K
    clear z0 z1 z2 z3 Tq2
    (try dsimp only [st2] at hHeld H1 H2 H3);generalize (W9.setCell ⟨w.heap.size,0,none⟩ (.int .i64 p2)).setCell ⟨w.heap.size,1,none⟩ (.int .i64 d2)=W6 at hHeld H1 H2 H3 ⊢
    refine oN_ HT_ 5 none (bA 7 63) (fun K hK=>?_);obtain ⟨z0,z1,z2,z3,z4,z5⟩:=cells3 H3.out;refine skip_ (w1:=?_) (by rfl) rfl ?_ ?_;rotate_left
    · go_simp;rfl
    have G1:=amk ((far3 (W:=W6) (Nat.ne_of_lt (Nat.lt_succ_self w.heap.size)) (.int .i64 xx) (.int .i64 yy) (.int .i64 zz)).trans H1.out);have G2:=amk (three_set H3.out (.int .i64 xx) (.int .i64 yy) (.int .i64 zz));have G3:=amk (below3 H2.out (Nat.le_succ _) (.int .i64 xx) (.int .i64 yy) (.int .i64 zz));refine hK.out _ _ ⟨cf3 hHeld.1 (Nat.ne_of_gt (Nat.lt_trans (Nat.lt_succ_self _) HG.out)),cf3 hHeld.2 (Nat.ne_of_gt (Nat.lt_trans (Nat.lt_succ_self _) HG.out))⟩ (fun hHeld=>?_);clear hK K
    clear z0 z1 z2 z3 z4 z5
    refine pU_ HT_ 6 (some 4) (bA 7 127) ?_
    refine done_ (done_of HT_.out (by kernel_rfl)) ?_
    try go_wp2
    (try simp only [Exit.inBlock,Exit.then])
    refine bodyPost_ret (results_cct rfl _ _ w.heap.size (w.heap.size + 1) 25 44 #[.int .i64 p2, .int .i64 d2] #[.int .i64 xx, .int .i64 yy, .int .i64 zz] (0,0) (0,0) _ _ rfl G1.out Try.underlying25 rfl (by kernel_rfl) rfl G2.out Try.underlying44 rfl (by kernel_rfl)) rfl ?_
    exact ⟨p2,d2,xx,yy,zz,t,rfl,G3.out⟩
  intro hJ_3_4_8
  refine join_ (σ:=Option Addr×Nat) 3 (bA 11 255) (fun s_=> [(22, .int .i64 m),(23, .tuple #[.agg #[.int .i64 p, .int .i64 d, .slice s_.1 1 s_.2], .bool true]),(18, .tuple #[.agg #[.int .i64 p, .int .i64 d, .slice s_.1 1 s_.2], .bool true]),(24, .agg #[.int .i64 p, .int .i64 d, .slice s_.1 1 s_.2]),(25, .bool true)]) (fun s_ w'=>(w'.cell? ⟨gL,0,none⟩=some (.int .i64 p)∧w'.cell? ⟨gL,1,none⟩=some (.int .i64 d))∧(DAx w zLk zCl gL (.cells #[.int .i64 p, .int .i64 d] 25 (0,0)) l w' a2 b2)∧(Kd.R k44 44 w' gL (fun k_=>gL < k_) (.slice s_.1 [(⟨x,y,z⟩:S44)].length s_.2) [(⟨x,y,z⟩:S44)])) ?_ ?_
  · rintro ⟨A2,c2⟩ W ⟨h_held,h_S3,h_RR⟩
    (try dsimp only at h_held h_S3 h_RR)
    have hHeld:=h_held;have S3:=amk h_S3;have RR:=amk h_RR;clear h_held h_S3 h_RR
    refine norm_ (a':=?_) ?_ ?_;rotate_left
    · simp only [putAll,Act.put,List.setIfInBounds_toArray,List.set_cons_zero,List.set_cons_succ]
      rfl
    refine oN_ HT_ 8 (some 8) (bA 11 511) (fun K hK=>?_)
    refine value_ (w1:=?_) (v:=?_) (by rfl) rfl ?_ ?_;rotate_left 2
    · go_simp
      constructor
      · rfl
      · rfl
    have S4:=amk (DAx_below S3.out ((Below.refl _ W).alloc (Nat.le_refl _) zPz));have HN:=amk (And.intro (blk_new W zPz) (blk_lt S3.out.2))
    refine hK.out _ _ ⟨(blk_cell S4.out.2 0).trans rfl,(blk_cell S4.out.2 1).trans rfl⟩ (fun hHeld=>?_);clear hK K;refine nN_ (some 8) ?_
    exact norm_ nJ_ (hJ_3_4_8 (A2,c2,W.heap.size) _ ⟨hHeld,S4.out,Kd.R_alloc (Kd.R_mono (ok':=fun k_=>gL < k_∧k_≠W.heap.size) (Kd.R_bound RR.out) (fun k hk=>⟨hk.1,Nat.ne_of_lt hk.2.2.1⟩)) _,HN.out⟩)
  intro hJ_3_4
  refine join_ (σ:=Nat) 6 (bA 11 271) (fun s_=> [(22, .int .i64 m),(8, .pointer (some ⟨s_,0,none⟩))]) (fun s_ w'=>(w'.cell? ⟨gL,0,none⟩=some (.int .i64 p)∧w'.cell? ⟨gL,1,none⟩=some (.int .i64 d))∧(DAx w zLk zCl gL (.cells #[.int .i64 p, .int .i64 d] 25 (0,0)) l w' a2 b2)∧(w'.heap[s_]?=some zPz∧gL < s_)) ?_ ?_
  · rintro gP W ⟨h_held,h_S3,h_BP⟩
    have hHeld:=h_held;have S3:=amk h_S3;have BP:=amk h_BP;clear h_held h_S3 h_BP
    refine norm_ (a':=?_) ?_ ?_;rotate_left
    · simp only [putAll,Act.put,List.setIfInBounds_toArray,List.set_cons_zero,List.set_cons_succ]
      rfl
    refine oN_ HT_ 4 (some 23) (bA 11 287) (fun K hK=>?_)
    refine gs_ Try.func7 #[.agg #[.int .i64 p, .int .i64 d], .string s, .int .i64 1, .int .i64 m] ?_;refine Calls.mono (spec_MakePuzzle.calls k4 p d s 1 m p d [(⟨x,y,z⟩:S44)] true _ E3.out) ?_;rintro e W2 ⟨v2,rfl,hn,hb2⟩;obtain ⟨A2,c2,rfl⟩:=Kd.R_slice hn;refine ⟨_,rfl,?_⟩
    have S4:=amk (DAx_below S3.out hb2);have RR:=amk (Kd.R_lower (Kd.R_mono (ok':=fun k_=>gL < k_∧k_≠gP) (Kd.R_bound hn) (fun k hk=>⟨Nat.lt_of_lt_of_le (blk_lt S3.out.2) hk.2.1,Nat.ne_of_gt (Nat.lt_of_lt_of_le (blk_lt BP.out.1) hk.2.1)⟩)) (Nat.le_of_lt (blk_lt S3.out.2)));have nBP:=amk (And.intro (blk_below BP.out.1 hb2) BP.out.2);clear hn hb2
    refine hK.out _ _ ⟨(blk_cell S4.out.2 0).trans rfl,(blk_cell S4.out.2 1).trans rfl⟩ (fun hHeld=>?_);clear hK K;refine nN_ (some 23) ?_
    refine pU_ HT_ 5 (some 18) (bA 11 319) ?_
    refine pU_ HT_ 6 (some 24) (bA 11 383) ?_
    refine pU_ HT_ 7 (some 25) (bA 11 511) ?_
    exact norm_ nJ_ (hJ_3_4_8 (A2,c2,gP) _ ⟨hHeld,S4.out,RR.out,nBP.out⟩)
  intro hJ_3_8
  refine join_ (σ:=Unit) 7 (bA 11 15) (fun s_=> [(22, .int .i64 m)]) (fun s_ w'=>(w'.cell? ⟨gL,0,none⟩=some (.int .i64 p)∧w'.cell? ⟨gL,1,none⟩=some (.int .i64 d))∧(DAx w zLk zCl gL (.cells #[.int .i64 p, .int .i64 d] 25 (0,0)) l w' a2 b2)) ?_ ?_
  · rintro _ W ⟨h_held,h_S3⟩
    have hHeld:=h_held;have S3:=amk h_S3;clear h_held h_S3
    refine norm_ (a':=?_) ?_ ?_;rotate_left
    · simp only [putAll,Act.put,List.setIfInBounds_toArray,List.set_cons_zero,List.set_cons_succ]
      rfl
    refine two_ (i:=4) (j:=8) (Ni:=some 23) (Nj:=some 8) (bA 11 31) (bA 11 271) rfl rfl rfl rfl (two_of HT_.out (by kernel_rfl)) (by decide) (by decide) (fun K hK=>?_) (fun K hK=>?_)
    · refine gs_ Try.func7 #[.agg #[.int .i64 p, .int .i64 d], .string s, .int .i64 1, .int .i64 m] ?_;refine Calls.mono (spec_MakePuzzle.calls k4 p d s 1 m p d [(⟨x,y,z⟩:S44)] true _ E3.out) ?_;rintro e W2 ⟨v2,rfl,hn,hb2⟩;obtain ⟨A2,c2,rfl⟩:=Kd.R_slice hn;refine ⟨_,rfl,?_⟩
      have S4:=amk (DAx_below S3.out hb2);have RR:=amk (Kd.R_lower (Kd.R_mono (ok':=fun k_=>gL < k_) (Kd.R_bound hn) (fun k hk=>Nat.lt_of_lt_of_le (blk_lt S3.out.2) hk.2.1)) (Nat.le_of_lt (blk_lt S3.out.2)));clear hn hb2
      refine hK.out _ _ ⟨(blk_cell S4.out.2 0).trans rfl,(blk_cell S4.out.2 1).trans rfl⟩ (fun hHeld=>?_);clear hK K;refine nN_ (some 23) ?_
      refine pU_ HT_ 5 (some 18) (bA 11 63) ?_
      refine pU_ HT_ 6 (some 24) (bA 11 127) ?_
      refine pU_ HT_ 7 (some 25) (bA 11 255) ?_
      exact norm_ nJ_ (hJ_3_4 (A2,c2) _ ⟨hHeld,S4.out,RR.out⟩)
    · refine value_ (w1:=?_) (v:=?_) (by rfl) rfl ?_ ?_;rotate_left 2
      · go_simp
        constructor
        · rfl
        · rfl
      have S4:=amk (DAx_below S3.out ((Below.refl _ W).alloc (Nat.le_refl _) zPz));have HN:=amk (And.intro (blk_new W zPz) (blk_lt S3.out.2))
      refine hK.out _ _ ⟨(blk_cell S4.out.2 0).trans rfl,(blk_cell S4.out.2 1).trans rfl⟩ (fun hHeld=>?_);clear hK K;refine nN_ (some 8) ?_
      exact norm_ nJ_ (hJ_3_8 (W.heap.size) _ ⟨hHeld,S4.out,HN.out⟩)
  intro hJ_3
  refine join_ (σ:=Nat) 7 (bA 11 263) (fun s_=> [(8, .pointer (some ⟨s_,0,none⟩))]) (fun s_ w'=>(w'.cell? ⟨gL,0,none⟩=some (.int .i64 p)∧w'.cell? ⟨gL,1,none⟩=some (.int .i64 d))∧(DAx w zLk zCl gL (.cells #[.int .i64 p, .int .i64 d] 25 (0,0)) l w' a1 b1)∧(w'.heap[s_]?=some zPz∧gL < s_)) ?_ ?_
  · rintro gP W ⟨h_held,h_S3,h_BP⟩
    have hHeld:=h_held;have S3:=amk h_S3;have BP:=amk h_BP;clear h_held h_S3 h_BP
    refine norm_ (a':=?_) ?_ ?_;rotate_left
    · simp only [putAll,Act.put,List.setIfInBounds_toArray,List.set_cons_zero,List.set_cons_succ]
      rfl
    refine oN_ HT_ 3 (some 22) (bA 11 271) (fun K hK=>?_)
    refine gs_ Try.func39 #[.pointer (some ⟨w.heap.size + 1 + 1,0,none⟩), .int .i64 10000] ?_;refine Calls.mono (spec_l1Cur_pick.calls (w.heap.size + 1 + 1) l a1 b1 10000 m a2 b2 w _ S3.out.1.1 S3.out.1.2.1 E2.out) ?_;rintro e W2 ⟨rfl,hi2,hb2,hk2⟩;refine ⟨_,rfl,?_⟩
    have S4:=amk (DAx_keep S3.out HG.out hi2 hb2 hk2);have nBP:=amk (And.intro ((hk2.2 _ (blk_lt BP.out.1) (Nat.ne_of_gt (Nat.lt_trans HG.out BP.out.2)) (by simp)).trans BP.out.1) BP.out.2);clear hi2 hb2 hk2
    refine hK.out _ _ ⟨(blk_cell S4.out.2 0).trans rfl,(blk_cell S4.out.2 1).trans rfl⟩ (fun hHeld=>?_);clear hK K;refine nN_ (some 22) ?_
    exact norm_ nJ_ (hJ_3_8 (gP) _ ⟨hHeld,S4.out,nBP.out⟩)
  intro hJ_8
  refine two_ (i:=3) (j:=8) (Ni:=some 22) (Nj:=some 8) (bA 11 15) (bA 11 263) rfl rfl rfl rfl (two_of HT_.out (by kernel_rfl)) (by decide) (by decide) (fun K hK=>?_) (fun K hK=>?_)
  · refine gs_ Try.func39 #[.pointer (some ⟨w.heap.size + 1 + 1,0,none⟩), .int .i64 10000] ?_;refine Calls.mono (spec_l1Cur_pick.calls (w.heap.size + 1 + 1) l a1 b1 10000 m a2 b2 w _ S3.out.1.1 S3.out.1.2.1 E2.out) ?_;rintro e W2 ⟨rfl,hi2,hb2,hk2⟩;refine ⟨_,rfl,?_⟩
    have S4:=amk (DAx_keep S3.out HG.out hi2 hb2 hk2);clear hi2 hb2 hk2
    refine hK.out _ _ ⟨(blk_cell S4.out.2 0).trans rfl,(blk_cell S4.out.2 1).trans rfl⟩ (fun hHeld=>?_);clear hK K;refine nN_ (some 22) ?_
    exact norm_ nJ_ (hJ_3 () _ ⟨hHeld,S4.out⟩)
  · refine value_ (w1:=?_) (v:=?_) (by rfl) rfl ?_ ?_;rotate_left 2
    · go_simp
      constructor
      · rfl
      · rfl
    have S4:=amk (DAx_below S3.out ((Below.refl _ W).alloc (Nat.le_refl _) zPz));have HN:=amk (And.intro (blk_new W zPz) (blk_lt S3.out.2))
    refine hK.out _ _ ⟨(blk_cell S4.out.2 0).trans rfl,(blk_cell S4.out.2 1).trans rfl⟩ (fun hHeld=>?_);clear hK K;refine nN_ (some 8) ?_
    exact norm_ nJ_ (hJ_8 (W.heap.size) _ ⟨hHeld,S4.out,HN.out⟩)
/-! The draw of a lock, a clue and a code: all paths. -/
theorem made_one {w d:Int} (hl:lockB w d=true) (hc:d ^ w.toNat≤100) {s:ByteArray} (hs:codeS w d s) {y:Int} (h0:0≤y) (h1:y < 10000) : ∃ a b c:Int,makeR w d s 1 y=(w,d,[(⟨a,b,c⟩:S44)],true):=by
  have h2:smallB w d 125=true:=by unfold smallB;rw [hl,Bool.true_and,decide_eq_true_eq];omega
  have e:smallB w d 125=true∧codeT w d s=true∧winB 1 0 6=true∧winB y 0 9999=true:=⟨h2,codeT_code.mpr hs,by decide,by unfold winB;exact decide_eq_true (by omega)⟩
  unfold makeR
  rw [if_pos e]
  exact ⟨_,_,_,rfl⟩
theorem spec_DrawDoesFit.calls (A:Option Addr) (c:Nat) (l:List Int) (w:World) (hs:BytesV l) (hr:Kd.C (Kd.int .u8) w A l.length l) :
    Calls Try.prog 29 #[.slice A l.length c] w fun e w'=> ∃ (p d x y z:Int) (s:ByteArray),e = .returned (.tuple #[.agg #[.int .i64 p, .int .i64 d], .agg #[.int .i64 x, .int .i64 y, .int .i64 z], .string s])∧Below w.heap.size w w':=by
  obtain ⟨p,d,s,a1,b1,h1,hl,hc,hcs,g1,g2⟩:=dhidden_ok hs (a:=0) (by omega) (by omega) 0
  obtain ⟨m,a2,b2,e2,m0,m1,g3,g4⟩:=dpickB_ok hs (a:=a1) (by omega) (by omega) b1 (n:=10000) (by omega)
  obtain ⟨x,y,z,hm⟩:=made_one hl hc hcs m0 m1
  have h3:=spec_MakePuzzle.ev p d s 1 m
  rw [hm] at h3
  obtain ⟨k3,e1⟩:=h1.rounds
  obtain ⟨k4,e3⟩:=h3.rounds
  obtain ⟨q,a3,b3,e4,g5,g6⟩:=done_ok hs (a:=a2) (by omega) (by omega) b2 (n:=3) (by omega)
  cases q with
  | true=>exact spec_DrawDoesFit.one A c l w k3 k4 a1 b1 a2 b2 a3 b3 p d x y z m s hr e1 e2 e3 e4
  | false =>
    obtain ⟨q,a4,b4,e5,g7,g8⟩:=done_ok hs (a:=a3) (by omega) (by omega) b3 (n:=8) (by omega)
    cases q with
    | true =>
      obtain ⟨p2,d2,a5,b5,e6,g9,g10⟩:=dlock_ok hs (a:=a4) (by omega) (by omega) b4
      obtain ⟨t,a6,b6,h7,g11,g12⟩:=dcode1_ok hs (a:=a5) (by omega) (by omega) b5 p2 d2
      obtain ⟨xx,yy,zz,a7,b7,h8,g13,g14⟩:=dclue_ok hs (a:=a6) (by omega) (by omega) b6
      obtain ⟨k5,e7⟩:=h7.rounds
      obtain ⟨k6,e8⟩:=h8.rounds
      exact spec_DrawDoesFit.two A c l w k3 k4 k5 k6 a1 b1 a2 b2 a3 b3 a4 b4 a5 b5 a6 b6 a7 b7 p d x y z m xx yy zz p2 d2 s t hr e1 e2 e3 e4 e5 e6 e7 e8
    | false =>
      obtain ⟨xx,yy,zz,a5,b5,h6,g9,g10⟩:=dclue_ok hs (a:=a4) (by omega) (by omega) b4
      obtain ⟨k5,e6⟩:=h6.rounds
      exact spec_DrawDoesFit.three A c l w k3 k4 k5 0 a1 b1 a2 b2 a3 b3 a4 b4 a5 b5 0 0 0 0 p d x y z m xx yy zz s s hr e1 e2 e3 e4 e5 e6
/-! The draw of a puzzle that may be made harder: printed by gendraw.py. -/
def spec_DrawHarderPuzzle.T5:Bool×List (List Nat×List Nat):=(true,[([],[]),([],[]),([],[]),([2],[2]),([],[]),([4,3],[4]),([0,1,3,5,5],[0,1,3,5]),([6],[6]),([7],[7]),([7],[7]),([],[]),([10,8,6,0,1,2,3,4,5,6,7,8,10],[8,10]),([9,11,0,1,2,3,4,5,6,7,8,9,10,11],[9])])
def spec_DrawHarderPuzzle.Bq5:List Nat:=[0,0,0,4,0,28,63,127,255,255,0,1535,4095]
theorem spec_DrawHarderPuzzle.tab5:rtab .any (opsOf Try.f17 5)=spec_DrawHarderPuzzle.T5:=by kernel_rfl
theorem spec_DrawHarderPuzzle.bits5:waitsOk spec_DrawHarderPuzzle.T5.2 spec_DrawHarderPuzzle.Bq5=true:=by kernel_rfl
def spec_DrawHarderPuzzle.T9:Bool×List (List Nat×List Nat):=(true,[([],[]),([0],[0]),([],[]),([],[]),([],[]),([2,3,4],[2,3,4]),([5],[5]),([1,6,5],[1,6]),([0,1,2,3,4,5,6,7],[]),([8,7,7,0,1,2,3,4,5,6,7],[7,8])])
def spec_DrawHarderPuzzle.Bq9:List Nat:=[0,1,0,0,0,28,60,127,255,511]
theorem spec_DrawHarderPuzzle.tab9:rtab .any (opsOf Try.f17 9)=spec_DrawHarderPuzzle.T9:=by kernel_rfl
theorem spec_DrawHarderPuzzle.bits9:waitsOk spec_DrawHarderPuzzle.T9.2 spec_DrawHarderPuzzle.Bq9=true:=by kernel_rfl
theorem results_oneB {P:Program} {fn:Func} {p:Tmp} {ty:TypeId} (h:fn.results = #[.cell p ty]) (tmps:Array Value) (w:World) (g:Nat) (t:TypeId) (cs:Array Value) (fr:Nat×Nat) (d:TypeDesc)
    (hp:tmps.getD p undef = .pointer (some ⟨g,0,none⟩)) (hg:w.heap[g]?=some (.cells cs t fr))
    (hu:P.underlying ty=some d) (hd:(match d with | .struct _ | .array _ _=>true | _=>false)=true) (hi:(P.info? ty).map (·.size)=some cs.size) :
    (results fn tmps).run P w = .ok (.agg cs) w:=results_single h (.cell g t cs fr d hp hg hu hd hi .nil)
def HHx (w:World) (p d p2 d2:Int) (gL gP it:Nat) (s:ByteArray) (i:Nat) (v:Value) (cs:List S44) (W:World):Prop:=
  Below w.heap.size w W∧W.heap[w.heap.size]?=some zPz∧W.heap[gL]?=some (.cells #[.int .i64 p, .int .i64 d] 25 (0,0))∧W.heap[gP]?=some (.cells #[.int .i64 p2, .int .i64 d2,v] 30 (0,0)) ∧
  W.heap[it]?=some (.stringIter s i)∧w.heap.size < gL∧w.heap.size < gP∧w.heap.size < it∧Kd.R k44 44 W w.heap.size (fun _=>True) v cs
section
variable {w W W2:World} {p d p2 d2:Int} {gL gP it i:Nat} {s:ByteArray} {v:Value} {cs:List S44}
theorem HHx_below (h:HHx w p d p2 d2 gL gP it s i v cs W) (hb:Below W.heap.size W W2):HHx w p d p2 d2 gL gP it s i v cs W2:=by
  obtain ⟨h1,h2,h3,h4,h5,g1,g2,g3,h6⟩:=h
  exact ⟨bp_ h1 hb,blk_below h2 hb,blk_below h3 hb,blk_below h4 hb,blk_below h5 hb,g1,g2,g3,Kd.R_below h6 hb⟩
theorem blk_it {W:World} {g t it i:Nat} {s:ByteArray} {xs:Array Value} (h:W.heap[g]?=some (.cells xs t (0,0))) (h5:W.heap[it]?=some (.stringIter s i)):g≠it:=by
  rintro rfl
  rw [h] at h5
  cases h5
theorem HHx_iter (h:HHx w p d p2 d2 gL gP it s i v cs W) (j:Nat):HHx w p d p2 d2 gL gP it s j v cs (W.iterAt it s j):=by
  obtain ⟨h1,h2,h3,h4,h5,g1,g2,g3,h6⟩:=h
  refine ⟨Lib.below_iterAt h1 (by omega) s j,(Lib.iterAt_other W it _ s j (blk_it h2 h5)).trans h2,(Lib.iterAt_other W it _ s j (blk_it h3 h5)).trans h3,(Lib.iterAt_other W it _ s j (blk_it h4 h5)).trans h4,Lib.iterAt_heap W it s i j h5,g1,g2,g3,?_⟩
  refine Kd.R_mono (Kd.R_step (Kd.R_bound h6) (fun k hk _=>?_)) (fun _ _=>trivial)
  obtain ⟨_,_,_,q,_,cells,hc⟩:=hk
  exact Lib.iterAt_other W it _ s j (blk_it hc h5)
theorem HHx_grown (h:HHx w p d p2 d2 gL gP it s i v cs W) (hb:Below w.heap.size w W2) (hg:W.grownBy W2 v.ownBlock) {u:Value} {ds:List S44} (hr:Kd.R k44 44 W2 w.heap.size (fun _=>True) u ds) :
    (W2.heap[gL]?=some (.cells #[.int .i64 p, .int .i64 d] 25 (0,0))∧W2.heap[gP]?=some (.cells #[.int .i64 p2, .int .i64 d2,v] 30 (0,0)))∧HHx w p d p2 d2 gL gP it s i u ds (W2.setCell ⟨gP,2,none⟩ u):=by
  obtain ⟨h1,h2,h3,h4,h5,g1,g2,g3,h6⟩:=h
  have n0:some it≠v.ownBlock:=by
    intro he
    obtain ⟨_,_,_,q,_,cells,hc⟩:=(Kd.R_bound h6).1 it he.symm
    exact blk_it hc h5 rfl
  have f1:=blk_grown h2 hg (Kd.R_ne h6 h2 (by decide));have f2:=blk_grown h3 hg (Kd.R_ne h6 h3 (by decide));have f3:=blk_grown h4 hg (Kd.R_ne h6 h4 (by decide))
  have f4:=blk_grown h5 hg n0
  have nL:=blk_ne h3 h4 (by decide)
  have nI:=blk_it h4 h5
  refine ⟨⟨f2,f3⟩,bs_ hb (by omega),blk_far f1 (p:=⟨gP,2,none⟩) (by show w.heap.size≠gP;omega) _,blk_far f2 (p:=⟨gP,2,none⟩) nL _,blk_put f3 2 _ rfl,?_,g1,g2,g3,Kd.R_set hr f3 (by decide) 2 _⟩
  exact (Below.heap_setCell W2 ⟨gP,2,none⟩ u it (Ne.symm nI)).trans f4
theorem R_pst {W:World} {base g:Nat} {v a b c:Value} {cs:List S44} (h:Kd.R k44 44 W base (fun _=>True) v cs) (hb:W.heap[g]?=some (.cells #[a,b,c] 30 (0,0))) (x y z:Value):Kd.R k44 44 (st3 W g x y z) base (fun _=>True) v cs:=
  Kd.R_set (Kd.R_set (Kd.R_set h hb (by decide) 0 x) (blk_put hb 0 x rfl) (by decide) 1 y) (blk_put (blk_put hb 0 x rfl) 1 y rfl) (by decide) 2 z
theorem HHx_start {W:World} {s:ByteArray} {v:Value} {cs:List S44} (h1:Below w.heap.size w W) (h2:W.heap[w.heap.size]?=some zPz) (h3:W.heap[gL]?=some (.cells #[.int .i64 p, .int .i64 d] 25 (0,0))) (h4:W.heap[gP]?=some (.cells #[.int .i64 p2, .int .i64 d2,v] 30 (0,0))) (g1:w.heap.size < gL) (g2:w.heap.size < gP) (h6:Kd.R k44 44 W w.heap.size (fun _=>True) v cs):HHx w p d p2 d2 gL gP W.heap.size s 0 v cs (W.iter s 0):=
  ⟨ba_ h1 _,ka_ h2 _,ka_ h3 _,ka_ h4 _,World.iter_heap W s 0,g1,g2,blk_lt h2,Kd.R_alloc h6 _⟩
theorem HHx_cells (h:HHx w p d p2 d2 gL gP it s i v cs W):W.cell? ⟨gP,2,none⟩=some v∧W.cell? ⟨gL,0,none⟩=some (.int .i64 p)∧W.cell? ⟨gL,1,none⟩=some (.int .i64 d):=⟨(blk_cell h.2.2.2.1 2).trans rfl,(blk_cell h.2.2.1 0).trans rfl,(blk_cell h.2.2.1 1).trans rfl⟩
end
set_option maxHeartbeats 8000000 in
set_option maxRecDepth 100000 in
theorem spec_DrawHarderPuzzle.yes (A:Option Addr) (c:Nat) (l:List Int) (w:World) (k3:Nat) (a1 b1 a2 b2 p d:Int) (L:List S44) (hL:L.length≤20) (hr:Kd.C (Kd.int .u8) w A l.length l) (e1:spec_l1Cur_one.f l 0 0 4=some (true,a1,b1)) (e3:spec_l1Cur_puzzle.f k3 l a1 b1=some (p,d,L,a2,b2)) :
    Calls Try.prog 17 #[.slice A l.length c] w fun e w'=> ∃ (p d:Int) (A2:Option Addr) (c2:Nat) (L:List S44),e = .returned (.agg #[.int .i64 p, .int .i64 d, .slice A2 L.length c2])∧L.length≤c2∧Kd.C k44 w' A2 L.length L∧L.length≤20∧Below w.heap.size w w':=by
  have hu:=Try.underlying71
  have hu2:=Try.underlying30
  have hu3:=Try.underlying44
  have S0:=amk (DB_new (c:=c) zPz hr);have E1:=amk e1;have E3:=amk e3;have HL:=amk hL
  clear hr e1 e3 hL
  go_enter Try.func17,Try.ntmps17
  go_wp2_with (go_at_call 34;refine Calls.mono (spec_l1Cur_one.calls (w.heap.size + 1) l 0 0 4 true a1 b1 w _ S0.out.1 S0.out.2.1 E1.out) ?_;rintro e w1 ⟨rfl,hi2,hb2,hk2⟩;have S1:=amk (DB_keep S0.out hi2 hb2 hk2);clear hi2 hb2 hk2)
  go_wp2_with (go_at_call 62;refine Calls.mono (spec_l1Cur_puzzle.calls k3 (w.heap.size + 1) l a1 b1 p d L a2 b2 w _ S1.out.1 S1.out.2.1 E3.out) ?_;rintro e wx ⟨v3,rfl,hn,hi2,hb2,hk2⟩;obtain ⟨A2,c2,rfl⟩:=Kd.R_slice hn;have HZ:=amk S1.out.1.lt;have S3:=amk (DB_keep S1.out hi2 hb2 hk2);have N3:=amk (R_lo hn HZ.out);clear hn hi2 hb2 hk2;obtain ⟨y0,y1,y2,f0,f1,f2⟩:=cells3 S3.out.2.2)
  (try simp only [Exit.inBlock,Exit.then])
  have hz1 : ∀ k,w.heap.size + 1 < k→k≠w.heap.size:=fun k hk=>by omega
  have N4:=R_st3 N3.out hz1 (.int .i64 p) (.int .i64 d) (.slice A2 L.length c2)
  refine bodyPost_ret (results_oneB rfl _ _ w.heap.size 30 #[.int .i64 p, .int .i64 d, .slice A2 L.length c2] (0,0) _ rfl (three_set S3.out.2.2 _ _ _) Try.underlying30 rfl (by kernel_rfl)) rfl ?_
  exact ⟨p,d,A2,c2,L,rfl,(Kd.R_reads' N4).2.1,(Kd.R_reads' N4).2.2,HL.out,below3 S3.out.2.1 (Nat.le_refl _) _ _ _⟩
/-! The draw of a puzzle that is to be made: its regions that draw, printed by gendraw.py. -/
def spec_DrawMakePuzzle.T4:Bool×List (List Nat×List Nat):=(true,[([],[]),([],[]),([],[]),([1,2],[1,2]),([],[]),([],[]),([4,5,3],[4,5]),([],[]),([],[]),([7,8,6],[7,8]),([0,9,0],[0]),([3,10,0,1,2,3,10],[3]),([6,11,0,1,2,3,4,5,6,10,11],[6]),([9,12,0,1,2,3,4,5,6,7,8,9,10,11,12],[9])])
def spec_DrawMakePuzzle.Bq4:List Nat:=[0,0,0,6,0,0,62,0,0,510,1023,2047,4095,8191]
theorem spec_DrawMakePuzzle.tab4:rtab .any (opsOf Try.f5 4)=spec_DrawMakePuzzle.T4:=by kernel_rfl
theorem spec_DrawMakePuzzle.bits4:waitsOk spec_DrawMakePuzzle.T4.2 spec_DrawMakePuzzle.Bq4=true:=by kernel_rfl
def spec_DrawMakePuzzle.T6:Bool×List (List Nat×List Nat):=(true,[([],[]),([],[]),([],[]),([2],[2]),([],[]),([4,3],[4]),([0,5,0],[0]),([1,6,0,1,6],[1]),([3,7,0,1,2,3,6,7],[3]),([5,8,0,1,2,3,4,5,6,7,8],[5])])
def spec_DrawMakePuzzle.Bq6:List Nat:=[0,0,0,4,0,28,61,127,255,511]
theorem spec_DrawMakePuzzle.tab6:rtab .any (opsOf Try.f5 6)=spec_DrawMakePuzzle.T6:=by kernel_rfl
theorem spec_DrawMakePuzzle.bits6:waitsOk spec_DrawMakePuzzle.T6.2 spec_DrawMakePuzzle.Bq6=true:=by kernel_rfl
theorem results_cttt {P:Program} {fn:Func} {p u v x:Tmp} {ty:TypeId} (h:fn.results = #[.cell p ty, .tmp u, .tmp v, .tmp x]) (tmps:Array Value) (w:World) (g:Nat) (t:TypeId) (cs:Array Value) (fr:Nat×Nat) (d:TypeDesc)
    (hp:tmps.getD p undef = .pointer (some ⟨g,0,none⟩)) (hg:w.heap[g]?=some (.cells cs t fr))
    (hu:P.underlying ty=some d) (hd:(match d with | .struct _ | .array _ _=>true | _=>false)=true) (hi:(P.info? ty).map (·.size)=some cs.size) :
    (results fn tmps).run P w = .ok (.tuple #[.agg cs,tmps.getD u undef,tmps.getD v undef,tmps.getD x undef]) w:=by
  have hp':tmps[p]?.getD undef = .pointer (some ⟨g,0,none⟩):=by simpa using hp
  simp [results,h,hp',asAddr,run_loadVar_row w g t ty cs fr d hg hu hd hi]
/-- The state with a box of one's own. -/
def DBx (w:World) (o1:Obj) (g:Nat) (o:Obj) (l:List Int) (W:World) (a b:Int):Prop:=DB w o1 l W a b∧W.heap[g]?=some o
theorem DBx_keep {w W W2:World} {o1 o:Obj} {g:Nat} {l:List Int} {a b a2 b2:Int} (h:DBx w o1 g o l W a b) (hg:w.heap.size + 1 < g) (i2:IsS71 w W2 (w.heap.size + 1) l a2 b2) (hb:Below w.heap.size w W2) (hk:KeepBut W W2 (w.heap.size + 1) none):DBx w o1 g o l W2 a2 b2:=
  ⟨DB_keep h.1 i2 hb hk,(hk.2 _ (blk_lt h.2) (by omega) (by simp)).trans h.2⟩
theorem DBx_below {w W W2:World} {o1 o:Obj} {g:Nat} {l:List Int} {a b:Int} (h:DBx w o1 g o l W a b) (hb:Below W.heap.size W W2):DBx w o1 g o l W2 a b:=⟨DB_below h.1 hb,blk_below h.2 hb⟩
set_option maxHeartbeats 8000000 in
set_option maxRecDepth 100000 in
theorem spec_DrawMakePuzzle.no (A:Option Addr) (c:Nat) (l:List Int) (w:World) (k3:Nat) (a1 b1 a2 b2 a3 b3 a4 b4 p d x y:Int) (s:ByteArray) (hr:Kd.C (Kd.int .u8) w A l.length l) (e1:spec_l1Cur_one.f l 0 0 12=some (false,a1,b1)) (e2:spec_l1Cur_hidden.f k3 l a1 b1=some (p,d,s,a2,b2)) (e3:spec_l1Cur_pick.f l a2 b2 7=some (x,a3,b3)) (e4:spec_l1Cur_pick.f l a3 b3 10000=some (y,a4,b4)) :
    Calls Try.prog 5 #[.slice A l.length c] w fun e w'=> ∃ (p d:Int) (s:ByteArray) (x y:Int),e = .returned (.tuple #[.agg #[.int .i64 p, .int .i64 d], .string s, .int .i64 x, .int .i64 y])∧Below w.heap.size w w':=by
  have hu:=Try.underlying71
  have hu2:=Try.underlying25
  have S0:=amk (DB_new (c:=c) zLk hr);have E1:=amk e1;have E2:=amk e2;have E3:=amk e3;have E4:=amk e4;clear hr e1 e2 e3 e4
  go_enter Try.func5,Try.ntmps5
  go_wp2_with (go_at_call 34;refine Calls.mono (spec_l1Cur_one.calls (w.heap.size + 1) l 0 0 12 false a1 b1 w _ S0.out.1 S0.out.2.1 E1.out) ?_;rintro e w1 ⟨rfl,hi2,hb2,hk2⟩;have S1:=amk (DB_keep S0.out hi2 hb2 hk2);clear hi2 hb2 hk2)
  go_upto_region 6 with (go_at_call 38;refine Calls.mono (spec_l1Cur_hidden.calls k3 (w.heap.size + 1) l a1 b1 p d s a2 b2 w _ S1.out.1 S1.out.2.1 E2.out) ?_;rintro e w2 ⟨rfl,hi2,hb2,hk2⟩;have HG:=amk (show w.heap.size + 1 < w2.heap.size from hi2.lt);have S2:=amk (show DBx w zLk w2.heap.size (.cells #[.int .i64 p, .int .i64 d] 25 (0,0)) l (w2.alloc (.cells #[.int .i64 p, .int .i64 d] 25 (0,0))) a2 b2 from ⟨DB_below (DB_keep S1.out hi2 hb2 hk2) ((Below.refl _ w2).alloc (Nat.le_refl _) _),blk_new _ _⟩);clear hi2 hb2 hk2)
  refine start_ (n:=10) (S:=fun w'=>w'.cell? ⟨w2.heap.size,0,none⟩=some (.int .i64 p)∧w'.cell? ⟨w2.heap.size,1,none⟩=some (.int .i64 d)) (ds:=[]) (bA 10 0) (by kernel_rfl) rfl rfl ⟨(blk_cell S2.out.2 0).trans rfl,(blk_cell S2.out.2 1).trans rfl⟩ (fun hHeld=>?_);refine with_tabW spec_DrawMakePuzzle.tab6 spec_DrawMakePuzzle.bits6 (fun HT_ HW_=>?_)
  have S3:=amk (DBx_below S2.out (bd_ (Below.refl _ _)));clear S2
  generalize World.drew _=W1 at S3 hHeld ⊢
  refine tK_ HT_ HW_ hHeld 0 (some 32) (bA 10 1) ?_
  refine pU_ HT_ 1 (some 33) (bA 10 3) ?_
  refine pU_ HT_ 2 (some 34) (bA 10 7) ?_
  refine pU_ HT_ 4 (some 36) (bA 10 23) ?_
  refine oN_ HT_ 3 (some 35) (bA 10 31) (fun K hK=>?_);refine gs_ Try.func39 #[.pointer (some ⟨w.heap.size + 1,0,none⟩), .int .i64 7] ?_;refine Calls.mono (spec_l1Cur_pick.calls (w.heap.size + 1) l a2 b2 7 x a3 b3 w _ S3.out.1.1 S3.out.1.2.1 E3.out) ?_;rintro e w4 ⟨rfl,hi2,hb2,hk2⟩;refine ⟨_,rfl,?_⟩;have S4:=amk (DBx_keep S3.out HG.out hi2 hb2 hk2);clear hi2 hb2 hk2
  refine hK.out _ _ ⟨(blk_cell S4.out.2 0).trans rfl,(blk_cell S4.out.2 1).trans rfl⟩ (fun hHeld=>?_);clear hK K;refine nN_ (some 35) ?_
  refine oN_ HT_ 5 (some 37) (bA 10 63) (fun K hK=>?_);refine gs_ Try.func39 #[.pointer (some ⟨w.heap.size + 1,0,none⟩), .int .i64 10000] ?_;refine Calls.mono (spec_l1Cur_pick.calls (w.heap.size + 1) l a3 b3 10000 y a4 b4 w _ S4.out.1.1 S4.out.1.2.1 E4.out) ?_;rintro e w5 ⟨rfl,hi2,hb2,hk2⟩;refine ⟨_,rfl,?_⟩;have S5:=amk (DBx_keep S4.out HG.out hi2 hb2 hk2);clear hi2 hb2 hk2
  refine hK.out _ _ ⟨(blk_cell S5.out.2 0).trans rfl,(blk_cell S5.out.2 1).trans rfl⟩ (fun hHeld=>?_);clear hK K;refine nN_ (some 37) ?_
  refine oN_ HT_ 6 none (bA 10 127) (fun K hK=>?_);obtain ⟨z0,z1,z2,z3⟩:=cells2 S5.out.1.2.2;refine skip_ (w1:=?_) (by rfl) rfl ?_ ?_;rotate_left
  · go_simp;rfl
  have H1:=amk (two_set S5.out.1.2.2 (.int .i64 p) (.int .i64 d));have H2:=amk (below2 S5.out.1.2.1 (Nat.le_refl _) (.int .i64 p) (.int .i64 d));have H3:=amk ((far2 (W:=w5) (Nat.ne_of_gt (Nat.lt_trans (Nat.lt_succ_self _) HG.out)) (.int .i64 p) (.int .i64 d)).trans S5.out.2);refine hK.out _ _ ⟨(blk_cell H3.out 0).trans rfl,(blk_cell H3.out 1).trans rfl⟩ (fun hHeld=>?_);clear hK K
  clear z0 z1 z2 z3
  refine pU_ HT_ 7 (some 3) (bA 10 255) ?_
  refine pU_ HT_ 8 (some 4) (bA 10 511) ?_
  refine pU_ HT_ 9 (some 5) (bA 10 1023) ?_
  refine done_ (done_of HT_.out (by kernel_rfl)) ?_
  try go_wp2
  (try simp only [Exit.inBlock,Exit.then])
  refine bodyPost_ret (results_cttt rfl _ _ w.heap.size 25 #[.int .i64 p, .int .i64 d] (0,0) _ rfl H1.out Try.underlying25 rfl (by kernel_rfl)) rfl ?_
  exact ⟨p,d,s,x,y,rfl,H2.out⟩
/-! The draw of a puzzle that may be made harder: its second branch; printed by gendraw.py. -/
set_option maxHeartbeats 8000000 in
set_option maxRecDepth 100000 in
theorem spec_DrawHarderPuzzle.no (A:Option Addr) (c:Nat) (l:List Int) (w:World) (k3 k4:Nat) (a1 b1 a2 b2 a3 b3 a4 b4 p d p2 d2 m1 m2:Int) (s:ByteArray) (L:List S44) (tt:Bool) (hL:L.length≤6) (hs6:s.size≤6) (hA : ∀ i:Nat,i < s.size→bt s (i:Nat) < 128) (hT : ∀ i:Nat,i < s.size→∃ k t0 t1 t2,spec_pzOf.f k p d 0 i s=some (t0,t1,t2)) (hr:Kd.C (Kd.int .u8) w A l.length l) (e1:spec_l1Cur_one.f l 0 0 4=some (false,a1,b1)) (e2:spec_l1Cur_hidden.f k3 l a1 b1=some (p,d,s,a2,b2)) (e3:spec_l1Cur_pick.f l a2 b2 2=some (m1,a3,b3)) (e4:spec_l1Cur_pick.f l a3 b3 10000=some (m2,a4,b4)) (e5:spec_MakePuzzle.f k4 p d s m1 m2=some (p2,d2,L,tt)) :
    Calls Try.prog 17 #[.slice A l.length c] w fun e w'=> ∃ (p d:Int) (A2:Option Addr) (c2:Nat) (L:List S44),e = .returned (.agg #[.int .i64 p, .int .i64 d, .slice A2 L.length c2])∧L.length≤c2∧Kd.C k44 w' A2 L.length L∧L.length≤20∧Below w.heap.size w w':=by
  have hu:=Try.underlying71
  have hu2:=Try.underlying30
  have hu3:=Try.underlying28
  have hu4:=Try.underlying25
  have hus:=Try.underlying9
  have S0:=amk (DB_new (c:=c) zPz hr);have E1:=amk e1;have E2:=amk e2;have E3:=amk e3;have E4:=amk e4;have E5:=amk e5;have HL:=amk hL;have H6:=amk hs6;have HA:=amk hA;have HT:=amk hT;clear hr e1 e2 e3 e4 e5 hL hs6 hA hT
  go_enter Try.func17,Try.ntmps17
  go_wp2_with (go_at_call 34;refine Calls.mono (spec_l1Cur_one.calls (w.heap.size + 1) l 0 0 4 false a1 b1 w _ S0.out.1 S0.out.2.1 E1.out) ?_;rintro e w1 ⟨rfl,hi2,hb2,hk2⟩;have S1:=amk (DB_keep S0.out hi2 hb2 hk2);clear hi2 hb2 hk2)
  go_upto_region 5 with (go_at_call 38;refine Calls.mono (spec_l1Cur_hidden.calls k3 (w.heap.size + 1) l a1 b1 p d s a2 b2 w _ S1.out.1 S1.out.2.1 E2.out) ?_;rintro e w2 ⟨rfl,hi2,hb2,hk2⟩;have HG:=amk (show w.heap.size + 1 < w2.heap.size from hi2.lt);have S2:=amk (show DBx w zPz w2.heap.size (.cells #[.int .i64 p, .int .i64 d] 25 (0,0)) l (w2.alloc (.cells #[.int .i64 p, .int .i64 d] 25 (0,0))) a2 b2 from ⟨DB_below (DB_keep S1.out hi2 hb2 hk2) ((Below.refl _ w2).alloc (Nat.le_refl _) _),blk_new _ _⟩);clear hi2 hb2 hk2)
  generalize w2.heap.size=gL at HG S2 ⊢
  refine start_ (n:=13) (S:=fun w'=>w'.cell? ⟨gL,0,none⟩=some (.int .i64 p)∧w'.cell? ⟨gL,1,none⟩=some (.int .i64 d)) (ds:=[]) (bA 13 0) (by kernel_rfl) rfl rfl ⟨(blk_cell S2.out.2 0).trans rfl,(blk_cell S2.out.2 1).trans rfl⟩ (fun hHeld=>?_);refine with_tabW spec_DrawHarderPuzzle.tab5 spec_DrawHarderPuzzle.bits5 (fun HT_ HW_=>?_)
  have S3:=amk (DBx_below S2.out (bd_ (Below.refl _ _)));clear S2
  generalize World.drew _=W at S3 hHeld ⊢
  refine tK_ HT_ HW_ hHeld 0 (some 22) (bA 13 1) ?_
  refine pU_ HT_ 1 (some 23) (bA 13 3) ?_
  refine pU_ HT_ 2 (some 24) (bA 13 7) ?_
  refine pU_ HT_ 4 (some 26) (bA 13 23) ?_
  refine join_ (σ:=Option Addr×Nat×Nat) 2 (bA 13 2047) (fun s_=> [(25, .int .i64 m1),(27, .int .i64 m2),(28, .tuple #[.agg #[.int .i64 p2, .int .i64 d2, .slice s_.1 L.length s_.2.1], .bool tt]),(21, .tuple #[.agg #[.int .i64 p2, .int .i64 d2, .slice s_.1 L.length s_.2.1], .bool tt]),(29, .agg #[.int .i64 p2, .int .i64 d2, .slice s_.1 L.length s_.2.1]),(30, .bool tt),(6, .pointer (some ⟨s_.2.2,0,none⟩))]) (fun s_ w'=>(w'.cell? ⟨gL,0,none⟩=some (.int .i64 p)∧w'.cell? ⟨gL,1,none⟩=some (.int .i64 d))∧(DBx w zPz gL (.cells #[.int .i64 p, .int .i64 d] 25 (0,0)) l w' a4 b4)∧(Kd.R k44 44 w' w.heap.size (fun _=>True) (.slice s_.1 L.length s_.2.1) L)∧(w'.heap[s_.2.2]?=some zPz∧gL < s_.2.2)) ?_ ?_
  · rintro ⟨A2,c2,gP⟩ W ⟨h_held,h_S3,h_RR,h_BP⟩
    (try dsimp only at h_held h_S3 h_RR h_BP)
    have hHeld:=h_held;have S3:=amk h_S3;have RR:=amk h_RR;have BP:=amk h_BP;clear h_held h_S3 h_RR h_BP
    refine norm_ (a':=?_) ?_ ?_;rotate_left
    · simp only [putAll,Act.put,List.setIfInBounds_toArray,List.set_cons_zero,List.set_cons_succ]
      rfl
    refine oN_ HT_ 11 none (bA 13 4095) (fun K hK=>?_);obtain ⟨z0,z1,z2,z3,z4,z5⟩:=cells3 BP.out.1;refine skip_ (w1:=?_) (by rfl) rfl ?_ ?_;rotate_left
    · go_simp;rfl
    have H1:=amk (below3 S3.out.1.2.1 (Nat.le_of_lt (Nat.lt_trans (Nat.lt_trans (Nat.lt_succ_self _) HG.out) BP.out.2)) (.int .i64 p2) (.int .i64 d2) (.slice A2 L.length c2));have H2:=amk ((far3 (W:=W) (Nat.ne_of_lt (Nat.lt_trans (Nat.lt_trans (Nat.lt_succ_self _) HG.out) BP.out.2)) (.int .i64 p2) (.int .i64 d2) (.slice A2 L.length c2)).trans S3.out.1.2.2);have H3:=amk ((far3 (W:=W) (Nat.ne_of_lt BP.out.2) (.int .i64 p2) (.int .i64 d2) (.slice A2 L.length c2)).trans S3.out.2);have H4:=amk (three_set BP.out.1 (.int .i64 p2) (.int .i64 d2) (.slice A2 L.length c2));have H5:=amk (R_pst RR.out BP.out.1 (.int .i64 p2) (.int .i64 d2) (.slice A2 L.length c2));have HP:=amk BP.out.2;refine hK.out _ _ ⟨(blk_cell H3.out 0).trans rfl,(blk_cell H3.out 1).trans rfl⟩ (fun hHeld=>?_);clear hK K
    clear z0 z1 z2 z3 z4 z5 S3 BP RR
    refine pU_ HT_ 12 (some 7) (bA 13 8191) ?_
    refine done_ (done_of HT_.out (by kernel_rfl)) ?_;(try dsimp only [st3] at H1 H2 H3 H4 H5);clear hHeld;generalize ((W.setCell ⟨gP,0,none⟩ (.int .i64 p2)).setCell ⟨gP,1,none⟩ (.int .i64 d2)).setCell ⟨gP,2,none⟩ (.slice A2 L.length c2)=W3 at H1 H2 H3 H4 H5 ⊢
    have HX:=amk (HHx_start (s:=s) H1.out H2.out H3.out H4.out (Nat.lt_trans (Nat.lt_succ_self _) HG.out) (Nat.lt_trans (Nat.lt_trans (Nat.lt_succ_self _) HG.out) HP.out) H5.out);clear H1 H2 H3 H4 H5;have HI:=amk (show W3.heap.size=W3.heap.size from rfl)
    clear E1 E2 E3 E4 E5 S0 S1 HT_ HW_
    go_wp2
    go_loopg [] s.size (fun gg wr=> ∃ (i:Nat) (v:Value) (cs:List S44),Aside0 (i≤s.size∧s.size≤i + gg)∧Aside0 (cs.length≤6 + i)∧Aside0 (HHx w p d p2 d2 gL gP W3.heap.size s i v cs wr))
    case atStart=>exact ⟨0,_,L,⟨⟨Nat.zero_le _,by omega⟩⟩,HL,HX⟩
    case round =>
      clear HX HL
      obtain ⟨i,v,cs,HI,HL,HX⟩:=hrel
      by_cases hi:i < s.size
      · have hnx : ∀ ty,(Instr.next (.pointer (some ⟨W3.heap.size,0,none⟩)) true ty).run Try.prog wr = .ok (.tuple #[.bool true, .int .i64 (i:Nat), .int .i32 (bt s (i:Nat))]) (wr.iterAt W3.heap.size s (i + 1)):=by
          intro ty
          have:=Lib.run_next_ascii_at (P:=Try.prog) wr W3.heap.size s i ty HX.out.2.2.2.2.1 hi (by have:=bt_nat hi;have:=HA.out i hi;omega)
          rw [bt_nat hi] at this
          exact this
        obtain ⟨kk,t0,t1,t2,et⟩:=HT.out i hi
        have ET:=amk et;clear et
        have HY:=amk (HHx_iter HX.out (i + 1));clear HX
        generalize wr.iterAt W3.heap.size s (i + 1)=W1 at hnx HY
        go_wp2
        have HY2:=amk (HHx_below HY.out (bd_ (Below.refl _ _)));clear HY
        refine start_ (n:=10) (S:=fun w'=>w'.cell? ⟨gP,2,none⟩=some v∧w'.cell? ⟨gL,0,none⟩=some (.int .i64 p)∧w'.cell? ⟨gL,1,none⟩=some (.int .i64 d)) (ds:=[9]) (bA 10 0) (by kernel_rfl) rfl rfl (HHx_cells HY2.out) (fun hHeld=>?_);refine with_tabW spec_DrawHarderPuzzle.tab9 spec_DrawHarderPuzzle.bits9 (fun HT_ HW_=>?_)
        generalize World.drew _=W2 at HY2 hHeld ⊢
        refine pU_ HT_ 0 (some 36) (bA 10 1) ?_
        refine pU_ HT_ 3 (some 39) (bA 10 9) ?_
        refine pU_ HT_ 4 (some 40) (bA 10 25) ?_
        refine tK_ HT_ HW_ hHeld 1 (some 37) (bA 10 27) ?_
        refine tK_ HT_ HW_ hHeld 2 (some 38) (bA 10 31) ?_
        refine oN_ HT_ 5 (some 41) (bA 10 63) (fun K hK=>?_);refine gs_ Try.func51 #[.agg #[.int .i64 p, .int .i64 d], .int .i64 0, .int .i64 (i:Nat), .string s] ?_;refine Calls.mono (spec_pzOf.calls kk p d 0 (i:Nat) s t0 t1 t2 _ ET.out) ?_;rintro e W4 ⟨rfl,hb⟩;refine ⟨_,rfl,?_⟩;have HY4:=amk (HHx_below HY2.out hb);clear hb HY2
        refine hK.out _ _ (HHx_cells HY4.out) (fun hHeld=>?_);clear hK K;refine nN_ (some 41) ?_
        refine oN_ HT_ 6 (some 42) (bA 10 127) (fun K hK=>?_)
        refine value_ (w1:=?_) (v:=?_) (by rfl) rfl ?_ ?_;rotate_left 2
        · go_simp
          constructor
          · rfl
          · rfl
        have HY5:=amk (fun o=>HHx_below HY4.out (ba_ (Below.refl _ _) o));refine hK.out _ _ (HHx_cells (HY5.out _)) (fun hHeld=>?_);clear hK K;refine nN_ (some 42) ?_
        refine oN_ HT_ 7 (some 43) (bA 10 255) (fun K hK=>?_)
        refine Kd.R_append_step k44 (w0:=w) w.heap.size (by rfl) (.tmp 37) (.tmp 42) 28 44 (.agg #[(.int .i64 0),(.int .i64 0),(.int .i64 0)]) 24 rfl Try.underlying28 info44 rfl (by decide) (by omega) v cs (⟨t0,t1,t2⟩:S44) [.int .i64 t0, .int .i64 t1, .int .i64 t2] (fun _=>True) (fun _=>False) rfl rfl ?aP (fun _ hk=>hk.elim) ?aF ?aO ?aB ?aS ?aL ?_
        (case aP=>exact k44_mkM _ _ _ (⟨t0,t1,t2⟩:S44))
        (case aB=>exact HY4.out.1)
        (case aF=>exact (fun _ _=>trivial))
        (case aO=>exact HY4.out.2.2.2.2.2.2.2.2)
        (case aS=>exact HY4.out.1.size)
        (case aL=>have:=HL.out;have:=HI.out;have:=H6.out;omega)
        intro v9 W9 ho hb hg hat;obtain ⟨Ao9,co9,rfl⟩:=Kd.R_slice ho;have HG9:=amk (HHx_grown HY4.out hb hg ho);clear ho hb hg hat
        have hc9:=(blk_cell HG9.out.1.2 2).trans rfl;refine hK.out _ _ ⟨hc9,(blk_cell HG9.out.1.1 0).trans rfl,(blk_cell HG9.out.1.1 1).trans rfl⟩ (fun hHeld=>?_);clear hK K hc9;refine nN_ (some 43) ?_
        refine pU_ HT_ 8 (some 44) (bA 10 511) ?_
        refine last_ (i:=9) (N:=none) (bA 10 1023) rfl rfl (one_of HT_.out (by kernel_rfl)) (by decide) (fun K hK=>?_)
        have hs9:=hHeld.1;have hf9:=blk_frozen HG9.out.1.2 2;refine skip_ (w1:=?_) (by rfl) rfl ?_ ?_;rotate_left
        · go_simp;rfl
        refine hK.out _ _ ?_;clear hK K;refine done_ (done_of HT_.out (by kernel_rfl)) ?_;clear hs9 hf9
        try go_wp2
        go_roundg (s.size - (i + 1))
        case measure=>have:=HI.out;omega
        case rel => have h9 := HG9.out.2; have hl9 : (cs ++ [(⟨t0, t1, t2⟩ : S44)]).length = cs.length + 1 := by simp
                    rw [hl9] at h9;exact ⟨i + 1,_,cs ++ [(⟨t0,t1,t2⟩:S44)],⟨⟨hi,by omega⟩⟩,⟨by have:=HL.out;omega⟩,⟨h9⟩⟩
      · have hnx : ∀ ty,(Instr.next (.pointer (some ⟨W3.heap.size,0,none⟩)) true ty).run Try.prog wr = .ok (.tuple #[.bool false]) wr:=fun ty=>Lib.run_next_end_at (P:=Try.prog) wr W3.heap.size s i ty HX.out.2.2.2.2.1 hi
        obtain ⟨A3,c3,rfl⟩:=Kd.R_slice HX.out.2.2.2.2.2.2.2.2
        obtain ⟨y0,y1,y2,f0,f1,f2⟩:=cells3 HX.out.2.1
        obtain ⟨x0,x1,x2,_,_,_⟩:=cells3 HX.out.2.2.2.1
        go_wp2
        (try simp only [Exit.inBlock,Exit.then])
        have N4:=R_pst HX.out.2.2.2.2.2.2.2.2 HX.out.2.1 (.int .i64 p2) (.int .i64 d2) (.slice A3 cs.length c3)
        refine bodyPost_ret (results_oneB rfl _ _ w.heap.size 30 #[.int .i64 p2, .int .i64 d2, .slice A3 cs.length c3] (0,0) _ rfl (three_set HX.out.2.1 _ _ _) Try.underlying30 rfl (by kernel_rfl)) rfl ?_
        exact ⟨p2,d2,A3,c3,cs,rfl,(Kd.R_reads' N4).2.1,(Kd.R_reads' N4).2.2,by have:=HL.out;have:=HI.out;have:=H6.out;omega,below3 HX.out.1 (Nat.le_refl _) _ _ _⟩
  intro hJ_3_5_6_10
  refine join_ (σ:=Option Addr×Nat) 3 (bA 13 1023) (fun s_=> [(25, .int .i64 m1),(27, .int .i64 m2),(28, .tuple #[.agg #[.int .i64 p2, .int .i64 d2, .slice s_.1 L.length s_.2], .bool tt]),(21, .tuple #[.agg #[.int .i64 p2, .int .i64 d2, .slice s_.1 L.length s_.2], .bool tt]),(29, .agg #[.int .i64 p2, .int .i64 d2, .slice s_.1 L.length s_.2]),(30, .bool tt)]) (fun s_ w'=>(w'.cell? ⟨gL,0,none⟩=some (.int .i64 p)∧w'.cell? ⟨gL,1,none⟩=some (.int .i64 d))∧(DBx w zPz gL (.cells #[.int .i64 p, .int .i64 d] 25 (0,0)) l w' a4 b4)∧(Kd.R k44 44 w' w.heap.size (fun _=>True) (.slice s_.1 L.length s_.2) L)) ?_ ?_
  · rintro ⟨A2,c2⟩ W ⟨h_held,h_S3,h_RR⟩
    (try dsimp only at h_held h_S3 h_RR)
    have hHeld:=h_held;have S3:=amk h_S3;have RR:=amk h_RR;clear h_held h_S3 h_RR
    refine norm_ (a':=?_) ?_ ?_;rotate_left
    · simp only [putAll,Act.put,List.setIfInBounds_toArray,List.set_cons_zero,List.set_cons_succ]
      rfl
    refine oN_ HT_ 10 (some 6) (bA 13 2047) (fun K hK=>?_)
    refine value_ (w1:=?_) (v:=?_) (by rfl) rfl ?_ ?_;rotate_left 2
    · go_simp
      constructor
      · rfl
      · rfl
    have S4:=amk (DBx_below S3.out ((Below.refl _ W).alloc (Nat.le_refl _) zPz));have HN:=amk (And.intro (blk_new W zPz) (blk_lt S3.out.2))
    refine hK.out _ _ ⟨(blk_cell S4.out.2 0).trans rfl,(blk_cell S4.out.2 1).trans rfl⟩ (fun hHeld=>?_);clear hK K;refine nN_ (some 6) ?_
    exact norm_ nJ_ (hJ_3_5_6_10 (A2,c2,W.heap.size) _ ⟨hHeld,S4.out,Kd.R_alloc RR.out _,HN.out⟩)
  intro hJ_3_5_6
  refine join_ (σ:=Nat) 6 (bA 13 1087) (fun s_=> [(25, .int .i64 m1),(27, .int .i64 m2),(6, .pointer (some ⟨s_,0,none⟩))]) (fun s_ w'=>(w'.cell? ⟨gL,0,none⟩=some (.int .i64 p)∧w'.cell? ⟨gL,1,none⟩=some (.int .i64 d))∧(DBx w zPz gL (.cells #[.int .i64 p, .int .i64 d] 25 (0,0)) l w' a4 b4)∧(w'.heap[s_]?=some zPz∧gL < s_)) ?_ ?_
  · rintro gP W ⟨h_held,h_S3,h_BP⟩
    have hHeld:=h_held;have S3:=amk h_S3;have BP:=amk h_BP;clear h_held h_S3 h_BP
    refine norm_ (a':=?_) ?_ ?_;rotate_left
    · simp only [putAll,Act.put,List.setIfInBounds_toArray,List.set_cons_zero,List.set_cons_succ]
      rfl
    refine oN_ HT_ 6 (some 28) (bA 13 1151) (fun K hK=>?_)
    refine gs_ Try.func7 #[.agg #[.int .i64 p, .int .i64 d], .string s, .int .i64 m1, .int .i64 m2] ?_;refine Calls.mono (spec_MakePuzzle.calls k4 p d s m1 m2 p2 d2 L tt _ E5.out) ?_;rintro e W2 ⟨v2,rfl,hn,hb2⟩;obtain ⟨A2,c2,rfl⟩:=Kd.R_slice hn;refine ⟨_,rfl,?_⟩
    have S4:=amk (DBx_below S3.out hb2);have RR:=amk (Kd.R_lower hn (Nat.le_of_lt (Nat.lt_trans (Nat.lt_trans (Nat.lt_succ_self _) HG.out) (blk_lt S3.out.2))));have nBP:=amk (And.intro (blk_below BP.out.1 hb2) BP.out.2);clear hn hb2
    refine hK.out _ _ ⟨(blk_cell S4.out.2 0).trans rfl,(blk_cell S4.out.2 1).trans rfl⟩ (fun hHeld=>?_);clear hK K;refine nN_ (some 28) ?_
    refine pU_ HT_ 7 (some 21) (bA 13 1279) ?_
    refine pU_ HT_ 8 (some 29) (bA 13 1535) ?_
    refine pU_ HT_ 9 (some 30) (bA 13 2047) ?_
    exact norm_ nJ_ (hJ_3_5_6_10 (A2,c2,gP) _ ⟨hHeld,S4.out,RR.out,nBP.out⟩)
  intro hJ_3_5_10
  refine join_ (σ:=Unit) 7 (bA 13 63) (fun s_=> [(25, .int .i64 m1),(27, .int .i64 m2)]) (fun s_ w'=>(w'.cell? ⟨gL,0,none⟩=some (.int .i64 p)∧w'.cell? ⟨gL,1,none⟩=some (.int .i64 d))∧(DBx w zPz gL (.cells #[.int .i64 p, .int .i64 d] 25 (0,0)) l w' a4 b4)) ?_ ?_
  · rintro _ W ⟨h_held,h_S3⟩
    have hHeld:=h_held;have S3:=amk h_S3;clear h_held h_S3
    refine norm_ (a':=?_) ?_ ?_;rotate_left
    · simp only [putAll,Act.put,List.setIfInBounds_toArray,List.set_cons_zero,List.set_cons_succ]
      rfl
    refine two_ (i:=6) (j:=10) (Ni:=some 28) (Nj:=some 6) (bA 13 127) (bA 13 1087) rfl rfl rfl rfl (two_of HT_.out (by kernel_rfl)) (by decide) (by decide) (fun K hK=>?_) (fun K hK=>?_)
    · refine gs_ Try.func7 #[.agg #[.int .i64 p, .int .i64 d], .string s, .int .i64 m1, .int .i64 m2] ?_;refine Calls.mono (spec_MakePuzzle.calls k4 p d s m1 m2 p2 d2 L tt _ E5.out) ?_;rintro e W2 ⟨v2,rfl,hn,hb2⟩;obtain ⟨A2,c2,rfl⟩:=Kd.R_slice hn;refine ⟨_,rfl,?_⟩
      have S4:=amk (DBx_below S3.out hb2);have RR:=amk (Kd.R_lower hn (Nat.le_of_lt (Nat.lt_trans (Nat.lt_trans (Nat.lt_succ_self _) HG.out) (blk_lt S3.out.2))));clear hn hb2
      refine hK.out _ _ ⟨(blk_cell S4.out.2 0).trans rfl,(blk_cell S4.out.2 1).trans rfl⟩ (fun hHeld=>?_);clear hK K;refine nN_ (some 28) ?_
      refine pU_ HT_ 7 (some 21) (bA 13 255) ?_
      refine pU_ HT_ 8 (some 29) (bA 13 511) ?_
      refine pU_ HT_ 9 (some 30) (bA 13 1023) ?_
      exact norm_ nJ_ (hJ_3_5_6 (A2,c2) _ ⟨hHeld,S4.out,RR.out⟩)
    · refine value_ (w1:=?_) (v:=?_) (by rfl) rfl ?_ ?_;rotate_left 2
      · go_simp
        constructor
        · rfl
        · rfl
      have S4:=amk (DBx_below S3.out ((Below.refl _ W).alloc (Nat.le_refl _) zPz));have HN:=amk (And.intro (blk_new W zPz) (blk_lt S3.out.2))
      refine hK.out _ _ ⟨(blk_cell S4.out.2 0).trans rfl,(blk_cell S4.out.2 1).trans rfl⟩ (fun hHeld=>?_);clear hK K;refine nN_ (some 6) ?_
      exact norm_ nJ_ (hJ_3_5_10 (W.heap.size) _ ⟨hHeld,S4.out,HN.out⟩)
  intro hJ_3_5
  refine join_ (σ:=Nat) 7 (bA 13 1055) (fun s_=> [(25, .int .i64 m1),(6, .pointer (some ⟨s_,0,none⟩))]) (fun s_ w'=>(w'.cell? ⟨gL,0,none⟩=some (.int .i64 p)∧w'.cell? ⟨gL,1,none⟩=some (.int .i64 d))∧(DBx w zPz gL (.cells #[.int .i64 p, .int .i64 d] 25 (0,0)) l w' a3 b3)∧(w'.heap[s_]?=some zPz∧gL < s_)) ?_ ?_
  · rintro gP W ⟨h_held,h_S3,h_BP⟩
    have hHeld:=h_held;have S3:=amk h_S3;have BP:=amk h_BP;clear h_held h_S3 h_BP
    refine norm_ (a':=?_) ?_ ?_;rotate_left
    · simp only [putAll,Act.put,List.setIfInBounds_toArray,List.set_cons_zero,List.set_cons_succ]
      rfl
    refine oN_ HT_ 5 (some 27) (bA 13 1087) (fun K hK=>?_)
    refine gs_ Try.func39 #[.pointer (some ⟨w.heap.size + 1,0,none⟩), .int .i64 10000] ?_;refine Calls.mono (spec_l1Cur_pick.calls (w.heap.size + 1) l a3 b3 10000 m2 a4 b4 w _ S3.out.1.1 S3.out.1.2.1 E4.out) ?_;rintro e W2 ⟨rfl,hi2,hb2,hk2⟩;refine ⟨_,rfl,?_⟩
    have S4:=amk (DBx_keep S3.out HG.out hi2 hb2 hk2);have nBP:=amk (And.intro ((hk2.2 _ (blk_lt BP.out.1) (Nat.ne_of_gt (Nat.lt_trans HG.out BP.out.2)) (by simp)).trans BP.out.1) BP.out.2);clear hi2 hb2 hk2
    refine hK.out _ _ ⟨(blk_cell S4.out.2 0).trans rfl,(blk_cell S4.out.2 1).trans rfl⟩ (fun hHeld=>?_);clear hK K;refine nN_ (some 27) ?_
    exact norm_ nJ_ (hJ_3_5_10 (gP) _ ⟨hHeld,S4.out,nBP.out⟩)
  intro hJ_3_10
  refine join_ (σ:=Unit) 8 (bA 13 31) (fun s_=> [(25, .int .i64 m1)]) (fun s_ w'=>(w'.cell? ⟨gL,0,none⟩=some (.int .i64 p)∧w'.cell? ⟨gL,1,none⟩=some (.int .i64 d))∧(DBx w zPz gL (.cells #[.int .i64 p, .int .i64 d] 25 (0,0)) l w' a3 b3)) ?_ ?_
  · rintro _ W ⟨h_held,h_S3⟩
    have hHeld:=h_held;have S3:=amk h_S3;clear h_held h_S3
    refine norm_ (a':=?_) ?_ ?_;rotate_left
    · simp only [putAll,Act.put,List.setIfInBounds_toArray,List.set_cons_zero,List.set_cons_succ]
      rfl
    refine two_ (i:=5) (j:=10) (Ni:=some 27) (Nj:=some 6) (bA 13 63) (bA 13 1055) rfl rfl rfl rfl (two_of HT_.out (by kernel_rfl)) (by decide) (by decide) (fun K hK=>?_) (fun K hK=>?_)
    · refine gs_ Try.func39 #[.pointer (some ⟨w.heap.size + 1,0,none⟩), .int .i64 10000] ?_;refine Calls.mono (spec_l1Cur_pick.calls (w.heap.size + 1) l a3 b3 10000 m2 a4 b4 w _ S3.out.1.1 S3.out.1.2.1 E4.out) ?_;rintro e W2 ⟨rfl,hi2,hb2,hk2⟩;refine ⟨_,rfl,?_⟩
      have S4:=amk (DBx_keep S3.out HG.out hi2 hb2 hk2);clear hi2 hb2 hk2
      refine hK.out _ _ ⟨(blk_cell S4.out.2 0).trans rfl,(blk_cell S4.out.2 1).trans rfl⟩ (fun hHeld=>?_);clear hK K;refine nN_ (some 27) ?_
      exact norm_ nJ_ (hJ_3_5 () _ ⟨hHeld,S4.out⟩)
    · refine value_ (w1:=?_) (v:=?_) (by rfl) rfl ?_ ?_;rotate_left 2
      · go_simp
        constructor
        · rfl
        · rfl
      have S4:=amk (DBx_below S3.out ((Below.refl _ W).alloc (Nat.le_refl _) zPz));have HN:=amk (And.intro (blk_new W zPz) (blk_lt S3.out.2))
      refine hK.out _ _ ⟨(blk_cell S4.out.2 0).trans rfl,(blk_cell S4.out.2 1).trans rfl⟩ (fun hHeld=>?_);clear hK K;refine nN_ (some 6) ?_
      exact norm_ nJ_ (hJ_3_10 (W.heap.size) _ ⟨hHeld,S4.out,HN.out⟩)
  intro hJ_3
  refine join_ (σ:=Nat) 8 (bA 13 1047) (fun s_=> [(6, .pointer (some ⟨s_,0,none⟩))]) (fun s_ w'=>(w'.cell? ⟨gL,0,none⟩=some (.int .i64 p)∧w'.cell? ⟨gL,1,none⟩=some (.int .i64 d))∧(DBx w zPz gL (.cells #[.int .i64 p, .int .i64 d] 25 (0,0)) l w' a2 b2)∧(w'.heap[s_]?=some zPz∧gL < s_)) ?_ ?_
  · rintro gP W ⟨h_held,h_S3,h_BP⟩
    have hHeld:=h_held;have S3:=amk h_S3;have BP:=amk h_BP;clear h_held h_S3 h_BP
    refine norm_ (a':=?_) ?_ ?_;rotate_left
    · simp only [putAll,Act.put,List.setIfInBounds_toArray,List.set_cons_zero,List.set_cons_succ]
      rfl
    refine oN_ HT_ 3 (some 25) (bA 13 1055) (fun K hK=>?_)
    refine gs_ Try.func39 #[.pointer (some ⟨w.heap.size + 1,0,none⟩), .int .i64 2] ?_;refine Calls.mono (spec_l1Cur_pick.calls (w.heap.size + 1) l a2 b2 2 m1 a3 b3 w _ S3.out.1.1 S3.out.1.2.1 E3.out) ?_;rintro e W2 ⟨rfl,hi2,hb2,hk2⟩;refine ⟨_,rfl,?_⟩
    have S4:=amk (DBx_keep S3.out HG.out hi2 hb2 hk2);have nBP:=amk (And.intro ((hk2.2 _ (blk_lt BP.out.1) (Nat.ne_of_gt (Nat.lt_trans HG.out BP.out.2)) (by simp)).trans BP.out.1) BP.out.2);clear hi2 hb2 hk2
    refine hK.out _ _ ⟨(blk_cell S4.out.2 0).trans rfl,(blk_cell S4.out.2 1).trans rfl⟩ (fun hHeld=>?_);clear hK K;refine nN_ (some 25) ?_
    exact norm_ nJ_ (hJ_3_10 (gP) _ ⟨hHeld,S4.out,nBP.out⟩)
  intro hJ_10
  refine two_ (i:=3) (j:=10) (Ni:=some 25) (Nj:=some 6) (bA 13 31) (bA 13 1047) rfl rfl rfl rfl (two_of HT_.out (by kernel_rfl)) (by decide) (by decide) (fun K hK=>?_) (fun K hK=>?_)
  · refine gs_ Try.func39 #[.pointer (some ⟨w.heap.size + 1,0,none⟩), .int .i64 2] ?_;refine Calls.mono (spec_l1Cur_pick.calls (w.heap.size + 1) l a2 b2 2 m1 a3 b3 w _ S3.out.1.1 S3.out.1.2.1 E3.out) ?_;rintro e W2 ⟨rfl,hi2,hb2,hk2⟩;refine ⟨_,rfl,?_⟩
    have S4:=amk (DBx_keep S3.out HG.out hi2 hb2 hk2);clear hi2 hb2 hk2
    refine hK.out _ _ ⟨(blk_cell S4.out.2 0).trans rfl,(blk_cell S4.out.2 1).trans rfl⟩ (fun hHeld=>?_);clear hK K;refine nN_ (some 25) ?_
    exact norm_ nJ_ (hJ_3 () _ ⟨hHeld,S4.out⟩)
  · refine value_ (w1:=?_) (v:=?_) (by rfl) rfl ?_ ?_;rotate_left 2
    · go_simp
      constructor
      · rfl
      · rfl
    have S4:=amk (DBx_below S3.out ((Below.refl _ W).alloc (Nat.le_refl _) zPz));have HN:=amk (And.intro (blk_new W zPz) (blk_lt S3.out.2))
    refine hK.out _ _ ⟨(blk_cell S4.out.2 0).trans rfl,(blk_cell S4.out.2 1).trans rfl⟩ (fun hHeld=>?_);clear hK K;refine nN_ (some 6) ?_
    exact norm_ nJ_ (hJ_10 (W.heap.size) _ ⟨hHeld,S4.out,HN.out⟩)
/-! The draw of a puzzle that may be made harder: both branches. -/
theorem made_few {w d:Int} (hl:lockB w d=true) (hc:d ^ w.toNat≤100) {s:ByteArray} (hs:codeS w d s) {n y:Int} (hn:0≤n∧n < 2) (h0:0≤y) (h1:y < 10000) : ∃ L:List S44,makeR w d s n y=(w,d,L,true):=by
  have h2:smallB w d 125=true:=by unfold smallB;rw [hl,Bool.true_and,decide_eq_true_eq];omega
  have e:smallB w d 125=true∧codeT w d s=true∧winB n 0 6=true∧winB y 0 9999=true:=⟨h2,codeT_code.mpr hs,by unfold winB;exact decide_eq_true (by omega),by unfold winB;exact decide_eq_true (by omega)⟩
  unfold makeR
  rw [if_pos e]
  exact ⟨_,rfl⟩
theorem pzOf0 {w d:Int} (hl:lockB w d=true) {s:ByteArray} (hs:codeS w d s) (i:Nat) (hi:i < s.size) : ∃ k t0 t1 t2,spec_pzOf.f k w d 0 i s=some (t0,t1,t2):=by
  obtain ⟨w1,w2,d1,d2⟩:=lockB_iff.mp hl
  have hz:=hs.1
  obtain ⟨k,hk⟩:=(spec_pzValue.ev hl hs (a:=0) (b:=(i:Int)) (Or.inl ⟨rfl,by omega,by omega⟩)).rounds
  refine ⟨k,0,(i:Int),valV w d 0 i s,?_⟩
  unfold spec_pzOf.f
  rw [if_neg (by decide),hk]
  rfl
theorem spec_DrawHarderPuzzle.calls (A:Option Addr) (c:Nat) (l:List Int) (w:World) (hs:BytesV l) (hr:Kd.C (Kd.int .u8) w A l.length l) :
    Calls Try.prog 17 #[.slice A l.length c] w fun e w'=> ∃ (p d:Int) (A2:Option Addr) (c2:Nat) (L:List S44),e = .returned (.agg #[.int .i64 p, .int .i64 d, .slice A2 L.length c2])∧L.length≤c2∧Kd.C k44 w' A2 L.length L∧L.length≤20∧Below w.heap.size w w':=by
  obtain ⟨q,a1,b1,e1,g1,g2⟩:=done_ok hs (a:=0) (by omega) (by omega) 0 (n:=4) (by omega)
  cases q with
  | true =>
    obtain ⟨p,d,L,a2,b2,h3,hL,g3,g4⟩:=dpuzzle_ok hs (a:=a1) (by omega) (by omega) b1
    obtain ⟨k3,e3⟩:=h3.rounds
    exact spec_DrawHarderPuzzle.yes A c l w k3 a1 b1 a2 b2 p d L hL hr e1 e3
  | false =>
    obtain ⟨p,d,s,a2,b2,h2,hl,hc,hcs,g3,g4⟩:=dhidden_ok hs (a:=a1) (by omega) (by omega) b1
    obtain ⟨m1,a3,b3,e3,m10,m11,g5,g6⟩:=dpick_ok hs (a:=a2) (by omega) (by omega) b2 (n:=2) (by omega)
    obtain ⟨m2,a4,b4,e4,m20,m21,g7,g8⟩:=dpickB_ok hs (a:=a3) (by omega) (by omega) b3 (n:=10000) (by omega)
    obtain ⟨L,hm⟩:=made_few hl hc hcs ⟨m10,by omega⟩ m20 m21
    have hL:=makeR_len p d s m1 m2
    have h5:=spec_MakePuzzle.ev p d s m1 m2
    rw [hm] at h5 hL
    obtain ⟨k3,e2⟩:=h2.rounds
    obtain ⟨k4,e5⟩:=h5.rounds
    obtain ⟨w1,w2,d1,d2⟩:=lockB_iff.mp hl
    have hz:=hcs.1
    exact spec_DrawHarderPuzzle.no A c l w k3 k4 a1 b1 a2 b2 a3 b3 a4 b4 p d p d m1 m2 s L true hL (by omega) (fun i hi=>by have:=hcs.2 i hi;omega) (pzOf0 hl hcs) hr e1 e2 e3 e4 e5
/-! The draw of a lock and a clue, by hand. -/
set_option maxHeartbeats 8000000 in
set_option maxRecDepth 100000 in
theorem spec_DrawIsClue.yes (A:Option Addr) (c:Nat) (l:List Int) (w:World) (a1 b1 a2 b2 a3 b3 a4 b4 a5 b5 a6 b6 p d x y u v:Int) (hr:Kd.C (Kd.int .u8) w A l.length l) (e1:spec_l1Cur_one.f l 0 0 4=some (true,a1,b1)) (e2:spec_l1Cur_lock.f l a1 b1=some (p,d,a2,b2)) (e3:spec_l1Cur_pick.f l a2 b2 6=some (x,a3,b3)) (e4:spec_l1Cur_pick.f l a3 b3 9=some (y,a4,b4))
    (e5:spec_l1Cur_among.f l a4 b4 [(-1),0,1,2,9,10,24,25,60,61,4611686018427387904]=some (u,a5,b5)) (e6:spec_l1Cur_among.f l a5 b5 [(-1),0,1,3,4,9,60,61]=some (v,a6,b6)) :
    Calls Try.prog 31 #[.slice A l.length c] w fun e w'=> ∃ (p d x y z:Int),e = .returned (.tuple #[.agg #[.int .i64 p, .int .i64 d], .agg #[.int .i64 x, .int .i64 y, .int .i64 z]])∧Below w.heap.size w w':=by
  have hu:=Try.underlying71
  have hu2:=Try.underlying25
  have hu3:=Try.underlying44
  have hu4:=Try.underlying53
  have S0:=amk (DA_new (c:=c) zLk zCl hr);have E1:=amk e1;have E2:=amk e2;have E3:=amk e3;have E4:=amk e4;have E5:=amk e5;have E6:=amk e6
  clear hr e1 e2 e3 e4 e5 e6
  go_enter Try.func31,Try.ntmps31
  go_wp2_with (go_at_call 34;refine Calls.mono (spec_l1Cur_one.calls (w.heap.size + 1 + 1) l 0 0 4 true a1 b1 w _ S0.out.1 S0.out.2.1 E1.out) ?_;rintro e w1 ⟨rfl,hi2,hb2,hk2⟩;have S1:=amk (DA_keep S0.out hi2 hb2 hk2);clear hi2 hb2 hk2)
  go_wp2_with (go_at_call 35;refine Calls.mono (spec_l1Cur_lock.calls (w.heap.size + 1 + 1) l a1 b1 p d a2 b2 w _ S1.out.1 S1.out.2.1 E2.out) ?_;rintro e w2 ⟨rfl,hi2,hb2,hk2⟩;have S2:=amk (DA_keep S1.out hi2 hb2 hk2);clear hi2 hb2 hk2)
  go_wp2_with (go_at_call_of 39 (Value.int .i64 6);refine Calls.mono (spec_l1Cur_pick.calls (w.heap.size + 1 + 1) l a2 b2 6 x a3 b3 w _ S2.out.1 S2.out.2.1 E3.out) ?_;rintro e w3 ⟨rfl,hi2,hb2,hk2⟩;have S3:=amk (DA_keep S2.out hi2 hb2 hk2);clear hi2 hb2 hk2)
  go_wp2_with (go_at_call 39;refine Calls.mono (spec_l1Cur_pick.calls (w.heap.size + 1 + 1) l a3 b3 9 y a4 b4 w _ S3.out.1 S3.out.2.1 E4.out) ?_;rintro e w4 ⟨rfl,hi2,hb2,hk2⟩;have HZ:=amk (show w4.heap.size≠w.heap.size + 1 + 1 from Nat.ne_of_gt hi2.lt);have S4:=amk (DA_below (DA_keep S3.out hi2 hb2 hk2) ((Below.refl _ w4).alloc (Nat.le_refl _) (.cells #[.int .i64 (-1), .int .i64 0, .int .i64 1, .int .i64 2, .int .i64 9, .int .i64 10, .int .i64 24, .int .i64 25, .int .i64 60, .int .i64 61, .int .i64 4611686018427387904] 3 (0,0))));have R4:=amk (ints_read (xs:=[(-1),0,1,2,9,10,24,25,60,61,4611686018427387904]) (blk_new w4 (.cells #[.int .i64 (-1), .int .i64 0, .int .i64 1, .int .i64 2, .int .i64 9, .int .i64 10, .int .i64 24, .int .i64 25, .int .i64 60, .int .i64 61, .int .i64 4611686018427387904] 3 (0,0))) (by decide));clear hi2 hb2 hk2)
  go_wp2_with (go_at_call_of 37 (Value.slice (some ⟨w4.heap.size,0,none⟩) 11 11);refine Calls.mono (spec_l1Cur_among.calls (w.heap.size + 1 + 1) l a4 b4 (some ⟨w4.heap.size,0,none⟩) 11 [(-1),0,1,2,9,10,24,25,60,61,4611686018427387904] u a5 b5 w _ S4.out.1 S4.out.2.1 R4.out (Nat.le_refl _) (fun ad h _=>by obtain rfl:=Option.some.inj h;exact HZ.out) E5.out) ?_;rintro e w5 ⟨rfl,hi2,hb2,hk2⟩;have HZ5:=amk (show w5.heap.size≠w.heap.size + 1 + 1 from Nat.ne_of_gt hi2.lt);have S5:=amk (DA_below (DA_keep S4.out hi2 hb2 hk2) ((Below.refl _ w5).alloc (Nat.le_refl _) (.cells #[.int .i64 (-1), .int .i64 0, .int .i64 1, .int .i64 3, .int .i64 4, .int .i64 9, .int .i64 60, .int .i64 61] 3 (0,0))));have R5:=amk (ints_read (xs:=[(-1),0,1,3,4,9,60,61]) (blk_new w5 (.cells #[.int .i64 (-1), .int .i64 0, .int .i64 1, .int .i64 3, .int .i64 4, .int .i64 9, .int .i64 60, .int .i64 61] 3 (0,0))) (by decide));clear hi2 hb2 hk2)
  go_wp2_with (go_at_call 37;refine Calls.mono (spec_l1Cur_among.calls (w.heap.size + 1 + 1) l a5 b5 (some ⟨w5.heap.size,0,none⟩) 8 [(-1),0,1,3,4,9,60,61] v a6 b6 w _ S5.out.1 S5.out.2.1 R5.out (Nat.le_refl _) (fun ad h _=>by obtain rfl:=Option.some.inj h;exact HZ5.out) E6.out) ?_;rintro e w6 ⟨rfl,hi2,hb2,hk2⟩;have S6:=amk (DA_keep S5.out hi2 hb2 hk2);clear hi2 hb2 hk2;obtain ⟨y0,y1,f0,f1⟩:=cells2 S6.out.2.2.1;obtain ⟨z0,z1,z2,g0,g1,g2⟩:=cells3 S6.out.2.2.2)
  (try simp only [Exit.inBlock,Exit.then])
  refine bodyPost_ret (results_cc rfl _ _ w.heap.size (w.heap.size + 1) 25 44 #[.int .i64 p, .int .i64 d] #[_,_,_] (0,0) (0,0) _ _ rfl ((far3 (Nat.ne_of_lt (Nat.lt_succ_self _)) _ _ _).trans (two_set S6.out.2.2.1 _ _)) Try.underlying25 rfl (by kernel_rfl) rfl (three_set ((far2 (Nat.ne_of_gt (Nat.lt_succ_self _)) _ _).trans S6.out.2.2.2) _ _ _) Try.underlying44 rfl (by kernel_rfl)) rfl ?_
  exact ⟨_,_,_,_,_,rfl,below3 (below2 S6.out.2.1 (Nat.le_refl _) _ _) (Nat.le_succ _) _ _ _⟩
set_option maxHeartbeats 8000000 in
set_option maxRecDepth 100000 in
theorem spec_DrawIsClue.no (A:Option Addr) (c:Nat) (l:List Int) (w:World) (k3:Nat) (a1 b1 a2 b2 a3 b3 p d x y z:Int) (hr:Kd.C (Kd.int .u8) w A l.length l) (e1:spec_l1Cur_one.f l 0 0 4=some (false,a1,b1)) (e2:spec_l1Cur_sureLock.f l a1 b1=some (p,d,a2,b2)) (e3:spec_l1Cur_clue.f k3 l a2 b2=some (x,y,z,a3,b3)) :
    Calls Try.prog 31 #[.slice A l.length c] w fun e w'=> ∃ (p d x y z:Int),e = .returned (.tuple #[.agg #[.int .i64 p, .int .i64 d], .agg #[.int .i64 x, .int .i64 y, .int .i64 z]])∧Below w.heap.size w w':=by
  have hu:=Try.underlying71
  have hu2:=Try.underlying25
  have hu3:=Try.underlying44
  have S0:=amk (DA_new (c:=c) zLk zCl hr);have E1:=amk e1;have E2:=amk e2;have E3:=amk e3
  clear hr e1 e2 e3
  go_enter Try.func31,Try.ntmps31
  go_wp2_with (go_at_call 34;refine Calls.mono (spec_l1Cur_one.calls (w.heap.size + 1 + 1) l 0 0 4 false a1 b1 w _ S0.out.1 S0.out.2.1 E1.out) ?_;rintro e w1 ⟨rfl,hi2,hb2,hk2⟩;have S1:=amk (DA_keep S0.out hi2 hb2 hk2);clear hi2 hb2 hk2)
  go_wp2_with (go_at_call 71;refine Calls.mono (spec_l1Cur_sureLock.calls (w.heap.size + 1 + 1) l a1 b1 p d a2 b2 w _ S1.out.1 S1.out.2.1 E2.out) ?_;rintro e w2 ⟨rfl,hi2,hb2,hk2⟩;have S2:=amk (DA_keep S1.out hi2 hb2 hk2);clear hi2 hb2 hk2)
  go_wp2_with (go_at_call 68;refine Calls.mono (spec_l1Cur_clue.calls k3 (w.heap.size + 1 + 1) l a2 b2 x y z a3 b3 w _ S2.out.1 S2.out.2.1 E3.out) ?_;rintro e w3 ⟨rfl,hi2,hb2,hk2⟩;have S3:=amk (DA_keep S2.out hi2 hb2 hk2);clear hi2 hb2 hk2;obtain ⟨y0,y1,f0,f1⟩:=cells2 S3.out.2.2.1;obtain ⟨z0,z1,z2,g0,g1,g2⟩:=cells3 S3.out.2.2.2)
  (try simp only [Exit.inBlock,Exit.then])
  refine bodyPost_ret (results_cc rfl _ _ w.heap.size (w.heap.size + 1) 25 44 #[.int .i64 p, .int .i64 d] #[.int .i64 x, .int .i64 y, .int .i64 z] (0,0) (0,0) _ _ rfl ((far3 (Nat.ne_of_lt (Nat.lt_succ_self _)) _ _ _).trans (two_set S3.out.2.2.1 _ _)) Try.underlying25 rfl (by kernel_rfl) rfl (three_set ((far2 (Nat.ne_of_gt (Nat.lt_succ_self _)) _ _).trans S3.out.2.2.2) _ _ _) Try.underlying44 rfl (by kernel_rfl)) rfl ?_
  exact ⟨p,d,x,y,z,rfl,below3 (below2 S3.out.2.1 (Nat.le_refl _) _ _) (Nat.le_succ _) _ _ _⟩
theorem spec_DrawIsClue.calls (A:Option Addr) (c:Nat) (l:List Int) (w:World) (hs:BytesV l) (hr:Kd.C (Kd.int .u8) w A l.length l) :
    Calls Try.prog 31 #[.slice A l.length c] w fun e w'=> ∃ (p d x y z:Int),e = .returned (.tuple #[.agg #[.int .i64 p, .int .i64 d], .agg #[.int .i64 x, .int .i64 y, .int .i64 z]])∧Below w.heap.size w w':=by
  obtain ⟨q,a1,b1,e1,g1,g2⟩:=done_ok hs (a:=0) (by omega) (by omega) 0 (n:=4) (by omega)
  cases q with
  | true =>
    obtain ⟨p,d,a2,b2,e2,g3,g4⟩:=dlock_ok hs (a:=a1) (by omega) (by omega) b1
    obtain ⟨x,a3,b3,e3,_,_,g5,g6⟩:=dpick_ok hs (a:=a2) (by omega) (by omega) b2 (n:=6) (by omega)
    obtain ⟨y,a4,b4,e4,_,_,g7,g8⟩:=dpick_ok hs (a:=a3) (by omega) (by omega) b3 (n:=9) (by omega)
    obtain ⟨u,a5,b5,e5,_,g9,g10⟩:=damong_ok hs (a:=a4) (by omega) (by omega) b4 (l:=[(-1),0,1,2,9,10,24,25,60,61,4611686018427387904]) (by decide) (by decide)
    obtain ⟨v,a6,b6,e6,_,g11,g12⟩:=damong_ok hs (a:=a5) (by omega) (by omega) b5 (l:=[(-1),0,1,3,4,9,60,61]) (by decide) (by decide)
    exact spec_DrawIsClue.yes A c l w a1 b1 a2 b2 a3 b3 a4 b4 a5 b5 a6 b6 p d x y u v hr e1 e2 e3 e4 e5 e6
  | false =>
    obtain ⟨p,d,a2,b2,e2,_,_,g3,g4⟩:=dsure_ok hs (a:=a1) (by omega) (by omega) b1
    obtain ⟨x,y,z,a3,b3,h3,g5,g6⟩:=dclue_ok hs (a:=a2) (by omega) (by omega) b2
    obtain ⟨k3,e3⟩:=h3.rounds
    exact spec_DrawIsClue.no A c l w k3 a1 b1 a2 b2 a3 b3 p d x y z hr e1 e2 e3
/-! The draw of a puzzle that is to be made: its first branch, and both; printed by gendraw.py. -/
set_option maxHeartbeats 8000000 in
set_option maxRecDepth 100000 in
theorem spec_DrawMakePuzzle.yes (A:Option Addr) (c:Nat) (l:List Int) (w:World) (k3:Nat) (a1 b1 a2 b2 a3 b3 a4 b4 a5 b5 p d x y:Int) (s:ByteArray) (hr:Kd.C (Kd.int .u8) w A l.length l) (e1:spec_l1Cur_one.f l 0 0 12=some (true,a1,b1)) (e2:spec_l1Cur_lock.f l a1 b1=some (p,d,a2,b2)) (e3:spec_l1Cur_code1.f k3 l a2 b2 p d=some (s,a3,b3)) (e4:spec_l1Cur_among.f l a3 b3 [(-1),6,7]=some (x,a4,b4)) (e5:spec_l1Cur_among.f l a4 b4 [(-1),9999,10000]=some (y,a5,b5)) :
    Calls Try.prog 5 #[.slice A l.length c] w fun e w'=> ∃ (p d:Int) (s:ByteArray) (x y:Int),e = .returned (.tuple #[.agg #[.int .i64 p, .int .i64 d], .string s, .int .i64 x, .int .i64 y])∧Below w.heap.size w w':=by
  have hu:=Try.underlying71
  have hu2:=Try.underlying25
  have hu3:=Try.underlying53
  have S0:=amk (DB_new (c:=c) zLk hr);have E1:=amk e1;have E2:=amk e2;have E3:=amk e3;have E4:=amk e4;have E5:=amk e5;clear hr e1 e2 e3 e4 e5
  go_enter Try.func5,Try.ntmps5
  go_wp2_with (go_at_call 34;refine Calls.mono (spec_l1Cur_one.calls (w.heap.size + 1) l 0 0 12 true a1 b1 w _ S0.out.1 S0.out.2.1 E1.out) ?_;rintro e w1 ⟨rfl,hi2,hb2,hk2⟩;have S1:=amk (DB_keep S0.out hi2 hb2 hk2);clear hi2 hb2 hk2)
  go_upto_region 4 with (go_at_call 35;refine Calls.mono (spec_l1Cur_lock.calls (w.heap.size + 1) l a1 b1 p d a2 b2 w _ S1.out.1 S1.out.2.1 E2.out) ?_;rintro e w2 ⟨rfl,hi2,hb2,hk2⟩;have HG:=amk (show w.heap.size + 1 < w2.heap.size from hi2.lt);have S2:=amk (show DBx w zLk w2.heap.size (.cells #[.int .i64 p, .int .i64 d] 25 (0,0)) l (w2.alloc (.cells #[.int .i64 p, .int .i64 d] 25 (0,0))) a2 b2 from ⟨DB_below (DB_keep S1.out hi2 hb2 hk2) ((Below.refl _ w2).alloc (Nat.le_refl _) _),blk_new _ _⟩);clear hi2 hb2 hk2)
  generalize w2.heap.size=gL at HG S2 ⊢
  refine start_ (n:=14) (S:=fun w'=>w'.cell? ⟨gL,0,none⟩=some (.int .i64 p)∧w'.cell? ⟨gL,1,none⟩=some (.int .i64 d)) (ds:=[]) (bA 14 0) (by kernel_rfl) rfl rfl ⟨(blk_cell S2.out.2 0).trans rfl,(blk_cell S2.out.2 1).trans rfl⟩ (fun hHeld=>?_);refine with_tabW spec_DrawMakePuzzle.tab4 spec_DrawMakePuzzle.bits4 (fun HT_ HW_=>?_)
  have S3:=amk (DBx_below S2.out (bd_ (Below.refl _ _)));clear S2
  generalize World.drew _=W at S3 hHeld ⊢
  refine tK_ HT_ HW_ hHeld 0 (some 17) (bA 14 1) ?_
  refine pU_ HT_ 1 (some 18) (bA 14 3) ?_
  refine tK_ HT_ HW_ hHeld 2 (some 19) (bA 14 7) ?_
  refine pU_ HT_ 4 (some 21) (bA 14 23) ?_
  refine pU_ HT_ 7 (some 24) (bA 14 151) ?_
  refine join_ (σ:=Nat×Nat) 4 (bA 14 1023) (fun s_=> [(20, .string s),(22, .slice (some ⟨s_.1,0,none⟩) 3 3),(23, .int .i64 x),(25, .slice (some ⟨s_.2,0,none⟩) 3 3),(26, .int .i64 y)]) (fun s_ w'=>(w'.cell? ⟨gL,0,none⟩=some (.int .i64 p)∧w'.cell? ⟨gL,1,none⟩=some (.int .i64 d))∧(DBx w zLk gL (.cells #[.int .i64 p, .int .i64 d] 25 (0,0)) l w' a5 b5)) ?_ ?_
  · rintro ⟨g5,g8⟩ W ⟨h_held,h_S3⟩
    (try dsimp only at h_held h_S3)
    have hHeld:=h_held;have S3:=amk h_S3;clear h_held h_S3
    refine norm_ (a':=?_) ?_ ?_;rotate_left
    · simp only [putAll,Act.put,List.setIfInBounds_toArray,List.set_cons_zero,List.set_cons_succ]
      rfl
    refine oN_ HT_ 10 none (bA 14 2047) (fun K hK=>?_);obtain ⟨z0,z1,z2,z3⟩:=cells2 S3.out.1.2.2;refine skip_ (w1:=?_) (by rfl) rfl ?_ ?_;rotate_left
    · go_simp;rfl
    have H1:=amk (two_set S3.out.1.2.2 (.int .i64 p) (.int .i64 d));have H2:=amk (below2 S3.out.1.2.1 (Nat.le_refl _) (.int .i64 p) (.int .i64 d));have H3:=amk ((far2 (W:=W) (Nat.ne_of_gt (Nat.lt_trans (Nat.lt_succ_self _) HG.out)) (.int .i64 p) (.int .i64 d)).trans S3.out.2);refine hK.out _ _ ⟨(blk_cell H3.out 0).trans rfl,(blk_cell H3.out 1).trans rfl⟩ (fun hHeld=>?_);clear hK K
    clear z0 z1 z2 z3
    refine pU_ HT_ 11 (some 3) (bA 14 4095) ?_
    refine pU_ HT_ 12 (some 4) (bA 14 8191) ?_
    refine pU_ HT_ 13 (some 5) (bA 14 16383) ?_
    refine done_ (done_of HT_.out (by kernel_rfl)) ?_
    try go_wp2
    (try simp only [Exit.inBlock,Exit.then])
    refine bodyPost_ret (results_cttt rfl _ _ w.heap.size 25 #[.int .i64 p, .int .i64 d] (0,0) _ rfl H1.out Try.underlying25 rfl (by kernel_rfl)) rfl ?_
    exact ⟨p,d,s,x,y,rfl,H2.out⟩
  intro hJ_3_5_6_8_9
  refine join_ (σ:=Nat×Nat) 5 (bA 14 511) (fun s_=> [(20, .string s),(22, .slice (some ⟨s_.1,0,none⟩) 3 3),(23, .int .i64 x),(25, .slice (some ⟨s_.2,0,none⟩) 3 3)]) (fun s_ w'=>(w'.cell? ⟨gL,0,none⟩=some (.int .i64 p)∧w'.cell? ⟨gL,1,none⟩=some (.int .i64 d))∧(DBx w zLk gL (.cells #[.int .i64 p, .int .i64 d] 25 (0,0)) l w' a4 b4)∧(w'.heap[s_.2]?=some (.cells #[.int .i64 (-1), .int .i64 9999, .int .i64 10000] 3 (0,0))∧w.heap.size + 1 < s_.2)) ?_ ?_
  · rintro ⟨g5,g8⟩ W ⟨h_held,h_S3,h_Bq8⟩
    (try dsimp only at h_held h_S3 h_Bq8)
    have hHeld:=h_held;have S3:=amk h_S3;have Bq8:=amk h_Bq8;clear h_held h_S3 h_Bq8
    refine norm_ (a':=?_) ?_ ?_;rotate_left
    · simp only [putAll,Act.put,List.setIfInBounds_toArray,List.set_cons_zero,List.set_cons_succ]
      rfl
    refine oN_ HT_ 9 (some 26) (bA 14 1023) (fun K hK=>?_)
    refine gs_ Try.func37 #[.pointer (some ⟨w.heap.size + 1,0,none⟩), .slice (some ⟨g8,0,none⟩) 3 3] ?_;refine Calls.mono (spec_l1Cur_among.calls (w.heap.size + 1) l a4 b4 (some ⟨g8,0,none⟩) 3 [(-1),9999,10000] y a5 b5 w _ S3.out.1.1 S3.out.1.2.1 (ints_read (xs:=[(-1),9999,10000]) Bq8.out.1 (by decide)) (Nat.le_refl _) (fun ad h _=>by obtain rfl:=Option.some.inj h;exact Nat.ne_of_gt Bq8.out.2) E5.out) ?_;rintro e W2 ⟨rfl,hi2,hb2,hk2⟩;refine ⟨_,rfl,?_⟩
    have S4:=amk (DBx_keep S3.out HG.out hi2 hb2 hk2);clear hi2 hb2 hk2
    refine hK.out _ _ ⟨(blk_cell S4.out.2 0).trans rfl,(blk_cell S4.out.2 1).trans rfl⟩ (fun hHeld=>?_);clear hK K;refine nN_ (some 26) ?_
    exact norm_ nJ_ (hJ_3_5_6_8_9 (g5,g8) _ ⟨hHeld,S4.out⟩)
  intro hJ_3_5_6_8
  refine join_ (σ:=Nat) 6 (bA 14 255) (fun s_=> [(20, .string s),(22, .slice (some ⟨s_,0,none⟩) 3 3),(23, .int .i64 x)]) (fun s_ w'=>(w'.cell? ⟨gL,0,none⟩=some (.int .i64 p)∧w'.cell? ⟨gL,1,none⟩=some (.int .i64 d))∧(DBx w zLk gL (.cells #[.int .i64 p, .int .i64 d] 25 (0,0)) l w' a4 b4)) ?_ ?_
  · rintro g5 W ⟨h_held,h_S3⟩
    have hHeld:=h_held;have S3:=amk h_S3;clear h_held h_S3
    refine norm_ (a':=?_) ?_ ?_;rotate_left
    · simp only [putAll,Act.put,List.setIfInBounds_toArray,List.set_cons_zero,List.set_cons_succ]
      rfl
    refine oN_ HT_ 8 (some 25) (bA 14 511) (fun K hK=>?_)
    refine value_ (w1:=?_) (v:=?_) (by rfl) rfl ?_ ?_;rotate_left 2
    · go_simp
      constructor
      · rfl
      · rfl
    have S4:=amk (DBx_below S3.out ((Below.refl _ W).alloc (Nat.le_refl _) (.cells #[.int .i64 (-1), .int .i64 9999, .int .i64 10000] 3 (0,0))));have HN:=amk (And.intro (blk_new W (.cells #[.int .i64 (-1), .int .i64 9999, .int .i64 10000] 3 (0,0))) (show w.heap.size + 1 < W.heap.size from S3.out.1.1.lt))
    refine hK.out _ _ ⟨(blk_cell S4.out.2 0).trans rfl,(blk_cell S4.out.2 1).trans rfl⟩ (fun hHeld=>?_);clear hK K;refine nN_ (some 25) ?_
    exact norm_ nJ_ (hJ_3_5_6_8 (g5,W.heap.size) _ ⟨hHeld,S4.out,HN.out⟩)
  intro hJ_3_5_6
  refine join_ (σ:=Nat×Nat) 6 (bA 14 447) (fun s_=> [(20, .string s),(22, .slice (some ⟨s_.1,0,none⟩) 3 3),(25, .slice (some ⟨s_.2,0,none⟩) 3 3)]) (fun s_ w'=>(w'.cell? ⟨gL,0,none⟩=some (.int .i64 p)∧w'.cell? ⟨gL,1,none⟩=some (.int .i64 d))∧(DBx w zLk gL (.cells #[.int .i64 p, .int .i64 d] 25 (0,0)) l w' a3 b3)∧(w'.heap[s_.1]?=some (.cells #[.int .i64 (-1), .int .i64 6, .int .i64 7] 3 (0,0))∧w.heap.size + 1 < s_.1)∧(w'.heap[s_.2]?=some (.cells #[.int .i64 (-1), .int .i64 9999, .int .i64 10000] 3 (0,0))∧w.heap.size + 1 < s_.2)) ?_ ?_
  · rintro ⟨g5,g8⟩ W ⟨h_held,h_S3,h_Bq5,h_Bq8⟩
    (try dsimp only at h_held h_S3 h_Bq5 h_Bq8)
    have hHeld:=h_held;have S3:=amk h_S3;have Bq5:=amk h_Bq5;have Bq8:=amk h_Bq8;clear h_held h_S3 h_Bq5 h_Bq8
    refine norm_ (a':=?_) ?_ ?_;rotate_left
    · simp only [putAll,Act.put,List.setIfInBounds_toArray,List.set_cons_zero,List.set_cons_succ]
      rfl
    refine oN_ HT_ 6 (some 23) (bA 14 511) (fun K hK=>?_)
    refine gs_ Try.func37 #[.pointer (some ⟨w.heap.size + 1,0,none⟩), .slice (some ⟨g5,0,none⟩) 3 3] ?_;refine Calls.mono (spec_l1Cur_among.calls (w.heap.size + 1) l a3 b3 (some ⟨g5,0,none⟩) 3 [(-1),6,7] x a4 b4 w _ S3.out.1.1 S3.out.1.2.1 (ints_read (xs:=[(-1),6,7]) Bq5.out.1 (by decide)) (Nat.le_refl _) (fun ad h _=>by obtain rfl:=Option.some.inj h;exact Nat.ne_of_gt Bq5.out.2) E4.out) ?_;rintro e W2 ⟨rfl,hi2,hb2,hk2⟩;refine ⟨_,rfl,?_⟩
    have S4:=amk (DBx_keep S3.out HG.out hi2 hb2 hk2);have nBq8:=amk (And.intro ((hk2.2 _ (blk_lt Bq8.out.1) (Nat.ne_of_gt Bq8.out.2) (by simp)).trans Bq8.out.1) Bq8.out.2);clear hi2 hb2 hk2
    refine hK.out _ _ ⟨(blk_cell S4.out.2 0).trans rfl,(blk_cell S4.out.2 1).trans rfl⟩ (fun hHeld=>?_);clear hK K;refine nN_ (some 23) ?_
    exact norm_ nJ_ (hJ_3_5_6_8 (g5,g8) _ ⟨hHeld,S4.out,nBq8.out⟩)
  intro hJ_3_5_8
  refine join_ (σ:=Nat) 7 (bA 14 191) (fun s_=> [(20, .string s),(22, .slice (some ⟨s_,0,none⟩) 3 3)]) (fun s_ w'=>(w'.cell? ⟨gL,0,none⟩=some (.int .i64 p)∧w'.cell? ⟨gL,1,none⟩=some (.int .i64 d))∧(DBx w zLk gL (.cells #[.int .i64 p, .int .i64 d] 25 (0,0)) l w' a3 b3)∧(w'.heap[s_]?=some (.cells #[.int .i64 (-1), .int .i64 6, .int .i64 7] 3 (0,0))∧w.heap.size + 1 < s_)) ?_ ?_
  · rintro g5 W ⟨h_held,h_S3,h_Bq5⟩
    have hHeld:=h_held;have S3:=amk h_S3;have Bq5:=amk h_Bq5;clear h_held h_S3 h_Bq5
    refine norm_ (a':=?_) ?_ ?_;rotate_left
    · simp only [putAll,Act.put,List.setIfInBounds_toArray,List.set_cons_zero,List.set_cons_succ]
      rfl
    refine two_ (i:=6) (j:=8) (Ni:=some 23) (Nj:=some 25) (bA 14 255) (bA 14 447) rfl rfl rfl rfl (two_of HT_.out (by kernel_rfl)) (by decide) (by decide) (fun K hK=>?_) (fun K hK=>?_)
    · refine gs_ Try.func37 #[.pointer (some ⟨w.heap.size + 1,0,none⟩), .slice (some ⟨g5,0,none⟩) 3 3] ?_;refine Calls.mono (spec_l1Cur_among.calls (w.heap.size + 1) l a3 b3 (some ⟨g5,0,none⟩) 3 [(-1),6,7] x a4 b4 w _ S3.out.1.1 S3.out.1.2.1 (ints_read (xs:=[(-1),6,7]) Bq5.out.1 (by decide)) (Nat.le_refl _) (fun ad h _=>by obtain rfl:=Option.some.inj h;exact Nat.ne_of_gt Bq5.out.2) E4.out) ?_;rintro e W2 ⟨rfl,hi2,hb2,hk2⟩;refine ⟨_,rfl,?_⟩
      have S4:=amk (DBx_keep S3.out HG.out hi2 hb2 hk2);clear hi2 hb2 hk2
      refine hK.out _ _ ⟨(blk_cell S4.out.2 0).trans rfl,(blk_cell S4.out.2 1).trans rfl⟩ (fun hHeld=>?_);clear hK K;refine nN_ (some 23) ?_
      exact norm_ nJ_ (hJ_3_5_6 (g5) _ ⟨hHeld,S4.out⟩)
    · refine value_ (w1:=?_) (v:=?_) (by rfl) rfl ?_ ?_;rotate_left 2
      · go_simp
        constructor
        · rfl
        · rfl
      have S4:=amk (DBx_below S3.out ((Below.refl _ W).alloc (Nat.le_refl _) (.cells #[.int .i64 (-1), .int .i64 9999, .int .i64 10000] 3 (0,0))));have HN:=amk (And.intro (blk_new W (.cells #[.int .i64 (-1), .int .i64 9999, .int .i64 10000] 3 (0,0))) (show w.heap.size + 1 < W.heap.size from S3.out.1.1.lt))
      refine hK.out _ _ ⟨(blk_cell S4.out.2 0).trans rfl,(blk_cell S4.out.2 1).trans rfl⟩ (fun hHeld=>?_);clear hK K;refine nN_ (some 25) ?_
      exact norm_ nJ_ (hJ_3_5_8 (g5,W.heap.size) _ ⟨hHeld,S4.out,⟨ka_ Bq5.out.1 _,Bq5.out.2⟩,HN.out⟩)
  intro hJ_3_5
  refine join_ (σ:=Nat) 7 (bA 14 415) (fun s_=> [(20, .string s),(25, .slice (some ⟨s_,0,none⟩) 3 3)]) (fun s_ w'=>(w'.cell? ⟨gL,0,none⟩=some (.int .i64 p)∧w'.cell? ⟨gL,1,none⟩=some (.int .i64 d))∧(DBx w zLk gL (.cells #[.int .i64 p, .int .i64 d] 25 (0,0)) l w' a3 b3)∧(w'.heap[s_]?=some (.cells #[.int .i64 (-1), .int .i64 9999, .int .i64 10000] 3 (0,0))∧w.heap.size + 1 < s_)) ?_ ?_
  · rintro g8 W ⟨h_held,h_S3,h_Bq8⟩
    have hHeld:=h_held;have S3:=amk h_S3;have Bq8:=amk h_Bq8;clear h_held h_S3 h_Bq8
    refine norm_ (a':=?_) ?_ ?_;rotate_left
    · simp only [putAll,Act.put,List.setIfInBounds_toArray,List.set_cons_zero,List.set_cons_succ]
      rfl
    refine oN_ HT_ 5 (some 22) (bA 14 447) (fun K hK=>?_)
    refine value_ (w1:=?_) (v:=?_) (by rfl) rfl ?_ ?_;rotate_left 2
    · go_simp
      constructor
      · rfl
      · rfl
    have S4:=amk (DBx_below S3.out ((Below.refl _ W).alloc (Nat.le_refl _) (.cells #[.int .i64 (-1), .int .i64 6, .int .i64 7] 3 (0,0))));have HN:=amk (And.intro (blk_new W (.cells #[.int .i64 (-1), .int .i64 6, .int .i64 7] 3 (0,0))) (show w.heap.size + 1 < W.heap.size from S3.out.1.1.lt))
    refine hK.out _ _ ⟨(blk_cell S4.out.2 0).trans rfl,(blk_cell S4.out.2 1).trans rfl⟩ (fun hHeld=>?_);clear hK K;refine nN_ (some 22) ?_
    exact norm_ nJ_ (hJ_3_5_8 (W.heap.size,g8) _ ⟨hHeld,S4.out,HN.out,⟨ka_ Bq8.out.1 _,Bq8.out.2⟩⟩)
  intro hJ_3_8
  refine join_ (σ:=Nat×Nat) 7 (bA 14 439) (fun s_=> [(22, .slice (some ⟨s_.1,0,none⟩) 3 3),(25, .slice (some ⟨s_.2,0,none⟩) 3 3)]) (fun s_ w'=>(w'.cell? ⟨gL,0,none⟩=some (.int .i64 p)∧w'.cell? ⟨gL,1,none⟩=some (.int .i64 d))∧(DBx w zLk gL (.cells #[.int .i64 p, .int .i64 d] 25 (0,0)) l w' a2 b2)∧(w'.heap[s_.1]?=some (.cells #[.int .i64 (-1), .int .i64 6, .int .i64 7] 3 (0,0))∧w.heap.size + 1 < s_.1)∧(w'.heap[s_.2]?=some (.cells #[.int .i64 (-1), .int .i64 9999, .int .i64 10000] 3 (0,0))∧w.heap.size + 1 < s_.2)) ?_ ?_
  · rintro ⟨g5,g8⟩ W ⟨h_held,h_S3,h_Bq5,h_Bq8⟩
    (try dsimp only at h_held h_S3 h_Bq5 h_Bq8)
    have hHeld:=h_held;have S3:=amk h_S3;have Bq5:=amk h_Bq5;have Bq8:=amk h_Bq8;clear h_held h_S3 h_Bq5 h_Bq8
    refine norm_ (a':=?_) ?_ ?_;rotate_left
    · simp only [putAll,Act.put,List.setIfInBounds_toArray,List.set_cons_zero,List.set_cons_succ]
      rfl
    refine oN_ HT_ 3 (some 20) (bA 14 447) (fun K hK=>?_)
    refine gs_ Try.func36 #[.pointer (some ⟨w.heap.size + 1,0,none⟩), .agg #[.int .i64 p, .int .i64 d]] ?_;refine Calls.mono (spec_l1Cur_code1.calls k3 (w.heap.size + 1) l a2 b2 p d s a3 b3 w _ S3.out.1.1 S3.out.1.2.1 E3.out) ?_;rintro e W2 ⟨rfl,hi2,hb2,hk2⟩;refine ⟨_,rfl,?_⟩
    have S4:=amk (DBx_keep S3.out HG.out hi2 hb2 hk2);have nBq5:=amk (And.intro ((hk2.2 _ (blk_lt Bq5.out.1) (Nat.ne_of_gt Bq5.out.2) (by simp)).trans Bq5.out.1) Bq5.out.2);have nBq8:=amk (And.intro ((hk2.2 _ (blk_lt Bq8.out.1) (Nat.ne_of_gt Bq8.out.2) (by simp)).trans Bq8.out.1) Bq8.out.2);clear hi2 hb2 hk2
    refine hK.out _ _ ⟨(blk_cell S4.out.2 0).trans rfl,(blk_cell S4.out.2 1).trans rfl⟩ (fun hHeld=>?_);clear hK K;refine nN_ (some 20) ?_
    exact norm_ nJ_ (hJ_3_5_8 (g5,g8) _ ⟨hHeld,S4.out,nBq5.out,nBq8.out⟩)
  intro hJ_5_8
  refine join_ (σ:=Unit) 8 (bA 14 159) (fun s_=> [(20, .string s)]) (fun s_ w'=>(w'.cell? ⟨gL,0,none⟩=some (.int .i64 p)∧w'.cell? ⟨gL,1,none⟩=some (.int .i64 d))∧(DBx w zLk gL (.cells #[.int .i64 p, .int .i64 d] 25 (0,0)) l w' a3 b3)) ?_ ?_
  · rintro _ W ⟨h_held,h_S3⟩
    have hHeld:=h_held;have S3:=amk h_S3;clear h_held h_S3
    refine norm_ (a':=?_) ?_ ?_;rotate_left
    · simp only [putAll,Act.put,List.setIfInBounds_toArray,List.set_cons_zero,List.set_cons_succ]
      rfl
    refine two_ (i:=5) (j:=8) (Ni:=some 22) (Nj:=some 25) (bA 14 191) (bA 14 415) rfl rfl rfl rfl (two_of HT_.out (by kernel_rfl)) (by decide) (by decide) (fun K hK=>?_) (fun K hK=>?_)
    · refine value_ (w1:=?_) (v:=?_) (by rfl) rfl ?_ ?_;rotate_left 2
      · go_simp
        constructor
        · rfl
        · rfl
      have S4:=amk (DBx_below S3.out ((Below.refl _ W).alloc (Nat.le_refl _) (.cells #[.int .i64 (-1), .int .i64 6, .int .i64 7] 3 (0,0))));have HN:=amk (And.intro (blk_new W (.cells #[.int .i64 (-1), .int .i64 6, .int .i64 7] 3 (0,0))) (show w.heap.size + 1 < W.heap.size from S3.out.1.1.lt))
      refine hK.out _ _ ⟨(blk_cell S4.out.2 0).trans rfl,(blk_cell S4.out.2 1).trans rfl⟩ (fun hHeld=>?_);clear hK K;refine nN_ (some 22) ?_
      exact norm_ nJ_ (hJ_3_5 (W.heap.size) _ ⟨hHeld,S4.out,HN.out⟩)
    · refine value_ (w1:=?_) (v:=?_) (by rfl) rfl ?_ ?_;rotate_left 2
      · go_simp
        constructor
        · rfl
        · rfl
      have S4:=amk (DBx_below S3.out ((Below.refl _ W).alloc (Nat.le_refl _) (.cells #[.int .i64 (-1), .int .i64 9999, .int .i64 10000] 3 (0,0))));have HN:=amk (And.intro (blk_new W (.cells #[.int .i64 (-1), .int .i64 9999, .int .i64 10000] 3 (0,0))) (show w.heap.size + 1 < W.heap.size from S3.out.1.1.lt))
      refine hK.out _ _ ⟨(blk_cell S4.out.2 0).trans rfl,(blk_cell S4.out.2 1).trans rfl⟩ (fun hHeld=>?_);clear hK K;refine nN_ (some 25) ?_
      exact norm_ nJ_ (hJ_3_8 (W.heap.size) _ ⟨hHeld,S4.out,HN.out⟩)
  intro hJ_3
  refine join_ (σ:=Nat) 8 (bA 14 183) (fun s_=> [(22, .slice (some ⟨s_,0,none⟩) 3 3)]) (fun s_ w'=>(w'.cell? ⟨gL,0,none⟩=some (.int .i64 p)∧w'.cell? ⟨gL,1,none⟩=some (.int .i64 d))∧(DBx w zLk gL (.cells #[.int .i64 p, .int .i64 d] 25 (0,0)) l w' a2 b2)∧(w'.heap[s_]?=some (.cells #[.int .i64 (-1), .int .i64 6, .int .i64 7] 3 (0,0))∧w.heap.size + 1 < s_)) ?_ ?_
  · rintro g5 W ⟨h_held,h_S3,h_Bq5⟩
    have hHeld:=h_held;have S3:=amk h_S3;have Bq5:=amk h_Bq5;clear h_held h_S3 h_Bq5
    refine norm_ (a':=?_) ?_ ?_;rotate_left
    · simp only [putAll,Act.put,List.setIfInBounds_toArray,List.set_cons_zero,List.set_cons_succ]
      rfl
    refine two_ (i:=3) (j:=8) (Ni:=some 20) (Nj:=some 25) (bA 14 191) (bA 14 439) rfl rfl rfl rfl (two_of HT_.out (by kernel_rfl)) (by decide) (by decide) (fun K hK=>?_) (fun K hK=>?_)
    · refine gs_ Try.func36 #[.pointer (some ⟨w.heap.size + 1,0,none⟩), .agg #[.int .i64 p, .int .i64 d]] ?_;refine Calls.mono (spec_l1Cur_code1.calls k3 (w.heap.size + 1) l a2 b2 p d s a3 b3 w _ S3.out.1.1 S3.out.1.2.1 E3.out) ?_;rintro e W2 ⟨rfl,hi2,hb2,hk2⟩;refine ⟨_,rfl,?_⟩
      have S4:=amk (DBx_keep S3.out HG.out hi2 hb2 hk2);have nBq5:=amk (And.intro ((hk2.2 _ (blk_lt Bq5.out.1) (Nat.ne_of_gt Bq5.out.2) (by simp)).trans Bq5.out.1) Bq5.out.2);clear hi2 hb2 hk2
      refine hK.out _ _ ⟨(blk_cell S4.out.2 0).trans rfl,(blk_cell S4.out.2 1).trans rfl⟩ (fun hHeld=>?_);clear hK K;refine nN_ (some 20) ?_
      exact norm_ nJ_ (hJ_3_5 (g5) _ ⟨hHeld,S4.out,nBq5.out⟩)
    · refine value_ (w1:=?_) (v:=?_) (by rfl) rfl ?_ ?_;rotate_left 2
      · go_simp
        constructor
        · rfl
        · rfl
      have S4:=amk (DBx_below S3.out ((Below.refl _ W).alloc (Nat.le_refl _) (.cells #[.int .i64 (-1), .int .i64 9999, .int .i64 10000] 3 (0,0))));have HN:=amk (And.intro (blk_new W (.cells #[.int .i64 (-1), .int .i64 9999, .int .i64 10000] 3 (0,0))) (show w.heap.size + 1 < W.heap.size from S3.out.1.1.lt))
      refine hK.out _ _ ⟨(blk_cell S4.out.2 0).trans rfl,(blk_cell S4.out.2 1).trans rfl⟩ (fun hHeld=>?_);clear hK K;refine nN_ (some 25) ?_
      exact norm_ nJ_ (hJ_5_8 (g5,W.heap.size) _ ⟨hHeld,S4.out,⟨ka_ Bq5.out.1 _,Bq5.out.2⟩,HN.out⟩)
  intro hJ_5
  refine join_ (σ:=Nat) 8 (bA 14 407) (fun s_=> [(25, .slice (some ⟨s_,0,none⟩) 3 3)]) (fun s_ w'=>(w'.cell? ⟨gL,0,none⟩=some (.int .i64 p)∧w'.cell? ⟨gL,1,none⟩=some (.int .i64 d))∧(DBx w zLk gL (.cells #[.int .i64 p, .int .i64 d] 25 (0,0)) l w' a2 b2)∧(w'.heap[s_]?=some (.cells #[.int .i64 (-1), .int .i64 9999, .int .i64 10000] 3 (0,0))∧w.heap.size + 1 < s_)) ?_ ?_
  · rintro g8 W ⟨h_held,h_S3,h_Bq8⟩
    have hHeld:=h_held;have S3:=amk h_S3;have Bq8:=amk h_Bq8;clear h_held h_S3 h_Bq8
    refine norm_ (a':=?_) ?_ ?_;rotate_left
    · simp only [putAll,Act.put,List.setIfInBounds_toArray,List.set_cons_zero,List.set_cons_succ]
      rfl
    refine two_ (i:=3) (j:=5) (Ni:=some 20) (Nj:=some 22) (bA 14 415) (bA 14 439) rfl rfl rfl rfl (two_of HT_.out (by kernel_rfl)) (by decide) (by decide) (fun K hK=>?_) (fun K hK=>?_)
    · refine gs_ Try.func36 #[.pointer (some ⟨w.heap.size + 1,0,none⟩), .agg #[.int .i64 p, .int .i64 d]] ?_;refine Calls.mono (spec_l1Cur_code1.calls k3 (w.heap.size + 1) l a2 b2 p d s a3 b3 w _ S3.out.1.1 S3.out.1.2.1 E3.out) ?_;rintro e W2 ⟨rfl,hi2,hb2,hk2⟩;refine ⟨_,rfl,?_⟩
      have S4:=amk (DBx_keep S3.out HG.out hi2 hb2 hk2);have nBq8:=amk (And.intro ((hk2.2 _ (blk_lt Bq8.out.1) (Nat.ne_of_gt Bq8.out.2) (by simp)).trans Bq8.out.1) Bq8.out.2);clear hi2 hb2 hk2
      refine hK.out _ _ ⟨(blk_cell S4.out.2 0).trans rfl,(blk_cell S4.out.2 1).trans rfl⟩ (fun hHeld=>?_);clear hK K;refine nN_ (some 20) ?_
      exact norm_ nJ_ (hJ_3_8 (g8) _ ⟨hHeld,S4.out,nBq8.out⟩)
    · refine value_ (w1:=?_) (v:=?_) (by rfl) rfl ?_ ?_;rotate_left 2
      · go_simp
        constructor
        · rfl
        · rfl
      have S4:=amk (DBx_below S3.out ((Below.refl _ W).alloc (Nat.le_refl _) (.cells #[.int .i64 (-1), .int .i64 6, .int .i64 7] 3 (0,0))));have HN:=amk (And.intro (blk_new W (.cells #[.int .i64 (-1), .int .i64 6, .int .i64 7] 3 (0,0))) (show w.heap.size + 1 < W.heap.size from S3.out.1.1.lt))
      refine hK.out _ _ ⟨(blk_cell S4.out.2 0).trans rfl,(blk_cell S4.out.2 1).trans rfl⟩ (fun hHeld=>?_);clear hK K;refine nN_ (some 22) ?_
      exact norm_ nJ_ (hJ_5_8 (W.heap.size,g8) _ ⟨hHeld,S4.out,HN.out,⟨ka_ Bq8.out.1 _,Bq8.out.2⟩⟩)
  intro hJ_8
  refine three_ (i:=3) (j:=5) (k:=8) (Ni:=some 20) (Nj:=some 22) (Nk:=some 25) (bA 14 159) (bA 14 183) (bA 14 407) rfl rfl rfl rfl rfl rfl (three_of HT_.out (by kernel_rfl)) (by decide) (by decide) (by decide) (fun K hK=>?_) (fun K hK=>?_) (fun K hK=>?_)
  · refine gs_ Try.func36 #[.pointer (some ⟨w.heap.size + 1,0,none⟩), .agg #[.int .i64 p, .int .i64 d]] ?_;refine Calls.mono (spec_l1Cur_code1.calls k3 (w.heap.size + 1) l a2 b2 p d s a3 b3 w _ S3.out.1.1 S3.out.1.2.1 E3.out) ?_;rintro e W2 ⟨rfl,hi2,hb2,hk2⟩;refine ⟨_,rfl,?_⟩
    have S4:=amk (DBx_keep S3.out HG.out hi2 hb2 hk2);clear hi2 hb2 hk2
    refine hK.out _ _ ⟨(blk_cell S4.out.2 0).trans rfl,(blk_cell S4.out.2 1).trans rfl⟩ (fun hHeld=>?_);clear hK K;refine nN_ (some 20) ?_
    exact norm_ nJ_ (hJ_3 () _ ⟨hHeld,S4.out⟩)
  · refine value_ (w1:=?_) (v:=?_) (by rfl) rfl ?_ ?_;rotate_left 2
    · go_simp
      constructor
      · rfl
      · rfl
    have S4:=amk (DBx_below S3.out ((Below.refl _ W).alloc (Nat.le_refl _) (.cells #[.int .i64 (-1), .int .i64 6, .int .i64 7] 3 (0,0))));have HN:=amk (And.intro (blk_new W (.cells #[.int .i64 (-1), .int .i64 6, .int .i64 7] 3 (0,0))) (show w.heap.size + 1 < W.heap.size from S3.out.1.1.lt))
    refine hK.out _ _ ⟨(blk_cell S4.out.2 0).trans rfl,(blk_cell S4.out.2 1).trans rfl⟩ (fun hHeld=>?_);clear hK K;refine nN_ (some 22) ?_
    exact norm_ nJ_ (hJ_5 (W.heap.size) _ ⟨hHeld,S4.out,HN.out⟩)
  · refine value_ (w1:=?_) (v:=?_) (by rfl) rfl ?_ ?_;rotate_left 2
    · go_simp
      constructor
      · rfl
      · rfl
    have S4:=amk (DBx_below S3.out ((Below.refl _ W).alloc (Nat.le_refl _) (.cells #[.int .i64 (-1), .int .i64 9999, .int .i64 10000] 3 (0,0))));have HN:=amk (And.intro (blk_new W (.cells #[.int .i64 (-1), .int .i64 9999, .int .i64 10000] 3 (0,0))) (show w.heap.size + 1 < W.heap.size from S3.out.1.1.lt))
    refine hK.out _ _ ⟨(blk_cell S4.out.2 0).trans rfl,(blk_cell S4.out.2 1).trans rfl⟩ (fun hHeld=>?_);clear hK K;refine nN_ (some 25) ?_
    exact norm_ nJ_ (hJ_8 (W.heap.size) _ ⟨hHeld,S4.out,HN.out⟩)
/-! The draw of a puzzle that is to be made: both branches. -/
theorem spec_DrawMakePuzzle.calls (A:Option Addr) (c:Nat) (l:List Int) (w:World) (hs:BytesV l) (hr:Kd.C (Kd.int .u8) w A l.length l) :
    Calls Try.prog 5 #[.slice A l.length c] w fun e w'=> ∃ (p d:Int) (s:ByteArray) (x y:Int),e = .returned (.tuple #[.agg #[.int .i64 p, .int .i64 d], .string s, .int .i64 x, .int .i64 y])∧Below w.heap.size w w':=by
  obtain ⟨q,a1,b1,e1,g1,g2⟩:=done_ok hs (a:=0) (by omega) (by omega) 0 (n:=12) (by omega)
  cases q with
  | true =>
    obtain ⟨p,d,a2,b2,e2,g3,g4⟩:=dlock_ok hs (a:=a1) (by omega) (by omega) b1
    obtain ⟨t,a3,b3,h3,g5,g6⟩:=dcode1_ok hs (a:=a2) (by omega) (by omega) b2 p d
    obtain ⟨x,a4,b4,e4,_,g7,g8⟩:=damong_ok hs (a:=a3) (by omega) (by omega) b3 (l:=[(-1),6,7]) (by decide) (by decide)
    obtain ⟨y,a5,b5,e5,_,g9,g10⟩:=damong_ok hs (a:=a4) (by omega) (by omega) b4 (l:=[(-1),9999,10000]) (by decide) (by decide)
    obtain ⟨k3,e3⟩:=h3.rounds
    exact spec_DrawMakePuzzle.yes A c l w k3 a1 b1 a2 b2 a3 b3 a4 b4 a5 b5 p d x y t hr e1 e2 e3 e4 e5
  | false =>
    obtain ⟨p,d,t,a2,b2,h2,_,_,_,g3,g4⟩:=dhidden_ok hs (a:=a1) (by omega) (by omega) b1
    obtain ⟨x,a3,b3,e3,_,_,g5,g6⟩:=dpick_ok hs (a:=a2) (by omega) (by omega) b2 (n:=7) (by omega)
    obtain ⟨y,a4,b4,e4,_,_,g7,g8⟩:=dpickB_ok hs (a:=a3) (by omega) (by omega) b3 (n:=10000) (by omega)
    obtain ⟨k3,e2⟩:=h2.rounds
    exact spec_DrawMakePuzzle.no A c l w k3 a1 b1 a2 b2 a3 b3 a4 b4 p d x y t hr e1 e2 e3 e4
/-! A region, or an 'if', out of a function's code. -/
def regOn (n:Nat):Code→Option Code
  | .region i o b=>if i=n then some (.region i o b) else none
  | .seq a b=>match regOn n a with | some c=>some c | none=>regOn n b
  | .cond _ a b=>match regOn n a with | some c=>some c | none=>regOn n b
  | .block _ a=>regOn n a
  | .loop a=>regOn n a
  | _=>none
def condOn (n:Nat):Code→Option Code
  | .cond (.tmp i) a b=>if i=n then some (.cond (.tmp i) a b) else match condOn n a with | some c=>some c | none=>condOn n b
  | .seq a b=>match condOn n a with | some c=>some c | none=>condOn n b
  | .block _ a=>condOn n a
  | .loop a=>condOn n a
  | _=>none
/-! laws.FnCodesHidden, by hand: what lies in memory is ONE predicate: the boxes and the rows of clues. -/
abbrev lkB (p d:Int):Obj:= .cells #[.int .i64 p, .int .i64 d] 25 (0,0)
abbrev clB (x y z:Int):Obj:= .cells #[.int .i64 x, .int .i64 y, .int .i64 z] 44 (0,0)
abbrev pzB (p d:Int) (A:Option Addr) (n c:Nat):Obj:= .cells #[.int .i64 p, .int .i64 d, .slice A n c] 30 (0,0)
def Mm (w:World) (bs:List (Nat×Obj)) (rs:List (Option Addr×List S44)) (W:World):Prop:=
  Below w.heap.size w W∧(∀ b∈bs,W.heap[b.1]?=some b.2)∧∀ r∈rs,Kd.C k44 W r.1 r.2.length r.2
section
variable {w W W2:World} {bs:List (Nat×Obj)} {rs:List (Option Addr×List S44)}
theorem Mm_below (h:Mm w bs rs W) (hb:Below W.heap.size W W2):Mm w bs rs W2:=⟨bp_ h.1 hb,fun b m=>blk_below (h.2.1 b m) hb,fun r m=>Kd.C_below (h.2.2 r m) hb⟩
theorem Mm_nil (h:Below w.heap.size w W):Mm w [] [] W:=⟨h,fun _ m=>(by cases m),fun _ m=>(by cases m)⟩
theorem Mm_box (h:Mm w bs rs W) (o:Obj):Mm w ((W.heap.size,o) :: bs) rs (W.alloc o):=
  have hb:=(Below.refl W.heap.size W).alloc (Nat.le_refl _) o
  ⟨bp_ h.1 hb,fun b m=>by (cases m with | head=>exact blk_new W o | tail _ m=>exact blk_below (h.2.1 b m) hb),fun r m=>Kd.C_below (h.2.2 r m) hb⟩
theorem Mm_row (h:Mm w bs rs W) {A:Option Addr} {L:List S44} (hc:Kd.C k44 W A L.length L):Mm w bs ((A,L) :: rs) W:=
  ⟨h.1,h.2.1,fun r m=>by (cases m with | head=>exact hc | tail _ m=>exact h.2.2 r m)⟩
theorem Mm_two (h:Mm w bs rs W) (o1 o2:Obj):Mm w ((W.heap.size + 1,o2) :: (W.heap.size,o1) :: bs) rs ((W.alloc o1).alloc o2):=by
  have:=Mm_box (Mm_box h o1) o2
  rwa [show (W.alloc o1).heap.size=W.heap.size + 1 by simp] at this
theorem Mm_r {A:Option Addr} {L:List S44} (h:Mm w bs rs W) (m:(A,L)∈rs):Kd.C k44 W A L.length L:=h.2.2 (A,L) m
theorem bx2 {g:Nat} {u v:Value} {T:Nat} (h:Mm w bs rs W) (m:(g,Obj.cells #[u,v] T (0,0))∈bs):W.cell? ⟨g,0,none⟩=some u∧W.cell? ⟨g,1,none⟩=some v:=⟨(cells2 (h.2.1 _ m)).1,(cells2 (h.2.1 _ m)).2.1⟩
theorem bx3 {g:Nat} {u v x:Value} {T:Nat} (h:Mm w bs rs W) (m:(g,Obj.cells #[u,v,x] T (0,0))∈bs):W.cell? ⟨g,0,none⟩=some u∧W.cell? ⟨g,1,none⟩=some v∧W.cell? ⟨g,2,none⟩=some x:=⟨(cells3 (h.2.1 _ m)).1,(cells3 (h.2.1 _ m)).2.1,(cells3 (h.2.1 _ m)).2.2.1⟩
end
section
variable {w W W2:World} {bs:List (Nat×Obj)} {rs:List (Option Addr×List S44)} {g:Nat}
def Mw (w:World) (bs:List (Nat×Obj)) (rs:List (Option Addr×List S44)) (W:World) (g:Nat):Prop:= ∃ W0,Mm w bs rs W0∧Below W0.heap.size W0 W∧W0.heap.size≤g
theorem Mw_of (h:Mm w bs rs W):Mw w bs rs W W.heap.size:=⟨W,h,Below.refl _ _,Nat.le_refl _⟩
theorem Mw_mm (h:Mw w bs rs W g):Mm w bs rs W:=by obtain ⟨W0,h0,hb,_⟩:=h;exact Mm_below h0 hb
theorem Mw_below (h:Mw w bs rs W g) (hb:Below W.heap.size W W2):Mw w bs rs W2 g:=by obtain ⟨W0,h0,hb0,hg⟩:=h;exact ⟨W0,h0,below_then hb0 hb0.size hb,hg⟩
theorem Mw_st3 (h:Mw w bs rs W g) (x y z:Value):Mm w bs rs (st3 W g x y z):=by obtain ⟨W0,h0,hb0,hg⟩:=h;exact Mm_below h0 (below3 hb0 hg x y z)
theorem Mm_cons (h:Mm w bs rs W) {o:Obj} {A:Option Addr} {L:List S44} (hg:W.heap[g]?=some o) (hc:Kd.C k44 W A L.length L):Mm w ((g,o) :: bs) ((A,L) :: rs) W:=
  ⟨h.1,fun b m=>by (cases m with | head=>exact hg | tail _ m=>exact h.2.1 b m),fun r m=>by (cases m with | head=>exact hc | tail _ m=>exact h.2.2 r m)⟩
end
noncomputable def regH (n:Nat):Code:=(Try.f3.body.bind (regOn n)).getD .skip
noncomputable def condH (n:Nat):Code:=(Try.f3.body.bind (condOn n)).getD .skip
end Go.Proofs.Ytggfbkekamomiaa.P