import Derived.Test.YtggfbkekamomiaaProg
import Derived.Below
import Derived.Deep.Draws
import Derived.Deep.AppendLies
import Derived.Maps.AppendAt
import Derived.OwnWalk
import Derived.Laws.BytesArg
import Derived.Laws.MakeOwn
import Derived.Laws.OwnMore
import Derived.Deep.OwnRows
import Derived.Tactics
import Derived.Lib.ConvBytes
import Derived.Laws.Slices
import Derived.WalkKit
import Derived.KernelRfl
import Derived.RowKit3
import Derived.Deep.LoopGhost
import Derived.Deep.QuietTactic
import Derived.BigQuiet
import Derived.WideLaws
import Derived.Deep.DeepCutAuto
import Derived.Deep.CutBlock
import Derived.Deep.RegionHeld3
import Derived.Laws.Rows
import Derived.Lib.AppendStr
import Derived.ArgAppend
import Derived.Laws.IdiomCopy
import Derived.OrdersHeld
import Derived.Laws.BitsLemmas
import Derived.RowKit
import Derived.Test.YtggfbkekamomiaaKFnCodesHiddenWWords
import Derived.Test.YtggfbkekamomiaaKFnCodesHiddenWLast
import Derived.Test.YtggfbkekamomiaaKFnCodesHiddenWTab
import Derived.Test.YtggfbkekamomiaaKFnCodesHiddenWQPut
import Derived.Test.YtggfbkekamomiaaKFnCodesHiddenWApart
import Derived.Test.YtggfbkekamomiaaKFnCodesHiddenWArr
import Derived.Test.YtggfbkekamomiaaKFnCodesHiddenWZeros
import Derived.Test.YtggfbkekamomiaaKFnCodesHiddenWFoot
import Derived.Test.YtggfbkekamomiaaKFnCodesHiddenWKept
import Derived.Test.YtggfbkekamomiaaKFnCodesHiddenWShare
import Derived.Test.YtggfbkekamomiaaKFnCodesHiddenWN
import Derived.Test.YtggfbkekamomiaaKFnCodesHiddenWEqStruct
import Derived.Test.YtggfbkekamomiaaKFnCodesHiddenWRepsOne
import Derived.Test.YtggfbkekamomiaaKFnCodesHiddenWGuard
import Derived.Test.YtggfbkekamomiaaKFnCodesHiddenWNEv
import Derived.Test.YtggfbkekamomiaaKFnCodesHiddenWMore
import Derived.Lib.SliceRun
import Derived.Shelf.Abstract
namespace Go.Proofs.Ytggfbkekamomiaa.P
open Go.RowKit Go.Proofs.YtggfbkekamomiaaW.PrintWords Go.Proofs.YtggfbkekamomiaaW.PrintLast Go.Proofs.YtggfbkekamomiaaW.PrintMore
attribute [local go_sem] max2_int min2_int max_two min_two max_three min_three max_four min_four
set_option linter.unusedVariables false
set_option linter.unusedSimpArgs false
theorem amk {p:Prop} (h:p):Aside0 p:=Aside0.mk h
theorem bn_:type_of% @pw_below_drewN:= @pw_below_drewN
theorem bd_:type_of% @below_drew1:= @below_drew1
theorem ba_:type_of% @below_alloc:= @below_alloc
theorem bs_:type_of% @below_set:= @below_set
theorem kn_:type_of% @blk_drewN:= @blk_drewN
theorem ka_:type_of% @blk_alloc:= @blk_alloc
theorem bp_:type_of% @below_step:= @below_step
def errW:Option Int→Value
  | none=> .nilIface
  | some c=> .iface 0 (.int .i64 c)
theorem errW_none:errW none = .nilIface:=rfl
theorem errW_some (c:Int):errW (some c) = .iface 0 (.int .i64 c):=rfl
theorem info3:(Try.prog.info? 3).map (fun i=>(i.zero,i.size,i.bytes))=some (some (.int .i64 0),1,8):=by kernel_rfl
theorem info5:(Try.prog.info? 5).map (fun i=>(i.zero,i.size,i.bytes))=some (some (.int .u8 0),1,1):=by kernel_rfl
theorem info9:(Try.prog.info? 9).map (fun i=>(i.zero,i.size,i.bytes))=some (some (.string ⟨#[]⟩),1,16):=by kernel_rfl
theorem info44:(Try.prog.info? 44).map (fun i=>(i.zero,i.size,i.bytes))=some (some (.agg #[(.int .i64 0),(.int .i64 0),(.int .i64 0)]),3,24):=by kernel_rfl
-- the values' own types
/-! #### struct type 25 -/
structure S25 where
  f0:Int
  f1:Int
/-! #### struct type 44 -/
structure S44 where
  f0:Int
  f1:Int
  f2:Int
def z44:S44:=⟨(0:Int),(0:Int),(0:Int)⟩
def k44:Kd S44:=Kd.iso (Kd.pair (Kd.int .i64) (Kd.pair (Kd.int .i64) (Kd.int .i64))) (fun x:S44=>(x.f0,x.f1,x.f2))
theorem k44_open {w:World} {x:S44} {cs:List Value} (h:k44.K w x cs):cs=[.int .i64 x.f0, .int .i64 x.f1, .int .i64 x.f2]:=by
  obtain ⟨_,_,rfl,rfl,⟨_,_,rfl,rfl,rfl⟩⟩:=h;exact rfl
theorem k44_mkM (w:World) (base:Nat) (ok:Nat→Prop) (x:S44)  : k44.M w base ok x [.int .i64 x.f0, .int .i64 x.f1, .int .i64 x.f2]:=⟨[.int .i64 x.f0],[.int .i64 x.f1, .int .i64 x.f2],rfl,rfl,⟨[.int .i64 x.f1],[.int .i64 x.f2],rfl,rfl,rfl⟩⟩
def rd_T44 (xs:List S44) (i:Int):S44:=xs.getD i.toNat z44
theorem at_T44 {w:World} {A:Option Addr} {n:Nat} {xs:List S44} (h:Kd.C k44 w A n xs) (i:Int) (h0:0≤i) (h1:i < n) : ∃ ad ,A=some ad∧w.cell? (ad.add (i.toNat * 3))=some (.int .i64 (rd_T44 xs i).f0)∧w.cell? ⟨(ad.add (i.toNat * 3)).block,(ad.add (i.toNat * 3)).off + 1,none⟩=some (.int .i64 (rd_T44 xs i).f1)∧w.cell? ⟨(ad.add (i.toNat * 3)).block,(ad.add (i.toNat * 3)).off + 2,none⟩=some (.int .i64 (rd_T44 xs i).f2):=by
  obtain ⟨ad,c,e,_,hK,hc0⟩:=Kd.C_get h z44 i h0 h1;have hc : ∀ j u,c[j]?=some u→w.cell? (ad.add (i.toNat * 3 + j))=some u:=hc0;obtain rfl:=k44_open hK;exact ⟨ad,e,hc 0 _ rfl,by rw [←add_field _ _ 1 (by omega)];exact hc 1 _ rfl,by rw [←add_field _ _ 2 (by omega)];exact hc 2 _ rfl⟩
/-! #### struct type 30 -/
structure S30 where
  f0:S25
  f1:(List S44)
/-! #### struct type 71 -/
structure S71 where
  f0:(List Int)
  f1:Int
  f2:Int
/-! Small laws on 'from some number of rounds on'. -/
theorem Ev.yes {α:Type} {c:Prop} [Decidable c] {f g:Nat→Option α} {r:α} (h:c) (k:Ev f r):Ev (fun n=>if c then f n else g n) r:=by
  simp only [if_pos h];exact k
theorem Ev.no {α:Type} {c:Prop} [Decidable c] {f g:Nat→Option α} {r:α} (h : ¬ c) (k:Ev g r):Ev (fun n=>if c then f n else g n) r:=by
  simp only [if_neg h];exact k
theorem Ev.bindc {α β:Type} {o:Option α} {f:Nat→α→Option β} {a:α} {r:β} (h:o=some a) (k:Ev (fun n=>f n a) r):Ev (fun n=>o.bind (f n)) r:=by
  subst h;exact k
theorem Ev.id {α:Type} {r s:α} (h:s=r):Ev (fun _=>some s) r:=by subst h;exact Ev.now s
theorem Ev.eq {α:Type} {g:Nat→Option α} {r s:α} (h:Ev g r) (e:r=s):Ev g s:=by subst e;exact h
theorem Ev.both {α:Type} {c:Prop} [Decidable c] {f g:Nat→Option α} {r:α} (h:c→Ev f r) (k : ¬ c→Ev g r):Ev (fun n=>if c then f n else g n) r:=by
  by_cases e:c
  · exact Ev.yes e (h e)
  · exact Ev.no e (k e)
theorem w64 {x:Int} (h : -9223372036854775808≤x) (h':x≤9223372036854775807):wrap64 x=x:=by unfold wrap64;omega
/-! Plain laws on lists: filling one in place, reading. -/
theorem rd_at {xs:List Int} {i:Int} (h:i.toNat < xs.length):rd xs i=xs[i.toNat]:=by unfold rd;simp [List.getD,h]
theorem rdOf_at {α:Type} {d:α} {xs:List α} {i:Int} (h:i.toNat < xs.length):rdOf d xs i=xs[i.toNat]:=by unfold rdOf;simp [List.getD,h]
theorem getD_at {α:Type} {d:α} {xs:List α} {i:Nat} (h:i < xs.length):xs.getD i d=xs[i]:=by simp [List.getD,h]
theorem toNat_succ {i:Int} (h:0≤i):(i + 1).toNat=i.toNat + 1:=by omega
/-! A number read out of a list. -/
theorem rd_int {xs:List Int} {i:Nat} (h:i < xs.length):rd xs (i:Nat)=xs[i]:=by rw [rd_at (by simpa using h)];simp
/-! Declarations moved out of EDead. -/
theorem rd_str {xs:List ByteArray} {i:Nat} (h:i < xs.length):rdOf ByteArray.empty xs (i:Nat)=xs[i]:=by rw [rdOf_at (by simpa using h)];simp
/-! Short words for what the printed walks say over and over: each proof is told once, as a default. -/
theorem bB {P:Prop} (h:P:=by repeat (first | (with_reducible first | exact HB.out | apply ba_ | apply bn_ | apply bd_ | refine bs_ ?_ (Aside0.out (by with_reducible assumption))) | exact HB.out)):P:=h
theorem kB {P Q:Prop} (a:Aside0 P) (f:P→Q:=by intro h;(with_reducible repeat (first | refine kn_ ?_ _ | refine blk_drew ?_ | refine ka_ ?_ _ | refine blk_far ?_ (Aside0.out (by with_reducible assumption)) _));exact h):Q:=f a.out
theorem kP {P Q:Prop} (a:Aside0 P) (f:P→Q:=by intro h;(repeat (first | (with_reducible first | refine kn_ ?_ _ | refine blk_drew ?_ | refine ka_ ?_ _ | refine blk_far ?_ (Aside0.out (by with_reducible assumption)) _ | apply blk_put) | apply blk_put));exact h;all_goals rfl):Q:=f a.out
theorem kb2 {W W' w2:World} {g:Nat} {o:Obj} (a:Aside0 (W.heap[g]?=some o)) (hb:Below W'.heap.size W' w2) (f:W.heap[g]?=some o→W'.heap[g]?=some o:=by intro h;(with_reducible repeat (first | refine kn_ ?_ _ | refine blk_drew ?_ | refine ka_ ?_ _ | refine blk_far ?_ (Aside0.out (by with_reducible assumption)) _));exact h):Aside0 (w2.heap[g]?=some o):=⟨blk_below (f a.out) hb⟩
theorem hB2 {w W W' w2:World} (a:Aside0 (Below w.heap.size w W)) (hb:Below W'.heap.size W' w2) (f:Below w.heap.size w W→Below w.heap.size w W':=by intro h;repeat (first | (with_reducible first | exact h | apply ba_ | apply bn_ | apply bd_ | refine bs_ ?_ (Aside0.out (by with_reducible assumption))) | exact h)):Aside0 (Below w.heap.size w w2):=⟨bp_ (f a.out) hb⟩
theorem cB {P Q:Prop} (h:P) (f:P→Q:=by intro h;repeat (first | exact h | (with_reducible refine Kd.C_alloc ?_ _) | (with_reducible refine Kd.C_drewN ?_ _) | (with_reducible refine Kd.C_drew ?_))):Q:=f h
theorem oX {P Q:Prop} (a:Aside0 P) (f:P→Q:=by intro h;(with_reducible repeat (first | apply Kd.R_alloc | apply Kd.R_drewN | apply Kd.R_drew | apply Kd.S_alloc | apply Kd.S_drewN | apply Kd.S_drew | apply Kd.V_alloc | apply Kd.V_drewN | apply Kd.V_drew | apply Kd.N_alloc | apply Kd.N_drewN | apply Kd.N_drew));exact h):Q:=f a.out
theorem rF_ {P:Prop} (h:P:=by first | rfl | (simp [errW_none,errW_some] <;> rfl) | (simp [*,errW_none,errW_some] <;> rfl)):P:=h
theorem dA_ {P:Prop} [Decidable P] (h:decide P=true:=by first | (with_reducible assumption) | assumption):P:=of_decide_eq_true h
theorem rS_ {P:Prop} (h:P:=by first | rfl | (simp;done) | (simp [*];done)):P:=h
theorem dR_ {P:Prop} (h:P:=by repeat (first | exact Drawn0.refl _ | apply Drawn0.step)):P:=h
theorem xN_ {P:Prop} (h:P:=by first | exact Kd.S_nil _ _ _ _ _ | exact Kd.N_nil _ _ _ _ _ | exact Kd.V_nil _ _ _ _ _ | exact Kd.Q_nil _ _ _ _ _ | exact Kd.R_nil _ _ _ _ _):P:=h
theorem iteN {α:Type} {c:Prop} [Decidable c] {a:Option α} {r:α} (H:(if c then a else none)=some r):decide c=true∧a=some r:=by
  by_cases h:c
  · rw [if_pos h] at H;exact ⟨decide_eq_true h,H⟩
  · rw [if_neg h] at H;exact absurd H (by simp)
theorem iteE {α:Type} {c:Prop} [Decidable c] {a b:Option α} {r:Option α} (H:(if c then a else b)=r):(decide c=true∧a=r)∨(decide c=false∧b=r):=by
  by_cases h:c
  · rw [if_pos h] at H;exact .inl ⟨decide_eq_true h,H⟩
  · rw [if_neg h] at H;exact .inr ⟨decide_eq_false h,H⟩
section
variable {P:Program} {ops:Array Oper} {o:Oper} {rest:List Oper} {a:Act} {Q:Exit→Act→World→Prop} {w W W0:World}
theorem boxE_ (HB:Aside0 (Below w.heap.size w W0)) (N:Tmp) (cs:Array Value) (t:TypeId)
    (h : ∀ g w1,Aside0 (Below w.heap.size w w1)→Aside0 (w1.heap[g]?=some (.cells cs t (0,0)))→Aside0 (w.heap.size≤g)→Aside0 (w.heap.size≤g)→Below W.heap.size W w1→wpList P ops Q rest (a.put o.dst (.pointer (some ⟨g,0,none⟩))) w1)
    (hd:o.dst=some N:=by rfl) (hgd:o.guard=none:=by rfl) (hrun:(execOp a.eval o).run P W = .ok (.value (.pointer (some ⟨W.heap.size,0,none⟩))) (W.alloc (.cells cs t (0,0))):=by first | (go_simp;done) | (go_simp;rfl))
    (f:Below w.heap.size w W0→Below w.heap.size w W:=by intro h;repeat (first | (with_reducible first | exact h | apply ba_ | apply bn_ | apply bd_ | refine bs_ ?_ (Aside0.out (by with_reducible assumption))) | exact h)):wpList P ops Q (o :: rest) a W:=
  box_event hgd hd hrun fun g e w1 hbox hb=>h g w1 ⟨bp_ (f HB.out) hb⟩ ⟨hbox⟩ ⟨by rw [e];exact (f HB.out).size⟩ ⟨by rw [e];exact (f HB.out).size⟩ hb
end
theorem bK {P:Prop} (h:P:=by repeat (first | (with_reducible first | exact HK.out | apply KeepBut.set_ | apply keep_drewN | apply keep_drew | apply keep_alloc | refine keep_far ?_ (Aside0.out (by with_reducible assumption)) _) | exact HK.out)):P:=h
section
variable {w0 w W0 W w2:World} {g gb g2:Nat} {o:Obj} {row:Option Nat}
theorem neL (a:Aside0 (W0.heap[g]?=some o)) (e:g2=W.heap.size) (f:W0.heap[g]?=some o→W.heap[g]?=some o:=by intro h;(with_reducible repeat (first | refine kn_ ?_ _ | refine blk_drew ?_ | refine ka_ ?_ _ | refine blk_far ?_ (Aside0.out (by with_reducible assumption)) _));exact h):Aside0 (g≠g2):=⟨by rw [e];exact Nat.ne_of_lt (blk_lt (f a.out))⟩
theorem neR (a:Aside0 (W0.heap[g]?=some o)) (e:g2=W.heap.size) (f:W0.heap[g]?=some o→W.heap[g]?=some o:=by intro h;(with_reducible repeat (first | refine kn_ ?_ _ | refine blk_drew ?_ | refine ka_ ?_ _ | refine blk_far ?_ (Aside0.out (by with_reducible assumption)) _));exact h):Aside0 (g2≠g):=⟨by rw [e];exact Nat.ne_of_gt (blk_lt (f a.out))⟩
theorem bG (a:Aside0 (W0.heap[g]?=some o)) (hg:W.grownBy w2 row) (hn:some g≠row) (f:W0.heap[g]?=some o→W.heap[g]?=some o:=by intro h;(with_reducible repeat (first | refine kn_ ?_ _ | refine blk_drew ?_ | refine ka_ ?_ _ | refine blk_far ?_ (Aside0.out (by with_reducible assumption)) _));exact h):Aside0 (w2.heap[g]?=some o):=⟨blk_grown (f a.out) hg hn⟩
theorem kQ (a:Aside0 (W0.heap[gb]?=some o)) (hk:KeepBut W w2 g none) (n:gb≠g) (f:W0.heap[gb]?=some o→W.heap[gb]?=some o:=by intro h;(with_reducible repeat (first | refine kn_ ?_ _ | refine blk_drew ?_ | refine ka_ ?_ _ | refine blk_far ?_ (Aside0.out (by with_reducible assumption)) _));exact h):Aside0 (w2.heap[gb]?=some o):=⟨KeepBut.blk hk (f a.out) n (by simp)⟩
theorem sZ (a:Aside0 (Below w.heap.size w W0)) (e:gb=W.heap.size) (f:Below w.heap.size w W0→Below w.heap.size w W:=by intro h;repeat (first | (with_reducible first | exact h | apply ba_ | apply bn_ | apply bd_ | refine bs_ ?_ (Aside0.out (by with_reducible assumption))) | exact h)):Aside0 (w.heap.size≤gb):=⟨by rw [e];exact (f a.out).size⟩
theorem kS (a:Aside0 (KeepBut w W0 g row)) (e:gb=W.heap.size) (f:KeepBut w W0 g row→KeepBut w W g row:=by intro h;repeat (first | (with_reducible first | exact h | apply KeepBut.set_ | apply keep_drewN | apply keep_drew | apply keep_alloc | refine keep_far ?_ (Aside0.out (by with_reducible assumption)) _) | exact h)):Aside0 (w.heap.size≤gb):=⟨by rw [e];exact keep_size (f a.out)⟩
theorem kE (b:Aside0 (w0.heap.size≤w.heap.size)) (c:Aside0 (w.heap.size≤gb)):Aside0 (w0.heap.size≤gb):=⟨Nat.le_trans b.out c.out⟩
theorem kT (a:Aside0 (KeepBut w W0 g none)) (hb:Below W.heap.size W w2) (f:KeepBut w W0 g none→KeepBut w W g none:=by intro h;repeat (first | (with_reducible first | exact h | apply KeepBut.set_ | apply keep_drewN | apply keep_drew | apply keep_alloc | refine keep_far ?_ (Aside0.out (by with_reducible assumption)) _) | exact h)):Aside0 (KeepBut w w2 g none):=⟨KeepBut.trans (f a.out) (KeepBut.of_below hb g none) (.inl rfl)⟩
theorem kT2 (a:Aside0 (KeepBut w W0 g none)) (hk:KeepBut W w2 g none) (f:KeepBut w W0 g none→KeepBut w W g none:=by intro h;repeat (first | (with_reducible first | exact h | apply KeepBut.set_ | apply keep_drewN | apply keep_drew | apply keep_alloc | refine keep_far ?_ (Aside0.out (by with_reducible assumption)) _) | exact h)):Aside0 (KeepBut w w2 g none):=⟨KeepBut.trans (f a.out) hk (.inl rfl)⟩
end
theorem dN_ {P:Prop} (h:P:=by first | exact ⟨rfl,_,World.drewN_drewN _ _ _⟩ | exact ⟨rfl,_,Eq.trans (World.drewN_drewN _ _ _) (congrArg (World.drewN _) (Nat.add_assoc _ _ _))⟩):P:=h
theorem bE {α β:Type} {o:Option α} {f:α→Option β} {r:β} (H:o.bind f=some r) : ∃ t,Aside0 (o=some t)∧f t=some r:=by
  obtain ⟨t,h1,h2⟩:=Option.bind_eq_some_iff.mp H
  exact ⟨t,⟨h1⟩,h2⟩
theorem iteB {α:Type} {b:Bool} {x y:Option α} {r:Option α} (H:(if b=true then x else y)=r):(b=true∧x=r)∨(b=false∧y=r):=by
  cases b with
  | true=>rw [if_pos rfl] at H;exact .inl ⟨rfl,H⟩
  | false=>rw [if_neg (by decide)] at H;exact .inr ⟨rfl,H⟩
section
variable {P:Program} {ops:Array Oper} {o:Oper} {rest:List Oper} {a:Act} {Q:Exit→Act→World→Prop} {w W W0:World}
theorem boxG_ (N:Tmp) (cs:Array Value) (t:TypeId)
    (h : ∀ g w1,g=W.heap.size→Aside0 (w1.heap[g]?=some (.cells cs t (0,0)))→Below W.heap.size W w1→wpList P ops Q rest (a.put o.dst (.pointer (some ⟨g,0,none⟩))) w1)
    (hd:o.dst=some N:=by rfl) (hgd:o.guard=none:=by rfl) (hrun:(execOp a.eval o).run P W = .ok (.value (.pointer (some ⟨W.heap.size,0,none⟩))) (W.alloc (.cells cs t (0,0))):=by first | (go_simp;done) | (go_simp;rfl)):wpList P ops Q (o :: rest) a W:=
  box_event hgd hd hrun fun g e w1 hbox hb=>h g w1 e ⟨hbox⟩ hb
theorem gc_ {oi:Oper} {xs:Array Operand} {ts:Array TypeId} {fn:Func} (f:FuncId) (N:Tmp) (hf:P.funcs[f]?=some fn) (args:Array Value)
    (h:Calls P f args W fun e w'=> ∃ v,e = .returned v∧wpList P ops Q rest (a.put (some N) v) w')
    (hop:oi.op = .call { callee:= .value (.func f),args:=xs,argTypes:=ts } :=by with_reducible rfl) (hd:oi.dst=some N:=by rfl) (hg:oi.guard=none:=by rfl)
    (hname : (fn.name == "runtime.NumGoroutine") = false := by kernel_rfl) (hb : fn.body.isSome = true := by rfl)
    (hargs:xs.map a.eval=args:=by (try simp only [List.map_toArray,List.map_cons,List.map_nil]);first | done | rfl | (simp only [List.length_drop,List.length_take];rfl)):wpList P ops Q (oi :: rest) a W:=
  goesL_ (some N) hd hg hf hname hb args hop hargs h
end
theorem cells2 {w:World} {g t:Nat} {a b:Value} (h:w.heap[g]?=some (.cells #[a,b] t (0,0))):w.cell? ⟨g,0,none⟩=some a∧w.cell? ⟨g,1,none⟩=some b∧w.frozen? ⟨g,0,none⟩=false∧w.frozen? ⟨g,1,none⟩=false:=⟨(blk_cell h 0).trans rfl,(blk_cell h 1).trans rfl,blk_frozen h 0,blk_frozen h 1⟩
theorem cells3 {w:World} {g t:Nat} {a b c:Value} (h:w.heap[g]?=some (.cells #[a,b,c] t (0,0))):w.cell? ⟨g,0,none⟩=some a∧w.cell? ⟨g,1,none⟩=some b∧w.cell? ⟨g,2,none⟩=some c∧w.frozen? ⟨g,0,none⟩=false∧w.frozen? ⟨g,1,none⟩=false∧w.frozen? ⟨g,2,none⟩=false:=⟨(blk_cell h 0).trans rfl,(blk_cell h 1).trans rfl,(blk_cell h 2).trans rfl,blk_frozen h 0,blk_frozen h 1,blk_frozen h 2⟩
/-- A state of type 71 at block g of W; what its slices lead to came in by w0. -/
def IsS71 (w0 W:World) (g:Nat) (f0:List Int) (f1:Int) (f2:Int):Prop:= ∃ A0 c0,W.heap[g]?=some (.cells #[.slice A0 f0.length c0, .int .i64 f1, .int .u64 f2] 71 (0,0))∧w0.heap.size≤g∧Kd.C (Kd.int .u8) w0 A0 f0.length f0
theorem IsS71.grown {w0 W:World} {g:Nat} {f0:List Int} {f1:Int} {f2:Int} {W1:World} {row:Option Nat} (h:IsS71 w0 W g f0 f1 f2) (hw:W.grownBy W1 row) (hne:some g≠row):IsS71 w0 W1 g f0 f1 f2:=by
  obtain ⟨A0,c0,hb,hg,hr0⟩:=h;exact ⟨A0,c0,blk_grown hb hw hne,hg,hr0⟩
theorem IsS71.below {w0 W:World} {g:Nat} {f0:List Int} {f1:Int} {f2:Int} {W1:World} (h:IsS71 w0 W g f0 f1 f2) (hw:Below W.heap.size W W1):IsS71 w0 W1 g f0 f1 f2:=h.grown (grown_of_below hw none) (by simp)
theorem IsS71.alloc {w0 W:World} {g:Nat} {f0:List Int} {f1:Int} {f2:Int} (h:IsS71 w0 W g f0 f1 f2) (o:Obj):IsS71 w0 (W.alloc o) g f0 f1 f2:=h.below (ba_ (Below.refl _ _) o)
theorem IsS71.drewN {w0 W:World} {g:Nat} {f0:List Int} {f1:Int} {f2:Int} (h:IsS71 w0 W g f0 f1 f2) (m:Nat):IsS71 w0 (W.drewN m) g f0 f1 f2:=h
theorem IsS71.drew {w0 W:World} {g:Nat} {f0:List Int} {f1:Int} {f2:Int} (h:IsS71 w0 W g f0 f1 f2):IsS71 w0 W.drew g f0 f1 f2:=h
theorem IsS71.apart {w0 W:World} {g:Nat} {f0:List Int} {f1:Int} {f2:Int} {α:Type} {d:Kd α} {e:Nat} {base:Nat} {ok:Nat→Prop} {v:Value} {xs:List α} (h:IsS71 w0 W g f0 f1 f2) (ho:d.R e W base ok v xs) (ht : ∀ q,q∈e :: d.E→q≠71):d.R e W base (fun k=>ok k∧k≠g) v xs:=by
  obtain ⟨A0,c0,hb,hg,hr0⟩:=h;exact Kd.R_types ho hb ht
theorem IsS71.own_ne {w0 W:World} {g:Nat} {f0:List Int} {f1:Int} {f2:Int} {α:Type} {d:Kd α} {e:Nat} {base:Nat} {ok:Nat→Prop} {v:Value} {xs:List α} (h:IsS71 w0 W g f0 f1 f2) (ho:d.R e W base ok v xs) (ht:e≠71):some g≠v.ownBlock:=by
  obtain ⟨A0,c0,hb,hg,hr0⟩:=h;exact Kd.R_ne ho hb ht
theorem IsS71.lt {w0 W:World} {g:Nat} {f0:List Int} {f1:Int} {f2:Int} (h:IsS71 w0 W g f0 f1 f2):g < W.heap.size:=by
  obtain ⟨A0,c0,hb,hg,hr0⟩:=h;exact blk_lt hb
theorem IsS71.ge {w0 W:World} {g:Nat} {f0:List Int} {f1:Int} {f2:Int} (h:IsS71 w0 W g f0 f1 f2):w0.heap.size≤g:=by
  obtain ⟨A0,c0,hb,hg,hr0⟩:=h;exact hg
theorem IsS71.far {w0 W:World} {g:Nat} {f0:List Int} {f1:Int} {f2:Int} {p:Addr} (h:IsS71 w0 W g f0 f1 f2) (hne:g≠p.block) (u:Value):IsS71 w0 (W.setCell p u) g f0 f1 f2:=by
  obtain ⟨A0,c0,hb,hg,hr0⟩:=h;exact ⟨A0,c0,blk_far hb hne u,hg,hr0⟩
theorem cellS71_0 {W:World} {g:Nat} {A0:Option Addr} {c0:Nat} {f0:List Int} {f1:Int} {f2:Int} (h:W.heap[g]?=some (.cells #[.slice A0 f0.length c0, .int .i64 f1, .int .u64 f2] 71 (0,0))):W.cell? ⟨g,0,none⟩=some (.slice A0 f0.length c0):=(blk_cell h 0).trans rfl
theorem cellS71_1 {W:World} {g:Nat} {A0:Option Addr} {c0:Nat} {f0:List Int} {f1:Int} {f2:Int} (h:W.heap[g]?=some (.cells #[.slice A0 f0.length c0, .int .i64 f1, .int .u64 f2] 71 (0,0))):W.cell? ⟨g,1,none⟩=some (.int .i64 f1):=(blk_cell h 1).trans rfl
theorem IsS71.set_1 {w0 W:World} {g:Nat} {f0:List Int} {f1:Int} {f2:Int} (h:IsS71 w0 W g f0 f1 f2) (x:Int):IsS71 w0 (W.setCell ⟨g,1,none⟩ (.int .i64 x)) g f0 x f2:=by
  obtain ⟨A0,c0,hb,hg,hr0⟩:=h;exact ⟨A0,c0,by simpa using blk_set hb 1 (.int .i64 x),hg,hr0⟩
theorem cellS71_2 {W:World} {g:Nat} {A0:Option Addr} {c0:Nat} {f0:List Int} {f1:Int} {f2:Int} (h:W.heap[g]?=some (.cells #[.slice A0 f0.length c0, .int .i64 f1, .int .u64 f2] 71 (0,0))):W.cell? ⟨g,2,none⟩=some (.int .u64 f2):=(blk_cell h 2).trans rfl
theorem IsS71.set_2 {w0 W:World} {g:Nat} {f0:List Int} {f1:Int} {f2:Int} (h:IsS71 w0 W g f0 f1 f2) (x:Int):IsS71 w0 (W.setCell ⟨g,2,none⟩ (.int .u64 x)) g f0 f1 x:=by
  obtain ⟨A0,c0,hb,hg,hr0⟩:=h;exact ⟨A0,c0,by simpa using blk_set hb 2 (.int .u64 x),hg,hr0⟩
/-! ### spec_l1Cur_next: function 77 -/
def spec_l1Cur_next.f (s0_0:List Int) (s0_1:Int) (s0_2:Int):Option (Int×Int×Int):=if s0_1 < (s0_0.length:Int) then (if 0≤s0_1 then (if (wrap64 (s0_1 + 1))≤(s0_0.length:Int) then (some (wrap64 (rd s0_0 s0_1),wrap64 (s0_1 + 1),IntKind.u64.wrap ((IntKind.u64.wrap ((IntKind.u64.wrap (s0_2 * 6364136223846793005)) + (IntKind.u64.wrap (wrap64 (rd s0_0 s0_1))))) + 1442695040888963407))) else (some (wrap64 (Go.bits .and .u64 ((IntKind.u64.wrap ((IntKind.u64.wrap ((IntKind.u64.wrap (s0_2 * 6364136223846793005)) + (IntKind.u64.wrap (wrap64 (rd s0_0 s0_1))))) + 1442695040888963407)) / 1099511627776) 255),wrap64 (s0_1 + 1),IntKind.u64.wrap ((IntKind.u64.wrap ((IntKind.u64.wrap (s0_2 * 6364136223846793005)) + (IntKind.u64.wrap (wrap64 (rd s0_0 s0_1))))) + 1442695040888963407)))) else (none)) else (if (wrap64 (s0_1 + 1))≤(s0_0.length:Int) then (some (0,wrap64 (s0_1 + 1),IntKind.u64.wrap ((IntKind.u64.wrap (IntKind.u64.wrap (s0_2 * 6364136223846793005))) + 1442695040888963407))) else (some (wrap64 (Go.bits .and .u64 ((IntKind.u64.wrap ((IntKind.u64.wrap (IntKind.u64.wrap (s0_2 * 6364136223846793005))) + 1442695040888963407)) / 1099511627776) 255),wrap64 (s0_1 + 1),IntKind.u64.wrap ((IntKind.u64.wrap (IntKind.u64.wrap (s0_2 * 6364136223846793005))) + 1442695040888963407))))
set_option maxHeartbeats 8000000 in
set_option maxRecDepth 100000 in
theorem spec_l1Cur_next.calls (g:Nat) (s0_0:List Int) (s0_1:Int) (s0_2:Int) (r1:Int) (r2:Int) (r3:Int) (w0 w:World) (hI:IsS71 w0 w g s0_0 s0_1 s0_2) (hB:Below w0.heap.size w0 w) (h:spec_l1Cur_next.f s0_0 s0_1 s0_2=some (r1,r2,r3)) :
    Calls Try.prog 77 #[.pointer (some ⟨g,0,none⟩)] w fun e w'=>e = .returned (.int .i64 r1)∧IsS71 w0 w' g s0_0 r2 r3∧Below w0.heap.size w0 w'∧KeepBut w w' g none:=by
  have HI0:=amk hI;have HK:=amk (KeepBut.refl w g none);have HL:=amk hB.size;clear hI;have HW0:=amk hB.size;have HB:=amk hB;clear hB;unfold spec_l1Cur_next.f at h;have H:=h;clear h;replace H:=iteE H;obtain ⟨c2b0,H⟩ | ⟨c2b0,H⟩:=H
  · replace H:=iteN H;obtain ⟨c3b0,H⟩:=H;replace H:=iteE H;obtain ⟨c4b0,H⟩ | ⟨c4b0,H⟩:=H
    · simp only [Option.some.injEq,Prod.mk.injEq] at H;obtain ⟨rfl,rfl,rfl⟩:=H;obtain ⟨ASz5_0,cSz5_0,HGz5,hgz5,HSz5_0⟩:=HI0.out;have hcz5_0:=cellS71_0 HGz5;have hcz5_1:=cellS71_1 HGz5;have hcz5_2:=cellS71_2 HGz5;have hfz5_1:=blk_frozen HGz5 1;have hfz5_2:=blk_frozen HGz5 2;clear HGz5 hgz5;have p284:0≤(s0_1:Int):=dA_;have q284:s0_1 < (s0_0.length:Int):=dA_;obtain ⟨ad284,e284,hx284_0⟩:=Kd.at_int HSz5_0 s0_1 p284 q284;cases e284;replace hx284_0:=pw_cell_below HB.out hx284_0;replace p284:=eq_true p284;replace q284:=eq_true q284;go_enter Try.func77,Try.ntmps77;go_wp2
      repeat (go_quiet (fail);try go_wp2)
      go_ret;exact ⟨rF_,by repeat (first | (with_reducible first | exact HI0.out | apply IsS71.alloc | apply IsS71.drewN | apply IsS71.drew | apply IsS71.set_1 | apply IsS71.set_2) | exact HI0.out),by repeat (first | (with_reducible first | exact HB.out | apply ba_ | apply bn_ | apply bd_ | refine bs_ ?_ (IsS71.ge HI0.out)) | exact HB.out),bK⟩
    · simp only [Option.some.injEq,Prod.mk.injEq] at H;obtain ⟨rfl,rfl,rfl⟩:=H;obtain ⟨ASz6_0,cSz6_0,HGz6,hgz6,HSz6_0⟩:=HI0.out;have hcz6_0:=cellS71_0 HGz6;have hcz6_1:=cellS71_1 HGz6;have hcz6_2:=cellS71_2 HGz6;have hfz6_1:=blk_frozen HGz6 1;have hfz6_2:=blk_frozen HGz6 2;clear HGz6 hgz6;have p284:0≤(s0_1:Int):=dA_;have q284:s0_1 < (s0_0.length:Int):=dA_;obtain ⟨ad284,e284,hx284_0⟩:=Kd.at_int HSz6_0 s0_1 p284 q284;cases e284;replace hx284_0:=pw_cell_below HB.out hx284_0;replace p284:=eq_true p284;replace q284:=eq_true q284;go_enter Try.func77,Try.ntmps77;go_wp2
      repeat (go_quiet (fail);try go_wp2)
      go_ret;exact ⟨rF_,by repeat (first | (with_reducible first | exact HI0.out | apply IsS71.alloc | apply IsS71.drewN | apply IsS71.drew | apply IsS71.set_1 | apply IsS71.set_2) | exact HI0.out),by repeat (first | (with_reducible first | exact HB.out | apply ba_ | apply bn_ | apply bd_ | refine bs_ ?_ (IsS71.ge HI0.out)) | exact HB.out),bK⟩
  · replace H:=iteE H;obtain ⟨c7b0,H⟩ | ⟨c7b0,H⟩:=H
    · simp only [Option.some.injEq,Prod.mk.injEq] at H;obtain ⟨rfl,rfl,rfl⟩:=H;obtain ⟨ASz8_0,cSz8_0,HGz8,hgz8,HSz8_0⟩:=HI0.out;have hcz8_0:=cellS71_0 HGz8;have hcz8_1:=cellS71_1 HGz8;have hcz8_2:=cellS71_2 HGz8;have hfz8_1:=blk_frozen HGz8 1;have hfz8_2:=blk_frozen HGz8 2;clear HGz8 hgz8;go_enter Try.func77,Try.ntmps77;go_wp2
      repeat (go_quiet (fail);try go_wp2)
      go_ret;exact ⟨rF_,by repeat (first | (with_reducible first | exact HI0.out | apply IsS71.alloc | apply IsS71.drewN | apply IsS71.drew | apply IsS71.set_1 | apply IsS71.set_2) | exact HI0.out),by repeat (first | (with_reducible first | exact HB.out | apply ba_ | apply bn_ | apply bd_ | refine bs_ ?_ (IsS71.ge HI0.out)) | exact HB.out),bK⟩
    · simp only [Option.some.injEq,Prod.mk.injEq] at H;obtain ⟨rfl,rfl,rfl⟩:=H;obtain ⟨ASz9_0,cSz9_0,HGz9,hgz9,HSz9_0⟩:=HI0.out;have hcz9_0:=cellS71_0 HGz9;have hcz9_1:=cellS71_1 HGz9;have hcz9_2:=cellS71_2 HGz9;have hfz9_1:=blk_frozen HGz9 1;have hfz9_2:=blk_frozen HGz9 2;clear HGz9 hgz9;go_enter Try.func77,Try.ntmps77;go_wp2
      repeat (go_quiet (fail);try go_wp2)
      go_ret;exact ⟨rF_,by repeat (first | (with_reducible first | exact HI0.out | apply IsS71.alloc | apply IsS71.drewN | apply IsS71.drew | apply IsS71.set_1 | apply IsS71.set_2) | exact HI0.out),by repeat (first | (with_reducible first | exact HB.out | apply ba_ | apply bn_ | apply bd_ | refine bs_ ?_ (IsS71.ge HI0.out)) | exact HB.out),bK⟩
/-! The same short words, for what holds a cursor. -/
theorem bI {P:Prop} (h:P:=by repeat (first | (with_reducible first | exact HI0.out | apply IsS71.alloc | apply IsS71.drewN | apply IsS71.drew | apply IsS71.set_1 | apply IsS71.set_2 | refine IsS71.far ?_ (Aside0.out (by with_reducible assumption)) _) | exact HI0.out)):P:=h
theorem bBI {P:Prop} (h:P:=by repeat (first | (with_reducible first | exact HB.out | apply ba_ | apply bn_ | apply bd_ | refine bs_ ?_ (Aside0.out (by with_reducible assumption)) | refine bs_ ?_ (IsS71.ge HI0.out)) | exact HB.out)):P:=h
section
variable {w0 w W0 W w2:World} {g gb:Nat} {f0:List Int} {f1 f2:Int}
theorem hBI (a:Aside0 (Below w.heap.size w W0)) (hb:Below W.heap.size W w2) (f:Below w.heap.size w W0→Below w.heap.size w W:=by intro h;repeat (first | (with_reducible first | exact h | apply ba_ | apply bn_ | apply bd_ | refine bs_ ?_ (Aside0.out (by with_reducible assumption)) | refine bs_ ?_ (IsS71.ge HI0.out)) | exact h)):Aside0 (Below w.heap.size w w2):=⟨bp_ (f a.out) hb⟩
theorem iL (f0:List Int) (f1 f2:Int) (e:gb=W.heap.size) (h:IsS71 w0 W g f0 f1 f2:=by exact bI):Aside0 (g≠gb):=⟨by rw [e];exact Nat.ne_of_lt h.lt⟩
theorem iR (f0:List Int) (f1 f2:Int) (e:gb=W.heap.size) (h:IsS71 w0 W g f0 f1 f2:=by exact bI):Aside0 (gb≠g):=⟨by rw [e];exact Nat.ne_of_gt h.lt⟩
end
/-! ### spec_l1Cur_pick: function 39 -/
def spec_l1Cur_pick.f (s0_0:List Int) (s0_1:Int) (s0_2:Int) (a1:Int):Option (Int×Int×Int):=if a1≤1 then (some (0,s0_1,s0_2)) else ((spec_l1Cur_next.f s0_0 s0_1 s0_2).bind fun bt285=>(if a1 > 200 then ((spec_l1Cur_next.f s0_0 bt285.2.1 bt285.2.2).bind fun bt288=>(if a1=0 then (none) else (some (Int.tmod (wrap64 ((wrap64 (bt285.1 * 256)) + bt288.1)) a1,bt288.2.1,bt288.2.2)))) else (if a1=0 then (none) else (some (Int.tmod bt285.1 a1,bt285.2.1,bt285.2.2)))))
set_option maxHeartbeats 8000000 in
set_option maxRecDepth 100000 in
theorem spec_l1Cur_pick.calls (g:Nat) (s0_0:List Int) (s0_1:Int) (s0_2:Int) (a1:Int) (r1:Int) (r2:Int) (r3:Int) (w0 w:World) (hI:IsS71 w0 w g s0_0 s0_1 s0_2) (hB:Below w0.heap.size w0 w) (h:spec_l1Cur_pick.f s0_0 s0_1 s0_2 a1=some (r1,r2,r3)) :
    Calls Try.prog 39 #[.pointer (some ⟨g,0,none⟩), .int .i64 a1] w fun e w'=>e = .returned (.int .i64 r1)∧IsS71 w0 w' g s0_0 r2 r3∧Below w0.heap.size w0 w'∧KeepBut w w' g none:=by
  have HI0:=amk hI;have HK:=amk (KeepBut.refl w g none);have HL:=amk hB.size;clear hI;have HW0:=amk hB.size;have HB:=amk hB;clear hB;unfold spec_l1Cur_pick.f at h;have H:=h;clear h;replace H:=iteE H;obtain ⟨c3b0,H⟩ | ⟨c3b0,H⟩:=H
  · simp only [Option.some.injEq,Prod.mk.injEq] at H;obtain ⟨rfl,rfl,rfl⟩:=H;go_enter Try.func39,Try.ntmps39;go_wp2;go_ret;exact ⟨rF_,bI,bBI,bK⟩
  · replace H:=bE H;obtain ⟨⟨t285,t286,t287⟩,A4,H⟩:=H;(try dsimp only at H)
    by_cases c5:a1 > 200
    · rw [if_pos c5] at H;have c5b0:decide (200 < a1)=true:=decide_eq_true c5;clear c5;replace H:=bE H;obtain ⟨⟨t288,t289,t290⟩,A6,H⟩:=H;(try dsimp only at H)
      by_cases c7:a1=0
      · rw [if_pos c7] at H;exact absurd H (by simp)
      · rw [if_neg c7] at H;have c7b0:(a1 == 0)=false:=beq_eq_false_iff_ne.mpr c7;have c7b1:(a1 != 0)=true:=bne_iff_ne.mpr c7;simp only [Option.some.injEq,Prod.mk.injEq] at H;obtain ⟨rfl,rfl,rfl⟩:=H;go_enter Try.func39,Try.ntmps39;go_wp2_with (first | (refine gc_ 77 9 Try.func77 #[.pointer (some ⟨g,0,none⟩)] ?_;(with_reducible refine (spec_l1Cur_next.calls g s0_0 s0_1 s0_2 t285 t286 t287 w0 _ ?_ ?_ A4.out).mono ?_);exact bI;exact bBI;rintro e w8 ⟨rfl,hi,hb,hk⟩;refine ⟨_,rfl,?_⟩;replace HK:=kT2 HK hk;replace HB:=amk (hb);replace HI0:=amk (hi);(try clear hb);(try clear hk);(try clear hi)) | (refine gc_ 77 15 Try.func77 #[.pointer (some ⟨g,0,none⟩)] ?_;(with_reducible refine (spec_l1Cur_next.calls g s0_0 t286 t287 t288 t289 t290 w0 _ ?_ ?_ A6.out).mono ?_);exact bI;exact bBI;rintro e w9 ⟨rfl,hi,hb,hk⟩;refine ⟨_,rfl,?_⟩;replace HK:=kT2 HK hk;replace HB:=amk (hb);replace HI0:=amk (hi);(try clear hb);(try clear hk);(try clear hi)));go_ret;exact ⟨rF_,bI,bBI,bK⟩
    · rw [if_neg c5] at H;have c5b0:decide (200 < a1)=false:=decide_eq_false c5;clear c5
      by_cases c10:a1=0
      · rw [if_pos c10] at H;exact absurd H (by simp)
      · rw [if_neg c10] at H;have c10b0:(a1 == 0)=false:=beq_eq_false_iff_ne.mpr c10;have c10b1:(a1 != 0)=true:=bne_iff_ne.mpr c10;simp only [Option.some.injEq,Prod.mk.injEq] at H;obtain ⟨rfl,rfl,rfl⟩:=H;go_enter Try.func39,Try.ntmps39;go_wp2_with (first | (refine gc_ 77 9 Try.func77 #[.pointer (some ⟨g,0,none⟩)] ?_;(with_reducible refine (spec_l1Cur_next.calls g s0_0 s0_1 s0_2 t285 t286 t287 w0 _ ?_ ?_ A4.out).mono ?_);exact bI;exact bBI;rintro e w11 ⟨rfl,hi,hb,hk⟩;refine ⟨_,rfl,?_⟩;replace HK:=kT2 HK hk;replace HB:=amk (hb);replace HI0:=amk (hi);(try clear hb);(try clear hk);(try clear hi)));go_ret;exact ⟨rF_,bI,bBI,bK⟩
/-! ### spec_l1Cur_among: function 37 -/
def spec_l1Cur_among.f (s0_0:List Int) (s0_1:Int) (s0_2:Int) (l1:List Int):Option (Int×Int×Int):=(spec_l1Cur_pick.f s0_0 s0_1 s0_2 (l1.length:Int)).bind fun bt294=>(if 0≤bt294.1 then (if bt294.1 < (l1.length:Int) then (some (rd l1 bt294.1,bt294.2.1,bt294.2.2)) else (none)) else (none))
set_option maxHeartbeats 8000000 in
set_option maxRecDepth 100000 in
theorem spec_l1Cur_among.calls (g:Nat) (s0_0:List Int) (s0_1:Int) (s0_2:Int) (A1:Option Addr) (c1:Nat) (l1:List Int) (r1:Int) (r2:Int) (r3:Int) (w0 w:World) (hI:IsS71 w0 w g s0_0 s0_1 s0_2) (hB:Below w0.heap.size w0 w) (hr1:Kd.C (Kd.int .i64) w A1 l1.length l1) (hc1:l1.length≤c1) (hf1 : ∀ ad,A1=some ad→0 < l1.length→ad.block≠g) (h:spec_l1Cur_among.f s0_0 s0_1 s0_2 l1=some (r1,r2,r3)) :
    Calls Try.prog 37 #[.pointer (some ⟨g,0,none⟩), .slice A1 l1.length c1] w fun e w'=>e = .returned (.int .i64 r1)∧IsS71 w0 w' g s0_0 r2 r3∧Below w0.heap.size w0 w'∧KeepBut w w' g none:=by
  have HR1:=amk hr1;have HC1:=amk hc1;clear hr1 hc1;have HI0:=amk hI;have HK:=amk (KeepBut.refl w g none);have HL:=amk hB.size;clear hI;have HW0:=amk hB.size;have HB:=amk hB;clear hB;unfold spec_l1Cur_among.f at h;have H:=h;clear h;replace H:=bE H;obtain ⟨⟨t294,t295,t296⟩,A3,H⟩:=H;(try dsimp only at H);replace H:=iteN H;obtain ⟨c4b0,H⟩:=H;replace H:=iteN H;obtain ⟨c5b0,H⟩:=H;simp only [Option.some.injEq,Prod.mk.injEq] at H;obtain ⟨rfl,rfl,rfl⟩:=H;go_enter Try.func37,Try.ntmps37;go_wp2_with (first | (refine gc_ 39 9 Try.func39 #[.pointer (some ⟨g,0,none⟩), .int .i64 (l1.length:Int)] ?_;(with_reducible refine (spec_l1Cur_pick.calls g s0_0 s0_1 s0_2 (l1.length:Int) t294 t295 t296 w0 _ ?_ ?_ A3.out).mono ?_);exact bI;exact bBI;rintro e w6 ⟨rfl,hi,hb,hk⟩;refine ⟨_,rfl,?_⟩;replace HK:=kT2 HK hk;replace HB:=amk (hb);replace HI0:=amk (hi);(try clear hb);(try clear hk);(try clear hi);have p297:0≤(t294:Int):=dA_;have q297:t294 < (l1.length:Int):=dA_;obtain ⟨ad297,e297,hx297_0⟩:=Kd.at_int HR1.out t294 p297 q297;cases e297;replace hx297_0:=keep_cell HK.out hx297_0 (by first | (rw [add_block];exact hf1 _ rfl (by omega)) | exact hf1 _ rfl (by omega) | exact hf1 ad297 rfl (by omega));replace p297:=eq_true p297;replace q297:=eq_true q297));go_ret;exact ⟨rF_,bI,bBI,bK⟩
/-! ### spec_l1Cur_of: function 72 -/
def spec_l1Cur_of.f (s0_0:List Int) (s0_1:Int) (s0_2:Int) (l1:List ByteArray):Option (ByteArray×Int×Int):=(spec_l1Cur_pick.f s0_0 s0_1 s0_2 (l1.length:Int)).bind fun bt318=>(if 0≤bt318.1 then (if bt318.1 < (l1.length:Int) then (some (rdOf ByteArray.empty l1 bt318.1,bt318.2.1,bt318.2.2)) else (none)) else (none))
set_option maxHeartbeats 8000000 in
set_option maxRecDepth 100000 in
theorem spec_l1Cur_of.calls (g:Nat) (s0_0:List Int) (s0_1:Int) (s0_2:Int) (A1:Option Addr) (c1:Nat) (l1:List ByteArray) (r1:ByteArray) (r2:Int) (r3:Int) (w0 w:World) (hI:IsS71 w0 w g s0_0 s0_1 s0_2) (hB:Below w0.heap.size w0 w) (hr1:Kd.C Kd.string w A1 l1.length l1) (hc1:l1.length≤c1) (hf1 : ∀ ad,A1=some ad→0 < l1.length→ad.block≠g) (h:spec_l1Cur_of.f s0_0 s0_1 s0_2 l1=some (r1,r2,r3)) :
    Calls Try.prog 72 #[.pointer (some ⟨g,0,none⟩), .slice A1 l1.length c1] w fun e w'=>e = .returned (.string r1)∧IsS71 w0 w' g s0_0 r2 r3∧Below w0.heap.size w0 w'∧KeepBut w w' g none:=by
  have HR1:=amk hr1;have HC1:=amk hc1;clear hr1 hc1;have HI0:=amk hI;have HK:=amk (KeepBut.refl w g none);have HL:=amk hB.size;clear hI;have HW0:=amk hB.size;have HB:=amk hB;clear hB;unfold spec_l1Cur_of.f at h;have H:=h;clear h;replace H:=bE H;obtain ⟨⟨t318,t319,t320⟩,A3,H⟩:=H;(try dsimp only at H);replace H:=iteN H;obtain ⟨c4b0,H⟩:=H;replace H:=iteN H;obtain ⟨c5b0,H⟩:=H;simp only [Option.some.injEq,Prod.mk.injEq] at H;obtain ⟨rfl,rfl,rfl⟩:=H;go_enter Try.func72,Try.ntmps72;go_wp2_with (first | (refine gc_ 39 9 Try.func39 #[.pointer (some ⟨g,0,none⟩), .int .i64 (l1.length:Int)] ?_;(with_reducible refine (spec_l1Cur_pick.calls g s0_0 s0_1 s0_2 (l1.length:Int) t318 t319 t320 w0 _ ?_ ?_ A3.out).mono ?_);exact bI;exact bBI;rintro e w6 ⟨rfl,hi,hb,hk⟩;refine ⟨_,rfl,?_⟩;replace HK:=kT2 HK hk;replace HB:=amk (hb);replace HI0:=amk (hi);(try clear hb);(try clear hk);(try clear hi);have p321:0≤(t318:Int):=dA_;have q321:t318 < (l1.length:Int):=dA_;obtain ⟨ad321,e321,hx321_0⟩:=Kd.at_string HR1.out t318 p321 q321;cases e321;replace hx321_0:=keep_cell HK.out hx321_0 (by first | (rw [add_block];exact hf1 _ rfl (by omega)) | exact hf1 _ rfl (by omega) | exact hf1 ad321 rfl (by omega));replace p321:=eq_true p321;replace q321:=eq_true q321));go_ret;exact ⟨rF_,bI,bBI,bK⟩
/-! ### spec_l1Cur_one: function 34 -/
def spec_l1Cur_one.f (s0_0:List Int) (s0_1:Int) (s0_2:Int) (a1:Int):Option (Bool×Int×Int):=(spec_l1Cur_pick.f s0_0 s0_1 s0_2 a1).bind fun bt291=>(some ((bt291.1 == 0),bt291.2.1,bt291.2.2))
set_option maxHeartbeats 8000000 in
set_option maxRecDepth 100000 in
theorem spec_l1Cur_one.calls (g:Nat) (s0_0:List Int) (s0_1:Int) (s0_2:Int) (a1:Int) (r1:Bool) (r2:Int) (r3:Int) (w0 w:World) (hI:IsS71 w0 w g s0_0 s0_1 s0_2) (hB:Below w0.heap.size w0 w) (h:spec_l1Cur_one.f s0_0 s0_1 s0_2 a1=some (r1,r2,r3)) :
    Calls Try.prog 34 #[.pointer (some ⟨g,0,none⟩), .int .i64 a1] w fun e w'=>e = .returned (.bool r1)∧IsS71 w0 w' g s0_0 r2 r3∧Below w0.heap.size w0 w'∧KeepBut w w' g none:=by
  have HI0:=amk hI;have HK:=amk (KeepBut.refl w g none);have HL:=amk hB.size;clear hI;have HW0:=amk hB.size;have HB:=amk hB;clear hB;unfold spec_l1Cur_one.f at h;have H:=h;clear h;replace H:=bE H;obtain ⟨⟨t291,t292,t293⟩,A3,H⟩:=H;(try dsimp only at H);simp only [Option.some.injEq,Prod.mk.injEq] at H;obtain ⟨rfl,rfl,rfl⟩:=H;go_enter Try.func34,Try.ntmps34;go_wp2_with (first | (refine gc_ 39 7 Try.func39 #[.pointer (some ⟨g,0,none⟩), .int .i64 a1] ?_;(with_reducible refine (spec_l1Cur_pick.calls g s0_0 s0_1 s0_2 a1 t291 t292 t293 w0 _ ?_ ?_ A3.out).mono ?_);exact bI;exact bBI;rintro e w4 ⟨rfl,hi,hb,hk⟩;refine ⟨_,rfl,?_⟩;replace HK:=kT2 HK hk;replace HB:=amk (hb);replace HI0:=amk (hi);(try clear hb);(try clear hk);(try clear hi)));go_ret;exact ⟨rF_,bI,bBI,bK⟩
/-! The small draws come to an end: one byte, one of many, one of a list. -/
/-! The draws: that they come to an end, and how great what they give is. -/
theorem u64_rng (n:Int):0≤IntKind.u64.wrap n∧IntKind.u64.wrap n < 18446744073709551616:=by
  have:IntKind.u64.wrap n=n % 18446744073709551616:=by simp [IntKind.wrap,IntKind.bits,IntKind.signed]
  rw [this];omega
theorem and255 (n:Int):0≤Go.bits .and .u64 (IntKind.u64.wrap n / 1099511627776) 255∧Go.bits .and .u64 (IntKind.u64.wrap n / 1099511627776) 255≤255:=by
  obtain ⟨h0,h1⟩:=u64_rng n
  rw [u64_and _ _ (by omega) (by omega) (by omega) (by omega)]
  have:=Nat.and_le_right (n:=(IntKind.u64.wrap n / 1099511627776).toNat) (m:=(255:Int).toNat)
  have e:((255:Int).toNat:Nat)=255:=rfl
  rw [e] at this ⊢
  omega
def BytesV (s:List Int):Prop:=(∀ x∈s,0≤x∧x < 256)∧s.length≤1000000000000
theorem dnext_ok {s:List Int} (hs:BytesV s) {a:Int} (h0:0≤a) (h1:a≤1000000000) (b:Int) : ∃ r b',spec_l1Cur_next.f s a b=some (r,a + 1,b')∧0≤r∧r < 256:=by
  have hw:wrap64 (a + 1)=a + 1:=w64 (by omega) (by omega)
  have hl:=hs.2
  unfold spec_l1Cur_next.f
  rw [hw]
  clear hw
  by_cases h:a < (s.length:Int)
  · obtain ⟨i,rfl⟩ : ∃ i:Nat,a=(i:Int):=⟨a.toNat,by omega⟩
    have hi:i < s.length:=by omega
    have hx:=hs.1 s[i] (List.getElem_mem hi)
    rw [if_pos h,if_pos h0,if_pos (by omega),rd_int hi]
    refine ⟨_,_,rfl,?_⟩
    rw [w64 (by omega) (by omega)]
    exact hx
  · rw [if_neg h,if_neg (by omega)]
    refine ⟨_,_,rfl,?_⟩
    have:=and255 ((IntKind.u64.wrap (IntKind.u64.wrap (b * 6364136223846793005))) + 1442695040888963407)
    rw [w64 (by omega) (by omega)]
    omega
theorem dpick_ok {s:List Int} (hs:BytesV s) {a:Int} (h0:0≤a) (h1:a≤1000000000) (b:Int) {n:Int} (hn:n≤200) : ∃ r a' b',spec_l1Cur_pick.f s a b n=some (r,a',b')∧0≤r∧(r < n∨r=0)∧a≤a'∧a'≤a + 1:=by
  unfold spec_l1Cur_pick.f
  by_cases h:n≤1
  · rw [if_pos h]
    exact ⟨0,a,b,rfl,Int.le_refl _,Or.inr rfl,Int.le_refl _,by omega⟩
  · obtain ⟨r,b',e,r0,r1⟩:=dnext_ok hs h0 h1 b
    rw [if_neg h,e]
    show ∃ r_ a' b'_,(if n > 200 then _ else if n=0 then none else some (Int.tmod r n,a + 1,b'))=some (r_,a',b'_)∧_
    rw [if_neg (by omega),if_neg (by omega)]
    refine ⟨_,_,_,rfl,?_,Or.inl ?_,by omega,Int.le_refl _⟩
    · exact Int.tmod_nonneg _ r0
    · exact Int.tmod_lt_of_pos _ (by omega)
theorem done_ok {s:List Int} (hs:BytesV s) {a:Int} (h0:0≤a) (h1:a≤1000000000) (b:Int) {n:Int} (hn:n≤200) : ∃ r a' b',spec_l1Cur_one.f s a b n=some (r,a',b')∧a≤a'∧a'≤a + 1:=by
  obtain ⟨r,a',b',e,_,_,h2,h3⟩:=dpick_ok hs h0 h1 b hn
  unfold spec_l1Cur_one.f
  rw [e]
  exact ⟨_,_,_,rfl,h2,h3⟩
theorem damong_ok {s:List Int} (hs:BytesV s) {a:Int} (h0:0≤a) (h1:a≤1000000000) (b:Int) {l:List Int} (hl:0 < l.length) (hl2:l.length≤200) : ∃ r a' b',spec_l1Cur_among.f s a b l=some (r,a',b')∧r∈l∧a≤a'∧a'≤a + 1:=by
  obtain ⟨r,a',b',e,r0,r1,h2,h3⟩:=dpick_ok hs h0 h1 b (n:=(l.length:Int)) (by omega)
  unfold spec_l1Cur_among.f
  rw [e]
  obtain ⟨i,rfl⟩ : ∃ i:Nat,r=(i:Int):=⟨r.toNat,by omega⟩
  have hi:i < l.length:=by omega
  show ∃ r_ a'_ b'_,(if 0≤(i:Int) then if (i:Int) < (l.length:Int) then some (rd l i,a',b') else none else none)=some (r_,a'_,b'_)∧_
  rw [if_pos r0,if_pos (by omega),rd_int hi]
  exact ⟨_,_,_,rfl,List.getElem_mem hi,h2,h3⟩
theorem dof_ok {s:List Int} (hs:BytesV s) {a:Int} (h0:0≤a) (h1:a≤1000000000) (b:Int) {l:List ByteArray} (hl:0 < l.length) (hl2:l.length≤200) : ∃ r a' b',spec_l1Cur_of.f s a b l=some (r,a',b')∧r∈l∧a≤a'∧a'≤a + 1:=by
  obtain ⟨r,a',b',e,r0,r1,h2,h3⟩:=dpick_ok hs h0 h1 b (n:=(l.length:Int)) (by omega)
  unfold spec_l1Cur_of.f
  rw [e]
  obtain ⟨i,rfl⟩ : ∃ i:Nat,r=(i:Int):=⟨r.toNat,by omega⟩
  have hi:i < l.length:=by omega
  show ∃ r_ a'_ b'_,(if 0≤(i:Int) then if (i:Int) < (l.length:Int) then some (rdOf ByteArray.empty l i,a',b') else none else none)=some (r_,a'_,b'_)∧_
  rw [if_pos r0,if_pos (by omega),rd_str hi]
  exact ⟨_,_,_,rfl,List.getElem_mem hi,h2,h3⟩
/-! Short words for the steps of a region that draws. -/
def bA (n m:Nat):Array Bool:=((List.range n).map fun i=>m.testBit i).toArray
theorem bc_ {w:World} {g t:Nat} {cs:Array Value} {i:Nat} {v:Option Value} (a:Aside0 (w.heap[g]?=some (.cells cs t (0,0)))) (e:cs[i]?=v):w.cell? ⟨g,i,none⟩=v:=(blk_cell a.out i).trans e
theorem hC_ {P:Prop} (h:P:=by (repeat' apply And.intro);all_goals first | exact bc_ (by with_reducible assumption) rfl | exact bc_ (by assumption) rfl):P:=h
theorem nJ_ {P:Prop} (h:P:=by first | (simp only [putAll,Act.put,List.setIfInBounds_toArray,List.set_cons_zero,List.set_cons_succ];done) | (simp only [putAll,Act.put,List.setIfInBounds_toArray,List.set_cons_zero,List.set_cons_succ];rfl)):P:=h
section
variable {P:Program} {ops:Array Oper} {Q:Exit→Act→World→Prop} {md:Region.Mode} {S:World→Prop} {ds:List Nat} {T:Bool×List (List Nat×List Nat)} {B:List Nat} {fuel:Nat} {l:Array Bool} {a a':Act} {w:World} {oi:Oper}
theorem pU_ (HT:Aside0 (rtab md ops=T)) (i:Nat) (N:Option Tmp) (l':Array Bool) {v:Value} (h:wpAnyLast P md ops Q S ds fuel l' a' w)
    (hi:ops[i]?=some oi:=by rfl) (hN:oi.dst=N:=by rfl) (hc:anyT T l.toList l'.toList i=true:=by kernel_rfl) (hQ : ∀ c a w,Q (.panic c) (a.put oi.dst v) w→Q (.panic c) a w:=by exact fun _ _ _ h=>h)
    (hw:Region.wanted oi (yielded ops a.tmps)=true:=by rfl) (hy : ∀ w,(execOp a.eval oi).run P w = .ok (.value v) w:=by (intro w';go_simp;with_reducible rfl)) (ha:a.put N v=a':=by (simp only [Act.put,List.setIfInBounds_toArray,List.set_cons_zero,List.set_cons_succ,i64_w,i32_w];rfl)):wpAnyLast P md ops Q S ds (fuel + 1) l a w:=
  pure_ l' hi hN (any_of HT.out hc) hQ (.inl ⟨hw,hy⟩) ha h
theorem pZ_ (HT:Aside0 (rtab md ops=T)) (i:Nat) (N:Option Tmp) (l':Array Bool) (h:wpAnyLast P md ops Q S ds fuel l' a' w)
    (hi:ops[i]?=some oi:=by rfl) (hN:oi.dst=N:=by rfl) (hc:anyT T l.toList l'.toList i=true:=by kernel_rfl) (hQ : ∀ c a w,Q (.panic c) (a.put oi.dst undef) w→Q (.panic c) a w:=by exact fun _ _ _ h=>h)
    (hw:Region.wanted oi (yielded ops a.tmps)=false:=by rfl) (ha:a.put N undef=a':=by (simp only [Act.put,List.setIfInBounds_toArray,List.set_cons_zero,List.set_cons_succ,i64_w,i32_w];rfl)):wpAnyLast P md ops Q S ds (fuel + 1) l a w:=
  pure_ l' hi hN (any_of HT.out hc) hQ (.inr ⟨hw,rfl⟩) ha h
theorem tK_ (HT:Aside0 (rtab md ops=T)) (HW:Aside0 (waitsOk T.2 B=true)) (hS:S w) (i:Nat) (N:Option Tmp) (l':Array Bool) {v:Value} (h:wpAnyLast P md ops Q S ds fuel l' a' w)
    (hi:ops[i]?=some oi:=by rfl) (hN:oi.dst=N:=by rfl) (hc:takeW T B ds l.toList l'.toList i=true:=by kernel_rfl) (hQ : ∀ c a w,Q (.panic c) (a.put oi.dst v) w→Q (.panic c) a w:=by exact fun _ _ _ h=>h)
    (hw:Region.wanted oi (yielded ops a.tmps)=true:=by rfl) (hy : ∀ w,S w→(execOp a.eval oi).run P w = .ok (.value v) w:=by (intro w' s;repeat (have:=And.left s;replace s:=And.right s);go_simp;with_reducible rfl)) (ha:a.put N v=a':=by (simp only [Act.put,List.setIfInBounds_toArray,List.set_cons_zero,List.set_cons_succ,i64_w,i32_w];rfl)):wpAnyLast P md ops Q S ds (fuel + 1) l a w:=
  take_ l' hi hN (take_ofW HT.out HW.out hc) hQ (.inl ⟨hw,hy⟩) hS ha h
theorem oN_ (HT:Aside0 (rtab md ops=T)) (i:Nat) (N:Option Tmp) (l':Array Bool)
    (h : ∀ K:Act→World→Prop,Shut (∀ a' w',S w'→(S w'→wpAnyLast P md ops Q S ds fuel l' a' w')→K a' w')→if Region.wanted oi (yielded ops a.tmps)=true then Oper.wp P oi a w K Q else K (a.put N undef) w)
    (hi:ops[i]?=some oi:=by rfl) (hN:oi.dst=N:=by rfl) (hc:(readyT T.2 l.toList == [i] && l.toList.set i true == l'.toList)=true:=by kernel_rfl) (hd:i ∉ ds:=by decide):wpAnyLast P md ops Q S ds (fuel + 1) l a w:=
  one_ l' hi hN (one_of HT.out hc) hd h
theorem nN_ (N:Option Tmp) {v:Value} (h:wpAnyLast P md ops Q S ds fuel l a' w) (ha:a.put N v=a':=by (simp only [Act.put,List.setIfInBounds_toArray,List.set_cons_zero,List.set_cons_succ,i64_w,i32_w];rfl)):wpAnyLast P md ops Q S ds fuel l (a.put N v) w:=norm_ ha h
theorem gs_ {N:Option Tmp} {K:Act→World→Prop} {f:FuncId} {fn:Func} {xs:Array Operand} {ts:Array TypeId} (hf:P.funcs[f]?=some fn) (args:Array Value)
    (h : Calls P f args w fun e w' => ∃ v, e = .returned v ∧ K (a.put N v) w') (hname : (fn.name == "runtime.NumGoroutine") = false := by kernel_rfl) (hb : fn.body.isSome = true := by rfl)
    (hw:Region.wanted oi (yielded ops a.tmps)=true:=by rfl) (hN:oi.dst=N:=by rfl) (hop:oi.op = .call { callee:= .value (.func f),args:=xs,argTypes:=ts } :=by rfl)
    (hargs:xs.map a.eval=args:=by (try simp only [List.map_toArray,List.map_cons,List.map_nil]);first | done | rfl | (simp only [List.length_drop,List.length_take];rfl)):if Region.wanted oi (yielded ops a.tmps)=true then Oper.wp P oi a w K Q else K (a.put N undef) w:=
  goes_ hf hname hb args hw hN hop hargs h
end
/-! slices.Clone at []impl.Clue, by hand: a row of its own with the same elements. -/
def slices_Clone_impl_Clue_impl_Clue.f (l:List S44):Option (List S44):=if l.length < 5864062014805 then some l else none
set_option maxHeartbeats 2000000 in
set_option maxRecDepth 100000 in
theorem slices_Clone_impl_Clue_impl_Clue.calls (A0:Option Addr) (c0:Nat) (l0:List S44) (r:List S44) (w:World) (hr0:Kd.C k44 w A0 l0.length l0) (hc0:l0.length≤c0) (h:slices_Clone_impl_Clue_impl_Clue.f l0=some r) :
    Calls Try.prog 63 #[.slice A0 l0.length c0] w fun e w'=> ∃ v0_:Value,e = .returned v0_∧Kd.R k44 44 w' w.heap.size (fun _=>True) v0_ r∧Below w.heap.size w w':=by
  unfold slices_Clone_impl_Clue_impl_Clue.f at h
  by_cases hl:l0.length < 5864062014805
  · rw [if_pos hl] at h
    obtain rfl:=Option.some.inj h
    clear h
    have hinfo:(Try.prog.info? 44).map (fun i=>(i.zero,i.size,i.bytes))=some (some (.agg #[(.int .i64 0),(.int .i64 0),(.int .i64 0)]),3,24):=by kernel_rfl
    have HI:=amk hinfo
    clear hinfo
    have HR:=amk hr0
    have HL:=amk hl
    clear hl
    cases A0 with
    | none =>
      have hz:l0=[]:=by
        rcases Nat.eq_zero_or_pos l0.length with h0 | h0
        · exact List.length_eq_zero_iff.1 h0
        · obtain ⟨ad,e,_⟩:=HR.out.2.2 h0
          cases e
      have HZ:=amk hz
      clear hz hr0
      have hnil:=fun (w:World) (n c:Nat)=>Lib.run_eql_slice_nil (P:=Try.prog) w 28 44 none n c 0 0 Try.underlying28
      generalize l0.length=n at *
      go_enter Try.func63,Try.ntmps63
      go_wp2
      go_ret
      refine ⟨.slice none 0 0,rfl,?_,Below.refl _ _⟩
      rw [HZ.out]
      exact Kd.R_nil _ _ _ _ _
    | some ad =>
      clear hr0
      have hnil:=fun (w:World) (n c:Nat)=>Lib.run_eql_slice_nil (P:=Try.prog) w 28 44 (some ad) n c 0 0 Try.underlying28
      have hu:=Try.underlying28
      go_enter Try.func63,Try.ntmps63
      go_wp2_with (first | ((with_reducible refine gate_dst (N:=5) rfl ?_);refine Kd.R_lit k44 (w0:=w) w.heap.size 44 ?hg (N:=5) ?hd (xs:=([]:List S44)) (inner:=[]) (ok:=fun _=>True) (okp:=fun _=>True) ?hr ?hp (fun _ hk=>hk) trivial (Below.refl _ _) (Nat.le_refl _) (by simp) ?_;(case hd=>rfl);(case hg=>rfl);(case hr=>first | (go_simp;done) | (go_simp;rfl));(case hp=>exact (Reps.none _ _));intro v1 w1 ho hb hg_ hnew_;have HO:=amk ho;have HB:=amk hb;clear ho hb hg_ hnew_) | ((with_reducible refine gate_dst (N:=7) rfl ?_);refine Kd.R_append_rows k44 (w0:=w) w.heap.size (by rfl) (.tmp 5) (.tmp 6) 28 44 (.agg #[(.int .i64 0),(.int .i64 0),(.int .i64 0)]) 24 rfl Try.underlying28 HI.out rfl (by decide) (by omega) v1 ([]:List S44) l0 _ _ _ (fun _=>True) (fun _=>False) rfl rfl ?aO ?aR (fun _ _ h=>h) (fun _ h=>h.elim) ?aF ?aB ?aS ?aL ?_;(case aR=>exact (Kd.C_below HR.out HB.out));(case aB=>exact HB.out);(case aF=>exact (fun _ _=>trivial));(case aO=>exact HO.out);(case aS=>exact HB.out.size);(case aL=>have:=HL.out;simp only [List.length_nil];omega);intro v2 w2 ho2 hb2 hg2 hat2;have HO2:=amk ho2;have HB2:=amk hb2;clear ho2 hb2 hg2 hat2))
      go_ret
      exact ⟨v2,rfl,by have:=HO2.out;rwa [List.nil_append] at this,HB2.out⟩
  · rw [if_neg hl] at h
    cases h
theorem slices_Clone_impl_Clue_impl_Clue.is {l:List S44} (h:l.length < 5864062014805):slices_Clone_impl_Clue_impl_Clue.f l=some l:=by unfold slices_Clone_impl_Clue_impl_Clue.f;rw [if_pos h]
/-! Locks: which numbers are one, how many codes there are. -/
def lockB (w d:Int):Bool:=decide (1≤w) && decide (w≤6) && decide (2≤d) && decide (d≤10)
def smallB (w d m:Int):Bool:=lockB w d && decide (d ^ w.toNat≤m)
def clueB (w d k a b:Int):Bool:=
  if k=0 then decide (0≤a∧a≤w - 1) && decide (0≤b∧b≤d - 1)
  else if k=1 then decide (0≤a∧a≤60) && (b == 0)
  else if k=2 then decide (0≤a∧a≤d ^ w.toNat - 1) && decide (0≤b∧b≤w)
  else if k=3 then decide (0≤a∧a≤d ^ w.toNat - 1) && decide (0≤b∧b≤60)
  else if k=4 then decide (2≤a∧a≤9) && decide (0≤b∧b≤a - 1)
  else false
theorem lockB_iff {w d:Int} : lockB w d=true ↔ 1≤w∧w≤6∧2≤d∧d≤10:=by
  unfold lockB;simp only [Bool.and_eq_true,decide_eq_true_eq];constructor
  · rintro ⟨⟨⟨a,b⟩,c⟩,e⟩;exact ⟨a,b,c,e⟩
  · rintro ⟨a,b,c,e⟩;exact ⟨⟨⟨a,b⟩,c⟩,e⟩
theorem smallB_iff {w d m:Int} : smallB w d m=true ↔ (1≤w∧w≤6∧2≤d∧d≤10)∧d ^ w.toNat≤m:=by
  unfold smallB;rw [Bool.and_eq_true,lockB_iff,decide_eq_true_eq]
theorem smallB_lock {w d m:Int} (h:smallB w d m=true):lockB w d=true:=(Bool.and_eq_true_iff.mp h).1
theorem pow_one_le {d:Int} (h:1≤d) : ∀ n:Nat,1≤d ^ n
  | 0=>by simp
  | n + 1 => by
    have ih:=pow_one_le h n
    rw [Int.pow_succ]
    calc (1:Int)≤d ^ n:=ih
      _=d ^ n * 1:=by omega
      _≤d ^ n * d:=Int.mul_le_mul_of_nonneg_left h (by omega)
theorem pow_mono {d:Int} (h:1≤d) {m n:Nat} (hmn:m≤n):d ^ m≤d ^ n:=by
  obtain ⟨k,rfl⟩ : ∃ k,n=m + k:=⟨n - m,by omega⟩
  have h1:=pow_one_le h k
  have h2:=pow_one_le h m
  rw [Int.pow_add]
  calc d ^ m=d ^ m * 1:=by omega
    _≤d ^ m * d ^ k:=Int.mul_le_mul_of_nonneg_left h1 (by omega)
theorem pow_base {d e:Int} (h0:0≤d) (h:d≤e) : ∀ n:Nat,d ^ n≤e ^ n
  | 0=>by simp
  | n + 1 => by
    have ih:=pow_base h0 h n
    rw [Int.pow_succ,Int.pow_succ]
    have hn:0≤d ^ n:=Int.pow_nonneg h0
    have hn':0≤e ^ n:=Int.pow_nonneg (by omega)
    exact Int.mul_le_mul ih h h0 hn'
theorem pow_bound {d:Int} {n:Nat} (h1:1≤d) (h2:d≤10) (hn:n≤6):1≤d ^ n∧d ^ n≤1000000:=by
  refine ⟨pow_one_le h1 n,?_⟩
  have a:=pow_base (by omega) h2 n
  have b:(10:Int) ^ n≤10 ^ 6:=pow_mono (by omega) hn
  have c:(10:Int) ^ 6=1000000:=by decide
  omega
theorem count_bound {w d:Int} (h:lockB w d=true):1≤d ^ w.toNat∧d ^ w.toNat≤1000000:=by
  obtain ⟨a,b,c,e⟩:=lockB_iff.mp h
  exact pow_bound (by omega) e (by omega)
/-! Puzzles: which values are one. -/
def puzzleB (w d:Int) (l:List S44):Bool:=smallB w d 125 && decide (l.length≤6) && l.all (fun c=>clueB w d c.f0 c.f1 c.f2)
/-! ### impl_within: function 42 -/
def impl_within.f (a0:Int) (a1:Int) (a2:Int):Option (Bool):=if a1≤a0 then (some (decide (a0≤a2))) else (some false)
set_option maxHeartbeats 8000000 in
set_option maxRecDepth 100000 in
theorem impl_within.calls (a0:Int) (a1:Int) (a2:Int) (r:Bool) (w:World) (h:impl_within.f a0 a1 a2=some r) :
    Calls Try.prog 42 #[.int .i64 a0, .int .i64 a1, .int .i64 a2] w fun e w'=>e = .returned (.bool r)∧Drawn0 w w':=by
  unfold impl_within.f at h;have H:=h;clear h;replace H:=iteE H;obtain ⟨c4b0,H⟩ | ⟨c4b0,H⟩:=H
  · obtain rfl:=Option.some.inj H;go_enter Try.func42,Try.ntmps42;go_wp2;go_ret;exact ⟨rS_,dR_⟩
  · obtain rfl:=Option.some.inj H;go_enter Try.func42,Try.ntmps42;go_wp2;go_ret;exact ⟨rS_,dR_⟩
/-! ### impl_IsLock: function 53 -/
def impl_IsLock.f (a0_0:Int) (a0_1:Int):Option (Bool):=(impl_within.f a0_0 1 6).bind fun t104=>(if t104=true then ((impl_within.f a0_1 2 10).bind fun t105=>(some t105)) else (some false))
set_option maxHeartbeats 8000000 in
set_option maxRecDepth 100000 in
theorem impl_IsLock.calls (a0_0:Int) (a0_1:Int) (r:Bool) (w:World) (h:impl_IsLock.f a0_0 a0_1=some r) :
    Calls Try.prog 53 #[.agg #[.int .i64 a0_0, .int .i64 a0_1]] w fun e w'=>e = .returned (.bool r)∧Below w.heap.size w w':=by
  have hu25:=Try.underlying25;have HB:=amk (Below.refl w.heap.size w);unfold impl_IsLock.f at h;have H:=h;clear h;replace H:=bE H;obtain ⟨t104,A2,H⟩:=H;replace H:=iteB H;obtain ⟨rfl,H⟩ | ⟨rfl,H⟩:=H
  · replace H:=bE H;obtain ⟨t105,A4,H⟩:=H;obtain rfl:=Option.some.inj H;go_enter Try.func53,Try.ntmps53;go_wp2_with (first | ((with_reducible refine gate_dst (N:=1) rfl ?_);refine boxE_ HB 1 #[.int .i64 a0_0, .int .i64 a0_1] 25 ?_;clear HB;intro gb103 w5 HB BK103 GW103 GE103 hb;clear hb;obtain ⟨hcz6_0,hcz6_1,hfz6_0,hfz6_1⟩:=cells2 BK103.out) | (refine gc_ 42 5 Try.func42 #[.int .i64 a0_0, .int .i64 1, .int .i64 6] ?_;(with_reducible refine (impl_within.calls a0_0 1 6 true _ A2.out).mono ?_);rintro e w' ⟨rfl,⟨nd,rfl⟩⟩;refine ⟨_,rfl,?_⟩) | (go_at_call 42;(with_reducible refine (impl_within.calls a0_1 2 10 t105 _ A4.out).mono ?_);rintro e w' ⟨rfl,⟨nd,rfl⟩⟩));go_ret;exact ⟨rF_,bB⟩
  · obtain rfl:=Option.some.inj H;go_enter Try.func53,Try.ntmps53;go_wp2_with (first | ((with_reducible refine gate_dst (N:=1) rfl ?_);refine boxE_ HB 1 #[.int .i64 a0_0, .int .i64 a0_1] 25 ?_;clear HB;intro gb103 w7 HB BK103 GW103 GE103 hb;clear hb;obtain ⟨hcz8_0,hcz8_1,hfz8_0,hfz8_1⟩:=cells2 BK103.out) | (refine gc_ 42 5 Try.func42 #[.int .i64 a0_0, .int .i64 1, .int .i64 6] ?_;(with_reducible refine (impl_within.calls a0_0 1 6 false _ A2.out).mono ?_);rintro e w' ⟨rfl,⟨nd,rfl⟩⟩;refine ⟨_,rfl,?_⟩));go_ret;exact ⟨rF_,bB⟩
/-! ### impl_power: function 80 -/
def impl_power.l0:Nat→Int→Int→Int→Int→Option (Int)
  | 0,_,_,_,_=>none
  | k + 1,x0,x5,x6,x7=>if x7 < x6 then (impl_power.l0 k x0 (wrap64 (x5 * x0)) x6 (wrap64 (x7 + 1))) else (some x5)
def impl_power.f (k:Nat) (a0:Int) (a1:Int):Option (Int):=impl_power.l0 k a0 1 a1 0
set_option maxHeartbeats 8000000 in
set_option maxRecDepth 100000 in
theorem impl_power.calls (k:Nat) (a0:Int) (a1:Int) (r:Int) (w:World) (h:impl_power.f k a0 a1=some r) :
    Calls Try.prog 80 #[.int .i64 a0, .int .i64 a1] w fun e w'=>e = .returned (.int .i64 r)∧Drawn0 w w':=by
  unfold impl_power.f at h;have H:=h;clear h;have H':=amk H;clear H;go_enter Try.func80,Try.ntmps80;go_wp2
  go_loopg [5,7] k (fun kq v5 v7 w'=> ∃ (x5_1:Int) (x7_1:Int),v5 = .int .i64 x5_1∧v7 = .int .i64 x7_1∧Aside0 (impl_power.l0 kq a0 x5_1 a1 x7_1=some r)∧Aside0 (kq≤k)∧Drawn0 w w')
  case atStart=>exact ⟨(1),(0),rS_,rS_,H',⟨Nat.le_refl _⟩,dR_⟩
  case round =>
    clear H';(try clear p2);obtain ⟨x5_1,x7_1,rfl,rfl,HA,HK1,⟨m1,rfl⟩⟩:=hrel
    cases gk with
    | zero=>exact absurd HA.out (by simp [impl_power.l0])
    | succ k1 =>
      have H:=HA.out;clear HA;simp only [impl_power.l0] at H;replace H:=iteE H;obtain ⟨c3b0,H⟩ | ⟨c3b0,H⟩:=H
      · have H':=amk H;clear H;go_wp2;go_roundg k1
        case measure=>have:=HK1.out;omega
        case rel=>exact ⟨(wrap64 (x5_1 * a0)),(wrap64 (x7_1 + 1)),rS_,rS_,H',⟨by have:=HK1.out;omega⟩,dR_⟩
      · obtain rfl:=Option.some.inj H;go_wp2;go_ret;exact ⟨rS_,dR_⟩
/-! ### impl_Lock_count: function 44 -/
def impl_Lock_count.f (k:Nat) (a0_0:Int) (a0_1:Int):Option (Int):=(impl_power.f k a0_1 a0_0).bind fun t102=>(some t102)
set_option maxHeartbeats 8000000 in
set_option maxRecDepth 100000 in
theorem impl_Lock_count.calls (k:Nat) (a0_0:Int) (a0_1:Int) (r:Int) (w:World) (h:impl_Lock_count.f k a0_0 a0_1=some r) :
    Calls Try.prog 44 #[.agg #[.int .i64 a0_0, .int .i64 a0_1]] w fun e w'=>e = .returned (.int .i64 r)∧Below w.heap.size w w':=by
  have hu25:=Try.underlying25;have HB:=amk (Below.refl w.heap.size w);unfold impl_Lock_count.f at h;have H:=h;clear h;replace H:=bE H;obtain ⟨t102,A2,H⟩:=H;obtain rfl:=Option.some.inj H;go_enter Try.func44,Try.ntmps44;go_wp2_with (first | ((with_reducible refine gate_dst (N:=1) rfl ?_);refine boxE_ HB 1 #[.int .i64 a0_0, .int .i64 a0_1] 25 ?_;clear HB;intro gb101 w3 HB BK101 GW101 GE101 hb;clear hb;obtain ⟨hcz4_0,hcz4_1,hfz4_0,hfz4_1⟩:=cells2 BK101.out) | (refine gc_ 80 7 Try.func80 #[.int .i64 a0_1, .int .i64 a0_0] ?_;(with_reducible refine (impl_power.calls k a0_1 a0_0 t102 _ A2.out).mono ?_);rintro e w' ⟨rfl,⟨nd,rfl⟩⟩;refine ⟨_,rfl,?_⟩));go_ret;exact ⟨rF_,bB⟩
/-! ### impl_isSmall: function 78 -/
def impl_isSmall.f (k:Nat) (a0_0:Int) (a0_1:Int) (a1:Int):Option (Bool):=(impl_IsLock.f a0_0 a0_1).bind fun t107=>(if t107=true then ((impl_Lock_count.f k a0_0 a0_1).bind fun t108=>(some (decide (t108≤a1)))) else (some false))
set_option maxHeartbeats 8000000 in
set_option maxRecDepth 100000 in
theorem impl_isSmall.calls (k:Nat) (a0_0:Int) (a0_1:Int) (a1:Int) (r:Bool) (w:World) (h:impl_isSmall.f k a0_0 a0_1 a1=some r) :
    Calls Try.prog 78 #[.agg #[.int .i64 a0_0, .int .i64 a0_1], .int .i64 a1] w fun e w'=>e = .returned (.bool r)∧Below w.heap.size w w':=by
  have hu25:=Try.underlying25;have HB:=amk (Below.refl w.heap.size w);unfold impl_isSmall.f at h;have H:=h;clear h;replace H:=bE H;obtain ⟨t107,A3,H⟩:=H;replace H:=iteB H;obtain ⟨rfl,H⟩ | ⟨rfl,H⟩:=H
  · replace H:=bE H;obtain ⟨t108,A5,H⟩:=H;obtain rfl:=Option.some.inj H;go_enter Try.func78,Try.ntmps78;go_wp2_with (first | ((with_reducible refine gate_dst (N:=2) rfl ?_);refine boxE_ HB 2 #[.int .i64 a0_0, .int .i64 a0_1] 25 ?_;clear HB;intro gb106 w6 HB BK106 GW106 GE106 hb;clear hb;obtain ⟨hcz7_0,hcz7_1,hfz7_0,hfz7_1⟩:=cells2 BK106.out) | (refine gc_ 53 6 Try.func53 #[.agg #[.int .i64 a0_0, .int .i64 a0_1]] ?_;(with_reducible refine (impl_IsLock.calls a0_0 a0_1 true _ A3.out).mono ?_);rintro e w8 ⟨rfl,hb⟩;refine ⟨_,rfl,?_⟩;replace BK106:=kb2 BK106 hb;replace HB:=hB2 HB hb;(try clear hb);obtain ⟨hcz9_0,hcz9_1,hfz9_0,hfz9_1⟩:=cells2 BK106.out) | (go_at_call 44;(with_reducible refine (impl_Lock_count.calls k a0_0 a0_1 t108 _ A5.out).mono ?_);rintro e w10 ⟨rfl,hb⟩;replace BK106:=kb2 BK106 hb;replace HB:=hB2 HB hb;(try clear hb)));go_ret;exact ⟨rF_,bB⟩
  · obtain rfl:=Option.some.inj H;go_enter Try.func78,Try.ntmps78;go_wp2_with (first | ((with_reducible refine gate_dst (N:=2) rfl ?_);refine boxE_ HB 2 #[.int .i64 a0_0, .int .i64 a0_1] 25 ?_;clear HB;intro gb106 w11 HB BK106 GW106 GE106 hb;clear hb;obtain ⟨hcz12_0,hcz12_1,hfz12_0,hfz12_1⟩:=cells2 BK106.out) | (refine gc_ 53 6 Try.func53 #[.agg #[.int .i64 a0_0, .int .i64 a0_1]] ?_;(with_reducible refine (impl_IsLock.calls a0_0 a0_1 false _ A3.out).mono ?_);rintro e w13 ⟨rfl,hb⟩;refine ⟨_,rfl,?_⟩;replace BK106:=kb2 BK106 hb;replace HB:=hB2 HB hb;(try clear hb)));go_ret;exact ⟨rF_,bB⟩
/-! impl's functions on locks: what they come to. -/
theorem impl_within.is (a b c:Int):impl_within.f a b c=some (decide (b≤a∧a≤c)):=by
  unfold impl_within.f
  by_cases h:b≤a
  · rw [if_pos h];congr 1;simp [h]
  · rw [if_neg h];congr 1;simp [h]
theorem impl_IsLock.is (w d:Int):impl_IsLock.f w d=some (lockB w d):=by
  unfold impl_IsLock.f lockB
  simp only [impl_within.is,Option.bind_some]
  by_cases h:1≤w∧w≤6 <;> simp [h]
theorem impl_power.lev (d:Int) (h1:1≤d) (h2:d≤10) (n:Int) (hn:n≤6) : ∀ (j:Nat) (i:Int),0≤i→i≤n→n - i=j→Ev (fun k=>impl_power.l0 k d (d ^ i.toNat) n i) (d ^ n.toNat):=by
  intro j
  induction j with
  | zero =>
    intro i h0 hi hj
    obtain rfl:i=n:=by omega
    exact Ev.step (fun k=>rfl) (Ev.no (by omega) (Ev.now _))
  | succ j ih =>
    intro i h0 hi hj
    refine Ev.step (fun k=>rfl) (Ev.yes (by omega) ?_)
    have hb:=pow_bound h1 h2 (n:=i.toNat) (by omega)
    have hm:d ^ i.toNat * d=d ^ (i + 1).toNat:=by rw [show (i + 1).toNat=i.toNat + 1 by omega,Int.pow_succ]
    have hb':=pow_bound h1 h2 (n:=(i + 1).toNat) (by omega)
    rw [w64 (x:=i + 1) (by omega) (by omega),hm,w64 (x:=d ^ (i + 1).toNat) (by omega) (by omega)]
    exact ih (i + 1) (by omega) (by omega) (by omega)
theorem impl_power.ev {d n:Int} (h1:1≤d) (h2:d≤10) (h0:0≤n) (hn:n≤6):Ev (fun k=>impl_power.f k d n) (d ^ n.toNat):=by
  have:=impl_power.lev d h1 h2 n hn n.toNat 0 (by omega) (by omega) (by omega)
  unfold impl_power.f
  simpa using this
theorem impl_Lock_count.ev {w d:Int} (h:lockB w d=true):Ev (fun k=>impl_Lock_count.f k w d) (d ^ w.toNat):=by
  obtain ⟨a,b,c,e⟩:=lockB_iff.mp h
  unfold impl_Lock_count.f
  exact Ev.bind (impl_power.ev (by omega) e (by omega) b) (Ev.now _)
theorem impl_isSmall.ev (w d m:Int):Ev (fun k=>impl_isSmall.f k w d m) (smallB w d m):=by
  unfold impl_isSmall.f smallB
  refine Ev.bindc (impl_IsLock.is w d) ?_
  cases h:lockB w d with
  | true=>exact Ev.yes rfl (Ev.bind (impl_Lock_count.ev h) (Ev.id (by simp)))
  | false=>exact Ev.no (by simp) (Ev.id (by simp))
/-! ### impl_isHidden: function 40 -/
def impl_isHidden.f (k:Nat) (a0_0:Int) (a0_1:Int):Option (Bool):=(impl_isSmall.f k a0_0 a0_1 125).bind fun t110=>(some t110)
set_option maxHeartbeats 8000000 in
set_option maxRecDepth 100000 in
theorem impl_isHidden.calls (k:Nat) (a0_0:Int) (a0_1:Int) (r:Bool) (w:World) (h:impl_isHidden.f k a0_0 a0_1=some r) :
    Calls Try.prog 40 #[.agg #[.int .i64 a0_0, .int .i64 a0_1]] w fun e w'=>e = .returned (.bool r)∧Below w.heap.size w w':=by
  have hu25:=Try.underlying25;have HB:=amk (Below.refl w.heap.size w);unfold impl_isHidden.f at h;have H:=h;clear h;replace H:=bE H;obtain ⟨t110,A2,H⟩:=H;obtain rfl:=Option.some.inj H;go_enter Try.func40,Try.ntmps40;go_wp2_with (first | ((with_reducible refine gate_dst (N:=1) rfl ?_);refine boxE_ HB 1 #[.int .i64 a0_0, .int .i64 a0_1] 25 ?_;clear HB;intro gb109 w3 HB BK109 GW109 GE109 hb;clear hb;obtain ⟨hcz4_0,hcz4_1,hfz4_0,hfz4_1⟩:=cells2 BK109.out) | (refine gc_ 78 4 Try.func78 #[.agg #[.int .i64 a0_0, .int .i64 a0_1], .int .i64 125] ?_;(with_reducible refine (impl_isSmall.calls k a0_0 a0_1 125 t110 _ A2.out).mono ?_);rintro e w5 ⟨rfl,hb⟩;refine ⟨_,rfl,?_⟩;replace BK109:=kb2 BK109 hb;replace HB:=hB2 HB hb;(try clear hb)));go_ret;exact ⟨rF_,bB⟩
/-! ### impl_IsClue: function 32 -/
def impl_IsClue.f (k:Nat) (a0_0:Int) (a0_1:Int) (a1_0:Int) (a1_1:Int) (a1_2:Int):Option (Bool):=(impl_isHidden.f k a0_0 a0_1).bind fun t272=>(if t272=true then (if a1_0=0 then ((impl_within.f a1_1 0 (wrap64 (a0_0 - 1))).bind fun t273=>(if t273=true then ((impl_within.f a1_2 0 (wrap64 (a0_1 - 1))).bind fun t274=>(some t274)) else (some false))) else (if a1_0=1 then ((impl_within.f a1_1 0 60).bind fun t275=>(if t275=true then (some (a1_2 == 0)) else (some false))) else (if a1_0=2 then ((impl_Lock_count.f k a0_0 a0_1).bind fun t276=>((impl_within.f a1_1 0 (wrap64 (t276 - 1))).bind fun t277=>(if t277=true then ((impl_within.f a1_2 0 a0_0).bind fun t278=>(some t278)) else (some false)))) else (if a1_0=3 then ((impl_Lock_count.f k a0_0 a0_1).bind fun t279=>((impl_within.f a1_1 0 (wrap64 (t279 - 1))).bind fun t280=>(if t280=true then ((impl_within.f a1_2 0 60).bind fun t281=>(some t281)) else (some false)))) else (if a1_0=4 then ((impl_within.f a1_1 2 9).bind fun t282=>(if t282=true then ((impl_within.f a1_2 0 (wrap64 (a1_1 - 1))).bind fun t283=>(some t283)) else (some false))) else (some false)))))) else (some false))
def impl_IsClue.T9:Bool×List (List Nat×List Nat):=(true,[([],[]),([0],[0]),([],[]),([2],[2]),([3],[3]),([1,4,3],[1,4]),([5,5],[5]),([6],[6]),([7,6],[6,7]),([6],[6]),([9,6],[6,9]),([8,10,6,6],[6,8,10]),([6,11],[6,11]),([12,11,0,1,2,3,4,5,6,7,8,9,10,11,12],[12])])
def impl_IsClue.B9:List Nat:=[0,1,0,4,12,31,63,127,255,127,639,2047,4095,8191]
theorem impl_IsClue.tab9:rtab .any (opsOf Try.f32 9)=impl_IsClue.T9:=by kernel_rfl
theorem impl_IsClue.bits9:waitsOk impl_IsClue.T9.2 impl_IsClue.B9=true:=by kernel_rfl
def impl_IsClue.T11:Bool×List (List Nat×List Nat):=(true,[([],[]),([0],[0]),([],[]),([2],[2]),([3],[3]),([1,4,3],[1,4]),([5,5],[5]),([6],[6]),([7,6],[6,7]),([8,6,6],[6,8]),([6,9],[6,9]),([10,9,0,1,2,3,4,5,6,7,8,9,10],[10])])
def impl_IsClue.B11:List Nat:=[0,1,0,4,12,31,63,127,255,511,1023,2047]
theorem impl_IsClue.tab11:rtab .any (opsOf Try.f32 11)=impl_IsClue.T11:=by kernel_rfl
theorem impl_IsClue.bits11:waitsOk impl_IsClue.T11.2 impl_IsClue.B11=true:=by kernel_rfl
set_option maxHeartbeats 8000000 in
set_option maxRecDepth 100000 in
theorem impl_IsClue.calls (k:Nat) (a0_0:Int) (a0_1:Int) (a1_0:Int) (a1_1:Int) (a1_2:Int) (r:Bool) (w:World) (h:impl_IsClue.f k a0_0 a0_1 a1_0 a1_1 a1_2=some r) :
    Calls Try.prog 32 #[.agg #[.int .i64 a0_0, .int .i64 a0_1], .agg #[.int .i64 a1_0, .int .i64 a1_1, .int .i64 a1_2]] w fun e w'=>e = .returned (.bool r)∧Below w.heap.size w w':=by
  have hu25:=Try.underlying25;have hu44:=Try.underlying44;have HB:=amk (Below.refl w.heap.size w);unfold impl_IsClue.f at h;have H:=h;clear h;replace H:=bE H;obtain ⟨t272,A3,H⟩:=H;replace H:=iteB H;obtain ⟨rfl,H⟩ | ⟨rfl,H⟩:=H
  · by_cases c5:a1_0=0
    · rw [if_pos c5] at H;have c5b0:(a1_0 == 0)=true:=beq_iff_eq.mpr c5;have c5b1:(a1_0 != 0)=false:=bne_eq_false_iff_eq.mpr c5;clear c5;replace H:=bE H;obtain ⟨t273,A6,H⟩:=H;replace H:=iteB H;obtain ⟨rfl,H⟩ | ⟨rfl,H⟩:=H
      · replace H:=bE H;obtain ⟨t274,A8,H⟩:=H;obtain rfl:=Option.some.inj H;go_enter Try.func32,Try.ntmps32;go_wp2_with (first | ((with_reducible refine gate_dst (N:=2) rfl ?_);refine boxE_ HB 2 #[.int .i64 a0_0, .int .i64 a0_1] 25 ?_;clear HB;intro gb270 w9 HB BK270 GW270 GE270 hb;clear hb) | ((with_reducible refine gate_dst (N:=3) rfl ?_);refine boxG_ 3 #[.int .i64 a1_0, .int .i64 a1_1, .int .i64 a1_2] 44 ?_;intro gb271 w10 hg BK271 hb;have GW271:=sZ HB hg;have GE271:=sZ HB hg;replace HB:=hB2 HB hb;have NB270_271:=neL BK270 hg;have NB271_270:=neR BK270 hg;replace BK270:=kb2 BK270 hb;clear hb hg;have hnb11:=NB270_271.out;have hnc11:=NB271_270.out;obtain ⟨hcz12_0,hcz12_1,hfz12_0,hfz12_1⟩:=cells2 BK270.out) | (refine gc_ 40 6 Try.func40 #[.agg #[.int .i64 a0_0, .int .i64 a0_1]] ?_;(with_reducible refine (impl_isHidden.calls k a0_0 a0_1 true _ A3.out).mono ?_);rintro e w13 ⟨rfl,hb⟩;refine ⟨_,rfl,?_⟩;replace BK270:=kb2 BK270 hb;replace BK271:=kb2 BK271 hb;replace HB:=hB2 HB hb;(try clear hb);obtain ⟨hcz14_0,hcz14_1,hcz14_2,hfz14_0,hfz14_1,hfz14_2⟩:=cells3 BK271.out;obtain ⟨hcz15_0,hcz15_1,hfz15_0,hfz15_1⟩:=cells2 BK270.out) | (refine gc_ 42 17 Try.func42 #[.int .i64 a1_1, .int .i64 0, .int .i64 (wrap64 (a0_0 - 1))] ?_;(with_reducible refine (impl_within.calls a1_1 0 (wrap64 (a0_0 - 1)) true _ A6.out).mono ?_);rintro e w' ⟨rfl,⟨nd,rfl⟩⟩;refine ⟨_,rfl,?_⟩) | (go_at_call 42;(with_reducible refine (impl_within.calls a1_2 0 (wrap64 (a0_1 - 1)) t274 _ A8.out).mono ?_);rintro e w' ⟨rfl,⟨nd,rfl⟩⟩));go_ret;exact ⟨rF_,bB⟩
      · obtain rfl:=Option.some.inj H;go_enter Try.func32,Try.ntmps32;go_wp2_with (first | ((with_reducible refine gate_dst (N:=2) rfl ?_);refine boxE_ HB 2 #[.int .i64 a0_0, .int .i64 a0_1] 25 ?_;clear HB;intro gb270 w16 HB BK270 GW270 GE270 hb;clear hb) | ((with_reducible refine gate_dst (N:=3) rfl ?_);refine boxG_ 3 #[.int .i64 a1_0, .int .i64 a1_1, .int .i64 a1_2] 44 ?_;intro gb271 w17 hg BK271 hb;have GW271:=sZ HB hg;have GE271:=sZ HB hg;replace HB:=hB2 HB hb;have NB270_271:=neL BK270 hg;have NB271_270:=neR BK270 hg;replace BK270:=kb2 BK270 hb;clear hb hg;have hnb18:=NB270_271.out;have hnc18:=NB271_270.out;obtain ⟨hcz19_0,hcz19_1,hfz19_0,hfz19_1⟩:=cells2 BK270.out) | (refine gc_ 40 6 Try.func40 #[.agg #[.int .i64 a0_0, .int .i64 a0_1]] ?_;(with_reducible refine (impl_isHidden.calls k a0_0 a0_1 true _ A3.out).mono ?_);rintro e w20 ⟨rfl,hb⟩;refine ⟨_,rfl,?_⟩;replace BK270:=kb2 BK270 hb;replace BK271:=kb2 BK271 hb;replace HB:=hB2 HB hb;(try clear hb);obtain ⟨hcz21_0,hcz21_1,hcz21_2,hfz21_0,hfz21_1,hfz21_2⟩:=cells3 BK271.out;obtain ⟨hcz22_0,hcz22_1,hfz22_0,hfz22_1⟩:=cells2 BK270.out) | (refine gc_ 42 17 Try.func42 #[.int .i64 a1_1, .int .i64 0, .int .i64 (wrap64 (a0_0 - 1))] ?_;(with_reducible refine (impl_within.calls a1_1 0 (wrap64 (a0_0 - 1)) false _ A6.out).mono ?_);rintro e w' ⟨rfl,⟨nd,rfl⟩⟩;refine ⟨_,rfl,?_⟩));go_ret;exact ⟨rF_,bB⟩
    · rw [if_neg c5] at H;have c5b0:(a1_0 == 0)=false:=beq_eq_false_iff_ne.mpr c5;have c5b1:(a1_0 != 0)=true:=bne_iff_ne.mpr c5
      by_cases c23:a1_0=1
      · rw [if_pos c23] at H;have c23b0:(a1_0 == 1)=true:=beq_iff_eq.mpr c23;have c23b1:(a1_0 != 1)=false:=bne_eq_false_iff_eq.mpr c23;clear c23;replace H:=bE H;obtain ⟨t275,A24,H⟩:=H;replace H:=iteB H;obtain ⟨rfl,H⟩ | ⟨rfl,H⟩:=H
        · obtain rfl:=Option.some.inj H;go_enter Try.func32,Try.ntmps32;go_wp2_with (first | ((with_reducible refine gate_dst (N:=2) rfl ?_);refine boxE_ HB 2 #[.int .i64 a0_0, .int .i64 a0_1] 25 ?_;clear HB;intro gb270 w26 HB BK270 GW270 GE270 hb;clear hb) | ((with_reducible refine gate_dst (N:=3) rfl ?_);refine boxG_ 3 #[.int .i64 a1_0, .int .i64 a1_1, .int .i64 a1_2] 44 ?_;intro gb271 w27 hg BK271 hb;have GW271:=sZ HB hg;have GE271:=sZ HB hg;replace HB:=hB2 HB hb;have NB270_271:=neL BK270 hg;have NB271_270:=neR BK270 hg;replace BK270:=kb2 BK270 hb;clear hb hg;have hnb28:=NB270_271.out;have hnc28:=NB271_270.out;obtain ⟨hcz29_0,hcz29_1,hfz29_0,hfz29_1⟩:=cells2 BK270.out) | (refine gc_ 40 6 Try.func40 #[.agg #[.int .i64 a0_0, .int .i64 a0_1]] ?_;(with_reducible refine (impl_isHidden.calls k a0_0 a0_1 true _ A3.out).mono ?_);rintro e w30 ⟨rfl,hb⟩;refine ⟨_,rfl,?_⟩;replace BK270:=kb2 BK270 hb;replace BK271:=kb2 BK271 hb;replace HB:=hB2 HB hb;(try clear hb);obtain ⟨hcz31_0,hcz31_1,hcz31_2,hfz31_0,hfz31_1,hfz31_2⟩:=cells3 BK271.out) | (refine gc_ 42 30 Try.func42 #[.int .i64 a1_1, .int .i64 0, .int .i64 60] ?_;(with_reducible refine (impl_within.calls a1_1 0 60 true _ A24.out).mono ?_);rintro e w' ⟨rfl,⟨nd,rfl⟩⟩;refine ⟨_,rfl,?_⟩));go_ret;exact ⟨rF_,bB⟩
        · obtain rfl:=Option.some.inj H;go_enter Try.func32,Try.ntmps32;go_wp2_with (first | ((with_reducible refine gate_dst (N:=2) rfl ?_);refine boxE_ HB 2 #[.int .i64 a0_0, .int .i64 a0_1] 25 ?_;clear HB;intro gb270 w32 HB BK270 GW270 GE270 hb;clear hb) | ((with_reducible refine gate_dst (N:=3) rfl ?_);refine boxG_ 3 #[.int .i64 a1_0, .int .i64 a1_1, .int .i64 a1_2] 44 ?_;intro gb271 w33 hg BK271 hb;have GW271:=sZ HB hg;have GE271:=sZ HB hg;replace HB:=hB2 HB hb;have NB270_271:=neL BK270 hg;have NB271_270:=neR BK270 hg;replace BK270:=kb2 BK270 hb;clear hb hg;have hnb34:=NB270_271.out;have hnc34:=NB271_270.out;obtain ⟨hcz35_0,hcz35_1,hfz35_0,hfz35_1⟩:=cells2 BK270.out) | (refine gc_ 40 6 Try.func40 #[.agg #[.int .i64 a0_0, .int .i64 a0_1]] ?_;(with_reducible refine (impl_isHidden.calls k a0_0 a0_1 true _ A3.out).mono ?_);rintro e w36 ⟨rfl,hb⟩;refine ⟨_,rfl,?_⟩;replace BK270:=kb2 BK270 hb;replace BK271:=kb2 BK271 hb;replace HB:=hB2 HB hb;(try clear hb);obtain ⟨hcz37_0,hcz37_1,hcz37_2,hfz37_0,hfz37_1,hfz37_2⟩:=cells3 BK271.out) | (refine gc_ 42 30 Try.func42 #[.int .i64 a1_1, .int .i64 0, .int .i64 60] ?_;(with_reducible refine (impl_within.calls a1_1 0 60 false _ A24.out).mono ?_);rintro e w' ⟨rfl,⟨nd,rfl⟩⟩;refine ⟨_,rfl,?_⟩));go_ret;exact ⟨rF_,bB⟩
      · rw [if_neg c23] at H;have c23b0:(a1_0 == 1)=false:=beq_eq_false_iff_ne.mpr c23;have c23b1:(a1_0 != 1)=true:=bne_iff_ne.mpr c23
        by_cases c38:a1_0=2
        · rw [if_pos c38] at H;have c38b0:(a1_0 == 2)=true:=beq_iff_eq.mpr c38;have c38b1:(a1_0 != 2)=false:=bne_eq_false_iff_eq.mpr c38;clear c38;replace H:=bE H;obtain ⟨t276,A39,H⟩:=H;replace H:=bE H;obtain ⟨t277,A40,H⟩:=H;replace H:=iteB H;obtain ⟨rfl,H⟩ | ⟨rfl,H⟩:=H
          · replace H:=bE H;obtain ⟨t278,A42,H⟩:=H;obtain rfl:=Option.some.inj H;go_enter Try.func32,Try.ntmps32;(try go_wp2_with (first | ((with_reducible refine gate_dst (N:=2) rfl ?_);refine boxE_ HB 2 #[.int .i64 a0_0, .int .i64 a0_1] 25 ?_;clear HB;intro gb270 w43 HB BK270 GW270 GE270 hb;clear hb) | ((with_reducible refine gate_dst (N:=3) rfl ?_);refine boxG_ 3 #[.int .i64 a1_0, .int .i64 a1_1, .int .i64 a1_2] 44 ?_;intro gb271 w44 hg BK271 hb;have GW271:=sZ HB hg;have GE271:=sZ HB hg;replace HB:=hB2 HB hb;have NB270_271:=neL BK270 hg;have NB271_270:=neR BK270 hg;replace BK270:=kb2 BK270 hb;clear hb hg;have hnb45:=NB270_271.out;have hnc45:=NB271_270.out;obtain ⟨hcz46_0,hcz46_1,hfz46_0,hfz46_1⟩:=cells2 BK270.out) | (refine gc_ 40 6 Try.func40 #[.agg #[.int .i64 a0_0, .int .i64 a0_1]] ?_;(with_reducible refine (impl_isHidden.calls k a0_0 a0_1 true _ A3.out).mono ?_);rintro e w47 ⟨rfl,hb⟩;refine ⟨_,rfl,?_⟩;replace BK270:=kb2 BK270 hb;replace BK271:=kb2 BK271 hb;replace HB:=hB2 HB hb;(try clear hb);obtain ⟨hcz48_0,hcz48_1,hcz48_2,hfz48_0,hfz48_1,hfz48_2⟩:=cells3 BK271.out)));replace BK270:=amk (blk_drew BK270.out);replace BK271:=amk (blk_drew BK271.out);replace HB:=amk (bd_ HB.out);refine start_ (n:=14) (S:=fun w'=>w'.cell? ⟨gb271,0,none⟩=some (.int .i64 a1_0)∧w'.cell? ⟨gb271,1,none⟩=some (.int .i64 a1_1)∧w'.cell? ⟨gb271,2,none⟩=some (.int .i64 a1_2)∧w'.cell? ⟨gb270,0,none⟩=some (.int .i64 a0_0)∧w'.cell? ⟨gb270,1,none⟩=some (.int .i64 a0_1)) (ds:=[]) (bA 14 0) (by kernel_rfl) rfl rfl ⟨(blk_cell BK271.out 0).trans rfl,(blk_cell BK271.out 1).trans rfl,(blk_cell BK271.out 2).trans rfl,(blk_cell BK270.out 0).trans rfl,(blk_cell BK270.out 1).trans rfl⟩ (fun hHeld=>?_);refine with_tabW impl_IsClue.tab9 impl_IsClue.bits9 (fun HT_ HW_=>?_);generalize w47.drew=w49 at BK270 BK271 HB hHeld ⊢;refine pU_ HT_ 0 (some 38) (bA 14 1) ?_;refine tK_ HT_ HW_ hHeld 1 (some 39) (bA 14 3) ?_;refine tK_ HT_ HW_ hHeld 2 (some 40) (bA 14 7) ?_;refine oN_ HT_ 3 (some 41) (bA 14 15) (fun K hK=>?_);refine gs_ Try.func44 #[.agg #[.int .i64 a0_0, .int .i64 a0_1]] ?_;(with_reducible refine (impl_Lock_count.calls k a0_0 a0_1 t276 _ A39.out).mono ?_);rintro e w50 ⟨rfl,hb⟩;refine ⟨_,rfl,?_⟩;replace BK270:=kb2 BK270 hb;replace BK271:=kb2 BK271 hb;replace HB:=hB2 HB hb;(try clear hb);refine hK.out _ _ hC_ (fun hHeld=>?_);clear hK K;refine nN_ (some 41) ?_;refine pU_ HT_ 4 (some 42) (bA 14 31) ?_;refine oN_ HT_ 5 (some 43) (bA 14 63) (fun K hK=>?_);refine gs_ Try.func42 #[.int .i64 a1_1, .int .i64 0, .int .i64 (wrap64 (t276 - 1))] ?_;(with_reducible refine (impl_within.calls a1_1 0 (wrap64 (t276 - 1)) true _ A40.out).mono ?_);rintro e w' ⟨rfl,⟨nd,rfl⟩⟩;refine ⟨_,rfl,?_⟩;refine hK.out _ _ hC_ (fun hHeld=>?_);clear hK K;refine nN_ (some 43) ?_;refine pU_ HT_ 6 (some 44) (bA 14 127) ?_;refine pU_ HT_ 7 (some 45) (bA 14 255) ?_;refine pU_ HT_ 9 (some 47) (bA 14 767) ?_;refine tK_ HT_ HW_ hHeld 8 (some 46) (bA 14 1023) ?_;refine tK_ HT_ HW_ hHeld 10 (some 48) (bA 14 2047) ?_;refine oN_ HT_ 11 (some 49) (bA 14 4095) (fun K hK=>?_);refine gs_ Try.func42 #[.int .i64 a1_2, .int .i64 0, .int .i64 a0_0] ?_;(with_reducible refine (impl_within.calls a1_2 0 a0_0 t278 _ A42.out).mono ?_);rintro e w' ⟨rfl,⟨nd,rfl⟩⟩;refine ⟨_,rfl,?_⟩;refine hK.out _ _ hC_ (fun hHeld=>?_);clear hK K;refine nN_ (some 49) ?_;refine pU_ HT_ 12 (some 50) (bA 14 8191) ?_;refine pU_ HT_ 13 (some 4) (bA 14 16383) ?_;refine done_ (done_of HT_.out (by kernel_rfl)) ?_;(try go_wp2);go_ret;exact ⟨rF_,bB⟩
          · obtain rfl:=Option.some.inj H;go_enter Try.func32,Try.ntmps32;(try go_wp2_with (first | ((with_reducible refine gate_dst (N:=2) rfl ?_);refine boxE_ HB 2 #[.int .i64 a0_0, .int .i64 a0_1] 25 ?_;clear HB;intro gb270 w51 HB BK270 GW270 GE270 hb;clear hb) | ((with_reducible refine gate_dst (N:=3) rfl ?_);refine boxG_ 3 #[.int .i64 a1_0, .int .i64 a1_1, .int .i64 a1_2] 44 ?_;intro gb271 w52 hg BK271 hb;have GW271:=sZ HB hg;have GE271:=sZ HB hg;replace HB:=hB2 HB hb;have NB270_271:=neL BK270 hg;have NB271_270:=neR BK270 hg;replace BK270:=kb2 BK270 hb;clear hb hg;have hnb53:=NB270_271.out;have hnc53:=NB271_270.out;obtain ⟨hcz54_0,hcz54_1,hfz54_0,hfz54_1⟩:=cells2 BK270.out) | (refine gc_ 40 6 Try.func40 #[.agg #[.int .i64 a0_0, .int .i64 a0_1]] ?_;(with_reducible refine (impl_isHidden.calls k a0_0 a0_1 true _ A3.out).mono ?_);rintro e w55 ⟨rfl,hb⟩;refine ⟨_,rfl,?_⟩;replace BK270:=kb2 BK270 hb;replace BK271:=kb2 BK271 hb;replace HB:=hB2 HB hb;(try clear hb);obtain ⟨hcz56_0,hcz56_1,hcz56_2,hfz56_0,hfz56_1,hfz56_2⟩:=cells3 BK271.out)));replace BK270:=amk (blk_drew BK270.out);replace BK271:=amk (blk_drew BK271.out);replace HB:=amk (bd_ HB.out);refine start_ (n:=14) (S:=fun w'=>w'.cell? ⟨gb271,0,none⟩=some (.int .i64 a1_0)∧w'.cell? ⟨gb271,1,none⟩=some (.int .i64 a1_1)∧w'.cell? ⟨gb271,2,none⟩=some (.int .i64 a1_2)∧w'.cell? ⟨gb270,0,none⟩=some (.int .i64 a0_0)∧w'.cell? ⟨gb270,1,none⟩=some (.int .i64 a0_1)) (ds:=[]) (bA 14 0) (by kernel_rfl) rfl rfl ⟨(blk_cell BK271.out 0).trans rfl,(blk_cell BK271.out 1).trans rfl,(blk_cell BK271.out 2).trans rfl,(blk_cell BK270.out 0).trans rfl,(blk_cell BK270.out 1).trans rfl⟩ (fun hHeld=>?_);refine with_tabW impl_IsClue.tab9 impl_IsClue.bits9 (fun HT_ HW_=>?_);generalize w55.drew=w57 at BK270 BK271 HB hHeld ⊢;refine pU_ HT_ 0 (some 38) (bA 14 1) ?_;refine tK_ HT_ HW_ hHeld 1 (some 39) (bA 14 3) ?_;refine tK_ HT_ HW_ hHeld 2 (some 40) (bA 14 7) ?_;refine oN_ HT_ 3 (some 41) (bA 14 15) (fun K hK=>?_);refine gs_ Try.func44 #[.agg #[.int .i64 a0_0, .int .i64 a0_1]] ?_;(with_reducible refine (impl_Lock_count.calls k a0_0 a0_1 t276 _ A39.out).mono ?_);rintro e w58 ⟨rfl,hb⟩;refine ⟨_,rfl,?_⟩;replace BK270:=kb2 BK270 hb;replace BK271:=kb2 BK271 hb;replace HB:=hB2 HB hb;(try clear hb);refine hK.out _ _ hC_ (fun hHeld=>?_);clear hK K;refine nN_ (some 41) ?_;refine pU_ HT_ 4 (some 42) (bA 14 31) ?_;refine oN_ HT_ 5 (some 43) (bA 14 63) (fun K hK=>?_);refine gs_ Try.func42 #[.int .i64 a1_1, .int .i64 0, .int .i64 (wrap64 (t276 - 1))] ?_;(with_reducible refine (impl_within.calls a1_1 0 (wrap64 (t276 - 1)) false _ A40.out).mono ?_);rintro e w' ⟨rfl,⟨nd,rfl⟩⟩;refine ⟨_,rfl,?_⟩;refine hK.out _ _ hC_ (fun hHeld=>?_);clear hK K;refine nN_ (some 43) ?_;refine pU_ HT_ 6 (some 44) (bA 14 127) ?_;refine pZ_ HT_ 7 (some 45) (bA 14 255) ?_;refine pZ_ HT_ 8 (some 46) (bA 14 511) ?_;refine pZ_ HT_ 9 (some 47) (bA 14 1023) ?_;refine pZ_ HT_ 10 (some 48) (bA 14 2047) ?_;refine pZ_ HT_ 11 (some 49) (bA 14 4095) ?_;refine pU_ HT_ 12 (some 50) (bA 14 8191) ?_;refine pU_ HT_ 13 (some 4) (bA 14 16383) ?_;refine done_ (done_of HT_.out (by kernel_rfl)) ?_;(try go_wp2);go_ret;exact ⟨rF_,bB⟩
        · rw [if_neg c38] at H;have c38b0:(a1_0 == 2)=false:=beq_eq_false_iff_ne.mpr c38;have c38b1:(a1_0 != 2)=true:=bne_iff_ne.mpr c38
          by_cases c59:a1_0=3
          · rw [if_pos c59] at H;have c59b0:(a1_0 == 3)=true:=beq_iff_eq.mpr c59;have c59b1:(a1_0 != 3)=false:=bne_eq_false_iff_eq.mpr c59;clear c59;replace H:=bE H;obtain ⟨t279,A60,H⟩:=H;replace H:=bE H;obtain ⟨t280,A61,H⟩:=H;replace H:=iteB H;obtain ⟨rfl,H⟩ | ⟨rfl,H⟩:=H
            · replace H:=bE H;obtain ⟨t281,A63,H⟩:=H;obtain rfl:=Option.some.inj H;go_enter Try.func32,Try.ntmps32;(try go_wp2_with (first | ((with_reducible refine gate_dst (N:=2) rfl ?_);refine boxE_ HB 2 #[.int .i64 a0_0, .int .i64 a0_1] 25 ?_;clear HB;intro gb270 w64 HB BK270 GW270 GE270 hb;clear hb) | ((with_reducible refine gate_dst (N:=3) rfl ?_);refine boxG_ 3 #[.int .i64 a1_0, .int .i64 a1_1, .int .i64 a1_2] 44 ?_;intro gb271 w65 hg BK271 hb;have GW271:=sZ HB hg;have GE271:=sZ HB hg;replace HB:=hB2 HB hb;have NB270_271:=neL BK270 hg;have NB271_270:=neR BK270 hg;replace BK270:=kb2 BK270 hb;clear hb hg;have hnb66:=NB270_271.out;have hnc66:=NB271_270.out;obtain ⟨hcz67_0,hcz67_1,hfz67_0,hfz67_1⟩:=cells2 BK270.out) | (refine gc_ 40 6 Try.func40 #[.agg #[.int .i64 a0_0, .int .i64 a0_1]] ?_;(with_reducible refine (impl_isHidden.calls k a0_0 a0_1 true _ A3.out).mono ?_);rintro e w68 ⟨rfl,hb⟩;refine ⟨_,rfl,?_⟩;replace BK270:=kb2 BK270 hb;replace BK271:=kb2 BK271 hb;replace HB:=hB2 HB hb;(try clear hb);obtain ⟨hcz69_0,hcz69_1,hcz69_2,hfz69_0,hfz69_1,hfz69_2⟩:=cells3 BK271.out)));replace BK270:=amk (blk_drew BK270.out);replace BK271:=amk (blk_drew BK271.out);replace HB:=amk (bd_ HB.out);refine start_ (n:=12) (S:=fun w'=>w'.cell? ⟨gb271,0,none⟩=some (.int .i64 a1_0)∧w'.cell? ⟨gb271,1,none⟩=some (.int .i64 a1_1)∧w'.cell? ⟨gb271,2,none⟩=some (.int .i64 a1_2)∧w'.cell? ⟨gb270,0,none⟩=some (.int .i64 a0_0)∧w'.cell? ⟨gb270,1,none⟩=some (.int .i64 a0_1)) (ds:=[]) (bA 12 0) (by kernel_rfl) rfl rfl ⟨(blk_cell BK271.out 0).trans rfl,(blk_cell BK271.out 1).trans rfl,(blk_cell BK271.out 2).trans rfl,(blk_cell BK270.out 0).trans rfl,(blk_cell BK270.out 1).trans rfl⟩ (fun hHeld=>?_);refine with_tabW impl_IsClue.tab11 impl_IsClue.bits11 (fun HT_ HW_=>?_);generalize w68.drew=w70 at BK270 BK271 HB hHeld ⊢;refine pU_ HT_ 0 (some 53) (bA 12 1) ?_;refine tK_ HT_ HW_ hHeld 1 (some 54) (bA 12 3) ?_;refine tK_ HT_ HW_ hHeld 2 (some 55) (bA 12 7) ?_;refine oN_ HT_ 3 (some 56) (bA 12 15) (fun K hK=>?_);refine gs_ Try.func44 #[.agg #[.int .i64 a0_0, .int .i64 a0_1]] ?_;(with_reducible refine (impl_Lock_count.calls k a0_0 a0_1 t279 _ A60.out).mono ?_);rintro e w71 ⟨rfl,hb⟩;refine ⟨_,rfl,?_⟩;replace BK270:=kb2 BK270 hb;replace BK271:=kb2 BK271 hb;replace HB:=hB2 HB hb;(try clear hb);refine hK.out _ _ hC_ (fun hHeld=>?_);clear hK K;refine nN_ (some 56) ?_;refine pU_ HT_ 4 (some 57) (bA 12 31) ?_;refine oN_ HT_ 5 (some 58) (bA 12 63) (fun K hK=>?_);refine gs_ Try.func42 #[.int .i64 a1_1, .int .i64 0, .int .i64 (wrap64 (t279 - 1))] ?_;(with_reducible refine (impl_within.calls a1_1 0 (wrap64 (t279 - 1)) true _ A61.out).mono ?_);rintro e w' ⟨rfl,⟨nd,rfl⟩⟩;refine ⟨_,rfl,?_⟩;refine hK.out _ _ hC_ (fun hHeld=>?_);clear hK K;refine nN_ (some 58) ?_;refine pU_ HT_ 6 (some 59) (bA 12 127) ?_;refine pU_ HT_ 7 (some 60) (bA 12 255) ?_;refine tK_ HT_ HW_ hHeld 8 (some 61) (bA 12 511) ?_;refine oN_ HT_ 9 (some 62) (bA 12 1023) (fun K hK=>?_);refine gs_ Try.func42 #[.int .i64 a1_2, .int .i64 0, .int .i64 60] ?_;(with_reducible refine (impl_within.calls a1_2 0 60 t281 _ A63.out).mono ?_);rintro e w' ⟨rfl,⟨nd,rfl⟩⟩;refine ⟨_,rfl,?_⟩;refine hK.out _ _ hC_ (fun hHeld=>?_);clear hK K;refine nN_ (some 62) ?_;refine pU_ HT_ 10 (some 63) (bA 12 2047) ?_;refine pU_ HT_ 11 (some 4) (bA 12 4095) ?_;refine done_ (done_of HT_.out (by kernel_rfl)) ?_;(try go_wp2);go_ret;exact ⟨rF_,bB⟩
            · obtain rfl:=Option.some.inj H;go_enter Try.func32,Try.ntmps32;(try go_wp2_with (first | ((with_reducible refine gate_dst (N:=2) rfl ?_);refine boxE_ HB 2 #[.int .i64 a0_0, .int .i64 a0_1] 25 ?_;clear HB;intro gb270 w72 HB BK270 GW270 GE270 hb;clear hb) | ((with_reducible refine gate_dst (N:=3) rfl ?_);refine boxG_ 3 #[.int .i64 a1_0, .int .i64 a1_1, .int .i64 a1_2] 44 ?_;intro gb271 w73 hg BK271 hb;have GW271:=sZ HB hg;have GE271:=sZ HB hg;replace HB:=hB2 HB hb;have NB270_271:=neL BK270 hg;have NB271_270:=neR BK270 hg;replace BK270:=kb2 BK270 hb;clear hb hg;have hnb74:=NB270_271.out;have hnc74:=NB271_270.out;obtain ⟨hcz75_0,hcz75_1,hfz75_0,hfz75_1⟩:=cells2 BK270.out) | (refine gc_ 40 6 Try.func40 #[.agg #[.int .i64 a0_0, .int .i64 a0_1]] ?_;(with_reducible refine (impl_isHidden.calls k a0_0 a0_1 true _ A3.out).mono ?_);rintro e w76 ⟨rfl,hb⟩;refine ⟨_,rfl,?_⟩;replace BK270:=kb2 BK270 hb;replace BK271:=kb2 BK271 hb;replace HB:=hB2 HB hb;(try clear hb);obtain ⟨hcz77_0,hcz77_1,hcz77_2,hfz77_0,hfz77_1,hfz77_2⟩:=cells3 BK271.out)));replace BK270:=amk (blk_drew BK270.out);replace BK271:=amk (blk_drew BK271.out);replace HB:=amk (bd_ HB.out);refine start_ (n:=12) (S:=fun w'=>w'.cell? ⟨gb271,0,none⟩=some (.int .i64 a1_0)∧w'.cell? ⟨gb271,1,none⟩=some (.int .i64 a1_1)∧w'.cell? ⟨gb271,2,none⟩=some (.int .i64 a1_2)∧w'.cell? ⟨gb270,0,none⟩=some (.int .i64 a0_0)∧w'.cell? ⟨gb270,1,none⟩=some (.int .i64 a0_1)) (ds:=[]) (bA 12 0) (by kernel_rfl) rfl rfl ⟨(blk_cell BK271.out 0).trans rfl,(blk_cell BK271.out 1).trans rfl,(blk_cell BK271.out 2).trans rfl,(blk_cell BK270.out 0).trans rfl,(blk_cell BK270.out 1).trans rfl⟩ (fun hHeld=>?_);refine with_tabW impl_IsClue.tab11 impl_IsClue.bits11 (fun HT_ HW_=>?_);generalize w76.drew=w78 at BK270 BK271 HB hHeld ⊢;refine pU_ HT_ 0 (some 53) (bA 12 1) ?_;refine tK_ HT_ HW_ hHeld 1 (some 54) (bA 12 3) ?_;refine tK_ HT_ HW_ hHeld 2 (some 55) (bA 12 7) ?_;refine oN_ HT_ 3 (some 56) (bA 12 15) (fun K hK=>?_);refine gs_ Try.func44 #[.agg #[.int .i64 a0_0, .int .i64 a0_1]] ?_;(with_reducible refine (impl_Lock_count.calls k a0_0 a0_1 t279 _ A60.out).mono ?_);rintro e w79 ⟨rfl,hb⟩;refine ⟨_,rfl,?_⟩;replace BK270:=kb2 BK270 hb;replace BK271:=kb2 BK271 hb;replace HB:=hB2 HB hb;(try clear hb);refine hK.out _ _ hC_ (fun hHeld=>?_);clear hK K;refine nN_ (some 56) ?_;refine pU_ HT_ 4 (some 57) (bA 12 31) ?_;refine oN_ HT_ 5 (some 58) (bA 12 63) (fun K hK=>?_);refine gs_ Try.func42 #[.int .i64 a1_1, .int .i64 0, .int .i64 (wrap64 (t279 - 1))] ?_;(with_reducible refine (impl_within.calls a1_1 0 (wrap64 (t279 - 1)) false _ A61.out).mono ?_);rintro e w' ⟨rfl,⟨nd,rfl⟩⟩;refine ⟨_,rfl,?_⟩;refine hK.out _ _ hC_ (fun hHeld=>?_);clear hK K;refine nN_ (some 58) ?_;refine pU_ HT_ 6 (some 59) (bA 12 127) ?_;refine pZ_ HT_ 7 (some 60) (bA 12 255) ?_;refine pZ_ HT_ 8 (some 61) (bA 12 511) ?_;refine pZ_ HT_ 9 (some 62) (bA 12 1023) ?_;refine pU_ HT_ 10 (some 63) (bA 12 2047) ?_;refine pU_ HT_ 11 (some 4) (bA 12 4095) ?_;refine done_ (done_of HT_.out (by kernel_rfl)) ?_;(try go_wp2);go_ret;exact ⟨rF_,bB⟩
          · rw [if_neg c59] at H;have c59b0:(a1_0 == 3)=false:=beq_eq_false_iff_ne.mpr c59;have c59b1:(a1_0 != 3)=true:=bne_iff_ne.mpr c59
            by_cases c80:a1_0=4
            · rw [if_pos c80] at H;have c80b0:(a1_0 == 4)=true:=beq_iff_eq.mpr c80;have c80b1:(a1_0 != 4)=false:=bne_eq_false_iff_eq.mpr c80;clear c80;replace H:=bE H;obtain ⟨t282,A81,H⟩:=H;replace H:=iteB H;obtain ⟨rfl,H⟩ | ⟨rfl,H⟩:=H
              · replace H:=bE H;obtain ⟨t283,A83,H⟩:=H;obtain rfl:=Option.some.inj H;go_enter Try.func32,Try.ntmps32;go_wp2_with (first | ((with_reducible refine gate_dst (N:=2) rfl ?_);refine boxE_ HB 2 #[.int .i64 a0_0, .int .i64 a0_1] 25 ?_;clear HB;intro gb270 w84 HB BK270 GW270 GE270 hb;clear hb) | ((with_reducible refine gate_dst (N:=3) rfl ?_);refine boxG_ 3 #[.int .i64 a1_0, .int .i64 a1_1, .int .i64 a1_2] 44 ?_;intro gb271 w85 hg BK271 hb;have GW271:=sZ HB hg;have GE271:=sZ HB hg;replace HB:=hB2 HB hb;have NB270_271:=neL BK270 hg;have NB271_270:=neR BK270 hg;replace BK270:=kb2 BK270 hb;clear hb hg;have hnb86:=NB270_271.out;have hnc86:=NB271_270.out;obtain ⟨hcz87_0,hcz87_1,hfz87_0,hfz87_1⟩:=cells2 BK270.out) | (refine gc_ 40 6 Try.func40 #[.agg #[.int .i64 a0_0, .int .i64 a0_1]] ?_;(with_reducible refine (impl_isHidden.calls k a0_0 a0_1 true _ A3.out).mono ?_);rintro e w88 ⟨rfl,hb⟩;refine ⟨_,rfl,?_⟩;replace BK270:=kb2 BK270 hb;replace BK271:=kb2 BK271 hb;replace HB:=hB2 HB hb;(try clear hb);obtain ⟨hcz89_0,hcz89_1,hcz89_2,hfz89_0,hfz89_1,hfz89_2⟩:=cells3 BK271.out) | (refine gc_ 42 68 Try.func42 #[.int .i64 a1_1, .int .i64 2, .int .i64 9] ?_;(with_reducible refine (impl_within.calls a1_1 2 9 true _ A81.out).mono ?_);rintro e w' ⟨rfl,⟨nd,rfl⟩⟩;refine ⟨_,rfl,?_⟩) | (go_at_call 42;(with_reducible refine (impl_within.calls a1_2 0 (wrap64 (a1_1 - 1)) t283 _ A83.out).mono ?_);rintro e w' ⟨rfl,⟨nd,rfl⟩⟩));go_ret;exact ⟨rF_,bB⟩
              · obtain rfl:=Option.some.inj H;go_enter Try.func32,Try.ntmps32;go_wp2_with (first | ((with_reducible refine gate_dst (N:=2) rfl ?_);refine boxE_ HB 2 #[.int .i64 a0_0, .int .i64 a0_1] 25 ?_;clear HB;intro gb270 w90 HB BK270 GW270 GE270 hb;clear hb) | ((with_reducible refine gate_dst (N:=3) rfl ?_);refine boxG_ 3 #[.int .i64 a1_0, .int .i64 a1_1, .int .i64 a1_2] 44 ?_;intro gb271 w91 hg BK271 hb;have GW271:=sZ HB hg;have GE271:=sZ HB hg;replace HB:=hB2 HB hb;have NB270_271:=neL BK270 hg;have NB271_270:=neR BK270 hg;replace BK270:=kb2 BK270 hb;clear hb hg;have hnb92:=NB270_271.out;have hnc92:=NB271_270.out;obtain ⟨hcz93_0,hcz93_1,hfz93_0,hfz93_1⟩:=cells2 BK270.out) | (refine gc_ 40 6 Try.func40 #[.agg #[.int .i64 a0_0, .int .i64 a0_1]] ?_;(with_reducible refine (impl_isHidden.calls k a0_0 a0_1 true _ A3.out).mono ?_);rintro e w94 ⟨rfl,hb⟩;refine ⟨_,rfl,?_⟩;replace BK270:=kb2 BK270 hb;replace BK271:=kb2 BK271 hb;replace HB:=hB2 HB hb;(try clear hb);obtain ⟨hcz95_0,hcz95_1,hcz95_2,hfz95_0,hfz95_1,hfz95_2⟩:=cells3 BK271.out) | (refine gc_ 42 68 Try.func42 #[.int .i64 a1_1, .int .i64 2, .int .i64 9] ?_;(with_reducible refine (impl_within.calls a1_1 2 9 false _ A81.out).mono ?_);rintro e w' ⟨rfl,⟨nd,rfl⟩⟩;refine ⟨_,rfl,?_⟩));go_ret;exact ⟨rF_,bB⟩
            · rw [if_neg c80] at H;have c80b0:(a1_0 == 4)=false:=beq_eq_false_iff_ne.mpr c80;have c80b1:(a1_0 != 4)=true:=bne_iff_ne.mpr c80;obtain rfl:=Option.some.inj H;go_enter Try.func32,Try.ntmps32;go_wp2_with (first | ((with_reducible refine gate_dst (N:=2) rfl ?_);refine boxE_ HB 2 #[.int .i64 a0_0, .int .i64 a0_1] 25 ?_;clear HB;intro gb270 w96 HB BK270 GW270 GE270 hb;clear hb) | ((with_reducible refine gate_dst (N:=3) rfl ?_);refine boxG_ 3 #[.int .i64 a1_0, .int .i64 a1_1, .int .i64 a1_2] 44 ?_;intro gb271 w97 hg BK271 hb;have GW271:=sZ HB hg;have GE271:=sZ HB hg;replace HB:=hB2 HB hb;have NB270_271:=neL BK270 hg;have NB271_270:=neR BK270 hg;replace BK270:=kb2 BK270 hb;clear hb hg;have hnb98:=NB270_271.out;have hnc98:=NB271_270.out;obtain ⟨hcz99_0,hcz99_1,hfz99_0,hfz99_1⟩:=cells2 BK270.out) | (refine gc_ 40 6 Try.func40 #[.agg #[.int .i64 a0_0, .int .i64 a0_1]] ?_;(with_reducible refine (impl_isHidden.calls k a0_0 a0_1 true _ A3.out).mono ?_);rintro e w100 ⟨rfl,hb⟩;refine ⟨_,rfl,?_⟩;replace BK270:=kb2 BK270 hb;replace BK271:=kb2 BK271 hb;replace HB:=hB2 HB hb;(try clear hb);obtain ⟨hcz101_0,hcz101_1,hcz101_2,hfz101_0,hfz101_1,hfz101_2⟩:=cells3 BK271.out));go_ret;exact ⟨rF_,bB⟩
  · obtain rfl:=Option.some.inj H;go_enter Try.func32,Try.ntmps32;go_wp2_with (first | ((with_reducible refine gate_dst (N:=2) rfl ?_);refine boxE_ HB 2 #[.int .i64 a0_0, .int .i64 a0_1] 25 ?_;clear HB;intro gb270 w102 HB BK270 GW270 GE270 hb;clear hb) | ((with_reducible refine gate_dst (N:=3) rfl ?_);refine boxG_ 3 #[.int .i64 a1_0, .int .i64 a1_1, .int .i64 a1_2] 44 ?_;intro gb271 w103 hg BK271 hb;have GW271:=sZ HB hg;have GE271:=sZ HB hg;replace HB:=hB2 HB hb;have NB270_271:=neL BK270 hg;have NB271_270:=neR BK270 hg;replace BK270:=kb2 BK270 hb;clear hb hg;have hnb104:=NB270_271.out;have hnc104:=NB271_270.out;obtain ⟨hcz105_0,hcz105_1,hfz105_0,hfz105_1⟩:=cells2 BK270.out) | (refine gc_ 40 6 Try.func40 #[.agg #[.int .i64 a0_0, .int .i64 a0_1]] ?_;(with_reducible refine (impl_isHidden.calls k a0_0 a0_1 false _ A3.out).mono ?_);rintro e w106 ⟨rfl,hb⟩;refine ⟨_,rfl,?_⟩;replace BK270:=kb2 BK270 hb;replace BK271:=kb2 BK271 hb;replace HB:=hB2 HB hb;(try clear hb)));go_ret;exact ⟨rF_,bB⟩
/-! impl's hidden locks and clues: what they come to. -/
theorem impl_isHidden.ev (w d:Int):Ev (fun k=>impl_isHidden.f k w d) (smallB w d 125):=by
  unfold impl_isHidden.f
  exact Ev.bind (impl_isSmall.ev w d 125) (Ev.now _)
theorem impl_IsClue.ev (w d a b c:Int):Ev (fun k=>impl_IsClue.f k w d a b c) (smallB w d 125 && clueB w d a b c):=by
  unfold impl_IsClue.f clueB
  refine Ev.bind (impl_isHidden.ev w d) ?_
  cases h:smallB w d 125 with
  | false=>exact Ev.no (by simp) (Ev.id (by simp))
  | true =>
    refine Ev.yes rfl ?_
    have hl:=smallB_lock h
    obtain ⟨w1,w2,d1,d2⟩:=lockB_iff.mp hl
    have hc:=count_bound hl
    simp only [impl_within.is,Option.bind_some,w64 (x:=w - 1) (by omega) (by omega),w64 (x:=d - 1) (by omega) (by omega)]
    refine Ev.both (fun e=>?_) (fun e=>?_)
    · rw [if_pos e]
      exact Ev.both (fun h=>Ev.id (by simp [of_decide_eq_true h])) (fun h=>Ev.id (by have:=decide_eq_false_iff_not.mp (Bool.eq_false_iff.mpr h);simp [this]))
    rw [if_neg e]
    refine Ev.both (fun e=>?_) (fun e=>?_)
    · rw [if_pos e]
      exact Ev.both (fun h=>Ev.id (by simp [of_decide_eq_true h])) (fun h=>Ev.id (by have:=decide_eq_false_iff_not.mp (Bool.eq_false_iff.mpr h);simp [this]))
    rw [if_neg e]
    refine Ev.both (fun e=>?_) (fun e=>?_)
    · rw [if_pos e]
      refine Ev.bind (impl_Lock_count.ev hl) ?_
      rw [w64 (x:=d ^ w.toNat - 1) (by omega) (by omega)]
      exact Ev.both (fun h=>Ev.id (by simp [of_decide_eq_true h])) (fun h=>Ev.id (by have:=decide_eq_false_iff_not.mp (Bool.eq_false_iff.mpr h);simp [this]))
    rw [if_neg e]
    refine Ev.both (fun e=>?_) (fun e=>?_)
    · rw [if_pos e]
      refine Ev.bind (impl_Lock_count.ev hl) ?_
      rw [w64 (x:=d ^ w.toNat - 1) (by omega) (by omega)]
      exact Ev.both (fun h=>Ev.id (by simp [of_decide_eq_true h])) (fun h=>Ev.id (by have:=decide_eq_false_iff_not.mp (Bool.eq_false_iff.mpr h);simp [this]))
    rw [if_neg e]
    refine Ev.both (fun e=>?_) (fun e=>?_)
    · rw [if_pos e]
      refine Ev.both (fun h=>?_) (fun h=>Ev.id (by have:=decide_eq_false_iff_not.mp (Bool.eq_false_iff.mpr h);simp [this]))
      have h':=of_decide_eq_true h
      rw [w64 (x:=b - 1) (by omega) (by omega)]
      exact Ev.id (by simp [h'])
    rw [if_neg e]
    exact Ev.id (by simp)
/-! the first place where a test holds. -/
def idxOf {α:Type} (p:α→Bool) (xs:List α):Int:=if xs.any p then (xs.findIdx p:Int) else -1
theorem idxOf_hit {α:Type} {p:α→Bool} {xs:List α} {i:Nat} {y:α} (hi:xs[i]?=some y) (h:p y=true) (hb : ∀ (j:Nat) z,j < i→xs[j]?=some z→p z=false):idxOf p xs=i:=by
  obtain ⟨hl,rfl⟩:=List.getElem?_eq_some_iff.1 hi
  unfold idxOf
  rw [if_pos (List.any_eq_true.mpr ⟨xs[i],List.getElem_mem hl,h⟩)]
  congr 1
  exact (List.findIdx_eq hl).mpr ⟨h,fun j hj=>hb j _ hj (List.getElem?_eq_getElem (by omega))⟩
theorem idxOf_miss {α:Type} {p:α→Bool} {xs:List α} (hb : ∀ (j:Nat) z,xs[j]?=some z→p z=false):idxOf p xs = -1:=by
  unfold idxOf
  rw [if_neg]
  rw [Bool.not_eq_true,List.any_eq_false]
  intro x hx
  obtain ⟨j,hj,rfl⟩:=List.getElem_of_mem hx
  simp [hb j _ (List.getElem?_eq_getElem hj)]
theorem idxOf_nonneg {α:Type} (p:α→Bool) (xs:List α):decide (0≤idxOf p xs)=xs.any p:=by
  unfold idxOf
  split
  · rename_i h;rw [h];simp
  · rename_i h;rw [Bool.eq_false_iff.mpr h];simp
/-! slices.IndexFunc and slices.ContainsFunc at clues, under any predicate that makes nothing but new memory. -/
def PredClue (g:Nat) (cap:Array Value) (p:S44→Bool) (xs:List S44) (w:World):Prop:=
  ∀ x,x∈xs→∀ W:World,Below w.heap.size w W→Calls Try.prog g (#[.agg #[.int .i64 x.f0, .int .i64 x.f1, .int .i64 x.f2]] ++ cap) W fun e w'=>e = .returned (.bool (p x))∧Below w.heap.size w w'
set_option maxHeartbeats 2000000 in
set_option maxRecDepth 100000 in
theorem idx_Clue (g:Nat) (cap:Array Value) (p:S44→Bool) (A:Option Addr) (c:Nat) (xs:List S44) (w:World) (eg : ∀ args w,(callFunc g args).run Try.prog w = .ok (.enter g args) w)
    (hr:Kd.C k44 w A xs.length xs) (hp:PredClue g cap p xs w) :
    Calls Try.prog 87 #[.slice A xs.length c, .func (.func g) #[] cap] w fun e w'=>e = .returned (.int .i64 (idxOf p xs))∧Below w.heap.size w w':=by
  have hbig:=hr.2.1
  have HR:=amk hr
  have HP:=amk hp
  have hu:=Try.underlying44
  clear hr hp
  go_enter Try.func87,Try.ntmps87
  go_wp2
  go_loopg [5,8] xs.length (fun gg _ s8 wr=> ∃ i:Int,s8 = .int .i64 i∧Aside0 (0≤i)∧Aside0 (i≤xs.length)∧Aside0 ((xs.length:Int) - i≤gg)∧Aside0 (Below w.heap.size w wr)∧Aside0 (∀ (j:Nat) z,(j:Int) < i→xs[j]?=some z→p z=false))
  case atStart=>exact ⟨0,rfl,⟨by omega⟩,⟨by omega⟩,⟨by omega⟩,⟨Below.refl _ w⟩,⟨fun j hj=>by omega⟩⟩
  case round =>
    obtain ⟨i,rfl,I0,I1,IG,BW,AA⟩:=hrel
    by_cases hlt:i < (xs.length:Int)
    · have hlw:decide (i < (xs.length:Int))=true:=decide_eq_true hlt
      have i0:0≤i:=I0.out
      obtain ⟨ad,e,hx0,hx1,hx2⟩:=at_T44 HR.out i i0 hlt
      cases e
      replace hx0:=(BW.out.cell (World.block_lt_of_cell? w _ hx0)).trans hx0
      replace hx1:=(BW.out.cell (World.block_lt_of_cell? w _ hx1)).trans hx1
      replace hx2:=(BW.out.cell (World.block_lt_of_cell? w _ hx2)).trans hx2
      have HY:Aside0 (xs[i.toNat]?=some (rd_T44 xs i)):=⟨by
        have hin:i.toNat < xs.length:=by omega
        unfold rd_T44;simp [List.getD,hin]⟩
      generalize rd_T44 xs i=y at hx0 hx1 hx2 HY
      have hcall:=HP.out y (List.mem_of_getElem? HY.out) wr BW.out
      have HLT:=amk hlt
      replace hlt:=eq_true hlt
      replace i0:=eq_true i0
      cases hq:p y with
      | true =>
        rw [hq] at hcall
        have HQ:=amk hq
        clear hq
        go_wp2_with (go_at_fn g;refine hcall.mono ?_;rintro e w' ⟨rfl,hb'⟩)
        go_ret
        refine ⟨?_,hb'⟩
        have h1:=idxOf_hit (p:=p) HY.out HQ.out (fun j z hj hz=>AA.out j z (by omega) hz)
        rw [h1]
        have:=I0.out
        show Ending.returned (.int .i64 i)=Ending.returned (.int .i64 ((i.toNat:Nat):Int))
        rw [Int.toNat_of_nonneg this]
      | false =>
        rw [hq] at hcall
        have HQ:=amk hq
        clear hq
        go_wp2_with (go_at_fn g;refine hcall.mono ?_;rintro e w' ⟨rfl,hb'⟩)
        have hw1:wrap64 (i + 1)=i + 1:=by
          have:=I0.out
          have:=HLT.out
          unfold wrap64;omega
        go_roundg (xs.length - (i.toNat + 1))
        case measure=>have:=I0.out;have:=HLT.out;have:=IG.out;omega
        case rel =>
          have a1:=I0.out
          have a2:=HLT.out
          refine ⟨i + 1,by rw [hw1],⟨by omega⟩,⟨by omega⟩,⟨by omega⟩,⟨hb'⟩,⟨fun j z hj hz=>?_⟩⟩
          by_cases e:j=i.toNat
          · subst e
            rw [HY.out] at hz
            injection hz with hz
            rw [←hz];exact HQ.out
          · exact AA.out j z (by omega) hz
    · have hlw:decide (i < (xs.length:Int))=false:=decide_eq_false hlt
      have HK:=amk hlt
      clear hlt
      go_wp2
      go_ret
      refine ⟨?_,BW.out⟩
      rw [idxOf_miss (fun j z hz=>AA.out j z (by have:=HK.out;have:=(List.getElem?_eq_some_iff.1 hz).1;omega) hz)]
      rfl
theorem contains_Clue (g:Nat) (cap:Array Value) (p:S44→Bool) (A:Option Addr) (c:Nat) (xs:List S44) (w:World) (eg : ∀ args w,(callFunc g args).run Try.prog w = .ok (.enter g args) w)
    (hr:Kd.C k44 w A xs.length xs) (hp:PredClue g cap p xs w) :
    Calls Try.prog 60 #[.slice A xs.length c, .func (.func g) #[] cap] w fun e w'=>e = .returned (.bool (xs.any p))∧Below w.heap.size w w':=by
  rw [←idxOf_nonneg p xs]
  have HC:=amk (idx_Clue g cap p A c xs w eg hr hp)
  clear hr hp
  go_enter Try.func60,Try.ntmps60
  go_wp2_with (go_at_call 87;refine HC.out.mono ?_;rintro e w' ⟨rfl,hb'⟩)
  go_ret
  exact ⟨rfl,hb'⟩
/-! impl.IsPuzzle, by hand: it asks its clues through slices.ContainsFunc and a closure. -/
theorem isPuzzle_closure (w d:Int) (A:Option Addr) (n c gb:Nat) (W:World) (hB:gb < W.heap.size)
    (h0:W.cell? ⟨gb,0,none⟩=some (.int .i64 w)) (h1:W.cell? ⟨gb,1,none⟩=some (.int .i64 d)) (hs:smallB w d 125=true) (x:S44) :
    Calls Try.prog 61 #[.agg #[.int .i64 x.f0, .int .i64 x.f1, .int .i64 x.f2], .pointer (some ⟨gb,0,none⟩)] W fun e w'=>e = .returned (.bool (!clueB w d x.f0 x.f1 x.f2))∧Below W.heap.size W w':=by
  obtain ⟨k,hk⟩:=(impl_IsClue.ev w d x.f0 x.f1 x.f2).rounds
  rw [hs,Bool.true_and] at hk
  have hu27:=Try.underlying25
  have hu29:=Try.underlying44
  have hu46:=Try.underlying30
  have hne:gb≠W.heap.size:=by omega
  have HK:=amk hk
  clear hk hs
  generalize clueB w d x.f0 x.f1 x.f2=b at HK ⊢
  go_enter Try.func61,Try.ntmps61
  go_wp2_with (go_at_call 32;refine (impl_IsClue.calls k _ _ _ _ _ _ _ HK.out).mono ?_;rintro e w' ⟨rfl,hb⟩)
  go_ret
  exact ⟨rfl,((Below.refl _ W).alloc (Nat.le_refl _) _).trans (hb.mono (by simp))⟩
def impl_IsPuzzle.f (a b:Int) (l:List S44):Option Bool:=some (puzzleB a b l)
set_option maxHeartbeats 2000000 in
set_option maxRecDepth 100000 in
theorem impl_IsPuzzle.calls (a0_0 a0_1:Int) (A0_2:Option Addr) (c0_2:Nat) (l0_2:List S44) (r:Bool) (w:World) (hr0_2:Kd.C k44 w A0_2 l0_2.length l0_2) (hc0_2:l0_2.length≤c0_2) (h:impl_IsPuzzle.f a0_0 a0_1 l0_2=some r) :
    Calls Try.prog 15 #[.agg #[.int .i64 a0_0, .int .i64 a0_1, .slice A0_2 l0_2.length c0_2]] w fun e w'=>e = .returned (.bool r)∧Below w.heap.size w w':=by
  obtain rfl:=Option.some.inj h
  clear h
  obtain ⟨k,hk⟩:=(impl_isHidden.ev a0_0 a0_1).rounds
  have hu27:=Try.underlying25
  have hu46:=Try.underlying30
  have hu44:=Try.underlying28
  have eg : ∀ args w,(callFunc 61 args).run Try.prog w = .ok (.enter 61 args) w:=enters_of Try.func61 (by kernel_rfl) rfl
  have HE:=amk eg
  clear eg
  have HR:=amk hr0_2
  have HK:=amk hk
  clear hr0_2 hk
  unfold puzzleB
  cases hs:smallB a0_0 a0_1 125 with
  | false =>
    rw [hs] at HK
    clear hs
    go_enter Try.func15,Try.ntmps15
    go_wp2_with (go_at_call 40;refine (impl_isHidden.calls k _ _ _ _ HK.out).mono ?_;rintro e w' ⟨rfl,hb⟩)
    go_ret
    exact ⟨by simp,((Below.refl _ w).alloc (Nat.le_refl _) _).trans (hb.mono (by simp))⟩
  | true =>
    rw [hs] at HK
    have HS:=amk hs
    clear hs
    by_cases hl:l0_2.length≤6
    · have hl0:decide (l0_2.length≤6)=true:=decide_eq_true hl
      have hl1:decide ((l0_2.length:Int)≤6)=true:=decide_eq_true (by omega)
      rw [hl0]
      simp only [Bool.true_and]
      rw [show (l0_2.all fun c=>clueB a0_0 a0_1 c.f0 c.f1 c.f2) = !(l0_2.any fun c=> !clueB a0_0 a0_1 c.f0 c.f1 c.f2) by simp [List.all_eq_not_any_not]]
      generalize hz:(l0_2.any fun c=> !clueB a0_0 a0_1 c.f0 c.f1 c.f2)=z
      have HZ:=amk hz
      clear hz hl
      go_enter Try.func15,Try.ntmps15
      go_wp2_with (first | (go_at_call 40;refine (impl_isHidden.calls k _ _ _ _ HK.out).mono ?_;rintro e w1 ⟨rfl,hb⟩;have hq0:w1.cell? ⟨w.heap.size,0,none⟩=some (.int .i64 a0_0):=(hb.cell (p:=⟨w.heap.size,0,none⟩) (by simp)).trans (by simp);have hq1:w1.cell? ⟨w.heap.size,1,none⟩=some (.int .i64 a0_1):=(hb.cell (p:=⟨w.heap.size,1,none⟩) (by simp)).trans (by simp);have hq2:w1.cell? ⟨w.heap.size,2,none⟩=some (.slice A0_2 l0_2.length c0_2):=(hb.cell (p:=⟨w.heap.size,2,none⟩) (by simp)).trans (by simp);have BW:=amk (((Below.refl _ w).alloc (Nat.le_refl _) _).trans (hb.mono (by simp)));have HSZ:=amk (show w.heap.size < w1.heap.size by have:=hb.size;simp at this;omega);clear hb) | (go_at_call 60;refine (contains_Clue 61 #[.pointer (some ⟨w.heap.size,0,none⟩)] (fun c=> !clueB a0_0 a0_1 c.f0 c.f1 c.f2) A0_2 c0_2 l0_2 _ HE.out (Kd.C_below HR.out BW.out) (fun x _ W hW=>(isPuzzle_closure a0_0 a0_1 A0_2 l0_2.length c0_2 w.heap.size W (Nat.lt_of_lt_of_le HSZ.out hW.size) ((hW.cell (p:=⟨w.heap.size,0,none⟩) HSZ.out).trans hq0) ((hW.cell (p:=⟨w.heap.size,1,none⟩) HSZ.out).trans hq1) HS.out x).mono (fun e w' ⟨h1,h2⟩=>⟨h1,hW.trans (h2.mono hW.size)⟩))).mono ?_;rintro e w2 ⟨rfl,hb2⟩;have BW2:=amk (BW.out.trans (hb2.mono BW.out.size));clear hb2))
      go_ret
      exact ⟨by rw [HZ.out];rfl,BW2.out⟩
    · have hl0:decide (l0_2.length≤6)=false:=decide_eq_false hl
      have hl1:decide ((l0_2.length:Int)≤6)=false:=decide_eq_false (by omega)
      rw [hl0]
      clear hl
      go_enter Try.func15,Try.ntmps15
      go_wp2_with (go_at_call 40;refine (impl_isHidden.calls k _ _ _ _ HK.out).mono ?_;rintro e w1 ⟨rfl,hb⟩;have hq0:w1.cell? ⟨w.heap.size,0,none⟩=some (.int .i64 a0_0):=(hb.cell (p:=⟨w.heap.size,0,none⟩) (by simp)).trans (by simp);have hq1:w1.cell? ⟨w.heap.size,1,none⟩=some (.int .i64 a0_1):=(hb.cell (p:=⟨w.heap.size,1,none⟩) (by simp)).trans (by simp);have hq2:w1.cell? ⟨w.heap.size,2,none⟩=some (.slice A0_2 l0_2.length c0_2):=(hb.cell (p:=⟨w.heap.size,2,none⟩) (by simp)).trans (by simp);have BW:=amk (((Below.refl _ w).alloc (Nat.le_refl _) _).trans (hb.mono (by simp)));clear hb)
      go_ret
      exact ⟨by simp,BW.out⟩
/-! ### impl_AddClue: function 24 -/
def impl_AddClue.f (a0_0:Int) (a0_1:Int) (l0_2:List (S44)) (a1_0:Int) (a1_1:Int) (a1_2:Int):Option (Int×Int×(List (S44))×Bool):=(slices_Clone_impl_Clue_impl_Clue.f l0_2).bind fun t661=>((some (([(⟨a1_0,a1_1,a1_2⟩:S44)]:List (S44)):List (S44))).bind fun y664=>(if t661.length + y664.length < 5864062014805 then ((some (t661 ++ y664:List (S44))).bind fun y667=>((impl_IsPuzzle.f a0_0 a0_1 l0_2).bind fun t671=>(if t671=true then ((impl_IsPuzzle.f a0_0 a0_1 y667).bind fun t672=>(if t672=true then (some (a0_0,a0_1,y667,true)) else (some (0,0,([]:List (S44)),false)))) else (some (0,0,([]:List (S44)),false))))) else (none)))
def impl_AddClue.T1:Bool×List (List Nat×List Nat):=(true,[([],[]),([0],[0]),([],[]),([2],[2]),([3],[3]),([],[]),([5],[5]),([4,6,4],[4,6]),([1,7],[1,7]),([],[]),([9,8,7,0,1,2,3,4,5,6,7,8,9],[8,9])])
def impl_AddClue.B1:List Nat:=[0,1,0,4,12,0,32,124,255,0,1023]
theorem impl_AddClue.tab1:rtab .any (opsOf Try.f24 1)=impl_AddClue.T1:=by kernel_rfl
theorem impl_AddClue.bits1:waitsOk impl_AddClue.T1.2 impl_AddClue.B1=true:=by kernel_rfl
set_option maxHeartbeats 8000000 in
set_option maxRecDepth 100000 in
theorem impl_AddClue.calls (a0_0:Int) (a0_1:Int) (A0_2:Option Addr) (c0_2:Nat) (l0_2:List (S44)) (a1_0:Int) (a1_1:Int) (a1_2:Int) (r1:Int) (r2:Int) (r3:List (S44)) (r4:Bool) (w:World) (hr0_2:Kd.C k44 w A0_2 l0_2.length l0_2) (hc0_2:l0_2.length≤c0_2) (h:impl_AddClue.f a0_0 a0_1 l0_2 a1_0 a1_1 a1_2=some (r1,r2,r3,r4)) :
    Calls Try.prog 24 #[.agg #[.int .i64 a0_0, .int .i64 a0_1, .slice A0_2 l0_2.length c0_2], .agg #[.int .i64 a1_0, .int .i64 a1_1, .int .i64 a1_2]] w fun e w'=> ∃ v2_:Value,e = .returned (.tuple #[.agg #[.int .i64 r1, .int .i64 r2,v2_], .bool r4])∧Kd.R k44 44 w' w.heap.size (fun _=>True) v2_ r3∧Below w.heap.size w w':=by
  have hu30:=Try.underlying30;have hu44:=Try.underlying44;have hu25:=Try.underlying25;have HR0_2:=amk hr0_2;have HC0_2:=amk hc0_2;clear hr0_2 hc0_2;have HB:=amk (Below.refl w.heap.size w);unfold impl_AddClue.f at h;have H:=h;clear h;replace H:=bE H;obtain ⟨t661,A3,H⟩:=H;(try rw [Option.bind_some] at H);generalize hy664:(([(⟨a1_0,a1_1,a1_2⟩:S44)]:List (S44)))=y664 at H;have Ny664:=amk hy664.symm;clear hy664
  by_cases c4:t661.length + y664.length < 5864062014805
  · rw [if_pos c4] at H;have LMc4:=amk c4;clear c4;(try rw [Option.bind_some] at H);generalize hy667:((t661 ++ y664):List (S44))=y667 at H;have Ny667:=amk hy667.symm;clear hy667;replace H:=bE H;obtain ⟨t671,A5,H⟩:=H;replace H:=iteB H;obtain ⟨rfl,H⟩ | ⟨rfl,H⟩:=H
    · replace H:=bE H;obtain ⟨t672,A7,H⟩:=H;replace H:=iteB H;obtain ⟨rfl,H⟩ | ⟨rfl,H⟩:=H
      · simp only [Option.some.injEq,Prod.mk.injEq] at H;obtain ⟨rfl,rfl,rfl,rfl⟩:=H;go_enter Try.func24,Try.ntmps24;(try go_wp2_with (first | ((with_reducible refine gate_dst (N:=2) rfl ?_);refine boxE_ HB 2 #[.int .i64 a0_0, .int .i64 a0_1, .slice A0_2 l0_2.length c0_2] 30 ?_;clear HB;intro gb658 w9 HB BK658 GW658 GE658 hb;clear hb) | ((with_reducible refine gate_dst (N:=3) rfl ?_);refine boxG_ 3 #[.int .i64 a1_0, .int .i64 a1_1, .int .i64 a1_2] 44 ?_;intro gb659 w10 hg BK659 hb;have GW659:=sZ HB hg;have GE659:=sZ HB hg;replace HB:=hB2 HB hb;have NB658_659:=neL BK658 hg;have NB659_658:=neR BK658 hg;replace BK658:=kb2 BK658 hb;clear hb hg) | ((with_reducible refine gate_dst (N:=4) rfl ?_);refine boxG_ 4 #[.int .i64 0, .int .i64 0, .slice none 0 0] 30 ?_;intro gb660 w11 hg BK660 hb;have GW660:=sZ HB hg;have GE660:=sZ HB hg;replace HB:=hB2 HB hb;have NB658_660:=neL BK658 hg;have NB660_658:=neR BK658 hg;replace BK658:=kb2 BK658 hb;have NB659_660:=neL BK659 hg;have NB660_659:=neR BK659 hg;replace BK659:=kb2 BK659 hb;clear hb hg)));replace BK658:=amk (blk_drew BK658.out);replace BK659:=amk (blk_drew BK659.out);replace BK660:=amk (blk_drew BK660.out);replace HB:=amk (bd_ HB.out);refine start_ (n:=11) (S:=fun w'=>w'.cell? ⟨gb658,0,none⟩=some (.int .i64 a0_0)∧w'.cell? ⟨gb658,1,none⟩=some (.int .i64 a0_1)∧w'.cell? ⟨gb658,2,none⟩=some (.slice A0_2 l0_2.length c0_2)∧w'.cell? ⟨gb659,0,none⟩=some (.int .i64 a1_0)∧w'.cell? ⟨gb659,1,none⟩=some (.int .i64 a1_1)∧w'.cell? ⟨gb659,2,none⟩=some (.int .i64 a1_2)) (ds:=[]) (bA 11 0) (by kernel_rfl) rfl rfl ⟨(blk_cell BK658.out 0).trans rfl,(blk_cell BK658.out 1).trans rfl,(blk_cell BK658.out 2).trans rfl,(blk_cell BK659.out 0).trans rfl,(blk_cell BK659.out 1).trans rfl,(blk_cell BK659.out 2).trans rfl⟩ (fun hHeld=>?_);refine with_tabW impl_AddClue.tab1 impl_AddClue.bits1 (fun HT_ HW_=>?_);generalize w11.drew=w12 at BK658 BK659 BK660 HB hHeld ⊢;refine pU_ HT_ 0 (some 7) (bA 11 1) ?_;refine pU_ HT_ 2 (some 9) (bA 11 5) ?_;refine tK_ HT_ HW_ hHeld 1 (some 8) (bA 11 7) ?_;refine tK_ HT_ HW_ hHeld 3 (some 10) (bA 11 15) ?_;refine tK_ HT_ HW_ hHeld 5 (some 12) (bA 11 47) ?_;refine join_ (σ:=Value×Value×Value×Nat) 1 (bA 11 1023) (fun s_=> [(11,s_.1),(13,s_.2.1),(14,s_.2.2.1),(6, .pointer (some ⟨s_.2.2.2,0,none⟩)),(15, .agg #[.int .i64 a0_0, .int .i64 a0_1,s_.2.2.1])]) (fun s_ w'=>(w'.cell? ⟨gb658,0,none⟩=some (.int .i64 a0_0)∧w'.cell? ⟨gb658,1,none⟩=some (.int .i64 a0_1)∧w'.cell? ⟨gb658,2,none⟩=some (.slice A0_2 l0_2.length c0_2)∧w'.cell? ⟨gb659,0,none⟩=some (.int .i64 a1_0)∧w'.cell? ⟨gb659,1,none⟩=some (.int .i64 a1_1)∧w'.cell? ⟨gb659,2,none⟩=some (.int .i64 a1_2))∧(Kd.R k44 44 w' w.heap.size (fun k_=>some k_≠(s_.2.2.1:Value).ownBlock∧k_≠gb659) s_.2.1 y664)∧(Kd.R k44 44 w' w.heap.size (fun k_=>some k_≠(s_.2.1:Value).ownBlock∧k_≠gb659) s_.2.2.1 y667)∧(w'.heap[gb658]?=some (.cells #[.int .i64 a0_0, .int .i64 a0_1, .slice A0_2 l0_2.length c0_2] 30 (0,0)))∧(w'.heap[gb659]?=some (.cells #[.int .i64 a1_0, .int .i64 a1_1, .int .i64 a1_2] 44 (0,0)))∧(w'.heap[gb660]?=some (.cells #[.int .i64 0, .int .i64 0, .slice none 0 0] 30 (0,0)))∧(w'.heap[s_.2.2.2]?=some (.cells #[.int .i64 0, .int .i64 0, .slice none 0 0] 30 (0,0)))∧(w.heap.size≤s_.2.2.2)∧(w.heap.size≤s_.2.2.2)∧(gb658≠s_.2.2.2)∧(s_.2.2.2≠gb658)∧(gb659≠s_.2.2.2)∧(s_.2.2.2≠gb659)∧(gb660≠s_.2.2.2)∧(s_.2.2.2≠gb660)∧(Below w.heap.size w w')) ?_ ?_;rotate_left
        · intro hJ4_6_7_9;refine join_ (σ:=Value×Value×Value) 2 (bA 11 511) (fun s_=> [(11,s_.1),(13,s_.2.1),(14,s_.2.2),(15, .agg #[.int .i64 a0_0, .int .i64 a0_1,s_.2.2])]) (fun s_ w'=>(w'.cell? ⟨gb658,0,none⟩=some (.int .i64 a0_0)∧w'.cell? ⟨gb658,1,none⟩=some (.int .i64 a0_1)∧w'.cell? ⟨gb658,2,none⟩=some (.slice A0_2 l0_2.length c0_2)∧w'.cell? ⟨gb659,0,none⟩=some (.int .i64 a1_0)∧w'.cell? ⟨gb659,1,none⟩=some (.int .i64 a1_1)∧w'.cell? ⟨gb659,2,none⟩=some (.int .i64 a1_2))∧(Kd.R k44 44 w' w.heap.size (fun k_=>some k_≠(s_.2.2:Value).ownBlock∧k_≠gb659) s_.2.1 y664)∧(Kd.R k44 44 w' w.heap.size (fun k_=>some k_≠(s_.2.1:Value).ownBlock∧k_≠gb659) s_.2.2 y667)∧(w'.heap[gb658]?=some (.cells #[.int .i64 a0_0, .int .i64 a0_1, .slice A0_2 l0_2.length c0_2] 30 (0,0)))∧(w'.heap[gb659]?=some (.cells #[.int .i64 a1_0, .int .i64 a1_1, .int .i64 a1_2] 44 (0,0)))∧(w'.heap[gb660]?=some (.cells #[.int .i64 0, .int .i64 0, .slice none 0 0] 30 (0,0)))∧(Below w.heap.size w w')) ?_ ?_;rotate_left
          · intro hJ4_6_7;refine join_ (σ:=Value×Value×Nat) 3 (bA 11 639) (fun s_=> [(11,s_.1),(13,s_.2.1),(6, .pointer (some ⟨s_.2.2,0,none⟩))]) (fun s_ w'=>(w'.cell? ⟨gb658,0,none⟩=some (.int .i64 a0_0)∧w'.cell? ⟨gb658,1,none⟩=some (.int .i64 a0_1)∧w'.cell? ⟨gb658,2,none⟩=some (.slice A0_2 l0_2.length c0_2)∧w'.cell? ⟨gb659,0,none⟩=some (.int .i64 a1_0)∧w'.cell? ⟨gb659,1,none⟩=some (.int .i64 a1_1)∧w'.cell? ⟨gb659,2,none⟩=some (.int .i64 a1_2))∧(Kd.R k44 44 w' w.heap.size (fun k_=>some k_≠(s_.2.1:Value).ownBlock∧k_≠gb659) s_.1 t661)∧(Kd.R k44 44 w' w.heap.size (fun k_=>some k_≠(s_.1:Value).ownBlock∧k_≠gb659) s_.2.1 y664)∧(w'.heap[gb658]?=some (.cells #[.int .i64 a0_0, .int .i64 a0_1, .slice A0_2 l0_2.length c0_2] 30 (0,0)))∧(w'.heap[gb659]?=some (.cells #[.int .i64 a1_0, .int .i64 a1_1, .int .i64 a1_2] 44 (0,0)))∧(w'.heap[gb660]?=some (.cells #[.int .i64 0, .int .i64 0, .slice none 0 0] 30 (0,0)))∧(w'.heap[s_.2.2]?=some (.cells #[.int .i64 0, .int .i64 0, .slice none 0 0] 30 (0,0)))∧(w.heap.size≤s_.2.2)∧(w.heap.size≤s_.2.2)∧(gb658≠s_.2.2)∧(s_.2.2≠gb658)∧(gb659≠s_.2.2)∧(s_.2.2≠gb659)∧(gb660≠s_.2.2)∧(s_.2.2≠gb660)∧(Below w.heap.size w w')) ?_ ?_;rotate_left
            · intro hJ4_6_9;refine join_ (σ:=Value×Value) 4 (bA 11 127) (fun s_=> [(11,s_.1),(13,s_.2)]) (fun s_ w'=>(w'.cell? ⟨gb658,0,none⟩=some (.int .i64 a0_0)∧w'.cell? ⟨gb658,1,none⟩=some (.int .i64 a0_1)∧w'.cell? ⟨gb658,2,none⟩=some (.slice A0_2 l0_2.length c0_2)∧w'.cell? ⟨gb659,0,none⟩=some (.int .i64 a1_0)∧w'.cell? ⟨gb659,1,none⟩=some (.int .i64 a1_1)∧w'.cell? ⟨gb659,2,none⟩=some (.int .i64 a1_2))∧(Kd.R k44 44 w' w.heap.size (fun k_=>some k_≠(s_.2:Value).ownBlock∧k_≠gb659) s_.1 t661)∧(Kd.R k44 44 w' w.heap.size (fun k_=>some k_≠(s_.1:Value).ownBlock∧k_≠gb659) s_.2 y664)∧(w'.heap[gb658]?=some (.cells #[.int .i64 a0_0, .int .i64 a0_1, .slice A0_2 l0_2.length c0_2] 30 (0,0)))∧(w'.heap[gb659]?=some (.cells #[.int .i64 a1_0, .int .i64 a1_1, .int .i64 a1_2] 44 (0,0)))∧(w'.heap[gb660]?=some (.cells #[.int .i64 0, .int .i64 0, .slice none 0 0] 30 (0,0)))∧(Below w.heap.size w w')) ?_ ?_;rotate_left
              · intro hJ4_6;refine join_ (σ:=Value×Nat) 4 (bA 11 575) (fun s_=> [(11,s_.1),(6, .pointer (some ⟨s_.2,0,none⟩))]) (fun s_ w'=>(w'.cell? ⟨gb658,0,none⟩=some (.int .i64 a0_0)∧w'.cell? ⟨gb658,1,none⟩=some (.int .i64 a0_1)∧w'.cell? ⟨gb658,2,none⟩=some (.slice A0_2 l0_2.length c0_2)∧w'.cell? ⟨gb659,0,none⟩=some (.int .i64 a1_0)∧w'.cell? ⟨gb659,1,none⟩=some (.int .i64 a1_1)∧w'.cell? ⟨gb659,2,none⟩=some (.int .i64 a1_2))∧(Kd.R k44 44 w' w.heap.size (fun k_=>k_≠gb659) s_.1 t661)∧(w'.heap[gb658]?=some (.cells #[.int .i64 a0_0, .int .i64 a0_1, .slice A0_2 l0_2.length c0_2] 30 (0,0)))∧(w'.heap[gb659]?=some (.cells #[.int .i64 a1_0, .int .i64 a1_1, .int .i64 a1_2] 44 (0,0)))∧(w'.heap[gb660]?=some (.cells #[.int .i64 0, .int .i64 0, .slice none 0 0] 30 (0,0)))∧(w'.heap[s_.2]?=some (.cells #[.int .i64 0, .int .i64 0, .slice none 0 0] 30 (0,0)))∧(w.heap.size≤s_.2)∧(w.heap.size≤s_.2)∧(gb658≠s_.2)∧(s_.2≠gb658)∧(gb659≠s_.2)∧(s_.2≠gb659)∧(gb660≠s_.2)∧(s_.2≠gb660)∧(Below w.heap.size w w')) ?_ ?_;rotate_left
                · intro hJ4_9;refine join_ (σ:=Value×Nat) 4 (bA 11 623) (fun s_=> [(13,s_.1),(6, .pointer (some ⟨s_.2,0,none⟩))]) (fun s_ w'=>(w'.cell? ⟨gb658,0,none⟩=some (.int .i64 a0_0)∧w'.cell? ⟨gb658,1,none⟩=some (.int .i64 a0_1)∧w'.cell? ⟨gb658,2,none⟩=some (.slice A0_2 l0_2.length c0_2)∧w'.cell? ⟨gb659,0,none⟩=some (.int .i64 a1_0)∧w'.cell? ⟨gb659,1,none⟩=some (.int .i64 a1_1)∧w'.cell? ⟨gb659,2,none⟩=some (.int .i64 a1_2))∧(Kd.R k44 44 w' w.heap.size (fun k_=>k_≠gb659) s_.1 y664)∧(w'.heap[gb658]?=some (.cells #[.int .i64 a0_0, .int .i64 a0_1, .slice A0_2 l0_2.length c0_2] 30 (0,0)))∧(w'.heap[gb659]?=some (.cells #[.int .i64 a1_0, .int .i64 a1_1, .int .i64 a1_2] 44 (0,0)))∧(w'.heap[gb660]?=some (.cells #[.int .i64 0, .int .i64 0, .slice none 0 0] 30 (0,0)))∧(w'.heap[s_.2]?=some (.cells #[.int .i64 0, .int .i64 0, .slice none 0 0] 30 (0,0)))∧(w.heap.size≤s_.2)∧(w.heap.size≤s_.2)∧(gb658≠s_.2)∧(s_.2≠gb658)∧(gb659≠s_.2)∧(s_.2≠gb659)∧(gb660≠s_.2)∧(s_.2≠gb660)∧(Below w.heap.size w w')) ?_ ?_;rotate_left
                  · intro hJ6_9;refine join_ (σ:=Value) 5 (bA 11 63) (fun s_=> [(11,s_)]) (fun s_ w'=>(w'.cell? ⟨gb658,0,none⟩=some (.int .i64 a0_0)∧w'.cell? ⟨gb658,1,none⟩=some (.int .i64 a0_1)∧w'.cell? ⟨gb658,2,none⟩=some (.slice A0_2 l0_2.length c0_2)∧w'.cell? ⟨gb659,0,none⟩=some (.int .i64 a1_0)∧w'.cell? ⟨gb659,1,none⟩=some (.int .i64 a1_1)∧w'.cell? ⟨gb659,2,none⟩=some (.int .i64 a1_2))∧(Kd.R k44 44 w' w.heap.size (fun k_=>k_≠gb659) s_ t661)∧(w'.heap[gb658]?=some (.cells #[.int .i64 a0_0, .int .i64 a0_1, .slice A0_2 l0_2.length c0_2] 30 (0,0)))∧(w'.heap[gb659]?=some (.cells #[.int .i64 a1_0, .int .i64 a1_1, .int .i64 a1_2] 44 (0,0)))∧(w'.heap[gb660]?=some (.cells #[.int .i64 0, .int .i64 0, .slice none 0 0] 30 (0,0)))∧(Below w.heap.size w w')) ?_ ?_;rotate_left
                    · intro hJ4;refine join_ (σ:=Value) 5 (bA 11 111) (fun s_=> [(13,s_)]) (fun s_ w'=>(w'.cell? ⟨gb658,0,none⟩=some (.int .i64 a0_0)∧w'.cell? ⟨gb658,1,none⟩=some (.int .i64 a0_1)∧w'.cell? ⟨gb658,2,none⟩=some (.slice A0_2 l0_2.length c0_2)∧w'.cell? ⟨gb659,0,none⟩=some (.int .i64 a1_0)∧w'.cell? ⟨gb659,1,none⟩=some (.int .i64 a1_1)∧w'.cell? ⟨gb659,2,none⟩=some (.int .i64 a1_2))∧(Kd.R k44 44 w' w.heap.size (fun k_=>k_≠gb659) s_ y664)∧(w'.heap[gb658]?=some (.cells #[.int .i64 a0_0, .int .i64 a0_1, .slice A0_2 l0_2.length c0_2] 30 (0,0)))∧(w'.heap[gb659]?=some (.cells #[.int .i64 a1_0, .int .i64 a1_1, .int .i64 a1_2] 44 (0,0)))∧(w'.heap[gb660]?=some (.cells #[.int .i64 0, .int .i64 0, .slice none 0 0] 30 (0,0)))∧(Below w.heap.size w w')) ?_ ?_;rotate_left
                      · intro hJ6;refine join_ (σ:=Nat) 5 (bA 11 559) (fun s_=> [(6, .pointer (some ⟨s_,0,none⟩))]) (fun s_ w'=>(w'.cell? ⟨gb658,0,none⟩=some (.int .i64 a0_0)∧w'.cell? ⟨gb658,1,none⟩=some (.int .i64 a0_1)∧w'.cell? ⟨gb658,2,none⟩=some (.slice A0_2 l0_2.length c0_2)∧w'.cell? ⟨gb659,0,none⟩=some (.int .i64 a1_0)∧w'.cell? ⟨gb659,1,none⟩=some (.int .i64 a1_1)∧w'.cell? ⟨gb659,2,none⟩=some (.int .i64 a1_2))∧(w'.heap[gb658]?=some (.cells #[.int .i64 a0_0, .int .i64 a0_1, .slice A0_2 l0_2.length c0_2] 30 (0,0)))∧(w'.heap[gb659]?=some (.cells #[.int .i64 a1_0, .int .i64 a1_1, .int .i64 a1_2] 44 (0,0)))∧(w'.heap[gb660]?=some (.cells #[.int .i64 0, .int .i64 0, .slice none 0 0] 30 (0,0)))∧(w'.heap[s_]?=some (.cells #[.int .i64 0, .int .i64 0, .slice none 0 0] 30 (0,0)))∧(w.heap.size≤s_)∧(w.heap.size≤s_)∧(gb658≠s_)∧(s_≠gb658)∧(gb659≠s_)∧(s_≠gb659)∧(gb660≠s_)∧(s_≠gb660)∧(Below w.heap.size w w')) ?_ ?_;rotate_left
                        · intro hJ9;refine three_ (i:=4) (j:=6) (k:=9) (Ni:=some 11) (Nj:=some 13) (Nk:=some 6) (bA 11 63) (bA 11 111) (bA 11 559) rfl rfl rfl rfl rfl rfl (three_of HT_.out (by kernel_rfl)) (by decide) (by decide) (by decide) (fun K hK=>?_) (fun K hK=>?_) (fun K hK=>?_)
                          · skip
                            refine gs_ Try.func63 #[.slice A0_2 l0_2.length c0_2] ?_;(with_reducible refine (slices_Clone_impl_Clue_impl_Clue.calls _ _ l0_2 t661 _ ?_ ?_ A3.out).mono ?_);exact cB (Kd.C_below HR0_2.out HB.out);exact HC0_2.out;rintro e w13 ⟨v662,rfl,ho0,hb⟩;refine ⟨_,rfl,?_⟩;have HO663:=amk (Kd.R_lower (Kd.R_newB ho0 (g:=gb659) (o:= .cells #[.int .i64 a1_0, .int .i64 a1_1, .int .i64 a1_2] 44 (0,0)) (kB BK659)) (below_size bB));replace BK658:=kb2 BK658 hb;replace BK659:=kb2 BK659 hb;replace BK660:=kb2 BK660 hb;replace HB:=hB2 HB hb;(try clear hb);(try clear ho0);refine hK.out _ _ hC_ (fun hHeld=>?_);clear hK K;refine nN_ (some 11) ?_;exact norm_ nJ_ (hJ4 (v662) _ ⟨hHeld,(by (with_reducible repeat (first | apply Kd.R_alloc | apply Kd.R_drewN | apply Kd.R_drew));exact Kd.R_mono HO663.out (fun _ hk=>hk.2)),(kB BK658),(kB BK659),(kB BK660),bB⟩)
                          · skip
                            refine Kd.R_lit_step k44 _ 44 ?hg (N:=13) ?hd (xs:=([(⟨a1_0,a1_1,a1_2⟩:S44)]:List (S44))) (inner:=[.int .i64 a1_0, .int .i64 a1_1, .int .i64 a1_2]) (ok:=fun _=>True) (okp:=fun _=>True) ?hr ?hp (fun _ hk=>hk) trivial (Below.refl _ _) (Nat.le_refl _) (by simp) ?_;(case hd=>rfl);(case hg=>rfl);(case hr=>first | (go_simp;done) | (go_simp;rfl));(case hp=>exact (Reps.c3 (show Kd.M k44 _ _ _ (⟨a1_0,a1_1,a1_2⟩:S44) [.int .i64 a1_0, .int .i64 a1_1, .int .i64 a1_2] from (k44_mkM _ _ _ (⟨a1_0,a1_1,a1_2⟩:S44) )) (Reps.none _ _)));intro v665 w13 ho14 hb hg_ hnew_;clear hg_ hnew_;(first | rw [←Ny664.out] at ho14 | (simp only [Int.reduceToNat] at ho14;rw [←Ny664.out] at ho14));have HO666:=amk (Kd.R_lower (Kd.R_newB ho14 (g:=gb659) (o:= .cells #[.int .i64 a1_0, .int .i64 a1_1, .int .i64 a1_2] 44 (0,0)) (kB BK659)) (below_size bB));replace BK658:=kb2 BK658 hb;replace BK659:=kb2 BK659 hb;replace BK660:=kb2 BK660 hb;replace HB:=hB2 HB hb;clear hb ho14;refine hK.out _ _ hC_ (fun hHeld=>?_);clear hK K;refine nN_ (some 13) ?_;exact norm_ nJ_ (hJ6 (v665) _ ⟨hHeld,(by (with_reducible repeat (first | apply Kd.R_alloc | apply Kd.R_drewN | apply Kd.R_drew));exact Kd.R_mono HO666.out (fun _ hk=>hk.2)),(kB BK658),(kB BK659),(kB BK660),bB⟩)
                          · skip
                            refine box_step ?hg (N:=6) ?hd (cs:= #[.int .i64 0, .int .i64 0, .slice none 0 0]) (t:=30) ?hr ?_;(case hd=>rfl);(case hg=>rfl);(case hr=>first | (go_simp;done) | (go_simp;rfl));intro gb670 hg w13 hbox hb;have BK670:=amk (hbox);have GW670:=sZ HB hg;have GE670:=sZ HB hg;replace HB:=hB2 HB hb;have NB658_670:=neL BK658 hg;have NB670_658:=neR BK658 hg;replace BK658:=kb2 BK658 hb;have NB659_670:=neL BK659 hg;have NB670_659:=neR BK659 hg;replace BK659:=kb2 BK659 hb;have NB660_670:=neL BK660 hg;have NB670_660:=neR BK660 hg;replace BK660:=kb2 BK660 hb;clear hb hbox hg;refine hK.out _ _ hC_ (fun hHeld=>?_);clear hK K;refine nN_ (some 6) ?_;exact norm_ nJ_ (hJ9 (gb670) _ ⟨hHeld,(kB BK658),(kB BK659),(kB BK660),(kB BK670),GW670.out,GE670.out,NB658_670.out,NB670_658.out,NB659_670.out,NB670_659.out,NB660_670.out,NB670_660.out,bB⟩)
                        · skip
                          rintro gb670 w14 ⟨hS_,h0_,h1_,h2_,h3_,h4_,h5_,h6_,h7_,h8_,h9_,h10_,h11_,h12_⟩;replace BK658:=amk h0_;replace BK659:=amk h1_;replace BK660:=amk h2_;have BK670:=amk h3_;have GW670:=amk h4_;have GE670:=amk h5_;have NB658_670:=amk h6_;have NB670_658:=amk h7_;have NB659_670:=amk h8_;have NB670_659:=amk h9_;have NB660_670:=amk h10_;have NB670_660:=amk h11_;replace HB:=amk h12_;clear h0_ h1_ h2_ h3_ h4_ h5_ h6_ h7_ h8_ h9_ h10_ h11_ h12_;have hHeld:=hS_;refine norm_ (a':=?_) ?_ ?_;rotate_left
                          · simp only [putAll,Act.put,List.setIfInBounds_toArray,List.set_cons_zero,List.set_cons_succ]
                            rfl
                          refine two_ (i:=4) (j:=6) (Ni:=some 11) (Nj:=some 13) (bA 11 575) (bA 11 623) rfl rfl rfl rfl (two_of HT_.out (by kernel_rfl)) (by decide) (by decide) (fun K hK=>?_) (fun K hK=>?_)
                          · skip
                            refine gs_ Try.func63 #[.slice A0_2 l0_2.length c0_2] ?_;(with_reducible refine (slices_Clone_impl_Clue_impl_Clue.calls _ _ l0_2 t661 _ ?_ ?_ A3.out).mono ?_);exact cB (Kd.C_below HR0_2.out HB.out);exact HC0_2.out;rintro e w15 ⟨v662,rfl,ho0,hb⟩;refine ⟨_,rfl,?_⟩;have HO663:=amk (Kd.R_lower (Kd.R_newB ho0 (g:=gb659) (o:= .cells #[.int .i64 a1_0, .int .i64 a1_1, .int .i64 a1_2] 44 (0,0)) (kB BK659)) (below_size bB));replace BK658:=kb2 BK658 hb;replace BK659:=kb2 BK659 hb;replace BK660:=kb2 BK660 hb;replace BK670:=kb2 BK670 hb;replace HB:=hB2 HB hb;(try clear hb);(try clear ho0);refine hK.out _ _ hC_ (fun hHeld=>?_);clear hK K;refine nN_ (some 11) ?_;exact norm_ nJ_ (hJ4_9 (v662,gb670) _ ⟨hHeld,(by (with_reducible repeat (first | apply Kd.R_alloc | apply Kd.R_drewN | apply Kd.R_drew));exact Kd.R_mono HO663.out (fun _ hk=>hk.2)),(kB BK658),(kB BK659),(kB BK660),(kB BK670),GW670.out,GE670.out,NB658_670.out,NB670_658.out,NB659_670.out,NB670_659.out,NB660_670.out,NB670_660.out,bB⟩)
                          · skip
                            refine Kd.R_lit_step k44 _ 44 ?hg (N:=13) ?hd (xs:=([(⟨a1_0,a1_1,a1_2⟩:S44)]:List (S44))) (inner:=[.int .i64 a1_0, .int .i64 a1_1, .int .i64 a1_2]) (ok:=fun _=>True) (okp:=fun _=>True) ?hr ?hp (fun _ hk=>hk) trivial (Below.refl _ _) (Nat.le_refl _) (by simp) ?_;(case hd=>rfl);(case hg=>rfl);(case hr=>first | (go_simp;done) | (go_simp;rfl));(case hp=>exact (Reps.c3 (show Kd.M k44 _ _ _ (⟨a1_0,a1_1,a1_2⟩:S44) [.int .i64 a1_0, .int .i64 a1_1, .int .i64 a1_2] from (k44_mkM _ _ _ (⟨a1_0,a1_1,a1_2⟩:S44) )) (Reps.none _ _)));intro v665 w15 ho16 hb hg_ hnew_;clear hg_ hnew_;(first | rw [←Ny664.out] at ho16 | (simp only [Int.reduceToNat] at ho16;rw [←Ny664.out] at ho16));have HO666:=amk (Kd.R_lower (Kd.R_newB ho16 (g:=gb659) (o:= .cells #[.int .i64 a1_0, .int .i64 a1_1, .int .i64 a1_2] 44 (0,0)) (kB BK659)) (below_size bB));replace BK658:=kb2 BK658 hb;replace BK659:=kb2 BK659 hb;replace BK660:=kb2 BK660 hb;replace BK670:=kb2 BK670 hb;replace HB:=hB2 HB hb;clear hb ho16;refine hK.out _ _ hC_ (fun hHeld=>?_);clear hK K;refine nN_ (some 13) ?_;exact norm_ nJ_ (hJ6_9 (v665,gb670) _ ⟨hHeld,(by (with_reducible repeat (first | apply Kd.R_alloc | apply Kd.R_drewN | apply Kd.R_drew));exact Kd.R_mono HO666.out (fun _ hk=>hk.2)),(kB BK658),(kB BK659),(kB BK660),(kB BK670),GW670.out,GE670.out,NB658_670.out,NB670_658.out,NB659_670.out,NB670_659.out,NB660_670.out,NB670_660.out,bB⟩)
                      · skip
                        rintro v665 w15 ⟨hS_,h0_,h1_,h2_,h3_,h4_⟩;have HO666:=amk h0_;replace BK658:=amk h1_;replace BK659:=amk h2_;replace BK660:=amk h3_;replace HB:=amk h4_;clear h0_ h1_ h2_ h3_ h4_;have hHeld:=hS_;refine norm_ (a':=?_) ?_ ?_;rotate_left
                        · simp only [putAll,Act.put,List.setIfInBounds_toArray,List.set_cons_zero,List.set_cons_succ]
                          rfl
                        refine two_ (i:=4) (j:=9) (Ni:=some 11) (Nj:=some 6) (bA 11 127) (bA 11 623) rfl rfl rfl rfl (two_of HT_.out (by kernel_rfl)) (by decide) (by decide) (fun K hK=>?_) (fun K hK=>?_)
                        · skip
                          refine gs_ Try.func63 #[.slice A0_2 l0_2.length c0_2] ?_;(with_reducible refine (slices_Clone_impl_Clue_impl_Clue.calls _ _ l0_2 t661 _ ?_ ?_ A3.out).mono ?_);exact cB (Kd.C_below HR0_2.out HB.out);exact HC0_2.out;rintro e w16 ⟨v662,rfl,ho0,hb⟩;refine ⟨_,rfl,?_⟩;have HO663:=amk (Kd.R_lower (Kd.R_newB (Kd.R_new' ho0 (Kd.R_lt (oX HO666))) (g:=gb659) (o:= .cells #[.int .i64 a1_0, .int .i64 a1_1, .int .i64 a1_2] 44 (0,0)) (kB BK659)) (below_size bB));replace HO666:=amk (Kd.R_elder' (oX HO666) (Kd.R_base ho0) hb);replace BK658:=kb2 BK658 hb;replace BK659:=kb2 BK659 hb;replace BK660:=kb2 BK660 hb;replace HB:=hB2 HB hb;(try clear hb);(try clear ho0);refine hK.out _ _ hC_ (fun hHeld=>?_);clear hK K;refine nN_ (some 11) ?_;exact norm_ nJ_ (hJ4_6 (v662,v665) _ ⟨hHeld,(by (with_reducible repeat (first | apply Kd.R_alloc | apply Kd.R_drewN | apply Kd.R_drew));exact Kd.R_mono HO663.out (fun _ hk=>⟨hk.1.2,hk.2⟩)),(by (with_reducible repeat (first | apply Kd.R_alloc | apply Kd.R_drewN | apply Kd.R_drew));exact Kd.R_mono HO666.out (fun _ hk=>⟨hk.2,hk.1⟩)),(kB BK658),(kB BK659),(kB BK660),bB⟩)
                        · skip
                          refine box_step ?hg (N:=6) ?hd (cs:= #[.int .i64 0, .int .i64 0, .slice none 0 0]) (t:=30) ?hr ?_;(case hd=>rfl);(case hg=>rfl);(case hr=>first | (go_simp;done) | (go_simp;rfl));intro gb670 hg w16 hbox hb;replace HO666:=amk (Kd.R_below (oX HO666) hb);have BK670:=amk (hbox);have GW670:=sZ HB hg;have GE670:=sZ HB hg;replace HB:=hB2 HB hb;have NB658_670:=neL BK658 hg;have NB670_658:=neR BK658 hg;replace BK658:=kb2 BK658 hb;have NB659_670:=neL BK659 hg;have NB670_659:=neR BK659 hg;replace BK659:=kb2 BK659 hb;have NB660_670:=neL BK660 hg;have NB670_660:=neR BK660 hg;replace BK660:=kb2 BK660 hb;clear hb hbox hg;refine hK.out _ _ hC_ (fun hHeld=>?_);clear hK K;refine nN_ (some 6) ?_;exact norm_ nJ_ (hJ6_9 (v665,gb670) _ ⟨hHeld,(oX HO666),(kB BK658),(kB BK659),(kB BK660),(kB BK670),GW670.out,GE670.out,NB658_670.out,NB670_658.out,NB659_670.out,NB670_659.out,NB660_670.out,NB670_660.out,bB⟩)
                    · skip
                      rintro v662 w14 ⟨hS_,h0_,h1_,h2_,h3_,h4_⟩;have HO663:=amk h0_;replace BK658:=amk h1_;replace BK659:=amk h2_;replace BK660:=amk h3_;replace HB:=amk h4_;clear h0_ h1_ h2_ h3_ h4_;have hHeld:=hS_;refine norm_ (a':=?_) ?_ ?_;rotate_left
                      · simp only [putAll,Act.put,List.setIfInBounds_toArray,List.set_cons_zero,List.set_cons_succ]
                        rfl
                      refine two_ (i:=6) (j:=9) (Ni:=some 13) (Nj:=some 6) (bA 11 127) (bA 11 575) rfl rfl rfl rfl (two_of HT_.out (by kernel_rfl)) (by decide) (by decide) (fun K hK=>?_) (fun K hK=>?_)
                      · skip
                        refine Kd.R_lit_step k44 _ 44 ?hg (N:=13) ?hd (xs:=([(⟨a1_0,a1_1,a1_2⟩:S44)]:List (S44))) (inner:=[.int .i64 a1_0, .int .i64 a1_1, .int .i64 a1_2]) (ok:=fun _=>True) (okp:=fun _=>True) ?hr ?hp (fun _ hk=>hk) trivial (Below.refl _ _) (Nat.le_refl _) (by simp) ?_;(case hd=>rfl);(case hg=>rfl);(case hr=>first | (go_simp;done) | (go_simp;rfl));(case hp=>exact (Reps.c3 (show Kd.M k44 _ _ _ (⟨a1_0,a1_1,a1_2⟩:S44) [.int .i64 a1_0, .int .i64 a1_1, .int .i64 a1_2] from (k44_mkM _ _ _ (⟨a1_0,a1_1,a1_2⟩:S44) )) (Reps.none _ _)));intro v665 w15 ho16 hb hg_ hnew_;clear hg_ hnew_;(first | rw [←Ny664.out] at ho16 | (simp only [Int.reduceToNat] at ho16;rw [←Ny664.out] at ho16));have HO666:=amk (Kd.R_lower (Kd.R_newB (Kd.R_new' ho16 (Kd.R_lt (oX HO663))) (g:=gb659) (o:= .cells #[.int .i64 a1_0, .int .i64 a1_1, .int .i64 a1_2] 44 (0,0)) (kB BK659)) (below_size bB));replace HO663:=amk (Kd.R_elder' (oX HO663) (Kd.R_base ho16) hb);replace BK658:=kb2 BK658 hb;replace BK659:=kb2 BK659 hb;replace BK660:=kb2 BK660 hb;replace HB:=hB2 HB hb;clear hb ho16;refine hK.out _ _ hC_ (fun hHeld=>?_);clear hK K;refine nN_ (some 13) ?_;exact norm_ nJ_ (hJ4_6 (v662,v665) _ ⟨hHeld,(by (with_reducible repeat (first | apply Kd.R_alloc | apply Kd.R_drewN | apply Kd.R_drew));exact Kd.R_mono HO663.out (fun _ hk=>⟨hk.2,hk.1⟩)),(by (with_reducible repeat (first | apply Kd.R_alloc | apply Kd.R_drewN | apply Kd.R_drew));exact Kd.R_mono HO666.out (fun _ hk=>⟨hk.1.2,hk.2⟩)),(kB BK658),(kB BK659),(kB BK660),bB⟩)
                      · skip
                        refine box_step ?hg (N:=6) ?hd (cs:= #[.int .i64 0, .int .i64 0, .slice none 0 0]) (t:=30) ?hr ?_;(case hd=>rfl);(case hg=>rfl);(case hr=>first | (go_simp;done) | (go_simp;rfl));intro gb670 hg w15 hbox hb;replace HO663:=amk (Kd.R_below (oX HO663) hb);have BK670:=amk (hbox);have GW670:=sZ HB hg;have GE670:=sZ HB hg;replace HB:=hB2 HB hb;have NB658_670:=neL BK658 hg;have NB670_658:=neR BK658 hg;replace BK658:=kb2 BK658 hb;have NB659_670:=neL BK659 hg;have NB670_659:=neR BK659 hg;replace BK659:=kb2 BK659 hb;have NB660_670:=neL BK660 hg;have NB670_660:=neR BK660 hg;replace BK660:=kb2 BK660 hb;clear hb hbox hg;refine hK.out _ _ hC_ (fun hHeld=>?_);clear hK K;refine nN_ (some 6) ?_;exact norm_ nJ_ (hJ4_9 (v662,gb670) _ ⟨hHeld,(oX HO663),(kB BK658),(kB BK659),(kB BK660),(kB BK670),GW670.out,GE670.out,NB658_670.out,NB670_658.out,NB659_670.out,NB670_659.out,NB660_670.out,NB670_660.out,bB⟩)
                  · skip
                    rintro ⟨v665,gb670⟩ w16 ⟨hS_,h0_,h1_,h2_,h3_,h4_,h5_,h6_,h7_,h8_,h9_,h10_,h11_,h12_,h13_⟩;have HO666:=amk h0_;replace BK658:=amk h1_;replace BK659:=amk h2_;replace BK660:=amk h3_;have BK670:=amk h4_;have GW670:=amk h5_;have GE670:=amk h6_;have NB658_670:=amk h7_;have NB670_658:=amk h8_;have NB659_670:=amk h9_;have NB670_659:=amk h10_;have NB660_670:=amk h11_;have NB670_660:=amk h12_;replace HB:=amk h13_;clear h0_ h1_ h2_ h3_ h4_ h5_ h6_ h7_ h8_ h9_ h10_ h11_ h12_ h13_;have hHeld:=hS_;refine norm_ (a':=?_) ?_ ?_;rotate_left
                    · simp only [putAll,Act.put,List.setIfInBounds_toArray,List.set_cons_zero,List.set_cons_succ]
                      rfl
                    refine oN_ HT_ 4 (some 11) (bA 11 639) (fun K hK=>?_);refine gs_ Try.func63 #[.slice A0_2 l0_2.length c0_2] ?_;(with_reducible refine (slices_Clone_impl_Clue_impl_Clue.calls _ _ l0_2 t661 _ ?_ ?_ A3.out).mono ?_);exact cB (Kd.C_below HR0_2.out HB.out);exact HC0_2.out;rintro e w17 ⟨v662,rfl,ho0,hb⟩;refine ⟨_,rfl,?_⟩;have HO663:=amk (Kd.R_lower (Kd.R_newB (Kd.R_new' ho0 (Kd.R_lt (oX HO666))) (g:=gb659) (o:= .cells #[.int .i64 a1_0, .int .i64 a1_1, .int .i64 a1_2] 44 (0,0)) (kB BK659)) (below_size bB));replace HO666:=amk (Kd.R_elder' (oX HO666) (Kd.R_base ho0) hb);replace BK658:=kb2 BK658 hb;replace BK659:=kb2 BK659 hb;replace BK660:=kb2 BK660 hb;replace BK670:=kb2 BK670 hb;replace HB:=hB2 HB hb;(try clear hb);(try clear ho0);refine hK.out _ _ hC_ (fun hHeld=>?_);clear hK K;refine nN_ (some 11) ?_;exact norm_ nJ_ (hJ4_6_9 (v662,v665,gb670) _ ⟨hHeld,(by (with_reducible repeat (first | apply Kd.R_alloc | apply Kd.R_drewN | apply Kd.R_drew));exact Kd.R_mono HO663.out (fun _ hk=>⟨hk.1.2,hk.2⟩)),(by (with_reducible repeat (first | apply Kd.R_alloc | apply Kd.R_drewN | apply Kd.R_drew));exact Kd.R_mono HO666.out (fun _ hk=>⟨hk.2,hk.1⟩)),(kB BK658),(kB BK659),(kB BK660),(kB BK670),GW670.out,GE670.out,NB658_670.out,NB670_658.out,NB659_670.out,NB670_659.out,NB660_670.out,NB670_660.out,bB⟩)
                · skip
                  rintro ⟨v662,gb670⟩ w15 ⟨hS_,h0_,h1_,h2_,h3_,h4_,h5_,h6_,h7_,h8_,h9_,h10_,h11_,h12_,h13_⟩;have HO663:=amk h0_;replace BK658:=amk h1_;replace BK659:=amk h2_;replace BK660:=amk h3_;have BK670:=amk h4_;have GW670:=amk h5_;have GE670:=amk h6_;have NB658_670:=amk h7_;have NB670_658:=amk h8_;have NB659_670:=amk h9_;have NB670_659:=amk h10_;have NB660_670:=amk h11_;have NB670_660:=amk h12_;replace HB:=amk h13_;clear h0_ h1_ h2_ h3_ h4_ h5_ h6_ h7_ h8_ h9_ h10_ h11_ h12_ h13_;have hHeld:=hS_;refine norm_ (a':=?_) ?_ ?_;rotate_left
                  · simp only [putAll,Act.put,List.setIfInBounds_toArray,List.set_cons_zero,List.set_cons_succ]
                    rfl
                  refine oN_ HT_ 6 (some 13) (bA 11 639) (fun K hK=>?_);refine Kd.R_lit_step k44 _ 44 ?hg (N:=13) ?hd (xs:=([(⟨a1_0,a1_1,a1_2⟩:S44)]:List (S44))) (inner:=[.int .i64 a1_0, .int .i64 a1_1, .int .i64 a1_2]) (ok:=fun _=>True) (okp:=fun _=>True) ?hr ?hp (fun _ hk=>hk) trivial (Below.refl _ _) (Nat.le_refl _) (by simp) ?_;(case hd=>rfl);(case hg=>rfl);(case hr=>first | (go_simp;done) | (go_simp;rfl));(case hp=>exact (Reps.c3 (show Kd.M k44 _ _ _ (⟨a1_0,a1_1,a1_2⟩:S44) [.int .i64 a1_0, .int .i64 a1_1, .int .i64 a1_2] from (k44_mkM _ _ _ (⟨a1_0,a1_1,a1_2⟩:S44) )) (Reps.none _ _)));intro v665 w16 ho17 hb hg_ hnew_;clear hg_ hnew_;(first | rw [←Ny664.out] at ho17 | (simp only [Int.reduceToNat] at ho17;rw [←Ny664.out] at ho17));have HO666:=amk (Kd.R_lower (Kd.R_newB (Kd.R_new' ho17 (Kd.R_lt (oX HO663))) (g:=gb659) (o:= .cells #[.int .i64 a1_0, .int .i64 a1_1, .int .i64 a1_2] 44 (0,0)) (kB BK659)) (below_size bB));replace HO663:=amk (Kd.R_elder' (oX HO663) (Kd.R_base ho17) hb);replace BK658:=kb2 BK658 hb;replace BK659:=kb2 BK659 hb;replace BK660:=kb2 BK660 hb;replace BK670:=kb2 BK670 hb;replace HB:=hB2 HB hb;clear hb ho17;refine hK.out _ _ hC_ (fun hHeld=>?_);clear hK K;refine nN_ (some 13) ?_;exact norm_ nJ_ (hJ4_6_9 (v662,v665,gb670) _ ⟨hHeld,(by (with_reducible repeat (first | apply Kd.R_alloc | apply Kd.R_drewN | apply Kd.R_drew));exact Kd.R_mono HO663.out (fun _ hk=>⟨hk.2,hk.1⟩)),(by (with_reducible repeat (first | apply Kd.R_alloc | apply Kd.R_drewN | apply Kd.R_drew));exact Kd.R_mono HO666.out (fun _ hk=>⟨hk.1.2,hk.2⟩)),(kB BK658),(kB BK659),(kB BK660),(kB BK670),GW670.out,GE670.out,NB658_670.out,NB670_658.out,NB659_670.out,NB670_659.out,NB660_670.out,NB670_660.out,bB⟩)
              · skip
                rintro ⟨v662,v665⟩ w16 ⟨hS_,h0_,h1_,h2_,h3_,h4_,h5_⟩;have HO663:=amk h0_;have HO666:=amk h1_;replace BK658:=amk h2_;replace BK659:=amk h3_;replace BK660:=amk h4_;replace HB:=amk h5_;clear h0_ h1_ h2_ h3_ h4_ h5_;have hHeld:=hS_;obtain ⟨Ao18,co18,eo18⟩:=Kd.R_slice HO666.out;(first | subst eo18 | (injection eo18 with f1_ f2_ f3_;have f4_:=f1_.symm;have f5_:=f3_.symm;clear f1_ f2_ f3_;subst f4_;subst f5_));refine norm_ (a':=?_) ?_ ?_;rotate_left
                · simp only [putAll,Act.put,List.setIfInBounds_toArray,List.set_cons_zero,List.set_cons_succ]
                  rfl
                refine two_ (i:=7) (j:=9) (Ni:=some 14) (Nj:=some 6) (bA 11 255) (bA 11 639) rfl rfl rfl rfl (two_of HT_.out (by kernel_rfl)) (by decide) (by decide) (fun K hK=>?_) (fun K hK=>?_)
                · skip
                  refine Kd.R_append_rows_step k44 (w0:=w) w.heap.size (by rfl) (.tmp 11) (.tmp 13) 28 44 (.agg #[(.int .i64 0),(.int .i64 0),(.int .i64 0)]) 24 rfl Try.underlying28 info44 rfl (by decide) (by omega) v662 t661 y664 _ _ _ (fun k_=>some k_≠(.slice Ao18 y664.length co18:Value).ownBlock∧k_≠gb659) (fun _=>False) rfl rfl ?aO ?aR (fun _ _ h=>h) (fun _ h=>h.elim) ?aF ?aB ?aS ?aL ?_;(case aR=>exact cB ((Kd.R_reads' HO666.out).2.2));(case aB=>exact bB);(case aF=>exact (fun k_ hk=>⟨Kd.fresh' (Kd.R_lt (oX HO666)) k_ hk,Kd.freshB (g:=gb659) (o:= .cells #[.int .i64 a1_0, .int .i64 a1_1, .int .i64 a1_2] 44 (0,0)) (kB BK659) k_ hk⟩));(case aO=>exact (oX HO663));(case aS=>exact (below_size bB));(case aL=>have:=LMc4.out;omega);intro v668 w17 ho hb hg hat;rw [←Ny667.out] at ho;replace BK658:=bG BK658 hg (Kd.R_ne HO663.out BK658.out (by decide));replace BK659:=bG BK659 hg (Kd.R_away HO663.out (fun _ hk=>hk.2));replace BK660:=bG BK660 hg (Kd.R_ne HO663.out BK660.out (by decide));replace HO666:=amk (Kd.R_after (ok:=(fun k_=>k_≠gb659)) (by (with_reducible repeat (first | apply Kd.R_alloc | apply Kd.R_drewN | apply Kd.R_drew));exact Kd.R_mono HO666.out (fun _ hk=>⟨hk.2,hk.1⟩)) hg hat);replace HB:=amk (hb);have HO669:=amk (ho);clear HO663;clear ho hb hg hat;obtain ⟨Ao19,co19,eo19⟩:=Kd.R_slice HO669.out;(first | subst eo19 | (injection eo19 with f1_ f2_ f3_;have f4_:=f1_.symm;have f5_:=f3_.symm;clear f1_ f2_ f3_;subst f4_;subst f5_));refine hK.out _ _ hC_ (fun hHeld=>?_);clear hK K;refine nN_ (some 14) ?_;refine pU_ HT_ 8 (some 15) (bA 11 511) ?_;exact norm_ nJ_ (hJ4_6_7 (v662, .slice Ao18 y664.length co18, .slice Ao19 y667.length co19) _ ⟨hHeld,(by (with_reducible repeat (first | apply Kd.R_alloc | apply Kd.R_drewN | apply Kd.R_drew));exact Kd.R_mono HO666.out (fun _ hk=>⟨hk.2,hk.1⟩)),(oX HO669),(kB BK658),(kB BK659),(kB BK660),bB⟩)
                · skip
                  refine box_step ?hg (N:=6) ?hd (cs:= #[.int .i64 0, .int .i64 0, .slice none 0 0]) (t:=30) ?hr ?_;(case hd=>rfl);(case hg=>rfl);(case hr=>first | (go_simp;done) | (go_simp;rfl));intro gb670 hg w17 hbox hb;replace HO663:=amk (Kd.R_below (oX HO663) hb);replace HO666:=amk (Kd.R_below (oX HO666) hb);have BK670:=amk (hbox);have GW670:=sZ HB hg;have GE670:=sZ HB hg;replace HB:=hB2 HB hb;have NB658_670:=neL BK658 hg;have NB670_658:=neR BK658 hg;replace BK658:=kb2 BK658 hb;have NB659_670:=neL BK659 hg;have NB670_659:=neR BK659 hg;replace BK659:=kb2 BK659 hb;have NB660_670:=neL BK660 hg;have NB670_660:=neR BK660 hg;replace BK660:=kb2 BK660 hb;clear hb hbox hg;refine hK.out _ _ hC_ (fun hHeld=>?_);clear hK K;refine nN_ (some 6) ?_;exact norm_ nJ_ (hJ4_6_9 (v662, .slice Ao18 y664.length co18,gb670) _ ⟨hHeld,(oX HO663),(oX HO666),(kB BK658),(kB BK659),(kB BK660),(kB BK670),GW670.out,GE670.out,NB658_670.out,NB670_658.out,NB659_670.out,NB670_659.out,NB660_670.out,NB670_660.out,bB⟩)
            · skip
              rintro ⟨v662,v665,gb670⟩ w17 ⟨hS_,h0_,h1_,h2_,h3_,h4_,h5_,h6_,h7_,h8_,h9_,h10_,h11_,h12_,h13_,h14_⟩;have HO663:=amk h0_;have HO666:=amk h1_;replace BK658:=amk h2_;replace BK659:=amk h3_;replace BK660:=amk h4_;have BK670:=amk h5_;have GW670:=amk h6_;have GE670:=amk h7_;have NB658_670:=amk h8_;have NB670_658:=amk h9_;have NB659_670:=amk h10_;have NB670_659:=amk h11_;have NB660_670:=amk h12_;have NB670_660:=amk h13_;replace HB:=amk h14_;clear h0_ h1_ h2_ h3_ h4_ h5_ h6_ h7_ h8_ h9_ h10_ h11_ h12_ h13_ h14_;have hHeld:=hS_;obtain ⟨Ao19,co19,eo19⟩:=Kd.R_slice HO666.out;(first | subst eo19 | (injection eo19 with f1_ f2_ f3_;have f4_:=f1_.symm;have f5_:=f3_.symm;clear f1_ f2_ f3_;subst f4_;subst f5_));refine norm_ (a':=?_) ?_ ?_;rotate_left
              · simp only [putAll,Act.put,List.setIfInBounds_toArray,List.set_cons_zero,List.set_cons_succ]
                rfl
              refine oN_ HT_ 7 (some 14) (bA 11 767) (fun K hK=>?_);refine Kd.R_append_rows_step k44 (w0:=w) w.heap.size (by rfl) (.tmp 11) (.tmp 13) 28 44 (.agg #[(.int .i64 0),(.int .i64 0),(.int .i64 0)]) 24 rfl Try.underlying28 info44 rfl (by decide) (by omega) v662 t661 y664 _ _ _ (fun k_=>some k_≠(.slice Ao19 y664.length co19:Value).ownBlock∧k_≠gb659) (fun _=>False) rfl rfl ?aO ?aR (fun _ _ h=>h) (fun _ h=>h.elim) ?aF ?aB ?aS ?aL ?_;(case aR=>exact cB ((Kd.R_reads' HO666.out).2.2));(case aB=>exact bB);(case aF=>exact (fun k_ hk=>⟨Kd.fresh' (Kd.R_lt (oX HO666)) k_ hk,Kd.freshB (g:=gb659) (o:= .cells #[.int .i64 a1_0, .int .i64 a1_1, .int .i64 a1_2] 44 (0,0)) (kB BK659) k_ hk⟩));(case aO=>exact (oX HO663));(case aS=>exact (below_size bB));(case aL=>have:=LMc4.out;omega);intro v668 w18 ho hb hg hat;rw [←Ny667.out] at ho;replace BK658:=bG BK658 hg (Kd.R_ne HO663.out BK658.out (by decide));replace BK659:=bG BK659 hg (Kd.R_away HO663.out (fun _ hk=>hk.2));replace BK660:=bG BK660 hg (Kd.R_ne HO663.out BK660.out (by decide));replace HO666:=amk (Kd.R_after (ok:=(fun k_=>k_≠gb659)) (by (with_reducible repeat (first | apply Kd.R_alloc | apply Kd.R_drewN | apply Kd.R_drew));exact Kd.R_mono HO666.out (fun _ hk=>⟨hk.2,hk.1⟩)) hg hat);replace BK670:=bG BK670 hg (Kd.R_ne HO663.out BK670.out (by decide));replace HB:=amk (hb);have HO669:=amk (ho);clear HO663;clear ho hb hg hat;obtain ⟨Ao20,co20,eo20⟩:=Kd.R_slice HO669.out;(first | subst eo20 | (injection eo20 with f1_ f2_ f3_;have f4_:=f1_.symm;have f5_:=f3_.symm;clear f1_ f2_ f3_;subst f4_;subst f5_));refine hK.out _ _ hC_ (fun hHeld=>?_);clear hK K;refine nN_ (some 14) ?_;refine pU_ HT_ 8 (some 15) (bA 11 1023) ?_;exact norm_ nJ_ (hJ4_6_7_9 (v662, .slice Ao19 y664.length co19, .slice Ao20 y667.length co20,gb670) _ ⟨hHeld,(by (with_reducible repeat (first | apply Kd.R_alloc | apply Kd.R_drewN | apply Kd.R_drew));exact Kd.R_mono HO666.out (fun _ hk=>⟨hk.2,hk.1⟩)),(oX HO669),(kB BK658),(kB BK659),(kB BK660),(kB BK670),GW670.out,GE670.out,NB658_670.out,NB670_658.out,NB659_670.out,NB670_659.out,NB660_670.out,NB670_660.out,bB⟩)
          · skip
            rintro ⟨v662,v665,v668⟩ w19 ⟨hS_,h0_,h1_,h2_,h3_,h4_,h5_⟩;have HO666:=amk h0_;have HO669:=amk h1_;replace BK658:=amk h2_;replace BK659:=amk h3_;replace BK660:=amk h4_;replace HB:=amk h5_;clear h0_ h1_ h2_ h3_ h4_ h5_;have hHeld:=hS_;obtain ⟨Ao20,co20,eo20⟩:=Kd.R_slice HO669.out;(first | subst eo20 | (injection eo20 with f1_ f2_ f3_;have f4_:=f1_.symm;have f5_:=f3_.symm;clear f1_ f2_ f3_;subst f4_;subst f5_));refine norm_ (a':=?_) ?_ ?_;rotate_left
            · simp only [putAll,Act.put,List.setIfInBounds_toArray,List.set_cons_zero,List.set_cons_succ]
              rfl
            refine oN_ HT_ 9 (some 6) (bA 11 1023) (fun K hK=>?_);refine box_step ?hg (N:=6) ?hd (cs:= #[.int .i64 0, .int .i64 0, .slice none 0 0]) (t:=30) ?hr ?_;(case hd=>rfl);(case hg=>rfl);(case hr=>first | (go_simp;done) | (go_simp;rfl));intro gb670 hg w21 hbox hb;replace HO666:=amk (Kd.R_below (oX HO666) hb);replace HO669:=amk (Kd.R_below (oX HO669) hb);have BK670:=amk (hbox);have GW670:=sZ HB hg;have GE670:=sZ HB hg;replace HB:=hB2 HB hb;have NB658_670:=neL BK658 hg;have NB670_658:=neR BK658 hg;replace BK658:=kb2 BK658 hb;have NB659_670:=neL BK659 hg;have NB670_659:=neR BK659 hg;replace BK659:=kb2 BK659 hb;have NB660_670:=neL BK660 hg;have NB670_660:=neR BK660 hg;replace BK660:=kb2 BK660 hb;clear hb hbox hg;refine hK.out _ _ hC_ (fun hHeld=>?_);clear hK K;refine nN_ (some 6) ?_;exact norm_ nJ_ (hJ4_6_7_9 (v662,v665, .slice Ao20 y667.length co20,gb670) _ ⟨hHeld,(oX HO666),(oX HO669),(kB BK658),(kB BK659),(kB BK660),(kB BK670),GW670.out,GE670.out,NB658_670.out,NB670_658.out,NB659_670.out,NB670_659.out,NB660_670.out,NB670_660.out,bB⟩)
        rintro ⟨v662,v665,v668,gb670⟩ w20 ⟨hS_,h0_,h1_,h2_,h3_,h4_,h5_,h6_,h7_,h8_,h9_,h10_,h11_,h12_,h13_,h14_⟩;have HO666:=amk h0_;have HO669:=amk h1_;replace BK658:=amk h2_;replace BK659:=amk h3_;replace BK660:=amk h4_;have BK670:=amk h5_;have GW670:=amk h6_;have GE670:=amk h7_;have NB658_670:=amk h8_;have NB670_658:=amk h9_;have NB659_670:=amk h10_;have NB670_659:=amk h11_;have NB660_670:=amk h12_;have NB670_660:=amk h13_;replace HB:=amk h14_;clear h0_ h1_ h2_ h3_ h4_ h5_ h6_ h7_ h8_ h9_ h10_ h11_ h12_ h13_ h14_;have hHeld:=hS_;obtain ⟨Ao21,co21,eo21⟩:=Kd.R_slice HO669.out;(first | subst eo21 | (injection eo21 with f1_ f2_ f3_;have f4_:=f1_.symm;have f5_:=f3_.symm;clear f1_ f2_ f3_;subst f4_;subst f5_));refine norm_ (a':=?_) ?_ ?_;rotate_left
        · simp only [putAll,Act.put,List.setIfInBounds_toArray,List.set_cons_zero,List.set_cons_succ]
          rfl
        refine oN_ HT_ 10 none (bA 11 2047) (fun K hK=>?_);have hs22:w20.cell? ⟨gb670,0,none⟩=some (.int .i64 0):=(blk_cell BK670.out 0).trans rfl;have hfs22:=blk_frozen BK670.out 0;have hns22_0:=NB658_670.out;have hns22_1:=NB659_670.out;have hns22_2:=NB660_670.out;have hms22_0:=NB670_658.out;have hms22_1:=NB670_659.out;have hms22_2:=NB670_660.out;have hs23:w20.cell? ⟨gb670,1,none⟩=some (.int .i64 0):=(blk_cell BK670.out 1).trans rfl;have hfs23:=blk_frozen BK670.out 1;have hns23_0:=NB658_670.out;have hns23_1:=NB659_670.out;have hns23_2:=NB660_670.out;have hms23_0:=NB670_658.out;have hms23_1:=NB670_659.out;have hms23_2:=NB670_660.out;have hs24:w20.cell? ⟨gb670,2,none⟩=some (.slice none 0 0):=(blk_cell BK670.out 2).trans rfl;have hfs24:=blk_frozen BK670.out 2;have hns24_0:=NB658_670.out;have hns24_1:=NB659_670.out;have hns24_2:=NB660_670.out;have hms24_0:=NB670_658.out;have hms24_1:=NB670_659.out;have hms24_2:=NB670_660.out;refine skip_ (w1:=?_) (by rfl) rfl ?_ ?_;rotate_left
        · go_simp
          rfl
        refine hK.out _ _ ⟨((cell_far (p:=⟨gb670,_,none⟩) NB658_670.out _).trans (((cell_far (p:=⟨gb670,_,none⟩) NB658_670.out _).trans (((cell_far (p:=⟨gb670,_,none⟩) NB658_670.out _).trans (hHeld.1)))))),((cell_far (p:=⟨gb670,_,none⟩) NB658_670.out _).trans (((cell_far (p:=⟨gb670,_,none⟩) NB658_670.out _).trans (((cell_far (p:=⟨gb670,_,none⟩) NB658_670.out _).trans (hHeld.2.1)))))),((cell_far (p:=⟨gb670,_,none⟩) NB658_670.out _).trans (((cell_far (p:=⟨gb670,_,none⟩) NB658_670.out _).trans (((cell_far (p:=⟨gb670,_,none⟩) NB658_670.out _).trans (hHeld.2.2.1)))))),((cell_far (p:=⟨gb670,_,none⟩) NB659_670.out _).trans (((cell_far (p:=⟨gb670,_,none⟩) NB659_670.out _).trans (((cell_far (p:=⟨gb670,_,none⟩) NB659_670.out _).trans (hHeld.2.2.2.1)))))),((cell_far (p:=⟨gb670,_,none⟩) NB659_670.out _).trans (((cell_far (p:=⟨gb670,_,none⟩) NB659_670.out _).trans (((cell_far (p:=⟨gb670,_,none⟩) NB659_670.out _).trans (hHeld.2.2.2.2.1)))))),((cell_far (p:=⟨gb670,_,none⟩) NB659_670.out _).trans (((cell_far (p:=⟨gb670,_,none⟩) NB659_670.out _).trans (((cell_far (p:=⟨gb670,_,none⟩) NB659_670.out _).trans (hHeld.2.2.2.2.2))))))⟩ (fun hHeld=>?_);clear hK K;refine done_ (done_of HT_.out (by kernel_rfl)) ?_;have hnb25:=NB658_659.out;have hnc25:=NB659_658.out;have hnb26:=NB658_660.out;have hnc26:=NB660_658.out;have hnb27:=NB658_670.out;have hnc27:=NB670_658.out;obtain ⟨hcz28_0,hcz28_1,hcz28_2,hfz28_0,hfz28_1,hfz28_2⟩:=cells3 BK658.out;(try go_wp2_with (first | (refine gc_ 15 17 Try.func15 #[.agg #[.int .i64 a0_0, .int .i64 a0_1, .slice A0_2 l0_2.length c0_2]] ?_;(with_reducible refine (impl_IsPuzzle.calls a0_0 a0_1 _ _ l0_2 true _ ?_ ?_ A5.out).mono ?_);exact Kd.C_below HR0_2.out bB;exact HC0_2.out;rintro e w29 ⟨rfl,hb⟩;refine ⟨_,rfl,?_⟩;replace HO666:=amk (Kd.R_below (by (with_reducible repeat (first | apply Kd.R_alloc | apply Kd.R_drewN | apply Kd.R_drew));exact (Kd.R_mono (Kd.R_far (p:=⟨gb670,2,none⟩) (Kd.R_far (p:=⟨gb670,1,none⟩) (Kd.R_far (p:=⟨gb670,0,none⟩) (Kd.R_types HO666.out BK670.out (by decide)) (fun _ hk=>hk.2) (.int .i64 a0_0)) (fun _ hk=>hk.2) (.int .i64 a0_1)) (fun _ hk=>hk.2) (.slice Ao21 y667.length co21)) (fun _ h_=>h_.1))) hb);replace HO669:=amk (Kd.R_below (by (with_reducible repeat (first | apply Kd.R_alloc | apply Kd.R_drewN | apply Kd.R_drew));exact (Kd.R_mono (Kd.R_far (p:=⟨gb670,2,none⟩) (Kd.R_far (p:=⟨gb670,1,none⟩) (Kd.R_far (p:=⟨gb670,0,none⟩) (Kd.R_types HO669.out BK670.out (by decide)) (fun _ hk=>hk.2) (.int .i64 a0_0)) (fun _ hk=>hk.2) (.int .i64 a0_1)) (fun _ hk=>hk.2) (.slice Ao21 y667.length co21)) (fun _ h_=>h_.1))) hb);replace BK658:=kb2 BK658 hb;replace BK659:=kb2 BK659 hb;replace BK660:=kb2 BK660 hb;replace BK670:=amk (blk_below (g:=gb670) (o:= .cells #[.int .i64 a0_0, .int .i64 a0_1, .slice Ao21 y667.length co21] 30 (0,0)) (kP BK670) hb);replace HB:=hB2 HB hb;(try clear hb);have hnb30:=NB670_659.out;have hnc30:=NB659_670.out;have hnb31:=NB670_660.out;have hnc31:=NB660_670.out;obtain ⟨hcz32_0,hcz32_1,hcz32_2,hfz32_0,hfz32_1,hfz32_2⟩:=cells3 BK670.out) | (go_at_call 15;(with_reducible refine (impl_IsPuzzle.calls a0_0 a0_1 _ _ y667 true _ ?_ ?_ A7.out).mono ?_);exact cB ((Kd.R_reads' HO669.out).2.2);exact (Kd.R_reads' HO669.out).2.1;rintro e w33 ⟨rfl,hb⟩;replace HO666:=amk (Kd.R_below (oX HO666) hb);replace HO669:=amk (Kd.R_below (oX HO669) hb);replace BK658:=kb2 BK658 hb;replace BK659:=kb2 BK659 hb;replace BK660:=kb2 BK660 hb;replace BK670:=kb2 BK670 hb;replace HB:=hB2 HB hb;(try clear hb);obtain ⟨hcz34_0,hcz34_1,hcz34_2,hfz34_0,hfz34_1,hfz34_2⟩:=cells3 BK670.out;have hnb35:=NB660_659.out;have hnc35:=NB659_660.out;obtain ⟨hcz36_0,hcz36_1,hcz36_2,hfz36_0,hfz36_1,hfz36_2⟩:=cells3 BK660.out)));refine bodyPost_ret (results_ct rfl _ _ gb660 30 #[.int .i64 a0_0, .int .i64 a0_1, .slice Ao21 y667.length co21] (0,0) _ rfl (kP BK660) Try.underlying30 rfl (by kernel_rfl)) rfl ?_;exact ⟨_,rF_,by (with_reducible repeat (first | apply Kd.R_alloc | apply Kd.R_drewN | apply Kd.R_drew));exact Kd.R_mono (Kd.R_far (p:=⟨gb660,2,none⟩) (Kd.R_far (p:=⟨gb660,1,none⟩) (Kd.R_far (p:=⟨gb660,0,none⟩) (Kd.R_types HO669.out BK660.out (by decide)) (fun _ hk=>hk.2) (.int .i64 a0_0)) (fun _ hk=>hk.2) (.int .i64 a0_1)) (fun _ hk=>hk.2) (.slice Ao21 y667.length co21)) (fun _ hk=>trivial),bB⟩
      · simp only [Option.some.injEq,Prod.mk.injEq] at H;obtain ⟨rfl,rfl,rfl,rfl⟩:=H;go_enter Try.func24,Try.ntmps24;(try go_wp2_with (first | ((with_reducible refine gate_dst (N:=2) rfl ?_);refine boxE_ HB 2 #[.int .i64 a0_0, .int .i64 a0_1, .slice A0_2 l0_2.length c0_2] 30 ?_;clear HB;intro gb658 w37 HB BK658 GW658 GE658 hb;clear hb) | ((with_reducible refine gate_dst (N:=3) rfl ?_);refine boxG_ 3 #[.int .i64 a1_0, .int .i64 a1_1, .int .i64 a1_2] 44 ?_;intro gb659 w38 hg BK659 hb;have GW659:=sZ HB hg;have GE659:=sZ HB hg;replace HB:=hB2 HB hb;have NB658_659:=neL BK658 hg;have NB659_658:=neR BK658 hg;replace BK658:=kb2 BK658 hb;clear hb hg) | ((with_reducible refine gate_dst (N:=4) rfl ?_);refine boxG_ 4 #[.int .i64 0, .int .i64 0, .slice none 0 0] 30 ?_;intro gb660 w39 hg BK660 hb;have GW660:=sZ HB hg;have GE660:=sZ HB hg;replace HB:=hB2 HB hb;have NB658_660:=neL BK658 hg;have NB660_658:=neR BK658 hg;replace BK658:=kb2 BK658 hb;have NB659_660:=neL BK659 hg;have NB660_659:=neR BK659 hg;replace BK659:=kb2 BK659 hb;clear hb hg)));replace BK658:=amk (blk_drew BK658.out);replace BK659:=amk (blk_drew BK659.out);replace BK660:=amk (blk_drew BK660.out);replace HB:=amk (bd_ HB.out);refine start_ (n:=11) (S:=fun w'=>w'.cell? ⟨gb658,0,none⟩=some (.int .i64 a0_0)∧w'.cell? ⟨gb658,1,none⟩=some (.int .i64 a0_1)∧w'.cell? ⟨gb658,2,none⟩=some (.slice A0_2 l0_2.length c0_2)∧w'.cell? ⟨gb659,0,none⟩=some (.int .i64 a1_0)∧w'.cell? ⟨gb659,1,none⟩=some (.int .i64 a1_1)∧w'.cell? ⟨gb659,2,none⟩=some (.int .i64 a1_2)) (ds:=[]) (bA 11 0) (by kernel_rfl) rfl rfl ⟨(blk_cell BK658.out 0).trans rfl,(blk_cell BK658.out 1).trans rfl,(blk_cell BK658.out 2).trans rfl,(blk_cell BK659.out 0).trans rfl,(blk_cell BK659.out 1).trans rfl,(blk_cell BK659.out 2).trans rfl⟩ (fun hHeld=>?_);refine with_tabW impl_AddClue.tab1 impl_AddClue.bits1 (fun HT_ HW_=>?_);generalize w39.drew=w40 at BK658 BK659 BK660 HB hHeld ⊢;refine pU_ HT_ 0 (some 7) (bA 11 1) ?_;refine pU_ HT_ 2 (some 9) (bA 11 5) ?_;refine tK_ HT_ HW_ hHeld 1 (some 8) (bA 11 7) ?_;refine tK_ HT_ HW_ hHeld 3 (some 10) (bA 11 15) ?_;refine tK_ HT_ HW_ hHeld 5 (some 12) (bA 11 47) ?_;refine join_ (σ:=Value×Value×Value×Nat) 1 (bA 11 1023) (fun s_=> [(11,s_.1),(13,s_.2.1),(14,s_.2.2.1),(6, .pointer (some ⟨s_.2.2.2,0,none⟩)),(15, .agg #[.int .i64 a0_0, .int .i64 a0_1,s_.2.2.1])]) (fun s_ w'=>(w'.cell? ⟨gb658,0,none⟩=some (.int .i64 a0_0)∧w'.cell? ⟨gb658,1,none⟩=some (.int .i64 a0_1)∧w'.cell? ⟨gb658,2,none⟩=some (.slice A0_2 l0_2.length c0_2)∧w'.cell? ⟨gb659,0,none⟩=some (.int .i64 a1_0)∧w'.cell? ⟨gb659,1,none⟩=some (.int .i64 a1_1)∧w'.cell? ⟨gb659,2,none⟩=some (.int .i64 a1_2))∧(Kd.R k44 44 w' w.heap.size (fun k_=>some k_≠(s_.2.2.1:Value).ownBlock∧k_≠gb659) s_.2.1 y664)∧(Kd.R k44 44 w' w.heap.size (fun k_=>some k_≠(s_.2.1:Value).ownBlock∧k_≠gb659) s_.2.2.1 y667)∧(w'.heap[gb658]?=some (.cells #[.int .i64 a0_0, .int .i64 a0_1, .slice A0_2 l0_2.length c0_2] 30 (0,0)))∧(w'.heap[gb659]?=some (.cells #[.int .i64 a1_0, .int .i64 a1_1, .int .i64 a1_2] 44 (0,0)))∧(w'.heap[gb660]?=some (.cells #[.int .i64 0, .int .i64 0, .slice none 0 0] 30 (0,0)))∧(w'.heap[s_.2.2.2]?=some (.cells #[.int .i64 0, .int .i64 0, .slice none 0 0] 30 (0,0)))∧(w.heap.size≤s_.2.2.2)∧(w.heap.size≤s_.2.2.2)∧(gb658≠s_.2.2.2)∧(s_.2.2.2≠gb658)∧(gb659≠s_.2.2.2)∧(s_.2.2.2≠gb659)∧(gb660≠s_.2.2.2)∧(s_.2.2.2≠gb660)∧(Below w.heap.size w w')) ?_ ?_;rotate_left
        · intro hJ4_6_7_9;refine join_ (σ:=Value×Value×Value) 2 (bA 11 511) (fun s_=> [(11,s_.1),(13,s_.2.1),(14,s_.2.2),(15, .agg #[.int .i64 a0_0, .int .i64 a0_1,s_.2.2])]) (fun s_ w'=>(w'.cell? ⟨gb658,0,none⟩=some (.int .i64 a0_0)∧w'.cell? ⟨gb658,1,none⟩=some (.int .i64 a0_1)∧w'.cell? ⟨gb658,2,none⟩=some (.slice A0_2 l0_2.length c0_2)∧w'.cell? ⟨gb659,0,none⟩=some (.int .i64 a1_0)∧w'.cell? ⟨gb659,1,none⟩=some (.int .i64 a1_1)∧w'.cell? ⟨gb659,2,none⟩=some (.int .i64 a1_2))∧(Kd.R k44 44 w' w.heap.size (fun k_=>some k_≠(s_.2.2:Value).ownBlock∧k_≠gb659) s_.2.1 y664)∧(Kd.R k44 44 w' w.heap.size (fun k_=>some k_≠(s_.2.1:Value).ownBlock∧k_≠gb659) s_.2.2 y667)∧(w'.heap[gb658]?=some (.cells #[.int .i64 a0_0, .int .i64 a0_1, .slice A0_2 l0_2.length c0_2] 30 (0,0)))∧(w'.heap[gb659]?=some (.cells #[.int .i64 a1_0, .int .i64 a1_1, .int .i64 a1_2] 44 (0,0)))∧(w'.heap[gb660]?=some (.cells #[.int .i64 0, .int .i64 0, .slice none 0 0] 30 (0,0)))∧(Below w.heap.size w w')) ?_ ?_;rotate_left
          · intro hJ4_6_7;refine join_ (σ:=Value×Value×Nat) 3 (bA 11 639) (fun s_=> [(11,s_.1),(13,s_.2.1),(6, .pointer (some ⟨s_.2.2,0,none⟩))]) (fun s_ w'=>(w'.cell? ⟨gb658,0,none⟩=some (.int .i64 a0_0)∧w'.cell? ⟨gb658,1,none⟩=some (.int .i64 a0_1)∧w'.cell? ⟨gb658,2,none⟩=some (.slice A0_2 l0_2.length c0_2)∧w'.cell? ⟨gb659,0,none⟩=some (.int .i64 a1_0)∧w'.cell? ⟨gb659,1,none⟩=some (.int .i64 a1_1)∧w'.cell? ⟨gb659,2,none⟩=some (.int .i64 a1_2))∧(Kd.R k44 44 w' w.heap.size (fun k_=>some k_≠(s_.2.1:Value).ownBlock∧k_≠gb659) s_.1 t661)∧(Kd.R k44 44 w' w.heap.size (fun k_=>some k_≠(s_.1:Value).ownBlock∧k_≠gb659) s_.2.1 y664)∧(w'.heap[gb658]?=some (.cells #[.int .i64 a0_0, .int .i64 a0_1, .slice A0_2 l0_2.length c0_2] 30 (0,0)))∧(w'.heap[gb659]?=some (.cells #[.int .i64 a1_0, .int .i64 a1_1, .int .i64 a1_2] 44 (0,0)))∧(w'.heap[gb660]?=some (.cells #[.int .i64 0, .int .i64 0, .slice none 0 0] 30 (0,0)))∧(w'.heap[s_.2.2]?=some (.cells #[.int .i64 0, .int .i64 0, .slice none 0 0] 30 (0,0)))∧(w.heap.size≤s_.2.2)∧(w.heap.size≤s_.2.2)∧(gb658≠s_.2.2)∧(s_.2.2≠gb658)∧(gb659≠s_.2.2)∧(s_.2.2≠gb659)∧(gb660≠s_.2.2)∧(s_.2.2≠gb660)∧(Below w.heap.size w w')) ?_ ?_;rotate_left
            · intro hJ4_6_9;refine join_ (σ:=Value×Value) 4 (bA 11 127) (fun s_=> [(11,s_.1),(13,s_.2)]) (fun s_ w'=>(w'.cell? ⟨gb658,0,none⟩=some (.int .i64 a0_0)∧w'.cell? ⟨gb658,1,none⟩=some (.int .i64 a0_1)∧w'.cell? ⟨gb658,2,none⟩=some (.slice A0_2 l0_2.length c0_2)∧w'.cell? ⟨gb659,0,none⟩=some (.int .i64 a1_0)∧w'.cell? ⟨gb659,1,none⟩=some (.int .i64 a1_1)∧w'.cell? ⟨gb659,2,none⟩=some (.int .i64 a1_2))∧(Kd.R k44 44 w' w.heap.size (fun k_=>some k_≠(s_.2:Value).ownBlock∧k_≠gb659) s_.1 t661)∧(Kd.R k44 44 w' w.heap.size (fun k_=>some k_≠(s_.1:Value).ownBlock∧k_≠gb659) s_.2 y664)∧(w'.heap[gb658]?=some (.cells #[.int .i64 a0_0, .int .i64 a0_1, .slice A0_2 l0_2.length c0_2] 30 (0,0)))∧(w'.heap[gb659]?=some (.cells #[.int .i64 a1_0, .int .i64 a1_1, .int .i64 a1_2] 44 (0,0)))∧(w'.heap[gb660]?=some (.cells #[.int .i64 0, .int .i64 0, .slice none 0 0] 30 (0,0)))∧(Below w.heap.size w w')) ?_ ?_;rotate_left
              · intro hJ4_6;refine join_ (σ:=Value×Nat) 4 (bA 11 575) (fun s_=> [(11,s_.1),(6, .pointer (some ⟨s_.2,0,none⟩))]) (fun s_ w'=>(w'.cell? ⟨gb658,0,none⟩=some (.int .i64 a0_0)∧w'.cell? ⟨gb658,1,none⟩=some (.int .i64 a0_1)∧w'.cell? ⟨gb658,2,none⟩=some (.slice A0_2 l0_2.length c0_2)∧w'.cell? ⟨gb659,0,none⟩=some (.int .i64 a1_0)∧w'.cell? ⟨gb659,1,none⟩=some (.int .i64 a1_1)∧w'.cell? ⟨gb659,2,none⟩=some (.int .i64 a1_2))∧(Kd.R k44 44 w' w.heap.size (fun k_=>k_≠gb659) s_.1 t661)∧(w'.heap[gb658]?=some (.cells #[.int .i64 a0_0, .int .i64 a0_1, .slice A0_2 l0_2.length c0_2] 30 (0,0)))∧(w'.heap[gb659]?=some (.cells #[.int .i64 a1_0, .int .i64 a1_1, .int .i64 a1_2] 44 (0,0)))∧(w'.heap[gb660]?=some (.cells #[.int .i64 0, .int .i64 0, .slice none 0 0] 30 (0,0)))∧(w'.heap[s_.2]?=some (.cells #[.int .i64 0, .int .i64 0, .slice none 0 0] 30 (0,0)))∧(w.heap.size≤s_.2)∧(w.heap.size≤s_.2)∧(gb658≠s_.2)∧(s_.2≠gb658)∧(gb659≠s_.2)∧(s_.2≠gb659)∧(gb660≠s_.2)∧(s_.2≠gb660)∧(Below w.heap.size w w')) ?_ ?_;rotate_left
                · intro hJ4_9;refine join_ (σ:=Value×Nat) 4 (bA 11 623) (fun s_=> [(13,s_.1),(6, .pointer (some ⟨s_.2,0,none⟩))]) (fun s_ w'=>(w'.cell? ⟨gb658,0,none⟩=some (.int .i64 a0_0)∧w'.cell? ⟨gb658,1,none⟩=some (.int .i64 a0_1)∧w'.cell? ⟨gb658,2,none⟩=some (.slice A0_2 l0_2.length c0_2)∧w'.cell? ⟨gb659,0,none⟩=some (.int .i64 a1_0)∧w'.cell? ⟨gb659,1,none⟩=some (.int .i64 a1_1)∧w'.cell? ⟨gb659,2,none⟩=some (.int .i64 a1_2))∧(Kd.R k44 44 w' w.heap.size (fun k_=>k_≠gb659) s_.1 y664)∧(w'.heap[gb658]?=some (.cells #[.int .i64 a0_0, .int .i64 a0_1, .slice A0_2 l0_2.length c0_2] 30 (0,0)))∧(w'.heap[gb659]?=some (.cells #[.int .i64 a1_0, .int .i64 a1_1, .int .i64 a1_2] 44 (0,0)))∧(w'.heap[gb660]?=some (.cells #[.int .i64 0, .int .i64 0, .slice none 0 0] 30 (0,0)))∧(w'.heap[s_.2]?=some (.cells #[.int .i64 0, .int .i64 0, .slice none 0 0] 30 (0,0)))∧(w.heap.size≤s_.2)∧(w.heap.size≤s_.2)∧(gb658≠s_.2)∧(s_.2≠gb658)∧(gb659≠s_.2)∧(s_.2≠gb659)∧(gb660≠s_.2)∧(s_.2≠gb660)∧(Below w.heap.size w w')) ?_ ?_;rotate_left
                  · intro hJ6_9;refine join_ (σ:=Value) 5 (bA 11 63) (fun s_=> [(11,s_)]) (fun s_ w'=>(w'.cell? ⟨gb658,0,none⟩=some (.int .i64 a0_0)∧w'.cell? ⟨gb658,1,none⟩=some (.int .i64 a0_1)∧w'.cell? ⟨gb658,2,none⟩=some (.slice A0_2 l0_2.length c0_2)∧w'.cell? ⟨gb659,0,none⟩=some (.int .i64 a1_0)∧w'.cell? ⟨gb659,1,none⟩=some (.int .i64 a1_1)∧w'.cell? ⟨gb659,2,none⟩=some (.int .i64 a1_2))∧(Kd.R k44 44 w' w.heap.size (fun k_=>k_≠gb659) s_ t661)∧(w'.heap[gb658]?=some (.cells #[.int .i64 a0_0, .int .i64 a0_1, .slice A0_2 l0_2.length c0_2] 30 (0,0)))∧(w'.heap[gb659]?=some (.cells #[.int .i64 a1_0, .int .i64 a1_1, .int .i64 a1_2] 44 (0,0)))∧(w'.heap[gb660]?=some (.cells #[.int .i64 0, .int .i64 0, .slice none 0 0] 30 (0,0)))∧(Below w.heap.size w w')) ?_ ?_;rotate_left
                    · intro hJ4;refine join_ (σ:=Value) 5 (bA 11 111) (fun s_=> [(13,s_)]) (fun s_ w'=>(w'.cell? ⟨gb658,0,none⟩=some (.int .i64 a0_0)∧w'.cell? ⟨gb658,1,none⟩=some (.int .i64 a0_1)∧w'.cell? ⟨gb658,2,none⟩=some (.slice A0_2 l0_2.length c0_2)∧w'.cell? ⟨gb659,0,none⟩=some (.int .i64 a1_0)∧w'.cell? ⟨gb659,1,none⟩=some (.int .i64 a1_1)∧w'.cell? ⟨gb659,2,none⟩=some (.int .i64 a1_2))∧(Kd.R k44 44 w' w.heap.size (fun k_=>k_≠gb659) s_ y664)∧(w'.heap[gb658]?=some (.cells #[.int .i64 a0_0, .int .i64 a0_1, .slice A0_2 l0_2.length c0_2] 30 (0,0)))∧(w'.heap[gb659]?=some (.cells #[.int .i64 a1_0, .int .i64 a1_1, .int .i64 a1_2] 44 (0,0)))∧(w'.heap[gb660]?=some (.cells #[.int .i64 0, .int .i64 0, .slice none 0 0] 30 (0,0)))∧(Below w.heap.size w w')) ?_ ?_;rotate_left
                      · intro hJ6;refine join_ (σ:=Nat) 5 (bA 11 559) (fun s_=> [(6, .pointer (some ⟨s_,0,none⟩))]) (fun s_ w'=>(w'.cell? ⟨gb658,0,none⟩=some (.int .i64 a0_0)∧w'.cell? ⟨gb658,1,none⟩=some (.int .i64 a0_1)∧w'.cell? ⟨gb658,2,none⟩=some (.slice A0_2 l0_2.length c0_2)∧w'.cell? ⟨gb659,0,none⟩=some (.int .i64 a1_0)∧w'.cell? ⟨gb659,1,none⟩=some (.int .i64 a1_1)∧w'.cell? ⟨gb659,2,none⟩=some (.int .i64 a1_2))∧(w'.heap[gb658]?=some (.cells #[.int .i64 a0_0, .int .i64 a0_1, .slice A0_2 l0_2.length c0_2] 30 (0,0)))∧(w'.heap[gb659]?=some (.cells #[.int .i64 a1_0, .int .i64 a1_1, .int .i64 a1_2] 44 (0,0)))∧(w'.heap[gb660]?=some (.cells #[.int .i64 0, .int .i64 0, .slice none 0 0] 30 (0,0)))∧(w'.heap[s_]?=some (.cells #[.int .i64 0, .int .i64 0, .slice none 0 0] 30 (0,0)))∧(w.heap.size≤s_)∧(w.heap.size≤s_)∧(gb658≠s_)∧(s_≠gb658)∧(gb659≠s_)∧(s_≠gb659)∧(gb660≠s_)∧(s_≠gb660)∧(Below w.heap.size w w')) ?_ ?_;rotate_left
                        · intro hJ9;refine three_ (i:=4) (j:=6) (k:=9) (Ni:=some 11) (Nj:=some 13) (Nk:=some 6) (bA 11 63) (bA 11 111) (bA 11 559) rfl rfl rfl rfl rfl rfl (three_of HT_.out (by kernel_rfl)) (by decide) (by decide) (by decide) (fun K hK=>?_) (fun K hK=>?_) (fun K hK=>?_)
                          · skip
                            refine gs_ Try.func63 #[.slice A0_2 l0_2.length c0_2] ?_;(with_reducible refine (slices_Clone_impl_Clue_impl_Clue.calls _ _ l0_2 t661 _ ?_ ?_ A3.out).mono ?_);exact cB (Kd.C_below HR0_2.out HB.out);exact HC0_2.out;rintro e w41 ⟨v662,rfl,ho0,hb⟩;refine ⟨_,rfl,?_⟩;have HO663:=amk (Kd.R_lower (Kd.R_newB ho0 (g:=gb659) (o:= .cells #[.int .i64 a1_0, .int .i64 a1_1, .int .i64 a1_2] 44 (0,0)) (kB BK659)) (below_size bB));replace BK658:=kb2 BK658 hb;replace BK659:=kb2 BK659 hb;replace BK660:=kb2 BK660 hb;replace HB:=hB2 HB hb;(try clear hb);(try clear ho0);refine hK.out _ _ hC_ (fun hHeld=>?_);clear hK K;refine nN_ (some 11) ?_;exact norm_ nJ_ (hJ4 (v662) _ ⟨hHeld,(by (with_reducible repeat (first | apply Kd.R_alloc | apply Kd.R_drewN | apply Kd.R_drew));exact Kd.R_mono HO663.out (fun _ hk=>hk.2)),(kB BK658),(kB BK659),(kB BK660),bB⟩)
                          · skip
                            refine Kd.R_lit_step k44 _ 44 ?hg (N:=13) ?hd (xs:=([(⟨a1_0,a1_1,a1_2⟩:S44)]:List (S44))) (inner:=[.int .i64 a1_0, .int .i64 a1_1, .int .i64 a1_2]) (ok:=fun _=>True) (okp:=fun _=>True) ?hr ?hp (fun _ hk=>hk) trivial (Below.refl _ _) (Nat.le_refl _) (by simp) ?_;(case hd=>rfl);(case hg=>rfl);(case hr=>first | (go_simp;done) | (go_simp;rfl));(case hp=>exact (Reps.c3 (show Kd.M k44 _ _ _ (⟨a1_0,a1_1,a1_2⟩:S44) [.int .i64 a1_0, .int .i64 a1_1, .int .i64 a1_2] from (k44_mkM _ _ _ (⟨a1_0,a1_1,a1_2⟩:S44) )) (Reps.none _ _)));intro v665 w41 ho42 hb hg_ hnew_;clear hg_ hnew_;(first | rw [←Ny664.out] at ho42 | (simp only [Int.reduceToNat] at ho42;rw [←Ny664.out] at ho42));have HO666:=amk (Kd.R_lower (Kd.R_newB ho42 (g:=gb659) (o:= .cells #[.int .i64 a1_0, .int .i64 a1_1, .int .i64 a1_2] 44 (0,0)) (kB BK659)) (below_size bB));replace BK658:=kb2 BK658 hb;replace BK659:=kb2 BK659 hb;replace BK660:=kb2 BK660 hb;replace HB:=hB2 HB hb;clear hb ho42;refine hK.out _ _ hC_ (fun hHeld=>?_);clear hK K;refine nN_ (some 13) ?_;exact norm_ nJ_ (hJ6 (v665) _ ⟨hHeld,(by (with_reducible repeat (first | apply Kd.R_alloc | apply Kd.R_drewN | apply Kd.R_drew));exact Kd.R_mono HO666.out (fun _ hk=>hk.2)),(kB BK658),(kB BK659),(kB BK660),bB⟩)
                          · skip
                            refine box_step ?hg (N:=6) ?hd (cs:= #[.int .i64 0, .int .i64 0, .slice none 0 0]) (t:=30) ?hr ?_;(case hd=>rfl);(case hg=>rfl);(case hr=>first | (go_simp;done) | (go_simp;rfl));intro gb670 hg w41 hbox hb;have BK670:=amk (hbox);have GW670:=sZ HB hg;have GE670:=sZ HB hg;replace HB:=hB2 HB hb;have NB658_670:=neL BK658 hg;have NB670_658:=neR BK658 hg;replace BK658:=kb2 BK658 hb;have NB659_670:=neL BK659 hg;have NB670_659:=neR BK659 hg;replace BK659:=kb2 BK659 hb;have NB660_670:=neL BK660 hg;have NB670_660:=neR BK660 hg;replace BK660:=kb2 BK660 hb;clear hb hbox hg;refine hK.out _ _ hC_ (fun hHeld=>?_);clear hK K;refine nN_ (some 6) ?_;exact norm_ nJ_ (hJ9 (gb670) _ ⟨hHeld,(kB BK658),(kB BK659),(kB BK660),(kB BK670),GW670.out,GE670.out,NB658_670.out,NB670_658.out,NB659_670.out,NB670_659.out,NB660_670.out,NB670_660.out,bB⟩)
                        · skip
                          rintro gb670 w42 ⟨hS_,h0_,h1_,h2_,h3_,h4_,h5_,h6_,h7_,h8_,h9_,h10_,h11_,h12_⟩;replace BK658:=amk h0_;replace BK659:=amk h1_;replace BK660:=amk h2_;have BK670:=amk h3_;have GW670:=amk h4_;have GE670:=amk h5_;have NB658_670:=amk h6_;have NB670_658:=amk h7_;have NB659_670:=amk h8_;have NB670_659:=amk h9_;have NB660_670:=amk h10_;have NB670_660:=amk h11_;replace HB:=amk h12_;clear h0_ h1_ h2_ h3_ h4_ h5_ h6_ h7_ h8_ h9_ h10_ h11_ h12_;have hHeld:=hS_;refine norm_ (a':=?_) ?_ ?_;rotate_left
                          · simp only [putAll,Act.put,List.setIfInBounds_toArray,List.set_cons_zero,List.set_cons_succ]
                            rfl
                          refine two_ (i:=4) (j:=6) (Ni:=some 11) (Nj:=some 13) (bA 11 575) (bA 11 623) rfl rfl rfl rfl (two_of HT_.out (by kernel_rfl)) (by decide) (by decide) (fun K hK=>?_) (fun K hK=>?_)
                          · skip
                            refine gs_ Try.func63 #[.slice A0_2 l0_2.length c0_2] ?_;(with_reducible refine (slices_Clone_impl_Clue_impl_Clue.calls _ _ l0_2 t661 _ ?_ ?_ A3.out).mono ?_);exact cB (Kd.C_below HR0_2.out HB.out);exact HC0_2.out;rintro e w43 ⟨v662,rfl,ho0,hb⟩;refine ⟨_,rfl,?_⟩;have HO663:=amk (Kd.R_lower (Kd.R_newB ho0 (g:=gb659) (o:= .cells #[.int .i64 a1_0, .int .i64 a1_1, .int .i64 a1_2] 44 (0,0)) (kB BK659)) (below_size bB));replace BK658:=kb2 BK658 hb;replace BK659:=kb2 BK659 hb;replace BK660:=kb2 BK660 hb;replace BK670:=kb2 BK670 hb;replace HB:=hB2 HB hb;(try clear hb);(try clear ho0);refine hK.out _ _ hC_ (fun hHeld=>?_);clear hK K;refine nN_ (some 11) ?_;exact norm_ nJ_ (hJ4_9 (v662,gb670) _ ⟨hHeld,(by (with_reducible repeat (first | apply Kd.R_alloc | apply Kd.R_drewN | apply Kd.R_drew));exact Kd.R_mono HO663.out (fun _ hk=>hk.2)),(kB BK658),(kB BK659),(kB BK660),(kB BK670),GW670.out,GE670.out,NB658_670.out,NB670_658.out,NB659_670.out,NB670_659.out,NB660_670.out,NB670_660.out,bB⟩)
                          · skip
                            refine Kd.R_lit_step k44 _ 44 ?hg (N:=13) ?hd (xs:=([(⟨a1_0,a1_1,a1_2⟩:S44)]:List (S44))) (inner:=[.int .i64 a1_0, .int .i64 a1_1, .int .i64 a1_2]) (ok:=fun _=>True) (okp:=fun _=>True) ?hr ?hp (fun _ hk=>hk) trivial (Below.refl _ _) (Nat.le_refl _) (by simp) ?_;(case hd=>rfl);(case hg=>rfl);(case hr=>first | (go_simp;done) | (go_simp;rfl));(case hp=>exact (Reps.c3 (show Kd.M k44 _ _ _ (⟨a1_0,a1_1,a1_2⟩:S44) [.int .i64 a1_0, .int .i64 a1_1, .int .i64 a1_2] from (k44_mkM _ _ _ (⟨a1_0,a1_1,a1_2⟩:S44) )) (Reps.none _ _)));intro v665 w43 ho44 hb hg_ hnew_;clear hg_ hnew_;(first | rw [←Ny664.out] at ho44 | (simp only [Int.reduceToNat] at ho44;rw [←Ny664.out] at ho44));have HO666:=amk (Kd.R_lower (Kd.R_newB ho44 (g:=gb659) (o:= .cells #[.int .i64 a1_0, .int .i64 a1_1, .int .i64 a1_2] 44 (0,0)) (kB BK659)) (below_size bB));replace BK658:=kb2 BK658 hb;replace BK659:=kb2 BK659 hb;replace BK660:=kb2 BK660 hb;replace BK670:=kb2 BK670 hb;replace HB:=hB2 HB hb;clear hb ho44;refine hK.out _ _ hC_ (fun hHeld=>?_);clear hK K;refine nN_ (some 13) ?_;exact norm_ nJ_ (hJ6_9 (v665,gb670) _ ⟨hHeld,(by (with_reducible repeat (first | apply Kd.R_alloc | apply Kd.R_drewN | apply Kd.R_drew));exact Kd.R_mono HO666.out (fun _ hk=>hk.2)),(kB BK658),(kB BK659),(kB BK660),(kB BK670),GW670.out,GE670.out,NB658_670.out,NB670_658.out,NB659_670.out,NB670_659.out,NB660_670.out,NB670_660.out,bB⟩)
                      · skip
                        rintro v665 w43 ⟨hS_,h0_,h1_,h2_,h3_,h4_⟩;have HO666:=amk h0_;replace BK658:=amk h1_;replace BK659:=amk h2_;replace BK660:=amk h3_;replace HB:=amk h4_;clear h0_ h1_ h2_ h3_ h4_;have hHeld:=hS_;refine norm_ (a':=?_) ?_ ?_;rotate_left
                        · simp only [putAll,Act.put,List.setIfInBounds_toArray,List.set_cons_zero,List.set_cons_succ]
                          rfl
                        refine two_ (i:=4) (j:=9) (Ni:=some 11) (Nj:=some 6) (bA 11 127) (bA 11 623) rfl rfl rfl rfl (two_of HT_.out (by kernel_rfl)) (by decide) (by decide) (fun K hK=>?_) (fun K hK=>?_)
                        · skip
                          refine gs_ Try.func63 #[.slice A0_2 l0_2.length c0_2] ?_;(with_reducible refine (slices_Clone_impl_Clue_impl_Clue.calls _ _ l0_2 t661 _ ?_ ?_ A3.out).mono ?_);exact cB (Kd.C_below HR0_2.out HB.out);exact HC0_2.out;rintro e w44 ⟨v662,rfl,ho0,hb⟩;refine ⟨_,rfl,?_⟩;have HO663:=amk (Kd.R_lower (Kd.R_newB (Kd.R_new' ho0 (Kd.R_lt (oX HO666))) (g:=gb659) (o:= .cells #[.int .i64 a1_0, .int .i64 a1_1, .int .i64 a1_2] 44 (0,0)) (kB BK659)) (below_size bB));replace HO666:=amk (Kd.R_elder' (oX HO666) (Kd.R_base ho0) hb);replace BK658:=kb2 BK658 hb;replace BK659:=kb2 BK659 hb;replace BK660:=kb2 BK660 hb;replace HB:=hB2 HB hb;(try clear hb);(try clear ho0);refine hK.out _ _ hC_ (fun hHeld=>?_);clear hK K;refine nN_ (some 11) ?_;exact norm_ nJ_ (hJ4_6 (v662,v665) _ ⟨hHeld,(by (with_reducible repeat (first | apply Kd.R_alloc | apply Kd.R_drewN | apply Kd.R_drew));exact Kd.R_mono HO663.out (fun _ hk=>⟨hk.1.2,hk.2⟩)),(by (with_reducible repeat (first | apply Kd.R_alloc | apply Kd.R_drewN | apply Kd.R_drew));exact Kd.R_mono HO666.out (fun _ hk=>⟨hk.2,hk.1⟩)),(kB BK658),(kB BK659),(kB BK660),bB⟩)
                        · skip
                          refine box_step ?hg (N:=6) ?hd (cs:= #[.int .i64 0, .int .i64 0, .slice none 0 0]) (t:=30) ?hr ?_;(case hd=>rfl);(case hg=>rfl);(case hr=>first | (go_simp;done) | (go_simp;rfl));intro gb670 hg w44 hbox hb;replace HO666:=amk (Kd.R_below (oX HO666) hb);have BK670:=amk (hbox);have GW670:=sZ HB hg;have GE670:=sZ HB hg;replace HB:=hB2 HB hb;have NB658_670:=neL BK658 hg;have NB670_658:=neR BK658 hg;replace BK658:=kb2 BK658 hb;have NB659_670:=neL BK659 hg;have NB670_659:=neR BK659 hg;replace BK659:=kb2 BK659 hb;have NB660_670:=neL BK660 hg;have NB670_660:=neR BK660 hg;replace BK660:=kb2 BK660 hb;clear hb hbox hg;refine hK.out _ _ hC_ (fun hHeld=>?_);clear hK K;refine nN_ (some 6) ?_;exact norm_ nJ_ (hJ6_9 (v665,gb670) _ ⟨hHeld,(oX HO666),(kB BK658),(kB BK659),(kB BK660),(kB BK670),GW670.out,GE670.out,NB658_670.out,NB670_658.out,NB659_670.out,NB670_659.out,NB660_670.out,NB670_660.out,bB⟩)
                    · skip
                      rintro v662 w42 ⟨hS_,h0_,h1_,h2_,h3_,h4_⟩;have HO663:=amk h0_;replace BK658:=amk h1_;replace BK659:=amk h2_;replace BK660:=amk h3_;replace HB:=amk h4_;clear h0_ h1_ h2_ h3_ h4_;have hHeld:=hS_;refine norm_ (a':=?_) ?_ ?_;rotate_left
                      · simp only [putAll,Act.put,List.setIfInBounds_toArray,List.set_cons_zero,List.set_cons_succ]
                        rfl
                      refine two_ (i:=6) (j:=9) (Ni:=some 13) (Nj:=some 6) (bA 11 127) (bA 11 575) rfl rfl rfl rfl (two_of HT_.out (by kernel_rfl)) (by decide) (by decide) (fun K hK=>?_) (fun K hK=>?_)
                      · skip
                        refine Kd.R_lit_step k44 _ 44 ?hg (N:=13) ?hd (xs:=([(⟨a1_0,a1_1,a1_2⟩:S44)]:List (S44))) (inner:=[.int .i64 a1_0, .int .i64 a1_1, .int .i64 a1_2]) (ok:=fun _=>True) (okp:=fun _=>True) ?hr ?hp (fun _ hk=>hk) trivial (Below.refl _ _) (Nat.le_refl _) (by simp) ?_;(case hd=>rfl);(case hg=>rfl);(case hr=>first | (go_simp;done) | (go_simp;rfl));(case hp=>exact (Reps.c3 (show Kd.M k44 _ _ _ (⟨a1_0,a1_1,a1_2⟩:S44) [.int .i64 a1_0, .int .i64 a1_1, .int .i64 a1_2] from (k44_mkM _ _ _ (⟨a1_0,a1_1,a1_2⟩:S44) )) (Reps.none _ _)));intro v665 w43 ho44 hb hg_ hnew_;clear hg_ hnew_;(first | rw [←Ny664.out] at ho44 | (simp only [Int.reduceToNat] at ho44;rw [←Ny664.out] at ho44));have HO666:=amk (Kd.R_lower (Kd.R_newB (Kd.R_new' ho44 (Kd.R_lt (oX HO663))) (g:=gb659) (o:= .cells #[.int .i64 a1_0, .int .i64 a1_1, .int .i64 a1_2] 44 (0,0)) (kB BK659)) (below_size bB));replace HO663:=amk (Kd.R_elder' (oX HO663) (Kd.R_base ho44) hb);replace BK658:=kb2 BK658 hb;replace BK659:=kb2 BK659 hb;replace BK660:=kb2 BK660 hb;replace HB:=hB2 HB hb;clear hb ho44;refine hK.out _ _ hC_ (fun hHeld=>?_);clear hK K;refine nN_ (some 13) ?_;exact norm_ nJ_ (hJ4_6 (v662,v665) _ ⟨hHeld,(by (with_reducible repeat (first | apply Kd.R_alloc | apply Kd.R_drewN | apply Kd.R_drew));exact Kd.R_mono HO663.out (fun _ hk=>⟨hk.2,hk.1⟩)),(by (with_reducible repeat (first | apply Kd.R_alloc | apply Kd.R_drewN | apply Kd.R_drew));exact Kd.R_mono HO666.out (fun _ hk=>⟨hk.1.2,hk.2⟩)),(kB BK658),(kB BK659),(kB BK660),bB⟩)
                      · skip
                        refine box_step ?hg (N:=6) ?hd (cs:= #[.int .i64 0, .int .i64 0, .slice none 0 0]) (t:=30) ?hr ?_;(case hd=>rfl);(case hg=>rfl);(case hr=>first | (go_simp;done) | (go_simp;rfl));intro gb670 hg w43 hbox hb;replace HO663:=amk (Kd.R_below (oX HO663) hb);have BK670:=amk (hbox);have GW670:=sZ HB hg;have GE670:=sZ HB hg;replace HB:=hB2 HB hb;have NB658_670:=neL BK658 hg;have NB670_658:=neR BK658 hg;replace BK658:=kb2 BK658 hb;have NB659_670:=neL BK659 hg;have NB670_659:=neR BK659 hg;replace BK659:=kb2 BK659 hb;have NB660_670:=neL BK660 hg;have NB670_660:=neR BK660 hg;replace BK660:=kb2 BK660 hb;clear hb hbox hg;refine hK.out _ _ hC_ (fun hHeld=>?_);clear hK K;refine nN_ (some 6) ?_;exact norm_ nJ_ (hJ4_9 (v662,gb670) _ ⟨hHeld,(oX HO663),(kB BK658),(kB BK659),(kB BK660),(kB BK670),GW670.out,GE670.out,NB658_670.out,NB670_658.out,NB659_670.out,NB670_659.out,NB660_670.out,NB670_660.out,bB⟩)
                  · skip
                    rintro ⟨v665,gb670⟩ w44 ⟨hS_,h0_,h1_,h2_,h3_,h4_,h5_,h6_,h7_,h8_,h9_,h10_,h11_,h12_,h13_⟩;have HO666:=amk h0_;replace BK658:=amk h1_;replace BK659:=amk h2_;replace BK660:=amk h3_;have BK670:=amk h4_;have GW670:=amk h5_;have GE670:=amk h6_;have NB658_670:=amk h7_;have NB670_658:=amk h8_;have NB659_670:=amk h9_;have NB670_659:=amk h10_;have NB660_670:=amk h11_;have NB670_660:=amk h12_;replace HB:=amk h13_;clear h0_ h1_ h2_ h3_ h4_ h5_ h6_ h7_ h8_ h9_ h10_ h11_ h12_ h13_;have hHeld:=hS_;refine norm_ (a':=?_) ?_ ?_;rotate_left
                    · simp only [putAll,Act.put,List.setIfInBounds_toArray,List.set_cons_zero,List.set_cons_succ]
                      rfl
                    refine oN_ HT_ 4 (some 11) (bA 11 639) (fun K hK=>?_);refine gs_ Try.func63 #[.slice A0_2 l0_2.length c0_2] ?_;(with_reducible refine (slices_Clone_impl_Clue_impl_Clue.calls _ _ l0_2 t661 _ ?_ ?_ A3.out).mono ?_);exact cB (Kd.C_below HR0_2.out HB.out);exact HC0_2.out;rintro e w45 ⟨v662,rfl,ho0,hb⟩;refine ⟨_,rfl,?_⟩;have HO663:=amk (Kd.R_lower (Kd.R_newB (Kd.R_new' ho0 (Kd.R_lt (oX HO666))) (g:=gb659) (o:= .cells #[.int .i64 a1_0, .int .i64 a1_1, .int .i64 a1_2] 44 (0,0)) (kB BK659)) (below_size bB));replace HO666:=amk (Kd.R_elder' (oX HO666) (Kd.R_base ho0) hb);replace BK658:=kb2 BK658 hb;replace BK659:=kb2 BK659 hb;replace BK660:=kb2 BK660 hb;replace BK670:=kb2 BK670 hb;replace HB:=hB2 HB hb;(try clear hb);(try clear ho0);refine hK.out _ _ hC_ (fun hHeld=>?_);clear hK K;refine nN_ (some 11) ?_;exact norm_ nJ_ (hJ4_6_9 (v662,v665,gb670) _ ⟨hHeld,(by (with_reducible repeat (first | apply Kd.R_alloc | apply Kd.R_drewN | apply Kd.R_drew));exact Kd.R_mono HO663.out (fun _ hk=>⟨hk.1.2,hk.2⟩)),(by (with_reducible repeat (first | apply Kd.R_alloc | apply Kd.R_drewN | apply Kd.R_drew));exact Kd.R_mono HO666.out (fun _ hk=>⟨hk.2,hk.1⟩)),(kB BK658),(kB BK659),(kB BK660),(kB BK670),GW670.out,GE670.out,NB658_670.out,NB670_658.out,NB659_670.out,NB670_659.out,NB660_670.out,NB670_660.out,bB⟩)
                · skip
                  rintro ⟨v662,gb670⟩ w43 ⟨hS_,h0_,h1_,h2_,h3_,h4_,h5_,h6_,h7_,h8_,h9_,h10_,h11_,h12_,h13_⟩;have HO663:=amk h0_;replace BK658:=amk h1_;replace BK659:=amk h2_;replace BK660:=amk h3_;have BK670:=amk h4_;have GW670:=amk h5_;have GE670:=amk h6_;have NB658_670:=amk h7_;have NB670_658:=amk h8_;have NB659_670:=amk h9_;have NB670_659:=amk h10_;have NB660_670:=amk h11_;have NB670_660:=amk h12_;replace HB:=amk h13_;clear h0_ h1_ h2_ h3_ h4_ h5_ h6_ h7_ h8_ h9_ h10_ h11_ h12_ h13_;have hHeld:=hS_;refine norm_ (a':=?_) ?_ ?_;rotate_left
                  · simp only [putAll,Act.put,List.setIfInBounds_toArray,List.set_cons_zero,List.set_cons_succ]
                    rfl
                  refine oN_ HT_ 6 (some 13) (bA 11 639) (fun K hK=>?_);refine Kd.R_lit_step k44 _ 44 ?hg (N:=13) ?hd (xs:=([(⟨a1_0,a1_1,a1_2⟩:S44)]:List (S44))) (inner:=[.int .i64 a1_0, .int .i64 a1_1, .int .i64 a1_2]) (ok:=fun _=>True) (okp:=fun _=>True) ?hr ?hp (fun _ hk=>hk) trivial (Below.refl _ _) (Nat.le_refl _) (by simp) ?_;(case hd=>rfl);(case hg=>rfl);(case hr=>first | (go_simp;done) | (go_simp;rfl));(case hp=>exact (Reps.c3 (show Kd.M k44 _ _ _ (⟨a1_0,a1_1,a1_2⟩:S44) [.int .i64 a1_0, .int .i64 a1_1, .int .i64 a1_2] from (k44_mkM _ _ _ (⟨a1_0,a1_1,a1_2⟩:S44) )) (Reps.none _ _)));intro v665 w44 ho45 hb hg_ hnew_;clear hg_ hnew_;(first | rw [←Ny664.out] at ho45 | (simp only [Int.reduceToNat] at ho45;rw [←Ny664.out] at ho45));have HO666:=amk (Kd.R_lower (Kd.R_newB (Kd.R_new' ho45 (Kd.R_lt (oX HO663))) (g:=gb659) (o:= .cells #[.int .i64 a1_0, .int .i64 a1_1, .int .i64 a1_2] 44 (0,0)) (kB BK659)) (below_size bB));replace HO663:=amk (Kd.R_elder' (oX HO663) (Kd.R_base ho45) hb);replace BK658:=kb2 BK658 hb;replace BK659:=kb2 BK659 hb;replace BK660:=kb2 BK660 hb;replace BK670:=kb2 BK670 hb;replace HB:=hB2 HB hb;clear hb ho45;refine hK.out _ _ hC_ (fun hHeld=>?_);clear hK K;refine nN_ (some 13) ?_;exact norm_ nJ_ (hJ4_6_9 (v662,v665,gb670) _ ⟨hHeld,(by (with_reducible repeat (first | apply Kd.R_alloc | apply Kd.R_drewN | apply Kd.R_drew));exact Kd.R_mono HO663.out (fun _ hk=>⟨hk.2,hk.1⟩)),(by (with_reducible repeat (first | apply Kd.R_alloc | apply Kd.R_drewN | apply Kd.R_drew));exact Kd.R_mono HO666.out (fun _ hk=>⟨hk.1.2,hk.2⟩)),(kB BK658),(kB BK659),(kB BK660),(kB BK670),GW670.out,GE670.out,NB658_670.out,NB670_658.out,NB659_670.out,NB670_659.out,NB660_670.out,NB670_660.out,bB⟩)
              · skip
                rintro ⟨v662,v665⟩ w44 ⟨hS_,h0_,h1_,h2_,h3_,h4_,h5_⟩;have HO663:=amk h0_;have HO666:=amk h1_;replace BK658:=amk h2_;replace BK659:=amk h3_;replace BK660:=amk h4_;replace HB:=amk h5_;clear h0_ h1_ h2_ h3_ h4_ h5_;have hHeld:=hS_;obtain ⟨Ao46,co46,eo46⟩:=Kd.R_slice HO666.out;(first | subst eo46 | (injection eo46 with f1_ f2_ f3_;have f4_:=f1_.symm;have f5_:=f3_.symm;clear f1_ f2_ f3_;subst f4_;subst f5_));refine norm_ (a':=?_) ?_ ?_;rotate_left
                · simp only [putAll,Act.put,List.setIfInBounds_toArray,List.set_cons_zero,List.set_cons_succ]
                  rfl
                refine two_ (i:=7) (j:=9) (Ni:=some 14) (Nj:=some 6) (bA 11 255) (bA 11 639) rfl rfl rfl rfl (two_of HT_.out (by kernel_rfl)) (by decide) (by decide) (fun K hK=>?_) (fun K hK=>?_)
                · skip
                  refine Kd.R_append_rows_step k44 (w0:=w) w.heap.size (by rfl) (.tmp 11) (.tmp 13) 28 44 (.agg #[(.int .i64 0),(.int .i64 0),(.int .i64 0)]) 24 rfl Try.underlying28 info44 rfl (by decide) (by omega) v662 t661 y664 _ _ _ (fun k_=>some k_≠(.slice Ao46 y664.length co46:Value).ownBlock∧k_≠gb659) (fun _=>False) rfl rfl ?aO ?aR (fun _ _ h=>h) (fun _ h=>h.elim) ?aF ?aB ?aS ?aL ?_;(case aR=>exact cB ((Kd.R_reads' HO666.out).2.2));(case aB=>exact bB);(case aF=>exact (fun k_ hk=>⟨Kd.fresh' (Kd.R_lt (oX HO666)) k_ hk,Kd.freshB (g:=gb659) (o:= .cells #[.int .i64 a1_0, .int .i64 a1_1, .int .i64 a1_2] 44 (0,0)) (kB BK659) k_ hk⟩));(case aO=>exact (oX HO663));(case aS=>exact (below_size bB));(case aL=>have:=LMc4.out;omega);intro v668 w45 ho hb hg hat;rw [←Ny667.out] at ho;replace BK658:=bG BK658 hg (Kd.R_ne HO663.out BK658.out (by decide));replace BK659:=bG BK659 hg (Kd.R_away HO663.out (fun _ hk=>hk.2));replace BK660:=bG BK660 hg (Kd.R_ne HO663.out BK660.out (by decide));replace HO666:=amk (Kd.R_after (ok:=(fun k_=>k_≠gb659)) (by (with_reducible repeat (first | apply Kd.R_alloc | apply Kd.R_drewN | apply Kd.R_drew));exact Kd.R_mono HO666.out (fun _ hk=>⟨hk.2,hk.1⟩)) hg hat);replace HB:=amk (hb);have HO669:=amk (ho);clear HO663;clear ho hb hg hat;obtain ⟨Ao47,co47,eo47⟩:=Kd.R_slice HO669.out;(first | subst eo47 | (injection eo47 with f1_ f2_ f3_;have f4_:=f1_.symm;have f5_:=f3_.symm;clear f1_ f2_ f3_;subst f4_;subst f5_));refine hK.out _ _ hC_ (fun hHeld=>?_);clear hK K;refine nN_ (some 14) ?_;refine pU_ HT_ 8 (some 15) (bA 11 511) ?_;exact norm_ nJ_ (hJ4_6_7 (v662, .slice Ao46 y664.length co46, .slice Ao47 y667.length co47) _ ⟨hHeld,(by (with_reducible repeat (first | apply Kd.R_alloc | apply Kd.R_drewN | apply Kd.R_drew));exact Kd.R_mono HO666.out (fun _ hk=>⟨hk.2,hk.1⟩)),(oX HO669),(kB BK658),(kB BK659),(kB BK660),bB⟩)
                · skip
                  refine box_step ?hg (N:=6) ?hd (cs:= #[.int .i64 0, .int .i64 0, .slice none 0 0]) (t:=30) ?hr ?_;(case hd=>rfl);(case hg=>rfl);(case hr=>first | (go_simp;done) | (go_simp;rfl));intro gb670 hg w45 hbox hb;replace HO663:=amk (Kd.R_below (oX HO663) hb);replace HO666:=amk (Kd.R_below (oX HO666) hb);have BK670:=amk (hbox);have GW670:=sZ HB hg;have GE670:=sZ HB hg;replace HB:=hB2 HB hb;have NB658_670:=neL BK658 hg;have NB670_658:=neR BK658 hg;replace BK658:=kb2 BK658 hb;have NB659_670:=neL BK659 hg;have NB670_659:=neR BK659 hg;replace BK659:=kb2 BK659 hb;have NB660_670:=neL BK660 hg;have NB670_660:=neR BK660 hg;replace BK660:=kb2 BK660 hb;clear hb hbox hg;refine hK.out _ _ hC_ (fun hHeld=>?_);clear hK K;refine nN_ (some 6) ?_;exact norm_ nJ_ (hJ4_6_9 (v662, .slice Ao46 y664.length co46,gb670) _ ⟨hHeld,(oX HO663),(oX HO666),(kB BK658),(kB BK659),(kB BK660),(kB BK670),GW670.out,GE670.out,NB658_670.out,NB670_658.out,NB659_670.out,NB670_659.out,NB660_670.out,NB670_660.out,bB⟩)
            · skip
              rintro ⟨v662,v665,gb670⟩ w45 ⟨hS_,h0_,h1_,h2_,h3_,h4_,h5_,h6_,h7_,h8_,h9_,h10_,h11_,h12_,h13_,h14_⟩;have HO663:=amk h0_;have HO666:=amk h1_;replace BK658:=amk h2_;replace BK659:=amk h3_;replace BK660:=amk h4_;have BK670:=amk h5_;have GW670:=amk h6_;have GE670:=amk h7_;have NB658_670:=amk h8_;have NB670_658:=amk h9_;have NB659_670:=amk h10_;have NB670_659:=amk h11_;have NB660_670:=amk h12_;have NB670_660:=amk h13_;replace HB:=amk h14_;clear h0_ h1_ h2_ h3_ h4_ h5_ h6_ h7_ h8_ h9_ h10_ h11_ h12_ h13_ h14_;have hHeld:=hS_;obtain ⟨Ao47,co47,eo47⟩:=Kd.R_slice HO666.out;(first | subst eo47 | (injection eo47 with f1_ f2_ f3_;have f4_:=f1_.symm;have f5_:=f3_.symm;clear f1_ f2_ f3_;subst f4_;subst f5_));refine norm_ (a':=?_) ?_ ?_;rotate_left
              · simp only [putAll,Act.put,List.setIfInBounds_toArray,List.set_cons_zero,List.set_cons_succ]
                rfl
              refine oN_ HT_ 7 (some 14) (bA 11 767) (fun K hK=>?_);refine Kd.R_append_rows_step k44 (w0:=w) w.heap.size (by rfl) (.tmp 11) (.tmp 13) 28 44 (.agg #[(.int .i64 0),(.int .i64 0),(.int .i64 0)]) 24 rfl Try.underlying28 info44 rfl (by decide) (by omega) v662 t661 y664 _ _ _ (fun k_=>some k_≠(.slice Ao47 y664.length co47:Value).ownBlock∧k_≠gb659) (fun _=>False) rfl rfl ?aO ?aR (fun _ _ h=>h) (fun _ h=>h.elim) ?aF ?aB ?aS ?aL ?_;(case aR=>exact cB ((Kd.R_reads' HO666.out).2.2));(case aB=>exact bB);(case aF=>exact (fun k_ hk=>⟨Kd.fresh' (Kd.R_lt (oX HO666)) k_ hk,Kd.freshB (g:=gb659) (o:= .cells #[.int .i64 a1_0, .int .i64 a1_1, .int .i64 a1_2] 44 (0,0)) (kB BK659) k_ hk⟩));(case aO=>exact (oX HO663));(case aS=>exact (below_size bB));(case aL=>have:=LMc4.out;omega);intro v668 w46 ho hb hg hat;rw [←Ny667.out] at ho;replace BK658:=bG BK658 hg (Kd.R_ne HO663.out BK658.out (by decide));replace BK659:=bG BK659 hg (Kd.R_away HO663.out (fun _ hk=>hk.2));replace BK660:=bG BK660 hg (Kd.R_ne HO663.out BK660.out (by decide));replace HO666:=amk (Kd.R_after (ok:=(fun k_=>k_≠gb659)) (by (with_reducible repeat (first | apply Kd.R_alloc | apply Kd.R_drewN | apply Kd.R_drew));exact Kd.R_mono HO666.out (fun _ hk=>⟨hk.2,hk.1⟩)) hg hat);replace BK670:=bG BK670 hg (Kd.R_ne HO663.out BK670.out (by decide));replace HB:=amk (hb);have HO669:=amk (ho);clear HO663;clear ho hb hg hat;obtain ⟨Ao48,co48,eo48⟩:=Kd.R_slice HO669.out;(first | subst eo48 | (injection eo48 with f1_ f2_ f3_;have f4_:=f1_.symm;have f5_:=f3_.symm;clear f1_ f2_ f3_;subst f4_;subst f5_));refine hK.out _ _ hC_ (fun hHeld=>?_);clear hK K;refine nN_ (some 14) ?_;refine pU_ HT_ 8 (some 15) (bA 11 1023) ?_;exact norm_ nJ_ (hJ4_6_7_9 (v662, .slice Ao47 y664.length co47, .slice Ao48 y667.length co48,gb670) _ ⟨hHeld,(by (with_reducible repeat (first | apply Kd.R_alloc | apply Kd.R_drewN | apply Kd.R_drew));exact Kd.R_mono HO666.out (fun _ hk=>⟨hk.2,hk.1⟩)),(oX HO669),(kB BK658),(kB BK659),(kB BK660),(kB BK670),GW670.out,GE670.out,NB658_670.out,NB670_658.out,NB659_670.out,NB670_659.out,NB660_670.out,NB670_660.out,bB⟩)
          · skip
            rintro ⟨v662,v665,v668⟩ w47 ⟨hS_,h0_,h1_,h2_,h3_,h4_,h5_⟩;have HO666:=amk h0_;have HO669:=amk h1_;replace BK658:=amk h2_;replace BK659:=amk h3_;replace BK660:=amk h4_;replace HB:=amk h5_;clear h0_ h1_ h2_ h3_ h4_ h5_;have hHeld:=hS_;obtain ⟨Ao48,co48,eo48⟩:=Kd.R_slice HO669.out;(first | subst eo48 | (injection eo48 with f1_ f2_ f3_;have f4_:=f1_.symm;have f5_:=f3_.symm;clear f1_ f2_ f3_;subst f4_;subst f5_));refine norm_ (a':=?_) ?_ ?_;rotate_left
            · simp only [putAll,Act.put,List.setIfInBounds_toArray,List.set_cons_zero,List.set_cons_succ]
              rfl
            refine oN_ HT_ 9 (some 6) (bA 11 1023) (fun K hK=>?_);refine box_step ?hg (N:=6) ?hd (cs:= #[.int .i64 0, .int .i64 0, .slice none 0 0]) (t:=30) ?hr ?_;(case hd=>rfl);(case hg=>rfl);(case hr=>first | (go_simp;done) | (go_simp;rfl));intro gb670 hg w49 hbox hb;replace HO666:=amk (Kd.R_below (oX HO666) hb);replace HO669:=amk (Kd.R_below (oX HO669) hb);have BK670:=amk (hbox);have GW670:=sZ HB hg;have GE670:=sZ HB hg;replace HB:=hB2 HB hb;have NB658_670:=neL BK658 hg;have NB670_658:=neR BK658 hg;replace BK658:=kb2 BK658 hb;have NB659_670:=neL BK659 hg;have NB670_659:=neR BK659 hg;replace BK659:=kb2 BK659 hb;have NB660_670:=neL BK660 hg;have NB670_660:=neR BK660 hg;replace BK660:=kb2 BK660 hb;clear hb hbox hg;refine hK.out _ _ hC_ (fun hHeld=>?_);clear hK K;refine nN_ (some 6) ?_;exact norm_ nJ_ (hJ4_6_7_9 (v662,v665, .slice Ao48 y667.length co48,gb670) _ ⟨hHeld,(oX HO666),(oX HO669),(kB BK658),(kB BK659),(kB BK660),(kB BK670),GW670.out,GE670.out,NB658_670.out,NB670_658.out,NB659_670.out,NB670_659.out,NB660_670.out,NB670_660.out,bB⟩)
        rintro ⟨v662,v665,v668,gb670⟩ w48 ⟨hS_,h0_,h1_,h2_,h3_,h4_,h5_,h6_,h7_,h8_,h9_,h10_,h11_,h12_,h13_,h14_⟩;have HO666:=amk h0_;have HO669:=amk h1_;replace BK658:=amk h2_;replace BK659:=amk h3_;replace BK660:=amk h4_;have BK670:=amk h5_;have GW670:=amk h6_;have GE670:=amk h7_;have NB658_670:=amk h8_;have NB670_658:=amk h9_;have NB659_670:=amk h10_;have NB670_659:=amk h11_;have NB660_670:=amk h12_;have NB670_660:=amk h13_;replace HB:=amk h14_;clear h0_ h1_ h2_ h3_ h4_ h5_ h6_ h7_ h8_ h9_ h10_ h11_ h12_ h13_ h14_;have hHeld:=hS_;obtain ⟨Ao49,co49,eo49⟩:=Kd.R_slice HO669.out;(first | subst eo49 | (injection eo49 with f1_ f2_ f3_;have f4_:=f1_.symm;have f5_:=f3_.symm;clear f1_ f2_ f3_;subst f4_;subst f5_));refine norm_ (a':=?_) ?_ ?_;rotate_left
        · simp only [putAll,Act.put,List.setIfInBounds_toArray,List.set_cons_zero,List.set_cons_succ]
          rfl
        refine oN_ HT_ 10 none (bA 11 2047) (fun K hK=>?_);have hs50:w48.cell? ⟨gb670,0,none⟩=some (.int .i64 0):=(blk_cell BK670.out 0).trans rfl;have hfs50:=blk_frozen BK670.out 0;have hns50_0:=NB658_670.out;have hns50_1:=NB659_670.out;have hns50_2:=NB660_670.out;have hms50_0:=NB670_658.out;have hms50_1:=NB670_659.out;have hms50_2:=NB670_660.out;have hs51:w48.cell? ⟨gb670,1,none⟩=some (.int .i64 0):=(blk_cell BK670.out 1).trans rfl;have hfs51:=blk_frozen BK670.out 1;have hns51_0:=NB658_670.out;have hns51_1:=NB659_670.out;have hns51_2:=NB660_670.out;have hms51_0:=NB670_658.out;have hms51_1:=NB670_659.out;have hms51_2:=NB670_660.out;have hs52:w48.cell? ⟨gb670,2,none⟩=some (.slice none 0 0):=(blk_cell BK670.out 2).trans rfl;have hfs52:=blk_frozen BK670.out 2;have hns52_0:=NB658_670.out;have hns52_1:=NB659_670.out;have hns52_2:=NB660_670.out;have hms52_0:=NB670_658.out;have hms52_1:=NB670_659.out;have hms52_2:=NB670_660.out;refine skip_ (w1:=?_) (by rfl) rfl ?_ ?_;rotate_left
        · go_simp
          rfl
        refine hK.out _ _ ⟨((cell_far (p:=⟨gb670,_,none⟩) NB658_670.out _).trans (((cell_far (p:=⟨gb670,_,none⟩) NB658_670.out _).trans (((cell_far (p:=⟨gb670,_,none⟩) NB658_670.out _).trans (hHeld.1)))))),((cell_far (p:=⟨gb670,_,none⟩) NB658_670.out _).trans (((cell_far (p:=⟨gb670,_,none⟩) NB658_670.out _).trans (((cell_far (p:=⟨gb670,_,none⟩) NB658_670.out _).trans (hHeld.2.1)))))),((cell_far (p:=⟨gb670,_,none⟩) NB658_670.out _).trans (((cell_far (p:=⟨gb670,_,none⟩) NB658_670.out _).trans (((cell_far (p:=⟨gb670,_,none⟩) NB658_670.out _).trans (hHeld.2.2.1)))))),((cell_far (p:=⟨gb670,_,none⟩) NB659_670.out _).trans (((cell_far (p:=⟨gb670,_,none⟩) NB659_670.out _).trans (((cell_far (p:=⟨gb670,_,none⟩) NB659_670.out _).trans (hHeld.2.2.2.1)))))),((cell_far (p:=⟨gb670,_,none⟩) NB659_670.out _).trans (((cell_far (p:=⟨gb670,_,none⟩) NB659_670.out _).trans (((cell_far (p:=⟨gb670,_,none⟩) NB659_670.out _).trans (hHeld.2.2.2.2.1)))))),((cell_far (p:=⟨gb670,_,none⟩) NB659_670.out _).trans (((cell_far (p:=⟨gb670,_,none⟩) NB659_670.out _).trans (((cell_far (p:=⟨gb670,_,none⟩) NB659_670.out _).trans (hHeld.2.2.2.2.2))))))⟩ (fun hHeld=>?_);clear hK K;refine done_ (done_of HT_.out (by kernel_rfl)) ?_;have hnb53:=NB658_659.out;have hnc53:=NB659_658.out;have hnb54:=NB658_660.out;have hnc54:=NB660_658.out;have hnb55:=NB658_670.out;have hnc55:=NB670_658.out;obtain ⟨hcz56_0,hcz56_1,hcz56_2,hfz56_0,hfz56_1,hfz56_2⟩:=cells3 BK658.out;(try go_wp2_with (first | (refine gc_ 15 17 Try.func15 #[.agg #[.int .i64 a0_0, .int .i64 a0_1, .slice A0_2 l0_2.length c0_2]] ?_;(with_reducible refine (impl_IsPuzzle.calls a0_0 a0_1 _ _ l0_2 true _ ?_ ?_ A5.out).mono ?_);exact Kd.C_below HR0_2.out bB;exact HC0_2.out;rintro e w57 ⟨rfl,hb⟩;refine ⟨_,rfl,?_⟩;replace HO666:=amk (Kd.R_below (by (with_reducible repeat (first | apply Kd.R_alloc | apply Kd.R_drewN | apply Kd.R_drew));exact (Kd.R_mono (Kd.R_far (p:=⟨gb670,2,none⟩) (Kd.R_far (p:=⟨gb670,1,none⟩) (Kd.R_far (p:=⟨gb670,0,none⟩) (Kd.R_types HO666.out BK670.out (by decide)) (fun _ hk=>hk.2) (.int .i64 a0_0)) (fun _ hk=>hk.2) (.int .i64 a0_1)) (fun _ hk=>hk.2) (.slice Ao49 y667.length co49)) (fun _ h_=>h_.1))) hb);replace HO669:=amk (Kd.R_below (by (with_reducible repeat (first | apply Kd.R_alloc | apply Kd.R_drewN | apply Kd.R_drew));exact (Kd.R_mono (Kd.R_far (p:=⟨gb670,2,none⟩) (Kd.R_far (p:=⟨gb670,1,none⟩) (Kd.R_far (p:=⟨gb670,0,none⟩) (Kd.R_types HO669.out BK670.out (by decide)) (fun _ hk=>hk.2) (.int .i64 a0_0)) (fun _ hk=>hk.2) (.int .i64 a0_1)) (fun _ hk=>hk.2) (.slice Ao49 y667.length co49)) (fun _ h_=>h_.1))) hb);replace BK658:=kb2 BK658 hb;replace BK659:=kb2 BK659 hb;replace BK660:=kb2 BK660 hb;replace BK670:=amk (blk_below (g:=gb670) (o:= .cells #[.int .i64 a0_0, .int .i64 a0_1, .slice Ao49 y667.length co49] 30 (0,0)) (kP BK670) hb);replace HB:=hB2 HB hb;(try clear hb);have hnb58:=NB670_659.out;have hnc58:=NB659_670.out;have hnb59:=NB670_660.out;have hnc59:=NB660_670.out;obtain ⟨hcz60_0,hcz60_1,hcz60_2,hfz60_0,hfz60_1,hfz60_2⟩:=cells3 BK670.out) | (go_at_call 15;(with_reducible refine (impl_IsPuzzle.calls a0_0 a0_1 _ _ y667 false _ ?_ ?_ A7.out).mono ?_);exact cB ((Kd.R_reads' HO669.out).2.2);exact (Kd.R_reads' HO669.out).2.1;rintro e w61 ⟨rfl,hb⟩;replace HO666:=amk (Kd.R_below (oX HO666) hb);replace HO669:=amk (Kd.R_below (oX HO669) hb);replace BK658:=kb2 BK658 hb;replace BK659:=kb2 BK659 hb;replace BK660:=kb2 BK660 hb;replace BK670:=kb2 BK670 hb;replace HB:=hB2 HB hb;(try clear hb);have hnb62:=NB660_659.out;have hnc62:=NB659_660.out;obtain ⟨hcz63_0,hcz63_1,hcz63_2,hfz63_0,hfz63_1,hfz63_2⟩:=cells3 BK660.out)));refine bodyPost_ret (results_ct rfl _ _ gb660 30 #[.int .i64 0, .int .i64 0, .slice none 0 0] (0,0) _ rfl (kP BK660) Try.underlying30 rfl (by kernel_rfl)) rfl ?_;exact ⟨_,rF_,xN_,bB⟩
    · simp only [Option.some.injEq,Prod.mk.injEq] at H;obtain ⟨rfl,rfl,rfl,rfl⟩:=H;go_enter Try.func24,Try.ntmps24;(try go_wp2_with (first | ((with_reducible refine gate_dst (N:=2) rfl ?_);refine boxE_ HB 2 #[.int .i64 a0_0, .int .i64 a0_1, .slice A0_2 l0_2.length c0_2] 30 ?_;clear HB;intro gb658 w64 HB BK658 GW658 GE658 hb;clear hb) | ((with_reducible refine gate_dst (N:=3) rfl ?_);refine boxG_ 3 #[.int .i64 a1_0, .int .i64 a1_1, .int .i64 a1_2] 44 ?_;intro gb659 w65 hg BK659 hb;have GW659:=sZ HB hg;have GE659:=sZ HB hg;replace HB:=hB2 HB hb;have NB658_659:=neL BK658 hg;have NB659_658:=neR BK658 hg;replace BK658:=kb2 BK658 hb;clear hb hg) | ((with_reducible refine gate_dst (N:=4) rfl ?_);refine boxG_ 4 #[.int .i64 0, .int .i64 0, .slice none 0 0] 30 ?_;intro gb660 w66 hg BK660 hb;have GW660:=sZ HB hg;have GE660:=sZ HB hg;replace HB:=hB2 HB hb;have NB658_660:=neL BK658 hg;have NB660_658:=neR BK658 hg;replace BK658:=kb2 BK658 hb;have NB659_660:=neL BK659 hg;have NB660_659:=neR BK659 hg;replace BK659:=kb2 BK659 hb;clear hb hg)));replace BK658:=amk (blk_drew BK658.out);replace BK659:=amk (blk_drew BK659.out);replace BK660:=amk (blk_drew BK660.out);replace HB:=amk (bd_ HB.out);refine start_ (n:=11) (S:=fun w'=>w'.cell? ⟨gb658,0,none⟩=some (.int .i64 a0_0)∧w'.cell? ⟨gb658,1,none⟩=some (.int .i64 a0_1)∧w'.cell? ⟨gb658,2,none⟩=some (.slice A0_2 l0_2.length c0_2)∧w'.cell? ⟨gb659,0,none⟩=some (.int .i64 a1_0)∧w'.cell? ⟨gb659,1,none⟩=some (.int .i64 a1_1)∧w'.cell? ⟨gb659,2,none⟩=some (.int .i64 a1_2)) (ds:=[]) (bA 11 0) (by kernel_rfl) rfl rfl ⟨(blk_cell BK658.out 0).trans rfl,(blk_cell BK658.out 1).trans rfl,(blk_cell BK658.out 2).trans rfl,(blk_cell BK659.out 0).trans rfl,(blk_cell BK659.out 1).trans rfl,(blk_cell BK659.out 2).trans rfl⟩ (fun hHeld=>?_);refine with_tabW impl_AddClue.tab1 impl_AddClue.bits1 (fun HT_ HW_=>?_);generalize w66.drew=w67 at BK658 BK659 BK660 HB hHeld ⊢;refine pU_ HT_ 0 (some 7) (bA 11 1) ?_;refine pU_ HT_ 2 (some 9) (bA 11 5) ?_;refine tK_ HT_ HW_ hHeld 1 (some 8) (bA 11 7) ?_;refine tK_ HT_ HW_ hHeld 3 (some 10) (bA 11 15) ?_;refine tK_ HT_ HW_ hHeld 5 (some 12) (bA 11 47) ?_;refine join_ (σ:=Value×Value×Value×Nat) 1 (bA 11 1023) (fun s_=> [(11,s_.1),(13,s_.2.1),(14,s_.2.2.1),(6, .pointer (some ⟨s_.2.2.2,0,none⟩)),(15, .agg #[.int .i64 a0_0, .int .i64 a0_1,s_.2.2.1])]) (fun s_ w'=>(w'.cell? ⟨gb658,0,none⟩=some (.int .i64 a0_0)∧w'.cell? ⟨gb658,1,none⟩=some (.int .i64 a0_1)∧w'.cell? ⟨gb658,2,none⟩=some (.slice A0_2 l0_2.length c0_2)∧w'.cell? ⟨gb659,0,none⟩=some (.int .i64 a1_0)∧w'.cell? ⟨gb659,1,none⟩=some (.int .i64 a1_1)∧w'.cell? ⟨gb659,2,none⟩=some (.int .i64 a1_2))∧(Kd.R k44 44 w' w.heap.size (fun k_=>some k_≠(s_.2.2.1:Value).ownBlock∧k_≠gb659) s_.2.1 y664)∧(Kd.R k44 44 w' w.heap.size (fun k_=>some k_≠(s_.2.1:Value).ownBlock∧k_≠gb659) s_.2.2.1 y667)∧(w'.heap[gb658]?=some (.cells #[.int .i64 a0_0, .int .i64 a0_1, .slice A0_2 l0_2.length c0_2] 30 (0,0)))∧(w'.heap[gb659]?=some (.cells #[.int .i64 a1_0, .int .i64 a1_1, .int .i64 a1_2] 44 (0,0)))∧(w'.heap[gb660]?=some (.cells #[.int .i64 0, .int .i64 0, .slice none 0 0] 30 (0,0)))∧(w'.heap[s_.2.2.2]?=some (.cells #[.int .i64 0, .int .i64 0, .slice none 0 0] 30 (0,0)))∧(w.heap.size≤s_.2.2.2)∧(w.heap.size≤s_.2.2.2)∧(gb658≠s_.2.2.2)∧(s_.2.2.2≠gb658)∧(gb659≠s_.2.2.2)∧(s_.2.2.2≠gb659)∧(gb660≠s_.2.2.2)∧(s_.2.2.2≠gb660)∧(Below w.heap.size w w')) ?_ ?_;rotate_left
      · intro hJ4_6_7_9;refine join_ (σ:=Value×Value×Value) 2 (bA 11 511) (fun s_=> [(11,s_.1),(13,s_.2.1),(14,s_.2.2),(15, .agg #[.int .i64 a0_0, .int .i64 a0_1,s_.2.2])]) (fun s_ w'=>(w'.cell? ⟨gb658,0,none⟩=some (.int .i64 a0_0)∧w'.cell? ⟨gb658,1,none⟩=some (.int .i64 a0_1)∧w'.cell? ⟨gb658,2,none⟩=some (.slice A0_2 l0_2.length c0_2)∧w'.cell? ⟨gb659,0,none⟩=some (.int .i64 a1_0)∧w'.cell? ⟨gb659,1,none⟩=some (.int .i64 a1_1)∧w'.cell? ⟨gb659,2,none⟩=some (.int .i64 a1_2))∧(Kd.R k44 44 w' w.heap.size (fun k_=>some k_≠(s_.2.2:Value).ownBlock∧k_≠gb659) s_.2.1 y664)∧(Kd.R k44 44 w' w.heap.size (fun k_=>some k_≠(s_.2.1:Value).ownBlock∧k_≠gb659) s_.2.2 y667)∧(w'.heap[gb658]?=some (.cells #[.int .i64 a0_0, .int .i64 a0_1, .slice A0_2 l0_2.length c0_2] 30 (0,0)))∧(w'.heap[gb659]?=some (.cells #[.int .i64 a1_0, .int .i64 a1_1, .int .i64 a1_2] 44 (0,0)))∧(w'.heap[gb660]?=some (.cells #[.int .i64 0, .int .i64 0, .slice none 0 0] 30 (0,0)))∧(Below w.heap.size w w')) ?_ ?_;rotate_left
        · intro hJ4_6_7;refine join_ (σ:=Value×Value×Nat) 3 (bA 11 639) (fun s_=> [(11,s_.1),(13,s_.2.1),(6, .pointer (some ⟨s_.2.2,0,none⟩))]) (fun s_ w'=>(w'.cell? ⟨gb658,0,none⟩=some (.int .i64 a0_0)∧w'.cell? ⟨gb658,1,none⟩=some (.int .i64 a0_1)∧w'.cell? ⟨gb658,2,none⟩=some (.slice A0_2 l0_2.length c0_2)∧w'.cell? ⟨gb659,0,none⟩=some (.int .i64 a1_0)∧w'.cell? ⟨gb659,1,none⟩=some (.int .i64 a1_1)∧w'.cell? ⟨gb659,2,none⟩=some (.int .i64 a1_2))∧(Kd.R k44 44 w' w.heap.size (fun k_=>some k_≠(s_.2.1:Value).ownBlock∧k_≠gb659) s_.1 t661)∧(Kd.R k44 44 w' w.heap.size (fun k_=>some k_≠(s_.1:Value).ownBlock∧k_≠gb659) s_.2.1 y664)∧(w'.heap[gb658]?=some (.cells #[.int .i64 a0_0, .int .i64 a0_1, .slice A0_2 l0_2.length c0_2] 30 (0,0)))∧(w'.heap[gb659]?=some (.cells #[.int .i64 a1_0, .int .i64 a1_1, .int .i64 a1_2] 44 (0,0)))∧(w'.heap[gb660]?=some (.cells #[.int .i64 0, .int .i64 0, .slice none 0 0] 30 (0,0)))∧(w'.heap[s_.2.2]?=some (.cells #[.int .i64 0, .int .i64 0, .slice none 0 0] 30 (0,0)))∧(w.heap.size≤s_.2.2)∧(w.heap.size≤s_.2.2)∧(gb658≠s_.2.2)∧(s_.2.2≠gb658)∧(gb659≠s_.2.2)∧(s_.2.2≠gb659)∧(gb660≠s_.2.2)∧(s_.2.2≠gb660)∧(Below w.heap.size w w')) ?_ ?_;rotate_left
          · intro hJ4_6_9;refine join_ (σ:=Value×Value) 4 (bA 11 127) (fun s_=> [(11,s_.1),(13,s_.2)]) (fun s_ w'=>(w'.cell? ⟨gb658,0,none⟩=some (.int .i64 a0_0)∧w'.cell? ⟨gb658,1,none⟩=some (.int .i64 a0_1)∧w'.cell? ⟨gb658,2,none⟩=some (.slice A0_2 l0_2.length c0_2)∧w'.cell? ⟨gb659,0,none⟩=some (.int .i64 a1_0)∧w'.cell? ⟨gb659,1,none⟩=some (.int .i64 a1_1)∧w'.cell? ⟨gb659,2,none⟩=some (.int .i64 a1_2))∧(Kd.R k44 44 w' w.heap.size (fun k_=>some k_≠(s_.2:Value).ownBlock∧k_≠gb659) s_.1 t661)∧(Kd.R k44 44 w' w.heap.size (fun k_=>some k_≠(s_.1:Value).ownBlock∧k_≠gb659) s_.2 y664)∧(w'.heap[gb658]?=some (.cells #[.int .i64 a0_0, .int .i64 a0_1, .slice A0_2 l0_2.length c0_2] 30 (0,0)))∧(w'.heap[gb659]?=some (.cells #[.int .i64 a1_0, .int .i64 a1_1, .int .i64 a1_2] 44 (0,0)))∧(w'.heap[gb660]?=some (.cells #[.int .i64 0, .int .i64 0, .slice none 0 0] 30 (0,0)))∧(Below w.heap.size w w')) ?_ ?_;rotate_left
            · intro hJ4_6;refine join_ (σ:=Value×Nat) 4 (bA 11 575) (fun s_=> [(11,s_.1),(6, .pointer (some ⟨s_.2,0,none⟩))]) (fun s_ w'=>(w'.cell? ⟨gb658,0,none⟩=some (.int .i64 a0_0)∧w'.cell? ⟨gb658,1,none⟩=some (.int .i64 a0_1)∧w'.cell? ⟨gb658,2,none⟩=some (.slice A0_2 l0_2.length c0_2)∧w'.cell? ⟨gb659,0,none⟩=some (.int .i64 a1_0)∧w'.cell? ⟨gb659,1,none⟩=some (.int .i64 a1_1)∧w'.cell? ⟨gb659,2,none⟩=some (.int .i64 a1_2))∧(Kd.R k44 44 w' w.heap.size (fun k_=>k_≠gb659) s_.1 t661)∧(w'.heap[gb658]?=some (.cells #[.int .i64 a0_0, .int .i64 a0_1, .slice A0_2 l0_2.length c0_2] 30 (0,0)))∧(w'.heap[gb659]?=some (.cells #[.int .i64 a1_0, .int .i64 a1_1, .int .i64 a1_2] 44 (0,0)))∧(w'.heap[gb660]?=some (.cells #[.int .i64 0, .int .i64 0, .slice none 0 0] 30 (0,0)))∧(w'.heap[s_.2]?=some (.cells #[.int .i64 0, .int .i64 0, .slice none 0 0] 30 (0,0)))∧(w.heap.size≤s_.2)∧(w.heap.size≤s_.2)∧(gb658≠s_.2)∧(s_.2≠gb658)∧(gb659≠s_.2)∧(s_.2≠gb659)∧(gb660≠s_.2)∧(s_.2≠gb660)∧(Below w.heap.size w w')) ?_ ?_;rotate_left
              · intro hJ4_9;refine join_ (σ:=Value×Nat) 4 (bA 11 623) (fun s_=> [(13,s_.1),(6, .pointer (some ⟨s_.2,0,none⟩))]) (fun s_ w'=>(w'.cell? ⟨gb658,0,none⟩=some (.int .i64 a0_0)∧w'.cell? ⟨gb658,1,none⟩=some (.int .i64 a0_1)∧w'.cell? ⟨gb658,2,none⟩=some (.slice A0_2 l0_2.length c0_2)∧w'.cell? ⟨gb659,0,none⟩=some (.int .i64 a1_0)∧w'.cell? ⟨gb659,1,none⟩=some (.int .i64 a1_1)∧w'.cell? ⟨gb659,2,none⟩=some (.int .i64 a1_2))∧(Kd.R k44 44 w' w.heap.size (fun k_=>k_≠gb659) s_.1 y664)∧(w'.heap[gb658]?=some (.cells #[.int .i64 a0_0, .int .i64 a0_1, .slice A0_2 l0_2.length c0_2] 30 (0,0)))∧(w'.heap[gb659]?=some (.cells #[.int .i64 a1_0, .int .i64 a1_1, .int .i64 a1_2] 44 (0,0)))∧(w'.heap[gb660]?=some (.cells #[.int .i64 0, .int .i64 0, .slice none 0 0] 30 (0,0)))∧(w'.heap[s_.2]?=some (.cells #[.int .i64 0, .int .i64 0, .slice none 0 0] 30 (0,0)))∧(w.heap.size≤s_.2)∧(w.heap.size≤s_.2)∧(gb658≠s_.2)∧(s_.2≠gb658)∧(gb659≠s_.2)∧(s_.2≠gb659)∧(gb660≠s_.2)∧(s_.2≠gb660)∧(Below w.heap.size w w')) ?_ ?_;rotate_left
                · intro hJ6_9;refine join_ (σ:=Value) 5 (bA 11 63) (fun s_=> [(11,s_)]) (fun s_ w'=>(w'.cell? ⟨gb658,0,none⟩=some (.int .i64 a0_0)∧w'.cell? ⟨gb658,1,none⟩=some (.int .i64 a0_1)∧w'.cell? ⟨gb658,2,none⟩=some (.slice A0_2 l0_2.length c0_2)∧w'.cell? ⟨gb659,0,none⟩=some (.int .i64 a1_0)∧w'.cell? ⟨gb659,1,none⟩=some (.int .i64 a1_1)∧w'.cell? ⟨gb659,2,none⟩=some (.int .i64 a1_2))∧(Kd.R k44 44 w' w.heap.size (fun k_=>k_≠gb659) s_ t661)∧(w'.heap[gb658]?=some (.cells #[.int .i64 a0_0, .int .i64 a0_1, .slice A0_2 l0_2.length c0_2] 30 (0,0)))∧(w'.heap[gb659]?=some (.cells #[.int .i64 a1_0, .int .i64 a1_1, .int .i64 a1_2] 44 (0,0)))∧(w'.heap[gb660]?=some (.cells #[.int .i64 0, .int .i64 0, .slice none 0 0] 30 (0,0)))∧(Below w.heap.size w w')) ?_ ?_;rotate_left
                  · intro hJ4;refine join_ (σ:=Value) 5 (bA 11 111) (fun s_=> [(13,s_)]) (fun s_ w'=>(w'.cell? ⟨gb658,0,none⟩=some (.int .i64 a0_0)∧w'.cell? ⟨gb658,1,none⟩=some (.int .i64 a0_1)∧w'.cell? ⟨gb658,2,none⟩=some (.slice A0_2 l0_2.length c0_2)∧w'.cell? ⟨gb659,0,none⟩=some (.int .i64 a1_0)∧w'.cell? ⟨gb659,1,none⟩=some (.int .i64 a1_1)∧w'.cell? ⟨gb659,2,none⟩=some (.int .i64 a1_2))∧(Kd.R k44 44 w' w.heap.size (fun k_=>k_≠gb659) s_ y664)∧(w'.heap[gb658]?=some (.cells #[.int .i64 a0_0, .int .i64 a0_1, .slice A0_2 l0_2.length c0_2] 30 (0,0)))∧(w'.heap[gb659]?=some (.cells #[.int .i64 a1_0, .int .i64 a1_1, .int .i64 a1_2] 44 (0,0)))∧(w'.heap[gb660]?=some (.cells #[.int .i64 0, .int .i64 0, .slice none 0 0] 30 (0,0)))∧(Below w.heap.size w w')) ?_ ?_;rotate_left
                    · intro hJ6;refine join_ (σ:=Nat) 5 (bA 11 559) (fun s_=> [(6, .pointer (some ⟨s_,0,none⟩))]) (fun s_ w'=>(w'.cell? ⟨gb658,0,none⟩=some (.int .i64 a0_0)∧w'.cell? ⟨gb658,1,none⟩=some (.int .i64 a0_1)∧w'.cell? ⟨gb658,2,none⟩=some (.slice A0_2 l0_2.length c0_2)∧w'.cell? ⟨gb659,0,none⟩=some (.int .i64 a1_0)∧w'.cell? ⟨gb659,1,none⟩=some (.int .i64 a1_1)∧w'.cell? ⟨gb659,2,none⟩=some (.int .i64 a1_2))∧(w'.heap[gb658]?=some (.cells #[.int .i64 a0_0, .int .i64 a0_1, .slice A0_2 l0_2.length c0_2] 30 (0,0)))∧(w'.heap[gb659]?=some (.cells #[.int .i64 a1_0, .int .i64 a1_1, .int .i64 a1_2] 44 (0,0)))∧(w'.heap[gb660]?=some (.cells #[.int .i64 0, .int .i64 0, .slice none 0 0] 30 (0,0)))∧(w'.heap[s_]?=some (.cells #[.int .i64 0, .int .i64 0, .slice none 0 0] 30 (0,0)))∧(w.heap.size≤s_)∧(w.heap.size≤s_)∧(gb658≠s_)∧(s_≠gb658)∧(gb659≠s_)∧(s_≠gb659)∧(gb660≠s_)∧(s_≠gb660)∧(Below w.heap.size w w')) ?_ ?_;rotate_left
                      · intro hJ9;refine three_ (i:=4) (j:=6) (k:=9) (Ni:=some 11) (Nj:=some 13) (Nk:=some 6) (bA 11 63) (bA 11 111) (bA 11 559) rfl rfl rfl rfl rfl rfl (three_of HT_.out (by kernel_rfl)) (by decide) (by decide) (by decide) (fun K hK=>?_) (fun K hK=>?_) (fun K hK=>?_)
                        · skip
                          refine gs_ Try.func63 #[.slice A0_2 l0_2.length c0_2] ?_;(with_reducible refine (slices_Clone_impl_Clue_impl_Clue.calls _ _ l0_2 t661 _ ?_ ?_ A3.out).mono ?_);exact cB (Kd.C_below HR0_2.out HB.out);exact HC0_2.out;rintro e w68 ⟨v662,rfl,ho0,hb⟩;refine ⟨_,rfl,?_⟩;have HO663:=amk (Kd.R_lower (Kd.R_newB ho0 (g:=gb659) (o:= .cells #[.int .i64 a1_0, .int .i64 a1_1, .int .i64 a1_2] 44 (0,0)) (kB BK659)) (below_size bB));replace BK658:=kb2 BK658 hb;replace BK659:=kb2 BK659 hb;replace BK660:=kb2 BK660 hb;replace HB:=hB2 HB hb;(try clear hb);(try clear ho0);refine hK.out _ _ hC_ (fun hHeld=>?_);clear hK K;refine nN_ (some 11) ?_;exact norm_ nJ_ (hJ4 (v662) _ ⟨hHeld,(by (with_reducible repeat (first | apply Kd.R_alloc | apply Kd.R_drewN | apply Kd.R_drew));exact Kd.R_mono HO663.out (fun _ hk=>hk.2)),(kB BK658),(kB BK659),(kB BK660),bB⟩)
                        · skip
                          refine Kd.R_lit_step k44 _ 44 ?hg (N:=13) ?hd (xs:=([(⟨a1_0,a1_1,a1_2⟩:S44)]:List (S44))) (inner:=[.int .i64 a1_0, .int .i64 a1_1, .int .i64 a1_2]) (ok:=fun _=>True) (okp:=fun _=>True) ?hr ?hp (fun _ hk=>hk) trivial (Below.refl _ _) (Nat.le_refl _) (by simp) ?_;(case hd=>rfl);(case hg=>rfl);(case hr=>first | (go_simp;done) | (go_simp;rfl));(case hp=>exact (Reps.c3 (show Kd.M k44 _ _ _ (⟨a1_0,a1_1,a1_2⟩:S44) [.int .i64 a1_0, .int .i64 a1_1, .int .i64 a1_2] from (k44_mkM _ _ _ (⟨a1_0,a1_1,a1_2⟩:S44) )) (Reps.none _ _)));intro v665 w68 ho69 hb hg_ hnew_;clear hg_ hnew_;(first | rw [←Ny664.out] at ho69 | (simp only [Int.reduceToNat] at ho69;rw [←Ny664.out] at ho69));have HO666:=amk (Kd.R_lower (Kd.R_newB ho69 (g:=gb659) (o:= .cells #[.int .i64 a1_0, .int .i64 a1_1, .int .i64 a1_2] 44 (0,0)) (kB BK659)) (below_size bB));replace BK658:=kb2 BK658 hb;replace BK659:=kb2 BK659 hb;replace BK660:=kb2 BK660 hb;replace HB:=hB2 HB hb;clear hb ho69;refine hK.out _ _ hC_ (fun hHeld=>?_);clear hK K;refine nN_ (some 13) ?_;exact norm_ nJ_ (hJ6 (v665) _ ⟨hHeld,(by (with_reducible repeat (first | apply Kd.R_alloc | apply Kd.R_drewN | apply Kd.R_drew));exact Kd.R_mono HO666.out (fun _ hk=>hk.2)),(kB BK658),(kB BK659),(kB BK660),bB⟩)
                        · skip
                          refine box_step ?hg (N:=6) ?hd (cs:= #[.int .i64 0, .int .i64 0, .slice none 0 0]) (t:=30) ?hr ?_;(case hd=>rfl);(case hg=>rfl);(case hr=>first | (go_simp;done) | (go_simp;rfl));intro gb670 hg w68 hbox hb;have BK670:=amk (hbox);have GW670:=sZ HB hg;have GE670:=sZ HB hg;replace HB:=hB2 HB hb;have NB658_670:=neL BK658 hg;have NB670_658:=neR BK658 hg;replace BK658:=kb2 BK658 hb;have NB659_670:=neL BK659 hg;have NB670_659:=neR BK659 hg;replace BK659:=kb2 BK659 hb;have NB660_670:=neL BK660 hg;have NB670_660:=neR BK660 hg;replace BK660:=kb2 BK660 hb;clear hb hbox hg;refine hK.out _ _ hC_ (fun hHeld=>?_);clear hK K;refine nN_ (some 6) ?_;exact norm_ nJ_ (hJ9 (gb670) _ ⟨hHeld,(kB BK658),(kB BK659),(kB BK660),(kB BK670),GW670.out,GE670.out,NB658_670.out,NB670_658.out,NB659_670.out,NB670_659.out,NB660_670.out,NB670_660.out,bB⟩)
                      · skip
                        rintro gb670 w69 ⟨hS_,h0_,h1_,h2_,h3_,h4_,h5_,h6_,h7_,h8_,h9_,h10_,h11_,h12_⟩;replace BK658:=amk h0_;replace BK659:=amk h1_;replace BK660:=amk h2_;have BK670:=amk h3_;have GW670:=amk h4_;have GE670:=amk h5_;have NB658_670:=amk h6_;have NB670_658:=amk h7_;have NB659_670:=amk h8_;have NB670_659:=amk h9_;have NB660_670:=amk h10_;have NB670_660:=amk h11_;replace HB:=amk h12_;clear h0_ h1_ h2_ h3_ h4_ h5_ h6_ h7_ h8_ h9_ h10_ h11_ h12_;have hHeld:=hS_;refine norm_ (a':=?_) ?_ ?_;rotate_left
                        · simp only [putAll,Act.put,List.setIfInBounds_toArray,List.set_cons_zero,List.set_cons_succ]
                          rfl
                        refine two_ (i:=4) (j:=6) (Ni:=some 11) (Nj:=some 13) (bA 11 575) (bA 11 623) rfl rfl rfl rfl (two_of HT_.out (by kernel_rfl)) (by decide) (by decide) (fun K hK=>?_) (fun K hK=>?_)
                        · skip
                          refine gs_ Try.func63 #[.slice A0_2 l0_2.length c0_2] ?_;(with_reducible refine (slices_Clone_impl_Clue_impl_Clue.calls _ _ l0_2 t661 _ ?_ ?_ A3.out).mono ?_);exact cB (Kd.C_below HR0_2.out HB.out);exact HC0_2.out;rintro e w70 ⟨v662,rfl,ho0,hb⟩;refine ⟨_,rfl,?_⟩;have HO663:=amk (Kd.R_lower (Kd.R_newB ho0 (g:=gb659) (o:= .cells #[.int .i64 a1_0, .int .i64 a1_1, .int .i64 a1_2] 44 (0,0)) (kB BK659)) (below_size bB));replace BK658:=kb2 BK658 hb;replace BK659:=kb2 BK659 hb;replace BK660:=kb2 BK660 hb;replace BK670:=kb2 BK670 hb;replace HB:=hB2 HB hb;(try clear hb);(try clear ho0);refine hK.out _ _ hC_ (fun hHeld=>?_);clear hK K;refine nN_ (some 11) ?_;exact norm_ nJ_ (hJ4_9 (v662,gb670) _ ⟨hHeld,(by (with_reducible repeat (first | apply Kd.R_alloc | apply Kd.R_drewN | apply Kd.R_drew));exact Kd.R_mono HO663.out (fun _ hk=>hk.2)),(kB BK658),(kB BK659),(kB BK660),(kB BK670),GW670.out,GE670.out,NB658_670.out,NB670_658.out,NB659_670.out,NB670_659.out,NB660_670.out,NB670_660.out,bB⟩)
                        · skip
                          refine Kd.R_lit_step k44 _ 44 ?hg (N:=13) ?hd (xs:=([(⟨a1_0,a1_1,a1_2⟩:S44)]:List (S44))) (inner:=[.int .i64 a1_0, .int .i64 a1_1, .int .i64 a1_2]) (ok:=fun _=>True) (okp:=fun _=>True) ?hr ?hp (fun _ hk=>hk) trivial (Below.refl _ _) (Nat.le_refl _) (by simp) ?_;(case hd=>rfl);(case hg=>rfl);(case hr=>first | (go_simp;done) | (go_simp;rfl));(case hp=>exact (Reps.c3 (show Kd.M k44 _ _ _ (⟨a1_0,a1_1,a1_2⟩:S44) [.int .i64 a1_0, .int .i64 a1_1, .int .i64 a1_2] from (k44_mkM _ _ _ (⟨a1_0,a1_1,a1_2⟩:S44) )) (Reps.none _ _)));intro v665 w70 ho71 hb hg_ hnew_;clear hg_ hnew_;(first | rw [←Ny664.out] at ho71 | (simp only [Int.reduceToNat] at ho71;rw [←Ny664.out] at ho71));have HO666:=amk (Kd.R_lower (Kd.R_newB ho71 (g:=gb659) (o:= .cells #[.int .i64 a1_0, .int .i64 a1_1, .int .i64 a1_2] 44 (0,0)) (kB BK659)) (below_size bB));replace BK658:=kb2 BK658 hb;replace BK659:=kb2 BK659 hb;replace BK660:=kb2 BK660 hb;replace BK670:=kb2 BK670 hb;replace HB:=hB2 HB hb;clear hb ho71;refine hK.out _ _ hC_ (fun hHeld=>?_);clear hK K;refine nN_ (some 13) ?_;exact norm_ nJ_ (hJ6_9 (v665,gb670) _ ⟨hHeld,(by (with_reducible repeat (first | apply Kd.R_alloc | apply Kd.R_drewN | apply Kd.R_drew));exact Kd.R_mono HO666.out (fun _ hk=>hk.2)),(kB BK658),(kB BK659),(kB BK660),(kB BK670),GW670.out,GE670.out,NB658_670.out,NB670_658.out,NB659_670.out,NB670_659.out,NB660_670.out,NB670_660.out,bB⟩)
                    · skip
                      rintro v665 w70 ⟨hS_,h0_,h1_,h2_,h3_,h4_⟩;have HO666:=amk h0_;replace BK658:=amk h1_;replace BK659:=amk h2_;replace BK660:=amk h3_;replace HB:=amk h4_;clear h0_ h1_ h2_ h3_ h4_;have hHeld:=hS_;refine norm_ (a':=?_) ?_ ?_;rotate_left
                      · simp only [putAll,Act.put,List.setIfInBounds_toArray,List.set_cons_zero,List.set_cons_succ]
                        rfl
                      refine two_ (i:=4) (j:=9) (Ni:=some 11) (Nj:=some 6) (bA 11 127) (bA 11 623) rfl rfl rfl rfl (two_of HT_.out (by kernel_rfl)) (by decide) (by decide) (fun K hK=>?_) (fun K hK=>?_)
                      · skip
                        refine gs_ Try.func63 #[.slice A0_2 l0_2.length c0_2] ?_;(with_reducible refine (slices_Clone_impl_Clue_impl_Clue.calls _ _ l0_2 t661 _ ?_ ?_ A3.out).mono ?_);exact cB (Kd.C_below HR0_2.out HB.out);exact HC0_2.out;rintro e w71 ⟨v662,rfl,ho0,hb⟩;refine ⟨_,rfl,?_⟩;have HO663:=amk (Kd.R_lower (Kd.R_newB (Kd.R_new' ho0 (Kd.R_lt (oX HO666))) (g:=gb659) (o:= .cells #[.int .i64 a1_0, .int .i64 a1_1, .int .i64 a1_2] 44 (0,0)) (kB BK659)) (below_size bB));replace HO666:=amk (Kd.R_elder' (oX HO666) (Kd.R_base ho0) hb);replace BK658:=kb2 BK658 hb;replace BK659:=kb2 BK659 hb;replace BK660:=kb2 BK660 hb;replace HB:=hB2 HB hb;(try clear hb);(try clear ho0);refine hK.out _ _ hC_ (fun hHeld=>?_);clear hK K;refine nN_ (some 11) ?_;exact norm_ nJ_ (hJ4_6 (v662,v665) _ ⟨hHeld,(by (with_reducible repeat (first | apply Kd.R_alloc | apply Kd.R_drewN | apply Kd.R_drew));exact Kd.R_mono HO663.out (fun _ hk=>⟨hk.1.2,hk.2⟩)),(by (with_reducible repeat (first | apply Kd.R_alloc | apply Kd.R_drewN | apply Kd.R_drew));exact Kd.R_mono HO666.out (fun _ hk=>⟨hk.2,hk.1⟩)),(kB BK658),(kB BK659),(kB BK660),bB⟩)
                      · skip
                        refine box_step ?hg (N:=6) ?hd (cs:= #[.int .i64 0, .int .i64 0, .slice none 0 0]) (t:=30) ?hr ?_;(case hd=>rfl);(case hg=>rfl);(case hr=>first | (go_simp;done) | (go_simp;rfl));intro gb670 hg w71 hbox hb;replace HO666:=amk (Kd.R_below (oX HO666) hb);have BK670:=amk (hbox);have GW670:=sZ HB hg;have GE670:=sZ HB hg;replace HB:=hB2 HB hb;have NB658_670:=neL BK658 hg;have NB670_658:=neR BK658 hg;replace BK658:=kb2 BK658 hb;have NB659_670:=neL BK659 hg;have NB670_659:=neR BK659 hg;replace BK659:=kb2 BK659 hb;have NB660_670:=neL BK660 hg;have NB670_660:=neR BK660 hg;replace BK660:=kb2 BK660 hb;clear hb hbox hg;refine hK.out _ _ hC_ (fun hHeld=>?_);clear hK K;refine nN_ (some 6) ?_;exact norm_ nJ_ (hJ6_9 (v665,gb670) _ ⟨hHeld,(oX HO666),(kB BK658),(kB BK659),(kB BK660),(kB BK670),GW670.out,GE670.out,NB658_670.out,NB670_658.out,NB659_670.out,NB670_659.out,NB660_670.out,NB670_660.out,bB⟩)
                  · skip
                    rintro v662 w69 ⟨hS_,h0_,h1_,h2_,h3_,h4_⟩;have HO663:=amk h0_;replace BK658:=amk h1_;replace BK659:=amk h2_;replace BK660:=amk h3_;replace HB:=amk h4_;clear h0_ h1_ h2_ h3_ h4_;have hHeld:=hS_;refine norm_ (a':=?_) ?_ ?_;rotate_left
                    · simp only [putAll,Act.put,List.setIfInBounds_toArray,List.set_cons_zero,List.set_cons_succ]
                      rfl
                    refine two_ (i:=6) (j:=9) (Ni:=some 13) (Nj:=some 6) (bA 11 127) (bA 11 575) rfl rfl rfl rfl (two_of HT_.out (by kernel_rfl)) (by decide) (by decide) (fun K hK=>?_) (fun K hK=>?_)
                    · skip
                      refine Kd.R_lit_step k44 _ 44 ?hg (N:=13) ?hd (xs:=([(⟨a1_0,a1_1,a1_2⟩:S44)]:List (S44))) (inner:=[.int .i64 a1_0, .int .i64 a1_1, .int .i64 a1_2]) (ok:=fun _=>True) (okp:=fun _=>True) ?hr ?hp (fun _ hk=>hk) trivial (Below.refl _ _) (Nat.le_refl _) (by simp) ?_;(case hd=>rfl);(case hg=>rfl);(case hr=>first | (go_simp;done) | (go_simp;rfl));(case hp=>exact (Reps.c3 (show Kd.M k44 _ _ _ (⟨a1_0,a1_1,a1_2⟩:S44) [.int .i64 a1_0, .int .i64 a1_1, .int .i64 a1_2] from (k44_mkM _ _ _ (⟨a1_0,a1_1,a1_2⟩:S44) )) (Reps.none _ _)));intro v665 w70 ho71 hb hg_ hnew_;clear hg_ hnew_;(first | rw [←Ny664.out] at ho71 | (simp only [Int.reduceToNat] at ho71;rw [←Ny664.out] at ho71));have HO666:=amk (Kd.R_lower (Kd.R_newB (Kd.R_new' ho71 (Kd.R_lt (oX HO663))) (g:=gb659) (o:= .cells #[.int .i64 a1_0, .int .i64 a1_1, .int .i64 a1_2] 44 (0,0)) (kB BK659)) (below_size bB));replace HO663:=amk (Kd.R_elder' (oX HO663) (Kd.R_base ho71) hb);replace BK658:=kb2 BK658 hb;replace BK659:=kb2 BK659 hb;replace BK660:=kb2 BK660 hb;replace HB:=hB2 HB hb;clear hb ho71;refine hK.out _ _ hC_ (fun hHeld=>?_);clear hK K;refine nN_ (some 13) ?_;exact norm_ nJ_ (hJ4_6 (v662,v665) _ ⟨hHeld,(by (with_reducible repeat (first | apply Kd.R_alloc | apply Kd.R_drewN | apply Kd.R_drew));exact Kd.R_mono HO663.out (fun _ hk=>⟨hk.2,hk.1⟩)),(by (with_reducible repeat (first | apply Kd.R_alloc | apply Kd.R_drewN | apply Kd.R_drew));exact Kd.R_mono HO666.out (fun _ hk=>⟨hk.1.2,hk.2⟩)),(kB BK658),(kB BK659),(kB BK660),bB⟩)
                    · skip
                      refine box_step ?hg (N:=6) ?hd (cs:= #[.int .i64 0, .int .i64 0, .slice none 0 0]) (t:=30) ?hr ?_;(case hd=>rfl);(case hg=>rfl);(case hr=>first | (go_simp;done) | (go_simp;rfl));intro gb670 hg w70 hbox hb;replace HO663:=amk (Kd.R_below (oX HO663) hb);have BK670:=amk (hbox);have GW670:=sZ HB hg;have GE670:=sZ HB hg;replace HB:=hB2 HB hb;have NB658_670:=neL BK658 hg;have NB670_658:=neR BK658 hg;replace BK658:=kb2 BK658 hb;have NB659_670:=neL BK659 hg;have NB670_659:=neR BK659 hg;replace BK659:=kb2 BK659 hb;have NB660_670:=neL BK660 hg;have NB670_660:=neR BK660 hg;replace BK660:=kb2 BK660 hb;clear hb hbox hg;refine hK.out _ _ hC_ (fun hHeld=>?_);clear hK K;refine nN_ (some 6) ?_;exact norm_ nJ_ (hJ4_9 (v662,gb670) _ ⟨hHeld,(oX HO663),(kB BK658),(kB BK659),(kB BK660),(kB BK670),GW670.out,GE670.out,NB658_670.out,NB670_658.out,NB659_670.out,NB670_659.out,NB660_670.out,NB670_660.out,bB⟩)
                · skip
                  rintro ⟨v665,gb670⟩ w71 ⟨hS_,h0_,h1_,h2_,h3_,h4_,h5_,h6_,h7_,h8_,h9_,h10_,h11_,h12_,h13_⟩;have HO666:=amk h0_;replace BK658:=amk h1_;replace BK659:=amk h2_;replace BK660:=amk h3_;have BK670:=amk h4_;have GW670:=amk h5_;have GE670:=amk h6_;have NB658_670:=amk h7_;have NB670_658:=amk h8_;have NB659_670:=amk h9_;have NB670_659:=amk h10_;have NB660_670:=amk h11_;have NB670_660:=amk h12_;replace HB:=amk h13_;clear h0_ h1_ h2_ h3_ h4_ h5_ h6_ h7_ h8_ h9_ h10_ h11_ h12_ h13_;have hHeld:=hS_;refine norm_ (a':=?_) ?_ ?_;rotate_left
                  · simp only [putAll,Act.put,List.setIfInBounds_toArray,List.set_cons_zero,List.set_cons_succ]
                    rfl
                  refine oN_ HT_ 4 (some 11) (bA 11 639) (fun K hK=>?_);refine gs_ Try.func63 #[.slice A0_2 l0_2.length c0_2] ?_;(with_reducible refine (slices_Clone_impl_Clue_impl_Clue.calls _ _ l0_2 t661 _ ?_ ?_ A3.out).mono ?_);exact cB (Kd.C_below HR0_2.out HB.out);exact HC0_2.out;rintro e w72 ⟨v662,rfl,ho0,hb⟩;refine ⟨_,rfl,?_⟩;have HO663:=amk (Kd.R_lower (Kd.R_newB (Kd.R_new' ho0 (Kd.R_lt (oX HO666))) (g:=gb659) (o:= .cells #[.int .i64 a1_0, .int .i64 a1_1, .int .i64 a1_2] 44 (0,0)) (kB BK659)) (below_size bB));replace HO666:=amk (Kd.R_elder' (oX HO666) (Kd.R_base ho0) hb);replace BK658:=kb2 BK658 hb;replace BK659:=kb2 BK659 hb;replace BK660:=kb2 BK660 hb;replace BK670:=kb2 BK670 hb;replace HB:=hB2 HB hb;(try clear hb);(try clear ho0);refine hK.out _ _ hC_ (fun hHeld=>?_);clear hK K;refine nN_ (some 11) ?_;exact norm_ nJ_ (hJ4_6_9 (v662,v665,gb670) _ ⟨hHeld,(by (with_reducible repeat (first | apply Kd.R_alloc | apply Kd.R_drewN | apply Kd.R_drew));exact Kd.R_mono HO663.out (fun _ hk=>⟨hk.1.2,hk.2⟩)),(by (with_reducible repeat (first | apply Kd.R_alloc | apply Kd.R_drewN | apply Kd.R_drew));exact Kd.R_mono HO666.out (fun _ hk=>⟨hk.2,hk.1⟩)),(kB BK658),(kB BK659),(kB BK660),(kB BK670),GW670.out,GE670.out,NB658_670.out,NB670_658.out,NB659_670.out,NB670_659.out,NB660_670.out,NB670_660.out,bB⟩)
              · skip
                rintro ⟨v662,gb670⟩ w70 ⟨hS_,h0_,h1_,h2_,h3_,h4_,h5_,h6_,h7_,h8_,h9_,h10_,h11_,h12_,h13_⟩;have HO663:=amk h0_;replace BK658:=amk h1_;replace BK659:=amk h2_;replace BK660:=amk h3_;have BK670:=amk h4_;have GW670:=amk h5_;have GE670:=amk h6_;have NB658_670:=amk h7_;have NB670_658:=amk h8_;have NB659_670:=amk h9_;have NB670_659:=amk h10_;have NB660_670:=amk h11_;have NB670_660:=amk h12_;replace HB:=amk h13_;clear h0_ h1_ h2_ h3_ h4_ h5_ h6_ h7_ h8_ h9_ h10_ h11_ h12_ h13_;have hHeld:=hS_;refine norm_ (a':=?_) ?_ ?_;rotate_left
                · simp only [putAll,Act.put,List.setIfInBounds_toArray,List.set_cons_zero,List.set_cons_succ]
                  rfl
                refine oN_ HT_ 6 (some 13) (bA 11 639) (fun K hK=>?_);refine Kd.R_lit_step k44 _ 44 ?hg (N:=13) ?hd (xs:=([(⟨a1_0,a1_1,a1_2⟩:S44)]:List (S44))) (inner:=[.int .i64 a1_0, .int .i64 a1_1, .int .i64 a1_2]) (ok:=fun _=>True) (okp:=fun _=>True) ?hr ?hp (fun _ hk=>hk) trivial (Below.refl _ _) (Nat.le_refl _) (by simp) ?_;(case hd=>rfl);(case hg=>rfl);(case hr=>first | (go_simp;done) | (go_simp;rfl));(case hp=>exact (Reps.c3 (show Kd.M k44 _ _ _ (⟨a1_0,a1_1,a1_2⟩:S44) [.int .i64 a1_0, .int .i64 a1_1, .int .i64 a1_2] from (k44_mkM _ _ _ (⟨a1_0,a1_1,a1_2⟩:S44) )) (Reps.none _ _)));intro v665 w71 ho72 hb hg_ hnew_;clear hg_ hnew_;(first | rw [←Ny664.out] at ho72 | (simp only [Int.reduceToNat] at ho72;rw [←Ny664.out] at ho72));have HO666:=amk (Kd.R_lower (Kd.R_newB (Kd.R_new' ho72 (Kd.R_lt (oX HO663))) (g:=gb659) (o:= .cells #[.int .i64 a1_0, .int .i64 a1_1, .int .i64 a1_2] 44 (0,0)) (kB BK659)) (below_size bB));replace HO663:=amk (Kd.R_elder' (oX HO663) (Kd.R_base ho72) hb);replace BK658:=kb2 BK658 hb;replace BK659:=kb2 BK659 hb;replace BK660:=kb2 BK660 hb;replace BK670:=kb2 BK670 hb;replace HB:=hB2 HB hb;clear hb ho72;refine hK.out _ _ hC_ (fun hHeld=>?_);clear hK K;refine nN_ (some 13) ?_;exact norm_ nJ_ (hJ4_6_9 (v662,v665,gb670) _ ⟨hHeld,(by (with_reducible repeat (first | apply Kd.R_alloc | apply Kd.R_drewN | apply Kd.R_drew));exact Kd.R_mono HO663.out (fun _ hk=>⟨hk.2,hk.1⟩)),(by (with_reducible repeat (first | apply Kd.R_alloc | apply Kd.R_drewN | apply Kd.R_drew));exact Kd.R_mono HO666.out (fun _ hk=>⟨hk.1.2,hk.2⟩)),(kB BK658),(kB BK659),(kB BK660),(kB BK670),GW670.out,GE670.out,NB658_670.out,NB670_658.out,NB659_670.out,NB670_659.out,NB660_670.out,NB670_660.out,bB⟩)
            · skip
              rintro ⟨v662,v665⟩ w71 ⟨hS_,h0_,h1_,h2_,h3_,h4_,h5_⟩;have HO663:=amk h0_;have HO666:=amk h1_;replace BK658:=amk h2_;replace BK659:=amk h3_;replace BK660:=amk h4_;replace HB:=amk h5_;clear h0_ h1_ h2_ h3_ h4_ h5_;have hHeld:=hS_;obtain ⟨Ao73,co73,eo73⟩:=Kd.R_slice HO666.out;(first | subst eo73 | (injection eo73 with f1_ f2_ f3_;have f4_:=f1_.symm;have f5_:=f3_.symm;clear f1_ f2_ f3_;subst f4_;subst f5_));refine norm_ (a':=?_) ?_ ?_;rotate_left
              · simp only [putAll,Act.put,List.setIfInBounds_toArray,List.set_cons_zero,List.set_cons_succ]
                rfl
              refine two_ (i:=7) (j:=9) (Ni:=some 14) (Nj:=some 6) (bA 11 255) (bA 11 639) rfl rfl rfl rfl (two_of HT_.out (by kernel_rfl)) (by decide) (by decide) (fun K hK=>?_) (fun K hK=>?_)
              · skip
                refine Kd.R_append_rows_step k44 (w0:=w) w.heap.size (by rfl) (.tmp 11) (.tmp 13) 28 44 (.agg #[(.int .i64 0),(.int .i64 0),(.int .i64 0)]) 24 rfl Try.underlying28 info44 rfl (by decide) (by omega) v662 t661 y664 _ _ _ (fun k_=>some k_≠(.slice Ao73 y664.length co73:Value).ownBlock∧k_≠gb659) (fun _=>False) rfl rfl ?aO ?aR (fun _ _ h=>h) (fun _ h=>h.elim) ?aF ?aB ?aS ?aL ?_;(case aR=>exact cB ((Kd.R_reads' HO666.out).2.2));(case aB=>exact bB);(case aF=>exact (fun k_ hk=>⟨Kd.fresh' (Kd.R_lt (oX HO666)) k_ hk,Kd.freshB (g:=gb659) (o:= .cells #[.int .i64 a1_0, .int .i64 a1_1, .int .i64 a1_2] 44 (0,0)) (kB BK659) k_ hk⟩));(case aO=>exact (oX HO663));(case aS=>exact (below_size bB));(case aL=>have:=LMc4.out;omega);intro v668 w72 ho hb hg hat;rw [←Ny667.out] at ho;replace BK658:=bG BK658 hg (Kd.R_ne HO663.out BK658.out (by decide));replace BK659:=bG BK659 hg (Kd.R_away HO663.out (fun _ hk=>hk.2));replace BK660:=bG BK660 hg (Kd.R_ne HO663.out BK660.out (by decide));replace HO666:=amk (Kd.R_after (ok:=(fun k_=>k_≠gb659)) (by (with_reducible repeat (first | apply Kd.R_alloc | apply Kd.R_drewN | apply Kd.R_drew));exact Kd.R_mono HO666.out (fun _ hk=>⟨hk.2,hk.1⟩)) hg hat);replace HB:=amk (hb);have HO669:=amk (ho);clear HO663;clear ho hb hg hat;obtain ⟨Ao74,co74,eo74⟩:=Kd.R_slice HO669.out;(first | subst eo74 | (injection eo74 with f1_ f2_ f3_;have f4_:=f1_.symm;have f5_:=f3_.symm;clear f1_ f2_ f3_;subst f4_;subst f5_));refine hK.out _ _ hC_ (fun hHeld=>?_);clear hK K;refine nN_ (some 14) ?_;refine pU_ HT_ 8 (some 15) (bA 11 511) ?_;exact norm_ nJ_ (hJ4_6_7 (v662, .slice Ao73 y664.length co73, .slice Ao74 y667.length co74) _ ⟨hHeld,(by (with_reducible repeat (first | apply Kd.R_alloc | apply Kd.R_drewN | apply Kd.R_drew));exact Kd.R_mono HO666.out (fun _ hk=>⟨hk.2,hk.1⟩)),(oX HO669),(kB BK658),(kB BK659),(kB BK660),bB⟩)
              · skip
                refine box_step ?hg (N:=6) ?hd (cs:= #[.int .i64 0, .int .i64 0, .slice none 0 0]) (t:=30) ?hr ?_;(case hd=>rfl);(case hg=>rfl);(case hr=>first | (go_simp;done) | (go_simp;rfl));intro gb670 hg w72 hbox hb;replace HO663:=amk (Kd.R_below (oX HO663) hb);replace HO666:=amk (Kd.R_below (oX HO666) hb);have BK670:=amk (hbox);have GW670:=sZ HB hg;have GE670:=sZ HB hg;replace HB:=hB2 HB hb;have NB658_670:=neL BK658 hg;have NB670_658:=neR BK658 hg;replace BK658:=kb2 BK658 hb;have NB659_670:=neL BK659 hg;have NB670_659:=neR BK659 hg;replace BK659:=kb2 BK659 hb;have NB660_670:=neL BK660 hg;have NB670_660:=neR BK660 hg;replace BK660:=kb2 BK660 hb;clear hb hbox hg;refine hK.out _ _ hC_ (fun hHeld=>?_);clear hK K;refine nN_ (some 6) ?_;exact norm_ nJ_ (hJ4_6_9 (v662, .slice Ao73 y664.length co73,gb670) _ ⟨hHeld,(oX HO663),(oX HO666),(kB BK658),(kB BK659),(kB BK660),(kB BK670),GW670.out,GE670.out,NB658_670.out,NB670_658.out,NB659_670.out,NB670_659.out,NB660_670.out,NB670_660.out,bB⟩)
          · skip
            rintro ⟨v662,v665,gb670⟩ w72 ⟨hS_,h0_,h1_,h2_,h3_,h4_,h5_,h6_,h7_,h8_,h9_,h10_,h11_,h12_,h13_,h14_⟩;have HO663:=amk h0_;have HO666:=amk h1_;replace BK658:=amk h2_;replace BK659:=amk h3_;replace BK660:=amk h4_;have BK670:=amk h5_;have GW670:=amk h6_;have GE670:=amk h7_;have NB658_670:=amk h8_;have NB670_658:=amk h9_;have NB659_670:=amk h10_;have NB670_659:=amk h11_;have NB660_670:=amk h12_;have NB670_660:=amk h13_;replace HB:=amk h14_;clear h0_ h1_ h2_ h3_ h4_ h5_ h6_ h7_ h8_ h9_ h10_ h11_ h12_ h13_ h14_;have hHeld:=hS_;obtain ⟨Ao74,co74,eo74⟩:=Kd.R_slice HO666.out;(first | subst eo74 | (injection eo74 with f1_ f2_ f3_;have f4_:=f1_.symm;have f5_:=f3_.symm;clear f1_ f2_ f3_;subst f4_;subst f5_));refine norm_ (a':=?_) ?_ ?_;rotate_left
            · simp only [putAll,Act.put,List.setIfInBounds_toArray,List.set_cons_zero,List.set_cons_succ]
              rfl
            refine oN_ HT_ 7 (some 14) (bA 11 767) (fun K hK=>?_);refine Kd.R_append_rows_step k44 (w0:=w) w.heap.size (by rfl) (.tmp 11) (.tmp 13) 28 44 (.agg #[(.int .i64 0),(.int .i64 0),(.int .i64 0)]) 24 rfl Try.underlying28 info44 rfl (by decide) (by omega) v662 t661 y664 _ _ _ (fun k_=>some k_≠(.slice Ao74 y664.length co74:Value).ownBlock∧k_≠gb659) (fun _=>False) rfl rfl ?aO ?aR (fun _ _ h=>h) (fun _ h=>h.elim) ?aF ?aB ?aS ?aL ?_;(case aR=>exact cB ((Kd.R_reads' HO666.out).2.2));(case aB=>exact bB);(case aF=>exact (fun k_ hk=>⟨Kd.fresh' (Kd.R_lt (oX HO666)) k_ hk,Kd.freshB (g:=gb659) (o:= .cells #[.int .i64 a1_0, .int .i64 a1_1, .int .i64 a1_2] 44 (0,0)) (kB BK659) k_ hk⟩));(case aO=>exact (oX HO663));(case aS=>exact (below_size bB));(case aL=>have:=LMc4.out;omega);intro v668 w73 ho hb hg hat;rw [←Ny667.out] at ho;replace BK658:=bG BK658 hg (Kd.R_ne HO663.out BK658.out (by decide));replace BK659:=bG BK659 hg (Kd.R_away HO663.out (fun _ hk=>hk.2));replace BK660:=bG BK660 hg (Kd.R_ne HO663.out BK660.out (by decide));replace HO666:=amk (Kd.R_after (ok:=(fun k_=>k_≠gb659)) (by (with_reducible repeat (first | apply Kd.R_alloc | apply Kd.R_drewN | apply Kd.R_drew));exact Kd.R_mono HO666.out (fun _ hk=>⟨hk.2,hk.1⟩)) hg hat);replace BK670:=bG BK670 hg (Kd.R_ne HO663.out BK670.out (by decide));replace HB:=amk (hb);have HO669:=amk (ho);clear HO663;clear ho hb hg hat;obtain ⟨Ao75,co75,eo75⟩:=Kd.R_slice HO669.out;(first | subst eo75 | (injection eo75 with f1_ f2_ f3_;have f4_:=f1_.symm;have f5_:=f3_.symm;clear f1_ f2_ f3_;subst f4_;subst f5_));refine hK.out _ _ hC_ (fun hHeld=>?_);clear hK K;refine nN_ (some 14) ?_;refine pU_ HT_ 8 (some 15) (bA 11 1023) ?_;exact norm_ nJ_ (hJ4_6_7_9 (v662, .slice Ao74 y664.length co74, .slice Ao75 y667.length co75,gb670) _ ⟨hHeld,(by (with_reducible repeat (first | apply Kd.R_alloc | apply Kd.R_drewN | apply Kd.R_drew));exact Kd.R_mono HO666.out (fun _ hk=>⟨hk.2,hk.1⟩)),(oX HO669),(kB BK658),(kB BK659),(kB BK660),(kB BK670),GW670.out,GE670.out,NB658_670.out,NB670_658.out,NB659_670.out,NB670_659.out,NB660_670.out,NB670_660.out,bB⟩)
        · skip
          rintro ⟨v662,v665,v668⟩ w74 ⟨hS_,h0_,h1_,h2_,h3_,h4_,h5_⟩;have HO666:=amk h0_;have HO669:=amk h1_;replace BK658:=amk h2_;replace BK659:=amk h3_;replace BK660:=amk h4_;replace HB:=amk h5_;clear h0_ h1_ h2_ h3_ h4_ h5_;have hHeld:=hS_;obtain ⟨Ao75,co75,eo75⟩:=Kd.R_slice HO669.out;(first | subst eo75 | (injection eo75 with f1_ f2_ f3_;have f4_:=f1_.symm;have f5_:=f3_.symm;clear f1_ f2_ f3_;subst f4_;subst f5_));refine norm_ (a':=?_) ?_ ?_;rotate_left
          · simp only [putAll,Act.put,List.setIfInBounds_toArray,List.set_cons_zero,List.set_cons_succ]
            rfl
          refine oN_ HT_ 9 (some 6) (bA 11 1023) (fun K hK=>?_);refine box_step ?hg (N:=6) ?hd (cs:= #[.int .i64 0, .int .i64 0, .slice none 0 0]) (t:=30) ?hr ?_;(case hd=>rfl);(case hg=>rfl);(case hr=>first | (go_simp;done) | (go_simp;rfl));intro gb670 hg w76 hbox hb;replace HO666:=amk (Kd.R_below (oX HO666) hb);replace HO669:=amk (Kd.R_below (oX HO669) hb);have BK670:=amk (hbox);have GW670:=sZ HB hg;have GE670:=sZ HB hg;replace HB:=hB2 HB hb;have NB658_670:=neL BK658 hg;have NB670_658:=neR BK658 hg;replace BK658:=kb2 BK658 hb;have NB659_670:=neL BK659 hg;have NB670_659:=neR BK659 hg;replace BK659:=kb2 BK659 hb;have NB660_670:=neL BK660 hg;have NB670_660:=neR BK660 hg;replace BK660:=kb2 BK660 hb;clear hb hbox hg;refine hK.out _ _ hC_ (fun hHeld=>?_);clear hK K;refine nN_ (some 6) ?_;exact norm_ nJ_ (hJ4_6_7_9 (v662,v665, .slice Ao75 y667.length co75,gb670) _ ⟨hHeld,(oX HO666),(oX HO669),(kB BK658),(kB BK659),(kB BK660),(kB BK670),GW670.out,GE670.out,NB658_670.out,NB670_658.out,NB659_670.out,NB670_659.out,NB660_670.out,NB670_660.out,bB⟩)
      rintro ⟨v662,v665,v668,gb670⟩ w75 ⟨hS_,h0_,h1_,h2_,h3_,h4_,h5_,h6_,h7_,h8_,h9_,h10_,h11_,h12_,h13_,h14_⟩;have HO666:=amk h0_;have HO669:=amk h1_;replace BK658:=amk h2_;replace BK659:=amk h3_;replace BK660:=amk h4_;have BK670:=amk h5_;have GW670:=amk h6_;have GE670:=amk h7_;have NB658_670:=amk h8_;have NB670_658:=amk h9_;have NB659_670:=amk h10_;have NB670_659:=amk h11_;have NB660_670:=amk h12_;have NB670_660:=amk h13_;replace HB:=amk h14_;clear h0_ h1_ h2_ h3_ h4_ h5_ h6_ h7_ h8_ h9_ h10_ h11_ h12_ h13_ h14_;have hHeld:=hS_;obtain ⟨Ao76,co76,eo76⟩:=Kd.R_slice HO669.out;(first | subst eo76 | (injection eo76 with f1_ f2_ f3_;have f4_:=f1_.symm;have f5_:=f3_.symm;clear f1_ f2_ f3_;subst f4_;subst f5_));refine norm_ (a':=?_) ?_ ?_;rotate_left
      · simp only [putAll,Act.put,List.setIfInBounds_toArray,List.set_cons_zero,List.set_cons_succ]
        rfl
      refine oN_ HT_ 10 none (bA 11 2047) (fun K hK=>?_);have hs77:w75.cell? ⟨gb670,0,none⟩=some (.int .i64 0):=(blk_cell BK670.out 0).trans rfl;have hfs77:=blk_frozen BK670.out 0;have hns77_0:=NB658_670.out;have hns77_1:=NB659_670.out;have hns77_2:=NB660_670.out;have hms77_0:=NB670_658.out;have hms77_1:=NB670_659.out;have hms77_2:=NB670_660.out;have hs78:w75.cell? ⟨gb670,1,none⟩=some (.int .i64 0):=(blk_cell BK670.out 1).trans rfl;have hfs78:=blk_frozen BK670.out 1;have hns78_0:=NB658_670.out;have hns78_1:=NB659_670.out;have hns78_2:=NB660_670.out;have hms78_0:=NB670_658.out;have hms78_1:=NB670_659.out;have hms78_2:=NB670_660.out;have hs79:w75.cell? ⟨gb670,2,none⟩=some (.slice none 0 0):=(blk_cell BK670.out 2).trans rfl;have hfs79:=blk_frozen BK670.out 2;have hns79_0:=NB658_670.out;have hns79_1:=NB659_670.out;have hns79_2:=NB660_670.out;have hms79_0:=NB670_658.out;have hms79_1:=NB670_659.out;have hms79_2:=NB670_660.out;refine skip_ (w1:=?_) (by rfl) rfl ?_ ?_;rotate_left
      · go_simp
        rfl
      refine hK.out _ _ ⟨((cell_far (p:=⟨gb670,_,none⟩) NB658_670.out _).trans (((cell_far (p:=⟨gb670,_,none⟩) NB658_670.out _).trans (((cell_far (p:=⟨gb670,_,none⟩) NB658_670.out _).trans (hHeld.1)))))),((cell_far (p:=⟨gb670,_,none⟩) NB658_670.out _).trans (((cell_far (p:=⟨gb670,_,none⟩) NB658_670.out _).trans (((cell_far (p:=⟨gb670,_,none⟩) NB658_670.out _).trans (hHeld.2.1)))))),((cell_far (p:=⟨gb670,_,none⟩) NB658_670.out _).trans (((cell_far (p:=⟨gb670,_,none⟩) NB658_670.out _).trans (((cell_far (p:=⟨gb670,_,none⟩) NB658_670.out _).trans (hHeld.2.2.1)))))),((cell_far (p:=⟨gb670,_,none⟩) NB659_670.out _).trans (((cell_far (p:=⟨gb670,_,none⟩) NB659_670.out _).trans (((cell_far (p:=⟨gb670,_,none⟩) NB659_670.out _).trans (hHeld.2.2.2.1)))))),((cell_far (p:=⟨gb670,_,none⟩) NB659_670.out _).trans (((cell_far (p:=⟨gb670,_,none⟩) NB659_670.out _).trans (((cell_far (p:=⟨gb670,_,none⟩) NB659_670.out _).trans (hHeld.2.2.2.2.1)))))),((cell_far (p:=⟨gb670,_,none⟩) NB659_670.out _).trans (((cell_far (p:=⟨gb670,_,none⟩) NB659_670.out _).trans (((cell_far (p:=⟨gb670,_,none⟩) NB659_670.out _).trans (hHeld.2.2.2.2.2))))))⟩ (fun hHeld=>?_);clear hK K;refine done_ (done_of HT_.out (by kernel_rfl)) ?_;have hnb80:=NB658_659.out;have hnc80:=NB659_658.out;have hnb81:=NB658_660.out;have hnc81:=NB660_658.out;have hnb82:=NB658_670.out;have hnc82:=NB670_658.out;obtain ⟨hcz83_0,hcz83_1,hcz83_2,hfz83_0,hfz83_1,hfz83_2⟩:=cells3 BK658.out;(try go_wp2_with (first | (refine gc_ 15 17 Try.func15 #[.agg #[.int .i64 a0_0, .int .i64 a0_1, .slice A0_2 l0_2.length c0_2]] ?_;(with_reducible refine (impl_IsPuzzle.calls a0_0 a0_1 _ _ l0_2 false _ ?_ ?_ A5.out).mono ?_);exact Kd.C_below HR0_2.out bB;exact HC0_2.out;rintro e w84 ⟨rfl,hb⟩;refine ⟨_,rfl,?_⟩;replace HO666:=amk (Kd.R_below (by (with_reducible repeat (first | apply Kd.R_alloc | apply Kd.R_drewN | apply Kd.R_drew));exact (Kd.R_mono (Kd.R_far (p:=⟨gb670,2,none⟩) (Kd.R_far (p:=⟨gb670,1,none⟩) (Kd.R_far (p:=⟨gb670,0,none⟩) (Kd.R_types HO666.out BK670.out (by decide)) (fun _ hk=>hk.2) (.int .i64 a0_0)) (fun _ hk=>hk.2) (.int .i64 a0_1)) (fun _ hk=>hk.2) (.slice Ao76 y667.length co76)) (fun _ h_=>h_.1))) hb);replace HO669:=amk (Kd.R_below (by (with_reducible repeat (first | apply Kd.R_alloc | apply Kd.R_drewN | apply Kd.R_drew));exact (Kd.R_mono (Kd.R_far (p:=⟨gb670,2,none⟩) (Kd.R_far (p:=⟨gb670,1,none⟩) (Kd.R_far (p:=⟨gb670,0,none⟩) (Kd.R_types HO669.out BK670.out (by decide)) (fun _ hk=>hk.2) (.int .i64 a0_0)) (fun _ hk=>hk.2) (.int .i64 a0_1)) (fun _ hk=>hk.2) (.slice Ao76 y667.length co76)) (fun _ h_=>h_.1))) hb);replace BK658:=kb2 BK658 hb;replace BK659:=kb2 BK659 hb;replace BK660:=kb2 BK660 hb;replace BK670:=amk (blk_below (g:=gb670) (o:= .cells #[.int .i64 a0_0, .int .i64 a0_1, .slice Ao76 y667.length co76] 30 (0,0)) (kP BK670) hb);replace HB:=hB2 HB hb;(try clear hb);have hnb85:=NB660_659.out;have hnc85:=NB659_660.out;have hnb86:=NB660_670.out;have hnc86:=NB670_660.out;obtain ⟨hcz87_0,hcz87_1,hcz87_2,hfz87_0,hfz87_1,hfz87_2⟩:=cells3 BK660.out)));refine bodyPost_ret (results_ct rfl _ _ gb660 30 #[.int .i64 0, .int .i64 0, .slice none 0 0] (0,0) _ rfl (kP BK660) Try.underlying30 rfl (by kernel_rfl)) rfl ?_;exact ⟨_,rF_,xN_,bB⟩
  · rw [if_neg c4] at H;exact absurd H (by simp)
/-! ### impl_Lock_isText: function 92 -/
def impl_Lock_isText.l0:Nat→ByteArray→Int→Int→Int→Int→Option (Bool)
  | 0,_,_,_,_,_=>none
  | k + 1,x1,x7,x8,x263000,x263001=>if x8 < x7 then (if 0≤x8 then (if x8 < (x1.size:Int) then ((impl_within.f (wrap64 (bt x1 x8)) 48 (wrap64 ((wrap64 (48 + x263001)) - 1))).bind fun t263=>(if t263=true then (impl_Lock_isText.l0 k x1 x7 (wrap64 (x8 + 1)) x263000 x263001) else (some false))) else (none)) else (none)) else (some true)
def impl_Lock_isText.f (k:Nat) (a0_0:Int) (a0_1:Int) (a1:ByteArray):Option (Bool):=impl_Lock_isText.l0 k a1 (a1.size:Int) 0 a0_0 a0_1
set_option maxHeartbeats 8000000 in
set_option maxRecDepth 100000 in
theorem impl_Lock_isText.calls (k:Nat) (a0_0:Int) (a0_1:Int) (a1:ByteArray) (r:Bool) (w:World) (h:impl_Lock_isText.f k a0_0 a0_1 a1=some r) :
    Calls Try.prog 92 #[.agg #[.int .i64 a0_0, .int .i64 a0_1], .string a1] w fun e w'=>e = .returned (.bool r)∧Below w.heap.size w w':=by
  have hu25:=Try.underlying25;have HB:=amk (Below.refl w.heap.size w);unfold impl_Lock_isText.f at h;have H:=h;clear h;have H':=amk H;clear H;go_enter Try.func92,Try.ntmps92;go_wp2_with (first | ((with_reducible refine gate_dst (N:=2) rfl ?_);refine boxE_ HB 2 #[.int .i64 a0_0, .int .i64 a0_1] 25 ?_;clear HB;intro gb262 w3 HB BK262 GW262 GE262 hb;clear hb))
  repeat (go_quiet (first | ((with_reducible refine gate_dst (N:=2) rfl ?_);refine boxE_ HB 2 #[.int .i64 a0_0, .int .i64 a0_1] 25 ?_;clear HB;intro gb262 w3 HB BK262 GW262 GE262 hb;clear hb));try go_wp2_with (first | ((with_reducible refine gate_dst (N:=2) rfl ?_);refine boxE_ HB 2 #[.int .i64 a0_0, .int .i64 a0_1] 25 ?_;clear HB;intro gb262 w3 HB BK262 GW262 GE262 hb;clear hb)))
  go_loopg [8] k (fun kq v8 w'=> ∃ (x8_1:Int),v8 = .int .i64 x8_1∧Aside0 (impl_Lock_isText.l0 kq a1 (a1.size:Int) x8_1 a0_0 a0_1=some r)∧Aside0 (kq≤k)∧Aside0 (w'.heap[gb262]?=some (.cells #[.int .i64 a0_0, .int .i64 a0_1] 25 (0,0)))∧Aside0 (Below w.heap.size w w'))
  case atStart=>exact ⟨(0),rS_,H',⟨Nat.le_refl _⟩,⟨kB BK262⟩,⟨bB⟩⟩
  case round =>
    clear H';(try clear p2);obtain ⟨x8_1,rfl,HA,HK1,BK262,HB⟩:=hrel
    cases gk with
    | zero=>exact absurd HA.out (by simp [impl_Lock_isText.l0])
    | succ k1 =>
      have H:=HA.out;clear HA;simp only [impl_Lock_isText.l0] at H;replace H:=iteE H;obtain ⟨c4b0,H⟩ | ⟨c4b0,H⟩:=H
      · replace H:=iteN H;obtain ⟨c5b0,H⟩:=H;replace H:=iteN H;obtain ⟨c6b0,H⟩:=H;replace H:=bE H;obtain ⟨t263,A8,H⟩:=H;replace H:=iteB H;obtain ⟨rfl,H⟩ | ⟨rfl,H⟩:=H
        · have H':=amk H;clear H;have p7:0≤(x8_1:Int):=dA_;have q7:x8_1 < (a1.size:Int):=dA_;have hx7:=bt_at a1 x8_1;replace p7:=eq_true p7;replace q7:=eq_true q7;obtain ⟨hcz10_0,hcz10_1,hfz10_0,hfz10_1⟩:=cells2 BK262.out;go_wp2_with (first | (go_at_call 42;(with_reducible refine (impl_within.calls (wrap64 (bt a1 x8_1)) 48 (wrap64 ((wrap64 (48 + a0_1)) - 1)) true _ A8.out).mono ?_);rintro e w' ⟨rfl,⟨nd,rfl⟩⟩;(try exact dN_)))
          repeat (go_quiet (first | (go_at_call 42;(with_reducible refine (impl_within.calls (wrap64 (bt a1 x8_1)) 48 (wrap64 ((wrap64 (48 + a0_1)) - 1)) true _ A8.out).mono ?_);rintro e w' ⟨rfl,⟨nd,rfl⟩⟩;(try exact dN_)));try go_wp2_with (first | (go_at_call 42;(with_reducible refine (impl_within.calls (wrap64 (bt a1 x8_1)) 48 (wrap64 ((wrap64 (48 + a0_1)) - 1)) true _ A8.out).mono ?_);rintro e w' ⟨rfl,⟨nd,rfl⟩⟩;(try exact dN_))))
          go_roundg k1
          case measure=>have:=HK1.out;omega
          case rel=>exact ⟨(wrap64 (x8_1 + 1)),rS_,H',⟨by have:=HK1.out;omega⟩,⟨kB BK262⟩,⟨bB⟩⟩
        · obtain rfl:=Option.some.inj H;have p7:0≤(x8_1:Int):=dA_;have q7:x8_1 < (a1.size:Int):=dA_;have hx7:=bt_at a1 x8_1;replace p7:=eq_true p7;replace q7:=eq_true q7;obtain ⟨hcz11_0,hcz11_1,hfz11_0,hfz11_1⟩:=cells2 BK262.out;go_wp2_with (first | (go_at_call 42;(with_reducible refine (impl_within.calls (wrap64 (bt a1 x8_1)) 48 (wrap64 ((wrap64 (48 + a0_1)) - 1)) false _ A8.out).mono ?_);rintro e w' ⟨rfl,⟨nd,rfl⟩⟩;(try exact dN_)))
          repeat (go_quiet (first | (go_at_call 42;(with_reducible refine (impl_within.calls (wrap64 (bt a1 x8_1)) 48 (wrap64 ((wrap64 (48 + a0_1)) - 1)) false _ A8.out).mono ?_);rintro e w' ⟨rfl,⟨nd,rfl⟩⟩;(try exact dN_)));try go_wp2_with (first | (go_at_call 42;(with_reducible refine (impl_within.calls (wrap64 (bt a1 x8_1)) 48 (wrap64 ((wrap64 (48 + a0_1)) - 1)) false _ A8.out).mono ?_);rintro e w' ⟨rfl,⟨nd,rfl⟩⟩;(try exact dN_))))
          go_ret;exact ⟨rF_,bB⟩
      · obtain rfl:=Option.some.inj H;go_wp2
        repeat (go_quiet (fail);try go_wp2)
        go_ret;exact ⟨rF_,bB⟩
/-! ### impl_Lock_isCode: function 79 -/
def impl_Lock_isCode.f (k:Nat) (a0_0:Int) (a0_1:Int) (a1:ByteArray):Option (Bool):=if (a1.size:Int)=a0_0 then ((impl_Lock_isText.f k a0_0 a0_1 a1).bind fun t265=>(some t265)) else (some false)
set_option maxHeartbeats 8000000 in
set_option maxRecDepth 100000 in
theorem impl_Lock_isCode.calls (k:Nat) (a0_0:Int) (a0_1:Int) (a1:ByteArray) (r:Bool) (w:World) (h:impl_Lock_isCode.f k a0_0 a0_1 a1=some r) :
    Calls Try.prog 79 #[.agg #[.int .i64 a0_0, .int .i64 a0_1], .string a1] w fun e w'=>e = .returned (.bool r)∧Below w.heap.size w w':=by
  have hu25:=Try.underlying25;have HB:=amk (Below.refl w.heap.size w);unfold impl_Lock_isCode.f at h;have H:=h;clear h
  by_cases c3:(a1.size:Int)=a0_0
  · rw [if_pos c3] at H;have c3b0:((a1.size:Int) == a0_0)=true:=beq_iff_eq.mpr c3;have c3b1:((a1.size:Int) != a0_0)=false:=bne_eq_false_iff_eq.mpr c3;clear c3;replace H:=bE H;obtain ⟨t265,A4,H⟩:=H;obtain rfl:=Option.some.inj H;go_enter Try.func79,Try.ntmps79;go_wp2_with (first | ((with_reducible refine gate_dst (N:=2) rfl ?_);refine boxE_ HB 2 #[.int .i64 a0_0, .int .i64 a0_1] 25 ?_;clear HB;intro gb264 w5 HB BK264 GW264 GE264 hb;clear hb;obtain ⟨hcz6_0,hcz6_1,hfz6_0,hfz6_1⟩:=cells2 BK264.out) | (go_at_call 92;(with_reducible refine (impl_Lock_isText.calls k a0_0 a0_1 a1 t265 _ A4.out).mono ?_);rintro e w7 ⟨rfl,hb⟩;replace BK264:=kb2 BK264 hb;replace HB:=hB2 HB hb;(try clear hb)));go_ret;exact ⟨rF_,bB⟩
  · rw [if_neg c3] at H;have c3b0:((a1.size:Int) == a0_0)=false:=beq_eq_false_iff_ne.mpr c3;have c3b1:((a1.size:Int) != a0_0)=true:=bne_iff_ne.mpr c3;obtain rfl:=Option.some.inj H;go_enter Try.func79,Try.ntmps79;go_wp2_with (first | ((with_reducible refine gate_dst (N:=2) rfl ?_);refine boxE_ HB 2 #[.int .i64 a0_0, .int .i64 a0_1] 25 ?_;clear HB;intro gb264 w8 HB BK264 GW264 GE264 hb;clear hb;obtain ⟨hcz9_0,hcz9_1,hfz9_0,hfz9_1⟩:=cells2 BK264.out));go_ret;exact ⟨rF_,bB⟩
/-! ### impl_has: function 41 -/
def impl_has.l0:Nat→List ByteArray→Int→Int→Int→Int→Option (Bool)
  | 0,_,_,_,_,_=>none
  | k + 1,x10,x11,x12,x267000,x267001=>if x12 < x11 then (if 0≤x12 then (if x12 < (x10.length:Int) then ((impl_Lock_isCode.f k x267000 x267001 (rdOf ByteArray.empty x10 x12)).bind fun t269=>(if t269=true then (impl_has.l0 k x10 x11 (wrap64 (x12 + 1)) x267000 x267001) else (some false))) else (none)) else (none)) else (some true)
def impl_has.f (k:Nat) (a0_0:Int) (a0_1:Int) (l1:List ByteArray):Option (Bool):=(impl_IsLock.f a0_0 a0_1).bind fun t267=>(if t267=true then (impl_has.l0 k l1 (l1.length:Int) 0 a0_0 a0_1) else (some false))
set_option maxHeartbeats 8000000 in
set_option maxRecDepth 100000 in
theorem impl_has.calls (k:Nat) (a0_0:Int) (a0_1:Int) (A1:Option Addr) (c1:Nat) (l1:List ByteArray) (r:Bool) (w:World) (hr1:Kd.C Kd.string w A1 l1.length l1) (hc1:l1.length≤c1) (h:impl_has.f k a0_0 a0_1 l1=some r) :
    Calls Try.prog 41 #[.agg #[.int .i64 a0_0, .int .i64 a0_1], .slice A1 l1.length c1] w fun e w'=>e = .returned (.bool r)∧Below w.heap.size w w':=by
  have hu25:=Try.underlying25;have HR1:=amk hr1;have HC1:=amk hc1;clear hr1 hc1;have HB:=amk (Below.refl w.heap.size w);unfold impl_has.f at h;have H:=h;clear h;replace H:=bE H;obtain ⟨t267,A3,H⟩:=H;replace H:=iteB H;obtain ⟨rfl,H⟩ | ⟨rfl,H⟩:=H
  · have H':=amk H;clear H;go_enter Try.func41,Try.ntmps41;go_wp2_with (first | ((with_reducible refine gate_dst (N:=2) rfl ?_);refine boxE_ HB 2 #[.int .i64 a0_0, .int .i64 a0_1] 25 ?_;clear HB;intro gb266 w5 HB BK266 GW266 GE266 hb;clear hb;obtain ⟨hcz6_0,hcz6_1,hfz6_0,hfz6_1⟩:=cells2 BK266.out) | (refine gc_ 53 8 Try.func53 #[.agg #[.int .i64 a0_0, .int .i64 a0_1]] ?_;(with_reducible refine (impl_IsLock.calls a0_0 a0_1 true _ A3.out).mono ?_);rintro e w7 ⟨rfl,hb⟩;refine ⟨_,rfl,?_⟩;replace BK266:=kb2 BK266 hb;replace HB:=hB2 HB hb;(try clear hb)))
    go_loopg [12] k (fun kq v12 w'=> ∃ (x12_1:Int),v12 = .int .i64 x12_1∧Aside0 (impl_has.l0 kq l1 (l1.length:Int) x12_1 a0_0 a0_1=some r)∧Aside0 (kq≤k)∧Aside0 (w'.heap[gb266]?=some (.cells #[.int .i64 a0_0, .int .i64 a0_1] 25 (0,0)))∧Aside0 (Below w.heap.size w w'))
    case atStart=>exact ⟨(0),rS_,H',⟨Nat.le_refl _⟩,⟨kB BK266⟩,⟨bB⟩⟩
    case round =>
      clear H';(try clear c1);(try clear p2);(try clear c4);(try clear c5);(try clear hcz6_0);(try clear hcz6_1);(try clear hfz6_0);(try clear hfz6_1);obtain ⟨x12_1,rfl,HA,HK1,BK266,HB⟩:=hrel
      cases gk with
      | zero=>exact absurd HA.out (by simp [impl_has.l0])
      | succ k1 =>
        have H:=HA.out;clear HA;simp only [impl_has.l0] at H;replace H:=iteE H;obtain ⟨c8b0,H⟩ | ⟨c8b0,H⟩:=H
        · replace H:=iteN H;obtain ⟨c9b0,H⟩:=H;replace H:=iteN H;obtain ⟨c10b0,H⟩:=H;replace H:=bE H;obtain ⟨t269,A11,H⟩:=H;replace H:=iteB H;obtain ⟨rfl,H⟩ | ⟨rfl,H⟩:=H
          · have H':=amk H;clear H;have p268:0≤(x12_1:Int):=dA_;have q268:x12_1 < (l1.length:Int):=dA_;obtain ⟨ad268,e268,hx268_0⟩:=Kd.at_string HR1.out x12_1 p268 q268;cases e268;replace hx268_0:=(HB.out.cell (World.block_lt_of_cell? w _ hx268_0)).trans hx268_0;replace p268:=eq_true p268;replace q268:=eq_true q268;obtain ⟨hcz13_0,hcz13_1,hfz13_0,hfz13_1⟩:=cells2 BK266.out;go_wp2_with (first | (refine gc_ 79 18 Try.func79 #[.agg #[.int .i64 a0_0, .int .i64 a0_1], .string (rdOf ByteArray.empty l1 x12_1)] ?_;(with_reducible refine (impl_Lock_isCode.calls k1 a0_0 a0_1 (rdOf ByteArray.empty l1 x12_1) true _ A11.out).mono ?_);rintro e w14 ⟨rfl,hb⟩;refine ⟨_,rfl,?_⟩;replace BK266:=kb2 BK266 hb;replace HB:=hB2 HB hb;(try clear hb)));go_roundg k1
            case measure=>have:=HK1.out;omega
            case rel=>exact ⟨(wrap64 (x12_1 + 1)),rS_,H',⟨by have:=HK1.out;omega⟩,⟨kB BK266⟩,⟨bB⟩⟩
          · obtain rfl:=Option.some.inj H;have p268:0≤(x12_1:Int):=dA_;have q268:x12_1 < (l1.length:Int):=dA_;obtain ⟨ad268,e268,hx268_0⟩:=Kd.at_string HR1.out x12_1 p268 q268;cases e268;replace hx268_0:=(HB.out.cell (World.block_lt_of_cell? w _ hx268_0)).trans hx268_0;replace p268:=eq_true p268;replace q268:=eq_true q268;obtain ⟨hcz15_0,hcz15_1,hfz15_0,hfz15_1⟩:=cells2 BK266.out;go_wp2_with (first | (refine gc_ 79 18 Try.func79 #[.agg #[.int .i64 a0_0, .int .i64 a0_1], .string (rdOf ByteArray.empty l1 x12_1)] ?_;(with_reducible refine (impl_Lock_isCode.calls k1 a0_0 a0_1 (rdOf ByteArray.empty l1 x12_1) false _ A11.out).mono ?_);rintro e w16 ⟨rfl,hb⟩;refine ⟨_,rfl,?_⟩;replace BK266:=kb2 BK266 hb;replace HB:=hB2 HB hb;(try clear hb)));go_ret;exact ⟨rF_,bB⟩
        · obtain rfl:=Option.some.inj H;go_wp2;go_ret;exact ⟨rF_,bB⟩
  · obtain rfl:=Option.some.inj H;go_enter Try.func41,Try.ntmps41;go_wp2_with (first | ((with_reducible refine gate_dst (N:=2) rfl ?_);refine boxE_ HB 2 #[.int .i64 a0_0, .int .i64 a0_1] 25 ?_;clear HB;intro gb266 w17 HB BK266 GW266 GE266 hb;clear hb;obtain ⟨hcz18_0,hcz18_1,hfz18_0,hfz18_1⟩:=cells2 BK266.out) | (refine gc_ 53 8 Try.func53 #[.agg #[.int .i64 a0_0, .int .i64 a0_1]] ?_;(with_reducible refine (impl_IsLock.calls a0_0 a0_1 false _ A3.out).mono ?_);rintro e w19 ⟨rfl,hb⟩;refine ⟨_,rfl,?_⟩;replace BK266:=kb2 BK266 hb;replace HB:=hB2 HB hb;(try clear hb)));go_ret;exact ⟨rF_,bB⟩
/-! ### impl_around: function 101 -/
def impl_around.f (a0:Int) (a1:Int):Option (Int):=if a1=0 then (none) else (some (Int.tmod (wrap64 ((Int.tmod a0 a1) + a1)) a1))
set_option maxHeartbeats 8000000 in
set_option maxRecDepth 100000 in
theorem impl_around.calls (a0:Int) (a1:Int) (r:Int) (w:World) (h:impl_around.f a0 a1=some r) :
    Calls Try.prog 101 #[.int .i64 a0, .int .i64 a1] w fun e w'=>e = .returned (.int .i64 r)∧Drawn0 w w':=by
  unfold impl_around.f at h;have H:=h;clear h
  by_cases c3:a1=0
  · rw [if_pos c3] at H;exact absurd H (by simp)
  · rw [if_neg c3] at H;have c3b0:(a1 == 0)=false:=beq_eq_false_iff_ne.mpr c3;have c3b1:(a1 != 0)=true:=bne_iff_ne.mpr c3;obtain rfl:=Option.some.inj H;go_enter Try.func101,Try.ntmps101;go_wp2;go_ret;exact ⟨rS_,dR_⟩
/-! ### impl_Lock_gap: function 98 -/
def impl_Lock_gap.f (a0_0:Int) (a0_1:Int) (a1:Int) (a2:Int):Option (Int):=(impl_around.f (wrap64 (a2 - a1)) a0_1).bind fun t230=>(some t230)
set_option maxHeartbeats 8000000 in
set_option maxRecDepth 100000 in
theorem impl_Lock_gap.calls (a0_0:Int) (a0_1:Int) (a1:Int) (a2:Int) (r:Int) (w:World) (h:impl_Lock_gap.f a0_0 a0_1 a1 a2=some r) :
    Calls Try.prog 98 #[.agg #[.int .i64 a0_0, .int .i64 a0_1], .int .i64 a1, .int .i64 a2] w fun e w'=>e = .returned (.int .i64 r)∧Below w.heap.size w w':=by
  have hu25:=Try.underlying25;have HB:=amk (Below.refl w.heap.size w);unfold impl_Lock_gap.f at h;have H:=h;clear h;replace H:=bE H;obtain ⟨t230,A4,H⟩:=H;obtain rfl:=Option.some.inj H;go_enter Try.func98,Try.ntmps98;go_wp2_with (first | ((with_reducible refine gate_dst (N:=3) rfl ?_);refine boxE_ HB 3 #[.int .i64 a0_0, .int .i64 a0_1] 25 ?_;clear HB;intro gb229 w5 HB BK229 GW229 GE229 hb;clear hb;obtain ⟨hcz6_0,hcz6_1,hfz6_0,hfz6_1⟩:=cells2 BK229.out) | (refine gc_ 101 12 Try.func101 #[.int .i64 (wrap64 (a2 - a1)), .int .i64 a0_1] ?_;(with_reducible refine (impl_around.calls (wrap64 (a2 - a1)) a0_1 t230 _ A4.out).mono ?_);rintro e w' ⟨rfl,⟨nd,rfl⟩⟩;refine ⟨_,rfl,?_⟩));go_ret;exact ⟨rF_,bB⟩
/-! ### impl_Lock_near: function 85 -/
def impl_Lock_near.f (a0_0:Int) (a0_1:Int) (a1:Int) (a2:Int):Option (Int):=(impl_Lock_gap.f a0_0 a0_1 a1 a2).bind fun t232=>(some (mn t232 (wrap64 (a0_1 - t232))))
set_option maxHeartbeats 8000000 in
set_option maxRecDepth 100000 in
theorem impl_Lock_near.calls (a0_0:Int) (a0_1:Int) (a1:Int) (a2:Int) (r:Int) (w:World) (h:impl_Lock_near.f a0_0 a0_1 a1 a2=some r) :
    Calls Try.prog 85 #[.agg #[.int .i64 a0_0, .int .i64 a0_1], .int .i64 a1, .int .i64 a2] w fun e w'=>e = .returned (.int .i64 r)∧Below w.heap.size w w':=by
  have hu25:=Try.underlying25;have HB:=amk (Below.refl w.heap.size w);unfold impl_Lock_near.f at h;have H:=h;clear h;replace H:=bE H;obtain ⟨t232,A4,H⟩:=H;obtain ⟨ji5,hji5⟩ : ∃ j_:Int,(mn t232 (wrap64 (a0_1 - t232)))=j_:=⟨_,rfl⟩;(replace H:(some ji5)=some r:=by first | (rw [hji5] at H;exact H) | (simp only [hji5] at H ⊢;exact H));(try rw [hji5] at A4);have hji5_:(if (wrap64 (a0_1 - t232)) < t232 then (wrap64 (a0_1 - t232)) else t232)=ji5:=hji5;obtain rfl:=Option.some.inj H;go_enter Try.func85,Try.ntmps85;go_wp2_with (first | ((with_reducible refine gate_dst (N:=3) rfl ?_);refine boxE_ HB 3 #[.int .i64 a0_0, .int .i64 a0_1] 25 ?_;clear HB;intro gb231 w6 HB BK231 GW231 GE231 hb;clear hb;obtain ⟨hcz7_0,hcz7_1,hfz7_0,hfz7_1⟩:=cells2 BK231.out) | (refine gc_ 98 11 Try.func98 #[.agg #[.int .i64 a0_0, .int .i64 a0_1], .int .i64 a1, .int .i64 a2] ?_;(with_reducible refine (impl_Lock_gap.calls a0_0 a0_1 a1 a2 t232 _ A4.out).mono ?_);rintro e w8 ⟨rfl,hb⟩;refine ⟨_,rfl,?_⟩;replace BK231:=kb2 BK231 hb;replace HB:=hB2 HB hb;(try clear hb);obtain ⟨hcz9_0,hcz9_1,hfz9_0,hfz9_1⟩:=cells2 BK231.out));go_ret;exact ⟨by first | rfl | (simp [errW_none,errW_some] <;> rfl) | (simp only [←hji5];first | rfl | (simp [errW_none,errW_some] <;> rfl)) | (simp [*,errW_none,errW_some] <;> rfl),bB⟩
/-! ### impl_Lock_distance: function 55 -/
def impl_Lock_distance.l0:Nat→ByteArray→ByteArray→Int→Int→Int→Int→Int→Option (Int)
  | 0,_,_,_,_,_,_,_=>none
  | k + 1,x1,x2,x7,x10,x11,x234000,x234001=>if x11 < x10 then (if 0≤x11 then (if x11 < (x1.size:Int) then (if x11 < (x2.size:Int) then ((impl_Lock_near.f x234000 x234001 (wrap64 (bt x1 x11)) (wrap64 (bt x2 x11))).bind fun t234=>(impl_Lock_distance.l0 k x1 x2 (wrap64 (x7 + t234)) x10 (wrap64 (x11 + 1)) x234000 x234001)) else (none)) else (none)) else (none)) else (some x7)
def impl_Lock_distance.f (k:Nat) (a0_0:Int) (a0_1:Int) (a1:ByteArray) (a2:ByteArray):Option (Int):=impl_Lock_distance.l0 k a1 a2 0 (a1.size:Int) 0 a0_0 a0_1
def impl_Lock_distance.T5:Bool×List (List Nat×List Nat):=(true,[([],[]),([],[]),([],[]),([],[]),([2,3],[2,3]),([4],[4]),([],[]),([],[]),([6,7],[6,7]),([8],[8]),([1,5,9],[1,5,9]),([0,10],[0,10]),([11,10,0,1,2,3,4,5,6,7,8,9,10,11],[0,11])])
def impl_Lock_distance.B5:List Nat:=[0,0,0,0,12,28,0,0,192,448,1022,2047,4095]
theorem impl_Lock_distance.tab5:rtab .any (opsOf Try.f55 5)=impl_Lock_distance.T5:=by kernel_rfl
theorem impl_Lock_distance.bits5:waitsOk impl_Lock_distance.T5.2 impl_Lock_distance.B5=true:=by kernel_rfl
set_option maxHeartbeats 8000000 in
set_option maxRecDepth 100000 in
theorem impl_Lock_distance.calls (k:Nat) (a0_0:Int) (a0_1:Int) (a1:ByteArray) (a2:ByteArray) (r:Int) (w:World) (h:impl_Lock_distance.f k a0_0 a0_1 a1 a2=some r) :
    Calls Try.prog 55 #[.agg #[.int .i64 a0_0, .int .i64 a0_1], .string a1, .string a2] w fun e w'=>e = .returned (.int .i64 r)∧Below w.heap.size w w':=by
  have hu25:=Try.underlying25;have HB:=amk (Below.refl w.heap.size w);unfold impl_Lock_distance.f at h;have H:=h;clear h;have H':=amk H;clear H;go_enter Try.func55,Try.ntmps55;go_wp2_with (first | ((with_reducible refine gate_dst (N:=3) rfl ?_);refine boxE_ HB 3 #[.int .i64 a0_0, .int .i64 a0_1] 25 ?_;clear HB;intro gb233 w4 HB BK233 GW233 GE233 hb;clear hb))
  go_loopg [7,11] k (fun kq v7 v11 w'=> ∃ (x7_1:Int) (x11_1:Int),v7 = .int .i64 x7_1∧v11 = .int .i64 x11_1∧Aside0 (impl_Lock_distance.l0 kq a1 a2 x7_1 (a1.size:Int) x11_1 a0_0 a0_1=some r)∧Aside0 (kq≤k)∧Aside0 (w'.heap[gb233]?=some (.cells #[.int .i64 a0_0, .int .i64 a0_1] 25 (0,0)))∧Aside0 (Below w.heap.size w w'))
  case atStart=>exact ⟨(0),(0),rS_,rS_,H',⟨Nat.le_refl _⟩,⟨kB BK233⟩,⟨bB⟩⟩
  case round =>
    clear H';(try clear p2);obtain ⟨x7_1,x11_1,rfl,rfl,HA,HK1,BK233,HB⟩:=hrel
    cases gk with
    | zero=>exact absurd HA.out (by simp [impl_Lock_distance.l0])
    | succ k1 =>
      have H:=HA.out;clear HA;simp only [impl_Lock_distance.l0] at H;replace H:=iteE H;obtain ⟨c5b0,H⟩ | ⟨c5b0,H⟩:=H
      · replace H:=iteN H;obtain ⟨c6b0,H⟩:=H;replace H:=iteN H;obtain ⟨c7b0,H⟩:=H;replace H:=iteN H;obtain ⟨c9b0,H⟩:=H;replace H:=bE H;obtain ⟨t234,A11,H⟩:=H;have H':=amk H;clear H;(try go_wp2);replace BK233:=amk (blk_drew BK233.out);replace HB:=amk (bd_ HB.out);have p8:0≤(x11_1:Int):=dA_;have q8:x11_1 < (a1.size:Int):=dA_;have hx8:=bt_at a1 x11_1;replace p8:=eq_true p8;replace q8:=eq_true q8;have p10:0≤(x11_1:Int):=dA_;have q10:x11_1 < (a2.size:Int):=dA_;have hx10:=bt_at a2 x11_1;replace p10:=eq_true p10;replace q10:=eq_true q10;refine start_ (n:=13) (S:=fun w'=>w'.cell? ⟨gb233,0,none⟩=some (.int .i64 a0_0)∧w'.cell? ⟨gb233,1,none⟩=some (.int .i64 a0_1)) (ds:=[]) (bA 13 0) (by kernel_rfl) rfl rfl ⟨(blk_cell BK233.out 0).trans rfl,(blk_cell BK233.out 1).trans rfl⟩ (fun hHeld=>?_);refine with_tabW impl_Lock_distance.tab5 impl_Lock_distance.bits5 (fun HT_ HW_=>?_);generalize wr.drew=w12 at BK233 HB hHeld ⊢;refine pU_ HT_ 0 (some 14) (bA 13 1) ?_;refine pU_ HT_ 2 (some 16) (bA 13 5) ?_;refine pU_ HT_ 3 (some 17) (bA 13 13) ?_;refine pU_ HT_ 6 (some 20) (bA 13 77) ?_;refine pU_ HT_ 7 (some 21) (bA 13 205) ?_;refine tK_ HT_ HW_ hHeld 1 (some 15) (bA 13 207) ?_;refine tK_ HT_ HW_ hHeld 4 (some 18) (bA 13 223) ?_;refine pU_ HT_ 5 (some 19) (bA 13 255) ?_;refine tK_ HT_ HW_ hHeld 8 (some 22) (bA 13 511) ?_;refine pU_ HT_ 9 (some 23) (bA 13 1023) ?_;refine oN_ HT_ 10 (some 24) (bA 13 2047) (fun K hK=>?_);refine gs_ Try.func85 #[.agg #[.int .i64 a0_0, .int .i64 a0_1], .int .i64 (wrap64 (bt a1 x11_1)), .int .i64 (wrap64 (bt a2 x11_1))] ?_;(with_reducible refine (impl_Lock_near.calls a0_0 a0_1 (wrap64 (bt a1 x11_1)) (wrap64 (bt a2 x11_1)) t234 _ A11.out).mono ?_);rintro e w13 ⟨rfl,hb⟩;refine ⟨_,rfl,?_⟩;replace BK233:=kb2 BK233 hb;replace HB:=hB2 HB hb;(try clear hb);refine hK.out _ _ hC_ (fun hHeld=>?_);clear hK K;refine nN_ (some 24) ?_;refine pU_ HT_ 11 (some 25) (bA 13 4095) ?_;refine pU_ HT_ 12 (some 7) (bA 13 8191) ?_;refine done_ (done_of HT_.out (by kernel_rfl)) ?_;(try go_wp2);go_roundg k1
        case measure=>have:=HK1.out;omega
        case rel=>exact ⟨(wrap64 (x7_1 + t234)),(wrap64 (x11_1 + 1)),rS_,rS_,H',⟨by have:=HK1.out;omega⟩,⟨kB BK233⟩,⟨bB⟩⟩
      · obtain rfl:=Option.some.inj H;go_wp2;go_ret;exact ⟨rF_,bB⟩
/-! ### impl_digits: function 81 -/
def impl_digits.l0:Nat→ByteArray→List Int→Int→Int→Option (List Int)
  | 0,_,_,_,_=>none
  | k + 1,x0,x3,x7,x8=>if x8 < x7 then (if 0≤x8 then (if x8 < (x0.size:Int) then (if x3.length < 17592186044416 then (impl_digits.l0 k x0 (x3 ++ [((bt x0 x8) - 48) % 256]) x7 (wrap64 (x8 + 1))) else (none)) else (none)) else (none)) else (some x3)
def impl_digits.f (k:Nat) (a0:ByteArray):Option (List Int):=impl_digits.l0 k a0 (([]:List Int)) (a0.size:Int) 0
set_option maxHeartbeats 8000000 in
set_option maxRecDepth 100000 in
theorem impl_digits.calls (k:Nat) (a0:ByteArray) (r:List Int) (w:World) (h:impl_digits.f k a0=some r) :
    Calls Try.prog 81 #[.string a0] w fun e w'=> ∃ v0_:Value,e = .returned (v0_)∧Kd.R (Kd.int .i64) 3 w' w.heap.size (fun _=>True) v0_ r∧Below w.heap.size w w':=by
  have HB:=amk (Below.refl w.heap.size w);unfold impl_digits.f at h;have H:=h;clear h;(try rw [Option.bind_some] at H);generalize hy235:(([]:List Int))=y235 at H;have Ny235:=amk hy235.symm;clear hy235;have H':=amk H;clear H;go_enter Try.func81,Try.ntmps81;go_wp2_with (first | ((with_reducible refine gate_dst (N:=5) rfl ?_);refine Kd.R_lit (Kd.int .i64) _ 3 ?hg (N:=5) ?hd (xs:=([]:List Int)) (inner:=[]) (ok:=fun _=>True) (okp:=fun _=>True) ?hr ?hp (fun _ hk=>hk) trivial (Below.refl _ _) (Nat.le_refl _) (by simp) ?_;(case hd=>rfl);(case hg=>rfl);(case hr=>first | (go_simp;done) | (go_simp;rfl));(case hp=>exact (Reps.none _ _));intro v236 w2 ho3 hb hg_ hnew_;clear hg_ hnew_;(first | rw [←Ny235.out] at ho3 | (simp only [Int.reduceToNat] at ho3;rw [←Ny235.out] at ho3));have HO237:=amk (Kd.R_lower ho3 (below_size bB));replace HB:=hB2 HB hb;clear hb ho3))
  go_loopg [3,8] k (fun kq v3 v8 w'=> ∃ (x3_1:List Int) (x8_1:Int),v8 = .int .i64 x8_1∧Aside0 (impl_digits.l0 kq a0 x3_1 (a0.size:Int) x8_1=some r)∧Aside0 (kq≤k)∧Aside0 (Kd.R (Kd.int .i64) 3 w' w.heap.size (fun _=>True) v3 x3_1)∧Aside0 (Below w.heap.size w w'))
  case atStart=>exact ⟨(y235),(0),rS_,H',⟨Nat.le_refl _⟩,⟨oX HO237⟩,⟨bB⟩⟩
  case round =>
    clear H';(try clear p2);obtain ⟨x3_1,x8_1,rfl,HA,HK1,HO_3,HB⟩:=hrel
    cases gk with
    | zero=>exact absurd HA.out (by simp [impl_digits.l0])
    | succ k1 =>
      have H:=HA.out;clear HA;simp only [impl_digits.l0] at H;replace H:=iteE H;obtain ⟨c4b0,H⟩ | ⟨c4b0,H⟩:=H
      · replace H:=iteN H;obtain ⟨c5b0,H⟩:=H;replace H:=iteN H;obtain ⟨c6b0,H⟩:=H
        by_cases c8:x3_1.length < 17592186044416
        · rw [if_pos c8] at H;have LMc8:=amk c8;clear c8;(try rw [Option.bind_some] at H);generalize hy238:((x3_1 ++ [((bt a0 x8_1) - 48) % 256]):List Int)=y238 at H;have Ny238:=amk hy238.symm;clear hy238;have H':=amk H;clear H;have p7:0≤(x8_1:Int):=dA_;have q7:x8_1 < (a0.size:Int):=dA_;have hx7:=bt_at a0 x8_1;replace p7:=eq_true p7;replace q7:=eq_true q7;go_wp2_with (first | ((with_reducible refine gate_builtin (b:= .append) (xs:= #[.tmp 11, .tmp 17]) rfl ?_);at_builtin;refine Kd.R_append (Kd.int .i64) (w0:=w) w.heap.size rfl (.tmp 11) (.tmp 17) 53 3 (.int .i64 0) 8 rfl Try.underlying53 info3 rfl (by decide) (by omega) u3 x3_1 (((bt a0 x8_1) - 48) % 256) [.int .i64 (((bt a0 x8_1) - 48) % 256)] (fun _=>True) (fun _=>False) rfl rfl rfl (fun _ hk=>hk.elim) (fun _ _=>trivial) (oX HO_3) bB (below_size bB) (by have:=LMc8.out;omega) ?_;intro v239 w9 ho hb hg hat;rw [←Ny238.out] at ho;replace HB:=amk (hb);have HO240:=amk (ho);clear HO_3;clear ho hb hg hat));go_roundg k1
          case measure=>have:=HK1.out;omega
          case rel=>exact ⟨(y238),(wrap64 (x8_1 + 1)),rS_,H',⟨by have:=HK1.out;omega⟩,⟨oX HO240⟩,⟨bB⟩⟩
        · rw [if_neg c8] at H;exact absurd H (by simp)
      · obtain rfl:=Option.some.inj H;go_wp2;go_ret;exact ⟨_,rF_,oX HO_3,bB⟩
/-! ### impl_Lock_number: function 59 -/
def impl_Lock_number.l0:Nat→Int→List Int→Int→Int→Int→Int→Option (Int)
  | 0,_,_,_,_,_,_=>none
  | k + 1,x5,x9,x10,x11,x242000,x242001=>if x11 < x10 then (if 0≤x11 then (if x11 < (x9.length:Int) then (impl_Lock_number.l0 k (wrap64 ((wrap64 (x5 * x242001)) + (rd x9 x11))) x9 x10 (wrap64 (x11 + 1)) x242000 x242001) else (none)) else (none)) else (some x5)
def impl_Lock_number.f (k:Nat) (a0_0:Int) (a0_1:Int) (a1:ByteArray):Option (Int):=(impl_digits.f k a1).bind fun t242=>(impl_Lock_number.l0 k 0 t242 (t242.length:Int) 0 a0_0 a0_1)
set_option maxHeartbeats 8000000 in
set_option maxRecDepth 100000 in
theorem impl_Lock_number.calls (k:Nat) (a0_0:Int) (a0_1:Int) (a1:ByteArray) (r:Int) (w:World) (h:impl_Lock_number.f k a0_0 a0_1 a1=some r) :
    Calls Try.prog 59 #[.agg #[.int .i64 a0_0, .int .i64 a0_1], .string a1] w fun e w'=>e = .returned (.int .i64 r)∧Below w.heap.size w w':=by
  have hu25:=Try.underlying25;have HB:=amk (Below.refl w.heap.size w);unfold impl_Lock_number.f at h;have H:=h;clear h;replace H:=bE H;obtain ⟨t242,A3,H⟩:=H;have H':=amk H;clear H;go_enter Try.func59,Try.ntmps59;go_wp2_with (first | ((with_reducible refine gate_dst (N:=2) rfl ?_);refine boxE_ HB 2 #[.int .i64 a0_0, .int .i64 a0_1] 25 ?_;clear HB;intro gb241 w4 HB BK241 GW241 GE241 hb;clear hb) | (refine gc_ 81 9 Try.func81 #[.string a1] ?_;(with_reducible refine (impl_digits.calls k a1 t242 _ A3.out).mono ?_);rintro e w5 ⟨v243,rfl,ho0,hb⟩;refine ⟨_,rfl,?_⟩;have HO244:=amk (Kd.R_lower ho0 (below_size bB));replace BK241:=kb2 BK241 hb;replace HB:=hB2 HB hb;(try clear hb);(try clear ho0);obtain ⟨Ao6,co6,eo6⟩:=Kd.R_slice HO244.out;subst eo6))
  go_loopg [5,11] k (fun kq v5 v11 w'=> ∃ (x5_1:Int) (x11_1:Int),v5 = .int .i64 x5_1∧v11 = .int .i64 x11_1∧Aside0 (impl_Lock_number.l0 kq x5_1 t242 (t242.length:Int) x11_1 a0_0 a0_1=some r)∧Aside0 (kq≤k)∧Aside0 (Kd.R (Kd.int .i64) 3 w' w.heap.size (fun _=>True) (.slice Ao6 t242.length co6) t242)∧Aside0 (w'.heap[gb241]?=some (.cells #[.int .i64 a0_0, .int .i64 a0_1] 25 (0,0)))∧Aside0 (Below w.heap.size w w'))
  case atStart=>exact ⟨(0),(0),rS_,rS_,H',⟨Nat.le_refl _⟩,⟨oX HO244⟩,⟨kB BK241⟩,⟨bB⟩⟩
  case round =>
    clear H';(try clear p2);(try clear c5);obtain ⟨x5_1,x11_1,rfl,rfl,HA,HK1,HO_9,BK241,HB⟩:=hrel
    cases gk with
    | zero=>exact absurd HA.out (by simp [impl_Lock_number.l0])
    | succ k1 =>
      have H:=HA.out;clear HA;simp only [impl_Lock_number.l0] at H;replace H:=iteE H;obtain ⟨c7b0,H⟩ | ⟨c7b0,H⟩:=H
      · replace H:=iteN H;obtain ⟨c8b0,H⟩:=H;replace H:=iteN H;obtain ⟨c9b0,H⟩:=H;have H':=amk H;clear H;have p245:0≤(x11_1:Int):=dA_;have q245:x11_1 < (t242.length:Int):=dA_;obtain ⟨ad245,e245,hx245_0⟩:=Kd.at_int (Kd.R_reads' HO_9.out).2.2 x11_1 p245 q245;cases e245;replace p245:=eq_true p245;replace q245:=eq_true q245;obtain ⟨hcz10_0,hcz10_1,hfz10_0,hfz10_1⟩:=cells2 BK241.out;go_wp2;go_roundg k1
        case measure=>have:=HK1.out;omega
        case rel=>exact ⟨(wrap64 ((wrap64 (x5_1 * a0_1)) + (rd t242 x11_1))),(wrap64 (x11_1 + 1)),rS_,rS_,H',⟨by have:=HK1.out;omega⟩,⟨oX HO_9⟩,⟨kB BK241⟩,⟨bB⟩⟩
      · obtain rfl:=Option.some.inj H;go_wp2;go_ret;exact ⟨rF_,bB⟩
/-! Behind a row's end: what is stored there turns nothing of the row; 'clear' at one element of several cells. -/
theorem R_spare {α:Type} {d:Kd α} {e:Nat} {w:World} {base g n cap:Nat} {ok:Nat→Prop} {xs:List α} (h:d.R e w base ok (.slice (some ⟨g,0,none⟩) n cap) xs)
    (zs:List Value) (o:Nat) (ho:xs.length * d.sz≤o) (hz:o + zs.length≤cap * d.sz):d.R e (w.setCells g o zs) base ok (.slice (some ⟨g,0,none⟩) n cap) xs:=by
  obtain ⟨h0,inner,hown,hr⟩:=h
  refine ⟨h0,inner,⟨hown.1,?_⟩,hr.imp_ (fun p c hp=>d.M_move (fun k hk=>?_) hp)⟩
  · rcases hown.2 with ⟨hv,_⟩ | ⟨g',cap',cur,hv,hb,hh,hn,hcm,hcs,htake⟩
    · cases hv
    · injection hv with ha hn' hc
      injection ha with ha
      injection ha with hg
      subst hg hc
      obtain ⟨cur',h1,h2,h3⟩:=setCells_row zs o w cur hh (by omega)
      refine .inr ⟨g,cap,cur',by rw [hn'],hb,h1,hn,hcm,by omega,?_⟩
      have hcl:cur.toList.length=cap * d.sz:=by simpa using hcs
      have hle:xs.length * d.sz≤(List.take o cur.toList).length:=by
        rw [List.length_take]
        exact Nat.le_min.mpr ⟨ho,by omega⟩
      rw [h3,List.append_assoc,List.take_append_of_le_length hle,List.take_take,Nat.min_eq_left ho,htake]
  · refine setCells_far zs o k (fun e=>hk.2 ?_)
    subst e;rfl
theorem run_clear_one {P:Program} (w:World) (t e ty:TypeId) (z:Value) (zs:List Value) (ht:P.underlying t=some (.slice e)) (hv : ∀ w,(zeroValue e).run P w = .ok z w) (hz:z.cells.toList=zs) (h1 : ∀ u∈zs,u.oneCell'=true) (b o c:Nat)
    (hc : ∀ j,j < zs.length→(w.cell? ⟨b,o + j,none⟩).isSome=true) (hf : ∀ j,j < zs.length→w.frozen? ⟨b,o + j,none⟩=false) :
    (Builtin.clear_ #[t] ty #[.slice (some ⟨b,o,none⟩) 1 c]).run P w = .ok (.tuple #[]) (w.setCells b o zs):=by
  have hzc:(Builtin.zeroCells z.cells 1).toList=zs:=by
    rw [←hz]
    simp only [Builtin.zeroCells,Nat.one_mul,Array.toList_map,Array.toList_range]
    apply List.ext_getElem
    · simp
    · intro i h1 h2
      have h2':i < z.cells.size:=by simpa using h2
      simp [Nat.mod_eq_of_lt h2',h2']
  have hst:=run_storeCells_cells (P:=P) b o zs 0 w (by simpa using hc) (by simpa using hf) h1
  simp only [Nat.add_zero] at hst
  simp [Builtin.clear_,run_underlying ht,hv,hzc,hst]
theorem row_cells {α:Type} {d:Kd α} {e:Nat} {w:World} {base g n cap:Nat} {ok:Nat→Prop} {xs:List α} (h:d.R e w base ok (.slice (some ⟨g,0,none⟩) n cap) xs) :
    base≤g∧n=xs.length∧n≤cap∧cap≤9223372036854775807∧∀ j,j < cap * d.sz→(w.cell? ⟨g,j,none⟩).isSome=true∧w.frozen? ⟨g,j,none⟩=false:=by
  obtain ⟨h0,inner,hown,hr⟩:=h
  rcases hown.2 with ⟨hv,_⟩ | ⟨g',cap',cur,hv,hb,hh,hn,hcm,hcs,htake⟩
  · cases hv
  · injection hv with ha hn' hc
    injection ha with ha
    injection ha with hg
    subst hg hc
    refine ⟨hb,hn',by omega,by unfold maxLen at hcm;exact hcm,fun j hj=>⟨?_,?_⟩⟩
    · rw [blk_cell hh j];rw [Array.getElem?_eq_getElem (by omega)];rfl
    · exact blk_frozen hh j
theorem below_cells {B g:Nat} {w0:World} (hg:B≤g) : ∀ (vs:List Value) (o:Nat) (w:World),Below B w0 w→Below B w0 (w.setCells g o vs)
  | [],_,_,h=>h
  | v :: r,o,w,h=>below_cells hg r (o + 1) _ (h.setCell (p:=⟨g,o,none⟩) hg v)
theorem row_form {α:Type} {d:Kd α} {e:Nat} {w:World} {base:Nat} {ok:Nat→Prop} {v:Value} {xs:List α} {n:Nat} (h:d.R e w base ok v xs) (hn:xs.length=n + 1) :
    ∃ g cap,v = .slice (some ⟨g,0,none⟩) (n + 1) cap:=by
  obtain ⟨h0,inner,hown,hr⟩:=h
  rcases hown.2 with ⟨_,hv⟩ | ⟨g',cap',cur,hv,_⟩
  · omega
  · exact ⟨g',cap',by rw [hv,hn]⟩
/-! Numbers told by digits. -/
def digs (d:Int):Nat→Int→List Int
  | 0,_=> []
  | m + 1,n=>digs d m (n / d) ++ [n % d]
theorem digs_length (d:Int) : ∀ (m:Nat) (n:Int),(digs d m n).length=m
  | 0,_=>rfl
  | m + 1,n=>by simp [digs,digs_length d m]
theorem digs_range {d:Int} (hd:0 < d) : ∀ (m:Nat) (n:Int),∀ x∈digs d m n,0≤x∧x < d
  | 0,_=>by simp [digs]
  | m + 1, n => by
    intro x hx
    simp only [digs,List.mem_append,List.mem_singleton] at hx
    rcases hx with hx | rfl
    · exact digs_range hd m _ x hx
    · exact ⟨Int.emod_nonneg _ (by omega),Int.emod_lt_of_pos _ hd⟩
def textB (l:List Int):ByteArray:=strOfNums (l.map fun x=>wrap64 (48 + x) % 256)
def codeB (w d n:Int):ByteArray:=textB (digs d w.toNat n)
theorem rep_set (i:Nat) (T:List Int) (x:Int):(List.replicate (i + 1) (0:Int) ++ T).set i x=List.replicate i 0 ++ x :: T:=by
  rw [List.replicate_succ',List.append_assoc,List.set_append_right _ _ (by simp)]
  simp
/-! ### impl_text: function 84 -/
def impl_text.l0:Nat→List Int→List Int→Int→Int→Option (ByteArray)
  | 0,_,_,_,_=>none
  | k + 1,x3,x7,x8,x9=>if x9 < x8 then (if 0≤x9 then (if x9 < (x7.length:Int) then (if x3.length < 140737488355328 then (impl_text.l0 k (x3 ++ [(wrap64 (48 + (rd x7 x9))) % 256]) x7 x8 (wrap64 (x9 + 1))) else (none)) else (none)) else (none)) else (some (strOfNums x3))
def impl_text.f (k:Nat) (l0:List Int):Option (ByteArray):=impl_text.l0 k (([]:List Int)) l0 (l0.length:Int) 0
set_option maxHeartbeats 8000000 in
set_option maxRecDepth 100000 in
theorem impl_text.calls (k:Nat) (A0:Option Addr) (c0:Nat) (l0:List Int) (r:ByteArray) (w:World) (hr0:Kd.C (Kd.int .i64) w A0 l0.length l0) (hc0:l0.length≤c0) (h:impl_text.f k l0=some r) :
    Calls Try.prog 84 #[.slice A0 l0.length c0] w fun e w'=>e = .returned (.string r)∧Below w.heap.size w w':=by
  have HR0:=amk hr0;have HC0:=amk hc0;clear hr0 hc0;have HB:=amk (Below.refl w.heap.size w);unfold impl_text.f at h;have H:=h;clear h;(try rw [Option.bind_some] at H);generalize hy111:(([]:List Int))=y111 at H;have Ny111:=amk hy111.symm;clear hy111;have H':=amk H;clear H;go_enter Try.func84,Try.ntmps84;go_wp2_with (first | ((with_reducible refine gate_dst (N:=6) rfl ?_);refine Kd.R_lit (Kd.int .u8) _ 5 ?hg (N:=6) ?hd (xs:=([]:List Int)) (inner:=[]) (ok:=fun _=>True) (okp:=fun _=>True) ?hr ?hp (fun _ hk=>hk) trivial (Below.refl _ _) (Nat.le_refl _) (by simp) ?_;(case hd=>rfl);(case hg=>rfl);(case hr=>first | (go_simp;done) | (go_simp;rfl));(case hp=>exact (Reps.none _ _));intro v112 w2 ho3 hb hg_ hnew_;clear hg_ hnew_;(first | rw [←Ny111.out] at ho3 | (simp only [Int.reduceToNat] at ho3;rw [←Ny111.out] at ho3));have HO113:=amk (Kd.R_lower ho3 (below_size bB));replace HB:=hB2 HB hb;clear hb ho3))
  go_loopg [3,9] k (fun kq v3 v9 w'=> ∃ (x3_1:List Int) (x9_1:Int),v9 = .int .i64 x9_1∧Aside0 (impl_text.l0 kq x3_1 l0 (l0.length:Int) x9_1=some r)∧Aside0 (kq≤k)∧Aside0 (Kd.R (Kd.int .u8) 5 w' w.heap.size (fun _=>True) v3 x3_1)∧Aside0 (Below w.heap.size w w'))
  case atStart=>exact ⟨(y111),(0),rS_,H',⟨Nat.le_refl _⟩,⟨oX HO113⟩,⟨bB⟩⟩
  case round =>
    clear H';(try clear p2);obtain ⟨x3_1,x9_1,rfl,HA,HK1,HO_3,HB⟩:=hrel
    cases gk with
    | zero=>exact absurd HA.out (by simp [impl_text.l0])
    | succ k1 =>
      have H:=HA.out;clear HA;simp only [impl_text.l0] at H;replace H:=iteE H;obtain ⟨c4b0,H⟩ | ⟨c4b0,H⟩:=H
      · replace H:=iteN H;obtain ⟨c5b0,H⟩:=H;replace H:=iteN H;obtain ⟨c6b0,H⟩:=H
        by_cases c7:x3_1.length < 140737488355328
        · rw [if_pos c7] at H;have LMc7:=amk c7;clear c7;(try rw [Option.bind_some] at H);generalize hy115:((x3_1 ++ [(wrap64 (48 + (rd l0 x9_1))) % 256]):List Int)=y115 at H;have Ny115:=amk hy115.symm;clear hy115;have H':=amk H;clear H;have p114:0≤(x9_1:Int):=dA_;have q114:x9_1 < (l0.length:Int):=dA_;obtain ⟨ad114,e114,hx114_0⟩:=Kd.at_int HR0.out x9_1 p114 q114;cases e114;replace hx114_0:=(HB.out.cell (World.block_lt_of_cell? w _ hx114_0)).trans hx114_0;replace p114:=eq_true p114;replace q114:=eq_true q114;go_wp2_with (first | ((with_reducible refine gate_builtin (b:= .append) (xs:= #[.tmp 13, .tmp 17]) rfl ?_);at_builtin;refine Kd.R_append (Kd.int .u8) (w0:=w) w.heap.size rfl (.tmp 13) (.tmp 17) 22 5 (.int .u8 0) 1 rfl Try.underlying22 info5 rfl (by decide) (by omega) u3 x3_1 ((wrap64 (48 + (rd l0 x9_1))) % 256) [.int .u8 ((wrap64 (48 + (rd l0 x9_1))) % 256)] (fun _=>True) (fun _=>False) rfl rfl rfl (fun _ hk=>hk.elim) (fun _ _=>trivial) (oX HO_3) bB (below_size bB) (by have:=LMc7.out;omega) ?_;intro v116 w8 ho hb hg hat;rw [←Ny115.out] at ho;replace HB:=amk (hb);have HO117:=amk (ho);clear HO_3;clear ho hb hg hat));go_roundg k1
          case measure=>have:=HK1.out;omega
          case rel=>exact ⟨(y115),(wrap64 (x9_1 + 1)),rS_,H',⟨by have:=HK1.out;omega⟩,⟨oX HO117⟩,⟨bB⟩⟩
        · rw [if_neg c7] at H;exact absurd H (by simp)
      · obtain rfl:=Option.some.inj H;have hcv9:=own_string (P:=Try.prog) Try.underlying22 Try.underlying5 Try.underlying9 (Kd.own_of_R HO_3.out);go_wp2;go_ret;exact ⟨rF_,bB⟩
/-! Digits of texts, texts of digits: what they come to. -/
theorem impl_text.lev (l:List Int) (hl:l.length≤1000000) : ∀ (j:Nat) (i:Int) (x:List Int),0≤i→i≤l.length→(l.length:Int) - i=j→x=(l.take i.toNat).map (fun x=>wrap64 (48 + x) % 256) →
    Ev (fun k=>impl_text.l0 k x l (l.length:Int) i) (textB l):=by
  intro j
  induction j with
  | zero =>
    intro i x h0 hi hj hx
    refine Ev.step (fun k=>rfl) (Ev.no (by omega) (Ev.id ?_))
    rw [hx,List.take_of_length_le (by omega)];rfl
  | succ j ih =>
    intro i x h0 hi hj hx
    have hlt:i.toNat < l.length:=by omega
    have hxl:x.length≤1000000:=by rw [hx,List.length_map,List.length_take];omega
    refine Ev.step (fun k=>rfl) (Ev.yes (by omega) (Ev.yes h0 (Ev.yes (by omega) (Ev.yes (by omega) ?_))))
    rw [w64 (x:=i + 1) (by omega) (by omega)]
    refine ih (i + 1) _ (by omega) (by omega) (by omega) ?_
    rw [toNat_succ h0,List.take_succ_eq_append_getElem hlt,List.map_append,hx,rd_at hlt];rfl
theorem impl_text.ev (l:List Int) (hl:l.length≤1000000):Ev (fun k=>impl_text.f k l) (textB l):=by
  unfold impl_text.f
  exact impl_text.lev l hl l.length 0 [] (by omega) (by omega) (by omega) (by simp)
end Go.Proofs.Ytggfbkekamomiaa.P