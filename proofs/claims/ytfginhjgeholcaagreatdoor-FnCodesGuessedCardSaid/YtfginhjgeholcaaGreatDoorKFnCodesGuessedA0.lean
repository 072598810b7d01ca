import Derived.Test.YtfginhjgeholcaaGreatDoorProg
import Derived.Below
import Derived.Deep.Draws
import Derived.Deep.AppendLies
import Derived.Maps.AppendAt
import Derived.OwnWalk
import Derived.Laws.BytesArg
import Derived.Laws.MakeOwn
import Derived.Laws.OwnMore
import Derived.Deep.OwnRows
import Derived.Tactics
import Derived.Lib.ConvBytes
import Derived.Laws.Slices
import Derived.WalkKit
import Derived.KernelRfl
import Derived.RowKit3
import Derived.Deep.LoopGhost
import Derived.Deep.QuietTactic
import Derived.BigQuiet
import Derived.WideLaws
import Derived.Deep.DeepCutAuto
import Derived.Deep.CutBlock
import Derived.Deep.RegionHeld3
import Derived.Laws.Rows
import Derived.Lib.AppendStr
import Derived.ArgAppend
import Derived.Laws.IdiomCopy
import Derived.OrdersHeld
import Derived.Laws.BitsLemmas
import Derived.RowKit
import Derived.Test.YtfginhjgeholcaaGreatDoorKFnCodesGuessedWWords
import Derived.Test.YtfginhjgeholcaaGreatDoorKFnCodesGuessedWLast
import Derived.Test.YtfginhjgeholcaaGreatDoorKFnCodesGuessedWTab
import Derived.Test.YtfginhjgeholcaaGreatDoorKFnCodesGuessedWQPut
import Derived.Test.YtfginhjgeholcaaGreatDoorKFnCodesGuessedWApart
import Derived.Test.YtfginhjgeholcaaGreatDoorKFnCodesGuessedWArr
import Derived.Test.YtfginhjgeholcaaGreatDoorKFnCodesGuessedWZeros
import Derived.Test.YtfginhjgeholcaaGreatDoorKFnCodesGuessedWFoot
import Derived.Test.YtfginhjgeholcaaGreatDoorKFnCodesGuessedWKept
import Derived.Test.YtfginhjgeholcaaGreatDoorKFnCodesGuessedWShare
import Derived.Test.YtfginhjgeholcaaGreatDoorKFnCodesGuessedWN
import Derived.Test.YtfginhjgeholcaaGreatDoorKFnCodesGuessedWEqStruct
import Derived.Test.YtfginhjgeholcaaGreatDoorKFnCodesGuessedWRepsOne
import Derived.Test.YtfginhjgeholcaaGreatDoorKFnCodesGuessedWInv
import Derived.Test.YtfginhjgeholcaaGreatDoorKFnCodesGuessedWGuard
import Derived.Test.YtfginhjgeholcaaGreatDoorKFnCodesGuessedWNEv
import Derived.Test.YtfginhjgeholcaaGreatDoorKFnCodesGuessedWMore
import Derived.Lib.IndexMore
import Derived.Test.YtfginhjgeholcaaGreatDoorHShelf
import Derived.Lib.Join
import Derived.Lib.SplitLaws
import Derived.Test.YtfginhjgeholcaaGreatDoorHShelfP
import Derived.Shelf.Abstract
namespace Go.Proofs.YtfginhjgeholcaaGreatDoor.P
open Go.RowKit Go.Proofs.YtfginhjgeholcaaGreatDoorW.PrintWords Go.Proofs.YtfginhjgeholcaaGreatDoorW.PrintLast Go.Proofs.YtfginhjgeholcaaGreatDoorW.PrintMore
attribute [local go_sem] max2_int min2_int max_two min_two max_three min_three max_four min_four
set_option linter.unusedVariables false
set_option linter.unusedSimpArgs false
theorem amk {p:Prop} (h:p):Aside0 p:=Aside0.mk h
theorem bn_:type_of% @pw_below_drewN:= @pw_below_drewN
theorem bd_:type_of% @below_drew1:= @below_drew1
theorem ba_:type_of% @below_alloc:= @below_alloc
theorem bs_:type_of% @below_set:= @below_set
theorem kn_:type_of% @blk_drewN:= @blk_drewN
theorem ka_:type_of% @blk_alloc:= @blk_alloc
theorem bp_:type_of% @below_step:= @below_step
def errW:Option Int→Value
  | none=> .nilIface
  | some c=> .iface 121 (.int .i64 c)
theorem errW_none:errW none = .nilIface:=rfl
theorem errW_some (c:Int):errW (some c) = .iface 121 (.int .i64 c):=rfl
theorem info3:(Tryz.prog.info? 3).map (fun i=>(i.zero,i.size,i.bytes))=some (some (.int .i64 0),1,8):=by kernel_rfl
theorem info5:(Tryz.prog.info? 5).map (fun i=>(i.zero,i.size,i.bytes))=some (some (.int .u8 0),1,1):=by kernel_rfl
theorem info9:(Tryz.prog.info? 9).map (fun i=>(i.zero,i.size,i.bytes))=some (some (.string ⟨#[]⟩),1,16):=by kernel_rfl
theorem info48:(Tryz.prog.info? 48).map (fun i=>(i.zero,i.size,i.bytes))=some (some (.agg #[(.int .i64 0),(.int .i64 0),(.int .i64 0)]),3,24):=by kernel_rfl
-- the values' own types
/-! #### struct type 25 -/
structure S25 where
  f0:Int
  f1:Int
/-! #### struct type 48 -/
structure S48 where
  f0:Int
  f1:Int
  f2:Int
def z48:S48:=⟨(0:Int),(0:Int),(0:Int)⟩
def k48:Kd S48:=Kd.iso (Kd.pair (Kd.int .i64) (Kd.pair (Kd.int .i64) (Kd.int .i64))) (fun x:S48=>(x.f0,x.f1,x.f2))
theorem k48_open {w:World} {x:S48} {cs:List Value} (h:k48.K w x cs):cs=[.int .i64 x.f0, .int .i64 x.f1, .int .i64 x.f2]:=by
  obtain ⟨_,_,rfl,rfl,⟨_,_,rfl,rfl,rfl⟩⟩:=h
  exact rfl
theorem k48_mkM (w:World) (base:Nat) (ok:Nat→Prop) (x:S48)  : k48.M w base ok x [.int .i64 x.f0, .int .i64 x.f1, .int .i64 x.f2]:=⟨[.int .i64 x.f0],[.int .i64 x.f1, .int .i64 x.f2],rfl,rfl,⟨[.int .i64 x.f1],[.int .i64 x.f2],rfl,rfl,rfl⟩⟩
def rd_T48 (xs:List S48) (i:Int):S48:=xs.getD i.toNat z48
theorem at_T48 {w:World} {A:Option Addr} {n:Nat} {xs:List S48} (h:Kd.C k48 w A n xs) (i:Int) (h0:0≤i) (h1:i < n) : ∃ ad ,A=some ad∧w.cell? (ad.add (i.toNat * 3))=some (.int .i64 (rd_T48 xs i).f0)∧w.cell? ⟨(ad.add (i.toNat * 3)).block,(ad.add (i.toNat * 3)).off + 1,none⟩=some (.int .i64 (rd_T48 xs i).f1)∧w.cell? ⟨(ad.add (i.toNat * 3)).block,(ad.add (i.toNat * 3)).off + 2,none⟩=some (.int .i64 (rd_T48 xs i).f2):=by
  obtain ⟨ad,c,e,_,hK,J⟩:=Kd.C_get h z48 i h0 h1
  have hc : ∀ j u,c[j]?=some u→w.cell? (ad.add (i.toNat * 3 + j))=some u:=J
  obtain rfl:=k48_open hK
  exact ⟨ad,e,hc 0 _ rfl,by rw [←add_field _ _ 1 (by omega)];exact hc 1 _ rfl,by rw [←add_field _ _ 2 (by omega)];exact hc 2 _ rfl⟩
/-! #### struct type 28 -/
structure S28 where
  f0:S25
  f1:(List S48)
/-! #### struct type 80 -/
structure S80 where
  f0:(List Int)
  f1:Int
  f2:Int
/-! Small laws on 'from some number of rounds on'. -/
theorem Ev.yes {α:Type} {c:Prop} [Decidable c] {f g:Nat→Option α} {r:α} (h:c) (k:Ev f r):Ev (fun n=>if c then f n else g n) r:=by
  simp only [if_pos h];exact k
theorem Ev.no {α:Type} {c:Prop} [Decidable c] {f g:Nat→Option α} {r:α} (h : ¬ c) (k:Ev g r):Ev (fun n=>if c then f n else g n) r:=by
  simp only [if_neg h];exact k
theorem Ev.bindc {α β:Type} {o:Option α} {f:Nat→α→Option β} {a:α} {r:β} (h:o=some a) (k:Ev (fun n=>f n a) r):Ev (fun n=>o.bind (f n)) r:=by
  subst h;exact k
theorem Ev.id {α:Type} {r s:α} (h:s=r):Ev (fun _=>some s) r:=by subst h;exact Ev.now s
theorem Ev.eq {α:Type} {g:Nat→Option α} {r s:α} (h:Ev g r) (e:r=s):Ev g s:=by subst e;exact h
theorem Ev.both {α:Type} {c:Prop} [Decidable c] {f g:Nat→Option α} {r:α} (h:c→Ev f r) (k : ¬ c→Ev g r):Ev (fun n=>if c then f n else g n) r:=by
  by_cases e:c
  · exact Ev.yes e (h e)
  · exact Ev.no e (k e)
theorem Ev.un {α:Type} {g:Nat→Option α} {r s:α} (h:Ev g r) (k:Ev g s):r=s:=by
  obtain ⟨K,h⟩:=h;obtain ⟨K',k⟩:=k
  have a:=h (max K K') (by omega);have b:=k (max K K') (by omega)
  rw [a] at b;exact Option.some.inj b
theorem w64 {x:Int} (h : -9223372036854775808≤x) (h':x≤9223372036854775807):wrap64 x=x:=by unfold wrap64;omega
/-! Plain laws on lists: filling one in place, reading. -/
theorem rd_at {xs:List Int} {i:Int} (h:i.toNat < xs.length):rd xs i=xs[i.toNat]:=by unfold rd;simp [List.getD,h]
theorem rdOf_at {α:Type} {d:α} {xs:List α} {i:Int} (h:i.toNat < xs.length):rdOf d xs i=xs[i.toNat]:=by unfold rdOf;simp [List.getD,h]
theorem getD_at {α:Type} {d:α} {xs:List α} {i:Nat} (h:i < xs.length):xs.getD i d=xs[i]:=by simp [List.getD,h]
theorem toNat_succ {i:Int} (h:0≤i):(i + 1).toNat=i.toNat + 1:=by omega
/-! A number read out of a list. -/
theorem rd_int {xs:List Int} {i:Nat} (h:i < xs.length):rd xs (i:Nat)=xs[i]:=by rw [rd_at (by simpa using h)];simp
/-! Short words for what the printed walks say over and over: each proof is told once, as a default. -/
theorem bB {P:Prop} (h:P:=by repeat (first | (with_reducible first | exact HB.out | apply ba_ | apply bn_ | apply bd_ | refine bs_ ?_ (Aside0.out (by with_reducible assumption))) | exact HB.out)):P:=h
theorem kB {P Q:Prop} (a:Aside0 P) (f:P→Q:=by intro h;(with_reducible repeat (first | refine kn_ ?_ _ | refine blk_drew ?_ | refine ka_ ?_ _ | refine blk_far ?_ (Aside0.out (by with_reducible assumption)) _));exact h):Q:=f a.out
theorem kP {P Q:Prop} (a:Aside0 P) (f:P→Q:=by intro h;(repeat (first | (with_reducible first | refine kn_ ?_ _ | refine blk_drew ?_ | refine ka_ ?_ _ | refine blk_far ?_ (Aside0.out (by with_reducible assumption)) _ | apply blk_put) | apply blk_put));exact h;all_goals rfl):Q:=f a.out
theorem kb2 {W W' w2:World} {g:Nat} {o:Obj} (a:Aside0 (W.heap[g]?=some o)) (hb:Below W'.heap.size W' w2) (f:W.heap[g]?=some o→W'.heap[g]?=some o:=by intro h;(with_reducible repeat (first | refine kn_ ?_ _ | refine blk_drew ?_ | refine ka_ ?_ _ | refine blk_far ?_ (Aside0.out (by with_reducible assumption)) _));exact h):Aside0 (w2.heap[g]?=some o):=⟨blk_below (f a.out) hb⟩
theorem hB2 {w W W' w2:World} (a:Aside0 (Below w.heap.size w W)) (hb:Below W'.heap.size W' w2) (f:Below w.heap.size w W→Below w.heap.size w W':=by intro h;repeat (first | (with_reducible first | exact h | apply ba_ | apply bn_ | apply bd_ | refine bs_ ?_ (Aside0.out (by with_reducible assumption))) | exact h)):Aside0 (Below w.heap.size w w2):=⟨bp_ (f a.out) hb⟩
theorem cB {P Q:Prop} (h:P) (f:P→Q:=by intro h;repeat (first | exact h | (with_reducible refine Kd.C_alloc ?_ _) | (with_reducible refine Kd.C_drewN ?_ _) | (with_reducible refine Kd.C_drew ?_))):Q:=f h
theorem oX {P Q:Prop} (a:Aside0 P) (f:P→Q:=by intro h;(with_reducible repeat (first | apply Kd.R_alloc | apply Kd.R_drewN | apply Kd.R_drew | apply Kd.S_alloc | apply Kd.S_drewN | apply Kd.S_drew | apply Kd.V_alloc | apply Kd.V_drewN | apply Kd.V_drew | apply Kd.N_alloc | apply Kd.N_drewN | apply Kd.N_drew));exact h):Q:=f a.out
theorem gL_ {P:Prop} (h:P:=by (try simp only [List.map_toArray,List.map_cons,List.map_nil]);first | done | rfl | (simp only [List.length_drop,List.length_take];rfl)):P:=h
theorem rF_ {P:Prop} (h:P:=by first | rfl | (simp [errW_none,errW_some] <;> rfl) | (simp [*,errW_none,errW_some] <;> rfl)):P:=h
theorem dA_ {P:Prop} [Decidable P] (h:decide P=true:=by first | (with_reducible assumption) | assumption):P:=of_decide_eq_true h
theorem rS_ {P:Prop} (h:P:=by first | rfl | (simp;done) | (simp [*];done)):P:=h
theorem dR_ {P:Prop} (h:P:=by repeat (first | exact Drawn0.refl _ | apply Drawn0.step)):P:=h
theorem xN_ {P:Prop} (h:P:=by first | exact Kd.S_nil _ _ _ _ _ | exact Kd.N_nil _ _ _ _ _ | exact Kd.V_nil _ _ _ _ _ | exact Kd.Q_nil _ _ _ _ _ | exact Kd.R_nil _ _ _ _ _):P:=h
theorem iteN {α:Type} {c:Prop} [Decidable c] {a:Option α} {r:α} (H:(if c then a else none)=some r):decide c=true∧a=some r:=by
  by_cases h:c
  · rw [if_pos h] at H;exact ⟨decide_eq_true h,H⟩
  · rw [if_neg h] at H;exact absurd H (by simp)
theorem iteE {α:Type} {c:Prop} [Decidable c] {a b:Option α} {r:Option α} (H:(if c then a else b)=r):(decide c=true∧a=r)∨(decide c=false∧b=r):=by
  by_cases h:c
  · rw [if_pos h] at H;exact .inl ⟨decide_eq_true h,H⟩
  · rw [if_neg h] at H;exact .inr ⟨decide_eq_false h,H⟩
section
variable {P:Program} {ops:Array Oper} {o:Oper} {rest:List Oper} {a:Act} {Q:Exit→Act→World→Prop} {w W W0:World}
theorem boxE_ (HB:Aside0 (Below w.heap.size w W0)) (N:Tmp) (cs:Array Value) (t:TypeId)
    (h : ∀ g w1,Aside0 (Below w.heap.size w w1)→Aside0 (w1.heap[g]?=some (.cells cs t (0,0)))→Aside0 (w.heap.size≤g)→Aside0 (w.heap.size≤g)→Below W.heap.size W w1→wpList P ops Q rest (a.put o.dst (.pointer (some ⟨g,0,none⟩))) w1)
    (hd:o.dst=some N:=by rfl) (hgd:o.guard=none:=by rfl) (hrun:(execOp a.eval o).run P W = .ok (.value (.pointer (some ⟨W.heap.size,0,none⟩))) (W.alloc (.cells cs t (0,0))):=by first | (go_simp;done) | (go_simp;rfl))
    (f:Below w.heap.size w W0→Below w.heap.size w W:=by intro h;repeat (first | (with_reducible first | exact h | apply ba_ | apply bn_ | apply bd_ | refine bs_ ?_ (Aside0.out (by with_reducible assumption))) | exact h)):wpList P ops Q (o :: rest) a W:=
  box_event hgd hd hrun fun g e w1 hbox hb=>h g w1 ⟨bp_ (f HB.out) hb⟩ ⟨hbox⟩ ⟨by rw [e];exact (f HB.out).size⟩ ⟨by rw [e];exact (f HB.out).size⟩ hb
end
theorem bK {P:Prop} (h:P:=by repeat (first | (with_reducible first | exact HK.out | apply KeepBut.set_ | apply keep_drewN | apply keep_drew | apply keep_alloc | refine keep_far ?_ (Aside0.out (by with_reducible assumption)) _) | exact HK.out)):P:=h
section
variable {w0 w W0 W w2:World} {g gb g2:Nat} {o:Obj} {row:Option Nat}
theorem neL (a:Aside0 (W0.heap[g]?=some o)) (e:g2=W.heap.size) (f:W0.heap[g]?=some o→W.heap[g]?=some o:=by intro h;(with_reducible repeat (first | refine kn_ ?_ _ | refine blk_drew ?_ | refine ka_ ?_ _ | refine blk_far ?_ (Aside0.out (by with_reducible assumption)) _));exact h):Aside0 (g≠g2):=⟨by rw [e];exact Nat.ne_of_lt (blk_lt (f a.out))⟩
theorem neR (a:Aside0 (W0.heap[g]?=some o)) (e:g2=W.heap.size) (f:W0.heap[g]?=some o→W.heap[g]?=some o:=by intro h;(with_reducible repeat (first | refine kn_ ?_ _ | refine blk_drew ?_ | refine ka_ ?_ _ | refine blk_far ?_ (Aside0.out (by with_reducible assumption)) _));exact h):Aside0 (g2≠g):=⟨by rw [e];exact Nat.ne_of_gt (blk_lt (f a.out))⟩
theorem bG (a:Aside0 (W0.heap[g]?=some o)) (hg:W.grownBy w2 row) (hn:some g≠row) (f:W0.heap[g]?=some o→W.heap[g]?=some o:=by intro h;(with_reducible repeat (first | refine kn_ ?_ _ | refine blk_drew ?_ | refine ka_ ?_ _ | refine blk_far ?_ (Aside0.out (by with_reducible assumption)) _));exact h):Aside0 (w2.heap[g]?=some o):=⟨blk_grown (f a.out) hg hn⟩
theorem kQ (a:Aside0 (W0.heap[gb]?=some o)) (hk:KeepBut W w2 g none) (n:gb≠g) (f:W0.heap[gb]?=some o→W.heap[gb]?=some o:=by intro h;(with_reducible repeat (first | refine kn_ ?_ _ | refine blk_drew ?_ | refine ka_ ?_ _ | refine blk_far ?_ (Aside0.out (by with_reducible assumption)) _));exact h):Aside0 (w2.heap[gb]?=some o):=⟨KeepBut.blk hk (f a.out) n (by simp)⟩
theorem sZ (a:Aside0 (Below w.heap.size w W0)) (e:gb=W.heap.size) (f:Below w.heap.size w W0→Below w.heap.size w W:=by intro h;repeat (first | (with_reducible first | exact h | apply ba_ | apply bn_ | apply bd_ | refine bs_ ?_ (Aside0.out (by with_reducible assumption))) | exact h)):Aside0 (w.heap.size≤gb):=⟨by rw [e];exact (f a.out).size⟩
theorem kS (a:Aside0 (KeepBut w W0 g row)) (e:gb=W.heap.size) (f:KeepBut w W0 g row→KeepBut w W g row:=by intro h;repeat (first | (with_reducible first | exact h | apply KeepBut.set_ | apply keep_drewN | apply keep_drew | apply keep_alloc | refine keep_far ?_ (Aside0.out (by with_reducible assumption)) _) | exact h)):Aside0 (w.heap.size≤gb):=⟨by rw [e];exact keep_size (f a.out)⟩
theorem kE (b:Aside0 (w0.heap.size≤w.heap.size)) (c:Aside0 (w.heap.size≤gb)):Aside0 (w0.heap.size≤gb):=⟨Nat.le_trans b.out c.out⟩
theorem kT (a:Aside0 (KeepBut w W0 g none)) (hb:Below W.heap.size W w2) (f:KeepBut w W0 g none→KeepBut w W g none:=by intro h;repeat (first | (with_reducible first | exact h | apply KeepBut.set_ | apply keep_drewN | apply keep_drew | apply keep_alloc | refine keep_far ?_ (Aside0.out (by with_reducible assumption)) _) | exact h)):Aside0 (KeepBut w w2 g none):=⟨KeepBut.trans (f a.out) (KeepBut.of_below hb g none) (.inl rfl)⟩
theorem kT2 (a:Aside0 (KeepBut w W0 g none)) (hk:KeepBut W w2 g none) (f:KeepBut w W0 g none→KeepBut w W g none:=by intro h;repeat (first | (with_reducible first | exact h | apply KeepBut.set_ | apply keep_drewN | apply keep_drew | apply keep_alloc | refine keep_far ?_ (Aside0.out (by with_reducible assumption)) _) | exact h)):Aside0 (KeepBut w w2 g none):=⟨KeepBut.trans (f a.out) hk (.inl rfl)⟩
end
theorem dN_ {P:Prop} (h:P:=by first | exact ⟨rfl,_,World.drewN_drewN _ _ _⟩ | exact ⟨rfl,_,Eq.trans (World.drewN_drewN _ _ _) (congrArg (World.drewN _) (Nat.add_assoc _ _ _))⟩):P:=h
theorem bE {α β:Type} {o:Option α} {f:α→Option β} {r:β} (H:o.bind f=some r) : ∃ t,Aside0 (o=some t)∧f t=some r:=by
  obtain ⟨t,h1,h2⟩:=Option.bind_eq_some_iff.mp H
  exact ⟨t,⟨h1⟩,h2⟩
theorem iteB {α:Type} {b:Bool} {x y:Option α} {r:Option α} (H:(if b=true then x else y)=r):(b=true∧x=r)∨(b=false∧y=r):=by
  cases b with
  | true=>rw [if_pos rfl] at H;exact .inl ⟨rfl,H⟩
  | false=>rw [if_neg (by decide)] at H;exact .inr ⟨rfl,H⟩
section
variable {P:Program} {ops:Array Oper} {o:Oper} {rest:List Oper} {a:Act} {Q:Exit→Act→World→Prop} {w W W0:World}
theorem boxG_ (N:Tmp) (cs:Array Value) (t:TypeId)
    (h : ∀ g w1,g=W.heap.size→Aside0 (w1.heap[g]?=some (.cells cs t (0,0)))→Below W.heap.size W w1→wpList P ops Q rest (a.put o.dst (.pointer (some ⟨g,0,none⟩))) w1)
    (hd:o.dst=some N:=by rfl) (hgd:o.guard=none:=by rfl) (hrun:(execOp a.eval o).run P W = .ok (.value (.pointer (some ⟨W.heap.size,0,none⟩))) (W.alloc (.cells cs t (0,0))):=by first | (go_simp;done) | (go_simp;rfl)):wpList P ops Q (o :: rest) a W:=
  box_event hgd hd hrun fun g e w1 hbox hb=>h g w1 e ⟨hbox⟩ hb
end
theorem cells2 {w:World} {g t:Nat} {a b:Value} (h:w.heap[g]?=some (.cells #[a,b] t (0,0))):w.cell? ⟨g,0,none⟩=some a∧w.cell? ⟨g,1,none⟩=some b∧w.frozen? ⟨g,0,none⟩=false∧w.frozen? ⟨g,1,none⟩=false:=⟨(blk_cell h 0).trans rfl,(blk_cell h 1).trans rfl,blk_frozen h 0,blk_frozen h 1⟩
theorem cells3 {w:World} {g t:Nat} {a b c:Value} (h:w.heap[g]?=some (.cells #[a,b,c] t (0,0))):w.cell? ⟨g,0,none⟩=some a∧w.cell? ⟨g,1,none⟩=some b∧w.cell? ⟨g,2,none⟩=some c∧w.frozen? ⟨g,0,none⟩=false∧w.frozen? ⟨g,1,none⟩=false∧w.frozen? ⟨g,2,none⟩=false:=⟨(blk_cell h 0).trans rfl,(blk_cell h 1).trans rfl,(blk_cell h 2).trans rfl,blk_frozen h 0,blk_frozen h 1,blk_frozen h 2⟩
/-- A state of type 80 at block g of W; what its slices lead to came in by w0. -/
def IsS80 (w0 W:World) (g:Nat) (f0:List Int) (f1:Int) (f2:Int):Prop:= ∃ A0 c0,W.heap[g]?=some (.cells #[.slice A0 f0.length c0, .int .i64 f1, .int .u64 f2] 80 (0,0))∧w0.heap.size≤g∧Kd.C (Kd.int .u8) w0 A0 f0.length f0
theorem IsS80.grown {w0 W:World} {g:Nat} {f0:List Int} {f1:Int} {f2:Int} {W1:World} {row:Option Nat} (h:IsS80 w0 W g f0 f1 f2) (hw:W.grownBy W1 row) (hne:some g≠row):IsS80 w0 W1 g f0 f1 f2:=by
  obtain ⟨A0,c0,hb,hg,J⟩:=h;exact ⟨A0,c0,blk_grown hb hw hne,hg,J⟩
theorem IsS80.below {w0 W:World} {g:Nat} {f0:List Int} {f1:Int} {f2:Int} {W1:World} (h:IsS80 w0 W g f0 f1 f2) (hw:Below W.heap.size W W1):IsS80 w0 W1 g f0 f1 f2:=h.grown (grown_of_below hw none) (by simp)
theorem IsS80.alloc {w0 W:World} {g:Nat} {f0:List Int} {f1:Int} {f2:Int} (h:IsS80 w0 W g f0 f1 f2) (o:Obj):IsS80 w0 (W.alloc o) g f0 f1 f2:=h.below (ba_ (Below.refl _ _) o)
theorem IsS80.drewN {w0 W:World} {g:Nat} {f0:List Int} {f1:Int} {f2:Int} (h:IsS80 w0 W g f0 f1 f2) (m:Nat):IsS80 w0 (W.drewN m) g f0 f1 f2:=h
theorem IsS80.drew {w0 W:World} {g:Nat} {f0:List Int} {f1:Int} {f2:Int} (h:IsS80 w0 W g f0 f1 f2):IsS80 w0 W.drew g f0 f1 f2:=h
theorem IsS80.apart {w0 W:World} {g:Nat} {f0:List Int} {f1:Int} {f2:Int} {α:Type} {d:Kd α} {e:Nat} {base:Nat} {ok:Nat→Prop} {v:Value} {xs:List α} (h:IsS80 w0 W g f0 f1 f2) (ho:d.R e W base ok v xs) (ht : ∀ q,q∈e :: d.E→q≠80):d.R e W base (fun k=>ok k∧k≠g) v xs:=by
  obtain ⟨A0,c0,hb,hg,J⟩:=h;exact Kd.R_types ho hb ht
theorem IsS80.own_ne {w0 W:World} {g:Nat} {f0:List Int} {f1:Int} {f2:Int} {α:Type} {d:Kd α} {e:Nat} {base:Nat} {ok:Nat→Prop} {v:Value} {xs:List α} (h:IsS80 w0 W g f0 f1 f2) (ho:d.R e W base ok v xs) (ht:e≠80):some g≠v.ownBlock:=by
  obtain ⟨A0,c0,hb,hg,J⟩:=h;exact Kd.R_ne ho hb ht
theorem IsS80.lt {w0 W:World} {g:Nat} {f0:List Int} {f1:Int} {f2:Int} (h:IsS80 w0 W g f0 f1 f2):g < W.heap.size:=by
  obtain ⟨A0,c0,hb,hg,J⟩:=h;exact blk_lt hb
theorem IsS80.ge {w0 W:World} {g:Nat} {f0:List Int} {f1:Int} {f2:Int} (h:IsS80 w0 W g f0 f1 f2):w0.heap.size≤g:=by
  obtain ⟨A0,c0,hb,hg,J⟩:=h;exact hg
theorem IsS80.far {w0 W:World} {g:Nat} {f0:List Int} {f1:Int} {f2:Int} {p:Addr} (h:IsS80 w0 W g f0 f1 f2) (hne:g≠p.block) (u:Value):IsS80 w0 (W.setCell p u) g f0 f1 f2:=by
  obtain ⟨A0,c0,hb,hg,J⟩:=h;exact ⟨A0,c0,blk_far hb hne u,hg,J⟩
theorem cellS80_0 {W:World} {g:Nat} {A0:Option Addr} {c0:Nat} {f0:List Int} {f1:Int} {f2:Int} (h:W.heap[g]?=some (.cells #[.slice A0 f0.length c0, .int .i64 f1, .int .u64 f2] 80 (0,0))):W.cell? ⟨g,0,none⟩=some (.slice A0 f0.length c0):=(blk_cell h 0).trans rfl
theorem cellS80_1 {W:World} {g:Nat} {A0:Option Addr} {c0:Nat} {f0:List Int} {f1:Int} {f2:Int} (h:W.heap[g]?=some (.cells #[.slice A0 f0.length c0, .int .i64 f1, .int .u64 f2] 80 (0,0))):W.cell? ⟨g,1,none⟩=some (.int .i64 f1):=(blk_cell h 1).trans rfl
theorem IsS80.set_1 {w0 W:World} {g:Nat} {f0:List Int} {f1:Int} {f2:Int} (h:IsS80 w0 W g f0 f1 f2) (x:Int):IsS80 w0 (W.setCell ⟨g,1,none⟩ (.int .i64 x)) g f0 x f2:=by
  obtain ⟨A0,c0,hb,hg,J⟩:=h;exact ⟨A0,c0,by simpa using blk_set hb 1 (.int .i64 x),hg,J⟩
theorem cellS80_2 {W:World} {g:Nat} {A0:Option Addr} {c0:Nat} {f0:List Int} {f1:Int} {f2:Int} (h:W.heap[g]?=some (.cells #[.slice A0 f0.length c0, .int .i64 f1, .int .u64 f2] 80 (0,0))):W.cell? ⟨g,2,none⟩=some (.int .u64 f2):=(blk_cell h 2).trans rfl
theorem IsS80.set_2 {w0 W:World} {g:Nat} {f0:List Int} {f1:Int} {f2:Int} (h:IsS80 w0 W g f0 f1 f2) (x:Int):IsS80 w0 (W.setCell ⟨g,2,none⟩ (.int .u64 x)) g f0 f1 x:=by
  obtain ⟨A0,c0,hb,hg,J⟩:=h;exact ⟨A0,c0,by simpa using blk_set hb 2 (.int .u64 x),hg,J⟩
/-! ### spec_l1Cur_next: function 120 -/
def spec_l1Cur_next.f (Y:List Int) (J:Int) (Z:Int):Option (Int×Int×Int):=if J < (Y.length:Int) then (if 0≤J then (if (wrap64 (J + 1))≤(Y.length:Int) then (some (wrap64 (rd Y J),wrap64 (J + 1),IntKind.u64.wrap ((IntKind.u64.wrap ((IntKind.u64.wrap (Z * 6364136223846793005)) + (IntKind.u64.wrap (wrap64 (rd Y J))))) + 1442695040888963407))) else (some (wrap64 (Go.bits .and .u64 ((IntKind.u64.wrap ((IntKind.u64.wrap ((IntKind.u64.wrap (Z * 6364136223846793005)) + (IntKind.u64.wrap (wrap64 (rd Y J))))) + 1442695040888963407)) / 1099511627776) 255),wrap64 (J + 1),IntKind.u64.wrap ((IntKind.u64.wrap ((IntKind.u64.wrap (Z * 6364136223846793005)) + (IntKind.u64.wrap (wrap64 (rd Y J))))) + 1442695040888963407)))) else (none)) else (if (wrap64 (J + 1))≤(Y.length:Int) then (some (0,wrap64 (J + 1),IntKind.u64.wrap ((IntKind.u64.wrap (IntKind.u64.wrap (Z * 6364136223846793005))) + 1442695040888963407))) else (some (wrap64 (Go.bits .and .u64 ((IntKind.u64.wrap ((IntKind.u64.wrap (IntKind.u64.wrap (Z * 6364136223846793005))) + 1442695040888963407)) / 1099511627776) 255),wrap64 (J + 1),IntKind.u64.wrap ((IntKind.u64.wrap (IntKind.u64.wrap (Z * 6364136223846793005))) + 1442695040888963407))))
set_option maxHeartbeats 8000000 in
set_option maxRecDepth 100000 in
theorem spec_l1Cur_next.calls (g:Nat) (ab:List Int) (Y:Int) (ag:Int) (r1:Int) (r2:Int) (r3:Int) (w0 w:World) (hI:IsS80 w0 w g ab Y ag) (hB:Below w0.heap.size w0 w) (h:spec_l1Cur_next.f ab Y ag=some (r1,r2,r3)) :
    Calls Tryz.prog 120 #[.pointer (some ⟨g,0,none⟩)] w fun e w'=>e = .returned (.int .i64 r1)∧IsS80 w0 w' g ab r2 r3∧Below w0.heap.size w0 w'∧KeepBut w w' g none:=by
  have HI0:=amk hI;have HK:=amk (KeepBut.refl w g none);have HL:=amk hB.size;clear hI;have b9:=amk hB.size;have HB:=amk hB;clear hB;unfold spec_l1Cur_next.f at h;have H:=h;clear h;replace H:=iteE H;obtain ⟨ai,H⟩ | ⟨ai,H⟩:=H
  · replace H:=iteN H;obtain ⟨b8,H⟩:=H;replace H:=iteE H;obtain ⟨aj,H⟩ | ⟨aj,H⟩:=H
    · simp only [Option.some.injEq,Prod.mk.injEq] at H;obtain ⟨rfl,rfl,rfl⟩:=H;obtain ⟨ar,au,a6,ak,ae⟩:=HI0.out;have av:=cellS80_0 a6;have ax:=cellS80_1 a6;have ay:=cellS80_2 a6;have az:=blk_frozen a6 1;have aA:=blk_frozen a6 2;clear a6 ak;have Z:0≤(Y:Int):=dA_;have a1:Y < (ab.length:Int):=dA_;obtain ⟨ah,ac,J⟩:=Kd.at_int ae Y Z a1;cases ac;replace J:=pw_cell_below HB.out J;replace Z:=eq_true Z;replace a1:=eq_true a1;go_enter Tryz.func120,Tryz.ntmps120;go_wp2
      repeat (go_quiet (fail);try go_wp2)
      go_ret;exact ⟨rF_,by repeat (first | (with_reducible first | exact HI0.out | apply IsS80.alloc | apply IsS80.drewN | apply IsS80.drew | apply IsS80.set_1 | apply IsS80.set_2) | exact HI0.out),by repeat (first | (with_reducible first | exact HB.out | apply ba_ | apply bn_ | apply bd_ | refine bs_ ?_ (IsS80.ge HI0.out)) | exact HB.out),bK⟩
    · simp only [Option.some.injEq,Prod.mk.injEq] at H;obtain ⟨rfl,rfl,rfl⟩:=H;obtain ⟨aC,aD,a7,al,af⟩:=HI0.out;have aE:=cellS80_0 a7;have aG:=cellS80_1 a7;have aH:=cellS80_2 a7;have aI:=blk_frozen a7 1;have aJ:=blk_frozen a7 2;clear a7 al;have Z:0≤(Y:Int):=dA_;have a1:Y < (ab.length:Int):=dA_;obtain ⟨ah,ac,J⟩:=Kd.at_int af Y Z a1;cases ac;replace J:=pw_cell_below HB.out J;replace Z:=eq_true Z;replace a1:=eq_true a1;go_enter Tryz.func120,Tryz.ntmps120;go_wp2
      repeat (go_quiet (fail);try go_wp2)
      go_ret;exact ⟨rF_,by repeat (first | (with_reducible first | exact HI0.out | apply IsS80.alloc | apply IsS80.drewN | apply IsS80.drew | apply IsS80.set_1 | apply IsS80.set_2) | exact HI0.out),by repeat (first | (with_reducible first | exact HB.out | apply ba_ | apply bn_ | apply bd_ | refine bs_ ?_ (IsS80.ge HI0.out)) | exact HB.out),bK⟩
  · replace H:=iteE H;obtain ⟨am,H⟩ | ⟨am,H⟩:=H
    · simp only [Option.some.injEq,Prod.mk.injEq] at H;obtain ⟨rfl,rfl,rfl⟩:=H;obtain ⟨aK,aM,a8,an,aN⟩:=HI0.out;have aQ:=cellS80_0 a8;have aT:=cellS80_1 a8;have aU:=cellS80_2 a8;have aV:=blk_frozen a8 1;have aW:=blk_frozen a8 2;clear a8 an;go_enter Tryz.func120,Tryz.ntmps120;go_wp2
      repeat (go_quiet (fail);try go_wp2)
      go_ret;exact ⟨rF_,by repeat (first | (with_reducible first | exact HI0.out | apply IsS80.alloc | apply IsS80.drewN | apply IsS80.drew | apply IsS80.set_1 | apply IsS80.set_2) | exact HI0.out),by repeat (first | (with_reducible first | exact HB.out | apply ba_ | apply bn_ | apply bd_ | refine bs_ ?_ (IsS80.ge HI0.out)) | exact HB.out),bK⟩
    · simp only [Option.some.injEq,Prod.mk.injEq] at H;obtain ⟨rfl,rfl,rfl⟩:=H;obtain ⟨aX,aY,aa,ap,aZ⟩:=HI0.out;have b3:=cellS80_0 aa;have b4:=cellS80_1 aa;have b5:=cellS80_2 aa;have b6:=blk_frozen aa 1;have b7:=blk_frozen aa 2;clear aa ap;go_enter Tryz.func120,Tryz.ntmps120;go_wp2
      repeat (go_quiet (fail);try go_wp2)
      go_ret;exact ⟨rF_,by repeat (first | (with_reducible first | exact HI0.out | apply IsS80.alloc | apply IsS80.drewN | apply IsS80.drew | apply IsS80.set_1 | apply IsS80.set_2) | exact HI0.out),by repeat (first | (with_reducible first | exact HB.out | apply ba_ | apply bn_ | apply bd_ | refine bs_ ?_ (IsS80.ge HI0.out)) | exact HB.out),bK⟩
/-! The same short words, for what holds a cursor. -/
theorem bI {P:Prop} (h:P:=by repeat (first | (with_reducible first | exact HI0.out | apply IsS80.alloc | apply IsS80.drewN | apply IsS80.drew | apply IsS80.set_1 | apply IsS80.set_2 | refine IsS80.far ?_ (Aside0.out (by with_reducible assumption)) _) | exact HI0.out)):P:=h
theorem bBI {P:Prop} (h:P:=by repeat (first | (with_reducible first | exact HB.out | apply ba_ | apply bn_ | apply bd_ | refine bs_ ?_ (Aside0.out (by with_reducible assumption)) | refine bs_ ?_ (IsS80.ge HI0.out)) | exact HB.out)):P:=h
section
variable {w0 w W0 W w2:World} {g gb:Nat} {f0:List Int} {f1 f2:Int}
theorem hBI (a:Aside0 (Below w.heap.size w W0)) (hb:Below W.heap.size W w2) (f:Below w.heap.size w W0→Below w.heap.size w W:=by intro h;repeat (first | (with_reducible first | exact h | apply ba_ | apply bn_ | apply bd_ | refine bs_ ?_ (Aside0.out (by with_reducible assumption)) | refine bs_ ?_ (IsS80.ge HI0.out)) | exact h)):Aside0 (Below w.heap.size w w2):=⟨bp_ (f a.out) hb⟩
theorem iL (f0:List Int) (f1 f2:Int) (e:gb=W.heap.size) (h:IsS80 w0 W g f0 f1 f2:=by exact bI):Aside0 (g≠gb):=⟨by rw [e];exact Nat.ne_of_lt h.lt⟩
theorem iR (f0:List Int) (f1 f2:Int) (e:gb=W.heap.size) (h:IsS80 w0 W g f0 f1 f2:=by exact bI):Aside0 (gb≠g):=⟨by rw [e];exact Nat.ne_of_gt h.lt⟩
end
/-! ### spec_l1Cur_pick: function 87 -/
def spec_l1Cur_pick.f (Z:List Int) (a6:Int) (a7:Int) (a1:Int):Option (Int×Int×Int):=if a1≤1 then (some (0,a6,a7)) else ((spec_l1Cur_next.f Z a6 a7).bind fun J=>(if a1 > 200 then ((spec_l1Cur_next.f Z J.2.1 J.2.2).bind fun Y=>(if a1=0 then (none) else (some (Int.tmod (wrap64 ((wrap64 (J.1 * 256)) + Y.1)) a1,Y.2.1,Y.2.2)))) else (if a1=0 then (none) else (some (Int.tmod J.1 a1,J.2.1,J.2.2)))))
set_option maxHeartbeats 8000000 in
set_option maxRecDepth 100000 in
theorem spec_l1Cur_pick.calls (g:Nat) (J:List Int) (Y:Int) (Z:Int) (a1:Int) (r1:Int) (r2:Int) (r3:Int) (w0 w:World) (hI:IsS80 w0 w g J Y Z) (hB:Below w0.heap.size w0 w) (h:spec_l1Cur_pick.f J Y Z a1=some (r1,r2,r3)) :
    Calls Tryz.prog 87 #[.pointer (some ⟨g,0,none⟩), .int .i64 a1] w fun e w'=>e = .returned (.int .i64 r1)∧IsS80 w0 w' g J r2 r3∧Below w0.heap.size w0 w'∧KeepBut w w' g none:=by
  have HI0:=amk hI;have HK:=amk (KeepBut.refl w g none);have HL:=amk hB.size;clear hI;have ak:=amk hB.size;have HB:=amk hB;clear hB;unfold spec_l1Cur_pick.f at h;have H:=h;clear h;replace H:=iteE H;obtain ⟨aa,H⟩ | ⟨aa,H⟩:=H
  · simp only [Option.some.injEq,Prod.mk.injEq] at H;obtain ⟨rfl,rfl,rfl⟩:=H;go_enter Tryz.func87,Tryz.ntmps87;go_wp2;go_ret;exact ⟨rF_,bI,bBI,bK⟩
  · replace H:=bE H;obtain ⟨⟨a8,a6,a7⟩,A4,H⟩:=H;(try dsimp only at H)
    by_cases c5:a1 > 200
    · rw [if_pos c5] at H;have ab:decide (200 < a1)=true:=decide_eq_true c5;clear c5;replace H:=bE H;obtain ⟨⟨ac,ae,af⟩,A6,H⟩:=H;(try dsimp only at H)
      by_cases c7:a1=0
      · rw [if_pos c7] at H;exact absurd H (by simp)
      · rw [if_neg c7] at H;have ai:(a1 == 0)=false:=beq_eq_false_iff_ne.mpr c7;have aj:(a1 != 0)=true:=bne_iff_ne.mpr c7;simp only [Option.some.injEq,Prod.mk.injEq] at H;obtain ⟨rfl,rfl,rfl⟩:=H;go_enter Tryz.func87,Tryz.ntmps87;go_wp2_with (first | ((with_reducible refine gate_callee (f:=120) rfl ?_);refine goesL_ (some 9) rfl rfl Tryz.func120 (by kernel_rfl) rfl #[.pointer (some ⟨g,0,none⟩)] rfl gL_ ?_;(with_reducible refine (spec_l1Cur_next.calls g J Y Z a8 a6 a7 w0 _ ?_ ?_ A4.out).mono ?_);exact bI;exact bBI;rintro e w8 ⟨rfl,hi,hb,hk⟩;refine ⟨_,rfl,?_⟩;replace HK:=kT2 HK hk;replace HB:=amk (hb);replace HI0:=amk (hi);(try clear hb);(try clear hk);(try clear hi)) | ((with_reducible refine gate_callee (f:=120) rfl ?_);refine goesL_ (some 15) rfl rfl Tryz.func120 (by kernel_rfl) rfl #[.pointer (some ⟨g,0,none⟩)] rfl gL_ ?_;(with_reducible refine (spec_l1Cur_next.calls g J a6 a7 ac ae af w0 _ ?_ ?_ A6.out).mono ?_);exact bI;exact bBI;rintro e w9 ⟨rfl,hi,hb,hk⟩;refine ⟨_,rfl,?_⟩;replace HK:=kT2 HK hk;replace HB:=amk (hb);replace HI0:=amk (hi);(try clear hb);(try clear hk);(try clear hi)));go_ret;exact ⟨rF_,bI,bBI,bK⟩
    · rw [if_neg c5] at H;have ab:decide (200 < a1)=false:=decide_eq_false c5;clear c5
      by_cases c10:a1=0
      · rw [if_pos c10] at H;exact absurd H (by simp)
      · rw [if_neg c10] at H;have ag:(a1 == 0)=false:=beq_eq_false_iff_ne.mpr c10;have ah:(a1 != 0)=true:=bne_iff_ne.mpr c10;simp only [Option.some.injEq,Prod.mk.injEq] at H;obtain ⟨rfl,rfl,rfl⟩:=H;go_enter Tryz.func87,Tryz.ntmps87;go_wp2_with (first | ((with_reducible refine gate_callee (f:=120) rfl ?_);refine goesL_ (some 9) rfl rfl Tryz.func120 (by kernel_rfl) rfl #[.pointer (some ⟨g,0,none⟩)] rfl gL_ ?_;(with_reducible refine (spec_l1Cur_next.calls g J Y Z a8 a6 a7 w0 _ ?_ ?_ A4.out).mono ?_);exact bI;exact bBI;rintro e al ⟨rfl,hi,hb,hk⟩;refine ⟨_,rfl,?_⟩;replace HK:=kT2 HK hk;replace HB:=amk (hb);replace HI0:=amk (hi);(try clear hb);(try clear hk);(try clear hi)));go_ret;exact ⟨rF_,bI,bBI,bK⟩
/-! ### spec_l1Cur_among: function 121 -/
def spec_l1Cur_among.f (Y:List Int) (Z:Int) (a1:Int) (l1:List Int):Option (Int×Int×Int):=(spec_l1Cur_pick.f Y Z a1 (l1.length:Int)).bind fun J=>(if 0≤J.1 then (if J.1 < (l1.length:Int) then (some (rd l1 J.1,J.2.1,J.2.2)) else (none)) else (none))
set_option maxHeartbeats 8000000 in
set_option maxRecDepth 100000 in
theorem spec_l1Cur_among.calls (g:Nat) (Y:List Int) (a1:Int) (a6:Int) (A1:Option Addr) (c1:Nat) (l1:List Int) (r1:Int) (r2:Int) (r3:Int) (w0 w:World) (hI:IsS80 w0 w g Y a1 a6) (hB:Below w0.heap.size w0 w) (ac:Kd.C (Kd.int .i64) w A1 l1.length l1) (ae:l1.length≤c1) (aa : ∀ ad,A1=some ad→0 < l1.length→ad.block≠g) (h:spec_l1Cur_among.f Y a1 a6 l1=some (r1,r2,r3)) :
    Calls Tryz.prog 121 #[.pointer (some ⟨g,0,none⟩), .slice A1 l1.length c1] w fun e w'=>e = .returned (.int .i64 r1)∧IsS80 w0 w' g Y r2 r3∧Below w0.heap.size w0 w'∧KeepBut w w' g none:=by
  have ai:=amk ac;have al:=amk ae;clear ac ae;have HI0:=amk hI;have HK:=amk (KeepBut.refl w g none);have HL:=amk hB.size;clear hI;have am:=amk hB.size;have HB:=amk hB;clear hB;unfold spec_l1Cur_among.f at h;have H:=h;clear h;replace H:=bE H;obtain ⟨⟨Z,af,ag⟩,A3,H⟩:=H;(try dsimp only at H);replace H:=iteN H;obtain ⟨aj,H⟩:=H;replace H:=iteN H;obtain ⟨ak,H⟩:=H;simp only [Option.some.injEq,Prod.mk.injEq] at H;obtain ⟨rfl,rfl,rfl⟩:=H;go_enter Tryz.func121,Tryz.ntmps121;go_wp2_with (first | ((with_reducible refine gate_callee (f:=87) rfl ?_);refine goesL_ (some 9) rfl rfl Tryz.func87 (by kernel_rfl) rfl #[.pointer (some ⟨g,0,none⟩), .int .i64 (l1.length:Int)] rfl gL_ ?_;(with_reducible refine (spec_l1Cur_pick.calls g Y a1 a6 (l1.length:Int) Z af ag w0 _ ?_ ?_ A3.out).mono ?_);exact bI;exact bBI;rintro e w6 ⟨rfl,hi,hb,hk⟩;refine ⟨_,rfl,?_⟩;replace HK:=kT2 HK hk;replace HB:=amk (hb);replace HI0:=amk (hi);(try clear hb);(try clear hk);(try clear hi);have a7:0≤(Z:Int):=dA_;have a8:Z < (l1.length:Int):=dA_;obtain ⟨ab,ah,J⟩:=Kd.at_int ai.out Z a7 a8;cases ah;replace J:=keep_cell HK.out J (by first | (rw [add_block];exact aa _ rfl (by omega)) | exact aa _ rfl (by omega) | exact aa ab rfl (by omega));replace a7:=eq_true a7;replace a8:=eq_true a8));go_ret;exact ⟨rF_,bI,bBI,bK⟩
/-! ### spec_l1Cur_one: function 60 -/
def spec_l1Cur_one.f (Y:List Int) (Z:Int) (a6:Int) (a1:Int):Option (Bool×Int×Int):=(spec_l1Cur_pick.f Y Z a6 a1).bind fun J=>(some ((J.1 == 0),J.2.1,J.2.2))
set_option maxHeartbeats 8000000 in
set_option maxRecDepth 100000 in
theorem spec_l1Cur_one.calls (g:Nat) (J:List Int) (Y:Int) (Z:Int) (a1:Int) (r1:Bool) (r2:Int) (r3:Int) (w0 w:World) (hI:IsS80 w0 w g J Y Z) (hB:Below w0.heap.size w0 w) (h:spec_l1Cur_one.f J Y Z a1=some (r1,r2,r3)) :
    Calls Tryz.prog 60 #[.pointer (some ⟨g,0,none⟩), .int .i64 a1] w fun e w'=>e = .returned (.bool r1)∧IsS80 w0 w' g J r2 r3∧Below w0.heap.size w0 w'∧KeepBut w w' g none:=by
  have HI0:=amk hI;have HK:=amk (KeepBut.refl w g none);have HL:=amk hB.size;clear hI;have aa:=amk hB.size;have HB:=amk hB;clear hB;unfold spec_l1Cur_one.f at h;have H:=h;clear h;replace H:=bE H;obtain ⟨⟨a6,a7,a8⟩,A3,H⟩:=H;(try dsimp only at H);simp only [Option.some.injEq,Prod.mk.injEq] at H;obtain ⟨rfl,rfl,rfl⟩:=H;go_enter Tryz.func60,Tryz.ntmps60;go_wp2_with (first | ((with_reducible refine gate_callee (f:=87) rfl ?_);refine goesL_ (some 7) rfl rfl Tryz.func87 (by kernel_rfl) rfl #[.pointer (some ⟨g,0,none⟩), .int .i64 a1] rfl gL_ ?_;(with_reducible refine (spec_l1Cur_pick.calls g J Y Z a1 a6 a7 a8 w0 _ ?_ ?_ A3.out).mono ?_);exact bI;exact bBI;rintro e w4 ⟨rfl,hi,hb,hk⟩;refine ⟨_,rfl,?_⟩;replace HK:=kT2 HK hk;replace HB:=amk (hb);replace HI0:=amk (hi);(try clear hb);(try clear hk);(try clear hi)));go_ret;exact ⟨rF_,bI,bBI,bK⟩
/-! The small draws come to an end: one byte, one of many, one of a list. -/
/-! The draws: that they come to an end, and how great what they give is. -/
theorem u64_rng (n:Int):0≤IntKind.u64.wrap n∧IntKind.u64.wrap n < 18446744073709551616:=by
  have:IntKind.u64.wrap n=n % 18446744073709551616:=by simp [IntKind.wrap,IntKind.bits,IntKind.signed]
  rw [this];omega
theorem and255 (n:Int):0≤Go.bits .and .u64 (IntKind.u64.wrap n / 1099511627776) 255∧Go.bits .and .u64 (IntKind.u64.wrap n / 1099511627776) 255≤255:=by
  obtain ⟨h0,h1⟩:=u64_rng n
  rw [u64_and _ _ (by omega) (by omega) (by omega) (by omega)]
  have:=Nat.and_le_right (n:=(IntKind.u64.wrap n / 1099511627776).toNat) (m:=(255:Int).toNat)
  have e:((255:Int).toNat:Nat)=255:=rfl
  rw [e] at this ⊢
  omega
def BytesV (s:List Int):Prop:=(∀ x∈s,0≤x∧x < 256)∧s.length≤1000000000000
theorem dnext_ok {s:List Int} (hs:BytesV s) {a:Int} (h0:0≤a) (h1:a≤1000000000) (b:Int) : ∃ r b',spec_l1Cur_next.f s a b=some (r,a + 1,b')∧0≤r∧r < 256:=by
  have hw:wrap64 (a + 1)=a + 1:=w64 (by omega) (by omega)
  have hl:=hs.2
  unfold spec_l1Cur_next.f
  rw [hw]
  clear hw
  by_cases h:a < (s.length:Int)
  · obtain ⟨i,rfl⟩ : ∃ i:Nat,a=(i:Int):=⟨a.toNat,by omega⟩
    have hi:i < s.length:=by omega
    have hx:=hs.1 s[i] (List.getElem_mem hi)
    rw [if_pos h,if_pos h0,if_pos (by omega),rd_int hi]
    refine ⟨_,_,rfl,?_⟩
    rw [w64 (by omega) (by omega)]
    exact hx
  · rw [if_neg h,if_neg (by omega)]
    refine ⟨_,_,rfl,?_⟩
    have:=and255 ((IntKind.u64.wrap (IntKind.u64.wrap (b * 6364136223846793005))) + 1442695040888963407)
    rw [w64 (by omega) (by omega)]
    omega
theorem dpick_ok {s:List Int} (hs:BytesV s) {a:Int} (h0:0≤a) (h1:a≤1000000000) (b:Int) {n:Int} (hn:n≤200) : ∃ r a' b',spec_l1Cur_pick.f s a b n=some (r,a',b')∧0≤r∧(r < n∨r=0)∧a≤a'∧a'≤a + 1:=by
  unfold spec_l1Cur_pick.f
  by_cases h:n≤1
  · rw [if_pos h]
    exact ⟨0,a,b,rfl,Int.le_refl _,Or.inr rfl,Int.le_refl _,by omega⟩
  · obtain ⟨r,b',e,r0,r1⟩:=dnext_ok hs h0 h1 b
    rw [if_neg h,e]
    show ∃ r_ a' b'_,(if n > 200 then _ else if n=0 then none else some (Int.tmod r n,a + 1,b'))=some (r_,a',b'_)∧_
    rw [if_neg (by omega),if_neg (by omega)]
    refine ⟨_,_,_,rfl,?_,Or.inl ?_,by omega,Int.le_refl _⟩
    · exact Int.tmod_nonneg _ r0
    · exact Int.tmod_lt_of_pos _ (by omega)
theorem done_ok {s:List Int} (hs:BytesV s) {a:Int} (h0:0≤a) (h1:a≤1000000000) (b:Int) {n:Int} (hn:n≤200) : ∃ r a' b',spec_l1Cur_one.f s a b n=some (r,a',b')∧a≤a'∧a'≤a + 1:=by
  obtain ⟨r,a',b',e,_,_,h2,h3⟩:=dpick_ok hs h0 h1 b hn
  unfold spec_l1Cur_one.f
  rw [e]
  exact ⟨_,_,_,rfl,h2,h3⟩
theorem damong_ok {s:List Int} (hs:BytesV s) {a:Int} (h0:0≤a) (h1:a≤1000000000) (b:Int) {l:List Int} (hl:0 < l.length) (J:l.length≤200) : ∃ r a' b',spec_l1Cur_among.f s a b l=some (r,a',b')∧r∈l∧a≤a'∧a'≤a + 1:=by
  obtain ⟨r,a',b',e,r0,r1,h2,h3⟩:=dpick_ok hs h0 h1 b (n:=(l.length:Int)) (by omega)
  unfold spec_l1Cur_among.f
  rw [e]
  obtain ⟨i,rfl⟩ : ∃ i:Nat,r=(i:Int):=⟨r.toNat,by omega⟩
  have hi:i < l.length:=by omega
  show ∃ r_ a'_ b'_,(if 0≤(i:Int) then if (i:Int) < (l.length:Int) then some (rd l i,a',b') else none else none)=some (r_,a'_,b'_)∧_
  rw [if_pos r0,if_pos (by omega),rd_int hi]
  exact ⟨_,_,_,rfl,List.getElem_mem hi,h2,h3⟩
/-! Lengths of what a cut gives. -/
theorem cut_len (l sep:List UInt8):(Lib.cut l sep).1.length≤l.length∧(Lib.cut l sep).2.1.length≤l.length:=by
  unfold Lib.cut
  split
  · simp only [List.length_take,List.length_drop];omega
  · simp
/-! Locks: which numbers are one, how many codes there are. -/
def lockB (w d:Int):Bool:=decide (1≤w) && decide (w≤6) && decide (2≤d) && decide (d≤10)
def smallB (w d m:Int):Bool:=lockB w d && decide (d ^ w.toNat≤m)
def clueB (w d k a b:Int):Bool:=
  if k=0 then decide (0≤a∧a≤w - 1) && decide (0≤b∧b≤d - 1)
  else if k=1 then decide (0≤a∧a≤60) && (b == 0)
  else if k=2 then decide (0≤a∧a≤d ^ w.toNat - 1) && decide (0≤b∧b≤w)
  else if k=3 then decide (0≤a∧a≤d ^ w.toNat - 1) && decide (0≤b∧b≤60)
  else if k=4 then decide (2≤a∧a≤9) && decide (0≤b∧b≤a - 1)
  else false
theorem lockB_iff {w d:Int} : lockB w d=true ↔ 1≤w∧w≤6∧2≤d∧d≤10:=by
  unfold lockB;simp only [Bool.and_eq_true,decide_eq_true_eq];constructor
  · rintro ⟨⟨⟨a,b⟩,c⟩,e⟩;exact ⟨a,b,c,e⟩
  · rintro ⟨a,b,c,e⟩;exact ⟨⟨⟨a,b⟩,c⟩,e⟩
theorem smallB_iff {w d m:Int} : smallB w d m=true ↔ (1≤w∧w≤6∧2≤d∧d≤10)∧d ^ w.toNat≤m:=by
  unfold smallB;rw [Bool.and_eq_true,lockB_iff,decide_eq_true_eq]
theorem smallB_lock {w d m:Int} (h:smallB w d m=true):lockB w d=true:=(Bool.and_eq_true_iff.mp h).1
theorem pow_one_le {d:Int} (h:1≤d) : ∀ n:Nat,1≤d ^ n
  | 0=>by simp
  | n + 1 => by
    have ih:=pow_one_le h n
    rw [Int.pow_succ]
    calc (1:Int)≤d ^ n:=ih
      _=d ^ n * 1:=by omega
      _≤d ^ n * d:=Int.mul_le_mul_of_nonneg_left h (by omega)
theorem pow_mono {d:Int} (h:1≤d) {m n:Nat} (hmn:m≤n):d ^ m≤d ^ n:=by
  obtain ⟨k,rfl⟩ : ∃ k,n=m + k:=⟨n - m,by omega⟩
  have h1:=pow_one_le h k
  have h2:=pow_one_le h m
  rw [Int.pow_add]
  calc d ^ m=d ^ m * 1:=by omega
    _≤d ^ m * d ^ k:=Int.mul_le_mul_of_nonneg_left h1 (by omega)
theorem pow_base {d e:Int} (h0:0≤d) (h:d≤e) : ∀ n:Nat,d ^ n≤e ^ n
  | 0=>by simp
  | n + 1 => by
    have ih:=pow_base h0 h n
    rw [Int.pow_succ,Int.pow_succ]
    have hn:0≤d ^ n:=Int.pow_nonneg h0
    have hn':0≤e ^ n:=Int.pow_nonneg (by omega)
    exact Int.mul_le_mul ih h h0 hn'
theorem pow_bound {d:Int} {n:Nat} (h1:1≤d) (h2:d≤10) (hn:n≤6):1≤d ^ n∧d ^ n≤1000000:=by
  refine ⟨pow_one_le h1 n,?_⟩
  have a:=pow_base (by omega) h2 n
  have b:(10:Int) ^ n≤10 ^ 6:=pow_mono (by omega) hn
  have c:(10:Int) ^ 6=1000000:=by decide
  omega
theorem count_bound {w d:Int} (h:lockB w d=true):1≤d ^ w.toNat∧d ^ w.toNat≤1000000:=by
  obtain ⟨a,b,c,e⟩:=lockB_iff.mp h
  exact pow_bound (by omega) e (by omega)
/-! Puzzles: which values are one. -/
def puzzleB (w d:Int) (l:List S48):Bool:=smallB w d 125 && decide (l.length≤6) && l.all (fun c=>clueB w d c.f0 c.f1 c.f2)
/-! strconv.Itoa, at numbers of one digit or two: the kit's contract. -/
def decB (n:Int):ByteArray:=⟨(Lib.decDigits n.toNat).toArray⟩
def strconv_Itoa.f (n:Int):Option ByteArray:=if 0≤n∧n < 100 then some (decB n) else none
theorem strconv_Itoa.calls (a0:Int) (r:ByteArray) (w:World) (h:strconv_Itoa.f a0=some r) :
    Calls Tryz.prog 72 #[.int .i64 a0] w fun e w'=>e = .returned (.string r)∧Below w.heap.size w w':=by
  unfold strconv_Itoa.f at h
  by_cases p:0≤a0∧a0 < 100
  · rw [if_pos p] at h
    obtain rfl:=Option.some.inj h
    obtain ⟨n,rfl⟩:=Int.eq_ofNat_of_zero_le p.1
    unfold decB
    rw [Int.toNat_natCast]
    exact Calls.mono (Tryz.strconv_Itoa_small n (by omega) w) (fun e w' hh=>⟨hh.1,hh.2 ▸ Below.refl _ _⟩)
  · rw [if_neg p] at h;cases h
/-! strings.Join, at not too many texts: the kit's contract. -/
def joinB (l:List ByteArray) (sep:ByteArray):ByteArray:=⟨(Lib.join (l.map (·.data.toList)) sep.data.toList).toArray⟩
def strings_Join.f (l:List ByteArray) (sep:ByteArray):Option ByteArray:=if l.length≤1000∧(joinB l sep).size≤1000000 then some (joinB l sep) else none
theorem spot_none {w:World} {ad:Addr} {v:Value} (h:w.cell? ad=some v):ad.spot=none:=by
  unfold World.cell? at h
  split at h
  · split at h
    · cases h
    · rename_i hs
      cases e:ad.spot with
      | none=>rfl
      | some q=>rw [e] at hs;simp at hs
  · cases h
theorem strings_Join.calls (A0:Option Addr) (c0:Nat) (l0:List ByteArray) (a1:ByteArray) (r:ByteArray) (w:World) (Y:Kd.C Kd.string w A0 l0.length l0) (Z:l0.length≤c0) (h:strings_Join.f l0 a1=some r) :
    Calls Tryz.prog 74 #[.slice A0 l0.length c0, .string a1] w fun e w'=>e = .returned (.string r)∧Below w.heap.size w w':=by
  unfold strings_Join.f at h
  by_cases p:l0.length≤1000∧(joinB l0 a1).size≤1000000
  · rw [if_pos p] at h
    obtain rfl:=Option.some.inj h
    cases l0 with
    | nil =>
      refine Calls.mono (Tryz.strings_Join_none A0 c0 a1 w) (fun e w' hh=>⟨?_,hh.2 ▸ Below.refl _ _⟩)
      rw [hh.1];rfl
    | cons x l =>
      obtain ⟨ad,rfl,hx⟩:=Kd.at_string Y 0 (Int.le_refl 0) (by simp)
      have hs:=spot_none hx
      obtain ⟨bk,o,sp⟩:=ad
      have a6:sp=none:=hs
      subst a6
      refine Tryz.strings_Join bk o c0 (x :: l) a1 w (fun j y hy=>?_) ?_ (by omega) Z ?_
      · obtain ⟨hj,rfl⟩:=List.getElem?_eq_some_iff.mp hy
        obtain ⟨a7,e2,J⟩:=Kd.at_string Y (j:Int) (by omega) (by omega)
        cases e2
        rw [Int.toNat_natCast] at J
        have e3:rdOf ByteArray.empty (x :: l) (j:Int)=(x :: l)[j]:=by
          unfold rdOf
          rw [Int.toNat_natCast,List.getD_eq_getElem?_getD,List.getElem?_eq_getElem hj]
          rfl
        rw [e3,show (⟨bk,o,none⟩:Addr).add j=⟨bk,o + j,none⟩ by by_cases h0:j=0 <;> simp [Addr.add,h0]] at J
        exact J
      · exact World.block_lt_of_cell? w _ hx
      · have:=p.2
        have e:(joinB (x :: l) a1).size=(Lib.join ((x :: l).map (·.data.toList)) a1.data.toList).length:=by unfold joinB;simp [ByteArray.size]
        omega
  · rw [if_neg p] at h;cases h
/-! Joined texts, as Lean's lists tell them. -/
theorem joinB_nil (s:ByteArray):joinB [] s=⟨#[]⟩:=by unfold joinB;rfl
theorem joinB_one (x s:ByteArray):joinB [x] s=x:=by
  apply ByteArray.ext
  unfold joinB
  simp [Lib.join_one]
theorem joinTail_snoc (sep:List UInt8) (r:List (List UInt8)) (x:List UInt8):Lib.joinTail sep (r ++ [x])=Lib.joinTail sep r ++ (sep ++ x):=by
  simp [Lib.joinTail]
theorem joinB_snoc (l:List ByteArray) (x s:ByteArray) (h:l≠[]):joinB (l ++ [x]) s=joinB l s ++ s ++ x:=by
  cases l with
  | nil=>exact absurd rfl h
  | cons y r =>
    apply ByteArray.ext
    unfold joinB
    simp only [List.cons_append,List.map_cons,List.map_append,List.map_nil,Lib.join_cons,joinTail_snoc,ByteArray.data_append]
    apply Array.ext'
    simp [List.append_assoc]
theorem lens_le (m:Nat) : ∀ (r:List ByteArray),(∀ x∈r,x.size≤m)→Lib.lens (r.map (·.data.toList))≤m * r.length
  | [],_=>by simp [Lib.lens]
  | y :: r, h => by
    have:=lens_le m r (fun x hx=>h x (List.mem_cons_of_mem _ hx))
    have h1:=h y List.mem_cons_self
    have h2:y.data.toList.length=y.size:=Array.length_toList
    unfold Lib.lens at this ⊢
    rw [List.map_cons,List.map_cons,List.sum_cons,h2,List.length_cons,Nat.mul_succ]
    omega
theorem joinB_size (m:Nat) (s:ByteArray) (l:List ByteArray) (h : ∀ x∈l,x.size≤m):(joinB l s).size≤(m + s.size) * l.length:=by
  cases l with
  | nil=>rw [joinB_nil];exact Nat.zero_le _
  | cons y r =>
    have h1:=h y List.mem_cons_self
    have h3:=lens_le m r (fun x hx=>h x (List.mem_cons_of_mem _ hx))
    have e:(joinB (y :: r) s).size=y.size + (s.size * r.length + Lib.lens (r.map (·.data.toList))):=by
      have e2:(joinB (y :: r) s).size=(Lib.join ((y :: r).map (·.data.toList)) s.data.toList).length:=List.size_toArray
      have e3:s.data.toList.length=s.size:=Array.length_toList
      have e4:y.data.toList.length=y.size:=Array.length_toList
      rw [e2,List.map_cons,Lib.join_cons,List.length_append,Lib.joinTail_length,List.length_map,e3,e4]
    rw [e,List.length_cons,Nat.add_mul,Nat.mul_succ,Nat.mul_succ]
    omega
theorem decB_one {n:Int} (h0:0≤n) (h:n < 10):decB n=strOfNums [wrap64 (48 + n) % 256]:=by
  obtain ⟨n,rfl⟩:=Int.eq_ofNat_of_zero_le h0
  have h2:n < 10:=by omega
  unfold decB
  rw [Int.toNat_natCast]
  unfold Lib.decDigits
  rw [dif_pos h2]
  have key : ∀ m:Fin 10,([UInt8.ofNat (48 + m.val)]:List UInt8)=(strOfNums [wrap64 (48 + (m.val:Int)) % 256]).data.toList:=by decide +kernel
  have:=key ⟨n,h2⟩
  apply ByteArray.ext
  rw [this]
/-! Short words for the steps of a region that draws. -/
def bA (n m:Nat):Array Bool:=((List.range n).map fun i=>m.testBit i).toArray
theorem bc_ {w:World} {g t:Nat} {cs:Array Value} {i:Nat} {v:Option Value} (a:Aside0 (w.heap[g]?=some (.cells cs t (0,0)))) (e:cs[i]?=v):w.cell? ⟨g,i,none⟩=v:=(blk_cell a.out i).trans e
theorem hC_ {P:Prop} (h:P:=by (repeat' apply And.intro);all_goals first | exact bc_ (by with_reducible assumption) rfl | exact bc_ (by assumption) rfl):P:=h
section
variable {P:Program} {ops:Array Oper} {Q:Exit→Act→World→Prop} {md:Region.Mode} {S:World→Prop} {ds:List Nat} {T:Bool×List (List Nat×List Nat)} {B:List Nat} {fuel:Nat} {l:Array Bool} {a a':Act} {w:World} {oi:Oper}
theorem pU_ (HT:Aside0 (rtab md ops=T)) (i:Nat) (N:Option Tmp) (l':Array Bool) {v:Value} (h:wpAnyLast P md ops Q S ds fuel l' a' w)
    (hi:ops[i]?=some oi:=by rfl) (hN:oi.dst=N:=by rfl) (hc:anyT T l.toList l'.toList i=true:=by kernel_rfl) (hQ : ∀ c a w,Q (.panic c) (a.put oi.dst v) w→Q (.panic c) a w:=by exact fun _ _ _ h=>h)
    (hw:Region.wanted oi (yielded ops a.tmps)=true:=by rfl) (hy : ∀ w,(execOp a.eval oi).run P w = .ok (.value v) w:=by (intro w';go_simp;with_reducible rfl)) (ha:a.put N v=a':=by (simp only [Act.put,List.setIfInBounds_toArray,List.set_cons_zero,List.set_cons_succ,i64_w,i32_w];rfl)):wpAnyLast P md ops Q S ds (fuel + 1) l a w:=
  pure_ l' hi hN (any_of HT.out hc) hQ (.inl ⟨hw,hy⟩) ha h
theorem pZ_ (HT:Aside0 (rtab md ops=T)) (i:Nat) (N:Option Tmp) (l':Array Bool) (h:wpAnyLast P md ops Q S ds fuel l' a' w)
    (hi:ops[i]?=some oi:=by rfl) (hN:oi.dst=N:=by rfl) (hc:anyT T l.toList l'.toList i=true:=by kernel_rfl) (hQ : ∀ c a w,Q (.panic c) (a.put oi.dst undef) w→Q (.panic c) a w:=by exact fun _ _ _ h=>h)
    (hw:Region.wanted oi (yielded ops a.tmps)=false:=by rfl) (ha:a.put N undef=a':=by (simp only [Act.put,List.setIfInBounds_toArray,List.set_cons_zero,List.set_cons_succ,i64_w,i32_w];rfl)):wpAnyLast P md ops Q S ds (fuel + 1) l a w:=
  pure_ l' hi hN (any_of HT.out hc) hQ (.inr ⟨hw,rfl⟩) ha h
theorem tK_ (HT:Aside0 (rtab md ops=T)) (HW:Aside0 (waitsOk T.2 B=true)) (hS:S w) (i:Nat) (N:Option Tmp) (l':Array Bool) {v:Value} (h:wpAnyLast P md ops Q S ds fuel l' a' w)
    (hi:ops[i]?=some oi:=by rfl) (hN:oi.dst=N:=by rfl) (hc:takeW T B ds l.toList l'.toList i=true:=by kernel_rfl) (hQ : ∀ c a w,Q (.panic c) (a.put oi.dst v) w→Q (.panic c) a w:=by exact fun _ _ _ h=>h)
    (hw:Region.wanted oi (yielded ops a.tmps)=true:=by rfl) (hy : ∀ w,S w→(execOp a.eval oi).run P w = .ok (.value v) w:=by (intro w' s;repeat (have:=And.left s;replace s:=And.right s);go_simp;with_reducible rfl)) (ha:a.put N v=a':=by (simp only [Act.put,List.setIfInBounds_toArray,List.set_cons_zero,List.set_cons_succ,i64_w,i32_w];rfl)):wpAnyLast P md ops Q S ds (fuel + 1) l a w:=
  take_ l' hi hN (take_ofW HT.out HW.out hc) hQ (.inl ⟨hw,hy⟩) hS ha h
theorem oN_ (HT:Aside0 (rtab md ops=T)) (i:Nat) (N:Option Tmp) (l':Array Bool)
    (h : ∀ K:Act→World→Prop,Shut (∀ a' w',S w'→(S w'→wpAnyLast P md ops Q S ds fuel l' a' w')→K a' w')→if Region.wanted oi (yielded ops a.tmps)=true then Oper.wp P oi a w K Q else K (a.put N undef) w)
    (hi:ops[i]?=some oi:=by rfl) (hN:oi.dst=N:=by rfl) (hc:(readyT T.2 l.toList == [i] && l.toList.set i true == l'.toList)=true:=by kernel_rfl) (hd:i ∉ ds:=by decide):wpAnyLast P md ops Q S ds (fuel + 1) l a w:=
  one_ l' hi hN (one_of HT.out hc) hd h
theorem nN_ (N:Option Tmp) {v:Value} (h:wpAnyLast P md ops Q S ds fuel l a' w) (ha:a.put N v=a':=by (simp only [Act.put,List.setIfInBounds_toArray,List.set_cons_zero,List.set_cons_succ,i64_w,i32_w];rfl)):wpAnyLast P md ops Q S ds fuel l (a.put N v) w:=norm_ ha h
theorem gs_ {N:Option Tmp} {K:Act→World→Prop} {f:FuncId} {fn:Func} {xs:Array Operand} {ts:Array TypeId} (hf:P.funcs[f]?=some fn) (args:Array Value)
    (h : Calls P f args w fun e w' => ∃ v, e = .returned v ∧ K (a.put N v) w') (hname : (fn.name == "runtime.NumGoroutine") = false := by kernel_rfl) (hb : fn.body.isSome = true := by rfl)
    (hw:Region.wanted oi (yielded ops a.tmps)=true:=by rfl) (hN:oi.dst=N:=by rfl) (hop:oi.op = .call { callee:= .value (.func f),args:=xs,argTypes:=ts } :=by rfl)
    (hargs:xs.map a.eval=args:=by (try simp only [List.map_toArray,List.map_cons,List.map_nil]);first | done | rfl | (simp only [List.length_drop,List.length_take];rfl)):if Region.wanted oi (yielded ops a.tmps)=true then Oper.wp P oi a w K Q else K (a.put N undef) w:=
  goes_ hf hname hb args hw hN hop hargs h
end
/-! ### spec_l1Num: function 75 -/
def spec_l1Num.f:Nat→Int→Option (ByteArray)
  | 0,_=>none
  | k + 1,a0=>if a0 < 10 then (some (strOfNums (([(wrap64 (48 + a0)) % 256]:List Int)))) else ((spec_l1Num.f k (wrap64 (Int.tdiv a0 10))).bind fun J=>((some (([(wrap64 (48 + (Int.tmod a0 10))) % 256]:List Int):List Int)).bind fun Y=>(if J.size + (strOfNums Y).size≤9223372036854775807 then (some (J ++ (strOfNums Y))) else (none))))
def spec_l1Num.T3:Bool×List (List Nat×List Nat):=(true,[([],[]),([0],[0]),([1],[1]),([],[]),([3],[3]),([4],[4]),([5],[5]),([6],[6]),([7],[7]),([2,8],[2,8]),([9,2,0,1,2,3,4,5,6,7,8,9],[9])])
def spec_l1Num.B3:List Nat:=[0,1,3,0,8,24,56,120,248,511,1023]
theorem spec_l1Num.tab3:rtab .any (opsOf Tryz.f75 3)=spec_l1Num.T3:=by kernel_rfl
theorem spec_l1Num.bits3:waitsOk spec_l1Num.T3.2 spec_l1Num.B3=true:=by kernel_rfl
set_option maxHeartbeats 8000000 in
set_option maxRecDepth 100000 in
theorem spec_l1Num.calls (k:Nat) : ∀ (a0:Int) (r:ByteArray) (w:World) (h:spec_l1Num.f k a0=some r),
    Calls Tryz.prog 75 #[.int .i64 a0] w fun e w'=>e = .returned (.string r)∧Below w.heap.size w w':=by
  induction k using Nat.strongRecOn with
  | _ k ih =>
  intro a0 r w h
  cases k with
  | zero=>exact absurd h (by simp [spec_l1Num.f])
  | succ k =>
  simp only [spec_l1Num.f] at h;have HB:=amk (Below.refl w.heap.size w);have H:(if a0 < 10 then (some (strOfNums (([(wrap64 (48 + a0)) % 256]:List Int)))) else ((spec_l1Num.f k (wrap64 (Int.tdiv a0 10))).bind fun Y=>((some (([(wrap64 (48 + (Int.tmod a0 10))) % 256]:List Int):List Int)).bind fun Z=>(if Y.size + (strOfNums Z).size≤9223372036854775807 then (some (Y ++ (strOfNums Z))) else (none)))))=some r:=h;clear h;replace H:=iteE H;obtain ⟨ah,H⟩ | ⟨ah,H⟩:=H
  · (try rw [Option.bind_some] at H);generalize aa:(([(wrap64 (48 + a0)) % 256]:List Int))=ai at H;have ab:=amk aa.symm;clear aa;obtain rfl:=Option.some.inj H;go_enter Tryz.func75,Tryz.ntmps75;go_wp2_with (first | ((with_reducible refine gate_dst (N:=8) rfl ?_);refine Kd.R_lit (Kd.int .u8) _ 5 ?hg (N:=8) ?hd (xs:=([(wrap64 (48 + a0)) % 256]:List Int)) (inner:=[.int .u8 ((wrap64 (48 + a0)) % 256)]) (ok:=fun _=>True) (okp:=fun _=>True) ?hr ?hp (fun _ hk=>hk) trivial (Below.refl _ _) (Nat.le_refl _) (by simp) ?_;(case hd=>rfl);(case hg=>rfl);(case hr=>first | (go_simp;done) | (go_simp;rfl));(case hp=>exact (Reps.one (show Kd.M (Kd.int .u8) _ _ _ ((wrap64 (48 + a0)) % 256) [.int .u8 ((wrap64 (48 + a0)) % 256)] from rfl) (Reps.none _ _)));intro aj w3 ac hb hg_ hnew_;clear hg_ hnew_;(first | rw [←ab.out] at ac | (simp only [Int.reduceToNat] at ac;rw [←ab.out] at ac));have af:=amk (Kd.R_lower ac (below_size bB));replace HB:=hB2 HB hb;clear hb ac;have ak:=own_string (P:=Tryz.prog) Tryz.underlying22 Tryz.underlying5 Tryz.underlying9 (Kd.own_of_R af.out)));go_ret;exact ⟨rF_,bB⟩
  · replace H:=bE H;obtain ⟨Y,A6,H⟩:=H;(try rw [Option.bind_some] at H);generalize ae:(([(wrap64 (48 + (Int.tmod a0 10))) % 256]:List Int))=Z at H;have a1:=amk ae.symm;clear ae
    by_cases c7:Y.size + (strOfNums Z).size≤9223372036854775807
    · rw [if_pos c7] at H;have al:=eq_true c7;have am:decide (Y.size + (strOfNums Z).size≤9223372036854775807)=true:=decide_eq_true c7;(try have an:(9223372036854775807 < Y.size + (strOfNums Z).size)=False:=eq_false (Nat.not_lt.2 c7));(try have ap:(9223372036854775807 < Y.size + strOfNums Z.size)=False:=eq_false (by have h9:=Nat.not_lt.2 c7;simp only [ByteArray.size_append] at h9;exact h9));(try have ar:decide (Y.size + strOfNums Z.size≤9223372036854775807)=true:=decide_eq_true (by have h9:=c7;simp only [ByteArray.size_append] at h9;exact h9));obtain rfl:=Option.some.inj H;go_enter Tryz.func75,Tryz.ntmps75;(try go_wp2);replace HB:=amk (bd_ HB.out);refine start_ (n:=11) (S:=fun w'=>True) (ds:=[]) (bA 11 0) (by kernel_rfl) rfl rfl trivial (fun hHeld=>?_);refine with_tabW spec_l1Num.tab3 spec_l1Num.bits3 (fun HT_ HW_=>?_);generalize w.drew=w8 at HB hHeld ⊢;refine pU_ HT_ 0 (some 10) (bA 11 1) ?_;refine pU_ HT_ 1 (some 11) (bA 11 3) ?_;refine pU_ HT_ 3 (some 13) (bA 11 11) ?_;refine pU_ HT_ 4 (some 14) (bA 11 27) ?_;refine pU_ HT_ 5 (some 15) (bA 11 59) ?_;refine pU_ HT_ 6 (some 16) (bA 11 123) ?_;refine join_ (σ:=Value) 2 (bA 11 511) (fun s_=> [(12, .string Y),(17,s_),(18, .string (strOfNums Z))]) (fun s_ w'=>(Kd.R (Kd.int .u8) 5 w' w.heap.size (fun _=>True) s_ Z)∧(Below w.heap.size w w')) ?_ ?_;rotate_left
      · intro hCont;refine two_ (i:=2) (j:=7) (Ni:=some 12) (Nj:=some 17) (bA 11 127) (bA 11 251) rfl rfl rfl rfl (two_of HT_.out (by kernel_rfl)) (by decide) (by decide) (fun K hK=>?_) (fun K hK=>?_)
        · skip
          refine goes_ Tryz.func75 (by kernel_rfl) rfl #[.int .i64 (wrap64 (Int.tdiv a0 10))] (by rfl) rfl rfl gL_ ?_;(with_reducible refine (ih k (by omega) (wrap64 (Int.tdiv a0 10)) Y _ A6.out).mono ?_);rintro e w9 ⟨rfl,hb⟩;refine ⟨_,rfl,?_⟩;replace HB:=hB2 HB hb;(try clear hb);refine hK.out _ _ trivial (fun hHeld=>?_);clear hK K;refine nN_ (some 12) ?_;refine oN_ HT_ 7 (some 17) (bA 11 255) (fun K hK=>?_);refine Kd.R_lit_step (Kd.int .u8) _ 5 ?hg (N:=17) ?hd (xs:=([(wrap64 (48 + (Int.tmod a0 10))) % 256]:List Int)) (inner:=[.int .u8 ((wrap64 (48 + (Int.tmod a0 10))) % 256)]) (ok:=fun _=>True) (okp:=fun _=>True) ?hr ?hp (fun _ hk=>hk) trivial (Below.refl _ _) (Nat.le_refl _) (by simp) ?_;(case hd=>rfl);(case hg=>rfl);(case hr=>first | (go_simp;done) | (go_simp;rfl));(case hp=>exact (Reps.one (show Kd.M (Kd.int .u8) _ _ _ ((wrap64 (48 + (Int.tmod a0 10))) % 256) [.int .u8 ((wrap64 (48 + (Int.tmod a0 10))) % 256)] from rfl) (Reps.none _ _)));intro v139 au a6 hb hg_ hnew_;clear hg_ hnew_;(first | rw [←a1.out] at a6 | (simp only [Int.reduceToNat] at a6;rw [←a1.out] at a6));have J:=amk (Kd.R_lower a6 (below_size bB));replace HB:=hB2 HB hb;clear hb a6;refine hK.out _ _ trivial (fun hHeld=>?_);clear hK K;refine nN_ (some 17) ?_;refine oN_ HT_ 8 (some 18) (bA 11 511) (fun K hK=>?_);have a8:=own_string (P:=Tryz.prog) Tryz.underlying22 Tryz.underlying5 Tryz.underlying9 (Kd.own_of_R J.out);refine value_ (w1:=?_) (v:=?_) (by rfl) rfl ?_ ?_;rotate_left 2
          · go_simp
            constructor
            · rfl
            · rfl
          clear a8;refine hK.out _ _ trivial (fun hHeld=>?_);clear hK K;refine nN_ (some 18) ?_;exact norm_ (by simp only [putAll,Act.put,List.setIfInBounds_toArray,List.set_cons_zero,List.set_cons_succ]) (hCont (v139) _ ⟨(oX J),bB⟩)
        · skip
          refine Kd.R_lit_step (Kd.int .u8) _ 5 ?hg (N:=17) ?hd (xs:=([(wrap64 (48 + (Int.tmod a0 10))) % 256]:List Int)) (inner:=[.int .u8 ((wrap64 (48 + (Int.tmod a0 10))) % 256)]) (ok:=fun _=>True) (okp:=fun _=>True) ?hr ?hp (fun _ hk=>hk) trivial (Below.refl _ _) (Nat.le_refl _) (by simp) ?_;(case hd=>rfl);(case hg=>rfl);(case hr=>first | (go_simp;done) | (go_simp;rfl));(case hp=>exact (Reps.one (show Kd.M (Kd.int .u8) _ _ _ ((wrap64 (48 + (Int.tmod a0 10))) % 256) [.int .u8 ((wrap64 (48 + (Int.tmod a0 10))) % 256)] from rfl) (Reps.none _ _)));intro v139 w9 a7 hb hg_ hnew_;clear hg_ hnew_;(first | rw [←a1.out] at a7 | (simp only [Int.reduceToNat] at a7;rw [←a1.out] at a7));have J:=amk (Kd.R_lower a7 (below_size bB));replace HB:=hB2 HB hb;clear hb a7;refine hK.out _ _ trivial (fun hHeld=>?_);clear hK K;refine nN_ (some 17) ?_;refine two_ (i:=2) (j:=8) (Ni:=some 12) (Nj:=some 18) (bA 11 255) (bA 11 507) rfl rfl rfl rfl (two_of HT_.out (by kernel_rfl)) (by decide) (by decide) (fun K hK=>?_) (fun K hK=>?_)
          · skip
            refine goes_ Tryz.func75 (by kernel_rfl) rfl #[.int .i64 (wrap64 (Int.tdiv a0 10))] (by rfl) rfl rfl gL_ ?_;(with_reducible refine (ih k (by omega) (wrap64 (Int.tdiv a0 10)) Y _ A6.out).mono ?_);rintro e av ⟨rfl,hb⟩;refine ⟨_,rfl,?_⟩;replace J:=amk (Kd.R_below (oX J) hb);replace HB:=hB2 HB hb;(try clear hb);refine hK.out _ _ trivial (fun hHeld=>?_);clear hK K;refine nN_ (some 12) ?_;refine oN_ HT_ 8 (some 18) (bA 11 511) (fun K hK=>?_);have a8:=own_string (P:=Tryz.prog) Tryz.underlying22 Tryz.underlying5 Tryz.underlying9 (Kd.own_of_R J.out);refine value_ (w1:=?_) (v:=?_) (by rfl) rfl ?_ ?_;rotate_left 2
            · go_simp
              constructor
              · rfl
              · rfl
            clear a8;refine hK.out _ _ trivial (fun hHeld=>?_);clear hK K;refine nN_ (some 18) ?_;exact norm_ (by simp only [putAll,Act.put,List.setIfInBounds_toArray,List.set_cons_zero,List.set_cons_succ]) (hCont (v139) _ ⟨(oX J),bB⟩)
          · skip
            have ag:=own_string (P:=Tryz.prog) Tryz.underlying22 Tryz.underlying5 Tryz.underlying9 (Kd.own_of_R J.out);refine value_ (w1:=?_) (v:=?_) (by rfl) rfl ?_ ?_;rotate_left 2
            · go_simp
              constructor
              · rfl
              · rfl
            clear ag;refine hK.out _ _ trivial (fun hHeld=>?_);clear hK K;refine nN_ (some 18) ?_;refine oN_ HT_ 2 (some 12) (bA 11 511) (fun K hK=>?_);refine goes_ Tryz.func75 (by kernel_rfl) rfl #[.int .i64 (wrap64 (Int.tdiv a0 10))] (by rfl) rfl rfl gL_ ?_;(with_reducible refine (ih k (by omega) (wrap64 (Int.tdiv a0 10)) Y _ A6.out).mono ?_);rintro e ax ⟨rfl,hb⟩;refine ⟨_,rfl,?_⟩;replace J:=amk (Kd.R_below (oX J) hb);replace HB:=hB2 HB hb;(try clear hb);refine hK.out _ _ trivial (fun hHeld=>?_);clear hK K;refine nN_ (some 12) ?_;exact norm_ (by simp only [putAll,Act.put,List.setIfInBounds_toArray,List.set_cons_zero,List.set_cons_succ]) (hCont (v139) _ ⟨(oX J),bB⟩)
      rintro v139 ay ⟨h0_,h1_⟩;have J:=amk h0_;replace HB:=amk h1_;clear h0_ h1_;have hHeld:=trivial;refine norm_ (a':=?_) ?_ ?_;rotate_left
      · simp only [putAll,Act.put,List.setIfInBounds_toArray,List.set_cons_zero,List.set_cons_succ]
        rfl
      refine pU_ HT_ 9 (some 19) (bA 11 1023) ?_;refine pU_ HT_ 10 (some 2) (bA 11 2047) ?_;refine done_ (done_of HT_.out (by kernel_rfl)) ?_;(try go_wp2);go_ret;exact ⟨rF_,bB⟩
    · rw [if_neg c7] at H;exact absurd H (by simp)
/-! spec's numbers of one digit. -/
theorem spec_l1Num.one {x:Int} (h:x < 10):Ev (fun k=>spec_l1Num.f k x) (strOfNums [wrap64 (48 + x) % 256]):=
  Ev.step (fun k=>rfl) (Ev.yes h (Ev.now _))
/-! spec's numbers of up to three digits. -/
theorem decB_step {n:Nat} (h:10≤n):decB (n:Int)=decB ((n / 10:Nat):Int) ++ strOfNums [wrap64 (48 + ((n % 10:Nat):Int)) % 256]:=by
  rw [←decB_one (n:=((n % 10:Nat):Int)) (by omega) (by omega)]
  unfold decB
  rw [Int.toNat_natCast,Int.toNat_natCast,Int.toNat_natCast]
  rw [Lib.decDigits,dif_neg (by omega)]
  have e:Lib.decDigits (n % 10)=[UInt8.ofNat (48 + n % 10)]:=by rw [Lib.decDigits,dif_pos (by omega)]
  rw [e]
  apply ByteArray.ext
  simp only [ByteArray.data_append]
  apply Array.ext'
  simp
theorem decB_size1 {n:Nat} (h:n < 10):(decB (n:Int)).size=1:=by
  rw [decB_one (by omega) (by omega),strOfNums_size];rfl
theorem decB_size2 {n:Nat} (h:n < 100):(decB (n:Int)).size≤2:=by
  by_cases h1:n < 10
  · rw [decB_size1 h1];omega
  · rw [decB_step (by omega),ByteArray.size_append,decB_size1 (by omega),strOfNums_size];simp
theorem decB_size3 {n:Nat} (h:n < 1000):(decB (n:Int)).size≤3:=by
  by_cases h1:n < 10
  · rw [decB_size1 h1];omega
  · have:=decB_size2 (n:=n / 10) (by omega)
    rw [decB_step (by omega),ByteArray.size_append,strOfNums_size]
    simp only [List.length_cons,List.length_nil]
    omega
theorem decB_size {n:Int} (h0:0≤n) (h:n < 1000):(decB n).size≤3:=by
  obtain ⟨n,rfl⟩:=Int.eq_ofNat_of_zero_le h0
  exact decB_size3 (by omega)
theorem spec_l1Num.lev : ∀ (m n:Nat),n < 10 ^ (m + 1)→n < 1000→Ev (fun k=>spec_l1Num.f k (n:Int)) (decB (n:Int)):=by
  intro m
  induction m with
  | zero =>
    intro n h _
    rw [decB_one (by omega) (by omega)]
    exact spec_l1Num.one (by omega)
  | succ m ih =>
    intro n h h3
    by_cases h1:n < 10
    · rw [decB_one (by omega) (by omega)]
      exact spec_l1Num.one (by omega)
    · have hd:n / 10 < 10 ^ (m + 1):=by
        rw [Nat.pow_succ] at h
        omega
      have hgo:=ih (n / 10) hd (by omega)
      have e1:wrap64 (Int.tdiv (n:Int) 10)=((n / 10:Nat):Int):=by
        rw [Int.tdiv_eq_ediv_of_nonneg (by omega)]
        rw [w64 (by omega) (by omega)]
        omega
      have e2:Int.tmod (n:Int) 10=((n % 10:Nat):Int):=by
        rw [Int.tmod_eq_emod_of_nonneg (by omega)]
        omega
      have hs:=decB_size3 (n:=n / 10) (by omega)
      refine Ev.step (fun k=>rfl) (Ev.no (by omega) ?_)
      rw [e1,e2]
      refine Ev.bind hgo (Ev.bindc rfl (Ev.yes ?_ (Ev.id ?_)))
      · rw [strOfNums_size];simp only [List.length_cons,List.length_nil];omega
      · rw [←decB_step (by omega)]
theorem spec_l1Num.ev {n:Int} (h0:0≤n) (h:n < 1000):Ev (fun k=>spec_l1Num.f k n) (decB n):=by
  obtain ⟨n,rfl⟩:=Int.eq_ofNat_of_zero_le h0
  exact spec_l1Num.lev 2 n (by omega) (by omega)
/-! Puzzles as texts. -/
def clueT (c:S48):ByteArray:=decB c.f0 ++ ⟨#[46]⟩ ++ decB c.f1 ++ ⟨#[46]⟩ ++ decB c.f2
def lockT (w d:Int):ByteArray:=decB w ++ ⟨#[120]⟩ ++ decB d
def puzzleT (w d:Int) (l:List S48):ByteArray:=lockT w d ++ ⟨#[58]⟩ ++ joinB (l.map clueT) ⟨#[44]⟩
def TxtClue (c:S48):Prop:=(0≤c.f0∧c.f0 < 1000)∧(0≤c.f1∧c.f1 < 1000)∧(0≤c.f2∧c.f2 < 1000)
theorem clueB_txt {w d k a b:Int} (h:smallB w d 125=true) (hc:clueB w d k a b=true):(0≤k∧k < 1000)∧(0≤a∧a < 1000)∧(0≤b∧b < 1000):=by
  obtain ⟨h1,h2⟩:=smallB_iff.mp h
  unfold clueB at hc
  generalize d ^ w.toNat=q at h2 hc
  split at hc
  · simp only [Bool.and_eq_true,decide_eq_true_eq] at hc;omega
  split at hc
  · simp only [Bool.and_eq_true,decide_eq_true_eq,beq_iff_eq] at hc;omega
  split at hc
  · simp only [Bool.and_eq_true,decide_eq_true_eq] at hc;omega
  split at hc
  · simp only [Bool.and_eq_true,decide_eq_true_eq] at hc;omega
  split at hc
  · simp only [Bool.and_eq_true,decide_eq_true_eq] at hc;omega
  · cases hc
theorem puzzleB_txt {w d:Int} {l:List S48} (h:puzzleB w d l=true):smallB w d 125=true∧l.length≤6∧∀ c∈l,TxtClue c:=by
  unfold puzzleB at h
  rw [Bool.and_eq_true,Bool.and_eq_true,decide_eq_true_eq] at h
  exact ⟨h.1.1,h.1.2,fun c hc=>clueB_txt h.1.1 (List.all_eq_true.mp h.2 c hc)⟩
theorem clueT_size {c:S48} (h:TxtClue c):(clueT c).size≤11:=by
  obtain ⟨h0,h1,h2⟩:=h
  have a:=decB_size h0.1 h0.2
  have b:=decB_size h1.1 h1.2
  have e:=decB_size h2.1 h2.2
  have h1:((⟨#[46]⟩:ByteArray)).size=1:=rfl
  unfold clueT
  rw [ByteArray.size_append,ByteArray.size_append,ByteArray.size_append,ByteArray.size_append]
  omega
theorem clue_joined (l:List S48) (h : ∀ c∈l,TxtClue c) (s:ByteArray) (hs:s.size=1):(joinB (l.map clueT) s).size≤12 * l.length:=by
  have:=joinB_size 11 s (l.map clueT) (fun x hx=>by
    obtain ⟨r,hr,rfl⟩:=List.mem_map.mp hx
    exact clueT_size (h r hr))
  rw [hs,List.length_map] at this
  exact this
theorem lockT_size {w d:Int} (hw:1≤w∧w≤6) (hd:2≤d∧d≤10):(lockT w d).size≤7:=by
  have a:=decB_size (n:=w) (by omega) (by omega)
  have b:=decB_size (n:=d) (by omega) (by omega)
  have h1:((⟨#[120]⟩:ByteArray)).size=1:=rfl
  unfold lockT
  rw [ByteArray.size_append,ByteArray.size_append]
  omega
def pzV (w d:Int) (l:List S48):ByteArray×Bool:=if puzzleB w d l=true then (puzzleT w d l,true) else (⟨#[]⟩,false)
/-! Texts split at a byte: over lists of bytes. -/
def splL (c:UInt8):List UInt8→List (List UInt8)
  | []=> [[]]
  | b :: t=>if b=c then [] :: splL c t else (b :: (splL c t).headD []) :: (splL c t).tail
theorem splL_no {c:UInt8} : ∀ {l:List UInt8},(∀ b∈l,b≠c)→splL c l=[l]
  | [],_=>rfl
  | b :: t, h => by
    have ih:=splL_no (l:=t) (fun x hx=>h x (List.mem_cons_of_mem _ hx))
    show (if b=c then [] :: splL c t else (b :: (splL c t).headD []) :: (splL c t).tail)=_
    rw [if_neg (h b List.mem_cons_self),ih];rfl
theorem splL_app {c:UInt8} {t:List UInt8} : ∀ {l:List UInt8},(∀ b∈l,b≠c)→splL c (l ++ c :: t)=l :: splL c t
  | [], _ => by
    show (if c=c then [] :: splL c t else (c :: (splL c t).headD []) :: (splL c t).tail)=_
    exact if_pos rfl
  | b :: l, h => by
    have ih:=splL_app (t:=t) (l:=l) (fun x hx=>h x (List.mem_cons_of_mem _ hx))
    show (if b=c then [] :: splL c (l ++ c :: t) else (b :: (splL c (l ++ c :: t)).headD []) :: (splL c (l ++ c :: t)).tail)=_
    rw [if_neg (h b List.mem_cons_self),ih];rfl
theorem splL_join {c:UInt8} : ∀ (r:List (List UInt8)) (x:List UInt8),(∀ b∈x,b≠c)→(∀ y∈r,∀ b∈y,b≠c)→splL c (Lib.join (x :: r) [c])=x :: r
  | [], x, h, _ => by
    rw [Lib.join_one];exact splL_no h
  | y :: r, x, h, h2 => by
    have ih:=splL_join r y (h2 y List.mem_cons_self) (fun z hz=>h2 z (List.mem_cons_of_mem _ hz))
    rw [Lib.join_cons] at ih ⊢
    have e:Lib.joinTail [c] (y :: r)=c :: (y ++ Lib.joinTail [c] r):=by simp [Lib.joinTail]
    rw [e,splL_app h,ih]
theorem index_one (c:UInt8) : ∀ (l:List UInt8),(Lib.index l [c] = -1∧∀ b∈l,b≠c)∨∃ p t,l=p ++ c :: t∧(∀ b∈p,b≠c)∧Lib.index l [c]=(p.length:Int)
  | []=> .inl ⟨rfl,fun b hb=>absurd hb (by simp)⟩
  | b :: l => by
    have e:Lib.index (b :: l) [c]=if ([c].isPrefixOf (b :: l))=true then 0 else if (Lib.index l [c] == -1)=true then -1 else Lib.index l [c] + 1:=rfl
    have e2:[c].isPrefixOf (b :: l)=(c == b):=by simp [List.isPrefixOf]
    rw [e,e2]
    by_cases hb:b=c
    · subst hb
      exact .inr ⟨[],l,rfl,fun x hx=>absurd hx (by simp),by rw [if_pos (beq_self_eq_true b)];rfl⟩
    · have hn : ¬ ((c == b)=true):=fun h=>hb (beq_iff_eq.mp h).symm
      rw [if_neg hn]
      rcases index_one c l with ⟨h1,h2⟩ | ⟨p,t,h1,h2,h3⟩
      · refine .inl ⟨by rw [h1];rfl,fun x hx=>?_⟩
        rcases List.mem_cons.mp hx with rfl | hx
        · exact hb
        · exact h2 x hx
      · refine .inr ⟨b :: p,t,by rw [h1];rfl,fun x hx=>?_,?_⟩
        · rcases List.mem_cons.mp hx with rfl | hx
          · exact hb
          · exact h2 x hx
        · rw [h3,if_neg (by intro h;have:=beq_iff_eq.mp h;omega),List.length_cons];omega
theorem cut_one {c:UInt8} {p t:List UInt8} (h : ∀ b∈p,b≠c):Lib.cut (p ++ c :: t) [c]=(p,t,true):=by
  rcases index_one c (p ++ c :: t) with ⟨_,h2⟩ | ⟨p2,t2,h1,h2,h3⟩
  · exact absurd rfl (h2 c (by simp))
  · have hs:=splL_app (t:=t) h
    rw [h1,splL_app h2] at hs
    have hp:p2=p:=(List.cons.inj hs).1
    subst hp
    unfold Lib.cut
    rw [if_pos (by omega),h3,Int.toNat_natCast]
    simp
theorem splitB_spl {c:UInt8} {sep:ByteArray} (hsep:sep.data.toList=[c]) : ∀ (k:Nat) (s:ByteArray),Lib.countB s sep=k→(Lib.splitB sep 0 k s).map (·.data.toList)=splL c s.data.toList:=by
  have hz:sep.size=1:=by rw [Lib.size_eq,hsep];rfl
  have hix : ∀ s:ByteArray,Lib.indexB s sep=Lib.index s.data.toList [c]:=fun s=>by rw [←hsep]
  intro k
  induction k with
  | zero =>
    intro s hk
    rw [Lib.splitB_zero]
    rcases index_one c s.data.toList with ⟨_,h2⟩ | ⟨p,t,_,_,h3⟩
    · rw [splL_no h2];rfl
    · rw [Lib.countB_hit s sep p.length (by omega) ((hix s).trans h3)] at hk;omega
  | succ k ih =>
    intro s hk
    rcases index_one c s.data.toList with ⟨h1,_⟩ | ⟨p,t,h1,h2,h3⟩
    · rw [Lib.countB_miss s sep ((hix s).trans h1)] at hk;omega
    · rw [Lib.countB_hit s sep p.length (by omega) ((hix s).trans h3)] at hk
      rw [Lib.splitB_hit _ _ _ _ p.length ((hix s).trans h3),List.map_cons,ih _ (by omega),Lib.extract_from_zero,Lib.extract_to_end,hz,h1,splL_app h2]
      simp
/-! A clue read out of a list. -/
theorem rd_clue {xs:List S48} {i:Int} (h:i.toNat < xs.length):rd_T48 xs i=xs[i.toNat]:=by unfold rd_T48;exact getD_at h
/-! ### spec_l1In: function 94 -/
def spec_l1In.f (a0:Int) (a1:Int) (a2:Int):Option (Bool):=if a0 ≥ a1 then (some (decide (a0≤a2))) else (some false)
set_option maxHeartbeats 8000000 in
set_option maxRecDepth 100000 in
theorem spec_l1In.calls (a0:Int) (a1:Int) (a2:Int) (r:Bool) (w:World) (h:spec_l1In.f a0 a1 a2=some r) :
    Calls Tryz.prog 94 #[.int .i64 a0, .int .i64 a1, .int .i64 a2] w fun e w'=>e = .returned (.bool r)∧Drawn0 w w':=by
  unfold spec_l1In.f at h;have H:=h;clear h
  by_cases c4:a0 ≥ a1
  · rw [if_pos c4] at H;have J:decide (a1≤a0)=true:=decide_eq_true c4;clear c4;obtain rfl:=Option.some.inj H;go_enter Tryz.func94,Tryz.ntmps94;go_wp2;go_ret;exact ⟨rS_,dR_⟩
  · rw [if_neg c4] at H;have J:decide (a1≤a0)=false:=decide_eq_false c4;clear c4;obtain rfl:=Option.some.inj H;go_enter Tryz.func94,Tryz.ntmps94;go_wp2;go_ret;exact ⟨rS_,dR_⟩
/-! ### spec_whCount: function 95 -/
def spec_whCount.l0:Nat→Int→Int→Int→Int→Option (Int)
  | 0,_,_,_,_=>none
  | k + 1,x3,x4,Y,J=>if x4 > 0 then (spec_whCount.l0 k (wrap64 (x3 * J)) (wrap64 (x4 - 1)) Y J) else (some x3)
def spec_whCount.f (k:Nat) (J:Int) (Y:Int):Option (Int):=spec_whCount.l0 k 1 J J Y
set_option maxHeartbeats 8000000 in
set_option maxRecDepth 100000 in
theorem spec_whCount.calls (k:Nat) (Z:Int) (a1:Int) (r:Int) (w:World) (h:spec_whCount.f k Z a1=some r) :
    Calls Tryz.prog 95 #[.agg #[.int .i64 Z, .int .i64 a1]] w fun e w'=>e = .returned (.int .i64 r)∧Below w.heap.size w w':=by
  have am:=Tryz.underlying25;have HB:=amk (Below.refl w.heap.size w);unfold spec_whCount.f at h;have H:=h;clear h;have H':=amk H;clear H;go_enter Tryz.func95,Tryz.ntmps95;go_wp2_with (first | ((with_reducible refine gate_dst (N:=1) rfl ?_);refine boxE_ HB 1 #[.int .i64 Z, .int .i64 a1] 25 ?_;clear HB;intro ac w2 HB J ak al hb;clear hb;obtain ⟨a7,a8,aa,ab⟩:=cells2 J.out))
  go_loopg [3,4] k (fun kq v3 v4 w'=> ∃ (a6:Int) (Y:Int),v3 = .int .i64 a6∧v4 = .int .i64 Y∧Aside0 (spec_whCount.l0 kq a6 Y Z a1=some r)∧Aside0 (kq≤k)∧Aside0 (w'.heap[ac]?=some (.cells #[.int .i64 Z, .int .i64 a1] 25 (0,0)))∧Aside0 (Below w.heap.size w w'))
  case atStart=>exact ⟨(1),(Z),rS_,rS_,H',⟨Nat.le_refl _⟩,⟨kB J⟩,⟨bB⟩⟩
  case round =>
    clear H';(try clear p2);(try clear a7);(try clear a8);(try clear aa);(try clear ab);obtain ⟨a6,Y,rfl,rfl,HA,ae,J,HB⟩:=hrel
    cases gk with
    | zero=>exact absurd HA.out (by simp [spec_whCount.l0])
    | succ k1 =>
      have H:=HA.out;clear HA;simp only [spec_whCount.l0] at H
      by_cases c4:Y > 0
      · rw [if_pos c4] at H;have af:decide (0 < Y)=true:=decide_eq_true c4;clear c4;have H':=amk H;clear H;obtain ⟨ag,ah,ai,aj⟩:=cells2 J.out;go_wp2;go_roundg k1
        case measure=>have:=ae.out;omega
        case rel=>exact ⟨(wrap64 (a6 * a1)),(wrap64 (Y - 1)),rS_,rS_,H',⟨by have:=ae.out;omega⟩,⟨kB J⟩,⟨bB⟩⟩
      · rw [if_neg c4] at H;have af:decide (0 < Y)=false:=decide_eq_false c4;clear c4;obtain rfl:=Option.some.inj H;go_wp2;go_ret;exact ⟨rF_,bB⟩
/-! ### spec_whGood: function 122 -/
def spec_whGood.f (J:Int) (Y:Int):Option (Bool):=(spec_l1In.f J 1 6).bind fun Z=>(if Z=true then ((spec_l1In.f Y 2 10).bind fun a1=>(some a1)) else (some false))
set_option maxHeartbeats 8000000 in
set_option maxRecDepth 100000 in
theorem spec_whGood.calls (J:Int) (Y:Int) (r:Bool) (w:World) (h:spec_whGood.f J Y=some r) :
    Calls Tryz.prog 122 #[.agg #[.int .i64 J, .int .i64 Y]] w fun e w'=>e = .returned (.bool r)∧Below w.heap.size w w':=by
  have aj:=Tryz.underlying25;have HB:=amk (Below.refl w.heap.size w);unfold spec_whGood.f at h;have H:=h;clear h;replace H:=bE H;obtain ⟨ak,A2,H⟩:=H;replace H:=iteB H;obtain ⟨rfl,H⟩ | ⟨rfl,H⟩:=H
  · replace H:=bE H;obtain ⟨a8,A4,H⟩:=H;obtain rfl:=Option.some.inj H;go_enter Tryz.func122,Tryz.ntmps122;go_wp2_with (first | ((with_reducible refine gate_dst (N:=1) rfl ?_);refine boxE_ HB 1 #[.int .i64 J, .int .i64 Y] 25 ?_;clear HB;intro a1 w5 HB Z a6 a7 hb;clear hb;obtain ⟨aa,ab,ac,ae⟩:=cells2 Z.out) | ((with_reducible refine gate_callee (f:=94) rfl ?_);refine goesL_ (some 5) rfl rfl Tryz.func94 (by kernel_rfl) rfl #[.int .i64 J, .int .i64 1, .int .i64 6] rfl gL_ ?_;(with_reducible refine (spec_l1In.calls J 1 6 true _ A2.out).mono ?_);rintro e w' ⟨rfl,⟨nd,rfl⟩⟩;refine ⟨_,rfl,?_⟩) | (go_at_call 94;(with_reducible refine (spec_l1In.calls Y 2 10 a8 _ A4.out).mono ?_);rintro e w' ⟨rfl,⟨nd,rfl⟩⟩));go_ret;exact ⟨rF_,bB⟩
  · obtain rfl:=Option.some.inj H;go_enter Tryz.func122,Tryz.ntmps122;go_wp2_with (first | ((with_reducible refine gate_dst (N:=1) rfl ?_);refine boxE_ HB 1 #[.int .i64 J, .int .i64 Y] 25 ?_;clear HB;intro a1 w7 HB Z a6 a7 hb;clear hb;obtain ⟨af,ag,ah,ai⟩:=cells2 Z.out) | ((with_reducible refine gate_callee (f:=94) rfl ?_);refine goesL_ (some 5) rfl rfl Tryz.func94 (by kernel_rfl) rfl #[.int .i64 J, .int .i64 1, .int .i64 6] rfl gL_ ?_;(with_reducible refine (spec_l1In.calls J 1 6 false _ A2.out).mono ?_);rintro e w' ⟨rfl,⟨nd,rfl⟩⟩;refine ⟨_,rfl,?_⟩));go_ret;exact ⟨rF_,bB⟩
/-! spec's functions on locks and clues: what they come to. -/
theorem spec_l1In.is (a b c:Int):spec_l1In.f a b c=some (decide (b≤a∧a≤c)):=by
  unfold spec_l1In.f
  by_cases h:a ≥ b
  · rw [if_pos h];have h':b≤a:=h;congr 1;simp [h']
  · rw [if_neg h];have h' : ¬ b≤a:=h;congr 1;simp [h']
theorem spec_whGood.is (w d:Int):spec_whGood.f w d=some (lockB w d):=by
  unfold spec_whGood.f lockB
  simp only [spec_l1In.is,Option.bind_some]
  by_cases h:1≤w∧w≤6 <;> simp [h]
theorem spec_whCount.lev (w d:Int) (h1:1≤d) (h2:d≤10) (hn:w≤6) : ∀ (j:Nat) (i:Int),0≤i→i≤w→i=j→Ev (fun k=>spec_whCount.l0 k (d ^ (w - i).toNat) i w d) (d ^ w.toNat):=by
  intro j
  induction j with
  | zero =>
    intro i h0 hi hj
    obtain rfl:i=0:=by omega
    exact Ev.step (fun k=>rfl) (Ev.no (by omega) (Ev.id (by simp)))
  | succ j ih =>
    intro i h0 hi hj
    refine Ev.step (fun k=>rfl) (Ev.yes (by omega) ?_)
    have hb:=pow_bound h1 h2 (n:=(w - i).toNat) (by omega)
    have hm:d ^ (w - i).toNat * d=d ^ (w - (i - 1)).toNat:=by rw [show (w - (i - 1)).toNat=(w - i).toNat + 1 by omega,Int.pow_succ]
    have hb':=pow_bound h1 h2 (n:=(w - (i - 1)).toNat) (by omega)
    rw [w64 (x:=i - 1) (by omega) (by omega),hm,w64 (x:=d ^ (w - (i - 1)).toNat) (by omega) (by omega)]
    exact ih (i - 1) (by omega) (by omega) (by omega)
theorem spec_whCount.ev {w d:Int} (h:lockB w d=true):Ev (fun k=>spec_whCount.f k w d) (d ^ w.toNat):=by
  obtain ⟨a,b,c,e⟩:=lockB_iff.mp h
  have:=spec_whCount.lev w d (by omega) e b w.toNat w (by omega) (by omega) (by omega)
  unfold spec_whCount.f
  simpa using this
/-! ### spec_hiLock: function 93 -/
def spec_hiLock.f (k:Nat) (J:Int) (Y:Int) (a1:Int):Option (Bool):=(spec_whGood.f J Y).bind fun Z=>(if Z=true then ((spec_whCount.f k J Y).bind fun t208=>(some (decide (t208≤a1)))) else (some false))
set_option maxHeartbeats 8000000 in
set_option maxRecDepth 100000 in
theorem spec_hiLock.calls (k:Nat) (Y:Int) (Z:Int) (a1:Int) (r:Bool) (w:World) (h:spec_hiLock.f k Y Z a1=some r) :
    Calls Tryz.prog 93 #[.agg #[.int .i64 Y, .int .i64 Z], .int .i64 a1] w fun e w'=>e = .returned (.bool r)∧Below w.heap.size w w':=by
  have an:=Tryz.underlying25;have HB:=amk (Below.refl w.heap.size w);unfold spec_hiLock.f at h;have H:=h;clear h;replace H:=bE H;obtain ⟨ap,A3,H⟩:=H;replace H:=iteB H;obtain ⟨rfl,H⟩ | ⟨rfl,H⟩:=H
  · replace H:=bE H;obtain ⟨t208,A5,H⟩:=H;obtain rfl:=Option.some.inj H;go_enter Tryz.func93,Tryz.ntmps93;go_wp2_with (first | ((with_reducible refine gate_dst (N:=2) rfl ?_);refine boxE_ HB 2 #[.int .i64 Y, .int .i64 Z] 25 ?_;clear HB;intro a6 w6 HB J a7 a8 hb;clear hb;obtain ⟨af,ag,ah,ai⟩:=cells2 J.out) | ((with_reducible refine gate_callee (f:=122) rfl ?_);refine goesL_ (some 6) rfl rfl Tryz.func122 (by kernel_rfl) rfl #[.agg #[.int .i64 Y, .int .i64 Z]] rfl gL_ ?_;(with_reducible refine (spec_whGood.calls Y Z true _ A3.out).mono ?_);rintro e w8 ⟨rfl,hb⟩;refine ⟨_,rfl,?_⟩;replace J:=kb2 J hb;replace HB:=hB2 HB hb;(try clear hb);obtain ⟨aj,ak,al,am⟩:=cells2 J.out) | (go_at_call 95;(with_reducible refine (spec_whCount.calls k Y Z t208 _ A5.out).mono ?_);rintro e ar ⟨rfl,hb⟩;replace J:=kb2 J hb;replace HB:=hB2 HB hb;(try clear hb)));go_ret;exact ⟨rF_,bB⟩
  · obtain rfl:=Option.some.inj H;go_enter Tryz.func93,Tryz.ntmps93;go_wp2_with (first | ((with_reducible refine gate_dst (N:=2) rfl ?_);refine boxE_ HB 2 #[.int .i64 Y, .int .i64 Z] 25 ?_;clear HB;intro a6 au HB J a7 a8 hb;clear hb;obtain ⟨aa,ab,ac,ae⟩:=cells2 J.out) | ((with_reducible refine gate_callee (f:=122) rfl ?_);refine goesL_ (some 6) rfl rfl Tryz.func122 (by kernel_rfl) rfl #[.agg #[.int .i64 Y, .int .i64 Z]] rfl gL_ ?_;(with_reducible refine (spec_whGood.calls Y Z false _ A3.out).mono ?_);rintro e av ⟨rfl,hb⟩;refine ⟨_,rfl,?_⟩;replace J:=kb2 J hb;replace HB:=hB2 HB hb;(try clear hb)));go_ret;exact ⟨rF_,bB⟩
/-! spec's locks of hints: what they come to. -/
theorem spec_hiLock.ev (w d m:Int):Ev (fun k=>spec_hiLock.f k w d m) (smallB w d m):=by
  unfold spec_hiLock.f smallB
  refine Ev.bindc (spec_whGood.is w d) ?_
  cases h:lockB w d with
  | true=>exact Ev.yes rfl (Ev.bind (spec_whCount.ev h) (Ev.id (by simp)))
  | false=>exact Ev.no (by simp) (Ev.id (by simp))
/-! ### spec_pzClue: function 66 -/
def spec_pzClue.f (k:Nat) (a1:Int) (a6:Int) (Y:Int) (J:Int) (Z:Int):Option (Bool):=if Y=0 then ((spec_l1In.f J 0 (wrap64 (a1 - 1))).bind fun t213=>(if t213=true then ((spec_l1In.f Z 0 (wrap64 (a6 - 1))).bind fun a7=>(some a7)) else (some false))) else (if Y=1 then ((spec_l1In.f J 0 60).bind fun a8=>(if a8=true then (some (Z == 0)) else (some false))) else (if Y=2 then ((spec_whCount.f k a1 a6).bind fun aa=>((spec_l1In.f J 0 (wrap64 (aa - 1))).bind fun ab=>(if ab=true then ((spec_l1In.f Z 0 a1).bind fun t218=>(some t218)) else (some false)))) else (if Y=3 then ((spec_whCount.f k a1 a6).bind fun ac=>((spec_l1In.f J 0 (wrap64 (ac - 1))).bind fun ae=>(if ae=true then ((spec_l1In.f Z 0 60).bind fun af=>(some af)) else (some false)))) else (if Y=4 then ((spec_l1In.f J 2 9).bind fun t222=>(if t222=true then ((spec_l1In.f Z 0 (wrap64 (J - 1))).bind fun ag=>(some ag)) else (some false))) else (some false)))))
def spec_pzClue.T7:Bool×List (List Nat×List Nat):=(true,[([],[]),([0],[0]),([],[]),([2],[2]),([3],[3]),([1,4,3],[1,4]),([5,5],[5]),([6],[6]),([7,6],[6,7]),([6],[6]),([9,6],[6,9]),([8,10,6,6],[6,8,10]),([6,11],[6,11]),([12,11,0,1,2,3,4,5,6,7,8,9,10,11,12],[12])])
def spec_pzClue.B7:List Nat:=[0,1,0,4,12,31,63,127,255,127,639,2047,4095,8191]
theorem spec_pzClue.tab7:rtab .any (opsOf Tryz.f66 7)=spec_pzClue.T7:=by kernel_rfl
theorem spec_pzClue.bits7:waitsOk spec_pzClue.T7.2 spec_pzClue.B7=true:=by kernel_rfl
def spec_pzClue.T9:Bool×List (List Nat×List Nat):=(true,[([],[]),([0],[0]),([],[]),([2],[2]),([3],[3]),([1,4,3],[1,4]),([5,5],[5]),([6],[6]),([7,6],[6,7]),([8,6,6],[6,8]),([6,9],[6,9]),([10,9,0,1,2,3,4,5,6,7,8,9,10],[10])])
def spec_pzClue.B9:List Nat:=[0,1,0,4,12,31,63,127,255,511,1023,2047]
theorem spec_pzClue.tab9:rtab .any (opsOf Tryz.f66 9)=spec_pzClue.T9:=by kernel_rfl
theorem spec_pzClue.bits9:waitsOk spec_pzClue.T9.2 spec_pzClue.B9=true:=by kernel_rfl
set_option maxHeartbeats 8000000 in
set_option maxRecDepth 100000 in
theorem spec_pzClue.calls (k:Nat) (a8:Int) (ab:Int) (a6:Int) (a7:Int) (ae:Int) (r:Bool) (w:World) (h:spec_pzClue.f k a8 ab a6 a7 ae=some r) :
    Calls Tryz.prog 66 #[.agg #[.int .i64 a8, .int .i64 ab], .agg #[.int .i64 a6, .int .i64 a7, .int .i64 ae]] w fun e w'=>e = .returned (.bool r)∧Below w.heap.size w w':=by
  have cY:=Tryz.underlying25;have cZ:=Tryz.underlying48;have HB:=amk (Below.refl w.heap.size w);unfold spec_pzClue.f at h;have H:=h;clear h
  by_cases c3:a6=0
  · rw [if_pos c3] at H;have ay:(a6 == 0)=true:=beq_iff_eq.mpr c3;have az:(a6 != 0)=false:=bne_eq_false_iff_eq.mpr c3;clear c3;replace H:=bE H;obtain ⟨t213,A4,H⟩:=H;replace H:=iteB H;obtain ⟨rfl,H⟩ | ⟨rfl,H⟩:=H
    · replace H:=bE H;obtain ⟨aA,A6,H⟩:=H;obtain rfl:=Option.some.inj H;go_enter Tryz.func66,Tryz.ntmps66;go_wp2_with (first | ((with_reducible refine gate_dst (N:=2) rfl ?_);refine boxE_ HB 2 #[.int .i64 a8, .int .i64 ab] 25 ?_;clear HB;intro ac w7 HB J af ag hb;clear hb) | ((with_reducible refine gate_dst (N:=3) rfl ?_);refine boxG_ 3 #[.int .i64 a6, .int .i64 a7, .int .i64 ae] 48 ?_;intro aa w8 hg Y hb;have ah:=sZ HB hg;have ai:=sZ HB hg;replace HB:=hB2 HB hb;have Z:=neL J hg;have a1:=neR J hg;replace J:=kb2 J hb;clear hb hg;have d5:=a1.out;have d6:=Z.out;obtain ⟨aC,aD,aE,aG,aH,aI⟩:=cells3 Y.out;obtain ⟨aJ,aK,aM,aN⟩:=cells2 J.out) | ((with_reducible refine gate_callee (f:=94) rfl ?_);refine goesL_ (some 14) rfl rfl Tryz.func94 (by kernel_rfl) rfl #[.int .i64 a7, .int .i64 0, .int .i64 (wrap64 (a8 - 1))] rfl gL_ ?_;(with_reducible refine (spec_l1In.calls a7 0 (wrap64 (a8 - 1)) true _ A4.out).mono ?_);rintro e w' ⟨rfl,⟨nd,rfl⟩⟩;refine ⟨_,rfl,?_⟩) | (go_at_call 94;(with_reducible refine (spec_l1In.calls ae 0 (wrap64 (ab - 1)) aA _ A6.out).mono ?_);rintro e w' ⟨rfl,⟨nd,rfl⟩⟩));go_ret;exact ⟨rF_,bB⟩
    · obtain rfl:=Option.some.inj H;go_enter Tryz.func66,Tryz.ntmps66;go_wp2_with (first | ((with_reducible refine gate_dst (N:=2) rfl ?_);refine boxE_ HB 2 #[.int .i64 a8, .int .i64 ab] 25 ?_;clear HB;intro ac da HB J af ag hb;clear hb) | ((with_reducible refine gate_dst (N:=3) rfl ?_);refine boxG_ 3 #[.int .i64 a6, .int .i64 a7, .int .i64 ae] 48 ?_;intro aa db hg Y hb;have ah:=sZ HB hg;have ai:=sZ HB hg;replace HB:=hB2 HB hb;have Z:=neL J hg;have a1:=neR J hg;replace J:=kb2 J hb;clear hb hg;have cq:=a1.out;have cr:=Z.out;obtain ⟨aQ,aT,aU,aV,aW,aX⟩:=cells3 Y.out;obtain ⟨aY,aZ,b3,b4⟩:=cells2 J.out) | ((with_reducible refine gate_callee (f:=94) rfl ?_);refine goesL_ (some 14) rfl rfl Tryz.func94 (by kernel_rfl) rfl #[.int .i64 a7, .int .i64 0, .int .i64 (wrap64 (a8 - 1))] rfl gL_ ?_;(with_reducible refine (spec_l1In.calls a7 0 (wrap64 (a8 - 1)) false _ A4.out).mono ?_);rintro e w' ⟨rfl,⟨nd,rfl⟩⟩;refine ⟨_,rfl,?_⟩));go_ret;exact ⟨rF_,bB⟩
  · rw [if_neg c3] at H;have ay:(a6 == 0)=false:=beq_eq_false_iff_ne.mpr c3;have az:(a6 != 0)=true:=bne_iff_ne.mpr c3
    by_cases c17:a6=1
    · rw [if_pos c17] at H;have al:(a6 == 1)=true:=beq_iff_eq.mpr c17;have am:(a6 != 1)=false:=bne_eq_false_iff_eq.mpr c17;clear c17;replace H:=bE H;obtain ⟨d7,b5,H⟩:=H;replace H:=iteB H;obtain ⟨rfl,H⟩ | ⟨rfl,H⟩:=H
      · obtain rfl:=Option.some.inj H;go_enter Tryz.func66,Tryz.ntmps66;go_wp2_with (first | ((with_reducible refine gate_dst (N:=2) rfl ?_);refine boxE_ HB 2 #[.int .i64 a8, .int .i64 ab] 25 ?_;clear HB;intro ac dc HB J af ag hb;clear hb) | ((with_reducible refine gate_dst (N:=3) rfl ?_);refine boxG_ 3 #[.int .i64 a6, .int .i64 a7, .int .i64 ae] 48 ?_;intro aa de hg Y hb;have ah:=sZ HB hg;have ai:=sZ HB hg;replace HB:=hB2 HB hb;have Z:=neL J hg;have a1:=neR J hg;replace J:=kb2 J hb;clear hb hg;have cu:=a1.out;have cv:=Z.out;obtain ⟨b6,b7,b8,b9,ba,bb⟩:=cells3 Y.out) | ((with_reducible refine gate_callee (f:=94) rfl ?_);refine goesL_ (some 27) rfl rfl Tryz.func94 (by kernel_rfl) rfl #[.int .i64 a7, .int .i64 0, .int .i64 60] rfl gL_ ?_;(with_reducible refine (spec_l1In.calls a7 0 60 true _ b5.out).mono ?_);rintro e w' ⟨rfl,⟨nd,rfl⟩⟩;refine ⟨_,rfl,?_⟩));go_ret;exact ⟨rF_,bB⟩
      · obtain rfl:=Option.some.inj H;go_enter Tryz.func66,Tryz.ntmps66;go_wp2_with (first | ((with_reducible refine gate_dst (N:=2) rfl ?_);refine boxE_ HB 2 #[.int .i64 a8, .int .i64 ab] 25 ?_;clear HB;intro ac df HB J af ag hb;clear hb) | ((with_reducible refine gate_dst (N:=3) rfl ?_);refine boxG_ 3 #[.int .i64 a6, .int .i64 a7, .int .i64 ae] 48 ?_;intro aa dh hg Y hb;have ah:=sZ HB hg;have ai:=sZ HB hg;replace HB:=hB2 HB hb;have Z:=neL J hg;have a1:=neR J hg;replace J:=kb2 J hb;clear hb hg;have cw:=a1.out;have cx:=Z.out;obtain ⟨bc,bd,be,bf,bg,bh⟩:=cells3 Y.out) | ((with_reducible refine gate_callee (f:=94) rfl ?_);refine goesL_ (some 27) rfl rfl Tryz.func94 (by kernel_rfl) rfl #[.int .i64 a7, .int .i64 0, .int .i64 60] rfl gL_ ?_;(with_reducible refine (spec_l1In.calls a7 0 60 false _ b5.out).mono ?_);rintro e w' ⟨rfl,⟨nd,rfl⟩⟩;refine ⟨_,rfl,?_⟩));go_ret;exact ⟨rF_,bB⟩
    · rw [if_neg c17] at H;have al:(a6 == 1)=false:=beq_eq_false_iff_ne.mpr c17;have am:(a6 != 1)=true:=bne_iff_ne.mpr c17
      by_cases c28:a6=2
      · rw [if_pos c28] at H;have an:(a6 == 2)=true:=beq_iff_eq.mpr c28;have ap:(a6 != 2)=false:=bne_eq_false_iff_eq.mpr c28;clear c28;replace H:=bE H;obtain ⟨aj,bi,H⟩:=H;replace H:=bE H;obtain ⟨d8,bj,H⟩:=H;replace H:=iteB H;obtain ⟨rfl,H⟩ | ⟨rfl,H⟩:=H
        · replace H:=bE H;obtain ⟨t218,cy,H⟩:=H;obtain rfl:=Option.some.inj H;go_enter Tryz.func66,Tryz.ntmps66;(try go_wp2_with (first | ((with_reducible refine gate_dst (N:=2) rfl ?_);refine boxE_ HB 2 #[.int .i64 a8, .int .i64 ab] 25 ?_;clear HB;intro ac di HB J af ag hb;clear hb) | ((with_reducible refine gate_dst (N:=3) rfl ?_);refine boxG_ 3 #[.int .i64 a6, .int .i64 a7, .int .i64 ae] 48 ?_;intro aa cz hg Y hb;have ah:=sZ HB hg;have ai:=sZ HB hg;replace HB:=hB2 HB hb;have Z:=neL J hg;have a1:=neR J hg;replace J:=kb2 J hb;clear hb hg;have cA:=a1.out;have cC:=Z.out;obtain ⟨bk,bl,bm,bn,bo,bp⟩:=cells3 Y.out)));replace J:=amk (blk_drew J.out);replace Y:=amk (blk_drew Y.out);replace HB:=amk (bd_ HB.out);refine start_ (n:=14) (S:=fun w'=>w'.cell? ⟨aa,0,none⟩=some (.int .i64 a6)∧w'.cell? ⟨aa,1,none⟩=some (.int .i64 a7)∧w'.cell? ⟨aa,2,none⟩=some (.int .i64 ae)∧w'.cell? ⟨ac,0,none⟩=some (.int .i64 a8)∧w'.cell? ⟨ac,1,none⟩=some (.int .i64 ab)) (ds:=[]) (bA 14 0) (by kernel_rfl) rfl rfl ⟨(blk_cell Y.out 0).trans rfl,(blk_cell Y.out 1).trans rfl,(blk_cell Y.out 2).trans rfl,(blk_cell J.out 0).trans rfl,(blk_cell J.out 1).trans rfl⟩ (fun hHeld=>?_);refine with_tabW spec_pzClue.tab7 spec_pzClue.bits7 (fun HT_ HW_=>?_);generalize cz.drew=dj at J Y HB hHeld ⊢;refine pU_ HT_ 0 (some 35) (bA 14 1) ?_;refine tK_ HT_ HW_ hHeld 1 (some 36) (bA 14 3) ?_;refine tK_ HT_ HW_ hHeld 2 (some 37) (bA 14 7) ?_;refine oN_ HT_ 3 (some 38) (bA 14 15) (fun K hK=>?_);refine goes_ Tryz.func95 (by kernel_rfl) rfl #[.agg #[.int .i64 a8, .int .i64 ab]] (by rfl) rfl rfl gL_ ?_;(with_reducible refine (spec_whCount.calls k a8 ab aj _ bi.out).mono ?_);rintro e dl ⟨rfl,hb⟩;refine ⟨_,rfl,?_⟩;replace J:=kb2 J hb;replace Y:=kb2 Y hb;replace HB:=hB2 HB hb;(try clear hb);refine hK.out _ _ hC_ (fun hHeld=>?_);clear hK K;refine nN_ (some 38) ?_;refine pU_ HT_ 4 (some 39) (bA 14 31) ?_;refine oN_ HT_ 5 (some 40) (bA 14 63) (fun K hK=>?_);refine goes_ Tryz.func94 (by kernel_rfl) rfl #[.int .i64 a7, .int .i64 0, .int .i64 (wrap64 (aj - 1))] (by rfl) rfl rfl gL_ ?_;(with_reducible refine (spec_l1In.calls a7 0 (wrap64 (aj - 1)) true _ bj.out).mono ?_);rintro e w' ⟨rfl,⟨nd,rfl⟩⟩;refine ⟨_,rfl,?_⟩;refine hK.out _ _ hC_ (fun hHeld=>?_);clear hK K;refine nN_ (some 40) ?_;refine pU_ HT_ 6 (some 41) (bA 14 127) ?_;refine pU_ HT_ 7 (some 42) (bA 14 255) ?_;refine pU_ HT_ 9 (some 44) (bA 14 767) ?_;refine tK_ HT_ HW_ hHeld 8 (some 43) (bA 14 1023) ?_;refine tK_ HT_ HW_ hHeld 10 (some 45) (bA 14 2047) ?_;refine oN_ HT_ 11 (some 46) (bA 14 4095) (fun K hK=>?_);refine goes_ Tryz.func94 (by kernel_rfl) rfl #[.int .i64 ae, .int .i64 0, .int .i64 a8] (by rfl) rfl rfl gL_ ?_;(with_reducible refine (spec_l1In.calls ae 0 a8 t218 _ cy.out).mono ?_);rintro e w' ⟨rfl,⟨nd,rfl⟩⟩;refine ⟨_,rfl,?_⟩;refine hK.out _ _ hC_ (fun hHeld=>?_);clear hK K;refine nN_ (some 46) ?_;refine pU_ HT_ 12 (some 47) (bA 14 8191) ?_;refine pU_ HT_ 13 (some 4) (bA 14 16383) ?_;refine done_ (done_of HT_.out (by kernel_rfl)) ?_;(try go_wp2);go_ret;exact ⟨rF_,bB⟩
        · obtain rfl:=Option.some.inj H;go_enter Tryz.func66,Tryz.ntmps66;(try go_wp2_with (first | ((with_reducible refine gate_dst (N:=2) rfl ?_);refine boxE_ HB 2 #[.int .i64 a8, .int .i64 ab] 25 ?_;clear HB;intro ac dm HB J af ag hb;clear hb) | ((with_reducible refine gate_dst (N:=3) rfl ?_);refine boxG_ 3 #[.int .i64 a6, .int .i64 a7, .int .i64 ae] 48 ?_;intro aa cE hg Y hb;have ah:=sZ HB hg;have ai:=sZ HB hg;replace HB:=hB2 HB hb;have Z:=neL J hg;have a1:=neR J hg;replace J:=kb2 J hb;clear hb hg;have cF:=a1.out;have cG:=Z.out;obtain ⟨bq,br,bu,bv,bw,bz⟩:=cells3 Y.out)));replace J:=amk (blk_drew J.out);replace Y:=amk (blk_drew Y.out);replace HB:=amk (bd_ HB.out);refine start_ (n:=14) (S:=fun w'=>w'.cell? ⟨aa,0,none⟩=some (.int .i64 a6)∧w'.cell? ⟨aa,1,none⟩=some (.int .i64 a7)∧w'.cell? ⟨aa,2,none⟩=some (.int .i64 ae)∧w'.cell? ⟨ac,0,none⟩=some (.int .i64 a8)∧w'.cell? ⟨ac,1,none⟩=some (.int .i64 ab)) (ds:=[]) (bA 14 0) (by kernel_rfl) rfl rfl ⟨(blk_cell Y.out 0).trans rfl,(blk_cell Y.out 1).trans rfl,(blk_cell Y.out 2).trans rfl,(blk_cell J.out 0).trans rfl,(blk_cell J.out 1).trans rfl⟩ (fun hHeld=>?_);refine with_tabW spec_pzClue.tab7 spec_pzClue.bits7 (fun HT_ HW_=>?_);generalize cE.drew=dn at J Y HB hHeld ⊢;refine pU_ HT_ 0 (some 35) (bA 14 1) ?_;refine tK_ HT_ HW_ hHeld 1 (some 36) (bA 14 3) ?_;refine tK_ HT_ HW_ hHeld 2 (some 37) (bA 14 7) ?_;refine oN_ HT_ 3 (some 38) (bA 14 15) (fun K hK=>?_);refine goes_ Tryz.func95 (by kernel_rfl) rfl #[.agg #[.int .i64 a8, .int .i64 ab]] (by rfl) rfl rfl gL_ ?_;(with_reducible refine (spec_whCount.calls k a8 ab aj _ bi.out).mono ?_);rintro e dp ⟨rfl,hb⟩;refine ⟨_,rfl,?_⟩;replace J:=kb2 J hb;replace Y:=kb2 Y hb;replace HB:=hB2 HB hb;(try clear hb);refine hK.out _ _ hC_ (fun hHeld=>?_);clear hK K;refine nN_ (some 38) ?_;refine pU_ HT_ 4 (some 39) (bA 14 31) ?_;refine oN_ HT_ 5 (some 40) (bA 14 63) (fun K hK=>?_);refine goes_ Tryz.func94 (by kernel_rfl) rfl #[.int .i64 a7, .int .i64 0, .int .i64 (wrap64 (aj - 1))] (by rfl) rfl rfl gL_ ?_;(with_reducible refine (spec_l1In.calls a7 0 (wrap64 (aj - 1)) false _ bj.out).mono ?_);rintro e w' ⟨rfl,⟨nd,rfl⟩⟩;refine ⟨_,rfl,?_⟩;refine hK.out _ _ hC_ (fun hHeld=>?_);clear hK K;refine nN_ (some 40) ?_;refine pU_ HT_ 6 (some 41) (bA 14 127) ?_;refine pZ_ HT_ 7 (some 42) (bA 14 255) ?_;refine pZ_ HT_ 8 (some 43) (bA 14 511) ?_;refine pZ_ HT_ 9 (some 44) (bA 14 1023) ?_;refine pZ_ HT_ 10 (some 45) (bA 14 2047) ?_;refine pZ_ HT_ 11 (some 46) (bA 14 4095) ?_;refine pU_ HT_ 12 (some 47) (bA 14 8191) ?_;refine pU_ HT_ 13 (some 4) (bA 14 16383) ?_;refine done_ (done_of HT_.out (by kernel_rfl)) ?_;(try go_wp2);go_ret;exact ⟨rF_,bB⟩
      · rw [if_neg c28] at H;have an:(a6 == 2)=false:=beq_eq_false_iff_ne.mpr c28;have ap:(a6 != 2)=true:=bne_iff_ne.mpr c28
        by_cases c45:a6=3
        · rw [if_pos c45] at H;have ar:(a6 == 3)=true:=beq_iff_eq.mpr c45;have au:(a6 != 3)=false:=bne_eq_false_iff_eq.mpr c45;clear c45;replace H:=bE H;obtain ⟨ak,bC,H⟩:=H;replace H:=bE H;obtain ⟨d9,bD,H⟩:=H;replace H:=iteB H;obtain ⟨rfl,H⟩ | ⟨rfl,H⟩:=H
          · replace H:=bE H;obtain ⟨bF,cH,H⟩:=H;obtain rfl:=Option.some.inj H;go_enter Tryz.func66,Tryz.ntmps66;(try go_wp2_with (first | ((with_reducible refine gate_dst (N:=2) rfl ?_);refine boxE_ HB 2 #[.int .i64 a8, .int .i64 ab] 25 ?_;clear HB;intro ac dq HB J af ag hb;clear hb) | ((with_reducible refine gate_dst (N:=3) rfl ?_);refine boxG_ 3 #[.int .i64 a6, .int .i64 a7, .int .i64 ae] 48 ?_;intro aa cJ hg Y hb;have ah:=sZ HB hg;have ai:=sZ HB hg;replace HB:=hB2 HB hb;have Z:=neL J hg;have a1:=neR J hg;replace J:=kb2 J hb;clear hb hg;have cK:=a1.out;have cL:=Z.out;obtain ⟨bH,bJ,bL,bM,bN,bO⟩:=cells3 Y.out)));replace J:=amk (blk_drew J.out);replace Y:=amk (blk_drew Y.out);replace HB:=amk (bd_ HB.out);refine start_ (n:=12) (S:=fun w'=>w'.cell? ⟨aa,0,none⟩=some (.int .i64 a6)∧w'.cell? ⟨aa,1,none⟩=some (.int .i64 a7)∧w'.cell? ⟨aa,2,none⟩=some (.int .i64 ae)∧w'.cell? ⟨ac,0,none⟩=some (.int .i64 a8)∧w'.cell? ⟨ac,1,none⟩=some (.int .i64 ab)) (ds:=[]) (bA 12 0) (by kernel_rfl) rfl rfl ⟨(blk_cell Y.out 0).trans rfl,(blk_cell Y.out 1).trans rfl,(blk_cell Y.out 2).trans rfl,(blk_cell J.out 0).trans rfl,(blk_cell J.out 1).trans rfl⟩ (fun hHeld=>?_);refine with_tabW spec_pzClue.tab9 spec_pzClue.bits9 (fun HT_ HW_=>?_);generalize cJ.drew=dr at J Y HB hHeld ⊢;refine pU_ HT_ 0 (some 50) (bA 12 1) ?_;refine tK_ HT_ HW_ hHeld 1 (some 51) (bA 12 3) ?_;refine tK_ HT_ HW_ hHeld 2 (some 52) (bA 12 7) ?_;refine oN_ HT_ 3 (some 53) (bA 12 15) (fun K hK=>?_);refine goes_ Tryz.func95 (by kernel_rfl) rfl #[.agg #[.int .i64 a8, .int .i64 ab]] (by rfl) rfl rfl gL_ ?_;(with_reducible refine (spec_whCount.calls k a8 ab ak _ bC.out).mono ?_);rintro e dt ⟨rfl,hb⟩;refine ⟨_,rfl,?_⟩;replace J:=kb2 J hb;replace Y:=kb2 Y hb;replace HB:=hB2 HB hb;(try clear hb);refine hK.out _ _ hC_ (fun hHeld=>?_);clear hK K;refine nN_ (some 53) ?_;refine pU_ HT_ 4 (some 54) (bA 12 31) ?_;refine oN_ HT_ 5 (some 55) (bA 12 63) (fun K hK=>?_);refine goes_ Tryz.func94 (by kernel_rfl) rfl #[.int .i64 a7, .int .i64 0, .int .i64 (wrap64 (ak - 1))] (by rfl) rfl rfl gL_ ?_;(with_reducible refine (spec_l1In.calls a7 0 (wrap64 (ak - 1)) true _ bD.out).mono ?_);rintro e w' ⟨rfl,⟨nd,rfl⟩⟩;refine ⟨_,rfl,?_⟩;refine hK.out _ _ hC_ (fun hHeld=>?_);clear hK K;refine nN_ (some 55) ?_;refine pU_ HT_ 6 (some 56) (bA 12 127) ?_;refine pU_ HT_ 7 (some 57) (bA 12 255) ?_;refine tK_ HT_ HW_ hHeld 8 (some 58) (bA 12 511) ?_;refine oN_ HT_ 9 (some 59) (bA 12 1023) (fun K hK=>?_);refine goes_ Tryz.func94 (by kernel_rfl) rfl #[.int .i64 ae, .int .i64 0, .int .i64 60] (by rfl) rfl rfl gL_ ?_;(with_reducible refine (spec_l1In.calls ae 0 60 bF _ cH.out).mono ?_);rintro e w' ⟨rfl,⟨nd,rfl⟩⟩;refine ⟨_,rfl,?_⟩;refine hK.out _ _ hC_ (fun hHeld=>?_);clear hK K;refine nN_ (some 59) ?_;refine pU_ HT_ 10 (some 60) (bA 12 2047) ?_;refine pU_ HT_ 11 (some 4) (bA 12 4095) ?_;refine done_ (done_of HT_.out (by kernel_rfl)) ?_;(try go_wp2);go_ret;exact ⟨rF_,bB⟩
          · obtain rfl:=Option.some.inj H;go_enter Tryz.func66,Tryz.ntmps66;(try go_wp2_with (first | ((with_reducible refine gate_dst (N:=2) rfl ?_);refine boxE_ HB 2 #[.int .i64 a8, .int .i64 ab] 25 ?_;clear HB;intro ac du HB J af ag hb;clear hb) | ((with_reducible refine gate_dst (N:=3) rfl ?_);refine boxG_ 3 #[.int .i64 a6, .int .i64 a7, .int .i64 ae] 48 ?_;intro aa cM hg Y hb;have ah:=sZ HB hg;have ai:=sZ HB hg;replace HB:=hB2 HB hb;have Z:=neL J hg;have a1:=neR J hg;replace J:=kb2 J hb;clear hb hg;have cN:=a1.out;have cO:=Z.out;obtain ⟨bQ,bR,bS,bT,bU,bV⟩:=cells3 Y.out)));replace J:=amk (blk_drew J.out);replace Y:=amk (blk_drew Y.out);replace HB:=amk (bd_ HB.out);refine start_ (n:=12) (S:=fun w'=>w'.cell? ⟨aa,0,none⟩=some (.int .i64 a6)∧w'.cell? ⟨aa,1,none⟩=some (.int .i64 a7)∧w'.cell? ⟨aa,2,none⟩=some (.int .i64 ae)∧w'.cell? ⟨ac,0,none⟩=some (.int .i64 a8)∧w'.cell? ⟨ac,1,none⟩=some (.int .i64 ab)) (ds:=[]) (bA 12 0) (by kernel_rfl) rfl rfl ⟨(blk_cell Y.out 0).trans rfl,(blk_cell Y.out 1).trans rfl,(blk_cell Y.out 2).trans rfl,(blk_cell J.out 0).trans rfl,(blk_cell J.out 1).trans rfl⟩ (fun hHeld=>?_);refine with_tabW spec_pzClue.tab9 spec_pzClue.bits9 (fun HT_ HW_=>?_);generalize cM.drew=dv at J Y HB hHeld ⊢;refine pU_ HT_ 0 (some 50) (bA 12 1) ?_;refine tK_ HT_ HW_ hHeld 1 (some 51) (bA 12 3) ?_;refine tK_ HT_ HW_ hHeld 2 (some 52) (bA 12 7) ?_;refine oN_ HT_ 3 (some 53) (bA 12 15) (fun K hK=>?_);refine goes_ Tryz.func95 (by kernel_rfl) rfl #[.agg #[.int .i64 a8, .int .i64 ab]] (by rfl) rfl rfl gL_ ?_;(with_reducible refine (spec_whCount.calls k a8 ab ak _ bC.out).mono ?_);rintro e dw ⟨rfl,hb⟩;refine ⟨_,rfl,?_⟩;replace J:=kb2 J hb;replace Y:=kb2 Y hb;replace HB:=hB2 HB hb;(try clear hb);refine hK.out _ _ hC_ (fun hHeld=>?_);clear hK K;refine nN_ (some 53) ?_;refine pU_ HT_ 4 (some 54) (bA 12 31) ?_;refine oN_ HT_ 5 (some 55) (bA 12 63) (fun K hK=>?_);refine goes_ Tryz.func94 (by kernel_rfl) rfl #[.int .i64 a7, .int .i64 0, .int .i64 (wrap64 (ak - 1))] (by rfl) rfl rfl gL_ ?_;(with_reducible refine (spec_l1In.calls a7 0 (wrap64 (ak - 1)) false _ bD.out).mono ?_);rintro e w' ⟨rfl,⟨nd,rfl⟩⟩;refine ⟨_,rfl,?_⟩;refine hK.out _ _ hC_ (fun hHeld=>?_);clear hK K;refine nN_ (some 55) ?_;refine pU_ HT_ 6 (some 56) (bA 12 127) ?_;refine pZ_ HT_ 7 (some 57) (bA 12 255) ?_;refine pZ_ HT_ 8 (some 58) (bA 12 511) ?_;refine pZ_ HT_ 9 (some 59) (bA 12 1023) ?_;refine pU_ HT_ 10 (some 60) (bA 12 2047) ?_;refine pU_ HT_ 11 (some 4) (bA 12 4095) ?_;refine done_ (done_of HT_.out (by kernel_rfl)) ?_;(try go_wp2);go_ret;exact ⟨rF_,bB⟩
        · rw [if_neg c45] at H;have ar:(a6 == 3)=false:=beq_eq_false_iff_ne.mpr c45;have au:(a6 != 3)=true:=bne_iff_ne.mpr c45
          by_cases c62:a6=4
          · rw [if_pos c62] at H;have av:(a6 == 4)=true:=beq_iff_eq.mpr c62;have ax:(a6 != 4)=false:=bne_eq_false_iff_eq.mpr c62;clear c62;replace H:=bE H;obtain ⟨t222,bW,H⟩:=H;replace H:=iteB H;obtain ⟨rfl,H⟩ | ⟨rfl,H⟩:=H
            · replace H:=bE H;obtain ⟨bX,cP,H⟩:=H;obtain rfl:=Option.some.inj H;go_enter Tryz.func66,Tryz.ntmps66;go_wp2_with (first | ((with_reducible refine gate_dst (N:=2) rfl ?_);refine boxE_ HB 2 #[.int .i64 a8, .int .i64 ab] 25 ?_;clear HB;intro ac dx HB J af ag hb;clear hb) | ((with_reducible refine gate_dst (N:=3) rfl ?_);refine boxG_ 3 #[.int .i64 a6, .int .i64 a7, .int .i64 ae] 48 ?_;intro aa dy hg Y hb;have ah:=sZ HB hg;have ai:=sZ HB hg;replace HB:=hB2 HB hb;have Z:=neL J hg;have a1:=neR J hg;replace J:=kb2 J hb;clear hb hg;have cQ:=a1.out;have cS:=Z.out;obtain ⟨bY,bZ,c6,c7,c8,ca⟩:=cells3 Y.out) | ((with_reducible refine gate_callee (f:=94) rfl ?_);refine goesL_ (some 65) rfl rfl Tryz.func94 (by kernel_rfl) rfl #[.int .i64 a7, .int .i64 2, .int .i64 9] rfl gL_ ?_;(with_reducible refine (spec_l1In.calls a7 2 9 true _ bW.out).mono ?_);rintro e w' ⟨rfl,⟨nd,rfl⟩⟩;refine ⟨_,rfl,?_⟩) | (go_at_call 94;(with_reducible refine (spec_l1In.calls ae 0 (wrap64 (a7 - 1)) bX _ cP.out).mono ?_);rintro e w' ⟨rfl,⟨nd,rfl⟩⟩));go_ret;exact ⟨rF_,bB⟩
            · obtain rfl:=Option.some.inj H;go_enter Tryz.func66,Tryz.ntmps66;go_wp2_with (first | ((with_reducible refine gate_dst (N:=2) rfl ?_);refine boxE_ HB 2 #[.int .i64 a8, .int .i64 ab] 25 ?_;clear HB;intro ac dz HB J af ag hb;clear hb) | ((with_reducible refine gate_dst (N:=3) rfl ?_);refine boxG_ 3 #[.int .i64 a6, .int .i64 a7, .int .i64 ae] 48 ?_;intro aa dA hg Y hb;have ah:=sZ HB hg;have ai:=sZ HB hg;replace HB:=hB2 HB hb;have Z:=neL J hg;have a1:=neR J hg;replace J:=kb2 J hb;clear hb hg;have cT:=a1.out;have cV:=Z.out;obtain ⟨cb,cd,ce,cf,cg,ci⟩:=cells3 Y.out) | ((with_reducible refine gate_callee (f:=94) rfl ?_);refine goesL_ (some 65) rfl rfl Tryz.func94 (by kernel_rfl) rfl #[.int .i64 a7, .int .i64 2, .int .i64 9] rfl gL_ ?_;(with_reducible refine (spec_l1In.calls a7 2 9 false _ bW.out).mono ?_);rintro e w' ⟨rfl,⟨nd,rfl⟩⟩;refine ⟨_,rfl,?_⟩));go_ret;exact ⟨rF_,bB⟩
          · rw [if_neg c62] at H;have av:(a6 == 4)=false:=beq_eq_false_iff_ne.mpr c62;have ax:(a6 != 4)=true:=bne_iff_ne.mpr c62;obtain rfl:=Option.some.inj H;go_enter Tryz.func66,Tryz.ntmps66;go_wp2_with (first | ((with_reducible refine gate_dst (N:=2) rfl ?_);refine boxE_ HB 2 #[.int .i64 a8, .int .i64 ab] 25 ?_;clear HB;intro ac dB HB J af ag hb;clear hb) | ((with_reducible refine gate_dst (N:=3) rfl ?_);refine boxG_ 3 #[.int .i64 a6, .int .i64 a7, .int .i64 ae] 48 ?_;intro aa dC hg Y hb;have ah:=sZ HB hg;have ai:=sZ HB hg;replace HB:=hB2 HB hb;have Z:=neL J hg;have a1:=neR J hg;replace J:=kb2 J hb;clear hb hg;have cW:=a1.out;have cX:=Z.out;obtain ⟨cj,ck,cm,cn,co,cp⟩:=cells3 Y.out));go_ret;exact ⟨rF_,bB⟩
/-! ### spec_pzLock: function 65 -/
def spec_pzLock.f (k:Nat) (J:Int) (Y:Int):Option (Bool):=(spec_hiLock.f k J Y 125).bind fun t210=>(some t210)
set_option maxHeartbeats 8000000 in
set_option maxRecDepth 100000 in
theorem spec_pzLock.calls (k:Nat) (J:Int) (Y:Int) (r:Bool) (w:World) (h:spec_pzLock.f k J Y=some r) :
    Calls Tryz.prog 65 #[.agg #[.int .i64 J, .int .i64 Y]] w fun e w'=>e = .returned (.bool r)∧Below w.heap.size w w':=by
  have ae:=Tryz.underlying25;have HB:=amk (Below.refl w.heap.size w);unfold spec_pzLock.f at h;have H:=h;clear h;replace H:=bE H;obtain ⟨t210,A2,H⟩:=H;obtain rfl:=Option.some.inj H;go_enter Tryz.func65,Tryz.ntmps65;go_wp2_with (first | ((with_reducible refine gate_dst (N:=1) rfl ?_);refine boxE_ HB 1 #[.int .i64 J, .int .i64 Y] 25 ?_;clear HB;intro aa w3 HB Z ab ac hb;clear hb;obtain ⟨a1,a6,a7,a8⟩:=cells2 Z.out) | ((with_reducible refine gate_callee (f:=93) rfl ?_);refine goesL_ (some 4) rfl rfl Tryz.func93 (by kernel_rfl) rfl #[.agg #[.int .i64 J, .int .i64 Y], .int .i64 125] rfl gL_ ?_;(with_reducible refine (spec_hiLock.calls k J Y 125 t210 _ A2.out).mono ?_);rintro e w5 ⟨rfl,hb⟩;refine ⟨_,rfl,?_⟩;replace Z:=kb2 Z hb;replace HB:=hB2 HB hb;(try clear hb)));go_ret;exact ⟨rF_,bB⟩
/-! spec's clues: what they come to. -/
theorem spec_pzLock.ev (w d:Int):Ev (fun k=>spec_pzLock.f k w d) (smallB w d 125):=by
  unfold spec_pzLock.f
  exact Ev.bind (spec_hiLock.ev w d 125) (Ev.now _)
theorem spec_pzClue.ev (w d a b c:Int) (hl:lockB w d=true):Ev (fun k=>spec_pzClue.f k w d a b c) (clueB w d a b c):=by
  unfold spec_pzClue.f clueB
  obtain ⟨w1,w2,d1,d2⟩:=lockB_iff.mp hl
  have hc:=count_bound hl
  simp only [spec_l1In.is,Option.bind_some,w64 (x:=w - 1) (by omega) (by omega),w64 (x:=d - 1) (by omega) (by omega)]
  refine Ev.both (fun e=>?_) (fun e=>?_)
  · rw [if_pos e]
    exact Ev.both (fun h=>Ev.id (by simp [of_decide_eq_true h])) (fun h=>Ev.id (by have:=decide_eq_false_iff_not.mp (Bool.eq_false_iff.mpr h);simp [this]))
  rw [if_neg e]
  refine Ev.both (fun e=>?_) (fun e=>?_)
  · rw [if_pos e]
    exact Ev.both (fun h=>Ev.id (by simp [of_decide_eq_true h])) (fun h=>Ev.id (by have:=decide_eq_false_iff_not.mp (Bool.eq_false_iff.mpr h);simp [this]))
  rw [if_neg e]
  refine Ev.both (fun e=>?_) (fun e=>?_)
  · rw [if_pos e]
    refine Ev.bind (spec_whCount.ev hl) ?_
    rw [w64 (x:=d ^ w.toNat - 1) (by omega) (by omega)]
    exact Ev.both (fun h=>Ev.id (by simp [of_decide_eq_true h])) (fun h=>Ev.id (by have:=decide_eq_false_iff_not.mp (Bool.eq_false_iff.mpr h);simp [this]))
  rw [if_neg e]
  refine Ev.both (fun e=>?_) (fun e=>?_)
  · rw [if_pos e]
    refine Ev.bind (spec_whCount.ev hl) ?_
    rw [w64 (x:=d ^ w.toNat - 1) (by omega) (by omega)]
    exact Ev.both (fun h=>Ev.id (by simp [of_decide_eq_true h])) (fun h=>Ev.id (by have:=decide_eq_false_iff_not.mp (Bool.eq_false_iff.mpr h);simp [this]))
  rw [if_neg e]
  refine Ev.both (fun e=>?_) (fun e=>?_)
  · rw [if_pos e]
    refine Ev.both (fun h=>?_) (fun h=>Ev.id (by have:=decide_eq_false_iff_not.mp (Bool.eq_false_iff.mpr h);simp [this]))
    have h':=of_decide_eq_true h
    rw [w64 (x:=b - 1) (by omega) (by omega)]
    exact Ev.id (by simp [h'])
  rw [if_neg e]
  exact Ev.id (by simp)
/-! ### spec_pzGood: function 39 -/
mutual
def spec_pzGood.j0:Nat→Bool→Int→Int→List (S48)→Option (Bool)
  | 0,_,_,_,_=>none
  | k + 1,a8,Y,Z,J=>if a8=true then (some false) else (spec_pzGood.l0 k J (J.length:Int) 0 Y Z J)
def spec_pzGood.l0:Nat→List (S48)→Int→Int→Int→Int→List (S48)→Option (Bool)
  | 0,_,_,_,_,_,_=>none
  | k + 1,a6,a7,a1,Y,Z,J=>if a1 < a7 then (if 0≤a1 then (if a1 < (a6.length:Int) then ((spec_pzClue.f k Y Z ((rd_T48 a6 a1).f0) ((rd_T48 a6 a1).f1) ((rd_T48 a6 a1).f2)).bind fun t228=>(if t228=true then (spec_pzGood.l0 k a6 a7 (wrap64 (a1 + 1)) Y Z J) else (some false))) else (none)) else (none)) else (some true)
end
def spec_pzGood.f (k:Nat) (J:Int) (Y:Int) (Z:List (S48)):Option (Bool):=(spec_pzLock.f k J Y).bind fun a1=>(if a1=true then (spec_pzGood.j0 k (decide ((Z.length:Int) > 6)) J Y Z) else (spec_pzGood.j0 k true J Y Z))
set_option maxHeartbeats 8000000 in
set_option maxRecDepth 100000 in
theorem spec_pzGood.calls (k:Nat) (a1:Int) (a6:Int) (ah:Option Addr) (ai:Nat) (Z:List (S48)) (r:Bool) (w:World) (aK:Kd.C k48 w ah Z.length Z) (aM:Z.length≤ai) (h:spec_pzGood.f k a1 a6 Z=some r) :
    Calls Tryz.prog 39 #[.agg #[.int .i64 a1, .int .i64 a6, .slice ah Z.length ai]] w fun e w'=>e = .returned (.bool r)∧Below w.heap.size w w':=by
  have bW:=Tryz.underlying28;have bX:=Tryz.underlying25;have bY:=Tryz.underlying48;have aN:=amk aK;have bJ:=amk aM;clear aK aM;have HB:=amk (Below.refl w.heap.size w);unfold spec_pzGood.f at h;have H:=h;clear h;have b3:=amk H;clear H;go_enter Tryz.func39,Tryz.ntmps39
  go_upto_region 1 with (first | ((with_reducible refine gate_dst (N:=1) rfl ?_);(try (refine gate_guard (by rfl) ?_;dsimp only));refine boxE_ HB 1 #[.int .i64 a1, .int .i64 a6, .slice ah Z.length ai] 28 ?_;clear HB;intro aQ w3 HB J bL bM hb;clear hb))
  (try simp only [Act.put,List.setIfInBounds_toArray,List.set_cons_zero,List.set_cons_succ])
  go_cut [14] (fun bN wc=> ∃ (kq:Nat) (aj:Bool),bN = .bool aj∧Aside0 (spec_pzGood.j0 kq aj a1 a6 Z=some r)∧Aside0 (kq≤k)∧Aside0 (wc.heap[aQ]?=some (.cells #[.int .i64 a1, .int .i64 a6,(.slice ah Z.length ai)] 28 (0,0)))∧Aside0 (Below w.heap.size w wc))
  case first =>
    have H:=b3.out;clear b3;replace H:=bE H;obtain ⟨bZ,A4,H⟩:=H;replace H:=iteB H;obtain ⟨rfl,H⟩ | ⟨rfl,H⟩:=H
    · have H':=amk H;clear H;obtain ⟨al,am,an,ap,ar,au⟩:=cells3 J.out;go_wp2_with (first | ((with_reducible refine gate_callee (f:=65) rfl ?_);refine goesL_ (some 7) rfl rfl Tryz.func65 (by kernel_rfl) rfl #[.agg #[.int .i64 a1, .int .i64 a6]] rfl gL_ ?_;(with_reducible refine (spec_pzLock.calls k a1 a6 true _ A4.out).mono ?_);rintro e w7 ⟨rfl,hb⟩;refine ⟨_,rfl,?_⟩;replace J:=kb2 J hb;replace HB:=hB2 HB hb;(try clear hb);obtain ⟨av,ax,ay,az,aA,aC⟩:=cells3 J.out));go_meet
      case rel=>exact ⟨_,(decide ((Z.length:Int) > 6)),rS_,H',⟨by first | omega | exact Nat.le_refl _⟩,⟨kB J⟩,⟨bB⟩⟩
    · have H':=amk H;clear H;obtain ⟨aD,aE,aG,aH,aI,aJ⟩:=cells3 J.out;go_wp2_with (first | ((with_reducible refine gate_callee (f:=65) rfl ?_);refine goesL_ (some 7) rfl rfl Tryz.func65 (by kernel_rfl) rfl #[.agg #[.int .i64 a1, .int .i64 a6]] rfl gL_ ?_;(with_reducible refine (spec_pzLock.calls k a1 a6 false _ A4.out).mono ?_);rintro e c7 ⟨rfl,hb⟩;refine ⟨_,rfl,?_⟩;replace J:=kb2 J hb;replace HB:=hB2 HB hb;(try clear hb)));go_meet
      case rel=>exact ⟨_,(true),rS_,H',⟨by first | omega | exact Nat.le_refl _⟩,⟨kB J⟩,⟨bB⟩⟩
  case rest =>
    clear b3;(try clear p2);(try clear c3);(try clear c5);(try clear c6);(try clear al);(try clear am);(try clear an);(try clear av);(try clear ax);(try clear ay);(try clear aD);(try clear aE);(try clear aG);(try clear ap);(try clear ar);(try clear au);(try clear az);(try clear aA);(try clear aC);(try clear aH);(try clear aI);(try clear aJ);obtain ⟨kq,aj,rfl,HA,b8,J,HB⟩:=hcut
    cases kq with
    | zero=>exact absurd HA.out (by simp [spec_pzGood.j0])
    | succ b9 =>
      have H:=HA.out;clear HA;simp only [spec_pzGood.j0] at H;replace H:=iteB H;obtain ⟨rfl,H⟩ | ⟨rfl,H⟩:=H
      · obtain rfl:=Option.some.inj H;go_wp2;go_ret;exact ⟨rF_,bB⟩
      · have H':=amk H;clear H;obtain ⟨aT,aU,aV,aW,aX,aY⟩:=cells3 J.out;go_wp2
        go_loopg [18] b9 (fun kq bO w'=> ∃ (Y:Int),bO = .int .i64 Y∧Aside0 (spec_pzGood.l0 kq Z (Z.length:Int) Y a1 a6 Z=some r)∧Aside0 (kq≤b9)∧Aside0 (w'.heap[aQ]?=some (.cells #[.int .i64 a1, .int .i64 a6,(.slice ah Z.length ai)] 28 (0,0)))∧Aside0 (Below w.heap.size w w'))
        case atStart=>exact ⟨(0),rS_,H',⟨Nat.le_refl _⟩,⟨kB J⟩,⟨bB⟩⟩
        case round =>
          clear H';(try clear c1);(try clear p2);(try clear c3);(try clear c5);(try clear c6);(try clear c11);(try clear aT);(try clear aU);(try clear aV);(try clear al);(try clear am);(try clear an);(try clear av);(try clear ax);(try clear ay);(try clear aD);(try clear aE);(try clear aG);(try clear aW);(try clear aX);(try clear aY);(try clear ap);(try clear ar);(try clear au);(try clear az);(try clear aA);(try clear aC);(try clear aH);(try clear aI);(try clear aJ);(try clear p2);obtain ⟨Y,rfl,HA,ba,J,HB⟩:=hrel
          cases gk with
          | zero=>exact absurd HA.out (by simp [spec_pzGood.l0])
          | succ k2 =>
            have H:=HA.out;clear HA;simp only [spec_pzGood.l0] at H;replace H:=iteE H;obtain ⟨b4,H⟩ | ⟨b4,H⟩:=H
            · replace H:=iteN H;obtain ⟨bQ,H⟩:=H;replace H:=iteN H;obtain ⟨bR,H⟩:=H;replace H:=bE H;obtain ⟨t228,bb,H⟩:=H;replace H:=iteB H;obtain ⟨rfl,H⟩ | ⟨rfl,H⟩:=H
              · have H':=amk H;clear H;have af:0≤(Y:Int):=dA_;have ag:Y < (Z.length:Int):=dA_;obtain ⟨b5,aZ,a7,a8,aa⟩:=at_T48 aN.out Y af ag;cases aZ;replace a7:=(HB.out.cell (World.block_lt_of_cell? w _ a7)).trans a7;replace a8:=(HB.out.cell (World.block_lt_of_cell? w _ a8)).trans a8;replace aa:=(HB.out.cell (World.block_lt_of_cell? w _ aa)).trans aa;replace af:=eq_true af;replace ag:=eq_true ag;go_wp2_with (first | ((with_reducible refine gate_dst (N:=4) rfl ?_);(try (refine gate_guard (by rfl) ?_;dsimp only));refine boxG_ 4 #[.int .i64 0, .int .i64 0, .int .i64 0] 48 ?_;intro ak c8 hg ab hb;have b6:=sZ HB hg;have b7:=sZ HB hg;replace HB:=hB2 HB hb;have ac:=neL J hg;have ae:=neR J hg;replace J:=kb2 J hb;clear hb hg;have bS:=ae.out;have bT:=ac.out;obtain ⟨bc,bd,be,bf,bg,bh⟩:=cells3 ab.out;obtain ⟨bi,bj,bk,bl,bm,bn⟩:=cells3 J.out) | ((with_reducible refine gate_callee (f:=66) rfl ?_);refine goesL_ (some 25) rfl rfl Tryz.func66 (by kernel_rfl) rfl #[.agg #[.int .i64 a1, .int .i64 a6], .agg #[.int .i64 ((rd_T48 Z Y).f0), .int .i64 ((rd_T48 Z Y).f1), .int .i64 ((rd_T48 Z Y).f2)]] rfl gL_ ?_;(with_reducible refine (spec_pzClue.calls k2 a1 a6 ((rd_T48 Z Y).f0) ((rd_T48 Z Y).f1) ((rd_T48 Z Y).f2) true _ bb.out).mono ?_);rintro e ca ⟨rfl,hb⟩;refine ⟨_,rfl,?_⟩;replace J:=kb2 J hb;replace ab:=amk (blk_below (g:=ak) (o:= .cells #[.int .i64 ((rd_T48 Z Y).f0), .int .i64 ((rd_T48 Z Y).f1), .int .i64 ((rd_T48 Z Y).f2)] 48 (0,0)) (kP ab) hb);replace HB:=hB2 HB hb;(try clear hb)));go_roundg k2
                case measure=>have:=b8.out;have:=ba.out;omega
                case rel=>exact ⟨(wrap64 (Y + 1)),rS_,H',⟨by have:=b8.out;have:=ba.out;omega⟩,⟨kB J⟩,⟨bB⟩⟩
              · obtain rfl:=Option.some.inj H;have af:0≤(Y:Int):=dA_;have ag:Y < (Z.length:Int):=dA_;obtain ⟨b5,aZ,a7,a8,aa⟩:=at_T48 aN.out Y af ag;cases aZ;replace a7:=(HB.out.cell (World.block_lt_of_cell? w _ a7)).trans a7;replace a8:=(HB.out.cell (World.block_lt_of_cell? w _ a8)).trans a8;replace aa:=(HB.out.cell (World.block_lt_of_cell? w _ aa)).trans aa;replace af:=eq_true af;replace ag:=eq_true ag;go_wp2_with (first | ((with_reducible refine gate_dst (N:=4) rfl ?_);(try (refine gate_guard (by rfl) ?_;dsimp only));refine boxG_ 4 #[.int .i64 0, .int .i64 0, .int .i64 0] 48 ?_;intro ak cb hg ab hb;have b6:=sZ HB hg;have b7:=sZ HB hg;replace HB:=hB2 HB hb;have ac:=neL J hg;have ae:=neR J hg;replace J:=kb2 J hb;clear hb hg;have bU:=ae.out;have bV:=ac.out;obtain ⟨bo,bp,bq,br,bu,bv⟩:=cells3 ab.out;obtain ⟨bw,bz,bC,bD,bF,bH⟩:=cells3 J.out) | ((with_reducible refine gate_callee (f:=66) rfl ?_);refine goesL_ (some 25) rfl rfl Tryz.func66 (by kernel_rfl) rfl #[.agg #[.int .i64 a1, .int .i64 a6], .agg #[.int .i64 ((rd_T48 Z Y).f0), .int .i64 ((rd_T48 Z Y).f1), .int .i64 ((rd_T48 Z Y).f2)]] rfl gL_ ?_;(with_reducible refine (spec_pzClue.calls k2 a1 a6 ((rd_T48 Z Y).f0) ((rd_T48 Z Y).f1) ((rd_T48 Z Y).f2) false _ bb.out).mono ?_);rintro e cd ⟨rfl,hb⟩;refine ⟨_,rfl,?_⟩;replace J:=kb2 J hb;replace ab:=amk (blk_below (g:=ak) (o:= .cells #[.int .i64 ((rd_T48 Z Y).f0), .int .i64 ((rd_T48 Z Y).f1), .int .i64 ((rd_T48 Z Y).f2)] 48 (0,0)) (kP ab) hb);replace HB:=hB2 HB hb;(try clear hb)));go_ret;exact ⟨rF_,bB⟩
            · obtain rfl:=Option.some.inj H;go_wp2;go_ret;exact ⟨rF_,bB⟩
/-! spec's puzzles: what they come to. -/
theorem spec_pzGood.lev (w d:Int) (hl:lockB w d=true) (l:List S48) (hn:l.length≤9223372036854775807) : ∀ (j:Nat) (i:Int),0≤i→i≤l.length→(l.length:Int) - i=j →
    Ev (fun k=>spec_pzGood.l0 k l (l.length:Int) i w d l) ((l.drop i.toNat).all fun c=>clueB w d c.f0 c.f1 c.f2):=by
  intro j
  induction j with
  | zero =>
    intro i h0 hi hj
    refine Ev.step (fun k=>rfl) (Ev.no (by omega) (Ev.id ?_))
    rw [List.drop_eq_nil_of_le (by omega)];rfl
  | succ j ih =>
    intro i h0 hi hj
    have hlt:i.toNat < l.length:=by omega
    refine Ev.step (fun k=>rfl) (Ev.yes (by omega) (Ev.yes h0 (Ev.yes (by omega) ?_)))
    refine Ev.bind (spec_pzClue.ev w d _ _ _ hl) ?_
    rw [List.drop_eq_getElem_cons hlt,List.all_cons,←rd_clue hlt]
    cases clueB w d (rd_T48 l i).f0 (rd_T48 l i).f1 (rd_T48 l i).f2 with
    | false=>exact Ev.no (by simp) (Ev.id (by simp))
    | true =>
      refine Ev.yes rfl ?_
      rw [w64 (x:=i + 1) (by omega) (by omega),Bool.true_and,←toNat_succ h0]
      exact ih (i + 1) (by omega) (by omega) (by omega)
theorem spec_pzGood.ev (w d:Int) (l:List S48) (hn:l.length≤9223372036854775807):Ev (fun k=>spec_pzGood.f k w d l) (puzzleB w d l):=by
  unfold spec_pzGood.f puzzleB
  refine Ev.bind (spec_pzLock.ev w d) ?_
  cases h:smallB w d 125 with
  | false =>
    refine Ev.no (by simp) (Ev.step (fun k=>rfl) ?_)
    simp only [spec_pzGood.j0]
    exact Ev.id (by simp)
  | true =>
    refine Ev.yes rfl (Ev.step (fun k=>rfl) ?_)
    simp only [spec_pzGood.j0]
    by_cases h6:l.length≤6
    · refine Ev.no (by simp;omega) ?_
      have:=spec_pzGood.lev w d (smallB_lock h) l hn l.length 0 (by omega) (by omega) (by omega)
      simpa [h6] using this
    · exact Ev.yes (by simp;omega) (Ev.id (by simp [h6]))
/-! strconv.Itoa at numbers of up to three digits: the kit's contract, with the table of tens. -/
def TabP (w : World) : Prop := Lib.TabIs Tryz.prog w "internal/strconv.uint64pow10" .u64 Lib.pow10Tab
theorem TabP.below {w0 w:World} (h:TabP w0) (hb:Below w0.heap.size w0 w):TabP w:=by
  unfold TabP Lib.TabIs World.var? at h ⊢
  obtain ⟨g,hg,h⟩:=Option.bind_eq_some_iff.mp h
  rw [Option.bind_eq_some_iff]
  refine ⟨g,hg,?_⟩
  have hlt:g < w0.heap.size:=by
    apply Classical.byContradiction
    intro hn
    rw [Array.getElem?_eq_none (by omega)] at h
    cases h
  rw [hb.block g hlt]
  exact h
theorem below_drewGrow (w:World) (k:Nat) (os:Array Obj):Below w.heap.size w (Go.Sort.grow (w.drewN k) os):=
  ⟨rfl,rfl,rfl,by simp [Go.Sort.grow],fun j hj=>by simp [Go.Sort.grow,World.drewN,Array.getElem?_append_left hj]⟩
def strconv_ItoaT.f (n:Int):Option ByteArray:=if 0≤n∧n < 1000 then some (decB n) else none
theorem strconv_ItoaT.calls (a0:Int) (r:ByteArray) (w:World) (htp:TabP w) (h:strconv_ItoaT.f a0=some r) :
    Calls Tryz.prog 72 #[.int .i64 a0] w fun e w'=>e = .returned (.string r)∧Below w.heap.size w w':=by
  unfold strconv_ItoaT.f at h
  by_cases p:0≤a0∧a0 < 1000
  · rw [if_pos p] at h
    obtain rfl:=Option.some.inj h
    refine Calls.mono (Tryz.strconv_Itoa a0 (by omega) (by omega) w htp) (fun e w' hh=>⟨?_,?_⟩)
    · rw [hh.1];unfold decB Lib.itoa;rw [if_neg (by omega)]
    · obtain ⟨k,os,e⟩:=hh.2
      rw [e];exact below_drewGrow w k os
  · rw [if_neg p] at h;cases h
/-! What the library's variables hold: the table of tens, MaxLen, the two errors of strconv. -/
def EnvP (w:World):Prop:=TabP w∧(∃ m:Int,w.cell? ⟨0,0,none⟩=some (.int .i64 m))∧(∃ te pe,w.cell? ⟨1,0,none⟩=some (.iface te pe))∧(∃ te pe,w.cell? ⟨2,0,none⟩=some (.iface te pe))
theorem EnvP.below {w0 w:World} (h:EnvP w0) (hb:Below w0.heap.size w0 w):EnvP w:=by
  obtain ⟨h1,⟨m,h2⟩,⟨a,b,h3⟩,c,d,h4⟩:=h
  exact ⟨h1.below hb,⟨m,(hb.cell (World.block_lt_of_cell? w0 _ h2)).trans h2⟩,⟨a,b,(hb.cell (World.block_lt_of_cell? w0 _ h3)).trans h3⟩,c,d,(hb.cell (World.block_lt_of_cell? w0 _ h4)).trans h4⟩
/-! strconv.Atoi, at every text that is not too long: the kit's contracts; the error that comes beside is not told. -/
def atoiV (s:ByteArray):Int:=match Lib.atoiAll s.data.toList with
  | .ok v=>v
  | .range=>Lib.atoiSat s.data.toList
  | _=>0
def strconv_Atoi.f (s:ByteArray):Option (Int×Bool):=if s.size≤1000000 then some (atoiV s,true) else none
theorem strconv_Atoi.calls (a0:ByteArray) (r1:Int) (r2:Bool) (w:World) (htp:EnvP w) (h:strconv_Atoi.f a0=some (r1,r2)) :
    Calls Tryz.prog 58 #[.string a0] w fun e w'=> ∃ e2_:Value,e = .returned (.tuple #[.int .i64 r1,e2_])∧Below w.heap.size w w':=by
  unfold strconv_Atoi.f at h
  by_cases p:a0.size≤1000000
  · rw [if_pos p] at h
    have h2:=Option.some.inj h
    have hr:atoiV a0=r1:=congrArg (·.1) h2
    obtain ⟨_,_,⟨t1,p1,h3⟩,t2,p2,h4⟩:=htp
    unfold atoiV at hr
    cases hc:Lib.atoiAll a0.data.toList with
    | ok v =>
      rw [hc] at hr
      have hr:v=r1:=hr
      subst hr
      refine Calls.mono (Tryz.strconv_Atoi_ok a0 (by omega) v hc w) (fun e w' hh=>⟨_,hh.1,?_⟩)
      rcases hh.2 with e | ⟨t,e⟩
      · rw [e];exact Below.refl _ _
      · rw [e];exact Lib.bytesWorld_below _ _ _
    | range =>
      rw [hc] at hr
      have hr:Lib.atoiSat a0.data.toList=r1:=hr
      subst hr
      refine Calls.mono (Tryz.strconv_Atoi_range a0 (by omega) hc _ w h4 (Or.inr ⟨_,_,rfl⟩)) (fun e w' hh=>?_)
      obtain ⟨N,he,_,_,hb⟩:=hh
      exact ⟨_,he,hb⟩
    | _ =>
      rw [hc] at hr
      have hr:(0:Int)=r1:=hr
      subst hr
      refine Calls.mono (Tryz.strconv_Atoi_syntax a0 (by omega) hc _ w h3 (Or.inr ⟨_,_,rfl⟩)) (fun e w' hh=>?_)
      obtain ⟨N,he,_,_,hb⟩:=hh
      exact ⟨_,he,hb⟩
  · rw [if_neg p] at h;cases h
/-! Atoi's value. -/
theorem atoiV_of {s:ByteArray} {v:Int} (h:Lib.atoiAll s.data.toList = .ok v):atoiV s=v:=by
  unfold atoiV
  split
  · rename_i u e
    rw [h] at e
    exact (Lib.NumEnd.ok.inj e).symm
  · rename_i e
    rw [h] at e
    cases e
  · rename_i e1 e2
    exact absurd h (e1 _)
/-! Numbers told by digits. -/
def digs (d:Int):Nat→Int→List Int
  | 0,_=> []
  | m + 1,n=>digs d m (n / d) ++ [n % d]
theorem digs_length (d:Int) : ∀ (m:Nat) (n:Int),(digs d m n).length=m
  | 0,_=>rfl
  | m + 1,n=>by simp [digs,digs_length d m]
theorem digs_range {d:Int} (hd:0 < d) : ∀ (m:Nat) (n:Int),∀ x∈digs d m n,0≤x∧x < d
  | 0,_=>by simp [digs]
  | m + 1, n => by
    intro x hx
    simp only [digs,List.mem_append,List.mem_singleton] at hx
    rcases hx with hx | rfl
    · exact digs_range hd m _ x hx
    · exact ⟨Int.emod_nonneg _ (by omega),Int.emod_lt_of_pos _ hd⟩
def textB (l:List Int):ByteArray:=strOfNums (l.map fun x=>wrap64 (48 + x) % 256)
def codeB (w d n:Int):ByteArray:=textB (digs d w.toNat n)
theorem rep_set (i:Nat) (T:List Int) (x:Int):(List.replicate (i + 1) (0:Int) ++ T).set i x=List.replicate i 0 ++ x :: T:=by
  rw [List.replicate_succ',List.append_assoc,List.set_append_right _ _ (by simp)]
  simp
/-! The places and the digits that two codes share. -/
def plN (s t:ByteArray):Nat→Int
  | 0=>0
  | i + 1=>plN s t i + if bt s i=bt t i then 1 else 0
def ctN (s:ByteArray) (d:Int):Nat→Int
  | 0=>0
  | i + 1=>ctN s d i + if bt s i=d then 1 else 0
def lst (a b:Int):Int:=if a < b then a else b
def cmN (s t:ByteArray) (n:Nat):Nat→Int
  | 0=>0
  | m + 1=>cmN s t n m + lst (ctN s (48 + m) n) (ctN t (48 + m) n)
theorem plN_range (s t:ByteArray) : ∀ n,0≤plN s t n∧plN s t n≤n
  | 0=>by simp [plN]
  | n + 1=>by have:=plN_range s t n;simp only [plN];split <;> omega
theorem ctN_range (s:ByteArray) (d:Int) : ∀ n,0≤ctN s d n∧ctN s d n≤n
  | 0=>by simp [ctN]
  | n + 1=>by have:=ctN_range s d n;simp only [ctN];split <;> omega
theorem lst_range {a b:Int} {n:Nat} (h:0≤a∧a≤n) (k:0≤b∧b≤n):0≤lst a b∧lst a b≤n:=by
  unfold lst;split <;> omega
theorem cmN_range (s t:ByteArray) (n:Nat) : ∀ m,0≤cmN s t n m∧cmN s t n m≤n * m
  | 0=>by simp [cmN]
  | m + 1 => by
    have h:=cmN_range s t n m
    have h2:=lst_range (ctN_range s (48 + m) n) (ctN_range t (48 + m) n)
    have:(n:Int) * ((m + 1:Nat):Int)=n * m + n:=by rw [Int.natCast_succ,Int.mul_add,Int.mul_one]
    simp only [cmN]
    omega
/-- Texts of the same short length whose bytes are digits. -/
def hintB (a b:ByteArray):Bool:=decide (a.size=b.size∧1≤a.size∧a.size≤6∧(∀ i < a.size,48≤bt a (i:Nat)∧bt a (i:Nat)≤57)∧(∀ i < b.size,48≤bt b (i:Nat)∧bt b (i:Nat)≤57))
theorem hintB_iff {a b:ByteArray} : hintB a b=true ↔ (a.size=b.size∧1≤a.size∧a.size≤6∧(∀ i < a.size,48≤bt a (i:Nat)∧bt a (i:Nat)≤57)∧(∀ i < b.size,48≤bt b (i:Nat)∧bt b (i:Nat)≤57)):=by simp [hintB]
theorem bt_nat {a:ByteArray} {i:Nat} (h:i < a.size):((a[i]'h).toNat:Int)=bt a (i:Nat):=by simp [bt,h]
theorem beq_of (x y:Int):(x == y)=decide (x=y):=by by_cases h:x=y <;> simp [h]
/-! Codes of a lock as texts, their digits, what clues tell of them. -/
def codeS (w d:Int) (s:ByteArray):Prop:=s.size=w.toNat∧∀ i < s.size,48≤bt s (i:Nat)∧bt s (i:Nat) < 48 + d
def dg (s:ByteArray):List Int:=(List.range s.size).map fun i=>bt s (i:Nat) - 48
theorem dg_length (s:ByteArray):(dg s).length=s.size:=by simp [dg]
theorem dg_at {s:ByteArray} {i:Nat} (h:i < s.size):rd (dg s) (i:Nat)=bt s (i:Nat) - 48:=by
  rw [rd_at (by simpa [dg] using h)];simp [dg]
theorem bt_textB {D:List Int} (h : ∀ x∈D,0≤x∧x < 10) {i:Nat} (hi:i < D.length):bt (textB D) (i:Nat)=48 + D[i]:=by
  have hx:=h D[i] (List.getElem_mem hi)
  have hs:(textB D).size=D.length:=by unfold textB;rw [strOfNums_size,List.length_map]
  unfold bt
  rw [dif_pos (by rw [hs];simpa using hi)]
  have e1:((textB D)[(i:Int).toNat]'(by rw [hs];simpa using hi))=UInt8.ofNat (wrap64 (48 + D[i]) % 256).toNat:=by
    show (textB D).data[(i:Int).toNat]'_=_
    have:(textB D).data=((D.map fun x=>wrap64 (48 + x) % 256).map fun n=>UInt8.ofNat n.toNat).toArray:=rfl
    simp [this]
  rw [e1,w64 (by omega) (by omega)]
  simp
  omega
theorem codeB_code {w d a:Int} (hl:lockB w d=true):codeS w d (codeB w d a):=by
  obtain ⟨w1,w2,d1,d2⟩:=lockB_iff.mp hl
  have hs:(codeB w d a).size=w.toNat:=by unfold codeB textB;rw [strOfNums_size,List.length_map,digs_length]
  refine ⟨hs,fun i hi=>?_⟩
  have hr:=digs_range (d:=d) (by omega) w.toNat a
  unfold codeB
  rw [bt_textB (fun x hx=>by have:=hr x hx;omega) (by rw [digs_length,←hs];exact hi)]
  have:=hr _ (List.getElem_mem (by rw [digs_length,←hs];exact hi):(digs d w.toNat a)[i]'(by rw [digs_length,←hs];exact hi)∈_)
  omega
def sumF:Int→List Int→Int
  | acc,[]=> acc
  | acc,x :: xs=>sumF (wrap64 (acc + x)) xs
def numF (d:Int):Int→List Int→Int
  | acc,[]=> acc
  | acc,x :: xs=>numF d (wrap64 (wrap64 (acc * d) + x)) xs
def turnV (d x y:Int):Int:=Int.tmod (wrap64 (Int.tmod (wrap64 (y - x)) d + d)) d
def nearV (d x y:Int):Int:=lst (turnV d x y) (Int.tmod (wrap64 (d - turnV d x y)) d)
def distF (d:Int) (s t:ByteArray):Nat→Int
  | 0=>0
  | i + 1=>wrap64 (distF d s t i + nearV d (bt s (i:Nat)) (bt t (i:Nat)))
def valV (w d k a:Int) (s:ByteArray):Int:=
  if k=0 then bt s a - 48 else if k=1 then sumF 0 (dg s) else if k=2 then plN (codeB w d a) s w.toNat
  else if k=3 then distF d (codeB w d a) s w.toNat else Int.tmod (numF d 0 (dg s)) a
def fitV (w d:Int) (c:Int×Int×Int) (s:ByteArray):Bool:=if c.1=1 then decide (valV w d 1 0 s=c.2.1) else decide (valV w d c.1 c.2.1 s=c.2.2)
theorem codeS_hint {w d:Int} {s t:ByteArray} (hl:lockB w d=true) (hs:codeS w d s) (ht:codeS w d t):hintB s t=true:=by
  obtain ⟨w1,w2,d1,d2⟩:=lockB_iff.mp hl
  have h1:=hs.1
  have h2:=ht.1
  refine hintB_iff.mpr ⟨by omega,by omega,by omega,fun i hi=>?_,fun i hi=>?_⟩
  · have:=hs.2 i hi;omega
  · have:=ht.2 i hi;omega
/-! A digit's sign. -/
theorem digB (n:Nat) (h:n < 10):(UInt8.ofNat (48 + n)).toNat=48 + n:=by
  rw [UInt8.toNat_ofNat']
  omega
/-! Texts of digits: their sizes. -/
theorem strOfNums_app (a b:List Int):strOfNums (a ++ b)=strOfNums a ++ strOfNums b:=by
  apply ByteArray.ext
  simp [strOfNums,ByteArray.data_append]
theorem textB_app (a:List Int) (x:Int):textB (a ++ [x])=textB a ++ strOfNums [wrap64 (48 + x) % 256]:=by
  unfold textB;rw [List.map_append,strOfNums_app];rfl
theorem textB_size (l:List Int):(textB l).size=l.length:=by unfold textB;rw [strOfNums_size,List.length_map]
/-! Declarations moved out of LFnExactParsePins. -/
theorem textB_bytes {r:List Int} (h : ∀ x∈r,0≤x∧x < 10):(textB r).data.toList=r.map (fun x=>UInt8.ofNat (48 + x.toNat)):=by
  unfold textB strOfNums
  rw [List.toList_toArray,List.map_map]
  refine List.map_congr_left (fun x hx=>?_)
  have J:=h x hx
  have e:wrap64 (48 + x) % 256=48 + x:=by rw [w64 (by omega) (by omega)];omega
  show UInt8.ofNat (wrap64 (48 + x) % 256).toNat=_
  rw [e]
  congr 1
  omega
/-! ### impl_within: function 54 -/
def impl_within.f (a0:Int) (a1:Int) (a2:Int):Option (Bool):=if a1≤a0 then (some (decide (a0≤a2))) else (some false)
set_option maxHeartbeats 8000000 in
set_option maxRecDepth 100000 in
theorem impl_within.calls (a0:Int) (a1:Int) (a2:Int) (r:Bool) (w:World) (h:impl_within.f a0 a1 a2=some r) :
    Calls Tryz.prog 54 #[.int .i64 a0, .int .i64 a1, .int .i64 a2] w fun e w'=>e = .returned (.bool r)∧Drawn0 w w':=by
  unfold impl_within.f at h;have H:=h;clear h;replace H:=iteE H;obtain ⟨J,H⟩ | ⟨J,H⟩:=H
  · obtain rfl:=Option.some.inj H;go_enter Tryz.func54,Tryz.ntmps54;go_wp2;go_ret;exact ⟨rS_,dR_⟩
  · obtain rfl:=Option.some.inj H;go_enter Tryz.func54,Tryz.ntmps54;go_wp2;go_ret;exact ⟨rS_,dR_⟩
/-! Between two numbers. -/
theorem spec_l1In.bs (a b c:Int):spec_l1In.f a b c=some (decide (b≤a∧a≤c)):=by
  unfold spec_l1In.f
  by_cases h:b≤a
  · rw [if_pos h];simp [h]
  · rw [if_neg h];simp [h]
/-! ### spec_l1Read: function 89 -/
mutual
def spec_l1Read.j0:Nat→ByteArray→Bool→Option (Int)
  | 0,_,_=>none
  | k + 1,x0,J=>if J=true then (some (-1)) else (spec_l1Read.l0 k x0 0 0)
def spec_l1Read.l0:Nat→ByteArray→Int→Int→Option (Int)
  | 0,_,_,_=>none
  | k + 1,x0,x3,x4=>if x4 < (x0.size:Int) then (if 0≤x4 then (if (bt x0 x4) < 48 then (some (-1)) else (if (bt x0 x4) > 57 then (some (-1)) else (spec_l1Read.l0 k x0 (wrap64 ((wrap64 (10 * x3)) + (((bt x0 x4) - 48) % 256))) (wrap64 (x4 + 1))))) else (none)) else (some x3)
end
def spec_l1Read.f (k:Nat) (a0:ByteArray):Option (Int):=(spec_l1In.f (a0.size:Int) 1 6).bind fun J=>(if J=true then (if 0 < (a0.size:Int) then (if (bt a0 0)=48 then (spec_l1Read.j0 k a0 (decide ((a0.size:Int) > 1))) else (spec_l1Read.j0 k a0 false)) else (none)) else (spec_l1Read.j0 k a0 true))
set_option maxHeartbeats 8000000 in
set_option maxRecDepth 100000 in
theorem spec_l1Read.calls (k:Nat) (a0:ByteArray) (r:Int) (w:World) (h:spec_l1Read.f k a0=some r) :
    Calls Tryz.prog 89 #[.string a0] w fun e w'=>e = .returned (.int .i64 r)∧Drawn0 w w':=by
  unfold spec_l1Read.f at h;have H:=h;clear h;have ag:=amk H;clear H;go_enter Tryz.func89,Tryz.ntmps89
  go_upto_region 1 with (fail)
  go_cut [18] (fun ax wc=> ∃ (kq:Nat) (a1:Bool),ax = .bool a1∧Aside0 (spec_l1Read.j0 kq a0 a1=some r)∧Aside0 (kq≤k)∧Drawn0 w wc)
  case first =>
    have H:=ag.out;clear ag;replace H:=bE H;obtain ⟨az,A3,H⟩:=H;replace H:=iteB H;obtain ⟨rfl,H⟩ | ⟨rfl,H⟩:=H
    · by_cases c5:0 < (a0.size:Int)
      · rw [if_pos c5] at H;have a6:decide (0 < (a0.size:Int))=true:=decide_eq_true c5;have ae:decide (0 < a0.size)=true:=decide_eq_true (by omega);clear c5;(first | rw [a6] | (simp only [i64_w,i32_w];rw [a6]) | skip)
        by_cases c7:(bt a0 0)=48
        · rw [if_pos c7] at H;have a8:((bt a0 0) == 48)=true:=beq_iff_eq.mpr c7;have aa:((bt a0 0) != 48)=false:=bne_eq_false_iff_eq.mpr c7;clear c7;have H':=amk H;clear H;go_wp2_with (first | ((with_reducible refine gate_callee (f:=94) rfl ?_);refine goesL_ (some 7) rfl rfl Tryz.func94 (by kernel_rfl) rfl #[.int .i64 (a0.size:Int), .int .i64 1, .int .i64 6] rfl gL_ ?_;(with_reducible refine (spec_l1In.calls (a0.size:Int) 1 6 true _ A3.out).mono ?_);rintro e w' ⟨rfl,⟨nd,rfl⟩⟩;refine ⟨_,rfl,?_⟩;have p6:0≤(0:Int):=(by omega);have q6:0 < a0.size:=(by have:(0:Int) < (a0.size:Int):=dA_;omega);have ah : ∀ h:0 < a0.size,((a0[0]'h).toNat:Int)=bt a0 0:=bt_at a0 0;clear p6;have ai:(0 < (a0.size:Int))=True:=eq_true (dA_);replace q6:=eq_true q6));go_meet
          case rel=>exact ⟨_,(decide ((a0.size:Int) > 1)),rS_,H',⟨by first | omega | exact Nat.le_refl _⟩,dR_⟩
        · rw [if_neg c7] at H;have a8:((bt a0 0) == 48)=false:=beq_eq_false_iff_ne.mpr c7;have aa:((bt a0 0) != 48)=true:=bne_iff_ne.mpr c7;have H':=amk H;clear H;go_wp2_with (first | ((with_reducible refine gate_callee (f:=94) rfl ?_);refine goesL_ (some 7) rfl rfl Tryz.func94 (by kernel_rfl) rfl #[.int .i64 (a0.size:Int), .int .i64 1, .int .i64 6] rfl gL_ ?_;(with_reducible refine (spec_l1In.calls (a0.size:Int) 1 6 true _ A3.out).mono ?_);rintro e w' ⟨rfl,⟨nd,rfl⟩⟩;refine ⟨_,rfl,?_⟩;have p6:0≤(0:Int):=(by omega);have q6:0 < a0.size:=(by have:(0:Int) < (a0.size:Int):=dA_;omega);have ah : ∀ h:0 < a0.size,((a0[0]'h).toNat:Int)=bt a0 0:=bt_at a0 0;clear p6;have ai:(0 < (a0.size:Int))=True:=eq_true (dA_);replace q6:=eq_true q6));go_meet
          case rel=>exact ⟨_,(false),rS_,H',⟨by first | omega | exact Nat.le_refl _⟩,dR_⟩
      · rw [if_neg c5] at H;exact absurd H (by simp)
    · have H':=amk H;clear H;go_wp2_with (first | ((with_reducible refine gate_callee (f:=94) rfl ?_);refine goesL_ (some 7) rfl rfl Tryz.func94 (by kernel_rfl) rfl #[.int .i64 (a0.size:Int), .int .i64 1, .int .i64 6] rfl gL_ ?_;(with_reducible refine (spec_l1In.calls (a0.size:Int) 1 6 false _ A3.out).mono ?_);rintro e w' ⟨rfl,⟨nd,rfl⟩⟩;refine ⟨_,rfl,?_⟩));go_meet
      case rel=>exact ⟨_,(true),rS_,H',⟨by first | omega | exact Nat.le_refl _⟩,dR_⟩
  case rest =>
    clear ag;(try clear p2);(try clear c4);(try clear c5);(try clear a6);(try clear ae);(try clear p6);(try clear q6);(try clear ah);(try clear ai);(try clear c7);(try clear a8);(try clear aa);(try clear p6);(try clear q6);obtain ⟨kq,a1,rfl,HA,al,⟨aC,rfl⟩⟩:=hcut
    cases kq with
    | zero=>exact absurd HA.out (by simp [spec_l1Read.j0])
    | succ am =>
      have H:=HA.out;clear HA;simp only [spec_l1Read.j0] at H;replace H:=iteB H;obtain ⟨rfl,H⟩ | ⟨rfl,H⟩:=H
      · obtain rfl:=Option.some.inj H;go_wp2;go_ret;exact ⟨rS_,dR_⟩
      · have H':=amk H;clear H;go_wp2
        go_loopg [3,4] am (fun kq v3 v4 w'=> ∃ (a7:Int) (J:Int),v3 = .int .i64 a7∧v4 = .int .i64 J∧Aside0 (spec_l1Read.l0 kq a0 a7 J=some r)∧Aside0 (kq≤am)∧Drawn0 w w')
        case atStart=>exact ⟨(0),(0),rS_,rS_,H',⟨Nat.le_refl _⟩,dR_⟩
        case round =>
          clear H';(try clear c1);(try clear p2);(try clear c4);(try clear c5);(try clear a6);(try clear ae);(try clear p6);(try clear q6);(try clear ah);(try clear ai);(try clear c7);(try clear a8);(try clear aa);(try clear c8);(try clear p2);(try clear p6);(try clear q6);obtain ⟨a7,J,rfl,rfl,HA,an,⟨m2,rfl⟩⟩:=hrel
          cases gk with
          | zero=>exact absurd HA.out (by simp [spec_l1Read.l0])
          | succ k2 =>
            have H:=HA.out;clear HA;simp only [spec_l1Read.l0] at H;replace H:=iteE H;obtain ⟨ap,H⟩ | ⟨ap,H⟩:=H
            · replace H:=iteN H;obtain ⟨ay,H⟩:=H;replace H:=iteE H;obtain ⟨aj,H⟩ | ⟨aj,H⟩:=H
              · obtain rfl:=Option.some.inj H;have Y:0≤(J:Int):=dA_;have Z:J < (a0.size:Int):=dA_;have af:=bt_at a0 J;replace Y:=eq_true Y;replace Z:=eq_true Z;go_wp2;go_ret;exact ⟨rS_,dR_⟩
              · by_cases c14:(bt a0 J) > 57
                · rw [if_pos c14] at H;have ak:decide (57 < (bt a0 J))=true:=decide_eq_true c14;clear c14;obtain rfl:=Option.some.inj H;have Y:0≤(J:Int):=dA_;have Z:J < (a0.size:Int):=dA_;have af:=bt_at a0 J;replace Y:=eq_true Y;replace Z:=eq_true Z;have ab:0≤(J:Int):=dA_;have ac:J < (a0.size:Int):=dA_;have ar:=bt_at a0 J;replace ab:=eq_true ab;replace ac:=eq_true ac;go_wp2;go_ret;exact ⟨rS_,dR_⟩
                · rw [if_neg c14] at H;have ak:decide (57 < (bt a0 J))=false:=decide_eq_false c14;clear c14;have H':=amk H;clear H;have Y:0≤(J:Int):=dA_;have Z:J < (a0.size:Int):=dA_;have af:=bt_at a0 J;replace Y:=eq_true Y;replace Z:=eq_true Z;have ab:0≤(J:Int):=dA_;have ac:J < (a0.size:Int):=dA_;have ar:=bt_at a0 J;replace ab:=eq_true ab;replace ac:=eq_true ac;have au:0≤(J:Int):=dA_;have av:J < (a0.size:Int):=dA_;have aA:=bt_at a0 J;replace au:=eq_true au;replace av:=eq_true av;go_wp2;go_roundg k2
                  case measure=>have:=al.out;have:=an.out;omega
                  case rel=>exact ⟨(wrap64 ((wrap64 (10 * a7)) + (((bt a0 J) - 48) % 256))),(wrap64 (J + 1)),rS_,rS_,H',⟨by have:=al.out;have:=an.out;omega⟩,dR_⟩
            · obtain rfl:=Option.some.inj H;go_wp2;go_ret;exact ⟨rS_,dR_⟩
/-! Numbers of up to three digits, read back: the reference's l1Read, the library's Atoi. -/
def foldD (a:Int) (D:List Int):Int:=D.foldl (fun x y=>10 * x + y) a
def Dig (D:List Int):Prop:= ∀ x∈D,0≤x∧x < 10
theorem Dig.one {x:Int} (h0:0≤x) (h:x < 10):Dig [x]:=fun y hy=>by rw [List.mem_singleton.mp hy];exact ⟨h0,h⟩
theorem Dig.snoc {D:List Int} {x:Int} (h:Dig D) (h0:0≤x) (h1:x < 10):Dig (D ++ [x]):=fun y hy=>by
  rcases List.mem_append.mp hy with hy | hy
  · exact h y hy
  · rw [List.mem_singleton.mp hy];exact ⟨h0,h1⟩
theorem foldD_snoc (a:Int) (D:List Int) (x:Int):foldD a (D ++ [x])=10 * foldD a D + x:=by unfold foldD;rw [List.foldl_append];rfl
theorem decB_text1 {n:Nat} (h:n < 10):decB (n:Int)=textB [(n:Int)]:=decB_one (by omega) (by omega)
theorem decB_digits {n:Nat} (h:n < 1000) : ∃ D,decB (n:Int)=textB D∧Dig D∧foldD 0 D=n∧1≤D.length∧D.length≤3∧(D.length > 1→D.headD 0≠0):=by
  by_cases h1:n < 10
  · exact ⟨[(n:Int)],decB_text1 h1,Dig.one (by omega) (by omega),by unfold foldD;simp,by simp,by simp,fun h=>absurd h (by simp)⟩
  · by_cases h2:n < 100
    · refine ⟨[((n / 10:Nat):Int)] ++ [((n % 10:Nat):Int)],?_,Dig.snoc (Dig.one (by omega) (by omega)) (by omega) (by omega),?_,by simp,by simp,fun _=>?_⟩
      · rw [decB_step (by omega),decB_text1 (by omega),textB_app]
      · rw [foldD_snoc];unfold foldD;simp;omega
      · simp;omega
    · refine ⟨([((n / 100:Nat):Int)] ++ [((n / 10 % 10:Nat):Int)]) ++ [((n % 10:Nat):Int)],?_,Dig.snoc (Dig.snoc (Dig.one (by omega) (by omega)) (by omega) (by omega)) (by omega) (by omega),?_,by simp,by simp,fun _=>?_⟩
      · rw [decB_step (by omega),decB_step (n:=n / 10) (by omega),show n / 10 / 10=n / 100 by omega,decB_text1 (by omega),textB_app,textB_app]
      · rw [foldD_snoc,foldD_snoc];unfold foldD;simp;omega
      · simp;omega
theorem spec_l1Read.levD (D:List Int) (hD:Dig D) (hl:D.length≤6) : ∀ (m i:Nat) (a:Int),i + m=D.length→0≤a→a < 10 ^ (i + 1)→Ev (fun k=>spec_l1Read.l0 k (textB D) a (i:Nat)) (foldD a (D.drop i)):=by
  intro m
  induction m with
  | zero =>
    intro i a hi h0 h1
    have hz:=textB_size D
    refine Ev.step (fun k=>rfl) (Ev.no (by omega) (Ev.id ?_))
    rw [List.drop_eq_nil_of_le (by omega)];rfl
  | succ m ih =>
    intro i a hi h0 h1
    have hz:=textB_size D
    have hlt:i < D.length:=by omega
    have hx:=hD D[i] (List.getElem_mem hlt)
    have hb:=bt_textB (D:=D) hD hlt
    have hp:(10:Int) ^ (i + 1)≤10 ^ 6:=pow_mono (by omega) (by omega)
    have ha:a < 1000000:=by
      have:(10:Int) ^ 6=1000000:=by decide
      omega
    refine Ev.step (fun k=>rfl) (Ev.yes (by omega) (Ev.yes (by omega) (Ev.no (by omega) (Ev.no (by omega) ?_))))
    have e:wrap64 ((wrap64 (10 * a)) + (((bt (textB D) (i:Nat)) - 48) % 256))=10 * a + D[i]:=by
      rw [hb,w64 (x:=10 * a) (by omega) (by omega),w64 (by omega) (by omega)];omega
    rw [e,show wrap64 ((i:Int) + 1)=((i + 1:Nat):Int) from w64 (by omega) (by omega),List.drop_eq_getElem_cons hlt]
    exact ih (i + 1) (10 * a + D[i]) (by omega) (by omega) (by rw [Int.pow_succ];omega)
theorem spec_l1Read.text {D:List Int} (hD:Dig D) (h1:1≤D.length) (h3:D.length≤3) (hh:D.length > 1→D.headD 0≠0):Ev (fun k=>spec_l1Read.f k (textB D)) (foldD 0 D):=by
  have hz:=textB_size D
  have hb:=bt_textB (D:=D) hD (i:=0) (by omega)
  have hb:bt (textB D) 0=48 + D[0]:=hb
  have hgo:=spec_l1Read.levD D hD (by omega) D.length 0 0 (by omega) (by omega) (by decide)
  rw [List.drop_zero] at hgo
  have hgo:Ev (fun k=>spec_l1Read.l0 k (textB D) 0 0) (foldD 0 D):=hgo
  have hd:D.headD 0=D[0]:=by
    cases D with
    | nil=>simp at h1
    | cons x t=>rfl
  unfold spec_l1Read.f
  refine Ev.bindc (spec_l1In.bs _ _ _) (Ev.yes (decide_eq_true (by omega)) (Ev.yes (by omega) ?_))
  by_cases c:bt (textB D) 0=48
  · have : ¬ (D.length > 1):=fun h=>hh h (by omega)
    refine Ev.yes c (Ev.step (fun k=>rfl) ?_)
    simp only [spec_l1Read.j0]
    exact Ev.no (by simp;omega) hgo
  · refine Ev.no c (Ev.step (fun k=>rfl) ?_)
    simp only [spec_l1Read.j0]
    exact Ev.no (by simp) hgo
theorem spec_l1Read.num {n:Int} (h0:0≤n) (h:n < 1000):Ev (fun k=>spec_l1Read.f k (decB n)) n:=by
  obtain ⟨n,rfl⟩:=Int.eq_ofNat_of_zero_le h0
  obtain ⟨D,e,hD,hf,h1,h3,hh⟩:=decB_digits (n:=n) (by omega)
  rw [e]
  refine Ev.eq (spec_l1Read.text hD h1 h3 hh) hf
theorem parse_text : ∀ (D:List Int) (a:Nat),Dig D→(a + 1) * 10 ^ D.length≤10 ^ 9→Lib.parseUint10 a ((textB D).data.toList) = .ok (foldD (a:Int) D).toNat
  | [], a, _, _ => by
    show Lib.parseUint10 a []=_
    unfold Lib.parseUint10 foldD
    simp
  | x :: t, a, hD, ha => by
    have hx:=hD x List.mem_cons_self
    have ht:Dig t:=fun z hz=>hD z (List.mem_cons_of_mem _ hz)
    have hpos:1≤10 ^ (x :: t).length:=Nat.pow_le_pow_right (n:=10) (by omega) (Nat.zero_le (x :: t).length)
    have h1:a + 1≤10 ^ 9:=Nat.le_trans (Nat.le_mul_of_pos_right _ hpos) ha
    have h9:(10:Nat) ^ 9=1000000000:=by decide
    have hb:=digB x.toNat (by omega)
    have ih:=parse_text t (a * 10 + x.toNat) ht (by
      refine Nat.le_trans ?_ ha
      rw [List.length_cons,Nat.pow_succ,Nat.mul_comm (10 ^ t.length) 10,←Nat.mul_assoc]
      exact Nat.mul_le_mul_right _ (by omega))
    have e:(textB (x :: t)).data.toList=UInt8.ofNat (48 + x.toNat) :: (textB t).data.toList:=by
      rw [textB_bytes hD,textB_bytes ht];rfl
    rw [e]
    generalize UInt8.ofNat (48 + x.toNat)=b at hb
    have e2:Lib.parseUint10 a (b :: (textB t).data.toList)=if 48≤b.toNat∧b.toNat≤57 then (if 1844674407370955162≤a then .range else if 18446744073709551616≤a * 10 + (b.toNat - 48) then .range else Lib.parseUint10 (a * 10 + (b.toNat - 48)) (textB t).data.toList) else Lib.NumEnd.syntax:=by
      conv=>lhs;unfold Lib.parseUint10
    rw [e2,if_pos (by omega),if_neg (by omega),if_neg (by omega),show b.toNat - 48=x.toNat by omega,ih]
    congr 2
    show foldD ((a * 10 + x.toNat:Nat):Int) t=foldD (10 * (a:Int) + x) t
    congr 1
    omega
theorem atoiV_num {n:Int} (h0:0≤n) (h:n < 1000):atoiV (decB n)=n:=by
  obtain ⟨n,rfl⟩:=Int.eq_ofNat_of_zero_le h0
  obtain ⟨D,e,hD,hf,h1,h3,hh⟩:=decB_digits (n:=n) (by omega)
  refine atoiV_of ?_
  rw [e]
  have hp:=parse_text D 0 hD (by
    have:(10:Nat) ^ D.length≤10 ^ 9:=Nat.pow_le_pow_right (by omega) (by omega)
    omega)
  rw [show ((0:Nat):Int)=0 from rfl,hf,Int.toNat_natCast] at hp
  cases D with
  | nil=>simp at h1
  | cons x t =>
    have hx:=hD x List.mem_cons_self
    have hb:=digB x.toNat (by omega)
    have e3:(textB (x :: t)).data.toList=UInt8.ofNat (48 + x.toNat) :: t.map (fun x=>UInt8.ofNat (48 + x.toNat)):=by
      rw [textB_bytes hD];rfl
    rw [e3] at hp ⊢
    generalize UInt8.ofNat (48 + x.toNat)=b at hb hp
    generalize t.map (fun x=>UInt8.ofNat (48 + x.toNat))=r at hp
    have hm:Lib.parseMag (b :: r) = .ok n:=by
      unfold Lib.parseMag
      rw [if_neg (by simp)]
      exact hp
    unfold Lib.atoiAll
    simp only
    rw [if_neg (by omega),hm]
    simp only
    rw [if_neg (by omega),if_neg (by omega),if_neg (by omega)]
/-! What is in a joined row. -/
theorem mem_join {sep:List UInt8} {b:UInt8} : ∀ (xs:List (List UInt8)),b∈Lib.join xs sep→b∈sep∨∃ x∈xs,b∈x
  | [],h=>by rw [Lib.join_nil] at h;cases h
  | x :: r, h => by
    rw [Lib.join_cons] at h
    rcases List.mem_append.mp h with h | h
    · exact .inr ⟨x,List.mem_cons_self,h⟩
    · unfold Lib.joinTail at h
      obtain ⟨l,hl,hb⟩:=List.mem_flatten.mp h
      obtain ⟨y,hy,rfl⟩:=List.mem_map.mp hl
      rcases List.mem_append.mp hb with hb | hb
      · exact .inl hb
      · exact .inr ⟨y,List.mem_cons_of_mem _ hy,hb⟩
/-! Texts of digits bear no other signs. -/
theorem textB_ne {r:List Int} (h : ∀ x∈r,0≤x∧x < 10) {c:UInt8} (hc:c.toNat < 48) : ∀ b∈(textB r).data.toList,b≠c:=by
  rw [textB_bytes h]
  intro b hb e
  obtain ⟨x,hx,rfl⟩:=List.mem_map.mp hb
  have J:=h x hx
  have:=digB x.toNat (by omega)
  rw [e] at this
  omega
theorem textB_ne2 {r:List Int} (h : ∀ x∈r,0≤x∧x < 10) {c:UInt8} (hc:57 < c.toNat) : ∀ b∈(textB r).data.toList,b≠c:=by
  rw [textB_bytes h]
  intro b hb e
  obtain ⟨x,hx,rfl⟩:=List.mem_map.mp hb
  have J:=h x hx
  have:=digB x.toNat (by omega)
  rw [e] at this
  omega
/-! A clue read out of a list, by a natural number. -/
theorem rd_clueN {xs:List S48} {i:Nat} (h:i < xs.length):rd_T48 xs (i:Nat)=xs[i]:=by
  rw [rd_clue (by simpa using h)];simp
/-! ### impl_lockText: function 73 -/
def impl_lockText.f (Z:Int) (a1:Int):Option (ByteArray):=(strconv_Itoa.f Z).bind fun J=>(if J.size + 1≤9223372036854775807 then ((strconv_Itoa.f a1).bind fun Y=>(if (J ++ (⟨#[120]⟩:ByteArray)).size + Y.size≤9223372036854775807 then (some ((J ++ (⟨#[120]⟩:ByteArray)) ++ Y)) else (none))) else (none))
def impl_lockText.T1:Bool×List (List Nat×List Nat):=(true,[([],[]),([0],[0]),([1],[1]),([2],[2]),([],[]),([4],[4]),([5,2],[5]),([3,6],[3,6]),([7,6,0,1,2,3,4,5,6,7],[7])])
def impl_lockText.B1:List Nat:=[0,1,3,7,0,16,55,127,255]
theorem impl_lockText.tab1:rtab .any (opsOf Tryz.f73 1)=impl_lockText.T1:=by kernel_rfl
theorem impl_lockText.bits1:waitsOk impl_lockText.T1.2 impl_lockText.B1=true:=by kernel_rfl
set_option maxHeartbeats 8000000 in
set_option maxRecDepth 100000 in
theorem impl_lockText.calls (Z:Int) (a1:Int) (r:ByteArray) (w:World) (h:impl_lockText.f Z a1=some r) :
    Calls Tryz.prog 73 #[.agg #[.int .i64 Z, .int .i64 a1]] w fun e w'=>e = .returned (.string r)∧Below w.heap.size w w':=by
  have ab:=Tryz.underlying25;have HB:=amk (Below.refl w.heap.size w);unfold impl_lockText.f at h;have H:=h;clear h;replace H:=bE H;obtain ⟨Y,A2,H⟩:=H
  by_cases c3:Y.size + 1≤9223372036854775807
  · rw [if_pos c3] at H;have ac:=eq_true c3;have ae:decide (Y.size + 1≤9223372036854775807)=true:=decide_eq_true c3;(try have af:(9223372036854775807 < Y.size + 1)=False:=eq_false (Nat.not_lt.2 c3));replace H:=bE H;obtain ⟨a6,A4,H⟩:=H
    by_cases c5:(Y ++ (⟨#[120]⟩:ByteArray)).size + a6.size≤9223372036854775807
    · rw [if_pos c5] at H;have ag:=eq_true c5;have ah:decide ((Y ++ (⟨#[120]⟩:ByteArray)).size + a6.size≤9223372036854775807)=true:=decide_eq_true c5;(try have ai:(9223372036854775807 < (Y ++ (⟨#[120]⟩:ByteArray)).size + a6.size)=False:=eq_false (Nat.not_lt.2 c5));(try have aj:(9223372036854775807 < Y.size + 1 + a6.size)=False:=eq_false (by have h9:=Nat.not_lt.2 c5;simp only [ByteArray.size_append] at h9;exact h9));(try have ak:decide (Y.size + 1 + a6.size≤9223372036854775807)=true:=decide_eq_true (by have h9:=c5;simp only [ByteArray.size_append] at h9;exact h9));obtain rfl:=Option.some.inj H;go_enter Tryz.func73,Tryz.ntmps73;(try go_wp2_with (first | ((with_reducible refine gate_dst (N:=1) rfl ?_);refine boxE_ HB 1 #[.int .i64 Z, .int .i64 a1] 25 ?_;clear HB;intro a7 w6 HB J a8 aa hb;clear hb)));replace J:=amk (blk_drew J.out);replace HB:=amk (bd_ HB.out);refine start_ (n:=9) (S:=fun w'=>w'.cell? ⟨a7,0,none⟩=some (.int .i64 Z)∧w'.cell? ⟨a7,1,none⟩=some (.int .i64 a1)) (ds:=[]) (bA 9 0) (by kernel_rfl) rfl rfl ⟨(blk_cell J.out 0).trans rfl,(blk_cell J.out 1).trans rfl⟩ (fun hHeld=>?_);refine with_tabW impl_lockText.tab1 impl_lockText.bits1 (fun HT_ HW_=>?_);generalize w6.drew=w7 at J HB hHeld ⊢;refine pU_ HT_ 0 (some 3) (bA 9 1) ?_;refine pU_ HT_ 4 (some 7) (bA 9 17) ?_;refine tK_ HT_ HW_ hHeld 1 (some 4) (bA 9 19) ?_;refine tK_ HT_ HW_ hHeld 5 (some 8) (bA 9 51) ?_;refine oN_ HT_ 2 (some 5) (bA 9 55) (fun K hK=>?_);refine goes_ Tryz.func72 (by kernel_rfl) rfl #[.int .i64 Z] (by rfl) rfl rfl gL_ ?_;(with_reducible refine (strconv_Itoa.calls Z Y _ A2.out).mono ?_);rintro e w8 ⟨rfl,hb⟩;refine ⟨_,rfl,?_⟩;replace J:=kb2 J hb;replace HB:=hB2 HB hb;(try clear hb);refine hK.out _ _ hC_ (fun hHeld=>?_);clear hK K;refine nN_ (some 5) ?_;refine pU_ HT_ 3 (some 6) (bA 9 63) ?_;refine oN_ HT_ 6 (some 9) (bA 9 127) (fun K hK=>?_);refine goes_ Tryz.func72 (by kernel_rfl) rfl #[.int .i64 a1] (by rfl) rfl rfl gL_ ?_;(with_reducible refine (strconv_Itoa.calls a1 a6 _ A4.out).mono ?_);rintro e w9 ⟨rfl,hb⟩;refine ⟨_,rfl,?_⟩;replace J:=kb2 J hb;replace HB:=hB2 HB hb;(try clear hb);refine hK.out _ _ hC_ (fun hHeld=>?_);clear hK K;refine nN_ (some 9) ?_;refine pU_ HT_ 7 (some 10) (bA 9 255) ?_;refine pU_ HT_ 8 (some 2) (bA 9 511) ?_;refine done_ (done_of HT_.out (by kernel_rfl)) ?_;(try go_wp2);go_ret;exact ⟨rF_,bB⟩
    · rw [if_neg c5] at H;exact absurd H (by simp)
  · rw [if_neg c3] at H;exact absurd H (by simp)
/-! ### impl_puzzleText: function 45 -/
def impl_puzzleText.l0:Nat→List ByteArray→List (S48)→Int→Int→Int→Int→List (S48)→Option (ByteArray)
  | 0,_,_,_,_,_,_,_=>none
  | k + 1,x3,x8,x9,a1,J,Y,a7=>if a1 < x9 then (if 0≤a1 then (if a1 < (x8.length:Int) then ((strconv_ItoaT.f ((rd_T48 x8 a1).f0)).bind fun Z=>(if Z.size + 1≤9223372036854775807 then ((strconv_ItoaT.f ((rd_T48 x8 a1).f1)).bind fun a6=>(if (Z ++ (⟨#[46]⟩:ByteArray)).size + a6.size≤9223372036854775807 then (if ((Z ++ (⟨#[46]⟩:ByteArray)) ++ a6).size + 1≤9223372036854775807 then ((strconv_ItoaT.f ((rd_T48 x8 a1).f2)).bind fun aa=>(if (((Z ++ (⟨#[46]⟩:ByteArray)) ++ a6) ++ (⟨#[46]⟩:ByteArray)).size + aa.size≤9223372036854775807 then (if x3.length < 8796093022208 then (impl_puzzleText.l0 k (x3 ++ [(((Z ++ (⟨#[46]⟩:ByteArray)) ++ a6) ++ (⟨#[46]⟩:ByteArray)) ++ aa]) x8 x9 (wrap64 (a1 + 1)) J Y a7) else (none)) else (none))) else (none)) else (none))) else (none))) else (none)) else (none)) else ((impl_lockText.f J Y).bind fun a8=>(if a8.size + 1≤9223372036854775807 then ((strings_Join.f x3 (⟨#[44]⟩:ByteArray)).bind fun ab=>(if (a8 ++ (⟨#[58]⟩:ByteArray)).size + ab.size≤9223372036854775807 then (some ((a8 ++ (⟨#[58]⟩:ByteArray)) ++ ab)) else (none))) else (none)))
def impl_puzzleText.f (k:Nat) (Y:Int) (Z:Int) (J:List (S48)):Option (ByteArray):=impl_puzzleText.l0 k (([]:List ByteArray)) J (J.length:Int) 0 Y Z J
def impl_puzzleText.T5:Bool×List (List Nat×List Nat):=(true,[([],[]),([],[]),([1],[1]),([2],[2]),([3],[3]),([],[]),([5],[5]),([6,3],[6]),([4,7],[4,7]),([8],[8]),([],[]),([10],[10]),([11,7],[11]),([9,12],[9,12]),([13],[13]),([0,14,12],[0,14]),([15,15,0,1,2,3,4,5,6,7,8,9,10,11,12,13,14,15],[0,15])])
def impl_puzzleText.B5:List Nat:=[0,0,2,6,14,0,32,110,254,510,0,1024,3310,8190,16382,32767,65535]
theorem impl_puzzleText.tab5:rtab .any (opsOf Tryz.f45 5)=impl_puzzleText.T5:=by kernel_rfl
theorem impl_puzzleText.bits5:waitsOk impl_puzzleText.T5.2 impl_puzzleText.B5=true:=by kernel_rfl
set_option maxHeartbeats 8000000 in
set_option maxRecDepth 100000 in
theorem impl_puzzleText.calls (k:Nat) (ae:Int) (af:Int) (an:Option Addr) (ak:Nat) (Y:List (S48)) (r:ByteArray) (w:World) (ap:Kd.C k48 w an Y.length Y) (ar:Y.length≤ak) (htp:TabP w) (h:impl_puzzleText.f k ae af Y=some r) :
    Calls Tryz.prog 45 #[.agg #[.int .i64 ae, .int .i64 af, .slice an Y.length ak]] w fun e w'=>e = .returned (.string r)∧Below w.heap.size w w':=by
  have HTP:=amk htp;clear htp;have cf:=Tryz.underlying28;have cg:=Tryz.underlying48;have ci:=Tryz.underlying25;have aM:=amk ap;have bj:=amk ar;clear ap ar;have HB:=amk (Below.refl w.heap.size w);unfold impl_puzzleText.f at h;have H:=h;clear h;(try rw [Option.bind_some] at H);generalize au:(([]:List ByteArray))=aW at H;have av:=amk au.symm;clear au;have H':=amk H;clear H;go_enter Tryz.func45,Tryz.ntmps45;go_wp2_with (first | ((with_reducible refine gate_dst (N:=1) rfl ?_);refine boxE_ HB 1 #[.int .i64 ae, .int .i64 af, .slice an Y.length ak] 28 ?_;clear HB;intro ax w2 HB Z bk bl hb;clear hb) | ((with_reducible refine gate_dst (N:=6) rfl ?_);refine Kd.R_lit Kd.string _ 9 ?hg (N:=6) ?hd (xs:=([]:List ByteArray)) (inner:=[]) (ok:=fun _=>True) (okp:=fun _=>True) ?hr ?hp (fun _ hk=>hk) trivial (Below.refl _ _) (Nat.le_refl _) (by simp) ?_;(case hd=>rfl);(case hg=>rfl);(case hr=>first | (go_simp;done) | (go_simp;rfl));(case hp=>exact (Reps.none _ _));intro cj w3 ay hb hg_ hnew_;clear hg_ hnew_;(first | rw [←av.out] at ay | (simp only [Int.reduceToNat] at ay;rw [←av.out] at ay));have aN:=amk (Kd.R_lower ay (below_size bB));replace Z:=kb2 Z hb;replace HB:=hB2 HB hb;clear hb ay;obtain ⟨aE,aG,aH,aI,aJ,aK⟩:=cells3 Z.out))
  go_loopg [3,10] k (fun kq v3 bm w'=> ∃ (aa:List ByteArray) (J:Int),bm = .int .i64 J∧Aside0 (impl_puzzleText.l0 kq aa Y (Y.length:Int) J ae af Y=some r)∧Aside0 (kq≤k)∧Aside0 (Kd.R Kd.string 9 w' w.heap.size (fun _=>True) v3 aa)∧Aside0 (w'.heap[ax]?=some (.cells #[.int .i64 ae, .int .i64 af,(.slice an Y.length ak)] 28 (0,0)))∧Aside0 (Below w.heap.size w w'))
  case atStart=>exact ⟨(aW),(0),rS_,H',⟨Nat.le_refl _⟩,⟨oX aN⟩,⟨kB Z⟩,⟨bB⟩⟩
  case round =>
    clear H';(try clear p2);(try clear c4);(try clear aE);(try clear aG);(try clear aH);(try clear aI);(try clear aJ);(try clear aK);obtain ⟨aa,J,rfl,HA,aX,HO_3,Z,HB⟩:=hrel
    cases gk with
    | zero=>exact absurd HA.out (by simp [impl_puzzleText.l0])
    | succ k1 =>
      have H:=HA.out;clear HA;simp only [impl_puzzleText.l0] at H;replace H:=iteE H;obtain ⟨aY,H⟩ | ⟨aY,H⟩:=H
      · replace H:=iteN H;obtain ⟨ck,H⟩:=H;replace H:=iteN H;obtain ⟨cm,H⟩:=H;replace H:=bE H;obtain ⟨a7,A9,H⟩:=H
        by_cases c10:a7.size + 1≤9223372036854775807
        · rw [if_pos c10] at H;have bn:=eq_true c10;have bo:decide (a7.size + 1≤9223372036854775807)=true:=decide_eq_true c10;(try have bp:(9223372036854775807 < a7.size + 1)=False:=eq_false (Nat.not_lt.2 c10));replace H:=bE H;obtain ⟨a8,bq,H⟩:=H
          by_cases c12:(a7 ++ (⟨#[46]⟩:ByteArray)).size + a8.size≤9223372036854775807
          · rw [if_pos c12] at H;have br:=eq_true c12;have bu:decide ((a7 ++ (⟨#[46]⟩:ByteArray)).size + a8.size≤9223372036854775807)=true:=decide_eq_true c12;(try have bv:(9223372036854775807 < (a7 ++ (⟨#[46]⟩:ByteArray)).size + a8.size)=False:=eq_false (Nat.not_lt.2 c12));(try have bw:(9223372036854775807 < a7.size + 1 + a8.size)=False:=eq_false (by have h9:=Nat.not_lt.2 c12;simp only [ByteArray.size_append] at h9;exact h9));(try have bz:decide (a7.size + 1 + a8.size≤9223372036854775807)=true:=decide_eq_true (by have h9:=c12;simp only [ByteArray.size_append] at h9;exact h9))
            by_cases c13:((a7 ++ (⟨#[46]⟩:ByteArray)) ++ a8).size + 1≤9223372036854775807
            · rw [if_pos c13] at H;have bC:=eq_true c13;have bD:decide (((a7 ++ (⟨#[46]⟩:ByteArray)) ++ a8).size + 1≤9223372036854775807)=true:=decide_eq_true c13;(try have bF:(9223372036854775807 < ((a7 ++ (⟨#[46]⟩:ByteArray)) ++ a8).size + 1)=False:=eq_false (Nat.not_lt.2 c13));(try have bH:(9223372036854775807 < a7.size + 1 + a8.size + 1)=False:=eq_false (by have h9:=Nat.not_lt.2 c13;simp only [ByteArray.size_append] at h9;exact h9));(try have bJ:decide (a7.size + 1 + a8.size + 1≤9223372036854775807)=true:=decide_eq_true (by have h9:=c13;simp only [ByteArray.size_append] at h9;exact h9));replace H:=bE H;obtain ⟨ab,bL,H⟩:=H
              by_cases c15:(((a7 ++ (⟨#[46]⟩:ByteArray)) ++ a8) ++ (⟨#[46]⟩:ByteArray)).size + ab.size≤9223372036854775807
              · rw [if_pos c15] at H;have bM:=eq_true c15;have bN:decide ((((a7 ++ (⟨#[46]⟩:ByteArray)) ++ a8) ++ (⟨#[46]⟩:ByteArray)).size + ab.size≤9223372036854775807)=true:=decide_eq_true c15;(try have bO:(9223372036854775807 < (((a7 ++ (⟨#[46]⟩:ByteArray)) ++ a8) ++ (⟨#[46]⟩:ByteArray)).size + ab.size)=False:=eq_false (Nat.not_lt.2 c15));(try have bQ:(9223372036854775807 < a7.size + 1 + a8.size + 1 + ab.size)=False:=eq_false (by have h9:=Nat.not_lt.2 c15;simp only [ByteArray.size_append] at h9;exact h9));(try have bR:decide (a7.size + 1 + a8.size + 1 + ab.size≤9223372036854775807)=true:=decide_eq_true (by have h9:=c15;simp only [ByteArray.size_append] at h9;exact h9))
                by_cases c16:aa.length < 8796093022208
                · rw [if_pos c16] at H;have aQ:=amk c16;clear c16;(try rw [Option.bind_some] at H);generalize az:((aa ++ [(((a7 ++ (⟨#[46]⟩:ByteArray)) ++ a8) ++ (⟨#[46]⟩:ByteArray)) ++ ab]):List ByteArray)=aZ at H;have aT:=amk az.symm;clear az;have H':=amk H;clear H;have aA:0≤(J:Int):=dA_;have aC:J < (Y.length:Int):=dA_;obtain ⟨aU,b3,ag,ah,ai⟩:=at_T48 aM.out J aA aC;cases b3;replace ag:=(HB.out.cell (World.block_lt_of_cell? w _ ag)).trans ag;replace ah:=(HB.out.cell (World.block_lt_of_cell? w _ ah)).trans ah;replace ai:=(HB.out.cell (World.block_lt_of_cell? w _ ai)).trans ai;replace aA:=eq_true aA;replace aC:=eq_true aC;(try go_wp2_with (first | ((with_reducible refine gate_dst (N:=5) rfl ?_);refine boxG_ 5 #[.int .i64 0, .int .i64 0, .int .i64 0] 48 ?_;intro a6 aD hg a1 hb;replace HO_3:=amk (Kd.R_below (oX HO_3) hb);have bS:=sZ HB hg;have bT:=sZ HB hg;replace HB:=hB2 HB hb;have al:=neL Z hg;have am:=neR Z hg;replace Z:=kb2 Z hb;clear hb hg;have bU:=am.out;have bV:=al.out;obtain ⟨b4,b5,b6,b7,b8,b9⟩:=cells3 a1.out)));have n0_:Aside0 (Kd.R Kd.string 9 (((aD.setCell ⟨a6,0,none⟩ (.int .i64 ((rd_T48 Y J).f0))).setCell ⟨a6,1,none⟩ (.int .i64 ((rd_T48 Y J).f1))).setCell ⟨a6,2,none⟩ (.int .i64 ((rd_T48 Y J).f2))) w.heap.size (fun _=>True) u3 aa):=⟨by (with_reducible repeat (first | apply Kd.R_alloc | apply Kd.R_drewN | apply Kd.R_drew));exact Kd.R_mono (Kd.R_far (p:=⟨a6,2,none⟩) (Kd.R_far (p:=⟨a6,1,none⟩) (Kd.R_far (p:=⟨a6,0,none⟩) (Kd.R_types HO_3.out a1.out (by decide)) (fun _ hk=>hk.2) (.int .i64 ((rd_T48 Y J).f0))) (fun _ hk=>hk.2) (.int .i64 ((rd_T48 Y J).f1))) (fun _ hk=>hk.2) (.int .i64 ((rd_T48 Y J).f2))) (fun _ hk=>trivial)⟩;have n1_:Aside0 ((((aD.setCell ⟨a6,0,none⟩ (.int .i64 ((rd_T48 Y J).f0))).setCell ⟨a6,1,none⟩ (.int .i64 ((rd_T48 Y J).f1))).setCell ⟨a6,2,none⟩ (.int .i64 ((rd_T48 Y J).f2))).heap[ax]?=some (.cells #[.int .i64 ae, .int .i64 af, .slice (some aU) Y.length ak] 28 (0,0))):=⟨kB Z⟩;have n2_:Aside0 ((((aD.setCell ⟨a6,0,none⟩ (.int .i64 ((rd_T48 Y J).f0))).setCell ⟨a6,1,none⟩ (.int .i64 ((rd_T48 Y J).f1))).setCell ⟨a6,2,none⟩ (.int .i64 ((rd_T48 Y J).f2))).heap[a6]?=some (.cells #[.int .i64 ((rd_T48 Y J).f0), .int .i64 ((rd_T48 Y J).f1), .int .i64 ((rd_T48 Y J).f2)] 48 (0,0))):=⟨kP a1⟩;have n3_:Aside0 (Below w.heap.size w (((aD.setCell ⟨a6,0,none⟩ (.int .i64 ((rd_T48 Y J).f0))).setCell ⟨a6,1,none⟩ (.int .i64 ((rd_T48 Y J).f1))).setCell ⟨a6,2,none⟩ (.int .i64 ((rd_T48 Y J).f2)))):=⟨bB⟩;(try clear HO_3);(try clear Z);(try clear a1);(try clear HB);generalize (((aD.setCell ⟨a6,0,none⟩ (.int .i64 ((rd_T48 Y J).f0))).setCell ⟨a6,1,none⟩ (.int .i64 ((rd_T48 Y J).f1))).setCell ⟨a6,2,none⟩ (.int .i64 ((rd_T48 Y J).f2)))=bW at n0_ n1_ n2_ n3_ ⊢;have HO_3:=n0_;have Z:=n1_;have a1:=n2_;have HB:=n3_;clear n0_ n1_ n2_ n3_;replace HO_3:=amk (Kd.R_drew HO_3.out);replace Z:=amk (blk_drew Z.out);replace a1:=amk (blk_drew a1.out);replace HB:=amk (bd_ HB.out);refine start_ (n:=17) (S:=fun w'=>w'.cell? ⟨a6,0,none⟩=some (.int .i64 ((rd_T48 Y J).f0))∧w'.cell? ⟨a6,1,none⟩=some (.int .i64 ((rd_T48 Y J).f1))∧w'.cell? ⟨a6,2,none⟩=some (.int .i64 ((rd_T48 Y J).f2))) (ds:=[]) (bA 17 0) (by kernel_rfl) rfl rfl ⟨(blk_cell a1.out 0).trans rfl,(blk_cell a1.out 1).trans rfl,(blk_cell a1.out 2).trans rfl⟩ (fun hHeld=>?_);refine with_tabW impl_puzzleText.tab5 impl_puzzleText.bits5 (fun HT_ HW_=>?_);generalize bW.drew=co at HO_3 Z a1 HB hHeld ⊢;refine pU_ HT_ 0 (some 14) (bA 17 1) ?_;refine pU_ HT_ 1 (some 15) (bA 17 3) ?_;refine pU_ HT_ 5 (some 19) (bA 17 35) ?_;refine pU_ HT_ 10 (some 24) (bA 17 1059) ?_;refine tK_ HT_ HW_ hHeld 2 (some 16) (bA 17 1063) ?_;refine tK_ HT_ HW_ hHeld 6 (some 20) (bA 17 1127) ?_;refine tK_ HT_ HW_ hHeld 11 (some 25) (bA 17 3175) ?_;refine oN_ HT_ 3 (some 17) (bA 17 3183) (fun K hK=>?_);refine goes_ Tryz.func72 (by kernel_rfl) rfl #[.int .i64 ((rd_T48 Y J).f0)] (by rfl) rfl rfl gL_ ?_;(with_reducible refine (strconv_ItoaT.calls ((rd_T48 Y J).f0) a7 _ ?sideT A9.out).mono ?_)
                  case sideT=>exact (HTP.out.below bB)
                  rintro e cp ⟨rfl,hb⟩;refine ⟨_,rfl,?_⟩;replace HO_3:=amk (Kd.R_below (oX HO_3) hb);replace Z:=kb2 Z hb;replace a1:=kb2 a1 hb;replace HB:=hB2 HB hb;(try clear hb);refine hK.out _ _ hC_ (fun hHeld=>?_);clear hK K;refine nN_ (some 17) ?_;refine pU_ HT_ 4 (some 18) (bA 17 3199) ?_;refine oN_ HT_ 7 (some 21) (bA 17 3327) (fun K hK=>?_);refine goes_ Tryz.func72 (by kernel_rfl) rfl #[.int .i64 ((rd_T48 Y J).f1)] (by rfl) rfl rfl gL_ ?_;(with_reducible refine (strconv_ItoaT.calls ((rd_T48 Y J).f1) a8 _ ?sideT bq.out).mono ?_)
                  case sideT=>exact (HTP.out.below bB)
                  rintro e cq ⟨rfl,hb⟩;refine ⟨_,rfl,?_⟩;replace HO_3:=amk (Kd.R_below (oX HO_3) hb);replace Z:=kb2 Z hb;replace a1:=kb2 a1 hb;replace HB:=hB2 HB hb;(try clear hb);refine hK.out _ _ hC_ (fun hHeld=>?_);clear hK K;refine nN_ (some 21) ?_;refine pU_ HT_ 8 (some 22) (bA 17 3583) ?_;refine pU_ HT_ 9 (some 23) (bA 17 4095) ?_;refine oN_ HT_ 12 (some 26) (bA 17 8191) (fun K hK=>?_);refine goes_ Tryz.func72 (by kernel_rfl) rfl #[.int .i64 ((rd_T48 Y J).f2)] (by rfl) rfl rfl gL_ ?_;(with_reducible refine (strconv_ItoaT.calls ((rd_T48 Y J).f2) ab _ ?sideT bL.out).mono ?_)
                  case sideT=>exact (HTP.out.below bB)
                  rintro e cr ⟨rfl,hb⟩;refine ⟨_,rfl,?_⟩;replace HO_3:=amk (Kd.R_below (oX HO_3) hb);replace Z:=kb2 Z hb;replace a1:=kb2 a1 hb;replace HB:=hB2 HB hb;(try clear hb);refine hK.out _ _ hC_ (fun hHeld=>?_);clear hK K;refine nN_ (some 26) ?_;refine pU_ HT_ 13 (some 27) (bA 17 16383) ?_;refine oN_ HT_ 14 (some 28) (bA 17 32767) (fun K hK=>?_);refine value_ (w1:=?_) (v:=?_) (by rfl) rfl ?_ ?_;rotate_left 2
                  · go_simp
                    constructor
                    · rfl
                    · rfl
                  refine hK.out _ _ ⟨(blk_cell (ka_ a1.out _) 0).trans rfl,(blk_cell (ka_ a1.out _) 1).trans rfl,(blk_cell (ka_ a1.out _) 2).trans rfl⟩ (fun hHeld=>?_);clear hK K;refine nN_ (some 28) ?_;refine oN_ HT_ 15 (some 29) (bA 17 65535) (fun K hK=>?_);refine Kd.R_append_step Kd.string (w0:=w) w.heap.size (by rfl) (.tmp 14) (.tmp 28) 30 9 (.string ⟨#[]⟩) 16 rfl Tryz.underlying30 info9 rfl (by decide) (by omega) u3 aa ((((a7 ++ (⟨#[46]⟩:ByteArray)) ++ a8) ++ (⟨#[46]⟩:ByteArray)) ++ ab) [.string ((((a7 ++ (⟨#[46]⟩:ByteArray)) ++ a8) ++ (⟨#[46]⟩:ByteArray)) ++ ab)] (fun _=>True) (fun _=>False) rfl rfl ?aP (fun _ hk=>hk.elim) ?aF ?aO ?aB ?aS ?aL ?_;(case aP=>exact rfl);(case aB=>exact bB);(case aF=>exact (fun _ _=>trivial));(case aO=>exact (oX HO_3));(case aS=>exact (below_size bB));(case aL=>have:=aQ.out;omega);intro cn cu ho hb hg hat;rw [←aT.out] at ho;replace Z:=bG Z hg (Kd.R_ne HO_3.out Z.out (by decide));replace a1:=bG a1 hg (Kd.R_ne HO_3.out a1.out (by decide));replace HB:=amk (hb);have aV:=amk (ho);clear HO_3;clear ho hb hg hat;refine hK.out _ _ hC_ (fun hHeld=>?_);clear hK K;refine nN_ (some 29) ?_;refine pU_ HT_ 16 (some 3) (bA 17 131071) ?_;refine done_ (done_of HT_.out (by kernel_rfl)) ?_;(try go_wp2);go_roundg k1
                  case measure=>have:=aX.out;omega
                  case rel=>exact ⟨(aZ),(wrap64 (J + 1)),rS_,H',⟨by have:=aX.out;omega⟩,⟨oX aV⟩,⟨kB Z⟩,⟨bB⟩⟩
                · rw [if_neg c16] at H;exact absurd H (by simp)
              · rw [if_neg c15] at H;exact absurd H (by simp)
            · rw [if_neg c13] at H;exact absurd H (by simp)
          · rw [if_neg c12] at H;exact absurd H (by simp)
        · rw [if_neg c10] at H;exact absurd H (by simp)
      · replace H:=bE H;obtain ⟨ac,bX,H⟩:=H
        by_cases c27:ac.size + 1≤9223372036854775807
        · rw [if_pos c27] at H;have bY:=eq_true c27;have bZ:decide (ac.size + 1≤9223372036854775807)=true:=decide_eq_true c27;(try have c6:(9223372036854775807 < ac.size + 1)=False:=eq_false (Nat.not_lt.2 c27));replace H:=bE H;obtain ⟨aj,c7,H⟩:=H
          by_cases c29:(ac ++ (⟨#[58]⟩:ByteArray)).size + aj.size≤9223372036854775807
          · rw [if_pos c29] at H;have c8:=eq_true c29;have ca:decide ((ac ++ (⟨#[58]⟩:ByteArray)).size + aj.size≤9223372036854775807)=true:=decide_eq_true c29;(try have cb:(9223372036854775807 < (ac ++ (⟨#[58]⟩:ByteArray)).size + aj.size)=False:=eq_false (Nat.not_lt.2 c29));(try have cd:(9223372036854775807 < ac.size + 1 + aj.size)=False:=eq_false (by have h9:=Nat.not_lt.2 c29;simp only [ByteArray.size_append] at h9;exact h9));(try have ce:decide (ac.size + 1 + aj.size≤9223372036854775807)=true:=decide_eq_true (by have h9:=c29;simp only [ByteArray.size_append] at h9;exact h9));obtain rfl:=Option.some.inj H;obtain ⟨ba,bb,bc,bd,be,bf⟩:=cells3 Z.out;go_wp2_with (first | ((with_reducible refine gate_callee (f:=73) rfl ?_);refine goesL_ (some 33) rfl rfl Tryz.func73 (by kernel_rfl) rfl #[.agg #[.int .i64 ae, .int .i64 af]] rfl gL_ ?_;(with_reducible refine (impl_lockText.calls ae af ac _ bX.out).mono ?_);rintro e cv ⟨rfl,hb⟩;refine ⟨_,rfl,?_⟩;replace HO_3:=amk (Kd.R_below (oX HO_3) hb);replace Z:=kb2 Z hb;replace HB:=hB2 HB hb;(try clear hb);obtain ⟨bg,bh,bi⟩:=Kd.R_slice HO_3.out;subst bi) | ((with_reducible refine gate_callee (f:=74) rfl ?_);refine goesL_ (some 36) rfl rfl Tryz.func74 (by kernel_rfl) rfl #[.slice bg aa.length bh, .string (⟨#[44]⟩:ByteArray)] rfl gL_ ?_;(with_reducible refine (strings_Join.calls _ _ aa (⟨#[44]⟩:ByteArray) aj _ ?_ ?_ c7.out).mono ?_);exact cB ((Kd.R_reads' HO_3.out).2.2);exact (Kd.R_reads' HO_3.out).2.1;rintro e cw ⟨rfl,hb⟩;refine ⟨_,rfl,?_⟩;replace HO_3:=amk (Kd.R_below (oX HO_3) hb);replace Z:=kb2 Z hb;replace HB:=hB2 HB hb;(try clear hb)));go_ret;exact ⟨rF_,bB⟩
          · rw [if_neg c29] at H;exact absurd H (by simp)
        · rw [if_neg c27] at H;exact absurd H (by simp)
/-! ### impl_IsLock: function 51 -/
def impl_IsLock.f (J:Int) (Y:Int):Option (Bool):=(impl_within.f J 1 6).bind fun Z=>(if Z=true then ((impl_within.f Y 2 10).bind fun t105=>(some t105)) else (some false))
set_option maxHeartbeats 8000000 in
set_option maxRecDepth 100000 in
theorem impl_IsLock.calls (J:Int) (Y:Int) (r:Bool) (w:World) (h:impl_IsLock.f J Y=some r) :
    Calls Tryz.prog 51 #[.agg #[.int .i64 J, .int .i64 Y]] w fun e w'=>e = .returned (.bool r)∧Below w.heap.size w w':=by
  have ai:=Tryz.underlying25;have HB:=amk (Below.refl w.heap.size w);unfold impl_IsLock.f at h;have H:=h;clear h;replace H:=bE H;obtain ⟨aj,A2,H⟩:=H;replace H:=iteB H;obtain ⟨rfl,H⟩ | ⟨rfl,H⟩:=H
  · replace H:=bE H;obtain ⟨t105,A4,H⟩:=H;obtain rfl:=Option.some.inj H;go_enter Tryz.func51,Tryz.ntmps51;go_wp2_with (first | ((with_reducible refine gate_dst (N:=1) rfl ?_);refine boxE_ HB 1 #[.int .i64 J, .int .i64 Y] 25 ?_;clear HB;intro a1 w5 HB Z a6 a7 hb;clear hb;obtain ⟨a8,aa,ab,ac⟩:=cells2 Z.out) | ((with_reducible refine gate_callee (f:=54) rfl ?_);refine goesL_ (some 5) rfl rfl Tryz.func54 (by kernel_rfl) rfl #[.int .i64 J, .int .i64 1, .int .i64 6] rfl gL_ ?_;(with_reducible refine (impl_within.calls J 1 6 true _ A2.out).mono ?_);rintro e w' ⟨rfl,⟨nd,rfl⟩⟩;refine ⟨_,rfl,?_⟩) | (go_at_call 54;(with_reducible refine (impl_within.calls Y 2 10 t105 _ A4.out).mono ?_);rintro e w' ⟨rfl,⟨nd,rfl⟩⟩));go_ret;exact ⟨rF_,bB⟩
  · obtain rfl:=Option.some.inj H;go_enter Tryz.func51,Tryz.ntmps51;go_wp2_with (first | ((with_reducible refine gate_dst (N:=1) rfl ?_);refine boxE_ HB 1 #[.int .i64 J, .int .i64 Y] 25 ?_;clear HB;intro a1 w7 HB Z a6 a7 hb;clear hb;obtain ⟨ae,af,ag,ah⟩:=cells2 Z.out) | ((with_reducible refine gate_callee (f:=54) rfl ?_);refine goesL_ (some 5) rfl rfl Tryz.func54 (by kernel_rfl) rfl #[.int .i64 J, .int .i64 1, .int .i64 6] rfl gL_ ?_;(with_reducible refine (impl_within.calls J 1 6 false _ A2.out).mono ?_);rintro e w' ⟨rfl,⟨nd,rfl⟩⟩;refine ⟨_,rfl,?_⟩));go_ret;exact ⟨rF_,bB⟩
/-! ### impl_power: function 71 -/
def impl_power.l0:Nat→Int→Int→Int→Int→Option (Int)
  | 0,_,_,_,_=>none
  | k + 1,x0,x5,x6,x7=>if x7 < x6 then (impl_power.l0 k x0 (wrap64 (x5 * x0)) x6 (wrap64 (x7 + 1))) else (some x5)
def impl_power.f (k:Nat) (a0:Int) (a1:Int):Option (Int):=impl_power.l0 k a0 1 a1 0
set_option maxHeartbeats 8000000 in
set_option maxRecDepth 100000 in
theorem impl_power.calls (k:Nat) (a0:Int) (a1:Int) (r:Int) (w:World) (h:impl_power.f k a0 a1=some r) :
    Calls Tryz.prog 71 #[.int .i64 a0, .int .i64 a1] w fun e w'=>e = .returned (.int .i64 r)∧Drawn0 w w':=by
  unfold impl_power.f at h;have H:=h;clear h;have H':=amk H;clear H;go_enter Tryz.func71,Tryz.ntmps71;go_wp2
  go_loopg [5,7] k (fun kq v5 v7 w'=> ∃ (J:Int) (Y:Int),v5 = .int .i64 J∧v7 = .int .i64 Y∧Aside0 (impl_power.l0 kq a0 J a1 Y=some r)∧Aside0 (kq≤k)∧Drawn0 w w')
  case atStart=>exact ⟨(1),(0),rS_,rS_,H',⟨Nat.le_refl _⟩,dR_⟩
  case round =>
    clear H';(try clear p2);obtain ⟨J,Y,rfl,rfl,HA,Z,⟨m1,rfl⟩⟩:=hrel
    cases gk with
    | zero=>exact absurd HA.out (by simp [impl_power.l0])
    | succ k1 =>
      have H:=HA.out;clear HA;simp only [impl_power.l0] at H;replace H:=iteE H;obtain ⟨a6,H⟩ | ⟨a6,H⟩:=H
      · have H':=amk H;clear H;go_wp2;go_roundg k1
        case measure=>have:=Z.out;omega
        case rel=>exact ⟨(wrap64 (J * a0)),(wrap64 (Y + 1)),rS_,rS_,H',⟨by have:=Z.out;omega⟩,dR_⟩
      · obtain rfl:=Option.some.inj H;go_wp2;go_ret;exact ⟨rS_,dR_⟩
/-! ### impl_Lock_count: function 44 -/
def impl_Lock_count.f (k:Nat) (J:Int) (Y:Int):Option (Int):=(impl_power.f k Y J).bind fun Z=>(some Z)
set_option maxHeartbeats 8000000 in
set_option maxRecDepth 100000 in
theorem impl_Lock_count.calls (k:Nat) (J:Int) (Y:Int) (r:Int) (w:World) (h:impl_Lock_count.f k J Y=some r) :
    Calls Tryz.prog 44 #[.agg #[.int .i64 J, .int .i64 Y]] w fun e w'=>e = .returned (.int .i64 r)∧Below w.heap.size w w':=by
  have af:=Tryz.underlying25;have HB:=amk (Below.refl w.heap.size w);unfold impl_Lock_count.f at h;have H:=h;clear h;replace H:=bE H;obtain ⟨a1,A2,H⟩:=H;obtain rfl:=Option.some.inj H;go_enter Tryz.func44,Tryz.ntmps44;go_wp2_with (first | ((with_reducible refine gate_dst (N:=1) rfl ?_);refine boxE_ HB 1 #[.int .i64 J, .int .i64 Y] 25 ?_;clear HB;intro ab w3 HB Z ac ae hb;clear hb;obtain ⟨a6,a7,a8,aa⟩:=cells2 Z.out) | ((with_reducible refine gate_callee (f:=71) rfl ?_);refine goesL_ (some 7) rfl rfl Tryz.func71 (by kernel_rfl) rfl #[.int .i64 Y, .int .i64 J] rfl gL_ ?_;(with_reducible refine (impl_power.calls k Y J a1 _ A2.out).mono ?_);rintro e w' ⟨rfl,⟨nd,rfl⟩⟩;refine ⟨_,rfl,?_⟩));go_ret;exact ⟨rF_,bB⟩
/-! ### impl_isSmall: function 76 -/
def impl_isSmall.f (k:Nat) (J:Int) (Y:Int) (a1:Int):Option (Bool):=(impl_IsLock.f J Y).bind fun t107=>(if t107=true then ((impl_Lock_count.f k J Y).bind fun Z=>(some (decide (Z≤a1)))) else (some false))
set_option maxHeartbeats 8000000 in
set_option maxRecDepth 100000 in
theorem impl_isSmall.calls (k:Nat) (Y:Int) (Z:Int) (a1:Int) (r:Bool) (w:World) (h:impl_isSmall.f k Y Z a1=some r) :
    Calls Tryz.prog 76 #[.agg #[.int .i64 Y, .int .i64 Z], .int .i64 a1] w fun e w'=>e = .returned (.bool r)∧Below w.heap.size w w':=by
  have ap:=Tryz.underlying25;have HB:=amk (Below.refl w.heap.size w);unfold impl_isSmall.f at h;have H:=h;clear h;replace H:=bE H;obtain ⟨t107,A3,H⟩:=H;replace H:=iteB H;obtain ⟨rfl,H⟩ | ⟨rfl,H⟩:=H
  · replace H:=bE H;obtain ⟨aa,A5,H⟩:=H;obtain rfl:=Option.some.inj H;go_enter Tryz.func76,Tryz.ntmps76;go_wp2_with (first | ((with_reducible refine gate_dst (N:=2) rfl ?_);refine boxE_ HB 2 #[.int .i64 Y, .int .i64 Z] 25 ?_;clear HB;intro a6 w6 HB J a7 a8 hb;clear hb;obtain ⟨ag,ah,ai,aj⟩:=cells2 J.out) | ((with_reducible refine gate_callee (f:=51) rfl ?_);refine goesL_ (some 6) rfl rfl Tryz.func51 (by kernel_rfl) rfl #[.agg #[.int .i64 Y, .int .i64 Z]] rfl gL_ ?_;(with_reducible refine (impl_IsLock.calls Y Z true _ A3.out).mono ?_);rintro e w8 ⟨rfl,hb⟩;refine ⟨_,rfl,?_⟩;replace J:=kb2 J hb;replace HB:=hB2 HB hb;(try clear hb);obtain ⟨ak,al,am,an⟩:=cells2 J.out) | (go_at_call 44;(with_reducible refine (impl_Lock_count.calls k Y Z aa _ A5.out).mono ?_);rintro e ar ⟨rfl,hb⟩;replace J:=kb2 J hb;replace HB:=hB2 HB hb;(try clear hb)));go_ret;exact ⟨rF_,bB⟩
  · obtain rfl:=Option.some.inj H;go_enter Tryz.func76,Tryz.ntmps76;go_wp2_with (first | ((with_reducible refine gate_dst (N:=2) rfl ?_);refine boxE_ HB 2 #[.int .i64 Y, .int .i64 Z] 25 ?_;clear HB;intro a6 au HB J a7 a8 hb;clear hb;obtain ⟨ab,ac,ae,af⟩:=cells2 J.out) | ((with_reducible refine gate_callee (f:=51) rfl ?_);refine goesL_ (some 6) rfl rfl Tryz.func51 (by kernel_rfl) rfl #[.agg #[.int .i64 Y, .int .i64 Z]] rfl gL_ ?_;(with_reducible refine (impl_IsLock.calls Y Z false _ A3.out).mono ?_);rintro e av ⟨rfl,hb⟩;refine ⟨_,rfl,?_⟩;replace J:=kb2 J hb;replace HB:=hB2 HB hb;(try clear hb)));go_ret;exact ⟨rF_,bB⟩
/-! impl's functions on locks: what they come to. -/
theorem impl_within.is (a b c:Int):impl_within.f a b c=some (decide (b≤a∧a≤c)):=by
  unfold impl_within.f
  by_cases h:b≤a
  · rw [if_pos h];congr 1;simp [h]
  · rw [if_neg h];congr 1;simp [h]
theorem impl_IsLock.is (w d:Int):impl_IsLock.f w d=some (lockB w d):=by
  unfold impl_IsLock.f lockB
  simp only [impl_within.is,Option.bind_some]
  by_cases h:1≤w∧w≤6 <;> simp [h]
theorem impl_power.lev (d:Int) (h1:1≤d) (h2:d≤10) (n:Int) (hn:n≤6) : ∀ (j:Nat) (i:Int),0≤i→i≤n→n - i=j→Ev (fun k=>impl_power.l0 k d (d ^ i.toNat) n i) (d ^ n.toNat):=by
  intro j
  induction j with
  | zero =>
    intro i h0 hi hj
    obtain rfl:i=n:=by omega
    exact Ev.step (fun k=>rfl) (Ev.no (by omega) (Ev.now _))
  | succ j ih =>
    intro i h0 hi hj
    refine Ev.step (fun k=>rfl) (Ev.yes (by omega) ?_)
    have hb:=pow_bound h1 h2 (n:=i.toNat) (by omega)
    have hm:d ^ i.toNat * d=d ^ (i + 1).toNat:=by rw [show (i + 1).toNat=i.toNat + 1 by omega,Int.pow_succ]
    have hb':=pow_bound h1 h2 (n:=(i + 1).toNat) (by omega)
    rw [w64 (x:=i + 1) (by omega) (by omega),hm,w64 (x:=d ^ (i + 1).toNat) (by omega) (by omega)]
    exact ih (i + 1) (by omega) (by omega) (by omega)
theorem impl_power.ev {d n:Int} (h1:1≤d) (h2:d≤10) (h0:0≤n) (hn:n≤6):Ev (fun k=>impl_power.f k d n) (d ^ n.toNat):=by
  have:=impl_power.lev d h1 h2 n hn n.toNat 0 (by omega) (by omega) (by omega)
  unfold impl_power.f
  simpa using this
theorem impl_Lock_count.ev {w d:Int} (h:lockB w d=true):Ev (fun k=>impl_Lock_count.f k w d) (d ^ w.toNat):=by
  obtain ⟨a,b,c,e⟩:=lockB_iff.mp h
  unfold impl_Lock_count.f
  exact Ev.bind (impl_power.ev (by omega) e (by omega) b) (Ev.now _)
theorem impl_isSmall.ev (w d m:Int):Ev (fun k=>impl_isSmall.f k w d m) (smallB w d m):=by
  unfold impl_isSmall.f smallB
  refine Ev.bindc (impl_IsLock.is w d) ?_
  cases h:lockB w d with
  | true=>exact Ev.yes rfl (Ev.bind (impl_Lock_count.ev h) (Ev.id (by simp)))
  | false=>exact Ev.no (by simp) (Ev.id (by simp))
/-! ### impl_isHidden: function 47 -/
def impl_isHidden.f (k:Nat) (J:Int) (Y:Int):Option (Bool):=(impl_isSmall.f k J Y 125).bind fun Z=>(some Z)
set_option maxHeartbeats 8000000 in
set_option maxRecDepth 100000 in
theorem impl_isHidden.calls (k:Nat) (J:Int) (Y:Int) (r:Bool) (w:World) (h:impl_isHidden.f k J Y=some r) :
    Calls Tryz.prog 47 #[.agg #[.int .i64 J, .int .i64 Y]] w fun e w'=>e = .returned (.bool r)∧Below w.heap.size w w':=by
  have af:=Tryz.underlying25;have HB:=amk (Below.refl w.heap.size w);unfold impl_isHidden.f at h;have H:=h;clear h;replace H:=bE H;obtain ⟨a1,A2,H⟩:=H;obtain rfl:=Option.some.inj H;go_enter Tryz.func47,Tryz.ntmps47;go_wp2_with (first | ((with_reducible refine gate_dst (N:=1) rfl ?_);refine boxE_ HB 1 #[.int .i64 J, .int .i64 Y] 25 ?_;clear HB;intro ab w3 HB Z ac ae hb;clear hb;obtain ⟨a6,a7,a8,aa⟩:=cells2 Z.out) | ((with_reducible refine gate_callee (f:=76) rfl ?_);refine goesL_ (some 4) rfl rfl Tryz.func76 (by kernel_rfl) rfl #[.agg #[.int .i64 J, .int .i64 Y], .int .i64 125] rfl gL_ ?_;(with_reducible refine (impl_isSmall.calls k J Y 125 a1 _ A2.out).mono ?_);rintro e w5 ⟨rfl,hb⟩;refine ⟨_,rfl,?_⟩;replace Z:=kb2 Z hb;replace HB:=hB2 HB hb;(try clear hb)));go_ret;exact ⟨rF_,bB⟩
/-! ### impl_IsClue: function 50 -/
def impl_IsClue.f (k:Nat) (Y:Int) (a6:Int) (Z:Int) (J:Int) (a1:Int):Option (Bool):=(impl_isHidden.f k Y a6).bind fun a7=>(if a7=true then (if Z=0 then ((impl_within.f J 0 (wrap64 (Y - 1))).bind fun a8=>(if a8=true then ((impl_within.f a1 0 (wrap64 (a6 - 1))).bind fun aa=>(some aa)) else (some false))) else (if Z=1 then ((impl_within.f J 0 60).bind fun ab=>(if ab=true then (some (a1 == 0)) else (some false))) else (if Z=2 then ((impl_Lock_count.f k Y a6).bind fun ac=>((impl_within.f J 0 (wrap64 (ac - 1))).bind fun ae=>(if ae=true then ((impl_within.f a1 0 Y).bind fun af=>(some af)) else (some false)))) else (if Z=3 then ((impl_Lock_count.f k Y a6).bind fun ag=>((impl_within.f J 0 (wrap64 (ag - 1))).bind fun ah=>(if ah=true then ((impl_within.f a1 0 60).bind fun ai=>(some ai)) else (some false)))) else (if Z=4 then ((impl_within.f J 2 9).bind fun aj=>(if aj=true then ((impl_within.f a1 0 (wrap64 (J - 1))).bind fun ak=>(some ak)) else (some false))) else (some false)))))) else (some false))
def impl_IsClue.T9:Bool×List (List Nat×List Nat):=(true,[([],[]),([0],[0]),([],[]),([2],[2]),([3],[3]),([1,4,3],[1,4]),([5,5],[5]),([6],[6]),([7,6],[6,7]),([6],[6]),([9,6],[6,9]),([8,10,6,6],[6,8,10]),([6,11],[6,11]),([12,11,0,1,2,3,4,5,6,7,8,9,10,11,12],[12])])
def impl_IsClue.B9:List Nat:=[0,1,0,4,12,31,63,127,255,127,639,2047,4095,8191]
theorem impl_IsClue.tab9:rtab .any (opsOf Tryz.f50 9)=impl_IsClue.T9:=by kernel_rfl
theorem impl_IsClue.bits9:waitsOk impl_IsClue.T9.2 impl_IsClue.B9=true:=by kernel_rfl
def impl_IsClue.T11:Bool×List (List Nat×List Nat):=(true,[([],[]),([0],[0]),([],[]),([2],[2]),([3],[3]),([1,4,3],[1,4]),([5,5],[5]),([6],[6]),([7,6],[6,7]),([8,6,6],[6,8]),([6,9],[6,9]),([10,9,0,1,2,3,4,5,6,7,8,9,10],[10])])
def impl_IsClue.B11:List Nat:=[0,1,0,4,12,31,63,127,255,511,1023,2047]
theorem impl_IsClue.tab11:rtab .any (opsOf Tryz.f50 11)=impl_IsClue.T11:=by kernel_rfl
theorem impl_IsClue.bits11:waitsOk impl_IsClue.T11.2 impl_IsClue.B11=true:=by kernel_rfl
set_option maxHeartbeats 8000000 in
set_option maxRecDepth 100000 in
theorem impl_IsClue.calls (k:Nat) (a6:Int) (a7:Int) (a8:Int) (aa:Int) (ae:Int) (r:Bool) (w:World) (h:impl_IsClue.f k a6 a7 a8 aa ae=some r) :
    Calls Tryz.prog 50 #[.agg #[.int .i64 a6, .int .i64 a7], .agg #[.int .i64 a8, .int .i64 aa, .int .i64 ae]] w fun e w'=>e = .returned (.bool r)∧Below w.heap.size w w':=by
  have dZ:=Tryz.underlying25;have e1:=Tryz.underlying48;have HB:=amk (Below.refl w.heap.size w);unfold impl_IsClue.f at h;have H:=h;clear h;replace H:=bE H;obtain ⟨e2,A3,H⟩:=H;replace H:=iteB H;obtain ⟨rfl,H⟩ | ⟨rfl,H⟩:=H
  · by_cases c5:a8=0
    · rw [if_pos c5] at H;have aK:(a8 == 0)=true:=beq_iff_eq.mpr c5;have aM:(a8 != 0)=false:=bne_eq_false_iff_eq.mpr c5;clear c5;replace H:=bE H;obtain ⟨e3,A6,H⟩:=H;replace H:=iteB H;obtain ⟨rfl,H⟩ | ⟨rfl,H⟩:=H
      · replace H:=bE H;obtain ⟨aN,A8,H⟩:=H;obtain rfl:=Option.some.inj H;go_enter Tryz.func50,Tryz.ntmps50;go_wp2_with (first | ((with_reducible refine gate_dst (N:=2) rfl ?_);refine boxE_ HB 2 #[.int .i64 a6, .int .i64 a7] 25 ?_;clear HB;intro ac w9 HB J af ag hb;clear hb) | ((with_reducible refine gate_dst (N:=3) rfl ?_);refine boxG_ 3 #[.int .i64 a8, .int .i64 aa, .int .i64 ae] 48 ?_;intro ab ec hg Y hb;have ah:=sZ HB hg;have ai:=sZ HB hg;replace HB:=hB2 HB hb;have Z:=neL J hg;have a1:=neR J hg;replace J:=kb2 J hb;clear hb hg;have dw:=Z.out;have dx:=a1.out;obtain ⟨aQ,aT,aU,aV⟩:=cells2 J.out) | ((with_reducible refine gate_callee (f:=47) rfl ?_);refine goesL_ (some 6) rfl rfl Tryz.func47 (by kernel_rfl) rfl #[.agg #[.int .i64 a6, .int .i64 a7]] rfl gL_ ?_;(with_reducible refine (impl_isHidden.calls k a6 a7 true _ A3.out).mono ?_);rintro e ed ⟨rfl,hb⟩;refine ⟨_,rfl,?_⟩;replace J:=kb2 J hb;replace Y:=kb2 Y hb;replace HB:=hB2 HB hb;(try clear hb);obtain ⟨aW,aX,aY,aZ,b3,b4⟩:=cells3 Y.out;obtain ⟨b5,b6,b7,b8⟩:=cells2 J.out) | ((with_reducible refine gate_callee (f:=54) rfl ?_);refine goesL_ (some 17) rfl rfl Tryz.func54 (by kernel_rfl) rfl #[.int .i64 aa, .int .i64 0, .int .i64 (wrap64 (a6 - 1))] rfl gL_ ?_;(with_reducible refine (impl_within.calls aa 0 (wrap64 (a6 - 1)) true _ A6.out).mono ?_);rintro e w' ⟨rfl,⟨nd,rfl⟩⟩;refine ⟨_,rfl,?_⟩) | (go_at_call 54;(with_reducible refine (impl_within.calls ae 0 (wrap64 (a7 - 1)) aN _ A8.out).mono ?_);rintro e w' ⟨rfl,⟨nd,rfl⟩⟩));go_ret;exact ⟨rF_,bB⟩
      · obtain rfl:=Option.some.inj H;go_enter Tryz.func50,Tryz.ntmps50;go_wp2_with (first | ((with_reducible refine gate_dst (N:=2) rfl ?_);refine boxE_ HB 2 #[.int .i64 a6, .int .i64 a7] 25 ?_;clear HB;intro ac ee HB J af ag hb;clear hb) | ((with_reducible refine gate_dst (N:=3) rfl ?_);refine boxG_ 3 #[.int .i64 a8, .int .i64 aa, .int .i64 ae] 48 ?_;intro ab ef hg Y hb;have ah:=sZ HB hg;have ai:=sZ HB hg;replace HB:=hB2 HB hb;have Z:=neL J hg;have a1:=neR J hg;replace J:=kb2 J hb;clear hb hg;have dy:=Z.out;have dz:=a1.out;obtain ⟨b9,ba,bb,bc⟩:=cells2 J.out) | ((with_reducible refine gate_callee (f:=47) rfl ?_);refine goesL_ (some 6) rfl rfl Tryz.func47 (by kernel_rfl) rfl #[.agg #[.int .i64 a6, .int .i64 a7]] rfl gL_ ?_;(with_reducible refine (impl_isHidden.calls k a6 a7 true _ A3.out).mono ?_);rintro e eg ⟨rfl,hb⟩;refine ⟨_,rfl,?_⟩;replace J:=kb2 J hb;replace Y:=kb2 Y hb;replace HB:=hB2 HB hb;(try clear hb);obtain ⟨bd,be,bf,bg,bh,bi⟩:=cells3 Y.out;obtain ⟨bj,bk,bl,bm⟩:=cells2 J.out) | ((with_reducible refine gate_callee (f:=54) rfl ?_);refine goesL_ (some 17) rfl rfl Tryz.func54 (by kernel_rfl) rfl #[.int .i64 aa, .int .i64 0, .int .i64 (wrap64 (a6 - 1))] rfl gL_ ?_;(with_reducible refine (impl_within.calls aa 0 (wrap64 (a6 - 1)) false _ A6.out).mono ?_);rintro e w' ⟨rfl,⟨nd,rfl⟩⟩;refine ⟨_,rfl,?_⟩));go_ret;exact ⟨rF_,bB⟩
    · rw [if_neg c5] at H;have aK:(a8 == 0)=false:=beq_eq_false_iff_ne.mpr c5;have aM:(a8 != 0)=true:=bne_iff_ne.mpr c5
      by_cases c23:a8=1
      · rw [if_pos c23] at H;have al:(a8 == 1)=true:=beq_iff_eq.mpr c23;have am:(a8 != 1)=false:=bne_eq_false_iff_eq.mpr c23;clear c23;replace H:=bE H;obtain ⟨e4,bn,H⟩:=H;replace H:=iteB H;obtain ⟨rfl,H⟩ | ⟨rfl,H⟩:=H
        · obtain rfl:=Option.some.inj H;go_enter Tryz.func50,Tryz.ntmps50;go_wp2_with (first | ((with_reducible refine gate_dst (N:=2) rfl ?_);refine boxE_ HB 2 #[.int .i64 a6, .int .i64 a7] 25 ?_;clear HB;intro ac eh HB J af ag hb;clear hb) | ((with_reducible refine gate_dst (N:=3) rfl ?_);refine boxG_ 3 #[.int .i64 a8, .int .i64 aa, .int .i64 ae] 48 ?_;intro ab ei hg Y hb;have ah:=sZ HB hg;have ai:=sZ HB hg;replace HB:=hB2 HB hb;have Z:=neL J hg;have a1:=neR J hg;replace J:=kb2 J hb;clear hb hg;have dA:=Z.out;have dB:=a1.out;obtain ⟨bo,bp,bq,br⟩:=cells2 J.out) | ((with_reducible refine gate_callee (f:=47) rfl ?_);refine goesL_ (some 6) rfl rfl Tryz.func47 (by kernel_rfl) rfl #[.agg #[.int .i64 a6, .int .i64 a7]] rfl gL_ ?_;(with_reducible refine (impl_isHidden.calls k a6 a7 true _ A3.out).mono ?_);rintro e ej ⟨rfl,hb⟩;refine ⟨_,rfl,?_⟩;replace J:=kb2 J hb;replace Y:=kb2 Y hb;replace HB:=hB2 HB hb;(try clear hb);obtain ⟨bu,bv,bw,bz,bC,bD⟩:=cells3 Y.out) | ((with_reducible refine gate_callee (f:=54) rfl ?_);refine goesL_ (some 30) rfl rfl Tryz.func54 (by kernel_rfl) rfl #[.int .i64 aa, .int .i64 0, .int .i64 60] rfl gL_ ?_;(with_reducible refine (impl_within.calls aa 0 60 true _ bn.out).mono ?_);rintro e w' ⟨rfl,⟨nd,rfl⟩⟩;refine ⟨_,rfl,?_⟩));go_ret;exact ⟨rF_,bB⟩
        · obtain rfl:=Option.some.inj H;go_enter Tryz.func50,Tryz.ntmps50;go_wp2_with (first | ((with_reducible refine gate_dst (N:=2) rfl ?_);refine boxE_ HB 2 #[.int .i64 a6, .int .i64 a7] 25 ?_;clear HB;intro ac ek HB J af ag hb;clear hb) | ((with_reducible refine gate_dst (N:=3) rfl ?_);refine boxG_ 3 #[.int .i64 a8, .int .i64 aa, .int .i64 ae] 48 ?_;intro ab em hg Y hb;have ah:=sZ HB hg;have ai:=sZ HB hg;replace HB:=hB2 HB hb;have Z:=neL J hg;have a1:=neR J hg;replace J:=kb2 J hb;clear hb hg;have dC:=Z.out;have dD:=a1.out;obtain ⟨bF,bH,bJ,bL⟩:=cells2 J.out) | ((with_reducible refine gate_callee (f:=47) rfl ?_);refine goesL_ (some 6) rfl rfl Tryz.func47 (by kernel_rfl) rfl #[.agg #[.int .i64 a6, .int .i64 a7]] rfl gL_ ?_;(with_reducible refine (impl_isHidden.calls k a6 a7 true _ A3.out).mono ?_);rintro e en ⟨rfl,hb⟩;refine ⟨_,rfl,?_⟩;replace J:=kb2 J hb;replace Y:=kb2 Y hb;replace HB:=hB2 HB hb;(try clear hb);obtain ⟨bM,bN,bO,bQ,bR,bS⟩:=cells3 Y.out) | ((with_reducible refine gate_callee (f:=54) rfl ?_);refine goesL_ (some 30) rfl rfl Tryz.func54 (by kernel_rfl) rfl #[.int .i64 aa, .int .i64 0, .int .i64 60] rfl gL_ ?_;(with_reducible refine (impl_within.calls aa 0 60 false _ bn.out).mono ?_);rintro e w' ⟨rfl,⟨nd,rfl⟩⟩;refine ⟨_,rfl,?_⟩));go_ret;exact ⟨rF_,bB⟩
      · rw [if_neg c23] at H;have al:(a8 == 1)=false:=beq_eq_false_iff_ne.mpr c23;have am:(a8 != 1)=true:=bne_iff_ne.mpr c23
        by_cases c38:a8=2
        · rw [if_pos c38] at H;have an:(a8 == 2)=true:=beq_iff_eq.mpr c38;have ap:(a8 != 2)=false:=bne_eq_false_iff_eq.mpr c38;clear c38;replace H:=bE H;obtain ⟨aj,bT,H⟩:=H;replace H:=bE H;obtain ⟨e5,bU,H⟩:=H;replace H:=iteB H;obtain ⟨rfl,H⟩ | ⟨rfl,H⟩:=H
          · replace H:=bE H;obtain ⟨bV,dE,H⟩:=H;obtain rfl:=Option.some.inj H;go_enter Tryz.func50,Tryz.ntmps50;(try go_wp2_with (first | ((with_reducible refine gate_dst (N:=2) rfl ?_);refine boxE_ HB 2 #[.int .i64 a6, .int .i64 a7] 25 ?_;clear HB;intro ac eo HB J af ag hb;clear hb) | ((with_reducible refine gate_dst (N:=3) rfl ?_);refine boxG_ 3 #[.int .i64 a8, .int .i64 aa, .int .i64 ae] 48 ?_;intro ab ep hg Y hb;have ah:=sZ HB hg;have ai:=sZ HB hg;replace HB:=hB2 HB hb;have Z:=neL J hg;have a1:=neR J hg;replace J:=kb2 J hb;clear hb hg;have dF:=Z.out;have dG:=a1.out;obtain ⟨bW,bX,bY,bZ⟩:=cells2 J.out) | ((with_reducible refine gate_callee (f:=47) rfl ?_);refine goesL_ (some 6) rfl rfl Tryz.func47 (by kernel_rfl) rfl #[.agg #[.int .i64 a6, .int .i64 a7]] rfl gL_ ?_;(with_reducible refine (impl_isHidden.calls k a6 a7 true _ A3.out).mono ?_);rintro e dH ⟨rfl,hb⟩;refine ⟨_,rfl,?_⟩;replace J:=kb2 J hb;replace Y:=kb2 Y hb;replace HB:=hB2 HB hb;(try clear hb);obtain ⟨c6,c7,c8,ca,cb,cd⟩:=cells3 Y.out)));replace J:=amk (blk_drew J.out);replace Y:=amk (blk_drew Y.out);replace HB:=amk (bd_ HB.out);refine start_ (n:=14) (S:=fun w'=>w'.cell? ⟨ab,0,none⟩=some (.int .i64 a8)∧w'.cell? ⟨ab,1,none⟩=some (.int .i64 aa)∧w'.cell? ⟨ab,2,none⟩=some (.int .i64 ae)∧w'.cell? ⟨ac,0,none⟩=some (.int .i64 a6)∧w'.cell? ⟨ac,1,none⟩=some (.int .i64 a7)) (ds:=[]) (bA 14 0) (by kernel_rfl) rfl rfl ⟨(blk_cell Y.out 0).trans rfl,(blk_cell Y.out 1).trans rfl,(blk_cell Y.out 2).trans rfl,(blk_cell J.out 0).trans rfl,(blk_cell J.out 1).trans rfl⟩ (fun hHeld=>?_);refine with_tabW impl_IsClue.tab9 impl_IsClue.bits9 (fun HT_ HW_=>?_);generalize dH.drew=er at J Y HB hHeld ⊢;refine pU_ HT_ 0 (some 38) (bA 14 1) ?_;refine tK_ HT_ HW_ hHeld 1 (some 39) (bA 14 3) ?_;refine tK_ HT_ HW_ hHeld 2 (some 40) (bA 14 7) ?_;refine oN_ HT_ 3 (some 41) (bA 14 15) (fun K hK=>?_);refine goes_ Tryz.func44 (by kernel_rfl) rfl #[.agg #[.int .i64 a6, .int .i64 a7]] (by rfl) rfl rfl gL_ ?_;(with_reducible refine (impl_Lock_count.calls k a6 a7 aj _ bT.out).mono ?_);rintro e eu ⟨rfl,hb⟩;refine ⟨_,rfl,?_⟩;replace J:=kb2 J hb;replace Y:=kb2 Y hb;replace HB:=hB2 HB hb;(try clear hb);refine hK.out _ _ hC_ (fun hHeld=>?_);clear hK K;refine nN_ (some 41) ?_;refine pU_ HT_ 4 (some 42) (bA 14 31) ?_;refine oN_ HT_ 5 (some 43) (bA 14 63) (fun K hK=>?_);refine goes_ Tryz.func54 (by kernel_rfl) rfl #[.int .i64 aa, .int .i64 0, .int .i64 (wrap64 (aj - 1))] (by rfl) rfl rfl gL_ ?_;(with_reducible refine (impl_within.calls aa 0 (wrap64 (aj - 1)) true _ bU.out).mono ?_);rintro e w' ⟨rfl,⟨nd,rfl⟩⟩;refine ⟨_,rfl,?_⟩;refine hK.out _ _ hC_ (fun hHeld=>?_);clear hK K;refine nN_ (some 43) ?_;refine pU_ HT_ 6 (some 44) (bA 14 127) ?_;refine pU_ HT_ 7 (some 45) (bA 14 255) ?_;refine pU_ HT_ 9 (some 47) (bA 14 767) ?_;refine tK_ HT_ HW_ hHeld 8 (some 46) (bA 14 1023) ?_;refine tK_ HT_ HW_ hHeld 10 (some 48) (bA 14 2047) ?_;refine oN_ HT_ 11 (some 49) (bA 14 4095) (fun K hK=>?_);refine goes_ Tryz.func54 (by kernel_rfl) rfl #[.int .i64 ae, .int .i64 0, .int .i64 a6] (by rfl) rfl rfl gL_ ?_;(with_reducible refine (impl_within.calls ae 0 a6 bV _ dE.out).mono ?_);rintro e w' ⟨rfl,⟨nd,rfl⟩⟩;refine ⟨_,rfl,?_⟩;refine hK.out _ _ hC_ (fun hHeld=>?_);clear hK K;refine nN_ (some 49) ?_;refine pU_ HT_ 12 (some 50) (bA 14 8191) ?_;refine pU_ HT_ 13 (some 4) (bA 14 16383) ?_;refine done_ (done_of HT_.out (by kernel_rfl)) ?_;(try go_wp2);go_ret;exact ⟨rF_,bB⟩
          · obtain rfl:=Option.some.inj H;go_enter Tryz.func50,Tryz.ntmps50;(try go_wp2_with (first | ((with_reducible refine gate_dst (N:=2) rfl ?_);refine boxE_ HB 2 #[.int .i64 a6, .int .i64 a7] 25 ?_;clear HB;intro ac ew HB J af ag hb;clear hb) | ((with_reducible refine gate_dst (N:=3) rfl ?_);refine boxG_ 3 #[.int .i64 a8, .int .i64 aa, .int .i64 ae] 48 ?_;intro ab ey hg Y hb;have ah:=sZ HB hg;have ai:=sZ HB hg;replace HB:=hB2 HB hb;have Z:=neL J hg;have a1:=neR J hg;replace J:=kb2 J hb;clear hb hg;have dI:=Z.out;have dJ:=a1.out;obtain ⟨ce,cf,cg,ci⟩:=cells2 J.out) | ((with_reducible refine gate_callee (f:=47) rfl ?_);refine goesL_ (some 6) rfl rfl Tryz.func47 (by kernel_rfl) rfl #[.agg #[.int .i64 a6, .int .i64 a7]] rfl gL_ ?_;(with_reducible refine (impl_isHidden.calls k a6 a7 true _ A3.out).mono ?_);rintro e dK ⟨rfl,hb⟩;refine ⟨_,rfl,?_⟩;replace J:=kb2 J hb;replace Y:=kb2 Y hb;replace HB:=hB2 HB hb;(try clear hb);obtain ⟨cj,ck,cm,cn,co,cp⟩:=cells3 Y.out)));replace J:=amk (blk_drew J.out);replace Y:=amk (blk_drew Y.out);replace HB:=amk (bd_ HB.out);refine start_ (n:=14) (S:=fun w'=>w'.cell? ⟨ab,0,none⟩=some (.int .i64 a8)∧w'.cell? ⟨ab,1,none⟩=some (.int .i64 aa)∧w'.cell? ⟨ab,2,none⟩=some (.int .i64 ae)∧w'.cell? ⟨ac,0,none⟩=some (.int .i64 a6)∧w'.cell? ⟨ac,1,none⟩=some (.int .i64 a7)) (ds:=[]) (bA 14 0) (by kernel_rfl) rfl rfl ⟨(blk_cell Y.out 0).trans rfl,(blk_cell Y.out 1).trans rfl,(blk_cell Y.out 2).trans rfl,(blk_cell J.out 0).trans rfl,(blk_cell J.out 1).trans rfl⟩ (fun hHeld=>?_);refine with_tabW impl_IsClue.tab9 impl_IsClue.bits9 (fun HT_ HW_=>?_);generalize dK.drew=ez at J Y HB hHeld ⊢;refine pU_ HT_ 0 (some 38) (bA 14 1) ?_;refine tK_ HT_ HW_ hHeld 1 (some 39) (bA 14 3) ?_;refine tK_ HT_ HW_ hHeld 2 (some 40) (bA 14 7) ?_;refine oN_ HT_ 3 (some 41) (bA 14 15) (fun K hK=>?_);refine goes_ Tryz.func44 (by kernel_rfl) rfl #[.agg #[.int .i64 a6, .int .i64 a7]] (by rfl) rfl rfl gL_ ?_;(with_reducible refine (impl_Lock_count.calls k a6 a7 aj _ bT.out).mono ?_);rintro e eA ⟨rfl,hb⟩;refine ⟨_,rfl,?_⟩;replace J:=kb2 J hb;replace Y:=kb2 Y hb;replace HB:=hB2 HB hb;(try clear hb);refine hK.out _ _ hC_ (fun hHeld=>?_);clear hK K;refine nN_ (some 41) ?_;refine pU_ HT_ 4 (some 42) (bA 14 31) ?_;refine oN_ HT_ 5 (some 43) (bA 14 63) (fun K hK=>?_);refine goes_ Tryz.func54 (by kernel_rfl) rfl #[.int .i64 aa, .int .i64 0, .int .i64 (wrap64 (aj - 1))] (by rfl) rfl rfl gL_ ?_;(with_reducible refine (impl_within.calls aa 0 (wrap64 (aj - 1)) false _ bU.out).mono ?_);rintro e w' ⟨rfl,⟨nd,rfl⟩⟩;refine ⟨_,rfl,?_⟩;refine hK.out _ _ hC_ (fun hHeld=>?_);clear hK K;refine nN_ (some 43) ?_;refine pU_ HT_ 6 (some 44) (bA 14 127) ?_;refine pZ_ HT_ 7 (some 45) (bA 14 255) ?_;refine pZ_ HT_ 8 (some 46) (bA 14 511) ?_;refine pZ_ HT_ 9 (some 47) (bA 14 1023) ?_;refine pZ_ HT_ 10 (some 48) (bA 14 2047) ?_;refine pZ_ HT_ 11 (some 49) (bA 14 4095) ?_;refine pU_ HT_ 12 (some 50) (bA 14 8191) ?_;refine pU_ HT_ 13 (some 4) (bA 14 16383) ?_;refine done_ (done_of HT_.out (by kernel_rfl)) ?_;(try go_wp2);go_ret;exact ⟨rF_,bB⟩
        · rw [if_neg c38] at H;have an:(a8 == 2)=false:=beq_eq_false_iff_ne.mpr c38;have ap:(a8 != 2)=true:=bne_iff_ne.mpr c38
          by_cases c59:a8=3
          · rw [if_pos c59] at H;have ar:(a8 == 3)=true:=beq_iff_eq.mpr c59;have au:(a8 != 3)=false:=bne_eq_false_iff_eq.mpr c59;clear c59;replace H:=bE H;obtain ⟨ak,cq,H⟩:=H;replace H:=bE H;obtain ⟨e6,cr,H⟩:=H;replace H:=iteB H;obtain ⟨rfl,H⟩ | ⟨rfl,H⟩:=H
            · replace H:=bE H;obtain ⟨cu,dL,H⟩:=H;obtain rfl:=Option.some.inj H;go_enter Tryz.func50,Tryz.ntmps50;(try go_wp2_with (first | ((with_reducible refine gate_dst (N:=2) rfl ?_);refine boxE_ HB 2 #[.int .i64 a6, .int .i64 a7] 25 ?_;clear HB;intro ac w64 HB J af ag hb;clear hb) | ((with_reducible refine gate_dst (N:=3) rfl ?_);refine boxG_ 3 #[.int .i64 a8, .int .i64 aa, .int .i64 ae] 48 ?_;intro ab eB hg Y hb;have ah:=sZ HB hg;have ai:=sZ HB hg;replace HB:=hB2 HB hb;have Z:=neL J hg;have a1:=neR J hg;replace J:=kb2 J hb;clear hb hg;have dM:=Z.out;have dN:=a1.out;obtain ⟨cv,cw,cx,cy⟩:=cells2 J.out) | ((with_reducible refine gate_callee (f:=47) rfl ?_);refine goesL_ (some 6) rfl rfl Tryz.func47 (by kernel_rfl) rfl #[.agg #[.int .i64 a6, .int .i64 a7]] rfl gL_ ?_;(with_reducible refine (impl_isHidden.calls k a6 a7 true _ A3.out).mono ?_);rintro e dO ⟨rfl,hb⟩;refine ⟨_,rfl,?_⟩;replace J:=kb2 J hb;replace Y:=kb2 Y hb;replace HB:=hB2 HB hb;(try clear hb);obtain ⟨cz,cA,cC,cE,cF,cG⟩:=cells3 Y.out)));replace J:=amk (blk_drew J.out);replace Y:=amk (blk_drew Y.out);replace HB:=amk (bd_ HB.out);refine start_ (n:=12) (S:=fun w'=>w'.cell? ⟨ab,0,none⟩=some (.int .i64 a8)∧w'.cell? ⟨ab,1,none⟩=some (.int .i64 aa)∧w'.cell? ⟨ab,2,none⟩=some (.int .i64 ae)∧w'.cell? ⟨ac,0,none⟩=some (.int .i64 a6)∧w'.cell? ⟨ac,1,none⟩=some (.int .i64 a7)) (ds:=[]) (bA 12 0) (by kernel_rfl) rfl rfl ⟨(blk_cell Y.out 0).trans rfl,(blk_cell Y.out 1).trans rfl,(blk_cell Y.out 2).trans rfl,(blk_cell J.out 0).trans rfl,(blk_cell J.out 1).trans rfl⟩ (fun hHeld=>?_);refine with_tabW impl_IsClue.tab11 impl_IsClue.bits11 (fun HT_ HW_=>?_);generalize dO.drew=eC at J Y HB hHeld ⊢;refine pU_ HT_ 0 (some 53) (bA 12 1) ?_;refine tK_ HT_ HW_ hHeld 1 (some 54) (bA 12 3) ?_;refine tK_ HT_ HW_ hHeld 2 (some 55) (bA 12 7) ?_;refine oN_ HT_ 3 (some 56) (bA 12 15) (fun K hK=>?_);refine goes_ Tryz.func44 (by kernel_rfl) rfl #[.agg #[.int .i64 a6, .int .i64 a7]] (by rfl) rfl rfl gL_ ?_;(with_reducible refine (impl_Lock_count.calls k a6 a7 ak _ cq.out).mono ?_);rintro e eD ⟨rfl,hb⟩;refine ⟨_,rfl,?_⟩;replace J:=kb2 J hb;replace Y:=kb2 Y hb;replace HB:=hB2 HB hb;(try clear hb);refine hK.out _ _ hC_ (fun hHeld=>?_);clear hK K;refine nN_ (some 56) ?_;refine pU_ HT_ 4 (some 57) (bA 12 31) ?_;refine oN_ HT_ 5 (some 58) (bA 12 63) (fun K hK=>?_);refine goes_ Tryz.func54 (by kernel_rfl) rfl #[.int .i64 aa, .int .i64 0, .int .i64 (wrap64 (ak - 1))] (by rfl) rfl rfl gL_ ?_;(with_reducible refine (impl_within.calls aa 0 (wrap64 (ak - 1)) true _ cr.out).mono ?_);rintro e w' ⟨rfl,⟨nd,rfl⟩⟩;refine ⟨_,rfl,?_⟩;refine hK.out _ _ hC_ (fun hHeld=>?_);clear hK K;refine nN_ (some 58) ?_;refine pU_ HT_ 6 (some 59) (bA 12 127) ?_;refine pU_ HT_ 7 (some 60) (bA 12 255) ?_;refine tK_ HT_ HW_ hHeld 8 (some 61) (bA 12 511) ?_;refine oN_ HT_ 9 (some 62) (bA 12 1023) (fun K hK=>?_);refine goes_ Tryz.func54 (by kernel_rfl) rfl #[.int .i64 ae, .int .i64 0, .int .i64 60] (by rfl) rfl rfl gL_ ?_;(with_reducible refine (impl_within.calls ae 0 60 cu _ dL.out).mono ?_);rintro e w' ⟨rfl,⟨nd,rfl⟩⟩;refine ⟨_,rfl,?_⟩;refine hK.out _ _ hC_ (fun hHeld=>?_);clear hK K;refine nN_ (some 62) ?_;refine pU_ HT_ 10 (some 63) (bA 12 2047) ?_;refine pU_ HT_ 11 (some 4) (bA 12 4095) ?_;refine done_ (done_of HT_.out (by kernel_rfl)) ?_;(try go_wp2);go_ret;exact ⟨rF_,bB⟩
            · obtain rfl:=Option.some.inj H;go_enter Tryz.func50,Tryz.ntmps50;(try go_wp2_with (first | ((with_reducible refine gate_dst (N:=2) rfl ?_);refine boxE_ HB 2 #[.int .i64 a6, .int .i64 a7] 25 ?_;clear HB;intro ac eE HB J af ag hb;clear hb) | ((with_reducible refine gate_dst (N:=3) rfl ?_);refine boxG_ 3 #[.int .i64 a8, .int .i64 aa, .int .i64 ae] 48 ?_;intro ab eF hg Y hb;have ah:=sZ HB hg;have ai:=sZ HB hg;replace HB:=hB2 HB hb;have Z:=neL J hg;have a1:=neR J hg;replace J:=kb2 J hb;clear hb hg;have dP:=Z.out;have dQ:=a1.out;obtain ⟨cH,cJ,cK,cL⟩:=cells2 J.out) | ((with_reducible refine gate_callee (f:=47) rfl ?_);refine goesL_ (some 6) rfl rfl Tryz.func47 (by kernel_rfl) rfl #[.agg #[.int .i64 a6, .int .i64 a7]] rfl gL_ ?_;(with_reducible refine (impl_isHidden.calls k a6 a7 true _ A3.out).mono ?_);rintro e dR ⟨rfl,hb⟩;refine ⟨_,rfl,?_⟩;replace J:=kb2 J hb;replace Y:=kb2 Y hb;replace HB:=hB2 HB hb;(try clear hb);obtain ⟨cM,cN,cO,cP,cQ,cS⟩:=cells3 Y.out)));replace J:=amk (blk_drew J.out);replace Y:=amk (blk_drew Y.out);replace HB:=amk (bd_ HB.out);refine start_ (n:=12) (S:=fun w'=>w'.cell? ⟨ab,0,none⟩=some (.int .i64 a8)∧w'.cell? ⟨ab,1,none⟩=some (.int .i64 aa)∧w'.cell? ⟨ab,2,none⟩=some (.int .i64 ae)∧w'.cell? ⟨ac,0,none⟩=some (.int .i64 a6)∧w'.cell? ⟨ac,1,none⟩=some (.int .i64 a7)) (ds:=[]) (bA 12 0) (by kernel_rfl) rfl rfl ⟨(blk_cell Y.out 0).trans rfl,(blk_cell Y.out 1).trans rfl,(blk_cell Y.out 2).trans rfl,(blk_cell J.out 0).trans rfl,(blk_cell J.out 1).trans rfl⟩ (fun hHeld=>?_);refine with_tabW impl_IsClue.tab11 impl_IsClue.bits11 (fun HT_ HW_=>?_);generalize dR.drew=eG at J Y HB hHeld ⊢;refine pU_ HT_ 0 (some 53) (bA 12 1) ?_;refine tK_ HT_ HW_ hHeld 1 (some 54) (bA 12 3) ?_;refine tK_ HT_ HW_ hHeld 2 (some 55) (bA 12 7) ?_;refine oN_ HT_ 3 (some 56) (bA 12 15) (fun K hK=>?_);refine goes_ Tryz.func44 (by kernel_rfl) rfl #[.agg #[.int .i64 a6, .int .i64 a7]] (by rfl) rfl rfl gL_ ?_;(with_reducible refine (impl_Lock_count.calls k a6 a7 ak _ cq.out).mono ?_);rintro e eH ⟨rfl,hb⟩;refine ⟨_,rfl,?_⟩;replace J:=kb2 J hb;replace Y:=kb2 Y hb;replace HB:=hB2 HB hb;(try clear hb);refine hK.out _ _ hC_ (fun hHeld=>?_);clear hK K;refine nN_ (some 56) ?_;refine pU_ HT_ 4 (some 57) (bA 12 31) ?_;refine oN_ HT_ 5 (some 58) (bA 12 63) (fun K hK=>?_);refine goes_ Tryz.func54 (by kernel_rfl) rfl #[.int .i64 aa, .int .i64 0, .int .i64 (wrap64 (ak - 1))] (by rfl) rfl rfl gL_ ?_;(with_reducible refine (impl_within.calls aa 0 (wrap64 (ak - 1)) false _ cr.out).mono ?_);rintro e w' ⟨rfl,⟨nd,rfl⟩⟩;refine ⟨_,rfl,?_⟩;refine hK.out _ _ hC_ (fun hHeld=>?_);clear hK K;refine nN_ (some 58) ?_;refine pU_ HT_ 6 (some 59) (bA 12 127) ?_;refine pZ_ HT_ 7 (some 60) (bA 12 255) ?_;refine pZ_ HT_ 8 (some 61) (bA 12 511) ?_;refine pZ_ HT_ 9 (some 62) (bA 12 1023) ?_;refine pU_ HT_ 10 (some 63) (bA 12 2047) ?_;refine pU_ HT_ 11 (some 4) (bA 12 4095) ?_;refine done_ (done_of HT_.out (by kernel_rfl)) ?_;(try go_wp2);go_ret;exact ⟨rF_,bB⟩
          · rw [if_neg c59] at H;have ar:(a8 == 3)=false:=beq_eq_false_iff_ne.mpr c59;have au:(a8 != 3)=true:=bne_iff_ne.mpr c59
            by_cases c80:a8=4
            · rw [if_pos c80] at H;have av:(a8 == 4)=true:=beq_iff_eq.mpr c80;have ax:(a8 != 4)=false:=bne_eq_false_iff_eq.mpr c80;clear c80;replace H:=bE H;obtain ⟨e7,cT,H⟩:=H;replace H:=iteB H;obtain ⟨rfl,H⟩ | ⟨rfl,H⟩:=H
              · replace H:=bE H;obtain ⟨cV,dS,H⟩:=H;obtain rfl:=Option.some.inj H;go_enter Tryz.func50,Tryz.ntmps50;go_wp2_with (first | ((with_reducible refine gate_dst (N:=2) rfl ?_);refine boxE_ HB 2 #[.int .i64 a6, .int .i64 a7] 25 ?_;clear HB;intro ac eI HB J af ag hb;clear hb) | ((with_reducible refine gate_dst (N:=3) rfl ?_);refine boxG_ 3 #[.int .i64 a8, .int .i64 aa, .int .i64 ae] 48 ?_;intro ab eJ hg Y hb;have ah:=sZ HB hg;have ai:=sZ HB hg;replace HB:=hB2 HB hb;have Z:=neL J hg;have a1:=neR J hg;replace J:=kb2 J hb;clear hb hg;have dT:=Z.out;have dU:=a1.out;obtain ⟨cW,cX,cY,cZ⟩:=cells2 J.out) | ((with_reducible refine gate_callee (f:=47) rfl ?_);refine goesL_ (some 6) rfl rfl Tryz.func47 (by kernel_rfl) rfl #[.agg #[.int .i64 a6, .int .i64 a7]] rfl gL_ ?_;(with_reducible refine (impl_isHidden.calls k a6 a7 true _ A3.out).mono ?_);rintro e eK ⟨rfl,hb⟩;refine ⟨_,rfl,?_⟩;replace J:=kb2 J hb;replace Y:=kb2 Y hb;replace HB:=hB2 HB hb;(try clear hb);obtain ⟨d5,d6,d7,d8,d9,da⟩:=cells3 Y.out) | ((with_reducible refine gate_callee (f:=54) rfl ?_);refine goesL_ (some 68) rfl rfl Tryz.func54 (by kernel_rfl) rfl #[.int .i64 aa, .int .i64 2, .int .i64 9] rfl gL_ ?_;(with_reducible refine (impl_within.calls aa 2 9 true _ cT.out).mono ?_);rintro e w' ⟨rfl,⟨nd,rfl⟩⟩;refine ⟨_,rfl,?_⟩) | (go_at_call 54;(with_reducible refine (impl_within.calls ae 0 (wrap64 (aa - 1)) cV _ dS.out).mono ?_);rintro e w' ⟨rfl,⟨nd,rfl⟩⟩));go_ret;exact ⟨rF_,bB⟩
              · obtain rfl:=Option.some.inj H;go_enter Tryz.func50,Tryz.ntmps50;go_wp2_with (first | ((with_reducible refine gate_dst (N:=2) rfl ?_);refine boxE_ HB 2 #[.int .i64 a6, .int .i64 a7] 25 ?_;clear HB;intro ac eL HB J af ag hb;clear hb) | ((with_reducible refine gate_dst (N:=3) rfl ?_);refine boxG_ 3 #[.int .i64 a8, .int .i64 aa, .int .i64 ae] 48 ?_;intro ab eM hg Y hb;have ah:=sZ HB hg;have ai:=sZ HB hg;replace HB:=hB2 HB hb;have Z:=neL J hg;have a1:=neR J hg;replace J:=kb2 J hb;clear hb hg;have dV:=Z.out;have dW:=a1.out;obtain ⟨db,dc,de,df⟩:=cells2 J.out) | ((with_reducible refine gate_callee (f:=47) rfl ?_);refine goesL_ (some 6) rfl rfl Tryz.func47 (by kernel_rfl) rfl #[.agg #[.int .i64 a6, .int .i64 a7]] rfl gL_ ?_;(with_reducible refine (impl_isHidden.calls k a6 a7 true _ A3.out).mono ?_);rintro e eN ⟨rfl,hb⟩;refine ⟨_,rfl,?_⟩;replace J:=kb2 J hb;replace Y:=kb2 Y hb;replace HB:=hB2 HB hb;(try clear hb);obtain ⟨dh,di,dj,dl,dm,dn⟩:=cells3 Y.out) | ((with_reducible refine gate_callee (f:=54) rfl ?_);refine goesL_ (some 68) rfl rfl Tryz.func54 (by kernel_rfl) rfl #[.int .i64 aa, .int .i64 2, .int .i64 9] rfl gL_ ?_;(with_reducible refine (impl_within.calls aa 2 9 false _ cT.out).mono ?_);rintro e w' ⟨rfl,⟨nd,rfl⟩⟩;refine ⟨_,rfl,?_⟩));go_ret;exact ⟨rF_,bB⟩
            · rw [if_neg c80] at H;have av:(a8 == 4)=false:=beq_eq_false_iff_ne.mpr c80;have ax:(a8 != 4)=true:=bne_iff_ne.mpr c80;obtain rfl:=Option.some.inj H;go_enter Tryz.func50,Tryz.ntmps50;go_wp2_with (first | ((with_reducible refine gate_dst (N:=2) rfl ?_);refine boxE_ HB 2 #[.int .i64 a6, .int .i64 a7] 25 ?_;clear HB;intro ac eO HB J af ag hb;clear hb) | ((with_reducible refine gate_dst (N:=3) rfl ?_);refine boxG_ 3 #[.int .i64 a8, .int .i64 aa, .int .i64 ae] 48 ?_;intro ab eP hg Y hb;have ah:=sZ HB hg;have ai:=sZ HB hg;replace HB:=hB2 HB hb;have Z:=neL J hg;have a1:=neR J hg;replace J:=kb2 J hb;clear hb hg;have dX:=Z.out;have dY:=a1.out;obtain ⟨dp,dq,dr,dt⟩:=cells2 J.out) | ((with_reducible refine gate_callee (f:=47) rfl ?_);refine goesL_ (some 6) rfl rfl Tryz.func47 (by kernel_rfl) rfl #[.agg #[.int .i64 a6, .int .i64 a7]] rfl gL_ ?_;(with_reducible refine (impl_isHidden.calls k a6 a7 true _ A3.out).mono ?_);rintro e e8 ⟨rfl,hb⟩;refine ⟨_,rfl,?_⟩;replace J:=kb2 J hb;replace Y:=kb2 Y hb;replace HB:=hB2 HB hb;(try clear hb);obtain ⟨ay,az,aA,aC,aD,aE⟩:=cells3 Y.out));go_ret;exact ⟨rF_,bB⟩
  · obtain rfl:=Option.some.inj H;go_enter Tryz.func50,Tryz.ntmps50;go_wp2_with (first | ((with_reducible refine gate_dst (N:=2) rfl ?_);refine boxE_ HB 2 #[.int .i64 a6, .int .i64 a7] 25 ?_;clear HB;intro ac e9 HB J af ag hb;clear hb) | ((with_reducible refine gate_dst (N:=3) rfl ?_);refine boxG_ 3 #[.int .i64 a8, .int .i64 aa, .int .i64 ae] 48 ?_;intro ab ea hg Y hb;have ah:=sZ HB hg;have ai:=sZ HB hg;replace HB:=hB2 HB hb;have Z:=neL J hg;have a1:=neR J hg;replace J:=kb2 J hb;clear hb hg;have du:=Z.out;have dv:=a1.out;obtain ⟨aG,aH,aI,aJ⟩:=cells2 J.out) | ((with_reducible refine gate_callee (f:=47) rfl ?_);refine goesL_ (some 6) rfl rfl Tryz.func47 (by kernel_rfl) rfl #[.agg #[.int .i64 a6, .int .i64 a7]] rfl gL_ ?_;(with_reducible refine (impl_isHidden.calls k a6 a7 false _ A3.out).mono ?_);rintro e eb ⟨rfl,hb⟩;refine ⟨_,rfl,?_⟩;replace J:=kb2 J hb;replace Y:=kb2 Y hb;replace HB:=hB2 HB hb;(try clear hb)));go_ret;exact ⟨rF_,bB⟩
/-! impl's hidden locks and clues: what they come to. -/
theorem impl_isHidden.ev (w d:Int):Ev (fun k=>impl_isHidden.f k w d) (smallB w d 125):=by
  unfold impl_isHidden.f
  exact Ev.bind (impl_isSmall.ev w d 125) (Ev.now _)
theorem impl_IsClue.ev (w d a b c:Int):Ev (fun k=>impl_IsClue.f k w d a b c) (smallB w d 125 && clueB w d a b c):=by
  unfold impl_IsClue.f clueB
  refine Ev.bind (impl_isHidden.ev w d) ?_
  cases h:smallB w d 125 with
  | false=>exact Ev.no (by simp) (Ev.id (by simp))
  | true =>
    refine Ev.yes rfl ?_
    have hl:=smallB_lock h
    obtain ⟨w1,w2,d1,d2⟩:=lockB_iff.mp hl
    have hc:=count_bound hl
    simp only [impl_within.is,Option.bind_some,w64 (x:=w - 1) (by omega) (by omega),w64 (x:=d - 1) (by omega) (by omega)]
    refine Ev.both (fun e=>?_) (fun e=>?_)
    · rw [if_pos e]
      exact Ev.both (fun h=>Ev.id (by simp [of_decide_eq_true h])) (fun h=>Ev.id (by have:=decide_eq_false_iff_not.mp (Bool.eq_false_iff.mpr h);simp [this]))
    rw [if_neg e]
    refine Ev.both (fun e=>?_) (fun e=>?_)
    · rw [if_pos e]
      exact Ev.both (fun h=>Ev.id (by simp [of_decide_eq_true h])) (fun h=>Ev.id (by have:=decide_eq_false_iff_not.mp (Bool.eq_false_iff.mpr h);simp [this]))
    rw [if_neg e]
    refine Ev.both (fun e=>?_) (fun e=>?_)
    · rw [if_pos e]
      refine Ev.bind (impl_Lock_count.ev hl) ?_
      rw [w64 (x:=d ^ w.toNat - 1) (by omega) (by omega)]
      exact Ev.both (fun h=>Ev.id (by simp [of_decide_eq_true h])) (fun h=>Ev.id (by have:=decide_eq_false_iff_not.mp (Bool.eq_false_iff.mpr h);simp [this]))
    rw [if_neg e]
    refine Ev.both (fun e=>?_) (fun e=>?_)
    · rw [if_pos e]
      refine Ev.bind (impl_Lock_count.ev hl) ?_
      rw [w64 (x:=d ^ w.toNat - 1) (by omega) (by omega)]
      exact Ev.both (fun h=>Ev.id (by simp [of_decide_eq_true h])) (fun h=>Ev.id (by have:=decide_eq_false_iff_not.mp (Bool.eq_false_iff.mpr h);simp [this]))
    rw [if_neg e]
    refine Ev.both (fun e=>?_) (fun e=>?_)
    · rw [if_pos e]
      refine Ev.both (fun h=>?_) (fun h=>Ev.id (by have:=decide_eq_false_iff_not.mp (Bool.eq_false_iff.mpr h);simp [this]))
      have h':=of_decide_eq_true h
      rw [w64 (x:=b - 1) (by omega) (by omega)]
      exact Ev.id (by simp [h'])
    rw [if_neg e]
    exact Ev.id (by simp)
/-! the first place where a test holds. -/
def idxOf {α:Type} (p:α→Bool) (xs:List α):Int:=if xs.any p then (xs.findIdx p:Int) else -1
theorem idxOf_hit {α:Type} {p:α→Bool} {xs:List α} {i:Nat} {y:α} (hi:xs[i]?=some y) (h:p y=true) (hb : ∀ (j:Nat) z,j < i→xs[j]?=some z→p z=false):idxOf p xs=i:=by
  obtain ⟨hl,rfl⟩:=List.getElem?_eq_some_iff.1 hi
  unfold idxOf
  rw [if_pos (List.any_eq_true.mpr ⟨xs[i],List.getElem_mem hl,h⟩)]
  congr 1
  exact (List.findIdx_eq hl).mpr ⟨h,fun j hj=>hb j _ hj (List.getElem?_eq_getElem (by omega))⟩
theorem idxOf_miss {α:Type} {p:α→Bool} {xs:List α} (hb : ∀ (j:Nat) z,xs[j]?=some z→p z=false):idxOf p xs = -1:=by
  unfold idxOf
  rw [if_neg]
  rw [Bool.not_eq_true,List.any_eq_false]
  intro x hx
  obtain ⟨j,hj,rfl⟩:=List.getElem_of_mem hx
  simp [hb j _ (List.getElem?_eq_getElem hj)]
theorem idxOf_nonneg {α:Type} (p:α→Bool) (xs:List α):decide (0≤idxOf p xs)=xs.any p:=by
  unfold idxOf
  split
  · rename_i h;rw [h];simp
  · rename_i h;rw [Bool.eq_false_iff.mpr h];simp
/-! slices.IndexFunc and slices.ContainsFunc at clues, under any predicate that makes nothing but new memory. -/
def PredClue (g:Nat) (cap:Array Value) (p:S48→Bool) (xs:List S48) (w:World):Prop:=
  ∀ x,x∈xs→∀ W:World,Below w.heap.size w W→Calls Tryz.prog g (#[.agg #[.int .i64 x.f0, .int .i64 x.f1, .int .i64 x.f2]] ++ cap) W fun e w'=>e = .returned (.bool (p x))∧Below w.heap.size w w'
set_option maxHeartbeats 2000000 in
set_option maxRecDepth 100000 in
theorem idx_Clue (g:Nat) (cap:Array Value) (p:S48→Bool) (A:Option Addr) (c:Nat) (xs:List S48) (w:World) (eg : ∀ args w,(callFunc g args).run Tryz.prog w = .ok (.enter g args) w)
    (hr:Kd.C k48 w A xs.length xs) (hp:PredClue g cap p xs w) :
    Calls Tryz.prog 77 #[.slice A xs.length c, .func (.func g) #[] cap] w fun e w'=>e = .returned (.int .i64 (idxOf p xs))∧Below w.heap.size w w':=by
  have hbig:=hr.2.1
  have HR:=amk hr
  have HP:=amk hp
  have hu:=Tryz.underlying48
  clear hr hp
  go_enter Tryz.func77,Tryz.ntmps77
  go_wp2
  go_loopg [5,8] xs.length (fun gg _ s8 wr=> ∃ i:Int,s8 = .int .i64 i∧Aside0 (0≤i)∧Aside0 (i≤xs.length)∧Aside0 ((xs.length:Int) - i≤gg)∧Aside0 (Below w.heap.size w wr)∧Aside0 (∀ (j:Nat) z,(j:Int) < i→xs[j]?=some z→p z=false))
  case atStart=>exact ⟨0,rfl,⟨by omega⟩,⟨by omega⟩,⟨by omega⟩,⟨Below.refl _ w⟩,⟨fun j hj=>by omega⟩⟩
  case round =>
    obtain ⟨i,rfl,I0,I1,IG,BW,AA⟩:=hrel
    by_cases hlt:i < (xs.length:Int)
    · have hlw:decide (i < (xs.length:Int))=true:=decide_eq_true hlt
      have i0:0≤i:=I0.out
      obtain ⟨ad,e,J,Y,Z⟩:=at_T48 HR.out i i0 hlt
      cases e
      replace J:=(BW.out.cell (World.block_lt_of_cell? w _ J)).trans J
      replace Y:=(BW.out.cell (World.block_lt_of_cell? w _ Y)).trans Y
      replace Z:=(BW.out.cell (World.block_lt_of_cell? w _ Z)).trans Z
      have HY:Aside0 (xs[i.toNat]?=some (rd_T48 xs i)):=⟨by
        have hin:i.toNat < xs.length:=by omega
        unfold rd_T48;simp [List.getD,hin]⟩
      generalize rd_T48 xs i=y at J Y Z HY
      have hcall:=HP.out y (List.mem_of_getElem? HY.out) wr BW.out
      have HLT:=amk hlt
      replace hlt:=eq_true hlt
      replace i0:=eq_true i0
      cases hq:p y with
      | true =>
        rw [hq] at hcall
        have HQ:=amk hq
        clear hq
        go_wp2_with (go_at_fn g;refine hcall.mono ?_;rintro e w' ⟨rfl,hb'⟩)
        go_ret
        refine ⟨?_,hb'⟩
        have h1:=idxOf_hit (p:=p) HY.out HQ.out (fun j z hj hz=>AA.out j z (by omega) hz)
        rw [h1]
        have:=I0.out
        show Ending.returned (.int .i64 i)=Ending.returned (.int .i64 ((i.toNat:Nat):Int))
        rw [Int.toNat_of_nonneg this]
      | false =>
        rw [hq] at hcall
        have HQ:=amk hq
        clear hq
        go_wp2_with (go_at_fn g;refine hcall.mono ?_;rintro e w' ⟨rfl,hb'⟩)
        have a6:wrap64 (i + 1)=i + 1:=by
          have:=I0.out
          have:=HLT.out
          unfold wrap64;omega
        go_roundg (xs.length - (i.toNat + 1))
        case measure=>have:=I0.out;have:=HLT.out;have:=IG.out;omega
        case rel =>
          have a1:=I0.out
          have a2:=HLT.out
          refine ⟨i + 1,by rw [a6],⟨by omega⟩,⟨by omega⟩,⟨by omega⟩,⟨hb'⟩,⟨fun j z hj hz=>?_⟩⟩
          by_cases e:j=i.toNat
          · subst e
            rw [HY.out] at hz
            injection hz with hz
            rw [←hz];exact HQ.out
          · exact AA.out j z (by omega) hz
    · have hlw:decide (i < (xs.length:Int))=false:=decide_eq_false hlt
      have HK:=amk hlt
      clear hlt
      go_wp2
      go_ret
      refine ⟨?_,BW.out⟩
      rw [idxOf_miss (fun j z hz=>AA.out j z (by have:=HK.out;have:=(List.getElem?_eq_some_iff.1 hz).1;omega) hz)]
      rfl
theorem contains_Clue (g:Nat) (cap:Array Value) (p:S48→Bool) (A:Option Addr) (c:Nat) (xs:List S48) (w:World) (eg : ∀ args w,(callFunc g args).run Tryz.prog w = .ok (.enter g args) w)
    (hr:Kd.C k48 w A xs.length xs) (hp:PredClue g cap p xs w) :
    Calls Tryz.prog 48 #[.slice A xs.length c, .func (.func g) #[] cap] w fun e w'=>e = .returned (.bool (xs.any p))∧Below w.heap.size w w':=by
  rw [←idxOf_nonneg p xs]
  have HC:=amk (idx_Clue g cap p A c xs w eg hr hp)
  clear hr hp
  go_enter Tryz.func48,Tryz.ntmps48
  go_wp2_with (go_at_call 77;refine HC.out.mono ?_;rintro e w' ⟨rfl,hb'⟩)
  go_ret
  exact ⟨rfl,hb'⟩
/-! impl.IsPuzzle, by hand: it asks its clues through slices.ContainsFunc and a closure. -/
theorem isPuzzle_closure (w d:Int) (A:Option Addr) (n c gb:Nat) (W:World) (hB:gb < W.heap.size)
    (h0:W.cell? ⟨gb,0,none⟩=some (.int .i64 w)) (h1:W.cell? ⟨gb,1,none⟩=some (.int .i64 d)) (hs:smallB w d 125=true) (x:S48) :
    Calls Tryz.prog 49 #[.agg #[.int .i64 x.f0, .int .i64 x.f1, .int .i64 x.f2], .pointer (some ⟨gb,0,none⟩)] W fun e w'=>e = .returned (.bool (!clueB w d x.f0 x.f1 x.f2))∧Below W.heap.size W w':=by
  obtain ⟨k,hk⟩:=(impl_IsClue.ev w d x.f0 x.f1 x.f2).rounds
  rw [hs,Bool.true_and] at hk
  have J:=Tryz.underlying25
  have Y:=Tryz.underlying48
  have Z:=Tryz.underlying28
  have hne:gb≠W.heap.size:=by omega
  have HK:=amk hk
  clear hk hs
  generalize clueB w d x.f0 x.f1 x.f2=b at HK ⊢
  go_enter Tryz.func49,Tryz.ntmps49
  go_wp2_with (go_at_call 50;refine (impl_IsClue.calls k _ _ _ _ _ _ _ HK.out).mono ?_;rintro e w' ⟨rfl,hb⟩)
  go_ret
  exact ⟨rfl,((Below.refl _ W).alloc (Nat.le_refl _) _).trans (hb.mono (by simp))⟩
def impl_IsPuzzle.f (a b:Int) (l:List S48):Option Bool:=some (puzzleB a b l)
set_option maxHeartbeats 2000000 in
set_option maxRecDepth 100000 in
theorem impl_IsPuzzle.calls (Y Z:Int) (a1:Option Addr) (a6:Nat) (J:List S48) (r:Bool) (w:World) (a7:Kd.C k48 w a1 J.length J) (ae:J.length≤a6) (h:impl_IsPuzzle.f Y Z J=some r) :
    Calls Tryz.prog 26 #[.agg #[.int .i64 Y, .int .i64 Z, .slice a1 J.length a6]] w fun e w'=>e = .returned (.bool r)∧Below w.heap.size w w':=by
  obtain rfl:=Option.some.inj h
  clear h
  obtain ⟨k,hk⟩:=(impl_isHidden.ev Y Z).rounds
  have ai:=Tryz.underlying25
  have aj:=Tryz.underlying28
  have ak:=Tryz.underlying26
  have eg : ∀ args w,(callFunc 49 args).run Tryz.prog w = .ok (.enter 49 args) w:=enters_of Tryz.func49 (by kernel_rfl) rfl
  have HE:=amk eg
  clear eg
  have HR:=amk a7
  have HK:=amk hk
  clear a7 hk
  unfold puzzleB
  cases hs:smallB Y Z 125 with
  | false =>
    rw [hs] at HK
    clear hs
    go_enter Tryz.func26,Tryz.ntmps26
    go_wp2_with (go_at_call 47;refine (impl_isHidden.calls k _ _ _ _ HK.out).mono ?_;rintro e w' ⟨rfl,hb⟩)
    go_ret
    exact ⟨by simp,((Below.refl _ w).alloc (Nat.le_refl _) _).trans (hb.mono (by simp))⟩
  | true =>
    rw [hs] at HK
    have HS:=amk hs
    clear hs
    by_cases hl:J.length≤6
    · have a8:decide (J.length≤6)=true:=decide_eq_true hl
      have af:decide ((J.length:Int)≤6)=true:=decide_eq_true (by omega)
      rw [a8]
      simp only [Bool.true_and]
      rw [show (J.all fun c=>clueB Y Z c.f0 c.f1 c.f2) = !(J.any fun c=> !clueB Y Z c.f0 c.f1 c.f2) by simp [List.all_eq_not_any_not]]
      generalize hz:(J.any fun c=> !clueB Y Z c.f0 c.f1 c.f2)=z
      have HZ:=amk hz
      clear hz hl
      go_enter Tryz.func26,Tryz.ntmps26
      go_wp2_with (first | (go_at_call 47;refine (impl_isHidden.calls k _ _ _ _ HK.out).mono ?_;rintro e w1 ⟨rfl,hb⟩;have aa:w1.cell? ⟨w.heap.size,0,none⟩=some (.int .i64 Y):=(hb.cell (p:=⟨w.heap.size,0,none⟩) (by simp)).trans (by simp);have ab:w1.cell? ⟨w.heap.size,1,none⟩=some (.int .i64 Z):=(hb.cell (p:=⟨w.heap.size,1,none⟩) (by simp)).trans (by simp);have ag:w1.cell? ⟨w.heap.size,2,none⟩=some (.slice a1 J.length a6):=(hb.cell (p:=⟨w.heap.size,2,none⟩) (by simp)).trans (by simp);have BW:=amk (((Below.refl _ w).alloc (Nat.le_refl _) _).trans (hb.mono (by simp)));have HSZ:=amk (show w.heap.size < w1.heap.size by have:=hb.size;simp at this;omega);clear hb) | (go_at_call 48;refine (contains_Clue 49 #[.pointer (some ⟨w.heap.size,0,none⟩)] (fun c=> !clueB Y Z c.f0 c.f1 c.f2) a1 a6 J _ HE.out (Kd.C_below HR.out BW.out) (fun x _ W hW=>(isPuzzle_closure Y Z a1 J.length a6 w.heap.size W (Nat.lt_of_lt_of_le HSZ.out hW.size) ((hW.cell (p:=⟨w.heap.size,0,none⟩) HSZ.out).trans aa) ((hW.cell (p:=⟨w.heap.size,1,none⟩) HSZ.out).trans ab) HS.out x).mono (fun e w' ⟨h1,h2⟩=>⟨h1,hW.trans (h2.mono hW.size)⟩))).mono ?_;rintro e w2 ⟨rfl,ac⟩;have ah:=amk (BW.out.trans (ac.mono BW.out.size));clear ac))
      go_ret
      exact ⟨by rw [HZ.out];rfl,ah.out⟩
    · have a8:decide (J.length≤6)=false:=decide_eq_false hl
      have af:decide ((J.length:Int)≤6)=false:=decide_eq_false (by omega)
      rw [a8]
      clear hl
      go_enter Tryz.func26,Tryz.ntmps26
      go_wp2_with (go_at_call 47;refine (impl_isHidden.calls k _ _ _ _ HK.out).mono ?_;rintro e w1 ⟨rfl,hb⟩;have aa:w1.cell? ⟨w.heap.size,0,none⟩=some (.int .i64 Y):=(hb.cell (p:=⟨w.heap.size,0,none⟩) (by simp)).trans (by simp);have ab:w1.cell? ⟨w.heap.size,1,none⟩=some (.int .i64 Z):=(hb.cell (p:=⟨w.heap.size,1,none⟩) (by simp)).trans (by simp);have ag:w1.cell? ⟨w.heap.size,2,none⟩=some (.slice a1 J.length a6):=(hb.cell (p:=⟨w.heap.size,2,none⟩) (by simp)).trans (by simp);have BW:=amk (((Below.refl _ w).alloc (Nat.le_refl _) _).trans (hb.mono (by simp)));clear hb)
      go_ret
      exact ⟨by simp,BW.out⟩
/-! ### impl_PuzzleText: function 22 -/
def impl_PuzzleText.f (k:Nat) (J:Int) (Y:Int) (Z:List (S48)):Option (ByteArray×Bool):=(impl_IsPuzzle.f J Y Z).bind fun a1=>(if a1=true then ((impl_puzzleText.f k J Y Z).bind fun a6=>(some (a6,true))) else (some ((⟨#[]⟩:ByteArray),false)))
set_option maxHeartbeats 8000000 in
set_option maxRecDepth 100000 in
theorem impl_PuzzleText.calls (k:Nat) (Z:Int) (a1:Int) (a6:Option Addr) (a7:Nat) (Y:List (S48)) (r1:ByteArray) (r2:Bool) (w:World) (ab:Kd.C k48 w a6 Y.length Y) (ac:Y.length≤a7) (htp:TabP w) (h:impl_PuzzleText.f k Z a1 Y=some (r1,r2)) :
    Calls Tryz.prog 22 #[.agg #[.int .i64 Z, .int .i64 a1, .slice a6 Y.length a7]] w fun e w'=>e = .returned (.tuple #[.string r1, .bool r2])∧Below w.heap.size w w':=by
  have HTP:=amk htp;clear htp;have aH:=Tryz.underlying28;have a8:=amk ab;have aa:=amk ac;clear ab ac;have HB:=amk (Below.refl w.heap.size w);unfold impl_PuzzleText.f at h;have H:=h;clear h;replace H:=bE H;obtain ⟨aI,A2,H⟩:=H;replace H:=iteB H;obtain ⟨rfl,H⟩ | ⟨rfl,H⟩:=H
  · replace H:=bE H;obtain ⟨ah,A4,H⟩:=H;simp only [Option.some.injEq,Prod.mk.injEq] at H;obtain ⟨rfl,rfl⟩:=H;go_enter Tryz.func22,Tryz.ntmps22;go_wp2_with (first | ((with_reducible refine gate_dst (N:=1) rfl ?_);refine boxE_ HB 1 #[.int .i64 Z, .int .i64 a1, .slice a6 Y.length a7] 28 ?_;clear HB;intro ae w5 HB J af ag hb;clear hb;obtain ⟨ap,ar,au,av,ax,ay⟩:=cells3 J.out) | ((with_reducible refine gate_callee (f:=26) rfl ?_);refine goesL_ (some 5) rfl rfl Tryz.func26 (by kernel_rfl) rfl #[.agg #[.int .i64 Z, .int .i64 a1, .slice a6 Y.length a7]] rfl gL_ ?_;(with_reducible refine (impl_IsPuzzle.calls Z a1 _ _ Y true _ ?_ ?_ A2.out).mono ?_);exact cB (Kd.C_below a8.out HB.out);exact aa.out;rintro e w7 ⟨rfl,hb⟩;refine ⟨_,rfl,?_⟩;replace J:=kb2 J hb;replace HB:=hB2 HB hb;(try clear hb);obtain ⟨az,aA,aC,aD,aE,aG⟩:=cells3 J.out) | ((with_reducible refine gate_callee (f:=45) rfl ?_);refine goesL_ (some 8) rfl rfl Tryz.func45 (by kernel_rfl) rfl #[.agg #[.int .i64 Z, .int .i64 a1, .slice a6 Y.length a7]] rfl gL_ ?_;(with_reducible refine (impl_puzzleText.calls k Z a1 _ _ Y ah _ ?side1 ?side2 ?sideT A4.out).mono ?_);(case sideT=>exact (HTP.out.below bB));(case side1=>exact cB (Kd.C_below a8.out HB.out));(case side2=>exact aa.out);rintro e w9 ⟨rfl,hb⟩;refine ⟨_,rfl,?_⟩;replace J:=kb2 J hb;replace HB:=hB2 HB hb;(try clear hb)));go_ret2;exact ⟨rF_,bB⟩
  · simp only [Option.some.injEq,Prod.mk.injEq] at H;obtain ⟨rfl,rfl⟩:=H;go_enter Tryz.func22,Tryz.ntmps22;go_wp2_with (first | ((with_reducible refine gate_dst (N:=1) rfl ?_);refine boxE_ HB 1 #[.int .i64 Z, .int .i64 a1, .slice a6 Y.length a7] 28 ?_;clear HB;intro ae aJ HB J af ag hb;clear hb;obtain ⟨ai,aj,ak,al,am,an⟩:=cells3 J.out) | ((with_reducible refine gate_callee (f:=26) rfl ?_);refine goesL_ (some 5) rfl rfl Tryz.func26 (by kernel_rfl) rfl #[.agg #[.int .i64 Z, .int .i64 a1, .slice a6 Y.length a7]] rfl gL_ ?_;(with_reducible refine (impl_IsPuzzle.calls Z a1 _ _ Y false _ ?_ ?_ A2.out).mono ?_);exact cB (Kd.C_below a8.out HB.out);exact aa.out;rintro e aK ⟨rfl,hb⟩;refine ⟨_,rfl,?_⟩;replace J:=kb2 J hb;replace HB:=hB2 HB hb;(try clear hb)));go_ret2;exact ⟨rF_,bB⟩
/-! ### spec_pzText: function 46 -/
def spec_pzText.l0:Nat→ByteArray→List (S48)→Int→Int→Option (ByteArray)
  | 0,_,_,_,_=>none
  | k + 1,x3,a1,ab,J=>if J < ab then (if 0≤J then (if J < (a1.length:Int) then (if J > 0 then (if x3.size + 1≤9223372036854775807 then ((spec_l1Num.f k ((rd_T48 a1 J).f0)).bind fun Y=>(if Y.size + 1≤9223372036854775807 then ((spec_l1Num.f k ((rd_T48 a1 J).f1)).bind fun a6=>(if (Y ++ (⟨#[46]⟩:ByteArray)).size + a6.size≤9223372036854775807 then (if ((Y ++ (⟨#[46]⟩:ByteArray)) ++ a6).size + 1≤9223372036854775807 then ((spec_l1Num.f k ((rd_T48 a1 J).f2)).bind fun a8=>(if (((Y ++ (⟨#[46]⟩:ByteArray)) ++ a6) ++ (⟨#[46]⟩:ByteArray)).size + a8.size≤9223372036854775807 then (if (x3 ++ (⟨#[44]⟩:ByteArray)).size + ((((Y ++ (⟨#[46]⟩:ByteArray)) ++ a6) ++ (⟨#[46]⟩:ByteArray)) ++ a8).size≤9223372036854775807 then (spec_pzText.l0 k ((x3 ++ (⟨#[44]⟩:ByteArray)) ++ ((((Y ++ (⟨#[46]⟩:ByteArray)) ++ a6) ++ (⟨#[46]⟩:ByteArray)) ++ a8)) a1 ab (wrap64 (J + 1))) else (none)) else (none))) else (none)) else (none))) else (none))) else (none)) else ((spec_l1Num.f k ((rd_T48 a1 J).f0)).bind fun Z=>(if Z.size + 1≤9223372036854775807 then ((spec_l1Num.f k ((rd_T48 a1 J).f1)).bind fun a7=>(if (Z ++ (⟨#[46]⟩:ByteArray)).size + a7.size≤9223372036854775807 then (if ((Z ++ (⟨#[46]⟩:ByteArray)) ++ a7).size + 1≤9223372036854775807 then ((spec_l1Num.f k ((rd_T48 a1 J).f2)).bind fun aa=>(if (((Z ++ (⟨#[46]⟩:ByteArray)) ++ a7) ++ (⟨#[46]⟩:ByteArray)).size + aa.size≤9223372036854775807 then (if x3.size + ((((Z ++ (⟨#[46]⟩:ByteArray)) ++ a7) ++ (⟨#[46]⟩:ByteArray)) ++ aa).size≤9223372036854775807 then (spec_pzText.l0 k (x3 ++ ((((Z ++ (⟨#[46]⟩:ByteArray)) ++ a7) ++ (⟨#[46]⟩:ByteArray)) ++ aa)) a1 ab (wrap64 (J + 1))) else (none)) else (none))) else (none)) else (none))) else (none)))) else (none)) else (none)) else (some x3)
def spec_pzText.f (k:Nat) (a1:Int) (a6:Int) (Z:List (S48)):Option (ByteArray):=(spec_l1Num.f k a1).bind fun J=>(if J.size + 1≤9223372036854775807 then ((spec_l1Num.f k a6).bind fun Y=>(if (J ++ (⟨#[120]⟩:ByteArray)).size + Y.size≤9223372036854775807 then (if ((J ++ (⟨#[120]⟩:ByteArray)) ++ Y).size + 1≤9223372036854775807 then (spec_pzText.l0 k (((J ++ (⟨#[120]⟩:ByteArray)) ++ Y) ++ (⟨#[58]⟩:ByteArray)) Z (Z.length:Int) 0) else (none)) else (none))) else (none))
def spec_pzText.T1:Bool×List (List Nat×List Nat):=(true,[([],[]),([0],[0]),([1],[1]),([2],[2]),([3],[3]),([],[]),([5],[5]),([6],[6]),([7,3],[7]),([4,8],[4,8]),([9],[9]),([10,8,0,1,2,3,4,5,6,7,8,9,10],[10])])
def spec_pzText.B1:List Nat:=[0,1,3,7,15,0,32,96,239,511,1023,2047]
theorem spec_pzText.tab1:rtab .any (opsOf Tryz.f46 1)=spec_pzText.T1:=by kernel_rfl
theorem spec_pzText.bits1:waitsOk spec_pzText.T1.2 spec_pzText.B1=true:=by kernel_rfl
def spec_pzText.T7:Bool×List (List Nat×List Nat):=(true,[([],[]),([],[]),([1],[1]),([2],[2]),([3],[3]),([],[]),([5],[5]),([6,3],[6]),([4,7],[4,7]),([8],[8]),([],[]),([10],[10]),([11,7],[11]),([9,12],[9,12]),([0,13],[0,13]),([14,12,0,1,2,3,4,5,6,7,8,9,10,11,12,13,14],[0,14])])
def spec_pzText.B7:List Nat:=[0,0,2,6,14,0,32,110,254,510,0,1024,3310,8190,16383,32767]
theorem spec_pzText.tab7:rtab .any (opsOf Tryz.f46 7)=spec_pzText.T7:=by kernel_rfl
theorem spec_pzText.bits7:waitsOk spec_pzText.T7.2 spec_pzText.B7=true:=by kernel_rfl
set_option maxHeartbeats 8000000 in
set_option maxRecDepth 100000 in
theorem spec_pzText.calls (k:Nat) (an:Int) (ap:Int) (ay:Option Addr) (au:Nat) (Y:List (S48)) (r:ByteArray) (w:World) (aA:Kd.C k48 w ay Y.length Y) (aC:Y.length≤au) (h:spec_pzText.f k an ap Y=some r) :
    Calls Tryz.prog 46 #[.agg #[.int .i64 an, .int .i64 ap, .slice ay Y.length au]] w fun e w'=>e = .returned (.string r)∧Below w.heap.size w w':=by
  have cT:=Tryz.underlying28;have cV:=Tryz.underlying48;have aD:=amk aA;have bm:=amk aC;clear aA aC;have HB:=amk (Below.refl w.heap.size w);unfold spec_pzText.f at h;have H:=h;clear h;replace H:=bE H;obtain ⟨ae,A2,H⟩:=H
  by_cases c3:ae.size + 1≤9223372036854775807
  · rw [if_pos c3] at H;have aY:=eq_true c3;have aZ:decide (ae.size + 1≤9223372036854775807)=true:=decide_eq_true c3;(try have b3:(9223372036854775807 < ae.size + 1)=False:=eq_false (Nat.not_lt.2 c3));replace H:=bE H;obtain ⟨ai,A4,H⟩:=H
    by_cases c5:(ae ++ (⟨#[120]⟩:ByteArray)).size + ai.size≤9223372036854775807
    · rw [if_pos c5] at H;have b4:=eq_true c5;have b5:decide ((ae ++ (⟨#[120]⟩:ByteArray)).size + ai.size≤9223372036854775807)=true:=decide_eq_true c5;(try have b6:(9223372036854775807 < (ae ++ (⟨#[120]⟩:ByteArray)).size + ai.size)=False:=eq_false (Nat.not_lt.2 c5));(try have cW:(9223372036854775807 < ae.size + 1 + ai.size)=False:=eq_false (by have h9:=Nat.not_lt.2 c5;simp only [ByteArray.size_append] at h9;exact h9));(try have cX:decide (ae.size + 1 + ai.size≤9223372036854775807)=true:=decide_eq_true (by have h9:=c5;simp only [ByteArray.size_append] at h9;exact h9))
      by_cases c6:((ae ++ (⟨#[120]⟩:ByteArray)) ++ ai).size + 1≤9223372036854775807
      · rw [if_pos c6] at H;have b7:=eq_true c6;have b8:decide (((ae ++ (⟨#[120]⟩:ByteArray)) ++ ai).size + 1≤9223372036854775807)=true:=decide_eq_true c6;(try have b9:(9223372036854775807 < ((ae ++ (⟨#[120]⟩:ByteArray)) ++ ai).size + 1)=False:=eq_false (Nat.not_lt.2 c6));(try have cY:(9223372036854775807 < ae.size + 1 + ai.size + 1)=False:=eq_false (by have h9:=Nat.not_lt.2 c6;simp only [ByteArray.size_append] at h9;exact h9));(try have cZ:decide (ae.size + 1 + ai.size + 1≤9223372036854775807)=true:=decide_eq_true (by have h9:=c6;simp only [ByteArray.size_append] at h9;exact h9));have H':=amk H;clear H;go_enter Tryz.func46,Tryz.ntmps46;(try go_wp2_with (first | ((with_reducible refine gate_dst (N:=1) rfl ?_);refine boxE_ HB 1 #[.int .i64 an, .int .i64 ap, .slice ay Y.length au] 28 ?_;clear HB;intro ar w7 HB Z bn bo hb;clear hb)));replace Z:=amk (blk_drew Z.out);replace HB:=amk (bd_ HB.out);refine start_ (n:=12) (S:=fun w'=>w'.cell? ⟨ar,0,none⟩=some (.int .i64 an)∧w'.cell? ⟨ar,1,none⟩=some (.int .i64 ap)∧w'.cell? ⟨ar,2,none⟩=some (.slice ay Y.length au)) (ds:=[]) (bA 12 0) (by kernel_rfl) rfl rfl ⟨(blk_cell Z.out 0).trans rfl,(blk_cell Z.out 1).trans rfl,(blk_cell Z.out 2).trans rfl⟩ (fun hHeld=>?_);refine with_tabW spec_pzText.tab1 spec_pzText.bits1 (fun HT_ HW_=>?_);generalize w7.drew=w8 at Z HB hHeld ⊢;refine pU_ HT_ 0 (some 6) (bA 12 1) ?_;refine pU_ HT_ 1 (some 7) (bA 12 3) ?_;refine pU_ HT_ 5 (some 11) (bA 12 35) ?_;refine pU_ HT_ 6 (some 12) (bA 12 99) ?_;refine tK_ HT_ HW_ hHeld 2 (some 8) (bA 12 103) ?_;refine tK_ HT_ HW_ hHeld 7 (some 13) (bA 12 231) ?_;refine oN_ HT_ 3 (some 9) (bA 12 239) (fun K hK=>?_);refine goes_ Tryz.func75 (by kernel_rfl) rfl #[.int .i64 an] (by rfl) rfl rfl gL_ ?_;(with_reducible refine (spec_l1Num.calls k an ae _ A2.out).mono ?_);rintro e w9 ⟨rfl,hb⟩;refine ⟨_,rfl,?_⟩;replace Z:=kb2 Z hb;replace HB:=hB2 HB hb;(try clear hb);refine hK.out _ _ hC_ (fun hHeld=>?_);clear hK K;refine nN_ (some 9) ?_;refine pU_ HT_ 4 (some 10) (bA 12 255) ?_;refine oN_ HT_ 8 (some 14) (bA 12 511) (fun K hK=>?_);refine goes_ Tryz.func75 (by kernel_rfl) rfl #[.int .i64 ap] (by rfl) rfl rfl gL_ ?_;(with_reducible refine (spec_l1Num.calls k ap ai _ A4.out).mono ?_);rintro e d5 ⟨rfl,hb⟩;refine ⟨_,rfl,?_⟩;replace Z:=kb2 Z hb;replace HB:=hB2 HB hb;(try clear hb);refine hK.out _ _ hC_ (fun hHeld=>?_);clear hK K;refine nN_ (some 14) ?_;refine pU_ HT_ 9 (some 15) (bA 12 1023) ?_;refine pU_ HT_ 10 (some 16) (bA 12 2047) ?_;refine pU_ HT_ 11 (some 3) (bA 12 4095) ?_;refine done_ (done_of HT_.out (by kernel_rfl)) ?_;obtain ⟨aE,aG,aH,aI,aJ,aK⟩:=cells3 Z.out;(try go_wp2)
        go_loopg [3,20] k (fun kq v3 v20 w'=> ∃ (ac:ByteArray) (J:Int),v3 = .string ac∧v20 = .int .i64 J∧Aside0 (spec_pzText.l0 kq ac Y (Y.length:Int) J=some r)∧Aside0 (kq≤k)∧Aside0 (w'.heap[ar]?=some (.cells #[.int .i64 an, .int .i64 ap,(.slice ay Y.length au)] 28 (0,0)))∧Aside0 (Below w.heap.size w w'))
        case atStart=>exact ⟨(((ae ++ (⟨#[120]⟩:ByteArray)) ++ ai) ++ (⟨#[58]⟩:ByteArray)),(0),rS_,rS_,H',⟨Nat.le_refl _⟩,⟨kB Z⟩,⟨bB⟩⟩
        case round =>
          clear H';(try clear p2);(try clear c3);(try clear aY);(try clear aZ);(try clear b3);(try clear c4);(try clear c5);(try clear b4);(try clear b5);(try clear b6);(try clear c6);(try clear b7);(try clear b8);(try clear b9);(try clear c7);(try clear aE);(try clear aG);(try clear aH);(try clear aI);(try clear aJ);(try clear aK);obtain ⟨ac,J,rfl,rfl,HA,aN,Z,HB⟩:=hrel
          cases gk with
          | zero=>exact absurd HA.out (by simp [spec_pzText.l0])
          | succ k1 =>
            have H:=HA.out;clear HA;simp only [spec_pzText.l0] at H;replace H:=iteE H;obtain ⟨aU,H⟩ | ⟨aU,H⟩:=H
            · replace H:=iteN H;obtain ⟨bp,H⟩:=H;replace H:=iteN H;obtain ⟨bq,H⟩:=H
              by_cases c15:J > 0
              · rw [if_pos c15] at H;have aV:decide (0 < J)=true:=decide_eq_true c15;clear c15
                by_cases c16:ac.size + 1≤9223372036854775807
                · rw [if_pos c16] at H;have br:=eq_true c16;have bu:decide (ac.size + 1≤9223372036854775807)=true:=decide_eq_true c16;(try have bv:(9223372036854775807 < ac.size + 1)=False:=eq_false (Nat.not_lt.2 c16));replace H:=bE H;obtain ⟨a7,bw,H⟩:=H
                  by_cases c18:a7.size + 1≤9223372036854775807
                  · rw [if_pos c18] at H;have bz:=eq_true c18;have bC:decide (a7.size + 1≤9223372036854775807)=true:=decide_eq_true c18;(try have bD:(9223372036854775807 < a7.size + 1)=False:=eq_false (Nat.not_lt.2 c18));replace H:=bE H;obtain ⟨aa,bF,H⟩:=H
                    by_cases c20:(a7 ++ (⟨#[46]⟩:ByteArray)).size + aa.size≤9223372036854775807
                    · rw [if_pos c20] at H;have bH:=eq_true c20;have bJ:decide ((a7 ++ (⟨#[46]⟩:ByteArray)).size + aa.size≤9223372036854775807)=true:=decide_eq_true c20;(try have bL:(9223372036854775807 < (a7 ++ (⟨#[46]⟩:ByteArray)).size + aa.size)=False:=eq_false (Nat.not_lt.2 c20));(try have bM:(9223372036854775807 < a7.size + 1 + aa.size)=False:=eq_false (by have h9:=Nat.not_lt.2 c20;simp only [ByteArray.size_append] at h9;exact h9));(try have bN:decide (a7.size + 1 + aa.size≤9223372036854775807)=true:=decide_eq_true (by have h9:=c20;simp only [ByteArray.size_append] at h9;exact h9))
                      by_cases c21:((a7 ++ (⟨#[46]⟩:ByteArray)) ++ aa).size + 1≤9223372036854775807
                      · rw [if_pos c21] at H;have bO:=eq_true c21;have bQ:decide (((a7 ++ (⟨#[46]⟩:ByteArray)) ++ aa).size + 1≤9223372036854775807)=true:=decide_eq_true c21;(try have bR:(9223372036854775807 < ((a7 ++ (⟨#[46]⟩:ByteArray)) ++ aa).size + 1)=False:=eq_false (Nat.not_lt.2 c21));(try have bS:(9223372036854775807 < a7.size + 1 + aa.size + 1)=False:=eq_false (by have h9:=Nat.not_lt.2 c21;simp only [ByteArray.size_append] at h9;exact h9));(try have bT:decide (a7.size + 1 + aa.size + 1≤9223372036854775807)=true:=decide_eq_true (by have h9:=c21;simp only [ByteArray.size_append] at h9;exact h9));replace H:=bE H;obtain ⟨aj,bU,H⟩:=H
                        by_cases c23:(((a7 ++ (⟨#[46]⟩:ByteArray)) ++ aa) ++ (⟨#[46]⟩:ByteArray)).size + aj.size≤9223372036854775807
                        · rw [if_pos c23] at H;have bV:=eq_true c23;have bW:decide ((((a7 ++ (⟨#[46]⟩:ByteArray)) ++ aa) ++ (⟨#[46]⟩:ByteArray)).size + aj.size≤9223372036854775807)=true:=decide_eq_true c23;(try have bX:(9223372036854775807 < (((a7 ++ (⟨#[46]⟩:ByteArray)) ++ aa) ++ (⟨#[46]⟩:ByteArray)).size + aj.size)=False:=eq_false (Nat.not_lt.2 c23));(try have bY:(9223372036854775807 < a7.size + 1 + aa.size + 1 + aj.size)=False:=eq_false (by have h9:=Nat.not_lt.2 c23;simp only [ByteArray.size_append] at h9;exact h9));(try have bZ:decide (a7.size + 1 + aa.size + 1 + aj.size≤9223372036854775807)=true:=decide_eq_true (by have h9:=c23;simp only [ByteArray.size_append] at h9;exact h9))
                          by_cases c24:(ac ++ (⟨#[44]⟩:ByteArray)).size + ((((a7 ++ (⟨#[46]⟩:ByteArray)) ++ aa) ++ (⟨#[46]⟩:ByteArray)) ++ aj).size≤9223372036854775807
                          · rw [if_pos c24] at H;have c8:=eq_true c24;have ca:decide ((ac ++ (⟨#[44]⟩:ByteArray)).size + ((((a7 ++ (⟨#[46]⟩:ByteArray)) ++ aa) ++ (⟨#[46]⟩:ByteArray)) ++ aj).size≤9223372036854775807)=true:=decide_eq_true c24;(try have cb:(9223372036854775807 < (ac ++ (⟨#[44]⟩:ByteArray)).size + ((((a7 ++ (⟨#[46]⟩:ByteArray)) ++ aa) ++ (⟨#[46]⟩:ByteArray)) ++ aj).size)=False:=eq_false (Nat.not_lt.2 c24));(try have cd:(9223372036854775807 < ac.size + 1 + (a7.size + 1 + aa.size + 1 + aj.size))=False:=eq_false (by have h9:=Nat.not_lt.2 c24;simp only [ByteArray.size_append] at h9;exact h9));(try have ce:decide (ac.size + 1 + (a7.size + 1 + aa.size + 1 + aj.size)≤9223372036854775807)=true:=decide_eq_true (by have h9:=c24;simp only [ByteArray.size_append] at h9;exact h9));have H':=amk H;clear H;have av:0≤(J:Int):=dA_;have ax:J < (Y.length:Int):=dA_;obtain ⟨az,aM,af,ag,ah⟩:=at_T48 aD.out J av ax;cases aM;replace af:=(HB.out.cell (World.block_lt_of_cell? w _ af)).trans af;replace ag:=(HB.out.cell (World.block_lt_of_cell? w _ ag)).trans ag;replace ah:=(HB.out.cell (World.block_lt_of_cell? w _ ah)).trans ah;replace av:=eq_true av;replace ax:=eq_true ax;(try go_wp2_with (first | ((with_reducible refine gate_dst (N:=5) rfl ?_);refine boxG_ 5 #[.int .i64 0, .int .i64 0, .int .i64 0] 48 ?_;intro a1 aQ hg a6 hb;have aW:=sZ HB hg;have aX:=sZ HB hg;replace HB:=hB2 HB hb;have al:=neL Z hg;have am:=neR Z hg;replace Z:=kb2 Z hb;clear hb hg;have cf:=am.out;have cg:=al.out;obtain ⟨ba,bb,bc,bd,be,bf⟩:=cells3 a6.out)));have n0_:Aside0 ((((aQ.setCell ⟨a1,0,none⟩ (.int .i64 ((rd_T48 Y J).f0))).setCell ⟨a1,1,none⟩ (.int .i64 ((rd_T48 Y J).f1))).setCell ⟨a1,2,none⟩ (.int .i64 ((rd_T48 Y J).f2))).heap[ar]?=some (.cells #[.int .i64 an, .int .i64 ap, .slice (some az) Y.length au] 28 (0,0))):=⟨kB Z⟩;have n1_:Aside0 ((((aQ.setCell ⟨a1,0,none⟩ (.int .i64 ((rd_T48 Y J).f0))).setCell ⟨a1,1,none⟩ (.int .i64 ((rd_T48 Y J).f1))).setCell ⟨a1,2,none⟩ (.int .i64 ((rd_T48 Y J).f2))).heap[a1]?=some (.cells #[.int .i64 ((rd_T48 Y J).f0), .int .i64 ((rd_T48 Y J).f1), .int .i64 ((rd_T48 Y J).f2)] 48 (0,0))):=⟨kP a6⟩;have n2_:Aside0 (Below w.heap.size w (((aQ.setCell ⟨a1,0,none⟩ (.int .i64 ((rd_T48 Y J).f0))).setCell ⟨a1,1,none⟩ (.int .i64 ((rd_T48 Y J).f1))).setCell ⟨a1,2,none⟩ (.int .i64 ((rd_T48 Y J).f2)))):=⟨bB⟩;generalize (((aQ.setCell ⟨a1,0,none⟩ (.int .i64 ((rd_T48 Y J).f0))).setCell ⟨a1,1,none⟩ (.int .i64 ((rd_T48 Y J).f1))).setCell ⟨a1,2,none⟩ (.int .i64 ((rd_T48 Y J).f2)))=ci at n0_ n1_ n2_ ⊢;have Z:=n0_;have a6:=n1_;have HB:=n2_;clear n0_ n1_ n2_;replace Z:=amk (blk_drew Z.out);replace a6:=amk (blk_drew a6.out);replace HB:=amk (bd_ HB.out);refine start_ (n:=16) (S:=fun w'=>w'.cell? ⟨a1,0,none⟩=some (.int .i64 ((rd_T48 Y J).f0))∧w'.cell? ⟨a1,1,none⟩=some (.int .i64 ((rd_T48 Y J).f1))∧w'.cell? ⟨a1,2,none⟩=some (.int .i64 ((rd_T48 Y J).f2))) (ds:=[]) (bA 16 0) (by kernel_rfl) rfl rfl ⟨(blk_cell a6.out 0).trans rfl,(blk_cell a6.out 1).trans rfl,(blk_cell a6.out 2).trans rfl⟩ (fun hHeld=>?_);refine with_tabW spec_pzText.tab7 spec_pzText.bits7 (fun HT_ HW_=>?_);generalize ci.drew=d6 at Z a6 HB hHeld ⊢;refine pU_ HT_ 0 (some 29) (bA 16 1) ?_;refine pU_ HT_ 1 (some 30) (bA 16 3) ?_;refine pU_ HT_ 5 (some 34) (bA 16 35) ?_;refine pU_ HT_ 10 (some 39) (bA 16 1059) ?_;refine tK_ HT_ HW_ hHeld 2 (some 31) (bA 16 1063) ?_;refine tK_ HT_ HW_ hHeld 6 (some 35) (bA 16 1127) ?_;refine tK_ HT_ HW_ hHeld 11 (some 40) (bA 16 3175) ?_;refine oN_ HT_ 3 (some 32) (bA 16 3183) (fun K hK=>?_);refine goes_ Tryz.func75 (by kernel_rfl) rfl #[.int .i64 ((rd_T48 Y J).f0)] (by rfl) rfl rfl gL_ ?_;(with_reducible refine (spec_l1Num.calls k1 ((rd_T48 Y J).f0) a7 _ bw.out).mono ?_);rintro e d7 ⟨rfl,hb⟩;refine ⟨_,rfl,?_⟩;replace Z:=kb2 Z hb;replace a6:=kb2 a6 hb;replace HB:=hB2 HB hb;(try clear hb);refine hK.out _ _ hC_ (fun hHeld=>?_);clear hK K;refine nN_ (some 32) ?_;refine pU_ HT_ 4 (some 33) (bA 16 3199) ?_;refine oN_ HT_ 7 (some 36) (bA 16 3327) (fun K hK=>?_);refine goes_ Tryz.func75 (by kernel_rfl) rfl #[.int .i64 ((rd_T48 Y J).f1)] (by rfl) rfl rfl gL_ ?_;(with_reducible refine (spec_l1Num.calls k1 ((rd_T48 Y J).f1) aa _ bF.out).mono ?_);rintro e d8 ⟨rfl,hb⟩;refine ⟨_,rfl,?_⟩;replace Z:=kb2 Z hb;replace a6:=kb2 a6 hb;replace HB:=hB2 HB hb;(try clear hb);refine hK.out _ _ hC_ (fun hHeld=>?_);clear hK K;refine nN_ (some 36) ?_;refine pU_ HT_ 8 (some 37) (bA 16 3583) ?_;refine pU_ HT_ 9 (some 38) (bA 16 4095) ?_;refine oN_ HT_ 12 (some 41) (bA 16 8191) (fun K hK=>?_);refine goes_ Tryz.func75 (by kernel_rfl) rfl #[.int .i64 ((rd_T48 Y J).f2)] (by rfl) rfl rfl gL_ ?_;(with_reducible refine (spec_l1Num.calls k1 ((rd_T48 Y J).f2) aj _ bU.out).mono ?_);rintro e d9 ⟨rfl,hb⟩;refine ⟨_,rfl,?_⟩;replace Z:=kb2 Z hb;replace a6:=kb2 a6 hb;replace HB:=hB2 HB hb;(try clear hb);refine hK.out _ _ hC_ (fun hHeld=>?_);clear hK K;refine nN_ (some 41) ?_;refine pU_ HT_ 13 (some 42) (bA 16 16383) ?_;refine pU_ HT_ 14 (some 43) (bA 16 32767) ?_;refine pU_ HT_ 15 (some 3) (bA 16 65535) ?_;refine done_ (done_of HT_.out (by kernel_rfl)) ?_;(try go_wp2);go_roundg k1
                            case measure=>have:=aN.out;omega
                            case rel=>exact ⟨((ac ++ (⟨#[44]⟩:ByteArray)) ++ ((((a7 ++ (⟨#[46]⟩:ByteArray)) ++ aa) ++ (⟨#[46]⟩:ByteArray)) ++ aj)),(wrap64 (J + 1)),rS_,rS_,H',⟨by have:=aN.out;omega⟩,⟨kB Z⟩,⟨bB⟩⟩
                          · rw [if_neg c24] at H;exact absurd H (by simp)
                        · rw [if_neg c23] at H;exact absurd H (by simp)
                      · rw [if_neg c21] at H;exact absurd H (by simp)
                    · rw [if_neg c20] at H;exact absurd H (by simp)
                  · rw [if_neg c18] at H;exact absurd H (by simp)
                · rw [if_neg c16] at H;exact absurd H (by simp)
              · rw [if_neg c15] at H;have aV:decide (0 < J)=false:=decide_eq_false c15;clear c15;replace H:=bE H;obtain ⟨a8,cj,H⟩:=H
                by_cases c34:a8.size + 1≤9223372036854775807
                · rw [if_pos c34] at H;have ck:=eq_true c34;have cm:decide (a8.size + 1≤9223372036854775807)=true:=decide_eq_true c34;(try have cn:(9223372036854775807 < a8.size + 1)=False:=eq_false (Nat.not_lt.2 c34));replace H:=bE H;obtain ⟨ab,co,H⟩:=H
                  by_cases c36:(a8 ++ (⟨#[46]⟩:ByteArray)).size + ab.size≤9223372036854775807
                  · rw [if_pos c36] at H;have cp:=eq_true c36;have cq:decide ((a8 ++ (⟨#[46]⟩:ByteArray)).size + ab.size≤9223372036854775807)=true:=decide_eq_true c36;(try have cr:(9223372036854775807 < (a8 ++ (⟨#[46]⟩:ByteArray)).size + ab.size)=False:=eq_false (Nat.not_lt.2 c36));(try have cu:(9223372036854775807 < a8.size + 1 + ab.size)=False:=eq_false (by have h9:=Nat.not_lt.2 c36;simp only [ByteArray.size_append] at h9;exact h9));(try have cv:decide (a8.size + 1 + ab.size≤9223372036854775807)=true:=decide_eq_true (by have h9:=c36;simp only [ByteArray.size_append] at h9;exact h9))
                    by_cases c37:((a8 ++ (⟨#[46]⟩:ByteArray)) ++ ab).size + 1≤9223372036854775807
                    · rw [if_pos c37] at H;have cw:=eq_true c37;have cx:decide (((a8 ++ (⟨#[46]⟩:ByteArray)) ++ ab).size + 1≤9223372036854775807)=true:=decide_eq_true c37;(try have cy:(9223372036854775807 < ((a8 ++ (⟨#[46]⟩:ByteArray)) ++ ab).size + 1)=False:=eq_false (Nat.not_lt.2 c37));(try have cz:(9223372036854775807 < a8.size + 1 + ab.size + 1)=False:=eq_false (by have h9:=Nat.not_lt.2 c37;simp only [ByteArray.size_append] at h9;exact h9));(try have cA:decide (a8.size + 1 + ab.size + 1≤9223372036854775807)=true:=decide_eq_true (by have h9:=c37;simp only [ByteArray.size_append] at h9;exact h9));replace H:=bE H;obtain ⟨ak,cC,H⟩:=H
                      by_cases c39:(((a8 ++ (⟨#[46]⟩:ByteArray)) ++ ab) ++ (⟨#[46]⟩:ByteArray)).size + ak.size≤9223372036854775807
                      · rw [if_pos c39] at H;have cE:=eq_true c39;have cF:decide ((((a8 ++ (⟨#[46]⟩:ByteArray)) ++ ab) ++ (⟨#[46]⟩:ByteArray)).size + ak.size≤9223372036854775807)=true:=decide_eq_true c39;(try have cG:(9223372036854775807 < (((a8 ++ (⟨#[46]⟩:ByteArray)) ++ ab) ++ (⟨#[46]⟩:ByteArray)).size + ak.size)=False:=eq_false (Nat.not_lt.2 c39));(try have cH:(9223372036854775807 < a8.size + 1 + ab.size + 1 + ak.size)=False:=eq_false (by have h9:=Nat.not_lt.2 c39;simp only [ByteArray.size_append] at h9;exact h9));(try have cJ:decide (a8.size + 1 + ab.size + 1 + ak.size≤9223372036854775807)=true:=decide_eq_true (by have h9:=c39;simp only [ByteArray.size_append] at h9;exact h9))
                        by_cases c40:ac.size + ((((a8 ++ (⟨#[46]⟩:ByteArray)) ++ ab) ++ (⟨#[46]⟩:ByteArray)) ++ ak).size≤9223372036854775807
                        · rw [if_pos c40] at H;have cK:=eq_true c40;have cL:decide (ac.size + ((((a8 ++ (⟨#[46]⟩:ByteArray)) ++ ab) ++ (⟨#[46]⟩:ByteArray)) ++ ak).size≤9223372036854775807)=true:=decide_eq_true c40;(try have cM:(9223372036854775807 < ac.size + ((((a8 ++ (⟨#[46]⟩:ByteArray)) ++ ab) ++ (⟨#[46]⟩:ByteArray)) ++ ak).size)=False:=eq_false (Nat.not_lt.2 c40));(try have cN:(9223372036854775807 < ac.size + (a8.size + 1 + ab.size + 1 + ak.size))=False:=eq_false (by have h9:=Nat.not_lt.2 c40;simp only [ByteArray.size_append] at h9;exact h9));(try have cO:decide (ac.size + (a8.size + 1 + ab.size + 1 + ak.size)≤9223372036854775807)=true:=decide_eq_true (by have h9:=c40;simp only [ByteArray.size_append] at h9;exact h9));have H':=amk H;clear H;have av:0≤(J:Int):=dA_;have ax:J < (Y.length:Int):=dA_;obtain ⟨az,aM,af,ag,ah⟩:=at_T48 aD.out J av ax;cases aM;replace af:=(HB.out.cell (World.block_lt_of_cell? w _ af)).trans af;replace ag:=(HB.out.cell (World.block_lt_of_cell? w _ ag)).trans ag;replace ah:=(HB.out.cell (World.block_lt_of_cell? w _ ah)).trans ah;replace av:=eq_true av;replace ax:=eq_true ax;(try go_wp2_with (first | ((with_reducible refine gate_dst (N:=5) rfl ?_);refine boxG_ 5 #[.int .i64 0, .int .i64 0, .int .i64 0] 48 ?_;intro a1 aT hg a6 hb;have aW:=sZ HB hg;have aX:=sZ HB hg;replace HB:=hB2 HB hb;have al:=neL Z hg;have am:=neR Z hg;replace Z:=kb2 Z hb;clear hb hg;have cP:=am.out;have cQ:=al.out;obtain ⟨bg,bh,bi,bj,bk,bl⟩:=cells3 a6.out)));have n0_:Aside0 ((((aT.setCell ⟨a1,0,none⟩ (.int .i64 ((rd_T48 Y J).f0))).setCell ⟨a1,1,none⟩ (.int .i64 ((rd_T48 Y J).f1))).setCell ⟨a1,2,none⟩ (.int .i64 ((rd_T48 Y J).f2))).heap[ar]?=some (.cells #[.int .i64 an, .int .i64 ap, .slice (some az) Y.length au] 28 (0,0))):=⟨kB Z⟩;have n1_:Aside0 ((((aT.setCell ⟨a1,0,none⟩ (.int .i64 ((rd_T48 Y J).f0))).setCell ⟨a1,1,none⟩ (.int .i64 ((rd_T48 Y J).f1))).setCell ⟨a1,2,none⟩ (.int .i64 ((rd_T48 Y J).f2))).heap[a1]?=some (.cells #[.int .i64 ((rd_T48 Y J).f0), .int .i64 ((rd_T48 Y J).f1), .int .i64 ((rd_T48 Y J).f2)] 48 (0,0))):=⟨kP a6⟩;have n2_:Aside0 (Below w.heap.size w (((aT.setCell ⟨a1,0,none⟩ (.int .i64 ((rd_T48 Y J).f0))).setCell ⟨a1,1,none⟩ (.int .i64 ((rd_T48 Y J).f1))).setCell ⟨a1,2,none⟩ (.int .i64 ((rd_T48 Y J).f2)))):=⟨bB⟩;generalize (((aT.setCell ⟨a1,0,none⟩ (.int .i64 ((rd_T48 Y J).f0))).setCell ⟨a1,1,none⟩ (.int .i64 ((rd_T48 Y J).f1))).setCell ⟨a1,2,none⟩ (.int .i64 ((rd_T48 Y J).f2)))=cS at n0_ n1_ n2_ ⊢;have Z:=n0_;have a6:=n1_;have HB:=n2_;clear n0_ n1_ n2_;replace Z:=amk (blk_drew Z.out);replace a6:=amk (blk_drew a6.out);replace HB:=amk (bd_ HB.out);refine start_ (n:=16) (S:=fun w'=>w'.cell? ⟨a1,0,none⟩=some (.int .i64 ((rd_T48 Y J).f0))∧w'.cell? ⟨a1,1,none⟩=some (.int .i64 ((rd_T48 Y J).f1))∧w'.cell? ⟨a1,2,none⟩=some (.int .i64 ((rd_T48 Y J).f2))) (ds:=[]) (bA 16 0) (by kernel_rfl) rfl rfl ⟨(blk_cell a6.out 0).trans rfl,(blk_cell a6.out 1).trans rfl,(blk_cell a6.out 2).trans rfl⟩ (fun hHeld=>?_);refine with_tabW spec_pzText.tab7 spec_pzText.bits7 (fun HT_ HW_=>?_);generalize cS.drew=da at Z a6 HB hHeld ⊢;refine pU_ HT_ 0 (some 29) (bA 16 1) ?_;refine pU_ HT_ 1 (some 30) (bA 16 3) ?_;refine pU_ HT_ 5 (some 34) (bA 16 35) ?_;refine pU_ HT_ 10 (some 39) (bA 16 1059) ?_;refine tK_ HT_ HW_ hHeld 2 (some 31) (bA 16 1063) ?_;refine tK_ HT_ HW_ hHeld 6 (some 35) (bA 16 1127) ?_;refine tK_ HT_ HW_ hHeld 11 (some 40) (bA 16 3175) ?_;refine oN_ HT_ 3 (some 32) (bA 16 3183) (fun K hK=>?_);refine goes_ Tryz.func75 (by kernel_rfl) rfl #[.int .i64 ((rd_T48 Y J).f0)] (by rfl) rfl rfl gL_ ?_;(with_reducible refine (spec_l1Num.calls k1 ((rd_T48 Y J).f0) a8 _ cj.out).mono ?_);rintro e db ⟨rfl,hb⟩;refine ⟨_,rfl,?_⟩;replace Z:=kb2 Z hb;replace a6:=kb2 a6 hb;replace HB:=hB2 HB hb;(try clear hb);refine hK.out _ _ hC_ (fun hHeld=>?_);clear hK K;refine nN_ (some 32) ?_;refine pU_ HT_ 4 (some 33) (bA 16 3199) ?_;refine oN_ HT_ 7 (some 36) (bA 16 3327) (fun K hK=>?_);refine goes_ Tryz.func75 (by kernel_rfl) rfl #[.int .i64 ((rd_T48 Y J).f1)] (by rfl) rfl rfl gL_ ?_;(with_reducible refine (spec_l1Num.calls k1 ((rd_T48 Y J).f1) ab _ co.out).mono ?_);rintro e dc ⟨rfl,hb⟩;refine ⟨_,rfl,?_⟩;replace Z:=kb2 Z hb;replace a6:=kb2 a6 hb;replace HB:=hB2 HB hb;(try clear hb);refine hK.out _ _ hC_ (fun hHeld=>?_);clear hK K;refine nN_ (some 36) ?_;refine pU_ HT_ 8 (some 37) (bA 16 3583) ?_;refine pU_ HT_ 9 (some 38) (bA 16 4095) ?_;refine oN_ HT_ 12 (some 41) (bA 16 8191) (fun K hK=>?_);refine goes_ Tryz.func75 (by kernel_rfl) rfl #[.int .i64 ((rd_T48 Y J).f2)] (by rfl) rfl rfl gL_ ?_;(with_reducible refine (spec_l1Num.calls k1 ((rd_T48 Y J).f2) ak _ cC.out).mono ?_);rintro e de ⟨rfl,hb⟩;refine ⟨_,rfl,?_⟩;replace Z:=kb2 Z hb;replace a6:=kb2 a6 hb;replace HB:=hB2 HB hb;(try clear hb);refine hK.out _ _ hC_ (fun hHeld=>?_);clear hK K;refine nN_ (some 41) ?_;refine pU_ HT_ 13 (some 42) (bA 16 16383) ?_;refine pU_ HT_ 14 (some 43) (bA 16 32767) ?_;refine pU_ HT_ 15 (some 3) (bA 16 65535) ?_;refine done_ (done_of HT_.out (by kernel_rfl)) ?_;(try go_wp2);go_roundg k1
                          case measure=>have:=aN.out;omega
                          case rel=>exact ⟨(ac ++ ((((a8 ++ (⟨#[46]⟩:ByteArray)) ++ ab) ++ (⟨#[46]⟩:ByteArray)) ++ ak)),(wrap64 (J + 1)),rS_,rS_,H',⟨by have:=aN.out;omega⟩,⟨kB Z⟩,⟨bB⟩⟩
                        · rw [if_neg c40] at H;exact absurd H (by simp)
                      · rw [if_neg c39] at H;exact absurd H (by simp)
                    · rw [if_neg c37] at H;exact absurd H (by simp)
                  · rw [if_neg c36] at H;exact absurd H (by simp)
                · rw [if_neg c34] at H;exact absurd H (by simp)
            · obtain rfl:=Option.some.inj H;go_wp2;go_ret;exact ⟨rF_,bB⟩
      · rw [if_neg c6] at H;exact absurd H (by simp)
    · rw [if_neg c5] at H;exact absurd H (by simp)
  · rw [if_neg c3] at H;exact absurd H (by simp)
/-! ### spec_PuzzleText: function 23 -/
def spec_PuzzleText.f (k:Nat) (J:Int) (Y:Int) (Z:List (S48)):Option (ByteArray×Bool):=(spec_pzGood.f k J Y Z).bind fun a1=>(if a1=true then ((spec_pzText.f k J Y Z).bind fun a6=>(some (a6,true))) else (some ((⟨#[]⟩:ByteArray),false)))
set_option maxHeartbeats 8000000 in
set_option maxRecDepth 100000 in
theorem spec_PuzzleText.calls (k:Nat) (Z:Int) (a1:Int) (a6:Option Addr) (a7:Nat) (Y:List (S48)) (r1:ByteArray) (r2:Bool) (w:World) (ab:Kd.C k48 w a6 Y.length Y) (ac:Y.length≤a7) (h:spec_PuzzleText.f k Z a1 Y=some (r1,r2)) :
    Calls Tryz.prog 23 #[.agg #[.int .i64 Z, .int .i64 a1, .slice a6 Y.length a7]] w fun e w'=>e = .returned (.tuple #[.string r1, .bool r2])∧Below w.heap.size w w':=by
  have aH:=Tryz.underlying28;have a8:=amk ab;have aa:=amk ac;clear ab ac;have HB:=amk (Below.refl w.heap.size w);unfold spec_PuzzleText.f at h;have H:=h;clear h;replace H:=bE H;obtain ⟨aI,A2,H⟩:=H;replace H:=iteB H;obtain ⟨rfl,H⟩ | ⟨rfl,H⟩:=H
  · replace H:=bE H;obtain ⟨ah,A4,H⟩:=H;simp only [Option.some.injEq,Prod.mk.injEq] at H;obtain ⟨rfl,rfl⟩:=H;go_enter Tryz.func23,Tryz.ntmps23;go_wp2_with (first | ((with_reducible refine gate_dst (N:=1) rfl ?_);refine boxE_ HB 1 #[.int .i64 Z, .int .i64 a1, .slice a6 Y.length a7] 28 ?_;clear HB;intro ae w5 HB J af ag hb;clear hb;obtain ⟨ap,ar,au,av,ax,ay⟩:=cells3 J.out) | ((with_reducible refine gate_callee (f:=39) rfl ?_);refine goesL_ (some 5) rfl rfl Tryz.func39 (by kernel_rfl) rfl #[.agg #[.int .i64 Z, .int .i64 a1, .slice a6 Y.length a7]] rfl gL_ ?_;(with_reducible refine (spec_pzGood.calls k Z a1 _ _ Y true _ ?_ ?_ A2.out).mono ?_);exact cB (Kd.C_below a8.out HB.out);exact aa.out;rintro e w7 ⟨rfl,hb⟩;refine ⟨_,rfl,?_⟩;replace J:=kb2 J hb;replace HB:=hB2 HB hb;(try clear hb);obtain ⟨az,aA,aC,aD,aE,aG⟩:=cells3 J.out) | ((with_reducible refine gate_callee (f:=46) rfl ?_);refine goesL_ (some 8) rfl rfl Tryz.func46 (by kernel_rfl) rfl #[.agg #[.int .i64 Z, .int .i64 a1, .slice a6 Y.length a7]] rfl gL_ ?_;(with_reducible refine (spec_pzText.calls k Z a1 _ _ Y ah _ ?_ ?_ A4.out).mono ?_);exact cB (Kd.C_below a8.out HB.out);exact aa.out;rintro e w9 ⟨rfl,hb⟩;refine ⟨_,rfl,?_⟩;replace J:=kb2 J hb;replace HB:=hB2 HB hb;(try clear hb)));go_ret2;exact ⟨rF_,bB⟩
  · simp only [Option.some.injEq,Prod.mk.injEq] at H;obtain ⟨rfl,rfl⟩:=H;go_enter Tryz.func23,Tryz.ntmps23;go_wp2_with (first | ((with_reducible refine gate_dst (N:=1) rfl ?_);refine boxE_ HB 1 #[.int .i64 Z, .int .i64 a1, .slice a6 Y.length a7] 28 ?_;clear HB;intro ae aJ HB J af ag hb;clear hb;obtain ⟨ai,aj,ak,al,am,an⟩:=cells3 J.out) | ((with_reducible refine gate_callee (f:=39) rfl ?_);refine goesL_ (some 5) rfl rfl Tryz.func39 (by kernel_rfl) rfl #[.agg #[.int .i64 Z, .int .i64 a1, .slice a6 Y.length a7]] rfl gL_ ?_;(with_reducible refine (spec_pzGood.calls k Z a1 _ _ Y false _ ?_ ?_ A2.out).mono ?_);exact cB (Kd.C_below a8.out HB.out);exact aa.out;rintro e aK ⟨rfl,hb⟩;refine ⟨_,rfl,?_⟩;replace J:=kb2 J hb;replace HB:=hB2 HB hb;(try clear hb)));go_ret2;exact ⟨rF_,bB⟩
/-! Puzzles as texts: what the two come to. -/
theorem impl_lockText.is {w d:Int} (hw:1≤w∧w≤6) (hd:2≤d∧d≤10):impl_lockText.f w d=some (lockT w d):=by
  have a:=decB_size (n:=w) (by omega) (by omega)
  have b:=decB_size (n:=d) (by omega) (by omega)
  have h1:((⟨#[120]⟩:ByteArray)).size=1:=rfl
  unfold impl_lockText.f lockT
  rw [show strconv_Itoa.f w=some (decB w) from if_pos (by omega),show strconv_Itoa.f d=some (decB d) from if_pos (by omega),Option.bind_some,Option.bind_some,if_pos (by omega),if_pos (by rw [ByteArray.size_append];omega)]
theorem impl_puzzleText.lev (w d:Int) (hw:1≤w∧w≤6) (hd:2≤d∧d≤10) (l:List S48) (hl:l.length≤6) (h : ∀ c∈l,TxtClue c) : ∀ (m i:Nat),i + m=l.length→Ev (fun k=>impl_puzzleText.l0 k ((l.take i).map clueT) l (l.length:Int) (i:Nat) w d l) (puzzleT w d l):=by
  intro m
  induction m with
  | zero =>
    intro i hi
    have hs:=lockT_size hw hd
    have h1:((⟨#[58]⟩:ByteArray)).size=1:=rfl
    have hj:=clue_joined l h ⟨#[44]⟩ rfl
    refine Ev.step (fun k=>rfl) (Ev.no (by omega) (Ev.bindc (impl_lockText.is hw hd) (Ev.yes (by omega) (Ev.bindc (a:=joinB (l.map clueT) ⟨#[44]⟩) ?_ (Ev.yes (by rw [ByteArray.size_append];omega) (Ev.id rfl))))))
    rw [List.take_of_length_le (by omega)]
    unfold strings_Join.f
    exact if_pos ⟨by rw [List.length_map];omega,by omega⟩
  | succ m ih =>
    intro i hi
    have hlt:i < l.length:=by omega
    have hx:=h l[i] (List.getElem_mem hlt)
    obtain ⟨h0,h1,h2⟩:=hx
    have a:=decB_size h0.1 h0.2
    have b:=decB_size h1.1 h1.2
    have e:=decB_size h2.1 h2.2
    have hz:((⟨#[46]⟩:ByteArray)).size=1:=rfl
    refine Ev.step (fun k=>rfl) (Ev.yes (by omega) (Ev.yes (by omega) (Ev.yes (by omega) ?_)))
    rw [rd_clueN hlt]
    refine Ev.bindc (show strconv_ItoaT.f l[i].f0=some (decB l[i].f0) from if_pos h0) (Ev.yes (by omega) ?_)
    refine Ev.bindc (show strconv_ItoaT.f l[i].f1=some (decB l[i].f1) from if_pos h1) (Ev.yes (by rw [ByteArray.size_append];omega) (Ev.yes (by rw [ByteArray.size_append,ByteArray.size_append];omega) ?_))
    refine Ev.bindc (show strconv_ItoaT.f l[i].f2=some (decB l[i].f2) from if_pos h2) (Ev.yes (by rw [ByteArray.size_append,ByteArray.size_append,ByteArray.size_append];omega) (Ev.yes (by rw [List.length_map,List.length_take];omega) ?_))
    rw [show wrap64 ((i:Int) + 1)=((i + 1:Nat):Int) from w64 (by omega) (by omega)]
    have:=ih (i + 1) (by omega)
    rw [List.take_succ_eq_append_getElem hlt,List.map_append] at this
    exact this
theorem impl_puzzleText.ev (w d:Int) (hw:1≤w∧w≤6) (hd:2≤d∧d≤10) (l:List S48) (hl:l.length≤6) (h : ∀ c∈l,TxtClue c):Ev (fun k=>impl_puzzleText.f k w d l) (puzzleT w d l):=by
  unfold impl_puzzleText.f
  exact impl_puzzleText.lev w d hw hd l hl h l.length 0 (by omega)
theorem spec_pzText.lev (l:List S48) (hl:l.length≤6) (h : ∀ c∈l,TxtClue c) (t:ByteArray) (ht:t.size≤8) : ∀ (m i:Nat),i + m=l.length→Ev (fun k=>spec_pzText.l0 k (t ++ joinB ((l.take i).map clueT) ⟨#[44]⟩) l (l.length:Int) (i:Nat)) (t ++ joinB (l.map clueT) ⟨#[44]⟩):=by
  intro m
  induction m with
  | zero =>
    intro i hi
    refine Ev.step (fun k=>rfl) (Ev.no (by omega) (Ev.id ?_))
    rw [List.take_of_length_le (by omega)]
  | succ m ih =>
    intro i hi
    have hlt:i < l.length:=by omega
    have hx:=h l[i] (List.getElem_mem hlt)
    have hz:=clue_joined (l.take i) (fun r hr=>h r (List.mem_of_mem_take hr)) ⟨#[44]⟩ rfl
    rw [List.length_take] at hz
    have hs:(t ++ joinB ((l.take i).map clueT) ⟨#[44]⟩).size≤100:=by rw [ByteArray.size_append];omega
    have hc:=clueT_size hx
    have hgo:=ih (i + 1) (by omega)
    rw [List.take_succ_eq_append_getElem hlt,List.map_append] at hgo
    have e9:wrap64 ((i:Int) + 1)=((i + 1:Nat):Int):=w64 (by omega) (by omega)
    obtain ⟨h0,h1,h2⟩:=hx
    have a:=decB_size h0.1 h0.2
    have b:=decB_size h1.1 h1.2
    have e:=decB_size h2.1 h2.2
    have hd:((⟨#[46]⟩:ByteArray)).size=1:=rfl
    have hk:((⟨#[44]⟩:ByteArray)).size=1:=rfl
    refine Ev.step (fun k=>rfl) (Ev.yes (by omega) (Ev.yes (by omega) (Ev.yes (by omega) ?_)))
    rw [rd_clueN hlt,e9]
    by_cases hi0:i=0
    · subst hi0
      refine Ev.no (by omega) (Ev.bind (spec_l1Num.ev h0.1 h0.2) (Ev.yes (by omega) ?_))
      refine Ev.bind (spec_l1Num.ev h1.1 h1.2) (Ev.yes (by rw [ByteArray.size_append];omega) (Ev.yes (by rw [ByteArray.size_append,ByteArray.size_append];omega) ?_))
      refine Ev.bind (spec_l1Num.ev h2.1 h2.2) (Ev.yes (by rw [ByteArray.size_append,ByteArray.size_append,ByteArray.size_append];omega) (Ev.yes ?_ ?_))
      · show _ + (clueT l[0]).size≤_;omega
      rw [List.take_zero,List.map_nil,List.nil_append,List.map_cons,List.map_nil,joinB_one] at hgo
      rw [List.take_zero,List.map_nil,joinB_nil,show t ++ (⟨#[]⟩:ByteArray)=t from ByteArray.append_empty]
      exact hgo
    · refine Ev.yes (by omega) (Ev.yes (by omega) (Ev.bind (spec_l1Num.ev h0.1 h0.2) (Ev.yes (by omega) ?_)))
      refine Ev.bind (spec_l1Num.ev h1.1 h1.2) (Ev.yes (by rw [ByteArray.size_append];omega) (Ev.yes (by rw [ByteArray.size_append,ByteArray.size_append];omega) ?_))
      refine Ev.bind (spec_l1Num.ev h2.1 h2.2) (Ev.yes (by rw [ByteArray.size_append,ByteArray.size_append,ByteArray.size_append];omega) (Ev.yes ?_ ?_))
      · show _ + (clueT l[i]).size≤_;rw [ByteArray.size_append];omega
      rw [List.map_cons,List.map_nil,joinB_snoc _ _ _ (by
        intro h2
        have:=congrArg List.length h2
        rw [List.length_map,List.length_take,List.length_nil] at this
        omega),←ByteArray.append_assoc,←ByteArray.append_assoc] at hgo
      exact hgo
theorem spec_pzText.ev (w d:Int) (hw:1≤w∧w≤6) (hd:2≤d∧d≤10) (l:List S48) (hl:l.length≤6) (h : ∀ c∈l,TxtClue c):Ev (fun k=>spec_pzText.f k w d l) (puzzleT w d l):=by
  unfold spec_pzText.f puzzleT
  have a:=decB_size (n:=w) (by omega) (by omega)
  have b:=decB_size (n:=d) (by omega) (by omega)
  have h1:((⟨#[120]⟩:ByteArray)).size=1:=rfl
  have h2:((⟨#[58]⟩:ByteArray)).size=1:=rfl
  refine Ev.bind (spec_l1Num.ev (n:=w) (by omega) (by omega)) (Ev.yes (by omega) (Ev.bind (spec_l1Num.ev (n:=d) (by omega) (by omega)) (Ev.yes (by rw [ByteArray.size_append];omega) (Ev.yes (by rw [ByteArray.size_append,ByteArray.size_append];omega) ?_))))
  have:=spec_pzText.lev l hl h (lockT w d ++ ⟨#[58]⟩) (by have:=lockT_size hw hd;rw [ByteArray.size_append];omega) l.length 0 (by omega)
  rw [List.take_zero,List.map_nil,joinB_nil,show lockT w d ++ ⟨#[58]⟩ ++ (⟨#[]⟩:ByteArray)=lockT w d ++ ⟨#[58]⟩ from ByteArray.append_empty] at this
  exact this
theorem spec_PuzzleText.ev (w d:Int) (l:List S48) (hn:l.length≤9223372036854775807):Ev (fun k=>spec_PuzzleText.f k w d l) (pzV w d l):=by
  unfold spec_PuzzleText.f pzV
  refine Ev.bind (spec_pzGood.ev w d l hn) ?_
  cases h1:puzzleB w d l with
  | false=>exact Ev.no (by simp) (Ev.id (by simp))
  | true =>
    obtain ⟨a1,a2,a3⟩:=puzzleB_txt h1
    obtain ⟨b1,_⟩:=smallB_iff.mp a1
    exact Ev.yes rfl (Ev.bind (spec_pzText.ev w d (by omega) (by omega) l a2 a3) (Ev.now _))
theorem impl_PuzzleText.ev (w d:Int) (l:List S48):Ev (fun k=>impl_PuzzleText.f k w d l) (pzV w d l):=by
  unfold impl_PuzzleText.f impl_IsPuzzle.f pzV
  refine Ev.bindc rfl ?_
  cases h1:puzzleB w d l with
  | false=>exact Ev.no (by simp) (Ev.id (by simp))
  | true =>
    obtain ⟨a1,a2,a3⟩:=puzzleB_txt h1
    obtain ⟨b1,_⟩:=smallB_iff.mp a1
    exact Ev.yes rfl (Ev.bind (impl_puzzleText.ev w d (by omega) (by omega) l a2 a3) (Ev.now _))
/-! Numbers read from texts. -/
theorem spec_l1Read.lev (s:ByteArray) (hs:s.size≤1048576) : ∀ (m i:Nat) (x:Int),i + m=s.size→∃ v,Ev (fun k=>spec_l1Read.l0 k s x (i:Nat)) v:=by
  intro m
  induction m with
  | zero =>
    intro i x hi
    exact ⟨x,Ev.step (fun k=>rfl) (Ev.no (by omega) (Ev.now _))⟩
  | succ m ih =>
    intro i x hi
    obtain ⟨v,hv⟩:=ih (i + 1) (wrap64 ((wrap64 (10 * x)) + (((bt s (i:Nat)) - 48) % 256))) (by omega)
    by_cases h1:bt s (i:Nat) < 48
    · exact ⟨-1,Ev.step (fun k=>rfl) (Ev.yes (by omega) (Ev.yes (by omega) (Ev.yes h1 (Ev.now _))))⟩
    · by_cases h2:bt s (i:Nat) > 57
      · exact ⟨-1,Ev.step (fun k=>rfl) (Ev.yes (by omega) (Ev.yes (by omega) (Ev.no h1 (Ev.yes h2 (Ev.now _)))))⟩
      · refine ⟨v,Ev.step (fun k=>rfl) (Ev.yes (by omega) (Ev.yes (by omega) (Ev.no h1 (Ev.no h2 ?_))))⟩
        rw [show wrap64 ((i:Int) + 1)=((i + 1:Nat):Int) from w64 (by omega) (by omega)]
        exact hv
theorem spec_l1Read.j0ev (s:ByteArray) (hs:s.size≤1048576) (b:Bool) : ∃ v,Ev (fun k=>spec_l1Read.j0 k s b) v:=by
  cases b with
  | true =>
    refine ⟨-1,Ev.step (fun k=>rfl) ?_⟩
    simp only [spec_l1Read.j0]
    first | exact Ev.yes rfl (Ev.now _) | exact Ev.yes trivial (Ev.now _) | exact Ev.now _
  | false =>
    obtain ⟨v,hv⟩:=spec_l1Read.lev s hs s.size 0 0 (by omega)
    refine ⟨v,Ev.step (fun k=>rfl) ?_⟩
    simp only [spec_l1Read.j0]
    exact Ev.no (by simp) hv
/-! Numbers read from texts. -/
theorem bl_eq {a b:ByteArray} : a.toList=b.toList ↔ a=b:=by
  constructor
  · intro h
    rw [ByteArray.toList_eq,ByteArray.toList_eq] at h
    exact ByteArray.ext (Array.toList_inj.mp h)
  · intro h;rw [h]
theorem splL_len (c:UInt8) : ∀ l:List UInt8,splL c l≠[]∧(splL c l).length≤l.length + 1∧∀ x∈splL c l,x.length≤l.length
  | []=> ⟨by unfold splL;simp,by unfold splL;simp,fun x hx=>by unfold splL at hx;rw [List.mem_singleton.mp hx];simp⟩
  | b :: t => by
    obtain ⟨h1,h2,h3⟩:=splL_len c t
    have e:splL c (b :: t)=if b=c then [] :: splL c t else (b :: (splL c t).headD []) :: (splL c t).tail:=rfl
    rw [e]
    by_cases h:b=c
    · rw [if_pos h]
      refine ⟨by simp,by simp;omega,fun x hx=>?_⟩
      rcases List.mem_cons.mp hx with rfl | hx
      · simp
      · have:=h3 x hx;simp;omega
    · rw [if_neg h]
      cases hc:splL c t with
      | nil=>exact absurd hc h1
      | cons y r =>
        rw [hc] at h2 h3
        refine ⟨by simp,by simp at h2 ⊢;omega,fun x hx=>?_⟩
        rcases List.mem_cons.mp hx with rfl | hx
        · have:=h3 y List.mem_cons_self;simp;omega
        · have:=h3 x (List.mem_cons_of_mem _ hx);simp;omega
theorem rdOf_nat {α:Type} {d:α} {xs:List α} {i:Nat} (h:i < xs.length):rdOf d xs (i:Nat)=xs[i]:=by
  rw [rdOf_at (by simpa using h)];simp
theorem spec_l1Read.ex (s:ByteArray) (hs:s.size≤1048576) : ∃ v,Ev (fun k=>spec_l1Read.f k s) v:=by
  unfold spec_l1Read.f
  by_cases h:1≤(s.size:Int)∧(s.size:Int)≤6
  · by_cases h2:bt s 0=48
    · obtain ⟨v,hv⟩:=spec_l1Read.j0ev s hs (decide ((s.size:Int) > 1))
      exact ⟨v,Ev.bindc (spec_l1In.bs _ _ _) (Ev.yes (decide_eq_true h) (Ev.yes (by omega) (Ev.yes h2 hv)))⟩
    · obtain ⟨v,hv⟩:=spec_l1Read.j0ev s hs false
      exact ⟨v,Ev.bindc (spec_l1In.bs _ _ _) (Ev.yes (decide_eq_true h) (Ev.yes (by omega) (Ev.no h2 hv)))⟩
  · obtain ⟨v,hv⟩:=spec_l1Read.j0ev s hs true
    exact ⟨v,Ev.bindc (spec_l1In.bs _ _ _) (Ev.no (by simpa using h) hv)⟩
/-! ### impl_digits: function 103 -/
def impl_digits.l0:Nat→ByteArray→List Int→Int→Int→Option (List Int)
  | 0,_,_,_,_=>none
  | k + 1,x0,x3,x7,x8=>if x8 < x7 then (if 0≤x8 then (if x8 < (x0.size:Int) then (if x3.length < 17592186044416 then (impl_digits.l0 k x0 (x3 ++ [((bt x0 x8) - 48) % 256]) x7 (wrap64 (x8 + 1))) else (none)) else (none)) else (none)) else (some x3)
def impl_digits.f (k:Nat) (a0:ByteArray):Option (List Int):=impl_digits.l0 k a0 (([]:List Int)) (a0.size:Int) 0
set_option maxHeartbeats 8000000 in
set_option maxRecDepth 100000 in
theorem impl_digits.calls (k:Nat) (a0:ByteArray) (r:List Int) (w:World) (h:impl_digits.f k a0=some r) :
    Calls Tryz.prog 103 #[.string a0] w fun e w'=> ∃ v0_:Value,e = .returned (v0_)∧Kd.R (Kd.int .i64) 3 w' w.heap.size (fun _=>True) v0_ r∧Below w.heap.size w w':=by
  have HB:=amk (Below.refl w.heap.size w);unfold impl_digits.f at h;have H:=h;clear h;(try rw [Option.bind_some] at H);generalize Z:(([]:List Int))=ac at H;have a1:=amk Z.symm;clear Z;have H':=amk H;clear H;go_enter Tryz.func103,Tryz.ntmps103;go_wp2_with (first | ((with_reducible refine gate_dst (N:=5) rfl ?_);refine Kd.R_lit (Kd.int .i64) _ 3 ?hg (N:=5) ?hd (xs:=([]:List Int)) (inner:=[]) (ok:=fun _=>True) (okp:=fun _=>True) ?hr ?hp (fun _ hk=>hk) trivial (Below.refl _ _) (Nat.le_refl _) (by simp) ?_;(case hd=>rfl);(case hg=>rfl);(case hr=>first | (go_simp;done) | (go_simp;rfl));(case hp=>exact (Reps.none _ _));intro ai w2 a6 hb hg_ hnew_;clear hg_ hnew_;(first | rw [←a1.out] at a6 | (simp only [Int.reduceToNat] at a6;rw [←a1.out] at a6));have a8:=amk (Kd.R_lower a6 (below_size bB));replace HB:=hB2 HB hb;clear hb a6))
  go_loopg [3,8] k (fun kq v3 v8 w'=> ∃ (Y:List Int) (J:Int),v8 = .int .i64 J∧Aside0 (impl_digits.l0 kq a0 Y (a0.size:Int) J=some r)∧Aside0 (kq≤k)∧Aside0 (Kd.R (Kd.int .i64) 3 w' w.heap.size (fun _=>True) v3 Y)∧Aside0 (Below w.heap.size w w'))
  case atStart=>exact ⟨(ac),(0),rS_,H',⟨Nat.le_refl _⟩,⟨oX a8⟩,⟨bB⟩⟩
  case round =>
    clear H';(try clear c1);(try clear p2);obtain ⟨Y,J,rfl,HA,ae,HO_3,HB⟩:=hrel
    cases gk with
    | zero=>exact absurd HA.out (by simp [impl_digits.l0])
    | succ k1 =>
      have H:=HA.out;clear HA;simp only [impl_digits.l0] at H;replace H:=iteE H;obtain ⟨af,H⟩ | ⟨af,H⟩:=H
      · replace H:=iteN H;obtain ⟨aj,H⟩:=H;replace H:=iteN H;obtain ⟨ak,H⟩:=H
        by_cases c8:Y.length < 17592186044416
        · rw [if_pos c8] at H;have ag:=amk c8;clear c8;(try rw [Option.bind_some] at H);generalize a7:((Y ++ [((bt a0 J) - 48) % 256]):List Int)=ah at H;have aa:=amk a7.symm;clear a7;have H':=amk H;clear H;have p7:0≤(J:Int):=dA_;have q7:J < (a0.size:Int):=dA_;have al:=bt_at a0 J;replace p7:=eq_true p7;replace q7:=eq_true q7;go_wp2_with (first | ((with_reducible refine gate_builtin (b:= .append) (xs:= #[.tmp 11, .tmp 17]) rfl ?_);at_builtin;refine Kd.R_append (Kd.int .i64) (w0:=w) w.heap.size rfl (.tmp 11) (.tmp 17) 39 3 (.int .i64 0) 8 rfl Tryz.underlying39 info3 rfl (by decide) (by omega) u3 Y (((bt a0 J) - 48) % 256) [.int .i64 (((bt a0 J) - 48) % 256)] (fun _=>True) (fun _=>False) rfl rfl rfl (fun _ hk=>hk.elim) (fun _ _=>trivial) (oX HO_3) bB (below_size bB) (by have:=ag.out;omega) ?_;intro v233 w9 ho hb hg hat;rw [←aa.out] at ho;replace HB:=amk (hb);have ab:=amk (ho);clear HO_3;clear ho hb hg hat));go_roundg k1
          case measure=>have:=ae.out;omega
          case rel=>exact ⟨(ah),(wrap64 (J + 1)),rS_,H',⟨by have:=ae.out;omega⟩,⟨oX ab⟩,⟨bB⟩⟩
        · rw [if_neg c8] at H;exact absurd H (by simp)
      · obtain rfl:=Option.some.inj H;go_wp2;go_ret;exact ⟨_,rF_,oX HO_3,bB⟩
/-! ### spec_l1Split: function 88 -/
def spec_l1Split.l0:Nat→ByteArray→Int→List ByteArray→Int→Int→Option (List ByteArray)
  | 0,_,_,_,_,_=>none
  | k + 1,x0,x1,x5,x6,x7=>if x7 < (x0.size:Int) then (if 0≤x7 then (if (bt x0 x7)=x1 then (if 0≤x6 then (if x6≤x7 then (if x7≤(x0.size:Int) then (if x5.length < 8796093022208 then (spec_l1Split.l0 k x0 x1 (x5 ++ [x0.extract (x6:Int).toNat (x7:Int).toNat]) (wrap64 (x7 + 1)) (wrap64 (x7 + 1))) else (none)) else (none)) else (none)) else (none)) else (spec_l1Split.l0 k x0 x1 x5 x6 (wrap64 (x7 + 1)))) else (none)) else (if 0≤x6 then (if x6≤(x0.size:Int) then (if x5.length < 8796093022208 then (some (x5 ++ [x0.extract (x6:Int).toNat x0.size])) else (none)) else (none)) else (none))
def spec_l1Split.f (k:Nat) (a0:ByteArray) (a1:Int):Option (List ByteArray):=spec_l1Split.l0 k a0 a1 ([]:List ByteArray) 0 0
set_option maxHeartbeats 8000000 in
set_option maxRecDepth 100000 in
theorem spec_l1Split.calls (k:Nat) (a0:ByteArray) (a1:Int) (r:List ByteArray) (w:World) (h:spec_l1Split.f k a0 a1=some r) :
    Calls Tryz.prog 88 #[.string a0, .int .u8 a1] w fun e w'=> ∃ v0_:Value,e = .returned (v0_)∧Kd.R Kd.string 9 w' w.heap.size (fun _=>True) v0_ r∧Below w.heap.size w w':=by
  have HB:=amk (Below.refl w.heap.size w);unfold spec_l1Split.f at h;have H:=h;clear h;have H':=amk H;clear H;go_enter Tryz.func88,Tryz.ntmps88;go_wp2
  go_loopg [5,6,7] k (fun kq v5 v6 v7 w'=> ∃ (Z:List ByteArray) (Y:Int) (J:Int),v6 = .int .i64 Y∧v7 = .int .i64 J∧Aside0 (spec_l1Split.l0 kq a0 a1 Z Y J=some r)∧Aside0 (kq≤k)∧Aside0 (Kd.R Kd.string 9 w' w.heap.size (fun _=>True) v5 Z)∧Aside0 (Below w.heap.size w w'))
  case atStart=>exact ⟨(([]:List ByteArray)),(0),(0),rS_,rS_,H',⟨Nat.le_refl _⟩,⟨xN_⟩,⟨bB⟩⟩
  case round =>
    clear H';(try clear p2);obtain ⟨Z,Y,J,rfl,rfl,HA,a8,HO_5,HB⟩:=hrel
    cases gk with
    | zero=>exact absurd HA.out (by simp [spec_l1Split.l0])
    | succ k1 =>
      have H:=HA.out;clear HA;simp only [spec_l1Split.l0] at H;replace H:=iteE H;obtain ⟨ah,H⟩ | ⟨ah,H⟩:=H
      · replace H:=iteN H;obtain ⟨au,H⟩:=H
        by_cases c6:(bt a0 J)=a1
        · rw [if_pos c6] at H;have ai:((bt a0 J) == a1)=true:=beq_iff_eq.mpr c6;have aj:((bt a0 J) != a1)=false:=bne_eq_false_iff_eq.mpr c6;clear c6
          by_cases c7:0≤Y
          · rw [if_pos c7] at H;have av:=eq_true c7;have ax:decide (0≤Y)=true:=decide_eq_true c7;clear c7
            by_cases c8:Y≤J
            · rw [if_pos c8] at H;have ay:=eq_true c8;have az:decide (Y≤J)=true:=decide_eq_true c8;clear c8
              by_cases c9:J≤(a0.size:Int)
              · rw [if_pos c9] at H;have aA:=eq_true c9;have aC:decide (J≤(a0.size:Int))=true:=decide_eq_true c9;clear c9
                by_cases c10:Z.length < 8796093022208
                · rw [if_pos c10] at H;have aa:=amk c10;clear c10;(try rw [Option.bind_some] at H);generalize a6:((Z ++ [a0.extract (Y:Int).toNat (J:Int).toNat]):List ByteArray)=ak at H;have ab:=amk a6.symm;clear a6;have H':=amk H;clear H;have p5:0≤(J:Int):=dA_;have q5:J < (a0.size:Int):=dA_;have al:=bt_at a0 J;replace p5:=eq_true p5;replace q5:=eq_true q5;go_wp2_with (first | ((with_reducible refine gate_builtin (b:= .append) (xs:= #[.tmp 19, .tmp 24]) rfl ?_);at_builtin;refine Kd.R_append Kd.string (w0:=w) w.heap.size rfl (.tmp 19) (.tmp 24) 30 9 (.string ⟨#[]⟩) 16 rfl Tryz.underlying30 info9 rfl (by decide) (by omega) u5 Z (a0.extract (Y:Int).toNat (J:Int).toNat) [.string (a0.extract (Y:Int).toNat (J:Int).toNat)] (fun _=>True) (fun _=>False) rfl rfl rfl (fun _ hk=>hk.elim) (fun _ _=>trivial) (oX HO_5) bB (below_size bB) (by have:=aa.out;omega) ?_;intro aD aH ho hb hg hat;rw [←ab.out] at ho;replace HB:=amk (hb);have ac:=amk (ho);clear HO_5;clear ho hb hg hat));go_roundg k1
                  case measure=>have:=a8.out;omega
                  case rel=>exact ⟨(ak),(wrap64 (J + 1)),(wrap64 (J + 1)),rS_,rS_,H',⟨by have:=a8.out;omega⟩,⟨oX ac⟩,⟨bB⟩⟩
                · rw [if_neg c10] at H;exact absurd H (by simp)
              · rw [if_neg c9] at H;exact absurd H (by simp)
            · rw [if_neg c8] at H;exact absurd H (by simp)
          · rw [if_neg c7] at H;exact absurd H (by simp)
        · rw [if_neg c6] at H;have ai:((bt a0 J) == a1)=false:=beq_eq_false_iff_ne.mpr c6;have aj:((bt a0 J) != a1)=true:=bne_iff_ne.mpr c6;have H':=amk H;clear H;have p5:0≤(J:Int):=dA_;have q5:J < (a0.size:Int):=dA_;have al:=bt_at a0 J;replace p5:=eq_true p5;replace q5:=eq_true q5;go_wp2;go_roundg k1
          case measure=>have:=a8.out;omega
          case rel=>exact ⟨(Z),(Y),(wrap64 (J + 1)),rS_,rS_,H',⟨by have:=a8.out;omega⟩,⟨oX HO_5⟩,⟨bB⟩⟩
      · by_cases c12:0≤Y
        · rw [if_pos c12] at H;have am:=eq_true c12;have an:decide (0≤Y)=true:=decide_eq_true c12;clear c12
          by_cases c13:Y≤(a0.size:Int)
          · rw [if_pos c13] at H;have ap:=eq_true c13;have ar:decide (Y≤(a0.size:Int))=true:=decide_eq_true c13;clear c13
            by_cases c14:Z.length < 8796093022208
            · rw [if_pos c14] at H;have ae:=amk c14;clear c14;(try rw [Option.bind_some] at H);generalize a7:((Z ++ [a0.extract (Y:Int).toNat a0.size]):List ByteArray)=aE at H;have af:=amk a7.symm;clear a7;obtain rfl:=Option.some.inj H;go_wp2_with (first | ((with_reducible refine gate_builtin (b:= .append) (xs:= #[.tmp 28, .tmp 32]) rfl ?_);at_builtin;refine Kd.R_append Kd.string (w0:=w) w.heap.size rfl (.tmp 28) (.tmp 32) 30 9 (.string ⟨#[]⟩) 16 rfl Tryz.underlying30 info9 rfl (by decide) (by omega) u5 Z (a0.extract (Y:Int).toNat a0.size) [.string (a0.extract (Y:Int).toNat a0.size)] (fun _=>True) (fun _=>False) rfl rfl rfl (fun _ hk=>hk.elim) (fun _ _=>trivial) (oX HO_5) bB (below_size bB) (by have:=ae.out;omega) ?_;intro aG aI ho hb hg hat;rw [←af.out] at ho;replace HB:=amk (hb);have ag:=amk (ho);clear HO_5;clear ho hb hg hat));go_ret;exact ⟨_,rF_,oX ag,bB⟩
            · rw [if_neg c14] at H;exact absurd H (by simp)
          · rw [if_neg c13] at H;exact absurd H (by simp)
        · rw [if_neg c12] at H;exact absurd H (by simp)
/-! ### spec_whDigits: function 124 -/
def spec_whDigits.l0:Nat→ByteArray→List Int→Int→Option (List Int)
  | 0,_,_,_=>none
  | k + 1,x0,x3,x4=>if x4 < (x0.size:Int) then (if 0≤x4 then (if x3.length < 17592186044416 then (spec_whDigits.l0 k x0 (x3 ++ [((bt x0 x4) - 48) % 256]) (wrap64 (x4 + 1))) else (none)) else (none)) else (some x3)
def spec_whDigits.f (k:Nat) (a0:ByteArray):Option (List Int):=spec_whDigits.l0 k a0 ([]:List Int) 0
set_option maxHeartbeats 8000000 in
set_option maxRecDepth 100000 in
theorem spec_whDigits.calls (k:Nat) (a0:ByteArray) (r:List Int) (w:World) (h:spec_whDigits.f k a0=some r) :
    Calls Tryz.prog 124 #[.string a0] w fun e w'=> ∃ v0_:Value,e = .returned (v0_)∧Kd.R (Kd.int .i64) 3 w' w.heap.size (fun _=>True) v0_ r∧Below w.heap.size w w':=by
  have HB:=amk (Below.refl w.heap.size w);unfold spec_whDigits.f at h;have H:=h;clear h;have H':=amk H;clear H;go_enter Tryz.func124,Tryz.ntmps124;go_wp2
  go_loopg [3,4] k (fun kq v3 v4 w'=> ∃ (Y:List Int) (J:Int),v4 = .int .i64 J∧Aside0 (spec_whDigits.l0 kq a0 Y J=some r)∧Aside0 (kq≤k)∧Aside0 (Kd.R (Kd.int .i64) 3 w' w.heap.size (fun _=>True) v3 Y)∧Aside0 (Below w.heap.size w w'))
  case atStart=>exact ⟨(([]:List Int)),(0),rS_,H',⟨Nat.le_refl _⟩,⟨xN_⟩,⟨bB⟩⟩
  case round =>
    clear H';(try clear c1);obtain ⟨Y,J,rfl,HA,a7,HO_3,HB⟩:=hrel
    cases gk with
    | zero=>exact absurd HA.out (by simp [spec_whDigits.l0])
    | succ k1 =>
      have H:=HA.out;clear HA;simp only [spec_whDigits.l0] at H;replace H:=iteE H;obtain ⟨a8,H⟩ | ⟨a8,H⟩:=H
      · replace H:=iteN H;obtain ⟨ac,H⟩:=H
        by_cases c5:Y.length < 17592186044416
        · rw [if_pos c5] at H;have aa:=amk c5;clear c5;(try rw [Option.bind_some] at H);generalize Z:((Y ++ [((bt a0 J) - 48) % 256]):List Int)=ab at H;have a1:=amk Z.symm;clear Z;have H':=amk H;clear H;have p4:0≤(J:Int):=dA_;have q4:J < (a0.size:Int):=dA_;have af:=bt_at a0 J;replace p4:=eq_true p4;replace q4:=eq_true q4;go_wp2_with (first | ((with_reducible refine gate_builtin (b:= .append) (xs:= #[.tmp 11, .tmp 17]) rfl ?_);at_builtin;refine Kd.R_append (Kd.int .i64) (w0:=w) w.heap.size rfl (.tmp 11) (.tmp 17) 39 3 (.int .i64 0) 8 rfl Tryz.underlying39 info3 rfl (by decide) (by omega) u3 Y (((bt a0 J) - 48) % 256) [.int .i64 (((bt a0 J) - 48) % 256)] (fun _=>True) (fun _=>False) rfl rfl rfl (fun _ hk=>hk.elim) (fun _ _=>trivial) (oX HO_3) bB (below_size bB) (by have:=aa.out;omega) ?_;intro ae w6 ho hb hg hat;rw [←a1.out] at ho;replace HB:=amk (hb);have a6:=amk (ho);clear HO_3;clear ho hb hg hat));go_roundg k1
          case measure=>have:=a7.out;omega
          case rel=>exact ⟨(ab),(wrap64 (J + 1)),rS_,H',⟨by have:=a7.out;omega⟩,⟨oX a6⟩,⟨bB⟩⟩
        · rw [if_neg c5] at H;exact absurd H (by simp)
      · obtain rfl:=Option.some.inj H;go_wp2;go_ret;exact ⟨_,rF_,oX HO_3,bB⟩
/-! strings.Cut: the kit's contract. -/
def byL (l:List UInt8):ByteArray:=⟨l.toArray⟩
def strings_Cut.f (s sep:ByteArray):Option (ByteArray×ByteArray×Bool):=
  if s.size < 4294967281 then some (byL (Lib.cut s.data.toList sep.data.toList).1,byL (Lib.cut s.data.toList sep.data.toList).2.1,(Lib.cut s.data.toList sep.data.toList).2.2) else none
theorem below_drewN1 (w:World) (k:Nat):Below w.heap.size w (w.drewN k):=⟨rfl,rfl,rfl,Nat.le_refl _,fun _ _=>rfl⟩
theorem strings_Cut.calls (a0 a1:ByteArray) (r1 r2:ByteArray) (r3:Bool) (w:World) (htp:EnvP w) (h:strings_Cut.f a0 a1=some (r1,r2,r3)) :
    Calls Tryz.prog 55 #[.string a0, .string a1] w fun e w'=>e = .returned (.tuple #[.string r1, .string r2, .bool r3])∧Below w.heap.size w w':=by
  unfold strings_Cut.f at h
  by_cases p:a0.size < 4294967281
  · rw [if_pos p] at h
    have h2:=Option.some.inj h
    obtain ⟨_,⟨m,hm⟩,_⟩:=htp
    refine Calls.mono (Tryz.strings_Cut a0 a1 m w p hm) (fun e w' hh=>⟨?_,?_⟩)
    · rw [hh.1,←show (Lib.cut a0.data.toList a1.data.toList).2.2=r3 from congrArg (·.2.2) h2,←show byL (Lib.cut a0.data.toList a1.data.toList).2.1=r2 from congrArg (·.2.1) h2,←show byL (Lib.cut a0.data.toList a1.data.toList).1=r1 from congrArg (·.1) h2];rfl
    · obtain ⟨n,e⟩:=hh.2
      rw [e];exact below_drewN1 w n
  · rw [if_neg p] at h;cases h
/-! spec's split at a byte; digits of any text: what they come to. -/
theorem bytes_eq {a:ByteArray} {l:List UInt8} (h:a.data.toList=l):a=byL l:=by
  apply ByteArray.ext
  apply Array.ext'
  unfold byL
  rw [h]
theorem bytesOf_data (l:List UInt8):(byL l).data.toList=l:=by unfold byL;simp
theorem bytesOf_size (l:List UInt8):(byL l).size=l.length:=by rw [Lib.size_eq,bytesOf_data]
theorem bt_list {s:ByteArray} {i:Nat} (h:i < s.data.toList.length):bt s (i:Nat)=((s.data.toList[i]'h).toNat:Int):=by
  have h2:i < s.size:=by rw [Lib.size_eq];exact h
  rw [←bt_at s (i:Nat) (by simpa using h2)]
  rfl
theorem spec_l1Split.lev (c:UInt8) (s:ByteArray) (hs:s.size≤1048576) : ∀ (m from_ i:Nat) (acc:List ByteArray),i + m=s.size→from_≤i→(∀ b∈(s.data.toList.drop from_).take (i - from_),b≠c)→acc.length≤from_→Ev (fun k=>spec_l1Split.l0 k s (c.toNat:Int) acc (from_:Nat) (i:Nat)) (acc ++ (splL c (s.data.toList.drop from_)).map byL):=by
  have hz:=Lib.size_eq s
  intro m
  induction m with
  | zero =>
    intro from_ i acc hi hf hb ha
    rw [List.take_of_length_le (by rw [List.length_drop];omega)] at hb
    refine Ev.step (fun k=>rfl) (Ev.no (by omega) (Ev.yes (by omega) (Ev.yes (by omega) (Ev.yes (by omega) (Ev.id ?_)))))
    rw [splL_no hb,Int.toNat_natCast,bytes_eq (Lib.extract_to_end s from_)];rfl
  | succ m ih =>
    intro from_ i acc hi hf hb ha
    have hlt:i < s.data.toList.length:=by omega
    have e:wrap64 ((i:Int) + 1)=((i + 1:Nat):Int):=w64 (by omega) (by omega)
    have hd:(s.data.toList.drop from_)=(s.data.toList.drop from_).take (i - from_) ++ s.data.toList[i] :: s.data.toList.drop (i + 1):=by
      rw [←List.drop_eq_getElem_cons hlt]
      have h1:s.data.toList.drop i=(s.data.toList.drop from_).drop (i - from_):=by rw [List.drop_drop];congr 1;omega
      rw [h1,List.take_append_drop]
    refine Ev.step (fun k=>rfl) (Ev.yes (by omega) (Ev.yes (by omega) ?_))
    rw [bt_list hlt,e]
    by_cases h:s.data.toList[i]=c
    · refine Ev.yes (by rw [h]) (Ev.yes (by omega) (Ev.yes (by omega) (Ev.yes (by omega) (Ev.yes (by omega) ?_))))
      have hgo:=ih (i + 1) (i + 1) (acc ++ [s.extract from_ i]) (by omega) (by omega) (by rw [Nat.sub_self,List.take_zero];intro b hb;cases hb) (by rw [List.length_append,List.length_singleton];omega)
      rw [Int.toNat_natCast,Int.toNat_natCast]
      refine Ev.eq hgo ?_
      rw [hd,h,splL_app hb,List.map_cons,bytes_eq (Lib.extract_data s from_ i),List.append_assoc];rfl
    · refine Ev.no (fun h2=>h (UInt8.toNat_inj.mp (by omega))) ?_
      refine ih from_ (i + 1) acc (by omega) (by omega) ?_ ha
      intro b J
      rw [show i + 1 - from_=(i - from_) + 1 by omega,List.take_succ_eq_append_getElem (by rw [List.length_drop];omega)] at J
      rcases List.mem_append.mp J with h3 | h3
      · exact hb b h3
      · rw [List.mem_singleton.mp h3,List.getElem_drop]
        have e2:from_ + (i - from_)=i:=by omega
        simp only [e2]
        exact h
theorem spec_l1Split.ev (c:UInt8) (s:ByteArray) (hs:s.size≤1048576):Ev (fun k=>spec_l1Split.f k s (c.toNat:Int)) ((splL c s.data.toList).map byL):=by
  unfold spec_l1Split.f
  have:=spec_l1Split.lev c s hs s.size 0 0 [] (by omega) (by omega) (by rw [Nat.sub_self,List.take_zero];intro b hb;cases hb) (by simp)
  rw [List.nil_append,List.drop_zero] at this
  exact this
end Go.Proofs.YtfginhjgeholcaaGreatDoor.P